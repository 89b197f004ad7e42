/- Labels: the reader of keys, walked. Conditions: sizes. -/
import Derived.Test.YtlmnniajindlgaaLab7
import Derived.Lib.IndexBytes
namespace Go.Proofs.Ytlmnniajindlgaa.HLab
set_option linter.unusedVariables false
open Go.RowKit Go.Proofs.Ytlmnniajindlgaa.HMem

/-- The reader in block r: what is left, and whether it went wrong. -/
def RdAt (w : World) (r : Nat) (rest : ByteArray) (bad : Bool) : Prop := w.heap[r]? = some (.cells #[.string rest, .bool bad] 56 (0, 0))
theorem RdAt.cells {w : World} {r : Nat} {rest : ByteArray} {bad : Bool} (h : RdAt w r rest bad) : w.cell? ⟨r, 0, none⟩ = some (.string rest) ∧ w.cell? ⟨r, 1, none⟩ = some (.bool bad) ∧ w.frozen? ⟨r, 0, none⟩ = false ∧ w.frozen? ⟨r, 1, none⟩ = false := by
  unfold RdAt at h
  simp [World.cell?, World.frozen?, h]
theorem RdAt.rest {w : World} {r : Nat} {rest : ByteArray} {bad : Bool} (h : RdAt w r rest bad) (s : ByteArray) : RdAt (w.setCell ⟨r, 0, none⟩ (.string s)) r s bad := set_at h 0 _
theorem RdAt.bad {w : World} {r : Nat} {rest : ByteArray} {bad : Bool} (h : RdAt w r rest bad) (b : Bool) : RdAt (w.setCell ⟨r, 1, none⟩ (.bool b)) r rest b := set_at h 1 _
theorem list_size (s : ByteArray) : s.data.toList.length = s.size := by rw [Array.length_toList]; rfl
set_option maxHeartbeats 1000000 in
theorem number_any (w : World) (r : Nat) (rest : ByteArray) (bad : Bool) (h : RdAt w r rest bad) :
    Calls Try.prog 30 #[.pointer (some ⟨r, 0, none⟩)] w fun e w' => ∃ (m : Nat) (rest' : ByteArray) (bad' : Bool), e = .returned (.int .i64 m) ∧ RdAt w' r rest' bad' ∧ Chg (· = r) w w' ∧ m < 256 ∧
      ((rest.data.toList = [] ∧ m = 0 ∧ rest' = rest ∧ bad' = true) ∨ ∃ c, rest.data.toList = c :: rest'.data.toList ∧ m = c.toNat ∧ bad' = bad) := by
  obtain ⟨c0, c1, f0, f1⟩ := h.cells
  have H := Lib.hid h
  clear h
  by_cases hz : rest.size = 0
  · have t1 : rest.toList.isEmpty = true := by rw [empty_iff]; exact decide_eq_true hz
    have HZ := Lib.hid (show rest.data.toList = [] from List.length_eq_zero_iff.1 (by rw [list_size]; exact hz))
    clear hz
    go_enter Try.func30, Try.ntmps30
    go_wp2
    go_ret
    exact ⟨0, rest, true, rfl, H.out.bad true, Chg.set w r 1 _, by omega, .inl ⟨HZ.out, rfl, rfl, rfl⟩⟩
  · have t1 : rest.toList.isEmpty = false := by rw [empty_iff]; exact decide_eq_false hz
    have hp : 0 < rest.size := by omega
    have hp1 : (1 : Int) ≤ rest.size := by omega
    have h256 := (rest[0]'hp).toNat_lt
    have e1 : wrap64 (((rest[0]'hp).toNat : Nat) : Int) = (((rest[0]'hp).toNat : Nat) : Int) := by unfold wrap64; omega
    have hb := byte_at rest 0 hp
    have hex := Lib.extract_to_end rest 1
    have HL := Lib.hid (show rest.data.toList = rest[0]'hp :: (rest.extract 1 rest.size).data.toList by
      rw [hex]
      cases hl : rest.data.toList with
      | nil => rw [hl] at hb; cases hb
      | cons c t => rw [hl] at hb; simp at hb; rw [hb]; rfl)
    obtain ⟨c, hc⟩ : ∃ c, c = rest[0]'hp := ⟨_, rfl⟩
    have ec : (((rest[0]'hp).toNat : Nat) : Int) = (c.toNat : Int) := by rw [hc]
    rw [← hc] at HL h256
    have H256 := Lib.hid h256
    have ew : wrap64 (c.toNat : Int) = (c.toNat : Int) := by unfold wrap64; omega
    clear hb hex hc e1 hz h256
    go_enter Try.func30, Try.ntmps30
    go_wp2
    go_ret
    exact ⟨c.toNat, _, bad, by first | rfl | simp [ew], H.out.rest _, Chg.set w r 0 _, H256.out, .inr ⟨c, HL.out, rfl, rfl⟩⟩
set_option maxHeartbeats 1000000 in
set_option maxRecDepth 20000 in
theorem text_any (w : World) (r : Nat) (rest : ByteArray) (bad : Bool) (h : RdAt w r rest bad) (hs : rest.size ≤ 140737488355328) :
    Calls Try.prog 29 #[.pointer (some ⟨r, 0, none⟩)] w fun e w' => ∃ (s rest' : ByteArray) (bad' : Bool), e = .returned (.string s) ∧ RdAt w' r rest' bad' ∧ Chg (· = r) w w' ∧ s.size ≤ rest.size ∧ rest'.size ≤ rest.size ∧
      ((takeT rest.data.toList = none ∧ bad' = true) ∨ (takeT rest.data.toList = some (s, rest'.data.toList) ∧ bad' = bad)) := by
  have KN := Lib.hid (number_any w r rest bad h)
  clear h
  go_enter Try.func29, Try.ntmps29
  go_wp2_with fail
  refine KN.out.mono ?_
  rintro e w1 ⟨m, rest1, bad1, rfl, h1, g1, hm, hcase⟩
  obtain ⟨c0, c1, f0, f1⟩ := h1.cells
  have H1 := Lib.hid h1
  have G1 := Lib.hid g1
  have HM := Lib.hid hm
  have hsz1 : rest1.size ≤ rest.size := by
    rcases hcase with ⟨_, _, rfl, _⟩ | ⟨c, hc, _, _⟩
    · exact Nat.le_refl _
    · have := congrArg List.length hc
      rw [List.length_cons, list_size, list_size] at this
      omega
  have HC := Lib.hid hcase
  clear h1 g1 hm hcase KN
  by_cases hgt : rest1.size < m
  · have t1 : (rest1.size : Int) < (m : Int) := by omega
    have HT := Lib.hid (show takeT rest.data.toList = none by
      rcases HC.out with ⟨_, h0, _, _⟩ | ⟨c, hc, h0, _⟩
      · omega
      · rw [hc]
        change (if rest1.data.toList.length < c.toNat then none else _) = none
        rw [if_pos (by rw [list_size]; omega)])
    clear hgt
    go_wp2_with fail
    go_ret
    refine ⟨_, rest1, true, rfl, (H1.out.bad true).rest _, (G1.out.trans (Chg.set w1 r 1 _)).trans (Chg.set _ r 0 _), (by show (0 : Nat) ≤ _; omega), hsz1, .inl ⟨HT.out, rfl⟩⟩
  · have t1 : decide ((rest1.size : Int) < (m : Int)) = false := by simp; omega
    have hle : (m : Int) ≤ (rest1.size : Int) := by omega
    have hle0 : (0 : Int) ≤ (m : Int) := by omega
    have hs1 : (rest1.extract 0 m).data.toList = rest1.data.toList.take m := by rw [Lib.extract_data]; simp
    have hs2 : (rest1.extract m rest1.size).data.toList = rest1.data.toList.drop m := Lib.extract_to_end rest1 m
    have HS1 := Lib.hid hs1
    have HS2 := Lib.hid hs2
    have HZ := Lib.hid (show (rest1.extract 0 m).size ≤ rest.size ∧ (rest1.extract m rest1.size).size ≤ rest.size by
      rw [← list_size, ← list_size (rest1.extract m rest1.size), hs1, hs2, List.length_take, List.length_drop, list_size]; omega)
    have HT := Lib.hid (show (takeT rest.data.toList = none ∧ bad1 = true) ∨ (takeT rest.data.toList = some (rest1.extract 0 m, (rest1.extract m rest1.size).data.toList) ∧ bad1 = bad) by
      rcases HC.out with ⟨h1, h0, _, hb⟩ | ⟨c, hc, h0, hb⟩
      · exact .inl ⟨by rw [h1]; rfl, hb⟩
      · refine .inr ⟨?_, hb⟩
        rw [hc]
        change (if rest1.data.toList.length < c.toNat then none else some ((⟨⟨rest1.data.toList.take c.toNat⟩⟩ : ByteArray), rest1.data.toList.drop c.toNat)) = _
        rw [if_neg (by rw [list_size]; omega), hs2, ← h0]
        congr 2
        exact bytes_ext hs1.symm)
    clear hgt hs1 hs2
    go_wp2_with fail
    go_ret
    exact ⟨_, _, bad1, rfl, H1.out.rest _, G1.out.trans (Chg.set w1 r 0 _), HZ.out.1, HZ.out.2, HT.out⟩
end Go.Proofs.Ytlmnniajindlgaa.HLab
