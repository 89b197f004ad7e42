/- Histograms: Get, whole. -/
import Derived.Test.YtgafnilcmhjpcaaHist9
namespace Go.Proofs.Ytgafnilcmhjpcaa.HHist
set_option linter.unusedVariables false
open Go.RowKit Go.Proofs.Ytgafnilcmhjpcaa.HMem Go.Proofs.Ytgafnilcmhjpcaa.HBucket
open Go.Proofs.Ytgafnilcmhjpcaa.Print (I64)

/-- What Get answers. -/
def GetAns (w : World) (s : ByteArray) (e : Ending) (w' : World) : Prop :=
  (decL s.data.toList = none ∧ e = .returned (.tuple #[.pointer none, .string ⟨#[]⟩, .int .i64 2]) ∧ Below w.heap.size w w') ∨
  ∃ (b : Nat) (l : IL) (r : ByteArray) (p : Nat) (G : List Nat), decL s.data.toList = some (b, l, r.data.toList) ∧ e = .returned (.tuple #[.pointer (some ⟨p, 0, none⟩), .string r, .int .i64 0]) ∧ HistAt w' p G b l ∧ HOk b l ∧ (∀ g ∈ G, w.heap.size ≤ g) ∧ Below w.heap.size w w'
theorem first_num (s : ByteArray) (h : 0 < s.size) : num (s.data.toList.take 1) = (s[0]'h).toNat := by
  rw [take_byte s 0 h]; simp [num]
set_option maxHeartbeats 1000000 in
set_option maxRecDepth 20000 in
theorem Get_short (s : ByteArray) (w : World) (h : s.size < 3) :
    Calls Try.prog 68 #[.string s] w fun e w' => e = .returned (.tuple #[.pointer none, .string ⟨#[]⟩, .int .i64 2]) ∧ Below w.heap.size w w' := by
  have t0 : decide ((s.size : Int) < 3) = true := by simp; omega
  go_enter Try.func68, Try.ntmps68
  go_wp2_with fail
  go_step3
  go_wp2
  try rw [Exit.noGoto_ret]
  go_ret3
  exact ⟨rfl, Below.refl _ _⟩
set_option maxHeartbeats 1000000 in
set_option maxRecDepth 20000 in
theorem Get_bits (s : ByteArray) (w : World) (h : 3 ≤ s.size) (hb : 4 < num (s.data.toList.take 1)) :
    Calls Try.prog 68 #[.string s] w fun e w' => e = .returned (.tuple #[.pointer none, .string ⟨#[]⟩, .int .i64 2]) ∧ Below w.heap.size w w' := by
  have t0 : decide ((s.size : Int) < 3) = false := by simp; omega
  have h3' : (3 : Int) ≤ s.size := by omega
  obtain ⟨b, hb0⟩ : ∃ b, b = num (s.data.toList.take 1) := ⟨_, rfl⟩
  rw [← hb0] at hb
  have e0 : wrap64 (((s[0]'(by omega)).toNat : Nat) : Int) = (b : Int) := by
    rw [hb0, first_num s (by omega)]; unfold wrap64; have := (s[0]'(by omega)).toNat_lt; omega
  clear hb0
  go_enter Try.func68, Try.ntmps68
  go_wp2_with fail
  go_step3
  go_wp2_with fail
  rw [e0]
  refine (New_no (b : Int) w (.inr (by omega))).mono ?_
  rintro e w1 ⟨rfl, rfl⟩
  go_wp2_with fail
  refine (get_any (s.extract 1 3) w (by rw [ext_size _ _ _ (by omega) (by omega)]; omega)).mono ?_
  rintro e w2 ⟨rfl, rfl⟩
  obtain ⟨q, hq⟩ : ∃ q, q = num (s.extract 1 3).data.toList := ⟨_, rfl⟩
  rw [← hq]
  clear hq e0
  go_wp2
  try rw [Exit.noGoto_ret]
  go_ret3
  exact ⟨rfl, Below.refl _ _⟩
set_option maxHeartbeats 1000000 in
set_option maxRecDepth 20000 in
theorem Get_lack (s : ByteArray) (w : World) (hs : s.size ≤ 140737488355328) (h : 3 ≤ s.size) (hb : num (s.data.toList.take 1) ≤ 4) (hl : s.size < 3 + 10 * num ((s.data.toList.drop 1).take 2)) :
    Calls Try.prog 68 #[.string s] w fun e w' => e = .returned (.tuple #[.pointer none, .string ⟨#[]⟩, .int .i64 2]) ∧ Below w.heap.size w w' := by
  have t0 : decide ((s.size : Int) < 3) = false := by simp; omega
  have h3' : (3 : Int) ≤ s.size := by omega
  obtain ⟨b, hb0⟩ : ∃ b, b = num (s.data.toList.take 1) := ⟨_, rfl⟩
  rw [← hb0] at hb
  have e0 : wrap64 (((s[0]'(by omega)).toNat : Nat) : Int) = (b : Int) := by
    rw [hb0, first_num s (by omega)]; unfold wrap64; have := (s[0]'(by omega)).toNat_lt; omega
  have e1 : (s.extract 1 3).data.toList = (s.data.toList.drop 1).take 2 := by rw [Lib.extract_data]
  obtain ⟨q, hq⟩ : ∃ q, q = num ((s.data.toList.drop 1).take 2) := ⟨_, rfl⟩
  have hq2 := num_two (s.data.toList.drop 1) 2
  rw [← hq] at hl hq2
  clear hb0
  go_enter Try.func68, Try.ntmps68
  go_wp2_with fail
  go_step3
  go_wp2_with fail
  rw [e0]
  refine (New_yes b w hb).mono ?_
  rintro e w1 ⟨rfl, _, b1⟩
  have B1 := Lib.hid b1
  clear b1
  go_wp2_with fail
  have KG := get_any (s.extract 1 3) w1 (by rw [ext_size _ _ _ (by omega) (by omega)]; omega)
  rw [e1, ← hq] at KG
  refine KG.mono ?_
  rintro e w2 ⟨rfl, rfl⟩
  have hq3 : q < 65536 := by omega
  have t1 : decide (((s.size - 3 : Nat) : Int) < 10 * (q : Int)) = true := by simp; omega
  clear hq e0 e1 KG hl hq2
  go_wp2
  try rw [Exit.noGoto_ret]
  go_ret3
  exact ⟨rfl, B1.out⟩
theorem Get_any (s : ByteArray) (w : World) (hs : s.size ≤ 140737488355328) : Calls Try.prog 68 #[.string s] w (GetAns w s) := by
  have hll : s.data.toList.length = s.size := by rw [Array.length_toList]; rfl
  by_cases h : s.size < 3
  · exact (Get_short s w h).mono fun e w' hh => .inl ⟨by unfold decL; rw [hll, if_pos h], hh⟩
  by_cases hb : 4 < num (s.data.toList.take 1)
  · exact (Get_bits s w (by omega) hb).mono fun e w' hh => .inl ⟨by unfold decL; rw [hll, if_neg h, if_pos hb], hh⟩
  by_cases hl : s.size < 3 + 10 * num ((s.data.toList.drop 1).take 2)
  · exact (Get_lack s w hs (by omega) (by omega) hl).mono fun e w' hh => .inl ⟨by unfold decL; rw [hll, if_neg h, if_neg hb, if_pos hl], hh⟩
  · refine (Get_walk s w hs _ (by omega) (by omega) rfl (by omega)).mono fun e w' hh => ?_
    have ed : decL s.data.toList = (decI (num (s.data.toList.take 1)) (num ((s.data.toList.drop 1).take 2)) (s.data.toList.drop 3) (-2147483649) []).map fun x => (num (s.data.toList.take 1), x) := by
      unfold decL; rw [hll, if_neg h, if_neg hb, if_neg hl]
    rcases hh with ⟨h1, h2⟩ | ⟨l, r, p, G, h1, h2⟩
    · exact .inl ⟨by rw [ed, h1]; rfl, h2⟩
    · exact .inr ⟨_, l, r, p, G, by rw [ed, h1]; rfl, h2⟩

end Go.Proofs.Ytgafnilcmhjpcaa.HHist
