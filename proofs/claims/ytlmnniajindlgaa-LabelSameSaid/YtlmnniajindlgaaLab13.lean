/- The reference's Escape, walked. Conditions: sizes. -/
import Derived.Test.YtlmnniajindlgaaLab12
import Derived.Lib.BufferRead
namespace Go.Proofs.Ytlmnniajindlgaa.HLab
set_option linter.unusedVariables false
open Go.RowKit Go.Proofs.Ytlmnniajindlgaa.HMem Go.Proofs.Ytlmnniajindlgaa.HBld Go.Proofs.Ytlmnniajindlgaa.HApp

theorem cv_own {w : World} {B : Nat} {v : Value} {l : List UInt8} (h : w.ownsRow B 5 1 v l.length (Lib.byteCells l)) : (convert 23 9 v).run Try.prog w = .ok (.string ⟨⟨l⟩⟩) w := by
  rcases h.2 with ⟨rfl, h0⟩ | ⟨g, cap, cur, rfl, _, hg, _, _, _, ht⟩
  · have e := List.length_eq_zero_iff.1 h0
    subst e
    rw [run_convert_bytes_nil (P := Try.prog) w 23 5 Try.underlying23 Try.underlying5 0 0 9 Try.underlying9]
    rfl
  · exact run_convert_bytes_back (P := Try.prog) w 23 9 5 ⟨g, 0, none⟩ cap l Try.underlying23 Try.underlying5 Try.underlying9 (Lib.bytes_of_row hg (by simpa using ht))
theorem byte_new (w : World) (c : Int) : ∀ ad, (some ⟨w.heap.size, 0, none⟩ : Option Addr) = some ad → ∀ j u, [Value.int .u8 c][j]? = some u → (w.alloc (.cells #[.int .u8 c] 5)).cell? (ad.add j) = some u := by
  intro ad e j u hj
  cases e
  match j, hj with
  | 0, hj => simp at hj; subst hj; rw [Addr.add_zero', new_cell]; rfl
theorem byte_one (c : Int) : ∀ u ∈ [Value.int .u8 c], u.oneCell' = true := fun u hu => by simp at hu; subst hu; rfl
theorem infoB8 : (Try.prog.info? 5).map (fun i => (i.zero, i.size, i.bytes)) = some (some (.int .u8 0), 1, 1) := by kernel_rfl
set_option maxHeartbeats 1000000 in
set_option maxRecDepth 20000 in
theorem rEscape_any (s : ByteArray) (w : World) (hs : s.size ≤ 1000000) : Calls Try.prog 35 #[.string s] w fun e w' => e = .returned (.string ⟨⟨escL s.data.toList⟩⟩) ∧ Below w.heap.size w w' := by
  obtain ⟨i0, hi0, hz0, hz1, hz2⟩ := info_parts infoB8
  obtain ⟨T, hT⟩ : ∃ T : ByteArray, T = ⟨⟨escL s.data.toList⟩⟩ := ⟨_, rfl⟩
  rw [← hT]
  have HTT := Lib.hid hT
  clear hT
  go_enter Try.func35, Try.ntmps35
  go_wp2_with fail
  obtain ⟨B, hB⟩ : ∃ B, B = w.heap.size := ⟨_, rfl⟩
  have HB := Lib.hid hB
  clear hB
  go_loopw [3, 4] (fun v x wr => ∃ k : Nat, k ≤ s.size ∧ x = .int .i64 k ∧ wr.ownsRow B 5 1 v (escL (s.data.toList.take k)).length (Lib.byteCells (escL (s.data.toList.take k))) ∧ Below B w wr) (fun _ x _ => s.size - (intOf x).toNat)
  case atStart => exact ⟨0, Nat.zero_le _, rfl, ⟨rfl, .inl ⟨rfl, rfl⟩⟩, by rw [HB.out]; exact Below.refl _ _⟩
  case round =>
    obtain ⟨k, hk, rfl, own, bb⟩ := hrel
    have OWN := Lib.hid own
    have BB := Lib.hid bb
    have hbw : B ≤ wr.heap.size := by rw [HB.out]; exact bb.size
    clear own bb
    rcases Nat.lt_or_ge k s.size with hlt | hge
    · have hk1 : (k : Int) < s.size := by omega
      have HLT := Lib.hid hlt
      obtain ⟨c, hby, hc⟩ : ∃ c, s.data.toList[k]? = some c ∧ s[k]'hlt = c := ⟨_, byte_at s k hlt, rfl⟩
      have HT := Lib.hid (escL_take _ _ _ hby)
      have hln : (escL (s.data.toList.take k)).length ≤ 2000000 := by
        have := escL_length (s.data.toList.take k)
        rw [List.length_take] at this
        omega
      have KH := Lib.hid (show Calls Try.prog 50 #[.string ⟨#[44, 61, 32, 92]⟩, .int .u8 c.toNat] wr fun e w' => e = .returned (.bool (esc1 c)) ∧ wr = w' from rin_any ⟨#[44, 61, 32, 92]⟩ c wr (by decide))
      have ec : (((s[k]'hlt).toNat : Nat) : Int) = (c.toNat : Int) := by rw [hc]
      clear hby hc
      cases hesc : esc1 c with
      | true =>
        rw [hesc] at KH HT
        clear hesc
        go_wp2_with fail
        refine KH.out.mono ?_
        rintro e w1 ⟨rfl, rfl⟩
        have A2 := byte_new wr 92
        have A3 := byte_one 92
        have A4 : (escL (s.data.toList.take k)).length + 1 ≤ maxLen := by unfold maxLen; omega
        have A5 : ((escL (s.data.toList.take k)).length + 1) * 1 ≤ 140737488355328 := by omega
        have A6 : B ≤ (wr.alloc (.cells #[.int .u8 92] 5)).heap.size := by simp; omega
        go_wp2_with (at_builtin; refine append_any _ rfl _ _ 23 rfl B 5 i0 (.int .u8 0) 1 1 Try.underlying23 hi0 hz0 hz1 hz2 rfl (by decide) _ (escL (s.data.toList.take k)).length (Lib.byteCells (escL (s.data.toList.take k))) rfl (OWN.out.alloc _) (some ⟨wr.heap.size, 0, none⟩) 1 1 [.int .u8 92] rfl (fun e => nomatch e) rfl A2 A3 A4 A5 A6 ?_)
        intro v5 w5 o5 b5
        have O5 := Lib.hid o5
        have B5 := Lib.hid (show Below B wr w5 from ((Below.refl B wr).alloc hbw _).trans b5)
        have hb5 := Nat.le_trans hbw B5.out.size
        clear A2 A3 A4 A5 A6 o5 b5
        have A2 := byte_new w5 c.toNat
        have A3 := byte_one c.toNat
        have A4 : ((escL (s.data.toList.take k)).length + 1) + 1 ≤ maxLen := by unfold maxLen; omega
        have A5 : (((escL (s.data.toList.take k)).length + 1) + 1) * 1 ≤ 140737488355328 := by omega
        have A6 : B ≤ (w5.alloc (.cells #[.int .u8 c.toNat] 5)).heap.size := by simp; omega
        go_wp2_with (at_builtin; refine append_any _ rfl _ _ 23 rfl B 5 i0 (.int .u8 0) 1 1 Try.underlying23 hi0 hz0 hz1 hz2 rfl (by decide) _ ((escL (s.data.toList.take k)).length + 1) (Lib.byteCells (escL (s.data.toList.take k)) ++ [.int .u8 92]) rfl (O5.out.alloc _) (some ⟨w5.heap.size, 0, none⟩) 1 1 [.int .u8 c.toNat] rfl (fun e => nomatch e) rfl A2 A3 A4 A5 A6 ?_)
        intro v6 w6 o6 b6
        have O6 := Lib.hid (show w6.ownsRow B 5 1 v6 (escL (s.data.toList.take (k + 1))).length (Lib.byteCells (escL (s.data.toList.take (k + 1)))) by
          rw [HT.out]
          simpa [Lib.byteCells_append, Lib.byteCells] using o6)
        have B6 := Lib.hid (BB.out.trans (B5.out.trans (((Below.refl B w5).alloc hb5 _).trans b6)))
        clear A2 A3 A4 A5 A6 o6 b6 hb5
        go_wp2
        go_roundw
        case rel => exact ⟨k + 1, HLT.out, by go_num, O6.out, B6.out⟩
        case measure => have := HLT.out; simp [intOf]; omega
      | false =>
        rw [hesc] at KH HT
        clear hesc
        go_wp2_with fail
        refine KH.out.mono ?_
        rintro e w1 ⟨rfl, rfl⟩
        have A2 := byte_new wr c.toNat
        have A3 := byte_one c.toNat
        have A4 : (escL (s.data.toList.take k)).length + 1 ≤ maxLen := by unfold maxLen; omega
        have A5 : ((escL (s.data.toList.take k)).length + 1) * 1 ≤ 140737488355328 := by omega
        have A6 : B ≤ (wr.alloc (.cells #[.int .u8 c.toNat] 5)).heap.size := by simp; omega
        go_wp2_with (at_builtin; refine append_any _ rfl _ _ 23 rfl B 5 i0 (.int .u8 0) 1 1 Try.underlying23 hi0 hz0 hz1 hz2 rfl (by decide) _ (escL (s.data.toList.take k)).length (Lib.byteCells (escL (s.data.toList.take k))) rfl (OWN.out.alloc _) (some ⟨wr.heap.size, 0, none⟩) 1 1 [.int .u8 c.toNat] rfl (fun e => nomatch e) rfl A2 A3 A4 A5 A6 ?_)
        intro v6 w6 o6 b6
        have O6 := Lib.hid (show w6.ownsRow B 5 1 v6 (escL (s.data.toList.take (k + 1))).length (Lib.byteCells (escL (s.data.toList.take (k + 1)))) by
          rw [HT.out]
          simpa [Lib.byteCells_append, Lib.byteCells] using o6)
        have B6 := Lib.hid (BB.out.trans (((Below.refl B wr).alloc hbw _).trans b6))
        clear A2 A3 A4 A5 A6 o6 b6
        go_wp2
        go_roundw
        case rel => exact ⟨k + 1, HLT.out, by go_num, O6.out, B6.out⟩
        case measure => have := HLT.out; simp [intOf]; omega
    · have hk1 : ¬ (k : Int) < s.size := by omega
      have EF : s.data.toList.take k = s.data.toList := List.take_of_length_le (by rw [list_size]; exact hge)
      rw [EF] at OWN
      have hcv := cv_own OWN.out
      rw [← HTT.out] at hcv
      clear hge EF
      go_wp2
      go_ret
      exact ⟨rfl, by rw [← HB.out]; exact BB.out⟩
end Go.Proofs.Ytlmnniajindlgaa.HLab
