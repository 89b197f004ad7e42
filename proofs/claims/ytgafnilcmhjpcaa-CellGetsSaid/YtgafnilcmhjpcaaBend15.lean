/- bend: bytes with one of them another one. -/
import Derived.Test.YtgafnilcmhjpcaaProg
import Derived.Test.YtgafnilcmhjpcaaQTail
import Derived.WalkKit
import Derived.WalkSpells
import Derived.WalkLawsBesides
import Derived.Deep.QuietTactic
import Derived.BigQuiet
import Derived.Laws.BitsAllLaws
import Derived.Below
import Derived.Lib.Strings
import Derived.Lib.ConvBytes
import Derived.Laws.BytesArg
import Derived.Lib.Hide
namespace Go.Proofs.Ytgafnilcmhjpcaa.HBend
open Go.RowKit

/-- A text's bytes as numbers. -/
def numsOf (s : ByteArray) : List Int := s.data.toList.map fun c => (c.toNat : Int)
theorem toList_length (s : ByteArray) : s.data.toList.length = s.size := by rw [Array.length_toList]; rfl
theorem numsOf_length (s : ByteArray) : (numsOf s).length = s.size := by rw [numsOf, List.length_map, toList_length]

def bendAt (s : ByteArray) (at_ : Int) : Nat := ((if at_ < 0 then -(at_ + 1) else at_) % s.size).toNat
def bendL (s : ByteArray) (at_ by_ : Int) : List Int := (numsOf s).set (bendAt s at_) (Go.bits .xor .u8 ((numsOf s).getD (bendAt s at_) 0) by_)
/-- What bend answers. -/
def bendS (s : ByteArray) (at_ by_ : Int) : ByteArray := if s.size = 0 then s else strOfNums (bendL s at_ by_)
theorem bendS_size (s : ByteArray) (a b : Int) : (bendS s a b).size = s.size := by
  unfold bendS
  split
  · rfl
  · rw [strOfNums_size]; simp [bendL, numsOf_length]

set_option maxHeartbeats 1000000 in
theorem Bend_any (s : ByteArray) (a b : Int) (w : World) (ha : -9223372036854775808 ≤ a ∧ a ≤ 9223372036854775807) (hb : 0 ≤ b ∧ b ≤ 255) (hs : s.size ≤ 140737488355328) :
    Calls Try.prog 12 #[.string s, .int .i64 a, .int .u8 b] w fun e w' => e = .returned (.string (bendS s a b)) ∧ Below w.heap.size w w' := by
  by_cases h0 : s.size = 0
  · have e0 : s = ⟨#[]⟩ := by
      obtain ⟨⟨l⟩⟩ := s
      cases l with
      | nil => rfl
      | cons x r => simp [ByteArray.size] at h0
    subst e0
    have eb : bendS ⟨#[]⟩ a b = ⟨#[]⟩ := by unfold bendS; rw [if_pos h0]
    rw [eb]
    go_enter Try.func12, Try.ntmps12
    go_wp2
    go_ret
    exact ⟨rfl, Below.refl _ _⟩
  · have hpos : 0 < s.size := by omega
    have t1 : s.toList.isEmpty = false := by
      rw [Lib.toList_data s]
      have := toList_length s
      cases hl : s.data.toList with
      | nil => rw [hl] at this; simp at this; omega
      | cons x r => rfl
    have eb : bendS s a b = strOfNums (bendL s a b) := by unfold bendS; rw [if_neg h0]
    obtain ⟨A, hA⟩ : ∃ A, A = if a < 0 then -(a + 1) else a := ⟨_, rfl⟩
    have hA0 : 0 ≤ A ∧ A ≤ 9223372036854775807 := by rw [hA]; split <;> omega
    obtain ⟨i, hi⟩ : ∃ i : Nat, i = bendAt s a := ⟨_, rfl⟩
    have hiA : (i : Int) = A % s.size := by
      rw [hi, hA]
      unfold bendAt
      rw [← hA]
      have := Int.emod_nonneg A (show (s.size : Int) ≠ 0 by omega)
      omega
    have hil : i < s.size := by
      have := Int.emod_lt_of_pos A (show (0 : Int) < s.size by omega)
      omega
    have hm : A.tmod s.size = (i : Int) := by rw [Int.tmod_eq_emod_of_nonneg hA0.1, ← hiA]
    have hcv := Lib.run_convert_string_bytes (P := Try.prog) w 9 79 5 s Try.underlying9 Try.underlying79 Try.underlying5
    have hnew := Lib.bytesWorld_at_new w 5 s
    have hcell : (Lib.bytesWorld w 5 s).cell? ⟨w.heap.size, i, none⟩ = some (.int .u8 ((numsOf s).getD i 0)) := by
      rw [Lib.bytesWorld_cell w 5 s i hil]
      have hl : i < s.data.toList.length := by rw [toList_length]; exact hil
      simp [numsOf, List.getD, List.getElem?_eq_getElem hl]
    have hfr : (Lib.bytesWorld w 5 s).frozen? ⟨w.heap.size, i, none⟩ = false := by
      have hl : i < (Lib.bytesCells w 5 s).size := by
        have : s.data.size = s.size := rfl
        simp [Lib.bytesCells]; omega
      simp [World.frozen?, hnew]
      omega
    have hbel : Below w.heap.size w (Lib.bytesWorld w 5 s) := ⟨rfl, rfl, rfl, by rw [Lib.bytesWorld_size]; omega, fun i hi => Lib.bytesWorld_at_old w 5 s i (by omega)⟩
    obtain ⟨v, hv⟩ : ∃ v, v = Go.bits .xor .u8 ((numsOf s).getD i 0) b := ⟨_, rfl⟩
    have hcv2 := fun n => run_convert_bytes_arg (P := Try.prog) (((Lib.bytesWorld w 5 s).drewN n).setCell ⟨w.heap.size, i, none⟩ (.int .u8 v)) 79 5 Try.underlying79 Try.underlying5 w.heap.size 0 s.size (grownCap w s.size 0 5) ((numsOf s).set i v) (by rw [List.length_set, numsOf_length]) (fun j hj => by
      have hl : j < s.data.toList.length := by rw [toList_length]; exact hj
      have hc0 := Lib.bytesWorld_cell w 5 s j hj
      rw [Nat.zero_add]
      unfold World.cell? at hc0 ⊢
      simp only [World.setCell, World.drewN, Array.getElem?_modify, if_true, hnew] at hc0 ⊢
      have hm : j < (Lib.bytesCells w 5 s).size := by
        have : s.data.size = s.size := rfl
        simp [Lib.bytesCells]; omega
      by_cases hj2 : i = j
      · subst hj2
        simp [hm, numsOf_length, hj, List.getD]
      · have e : (numsOf s).getD j 0 = ((s.data.toList.getD j 0).toNat : Int) := by simp [numsOf, List.getD, List.getElem?_eq_getElem hl]
        have e2 : ((numsOf s).set i v).getD j 0 = (numsOf s).getD j 0 := by simp [List.getD, List.getElem?_set_ne hj2]
        rw [e2, e, ← hc0]
        simp [Array.getElem?_setIfInBounds, hj2]) 9 Try.underlying9
    obtain ⟨x, hx⟩ : ∃ x, x = (numsOf s).getD i 0 := ⟨_, rfl⟩
    rw [← hx] at hcell hv
    have hbits : Go.bits .xor .u8 x b = v := hv.symm
    have HX := Lib.hid hx
    clear hx
    obtain ⟨W1, hW1⟩ : ∃ W1, W1 = Lib.bytesWorld w 5 s := ⟨_, rfl⟩
    obtain ⟨c, hc⟩ : ∃ c, c = grownCap w s.size 0 5 := ⟨_, rfl⟩
    obtain ⟨q, hq⟩ : ∃ q, q = w.heap.size := ⟨_, rfl⟩
    rw [← hc, ← hq, ← hW1] at hcv
    rw [← hq, ← hW1] at hcell hfr
    simp only [← hq, ← hW1, ← hc] at hcv2
    rw [← hW1] at hbel
    have BEL := Lib.hid hbel
    have EB := Lib.hid eb
    have HI := Lib.hid hi
    have HV := Lib.hid hv
    clear hv
    have HQ := Lib.hid hq
    clear hnew hW1 hc hbel hi hq hiA
    have fin : ∀ n, Below w.heap.size w ((W1.drewN n).setCell ⟨q, i, none⟩ (.int .u8 v)) := fun n => by
      have h0 : Below w.heap.size w (W1.drewN n) := ⟨BEL.out.os, BEL.out.tape, BEL.out.output, BEL.out.size, BEL.out.block⟩
      exact h0.setCell (by rw [HQ.out]; exact Nat.le_refl _) _
    by_cases hn : a < 0
    · rw [if_pos hn] at hA
      subst hA
      go_enter Try.func12, Try.ntmps12
      go_wp2
      refine QTail.wp_region_drawn_tail 14 (by kernel_rfl) (by kernel_rfl) ?_
      simp only [List.take_succ_cons, List.take_zero]
      repeat (quiet_step (fail))
      refine wpQuiet_nil ?_
      intro _ hw'
      obtain ⟨nq, rfl⟩ := hw'
      simp only [List.drop_succ_cons, List.drop_zero]
      go_wp2
      go_ret
      refine ⟨?_, fin nq⟩
      rw [EB.out, bendL, ← HI.out, ← HX.out, hbits]
      rfl
    · rw [if_neg hn] at hA
      subst hA
      go_enter Try.func12, Try.ntmps12
      go_wp2
      refine QTail.wp_region_drawn_tail 14 (by kernel_rfl) (by kernel_rfl) ?_
      simp only [List.take_succ_cons, List.take_zero]
      repeat (quiet_step (fail))
      refine wpQuiet_nil ?_
      intro _ hw'
      obtain ⟨nq, rfl⟩ := hw'
      simp only [List.drop_succ_cons, List.drop_zero]
      go_wp2
      go_ret
      refine ⟨?_, fin nq⟩
      rw [EB.out, bendL, ← HI.out, ← HX.out, hbits]
      rfl

end Go.Proofs.Ytgafnilcmhjpcaa.HBend
