/- Histograms: the chapter's examples, walked. -/
import Derived.Test.YtmhljblfbnjopaaHistUse
namespace Go.Proofs.Ytmhljblfbnjopaa.HHist
set_option linter.unusedVariables false
open Go.RowKit Go.Proofs.Ytmhljblfbnjopaa.HMem Go.Proofs.Ytmhljblfbnjopaa.HBucket
open Go.Proofs.Ytmhljblfbnjopaa.Print (I64)

def exL : IL := [(5, 2), (13, 1)]
theorem ex_add1 : addL 1 [] 6 = ([(5, 1)], 0) := by decide +kernel
theorem ex_add2 : addL 1 [(5, 1)] 7 = ([(5, 2)], 0) := by decide +kernel
theorem ex_add3 : addL 1 [(5, 2)] 100 = (exL, 0) := by decide +kernel
theorem ex_rank : rankZ exL 2 = (5, true) := by decide +kernel
theorem ex_quant0 : quantL 1 [] 1 2 = (0, 0, 5) := by decide +kernel
theorem ex_quant : quantL 1 exL 1 2 = (6, 7, 0) := by decide +kernel
theorem ex_get : decL ((strOfNums (encL 1 exL)).append ⟨#[120]⟩).data.toList = some (1, exL, [120]) := by decide +kernel
theorem ex_put_len : ((strOfNums (encL 1 exL)).append ⟨#[120]⟩).size = 24 := by decide +kernel

set_option maxRecDepth 20000 in
set_option maxHeartbeats 4000000 in
theorem examples_any (w : World) :
    Calls Try.prog 10 #[] w fun e w' => e = .returned (.bool true) ∧ Below w.heap.size w w' := by
  go_enter Try.func10, Try.ntmps10
  go_wp2_with fail
  refine (New_no 5 _ (.inr (by omega))).mono ?_
  rintro e w0 ⟨rfl, rfl⟩
  go_wp2_with fail
  refine (s_new 1 _ (by omega)).mono ?_
  rintro e w1 ⟨rfl, s1, b1⟩
  obtain ⟨p, hp⟩ : ∃ p, p = w.heap.size := ⟨_, rfl⟩
  rw [← hp] at s1 b1 ⊢
  have HP := Lib.hid hp
  have S1 := Lib.hid s1
  have B1 := Lib.hid b1
  clear s1 b1 hp
  go_wp2_with fail
  have K := s_quant S1.out 1 2 (by omega) (by omega)
  rw [ex_quant0] at K
  refine K.mono ?_
  rintro e w2 ⟨rfl, b2⟩
  have S2 := Lib.hid (S1.out.mono b2)
  have B2 := Lib.hid (bt B1.out (Nat.le_of_eq HP.out) b2)
  clear b2 K
  go_wp2_with fail
  have K := s_add S2.out (by have := B2.out.size; have := HP.out; omega) 6 (by unfold I64; omega)
  rw [ex_add1] at K
  refine K.mono ?_
  rintro e w3 ⟨rfl, s3, b3⟩
  have S3 := Lib.hid s3
  have B3 := Lib.hid (bt' B2.out b3)
  clear b3 K s3
  go_wp2_with fail
  have K := s_add S3.out (by have := B3.out.size; have := HP.out; omega) 7 (by unfold I64; omega)
  rw [ex_add2] at K
  refine K.mono ?_
  rintro e w4 ⟨rfl, s4, b4⟩
  have S4 := Lib.hid s4
  have B4 := Lib.hid (bt' B3.out b4)
  clear b4 K s4
  go_wp2_with fail
  have K := s_add S4.out (by have := B4.out.size; have := HP.out; omega) 100 (by unfold I64; omega)
  rw [ex_add3] at K
  refine K.mono ?_
  rintro e w5 ⟨rfl, s5, b5⟩
  have S5 := Lib.hid s5
  have B5 := Lib.hid (bt' B4.out b5)
  clear b5 K s5
  go_wp2_with fail
  have K := s_rank S5.out 2 (by omega)
  rw [ex_rank] at K
  refine K.mono ?_
  rintro e w6 ⟨rfl, b6⟩
  have S6 := Lib.hid (S5.out.mono b6)
  have B6 := Lib.hid (bt B5.out (Nat.le_of_eq HP.out) b6)
  clear b6 K
  go_wp2_with fail
  have K := s_quant S6.out 1 2 (by omega) (by omega)
  rw [ex_quant] at K
  refine K.mono ?_
  rintro e w7 ⟨rfl, b7⟩
  have S7 := Lib.hid (S6.out.mono b7)
  have B7 := Lib.hid (bt B6.out (Nat.le_of_eq HP.out) b7)
  clear b7 K
  go_wp2_with fail
  refine (s_put S7.out).mono ?_
  rintro e w8 ⟨rfl, b8⟩
  have S8 := Lib.hid (S7.out.mono b8)
  have B8 := Lib.hid (bt B7.out (Nat.le_of_eq HP.out) b8)
  clear b8
  go_wp2_with fail
  refine (Get_any ((strOfNums (encL 1 exL)).append ⟨#[120]⟩) w8 (by rw [ex_put_len]; omega)).mono ?_
  intro e w9 h9
  rcases h9 with ⟨h9, _⟩ | ⟨b', l', r', q, G', h9, rfl, _, _, _, b9⟩
  · rw [ex_get] at h9; exact absurd h9 (by simp)
  obtain rfl : r' = ⟨#[120]⟩ := by
    rw [ex_get] at h9
    injection h9 with h9
    injection h9 with _ h9
    injection h9 with _ h9
    cases r' with | mk d => cases d with | mk d => simp at h9; rw [← h9]
  have S9 := Lib.hid (S8.out.mono b9)
  have B9 := Lib.hid (bt B8.out (Nat.le_of_eq HP.out) b9)
  clear b9 h9
  go_wp2_with fail
  refine (s_items S9.out).mono ?_
  rintro e w10 ⟨v10, rfl, G10, r10, _, b10⟩
  obtain ⟨ba, cap, rfl, _⟩ := r10.form
  have S10 := Lib.hid (S9.out.mono b10)
  have B10 := Lib.hid (bt B9.out (Nat.le_of_eq HP.out) b10)
  clear b10 r10
  go_wp2_with fail
  refine (s_count S10.out).mono ?_
  rintro e w11 ⟨rfl, b11⟩
  have S11 := Lib.hid (S10.out.mono b11)
  have B11 := Lib.hid (bt B10.out (Nat.le_of_eq HP.out) b11)
  clear b11
  go_wp2_with fail
  refine (s_bits S11.out).mono ?_
  rintro e w12 ⟨rfl, b12⟩
  have B12 := Lib.hid (bt B11.out (Nat.le_of_eq HP.out) b12)
  clear b12
  go_wp2
  go_ret
  exact ⟨rfl, by rw [← HP.out]; exact B12.out⟩
end Go.Proofs.Ytmhljblfbnjopaa.HHist
