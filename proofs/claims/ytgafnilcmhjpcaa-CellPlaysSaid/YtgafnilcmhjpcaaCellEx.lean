/- Cells: the chapter's examples, walked. -/
import Derived.Test.YtgafnilcmhjpcaaCellBackP
namespace Go.Proofs.Ytgafnilcmhjpcaa.HCell
set_option linter.unusedVariables false
open Go.RowKit Go.Proofs.Ytgafnilcmhjpcaa.HMem Go.Proofs.Ytgafnilcmhjpcaa.HHist Go.Proofs.Ytgafnilcmhjpcaa.HWide
open Go.Proofs.Ytgafnilcmhjpcaa.Print (I64)

theorem i64_ex (n : Int) (h : -9223372036854775808 ≤ n ∧ n ≤ 9223372036854775807) : I64 n := h
def ex1 : CM := (addC (newC 5 1) 3).1
def ex2 : CM := (addC ex1 (-4)).1
theorem ex1_good : Good ex1 (0 + 3) ∧ (addC (newC 5 1) 3).2 = 0 ∧ HHist.total ex1.l = 0 + 1 := (Good.new 5 1 (i64_ex _ (by decide)) (by decide)).add (i64_ex 3 (by decide)) (by decide)
theorem ex2_good : Good ex2 (0 + 3 + -4) ∧ (addC ex1 (-4)).2 = 0 ∧ HHist.total ex2.l = HHist.total ex1.l + 1 := ex1_good.1.add (i64_ex (-4) (by decide)) (by rw [ex1_good.2.2]; decide)
theorem ex2_total : HHist.total ex2.l = 2 := by rw [ex2_good.2.2, ex1_good.2.2]
theorem ex2_sum : ex2.s = (-1, 18446744073709551615) := by rw [ex2_good.1.sum]; decide +kernel
theorem ex2_lo : ex2.lo = -4 ∧ ex2.hi = 3 ∧ ex2.fr = 5 := by decide +kernel
set_option maxHeartbeats 8000000 in
set_option maxRecDepth 20000 in
theorem examples_any (w : World) : Calls Try.prog 9 #[] w fun e w' => e = .returned (.bool true) ∧ Below w.heap.size w w' := by
  go_enter Try.func9, Try.ntmps9
  go_wp2_with fail
  refine (HCell.New_no 0 9 w (.inr (by decide))).mono ?_
  rintro e w1 ⟨rfl, b1⟩
  have B1 := Lib.hid b1
  clear b1
  go_wp2_with fail
  refine (HCell.New_yes 5 1 w1 (by decide)).mono ?_
  rintro e w2 ⟨p, G, rfl, k2, hG, b2⟩
  have B2 := Lib.hid (B1.out.trans (b2.mono B1.out.size))
  have S2 := Lib.hid (show SC w.heap.size w2 p (newC 5 1) from ⟨G, k2, COk.new 5 1 (i64_ex _ (by decide)) (by decide), fun g hg => Nat.le_trans B1.out.size (hG g hg)⟩)
  have K := HCell.Bounds_any k2
  rw [show (newC 5 1).lo = 0 from rfl, show (newC 5 1).hi = 0 from rfl, show decide (0 < HHist.total (newC 5 1).l) = false from rfl] at K
  clear b2 hG k2
  go_wp2_with fail
  refine K.mono ?_
  rintro e w3 ⟨rfl, b3⟩
  have B3 := Lib.hid (B2.out.trans (b3.mono B2.out.size))
  have S3 := Lib.hid (S2.out.mono b3)
  clear b3 K S2
  have K := c_add S3.out B3.out.size 3 (i64_ex 3 (by decide))
  go_wp2_with fail
  refine K.mono ?_
  rintro e w4 ⟨rfl, s4, b4⟩
  have B4 := Lib.hid (B3.out.trans b4)
  have S4 := Lib.hid (show SC w.heap.size w4 p ex1 from s4)
  clear b4 s4 K S3
  have K := c_add S4.out B4.out.size (-4) (i64_ex (-4) (by decide))
  rw [ex2_good.2.1] at K
  go_wp2_with fail
  refine K.mono ?_
  rintro e w5 ⟨rfl, s5, b5⟩
  have B5 := Lib.hid (B4.out.trans b5)
  have S5 := Lib.hid (show SC w.heap.size w5 p ex2 from s5)
  clear b5 s5 K S4
  obtain ⟨G5, k5, o5, g5⟩ := S5.out
  have K5 := Lib.hid k5
  have K := HCell.Bounds_any k5
  rw [ex2_lo.1, ex2_lo.2.1, show decide (0 < HHist.total ex2.l) = true by rw [ex2_total]; rfl] at K
  clear k5 g5 o5
  go_wp2_with fail
  refine K.mono ?_
  rintro e w6 ⟨rfl, b6⟩
  have B6 := Lib.hid (B5.out.trans (b6.mono B5.out.size))
  have K6 := Lib.hid (K5.out.mono b6)
  clear b6 K K5 S5
  go_wp2_with fail
  obtain ⟨T, hT⟩ : ∃ T, T = strOfNums (encC ex2) := ⟨_, rfl⟩
  have K := HCell.Put_any K6.out ex2_good.1.ok
  rw [← hT] at K
  refine K.mono ?_
  rintro e w7 ⟨rfl, b7⟩
  have B7 := Lib.hid (B6.out.trans (b7.mono B6.out.size))
  have K7 := Lib.hid (K6.out.mono b7)
  have hTs : T.size ≤ 30000 := by
    have h1 := encC_length ex2 ex2_good.1.ok
    have h2 := ex2_good.1.ok.h.len
    rw [hT, strOfNums_size]
    rw [ub_length] at h1
    omega
  have hks : ¬ 9223372036854775807 < T.size + 1 := by omega
  obtain ⟨T2, hT2⟩ : ∃ T2, T2 = T ++ ⟨#[120]⟩ := ⟨_, rfl⟩
  have HT2 := Lib.hid (show T2.data.toList = ub (encC ex2) ++ [120] ∧ T2.size ≤ 140737488355328 by
    rw [hT2, hT]
    refine ⟨by rw [ByteArray.data_append, Array.toList_append, ub_data], ?_⟩
    rw [ByteArray.size_append, ← hT]
    have : (⟨#[120]⟩ : ByteArray).size = 1 := rfl
    omega)
  have HTT := Lib.hid hT2
  clear b7 K hT hTs hT2 K6
  go_wp2_with fail
  rw [← HTT.out]
  refine (HCell.Get_any T2 w7 HT2.out.2).mono ?_
  rintro e w8 ⟨⟨hd, rfl⟩ | ⟨c, r, q, F, hd, rfl, kc, oc, gF⟩, b8⟩
  · rw [HT2.out.1, decC_enc ex2 ex2_good.1.ok ex2_good.1.right] at hd
    cases hd
  rw [HT2.out.1, decC_enc ex2 ex2_good.1.ok ex2_good.1.right] at hd
  injection hd with hd
  injection hd with hd1 hd2
  subst hd1
  have er : r = ⟨#[120]⟩ := ByteArray.ext (Array.toList_inj.1 hd2.symm)
  subst er
  have B8 := Lib.hid (B7.out.trans (b8.mono B7.out.size))
  have K8 := Lib.hid (K7.out.mono b8)
  have KQ8 := Lib.hid kc
  clear b8 kc oc gF hd2 K7
  obtain ⟨h8, R8, e8, _, kcb, kh⟩ := K8.out.ex
  have KC8 := Lib.hid kcb
  have KH8 := Lib.hid kh
  have K := HCell.Sum_any kcb
  rw [ex2_sum] at K
  clear e8 kcb kh
  go_wp2_with fail
  refine K.mono ?_
  rintro e w9 ⟨rfl, b9⟩
  have C9 := Lib.hid b9
  clear b9 K
  go_wp2_with fail
  refine (text_m1 w9).mono ?_
  rintro e w10 ⟨rfl, b10⟩
  have C10 := Lib.hid (C9.out.trans (b10.mono C9.out.size))
  obtain ⟨c0, _⟩ := (KC8.out.mono C10.out).cells
  have K := count_q KH8.out w10 C10.out
  rw [ex2_total] at K
  clear b10
  go_wp2_with fail
  refine K.mono ?_
  rintro e w11 ⟨rfl, b11⟩
  have C11 := Lib.hid (C10.out.trans (b11.mono C10.out.size))
  clear b11 K c0
  go_wp2_with fail
  refine (Same_yes (K8.out.mono C11.out) (KQ8.out.mono C11.out) ex2_good.1.ok ex2_good.1.ok rfl).mono ?_
  rintro e w12 ⟨rfl, b12⟩
  have C12 := Lib.hid (C11.out.trans (b12.mono C11.out.size))
  clear b12
  have K := HCell.From_any (KC8.out.mono C12.out)
  rw [ex2_lo.2.2] at K
  go_wp2_with fail
  refine K.mono ?_
  rintro e w13 ⟨rfl, b13⟩
  have C13 := Lib.hid (C12.out.trans (b13.mono C12.out.size))
  clear b13 K
  go_wp2_with fail
  refine (HCell.Move_any (K8.out.mono C13.out) ex2_good.1.ok 9).mono ?_
  rintro e w14 ⟨m, M, rfl, km, gm, b14⟩
  have C14 := Lib.hid (C13.out.trans (b14.mono C13.out.size))
  obtain ⟨hm, Rm, _, _, kmb, _⟩ := km.ex
  have K := HCell.From_any kmb
  rw [show (moveC ex2 9).fr = 9 from rfl] at K
  clear b14 km gm kmb
  go_wp2_with fail
  refine K.mono ?_
  rintro e w15 ⟨rfl, b15⟩
  have C15 := Lib.hid (C14.out.trans (b15.mono C14.out.size))
  clear b15 K
  go_wp2_with fail
  refine (HCell.Spread_any (K8.out.mono C15.out) ex2_good.1.ok).mono ?_
  rintro e w16 ⟨z, Z, rfl, kz, gz, b16⟩
  have C16 := Lib.hid (C15.out.trans (b16.mono C15.out.size))
  have K := count_q kz w16 (Below.refl _ _)
  rw [ex2_total] at K
  clear b16 kz gz
  go_wp2_with fail
  refine K.mono ?_
  rintro e w17 ⟨rfl, b17⟩
  have B17 := Lib.hid (B8.out.trans ((C16.out.trans (b17.mono C16.out.size)).mono B8.out.size))
  clear b17 K
  go_wp2
  go_ret
  exact ⟨by first | rfl | simp, B17.out⟩
end Go.Proofs.Ytgafnilcmhjpcaa.HCell
