/- Cells: what is put is got; cut anywhere it is none. Plain laws. Conditions: the cell is right. -/
import Derived.Test.YtgafnilcmhjpcaaCellGood
import Derived.Test.YtgafnilcmhjpcaaHistBackP
namespace Go.Proofs.Ytgafnilcmhjpcaa.HCell
set_option linter.unusedVariables false
open Go.RowKit Go.Proofs.Ytgafnilcmhjpcaa.HMem Go.Proofs.Ytgafnilcmhjpcaa.HHist Go.Proofs.Ytgafnilcmhjpcaa.HWide
open Go.Proofs.Ytgafnilcmhjpcaa.Print (I64)

theorem putN_be' (a b : Int) (hb : 0 ≤ b ∧ b ≤ 18446744073709551615) : putN a b = be (u64of a) 8 ++ be b.toNat 8 := by
  have e : ((u64of a : Nat) : Int) = a % 18446744073709551616 := by unfold u64of; omega
  have e2 : ((b.toNat : Nat) : Int) = b := by omega
  have ew : IntKind.u64.wrap a = a % 18446744073709551616 := u64w a
  simp only [putN, List.range_succ, List.range_zero, List.nil_append, List.map_append, List.map_cons, List.map_nil, List.cons_append, putF, hb, ew]
  simp only [be, Nat.reduceMul, Nat.reduceSub, Int.reducePow, Nat.reducePow, Nat.reduceLT, if_true, if_false, Int.natCast_emod, Int.natCast_ediv, e, e2, List.cons_append, List.nil_append]
  rfl
theorem num_be8 (N : Nat) (h : N < 18446744073709551616) : num (ub (be N 8)) = N := by
  rw [num_be]
  have : (256 : Nat) ^ 8 = 18446744073709551616 := by decide
  omega
theorem ub8_length (N : Nat) : (ub (be N 8)).length = 8 := by rw [ub_length, be_length]
theorem i8of_enc (n : Int) (hn : I64 n) (z : List UInt8) : i8of (ub (be (u64of n) 8) ++ z) = n := by
  unfold i8of
  rw [List.take_left' (ub8_length _), num_be8 _ (u64of_lt n), IntKind.wrap_i64]
  unfold u64of
  unfold Print.I64 at hn
  omega
theorem sumL_enc (a b : Int) (h : Rng a b) : sumL (ub (be (u64of a) 8) ++ ub (be b.toNat 8)) = (a, b) := by
  unfold Rng at h
  unfold sumL
  rw [List.take_left' (ub8_length _), List.drop_left' (ub8_length _), List.take_of_length_le (by rw [ub8_length]; exact Nat.le_refl _), num_be8 _ (u64of_lt a), num_be8 _ (by omega), IntKind.wrap_i64]
  unfold u64of
  refine Prod.ext ?_ ?_ <;> simp only <;> omega
theorem encC_parts (c : CM) (ho : COk c) : ub (encC c) = ub (be (u64of c.fr) 8) ++ ((ub (be (u64of c.s.1) 8) ++ ub (be c.s.2.toNat 8)) ++ (ub (be (u64of c.lo) 8) ++ (ub (be (u64of c.hi) 8) ++ ub (encL c.b c.l)))) := by
  have hr := ho.rng
  unfold Rng at hr
  unfold encC
  rw [putN_be' c.s.1 c.s.2 (by omega)]
  simp only [ub_append, List.append_assoc]
theorem encC_length (c : CM) (ho : COk c) : (ub (encC c)).length = 43 + c.l.length * 10 := by
  rw [encC_parts c ho]
  simp only [List.length_append, ub_length, be_length, encL_length]
  omega
theorem rawC_enc (c : CM) (ho : COk c) (z : List UInt8) : rawC (ub (encC c) ++ z) c.b c.l = c := by
  rw [encC_parts c ho]
  obtain ⟨fr, s, lo, hi, b, l⟩ := c
  simp only [rawC]
  have l8 := ub8_length
  have e1 : i8of ((ub (be (u64of fr) 8) ++ ((ub (be (u64of s.1) 8) ++ ub (be s.2.toNat 8)) ++ (ub (be (u64of lo) 8) ++ (ub (be (u64of hi) 8) ++ ub (encL b l))))) ++ z) = fr := by
    rw [List.append_assoc]; exact i8of_enc fr ho.fr _
  have e2 : ((ub (be (u64of fr) 8) ++ ((ub (be (u64of s.1) 8) ++ ub (be s.2.toNat 8)) ++ (ub (be (u64of lo) 8) ++ (ub (be (u64of hi) 8) ++ ub (encL b l))))) ++ z).drop 8 = (ub (be (u64of s.1) 8) ++ ub (be s.2.toNat 8)) ++ (ub (be (u64of lo) 8) ++ (ub (be (u64of hi) 8) ++ ub (encL b l)) ++ z) := by
    rw [List.append_assoc, List.drop_left' (l8 _), List.append_assoc]
  have l16 : (ub (be (u64of s.1) 8) ++ ub (be s.2.toNat 8)).length = 16 := by rw [List.length_append, l8, l8]
  have e3 : ((ub (be (u64of fr) 8) ++ ((ub (be (u64of s.1) 8) ++ ub (be s.2.toNat 8)) ++ (ub (be (u64of lo) 8) ++ (ub (be (u64of hi) 8) ++ ub (encL b l))))) ++ z).drop 24 = ub (be (u64of lo) 8) ++ (ub (be (u64of hi) 8) ++ ub (encL b l) ++ z) := by
    rw [show (24 : Nat) = 8 + 16 from rfl, ← List.drop_drop, e2, List.drop_left' l16, List.append_assoc]
  have e4 : ((ub (be (u64of fr) 8) ++ ((ub (be (u64of s.1) 8) ++ ub (be s.2.toNat 8)) ++ (ub (be (u64of lo) 8) ++ (ub (be (u64of hi) 8) ++ ub (encL b l))))) ++ z).drop 32 = ub (be (u64of hi) 8) ++ (ub (encL b l) ++ z) := by
    rw [show (32 : Nat) = 24 + 8 from rfl, ← List.drop_drop, e3, List.drop_left' (l8 _), List.append_assoc]
  rw [e1, e2, e3, e4, List.take_left' l16, sumL_enc s.1 s.2 ho.rng, i8of_enc lo ho.lo, i8of_enc hi ho.hi]
theorem encC_drop40 (c : CM) (ho : COk c) (z : List UInt8) : (ub (encC c) ++ z).drop 40 = ub (encL c.b c.l) ++ z := by
  rw [encC_parts c ho]
  have l8 := ub8_length
  have e : ub (be (u64of c.fr) 8) ++ ((ub (be (u64of c.s.1) 8) ++ ub (be c.s.2.toNat 8)) ++ (ub (be (u64of c.lo) 8) ++ (ub (be (u64of c.hi) 8) ++ ub (encL c.b c.l)))) ++ z =
      (ub (be (u64of c.fr) 8) ++ (ub (be (u64of c.s.1) 8) ++ ub (be c.s.2.toNat 8)) ++ ub (be (u64of c.lo) 8) ++ ub (be (u64of c.hi) 8)) ++ (ub (encL c.b c.l) ++ z) := by simp only [List.append_assoc]
  rw [e, List.drop_left' (by simp only [List.length_append, l8])]
/-- What is put is got, and what stands behind it. -/
theorem decC_enc (c : CM) (ho : COk c) (hr : rightC c = true) (z : List UInt8) : decC (ub (encC c) ++ z) = some (c, z) := by
  have hl := encC_length c ho
  unfold decC
  rw [if_neg (by rw [List.length_append, hl]; omega), encC_drop40 c ho z, decL_enc c.b c.l ho.h z]
  simp only []
  rw [rawC_enc c ho z, hr]
  rfl
/-- Cut anywhere it is none. -/
theorem decC_cut (c : CM) (ho : COk c) (k : Nat) (hk : k < (ub (encC c)).length) : decC ((ub (encC c)).take k) = none := by
  have hl := encC_length c ho
  unfold decC
  have hlen : ((ub (encC c)).take k).length = k := by rw [List.length_take]; omega
  by_cases h40 : k < 40
  · rw [if_pos (by rw [hlen]; exact h40)]
  · have e : ((ub (encC c)).take k).drop 40 = (ub (encL c.b c.l)).take (k - 40) := by
      rw [List.drop_take]
      have := encC_drop40 c ho []
      rw [List.append_nil, List.append_nil] at this
      rw [this]
    rw [if_neg (by rw [hlen]; exact h40), e, decL_cut c.b c.l ho.h (k - 40) (by omega)]
theorem ub_data (xs : List Int) : (strOfNums xs).data.toList = ub xs := by rw [strOfNums_data]; rfl
end Go.Proofs.Ytgafnilcmhjpcaa.HCell
