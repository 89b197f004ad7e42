/- What the printed compare, Less, Sign and Of answer. -/
import Derived.Test.YtfbmdlheajclcaaPrintT2
import Derived.Test.YtfbmdlheajclcaaWideGet
namespace Go.Proofs.Ytfbmdlheajclcaa.HWide
open Go.RowKit Go.Proofs.Ytfbmdlheajclcaa.Print Go.Proofs.Ytfbmdlheajclcaa.PrintT Go.Proofs.YtfbmdlheajclcaaW.PrintWords Go.Proofs.YtfbmdlheajclcaaW.PrintLast Go.Proofs.YtfbmdlheajclcaaW.PrintMore

theorem or_ev (a b : Int) : cmp_Or_int.f 10 [a, b] = some (if a = 0 then b else a) := by
  have h0 : rd [a, b] 0 = a := rfl
  have h1 : rd [a, b] 1 = b := rfl
  have w1 : wrap64 (0 + 1) = 1 := by decide +kernel
  have w2 : wrap64 (1 + 1) = 2 := by decide +kernel
  unfold cmp_Or_int.f
  simp only [cmp_Or_int.l0, List.length_cons, List.length_nil, h0, h1, w1, w2]
  by_cases ha : a = 0
  · by_cases hb : b = 0
    · subst ha; subst hb; rfl
    · subst ha; simp [hb]
  · simp [ha]
def cmpI (a b : Int) : Int := if a < b then -1 else if a > b then 1 else 0
theorem cmp64_ev (a b : Int) : cmp_Compare_int64.f a b = some (cmpI a b) := by
  unfold cmp_Compare_int64.f cmp_isNaN_int64.f cmpI
  by_cases h1 : a < b
  · simp [h1]
  · by_cases h2 : a > b
    · simp [h1, h2]
    · simp [h1, h2]
theorem cmpu_ev (a b : Int) : cmp_Compare_uint64.f a b = some (cmpI a b) := by
  unfold cmp_Compare_uint64.f cmp_isNaN_uint64.f cmpI
  by_cases h1 : a < b
  · simp [h1]
  · by_cases h2 : a > b
    · simp [h1, h2]
    · simp [h1, h2]
theorem cmpI_val (a b c d : Int) (h : Rng a b) (k : Rng c d) : (if cmpI a c = 0 then cmpI b d else cmpI a c) = cmpI (val a b) (val c d) := by
  unfold Rng at h k
  unfold cmpI val B64
  by_cases h1 : a < c
  · rw [if_pos h1, if_neg (by omega), if_pos (by omega)]
  · by_cases h2 : a > c
    · rw [if_neg h1, if_pos h2, if_neg (by omega), if_neg (by omega), if_pos (by omega)]
    · rw [if_neg h1, if_neg h2, if_pos rfl]
      by_cases h3 : b < d
      · rw [if_pos h3, if_pos (by omega)]
      · by_cases h4 : b > d
        · rw [if_neg h3, if_pos h4, if_neg (by omega), if_pos (by omega)]
        · rw [if_neg h3, if_neg h4, if_neg (by omega), if_neg (by omega)]
theorem compare_ev (a b c d : Int) (h : Rng a b) (k : Rng c d) : wide_compare.f 10 a b c d = some (cmpI (val a b) (val c d)) := by
  unfold wide_compare.f
  rw [cmp64_ev, cmpu_ev]
  simp only [Option.bind_some, or_ev, cmpI_val a b c d h k]
theorem less_ev (a b c d : Int) (h : Rng a b) (k : Rng c d) : wide_Sum_Less.f 10 a b c d = some (decide (val a b < val c d)) := by
  unfold wide_Sum_Less.f
  rw [compare_ev a b c d h k]
  simp only [Option.bind_some]
  congr 1
  unfold cmpI
  by_cases h1 : val a b < val c d
  · rw [if_pos h1]; simp [h1]
  · rw [if_neg h1]
    by_cases h2 : val a b > val c d
    · rw [if_pos h2]; simp [h1]
    · rw [if_neg h2]; simp [h1]
theorem sign_ev (a b : Int) (h : Rng a b) : wide_Sum_Sign.f 10 a b = some (cmpI (val a b) 0) := by
  unfold wide_Sum_Sign.f
  rw [compare_ev a b 0 0 h (by decide)]
  rfl
theorem of_ev (n : Int) (h : -9223372036854775808 ≤ n ∧ n < 9223372036854775808) : wide_Of.f n = some (nrm n) := by
  unfold wide_Of.f nrm wrap64 B64
  congr 1
  simp only [Prod.mk.injEq]
  refine ⟨by omega, rfl⟩

end Go.Proofs.Ytfbmdlheajclcaa.HWide
