/- Cells: in whatever order they were added, and merged, it is the same. Plain laws. -/
import Derived.Test.YtgafnilcmhjpcaaCellMoves
import Derived.Test.YtgafnilcmhjpcaaIlOrder
namespace Go.Proofs.Ytgafnilcmhjpcaa.HCell
set_option linter.unusedVariables false
open Go.RowKit Go.Proofs.Ytgafnilcmhjpcaa.HMem Go.Proofs.Ytgafnilcmhjpcaa.HHist Go.Proofs.Ytgafnilcmhjpcaa.HWide
open Go.Proofs.Ytgafnilcmhjpcaa.Print (I64)

def minL : List Int → Int
  | [] => 0
  | x :: r => r.foldl min x
def maxL : List Int → Int
  | [] => 0
  | x :: r => r.foldl max x
theorem minL_snoc (ns : List Int) (x : Int) : minL (ns ++ [x]) = if ns = [] then x else min (minL ns) x := by
  cases ns with
  | nil => rfl
  | cons y r => rw [if_neg (by simp)]; simp [minL, List.foldl_append]
theorem maxL_snoc (ns : List Int) (x : Int) : maxL (ns ++ [x]) = if ns = [] then x else max (maxL ns) x := by
  cases ns with
  | nil => rfl
  | cons y r => rw [if_neg (by simp)]; simp [maxL, List.foldl_append]
theorem ofC_snoc (fr : Int) (b : Nat) (ns : List Int) (x : Int) : ofC fr b (ns ++ [x]) = (addC (ofC fr b ns) x).1 := by
  unfold ofC; rw [List.foldl_append]; rfl
theorem sum_snoc (ns : List Int) (x : Int) : (ns ++ [x]).sum = ns.sum + x := by simp
theorem sum_bound : ∀ (ns : List Int), (∀ x ∈ ns, I64 x) → -(9223372036854775808 * (ns.length : Int)) ≤ ns.sum ∧ ns.sum ≤ 9223372036854775808 * (ns.length : Int)
  | [], _ => by simp
  | x :: r, h => by
    have h1 := sum_bound r fun y hy => h y (by simp [hy])
    have h2 := h x (by simp)
    unfold Print.I64 at h2
    rw [List.sum_cons, List.length_cons]
    omega
/-- What a cell of numbers is. -/
theorem ofC_is (fr : Int) (b : Nat) : ∀ (k : Nat) (ns : List Int), ns.length = k → k ≤ 1000 → (∀ x ∈ ns, I64 x) → ofC fr b ns = ⟨fr, nrm ns.sum, minL ns, maxL ns, b, ofL b ns⟩
  | 0, ns, hl, _, _ => by
    rw [List.length_eq_zero_iff.1 hl]
    have e : nrm (List.sum ([] : List Int)) = (0, 0) := by decide +kernel
    rw [e]
    rfl
  | k + 1, ns, hl, hk, hz => by
    rcases List.eq_nil_or_concat ns with rfl | ⟨L, x, rfl⟩
    · simp at hl
    · rw [List.concat_eq_append] at hl hz ⊢
      have hL : L.length = k := by simpa using hl
      have hzL : ∀ y ∈ L, I64 y := fun y hy => hz y (by simp [hy])
      have hx : I64 x := hz x (by simp)
      have ih := ofC_is fr b k L hL (by omega) hzL
      have hb := sum_bound L hzL
      unfold Print.I64 at hx
      have ht : HHist.total (ofL b L) = k := by rw [total_ofL, hL]
      rw [ofC_snoc, ih]
      unfold addC addL
      simp only []
      rw [if_neg (by omega), if_neg (by omega), minL_snoc, maxL_snoc, sum_snoc, ofL_snoc]
      unfold takeC
      rw [if_neg (by omega)]
      simp only [loT, hiT, sT]
      rw [val_nrm L.sum (by omega), val_nrm x (by omega), ht]
      have e : (k = 0) ↔ (L = []) := by
        rw [← hL]; exact List.length_eq_zero_iff
      by_cases h0 : k = 0
      · rw [if_pos h0, if_pos h0, if_pos (e.1 h0), if_pos (e.1 h0), Int.min_self, Int.max_self]
      · rw [if_neg h0, if_neg h0, if_neg (fun q => h0 (e.2 q)), if_neg (fun q => h0 (e.2 q))]
theorem minL_app : ∀ (k : Nat) (ys : List Int), ys.length = k → ∀ xs : List Int, minL (xs ++ ys) = if xs = [] then minL ys else if ys = [] then minL xs else min (minL xs) (minL ys)
  | 0, ys, hl, xs => by
    rw [List.length_eq_zero_iff.1 hl, List.append_nil]
    by_cases h : xs = []
    · rw [if_pos h, h]
    · rw [if_neg h, if_pos rfl]
  | k + 1, ys, hl, xs => by
    rcases List.eq_nil_or_concat ys with rfl | ⟨L, x, rfl⟩
    · simp at hl
    · rw [List.concat_eq_append] at hl ⊢
      have hL : L.length = k := by simpa using hl
      rw [← List.append_assoc, minL_snoc, minL_snoc, minL_app k L hL xs]
      by_cases h : xs = []
      · subst h
        simp
      · have h2 : xs ++ L ≠ [] := by simp [h]
        rw [if_neg h2, if_neg h, if_neg h, if_neg (show L ++ [x] ≠ [] by simp)]
        by_cases h3 : L = []
        · rw [if_pos h3, if_pos h3]
        · rw [if_neg h3, if_neg h3, Int.min_assoc]
theorem maxL_app : ∀ (k : Nat) (ys : List Int), ys.length = k → ∀ xs : List Int, maxL (xs ++ ys) = if xs = [] then maxL ys else if ys = [] then maxL xs else max (maxL xs) (maxL ys)
  | 0, ys, hl, xs => by
    rw [List.length_eq_zero_iff.1 hl, List.append_nil]
    by_cases h : xs = []
    · rw [if_pos h, h]
    · rw [if_neg h, if_pos rfl]
  | k + 1, ys, hl, xs => by
    rcases List.eq_nil_or_concat ys with rfl | ⟨L, x, rfl⟩
    · simp at hl
    · rw [List.concat_eq_append] at hl ⊢
      have hL : L.length = k := by simpa using hl
      rw [← List.append_assoc, maxL_snoc, maxL_snoc, maxL_app k L hL xs]
      by_cases h : xs = []
      · subst h
        simp
      · have h2 : xs ++ L ≠ [] := by simp [h]
        rw [if_neg h2, if_neg h, if_neg h, if_neg (show L ++ [x] ≠ [] by simp)]
        by_cases h3 : L = []
        · rw [if_pos h3, if_pos h3]
        · rw [if_neg h3, if_neg h3, Int.max_assoc]
theorem minL_rev : ∀ xs : List Int, minL xs.reverse = minL xs
  | [] => rfl
  | x :: r => by
    rw [List.reverse_cons, minL_snoc, minL_rev r]
    have h := minL_app r.length r rfl [x]
    rw [List.singleton_append] at h
    rw [h, if_neg (show ([x] : List Int) ≠ [] by simp)]
    by_cases h0 : r = []
    · rw [if_pos (by simp [h0]), if_pos h0]; rfl
    · rw [if_neg (by simp [h0]), if_neg h0, Int.min_comm]; rfl
theorem maxL_rev : ∀ xs : List Int, maxL xs.reverse = maxL xs
  | [] => rfl
  | x :: r => by
    rw [List.reverse_cons, maxL_snoc, maxL_rev r]
    have h := maxL_app r.length r rfl [x]
    rw [List.singleton_append] at h
    rw [h, if_neg (show ([x] : List Int) ≠ [] by simp)]
    by_cases h0 : r = []
    · rw [if_pos (by simp [h0]), if_pos h0]; rfl
    · rw [if_neg (by simp [h0]), if_neg h0, Int.max_comm]; rfl
/-- Merged, or added in the other order: the same. -/
theorem order_is (fr fr' : Int) (b : Nat) (ls ms : List Int) (hl : ls.length ≤ 30) (hm : ms.length ≤ 30) (hzl : ∀ x ∈ ls, I64 x) (hzm : ∀ x ∈ ms, I64 x) :
    mergeC (ofC fr b ls) (ofC fr' b ms) = (ofC fr b (ms.reverse ++ ls.reverse), 0) := by
  have hz : ∀ x ∈ ms.reverse ++ ls.reverse, I64 x := fun x hx => by
    rcases List.mem_append.1 hx with h | h
    · exact hzm x (List.mem_reverse.1 h)
    · exact hzl x (List.mem_reverse.1 h)
  rw [ofC_is fr b _ ls rfl (by omega) hzl, ofC_is fr' b _ ms rfl (by omega) hzm, ofC_is fr b _ (ms.reverse ++ ls.reverse) rfl (by simp; omega) hz]
  unfold mergeC
  simp only []
  rw [merge_order' b ls ms (by omega), if_pos rfl]
  have bl := sum_bound ls hzl
  have bm := sum_bound ms hzm
  unfold takeC
  rw [total_ofL, total_ofL]
  by_cases h0 : ms.length = 0
  · have e := List.length_eq_zero_iff.1 h0
    subst e
    simp [minL_rev, maxL_rev]
  · rw [if_neg h0]
    have hmn : ms.reverse ≠ [] := by intro e; exact h0 (by rw [← List.length_reverse, e]; rfl)
    simp only [loT, hiT, sT]
    rw [val_nrm ls.sum (by omega), val_nrm ms.sum (by omega), minL_app _ _ rfl, maxL_app _ _ rfl, if_neg hmn, if_neg hmn, minL_rev, maxL_rev, minL_rev, maxL_rev]
    have es : (ms.reverse ++ ls.reverse).sum = ls.sum + ms.sum := by simp [List.sum_reverse]; omega
    rw [es]
    by_cases h1 : ls.length = 0
    · have e := List.length_eq_zero_iff.1 h1
      subst e
      simp
    · have hln : ls.reverse ≠ [] := by intro e; exact h1 (by rw [← List.length_reverse, e]; rfl)
      rw [if_neg h1, if_neg h1, if_neg hln, if_neg hln, Int.min_comm, Int.max_comm]
end Go.Proofs.Ytgafnilcmhjpcaa.HCell
