/- Histograms: Quantile, walked. -/
import Derived.Test.YtgafnilcmhjpcaaHist5
namespace Go.Proofs.Ytgafnilcmhjpcaa.HHist
set_option linter.unusedVariables false
open Go.RowKit Go.Proofs.Ytgafnilcmhjpcaa.HMem Go.Proofs.Ytgafnilcmhjpcaa.HBucket
open Go.Proofs.Ytgafnilcmhjpcaa.Print (I64)

/-- The bounds of a part, the error. -/
def quantL (b : Nat) (l : IL) (num den : Nat) : Int × Int × Int :=
  if den < 1 ∨ 1000000 < den ∨ den < num then (0, 0, 1) else if total l = 0 then (0, 0, 5) else
    (loZ b (rankZ l (max ((total l * num + den - 1) / den) 1)).1, hiZ b (rankZ l (max ((total l * num + den - 1) / den) 1)).1, 0)
theorem rankL_mem : ∀ (l : IL) (r : Nat) (a : Int), rankL l r = some a → ∃ x ∈ l, x.1 = a
  | [], r, a, h => by simp [rankL] at h
  | x :: t, r, a, h => by
    rw [rankL] at h
    split at h
    · exact ⟨x, by simp, by simpa using h⟩
    · obtain ⟨y, hy, e⟩ := rankL_mem t _ a h
      exact ⟨y, by simp [hy], e⟩
theorem rankZ_range {b : Nat} {l : IL} (h : HOk b l) (r : Nat) : -(mostN b : Int) - 1 ≤ (rankZ l r).1 ∧ (rankZ l r).1 ≤ mostN b := by
  unfold rankZ
  split
  · show _ ≤ (0 : Int) ∧ (0 : Int) ≤ _; omega
  · split
    · rename_i a ha
      obtain ⟨x, hx, rfl⟩ := rankL_mem l r a ha
      exact (h.item x hx).2
    · show _ ≤ (0 : Int) ∧ (0 : Int) ≤ _; omega
theorem quant_eq (T num den : Nat) (h0 : 1 ≤ den) (hb : T * num + den - 1 < 18446744073709551616) : max (IntKind.u64.wrap ((((T : Int) * (num : Int) + (den : Int) - 1)).tdiv (den : Int))) 1 = ((max ((T * num + den - 1) / den) 1 : Nat) : Int) := by
  have e : (T : Int) * (num : Int) + (den : Int) - 1 = ((T * num + den - 1 : Nat) : Int) := by
    rw [Int.natCast_sub (by omega)]
    simp
  have hd := Nat.div_le_self (T * num + den - 1) den
  obtain ⟨z, hz⟩ : ∃ z, z = (T * num + den - 1) / den := ⟨_, rfl⟩
  have e2 : ((T * num + den - 1 : Nat) : Int).tdiv (den : Int) = (z : Int) := by rw [Int.tdiv_eq_ediv_of_nonneg (by omega), hz]; rfl
  rw [e, e2, ← hz, u64_in _ (by omega) (by omega)]
  omega

end Go.Proofs.Ytgafnilcmhjpcaa.HHist
