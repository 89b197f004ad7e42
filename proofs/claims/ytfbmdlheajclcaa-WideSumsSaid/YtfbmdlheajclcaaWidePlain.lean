/- Plain laws on sums. -/
import Derived.Test.YtfbmdlheajclcaaWideGiven
namespace Go.Proofs.Ytfbmdlheajclcaa.HWide
open Go.RowKit Go.Proofs.Ytfbmdlheajclcaa.Print Go.Proofs.YtfbmdlheajclcaaW.PrintWords Go.Proofs.YtfbmdlheajclcaaW.PrintLast Go.Proofs.YtfbmdlheajclcaaW.PrintMore

def Sm (v : Int) : Prop := -170141183460469231731687303715884105728 ≤ v ∧ v < 170141183460469231731687303715884105728
theorem val_nrm (v : Int) (h : Sm v) : val (nrm v).1 (nrm v).2 = v := by
  unfold Sm at h
  unfold val nrm wrap64 B64
  simp only
  omega
theorem nrm_val (a b : Int) (h : Rng a b) : nrm (val a b) = (a, b) := by
  unfold Rng at h
  unfold val nrm wrap64 B64
  simp only [Prod.mk.injEq]
  omega
theorem val_Sm (a b : Int) (h : Rng a b) : Sm (val a b) := by
  unfold Rng at h
  unfold Sm val B64
  omega
/-- Two numbers that are the same but for whole turns. -/
theorem nrm_turn (u v : Int) (k : Int) (h : u = v + 340282366920938463463374607431768211456 * k) : nrm u = nrm v := by
  subst h
  unfold nrm wrap64 B64
  simp only [Prod.mk.injEq]
  omega
theorem val_nrm_any (v : Int) : ∃ k, val (nrm v).1 (nrm v).2 = v + 340282366920938463463374607431768211456 * k := by
  unfold val nrm wrap64 B64
  simp only
  refine ⟨-((v / 18446744073709551616 + 9223372036854775808) / 18446744073709551616), ?_⟩
  omega
theorem nrm_add_any (u v : Int) : nrm (val (nrm u).1 (nrm u).2 + v) = nrm (u + v) := by
  obtain ⟨k, hk⟩ := val_nrm_any u
  exact nrm_turn _ _ k (by omega)
theorem nrm_add_any' (u v : Int) : nrm (u + val (nrm v).1 (nrm v).2) = nrm (u + v) := by
  obtain ⟨k, hk⟩ := val_nrm_any v
  exact nrm_turn _ _ k (by omega)
theorem nrm_neg_any (u : Int) : nrm (-val (nrm u).1 (nrm u).2) = nrm (-u) := by
  obtain ⟨k, hk⟩ := val_nrm_any u
  exact nrm_turn _ _ (-k) (by omega)

theorem of_is (n : Int) (h : -9223372036854775808 ≤ n ∧ n < 9223372036854775808) : wide_Of.f n = some (nrm n) := by unfold wide_Of.f; rw [if_pos h]
theorem U64_of (v : Int) : U64 (nrm v).2 := ⟨(nrm_rng v).2.2.1, (nrm_rng v).2.2.2⟩
theorem add_is (u v : Int) : wide_Sum_Add.f (nrm u).1 (nrm u).2 (nrm v).1 (nrm v).2 = some (nrm (u + v)) := by
  unfold wide_Sum_Add.f
  rw [if_pos ⟨U64_of u, U64_of v⟩, nrm_add_any, nrm_add_any']
theorem neg_is (u : Int) : wide_Sum_Neg.f (nrm u).1 (nrm u).2 = some (nrm (-u)) := by
  unfold wide_Sum_Neg.f
  rw [if_pos (U64_of u), nrm_neg_any]
theorem text_is (u : Int) (h : Sm u) : wide_Sum_Text.f (nrm u).1 (nrm u).2 = some (strOfNums (decZ u)) := by
  unfold wide_Sum_Text.f
  rw [if_pos (nrm_rng u), val_nrm u h]

end Go.Proofs.Ytfbmdlheajclcaa.HWide
