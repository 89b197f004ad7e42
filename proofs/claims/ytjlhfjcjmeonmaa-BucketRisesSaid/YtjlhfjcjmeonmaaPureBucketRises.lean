/- Buckets rise with the numbers; of a number and its opposite they are opposite. For every number of bits and any two numbers of 64 bits; no conditions. -/
import Derived.Test.YtjlhfjcjmeonmaaBkEval
import Derived.Test.YtjlhfjcjmeonmaaPrint2
namespace Go.Proofs.Ytjlhfjcjmeonmaa.Pure
open Go.RowKit Go.Proofs.Ytjlhfjcjmeonmaa.Print Go.Proofs.Ytjlhfjcjmeonmaa.HBucket Go.Proofs.YtjlhfjcjmeonmaaW.PrintWords Go.Proofs.YtjlhfjcjmeonmaaW.PrintLast Go.Proofs.YtjlhfjcjmeonmaaW.PrintMore

theorem BucketRises : scantlinglaw05_BucketRises.Pure := by
  intro a0 m n h0 hm hn
  obtain ⟨m0, m1⟩ := wf_i64 hm
  obtain ⟨n0, n1⟩ := wf_i64 hn
  obtain ⟨b, hb, hbe⟩ := mod5 a0 h0
  have w0 : -9223372036854775808 ≤ wrap64 (-n) ∧ wrap64 (-n) ≤ 9223372036854775807 := by unfold wrap64; omega
  have r1 : n ≤ m → ofZ b n ≤ ofZ b m := fun h => ofZ_mono b n m hb h n0 m1
  have r2 : m ≤ n → ofZ b m ≤ ofZ b n := fun h => ofZ_mono b m n hb h m0 n1
  have hr := ofZ_range b n hb n0 n1
  have ms := most_lt b hb
  have op : n ≠ wrap64 (-n) → ofZ b (wrap64 (-n)) = wrap64 (-ofZ b n) := by
    intro h
    have e : wrap64 (-n) = -n := by unfold wrap64 at h ⊢; omega
    have hn0 : n ≠ 0 := by rintro rfl; exact h (by rw [e]; rfl)
    have p := ofN_pos b n.natAbs hb (by omega) (by omega)
    rw [e, wrap_id _ (by omega) (by omega)]
    unfold ofZ sgn
    rw [Int.natAbs_neg]
    by_cases h : n < 0
    · rw [if_pos h, if_neg (by omega)]; omega
    · rw [if_neg h, if_pos (by omega)]
  unfold scantlinglaw05_BucketRises.f
  rw [examples_ev, hbe]
  simp only [Option.bind_some, if_true]
  rw [of_ev b m hb m0 m1, of_ev b n hb n0 n1, of_ev b _ hb w0.1 w0.2, near_ev b m n hb m0 m1 n0 n1]
  simp only [Option.bind_some, beq_self_eq_true]
  have bb : ((ofZ b m == ofZ b n) == (ofZ b m == ofZ b n)) = true := beq_self_eq_true _
  by_cases h1 : m > n
  · have a1 := r1 (by omega)
    rw [if_pos h1, if_neg (show ¬ m < n by omega), if_pos (show ofZ b m ≥ ofZ b n from a1)]
    by_cases h2 : n = wrap64 (-n)
    · rw [if_pos h2]
    · rw [if_neg h2, if_pos (op h2)]
  · have a2 := r2 (by omega)
    rw [if_neg h1, if_pos a2]
    by_cases h3 : m < n
    · rw [if_pos h3]
      by_cases h2 : n = wrap64 (-n)
      · rw [if_pos h2]
      · rw [if_neg h2, if_pos (op h2)]
    · have a1 := r1 (by omega)
      rw [if_neg h3, if_pos (show ofZ b m ≥ ofZ b n from a1)]
      by_cases h2 : n = wrap64 (-n)
      · rw [if_pos h2]
      · rw [if_neg h2, if_pos (op h2)]

end Go.Proofs.Ytjlhfjcjmeonmaa.Pure
