/- With a bit more a bucket is parted in two, or stays as it is; who stands within the bounds has the bucket. For every number of bits and any two numbers of 64 bits; no conditions. -/
import Derived.Test.YtjlhfjcjmeonmaaBkEval
import Derived.Test.YtjlhfjcjmeonmaaPrint3
namespace Go.Proofs.Ytjlhfjcjmeonmaa.Pure
open Go.RowKit Go.Proofs.Ytjlhfjcjmeonmaa.Print Go.Proofs.Ytjlhfjcjmeonmaa.HBucket Go.Proofs.YtjlhfjcjmeonmaaW.PrintWords Go.Proofs.YtjlhfjcjmeonmaaW.PrintLast Go.Proofs.YtjlhfjcjmeonmaaW.PrintMore

theorem BucketFine : scantlinglaw05_BucketFine.Pure := by
  intro a0 m n h0 hm hn
  obtain ⟨m0, m1⟩ := wf_i64 hm
  obtain ⟨n0, n1⟩ := wf_i64 hn
  obtain ⟨b, hb, hbe⟩ := mod4 a0 h0
  have hr := ofZ_range b m (by omega) m0 m1
  have wi := withinZ b (ofZ b m) n (by omega) hr.1 hr.2 n0 n1
  have fi := fineZ b m n hb m0 m1 n0 n1
  have e1 : wrap64 ((b : Int) + 1) = ((b + 1 : Nat) : Int) := by rw [wrap_id _ (by omega) (by omega)]; rfl
  unfold scantlinglaw05_BucketFine.f
  rw [examples_ev, hbe, e1]
  simp only [Option.bind_some, if_true]
  rw [near_ev (b + 1) m n (by omega) m0 m1 n0 n1, near_ev b m n (by omega) m0 m1 n0 n1, of_ev b m (by omega) m0 m1]
  simp only [Option.bind_some]
  rw [bounds_ev b (ofZ b m) (by omega) hr.1 hr.2]
  simp only [Option.bind_some, if_true]
  have key : (if loZ b (ofZ b m) ≤ n then some ((ofZ b m == ofZ b n) == decide (n ≤ hiZ b (ofZ b m))) else some ((ofZ b m == ofZ b n) == false)) = some true := by
    by_cases h1 : loZ b (ofZ b m) ≤ n
    · rw [if_pos h1]
      by_cases h2 : n ≤ hiZ b (ofZ b m)
      · rw [wi.2 ⟨h1, h2⟩, decide_eq_true h2, beq_self_eq_true]; rfl
      · rw [decide_eq_false h2, show (ofZ b m == ofZ b n) = false from beq_eq_false_iff_ne.2 fun e => h2 (wi.1 e.symm).2]; rfl
    · rw [if_neg h1, show (ofZ b m == ofZ b n) = false from beq_eq_false_iff_ne.2 fun e => h1 (wi.1 e.symm).1]; rfl
  by_cases h1 : (ofZ (b + 1) m == ofZ (b + 1) n) = true
  · rw [if_pos h1]
    have h2 : (ofZ b m == ofZ b n) = true := beq_iff_eq.2 (fi (beq_iff_eq.1 h1))
    rw [if_pos h2]
    exact key
  · rw [if_neg h1]
    exact key

end Go.Proofs.Ytjlhfjcjmeonmaa.Pure
