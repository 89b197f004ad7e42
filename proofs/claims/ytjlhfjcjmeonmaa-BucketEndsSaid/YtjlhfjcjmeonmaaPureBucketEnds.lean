/- The least and the greatest number have the first and the last bucket; beyond there is none; small numbers have their own. For every number of bits and every small number; no conditions. -/
import Derived.Test.YtjlhfjcjmeonmaaBkEval
import Derived.Test.YtjlhfjcjmeonmaaPrint3
namespace Go.Proofs.Ytjlhfjcjmeonmaa.Pure
open Go.RowKit Go.Proofs.Ytjlhfjcjmeonmaa.Print Go.Proofs.Ytjlhfjcjmeonmaa.HBucket Go.Proofs.YtjlhfjcjmeonmaaW.PrintWords Go.Proofs.YtjlhfjcjmeonmaaW.PrintLast Go.Proofs.YtjlhfjcjmeonmaaW.PrintMore

theorem ends_fin : ((List.range 5).all fun b => (List.range 256).all fun n => scantlinglaw05_BucketEnds.f (b : Int) (n : Int) == some true) = true := by decide +kernel

theorem BucketEnds : scantlinglaw05_BucketEnds.Pure := by
  intro a0 a1 h0 h1
  obtain ⟨n0, n1⟩ := wf_u8 h1
  obtain ⟨b, hb, hbe⟩ := mod5 a0 h0
  obtain ⟨n, rfl⟩ := Int.eq_ofNat_of_zero_le n0
  have h := List.all_eq_true.1 (List.all_eq_true.1 ends_fin b (List.mem_range.2 (by omega))) n (List.mem_range.2 (by omega))
  have h := beq_iff_eq.1 h
  have e : wrap64 (Int.tmod (b : Int) 5) = (b : Int) := by
    rw [show Int.tmod (b : Int) 5 = ((b % 5 : Nat) : Int) from rfl]
    rw [Nat.mod_eq_of_lt (by omega)]
    exact wrap_id _ (by omega) (by omega)
  unfold scantlinglaw05_BucketEnds.f at h ⊢
  rw [e] at h
  rw [hbe]
  exact h

end Go.Proofs.Ytjlhfjcjmeonmaa.Pure
