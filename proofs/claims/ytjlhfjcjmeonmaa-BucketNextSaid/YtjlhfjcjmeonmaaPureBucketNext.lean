/- Buckets that stand side by side have bounds that do. For every number of bits and every number of 64 bits; no conditions. -/
import Derived.Test.YtjlhfjcjmeonmaaBkEval
import Derived.Test.YtjlhfjcjmeonmaaPrint2
namespace Go.Proofs.Ytjlhfjcjmeonmaa.Pure
open Go.RowKit Go.Proofs.Ytjlhfjcjmeonmaa.Print Go.Proofs.Ytjlhfjcjmeonmaa.HBucket Go.Proofs.YtjlhfjcjmeonmaaW.PrintWords Go.Proofs.YtjlhfjcjmeonmaaW.PrintLast Go.Proofs.YtjlhfjcjmeonmaaW.PrintMore

theorem BucketNext : scantlinglaw05_BucketNext.Pure := by
  intro a0 n h0 hn
  obtain ⟨n0, n1⟩ := wf_i64 hn
  obtain ⟨b, hb, hbe⟩ := mod5 a0 h0
  have hr := ofZ_range b n hb n0 n1
  have br := bounds_range b (ofZ b n) hb hr.1 hr.2
  have ms := most_lt b hb
  have en := ends_of b hb
  unfold scantlinglaw05_BucketNext.f
  rw [examples_ev, hbe]
  simp only [Option.bind_some, if_true]
  rw [of_ev b n hb n0 n1]
  simp only [Option.bind_some]
  rw [bounds_ev b (ofZ b n) hb hr.1 hr.2, most_ev b hb]
  simp only [Option.bind_some]
  rw [wrap_id (ofZ b n + 1) (by omega) (by omega), wrap_id ((mostN b : Int) + 1) (by omega) (by omega), bounds_ev_no b ((mostN b : Int) + 1) hb (by omega)]
  simp only [Option.bind_some, Bool.false_eq_true, if_false]
  by_cases h : ofZ b n + 1 ≤ mostN b
  · rw [bounds_ev b _ hb (by omega) h]
    simp only [Option.bind_some, if_true]
    have nx := nextZ b (ofZ b n) hb hr.1 h
    have br2 := bounds_range b (ofZ b n + 1) hb (by omega) h
    rw [wrap_id (hiZ b (ofZ b n) + 1) (by omega) (by omega), if_pos nx]
  · rw [bounds_ev_no b _ hb (by omega)]
    simp only [Option.bind_some, Bool.false_eq_true, if_false]
    have e : ofZ b n = mostN b := by omega
    rw [e]
    have : hiZ b (mostN b : Int) = 9223372036854775807 := by
      unfold hiZ
      rw [if_neg (by omega), Int.natAbs_natCast, en.1]
      rfl
    rw [this]
    rfl

end Go.Proofs.Ytjlhfjcjmeonmaa.Pure
