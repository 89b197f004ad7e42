/- Any number has the bucket, of any bits, and any bucket the bounds, or none, that the document's answer has. For every input; no conditions. -/
import Derived.Test.YtjlhfjcjmeonmaaBkEval
import Derived.Test.YtjlhfjcjmeonmaaPrint1
namespace Go.Proofs.Ytjlhfjcjmeonmaa.Pure
open Go.RowKit Go.Proofs.Ytjlhfjcjmeonmaa.Print Go.Proofs.Ytjlhfjcjmeonmaa.HBucket Go.Proofs.YtjlhfjcjmeonmaaW.PrintWords Go.Proofs.YtjlhfjcjmeonmaaW.PrintLast Go.Proofs.YtjlhfjcjmeonmaaW.PrintMore

theorem rmost_ev (a : Int) : scantlingref05_Most.f a = bucket_Most.f a := by
  unfold scantlingref05_Most.f scantlingref05_Of.f
  by_cases h : 0 ≤ a ∧ a ≤ 4
  · obtain ⟨b, rfl⟩ := Int.eq_ofNat_of_zero_le h.1
    rw [of_ev b _ (by omega) (by omega) (by omega), most_ev b (by omega)]
    rfl
  · rw [of_ev_no a _ h (by omega) (by omega)]
    unfold bucket_Most.f
    rw [if_neg h]
    rfl

theorem rbounds_fin : ((List.range 5).all fun b => (List.range (2 * mostN b + 2)).all fun i => scantlingref05_Bounds.f 9 (b : Int) ((i : Int) - mostN b - 1) == bucket_Bounds.f (b : Int) ((i : Int) - mostN b - 1)) = true := by decide +kernel

theorem rbounds_ev (B a : Int) : scantlingref05_Bounds.f 9 B a = bucket_Bounds.f B a := by
  by_cases h : 0 ≤ B ∧ B ≤ 4
  · obtain ⟨b, rfl⟩ := Int.eq_ofNat_of_zero_le h.1
    by_cases hr : -(mostN b : Int) - 1 ≤ a ∧ a ≤ mostN b
    · have q := List.all_eq_true.1 (List.all_eq_true.1 rbounds_fin b (List.mem_range.2 (by omega))) (a + mostN b + 1).toNat (List.mem_range.2 (by omega))
      have e : (((a + mostN b + 1).toNat : Nat) : Int) - mostN b - 1 = a := by omega
      rw [e] at q
      exact beq_iff_eq.1 q
    · have ms := most_lt b (by omega)
      rw [bounds_ev_no b a (by omega) hr]
      unfold scantlingref05_Bounds.f
      rw [rmost_ev, most_ev b (by omega)]
      simp only [Option.bind_some]
      rw [if_neg (by omega)]
      have w : wrap64 (wrap64 (-(mostN b : Int)) - 1) = -(mostN b : Int) - 1 := by
        rw [wrap_id (-(mostN b : Int)) (by omega) (by omega), wrap_id _ (by omega) (by omega)]
      rw [w]
      by_cases h1 : a > mostN b
      · rw [if_pos h1]
        rfl
      · rw [if_neg h1, decide_eq_true (show a < -(mostN b : Int) - 1 by omega)]
        rfl
  · have e : bucket_Bounds.f B a = some (0, 0, false) := by unfold bucket_Bounds.f; rw [if_neg h]
    have m : bucket_Most.f B = some (-1) := by unfold bucket_Most.f; rw [if_neg h]
    rw [e]
    unfold scantlingref05_Bounds.f
    rw [rmost_ev, m]
    rfl

theorem rnear_ev (B m n : Int) : scantlingref05_Near.f B m n = bucket_Near.f B m n := rfl

theorem of_some (B n : Int) (h0 : -9223372036854775808 ≤ n) (h1 : n ≤ 9223372036854775807) : ∃ r, bucket_Of.f B n = some r := by
  unfold bucket_Of.f
  rw [if_pos (show I64 n from ⟨h0, h1⟩)]
  split <;> exact ⟨_, rfl⟩

theorem j0_true (B n m a : Int) (n0 : -9223372036854775808 ≤ n) (n1 : n ≤ 9223372036854775807) (m0 : -9223372036854775808 ≤ m) (m1 : m ≤ 9223372036854775807) :
    scantlinglaw05_BucketOf.j0 10 B n m a true = some true := by
  obtain ⟨r, hr⟩ := of_some B n n0 n1
  obtain ⟨s, hs⟩ := of_some B m m0 m1
  obtain ⟨t, ht⟩ : ∃ t, bucket_Bounds.f B a = some t := by (unfold bucket_Bounds.f; (repeat' split) <;> exact ⟨_, rfl⟩)
  obtain ⟨u, hu⟩ : ∃ u, bucket_Most.f B = some u := by unfold bucket_Most.f; split <;> exact ⟨_, rfl⟩
  obtain ⟨v, hv⟩ : ∃ v, bucket_Near.f B n m = some v := by
    unfold bucket_Near.f
    rw [hr, hs]
    simp only [Option.bind_some]
    split <;> exact ⟨_, rfl⟩
  simp only [scantlinglaw05_BucketOf.j0]
  unfold scantlingref05_Of.f
  rw [hr, ht, rbounds_ev, ht]
  simp only [Option.bind_some, if_true, beq_self_eq_true]
  rw [rmost_ev, hu, rnear_ev, hv]
  simp only [Option.bind_some, if_true, beq_self_eq_true]

theorem BucketOf : scantlinglaw05_BucketOf.Pure := by
  intro B n m a near hB hn hm ha
  obtain ⟨n0, n1⟩ := wf_i64 hn
  obtain ⟨m0, m1⟩ := wf_i64 hm
  refine ⟨10, ?_⟩
  unfold scantlinglaw05_BucketOf.f
  rw [examples_ev]
  simp only [Option.bind_some, if_true]
  by_cases h : near = true
  · rw [if_pos h]
    obtain ⟨r, hr⟩ := of_some (Int.tmod B 7) m m0 m1
    unfold scantlingref05_Of.f
    rw [hr]
    simp only [Option.bind_some]
    exact j0_true _ n m _ n0 n1 m0 m1
  · rw [if_neg h]
    exact j0_true _ n m _ n0 n1 m0 m1

end Go.Proofs.Ytjlhfjcjmeonmaa.Pure
