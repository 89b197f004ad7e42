/- What the printed functions of the package bucket come to, in the words of the plain laws. -/
import Derived.Test.YtjlhfjcjmeonmaaBkPlain
import Derived.Test.YtjlhfjcjmeonmaaPrint1
namespace Go.Proofs.Ytjlhfjcjmeonmaa.Pure
open Go.RowKit Go.Proofs.Ytjlhfjcjmeonmaa.Print Go.Proofs.Ytjlhfjcjmeonmaa.HBucket

theorem wf_i64 {n : Int} (h : (Lit.int .i64 n).wf = true) : -9223372036854775808 ≤ n ∧ n ≤ 9223372036854775807 := by
  simp only [Lit.wf, IntKind.min, IntKind.max, IntKind.signed, IntKind.bits, Bool.and_eq_true, decide_eq_true_eq, if_true] at h
  exact ⟨by omega, by omega⟩
theorem wf_u8 {n : Int} (h : (Lit.int .u8 n).wf = true) : 0 ≤ n ∧ n ≤ 255 := by
  simp only [Lit.wf, IntKind.min, IntKind.max, IntKind.signed, IntKind.bits, Bool.and_eq_true, decide_eq_true_eq, Bool.false_eq_true, if_false] at h
  exact ⟨by omega, by omega⟩

theorem wrap_id (x : Int) (h0 : -9223372036854775808 ≤ x) (h1 : x ≤ 9223372036854775807) : wrap64 x = x := by
  unfold wrap64; omega

theorem mod5 (a : Int) (h : (Lit.int .u8 a).wf = true) : ∃ b : Nat, b ≤ 4 ∧ wrap64 (Int.tmod a 5) = b := by
  obtain ⟨h0, h1⟩ := wf_u8 h
  obtain ⟨n, rfl⟩ := Int.eq_ofNat_of_zero_le h0
  refine ⟨n % 5, by omega, ?_⟩
  rw [show Int.tmod (n : Int) 5 = ((n % 5 : Nat) : Int) from rfl]
  exact wrap_id _ (by omega) (by omega)
theorem mod4 (a : Int) (h : (Lit.int .u8 a).wf = true) : ∃ b : Nat, b ≤ 3 ∧ wrap64 (Int.tmod a 4) = b := by
  obtain ⟨h0, h1⟩ := wf_u8 h
  obtain ⟨n, rfl⟩ := Int.eq_ofNat_of_zero_le h0
  refine ⟨n % 4, by omega, ?_⟩
  rw [show Int.tmod (n : Int) 4 = ((n % 4 : Nat) : Int) from rfl]
  exact wrap_id _ (by omega) (by omega)

theorem of_ev (b : Nat) (n : Int) (hb : b ≤ 4) (h0 : -9223372036854775808 ≤ n) (h1 : n ≤ 9223372036854775807) : bucket_Of.f (b : Int) n = some (ofZ b n, true) := by
  unfold bucket_Of.f
  rw [if_pos (show I64 n from ⟨h0, h1⟩), if_pos (by omega)]
  rfl
theorem of_ev_no (a : Int) (n : Int) (ha : ¬ (0 ≤ a ∧ a ≤ 4)) (h0 : -9223372036854775808 ≤ n) (h1 : n ≤ 9223372036854775807) : bucket_Of.f a n = some (0, false) := by
  unfold bucket_Of.f
  rw [if_pos (show I64 n from ⟨h0, h1⟩), if_neg ha]
theorem most_ev (b : Nat) (hb : b ≤ 4) : bucket_Most.f (b : Int) = some (mostN b : Int) := by
  unfold bucket_Most.f
  rw [if_pos (by omega)]
  rfl
theorem bounds_ev (b : Nat) (a : Int) (hb : b ≤ 4) (h0 : -(mostN b : Int) - 1 ≤ a) (h1 : a ≤ mostN b) : bucket_Bounds.f (b : Int) a = some (loZ b a, hiZ b a, true) := by
  unfold bucket_Bounds.f
  rw [if_pos (by omega), Int.toNat_natCast, if_pos ⟨h0, h1⟩]
theorem bounds_ev_no (b : Nat) (a : Int) (hb : b ≤ 4) (h : ¬ (-(mostN b : Int) - 1 ≤ a ∧ a ≤ mostN b)) : bucket_Bounds.f (b : Int) a = some (0, 0, false) := by
  unfold bucket_Bounds.f
  rw [if_pos (by omega), Int.toNat_natCast, if_neg h]
theorem near_ev (b : Nat) (m n : Int) (hb : b ≤ 4) (h0 : -9223372036854775808 ≤ m) (h1 : m ≤ 9223372036854775807) (g0 : -9223372036854775808 ≤ n) (g1 : n ≤ 9223372036854775807) :
    bucket_Near.f (b : Int) m n = some (ofZ b m == ofZ b n) := by
  unfold bucket_Near.f
  rw [of_ev b m hb h0 h1, of_ev b n hb g0 g1]
  rfl

theorem examples_ev : scantlinglaw05_examples.f = some true := by decide +kernel

end Go.Proofs.Ytjlhfjcjmeonmaa.Pure
