/- Each number stands in the bounds of its bucket; the bounds have the bucket; it is narrow. For every number of bits and every number of 64 bits; no conditions. -/
import Derived.Test.YtjlhfjcjmeonmaaBkEval
import Derived.Test.YtjlhfjcjmeonmaaPrint2
namespace Go.Proofs.Ytjlhfjcjmeonmaa.Pure
open Go.RowKit Go.Proofs.Ytjlhfjcjmeonmaa.Print Go.Proofs.Ytjlhfjcjmeonmaa.HBucket Go.Proofs.YtjlhfjcjmeonmaaW.PrintWords Go.Proofs.YtjlhfjcjmeonmaaW.PrintLast Go.Proofs.YtjlhfjcjmeonmaaW.PrintMore

theorem u64_of (x : Int) (h0 : 0 ≤ x) (h1 : x ≤ 18446744073709551615) : IntKind.u64.wrap x = x := u64_id x h0 h1

theorem wide_is (l h : Int) (hl : -9223372036854775808 ≤ l) (hlh : l ≤ h) (hh : h ≤ 9223372036854775807) : IntKind.u64.wrap (IntKind.u64.wrap h - IntKind.u64.wrap l) = h - l := by
  simp only [IntKind.wrap, IntKind.signed, IntKind.bits, Bool.false_and, Bool.false_eq_true, if_false]
  omega

theorem neg_is (h : Int) (h0 : h < 0) (h1 : -9223372036854775808 ≤ h) : IntKind.u64.wrap (-IntKind.u64.wrap h) = -h := by
  simp only [IntKind.wrap, IntKind.signed, IntKind.bits, Bool.false_and, Bool.false_eq_true, if_false]
  omega

theorem shr_is (x b : Nat) (hb : b ≤ 4) : shr .u64 (x : Int) (b : Int) = ((x / 2 ^ b : Nat) : Int) := by
  unfold shr
  rw [Int.toNat_natCast, Nat.min_eq_left (by simp only [IntKind.bits]; omega)]
  push_cast; rfl

/-- How wide a bucket is. -/
theorem narrow (b : Nat) (n : Int) (hb : b ≤ 4) (h0 : -9223372036854775808 ≤ n) (h1 : n ≤ 9223372036854775807) :
    hiZ b (ofZ b n) - loZ b (ofZ b n) = 0 ∨ hiZ b (ofZ b n) - loZ b (ofZ b n) + 1 ≤ (((if n < 0 then (-hiZ b (ofZ b n)).toNat else (loZ b (ofZ b n)).toNat) / 2 ^ b : Nat) : Int) := by
  have hs := ofZ_sign b n hb h0
  have ha := ofZ_abs b n
  have hr := ofZ_range b n hb h0 h1
  have c := chkC_of b (ofZ b n).natAbs hb (by omega)
  have en := ends_of b hb
  have q := chkB_of b (ofZ b n).natAbs hb (by omega)
  by_cases h : n < 0
  · rw [if_pos h]
    unfold loZ hiZ
    rw [if_pos (hs.1 h), if_pos (hs.1 h)]
    by_cases hm : (ofZ b n).natAbs ≤ mostN b
    · have := q.2.2.2.2 hm
      rw [Nat.min_eq_left (by omega)]
      have e : (- -(loN b (ofZ b n).natAbs : Int)).toNat = loN b (ofZ b n).natAbs := by omega
      rw [e]
      rcases c.2.2.2.2 with z | z
      · left; omega
      · right
        have := c.2.2.2.1
        omega
    · left
      have e : (ofZ b n).natAbs = mostN b + 1 := by omega
      have : loN b (ofZ b n).natAbs = 9223372036854775808 := by rw [e]; exact en.2.1
      have := c.2.2.2.1
      rw [Nat.min_eq_right (by omega)]
      omega
  · rw [if_neg h]
    have hn : ¬ ofZ b n < 0 := fun z => h (hs.2 z)
    unfold loZ hiZ
    rw [if_neg hn, if_neg hn, Int.toNat_natCast]
    rcases c.2.2.2.2 with z | z
    · left; omega
    · right
      have := c.2.2.2.1
      omega

theorem BucketHolds : scantlinglaw05_BucketHolds.Pure := by
  intro a0 n h0 hn
  obtain ⟨n0, n1⟩ := wf_i64 hn
  obtain ⟨b, hb, hbe⟩ := mod5 a0 h0
  have hr := ofZ_range b n hb n0 n1
  have hz := holdsZ b n hb n0 n1
  have br := bounds_range b (ofZ b n) hb hr.1 hr.2
  have ol := of_loZ b (ofZ b n) hb hr.1 hr.2
  have hs := ofZ_sign b n hb n0
  have nw := narrow b n hb n0 n1
  have s2 := ofZ_sign b (hiZ b (ofZ b n)) hb (by omega)
  have s1 := ofZ_sign b (loZ b (ofZ b n)) hb (by omega)
  unfold scantlinglaw05_BucketHolds.f
  rw [examples_ev, hbe]
  simp only [Option.bind_some, if_true]
  rw [of_ev b n hb n0 n1]
  simp only [Option.bind_some]
  rw [bounds_ev b (ofZ b n) hb hr.1 hr.2]
  simp only [Option.bind_some]
  rw [of_ev b (loZ b (ofZ b n)) hb br.1 (by omega), of_ev b (hiZ b (ofZ b n)) hb (by omega) br.2.2]
  simp only [Option.bind_some, if_true]
  rw [near_ev b _ _ hb br.1 (by omega) (by omega) br.2.2, wide_is _ _ br.1 br.2.1 br.2.2]
  have nb : ((ofZ b (loZ b (ofZ b n)) == ofZ b (hiZ b (ofZ b n)))) = true := by rw [ol.1, ol.2]; exact beq_self_eq_true _
  rw [nb]
  simp only [Option.bind_some]
  have hb0 : (0 : Int) ≤ (b : Int) := by omega
  by_cases h : n < 0
  · have hh : hiZ b (ofZ b n) < 0 := s2.2 (by rw [ol.2]; exact hs.1 h)
    rw [if_pos h] at nw
    rw [if_pos h, if_pos hz.1, if_pos hz.2, if_pos ol.1, if_pos ol.2, if_pos hb0, neg_is _ hh (by omega)]
    have e : -hiZ b (ofZ b n) = (((-hiZ b (ofZ b n)).toNat : Nat) : Int) := by omega
    rw [e, shr_is _ b hb]
    rcases nw with z | z
    · rw [if_pos z]
    · rw [u64_of _ (by omega) (by omega)]
      by_cases z0 : hiZ b (ofZ b n) - loZ b (ofZ b n) = 0
      · rw [if_pos z0]
      · rw [if_neg z0]
        by_cases z1 : hiZ b (ofZ b n) - loZ b (ofZ b n) < (((-hiZ b (ofZ b n)).toNat / 2 ^ b : Nat) : Int)
        · rw [if_pos z1]
        · rw [if_neg z1, if_pos z]
  · have hh : ¬ loZ b (ofZ b n) < 0 := fun z => h (hs.2 (by rw [← ol.1]; exact s1.1 z))
    rw [if_neg h] at nw
    rw [if_neg h, if_pos hz.1, if_pos hz.2, if_pos ol.1, if_pos ol.2, if_pos hb0, u64_of (loZ b (ofZ b n)) (by omega) (by omega)]
    have e : loZ b (ofZ b n) = (((loZ b (ofZ b n)).toNat : Nat) : Int) := by omega
    by_cases z0 : hiZ b (ofZ b n) - loZ b (ofZ b n) = 0
    · rw [if_pos z0]
    · rw [if_neg z0]
      have z := nw.resolve_left z0
      rw [u64_of _ (by omega) (by omega)]
      have se : shr .u64 (loZ b (ofZ b n)) (b : Int) = (((loZ b (ofZ b n)).toNat / 2 ^ b : Nat) : Int) := by
        rw [← shr_is _ b hb, ← e]
      rw [se]
      by_cases z1 : hiZ b (ofZ b n) - loZ b (ofZ b n) < (((loZ b (ofZ b n)).toNat / 2 ^ b : Nat) : Int)
      · rw [if_pos z1]
      · rw [if_neg z1, if_pos z]

end Go.Proofs.Ytjlhfjcjmeonmaa.Pure
