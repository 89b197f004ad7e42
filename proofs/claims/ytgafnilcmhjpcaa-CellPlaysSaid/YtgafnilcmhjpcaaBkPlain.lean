/- Plain laws of buckets: what bucket a number has, and the bounds of a bucket; no program in sight. For 0 to 4 bits and numbers of 64 bits. -/
import Derived.Test.YtgafnilcmhjpcaaBucket
namespace Go.Proofs.Ytgafnilcmhjpcaa.HBucket
open Go.RowKit

theorem pow_bitLen_le0 : ∀ (f x : Nat), x ≠ 0 → x < 2 ^ f → 2 ^ (Lib.bitLenAux f x - 1) ≤ x
  | 0, x, h0, h => by simp at h; omega
  | f + 1, x, h0, h => by
    unfold Lib.bitLenAux
    simp only [h0, if_false]
    by_cases h1 : x / 2 = 0
    · rw [h1]
      have : Lib.bitLenAux f 0 = 0 := by cases f <;> simp [Lib.bitLenAux]
      rw [this]; simp; omega
    · have := pow_bitLen_le0 f (x / 2) h1 (by rw [Nat.pow_succ] at h; omega)
      have e : 1 + Lib.bitLenAux f (x / 2) - 1 = (Lib.bitLenAux f (x / 2) - 1) + 1 ∨ Lib.bitLenAux f (x / 2) = 0 := by omega
      rcases e with e | e
      · rw [e, Nat.pow_succ]; omega
      · rw [e]; simp; omega

theorem pow_bitLen0 (x : Nat) (h0 : x ≠ 0) (h : x < 18446744073709551616) : 2 ^ (Lib.bitLen x - 1) ≤ x := pow_bitLen_le0 64 x h0 h

/-- What the finite check asks of a bucket: its bounds have it, they stand beside the next one's, it is not too wide. -/
def chkC (b a : Nat) : Bool :=
  decide (ofN b (loN b a) = a) && (decide (mostN b < a) || decide (ofN b (hiN b a) = a)) && (decide (mostN b < a) || decide (hiN b a + 1 = loN b (a + 1))) &&
    decide (loN b a ≤ hiN b a) && (decide (hiN b a = loN b a) || decide (hiN b a - loN b a + 1 ≤ loN b a / 2 ^ b))
theorem chkC_all : ((List.range 5).all fun b => (List.range (mostN b + 2)).all fun a => chkC b a) = true := by decide +kernel
theorem chkC_of (b a : Nat) (hb : b ≤ 4) (ha : a ≤ mostN b + 1) : ofN b (loN b a) = a ∧ (a ≤ mostN b → ofN b (hiN b a) = a) ∧ (a ≤ mostN b → hiN b a + 1 = loN b (a + 1)) ∧ loN b a ≤ hiN b a ∧ (hiN b a = loN b a ∨ hiN b a - loN b a + 1 ≤ loN b a / 2 ^ b) := by
  have h := List.all_eq_true.1 (List.all_eq_true.1 chkC_all b (List.mem_range.2 (by omega))) a (List.mem_range.2 (by omega))
  simp only [chkC, Bool.and_eq_true, Bool.or_eq_true, decide_eq_true_eq] at h
  exact ⟨h.1.1.1.1, fun hl => h.1.1.1.2.resolve_left (by omega), fun hl => h.1.1.2.resolve_left (by omega), h.1.2, h.2⟩

/-- The ends: the greatest number has the greatest bucket, whose bounds end with it; the least number has one more. -/
theorem ends_all : ((List.range 5).all fun b => decide (hiN b (mostN b) = 9223372036854775807) && decide (loN b (mostN b + 1) = 9223372036854775808) && decide (ofN b 9223372036854775808 = mostN b + 1) && decide (loN b 0 = 0) && decide (loN b 1 = 1) && decide (ofN b 0 = 0) && decide (hiN b 0 = 0) && decide (1 ≤ mostN b)) = true := by decide +kernel
theorem ends_of (b : Nat) (hb : b ≤ 4) : hiN b (mostN b) = 9223372036854775807 ∧ loN b (mostN b + 1) = 9223372036854775808 ∧ ofN b 9223372036854775808 = mostN b + 1 ∧ loN b 0 = 0 ∧ loN b 1 = 1 ∧ ofN b 0 = 0 ∧ hiN b 0 = 0 ∧ 1 ≤ mostN b := by
  have h := List.all_eq_true.1 ends_all b (List.mem_range.2 (by omega))
  simp only [Bool.and_eq_true, decide_eq_true_eq] at h
  exact ⟨h.1.1.1.1.1.1.1, h.1.1.1.1.1.1.2, h.1.1.1.1.1.2, h.1.1.1.1.2, h.1.1.1.2, h.1.1.2, h.1.2, h.2⟩

/-- A number stands in its bucket's bounds. -/
theorem in_bounds (b m : Nat) (hm : m < 18446744073709551616) : loN b (ofN b m) ≤ m ∧ m ≤ hiN b (ofN b m) := by
  have hp := Nat.two_pow_pos b
  have hb1 := bitLen_lt m hm
  by_cases hE : Lib.bitLen m - 1 - b = 0
  · have e1 : ofN b m = m := by unfold ofN; rw [hE]; simp
    have e2 : m < 2 * 2 ^ b := by
      refine Nat.lt_of_lt_of_le hb1 ?_
      rw [← Nat.pow_succ']
      exact Nat.pow_le_pow_right (by decide) (by omega)
    have e3 : m / 2 ^ b < 2 := (Nat.div_lt_iff_lt_mul hp).2 (by omega)
    have e4 : eN b m = 0 := by unfold eN; omega
    rw [e1]
    have e5 : loN b m = m := by unfold loN; rw [e4]; simp
    have e6 : hiN b m = m := by unfold hiN; rw [e4, e5]; simp
    omega
  · have h0 : m ≠ 0 := by
      rintro rfl
      have : Lib.bitLen 0 = 0 := by decide
      omega
    have hb2 := pow_bitLen0 m h0 hm
    have hof : ofN b m = (Lib.bitLen m - 1 - b) * 2 ^ b + m / 2 ^ (Lib.bitLen m - 1 - b) := rfl
    generalize hEE : Lib.bitLen m - 1 - b = E at *
    have hE2 : Lib.bitLen m - 1 = b + E := by omega
    have hE3 : Lib.bitLen m = b + E + 1 := by omega
    rw [hE2] at hb2
    rw [hE3] at hb1
    have hpE := Nat.two_pow_pos E
    have d1 : 2 ^ b ≤ m / 2 ^ E := by
      rw [Nat.le_div_iff_mul_le hpE, ← Nat.pow_add]; exact hb2
    have d2 : m / 2 ^ E < 2 * 2 ^ b := by
      rw [Nat.div_lt_iff_lt_mul hpE, ← Nat.pow_succ', ← Nat.pow_add]
      rw [show b.succ + E = b + E + 1 by omega]; exact hb1
    generalize hd : m / 2 ^ E = d at *
    have q1 : (E * 2 ^ b + d) / 2 ^ b = E + 1 := by
      rw [Nat.mul_comm, Nat.mul_add_div hp]
      have : d / 2 ^ b = 1 := Nat.div_eq_of_lt_le (by omega) (by omega)
      omega
    have e4 : eN b (ofN b m) = E := by unfold eN; rw [hof, q1]; omega
    have e5 : loN b (ofN b m) = d * 2 ^ E := by
      unfold loN; rw [e4, hof]; congr 1; omega
    have e6 : hiN b (ofN b m) = d * 2 ^ E + (2 ^ E - 1) := by unfold hiN; rw [e4, e5]
    rw [e5, e6]
    have m1 := Nat.div_add_mod m (2 ^ E)
    have m2 := Nat.mod_lt m hpE
    rw [hd, Nat.mul_comm] at m1
    omega

/-- Bounds rise. -/
theorem hi_lt_lo (b i : Nat) (hb : b ≤ 4) : ∀ k, i + 1 + k ≤ mostN b + 1 → hiN b i < loN b (i + 1 + k)
  | 0, h => by have := (chkC_of b i hb (by omega)).2.2.1 (by omega); show hiN b i < loN b (i + 1); omega
  | k + 1, h => by
    have h1 := hi_lt_lo b i hb k (by omega)
    have h2 := (chkC_of b (i + 1 + k) hb (by omega)).2.2.1 (by omega)
    have h3 := (chkC_of b (i + 1 + k) hb (by omega)).2.2.2.1
    show hiN b i < loN b (i + 1 + k + 1)
    omega
theorem hi_lt_lo' (b i j : Nat) (hb : b ≤ 4) (h : i < j) (hj : j ≤ mostN b + 1) : hiN b i < loN b j := by
  have := hi_lt_lo b i hb (j - (i + 1)) (by omega)
  rwa [show i + 1 + (j - (i + 1)) = j by omega] at this

theorem of_le_most (b m : Nat) (hb : b ≤ 4) (hm : m ≤ 9223372036854775807) : ofN b m ≤ mostN b := by
  -- ofN is monotone along the power of two: by the definition itself
  unfold mostN ofN
  have hl : Lib.bitLen m ≤ 63 := Lib.bitLen_le m 63 (by omega) (by omega)
  have hM : Lib.bitLen 9223372036854775807 = 63 := by decide +kernel
  rw [hM]
  have hp := Nat.two_pow_pos b
  have hb1 := bitLen_lt m (by omega)
  by_cases hc : Lib.bitLen m = 63
  · rw [hc]
    refine Nat.add_le_add_left (Nat.div_le_div_right hm) _
  · have d2 : m / 2 ^ (Lib.bitLen m - 1 - b) < 2 * 2 ^ b := by
      rw [Nat.div_lt_iff_lt_mul (Nat.two_pow_pos _), ← Nat.pow_succ', ← Nat.pow_add]
      exact Nat.lt_of_lt_of_le hb1 (Nat.pow_le_pow_right (by decide) (by omega))
    have d3 : 2 ^ b ≤ 9223372036854775807 / 2 ^ (63 - 1 - b) := by
      rw [Nat.le_div_iff_mul_le (Nat.two_pow_pos _), ← Nat.pow_add]
      have : b + (63 - 1 - b) = 62 := by omega
      rw [this]; decide
    have d4 : (Lib.bitLen m - 1 - b + 1) * 2 ^ b ≤ (63 - 1 - b) * 2 ^ b := Nat.mul_le_mul_right _ (by omega)
    rw [Nat.add_mul] at d4
    omega

theorem of_le_most1 (b m : Nat) (hb : b ≤ 4) (hm : m ≤ 9223372036854775808) : ofN b m ≤ mostN b + 1 := by
  refine Nat.le_of_not_lt fun hlt => ?_
  by_cases he : m = 9223372036854775808
  · rw [he, (ends_of b hb).2.2.1] at hlt; omega
  · exact absurd (of_le_most b m hb (by omega)) (by omega)

/-- Buckets rise. -/
theorem of_mono (b m m' : Nat) (hb : b ≤ 4) (h : m ≤ m') (hm : m' ≤ 9223372036854775808) : ofN b m ≤ ofN b m' := by
  refine Nat.le_of_not_lt fun hlt => ?_
  have h1 := hi_lt_lo' b _ _ hb hlt (of_le_most1 b m hb (by omega))
  have h2 := (in_bounds b m' (by omega)).2
  have h3 := (in_bounds b m (by omega)).1
  omega

/-- Who stands within a bucket's bounds has it. -/
theorem of_within (b m a : Nat) (hb : b ≤ 4) (ha : a ≤ mostN b) (hm : m ≤ 9223372036854775808) (h1 : loN b a ≤ m) (h2 : m ≤ hiN b a) : ofN b m = a := by
  have c := chkC_of b a hb (by omega)
  have q := chkB_of b a hb (by omega)
  have l := of_mono b _ _ hb h1 hm
  have r := of_mono b _ _ hb h2 (by have := q.2.2.2.2 ha; omega)
  rw [c.1] at l
  rw [c.2.1 ha] at r
  omega

/-- The bucket of a number. -/
def ofZ (b : Nat) (n : Int) : Int := sgn n (ofN b n.natAbs)

theorem ofZ_def (b : Nat) (n : Int) : sgn n (ofN b n.natAbs) = ofZ b n := rfl

theorem ofN_pos (b m : Nat) (hb : b ≤ 4) (h : 1 ≤ m) (hm : m ≤ 9223372036854775808) : 1 ≤ ofN b m := by
  refine Nat.one_le_iff_ne_zero.2 fun h0 => ?_
  have := (in_bounds b m (by omega)).2
  rw [h0, (ends_of b hb).2.2.2.2.2.2.1] at this
  omega

theorem ofZ_range (b : Nat) (n : Int) (hb : b ≤ 4) (h0 : -9223372036854775808 ≤ n) (h1 : n ≤ 9223372036854775807) : -(mostN b : Int) - 1 ≤ ofZ b n ∧ ofZ b n ≤ mostN b := by
  unfold ofZ sgn
  by_cases h : n < 0
  · rw [if_pos h]
    have := of_le_most1 b n.natAbs hb (by omega)
    omega
  · rw [if_neg h]
    have := of_le_most b n.natAbs hb (by omega)
    omega

theorem ofZ_mono (b : Nat) (m n : Int) (hb : b ≤ 4) (h : m ≤ n) (hm : -9223372036854775808 ≤ m) (hn : n ≤ 9223372036854775807) : ofZ b m ≤ ofZ b n := by
  unfold ofZ sgn
  by_cases h1 : m < 0
  · rw [if_pos h1]
    by_cases h2 : n < 0
    · rw [if_pos h2]
      have := of_mono b n.natAbs m.natAbs hb (by omega) (by omega)
      omega
    · rw [if_neg h2]; omega
  · rw [if_neg h1, if_neg (by omega)]
    have := of_mono b m.natAbs n.natAbs hb (by omega) (by omega)
    omega

theorem ofZ_sign (b : Nat) (n : Int) (hb : b ≤ 4) (h0 : -9223372036854775808 ≤ n) : n < 0 ↔ ofZ b n < 0 := by
  unfold ofZ sgn
  by_cases h : n < 0
  · rw [if_pos h]
    have := ofN_pos b n.natAbs hb (by omega) (by omega)
    omega
  · rw [if_neg h]; omega

theorem ofZ_abs (b : Nat) (n : Int) : (ofZ b n).natAbs = ofN b n.natAbs := by
  unfold ofZ sgn; split <;> omega

/-- A number stands in its bucket's bounds, and the bounds stand in it. -/
theorem holdsZ (b : Nat) (n : Int) (hb : b ≤ 4) (h0 : -9223372036854775808 ≤ n) (h1 : n ≤ 9223372036854775807) : loZ b (ofZ b n) ≤ n ∧ n ≤ hiZ b (ofZ b n) := by
  have hs := ofZ_sign b n hb h0
  have ha := ofZ_abs b n
  have hi := in_bounds b n.natAbs (by omega)
  unfold loZ hiZ
  rw [ha]
  by_cases h : n < 0
  · rw [if_pos (hs.1 h), if_pos (hs.1 h)]
    omega
  · rw [if_neg (fun q => h (hs.2 q)), if_neg (fun q => h (hs.2 q))]
    omega

theorem bounds_range (b : Nat) (a : Int) (hb : b ≤ 4) (h0 : -(mostN b : Int) - 1 ≤ a) (h1 : a ≤ mostN b) :
    -9223372036854775808 ≤ loZ b a ∧ loZ b a ≤ hiZ b a ∧ hiZ b a ≤ 9223372036854775807 := by
  have q := chkB_of b a.natAbs hb (by omega)
  have c := chkC_of b a.natAbs hb (by omega)
  unfold loZ hiZ
  by_cases h : a < 0
  · rw [if_pos h, if_pos h]; omega
  · rw [if_neg h, if_neg h]
    have := q.2.2.2.2 (by omega)
    omega

theorem of_loZ (b : Nat) (a : Int) (hb : b ≤ 4) (h0 : -(mostN b : Int) - 1 ≤ a) (h1 : a ≤ mostN b) : ofZ b (loZ b a) = a ∧ ofZ b (hiZ b a) = a := by
  have q := chkB_of b a.natAbs hb (by omega)
  have c := chkC_of b a.natAbs hb (by omega)
  have en := ends_of b hb
  by_cases h : a < 0
  · have p1 : 1 ≤ loN b a.natAbs := by
      refine Nat.one_le_iff_ne_zero.2 fun h0 => ?_
      have := c.1
      rw [h0, en.2.2.2.2.2.1] at this
      omega
    have key : ofN b (min (hiN b a.natAbs) 9223372036854775808) = a.natAbs := by
      by_cases hm : a.natAbs ≤ mostN b
      · have := q.2.2.2.2 hm
        rw [Nat.min_eq_left (by omega)]
        exact c.2.1 hm
      · have e : a.natAbs = mostN b + 1 := by omega
        have : loN b a.natAbs = 9223372036854775808 := by rw [e]; exact en.2.1
        rw [Nat.min_eq_right (by omega), en.2.2.1, e]
    have l : loZ b a = -((min (hiN b a.natAbs) 9223372036854775808 : Nat) : Int) := by unfold loZ; rw [if_pos h]
    have r : hiZ b a = -(loN b a.natAbs : Int) := by unfold hiZ; rw [if_pos h]
    refine ⟨?_, ?_⟩
    · unfold ofZ sgn
      rw [l, if_pos (by omega), Int.natAbs_neg, Int.natAbs_natCast, key]; omega
    · unfold ofZ sgn
      rw [r, if_pos (by omega), Int.natAbs_neg, Int.natAbs_natCast, c.1]; omega
  · have l : loZ b a = (loN b a.natAbs : Int) := by unfold loZ; rw [if_neg h]
    have r : hiZ b a = (hiN b a.natAbs : Int) := by unfold hiZ; rw [if_neg h]
    refine ⟨?_, ?_⟩
    · unfold ofZ sgn
      rw [l, if_neg (by omega), Int.natAbs_natCast, c.1]; omega
    · unfold ofZ sgn
      rw [r, if_neg (by omega), Int.natAbs_natCast, c.2.1 (by omega)]; omega

/-- Who stands within a bucket's bounds has it, and nobody else. -/
theorem withinZ (b : Nat) (a n : Int) (hb : b ≤ 4) (h0 : -(mostN b : Int) - 1 ≤ a) (h1 : a ≤ mostN b) (hn0 : -9223372036854775808 ≤ n) (hn1 : n ≤ 9223372036854775807) :
    ofZ b n = a ↔ loZ b a ≤ n ∧ n ≤ hiZ b a := by
  have r := bounds_range b a hb h0 h1
  have o := of_loZ b a hb h0 h1
  constructor
  · rintro rfl
    exact holdsZ b n hb hn0 hn1
  · rintro ⟨l, h⟩
    have q1 := ofZ_mono b _ _ hb l r.1 hn1
    have q2 := ofZ_mono b _ _ hb h hn0 r.2.2
    omega

/-- Bounds of two buckets that stand side by side do so, too. -/
theorem nextZ (b : Nat) (a : Int) (hb : b ≤ 4) (h0 : -(mostN b : Int) - 1 ≤ a) (h1 : a + 1 ≤ mostN b) : loZ b (a + 1) = hiZ b a + 1 := by
  have en := ends_of b hb
  by_cases h : a < 0
  · have c := chkC_of b (a + 1).natAbs hb (by omega)
    have q := chkB_of b (a + 1).natAbs hb (by omega)
    have r : hiZ b a = -(loN b a.natAbs : Int) := by unfold hiZ; rw [if_pos h]
    by_cases h2 : a + 1 < 0
    · have l : loZ b (a + 1) = -((min (hiN b (a + 1).natAbs) 9223372036854775808 : Nat) : Int) := by unfold loZ; rw [if_pos h2]
      have e : (a + 1).natAbs + 1 = a.natAbs := by omega
      have n := c.2.2.1 (by omega)
      have n2 := q.2.2.2.2 (by omega)
      rw [e] at n
      rw [l, r]
      omega
    · have e : a = -1 := by omega
      subst e
      rw [r]
      unfold loZ
      rw [if_neg (by omega)]
      show ((loN b 0 : Nat) : Int) = -(loN b 1 : Int) + 1
      rw [en.2.2.2.1, en.2.2.2.2.1]
      rfl
  · have c := chkC_of b a.natAbs hb (by omega)
    have l : loZ b (a + 1) = (loN b (a + 1).natAbs : Int) := by unfold loZ; rw [if_neg (by omega)]
    have r : hiZ b a = (hiN b a.natAbs : Int) := by unfold hiZ; rw [if_neg h]
    have e : (a + 1).natAbs = a.natAbs + 1 := by omega
    have n := c.2.2.1 (by omega)
    rw [l, r, e, ← n]
    omega

/-- The bounds of a bucket that is finer lie in one bucket. -/
theorem fine_all : ((List.range 4).all fun b => (List.range (mostN (b + 1) + 1)).all fun a => decide (ofN b (loN (b + 1) a) = ofN b (hiN (b + 1) a))) = true := by decide +kernel
theorem fine_of (b a : Nat) (hb : b ≤ 3) (ha : a ≤ mostN (b + 1)) : ofN b (loN (b + 1) a) = ofN b (hiN (b + 1) a) := by
  have h := List.all_eq_true.1 (List.all_eq_true.1 fine_all b (List.mem_range.2 (by omega))) a (List.mem_range.2 (by omega))
  exact of_decide_eq_true h

theorem fineN (b m n : Nat) (hb : b ≤ 3) (hm : m ≤ 9223372036854775808) (hn : n ≤ 9223372036854775808) (h : ofN (b + 1) m = ofN (b + 1) n) : ofN b m = ofN b n := by
  have key : ∀ x, x ≤ 9223372036854775808 → ofN (b + 1) x ≤ mostN (b + 1) → ofN b x = ofN b (loN (b + 1) (ofN (b + 1) x)) := by
    intro x hx hl
    have i := in_bounds (b + 1) x (by omega)
    have q := (chkB_of (b + 1) _ (by omega) (Nat.le_succ_of_le hl)).2.2.2.2 hl
    have m1 := of_mono b _ _ (by omega) i.1 hx
    have m2 := of_mono b _ _ (by omega) i.2 (by omega)
    have f := fine_of b _ hb hl
    omega
  have l1 := of_le_most1 (b + 1) m (by omega) hm
  by_cases hl : ofN (b + 1) m ≤ mostN (b + 1)
  · rw [key m hm hl, key n hn (by omega), h]
  · have i1 := in_bounds (b + 1) m (by omega)
    have i2 := in_bounds (b + 1) n (by omega)
    have e : ofN (b + 1) m = mostN (b + 1) + 1 := by omega
    rw [← h] at i2
    rw [e, (ends_of (b + 1) (by omega)).2.1] at i1 i2
    have : m = n := by omega
    rw [this]

theorem fineZ (b : Nat) (m n : Int) (hb : b ≤ 3) (hm0 : -9223372036854775808 ≤ m) (hm1 : m ≤ 9223372036854775807) (hn0 : -9223372036854775808 ≤ n) (hn1 : n ≤ 9223372036854775807)
    (h : ofZ (b + 1) m = ofZ (b + 1) n) : ofZ b m = ofZ b n := by
  have s1 := ofZ_sign (b + 1) m (by omega) hm0
  have s2 := ofZ_sign (b + 1) n (by omega) hn0
  have a1 := ofZ_abs (b + 1) m
  have a2 := ofZ_abs (b + 1) n
  have f := fineN b m.natAbs n.natAbs hb (by omega) (by omega) (by rw [← a1, ← a2, h])
  have g : m < 0 ↔ n < 0 := by rw [s1, s2, h]
  unfold ofZ sgn
  rw [f]
  by_cases hm : m < 0
  · rw [if_pos hm, if_pos (g.1 hm)]
  · rw [if_neg hm, if_neg (fun q => hm (g.2 q))]

end Go.Proofs.Ytgafnilcmhjpcaa.HBucket
