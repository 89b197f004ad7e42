/- Cells: what stays true of a cell that takes numbers and others: it is right. Plain laws. Conditions: the numbers are of their kinds' ranges. -/
import Derived.Test.YtgafnilcmhjpcaaCellUse
namespace Go.Proofs.Ytgafnilcmhjpcaa.HCell
set_option linter.unusedVariables false
open Go.RowKit Go.Proofs.Ytgafnilcmhjpcaa.HMem Go.Proofs.Ytgafnilcmhjpcaa.HHist Go.Proofs.Ytgafnilcmhjpcaa.HWide Go.Proofs.Ytgafnilcmhjpcaa.HBucket
open Go.Proofs.Ytgafnilcmhjpcaa.Print (I64)

/-- Is there a bucket? -/
def Key (l : IL) (a : Int) : Prop := ∃ x ∈ l, x.1 = a
def Least (l : IL) (a : Int) : Prop := Key l a ∧ ∀ b, Key l b → a ≤ b
def Most (l : IL) (a : Int) : Prop := Key l a ∧ ∀ b, Key l b → b ≤ a
theorem first_least {l : IL} (h : Rise l) (hn : l ≠ []) : Least l (firstL l) := by
  cases l with
  | nil => exact absurd rfl hn
  | cons x r =>
    have e : firstL (x :: r) = x.1 := rfl
    rw [e]
    refine ⟨⟨x, by simp, rfl⟩, fun b ⟨y, hy, hb⟩ => ?_⟩
    rcases List.mem_cons.1 hy with rfl | hy
    · omega
    · have := (List.pairwise_cons.1 h).1 y hy
      omega
theorem last_most {l : IL} (h : Rise l) (hn : l ≠ []) : Most l (lastL l) := by
  obtain ⟨L, x, rfl⟩ : ∃ L x, l = L ++ [x] := by
    rcases List.eq_nil_or_concat l with rfl | ⟨L, x, rfl⟩
    · exact absurd rfl hn
    · exact ⟨L, x, List.concat_eq_append⟩
  have e : lastL (L ++ [x]) = x.1 := by unfold lastL; simp
  rw [e]
  refine ⟨⟨x, by simp, rfl⟩, fun b ⟨y, hy, hb⟩ => ?_⟩
  rcases List.mem_append.1 hy with hy | hy
  · have := (List.pairwise_append.1 h).2.2 y hy x (by simp)
    omega
  · simp at hy
    subst hy
    omega
theorem Least.one {l : IL} {a b : Int} (h : Least l a) (k : Least l b) : a = b := by
  have h1 := h.2 b k.1
  have h2 := k.2 a h.1
  omega
theorem Most.one {l : IL} {a b : Int} (h : Most l a) (k : Most l b) : a = b := by
  have h1 := h.2 b k.1
  have h2 := k.2 a h.1
  omega
theorem key_more : ∀ (l : IL) (a : Int) (m : Nat) (b : Int), Key (moreL l a m) b ↔ b = a ∨ Key l b
  | [], a, m, b => by simp [moreL, Key, eq_comm]
  | x :: r, a, m, b => by
    unfold moreL
    have ih := key_more r a m b
    unfold Key at ih ⊢
    split
    · simp only [List.mem_cons, exists_eq_or_imp, ih]
      constructor
      · rintro (h | h | h)
        · exact .inr (.inl h)
        · exact .inl h
        · exact .inr (.inr h)
      · rintro (h | h | h)
        · exact .inr (.inl h)
        · exact .inl h
        · exact .inr (.inr h)
    · split
      · rename_i h1 h2
        simp only [List.mem_cons, exists_eq_or_imp]
        constructor
        · rintro (h | h)
          · exact .inl h.symm
          · exact .inr (.inr h)
        · rintro (h | h | h)
          · exact .inl h.symm
          · exact .inl (h2.symm.trans h)
          · exact .inr h
      · simp only [List.mem_cons, exists_eq_or_imp]
        constructor
        · rintro (h | h)
          · exact .inl h.symm
          · exact .inr h
        · rintro (h | h)
          · exact .inl h.symm
          · exact .inr h
theorem key_fold : ∀ (m l : IL) (b : Int), Key (foldL l m) b ↔ Key m b ∨ Key l b
  | [], l, b => by simp [foldL, Key]
  | x :: r, l, b => by
    rw [foldL, key_fold r, key_more]
    unfold Key
    simp only [List.mem_cons, exists_eq_or_imp]
    constructor
    · rintro (h | h | h)
      · exact .inl (.inr h)
      · exact .inl (.inl h.symm)
      · exact .inr h
    · rintro ((h | h) | h)
      · exact .inr (.inl h.symm)
      · exact .inl h
      · exact .inr (.inr h)
theorem more_ne (l : IL) (a : Int) (m : Nat) : moreL l a m ≠ [] := fun e => by
  have := (key_more l a m a).2 (.inl rfl)
  rw [e] at this
  obtain ⟨x, hx, _⟩ := this
  cases hx
theorem total_zero {b : Nat} {l : IL} (h : HOk b l) : HHist.total l = 0 ↔ l = [] := by
  cases l with
  | nil => simp [HHist.total]
  | cons x r =>
    have := (h.item x (by simp)).1
    simp only [HHist.total]
    constructor
    · intro h; omega
    · intro h; cases h
theorem fold_ne {l m : IL} (h : l ≠ [] ∨ m ≠ []) : foldL l m ≠ [] := fun e => by
  have key : ∀ b, ¬ Key (foldL l m) b := fun b ⟨x, hx, _⟩ => by rw [e] at hx; cases hx
  rcases h with h | h
  · cases l with
    | nil => exact h rfl
    | cons x r => exact key x.1 ((key_fold _ _ _).2 (.inr ⟨x, by simp, rfl⟩))
  · cases m with
    | nil => exact h rfl
    | cons x r => exact key x.1 ((key_fold _ _ _).2 (.inl ⟨x, by simp, rfl⟩))
theorem val_nrm (v : Int) (h : -170141183460469231731687303715884105728 ≤ v ∧ v < 170141183460469231731687303715884105728) : val (nrm v).1 (nrm v).2 = v := by
  unfold val nrm wrap64 B64
  simp only
  omega
/-- What is true of a cell whose numbers' sum is v. -/
structure Good (c : CM) (v : Int) : Prop where
  ok : COk c
  sum : c.s = nrm v
  none : c.l = [] → c.lo = 0 ∧ c.hi = 0 ∧ v = 0
  some : c.l ≠ [] → c.lo ≤ c.hi ∧ Least c.l (ofZ c.b c.lo) ∧ Most c.l (ofZ c.b c.hi) ∧ c.lo * (HHist.total c.l : Nat) ≤ v ∧ v ≤ c.hi * (HHist.total c.l : Nat)
theorem prod_bound (a : Int) (t : Nat) (ha : I64 a) (ht : t ≤ 1099511627776) : -10141204801825835211973625643008 ≤ a * t ∧ a * t ≤ 10141204801825835211973625643008 := by
  unfold Print.I64 at ha
  constructor
  · calc -10141204801825835211973625643008 = -9223372036854775808 * 1099511627776 := by decide
      _ ≤ -9223372036854775808 * (t : Int) := Int.mul_le_mul_of_nonpos_left (by decide) (by omega)
      _ ≤ a * t := Int.mul_le_mul_of_nonneg_right ha.1 (by omega)
  · calc a * t ≤ 9223372036854775808 * (t : Int) := Int.mul_le_mul_of_nonneg_right (by omega) (by omega)
      _ ≤ 9223372036854775808 * 1099511627776 := Int.mul_le_mul_of_nonneg_left (by omega) (by decide)
      _ = 10141204801825835211973625643008 := by decide
theorem Good.bound {c : CM} {v : Int} (h : Good c v) : -10141204801825835211973625643008 ≤ v ∧ v ≤ 10141204801825835211973625643008 := by
  by_cases hl : c.l = []
  · have := (h.none hl).2.2; omega
  · obtain ⟨_, _, _, h1, h2⟩ := h.some hl
    have b1 := prod_bound c.lo _ h.ok.lo h.ok.h.total
    have b2 := prod_bound c.hi _ h.ok.hi h.ok.h.total
    omega
theorem Good.val {c : CM} {v : Int} (h : Good c v) : val c.s.1 c.s.2 = v := by
  have := h.bound
  rw [h.sum]
  exact val_nrm v (by omega)
theorem Good.new (fr : Int) (b : Nat) (hf : I64 fr) (hb : b ≤ 4) : Good (newC fr b) 0 := ⟨COk.new fr b hf hb, show ((0 : Int), (0 : Int)) = nrm 0 by decide +kernel, fun _ => ⟨rfl, rfl, rfl⟩, fun h => absurd rfl h⟩
/-- It is right. -/
theorem Good.right {c : CM} {v : Int} (h : Good c v) : rightC c = true := by
  unfold rightC
  by_cases hl : c.l = []
  · obtain ⟨h1, h2, h3⟩ := h.none hl
    have hs : c.s = (0, 0) := by rw [h.sum, h3]; decide +kernel
    rw [if_pos (by rw [hl]; rfl), h1, h2, hs]
    rfl
  · obtain ⟨h1, h2, h3, h4, h5⟩ := h.some hl
    rw [if_neg (fun e => hl (List.length_eq_zero_iff.1 e))]
    have b1 := prod_bound c.lo _ h.ok.lo h.ok.h.total
    have b2 := prod_bound c.hi _ h.ok.hi h.ok.h.total
    have e1 : HWide.val (timesC c.lo (HHist.total c.l)).1 (timesC c.lo (HHist.total c.l)).2 = c.lo * (HHist.total c.l : Nat) := val_nrm _ (by omega)
    have e2 : HWide.val (timesC c.hi (HHist.total c.l)).1 (timesC c.hi (HHist.total c.l)).2 = c.hi * (HHist.total c.l : Nat) := val_nrm _ (by omega)
    rw [e1, e2, h.val, decide_eq_true h1, decide_eq_true (h2.one (first_least h.ok.h.rise hl)), decide_eq_true (h3.one (last_most h.ok.h.rise hl)), decide_eq_false (by omega), decide_eq_false (by omega)]
    rfl
theorem ofZ_min {b : Nat} {x y : Int} (hb : b ≤ 4) (hx : I64 x) (hy : I64 y) : ofZ b (min x y) = min (ofZ b x) (ofZ b y) := by
  unfold Print.I64 at hx hy
  rcases Int.le_total x y with h | h
  · rw [Int.min_eq_left h, Int.min_eq_left (ofZ_mono b x y hb h hx.1 hy.2)]
  · rw [Int.min_eq_right h, Int.min_eq_right (ofZ_mono b y x hb h hy.1 hx.2)]
theorem ofZ_max {b : Nat} {x y : Int} (hb : b ≤ 4) (hx : I64 x) (hy : I64 y) : ofZ b (max x y) = max (ofZ b x) (ofZ b y) := by
  unfold Print.I64 at hx hy
  rcases Int.le_total x y with h | h
  · rw [Int.max_eq_right h, Int.max_eq_right (ofZ_mono b x y hb h hx.1 hy.2)]
  · rw [Int.max_eq_left h, Int.max_eq_left (ofZ_mono b y x hb h hy.1 hx.2)]
/-- A merge of two that are good, of one fineness, with room. -/
theorem good_join {c d : CM} {v u : Int} (h : Good c v) (k : Good d u) (hd : d.l ≠ []) (l' : IL) (hbits : d.b = c.b) (hkey : ∀ b, Key l' b ↔ Key d.l b ∨ Key c.l b) (htot : HHist.total l' = HHist.total c.l + HHist.total d.l) (hok : HOk c.b l') :
    Good { takeC c (HHist.total c.l) (HHist.total d.l) d.s d.lo d.hi with l := l' } (v + u) := by
  have hdt : HHist.total d.l ≠ 0 := fun e => hd ((total_zero k.ok.h).1 e)
  have et : takeC c (HHist.total c.l) (HHist.total d.l) d.s d.lo d.hi = { c with lo := loT c (HHist.total c.l) d.lo, hi := hiT c (HHist.total c.l) d.hi, s := sT c d.s } := if_neg hdt
  have ho := h.ok.take (HHist.total c.l) (HHist.total d.l) d.s d.lo d.hi k.ok.lo k.ok.hi
  rw [et] at ho ⊢
  have bv := h.bound
  have bu := k.bound
  obtain ⟨k1, k2, k3, k4, k5⟩ := k.some hd
  rw [hbits] at k2 k3
  have hl' : l' ≠ [] := fun e => by
    obtain ⟨x, hx, _⟩ := k2.1
    obtain ⟨y, hy, _⟩ := (hkey x.1).2 (.inl ⟨x, hx, rfl⟩)
    rw [e] at hy
    cases hy
  refine ⟨⟨hok, ho.rng, ho.fr, ho.lo, ho.hi⟩, ?_, fun e => absurd e hl', fun _ => ?_⟩
  · show nrm (HWide.val c.s.1 c.s.2 + HWide.val d.s.1 d.s.2) = nrm (v + u)
    rw [h.val, k.val]
  · show loT c (HHist.total c.l) d.lo ≤ hiT c (HHist.total c.l) d.hi ∧ Least l' (ofZ c.b (loT c (HHist.total c.l) d.lo)) ∧ Most l' (ofZ c.b (hiT c (HHist.total c.l) d.hi)) ∧ loT c (HHist.total c.l) d.lo * (HHist.total l' : Nat) ≤ v + u ∧ v + u ≤ hiT c (HHist.total c.l) d.hi * (HHist.total l' : Nat)
    by_cases hc : c.l = []
    · have hz : HHist.total c.l = 0 := (total_zero h.ok.h).2 hc
      have hv := (h.none hc).2.2
      have e1 : loT c (HHist.total c.l) d.lo = d.lo := by unfold loT; rw [if_pos hz]; exact Int.min_self _
      have e2 : hiT c (HHist.total c.l) d.hi = d.hi := by unfold hiT; rw [if_pos hz]; exact Int.max_self _
      have hk : ∀ b, Key l' b ↔ Key d.l b := fun b => by
        rw [hkey b]
        constructor
        · rintro (h | ⟨x, hx, _⟩)
          · exact h
          · rw [hc] at hx; cases hx
        · exact .inl
      rw [e1, e2, htot, hz, Nat.zero_add, hv, Int.zero_add]
      exact ⟨k1, ⟨(hk _).2 k2.1, fun b hb => k2.2 b ((hk b).1 hb)⟩, ⟨(hk _).2 k3.1, fun b hb => k3.2 b ((hk b).1 hb)⟩, k4, k5⟩
    · obtain ⟨h1, h2, h3, h4, h5⟩ := h.some hc
      have hz : ¬ HHist.total c.l = 0 := fun e => hc ((total_zero h.ok.h).1 e)
      have e1 : loT c (HHist.total c.l) d.lo = min c.lo d.lo := by unfold loT; rw [if_neg hz]
      have e2 : hiT c (HHist.total c.l) d.hi = max c.hi d.hi := by unfold hiT; rw [if_neg hz]
      rw [e1, e2, htot, ofZ_min h.ok.h.bits h.ok.lo k.ok.lo, ofZ_max h.ok.h.bits h.ok.hi k.ok.hi]
      refine ⟨by omega, ⟨?_, fun b hb => ?_⟩, ⟨?_, fun b hb => ?_⟩, ?_, ?_⟩
      · rcases Int.le_total (ofZ c.b c.lo) (ofZ c.b d.lo) with q | q
        · rw [Int.min_eq_left q]; exact (hkey _).2 (.inr h2.1)
        · rw [Int.min_eq_right q]; exact (hkey _).2 (.inl k2.1)
      · rcases (hkey b).1 hb with q | q
        · have := k2.2 b q; omega
        · have := h2.2 b q; omega
      · rcases Int.le_total (ofZ c.b c.hi) (ofZ c.b d.hi) with q | q
        · rw [Int.max_eq_right q]; exact (hkey _).2 (.inl k3.1)
        · rw [Int.max_eq_left q]; exact (hkey _).2 (.inr h3.1)
      · rcases (hkey b).1 hb with q | q
        · have := k3.2 b q; omega
        · have := h3.2 b q; omega
      · have m1 : min c.lo d.lo * (HHist.total c.l : Nat) ≤ c.lo * (HHist.total c.l : Nat) := Int.mul_le_mul_of_nonneg_right (Int.min_le_left _ _) (by omega)
        have m2 : min c.lo d.lo * (HHist.total d.l : Nat) ≤ d.lo * (HHist.total d.l : Nat) := Int.mul_le_mul_of_nonneg_right (Int.min_le_right _ _) (by omega)
        rw [Int.natCast_add, Int.mul_add]
        omega
      · have m1 : c.hi * (HHist.total c.l : Nat) ≤ max c.hi d.hi * (HHist.total c.l : Nat) := Int.mul_le_mul_of_nonneg_right (Int.le_max_left _ _) (by omega)
        have m2 : d.hi * (HHist.total d.l : Nat) ≤ max c.hi d.hi * (HHist.total d.l : Nat) := Int.mul_le_mul_of_nonneg_right (Int.le_max_right _ _) (by omega)
        rw [Int.natCast_add, Int.mul_add]
        omega
/-- A number is taken. -/
theorem Good.add {c : CM} {v : Int} (h : Good c v) {n : Int} (hn : I64 n) (hr : HHist.total c.l < 1099511627776) : Good (addC c n).1 (v + n) ∧ (addC c n).2 = 0 ∧ HHist.total (addC c n).1.l = HHist.total c.l + 1 := by
  have hbz := ofZ_range c.b n h.ok.h.bits hn.1 hn.2
  have e : addC c n = ({ takeC c (HHist.total c.l) 1 (nrm n) n n with l := moreL c.l (ofZ c.b n) 1 }, 0) := by
    unfold addC addL
    rw [if_neg (by omega), if_neg (by omega)]
  have hok : HOk c.b (moreL c.l (ofZ c.b n) 1) := h.ok.h.more (Nat.le_refl _) (by omega) hbz
  rw [e]
  refine ⟨?_, rfl, by show HHist.total (moreL c.l (ofZ c.b n) 1) = _; rw [total_moreL]⟩
  have k : Good ⟨0, nrm n, n, n, c.b, [(ofZ c.b n, 1)]⟩ n := by
    refine ⟨⟨⟨h.ok.h.bits, by simp [Rise], by simp [HHist.total], fun x hx => ?_⟩, nrm_rng n, show I64 0 from (by decide), hn, hn⟩, rfl, fun e => (by cases e), fun _ => ?_⟩
    · simp at hx
      subst hx
      exact ⟨Nat.le_refl _, hbz.1, hbz.2⟩
    · have hk : ∀ b, Key [(ofZ c.b n, 1)] b → b = ofZ c.b n := fun b ⟨x, hx, e⟩ => by simp at hx; subst hx; exact e.symm
      refine ⟨Int.le_refl _, ⟨⟨(ofZ c.b n, 1), by simp, rfl⟩, fun b hb => by rw [hk b hb]; exact Int.le_refl _⟩, ⟨⟨(ofZ c.b n, 1), by simp, rfl⟩, fun b hb => by rw [hk b hb]; exact Int.le_refl _⟩, ?_, ?_⟩ <;> simp [HHist.total]
  have := good_join h k (by simp) (moreL c.l (ofZ c.b n) 1) rfl (fun b => by
    rw [key_more]
    unfold Key
    simp [eq_comm]) (by rw [total_moreL]; simp [HHist.total]) hok
  simpa [HHist.total] using this
/-- Another one is taken. -/
theorem Good.merge {c d : CM} {v u : Int} (h : Good c v) (k : Good d u) (hb : d.b = c.b) (hr : HHist.total c.l + HHist.total d.l ≤ 1099511627776) :
    Good (mergeC c d).1 (v + u) ∧ (mergeC c d).2 = 0 ∧ HHist.total (mergeC c d).1.l = HHist.total c.l + HHist.total d.l := by
  have em : mergeL c.b c.l d.b d.l = (foldL c.l d.l, 0) := by
    unfold mergeL
    rw [if_neg (by omega), if_neg (by omega)]
  have e : mergeC c d = ({ takeC c (HHist.total c.l) (HHist.total d.l) d.s d.lo d.hi with l := foldL c.l d.l }, 0) := by
    unfold mergeC
    rw [em, if_pos rfl]
  rw [e]
  refine ⟨?_, rfl, total_foldL _ _⟩
  have hok : HOk c.b (foldL c.l d.l) := by
    have := h.ok.h.merge k.ok.h
    rw [em] at this
    exact this
  by_cases hd : d.l = []
  · have ht : HHist.total d.l = 0 := (total_zero k.ok.h).2 hd
    have eu := (k.none hd).2.2
    have et : takeC c (HHist.total c.l) (HHist.total d.l) d.s d.lo d.hi = c := if_pos ht
    have ef : foldL c.l d.l = c.l := by rw [hd]; rfl
    rw [et, ef, eu, Int.add_zero]
    exact h
  · exact good_join h k hd _ hb (fun b => key_fold _ _ _) (total_foldL _ _) hok
end Go.Proofs.Ytgafnilcmhjpcaa.HCell
