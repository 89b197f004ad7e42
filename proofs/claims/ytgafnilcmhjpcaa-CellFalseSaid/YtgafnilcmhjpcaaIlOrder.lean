/- Plain laws: the order of adding does not count, nor how histograms were merged (taken from chapter 06's texts, for a seat without them). -/
import Derived.Test.YtgafnilcmhjpcaaHistOf
namespace Go.Proofs.Ytgafnilcmhjpcaa.HHist
set_option linter.unusedVariables false
open Go.RowKit Go.Proofs.Ytgafnilcmhjpcaa.HMem Go.Proofs.Ytgafnilcmhjpcaa.HBucket
open Go.Proofs.Ytgafnilcmhjpcaa.Print (I64)

def sumL : IL → Int → Nat
  | [], _ => 0
  | x :: r, a => (if x.1 = a then x.2 else 0) + sumL r a
def cntL (b : Nat) (a : Int) : List Int → Nat
  | [] => 0
  | x :: r => (if ofZ b x = a then 1 else 0) + cntL b a r
theorem sumL_more : ∀ (l : IL) (c : Int) (m : Nat) (a : Int), sumL (moreL l c m) a = sumL l a + (if c = a then m else 0)
  | [], c, m, a => by simp [moreL, sumL]
  | x :: r, c, m, a => by
    unfold moreL
    split
    · rename_i h
      show (if x.1 = a then x.2 else 0) + sumL (moreL r c m) a = (if x.1 = a then x.2 else 0) + sumL r a + _
      rw [sumL_more r]; omega
    · split
      · rename_i h1 h2
        show (if c = a then x.2 + m else 0) + sumL r a = (if x.1 = a then x.2 else 0) + sumL r a + _
        rw [h2]
        split <;> omega
      · show (if c = a then m else 0) + sumL (x :: r) a = _
        omega
theorem sumL_fold (b : Nat) (a : Int) : ∀ (ns : List Int) (l : IL), sumL (ns.foldl (fun l n => moreL l (ofZ b n) 1) l) a = sumL l a + cntL b a ns
  | [], l => rfl
  | n :: r, l => by
    rw [List.foldl_cons, sumL_fold b a r, sumL_more]
    show _ = sumL l a + ((if ofZ b n = a then 1 else 0) + cntL b a r)
    omega
theorem sumL_of (b : Nat) (a : Int) (ns : List Int) : sumL (ofL b ns) a = cntL b a ns := by
  have := sumL_fold b a ns []
  simpa [ofL, sumL] using this
theorem cntL_append (b : Nat) (a : Int) : ∀ (l m : List Int), cntL b a (l ++ m) = cntL b a l + cntL b a m
  | [], m => by simp [cntL]
  | x :: r, m => by
    show _ + cntL b a (r ++ m) = _ + cntL b a r + cntL b a m
    rw [cntL_append b a r m]; omega
theorem rise_ofL (b : Nat) (ns : List Int) : Rise (ofL b ns) := by
  have key : ∀ (ns : List Int) (l : IL), Rise l → Rise (ns.foldl (fun l n => moreL l (ofZ b n) 1) l) := by
    intro ns
    induction ns with
    | nil => intro l h; exact h
    | cons n r ih => intro l h; exact ih _ (h.more _ _ _)
  exact key ns [] List.Pairwise.nil
theorem sumL_high : ∀ (l : IL) (a : Int), (∀ y ∈ l, a < y.1) → sumL l a = 0
  | [], a, h => rfl
  | x :: r, a, h => by
    show (if x.1 = a then x.2 else 0) + sumL r a = 0
    rw [if_neg (by have := h x (by simp); omega), sumL_high r a (fun y hy => h y (by simp [hy]))]
theorem sumL_fst (x : Int × Nat) (r : IL) (h : Rise (x :: r)) : sumL (x :: r) x.1 = x.2 := by
  show (if x.1 = x.1 then x.2 else 0) + sumL r x.1 = x.2
  rw [if_pos rfl, sumL_high r x.1 h.head]; omega
theorem list_ext : ∀ (l m : IL), Rise l → Rise m → (∀ x ∈ l, 1 ≤ x.2) → (∀ x ∈ m, 1 ≤ x.2) → (∀ a, sumL l a = sumL m a) → l = m
  | [], [], _, _, _, _, _ => rfl
  | [], y :: s, _, hm, _, h2, h => by
    have := h y.1
    rw [sumL_fst y s hm] at this
    have h3 := h2 y (by simp)
    simp [sumL] at this
    omega
  | x :: r, [], hl, _, h1, _, h => by
    have := h x.1
    rw [sumL_fst x r hl] at this
    have h3 := h1 x (by simp)
    simp [sumL] at this
    omega
  | x :: r, y :: s, hl, hm, h1, h2, h => by
    have p1 := h1 x (by simp)
    have p2 := h2 y (by simp)
    have e1 : x.1 = y.1 := by
      rcases Int.lt_trichotomy x.1 y.1 with g | g | g
      · have := h x.1
        rw [sumL_fst x r hl, sumL_high (y :: s) x.1 (fun z hz => by
          rcases List.mem_cons.1 hz with rfl | hz
          · exact g
          · have := hm.head z hz; omega)] at this
        omega
      · exact g
      · have := h y.1
        rw [sumL_fst y s hm, sumL_high (x :: r) y.1 (fun z hz => by
          rcases List.mem_cons.1 hz with rfl | hz
          · exact g
          · have := hl.head z hz; omega)] at this
        omega
    have e2 : x.2 = y.2 := by
      have := h x.1
      rw [sumL_fst x r hl, e1, sumL_fst y s hm] at this
      exact this
    have e : x = y := Prod.ext e1 e2
    subst e
    have hrs : ∀ a, sumL r a = sumL s a := fun a => by
      have := h a
      simp only [sumL] at this
      omega
    rw [list_ext r s hl.tail hm.tail (fun z hz => h1 z (by simp [hz])) (fun z hz => h2 z (by simp [hz])) hrs]
theorem sumL_foldL : ∀ (m l : IL) (a : Int), sumL (foldL l m) a = sumL l a + sumL m a
  | [], l, a => by simp [foldL, sumL]
  | x :: r, l, a => by
    rw [foldL, sumL_foldL r, sumL_more]
    simp only [sumL]
    omega
theorem rise_foldL : ∀ (m l : IL), Rise l → Rise (foldL l m)
  | [], l, h => h
  | x :: r, l, h => rise_foldL r _ (h.more _ _ _)
theorem pos_moreL (l : IL) (a : Int) (m : Nat) (hm : 1 ≤ m) (h : ∀ x ∈ l, 1 ≤ x.2) : ∀ x ∈ moreL l a m, 1 ≤ x.2 := by
  intro x hx
  rcases mem_moreL2 l a m x hx with ⟨_, h2⟩ | h1
  · omega
  · exact h x h1
theorem pos_ofL (b : Nat) (ns : List Int) : ∀ x ∈ ofL b ns, 1 ≤ x.2 := by
  suffices h : ∀ (ns : List Int) (l : IL), (∀ x ∈ l, 1 ≤ x.2) → ∀ x ∈ ns.foldl (fun l n => moreL l (ofZ b n) 1) l, 1 ≤ x.2 from h ns [] (fun x hx => by cases hx)
  intro ns
  induction ns with
  | nil => intro l h; exact h
  | cons n r ih => intro l h; exact ih _ (pos_moreL l _ 1 (Nat.le_refl _) h)
theorem pos_foldL : ∀ (m l : IL), (∀ x ∈ m, 1 ≤ x.2) → (∀ x ∈ l, 1 ≤ x.2) → ∀ x ∈ foldL l m, 1 ≤ x.2
  | [], l, _, h => h
  | x :: r, l, hm, h => pos_foldL r _ (fun y hy => hm y (by simp [hy])) (pos_moreL l _ _ (hm x (by simp)) h)
theorem cntL_reverse (b : Nat) (a : Int) : ∀ l : List Int, cntL b a l.reverse = cntL b a l
  | [] => rfl
  | x :: r => by
    rw [List.reverse_cons, cntL_append, cntL_reverse b a r]
    simp [cntL]; omega
/-- Merged, or added in the other order: the same. -/
theorem merge_order (b : Nat) (ls ms : List Int) : foldL (ofL b ls) (ofL b ms) = ofL b (ms.reverse ++ ls.reverse) := by
  refine list_ext _ _ (rise_foldL _ _ (rise_ofL _ _)) (rise_ofL _ _) (pos_foldL _ _ (pos_ofL b ms) (pos_ofL b ls)) (pos_ofL _ _) fun a => ?_
  rw [sumL_foldL, sumL_of, sumL_of, sumL_of, cntL_append, cntL_reverse, cntL_reverse]
  omega
theorem merge_order' (b : Nat) (ls ms : List Int) (h : ls.length + ms.length ≤ 1000) : mergeL b (ofL b ls) b (ofL b ms) = (ofL b (ms.reverse ++ ls.reverse), 0) := by
  unfold mergeL
  rw [if_neg (by simp), total_ofL, total_ofL, if_neg (by omega), merge_order]
end Go.Proofs.Ytgafnilcmhjpcaa.HHist
