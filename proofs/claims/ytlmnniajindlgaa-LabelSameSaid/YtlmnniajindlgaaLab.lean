/- Labels, plainly: their order, what sorting leaves. No conditions. -/
import Derived.Test.YtlmnniajindlgaaLabIns
import Derived.Test.YtlmnniajindlgaaLabBsf
import Derived.WalkKit
import Derived.WalkSpells
import Derived.WalkLawsBesides
import Derived.Deep.QuietTactic
import Derived.Deep.RegionHeld3
import Derived.BigQuiet
import Derived.Lib.MinMaxS
namespace Go.Proofs.Ytlmnniajindlgaa.HLab
set_option linter.unusedVariables false
open Go.RowKit Go.Proofs.Ytlmnniajindlgaa.HMem

/-- Labels: names, and their values. -/
abbrev LL := List (ByteArray × ByteArray)
def flat : LL → List Value
  | [] => []
  | x :: r => .string x.1 :: .string x.2 :: flat r
/-- Less, of texts. -/
def Lt (a b : ByteArray) : Prop := a.data.toList < b.data.toList
instance (a b : ByteArray) : Decidable (Lt a b) := by unfold Lt; infer_instance
theorem bytes_ext {a b : ByteArray} (h : a.data.toList = b.data.toList) : a = b := ByteArray.ext (Array.toList_inj.1 h)
theorem Lt.irrefl (a : ByteArray) : ¬ Lt a a := List.lt_irrefl _
theorem Lt.trans {a b c : ByteArray} (h : Lt a b) (k : Lt b c) : Lt a c := List.lt_trans h k
theorem Lt.tri {a b : ByteArray} (h : ¬ Lt a b) (k : ¬ Lt b a) : a = b := bytes_ext (List.le_antisymm (List.not_lt.1 k) (List.not_lt.1 h))
theorem Lt.asymm {a b : ByteArray} (h : Lt a b) : ¬ Lt b a := fun k => Lt.irrefl a (h.trans k)
theorem Lt.ne {a b : ByteArray} (h : Lt a b) : a ≠ b := fun e => Lt.irrefl b (e ▸ h)
/-- How many names are below a, at the front. -/
def pos : LL → ByteArray → Nat
  | [], _ => 0
  | x :: r, a => if Lt x.1 a then pos r a + 1 else 0
def Rise (l : LL) : Prop := l.Pairwise fun x y => Lt x.1 y.1
theorem flat_length : ∀ l : LL, (flat l).length = l.length * 2
  | [] => rfl
  | x :: r => by simp only [flat, List.length_cons, flat_length r]; omega
theorem flat_append : ∀ l m : LL, flat (l ++ m) = flat l ++ flat m
  | [], m => rfl
  | x :: r, m => by simp [flat, flat_append r m]
theorem flat_take : ∀ (l : LL) (k : Nat), (flat l).take (k * 2) = flat (l.take k)
  | [], k => by simp [flat]
  | x :: r, 0 => by simp [flat]
  | x :: r, k + 1 => by rw [show (k + 1) * 2 = k * 2 + 1 + 1 by omega]; simp [flat, flat_take r k]
theorem flat_drop : ∀ (l : LL) (k : Nat), (flat l).drop (k * 2) = flat (l.drop k)
  | [], k => by simp [flat]
  | x :: r, 0 => by simp [flat]
  | x :: r, k + 1 => by rw [show (k + 1) * 2 = k * 2 + 1 + 1 by omega]; simp [flat, flat_drop r k]
theorem flat_get : ∀ (l : LL) (k : Nat) (x : ByteArray × ByteArray), l[k]? = some x → (flat l)[k * 2]? = some (.string x.1) ∧ (flat l)[k * 2 + 1]? = some (.string x.2)
  | [], k, x, h => by simp at h
  | y :: r, 0, x, h => by simp at h; subst h; simp [flat]
  | y :: r, k + 1, x, h => by
    rw [show (k + 1) * 2 = k * 2 + 1 + 1 by omega]
    simpa [flat] using flat_get r k x (by simpa using h)
theorem flat_one : ∀ (l : LL), ∀ v ∈ flat l, v.oneCell' = true
  | [], v, h => by simp [flat] at h
  | x :: r, v, h => by
    simp [flat] at h
    rcases h with rfl | rfl | h
    · rfl
    · rfl
    · exact flat_one r v h
theorem pos_le : ∀ (l : LL) (a : ByteArray), pos l a ≤ l.length
  | [], a => Nat.le_refl _
  | x :: r, a => by
    have := pos_le r a
    unfold pos
    split
    · simp; omega
    · omega
theorem Rise.tail {x : ByteArray × ByteArray} {r : LL} (h : Rise (x :: r)) : Rise r := (List.pairwise_cons.1 h).2
theorem Rise.head {x : ByteArray × ByteArray} {r : LL} (h : Rise (x :: r)) : ∀ y ∈ r, Lt x.1 y.1 := (List.pairwise_cons.1 h).1
theorem pos_lt : ∀ (l : LL) (a : ByteArray), Rise l → ∀ (k : Nat) (x : ByteArray × ByteArray), l[k]? = some x → (Lt x.1 a ↔ k < pos l a)
  | [], a, h, k, x, hk => by simp at hk
  | y :: r, a, h, 0, x, hk => by
    simp at hk; subst hk
    unfold pos
    split <;> simp_all
  | y :: r, a, h, k + 1, x, hk => by
    have hk' : r[k]? = some x := by simpa using hk
    have ih := pos_lt r a h.tail k x hk'
    have hy := h.head x (List.mem_of_getElem? hk')
    unfold pos
    split
    · rw [ih]; omega
    · rename_i hn
      exact ⟨fun hx => absurd (hy.trans hx) hn, fun hx => by omega⟩
/-- Is a name there, where it would stand? -/
def thereL (l : LL) (a : ByteArray) : Bool := match l[pos l a]? with | some x => decide (x.1 = a) | none => false
theorem there_yes {l : LL} {a : ByteArray} {x : ByteArray × ByteArray} (h : l[pos l a]? = some x) (e : x.1 = a) : thereL l a = true := by
  unfold thereL; rw [h]; exact decide_eq_true e
theorem there_no {l : LL} {a : ByteArray} (h : ∀ x, l[pos l a]? = some x → x.1 ≠ a) : thereL l a = false := by
  unfold thereL
  cases hx : l[pos l a]? with
  | none => rfl
  | some x => exact decide_eq_false (h x hx)
def insL (l : LL) (x : ByteArray × ByteArray) : LL := l.take (pos l x.1) ++ (x :: l.drop (pos l x.1))
/-- Sorted, behind what is sorted already; none: a name comes twice. -/
def sortA : LL → LL → Option LL
  | acc, [] => some acc
  | acc, x :: r => if thereL acc x.1 = true then none else sortA (insL acc x) r
def sortL (l : LL) : Option LL := sortA [] l
theorem insL_length (l : LL) (x : ByteArray × ByteArray) : (insL l x).length = l.length + 1 := by
  have := pos_le l x.1
  simp [insL]; omega
theorem insL_perm (l : LL) (x : ByteArray × ByteArray) : (insL l x).Perm (x :: l) := by
  unfold insL
  refine List.perm_middle.trans ?_
  rw [List.take_append_drop]
theorem pos_before (l : LL) (a : ByteArray) (h : Rise l) : ∀ x ∈ l.take (pos l a), Lt x.1 a := fun x hx => by
  obtain ⟨k, hk⟩ := List.mem_iff_getElem?.1 hx
  rw [List.getElem?_take] at hk
  split at hk
  · rename_i h1
    exact (pos_lt l a h k x hk).2 h1
  · cases hk
theorem pos_behind (l : LL) (a : ByteArray) (h : Rise l) (hn : thereL l a = false) : ∀ x ∈ l.drop (pos l a), Lt a x.1 := fun x hx => by
  obtain ⟨k, hk⟩ := List.mem_iff_getElem?.1 hx
  rw [List.getElem?_drop] at hk
  have h1 : ¬ Lt x.1 a := fun h1 => by have := (pos_lt l a h _ x hk).1 h1; omega
  by_cases h2 : Lt a x.1
  · exact h2
  · exfalso
    have e := Lt.tri h1 h2
    cases k with
    | zero => rw [there_yes hk e] at hn; cases hn
    | succ k =>
      obtain ⟨y, hy⟩ : ∃ y, l[pos l a]? = some y := ⟨_, List.getElem?_eq_getElem (by have := (List.getElem?_eq_some_iff.1 hk).1; omega)⟩
      have h3 : Lt y.1 x.1 := by
        have hp := List.pairwise_iff_getElem.1 h
        have k1 := (List.getElem?_eq_some_iff.1 hy)
        have k2 := (List.getElem?_eq_some_iff.1 hk)
        have := hp _ _ k1.1 k2.1 (by omega)
        rw [k1.2, k2.2] at this
        exact this
      rw [e] at h3
      have := (pos_lt l a h _ y hy).1 h3
      omega
theorem Rise.ins {l : LL} (h : Rise l) (x : ByteArray × ByteArray) (hn : thereL l x.1 = false) : Rise (insL l x) := by
  have h1 := pos_before l x.1 h
  have h2 := pos_behind l x.1 h hn
  have hp : Rise (l.take (pos l x.1) ++ l.drop (pos l x.1)) := by rw [List.take_append_drop]; exact h
  obtain ⟨p1, p2, p3⟩ := List.pairwise_append.1 hp
  refine List.pairwise_append.2 ⟨p1, List.pairwise_cons.2 ⟨h2, p2⟩, fun y hy z hz => ?_⟩
  rcases List.mem_cons.1 hz with rfl | hz
  · exact h1 y hy
  · exact p3 y hy z hz
theorem sortA_rise : ∀ (r acc s : LL), Rise acc → sortA acc r = some s → Rise s
  | [], acc, s, h, e => by simp [sortA] at e; exact e ▸ h
  | x :: r, acc, s, h, e => by
    unfold sortA at e
    split at e
    · cases e
    · rename_i hn
      exact sortA_rise r _ s (h.ins x (by simpa using hn)) e
theorem sortA_perm : ∀ (r acc s : LL), sortA acc r = some s → s.Perm (r ++ acc)
  | [], acc, s, e => by simp [sortA] at e; exact e ▸ List.Perm.refl _
  | x :: r, acc, s, e => by
    unfold sortA at e
    split at e
    · cases e
    · refine (sortA_perm r _ s e).trans ?_
      refine ((List.Perm.refl r).append (insL_perm acc x)).trans ?_
      exact List.perm_middle
theorem sortL_rise {l s : LL} (e : sortL l = some s) : Rise s := sortA_rise l [] s List.Pairwise.nil e
theorem sortL_perm {l s : LL} (e : sortL l = some s) : s.Perm l := by have := sortA_perm l [] s e; simpa using this
/-- The value of a name. -/
def getL (l : LL) (a : ByteArray) : Option ByteArray := (l.find? fun x => decide (x.1 = a)).map (·.2)
end Go.Proofs.Ytlmnniajindlgaa.HLab
