/- Labels, plainly: what is found, when sorting goes, that no key stands ahead of another. No conditions. -/
import Derived.Test.YtlmnniajindlgaaLabKey
namespace Go.Proofs.Ytlmnniajindlgaa.HLab
set_option linter.unusedVariables false
open Go.RowKit Go.Proofs.Ytlmnniajindlgaa.HMem

theorem Rise.nodup : ∀ {l : LL}, Rise l → (l.map (·.1)).Nodup
  | [], h => List.nodup_nil
  | x :: r, h => by
    rw [List.map_cons, List.nodup_cons]
    refine ⟨fun hm => ?_, h.tail.nodup⟩
    obtain ⟨y, hy, e⟩ := List.mem_map.1 hm
    exact (h.head y hy).ne e.symm
theorem sortA_some : ∀ (r acc : LL), Rise acc → (r.map (·.1)).Nodup → (∀ x ∈ r, ∀ y ∈ acc, y.1 ≠ x.1) → ∃ s, sortA acc r = some s
  | [], acc, _, _, _ => ⟨acc, rfl⟩
  | x :: r, acc, h, hn, ha => by
    rw [List.map_cons, List.nodup_cons] at hn
    have hf : thereL acc x.1 = false := there_no fun z hz => ha x (by simp) z (List.mem_of_getElem? hz)
    unfold sortA
    rw [if_neg (by rw [hf]; decide)]
    refine sortA_some r _ (h.ins x hf) hn.2 fun y hy z hz => ?_
    rcases List.mem_cons.1 ((insL_perm acc x).mem_iff.1 hz) with rfl | hz
    · exact fun e => hn.1 (List.mem_map.2 ⟨y, hy, e.symm⟩)
    · exact ha y (by simp [hy]) z hz
theorem sortL_some {l : LL} (h : (l.map (·.1)).Nodup) : ∃ s, sortL l = some s := sortA_some l [] List.Pairwise.nil h fun x _ y hy => by cases hy
theorem sortL_nodup {l s : LL} (h : sortL l = some s) : (l.map (·.1)).Nodup := ((sortL_perm h).map (·.1)).nodup_iff.1 (sortL_rise h).nodup
/-- Two rising lists of the same labels are the same. -/
theorem rise_perm {s t : LL} (h : Rise s) (k : Rise t) (p : s.Perm t) : s = t := by
  have key : ∀ (s t : LL), Rise s → Rise t → s.Perm t → s = t := by
    intro s
    induction s with
    | nil => intro t _ _ p; exact (List.nil_perm.1 p).symm
    | cons x r ih =>
      intro t h k p
      cases t with
      | nil => exact absurd p.length_eq (by simp)
      | cons y q =>
        have e : x = y := by
          rcases List.mem_cons.1 (p.mem_iff.1 (by simp : x ∈ x :: r)) with e | hx
          · exact e
          · rcases List.mem_cons.1 (p.mem_iff.2 (by simp : y ∈ y :: q)) with e | hy
            · exact e.symm
            · exact absurd (h.head y hy) (k.head x hx).asymm
        subst e
        rw [ih q h.tail k.tail (List.perm_cons x |>.1 p)]
  exact key s t h k p
theorem sortL_perm_eq {l m s : LL} (p : l.Perm m) (h : sortL l = some s) : sortL m = some s := by
  obtain ⟨t, ht⟩ := sortL_some ((p.map (·.1)).nodup_iff.1 (sortL_nodup h))
  rw [ht, rise_perm (sortL_rise h) (sortL_rise ht) ((sortL_perm h).trans (p.trans (sortL_perm ht).symm))]
theorem sortL_none {l m : LL} (p : l.Perm m) (h : sortL l = none) : sortL m = none := by
  cases hm : sortL m with
  | none => rfl
  | some s => rw [sortL_perm_eq p.symm hm] at h; cases h
/-- What is found. -/
theorem getL_mem : ∀ {l : LL}, (l.map (·.1)).Nodup → ∀ x ∈ l, getL l x.1 = some x.2
  | [], _, x, h => by cases h
  | y :: r, hn, x, h => by
    rw [List.map_cons, List.nodup_cons] at hn
    unfold getL
    rcases List.mem_cons.1 h with rfl | h
    · simp
    · have e : ¬ y.1 = x.1 := fun e => hn.1 (List.mem_map.2 ⟨x, h, e.symm⟩)
      have := getL_mem hn.2 x h
      unfold getL at this
      rw [List.find?_cons_of_neg (by simpa using e)]
      exact this
theorem getL_some {l : LL} {a v : ByteArray} (h : getL l a = some v) : (a, v) ∈ l := by
  unfold getL at h
  cases hf : l.find? fun x => decide (x.1 = a) with
  | none => rw [hf] at h; cases h
  | some x =>
    rw [hf] at h
    have h1 := List.mem_of_find?_eq_some hf
    have h2 := List.find?_some hf
    simp at h2 h
    rw [← h2, ← h]
    exact h1
theorem getL_none {l : LL} {a : ByteArray} : getL l a = none ↔ ∀ x ∈ l, x.1 ≠ a := by
  unfold getL
  rw [Option.map_eq_none_iff, List.find?_eq_none]
  simp
theorem getL_perm {l m : LL} (p : l.Perm m) (h : (l.map (·.1)).Nodup) (a : ByteArray) : getL l a = getL m a := by
  cases hg : getL l a with
  | none => exact (getL_none.2 fun x hx => getL_none.1 hg x (p.mem_iff.2 hx)).symm
  | some v => exact (getL_mem ((p.map (·.1)).nodup_iff.1 h) (a, v) (p.mem_iff.1 (getL_some hg))).symm
/-- What stands behind is told as what is left. -/
theorem takeT_app {k : List UInt8} {a : ByteArray} {r : List UInt8} (h : takeT k = some (a, r)) (z : List UInt8) : takeT (k ++ z) = some (a, r ++ z) := by
  cases k with
  | nil => cases h
  | cons c t =>
    change (if t.length < c.toNat then none else some (⟨⟨t.take c.toNat⟩⟩, t.drop c.toNat)) = some (a, r) at h
    change (if (t ++ z).length < c.toNat then none else some (⟨⟨(t ++ z).take c.toNat⟩⟩, (t ++ z).drop c.toNat)) = some (a, r ++ z)
    by_cases hl : t.length < c.toNat
    · rw [if_pos hl] at h; cases h
    · rw [if_neg hl] at h
      injection h with h
      injection h with h1 h2
      rw [if_neg (by rw [List.length_append]; omega), List.take_append_of_le_length (by omega), List.drop_append_of_le_length (by omega), h1, h2]
theorem takeN_app : ∀ (m : Nat) {k : List UInt8} {l : LL} {r : List UInt8}, takeN m k = some (l, r) → ∀ z, takeN m (k ++ z) = some (l, r ++ z)
  | 0, k, l, r, h, z => by simp [takeN] at h ⊢; exact ⟨h.1, by rw [h.2]⟩
  | m + 1, k, l, r, h, z => by
    unfold takeN at h ⊢
    cases h1 : takeT k with
    | none => rw [h1] at h; cases h
    | some p =>
      obtain ⟨a, r1⟩ := p
      rw [h1] at h
      simp only [] at h
      rw [takeT_app h1]
      simp only []
      cases h2 : takeT r1 with
      | none => rw [h2] at h; cases h
      | some p2 =>
        obtain ⟨b, r2⟩ := p2
        rw [h2] at h
        simp only [] at h
        rw [takeT_app h2]
        simp only []
        cases h3 : takeN m r2 with
        | none => rw [h3] at h; cases h
        | some p3 =>
          obtain ⟨l3, r3⟩ := p3
          rw [h3] at h
          simp at h
          rw [takeN_app m h3]
          simp [h.1, h.2]
theorem readL_app {k : List UInt8} {n : ByteArray} {l : LL} {r : List UInt8} (h : readL k = some (n, l, r)) (z : List UInt8) : readL (k ++ z) = some (n, l, r ++ z) := by
  unfold readL at h ⊢
  cases h1 : takeT k with
  | none => rw [h1] at h; cases h
  | some p =>
    obtain ⟨a, r1⟩ := p
    rw [h1] at h
    rw [takeT_app h1]
    cases r1 with
    | nil => cases h
    | cons c t =>
      simp only [List.cons_append] at h ⊢
      cases h2 : takeN c.toNat t with
      | none => rw [h2] at h; cases h
      | some p2 =>
        obtain ⟨l2, r2⟩ := p2
        rw [h2] at h
        simp at h
        rw [takeN_app _ h2]
        simp [h.1, h.2]
/-- No key stands ahead of another one. -/
theorem IsKey.alone {k j n m : ByteArray} {s t : LL} (h : IsKey k n s) (g : IsKey j m t) (z : List UInt8) (e : j.data.toList = k.data.toList ++ z) : z = [] := by
  have h1 := readL_app h.read z
  rw [← e, g.read] at h1
  simp at h1
  exact h1.2.2
end Go.Proofs.Ytlmnniajindlgaa.HLab
