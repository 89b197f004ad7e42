/- Labels by bytes: plain laws of their names, keys. Conditions: none. -/
import Derived.Test.YtlmnniajindlgaaLabKeys
import Derived.Test.YtlmnniajindlgaaLabPlain
namespace Go.Proofs.Ytlmnniajindlgaa.HLab
set_option linter.unusedVariables false
open Go.RowKit Go.Proofs.Ytlmnniajindlgaa.HMem Go.Proofs.Ytlmnniajindlgaa.HBld Go.Proofs.Ytlmnniajindlgaa.HApp

theorem ltr_plain (x : UInt8) : 32 ≤ (ltr x).toNat ∧ (ltr x).toNat ≠ 127 := by
  unfold ltr
  have h : x.toNat % 10 < 10 := Nat.mod_lt _ (by decide)
  generalize x.toNat % 10 = r at h
  match r, h with
  | 0, _ => decide
  | 1, _ => decide
  | 2, _ => decide
  | 3, _ => decide
  | 4, _ => decide
  | 5, _ => decide
  | 6, _ => decide
  | 7, _ => decide
  | 8, _ => decide
  | 9, _ => decide
theorem wordL_plain (l : List UInt8) : ∀ c ∈ wordL l, 32 ≤ c.toNat ∧ c.toNat ≠ 127 := by
  intro c hc
  unfold wordL at hc
  rcases List.mem_cons.1 hc with rfl | h
  · decide
  · obtain ⟨x, _, rfl⟩ := List.mem_map.1 h
    exact ltr_plain x
theorem named_of {l : List UInt8} (h1 : 1 ≤ l.length) (h2 : l.length ≤ 64) (hp : ∀ c ∈ l, 32 ≤ c.toNat ∧ c.toNat ≠ 127) : named ⟨⟨l⟩⟩ = true := by
  have hs : (⟨⟨l⟩⟩ : ByteArray).size = l.length := rfl
  unfold named
  rw [hs, decide_eq_true h1, decide_eq_true h2, Bool.true_and, Bool.true_and]
  unfold plainB
  rw [List.all_eq_true]
  intro c hc
  have h := hp c hc
  rw [decide_eq_false (show ¬ c.toNat < 32 by omega), decide_eq_false h.2]
  rfl
theorem wordB_named (l : List UInt8) : named (wordB l) = true := named_of (by simp [wordL]) (by have := wordL_length l; omega) (wordL_plain l)
theorem nmB_named (l : List UInt8) : named (nmB l) = true :=
  named_of (by rw [List.length_take]; simp [wordL]; omega) (by rw [List.length_take]; omega) fun c hc => wordL_plain l c (List.mem_of_mem_take hc)
theorem fewL_named (ls : List (List UInt8)) : ∀ x ∈ fewL ls, named x.1 = true ∧ named x.2 = true := by
  intro x hx
  obtain ⟨i, _, rfl⟩ := List.mem_map.1 hx
  exact ⟨nmB_named _, wordB_named _⟩
theorem fewL_ok (n : ByteArray) (ls : List (List UInt8)) (hn : named n = true) (h : (fewL ls).length ≤ 16) : okL n (fewL ls) = true := by
  unfold okL
  rw [hn, decide_eq_true h, Bool.true_and, Bool.true_and, List.all_eq_true]
  intro x hx
  rw [(fewL_named ls x hx).1, (fewL_named ls x hx).2]
  rfl
theorem encS_le (m : Nat) : ∀ s : LL, (∀ x ∈ s, x.1.size ≤ m ∧ x.2.size ≤ m) → (encS s).length ≤ s.length * (2 * m + 2)
  | [], h => Nat.zero_le _
  | x :: r, h => by
    have h1 := h x (by simp)
    have h2 := encS_le m r fun y hy => h y (by simp [hy])
    have a1 : x.1.data.toList.length = x.1.size := list_size x.1
    have a2 : x.2.data.toList.length = x.2.size := list_size x.2
    simp only [encS, txL, List.length_append, List.length_cons, a1, a2, Nat.add_mul]
    omega
theorem encL_le (n : ByteArray) (m : Nat) (s : LL) (h : ∀ x ∈ s, x.1.size ≤ m ∧ x.2.size ≤ m) : (encL n s).length ≤ n.size + 2 + s.length * (2 * m + 2) := by
  have h2 := encS_le m s h
  have a1 : n.data.toList.length = n.size := list_size n
  simp only [encL, txL, List.length_append, List.length_cons, a1]
  omega
theorem keyL_perm (n : ByteArray) {l m : LL} (p : l.Perm m) : keyL n l = keyL n m := by
  unfold keyL
  rw [okL_perm p]
  cases h : sortL l with
  | none => rw [sortL_none p h]
  | some s => rw [sortL_perm_eq p h]
/-- Of a few labels, sorted: their key. -/
theorem few_key (ls : List (List UInt8)) (ws : List UInt8) (h : (fewL ls).length ≤ 16) :
    (sortL (fewL ls) = none ∧ keyL (wordB ws) (fewL ls) = (⟨#[]⟩, 11)) ∨ ∃ s k, sortL (fewL ls) = some s ∧ keyL (wordB ws) (fewL ls) = (k, 0) ∧ IsKey k (wordB ws) s := by
  have ho := fewL_ok (wordB ws) ls (wordB_named ws) h
  cases hs : sortL (fewL ls) with
  | none => exact .inl ⟨rfl, keyL_double ho hs⟩
  | some s =>
    have hp := sortL_perm hs
    have hlen := encL_le (wordB ws) 13 s fun x hx => fewL_sz ls x (hp.mem_iff.1 hx)
    have hl := hp.length_eq
    have hw := wordB_size ws
    have hk := keyL_ok ho hs (by omega)
    obtain ⟨s', hs', hi⟩ := IsKey.of hk
    rw [hs] at hs'
    cases hs'
    exact .inr ⟨s, _, rfl, hk, hi⟩
theorem WRow.take {w : World} {a : Option Addr} {n c : Nat} {ls : List (List UInt8)} (h : WRow w (.slice a n c) ls) (k : Nat) (hk : k ≤ ls.length) : WRow w (.slice a k c) (ls.take k) := by
  obtain ⟨a', c', e, h2, h3, h4⟩ := h
  cases e
  have hl : (ls.take k).length = k := by rw [List.length_take]; omega
  refine ⟨_, _, by rw [hl], by rw [hl]; omega, h3, fun i l hi => ?_⟩
  rw [List.getElem?_take] at hi
  split at hi
  · exact h4 i l hi
  · cases hi
end Go.Proofs.Ytlmnniajindlgaa.HLab
