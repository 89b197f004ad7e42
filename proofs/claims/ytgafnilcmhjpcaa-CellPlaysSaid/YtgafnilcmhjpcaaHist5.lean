/- Histograms: Rank, Quantile, walked. -/
import Derived.Test.YtgafnilcmhjpcaaHist3
import Derived.Test.YtgafnilcmhjpcaaItmIdx
namespace Go.Proofs.Ytgafnilcmhjpcaa.HHist
set_option linter.unusedVariables false
open Go.RowKit Go.Proofs.Ytgafnilcmhjpcaa.HMem Go.Proofs.Ytgafnilcmhjpcaa.HBucket
open Go.Proofs.Ytgafnilcmhjpcaa.Print (I64)

/-- The bucket of a rank. -/
def rankL : IL → Nat → Option Int
  | [], _ => none
  | x :: r, k => if k ≤ x.2 then some x.1 else rankL r (k - x.2)
def rankZ (l : IL) (r : Nat) : Int × Bool := if r = 0 then (0, false) else match rankL l r with | some a => (a, true) | none => (0, false)
/-- What is left of a rank ahead of the k-th item. -/
def rv (l : IL) (r : Nat) : Nat → Nat
  | 0 => r
  | k + 1 => if rv l r k ≤ (l.getD k default).2 then rv l r k else rv l r k - (l.getD k default).2
def rp (l : IL) (r k : Nat) : Bool := decide (rv l r k ≤ (l.getD k default).2)
theorem getD_of {l : IL} {k : Nat} (h : k < l.length) : l[k]? = some (l.getD k default) := by rw [List.getD_eq_getElem?_getD, List.getElem?_eq_getElem h]; rfl
theorem rank_drop (l : IL) (r : Nat) : ∀ (d k : Nat), k + d ≤ l.length → (∀ j, k ≤ j → j < k + d → rp l r j = false) → rankL (l.drop k) (rv l r k) = rankL (l.drop (k + d)) (rv l r (k + d))
  | 0, k, _, _ => rfl
  | d + 1, k, h, hp => by
    have hk : k < l.length := by omega
    have h0 := of_decide_eq_false (hp k (Nat.le_refl _) (by omega))
    have e : l.drop k = l.getD k default :: l.drop (k + 1) := by
      rw [List.drop_eq_getElem_cons hk, List.getD_eq_getElem?_getD, List.getElem?_eq_getElem hk]; rfl
    rw [e, rankL, if_neg h0]
    have e2 : rv l r k - (l.getD k default).2 = rv l r (k + 1) := by rw [rv, if_neg h0]
    rw [e2, rank_drop l r d (k + 1) (by omega) (fun j h1 h2 => hp j (by omega) (by omega)), show k + 1 + d = k + (d + 1) by omega]
theorem rank_yes (l : IL) (r m : Nat) (hm : m < l.length) (hp : rp l r m = true) (hlt : ∀ j, j < m → rp l r j = false) : rankL l r = some (l.getD m default).1 := by
  have := rank_drop l r m 0 (by omega) (fun j _ h2 => hlt j (by omega))
  simp only [List.drop_zero, Nat.zero_add] at this
  rw [show rankL l r = rankL l (rv l r 0) from rfl, this, List.drop_eq_getElem_cons hm]
  have e : l[m] = l.getD m default := by rw [List.getD_eq_getElem?_getD, List.getElem?_eq_getElem hm]; rfl
  rw [e, rankL, if_pos (of_decide_eq_true hp)]
theorem rank_no (l : IL) (r : Nat) (hlt : ∀ j, j < l.length → rp l r j = false) : rankL l r = none := by
  have := rank_drop l r l.length 0 (by omega) (fun j _ h2 => hlt j (by omega))
  simp only [List.drop_zero, Nat.zero_add, List.drop_length] at this
  rw [show rankL l r = rankL l (rv l r 0) from rfl, this]
  rfl
theorem rv_pos (l : IL) (r : Nat) (h : 0 < r) : ∀ k, 0 < rv l r k
  | 0 => h
  | k + 1 => by
    have := rv_pos l r h k
    rw [rv]
    split
    · exact this
    · omega
theorem rv_zero (l : IL) : ∀ k, rv l 0 k = 0
  | 0 => rfl
  | k + 1 => by rw [rv, rv_zero l k, if_pos (Nat.zero_le _)]
theorem rv_le (l : IL) (r : Nat) : ∀ k, rv l r k ≤ r
  | 0 => Nat.le_refl _
  | k + 1 => by
    have := rv_le l r k
    rw [rv]
    split <;> omega
theorem first_or (p : Nat → Bool) : ∀ n, (∀ j, j < n → p j = false) ∨ ∃ m, m < n ∧ p m = true ∧ ∀ j, j < m → p j = false
  | 0 => .inl (by omega)
  | n + 1 => by
    rcases first_or p n with h | ⟨m, h1, h2, h3⟩
    · cases e : p n
      · exact .inl fun j hj => by
          by_cases e2 : j = n
          · rw [e2]; exact e
          · exact h j (by omega)
      · exact .inr ⟨n, by omega, e, h⟩
    · exact .inr ⟨m, by omega, h2, h3⟩

/-- Ahead of the k-th item: what is left of the rank, in its box. -/
structure RI (W : World) (X : Nat) (l : IL) (r k : Nat) (w' : World) : Prop where
  box : w'.heap[X]? = some (.cells #[.int .u64 (rv l r k : Nat)] 41 (0, 0))
  chg : Chg (· = X) W w'
end Go.Proofs.Ytgafnilcmhjpcaa.HHist
