/- SlotOnes: the map of the keys' slots beside the table's keys: plain laws. -/
import Derived.Test.YtjlhpnnkhiojfaaSlotJoint
import Derived.Test.YtjlhpnnkhiojfaaSlotChurn
import Derived.Maps.OwnSet
import Derived.Maps.Views
import Derived.Maps.Ext
namespace Go.Proofs.Ytjlhpnnkhiojfaa.HSlot
set_option linter.unusedVariables false
open Go.RowKit Go.Proofs.Ytjlhpnnkhiojfaa.Print Go.Proofs.Ytjlhpnnkhiojfaa.HSip Go.Proofs.YtjlhpnnkhiojfaaW.PrintWords Go.Proofs.YtjlhpnnkhiojfaaW.PrintLast Go.Proofs.YtjlhpnnkhiojfaaW.PrintMore

def xk (k : Nat) : ByteArray := strOfNums [120, (k : Int) / 256, (k : Int) % 256]
theorem xk_size (m : Nat) : (xk m).size = 3 := by unfold xk; rw [strOfNums_size]; rfl
theorem xk_ne (m : Nat) : xk m ≠ E0 := fun h => by have := xk_size m; rw [h] at this; simp [ByteArray.size] at this
theorem xk_ok (m : Nat) : ¬ badKey (xk m) := fun h => h.elim (xk_ne m) (by rw [xk_size]; omega)
theorem xk_inj (m k : Nat) (hm : m < 65536) (hk : k < 65536) (h : xk m = xk k) : m = k := by
  have h1 := bytes_str [120, (m : Int) / 256, (m : Int) % 256] (by simp; omega)
  have h2 := bytes_str [120, (k : Int) / 256, (k : Int) % 256] (by simp; omega)
  unfold xk at h
  rw [h, h2] at h1
  simp only [List.cons.injEq, and_true] at h1
  omega
abbrev lk (k : Nat) : Lit := .int .u16 (k : Int)
structure MK (D : DataW Unit) (K : Nat → ByteArray) (r : Nat) : Prop where
  has : ∀ k : Nat, k < 400 → (Maps.has D (lk k) = true ↔ ∃ s, K s = xk k)
  at_ : ∀ k s : Nat, k < 400 → K s = xk k → D.atKey (lk k) (.lit (.int .i64 0)) = .lit (.int .i64 (s : Int))
  size : Maps.size D = (sl K r).length
  sz : ∀ s, (K s).size ≤ 4096
theorem lk_ne {a b : Nat} (h : a ≠ b) : lk a ≠ lk b := fun e => h (by simp at e; omega)
theorem sl_up_new (K : Nat → ByteArray) (r s : Nat) (v : ByteArray) (hs : s < r) (h0 : K s = E0) (hv : v ≠ E0) : (sl (up K s v) r).length = (sl K r).length + 1 := by
  rw [sl_cn, sl_cn]
  exact cn_upd (has K) (has (up K s v)) s (fun i hi => by unfold has up; rw [if_neg hi]) (by unfold has; simp [h0]) (by unfold has up; simp [hv]) r hs
theorem sl_up_gone (K : Nat → ByteArray) (r s : Nat) (hs : s < r) (h0 : K s ≠ E0) : (sl (up K s E0) r).length + 1 = (sl K r).length := by
  rw [sl_cn, sl_cn]
  exact (cn_upd (has (up K s E0)) (has K) s (fun i hi => by unfold has up; rw [if_neg hi]) (by unfold has up; simp) (by unfold has; simp [h0]) r hs).symm
theorem MK.put {D : DataW Unit} {K : Nat → ByteArray} {r k s : Nat} (h : MK D K r) (ht : Maps.Tidy D) (hm : Maps.IsMap D) (hk : k < 400) (hs : s < r) (h0 : K s = E0) (hn : ∀ i, K i ≠ xk k) :
    MK (D.put (lk k) (.lit (.int .i64 (s : Int)))) (up K s (xk k)) r := by
  have hl : WideAt.IsKeyLit (lk k) := by simp [WideAt.IsKeyLit]
  refine ⟨fun j hj => ?_, fun j i hj hi => ?_, ?_, fun i => ?_⟩
  · by_cases e : j = k
    · subst e
      rw [Maps.has_put_same hm hl]
      exact ⟨fun _ => ⟨s, by unfold up; rw [if_pos rfl]⟩, fun _ => rfl⟩
    · rw [Maps.has_put_other (lk_ne e), h.has j hj]
      constructor
      · rintro ⟨i, hi⟩
        refine ⟨i, ?_⟩
        unfold up
        rw [if_neg (fun e2 => xk_ne j (by rw [← hi, e2]; exact h0))]
        exact hi
      · rintro ⟨i, hi⟩
        unfold up at hi
        by_cases e2 : i = s
        · rw [if_pos e2] at hi
          exact absurd (xk_inj k j (by omega) (by omega) hi).symm e
        · rw [if_neg e2] at hi; exact ⟨i, hi⟩
  · by_cases e : j = k
    · subst e
      rw [Maps.atKey_put_same hm hl]
      unfold up at hi
      by_cases e2 : i = s
      · rw [e2]
      · rw [if_neg e2] at hi; exact absurd hi (hn i)
    · rw [Maps.atKey_put_other (lk_ne e)]
      refine h.at_ j i hj ?_
      unfold up at hi
      by_cases e2 : i = s
      · rw [if_pos e2] at hi
        exact absurd (xk_inj k j (by omega) (by omega) hi).symm e
      · rw [if_neg e2] at hi; exact hi
  · rw [Maps.size_put ht, if_neg, h.size, sl_up_new K r s _ hs h0 (xk_ne k)]
    rw [h.has k hk]
    rintro ⟨i, hi⟩
    exact hn i hi
  · unfold up
    split
    · rw [xk_size]; omega
    · exact h.sz i
theorem MK.del {D : DataW Unit} {K : Nat → ByteArray} {r k s : Nat} (h : MK D K r) (ht : Maps.Tidy D) (hk : k < 400) (hs : s < r) (h0 : K s = xk k) (hd : ∀ i, K i = xk k → i = s) :
    MK (D.del (lk k)) (up K s E0) r := by
  refine ⟨fun j hj => ?_, fun j i hj hi => ?_, ?_, fun i => ?_⟩
  · by_cases e : j = k
    · subst e
      rw [Maps.has_del_same]
      refine ⟨fun e => by simp at e, fun ⟨i, hi⟩ => ?_⟩
      unfold up at hi
      by_cases e2 : i = s
      · rw [if_pos e2] at hi; exact absurd hi.symm (xk_ne j)
      · rw [if_neg e2] at hi; exact absurd (hd i hi) e2
    · rw [Maps.has_del_other (lk_ne e), h.has j hj]
      constructor
      · rintro ⟨i, hi⟩
        refine ⟨i, ?_⟩
        unfold up
        rw [if_neg (fun e2 => e (xk_inj j k (by omega) (by omega) (by rw [← hi, e2]; exact h0)))]
        exact hi
      · rintro ⟨i, hi⟩
        unfold up at hi
        by_cases e2 : i = s
        · rw [if_pos e2] at hi; exact absurd hi.symm (xk_ne j)
        · rw [if_neg e2] at hi; exact ⟨i, hi⟩
  · unfold up at hi
    by_cases e2 : i = s
    · rw [if_pos e2] at hi; exact absurd hi.symm (xk_ne j)
    · rw [if_neg e2] at hi
      have e : j ≠ k := fun e => e2 (hd i (by rw [← e]; exact hi))
      rw [Maps.atKey_del_other (lk_ne e)]
      exact h.at_ j i hj hi
  · have := Maps.size_del (k := lk k) ht
    rw [if_pos ((h.has k hk).2 ⟨s, h0⟩), h.size, ← sl_up_gone K r s hs (by rw [h0]; exact xk_ne k)] at this
    omega
  · unfold up
    split
    · simp [ByteArray.size]
    · exact h.sz i

end Go.Proofs.Ytjlhpnnkhiojfaa.HSlot
