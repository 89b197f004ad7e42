/- SlotPlays: both tables answer as one plain function says. -/
import Derived.Test.YtjlhpnnkhiojfaaSlotRef
namespace Go.Proofs.Ytjlhpnnkhiojfaa.HSlot
set_option linter.unusedVariables false
open Go.RowKit Go.Proofs.Ytjlhpnnkhiojfaa.Print Go.Proofs.Ytjlhpnnkhiojfaa.HSip Go.Proofs.YtjlhpnnkhiojfaaW.PrintWords Go.Proofs.YtjlhpnnkhiojfaaW.PrintLast Go.Proofs.YtjlhpnnkhiojfaaW.PrintMore

/-- The first free slot among n, from k on. -/
def ff (K : Nat → ByteArray) : Nat → Nat → Option Nat
  | 0, _ => none
  | n + 1, k => if K k = E0 then some k else ff K n (k + 1)
theorem ff_some {K : Nat → ByteArray} {s : Nat} : ∀ (n k : Nat), ff K n k = some s → k ≤ s ∧ s < k + n ∧ K s = E0 ∧ ∀ j, k ≤ j → j < s → K j ≠ E0
  | 0, _, h => by simp [ff] at h
  | n + 1, k, h => by
    rw [ff] at h
    by_cases e : K k = E0
    · rw [if_pos e] at h
      obtain rfl : k = s := by simpa using h
      exact ⟨Nat.le_refl _, by omega, e, fun j h1 h2 => by omega⟩
    · rw [if_neg e] at h
      obtain ⟨h1, h2, h3, h4⟩ := ff_some n (k + 1) h
      refine ⟨by omega, by omega, h3, fun j j1 j2 => ?_⟩
      by_cases e2 : j = k
      · rw [e2]; exact e
      · exact h4 j (by omega) j2
theorem ff_none {K : Nat → ByteArray} : ∀ (n k : Nat), ff K n k = none → ∀ j, k ≤ j → j < k + n → K j ≠ E0
  | 0, _, _, j, h1, h2 => by omega
  | n + 1, k, h, j, h1, h2 => by
    rw [ff] at h
    by_cases e : K k = E0
    · rw [if_pos e] at h; simp at h
    · rw [if_neg e] at h
      by_cases e2 : j = k
      · rw [e2]; exact e
      · exact ff_none n (k + 1) h j (by omega) (by omega)
theorem rf_is {K : Nat → ByteArray} {key : ByteArray} {i : Nat} : ∀ (n k : Nat), rf K key n k = some i → K i = key ∧ key ≠ E0 ∧ i < k + n
  | 0, _, h => by simp [rf] at h
  | n + 1, k, h => by
    rw [rf] at h
    by_cases e : K k = key ∧ key ≠ E0
    · rw [if_pos e] at h
      obtain rfl : k = i := by simpa using h
      exact ⟨e.1, e.2, by omega⟩
    · rw [if_neg e] at h
      obtain ⟨h1, h2, h3⟩ := rf_is n (k + 1) h
      exact ⟨h1, h2, by omega⟩
theorem rf_not {K : Nat → ByteArray} {key : ByteArray} : ∀ (n k : Nat), rf K key n k = none → ∀ j, k ≤ j → j < k + n → ¬ (K j = key ∧ key ≠ E0)
  | 0, _, _, j, h1, h2 => by omega
  | n + 1, k, h, j, h1, h2 => by
    rw [rf] at h
    by_cases e : K k = key ∧ key ≠ E0
    · rw [if_pos e] at h; simp at h
    · rw [if_neg e] at h
      by_cases e2 : j = k
      · rw [e2]; exact e
      · exact rf_not n (k + 1) h j (by omega) (by omega)
theorem SK.noK {w : World} {b r : Nat} {K : Nat → ByteArray} {key : ByteArray} (h : SK w b r K) (hn : rf K key r 0 = none) : NoK K key := fun i hi e => by
  rcases Nat.lt_or_ge i r with hl | hg
  · exact rf_not r 0 hn i (by omega) (by omega) ⟨e, fun e2 => hi (e.trans e2)⟩
  · exact hi (h.beyond i (by omega))

/-- What Add answers, and the keys behind it. -/
def addR (K : Nat → ByteArray) (r : Nat) (key : ByteArray) : Int × Int × (Nat → ByteArray) :=
  if badKey key then (0, 1, K) else match rf K key r 0 with
    | some _ => (0, 6, K)
    | none => match ff K r 0 with
      | some s => ((s : Int), 0, up K s key)
      | none => (0, 4, K)
def dropR (K : Nat → ByteArray) (r : Nat) (key : ByteArray) : Bool × (Nat → ByteArray) :=
  match rf K key r 0 with
  | some i => (true, up K i E0)
  | none => (false, K)
theorem addR_b (K : Nat → ByteArray) (r : Nat) (key : ByteArray) : 0 ≤ (addR K r key).2.1 ∧ (addR K r key).2.1 ≤ 6 := by
  unfold addR
  split
  · exact ⟨by simp, by simp⟩
  · split
    · exact ⟨by simp, by simp⟩
    · split <;> exact ⟨by simp, by simp⟩

section
variable {w : World} {b x g r : Nat} {K : Nat → ByteArray} {key : ByteArray}
theorem t_add (h : SK w b r K) (hsz : key.size ≤ 140737488355328) :
    Calls Try.prog 11 #[.pointer (some ⟨b, 0, none⟩), .string key] w fun e w' => e = .returned (T1 (addR K r key).1 (addR K r key).2.1) ∧ (SK w' b r (addR K r key).2.2 ∧ Upd b w w') := by
  by_cases hb : badKey key
  · rw [show addR K r key = (0, 1, K) by unfold addR; rw [if_pos hb]]
    exact u_add_bad h hb hsz
  · cases hr : rf K key r 0 with
    | some i =>
      rw [show addR K r key = (0, 6, K) by unfold addR; rw [if_neg hb, hr]]
      obtain ⟨h1, h2, h3⟩ := rf_is r 0 hr
      rcases free_or r K with hf | ⟨s, s1, s2, s3⟩
      · exact u_add_yes_full h i hb h1 h2 (fun s hs => hf s (by omega))
      · exact u_add_yes h i hb h1 h2 ⟨s, by omega, s2, s3⟩
    | none =>
      cases hf : ff K r 0 with
      | some s =>
        rw [show addR K r key = ((s : Int), 0, up K s key) by unfold addR; rw [if_neg hb, hr, hf]]
        obtain ⟨s1, s2, s3, s4⟩ := ff_some r 0 hf
        exact u_add_new h s hb (h.noK hr) (by omega) s3 (fun j hj => s4 j (by omega) hj)
      | none =>
        rw [show addR K r key = (0, 4, K) by unfold addR; rw [if_neg hb, hr, hf]]
        exact u_add_full h hb (h.noK hr) (fun s hs => ff_none r 0 hf s (by omega) (by omega))
theorem x_add (h : RAt w x g r K) (hr : 1 ≤ r ∧ r ≤ 256) (hsz : key.size ≤ 140737488355328) :
    Calls Try.prog 18 #[.pointer (some ⟨x, 0, none⟩), .string key] w fun e w' => e = .returned (T1 (addR K r key).1 (addR K r key).2.1) ∧ (RAt w' x g r (addR K r key).2.2 ∧ Upd g w w') := by
  by_cases hb : badKey key
  · rw [show addR K r key = (0, 1, K) by unfold addR; rw [if_pos hb]]
    refine (radd_bad w x g r K key hb hsz).mono ?_
    rintro e w' ⟨h1, rfl⟩
    exact ⟨h1, h, Upd.refl _ _⟩
  · cases hrf : rf K key r 0 with
    | some i =>
      rw [show addR K r key = (0, 6, K) by unfold addR; rw [if_neg hb, hrf]]
      refine (radd_yes w x g r K key h hr hb i hrf).mono ?_
      rintro e w' ⟨h1, hb'⟩
      exact ⟨h1, h.mono hb', Upd.of hb'⟩
    | none =>
      cases hf : ff K r 0 with
      | some s =>
        rw [show addR K r key = ((s : Int), 0, up K s key) by unfold addR; rw [if_neg hb, hrf, hf]]
        obtain ⟨s1, s2, s3, s4⟩ := ff_some r 0 hf
        have := radd_new w x g r K key h hr hb hrf s (by omega) (fun _ => s3) (fun j hj => s4 j (by omega) hj)
        rw [if_pos (by omega), if_pos (by omega)] at this
        exact this
      | none =>
        rw [show addR K r key = (0, 4, K) by unfold addR; rw [if_neg hb, hrf, hf]]
        have := radd_new w x g r K key h hr hb hrf r (Nat.le_refl _) (fun q => by omega) (fun j hj => ff_none r 0 hf j (by omega) (by omega))
        rw [if_neg (by omega), if_neg (by omega)] at this
        exact this
theorem t_drop (h : SK w b r K) (hsz : key.size ≤ 140737488355328) :
    Calls Try.prog 10 #[.pointer (some ⟨b, 0, none⟩), .string key] w fun e w' => e = .returned (.bool (dropR K r key).1) ∧ (SK w' b r (dropR K r key).2 ∧ Upd b w w') := by
  cases hr : rf K key r 0 with
  | some i =>
    rw [show dropR K r key = (true, up K i E0) by unfold dropR; rw [hr]]
    obtain ⟨h1, h2, h3⟩ := rf_is r 0 hr
    exact u_drop_yes h i h1 h2 hsz
  | none =>
    rw [show dropR K r key = (false, K) by unfold dropR; rw [hr]]
    exact u_drop_no h (h.noK hr) hsz
theorem x_drop (h : RAt w x g r K) (hr : 1 ≤ r ∧ r ≤ 256) :
    Calls Try.prog 15 #[.pointer (some ⟨x, 0, none⟩), .string key] w fun e w' => e = .returned (.bool (dropR K r key).1) ∧ (RAt w' x g r (dropR K r key).2 ∧ Upd g w w') := by
  cases hrf : rf K key r 0 with
  | some i =>
    rw [show dropR K r key = (true, up K i E0) by unfold dropR; rw [hrf]]
    obtain ⟨h1, h2, h3⟩ := rf_is r 0 hrf
    exact rdrop_any w x g r K key h hr (some i) hrf (fun j e => by simp at e; omega)
  | none =>
    rw [show dropR K r key = (false, K) by unfold dropR; rw [hrf]]
    exact rdrop_any w x g r K key h hr none hrf (fun j e => by simp at e)
theorem t_find (h : SK w b r K) (hsz : key.size ≤ 140737488355328) :
    Calls Try.prog 16 #[.pointer (some ⟨b, 0, none⟩), .string key] w fun e w' => e = .returned (rfV (rf K key r 0)) ∧ Below w.heap.size w w' := by
  cases hr : rf K key r 0 with
  | some i =>
    obtain ⟨h1, h2, h3⟩ := rf_is r 0 hr
    exact u_find_yes h i h1 h2 hsz
  | none => exact u_find_no h (h.noK hr) hsz
end
/-- The free slots' other end. -/
theorem sl_cn (K : Nat → ByteArray) : ∀ n, (sl K n).length = cn (has K) n
  | 0 => rfl
  | n + 1 => by
    rw [sl, cn]
    by_cases e : K n = E0
    · rw [if_pos e, sl_cn K n, if_neg (by unfold has; simp [e])]; rfl
    · rw [if_neg e, List.length_append, sl_cn K n, if_pos (by unfold has; simp [e])]; rfl
theorem SK.cn_is {w : World} {b r : Nat} {K : Nat → ByteArray} (h : SK w b r K) : cn (has K) 256 = (sl K r).length := by
  rw [sl_cn]
  have := h.rr
  exact cn_tail _ r (fun i hi => by unfold has; rw [h.beyond i (by omega)]; simp) 256 (by omega)
theorem sl_get (K : Nat → ByteArray) : ∀ (n i : Nat), i < (sl K n).length → ∃ s : Nat, (sl K n)[i]? = some (s : Int) ∧ s < n ∧ K s ≠ E0
  | 0, i, h => by simp [sl] at h
  | n + 1, i, h => by
    rw [sl] at h ⊢
    by_cases e : K n = E0
    · rw [if_pos e] at h ⊢
      obtain ⟨s, h1, h2, h3⟩ := sl_get K n i h
      exact ⟨s, h1, by omega, h3⟩
    · rw [if_neg e] at h ⊢
      rw [List.length_append] at h
      rcases Nat.lt_or_ge i (sl K n).length with hl | hg
      · obtain ⟨s, h1, h2, h3⟩ := sl_get K n i hl
        exact ⟨s, by rw [List.getElem?_append_left hl]; exact h1, by omega, h3⟩
      · have : i = (sl K n).length := by simp at h; omega
        exact ⟨n, by rw [this, List.getElem?_append_right (Nat.le_refl _)]; simp, by omega, e⟩

end Go.Proofs.Ytjlhpnnkhiojfaa.HSlot
