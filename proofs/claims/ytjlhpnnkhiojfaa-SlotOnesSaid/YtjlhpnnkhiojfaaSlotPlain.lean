/- The slot table's plain laws: what place finds; what stays true. -/
import Derived.Test.YtjlhpnnkhiojfaaSlot7
namespace Go.Proofs.Ytjlhpnnkhiojfaa.HSlot
set_option linter.unusedVariables false
open Go.RowKit Go.Proofs.Ytjlhpnnkhiojfaa.Print Go.Proofs.Ytjlhpnnkhiojfaa.HSip Go.Proofs.YtjlhpnnkhiojfaaW.PrintWords Go.Proofs.YtjlhpnnkhiojfaaW.PrintLast Go.Proofs.YtjlhpnnkhiojfaaW.PrintMore

abbrev E0 : ByteArray := ⟨#[]⟩
def pos (s m : Nat) : Nat := (s + m) % 512
theorem pos_lt (s m : Nat) : pos s m < 512 := Nat.mod_lt _ (by decide)
theorem pos_inj (s m n : Nat) (hm : m < 512) (hn : n < 512) (h : pos s m = pos s n) : m = n := by unfold pos at h; omega
theorem pos_all (s p : Nat) (hp : p < 512) : ∃ m, m < 512 ∧ pos s m = p := ⟨(p + 512 - s % 512) % 512, Nat.mod_lt _ (by decide), by unfold pos; omega⟩
theorem pos_next (s m : Nat) : (pos s m + 1) % 512 = pos s (m + 1) := by unfold pos; omega
/-- All places ahead of p, from s on, are not free. -/
def Way (t : TB) (s p : Nat) : Prop := ∀ m, m < 512 → pos s m = p → ∀ d, d < m → t.idx (pos s d) ≠ 0
theorem pos_zero (a : Nat) (h : a < 512) : pos a 0 = a := by unfold pos; omega

/-- The index knows the slots below k. -/
structure Ix (H : ByteArray → Nat) (t : TB) (k : Nat) : Prop where
  fine : ∀ p, p < 512 → t.idx p = 0 ∨ t.idx p = -1 ∨ ∃ i : Nat, t.idx p = ((i + 1 : Nat) : Int) ∧ i < k ∧ t.keys i ≠ E0
  one : ∀ i, i < k → t.keys i ≠ E0 → ∃ p, p < 512 ∧ t.idx p = ((i + 1 : Nat) : Int)
  only : ∀ p q, p < 512 → q < 512 → ∀ i : Nat, t.idx p = ((i + 1 : Nat) : Int) → t.idx q = ((i + 1 : Nat) : Int) → p = q
  way : ∀ p, p < 512 → ∀ i : Nat, t.idx p = ((i + 1 : Nat) : Int) → Way t (H (t.keys i)) p
def Dist (t : TB) : Prop := ∀ i j, t.keys i = t.keys j → t.keys i ≠ E0 → i = j

theorem pigeon : ∀ (n : Nat) (f : Nat → Nat), (∀ p, p < n + 1 → f p < n) → (∀ p q, p < n + 1 → q < n + 1 → f p = f q → p = q) → False
  | 0, f, h, _ => by have := h 0 (by omega); omega
  | n + 1, f, h, hi => by
    refine pigeon n (fun p => if f p = n then f (n + 1) else f p) (fun p hp => ?_) (fun p q hp hq e => ?_)
    · have h1 := h p (by omega)
      have h2 := h (n + 1) (by omega)
      have h3 := hi p (n + 1) (by omega) (by omega)
      show (if f p = n then f (n + 1) else f p) < n
      split
      · omega
      · omega
    · have h3 := hi p (n + 1) (by omega) (by omega)
      have h4 := hi q (n + 1) (by omega) (by omega)
      have h5 := hi p q (by omega) (by omega)
      have e' : (if f p = n then f (n + 1) else f p) = (if f q = n then f (n + 1) else f q) := e
      split at e' <;> split at e' <;> omega

theorem plc_find (t : TB) (key : ByteArray) (s d i : Nat) (hd : d < 512) (hi : t.idx (pos s d) = ((i + 1 : Nat) : Int)) (hk : t.keys i = key)
    (hw : ∀ e, e < d → t.idx (pos s e) ≠ 0 ∧ ∀ j : Nat, t.idx (pos s e) = ((j + 1 : Nat) : Int) → t.keys j ≠ key) (hf : Fine t) :
    ∀ (n e : Nat) (may : Int), e + n = d → plc t key (n + (512 - d)) (pos s e) may = (((pos s d : Nat) : Int), true)
  | 0, e, may, he => by
    obtain rfl : e = d := by omega
    rw [show 0 + (512 - e) = (511 - e) + 1 by omega, plc, if_neg (by omega), if_neg (by omega), if_pos (by rw [hi]; simpa using hk)]
  | n + 1, e, may, he => by
    have h := hw e (by omega)
    rw [show n + 1 + (512 - d) = (n + (512 - d)) + 1 by omega, plc, if_neg h.1, pos_next]
    have ih := plc_find t key s d i hd hi hk hw hf n (e + 1)
    by_cases h1 : t.idx (pos s e) = -1
    · rw [if_pos h1]; exact ih _ (by omega)
    · rw [if_neg h1]
      have hne : t.keys (t.idx (pos s e) - 1).toNat ≠ key := by
        have hff := hf (pos s e) (pos_lt _ _)
        exact h.2 (t.idx (pos s e) - 1).toNat (by omega)
      rw [if_neg hne]; exact ih _ (by omega)

/-- A key that is there is found. -/
theorem place_yesH (H : ByteArray → Nat) (hH : ∀ k, H k < 512) (N : Nat) (hN : N = 512) (t : TB) (k : Nat) (h : Ix H t k) (hd : Dist t) (hf : Fine t) (i : Nat) (hi : i < k) (key : ByteArray) (hk : t.keys i = key) (hne : key ≠ E0) :
    ∃ p : Nat, p < 512 ∧ plc t key N (H key) (-1) = ((p : Int), true) ∧ t.idx p = ((i + 1 : Nat) : Int) := by
  obtain ⟨p, hp, hx⟩ := h.one i hi (by rw [hk]; exact hne)
  have hw := h.way p hp i hx
  rw [hk] at hw
  have hs := hH key
  obtain ⟨s, es⟩ : ∃ s, s = H key := ⟨_, rfl⟩
  rw [← es] at hw hs ⊢
  obtain ⟨d, hdl, hpd⟩ := pos_all s p hp
  have := plc_find t key s d i hdl (by rw [hpd]; exact hx) hk (fun e he => ⟨hw d hdl hpd e he, fun j hj hkj => by
    have hji : j = i := hd j i (by rw [hkj, hk]) (by rw [hkj]; exact hne)
    subst hji
    have := h.only (pos s e) p (pos_lt _ _) hp j hj hx
    have := pos_inj s e d (by omega) hdl (by rw [this, hpd])
    omega⟩) hf d 0 (-1) (by omega)
  rw [pos_zero s hs, show d + (512 - d) = N by omega, hpd] at this
  exact ⟨p, hp, this, hx⟩

/-- Where nobody is found there is a place that was not taken, and all ahead of it are not free. -/
theorem plc_none (t : TB) (key : ByteArray) (s : Nat) (hf : Fine t) : ∀ (n e : Nat) (may : Int), e + n = 512 → (∀ d, d < e → t.idx (pos s d) ≠ 0) →
    ((may = -1 ∧ ∀ d, d < e → t.idx (pos s d) ≠ -1) ∨ ∃ g, g < e ∧ may = ((pos s g : Nat) : Int) ∧ t.idx (pos s g) = -1) →
    (plc t key n (pos s e) may).2 = false →
    (∃ g, g < 512 ∧ (plc t key n (pos s e) may).1 = ((pos s g : Nat) : Int) ∧ (t.idx (pos s g) = 0 ∨ t.idx (pos s g) = -1) ∧ ∀ d, d < g → t.idx (pos s d) ≠ 0) ∨ (∀ d, d < 512 → 1 ≤ t.idx (pos s d))
  | 0, e, may, he, hz, hm, hp => by
    obtain rfl : e = 512 := by omega
    rcases hm with ⟨rfl, hm⟩ | ⟨g, hg, rfl, hg2⟩
    · right
      intro d hd
      have h1 := hz d hd
      have h2 := hm d hd
      have h3 := hf (pos s d) (pos_lt _ _)
      omega
    · left
      refine ⟨g, hg, ?_, .inr hg2, fun d hd => hz d (by omega)⟩
      rw [plc]
      unfold fin
      rw [if_neg (by omega)]
  | n + 1, e, may, he, hz, hm, hp => by
    unfold plc at hp ⊢
    by_cases h0 : t.idx (pos s e) = 0
    · rw [if_pos h0]
      left
      rcases hm with ⟨rfl, hm⟩ | ⟨g, hg, rfl, hg2⟩
      · exact ⟨e, by omega, rfl, .inl h0, hz⟩
      · refine ⟨g, by omega, ?_, .inr hg2, fun d hd => hz d (by omega)⟩
        unfold fin
        rw [if_neg (by omega)]
    · rw [if_neg h0] at hp ⊢
      have hz' : ∀ d, d < e + 1 → t.idx (pos s d) ≠ 0 := fun d hd => by
        rcases Nat.lt_or_ge d e with h | h
        · exact hz d h
        · obtain rfl : d = e := by omega
          exact h0
      by_cases h1 : t.idx (pos s e) = -1
      · rw [if_pos h1, pos_next] at hp ⊢
        refine plc_none t key s hf n (e + 1) _ (by omega) hz' ?_ hp
        right
        rcases hm with ⟨rfl, hm⟩ | ⟨g, hg, rfl, hg2⟩
        · exact ⟨e, by omega, by rw [if_pos rfl], h1⟩
        · exact ⟨g, by omega, by rw [if_neg (by omega)], hg2⟩
      · rw [if_neg h1] at hp ⊢
        by_cases h2 : t.keys (t.idx (pos s e) - 1).toNat = key
        · rw [if_pos h2] at hp; cases hp
        · rw [if_neg h2, pos_next] at hp ⊢
          refine plc_none t key s hf n (e + 1) _ (by omega) hz' ?_ hp
          rcases hm with ⟨rfl, hm⟩ | ⟨g, hg, rfl, hg2⟩
          · left
            refine ⟨rfl, fun d hd => ?_⟩
            rcases Nat.lt_or_ge d e with h | h
            · exact hm d h
            · obtain rfl : d = e := by omega
              exact h1
          · exact .inr ⟨g, by omega, rfl, hg2⟩

theorem place_noH (H : ByteArray → Nat) (hH : ∀ k, H k < 512) (N : Nat) (hN : N = 512) (t : TB) (k : Nat) (h : Ix H t k) (hk : k ≤ 256) (hf : Fine t) (key : ByteArray) (hn : ∀ i, i < k → t.keys i ≠ E0 → t.keys i ≠ key) :
    ∃ p : Nat, p < 512 ∧ plc t key N (H key) (-1) = ((p : Int), false) ∧ (t.idx p = 0 ∨ t.idx p = -1) ∧ Way t (H key) p := by
  have hs := hH key
  obtain ⟨s, es⟩ : ∃ s, s = H key := ⟨_, rfl⟩
  rw [← es] at hs ⊢
  clear es
  have hp : (plc t key N s (-1)).2 = false := by
    cases hb : (plc t key N s (-1)).2 with
    | false => rfl
    | true =>
      obtain ⟨h1, h2, h3⟩ := plc_there t key N s (-1) hs hb
      have hr := plc_rng t key N s (-1) hs (.inl rfl)
      rcases h.fine (plc t key N s (-1)).1.toNat (by omega) with h0 | h0 | ⟨i, hi, hik, hne⟩
      · exact absurd h0 h1
      · exact absurd h0 h2
      · rw [hi] at h3
        have : (((i + 1 : Nat) : Int) - 1).toNat = i := by omega
        rw [this] at h3
        exact absurd h3 (hn i hik hne)
  have := plc_none t key s hf N 0 (-1) (by omega) (by omega) (.inl ⟨rfl, by omega⟩) (by rw [pos_zero s hs]; exact hp)
  rw [pos_zero s hs] at this
  rcases this with ⟨g, hg, e, hx, hw⟩ | hall
  · refine ⟨pos s g, pos_lt _ _, Prod.ext e hp, hx, fun m hm hpm d hd => ?_⟩
    have := pos_inj s m g hm hg hpm
    exact hw d (by omega)
  · exfalso
    refine pigeon 256 (fun d => (t.idx (pos s d) - 1).toNat) (fun d hd => ?_) (fun d e hd he hde => ?_)
    · have h1 := hall d (by omega)
      have h2 := hf (pos s d) (pos_lt _ _)
      show (t.idx (pos s d) - 1).toNat < 256
      omega
    · have h1 := hall d (by omega)
      have h2 := hall e (by omega)
      have hde' : (t.idx (pos s d) - 1).toNat = (t.idx (pos s e) - 1).toNat := hde
      have := h.only (pos s d) (pos s e) (pos_lt _ _) (pos_lt _ _) (t.idx (pos s d) - 1).toNat (by omega) (by omega)
      exact pos_inj s d e (by omega) (by omega) this

/-- A key comes into a place that place has told. -/
theorem Ix.put {H : ByteArray → Nat} {t u : TB} {k K s p : Nat} (h : Ix H t k) (hkK : k ≤ K) (hs : s < K) (hp : p < 512) (key : ByteArray) (hne : key ≠ E0)
    (hrest : ∀ i, k ≤ i → i < K → i = s ∨ u.keys i = E0) (hno : ∀ q, q < 512 → t.idx q ≠ ((s + 1 : Nat) : Int))
    (hk1 : ∀ i, i ≠ s → u.keys i = t.keys i) (hk2 : u.keys s = key) (hx : ∀ q, u.idx q = if q = p then ((s + 1 : Nat) : Int) else t.idx q) (hfree : t.idx p = 0 ∨ t.idx p = -1) (hw : Way t (H key) p) : Ix H u K := by
  refine ⟨fun q hq => ?_, fun i hi hi2 => ?_, fun q r hq hr i hqi hri => ?_, fun q hq i hqi m hm hpm d hd => ?_⟩
  · rw [hx q]
    by_cases e : q = p
    · rw [if_pos e]; exact .inr (.inr ⟨s, rfl, hs, by rw [hk2]; exact hne⟩)
    · rw [if_neg e]
      rcases h.fine q hq with h0 | h0 | ⟨i, hi, hik, hi2⟩
      · exact .inl h0
      · exact .inr (.inl h0)
      · have his : i ≠ s := fun e => hno q hq (by rw [hi, e])
        exact .inr (.inr ⟨i, hi, by omega, by rw [hk1 i his]; exact hi2⟩)
  · by_cases e : i = s
    · exact ⟨p, hp, by rw [hx p, if_pos rfl, e]⟩
    · have hik : i < k := by
        rcases Nat.lt_or_ge i k with h' | h'
        · exact h'
        · rcases hrest i h' hi with h'' | h''
          · exact absurd h'' e
          · exact absurd h'' hi2
      obtain ⟨q, hq, hqi⟩ := h.one i hik (by rw [← hk1 i e]; exact hi2)
      refine ⟨q, hq, ?_⟩
      have : q ≠ p := by rintro rfl; omega
      rw [hx q, if_neg this]; exact hqi
  · rw [hx q] at hqi
    rw [hx r] at hri
    by_cases e1 : q = p
    · by_cases e2 : r = p
      · rw [e1, e2]
      · rw [if_pos e1] at hqi
        rw [if_neg e2] at hri
        have : i = s := by omega
        exact absurd hri (by rw [this]; exact hno r hr)
    · rw [if_neg e1] at hqi
      by_cases e2 : r = p
      · rw [if_pos e2] at hri
        have : i = s := by omega
        exact absurd hqi (by rw [this]; exact hno q hq)
      · rw [if_neg e2] at hri
        exact h.only q r hq hr i hqi hri
  · have hnz : ∀ x, t.idx x ≠ 0 → u.idx x ≠ 0 := fun x hx0 => by
      rw [hx x]
      split
      · omega
      · exact hx0
    apply hnz
    rw [hx q] at hqi
    by_cases e : q = p
    · rw [if_pos e] at hqi
      have his : i = s := by omega
      subst his
      rw [hk2] at hpm ⊢
      exact hw m hm (by rw [hpm, e]) d hd
    · rw [if_neg e] at hqi
      have his : i ≠ s := fun e' => hno q hq (by rw [hqi, e'])
      rw [hk1 i his] at hpm ⊢
      exact h.way q hq i hqi m hm hpm d hd

end Go.Proofs.Ytjlhpnnkhiojfaa.HSlot
