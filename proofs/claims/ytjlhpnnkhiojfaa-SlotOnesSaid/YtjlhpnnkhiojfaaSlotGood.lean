/- The slot table's plain laws: what stays true, and what the calls answer by the keys alone. -/
import Derived.Test.YtjlhpnnkhiojfaaSlotPlain
namespace Go.Proofs.Ytjlhpnnkhiojfaa.HSlot
set_option linter.unusedVariables false
open Go.RowKit Go.Proofs.Ytjlhpnnkhiojfaa.Print Go.Proofs.Ytjlhpnnkhiojfaa.HSip Go.Proofs.YtjlhpnnkhiojfaaW.PrintWords Go.Proofs.YtjlhpnnkhiojfaaW.PrintLast Go.Proofs.YtjlhpnnkhiojfaaW.PrintMore

/-- How many of the first n are so. -/
def cn (f : Nat → Bool) : Nat → Nat
  | 0 => 0
  | n + 1 => cn f n + if f n = true then 1 else 0
theorem cn_le (f : Nat → Bool) : ∀ n, cn f n ≤ n
  | 0 => Nat.le_refl _
  | n + 1 => by have := cn_le f n; unfold cn; split <;> omega
theorem cn_same (f g : Nat → Bool) : ∀ n, (∀ i, i < n → f i = g i) → cn f n = cn g n
  | 0, _ => rfl
  | n + 1, h => by unfold cn; rw [cn_same f g n (fun i hi => h i (by omega)), h n (by omega)]
theorem cn_full (f : Nat → Bool) : ∀ n, (∀ i, i < n → f i = true) → cn f n = n
  | 0, _ => rfl
  | n + 1, h => by unfold cn; rw [cn_full f n (fun i hi => h i (by omega)), if_pos (h n (by omega))]
theorem cn_none (f : Nat → Bool) : ∀ n, (∀ i, i < n → f i = false) → cn f n = 0
  | 0, _ => rfl
  | n + 1, h => by unfold cn; rw [cn_none f n (fun i hi => h i (by omega)), if_neg (by rw [h n (by omega)]; simp)]
theorem cn_lt (f : Nat → Bool) : ∀ n, (∃ i, i < n ∧ f i = false) → cn f n < n
  | 0, ⟨i, hi, _⟩ => by omega
  | n + 1, ⟨i, hi, h⟩ => by
    have hl := cn_le f n
    unfold cn
    by_cases e : i = n
    · subst e; rw [if_neg (by rw [h]; simp)]; omega
    · have := cn_lt f n ⟨i, by omega, h⟩
      split <;> omega
theorem cn_tail (f : Nat → Bool) (r : Nat) (h : ∀ i, r ≤ i → f i = false) : ∀ n, r ≤ n → cn f n = cn f r
  | 0, hn => by
    have : r = 0 := by omega
    rw [this]
  | n + 1, hn => by
    by_cases e : r = n + 1
    · rw [e]
    · unfold cn
      rw [cn_tail f r h n (by omega), if_neg (by rw [h n (by omega)]; simp)]
      cases r <;> rfl
theorem cn_upd (f g : Nat → Bool) (s : Nat) (hfg : ∀ i, i ≠ s → f i = g i) (hf : f s = false) (hg : g s = true) : ∀ n, s < n → cn g n = cn f n + 1
  | 0, h => by omega
  | n + 1, h => by
    unfold cn
    by_cases e : s = n
    · subst e
      rw [cn_same f g s (fun i hi => hfg i (by omega)), if_pos hg, if_neg (by rw [hf]; simp)]
    · rw [cn_upd f g s hfg hf hg n (by omega), hfg n (fun e' => e e'.symm)]
      omega

def has (k : Nat → ByteArray) (i : Nat) : Bool := decide (k i ≠ E0)
def gone (x : Nat → Int) (p : Nat) : Bool := decide (x p = -1)
structure Good (t : TB) : Prop where
  room : 1 ≤ t.room ∧ t.room ≤ 256
  ix : Ix start t 256
  dist : Dist t
  beyond : ∀ i : Nat, t.room ≤ (i : Int) → t.keys i = E0
  many : t.many = (cn (has t.keys) 256 : Nat)
  dead : t.dead = (cn (gone t.idx) 512 : Nat)
  size : Sized t

theorem Good.fine {t : TB} (h : Good t) : Fine t := fun p hp => by
  rcases h.ix.fine p hp with h0 | h0 | ⟨i, hi, hi2, _⟩
  · exact .inl h0
  · exact .inr (.inl h0)
  · exact .inr (.inr (by omega))
theorem Good.manyb {t : TB} (h : Good t) : 0 ≤ t.many ∧ t.many ≤ 1000 := by have := cn_le (has t.keys) 256; rw [h.many]; omega
theorem Good.deadb {t : TB} (h : Good t) : 0 ≤ t.dead ∧ t.dead ≤ 1000 := by have := cn_le (gone t.idx) 512; rw [h.dead]; omega
theorem start_lt (key : ByteArray) : start key < 512 := by unfold start; omega
theorem p_is (t : TB) (key : ByteArray) (p : Nat) (b : Bool) (N : Nat) (hN : N = 512) (h : plc t key N (start key) (-1) = ((p : Int), b)) : pIs t key = b ∧ pAt t key = p := by
  subst hN
  have e : placeT t key = ((p : Int), b) := h
  unfold pIs pAt
  rw [e]
  exact ⟨rfl, by simp⟩
/-- The key stands at slot i; it stands nowhere. -/
def Has (t : TB) (key : ByteArray) (i : Nat) : Prop := t.keys i = key ∧ key ≠ E0
def No (t : TB) (key : ByteArray) : Prop := ∀ i, t.keys i ≠ E0 → t.keys i ≠ key
theorem Good.lt {t : TB} (h : Good t) {key : ByteArray} {i : Nat} (hi : Has t key i) : (i : Int) < t.room ∧ i < 256 := by
  have hr := h.room
  have : (i : Int) < t.room := by
    rcases Int.lt_or_le (i : Int) t.room with h' | h'
    · exact h'
    · exact absurd ((h.beyond i h').symm.trans hi.1) (fun e => hi.2 e.symm)
  omega
theorem Good.find_yes {t : TB} (h : Good t) {key : ByteArray} {i : Nat} (hi : Has t key i) : pIs t key = true ∧ pAt t key < 512 ∧ t.idx (pAt t key) = ((i + 1 : Nat) : Int) := by
  obtain ⟨N, hN⟩ : ∃ N, N = 512 := ⟨_, rfl⟩
  obtain ⟨p, hp, e, hx⟩ := place_yesH start start_lt N hN t 256 h.ix h.dist h.fine i (h.lt hi).2 key hi.1 hi.2
  obtain ⟨e1, e2⟩ := p_is t key p true N hN e
  rw [e1, e2]
  exact ⟨rfl, hp, hx⟩
theorem ix_no {t : TB} {k : Nat} (h : Ix start t k) (hk : k ≤ 256) (hf : Fine t) (key : ByteArray) (hn : ∀ i, i < k → t.keys i ≠ E0 → t.keys i ≠ key) :
    pIs t key = false ∧ pAt t key < 512 ∧ (t.idx (pAt t key) = 0 ∨ t.idx (pAt t key) = -1) ∧ Way t (start key) (pAt t key) := by
  obtain ⟨N, hN⟩ : ∃ N, N = 512 := ⟨_, rfl⟩
  obtain ⟨p, hp, e, hx, hw⟩ := place_noH start start_lt N hN t k h hk hf key hn
  obtain ⟨e1, e2⟩ := p_is t key p false N hN e
  rw [e1, e2]
  exact ⟨rfl, hp, hx, hw⟩
theorem Good.find_no {t : TB} (h : Good t) {key : ByteArray} (hn : No t key) : pIs t key = false ∧ pAt t key < 512 ∧ (t.idx (pAt t key) = 0 ∨ t.idx (pAt t key) = -1) ∧ Way t (start key) (pAt t key) :=
  ix_no h.ix (Nat.le_refl _) h.fine key (fun i _ hi => hn i hi)
theorem Good.findT_yes {t : TB} (h : Good t) {key : ByteArray} {i : Nat} (hi : Has t key i) : findT t key = ((i : Int), true) := by
  obtain ⟨h1, _, h3⟩ := h.find_yes hi
  unfold findT
  rw [if_pos h1, h3]
  congr 1; omega
theorem Good.findT_no {t : TB} (h : Good t) {key : ByteArray} (hn : No t key) : findT t key = (0, false) := by
  unfold findT
  rw [if_neg (by rw [(h.find_no hn).1]; simp)]

theorem new_good (room : Int) (hr : 1 ≤ room ∧ room ≤ 256) : Good (newT room) := by
  refine ⟨hr, ⟨fun p hp => .inl rfl, fun i hi hi2 => absurd rfl hi2, fun p q hp hq i hi => ?_, fun p hp i hi => ?_⟩, fun i j _ hi => absurd rfl hi, fun i _ => rfl, ?_, ?_, fun i _ => by show (⟨#[]⟩ : ByteArray).size ≤ _; simp [ByteArray.size]⟩
  · exact absurd hi (by show (0 : Int) ≠ _; omega)
  · exact absurd hi (by show (0 : Int) ≠ _; omega)
  · rw [cn_none _ _ (fun i _ => by simp [has, newT])]; rfl
  · rw [cn_none _ _ (fun i _ => by simp [gone, newT])]; rfl

theorem cl_ix (t : TB) (hd : Dist t) (hz : ∀ p, t.idx p = 0) : ∀ k, k ≤ 256 → Ix start (cl t k) k ∧ ∀ p, (cl t k).idx p ≠ -1
  | 0, _ => ⟨⟨fun p hp => .inl (hz p), fun i hi => by omega, fun p q hp hq i hi => absurd hi (by rw [show (cl t 0).idx p = 0 from hz p]; omega), fun p hp i hi => absurd hi (by rw [show (cl t 0).idx p = 0 from hz p]; omega)⟩, fun p => by rw [show (cl t 0).idx p = 0 from hz p]; omega⟩
  | k + 1, hk => by
    obtain ⟨ih, ih2⟩ := cl_ix t hd hz k (by omega)
    have hkey := (cl_keys t k).1
    unfold cl
    by_cases he : (cl t k).keys k = E0
    · rw [if_pos he]
      refine ⟨⟨fun p hp => ?_, fun i hi hi2 => ?_, ih.only, ih.way⟩, ih2⟩
      · rcases ih.fine p hp with h0 | h0 | ⟨i, hi, hi2, hi3⟩
        · exact .inl h0
        · exact .inr (.inl h0)
        · exact .inr (.inr ⟨i, hi, by omega, hi3⟩)
      · by_cases e : i = k
        · rw [e] at hi2; exact absurd he hi2
        · exact ih.one i (by omega) hi2
    · rw [if_neg he]
      have hf : Fine (cl t k) := fun p hp => by
        rcases ih.fine p hp with h0 | h0 | ⟨i, hi, hi2, _⟩
        · exact .inl h0
        · exact .inr (.inl h0)
        · exact .inr (.inr (by omega))
      obtain ⟨_, hp, hx, hw⟩ := ix_no ih (by omega) hf ((cl t k).keys k) (fun i hi hi2 e => by
        have := hd i k (by rw [← hkey]; exact e) (by rw [← hkey]; exact hi2)
        omega)
      refine ⟨ih.put (K := k + 1) (s := k) (p := pAt (cl t k) ((cl t k).keys k)) (by omega) (by omega) hp ((cl t k).keys k) he (fun i h1 h2 => .inl (by omega)) (fun q hq e => ?_) (fun i _ => rfl) rfl (fun q => ?_) hx hw, fun p => ?_⟩
      · rcases ih.fine q hq with h0 | h0 | ⟨i, hi, hi2, _⟩
        · omega
        · omega
        · omega
      · show (if q = _ then _ else _) = _
        split
        · push_cast; rfl
        · rfl
      · show (if p = _ then _ else _) ≠ _
        split
        · omega
        · exact ih2 p
theorem clean_good {t : TB} (h : Good t) : Good (cleanT t) := by
  have hr := h.room
  unfold cleanT
  split
  · exact h
  · have hk := cl_keys (t.free.sd 0) t.room.toNat
    obtain ⟨hi, hi2⟩ := cl_ix (t.free.sd 0) h.dist (fun _ => rfl) t.room.toNat (by omega)
    have hkeys : (cl (t.free.sd 0) t.room.toNat).keys = t.keys := hk.1
    have hroom : (cl (t.free.sd 0) t.room.toNat).room = t.room := hk.2.1
    have hmany : (cl (t.free.sd 0) t.room.toNat).many = t.many := hk.2.2.1
    have hdead : (cl (t.free.sd 0) t.room.toNat).dead = 0 := hk.2.2.2
    refine ⟨by rw [hroom]; exact hr, ⟨fun p hp => ?_, fun i h1 h2 => ?_, hi.only, hi.way⟩, fun i j => by rw [hkeys]; exact h.dist i j, fun i hi => by rw [hkeys]; rw [hroom] at hi; exact h.beyond i hi, by rw [hmany, hkeys]; exact h.many, ?_, fun i hi => by rw [hkeys]; exact h.size i hi⟩
    · rcases hi.fine p hp with h0 | h0 | ⟨i, h1, h2, h3⟩
      · exact .inl h0
      · exact .inr (.inl h0)
      · exact .inr (.inr ⟨i, h1, by omega, h3⟩)
    · refine hi.one i ?_ h2
      rcases Nat.lt_or_ge i t.room.toNat with h' | h'
      · exact h'
      · rw [hkeys] at h2
        exact absurd (h.beyond i (by omega)) h2
    · rw [hdead, cn_none _ _ (fun i _ => by simp [gone, hi2 i])]; rfl

theorem drop_yes {t : TB} (h : Good t) {key : ByteArray} {i : Nat} (hi : Has t key i) : (dropT t key).2 = true ∧ Good (dropT t key).1 ∧ (dropT t key).1.room = t.room ∧ (∀ j, (dropT t key).1.keys j = if j = i then E0 else t.keys j) := by
  obtain ⟨h1, hp, hx⟩ := h.find_yes hi
  obtain ⟨q, hq⟩ : ∃ q, q = pAt t key := ⟨_, rfl⟩
  rw [← hq] at hp hx
  have hjn : (t.idx q - 1).toNat = i := by omega
  have e : dropT t key = ((((t.sk i E0).si q (-1)).sm (t.many - 1)).sd (t.dead + 1), true) := by
    unfold dropT
    rw [if_pos h1, ← hq, hjn]
  have hi256 := (h.lt hi).2
  rw [e]
  refine ⟨rfl, ⟨h.room, ⟨fun p hp2 => ?_, fun j hj hj2 => ?_, fun p r hp2 hr j hpj hrj => ?_, fun p hp2 j hpj => ?_⟩, fun j l hjl hj => ?_, fun j hj => ?_, ?_, ?_, fun j hj => ?_⟩, rfl, fun j => rfl⟩
  · show (if p = q then _ else _) = 0 ∨ (if p = q then _ else _) = -1 ∨ ∃ j : Nat, (if p = q then (-1 : Int) else t.idx p) = _ ∧ _ ∧ (if j = i then E0 else t.keys j) ≠ E0
    by_cases hpq : p = q
    · rw [if_pos hpq]; exact .inr (.inl rfl)
    · rw [if_neg hpq]
      rcases h.ix.fine p hp2 with h0 | h0 | ⟨j, hj, hj2, hj3⟩
      · exact .inl h0
      · exact .inr (.inl h0)
      · have : j ≠ i := fun e => hpq (h.ix.only p q hp2 hp j hj (by rw [hx, e]))
        exact .inr (.inr ⟨j, by rw [if_neg hpq]; exact hj, hj2, by rw [if_neg this]; exact hj3⟩)
  · have hj2' : (if j = i then E0 else t.keys j) ≠ E0 := hj2
    have hji : j ≠ i := fun e => hj2' (by rw [if_pos e])
    rw [if_neg hji] at hj2'
    obtain ⟨p, hp2, hpj⟩ := h.ix.one j hj hj2'
    refine ⟨p, hp2, ?_⟩
    show (if p = q then _ else _) = _
    rw [if_neg (fun e => hji (by rw [e, hx] at hpj; omega))]
    exact hpj
  · have hpj' : (if p = q then (-1 : Int) else t.idx p) = _ := hpj
    have hrj' : (if r = q then (-1 : Int) else t.idx r) = _ := hrj
    by_cases e1 : p = q
    · rw [if_pos e1] at hpj'; omega
    · by_cases e2 : r = q
      · rw [if_pos e2] at hrj'; omega
      · rw [if_neg e1] at hpj'
        rw [if_neg e2] at hrj'
        exact h.ix.only p r hp2 hr j hpj' hrj'
  · have hpj' : (if p = q then (-1 : Int) else t.idx p) = _ := hpj
    by_cases e1 : p = q
    · rw [if_pos e1] at hpj'; omega
    · rw [if_neg e1] at hpj'
      have hji : j ≠ i := fun e => e1 (h.ix.only p q hp2 hp j hpj' (by rw [hx, e]))
      have hkk : ((((t.sk i E0).si q (-1)).sm (t.many - 1)).sd (t.dead + 1)).keys j = t.keys j := by
        show (if j = i then E0 else t.keys j) = _
        rw [if_neg hji]
      rw [hkk]
      intro m hm hpm d hd
      show (if pos _ d = q then _ else _) ≠ _
      split
      · omega
      · exact h.ix.way p hp2 j hpj' m hm hpm d hd
  · have hjl' : (if j = i then E0 else t.keys j) = (if l = i then E0 else t.keys l) := hjl
    have hj' : (if j = i then E0 else t.keys j) ≠ E0 := hj
    have hji : j ≠ i := fun e => hj' (by rw [if_pos e])
    rw [if_neg hji] at hjl' hj'
    by_cases hli : l = i
    · rw [if_pos hli] at hjl'; exact absurd hjl' hj'
    · rw [if_neg hli] at hjl'
      exact h.dist j l hjl' hj'
  · show (if j = i then E0 else t.keys j) = E0
    split
    · rfl
    · exact h.beyond j hj
  · show t.many - 1 = _
    have := cn_upd (has ((((t.sk i E0).si q (-1)).sm (t.many - 1)).sd (t.dead + 1)).keys) (has t.keys) i (fun j hj => by
      unfold has
      show decide ((if j = i then E0 else t.keys j) ≠ E0) = _
      rw [if_neg hj]) (by
      unfold has
      show decide ((if i = i then E0 else t.keys i) ≠ E0) = _
      rw [if_pos rfl]; simp) (by unfold has; rw [hi.1]; simpa using hi.2) 256 hi256
    show t.many - 1 = ((cn (has ((((t.sk i E0).si q (-1)).sm (t.many - 1)).sd (t.dead + 1)).keys) 256 : Nat) : Int)
    obtain ⟨c, hc⟩ : ∃ c, c = cn (has ((((t.sk i E0).si q (-1)).sm (t.many - 1)).sd (t.dead + 1)).keys) 256 := ⟨_, rfl⟩
    rw [← hc] at this ⊢
    have hm := h.many
    omega
  · show t.dead + 1 = _
    have := cn_upd (gone t.idx) (gone ((((t.sk i E0).si q (-1)).sm (t.many - 1)).sd (t.dead + 1)).idx) q (fun j hj => by
      unfold gone
      show _ = decide ((if j = q then (-1 : Int) else t.idx j) = -1)
      rw [if_neg hj]) (by unfold gone; rw [hx]; simp; omega) (by
      unfold gone
      show decide ((if q = q then (-1 : Int) else t.idx q) = -1) = _
      rw [if_pos rfl]; simp) 512 hp
    show t.dead + 1 = ((cn (gone ((((t.sk i E0).si q (-1)).sm (t.many - 1)).sd (t.dead + 1)).idx) 512 : Nat) : Int)
    obtain ⟨c, hc⟩ : ∃ c, c = cn (gone ((((t.sk i E0).si q (-1)).sm (t.many - 1)).sd (t.dead + 1)).idx) 512 := ⟨_, rfl⟩
    rw [← hc] at this ⊢
    have hm := h.dead
    omega
  · show (if j = i then E0 else t.keys j).size ≤ _
    split
    · simp [ByteArray.size]
    · exact h.size j hj
theorem drop_no {t : TB} (h : Good t) {key : ByteArray} (hn : No t key) : dropT t key = (t, false) := by
  unfold dropT
  rw [if_neg (by rw [(h.find_no hn).1]; simp)]

theorem badNo {key : ByteArray} (h1 : key ≠ E0) (h2 : key.size ≤ 4096) : ¬ badKey key := fun h => h.elim h1 (by omega)
theorem Good.same_has {t : TB} {key : ByteArray} {i : Nat} (hi : Has t key i) : Has (cleanT t) key i := ⟨by rw [(clean_same t).1]; exact hi.1, hi.2⟩
theorem Good.same_no {t : TB} {key : ByteArray} (hn : No t key) : No (cleanT t) key := fun i => by rw [(clean_same t).1]; exact hn i
theorem Good.full {t : TB} (h : Good t) : t.many = t.room ↔ ∀ i : Nat, (i : Int) < t.room → t.keys i ≠ E0 := by
  have hr := h.room
  have hm := h.many
  have ht := cn_tail (has t.keys) t.room.toNat (fun i hi => by unfold has; rw [h.beyond i (by omega)]; simp) 256 (by omega)
  rw [ht] at hm
  constructor
  · intro e i hi hk
    have := cn_lt (has t.keys) t.room.toNat ⟨i, by omega, by unfold has; rw [hk]; simp⟩
    omega
  · intro ha
    have := cn_full (has t.keys) t.room.toNat (fun i hi => by unfold has; simpa using ha i (by omega))
    omega
theorem add_bad {t : TB} {key : ByteArray} (s : Nat) (h : badKey key) : addT t key s = (t, 0, 1) := by unfold addT; rw [if_pos h]
theorem add_yes {t : TB} (h : Good t) {key : ByteArray} {i : Nat} (s : Nat) (hb : ¬ badKey key) (hi : Has t key i) : addT t key s = (cleanT t, 0, 6) := by
  unfold addT
  rw [if_neg hb, if_pos ((clean_good h).find_yes (Good.same_has hi)).1]
theorem add_full {t : TB} (h : Good t) {key : ByteArray} (s : Nat) (hb : ¬ badKey key) (hn : No t key) (hf : t.many = t.room) : addT t key s = (cleanT t, 0, 4) := by
  have hs := clean_same t
  unfold addT
  rw [if_neg hb, if_neg (by rw [((clean_good h).find_no (Good.same_no hn)).1]; simp), if_pos (by rw [hs.2.2.1, hs.2.1]; exact hf)]
theorem put_good {u : TB} (h : Good u) {key : ByteArray} (s : Nat) (hne : key ≠ E0) (hsz : key.size ≤ 140737488355328) (hn : No u key) (hs : (s : Int) < u.room) (hs0 : u.keys s = E0) :
    Good (putT u key s) ∧ (putT u key s).room = u.room ∧ ∀ j, (putT u key s).keys j = if j = s then key else u.keys j := by
  obtain ⟨_, hp, hx, hw⟩ := h.find_no hn
  have hr := h.room
  obtain ⟨q, hq⟩ : ∃ q, q = pAt u key := ⟨_, rfl⟩
  rw [← hq] at hp hx hw
  have k1 : (putT u key s).keys = fun j => if j = s then key else u.keys j := by unfold putT; split <;> rfl
  have k2 : (putT u key s).idx = fun p => if p = q then ((s : Int) + 1) else u.idx p := by unfold putT; rw [← hq]; split <;> rfl
  have k3 : (putT u key s).room = u.room := by unfold putT; split <;> rfl
  have k4 : (putT u key s).many = u.many + 1 := rfl
  have k5 : (putT u key s).dead = if u.idx q = -1 then u.dead - 1 else u.dead := by unfold putT; rw [← hq]; split <;> rfl
  have hkj : ∀ j, (putT u key s).keys j = if j = s then key else u.keys j := fun j => by rw [k1]
  have hxj : ∀ p, (putT u key s).idx p = if p = q then ((s + 1 : Nat) : Int) else u.idx p := fun p => by rw [k2]; push_cast; rfl
  refine ⟨⟨by rw [k3]; exact hr, h.ix.put (s := s) (Nat.le_refl _) (by omega) hp key hne (fun i h1 h2 => by omega) (fun p hp2 e => ?_) (fun i hi => by rw [hkj, if_neg hi]) (by rw [hkj, if_pos rfl]) hxj hx hw, fun i j hij hi => ?_, fun i hi => ?_, ?_, ?_, fun i hi => ?_⟩, k3, hkj⟩
  · rcases h.ix.fine p hp2 with h0 | h0 | ⟨i, hi, hi2, hi3⟩
    · omega
    · omega
    · have : i = s := by omega
      rw [this] at hi3
      exact hi3 hs0
  · rw [hkj i, hkj j] at hij
    rw [hkj i] at hi
    by_cases e1 : i = s
    · by_cases e2 : j = s
      · rw [e1, e2]
      · rw [if_pos e1, if_neg e2] at hij
        exact absurd hij.symm (hn j (by rw [← hij]; exact hne))
    · by_cases e2 : j = s
      · rw [if_neg e1, if_pos e2] at hij
        rw [if_neg e1] at hi
        exact absurd hij (hn i hi)
      · rw [if_neg e1, if_neg e2] at hij
        rw [if_neg e1] at hi
        exact h.dist i j hij hi
  · rw [k3] at hi
    rw [hkj, if_neg (by omega)]
    exact h.beyond i hi
  · have := cn_upd (has u.keys) (has (putT u key s).keys) s (fun i hi => by unfold has; rw [hkj, if_neg hi]) (by unfold has; rw [hs0]; simp) (by unfold has; rw [hkj, if_pos rfl]; simpa using hne) 256 (by omega)
    rw [k4, this, h.many]
    push_cast; rfl
  · rw [k5]
    by_cases hg : u.idx q = -1
    · have := cn_upd (gone (putT u key s).idx) (gone u.idx) q (fun i hi => by unfold gone; rw [hxj, if_neg hi]) (by unfold gone; rw [hxj, if_pos rfl]; simp; omega) (by unfold gone; simpa using hg) 512 hp
      rw [if_pos hg]
      have hm := h.dead
      obtain ⟨c, hc⟩ : ∃ c, c = cn (gone (putT u key s).idx) 512 := ⟨_, rfl⟩
      rw [← hc] at this ⊢
      omega
    · rw [if_neg hg, h.dead]
      have : cn (gone u.idx) 512 = cn (gone (putT u key s).idx) 512 := by
        refine cn_same _ _ 512 fun i hi => ?_
        unfold gone
        rw [hxj]
        by_cases e : i = q
        · rw [if_pos e, e]
          simp [hg]; omega
        · rw [if_neg e]
      rw [this]
  · rw [hkj]
    split
    · exact hsz
    · exact h.size i hi
theorem add_new {t : TB} (h : Good t) {key : ByteArray} (s : Nat) (hb : ¬ badKey key) (hn : No t key) (hs : (s : Int) < t.room) (hs0 : t.keys s = E0) :
    (addT t key s).2 = ((s : Int), 0) ∧ Good (addT t key s).1 ∧ (addT t key s).1.room = t.room ∧ ∀ j, (addT t key s).1.keys j = if j = s then key else t.keys j := by
  have hc := clean_same t
  have hg := clean_good h
  have hnf : ¬ t.many = t.room := fun e => (h.full.1 e s hs) hs0
  have e : addT t key s = (putT (cleanT t) key s, (s : Int), 0) := by
    unfold addT
    rw [if_neg hb, if_neg (by rw [(hg.find_no (Good.same_no hn)).1]; simp), if_neg (by rw [hc.2.2.1, hc.2.1]; exact hnf)]
  have hk : key ≠ E0 ∧ key.size ≤ 4096 := by
    unfold badKey at hb
    constructor
    · intro e; exact hb (.inl e)
    · rcases Nat.lt_or_ge 4096 key.size with h' | h'
      · exact absurd (.inr h') hb
      · exact h'
  obtain ⟨g1, g2, g3⟩ := put_good hg s hk.1 (by omega) (Good.same_no hn) (by rw [hc.2.1]; exact hs) (by rw [hc.1]; exact hs0)
  rw [e]
  exact ⟨rfl, g1, by rw [g2, hc.2.1], fun j => by rw [g3, hc.1]⟩

end Go.Proofs.Ytjlhpnnkhiojfaa.HSlot
