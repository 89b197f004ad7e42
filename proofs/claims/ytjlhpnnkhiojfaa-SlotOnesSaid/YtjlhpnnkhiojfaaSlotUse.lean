/- The slot table's contracts by its keys alone. -/
import Derived.Test.YtjlhpnnkhiojfaaSlot8
namespace Go.Proofs.Ytjlhpnnkhiojfaa.HSlot
set_option linter.unusedVariables false
open Go.RowKit Go.Proofs.Ytjlhpnnkhiojfaa.Print Go.Proofs.Ytjlhpnnkhiojfaa.HSip Go.Proofs.YtjlhpnnkhiojfaaW.PrintWords Go.Proofs.YtjlhpnnkhiojfaaW.PrintLast Go.Proofs.YtjlhpnnkhiojfaaW.PrintMore

/-- The block b holds a table of so many slots whose keys are K. -/
def SK (w : World) (b : Nat) (r : Int) (K : Nat → ByteArray) : Prop := ∃ t, TAt w b t ∧ Good t ∧ t.room = r ∧ t.keys = K
def up (K : Nat → ByteArray) (s : Nat) (v : ByteArray) : Nat → ByteArray := fun j => if j = s then v else K j
def NoK (K : Nat → ByteArray) (key : ByteArray) : Prop := ∀ i, K i ≠ E0 → K i ≠ key
theorem SK.lt {w : World} {b : Nat} {r : Int} {K : Nat → ByteArray} (h : SK w b r K) : b < w.heap.size := by
  obtain ⟨t, h1, _⟩ := h; exact h1.lt
theorem SK.mono {w w' : World} {b : Nat} {r : Int} {K : Nat → ByteArray} (h : SK w b r K) (hb : Below w.heap.size w w') : SK w' b r K := by
  obtain ⟨t, h1, h2, h3, h4⟩ := h; exact ⟨t, h1.mono hb, h2, h3, h4⟩
theorem SK.drew {w : World} {b : Nat} {r : Int} {K : Nat → ByteArray} (h : SK w b r K) : SK w.drew b r K := by
  obtain ⟨t, h1, h2, h3, h4⟩ := h; exact ⟨t, ⟨h1.ex⟩, h2, h3, h4⟩
theorem SK.rr {w : World} {b : Nat} {r : Int} {K : Nat → ByteArray} (h : SK w b r K) : 1 ≤ r ∧ r ≤ 256 := by
  obtain ⟨t, h1, h2, h3, h4⟩ := h; rw [← h3]; exact h2.room
theorem SK.dist {w : World} {b : Nat} {r : Int} {K : Nat → ByteArray} (h : SK w b r K) {i j : Nat} (e : K i = K j) (hi : K i ≠ E0) : i = j := by
  obtain ⟨t, h1, h2, h3, h4⟩ := h; subst h4; exact h2.dist i j e hi
theorem SK.beyond {w : World} {b : Nat} {r : Int} {K : Nat → ByteArray} (h : SK w b r K) (i : Nat) (hi : r ≤ (i : Int)) : K i = E0 := by
  obtain ⟨t, h1, h2, h3, h4⟩ := h; subst h4; subst h3; exact h2.beyond i hi

abbrev T1 (a : Int) (b : Int) : Value := .tuple #[.int .i64 a, .int .i64 b]
theorem u_new (w : World) (r : Int) (hr : 1 ≤ r ∧ r ≤ 256) :
    Calls Try.prog 8 #[.int .i64 r] w fun e w' => e = .returned (.tuple #[.pointer (some ⟨w.heap.size, 0, none⟩), .int .i64 0]) ∧ (SK w' w.heap.size r (fun _ => E0) ∧ Below w.heap.size w w') :=
  (New_yes w r hr).mono fun e w' h => ⟨h.1, ⟨newT r, h.2.1, new_good r hr, rfl, rfl⟩, h.2.2⟩
section
variable {w : World} {b : Nat} {r : Int} {K : Nat → ByteArray} {key : ByteArray}
theorem u_add_new (h : SK w b r K) (s : Nat) (hb : ¬ badKey key) (hn : NoK K key) (hs : (s : Int) < r) (h0 : K s = E0) (hl : ∀ j, j < s → K j ≠ E0) :
    Calls Try.prog 11 #[.pointer (some ⟨b, 0, none⟩), .string key] w fun e w' => e = .returned (T1 s 0) ∧ (SK w' b r (up K s key) ∧ Upd b w w') := by
  obtain ⟨t, h1, h2, h3, rfl⟩ := h
  subst h3
  have hr := h2.room
  have hsz : key.size ≤ 140737488355328 := by
    rcases Nat.lt_or_ge 4096 key.size with h' | h'
    · exact absurd (.inr h') hb
    · omega
  obtain ⟨e1, e2, e3, e4⟩ := add_new h2 s hb hn hs h0
  refine (Add_any w b t key s h1 h2.fine h2.size hsz h2.manyb h2.deadb hr (.inr ⟨by omega, h0, hl⟩)).mono fun e w' h => ?_
  rw [e1] at h
  exact ⟨h.1, ⟨_, h.2.1, e2, e3, funext e4⟩, h.2.2⟩
theorem u_add_yes (h : SK w b r K) (i : Nat) (hb : ¬ badKey key) (hi : K i = key) (hne : key ≠ E0) (hff : ∃ s : Nat, (s : Int) < r ∧ K s = E0 ∧ ∀ j, j < s → K j ≠ E0) :
    Calls Try.prog 11 #[.pointer (some ⟨b, 0, none⟩), .string key] w fun e w' => e = .returned (T1 0 6) ∧ (SK w' b r K ∧ Upd b w w') := by
  obtain ⟨t, h1, h2, h3, rfl⟩ := h
  subst h3
  have hr := h2.room
  have hsz : key.size ≤ 140737488355328 := by
    rcases Nat.lt_or_ge 4096 key.size with h' | h'
    · exact absurd (.inr h') hb
    · omega
  obtain ⟨s, s1, s2, s3⟩ := hff
  have e1 := add_yes h2 s hb ⟨hi, hne⟩
  refine (Add_any w b t key s h1 h2.fine h2.size hsz h2.manyb h2.deadb hr (.inr ⟨by omega, s2, s3⟩)).mono fun e w' h => ?_
  rw [e1] at h
  have hc := clean_same t
  exact ⟨h.1, ⟨_, h.2.1, clean_good h2, hc.2.1, hc.1⟩, h.2.2⟩
/-- Where no slot is free. -/
theorem u_add_yes_full (h : SK w b r K) (i : Nat) (hb : ¬ badKey key) (hi : K i = key) (hne : key ≠ E0) (hff : ∀ s : Nat, (s : Int) < r → K s ≠ E0) :
    Calls Try.prog 11 #[.pointer (some ⟨b, 0, none⟩), .string key] w fun e w' => e = .returned (T1 0 6) ∧ (SK w' b r K ∧ Upd b w w') := by
  obtain ⟨t, h1, h2, h3, rfl⟩ := h
  subst h3
  have hr := h2.room
  have hsz : key.size ≤ 140737488355328 := by
    rcases Nat.lt_or_ge 4096 key.size with h' | h'
    · exact absurd (.inr h') hb
    · omega
  have e1 := add_yes h2 0 hb ⟨hi, hne⟩
  refine (Add_any w b t key 0 h1 h2.fine h2.size hsz h2.manyb h2.deadb hr (.inl (h2.full.2 hff))).mono fun e w' h => ?_
  rw [e1] at h
  have hc := clean_same t
  exact ⟨h.1, ⟨_, h.2.1, clean_good h2, hc.2.1, hc.1⟩, h.2.2⟩
theorem u_add_full (h : SK w b r K) (hb : ¬ badKey key) (hn : NoK K key) (hff : ∀ s : Nat, (s : Int) < r → K s ≠ E0) :
    Calls Try.prog 11 #[.pointer (some ⟨b, 0, none⟩), .string key] w fun e w' => e = .returned (T1 0 4) ∧ (SK w' b r K ∧ Upd b w w') := by
  obtain ⟨t, h1, h2, h3, rfl⟩ := h
  subst h3
  have hr := h2.room
  have hsz : key.size ≤ 140737488355328 := by
    rcases Nat.lt_or_ge 4096 key.size with h' | h'
    · exact absurd (.inr h') hb
    · omega
  have hfu := h2.full.2 hff
  have e1 := add_full h2 0 hb hn hfu
  refine (Add_any w b t key 0 h1 h2.fine h2.size hsz h2.manyb h2.deadb hr (.inl hfu)).mono fun e w' h => ?_
  rw [e1] at h
  have hc := clean_same t
  exact ⟨h.1, ⟨_, h.2.1, clean_good h2, hc.2.1, hc.1⟩, h.2.2⟩
/-- The lowest free slot, or none. -/
theorem free_or (r : Nat) (K : Nat → ByteArray) : (∀ s, s < r → K s ≠ E0) ∨ ∃ s, s < r ∧ K s = E0 ∧ ∀ j, j < s → K j ≠ E0 := by
  induction r with
  | zero => exact .inl (by omega)
  | succ r ih =>
    rcases ih with h | ⟨s, h1, h2, h3⟩
    · by_cases e : K r = E0
      · exact .inr ⟨r, by omega, e, fun j hj => h j hj⟩
      · left
        intro s hs
        by_cases e2 : s = r
        · rw [e2]; exact e
        · exact h s (by omega)
    · exact .inr ⟨s, by omega, h2, h3⟩
theorem u_add_bad (h : SK w b r K) (hb : badKey key) (hsz : key.size ≤ 140737488355328) :
    Calls Try.prog 11 #[.pointer (some ⟨b, 0, none⟩), .string key] w fun e w' => e = .returned (T1 0 1) ∧ (SK w' b r K ∧ Upd b w w') := by
  obtain ⟨t, h1, h2, h3, rfl⟩ := h
  subst h3
  have hr := h2.room
  have go : ∀ s, (t.many = t.room ∨ (s < 256 ∧ t.keys s = E0 ∧ ∀ j, j < s → t.keys j ≠ E0)) → Calls Try.prog 11 #[.pointer (some ⟨b, 0, none⟩), .string key] w fun e w' => e = .returned (T1 0 1) ∧ (SK w' b t.room t.keys ∧ Upd b w w') := fun s hs => by
    refine (Add_any w b t key s h1 h2.fine h2.size hsz h2.manyb h2.deadb hr hs).mono fun e w' h => ?_
    rw [add_bad s hb] at h
    exact ⟨h.1, ⟨_, h.2.1, h2, rfl, rfl⟩, h.2.2⟩
  rcases free_or t.room.toNat t.keys with hf | ⟨s, s1, s2, s3⟩
  · exact go 0 (.inl (h2.full.2 fun i hi => hf i (by omega)))
  · exact go s (.inr ⟨by omega, s2, s3⟩)
theorem u_drop_yes (h : SK w b r K) (i : Nat) (hi : K i = key) (hne : key ≠ E0) (hsz : key.size ≤ 140737488355328) :
    Calls Try.prog 10 #[.pointer (some ⟨b, 0, none⟩), .string key] w fun e w' => e = .returned (.bool true) ∧ (SK w' b r (up K i E0) ∧ Upd b w w') := by
  obtain ⟨t, h1, h2, h3, rfl⟩ := h
  subst h3
  obtain ⟨e1, e2, e3, e4⟩ := drop_yes h2 (key := key) (i := i) ⟨hi, hne⟩
  refine (Drop_any w b t key h1 h2.fine hsz h2.manyb h2.deadb).mono fun e w' h => ?_
  rw [e1] at h
  exact ⟨h.1, ⟨_, h.2.1, e2, e3, funext e4⟩, h.2.2⟩
theorem u_drop_no (h : SK w b r K) (hn : NoK K key) (hsz : key.size ≤ 140737488355328) :
    Calls Try.prog 10 #[.pointer (some ⟨b, 0, none⟩), .string key] w fun e w' => e = .returned (.bool false) ∧ (SK w' b r K ∧ Upd b w w') := by
  obtain ⟨t, h1, h2, h3, rfl⟩ := h
  subst h3
  have e1 := drop_no h2 hn
  refine (Drop_any w b t key h1 h2.fine hsz h2.manyb h2.deadb).mono fun e w' h => ?_
  rw [e1] at h
  exact ⟨h.1, ⟨_, h.2.1, h2, rfl, rfl⟩, h.2.2⟩
theorem u_find_yes (h : SK w b r K) (i : Nat) (hi : K i = key) (hne : key ≠ E0) (hsz : key.size ≤ 140737488355328) :
    Calls Try.prog 16 #[.pointer (some ⟨b, 0, none⟩), .string key] w fun e w' => e = .returned (.tuple #[.int .i64 i, .bool true]) ∧ Below w.heap.size w w' := by
  obtain ⟨t, h1, h2, h3, rfl⟩ := h
  have := Find_any w b t key h1 h2.fine hsz
  rw [h2.findT_yes (key := key) (i := i) ⟨hi, hne⟩] at this
  exact this
theorem u_find_no (h : SK w b r K) (hn : NoK K key) (hsz : key.size ≤ 140737488355328) :
    Calls Try.prog 16 #[.pointer (some ⟨b, 0, none⟩), .string key] w fun e w' => e = .returned (.tuple #[.int .i64 0, .bool false]) ∧ Below w.heap.size w w' := by
  obtain ⟨t, h1, h2, h3, rfl⟩ := h
  have := Find_any w b t key h1 h2.fine hsz
  rw [h2.findT_no hn] at this
  exact this
def keyK (K : Nat → ByteArray) (r i : Int) : ByteArray × Bool := if 0 ≤ i ∧ i < r ∧ K i.toNat ≠ E0 then (K i.toNat, true) else (E0, false)
theorem u_key (h : SK w b r K) (i : Int) :
    Calls Try.prog 22 #[.pointer (some ⟨b, 0, none⟩), .int .i64 i] w fun e w' => e = .returned (.tuple #[.string (keyK K r i).1, .bool (keyK K r i).2]) ∧ Below w.heap.size w w' := by
  obtain ⟨t, h1, h2, h3, rfl⟩ := h
  subst h3
  exact Key_slot w b t i h1 h2.room
theorem u_len (h : SK w b r K) : Calls Try.prog 12 #[.pointer (some ⟨b, 0, none⟩)] w fun e w' => e = .returned (.int .i64 (cn (has K) 256 : Nat)) ∧ Below w.heap.size w w' := by
  obtain ⟨t, h1, h2, h3, rfl⟩ := h
  refine (Len_any w b t h1).mono fun e w' hh => ?_
  rw [hh.1, hh.2, h2.many]
  exact ⟨rfl, Below.refl _ _⟩
theorem u_room (h : SK w b r K) : Calls Try.prog 21 #[.pointer (some ⟨b, 0, none⟩)] w fun e w' => e = .returned (.int .i64 r) ∧ Below w.heap.size w w' := by
  obtain ⟨t, h1, h2, h3, rfl⟩ := h
  refine (Room_any w b t h1).mono fun e w' hh => ?_
  rw [hh.1, hh.2, h3]
  exact ⟨rfl, Below.refl _ _⟩
theorem u_slots (h : SK w b r K) : Calls Try.prog 19 #[.pointer (some ⟨b, 0, none⟩)] w fun e w' => ∃ v, e = .returned v ∧ (w'.ownsRow w.heap.size 3 1 v (sl K r.toNat).length ((sl K r.toNat).map (Value.int .i64)) ∧ Below w.heap.size w w') := by
  obtain ⟨t, h1, h2, h3, rfl⟩ := h
  subst h3
  exact Slots_any w b t h1 h2.room
end
/-- What the table's call changed is laid on what lies above a bound. -/
theorem Upd.bel {b B : Nat} {w0 w w' : World} (h : Upd b w w') (k : Below B w0 w) (hB : B ≤ b) (hs : b < w.heap.size) : Below B w0 w' := h.below k hB (by omega)

end Go.Proofs.Ytjlhpnnkhiojfaa.HSlot
