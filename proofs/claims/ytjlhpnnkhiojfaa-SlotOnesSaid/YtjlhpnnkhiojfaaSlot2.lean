/- The slot table: what changes it; Len, Room, Find, Key, walked. -/
import Derived.Test.YtjlhpnnkhiojfaaSlot
namespace Go.Proofs.Ytjlhpnnkhiojfaa.HSlot
set_option linter.unusedVariables false
open Go.RowKit Go.Proofs.Ytjlhpnnkhiojfaa.Print Go.Proofs.Ytjlhpnnkhiojfaa.HSip Go.Proofs.YtjlhpnnkhiojfaaW.PrintWords Go.Proofs.YtjlhpnnkhiojfaaW.PrintLast Go.Proofs.YtjlhpnnkhiojfaaW.PrintMore

/-- Only the block b changes, of those that were there. -/
structure Upd (b : Nat) (w w' : World) : Prop where
  os : w'.os = w.os
  tape : w'.tape = w.tape
  output : w'.output = w.output
  size : w.heap.size ≤ w'.heap.size
  block : ∀ k, k < w.heap.size → k ≠ b → w'.heap[k]? = w.heap[k]?
theorem Upd.refl (b : Nat) (w : World) : Upd b w w := ⟨rfl, rfl, rfl, Nat.le_refl _, fun _ _ _ => rfl⟩
theorem Upd.trans {b : Nat} {w1 w2 w3 : World} (h : Upd b w1 w2) (k : Upd b w2 w3) : Upd b w1 w3 :=
  ⟨k.os.trans h.os, k.tape.trans h.tape, k.output.trans h.output, Nat.le_trans h.size k.size, fun i hi hb => (k.block i (Nat.lt_of_lt_of_le hi h.size) hb).trans (h.block i hi hb)⟩
theorem Upd.of {b : Nat} {w w' : World} (h : Below w.heap.size w w') : Upd b w w' := ⟨h.os, h.tape, h.output, h.size, fun k hk _ => h.block k hk⟩
theorem Upd.set (b : Nat) (w : World) (o : Nat) (v : Value) (n : Nat) : Upd b w ((w.drewN n).setCell ⟨b, o, none⟩ v) :=
  ⟨rfl, rfl, rfl, by simp, fun k _ hk => Below.heap_setCell _ _ _ _ hk⟩
theorem Upd.set0 (b : Nat) (w : World) (o : Nat) (v : Value) : Upd b w (w.setCell ⟨b, o, none⟩ v) :=
  ⟨rfl, rfl, rfl, by simp, fun k _ hk => Below.heap_setCell _ _ _ _ hk⟩
theorem Upd.drewN (b : Nat) (w : World) (n : Nat) : Upd b w (w.drewN n) := ⟨rfl, rfl, rfl, Nat.le_refl _, fun _ _ _ => rfl⟩
/-- What changes but a block of one's own leaves all that was there ahead of it. -/
theorem Upd.below {b B : Nat} {w0 w w' : World} (h : Upd b w w') (k : Below B w0 w) (hB : B ≤ b) (hs : B ≤ w.heap.size) : Below B w0 w' :=
  ⟨h.os.trans k.os, h.tape.trans k.tape, h.output.trans k.output, Nat.le_trans k.size h.size, fun i hi => (h.block i (by omega) (by omega)).trans (k.block i hi)⟩

def TB.sk (t : TB) (i : Nat) (v : ByteArray) : TB := { t with keys := fun j => if j = i then v else t.keys j }
def TB.si (t : TB) (p : Nat) (v : Int) : TB := { t with idx := fun j => if j = p then v else t.idx j }
def TB.sm (t : TB) (v : Int) : TB := { t with many := v }
def TB.sd (t : TB) (v : Int) : TB := { t with dead := v }

theorem set_at {w : World} {b : Nat} {cs : Array Value} {ty : TypeId} (h : w.heap[b]? = some (.cells cs ty (0, 0))) (o : Nat) (v : Value) :
    (w.setCell ⟨b, o, none⟩ v).heap[b]? = some (.cells (cs.setIfInBounds o v) ty (0, 0)) := by
  show (w.heap.modify b _)[b]? = _
  rw [Array.getElem?_modify, if_pos rfl, h]
  rfl
theorem get_set {cs : Array Value} (o i : Nat) (v : Value) (ho : o < cs.size) : (cs.setIfInBounds o v)[i]? = if o = i then some v else cs[i]? := by
  rw [Array.getElem?_setIfInBounds]
  by_cases h : o = i
  · subst h; simp [ho]
  · simp [h]
theorem TAt.sk {w : World} {b : Nat} {t : TB} (h : TAt w b t) (i : Nat) (hi : i < 256) (v : ByteArray) : TAt (w.setCell ⟨b, i, none⟩ (.string v)) b (t.sk i v) := by
  obtain ⟨cs, h1, h2, h3, h4, h5, h6, h7⟩ := h.ex
  refine ⟨_, set_at h1 _ _, by simpa using h2, fun j hj => ?_, fun p hp => ?_, ?_, ?_, ?_⟩
  · rw [get_set _ _ _ (by omega)]
    unfold TB.sk
    by_cases e : i = j
    · subst e; simp
    · rw [if_neg e, h3 j hj]; simp [show ¬ j = i by omega]
  · rw [get_set _ _ _ (by omega), if_neg (by omega)]; exact h4 p hp
  · rw [get_set _ _ _ (by omega), if_neg (by omega)]; exact h5
  · rw [get_set _ _ _ (by omega), if_neg (by omega)]; exact h6
  · rw [get_set _ _ _ (by omega), if_neg (by omega)]; exact h7
theorem TAt.si {w : World} {b : Nat} {t : TB} (h : TAt w b t) (q : Nat) (hq : q < 512) (v : Int) : TAt (w.setCell ⟨b, 256 + q, none⟩ (.int .i64 v)) b (t.si q v) := by
  obtain ⟨cs, h1, h2, h3, h4, h5, h6, h7⟩ := h.ex
  refine ⟨_, set_at h1 _ _, by simpa using h2, fun j hj => ?_, fun p hp => ?_, ?_, ?_, ?_⟩
  · rw [get_set _ _ _ (by omega), if_neg (by omega)]; exact h3 j hj
  · rw [get_set _ _ _ (by omega)]
    unfold TB.si
    by_cases e : q = p
    · subst e; simp
    · rw [if_neg (by omega), h4 p hp]; simp [show ¬ p = q by omega]
  · rw [get_set _ _ _ (by omega), if_neg (by omega)]; exact h5
  · rw [get_set _ _ _ (by omega), if_neg (by omega)]; exact h6
  · rw [get_set _ _ _ (by omega), if_neg (by omega)]; exact h7
theorem TAt.sm {w : World} {b : Nat} {t : TB} (h : TAt w b t) (v : Int) : TAt (w.setCell ⟨b, 769, none⟩ (.int .i64 v)) b (t.sm v) := by
  obtain ⟨cs, h1, h2, h3, h4, h5, h6, h7⟩ := h.ex
  refine ⟨_, set_at h1 _ _, by simpa using h2, fun j hj => ?_, fun p hp => ?_, ?_, ?_, ?_⟩
  · rw [get_set _ _ _ (by omega), if_neg (by omega)]; exact h3 j hj
  · rw [get_set _ _ _ (by omega), if_neg (by omega)]; exact h4 p hp
  · rw [get_set _ _ _ (by omega), if_neg (by omega)]; exact h5
  · rw [get_set _ _ _ (by omega), if_pos rfl]; rfl
  · rw [get_set _ _ _ (by omega), if_neg (by omega)]; exact h7
theorem TAt.sd {w : World} {b : Nat} {t : TB} (h : TAt w b t) (v : Int) : TAt (w.setCell ⟨b, 770, none⟩ (.int .i64 v)) b (t.sd v) := by
  obtain ⟨cs, h1, h2, h3, h4, h5, h6, h7⟩ := h.ex
  refine ⟨_, set_at h1 _ _, by simpa using h2, fun j hj => ?_, fun p hp => ?_, ?_, ?_, ?_⟩
  · rw [get_set _ _ _ (by omega), if_neg (by omega)]; exact h3 j hj
  · rw [get_set _ _ _ (by omega), if_neg (by omega)]; exact h4 p hp
  · rw [get_set _ _ _ (by omega), if_neg (by omega)]; exact h5
  · rw [get_set _ _ _ (by omega), if_neg (by omega)]; exact h6
  · rw [get_set _ _ _ (by omega), if_pos rfl]; rfl

theorem plc_rng (t : TB) (key : ByteArray) : ∀ (n a : Nat) (m : Int), a < 512 → (m = -1 ∨ (0 ≤ m ∧ m < 512)) → 0 ≤ (plc t key n a m).1 ∧ (plc t key n a m).1 < 512
  | 0, a, m, ha, hm => by
    show 0 ≤ (if m = -1 then (a : Int) else m) ∧ (if m = -1 then (a : Int) else m) < 512
    split <;> omega
  | n + 1, a, m, ha, hm => by
    unfold plc
    split
    · show 0 ≤ (if m = -1 then (a : Int) else m) ∧ (if m = -1 then (a : Int) else m) < 512
      split <;> omega
    · split
      · refine plc_rng t key n _ _ (Nat.mod_lt _ (by decide)) ?_
        split <;> omega
      · split
        · show 0 ≤ (a : Int) ∧ (a : Int) < 512
          omega
        · exact plc_rng t key n _ _ (Nat.mod_lt _ (by decide)) hm
theorem place_rng (t : TB) (key : ByteArray) : 0 ≤ (placeT t key).1 ∧ (placeT t key).1 < 512 := plc_rng t key 512 _ _ (Nat.mod_lt _ (by decide)) (.inl rfl)
/-- Where place points. -/
def pAt (t : TB) (key : ByteArray) : Nat := (placeT t key).1.toNat
def pIs (t : TB) (key : ByteArray) : Bool := (placeT t key).2
theorem pAt_lt (t : TB) (key : ByteArray) : pAt t key < 512 := by have := place_rng t key; unfold pAt; omega
theorem pAt_is (t : TB) (key : ByteArray) : (placeT t key).1 = (pAt t key : Int) := by have := place_rng t key; unfold pAt; omega
theorem plc_there (t : TB) (key : ByteArray) : ∀ (n a : Nat) (m : Int), a < 512 → (plc t key n a m).2 = true → t.idx (plc t key n a m).1.toNat ≠ 0 ∧ t.idx (plc t key n a m).1.toNat ≠ -1 ∧ t.keys (t.idx (plc t key n a m).1.toNat - 1).toNat = key
  | 0, a, m, ha, h => by simp [plc, fin] at h
  | n + 1, a, m, ha, h => by
    unfold plc at h ⊢
    by_cases h0 : t.idx a = 0
    · rw [if_pos h0] at h; simp [fin] at h
    · rw [if_neg h0] at h ⊢
      by_cases h1 : t.idx a = -1
      · rw [if_pos h1] at h ⊢
        exact plc_there t key n _ _ (Nat.mod_lt _ (by decide)) h
      · rw [if_neg h1] at h ⊢
        by_cases h2 : t.keys (t.idx a - 1).toNat = key
        · rw [if_pos h2]
          simp only [Int.toNat_natCast]
          exact ⟨h0, h1, h2⟩
        · rw [if_neg h2] at h ⊢
          exact plc_there t key n _ _ (Nat.mod_lt _ (by decide)) h
theorem place_there (t : TB) (key : ByteArray) (h : pIs t key = true) : t.idx (pAt t key) ≠ 0 ∧ t.idx (pAt t key) ≠ -1 ∧ t.keys (t.idx (pAt t key) - 1).toNat = key :=
  plc_there t key 512 _ _ (Nat.mod_lt _ (by decide)) h
theorem place_any' (w : World) (b : Nat) (t : TB) (key : ByteArray) (h : TAt w b t) (hf : Fine t) (hk : key.size ≤ 140737488355328) :
    Calls Try.prog 24 #[.pointer (some ⟨b, 0, none⟩), .string key] w fun e w' => e = .returned (.tuple #[.int .i64 (pAt t key), .bool (pIs t key)]) ∧ Below w.heap.size w w' := by
  have := place_any w b t key h hf hk
  rw [pAt_is] at this
  exact this

theorem Len_any (w : World) (b : Nat) (t : TB) (h : TAt w b t) : Calls Try.prog 12 #[.pointer (some ⟨b, 0, none⟩)] w fun e w' => e = .returned (.int .i64 t.many) ∧ w' = w := by
  obtain ⟨c, f⟩ := h.mn
  go_enter Try.func12, Try.ntmps12
  go_wp2
  go_ret
  exact ⟨rfl, rfl⟩
theorem Room_any (w : World) (b : Nat) (t : TB) (h : TAt w b t) : Calls Try.prog 21 #[.pointer (some ⟨b, 0, none⟩)] w fun e w' => e = .returned (.int .i64 t.room) ∧ w' = w := by
  obtain ⟨c, f⟩ := h.rm
  go_enter Try.func21, Try.ntmps21
  go_wp2
  go_ret
  exact ⟨rfl, rfl⟩

def findT (t : TB) (key : ByteArray) : Int × Bool := if pIs t key = true then (t.idx (pAt t key) - 1, true) else (0, false)
theorem Find_any (w : World) (b : Nat) (t : TB) (key : ByteArray) (h : TAt w b t) (hf : Fine t) (hk : key.size ≤ 140737488355328) :
    Calls Try.prog 16 #[.pointer (some ⟨b, 0, none⟩), .string key] w fun e w' => e = .returned (.tuple #[.int .i64 (findT t key).1, .bool (findT t key).2]) ∧ Below w.heap.size w w' := by
  have HT := Lib.hid h
  clear h
  obtain ⟨q, hq⟩ : ∃ q, q = pAt t key := ⟨_, rfl⟩
  have hq5 : q < 512 := by rw [hq]; exact pAt_lt t key
  have hx := hf q hq5
  go_enter Try.func16, Try.ntmps16
  go_wp2_with fail
  refine (place_any' w b t key HT.out hf hk).mono ?_
  rintro e w1 ⟨rfl, hb⟩
  rw [← hq]
  have B1 := Lib.hid hb
  clear hb
  obtain ⟨c, f⟩ := (HT.out.mono B1.out).ix q hq5
  by_cases hp : pIs t key = true
  · have E := Lib.hid (show findT t key = (t.idx q - 1, true) by unfold findT; rw [if_pos hp, hq])
    have e1 : wrap64 (t.idx q - 1) = t.idx q - 1 := by unfold wrap64; omega
    rw [hp]
    clear hx hp hq
    go_wp2
    go_ret2
    exact ⟨by rw [E.out, e1]; rfl, B1.out⟩
  · have E := Lib.hid (show findT t key = (0, false) by unfold findT; rw [if_neg hp])
    have hp' : pIs t key = false := by simpa using hp
    rw [hp']
    clear hx hp hq hp'
    go_wp2
    go_ret2
    exact ⟨by rw [E.out]; rfl, B1.out⟩

def keyT (t : TB) (i : Int) : ByteArray × Bool := if 0 ≤ i ∧ i < t.room ∧ t.keys i.toNat ≠ ⟨#[]⟩ then (t.keys i.toNat, true) else (⟨#[]⟩, false)
set_option maxRecDepth 20000 in
theorem Key_slot (w : World) (b : Nat) (t : TB) (i : Int) (h : TAt w b t) (hr : 1 ≤ t.room ∧ t.room ≤ 256) :
    Calls Try.prog 22 #[.pointer (some ⟨b, 0, none⟩), .int .i64 i] w fun e w' => e = .returned (.tuple #[.string (keyT t i).1, .bool (keyT t i).2]) ∧ Below w.heap.size w w' := by
  have HT := Lib.hid h
  clear h
  obtain ⟨cr, fr⟩ := HT.out.rm
  by_cases h0 : i < 0
  · have E := Lib.hid (show keyT t i = (⟨#[]⟩, false) by unfold keyT; rw [if_neg (by omega)])
    go_enter Try.func22, Try.ntmps22
    go_wp2
    go_ret2
    exact ⟨by rw [E.out]; rfl, Below.refl _ _⟩
  · by_cases h1 : t.room ≤ i
    · have E := Lib.hid (show keyT t i = (⟨#[]⟩, false) by unfold keyT; rw [if_neg (by omega)])
      go_enter Try.func22, Try.ntmps22
      go_wp2
      go_ret2
      exact ⟨by rw [E.out]; rfl, Below.refl _ _⟩
    · obtain ⟨j, rfl⟩ : ∃ j : Nat, i = j := ⟨i.toNat, by omega⟩
      have hj : j < 256 := by omega
      obtain ⟨ck, fk⟩ := HT.out.key j hj
      have g1 : ¬ (j : Int) < 0 := by omega
      have g2 : (j : Int) < t.room := by omega
      obtain ⟨x, hx⟩ : ∃ x, x = t.keys j := ⟨_, rfl⟩
      rw [← hx] at ck
      by_cases h2 : x = ⟨#[]⟩
      · have E := Lib.hid (show keyT t j = (⟨#[]⟩, false) by unfold keyT; rw [if_neg (by intro h; exact h.2.2 (by rw [Int.toNat_natCast, ← hx]; exact h2))])
        have g3 : x.toList.isEmpty = true := by rw [h2, Lib.toList_data]; rfl
        clear h2 hx h0 h1
        go_enter Try.func22, Try.ntmps22
        go_wp2
        go_ret2
        exact ⟨by rw [E.out]; rfl, Below.refl _ _⟩
      · have E := Lib.hid (show keyT t j = (x, true) by unfold keyT; rw [Int.toNat_natCast, ← hx, if_pos ⟨by omega, by omega, h2⟩])
        have g3 : x.toList.isEmpty = false := by
          rw [Lib.toList_data]
          cases hl : x.data.toList with
          | nil => exact absurd (ByteArray.ext (Array.toList_inj.1 (by rw [hl]))) h2
          | cons _ _ => rfl
        clear h2 hx h0 h1
        go_enter Try.func22, Try.ntmps22
        go_wp2
        go_ret2
        exact ⟨by rw [E.out]; rfl, Below.refl _ _⟩

end Go.Proofs.Ytjlhpnnkhiojfaa.HSlot
