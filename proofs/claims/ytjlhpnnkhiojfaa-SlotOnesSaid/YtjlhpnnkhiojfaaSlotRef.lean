/- The document's own table of chapter 11, walked: New, Find, Add, Drop, Key, Slots. -/
import Derived.Test.YtjlhpnnkhiojfaaSlotEx
import Derived.Laws.OwnMore
import Derived.Deep.OwnRows
namespace Go.Proofs.Ytjlhpnnkhiojfaa.HSlot
set_option linter.unusedVariables false
open Go.RowKit Go.Proofs.Ytjlhpnnkhiojfaa.Print Go.Proofs.Ytjlhpnnkhiojfaa.HSip Go.Proofs.YtjlhpnnkhiojfaaW.PrintWords Go.Proofs.YtjlhpnnkhiojfaaW.PrintLast Go.Proofs.YtjlhpnnkhiojfaaW.PrintMore

/-- The block x points to a row of r strings, K, in the block g. -/
structure RAt (w : World) (x g : Nat) (r : Nat) (K : Nat → ByteArray) : Prop where
  hd : w.heap[x]? = some (.cells #[.slice (some ⟨g, 0, none⟩) r r] 60 (0, 0))
  row : ∃ cs : Array Value, w.heap[g]? = some (.cells cs 9 (0, 0)) ∧ cs.size = r ∧ ∀ i, i < r → cs[i]? = some (.string (K i))
  ne : g ≠ x
theorem RAt.c {w : World} {x g r : Nat} {K : Nat → ByteArray} (h : RAt w x g r K) : w.cell? ⟨x, 0, none⟩ = some (.slice (some ⟨g, 0, none⟩) r r) ∧ w.frozen? ⟨x, 0, none⟩ = false := cell_of h.hd rfl
theorem RAt.k {w : World} {x g r : Nat} {K : Nat → ByteArray} (h : RAt w x g r K) (i : Nat) (hi : i < r) : w.cell? ⟨g, i, none⟩ = some (.string (K i)) ∧ w.frozen? ⟨g, i, none⟩ = false := by
  obtain ⟨cs, h1, h2, h3⟩ := h.row
  exact cell_of h1 (h3 i hi)
theorem lt_heap {w : World} {b : Nat} {o : Obj} (h : w.heap[b]? = some o) : b < w.heap.size := by
  rcases Nat.lt_or_ge b w.heap.size with h' | h'
  · exact h'
  · rw [Array.getElem?_eq_none h'] at h; cases h
theorem RAt.lt {w : World} {x g r : Nat} {K : Nat → ByteArray} (h : RAt w x g r K) : x < w.heap.size ∧ g < w.heap.size := by
  obtain ⟨cs, h1, _⟩ := h.row
  exact ⟨lt_heap h.hd, lt_heap h1⟩
theorem RAt.mono {w w' : World} {x g r : Nat} {K : Nat → ByteArray} (h : RAt w x g r K) (hb : Below w.heap.size w w') : RAt w' x g r K := by
  have hl := h.lt
  obtain ⟨cs, h1, h2⟩ := h.row
  exact ⟨by rw [hb.block x hl.1]; exact h.hd, ⟨cs, by rw [hb.block g hl.2]; exact h1, h2⟩, h.ne⟩
theorem RAt.upd {w w' : World} {b x g r : Nat} {K : Nat → ByteArray} (h : RAt w x g r K) (hb : Upd b w w') (h1 : b ≠ x) (h2 : b ≠ g) : RAt w' x g r K := by
  have hl := h.lt
  obtain ⟨cs, k1, k2⟩ := h.row
  exact ⟨by rw [hb.block x hl.1 h1.symm]; exact h.hd, ⟨cs, by rw [hb.block g hl.2 h2.symm]; exact k1, k2⟩, h.ne⟩
theorem RAt.set {w : World} {x g r : Nat} {K : Nat → ByteArray} (h : RAt w x g r K) (i : Nat) (hi : i < r) (v : ByteArray) : RAt (w.setCell ⟨g, i, none⟩ (.string v)) x g r (up K i v) := by
  obtain ⟨cs, h1, h2, h3⟩ := h.row
  refine ⟨?_, ⟨_, set_at h1 i _, by simpa using h2, fun j hj => ?_⟩, h.ne⟩
  · rw [Below.heap_setCell _ _ _ _ (show x ≠ g from h.ne.symm)]; exact h.hd
  · rw [get_set _ _ _ (by omega)]
    unfold up
    by_cases e : i = j
    · subst e; simp
    · rw [if_neg e, if_neg (by omega)]; exact h3 j hj
theorem SK.upd {w w' : World} {b g : Nat} {r : Int} {K : Nat → ByteArray} (h : SK w b r K) (hb : Upd g w w') (hn : g ≠ b) : SK w' b r K := by
  obtain ⟨t, h1, h2⟩ := h
  have hl := h1.lt
  obtain ⟨cs, k1, k2⟩ := h1.ex
  exact ⟨t, ⟨⟨cs, by rw [hb.block b hl hn.symm]; exact k1, k2⟩⟩, h2⟩

theorem made_row {w : World} {r : Nat} {c : Array Value} (hc : c = madeCells #[.string E0] r) (x : Array Value) (hx : x = #[.slice (some ⟨w.heap.size, 0, none⟩) r r]) :
    RAt ((w.alloc (.cells c 9)).alloc (.cells x 60)) (w.heap.size + 1) w.heap.size r (fun _ => E0) := by
  subst hc; subst hx
  refine ⟨?_, ⟨madeCells #[.string E0] r, ?_, size_madeCells _ _, fun i hi => by simp [madeCells, hi, Nat.mod_one]⟩, by omega⟩
  · show ((w.heap.push _).push _)[w.heap.size + 1]? = _
    rw [show w.heap.size + 1 = (w.heap.push (Obj.cells (madeCells #[.string E0] r) 9)).size by simp, Array.getElem?_push_size]
  · show ((w.heap.push _).push _)[w.heap.size]? = _
    rw [Array.getElem?_push, if_neg (by simp), Array.getElem?_push_size]
theorem makeR (w : World) (r : Nat) (hr : 1 ≤ r ∧ r ≤ 256) (c : Array Value) (hc : c = madeCells #[.string E0] r) : (Instr.makeSlice 58 (.int .i64 r) (.int .i64 r)).run Try.prog w = .ok (.slice (some ⟨w.heap.size, 0, none⟩) r r) (w.alloc (.cells c 9)) := by
  subst hc
  obtain ⟨i, hi, hz, hs, hb⟩ : ∃ i, Try.prog.info? 9 = some i ∧ i.zero = some (.string E0) ∧ i.size = 1 ∧ i.bytes = 16 := by
    refine ⟨(Try.prog.info? 9).get (by kernel_rfl), by kernel_rfl, by kernel_rfl, by kernel_rfl, by kernel_rfl⟩
  exact run_make_row 58 9 i (.string E0) Try.underlying58 hi hz hs rfl .i64 .i64 r (by rw [hb]; omega) (by omega) w
theorem rnew_yes (w : World) (r : Nat) (hr : 1 ≤ r ∧ r ≤ 256) :
    Calls Try.prog 13 #[.int .i64 r] w fun e w' => e = .returned (.pointer (some ⟨w.heap.size + 1, 0, none⟩)) ∧ (RAt w' (w.heap.size + 1) w.heap.size r (fun _ => E0) ∧ Below w.heap.size w w') := by
  have h1 : ¬ (r : Int) < 1 := by omega
  have h2 : ¬ (256 : Int) < r := by omega
  obtain ⟨c, hc⟩ : ∃ c, c = madeCells #[.string E0] r := ⟨_, rfl⟩
  have hmk := makeR w r hr c hc
  have HM := Lib.hid (made_row (w := w) hc _ rfl)
  clear hc
  go_enter Try.func13, Try.ntmps13
  go_wp2
  go_ret
  exact ⟨rfl, HM.out, ((Below.refl _ _).alloc (Nat.le_refl _) _).alloc (by simp) _⟩
theorem rnew_no (w : World) (room : Int) (hr : room < 1 ∨ 256 < room) :
    Calls Try.prog 13 #[.int .i64 room] w fun e w' => e = .returned (.pointer none) ∧ w' = w := by
  rcases hr with hr | hr
  · go_enter Try.func13, Try.ntmps13
    go_wp2
    go_ret
    exact ⟨rfl, rfl⟩
  · have h1 : ¬ room < 1 := by omega
    go_enter Try.func13, Try.ntmps13
    go_wp2
    go_ret
    exact ⟨rfl, rfl⟩


/-- The first slot of the key among n, from k on. -/
def rf (K : Nat → ByteArray) (key : ByteArray) : Nat → Nat → Option Nat
  | 0, _ => none
  | n + 1, k => if K k = key ∧ key ≠ E0 then some k else rf K key n (k + 1)
def rfV (o : Option Nat) : Value := match o with | some i => .tuple #[.int .i64 (i : Nat), .bool true] | none => .tuple #[.int .i64 0, .bool false]
theorem str_ne {a b : ByteArray} (h : a ≠ b) : (a.toList == b.toList) = false := by
  rw [beq_eq_false_iff_ne]
  intro e
  rw [Lib.toList_data, Lib.toList_data] at e
  exact h (ByteArray.ext (Array.toList_inj.1 e))
theorem str_eq {a b : ByteArray} (h : a = b) : (a.toList == b.toList) = true := by rw [h]; simp
set_option maxRecDepth 20000 in
theorem rfind_any (w : World) (x g r : Nat) (K : Nat → ByteArray) (key : ByteArray) (h : RAt w x g r K) (hr : 1 ≤ r ∧ r ≤ 256) :
    Calls Try.prog 17 #[.pointer (some ⟨x, 0, none⟩), .string key] w fun e w' => e = .returned (rfV (rf K key r 0)) ∧ Below w.heap.size w w' := by
  obtain ⟨c, f⟩ := h.c
  have HT := Lib.hid h
  clear h
  go_enter Try.func17, Try.ntmps17
  go_wp2_with fail
  go_loopw [6] (fun i wr => ∃ k : Nat, k ≤ r ∧ i = .int .i64 k ∧ wr = w ∧ rf K key (r - k) k = rf K key r 0) (fun i _ => 300 - (intOf i).toNat)
  case atStart => exact ⟨0, Nat.zero_le _, rfl, rfl, rfl⟩
  case round =>
    obtain ⟨k, hk, rfl, rfl, hp⟩ := hrel
    have HP := Lib.hid hp
    clear hp
    rcases Nat.lt_or_ge k r with hlt | hge
    · have hk1 : (k : Int) < r := by omega
      obtain ⟨ck, fk⟩ := HT.out.k k hlt
      obtain ⟨d, hd⟩ : ∃ d, r - k = d + 1 := ⟨r - k - 1, by omega⟩
      by_cases hkey : K k = key
      · have g4 := str_eq hkey
        by_cases he : key = E0
        · have g5 : key.toList.isEmpty = true := by rw [he]; exact empty_is
          have E := Lib.hid (show rf K key d (k + 1) = rf K key r 0 by rw [← HP.out, hd, rf, if_neg (fun q => q.2 he)])
          have HD := Lib.hid hd
          clear hd hkey he
          go_wp2
          go_roundw
          case rel => exact ⟨k + 1, by omega, by go_num, trivial, by rw [show r - (k + 1) = d by have := HD.out; omega]; exact E.out⟩
          case measure => simp [intOf]; omega
        · have g5 := ne_empty_is he
          have E := Lib.hid (show some k = rf K key r 0 by rw [← HP.out, hd, rf, if_pos ⟨hkey, he⟩])
          clear hd hkey he
          go_wp2
          try rw [Exit.noGoto_ret]
          go_ret2
          exact ⟨by rw [← E.out]; rfl, Below.refl _ _⟩
      · have g4 := str_ne hkey
        have E := Lib.hid (show rf K key d (k + 1) = rf K key r 0 by rw [← HP.out, hd, rf, if_neg (fun q => hkey q.1)])
        have HD := Lib.hid hd
        clear hd hkey
        go_wp2
        go_roundw
        case rel => exact ⟨k + 1, by omega, by go_num, trivial, by rw [show r - (k + 1) = d by have := HD.out; omega]; exact E.out⟩
        case measure => simp [intOf]; omega
    · have hk1 : ¬ (k : Int) < r := by omega
      have E := Lib.hid (show none = rf K key r 0 by rw [← HP.out, show r - k = 0 by omega]; rfl)
      go_wp2
      go_ret2
      exact ⟨by rw [← E.out]; rfl, Below.refl _ _⟩
theorem rf_none {K : Nat → ByteArray} {key : ByteArray} : ∀ (n k : Nat), (∀ j, k ≤ j → j < k + n → ¬ (K j = key ∧ key ≠ E0)) → rf K key n k = none
  | 0, _, _ => rfl
  | n + 1, k, h => by
    rw [rf, if_neg (h k (Nat.le_refl _) (by omega))]
    exact rf_none n (k + 1) fun j h1 h2 => h j (by omega) (by omega)
theorem rf_some {K : Nat → ByteArray} {key : ByteArray} {i : Nat} (hi : K i = key) (hne : key ≠ E0) : ∀ (n k : Nat), k ≤ i → i < k + n → (∀ j, j < i → K j ≠ key) → rf K key n k = some i
  | 0, _, h1, h2, _ => by omega
  | n + 1, k, h1, h2, h3 => by
    rw [rf]
    by_cases e : k = i
    · subst e; rw [if_pos ⟨hi, hne⟩]
    · rw [if_neg (fun q => h3 k (by omega) q.1)]
      exact rf_some hi hne n (k + 1) (by omega) (by omega) h3

set_option maxRecDepth 20000 in
theorem rkey_any (w : World) (x g r : Nat) (K : Nat → ByteArray) (i : Int) (h : RAt w x g r K) (hr : 1 ≤ r ∧ r ≤ 256) :
    Calls Try.prog 23 #[.pointer (some ⟨x, 0, none⟩), .int .i64 i] w fun e w' => e = .returned (.tuple #[.string (keyK K r i).1, .bool (keyK K r i).2]) ∧ Below w.heap.size w w' := by
  obtain ⟨c, f⟩ := h.c
  have HT := Lib.hid h
  clear h
  by_cases h0 : i < 0
  · have E := Lib.hid (show keyK K r i = (E0, false) by unfold keyK; rw [if_neg (by omega)])
    go_enter Try.func23, Try.ntmps23
    go_wp2
    go_ret2
    exact ⟨by rw [E.out]; rfl, Below.refl _ _⟩
  · by_cases h1 : (r : Int) ≤ i
    · have E := Lib.hid (show keyK K r i = (E0, false) by unfold keyK; rw [if_neg (by omega)])
      go_enter Try.func23, Try.ntmps23
      go_wp2
      go_ret2
      exact ⟨by rw [E.out]; rfl, Below.refl _ _⟩
    · obtain ⟨j, rfl⟩ : ∃ j : Nat, i = j := ⟨i.toNat, by omega⟩
      have hj : j < r := by omega
      obtain ⟨ck, fk⟩ := HT.out.k j hj
      have g1 : ¬ (j : Int) < 0 := by omega
      have g2 : ¬ (r : Int) ≤ (j : Int) := by omega
      have g2' : (j : Int) < r := by omega
      by_cases h2 : K j = E0
      · have E := Lib.hid (show keyK K r j = (E0, false) by unfold keyK; rw [if_neg (by intro h; exact h.2.2 (by rw [Int.toNat_natCast]; exact h2))])
        have g3 : (K j).toList.isEmpty = true := by rw [h2]; exact empty_is
        clear h2 h0 h1
        go_enter Try.func23, Try.ntmps23
        go_wp2
        go_ret2
        exact ⟨by rw [E.out]; rfl, Below.refl _ _⟩
      · have E := Lib.hid (show keyK K r j = (K j, true) by unfold keyK; rw [Int.toNat_natCast, if_pos ⟨by omega, by omega, h2⟩])
        have g3 := ne_empty_is h2
        clear h2 h0 h1
        go_enter Try.func23, Try.ntmps23
        go_wp2
        go_ret2
        exact ⟨by rw [E.out]; rfl, Below.refl _ _⟩

set_option maxRecDepth 20000 in
theorem rdrop_any (w : World) (x g r : Nat) (K : Nat → ByteArray) (key : ByteArray) (h : RAt w x g r K) (hr : 1 ≤ r ∧ r ≤ 256) (o : Option Nat) (ho : rf K key r 0 = o) (hor : ∀ i, o = some i → i < r) :
    Calls Try.prog 15 #[.pointer (some ⟨x, 0, none⟩), .string key] w fun e w' => e = .returned (.bool o.isSome) ∧ (RAt w' x g r (match o with | some i => up K i E0 | none => K) ∧ Upd g w w') := by
  have HT := Lib.hid h
  clear h
  go_enter Try.func15, Try.ntmps15
  go_wp2_with fail
  refine (rfind_any w x g r K key HT.out hr).mono ?_
  rintro e w1 ⟨rfl, hb⟩
  rw [ho]
  have B1 := Lib.hid hb
  have T1 := Lib.hid (HT.out.mono hb)
  clear hb
  obtain ⟨c, f⟩ := T1.out.c
  cases o with
  | none =>
    simp only [rfV]
    go_wp2
    go_ret
    exact ⟨rfl, T1.out, Upd.of B1.out⟩
  | some i =>
    have hi := hor i rfl
    obtain ⟨ck, fk⟩ := T1.out.k i hi
    have hi1 : (i : Int) < r := by omega
    simp only [rfV]
    go_wp2
    go_ret
    exact ⟨rfl, T1.out.set i hi E0, (Upd.of B1.out).trans (Upd.set0 _ _ _ _)⟩

set_option maxRecDepth 20000 in
theorem radd_bad (w : World) (x g r : Nat) (K : Nat → ByteArray) (key : ByteArray) (hb : badKey key) (hsz : key.size ≤ 140737488355328) :
    Calls Try.prog 18 #[.pointer (some ⟨x, 0, none⟩), .string key] w fun e w' => e = .returned (T1 0 1) ∧ w' = w := by
  by_cases he : key = E0
  · have g5 : key.toList.isEmpty = true := by rw [he]; exact empty_is
    clear he hb
    go_enter Try.func18, Try.ntmps18
    go_wp2
    go_ret2
    exact ⟨rfl, rfl⟩
  · have g5 := ne_empty_is he
    have hl : (4096 : Int) < key.size := by
      rcases hb with h | h
      · exact absurd h he
      · omega
    clear he hb
    go_enter Try.func18, Try.ntmps18
    go_wp2
    go_ret2
    exact ⟨rfl, rfl⟩
set_option maxRecDepth 20000 in
theorem radd_yes (w : World) (x g r : Nat) (K : Nat → ByteArray) (key : ByteArray) (h : RAt w x g r K) (hr : 1 ≤ r ∧ r ≤ 256) (hb : ¬ badKey key) (i : Nat) (ho : rf K key r 0 = some i) :
    Calls Try.prog 18 #[.pointer (some ⟨x, 0, none⟩), .string key] w fun e w' => e = .returned (T1 0 6) ∧ Below w.heap.size w w' := by
  have HT := Lib.hid h
  clear h
  have he : key ≠ E0 := fun e => hb (.inl e)
  have hl : ¬ (4096 : Int) < key.size := fun e => hb (.inr (by omega))
  have g5 := ne_empty_is he
  clear he hb
  go_enter Try.func18, Try.ntmps18
  go_wp2_with fail
  refine (rfind_any w x g r K key HT.out hr).mono ?_
  rintro e w1 ⟨rfl, hb⟩
  rw [ho]
  have B1 := Lib.hid hb
  clear hb
  simp only [rfV]
  go_wp2
  go_ret2
  exact ⟨rfl, B1.out⟩
set_option maxRecDepth 20000 in
theorem radd_new (w : World) (x g r : Nat) (K : Nat → ByteArray) (key : ByteArray) (h : RAt w x g r K) (hr : 1 ≤ r ∧ r ≤ 256) (hb : ¬ badKey key) (ho : rf K key r 0 = none) (s : Nat) (hs : s ≤ r) (h0 : s < r → K s = E0) (hpre : ∀ j, j < s → K j ≠ E0) :
    Calls Try.prog 18 #[.pointer (some ⟨x, 0, none⟩), .string key] w fun e w' => e = .returned (if s < r then T1 s 0 else T1 0 4) ∧ (RAt w' x g r (if s < r then up K s key else K) ∧ Upd g w w') := by
  have HT := Lib.hid h
  clear h
  have he : key ≠ E0 := fun e => hb (.inl e)
  have hl : ¬ (4096 : Int) < key.size := fun e => hb (.inr (by omega))
  have g5 := ne_empty_is he
  have HS := Lib.hid (And.intro hs (And.intro h0 hpre))
  clear he hb hs h0 hpre
  go_enter Try.func18, Try.ntmps18
  go_wp2_with fail
  refine (rfind_any w x g r K key HT.out hr).mono ?_
  rintro e w1 ⟨rfl, hb⟩
  rw [ho]
  have B1 := Lib.hid hb
  have T1' := Lib.hid (HT.out.mono hb)
  clear hb
  obtain ⟨c, f⟩ := T1'.out.c
  simp only [rfV]
  go_wp2_with fail
  go_loopw [8] (fun i wr => ∃ k : Nat, k ≤ s ∧ i = .int .i64 k ∧ wr = w1) (fun i _ => 300 - (intOf i).toNat)
  case atStart => exact ⟨0, Nat.zero_le _, rfl, rfl⟩
  case round =>
    obtain ⟨k, hk, rfl, rfl⟩ := hrel
    obtain ⟨c, f⟩ := T1'.out.c
    have hsr := HS.out.1
    rcases Nat.lt_or_ge k r with hlt | hge
    · have hk1 : (k : Int) < r := by omega
      obtain ⟨ck, fk⟩ := T1'.out.k k hlt
      by_cases hks : k = s
      · subst hks
        have g6 : (K k).toList.isEmpty = true := by rw [HS.out.2.1 hlt]; exact empty_is
        clear hsr
        go_wp2
        try rw [Exit.noGoto_ret]
        go_ret2
        exact ⟨rfl, T1'.out.set k hlt key, (Upd.of B1.out).trans (Upd.set0 _ _ _ _)⟩
      · have g6 := ne_empty_is (HS.out.2.2 k (by omega))
        clear hsr
        go_wp2
        go_roundw
        case rel => exact ⟨k + 1, by omega, by go_num, trivial⟩
        case measure => simp [intOf]; omega
    · have hk1 : ¬ (k : Int) < r := by omega
      have hsr2 : ¬ s < r := by omega
      clear hsr
      go_wp2
      go_ret2
      exact ⟨rfl, T1'.out, Upd.of B1.out⟩

set_option maxRecDepth 20000 in
set_option maxHeartbeats 4000000 in
theorem rslots_any (w : World) (x g r : Nat) (K : Nat → ByteArray) (h : RAt w x g r K) (hr : 1 ≤ r ∧ r ≤ 256) :
    Calls Try.prog 20 #[.pointer (some ⟨x, 0, none⟩)] w fun e w' => ∃ v, e = .returned v ∧ (w'.ownsRow w.heap.size 3 1 v (sl K r).length ((sl K r).map (Value.int .i64)) ∧ Below w.heap.size w w') := by
  have HT := Lib.hid h
  clear h
  obtain ⟨i0, hi, hz0, hz1, hz2⟩ := info_parts infoInt
  have HN := Lib.hid hr.2
  clear hr
  go_enter Try.func20, Try.ntmps20
  go_wp2
  go_loopw [3, 4] (fun v i wr => ∃ k : Nat, k ≤ r ∧ i = .int .i64 k ∧ wr.ownsRow w.heap.size 3 1 v (sl K k).length ((sl K k).map (Value.int .i64)) ∧ RAt wr x g r K ∧ Below w.heap.size w wr) (fun _ i _ => 300 - (intOf i).toNat)
  case atStart => exact ⟨0, Nat.zero_le _, rfl, World.ownsRow_nil _ _ _ _, HT.out, Below.refl _ _⟩
  case round =>
    obtain ⟨k, hk, rfl, hown, ht, hnx⟩ := hrel
    have TK := Lib.hid ht
    clear ht
    obtain ⟨c, f⟩ := TK.out.c
    rcases Nat.lt_or_ge k r with hlt | hge
    · have hk1 : (k : Int) < r := by omega
      have hk2 : k < 256 := by have := HN.out; omega
      obtain ⟨ck, fk⟩ := TK.out.k k hlt
      have hsl := sl_len K k
      by_cases hxe : K k = E0
      · have g3 : (K k).toList.isEmpty = true := by rw [hxe]; exact empty_is
        have EK := Lib.hid (show sl K (k + 1) = sl K k by rw [sl, if_pos hxe])
        have OW := Lib.hid hown
        have NX := Lib.hid hnx
        clear hxe hown hnx
        go_wp2
        go_roundw
        case rel => exact ⟨k + 1, by omega, by go_num, by rw [EK.out]; exact OW.out, TK.out, NX.out⟩
        case measure => simp [intOf]; omega
      · have g3 := ne_empty_is hxe
        have EK := Lib.hid (show sl K (k + 1) = sl K k ++ [(k : Int)] by rw [sl, if_neg hxe])
        have NX := Lib.hid hnx
        clear hxe
        go_wp2_with (first
          | (at_builtin; refine wpList_append_own _ rfl _ _ 46 rfl w.heap.size 3 i0 (.int .i64 0) 1 8 Try.underlying46 hi hz0 hz1 hz2 rfl (by decide) _ _ _ rfl (hown.alloc _) ⟨wr.heap.size, 0, none⟩ 1 1 [.int .i64 k] rfl rfl ?c1 ?c2 ?c3 ?c4 ?c5 ?_)
          | fail)
        case c1 =>
          intro j u hj
          match j, hj with
          | 0, hj => simp at hj; subst hj; simp [Addr.add]
        case c2 => intro u hu; simp at hu; subst hu; rfl
        case c3 => unfold maxLen; omega
        case c4 => omega
        case c5 => have := NX.out.size; simp; omega
        intro v' w1 hown' hgrow _
        have B1 := Lib.hid ((NX.out.alloc NX.out.size (Obj.cells #[.int .i64 k] 3)).grown hgrow (by have := NX.out.size; simp; omega) (fun k hk => (hown.lt k hk).1))
        have O1 := Lib.hid hown'
        clear hown' hgrow hown
        go_wp2
        go_roundw
        case rel => exact ⟨k + 1, by omega, by go_num, by rw [EK.out, List.map_append, List.length_append]; exact O1.out, HT.out.mono B1.out, B1.out⟩
        case measure => simp [intOf]; omega
    · have hk1 : ¬ (k : Int) < r := by omega
      have hkn : k = r := by omega
      subst hkn
      have OW := Lib.hid hown
      clear hown
      go_wp2
      go_ret
      exact ⟨_, rfl, OW.out, hnx⟩

end Go.Proofs.Ytjlhpnnkhiojfaa.HSlot
