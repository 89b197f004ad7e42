/- Labels: the reference's take, Split, Metric, walked. Conditions: sizes. -/
import Derived.Test.YtlmnniajindlgaaLab8
import Derived.Test.YtlmnniajindlgaaLab10
namespace Go.Proofs.Ytlmnniajindlgaa.HLab
set_option linter.unusedVariables false
open Go.RowKit Go.Proofs.Ytlmnniajindlgaa.HMem Go.Proofs.Ytlmnniajindlgaa.HBld Go.Proofs.Ytlmnniajindlgaa.HApp

/-- A text off the front, or what there is of it. -/
def rT : List UInt8 → List UInt8 × List UInt8
  | [] => ([], [])
  | c :: t => (t.take c.toNat, t.drop c.toNat)
theorem rT_tx (s : ByteArray) (hs : s.size < 256) (r : List UInt8) : rT (txL s ++ r) = (s.data.toList, r) := by
  have hc : (UInt8.ofNat s.size).toNat = s.size := by rw [UInt8.toNat_ofNat']; omega
  unfold txL
  rw [List.cons_append]
  show ((s.data.toList ++ r).take (UInt8.ofNat s.size).toNat, (s.data.toList ++ r).drop (UInt8.ofNat s.size).toNat) = _
  rw [hc, List.take_left' (list_size s), List.drop_left' (list_size s)]
set_option maxHeartbeats 2000000 in
set_option maxRecDepth 20000 in
theorem rtake_any (w : World) (s : ByteArray) (hs : s.size ≤ 140737488355328) :
    Calls Try.prog 31 #[.string s] w fun e w' => ∃ a b : ByteArray, e = .returned (.tuple #[.string a, .string b]) ∧ a.data.toList = (rT s.data.toList).1 ∧ b.data.toList = (rT s.data.toList).2 ∧ Below w.heap.size w w' := by
  by_cases hz : s.size = 0
  · have t1 : s.toList.isEmpty = true := by rw [empty_iff]; exact decide_eq_true hz
    have HZ := Lib.hid (show s.data.toList = [] from List.length_eq_zero_iff.1 (by rw [list_size]; exact hz))
    clear hz
    go_enter Try.func31, Try.ntmps31
    go_wp2
    go_ret2
    exact ⟨_, _, rfl, by rw [HZ.out]; rfl, by rw [HZ.out]; rfl, Below.refl _ _⟩
  · have t1 : s.toList.isEmpty = false := by rw [empty_iff]; exact decide_eq_false hz
    have hp : 0 < s.size := by omega
    have hp1 : (1 : Int) ≤ s.size := by omega
    have hb := byte_at s 0 hp
    obtain ⟨c, hc⟩ : ∃ c, c = s[0]'hp := ⟨_, rfl⟩
    have ec : (((s[0]'hp).toNat : Nat) : Int) = (c.toNat : Int) := by rw [hc]
    have hc256 := c.toNat_lt
    have ew : wrap64 (c.toNat : Int) = (c.toNat : Int) := by unfold wrap64; omega
    obtain ⟨z, hz'⟩ : ∃ z, z = min c.toNat (s.size - 1) := ⟨_, rfl⟩
    have em : min (c.toNat : Int) ((s.size : Int) - 1) = (z : Int) := by omega
    have hzs : z + 1 ≤ s.size := by omega
    have HS := Lib.hid (show (rT s.data.toList).1 = (s.extract 1 (1 + z)).data.toList ∧ (rT s.data.toList).2 = (s.extract (1 + z) s.size).data.toList by
      have h1 := Lib.extract_data s 1 (1 + z)
      have h2 := Lib.extract_to_end s (1 + z)
      cases hl : s.data.toList with
      | nil => rw [hl] at hb; cases hb
      | cons d t =>
        have hd : d = c := by rw [hl] at hb; simp at hb; rw [hb, hc]
        have htl : t.length = s.size - 1 := by have := congrArg List.length hl; rw [list_size, List.length_cons] at this; omega
        subst hd
        rw [h1, h2, hl]
        show (t.take d.toNat = _) ∧ (t.drop d.toNat = _)
        rw [show 1 + z - 1 = z by omega, show 1 + z = z + 1 by omega]
        simp only [List.drop_succ_cons, List.drop_zero]
        rcases Nat.le_total d.toNat t.length with h | h
        · rw [show z = d.toNat by omega]; exact ⟨rfl, rfl⟩
        · rw [show z = t.length by omega, List.take_length, List.drop_length, List.take_of_length_le h, List.drop_of_length_le h]; exact ⟨rfl, rfl⟩)
    have hz1 : (1 : Int) + (z : Int) ≤ (s.size : Int) := by omega
    have hz0 : (0 : Int) ≤ (z : Int) := by omega
    have hzt : ((1 : Int) + (z : Int)).toNat = 1 + z := by omega
    have hw1 : IntKind.i64.wrap ((1 : Int) + (z : Int)) = 1 + (z : Int) := by rw [IntKind.wrap_i64]; omega
    have h10 : (0 : Int) ≤ 1 + (z : Int) := by omega
    have h11 : (1 : Int) ≤ 1 + (z : Int) := by omega
    clear hb hc hz hz' hc256
    go_enter Try.func31, Try.ntmps31
    go_wp2_with fail
    refine wp_region_quiet (C := fun w' => Below w.heap.size w w') (by kernel_rfl) (by kernel_rfl) ((Below.refl _ _).drew) ?_
    repeat (
      with_reducible refine wpQuiet_step (fun K hK => ?_)
      go_simp
      first
        | (with_reducible refine hK _ ?_; clear hK K)
        | (apply Exists.intro
           refine ⟨fun v hv => ?_, hK _ ?_⟩
           (first
             | with_reducible rfl)
           clear hK K))
    refine wpQuiet_nil ?_
    intro wf hk
    have BF := Lib.hid hk
    clear hk
    go_wp2
    go_ret2
    exact ⟨_, _, rfl, HS.out.1.symm, HS.out.2.symm, BF.out⟩
/-- What is read so far, if it is a key. -/
def RWay (key name : ByteArray) (m i : Nat) (acc : LL) (rest : ByteArray) : Prop := ∀ n s, IsKey key n s → name = n ∧ m = s.length ∧ acc = s.take i ∧ rest.data.toList = encS (s.drop i)
theorem RWay.step {key name : ByteArray} {m i : Nat} {acc : LL} {rest a r1 b r2 : ByteArray} (h : RWay key name m i acc rest) (hi : i < m) (e1 : a.data.toList = (rT rest.data.toList).1) (e2 : r1.data.toList = (rT rest.data.toList).2) (e3 : b.data.toList = (rT r1.data.toList).1) (e4 : r2.data.toList = (rT r1.data.toList).2) : RWay key name m (i + 1) (acc ++ [(a, b)]) r2 := by
  intro n s k
  obtain ⟨h1, h2, h3, h4⟩ := h n s k
  obtain ⟨x, hx⟩ : ∃ x, s[i]? = some x := ⟨_, List.getElem?_eq_getElem (by omega)⟩
  have hsz := k.sizes.2.2 x (List.mem_of_getElem? hx)
  have hj := (List.getElem?_eq_some_iff.1 hx).1
  have hd : s.drop i = x :: s.drop (i + 1) := by
    rw [List.drop_eq_getElem_cons hj, Option.some.inj ((List.getElem?_eq_getElem hj).symm.trans hx)]
  rw [h4, hd] at e1 e2
  change a.data.toList = (rT (txL x.1 ++ (txL x.2 ++ encS (s.drop (i + 1))))).1 at e1
  change r1.data.toList = (rT (txL x.1 ++ (txL x.2 ++ encS (s.drop (i + 1))))).2 at e2
  rw [rT_tx x.1 hsz.1] at e1 e2
  rw [e2] at e3 e4
  change b.data.toList = (rT (txL x.2 ++ encS (s.drop (i + 1)))).1 at e3
  change r2.data.toList = (rT (txL x.2 ++ encS (s.drop (i + 1)))).2 at e4
  rw [rT_tx x.2 hsz.2] at e3 e4
  refine ⟨h1, h2, ?_, e4⟩
  rw [List.take_add_one, hx, h3, bytes_ext e1, bytes_ext e3]
  rfl
theorem rT_le (l : List UInt8) : (rT l).1.length ≤ l.length ∧ (rT l).2.length ≤ l.length := by
  cases l with
  | nil => exact ⟨Nat.le_refl _, Nat.le_refl _⟩
  | cons c t => simp only [rT, List.length_take, List.length_drop, List.length_cons]; omega
/-- A label in block r. -/
def LbAt (w : World) (r : Nat) (a b : ByteArray) : Prop := w.heap[r]? = some (.cells #[.string a, .string b] 42 (0, 0))
theorem LbAt.cells {w : World} {r : Nat} {a b : ByteArray} (h : LbAt w r a b) : w.cell? ⟨r, 0, none⟩ = some (.string a) ∧ w.cell? ⟨r, 1, none⟩ = some (.string b) ∧ w.frozen? ⟨r, 0, none⟩ = false ∧ w.frozen? ⟨r, 1, none⟩ = false := by
  unfold LbAt at h
  simp [World.cell?, World.frozen?, h]
theorem LbAt.fst {w : World} {r : Nat} {a b : ByteArray} (h : LbAt w r a b) (s : ByteArray) : LbAt (w.setCell ⟨r, 0, none⟩ (.string s)) r s b := set_at h 0 _
theorem LbAt.snd {w : World} {r : Nat} {a b : ByteArray} (h : LbAt w r a b) (s : ByteArray) : LbAt (w.setCell ⟨r, 1, none⟩ (.string s)) r a s := set_at h 1 _
set_option maxHeartbeats 16000000 in
set_option maxRecDepth 20000 in
theorem rSplit_any (w : World) (key : ByteArray) (hk : key.size ≤ 140737488355328) : Calls Try.prog 15 #[.string key] w (SplitAns w key) := by
  obtain ⟨i0, hi0, hz0, hz1, hz2⟩ := infoL2
  go_enter Try.func15, Try.ntmps15
  go_wp2_with fail
  refine (rtake_any w key hk).mono ?_
  rintro e w1 ⟨name, rest1, rfl, e1, e2, b1⟩
  have B1 := Lib.hid b1
  have E1 := Lib.hid e1
  have E2 := Lib.hid e2
  have hnz : name.size ≤ key.size := by have := (rT_le key.data.toList).1; rw [← e1, list_size, list_size] at this; exact this
  have hr1 : rest1.size ≤ key.size := by have := (rT_le key.data.toList).2; rw [← e2, list_size, list_size] at this; exact this
  have KEY := Lib.hid (show ∀ n s, IsKey key n s → name = n ∧ rest1.data.toList = UInt8.ofNat s.length :: encS s from fun n s k => by
    rw [k.enc] at e1 e2
    unfold encL at e1 e2
    rw [rT_tx n k.sizes.1] at e1 e2
    exact ⟨bytes_ext e1, e2⟩)
  clear b1 e1 e2
  by_cases hz : rest1.size = 0
  · have t1 : rest1.toList.isEmpty = true := by rw [empty_iff]; exact decide_eq_true hz
    have HNO := Lib.hid (show ∀ n s, ¬ IsKey key n s from fun n s k => by
      have h := (KEY.out n s k).2
      have := congrArg List.length h
      rw [list_size, hz] at this
      simp at this)
    clear hz
    go_wp2
    go_ret3
    exact .inr ⟨HNO.out, rfl, B1.out⟩
  have t1 : rest1.toList.isEmpty = false := by rw [empty_iff]; exact decide_eq_false hz
  have hp : 0 < rest1.size := by omega
  have hp1 : (1 : Int) ≤ rest1.size := by omega
  have hb := byte_at rest1 0 hp
  obtain ⟨c, hc⟩ : ∃ c, c = rest1[0]'hp := ⟨_, rfl⟩
  have ec : (((rest1[0]'hp).toNat : Nat) : Int) = (c.toNat : Int) := by rw [hc]
  have hc256 := c.toNat_lt
  obtain ⟨m, hm⟩ : ∃ m, m = c.toNat := ⟨_, rfl⟩
  rw [← hm] at ec hc256
  have ew : wrap64 (m : Int) = (m : Int) := by unfold wrap64; omega
  have hex := Lib.extract_to_end rest1 1
  obtain ⟨rest2, hr2⟩ : ∃ rest2, rest2 = rest1.extract 1 rest1.size := ⟨_, rfl⟩
  rw [← hr2] at hex
  have hl1 : rest1.data.toList = c :: rest2.data.toList := by
    rw [hex]
    cases hl : rest1.data.toList with
    | nil => rw [hl] at hb; cases hb
    | cons d t => rw [hl] at hb; simp at hb; rw [hb, ← hc]; rfl
  have RW := Lib.hid (show RWay key name m 0 [] rest2 from fun n s k => by
    obtain ⟨h1, h2⟩ := KEY.out n s k
    rw [hl1] at h2
    injection h2 with h2 h3
    have := k.sizes.2.1
    exact ⟨h1, by rw [hm, h2, UInt8.toNat_ofNat']; omega, rfl, h3⟩)
  have hr2s : rest2.size ≤ key.size := by
    have := congrArg List.length hl1
    rw [List.length_cons, list_size, list_size] at this
    omega
  have HR2 := Lib.hid hr2.symm
  have HM := Lib.hid hc256
  have HNZ := Lib.hid hnz
  have HRS2 := Lib.hid hr2s
  obtain ⟨B, hB⟩ : ∃ B, B = w.heap.size := ⟨_, rfl⟩
  have HB := Lib.hid hB
  clear hb hc hm hex hl1 hr2 hc256 hz hr1 hr2s hnz hB
  go_wp2_with fail
  rw [HR2.out, ew]
  go_loopw [6, 8, 9] (fun u v x wr => ∃ (i : Nat) (acc : LL) (rest : ByteArray), u = .string rest ∧ x = .int .i64 i ∧ i ≤ m ∧ i ≤ 17 ∧ acc.length = i ∧ wr.ownsRow B 42 2 v acc.length (flat acc) ∧ rest.size ≤ key.size ∧ Szs acc ∧ RWay key name m i acc rest ∧ Below B w wr) (fun _ _ x _ => 17 - (intOf x).toNat)
  case atStart => exact ⟨0, [], rest2, rfl, rfl, Nat.zero_le _, by omega, rfl, ⟨rfl, .inl ⟨rfl, rfl⟩⟩, HRS2.out, (fun x hx => (by cases hx)), RW.out, by rw [HB.out]; exact B1.out⟩
  case round =>
    obtain ⟨i, acc, rest, rfl, rfl, him, hi17, hal, own, hrs, szs, rway, bb⟩ := hrel
    have OWN := Lib.hid own
    have HRS := Lib.hid hrs
    have SZS := Lib.hid szs
    have RWY := Lib.hid rway
    have BB := Lib.hid bb
    have HAL := Lib.hid hal
    have hBw : B ≤ wr.heap.size := by rw [HB.out]; exact bb.size
    obtain ⟨G, row, hG⟩ := Row.ofOwns own
    obtain ⟨av, cp, rfl, _⟩ := row.form
    rw [hal] at row OWN ⊢
    have ROW := Lib.hid row
    have HG := Lib.hid hG
    clear own hrs szs rway bb hal row hG
    by_cases hlt : i < m ∧ i < 17
    · obtain ⟨hl1, hl2⟩ := hlt
      have q1 : (i : Int) < m := by omega
      have q2 : (i : Int) < 17 := by omega
      have HLT := Lib.hid (And.intro hl1 hl2)
      clear hl1 hl2
      go_wp2_with fail
      obtain ⟨X, hX⟩ : ∃ X, X = wr.heap.size := ⟨_, rfl⟩
      obtain ⟨W, hW⟩ : ∃ W, W = wr.alloc (.cells #[.string ⟨#[]⟩, .string ⟨#[]⟩] 42) := ⟨_, rfl⟩
      have BW := Lib.hid (show Below X wr W by rw [hW, hX]; exact (Below.refl _ _).alloc (Nat.le_refl _) _)
      have HX := Lib.hid (show LbAt W X ⟨#[]⟩ ⟨#[]⟩ by rw [hW, hX]; exact heap_alloc_new wr _)
      have HXS := Lib.hid hX
      rw [← hW, ← hX]
      clear hW hX
      refine (rtake_any W rest (by have := HRS.out; omega)).mono ?_
      rintro e w1 ⟨a1, r1, rfl, e1, e2, b1⟩
      have hsa1 : a1.size ≤ key.size := by have := (rT_le rest.data.toList).1; rw [← e1, list_size, list_size] at this; exact Nat.le_trans this HRS.out
      have hsr1 : r1.size ≤ key.size := by have := (rT_le rest.data.toList).2; rw [← e2, list_size, list_size] at this; exact Nat.le_trans this HRS.out
      have E1 := Lib.hid (And.intro e1 e2)
      have hXW := heap_lt HX.out
      have L1 := Lib.hid (show LbAt w1 X ⟨#[]⟩ ⟨#[]⟩ from (b1.block X hXW).trans HX.out)
      have B1' := Lib.hid (BW.out.trans (b1.mono (Nat.le_of_lt hXW)))
      clear e1 e2 b1 hXW HX BW
      obtain ⟨c0, c1, f0, f1⟩ := L1.out.cells
      go_wp2_with fail
      clear c0 c1 f0 f1
      obtain ⟨w2, hw2⟩ : ∃ w2, w2 = w1.setCell ⟨X, 0, none⟩ (.string a1) := ⟨_, rfl⟩
      have L2 := Lib.hid (show LbAt w2 X a1 ⟨#[]⟩ by rw [hw2]; exact L1.out.fst a1)
      have B2 := Lib.hid (show Below X wr w2 by rw [hw2]; exact Below.setCell B1'.out (show X ≤ (Addr.block ⟨X, 0, none⟩) from Nat.le_refl X) _)
      rw [← hw2]
      clear hw2 L1 B1'
      refine (rtake_any w2 r1 (by omega)).mono ?_
      rintro e w3 ⟨a2, r2, rfl, e1, e2, b1⟩
      have hsa2 : a2.size ≤ key.size := by have := (rT_le r1.data.toList).1; rw [← e1, list_size, list_size] at this; exact Nat.le_trans this hsr1
      have hsr2 : r2.size ≤ key.size := by have := (rT_le r1.data.toList).2; rw [← e2, list_size, list_size] at this; exact Nat.le_trans this hsr1
      have RW3 := Lib.hid (show RWay key name m (i + 1) (acc ++ [(a1, a2)]) r2 from RWY.out.step HLT.out.1 E1.out.1 E1.out.2 e1 e2)
      have SZ3 := Lib.hid (show Szs (acc ++ [(a1, a2)]) from fun x hx => by
          rcases List.mem_append.1 hx with hx | hx
          · exact SZS.out x hx
          · simp at hx
            subst hx
            exact ⟨(by show a1.size ≤ _; omega), (by show a2.size ≤ _; omega)⟩)
      have HR2' := Lib.hid hsr2
      have hXW := heap_lt L2.out
      have L3 := Lib.hid (show LbAt w3 X a1 ⟨#[]⟩ from (b1.block X hXW).trans L2.out)
      have B3 := Lib.hid (B2.out.trans (b1.mono (Nat.le_of_lt hXW)))
      clear e1 e2 b1 hXW L2 B2 E1 hsa1 hsa2 hsr1 hsr2
      obtain ⟨c0, c1, f0, f1⟩ := L3.out.cells
      obtain ⟨w4, hw4⟩ : ∃ w4, w4 = w3.setCell ⟨X, 1, none⟩ (.string a2) := ⟨_, rfl⟩
      have hs4 : w4.heap.size = w3.heap.size := by rw [hw4]; simp [World.setCell]
      have L4 := Lib.hid (show LbAt w4 X a1 a2 by rw [hw4]; exact L3.out.snd a2)
      have B4 := Lib.hid (show Below X wr w4 by rw [hw4]; exact Below.setCell B3.out (show X ≤ (Addr.block ⟨X, 1, none⟩) from Nat.le_refl X) _)
      have OW4 := Lib.hid (owns_same OWN.out fun g h1 h2 => B4.out.block g (by rw [HXS.out]; exact h2))
      have OW5 := Lib.hid (OW4.out.alloc (.cells #[.string a1, .string a2] 42))
      have A2 : ∀ ad, (some ⟨w4.heap.size, 0, none⟩ : Option Addr) = some ad → ∀ j u, [Value.string a1, .string a2][j]? = some u → (w4.alloc (.cells #[.string a1, .string a2] 42)).cell? (ad.add j) = some u := fun ad e j y hy => by cases e; exact two_new _ _ _ _ j y hy
      have A3 : ∀ u ∈ [Value.string a1, .string a2], u.oneCell' = true := fun u hu => by simp at hu; rcases hu with rfl | rfl <;> rfl
      have A4 : i + 1 ≤ maxLen := by unfold maxLen; omega
      have A5 : (i + 1) * 32 ≤ 140737488355328 := by omega
      have hX4 := heap_lt L4.out
      have A6 : B ≤ (w4.alloc (.cells #[.string a1, .string a2] 42)).heap.size := by simp; have := HXS.out; omega
      rw [hs4] at A2
      rw [hw4] at A2 A6 OW5
      go_wp2_with (at_builtin; refine append_any _ rfl _ _ 28 rfl B 42 i0 (.agg #[.string ⟨#[]⟩, .string ⟨#[]⟩]) 2 32 Try.underlying28 hi0 hz0 hz1 hz2 rfl (by decide) _ i (flat acc) rfl OW5.out (some ⟨w3.heap.size, 0, none⟩) 1 1 [.string a1, .string a2] rfl (fun e => nomatch e) rfl A2 A3 A4 A5 A6 ?_)
      intro v5 w5 o5 b5
      rw [← hw4] at b5
      have B5 := Lib.hid (show Below B w w5 from BB.out.trans (((B4.out.mono (by rw [HXS.out]; exact hBw)).alloc (by have := HXS.out; omega) _).trans (b5.mono (Nat.le_refl _))))
      have O5 := Lib.hid (show w5.ownsRow B 42 2 v5 (acc ++ [(a1, a2)]).length (flat (acc ++ [(a1, a2)])) by
        rw [List.length_append, flat_append, HAL.out]; exact o5)
      have hln : (acc ++ [(a1, a2)]).length = i + 1 := by rw [List.length_append, HAL.out]; rfl
      clear A2 A3 A4 A5 A6 o5 b5 OW5 hw4 hs4 OW4 L4 B4 c0 c1 f0 f1 L3 B3
      go_wp2
      go_roundw
      case rel => exact ⟨i + 1, _, r2, rfl, by go_num, HLT.out.1, by have := HLT.out; omega, hln, O5.out, HR2'.out, SZ3.out, RW3.out, B5.out⟩
      case measure => simp [intOf]; have := HLT.out; omega
    · have HGE := Lib.hid (show ∀ n s, IsKey key n s → name = n ∧ acc = s from fun n s k => by
        obtain ⟨h1, h2, h3, _⟩ := RWY.out n s k
        have h4 := k.sizes.2.1
        refine ⟨h1, ?_⟩
        rw [h3, List.take_of_length_le]
        omega)
      clear RWY
      have LR := Lib.hid (LRow.ofRow (l := acc) (by rw [HAL.out]; exact ROW.out))
      have KK := Lib.hid (rKey_any wr (.slice av i cp) acc name LR.out (by rw [HAL.out]; omega) SZS.out (by have := HNZ.out; omega))
      have HAL' := HAL.out
      by_cases him2 : i < m
      case' pos =>
        obtain rfl : i = 17 := by omega
        have q1 : ((17 : Nat) : Int) < m := by omega
      case' neg =>
        obtain rfl : i = m := by omega
      all_goals
        clear hlt him2 HAL'
        go_wp2_with fail
        refine KK.out.mono ?_
        rintro e w3 ⟨rfl, b3⟩
        have B3 := Lib.hid (BB.out.trans (b3.mono hBw))
        have R3 := Lib.hid (ROW.out.same (Same.own b3 ROW.out.own))
        have R4 := Lib.hid (show Row 42 2 w3 (.slice av acc.length cp) acc.length (flat acc) G by rw [HAL.out]; exact R3.out)
        clear b3 KK
        by_cases hkey : keyL name acc = (key, 0)
        · obtain ⟨s, hs, ik⟩ := IsKey.of hkey
          have e1 := (HGE.out name s ik).2
          subst e1
          have IK := Lib.hid ik
          rw [hkey]
          have t2 : (key.toList == key.toList) = true := by simp
          clear hkey hs ik
          go_wp2
          go_ret3
          exact .inl ⟨name, _, .slice av acc.length cp, G, IK.out, by rw [HAL.out]; rfl, R4.out, fun g h => (by rw [← HB.out]; exact HG.out g h), by rw [← HB.out]; exact B3.out⟩
        · have HNO := Lib.hid (show ∀ n s, ¬ IsKey key n s from fun n s ik => by
            obtain ⟨h1, h2⟩ := HGE.out n s ik
            subst h1
            subst h2
            exact hkey ik.key)
          obtain ⟨⟨z1, z2⟩, hz⟩ : ∃ z, z = keyL name acc := ⟨_, rfl⟩
          rw [← hz] at hkey ⊢
          clear hz
          by_cases h0 : z2 = 0
          · subst h0
            have t2 : (z1.toList == key.toList) = false := by
              rw [eq_lt]
              exact decide_eq_false fun e => hkey (by rw [e])
            clear hkey
            go_wp2
            go_ret3
            exact .inr ⟨HNO.out, rfl, by rw [← HB.out]; exact B3.out⟩
          · have t2 : (z2 != 0) = true := by rw [bne_iff_ne]; exact h0
            clear hkey h0
            go_wp2
            go_ret3
            exact .inr ⟨HNO.out, rfl, by rw [← HB.out]; exact B3.out⟩
theorem rMetric_any (w : World) (key : ByteArray) (hk : key.size ≤ 140737488355328) :
    Calls Try.prog 20 #[.string key] w fun e w' => ((∃ n s, IsKey key n s ∧ e = .returned (.string n)) ∨ ((∀ n s, ¬ IsKey key n s) ∧ e = .returned (.string ⟨#[]⟩))) ∧ Below w.heap.size w w' := by
  go_enter Try.func20, Try.ntmps20
  go_wp2_with fail
  refine (rSplit_any w key hk).mono ?_
  rintro e w1 (⟨n, s, v, G, ik, rfl, row, hG, b1⟩ | ⟨hno, rfl, b1⟩)
  · have B1 := Lib.hid b1
    have IK := Lib.hid ik
    clear ik row hG b1
    go_wp2
    go_ret
    exact ⟨.inl ⟨n, s, IK.out, rfl⟩, B1.out⟩
  · have B1 := Lib.hid b1
    have HNO := Lib.hid hno
    clear hno b1
    go_wp2
    go_ret
    exact ⟨.inr ⟨HNO.out, rfl⟩, B1.out⟩
end Go.Proofs.Ytlmnniajindlgaa.HLab
