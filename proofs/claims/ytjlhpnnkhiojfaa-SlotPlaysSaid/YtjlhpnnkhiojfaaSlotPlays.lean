/- The walk of SlotPlays. -/
import Derived.Test.YtjlhpnnkhiojfaaSlotJoint
import Derived.Test.YtjlhpnnkhiojfaaSlotDeed
import Derived.Deep.QuietTactic
import Derived.BigQuiet
namespace Go.Proofs.Ytjlhpnnkhiojfaa.HSlot
set_option linter.unusedVariables false
open Go.RowKit Go.Proofs.Ytjlhpnnkhiojfaa.Print Go.Proofs.Ytjlhpnnkhiojfaa.HSip Go.Proofs.YtjlhpnnkhiojfaaW.PrintWords Go.Proofs.YtjlhpnnkhiojfaaW.PrintLast Go.Proofs.YtjlhpnnkhiojfaaW.PrintMore

/-- A row of deeds: nothing, or so many cells of memory. -/
def DRow (w : World) (v : Value) (n : Nat) (D : Nat → Dd) : Prop :=
  (v = .slice none 0 0 ∧ n = 0) ∨ ∃ a c, v = .slice (some a) n c ∧ (0 < n → a.block < w.heap.size) ∧ ∀ i, i < n → ∀ j u, [Value.int .u8 (D i).kind, .int .u16 (D i).k, .string (D i).s, .bool (D i).raw][j]? = some u → w.cell? ((a.add (i * 4)).add j) = some u
def Dd.ok (d : Dd) : Prop := (0 ≤ d.kind ∧ d.kind < 256) ∧ (0 ≤ d.k ∧ d.k < 65536) ∧ d.s.size ≤ 140737488351232
theorem Dd.key_size {d : Dd} (h : d.ok) (many : Int) : (d.key many).size ≤ 140737488355328 := by
  unfold Dd.key
  split
  · have := h.2.2; omega
  · rw [strOfNums_size]; simp
theorem own_below {w w' : World} {B : Nat} {e : TypeId} {sz : Nat} {v : Value} {n : Nat} {xs : List Value} (h : w.ownsRow B e sz v n xs) (hb : Below w.heap.size w w') : w'.ownsRow B e sz v n xs := by
  refine ⟨h.1, ?_⟩
  rcases h.2 with h | ⟨g, cap, cur, h1, h2, h3, h4⟩
  · exact .inl h
  · exact .inr ⟨g, cap, cur, h1, h2, by rw [hb.block g (lt_heap h3)]; exact h3, h4⟩
theorem RAt.drew {w : World} {x g r : Nat} {K : Nat → ByteArray} (h : RAt w x g r K) : RAt w.drew x g r K := ⟨h.hd, h.row, h.ne⟩
theorem own_form {w : World} {B : Nat} {e : TypeId} {sz : Nat} {v : Value} {n : Nat} {xs : List Value} (h : w.ownsRow B e sz v n xs) : ∃ a c, v = .slice a n c := by
  rcases h.2 with ⟨h, h0⟩ | ⟨g, cap, cur, h1, _⟩
  · exact ⟨_, _, by rw [h, h0]⟩
  · exact ⟨_, _, h1⟩
theorem own_cell {w : World} {B : Nat} {a : Option Addr} {c n : Nat} {e : TypeId} {xs : List Value} (h : w.ownsRow B e 1 (.slice a n c) n xs) (i : Nat) (hi : i < n) : ∃ g, a = some ⟨g, 0, none⟩ ∧ ∀ u, xs[i]? = some u → w.cell? ⟨g, i, none⟩ = some u := by
  rcases h.2 with ⟨h', h0⟩ | ⟨g, cap, cur, h1, _⟩
  · omega
  · cases h1
    refine ⟨g, rfl, fun u hu => ?_⟩
    rw [h.cellAt i (by omega)]; exact hu
structure EndC (W : World) (b g r : Nat) (K : Nat → ByteArray) (B8 B9 gp gq m pc qc j s : Nat) (w' : World) : Prop where
  p : w'.cell? ⟨gp, j, none⟩ = some (.int .i64 s)
  q : w'.cell? ⟨gq, j, none⟩ = some (.int .i64 s)
  rest : SK w' b r K ∧ RAt w' (g + 1) g r K ∧ Below W.heap.size W w' ∧ w'.ownsRow B8 3 1 (.slice (some ⟨gp, 0, none⟩) m pc) m ((sl K r).map (Value.int .i64)) ∧ w'.ownsRow B9 3 1 (.slice (some ⟨gq, 0, none⟩) m qc) m ((sl K r).map (Value.int .i64))
theorem EndC.drew {W : World} {b g r : Nat} {K : Nat → ByteArray} {B8 B9 gp gq m pc qc j s : Nat} {w' : World} (h : EndC W b g r K B8 B9 gp gq m pc qc j s w') : EndC W b g r K B8 B9 gp gq m pc qc j s w'.drew :=
  ⟨h.p, h.q, h.rest.1.drew, RAt.drew h.rest.2.1, h.rest.2.2.1.drew, h.rest.2.2.2.1, h.rest.2.2.2.2⟩
theorem keyK_yes {K : Nat → ByteArray} {r s : Nat} (hs : s < r) (hk : K s ≠ E0) : keyK K r s = (K s, true) := by
  unfold keyK
  rw [Int.toNat_natCast, if_pos ⟨by omega, by omega, hk⟩]
theorem keyK_neg (K : Nat → ByteArray) (r : Nat) : keyK K r (-1) = (E0, false) := by
  unfold keyK; rw [if_neg (by omega)]
theorem keyK_over (K : Nat → ByteArray) (r : Nat) : keyK K r r = (E0, false) := by
  unfold keyK; rw [if_neg (by omega)]
set_option maxRecDepth 20000 in
set_option maxHeartbeats 4000000 in
theorem SlotPlays_any (room : Int) (near : Bool) (many : Int) (v : Value) (n : Nat) (D : Nat → Dd) (hroom : -9223372036854775808 ≤ room ∧ room ≤ 9223372036854775807) (hm : 0 ≤ many ∧ many < 65536) (hn : n ≤ 9223372036854775807) (w : World) (hd : DRow w v n D) (hok : ∀ i, i < n → (D i).ok) :
    Calls Try.prog 5 #[.int .i64 room, .bool near, .int .u16 many, v] w fun e w' => e = .returned (.bool true) ∧ Below w.heap.size w w' := by
  have HD := Lib.hid hd
  have HO := Lib.hid hok
  have HV : ∃ a c, v = .slice a n c := by
    rcases hd with ⟨h, h0⟩ | ⟨a, c, h, _⟩
    · exact ⟨_, _, by rw [h, h0]⟩
    · exact ⟨_, _, h⟩
  obtain ⟨av, cv, rfl⟩ := HV
  have HQ := Lib.hid hn
  clear hd hok hn
  go_enter Try.func5, Try.ntmps5
  go_wp2_with fail
  refine (examples_any _).mono ?_
  rintro e w0 ⟨rfl, b0⟩
  have B0 := Lib.hid b0
  clear b0
  cases near
  rotate_left
  go_wp2_with fail
  obtain ⟨ρ, hρ⟩ : ∃ ρ, ρ = wrap64 (1 + wrap64 ((IntKind.u64.wrap room).tmod 256)) := ⟨_, rfl⟩
  have hr : 1 ≤ ρ ∧ ρ ≤ 256 := by
    have h1 : 0 ≤ IntKind.u64.wrap room := by
      unfold IntKind.wrap; simp [IntKind.signed, IntKind.bits]; omega
    have h2 := Int.emod_nonneg (IntKind.u64.wrap room) (show (256 : Int) ≠ 0 by decide)
    have h3 := Int.emod_lt_of_pos (IntKind.u64.wrap room) (show (0 : Int) < 256 by decide)
    rw [Int.tmod_eq_emod_of_nonneg h1] at hρ
    obtain ⟨q, hq⟩ : ∃ q, q = IntKind.u64.wrap room % 256 := ⟨_, rfl⟩
    rw [← hq] at h2 h3 hρ
    rw [hρ]
    unfold wrap64
    omega
  rw [← hρ]
  obtain ⟨r, rfl⟩ : ∃ r : Nat, ρ = r := ⟨ρ.toNat, by omega⟩
  have HR := Lib.hid (show 1 ≤ r ∧ r ≤ 256 by omega)
  clear hr hroom hρ
  rotate_left
  by_cases hr : 1 ≤ room ∧ room ≤ 256
  rotate_left
  · go_wp2_with fail
    refine (New_no _ _ (by omega)).mono ?_
    rintro e w1 ⟨rfl, rfl⟩
    go_wp2_with fail
    refine (rnew_no _ _ (by omega)).mono ?_
    rintro e w1 ⟨rfl, rfl⟩
    clear hr
    go_wp2
    go_ret
    exact ⟨rfl, B0.out⟩
  rotate_left
  obtain ⟨r, rfl⟩ : ∃ r : Nat, room = r := ⟨room.toNat, by omega⟩
  have HR := Lib.hid (show 1 ≤ r ∧ r ≤ 256 by omega)
  clear hr hroom
  go_wp2_with fail
  all_goals
    refine (u_new _ r (by have := HR.out; omega)).mono ?_
    rintro e w1 ⟨rfl, s1, b1⟩
    obtain ⟨b, hb⟩ : ∃ b, b = w0.heap.size := ⟨_, rfl⟩
    rw [← hb] at s1 b1 ⊢
    have S1 := Lib.hid s1
    have HB := Lib.hid (show w.heap.size ≤ b by rw [hb]; exact B0.out.size)
    have B1 := Lib.hid (B0.out.trans (b1.mono (by rw [hb]; exact B0.out.size)))
    clear s1 b1 hb
    go_wp2_with fail
    refine (rnew_yes _ r HR.out).mono ?_
    rintro e w2 ⟨rfl, x1, b2⟩
    obtain ⟨g, hg⟩ : ∃ g, g = w1.heap.size := ⟨_, rfl⟩
    rw [← hg] at x1 b2 ⊢
    have X2 := Lib.hid x1
    have HG := Lib.hid (show b < g by rw [hg]; exact S1.out.lt)
    have S2 := Lib.hid (S1.out.mono (by rw [← hg]; exact b2))
    have B2 := Lib.hid (B1.out.trans (b2.mono (by rw [hg]; exact B1.out.size)))
    clear x1 b2 hg S1 B1
    go_wp2_with fail
    go_loopw [13] (fun i wr => ∃ (k : Nat) (K : Nat → ByteArray), k ≤ n ∧ k ≤ 300 ∧ i = .int .i64 k ∧ SK wr b r K ∧ RAt wr (g + 1) g r K ∧ Below w.heap.size w wr) (fun i _ => 300 - (intOf i).toNat)
    case atStart => exact ⟨0, _, by omega, by omega, rfl, S2.out, X2.out, B2.out⟩
    case round =>
      obtain ⟨k, K, hk, hk3, rfl, sk, xk, bk⟩ := hrel
      have SK1 := Lib.hid sk
      have XK1 := Lib.hid xk
      have BK1 := Lib.hid bk
      clear sk xk bk
      by_cases hlt : k < n ∧ k < 300
      · have hk1 : (k : Int) < n := by omega
        have hk2 : (k : Int) < 300 := by omega
        obtain ⟨a, rfl, hcell⟩ : ∃ a, av = some a ∧ ∀ j u, [Value.int .u8 (D k).kind, .int .u16 (D k).k, .string (D k).s, .bool (D k).raw][j]? = some u → wr.cell? ((a.add (k * 4)).add j) = some u := by
          rcases HD.out with ⟨h, h0⟩ | ⟨a, c, h, hl, hc⟩
          · omega
          · cases h
            refine ⟨a, rfl, fun j u hu => ?_⟩
            rw [BK1.out.cell (by simpa [Addr.add] using (show ((a.add (k * 4)).add j).block < w.heap.size by unfold Addr.add; split <;> split <;> exact hl (by omega)))]
            exact hc k hlt.1 j u hu
        have hdk := HO.out k hlt.1
        obtain ⟨d, hd⟩ : ∃ d, d = D k := ⟨_, rfl⟩
        rw [← hd] at hcell hdk
        have c0 : wr.cell? (a.add (k * 4)) = some (.int .u8 d.kind) := hcell 0 _ rfl
        have c1 : wr.cell? { block := (a.add (k * 4)).block, off := (a.add (k * 4)).off + 1 } = some (.int .u16 d.k) := hcell 1 _ rfl
        have c2 : wr.cell? { block := (a.add (k * 4)).block, off := (a.add (k * 4)).off + 2 } = some (.string d.s) := hcell 2 _ rfl
        have c3 : wr.cell? { block := (a.add (k * 4)).block, off := (a.add (k * 4)).off + 3 } = some (.bool d.raw) := hcell 3 _ rfl
        have DK := Lib.hid hdk
        clear hd hcell hdk hlt
        go_wp2_with fail
        refine (dkey_any d many hm DK.out.2.1 wr).mono ?_
        rintro e w3 ⟨rfl, b3⟩
        have SK2 := Lib.hid (SK1.out.mono b3)
        have XK2 := Lib.hid (XK1.out.mono b3)
        have BK2 := Lib.hid (BK1.out.trans (b3.mono BK1.out.size))
        have c4 : w3.cell? (a.add (k * 4)) = some (.int .u8 d.kind) := by rw [b3.cell (World.block_lt_of_cell? _ _ c0)]; exact c0
        obtain ⟨key, hkey⟩ : ∃ key, key = d.key many := ⟨_, rfl⟩
        have HK := Lib.hid (show key.size ≤ 140737488355328 by rw [hkey]; exact Dd.key_size DK.out many)
        rw [← hkey]
        clear c0 c1 c2 c3 b3 hkey
        obtain ⟨c, hc⟩ : ∃ c, c = d.kind % 7 := ⟨_, rfl⟩
        have tm : d.kind.tmod 7 = c := by rw [hc]; exact Int.tmod_eq_emod_of_nonneg DK.out.1.1
        have h7 : 0 ≤ c ∧ c < 7 := by omega
        clear hc
        have hbg : b ≠ g + 1 ∧ b ≠ g := by have := HG.out; omega
        have HBG := Lib.hid hbg
        have HW := Lib.hid (show w.heap.size ≤ g by have := HG.out; have := HB.out; omega)
        clear hbg
        by_cases h45 : c = 4 ∨ c = 5
        · rcases h45 with rfl | rfl
          all_goals
            clear h7
            go_wp2_with fail
            refine (t_drop SK2.out HK.out).mono ?_
            rintro e w4 ⟨rfl, s4, u4'⟩
            have S4 := Lib.hid s4
            have X4 := Lib.hid (XK2.out.upd u4' HBG.out.1 HBG.out.2)
            have B4 := Lib.hid (u4'.bel BK2.out HB.out SK2.out.lt)
            clear s4 u4'
            go_wp2_with fail
            refine (x_drop X4.out HR.out).mono ?_
            rintro e w5 ⟨rfl, x5, u5'⟩
            have X5 := Lib.hid x5
            have S5 := Lib.hid (S4.out.upd u5' (Ne.symm HBG.out.2))
            have B5 := Lib.hid (u5'.bel B4.out HW.out X4.out.lt.2)
            clear x5 u5'
            obtain ⟨q, hq⟩ : ∃ q, q = dropR K r key := ⟨_, rfl⟩
            rw [← hq] at S5 X5 ⊢
            obtain ⟨q1, q2⟩ := q
            clear hq
            go_wp2
            go_roundw
            case rel => exact ⟨k + 1, q2, by omega, by omega, by go_num, S5.out, X5.out, B5.out⟩
            case measure => simp [intOf]; omega
        · by_cases h6 : c = 6
          · subst h6
            clear h7 h45
            go_wp2_with fail
            refine (t_find SK2.out HK.out).mono ?_
            rintro e w4 ⟨rfl, b4⟩
            have S4 := Lib.hid (SK2.out.mono b4)
            have X4 := Lib.hid (XK2.out.mono b4)
            have B4 := Lib.hid (BK2.out.trans (b4.mono BK2.out.size))
            clear b4
            obtain ⟨f1, f2, hf⟩ : ∃ (f1 : Int) (f2 : Bool), rfV (rf K key r 0) = .tuple #[.int .i64 f1, .bool f2] := by
              cases rf K key r 0 with
              | some i => exact ⟨_, _, rfl⟩
              | none => exact ⟨_, _, rfl⟩
            rw [hf]
            go_wp2_with fail
            refine (rfind_any w4 (g + 1) g r K key X4.out HR.out).mono ?_
            rintro e w5 ⟨rfl, b5⟩
            have S5 := Lib.hid (S4.out.mono b5)
            have X5 := Lib.hid (X4.out.mono b5)
            have B5 := Lib.hid (B4.out.trans (b5.mono B4.out.size))
            rw [hf]
            clear b5 hf
            go_wp2
            go_roundw
            case rel => exact ⟨k + 1, K, by omega, by omega, by go_num, S5.out, X5.out, B5.out⟩
            case measure => simp [intOf]; omega
          · have n4 : (c == 4) = false := by rw [beq_eq_false_iff_ne]; omega
            have n5 : (c == 5) = false := by rw [beq_eq_false_iff_ne]; omega
            have n6 : (c == 6) = false := by rw [beq_eq_false_iff_ne]; omega
            clear h7 h45 h6
            go_wp2_with fail
            refine (t_add SK2.out HK.out).mono ?_
            rintro e w4 ⟨rfl, s4, u4'⟩
            have S4 := Lib.hid s4
            have X4 := Lib.hid (XK2.out.upd u4' HBG.out.1 HBG.out.2)
            have B4 := Lib.hid (u4'.bel BK2.out HB.out SK2.out.lt)
            have hq6 := addR_b K r key
            clear s4 u4'
            obtain ⟨q, hq⟩ : ∃ q, q = addR K r key := ⟨_, rfl⟩
            rw [← hq] at S4 hq6 ⊢
            have HQ2 := Lib.hid hq
            obtain ⟨q1, q2, q3⟩ := q
            simp only at hq6
            have w6 : wrap64 q2 = q2 := by unfold wrap64; omega
            clear hq
            go_wp2_with fail
            refine (x_add X4.out HR.out HK.out).mono ?_
            rintro e w5 ⟨rfl, x5, u5'⟩
            rw [← HQ2.out] at x5 ⊢
            have X5 := Lib.hid x5
            have S5 := Lib.hid (S4.out.upd u5' (Ne.symm HBG.out.2))
            have B5 := Lib.hid (u5'.bel B4.out HW.out X4.out.lt.2)
            clear x5 u5'
            go_wp2
            go_roundw
            case rel => exact ⟨k + 1, q3, by omega, by omega, by go_num, S5.out, X5.out, B5.out⟩
            case measure => simp [intOf]; omega
      · have hcase : (k : Int) < n ∧ ¬ (k : Int) < 300 ∨ ¬ (k : Int) < n := by omega
        clear hlt
        rcases hcase with ⟨hk1, hk2⟩ | hk1
        all_goals
          go_wp2_with fail
          obtain ⟨B8, hB8⟩ : ∃ B8, B8 = wr.heap.size := ⟨_, rfl⟩
          have SL := u_slots SK1.out
          have SL2 := SL.mono fun e w' h => (show (∃ v, e = Ending.returned v ∧ (w'.ownsRow B8 3 1 v (sl K (r : Int).toNat).length ((sl K (r : Int).toNat).map (Value.int .i64)) ∧ Below wr.heap.size wr w')) by rw [hB8]; exact h)
          refine SL2.mono ?_
          rintro e w3 ⟨v3, rfl, o3, b3⟩
          rw [Int.toNat_natCast] at o3
          obtain ⟨pa, pc, rfl⟩ := own_form o3
          have O3 := Lib.hid o3
          have S3 := Lib.hid (SK1.out.mono b3)
          have X3 := Lib.hid (XK1.out.mono b3)
          have B3 := Lib.hid (BK1.out.trans (b3.mono BK1.out.size))
          clear o3 b3 SL SL2 hB8
          go_wp2_with fail
          refine (rslots_any w3 (g + 1) g r K X3.out HR.out).mono ?_
          rintro e w4 ⟨v4, rfl, o4, b4⟩
          obtain ⟨qa, qc, rfl⟩ := own_form o4
          have OP := Lib.hid (own_below O3.out b4)
          have OQ := Lib.hid o4
          have S4 := Lib.hid (S3.out.mono b4)
          have X4 := Lib.hid (X3.out.mono b4)
          have B4 := Lib.hid (B3.out.trans (b4.mono B3.out.size))
          clear o4 b4 O3 S3 X3
          have hlen := sl_len K r
          obtain ⟨m, hm'⟩ : ∃ m, m = (sl K r).length := ⟨_, rfl⟩
          have LM := S4.out.cn_is
          rw [← hm'] at OP OQ LM hlen ⊢
          have HM := Lib.hid hm'
          have HL := Lib.hid hlen
          have HLM := Lib.hid LM
          clear hlen hm' LM
          go_wp2_with fail
          have LL := u_len S4.out
          rw [HLM.out] at LL
          refine LL.mono ?_
          rintro e w5 ⟨rfl, b5⟩
          have OP5 := Lib.hid (own_below OP.out b5)
          have OQ5 := Lib.hid (own_below OQ.out b5)
          have S5 := Lib.hid (S4.out.mono b5)
          have X5 := Lib.hid (X4.out.mono b5)
          have B5 := Lib.hid (B4.out.trans (b5.mono B4.out.size))
          clear b5 LL OP OQ S4 X4
          go_wp2_with fail
          refine (u_room S5.out).mono ?_
          rintro e w6 ⟨rfl, b6⟩
          have OP6 := Lib.hid (own_below OP5.out b6)
          have OQ6 := Lib.hid (own_below OQ5.out b6)
          have S6 := Lib.hid (S5.out.mono b6)
          have X6 := Lib.hid (X5.out.mono b6)
          have B6 := Lib.hid (B5.out.trans (b6.mono B5.out.size))
          clear b6 OP5 OQ5 S5 X5
          go_wp2_with fail
          go_loopw [25] (fun i wr => ∃ j : Nat, j ≤ m ∧ i = .int .i64 j ∧ SK wr b r K ∧ RAt wr (g + 1) g r K ∧ Below w.heap.size w wr ∧ wr.ownsRow B8 3 1 (.slice pa m pc) m ((sl K r).map (Value.int .i64)) ∧ wr.ownsRow w3.heap.size 3 1 (.slice qa m qc) m ((sl K r).map (Value.int .i64))) (fun i _ => 300 - (intOf i).toNat)
          case atStart => exact ⟨0, by omega, rfl, S6.out, X6.out, B6.out, OP6.out, OQ6.out⟩
          case round =>
            obtain ⟨j, hj, rfl, sk, xk, bk, op, oq⟩ := hrel
            have SJ := Lib.hid sk
            have XJ := Lib.hid xk
            have BJ := Lib.hid bk
            have OPJ := Lib.hid op
            have OQJ := Lib.hid oq
            clear sk xk bk op oq
            rcases Nat.lt_or_ge j m with hlt | hge
            · have hj1 : (j : Int) < m := by omega
              obtain ⟨s, hs1, hs2, hs3⟩ := sl_get K r j (by rw [← HM.out]; exact hlt)
              have hget : ((sl K r).map (Value.int .i64))[j]? = some (.int .i64 s) := by rw [List.getElem?_map, hs1]; rfl
              obtain ⟨gp, rfl, hp⟩ := own_cell OPJ.out j hlt
              obtain ⟨gq, rfl, hq⟩ := own_cell OQJ.out j hlt
              have cp := hp _ hget
              have cq := hq _ hget
              have KY := Lib.hid (keyK_yes hs2 hs3)
              have HG2 := Lib.hid hget
              have HJ := Lib.hid hlt
              have hj2 : j < 256 := by have := HR.out; have := HL.out; omega
              clear hp hq hs1 hs2 hs3 hget
              go_wp2_with fail
              have C1 := u_key SJ.out s
              rw [KY.out] at C1
              refine C1.mono ?_
              rintro e w7 ⟨rfl, b7⟩
              have S7 := Lib.hid (SJ.out.mono b7)
              have X7 := Lib.hid (XJ.out.mono b7)
              have B7 := Lib.hid (BJ.out.trans (b7.mono BJ.out.size))
              have OP7 := Lib.hid (own_below OPJ.out b7)
              have OQ7 := Lib.hid (own_below OQJ.out b7)
              have cq7 : w7.cell? ⟨gq, j, none⟩ = some (.int .i64 s) := by rw [b7.cell (World.block_lt_of_cell? _ _ cq)]; exact cq
              clear b7 C1 cp cq
              go_wp2_with fail
              have C2 := rkey_any w7 (g + 1) g r K s X7.out HR.out
              rw [KY.out] at C2
              refine C2.mono ?_
              rintro e w8 ⟨rfl, b8⟩
              have S8 := Lib.hid (S7.out.mono b8)
              have X8 := Lib.hid (X7.out.mono b8)
              have B8' := Lib.hid (B7.out.trans (b8.mono B7.out.size))
              have OP8 := Lib.hid (own_below OP7.out b8)
              have OQ8 := Lib.hid (own_below OQ7.out b8)
              have cq8 : w8.cell? ⟨gq, j, none⟩ = some (.int .i64 s) := by rw [b8.cell (World.block_lt_of_cell? _ _ cq7)]; exact cq7
              have cp8 : w8.cell? ⟨gp, j, none⟩ = some (.int .i64 s) := by
                obtain ⟨gp', e1, hp'⟩ := own_cell OP8.out j hlt
                cases e1
                exact hp' _ HG2.out
              clear b8 C2 cq7
              obtain ⟨sv, hsv⟩ : ∃ sv, sv = K s := ⟨_, rfl⟩
              rw [← hsv]
              clear hsv
              have HR0 := Lib.hid (show EndC w b g r K B8 w3.heap.size gp gq m pc qc j s w8 from ⟨cp8, cq8, S8.out, X8.out, B8'.out, OP8.out, OQ8.out⟩)
              go_wp2_with fail
              refine wp_region_quiet (C := fun w' => EndC w b g r K B8 w3.heap.size gp gq m pc qc j s w') (by kernel_rfl) (by kernel_rfl) HR0.out.drew ?_
              repeat (
                with_reducible refine wpQuiet_step (fun K hK => ?_)
                go_simp
                first
                  | (with_reducible refine hK _ ?_; clear hK K)
                  | (apply Exists.intro
                     refine ⟨fun v hv => ?_, hK _ ?_⟩
                     (first
                       | with_reducible rfl
                       | (obtain ⟨d0, d1, _⟩ := hv
                          go_simp
                          with_reducible rfl))
                     clear hK K))
              refine wpQuiet_nil ?_
              intro wf hk
              go_wp2
              go_roundw
              case rel => exact ⟨j + 1, by have := HJ.out; omega, by go_num, hk.rest⟩
              case measure => simp [intOf]; have := HR.out; have := HL.out; have := HJ.out; omega
            · have hj1 : ¬ (j : Int) < m := by omega
              have KN := Lib.hid (keyK_neg K r)
              have KO := Lib.hid (keyK_over K r)
              go_wp2_with fail
              have C1 := u_key SJ.out (-1)
              rw [KN.out] at C1
              refine C1.mono ?_
              rintro e w7 ⟨rfl, b7⟩
              have S7 := Lib.hid (SJ.out.mono b7)
              have B7 := Lib.hid (BJ.out.trans (b7.mono BJ.out.size))
              clear b7 C1
              go_wp2_with fail
              have C2 := u_key S7.out r
              rw [KO.out] at C2
              refine C2.mono ?_
              rintro e w8 ⟨rfl, b8⟩
              have B8' := Lib.hid (B7.out.trans (b8.mono B7.out.size))
              clear b8 C2
              go_wp2
              go_ret
              exact ⟨rfl, B8'.out⟩

end Go.Proofs.Ytjlhpnnkhiojfaa.HSlot
