/- The walk of SlotOnes. -/
import Derived.Test.YtjlhpnnkhiojfaaSlotOnesP
import Derived.Test.YtjlhpnnkhiojfaaSlotDeed
import Derived.WalkKit
import Derived.Deep.QuietTactic
import Derived.BigQuiet
namespace Go.Proofs.Ytjlhpnnkhiojfaa.HSlot
set_option linter.unusedVariables false
open Go.RowKit Go.Maps Go.Proofs.Ytjlhpnnkhiojfaa.Print Go.Proofs.Ytjlhpnnkhiojfaa.HSip Go.Proofs.YtjlhpnnkhiojfaaW.PrintWords Go.Proofs.YtjlhpnnkhiojfaaW.PrintLast Go.Proofs.YtjlhpnnkhiojfaaW.PrintMore

theorem lawU : Keyed Try.prog 22 := int_keyed Try.underlying22
theorem zeroI (w : World) : (zeroValue 3).run Try.prog w = .ok (.int .i64 0) w := by kernel_rfl
/-- A row of whole numbers of 16 bits. -/
def URow (w : World) (v : Value) (n : Nat) (Z : Nat → Nat) : Prop :=
  (v = .slice none 0 0 ∧ n = 0) ∨ ∃ a c, v = .slice (some a) n c ∧ ∀ i, i < n → w.cell? (a.add i) = some (.int .u16 (Z i : Nat)) ∧ Z i < 65536
theorem own_map_upd {w w' : World} {P : Program} {k : TypeId} {R : Value → Option (DataW Unit × List MemPlace)} {M n b : Nat} {D : DataW Unit} (h : w.ownsMap P k R M n D) (hb : Upd b w w') (hn : M ≠ b) : w'.ownsMap P k R M n D := by
  have hl := h.lt
  obtain ⟨es, clock, h1, h2⟩ := h
  exact ⟨es, clock, by rw [hb.block M hl hn]; exact h1, h2⟩
theorem upd_turned {w w' : World} {M : Nat} (h : w.mapTurned w' M) : Upd M w w' := by
  obtain ⟨es, clock, es', clock', h1, rfl⟩ := h
  exact ⟨rfl, rfl, rfl, by simp [ChangeMaps.setBlock], fun k hk hne => by simp [ChangeMaps.setBlock, Ne.symm hne]⟩
theorem upd_grown {w w' : World} {M : Nat} (h : w.grownBy w' (some M)) : Upd M w w' := ⟨h.os, h.tape, h.output, h.size, fun k hk hne => h.block k hk (by simpa using hne)⟩
theorem o_below {w w' : World} {B : Nat} {e : TypeId} {sz : Nat} {v : Value} {n : Nat} {xs : List Value} (h : w.ownsRow B e sz v n xs) (hb : Below w.heap.size w w') : w'.ownsRow B e sz v n xs := by
  refine ⟨h.1, ?_⟩
  rcases h.2 with h | ⟨g, cap, cur, h1, h2, h3, h4⟩
  · exact .inl h
  · exact .inr ⟨g, cap, cur, h1, h2, by rw [hb.block g (lt_heap h3)]; exact h3, h4⟩
theorem o_form {w : World} {B : Nat} {e : TypeId} {sz : Nat} {v : Value} {n : Nat} {xs : List Value} (h : w.ownsRow B e sz v n xs) : ∃ a c, v = .slice a n c := by
  rcases h.2 with ⟨h, h0⟩ | ⟨g, cap, cur, h1, _⟩
  · exact ⟨_, _, by rw [h, h0]⟩
  · exact ⟨_, _, h1⟩
theorem o_cell {w : World} {B : Nat} {a : Option Addr} {c n : Nat} {e : TypeId} {xs : List Value} (h : w.ownsRow B e 1 (.slice a n c) n xs) (i : Nat) (hi : i < n) : ∃ g, a = some ⟨g, 0, none⟩ ∧ ∀ i u, i < n → xs[i]? = some u → w.cell? ⟨g, i, none⟩ = some u := by
  rcases h.2 with ⟨h', h0⟩ | ⟨g, cap, cur, h1, _⟩
  · omega
  · cases h1
    refine ⟨g, rfl, fun i u hi hu => ?_⟩
    rw [h.cellAt i (by omega)]; exact hu
theorem keyK_yes1 {K : Nat → ByteArray} {r s : Nat} (hs : s < r) (hk : K s ≠ E0) : keyK K r s = (K s, true) := by
  unfold keyK
  rw [Int.toNat_natCast, if_pos ⟨by omega, by omega, hk⟩]
theorem sl_pair (K : Nat → ByteArray) : ∀ (n i : Nat), i + 1 < (sl K n).length → ∃ s t : Nat, (sl K n)[i]? = some (s : Int) ∧ (sl K n)[i + 1]? = some (t : Int) ∧ s < t
  | 0, i, h => by simp [sl] at h
  | n + 1, i, h => by
    rw [sl] at h ⊢
    by_cases e : K n = E0
    · rw [if_pos e] at h ⊢
      exact sl_pair K n i h
    · rw [if_neg e] at h ⊢
      rw [List.length_append] at h
      rcases Nat.lt_or_ge (i + 1) (sl K n).length with hl | hg
      · obtain ⟨s, t, h1, h2, h3⟩ := sl_pair K n i hl
        exact ⟨s, t, by rw [List.getElem?_append_left (by omega)]; exact h1, by rw [List.getElem?_append_left hl]; exact h2, h3⟩
      · have hi : i + 1 = (sl K n).length := by simp at h; omega
        obtain ⟨s, h1, h2, h3⟩ := sl_get K n i (by omega)
        exact ⟨s, n, by rw [List.getElem?_append_left (by omega)]; exact h1, by rw [hi, List.getElem?_append_right (Nat.le_refl _)]; simp, h2⟩
structure OneC (W : World) (b r : Nat) (K : Nat → ByteArray) (D : DataW Unit) (M k B8 g m pc j j' s t : Nat) (w' : World) : Prop where
  p : w'.cell? ⟨g, j, none⟩ = some (.int .i64 s)
  q : w'.cell? ⟨g, j', none⟩ = some (.int .i64 t)
  rest : SK w' b r K ∧ w'.ownsMap Try.prog 22 (plainElem Try.prog 3) M k D ∧ Below W.heap.size W w' ∧ w'.ownsRow B8 3 1 (.slice (some ⟨g, 0, none⟩) m pc) m ((sl K r).map (Value.int .i64))
theorem OneC.drew {W : World} {b r : Nat} {K : Nat → ByteArray} {D : DataW Unit} {M k B8 g m pc j j' s t : Nat} {w' : World} (h : OneC W b r K D M k B8 g m pc j j' s t w') : OneC W b r K D M k B8 g m pc j j' s t w'.drew :=
  ⟨h.p, h.q, h.rest.1.drew, h.rest.2.1, h.rest.2.2.1.drew, h.rest.2.2.2⟩
theorem MK.start (r : Nat) : MK (.map []) (fun _ => E0) r := by
  refine ⟨fun k hk => ⟨fun h => by simp [Maps.has] at h, fun ⟨s, hs⟩ => absurd hs.symm (xk_ne k)⟩, fun k s hk hs => absurd hs.symm (xk_ne k), ?_, fun _ => by simp [ByteArray.size]⟩
  rw [sl_cn, cn_none _ r (fun i hi => by unfold HSlot.has; simp)]
  rfl
set_option maxRecDepth 20000 in
set_option maxHeartbeats 4000000 in
theorem SlotOnes_any (room : Nat) (hroom : room < 256) (v : Value) (n : Nat) (Z : Nat → Nat) (hn : n ≤ 9223372036854775807) (w : World) (hd : URow w v n Z) :
    Calls Try.prog 6 #[.int .u8 room, v] w fun e w' => e = .returned (.bool true) ∧ Below w.heap.size w w' := by
  have hmm := @run_makeMap Try.prog
  have HD := Lib.hid hd
  have HV : ∃ a c, v = .slice a n c := by
    rcases hd with ⟨h, h0⟩ | ⟨a, c, h, _⟩
    · exact ⟨_, _, by rw [h, h0]⟩
    · exact ⟨_, _, h⟩
  obtain ⟨av, cv, rfl⟩ := HV
  have HQ := Lib.hid hn
  clear hd hn
  obtain ⟨r, hr⟩ : ∃ r, r = 1 + room := ⟨_, rfl⟩
  have er : (1 : Int) + (room : Int) = (r : Int) := by omega
  have HR := Lib.hid (show 1 ≤ r ∧ r ≤ 256 by omega)
  clear hr
  go_enter Try.func6, Try.ntmps6
  go_wp2_with fail
  refine (examples_any _).mono ?_
  rintro e w0 ⟨rfl, b0⟩
  have B0 := Lib.hid b0
  clear b0
  go_wp2_with fail
  refine (u_new _ r (by have := HR.out; omega)).mono ?_
  rintro e w1 ⟨rfl, s1, b1⟩
  obtain ⟨b, hb⟩ : ∃ b, b = w0.heap.size := ⟨_, rfl⟩
  rw [← hb] at s1 b1 ⊢
  have S1 := Lib.hid s1
  have HB := Lib.hid (show w.heap.size ≤ b by rw [hb]; exact B0.out.size)
  have B1 := Lib.hid (B0.out.trans (b1.mono (by rw [hb]; exact B0.out.size)))
  clear s1 b1 hb
  go_wp2_with fail
  obtain ⟨M, hM⟩ : ∃ M, M = w1.heap.size := ⟨_, rfl⟩
  have HBM := Lib.hid (show b < M by rw [hM]; exact S1.out.lt)
  have M1 := Lib.hid (show (w1.alloc (.map #[] 0)).ownsMap Try.prog 22 (plainElem (H := Unit) Try.prog 3) M 0 (.map []) by rw [hM]; exact World.ownsMap_made _ _ _ _)
  have S2 := Lib.hid (S1.out.mono ((Below.refl _ _).alloc (Nat.le_refl _) (.map #[] 0)))
  have B2 := Lib.hid (B1.out.alloc B1.out.size (.map #[] 0))
  rw [← hM]
  clear hM S1 B1 hmm
  go_loopw [10] (fun i wr => ∃ (k : Nat) (K : Nat → ByteArray) (D : DataW Unit), k ≤ n ∧ k ≤ 300 ∧ i = .int .i64 k ∧ SK wr b r K ∧ MK D K r ∧ wr.ownsMap Try.prog 22 (plainElem Try.prog 3) M k D ∧ Below w.heap.size w wr) (fun i _ => 300 - (intOf i).toNat)
  case atStart => exact ⟨0, _, _, by omega, by omega, rfl, S2.out, MK.start r, M1.out, B2.out⟩
  case round =>
    obtain ⟨k, K, D, hk, hk3, rfl, sk, mk, om, bk⟩ := hrel
    have SK1 := Lib.hid sk
    have MK1 := Lib.hid mk
    have OM1 := Lib.hid om
    have BK1 := Lib.hid bk
    clear sk mk om bk
    by_cases hlt : k < n ∧ k < 300
    · have hk1 : (k : Int) < n := by omega
      have hk2 : (k : Int) < 300 := by omega
      obtain ⟨a, rfl, c0, hz⟩ : ∃ a, av = some a ∧ wr.cell? (a.add k) = some (.int .u16 (Z k : Nat)) ∧ Z k < 65536 := by
        rcases HD.out with ⟨h, h0⟩ | ⟨a, c, h, hc⟩
        · omega
        · cases h
          have h2 := hc k hlt.1
          exact ⟨a, rfl, by rw [BK1.out.cell (World.block_lt_of_cell? _ _ h2.1)]; exact h2.1, h2.2⟩
      obtain ⟨z, hzz⟩ : ∃ z, z = Z k := ⟨_, rfl⟩
      rw [← hzz] at c0 hz
      obtain ⟨q, hq⟩ : ∃ q, q = z % 400 := ⟨_, rfl⟩
      have hq4 : q < 400 := by omega
      have tm : ((z : Nat) : Int).tmod 400 = (q : Nat) := by rw [Int.tmod_eq_emod_of_nonneg (by omega)]; omega
      have hcv := cv_three wr 120 ((q : Int) / 256) ((q : Int) % 256)
      have hkey : keyOf Try.prog 22 (.int .u16 (q : Int)) = some (lk q) := keyOf_int_mk Try.underlying22 (by simp [Lit.wf, IntKind.min, IntKind.max, IntKind.signed, IntKind.bits]; omega)
      have HX := Lib.hid (show strOfNums [120, (q : Int) / 256, (q : Int) % 256] = xk q from rfl)
      obtain ⟨key, hke⟩ : ∃ key, key = strOfNums [120, (q : Int) / 256, (q : Int) % 256] := ⟨_, rfl⟩
      rw [← hke] at hcv HX
      clear hke hzz hq hlt
      by_cases hh : Maps.has D (lk q) = true
      · obtain ⟨s, hs⟩ := (MK1.out.has q hq4).1 hh
        have ha := MK1.out.at_ q s hq4 hs
        go_wp2_with (first
          | (at_lookup; refine wpList_lookup_own_ok_int _ rfl _ _ 52 rfl 22 3 .i64 lawU Try.underlying52 Try.underlying3 (zeroI _) M k D rfl (OM1.out.alloc _) _ (lk q) rfl hkey ?_; intro c hat hwc)
          | fail)
        have hc : c = (s : Int) := by
          have := hat.symm.trans ha
          simpa using this
        subst hc
        have hsr : s < r := by
          rcases Nat.lt_or_ge s r with h | h
          · exact h
          · exact absurd (hs.symm.trans (SK1.out.beyond s (by omega))) (xk_ne q)
        have SK2 := Lib.hid (SK1.out.mono ((Below.refl _ _).alloc (Nat.le_refl _) (Obj.cells #[.int .u8 120, .int .u8 ((q : Int) / 256), .int .u8 ((q : Int) % 256)] 5)))
        have BK2 := Lib.hid (BK1.out.alloc BK1.out.size (Obj.cells #[.int .u8 120, .int .u8 ((q : Int) / 256), .int .u8 ((q : Int) % 256)] 5))
        have OM2 := Lib.hid (OM1.out.alloc (Obj.cells #[.int .u8 120, .int .u8 ((q : Int) / 256), .int .u8 ((q : Int) % 256)] 5))
        have HKS := Lib.hid (show K s = key by rw [hs]; exact HX.out.symm)
        have HKN := Lib.hid (show key ≠ E0 by rw [HX.out]; exact xk_ne q)
        have HSZ := Lib.hid (show key.size ≤ 140737488355328 by rw [HX.out, xk_size]; omega)
        have MK2 := Lib.hid (MK1.out.del (OM1.out.tidy lawU) hq4 hsr hs (fun i hi => SK1.out.dist (hi.trans hs.symm) (by rw [hi]; exact xk_ne q)))
        clear ha hat hh hs hsr hcv
        refine (u_find_yes SK2.out s HKS.out HKN.out HSZ.out).mono ?_
        rintro e w3 ⟨rfl, b3⟩
        have SK3 := Lib.hid (SK2.out.mono b3)
        have OM3 := Lib.hid (own_map_upd OM2.out (Upd.of (b := b) b3) (by have := HBM.out; omega))
        have BK3 := Lib.hid (BK2.out.trans (b3.mono BK2.out.size))
        clear b3
        go_wp2_with fail
        refine (u_drop_yes SK3.out s HKS.out HKN.out HSZ.out).mono ?_
        rintro e w4 ⟨rfl, s4, u4'⟩
        have S4 := Lib.hid s4
        have OM4 := Lib.hid (own_map_upd OM3.out u4' (by have := HBM.out; omega))
        have B4 := Lib.hid (u4'.bel BK3.out HB.out SK3.out.lt)
        clear s4 u4'
        go_wp2_with (first
          | (at_delete; refine wpList_delete_own _ rfl _ _ 52 22 rfl 3 lawU Try.underlying52 _ M k D rfl OM4.out _ (lk q) rfl hkey ?_; intro w5 hown5 hturn5)
          | fail)
        have S5 := Lib.hid (S4.out.upd (upd_turned hturn5) (by have := HBM.out; omega))
        have B5 := Lib.hid ((upd_turned hturn5).bel B4.out (by have := HBM.out; have := HB.out; omega) OM4.out.lt)
        have OM5 := Lib.hid (hown5.mono (show k ≤ k + 1 by omega))
        clear hturn5 hown5
        go_wp2
        go_roundw
        case rel => exact ⟨k + 1, _, _, by omega, by omega, by go_num, S5.out, MK2.out, OM5.out, B5.out⟩
        case measure => simp [intOf]; omega
      · have hh' : Maps.has D (lk q) = false := by simpa using hh
        have hno : ∀ i, K i ≠ xk q := fun i hi => hh ((MK1.out.has q hq4).2 ⟨i, hi⟩)
        go_wp2_with (first
          | (at_lookup; refine wpList_lookup_own_ok_int _ rfl _ _ 52 rfl 22 3 .i64 lawU Try.underlying52 Try.underlying3 (zeroI _) M k D rfl (OM1.out.alloc _) _ (lk q) rfl hkey ?_; intro c hat hwc)
          | fail)
        have SK2 := Lib.hid (SK1.out.mono ((Below.refl _ _).alloc (Nat.le_refl _) (Obj.cells #[.int .u8 120, .int .u8 ((q : Int) / 256), .int .u8 ((q : Int) % 256)] 5)))
        have BK2 := Lib.hid (BK1.out.alloc BK1.out.size (Obj.cells #[.int .u8 120, .int .u8 ((q : Int) / 256), .int .u8 ((q : Int) % 256)] 5))
        have OM2 := Lib.hid (OM1.out.alloc (Obj.cells #[.int .u8 120, .int .u8 ((q : Int) / 256), .int .u8 ((q : Int) % 256)] 5))
        have HKB := Lib.hid (show ¬ badKey key by rw [HX.out]; exact xk_ok q)
        have HKN := Lib.hid (show NoK K key by rw [HX.out]; exact fun i _ => hno i)
        have HSZ := Lib.hid (show key.size ≤ 140737488355328 by rw [HX.out, xk_size]; omega)
        have HNO := Lib.hid hno
        clear hat hh hwc hcv hno
        refine (u_find_no SK2.out HKN.out HSZ.out).mono ?_
        rintro e w3 ⟨rfl, b3⟩
        have SK3 := Lib.hid (SK2.out.mono b3)
        have OM3 := Lib.hid (own_map_upd OM2.out (Upd.of (b := b) b3) (by have := HBM.out; omega))
        have BK3 := Lib.hid (BK2.out.trans (b3.mono BK2.out.size))
        clear b3
        go_wp2_with fail
        have hsz := MK1.out.size
        have hle := sl_len K r
        cases hff : ff K r 0 with
        | some s =>
          obtain ⟨f1, f2, f3, f4⟩ := ff_some r 0 hff
          have hlr : (Maps.size D : Int) < r := by
            have := sl_up_new K r s (xk q) (by omega) f3 (xk_ne q)
            have h2 := sl_len (up K s (xk q)) r
            omega
          have KK := Lib.hid (show keyK (up K s key) r s = (key, true) by
            rw [keyK_yes1 (by omega) (by unfold up; rw [if_pos rfl, HX.out]; exact xk_ne q)]
            unfold up; rw [if_pos rfl])
          have MK2 := Lib.hid (MK1.out.put (OM1.out.tidy lawU) (OM1.out.tidy lawU).isMap hq4 (show s < r by omega) f3 HNO.out)
          have hs3 : (s : Int) < r := by omega
          have HW := Lib.hid (show (Lit.int .i64 (s : Int)).wf = true by have := HR.out; simp [Lit.wf, IntKind.min, IntKind.max, IntKind.signed, IntKind.bits]; omega)
          refine (u_add_new SK3.out s HKB.out HKN.out (by omega) f3 (fun j hj => f4 j (by omega) hj)).mono ?_
          rintro e w4 ⟨rfl, s4, u4'⟩
          have S4 := Lib.hid s4
          have OM4 := Lib.hid (own_map_upd OM3.out u4' (by have := HBM.out; omega))
          have B4 := Lib.hid (u4'.bel BK3.out HB.out SK3.out.lt)
          clear s4 u4' f1 f2 f3 f4 hff hsz hle
          have hln := OM4.out.len Try.underlying52 3
          go_wp2_with fail
          have KY := u_key S4.out s
          rw [KK.out] at KY
          refine KY.mono ?_
          rintro e w5 ⟨rfl, b5⟩
          have S5 := Lib.hid (S4.out.mono b5)
          have OM5 := Lib.hid (own_map_upd OM4.out (Upd.of (b := b) b5) (by have := HBM.out; omega))
          have B5 := Lib.hid (B4.out.trans (b5.mono B4.out.size))
          clear b5 KY hln
          go_wp2_with (first
            | (at_mapUpdate; refine wpList_mapUpdate_own _ rfl _ _ _ 52 rfl 22 3 lawU Try.underlying52 _ M k _ rfl OM5.out (by unfold maxLen; omega) _ _ _ rfl rfl hkey _ [] (plainElem_int Try.underlying3 HW.out) ?_; intro w6 hown6 hgrow6)
            | fail)
          have S6 := Lib.hid (S5.out.upd (upd_grown hgrow6) (by have := HBM.out; omega))
          have B6 := Lib.hid ((upd_grown hgrow6).bel B5.out (by have := HBM.out; have := HB.out; omega) OM5.out.lt)
          have OM6 := Lib.hid hown6
          have MK3 := Lib.hid (show MK (D.put (lk q) (.lit (.int .i64 (s : Int)))) (up K s key) r by rw [HX.out]; exact MK2.out)
          clear hgrow6 hown6
          go_wp2
          go_roundw
          case rel => exact ⟨k + 1, _, _, by omega, by omega, by go_num, S6.out, MK3.out, OM6.out, B6.out⟩
          case measure => simp [intOf]; omega
        | none =>
          have f4 := ff_none r 0 hff
          have hlr : ¬ (Maps.size D : Int) < r := by
            have h1 : (sl K r).length = r := by rw [sl_cn]; exact cn_full _ r fun i hi => by unfold HSlot.has; simpa using f4 i (by omega) (by omega)
            omega
          refine (u_add_full SK3.out HKB.out HKN.out (fun s hs => f4 s (by omega) (by omega))).mono ?_
          rintro e w4 ⟨rfl, s4, u4'⟩
          have S4 := Lib.hid s4
          have OM4 := Lib.hid (own_map_upd OM3.out u4' (by have := HBM.out; omega))
          have B4 := Lib.hid (u4'.bel BK3.out HB.out SK3.out.lt)
          clear s4 u4' f4 hff hsz hle
          have hln := OM4.out.len Try.underlying52 3
          go_wp2
          go_roundw
          case rel => exact ⟨k + 1, _, _, by omega, by omega, by go_num, S4.out, MK1.out, OM4.out.mono (by omega), B4.out⟩
          case measure => simp [intOf]; omega
    · have hcase : (k : Int) < n ∧ ¬ (k : Int) < 300 ∨ ¬ (k : Int) < n := by omega
      clear hlt
      rcases hcase with ⟨hk1, hk2⟩ | hk1
      all_goals
        go_wp2_with fail
        obtain ⟨B8, hB8⟩ : ∃ B8, B8 = wr.heap.size := ⟨_, rfl⟩
        have SL := u_slots SK1.out
        have SL2 := SL.mono fun e w' h => (show (∃ v, e = Ending.returned v ∧ (w'.ownsRow B8 3 1 v (sl K (r : Int).toNat).length ((sl K (r : Int).toNat).map (Value.int .i64)) ∧ Below wr.heap.size wr w')) by rw [hB8]; exact h)
        refine SL2.mono ?_
        rintro e w3 ⟨v3, rfl, o3, b3⟩
        rw [Int.toNat_natCast] at o3
        obtain ⟨pa, pc, rfl⟩ := o_form o3
        have LM := SK1.out.cn_is
        have LS := MK1.out.size
        have hlen := sl_len K r
        obtain ⟨m, hm'⟩ : ∃ m, m = (sl K r).length := ⟨_, rfl⟩
        rw [← hm'] at o3 LM LS hlen ⊢
        have O3 := Lib.hid o3
        have S3 := Lib.hid (SK1.out.mono b3)
        have OM3 := Lib.hid (own_map_upd OM1.out (Upd.of (b := b) b3) (by have := HBM.out; omega))
        have B3 := Lib.hid (BK1.out.trans (b3.mono BK1.out.size))
        have HM := Lib.hid hm'
        have HL := Lib.hid hlen
        have HLM := Lib.hid LM
        have HLS := Lib.hid LS
        clear o3 b3 SL SL2 hB8 hm' LM LS hlen
        go_wp2_with fail
        go_loopw [22] (fun i wr => ∃ j : Nat, j ≤ m ∧ i = .int .i64 j ∧ SK wr b r K ∧ wr.ownsMap Try.prog 22 (plainElem Try.prog 3) M k D ∧ Below w.heap.size w wr ∧ wr.ownsRow B8 3 1 (.slice pa m pc) m ((sl K r).map (Value.int .i64))) (fun i _ => 300 - (intOf i).toNat)
        case atStart => exact ⟨0, by omega, rfl, S3.out, OM3.out, B3.out, O3.out⟩
        case round =>
          obtain ⟨j, hj, rfl, sk, om, bk, op⟩ := hrel
          have SJ := Lib.hid sk
          have OMJ := Lib.hid om
          have BJ := Lib.hid bk
          have OPJ := Lib.hid op
          clear sk om bk op
          rcases Nat.lt_or_ge j m with hlt | hge
          · have hj1 : (j : Int) < m := by omega
            have hj2 : j < 256 := by have := HR.out; have := HL.out; omega
            obtain ⟨s, hs1, hs2, hs3⟩ := sl_get K r j (by rw [← HM.out]; exact hlt)
            obtain ⟨t, ht1, ht2⟩ : ∃ t : Nat, (sl K r)[j - 1]? = some (t : Int) ∧ (0 < j → t < s) := by
              rcases Nat.eq_zero_or_pos j with h0 | hpos
              · exact ⟨s, by rw [h0] at hs1 ⊢; exact hs1, fun h => by omega⟩
              · obtain ⟨a1, a2, h1, h2, h3⟩ := sl_pair K r (j - 1) (by rw [← HM.out]; omega)
                rw [show j - 1 + 1 = j by omega, hs1] at h2
                have : (s : Int) = a2 := by simpa using h2
                exact ⟨a1, h1, fun _ => by omega⟩
            have hget : ((sl K r).map (Value.int .i64))[j]? = some (.int .i64 s) := by rw [List.getElem?_map, hs1]; rfl
            have hget2 : ((sl K r).map (Value.int .i64))[j - 1]? = some (.int .i64 t) := by rw [List.getElem?_map, ht1]; rfl
            obtain ⟨gp, rfl, hp⟩ := o_cell OPJ.out j hlt
            have cp := hp j _ hlt hget
            have cq := hp (j - 1) _ (by omega) hget2
            have KY := Lib.hid (keyK_yes1 hs2 hs3)
            have HS3 := Lib.hid hs3
            have HJ := Lib.hid hlt
            have HST := Lib.hid ht2
            clear hp hs1 hs2 hs3 hget hget2 ht1 ht2
            go_wp2_with fail
            have C1 := u_key SJ.out s
            rw [KY.out] at C1
            refine C1.mono ?_
            rintro e w7 ⟨rfl, b7⟩
            have S7 := Lib.hid (SJ.out.mono b7)
            have B7 := Lib.hid (BJ.out.trans (b7.mono BJ.out.size))
            have OP7 := Lib.hid (o_below OPJ.out b7)
            have OM7 := Lib.hid (own_map_upd OMJ.out (Upd.of (b := b) b7) (by have := HBM.out; omega))
            have cp7 : w7.cell? ⟨gp, j, none⟩ = some (.int .i64 s) := by rw [b7.cell (World.block_lt_of_cell? _ _ cp)]; exact cp
            have cq7 : w7.cell? ⟨gp, j - 1, none⟩ = some (.int .i64 t) := by rw [b7.cell (World.block_lt_of_cell? _ _ cq)]; exact cq
            clear b7 C1 cp cq
            go_wp2_with fail
            refine (u_find_yes S7.out s rfl HS3.out (Nat.le_trans (MK1.out.sz s) (by omega))).mono ?_
            rintro e w8 ⟨rfl, b8⟩
            have HR0 := Lib.hid (show OneC w b r K D M k B8 gp m pc j (j - 1) s t w8 from ⟨by rw [b8.cell (World.block_lt_of_cell? _ _ cp7)]; exact cp7, by rw [b8.cell (World.block_lt_of_cell? _ _ cq7)]; exact cq7, S7.out.mono b8, own_map_upd OM7.out (Upd.of (b := b) b8) (by have := HBM.out; omega), B7.out.trans (b8.mono B7.out.size), o_below OP7.out b8⟩)
            clear b8 cp7 cq7
            obtain ⟨j', hj'⟩ : ∃ j', j' = j - 1 := ⟨_, rfl⟩
            rw [← hj'] at HR0
            rcases Nat.eq_zero_or_pos j with h0 | hpos
            · subst h0
              go_wp2_with fail
              refine wp_region_quiet (C := fun w' => OneC w b r K D M k B8 gp m pc 0 j' s t w') (by kernel_rfl) (by kernel_rfl) HR0.out.drew ?_
              repeat (
                with_reducible refine wpQuiet_step (fun K hK => ?_)
                go_simp
                first
                  | (with_reducible refine hK _ ?_; clear hK K)
                  | (apply Exists.intro
                     refine ⟨fun v hv => ?_, hK _ ?_⟩
                     (first
                       | with_reducible rfl
                       | (obtain ⟨d0, d1, _⟩ := hv
                          go_simp
                          with_reducible rfl))
                     clear hK K))
              refine wpQuiet_nil ?_
              intro wf hk
              go_wp2
              go_roundw
              case rel => exact ⟨1, by have := HJ.out; omega, by go_num, hk.rest.1, hk.rest.2.1, hk.rest.2.2.1, hk.rest.2.2.2⟩
              case measure => simp [intOf]
            · have hp1 : (0 : Int) < j := by omega
              have ej : wrap64 ((j : Int) - 1) = (j' : Int) := by unfold wrap64; omega
              have ej2 : IntKind.i64.wrap ((j : Int) - 1) = (j' : Int) := by rw [i64_w]; exact ej
              have hj3 : (j' : Int) < m := by omega
              have hts : t < s := HST.out hpos
              have hts2 : ¬ s ≤ t := by omega
              clear hj'
              go_wp2_with fail
              refine wp_region_quiet (C := fun w' => OneC w b r K D M k B8 gp m pc j j' s t w') (by kernel_rfl) (by kernel_rfl) HR0.out.drew ?_
              repeat (
                with_reducible refine wpQuiet_step (fun K hK => ?_)
                go_simp
                first
                  | (with_reducible refine hK _ ?_; clear hK K)
                  | (apply Exists.intro
                     refine ⟨fun v hv => ?_, hK _ ?_⟩
                     (first
                       | with_reducible rfl
                       | (obtain ⟨d0, d1, _⟩ := hv
                          go_simp
                          with_reducible rfl))
                     clear hK K))
              refine wpQuiet_nil ?_
              intro wf hk
              go_wp2
              go_roundw
              case rel => exact ⟨j + 1, by have := HJ.out; omega, by go_num, hk.rest.1, hk.rest.2.1, hk.rest.2.2.1, hk.rest.2.2.2⟩
              case measure => simp [intOf]; omega
          · have hj1 : ¬ (j : Int) < m := by omega
            go_wp2_with fail
            have LL := u_len SJ.out
            rw [HLM.out] at LL
            refine LL.mono ?_
            rintro e w7 ⟨rfl, b7⟩
            have OM7 := Lib.hid (own_map_upd OMJ.out (Upd.of (b := b) b7) (by have := HBM.out; omega))
            have B7 := Lib.hid (BJ.out.trans (b7.mono BJ.out.size))
            have hln := OM7.out.len Try.underlying52 3
            rw [HLS.out] at hln
            clear b7 LL
            go_wp2
            go_ret
            exact ⟨rfl, B7.out⟩

end Go.Proofs.Ytjlhpnnkhiojfaa.HSlot
