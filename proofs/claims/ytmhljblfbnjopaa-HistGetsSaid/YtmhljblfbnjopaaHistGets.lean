/- HistGets, walked. Conditions: the row's own. -/
import Derived.Test.YtmhljblfbnjopaaHistSame
import Derived.Test.YtmhljblfbnjopaaBend06
import Derived.Test.YtmhljblfbnjopaaHistOf
namespace Go.Proofs.Ytmhljblfbnjopaa.HHist
set_option linter.unusedVariables false
open Go.RowKit Go.Proofs.Ytmhljblfbnjopaa.HMem Go.Proofs.Ytmhljblfbnjopaa.HBucket Go.Proofs.Ytmhljblfbnjopaa.HApp Go.Proofs.Ytmhljblfbnjopaa.HBend
open Go.Proofs.Ytmhljblfbnjopaa.Print (I64)

set_option maxHeartbeats 8000000 in
set_option maxRecDepth 20000 in
theorem HistGets_any (b0 : Nat) (hb0 : b0 < 256) (v : Value) (ns : List Int) (s : ByteArray) (own : Bool) (at_ : Int) (hat : I64 at_) (y : Nat) (hy : y < 256) (w : World) (hv : NRow .i64 w v ns) (hi : ∀ x ∈ ns, I64 x) (hs : s.size ≤ 140737488351232) :
    Calls Try.prog 3 #[.int .u8 b0, v, .string s, .bool own, .int .i64 at_, .int .u8 y] w fun e w' => e = .returned (.bool true) ∧ Below w.heap.size w w' := by
  have hat1 : -9223372036854775808 ≤ at_ ∧ at_ ≤ 9223372036854775807 := hat
  obtain ⟨a, cp, rfl, hcap, hmax, hcells⟩ := hv.form
  have HCELLS := Lib.hid hcells
  have HAT := Lib.hid hat1
  obtain ⟨n, hn⟩ : ∃ n, n = ns.length := ⟨_, rfl⟩
  have HN := Lib.hid hn
  rw [← hn] at hcap ⊢
  clear hv hcells hn hat hat1
  go_enter Try.func3, Try.ntmps3
  go_wp2_with fail
  refine (examples_any _).mono ?_
  rintro e w1 ⟨rfl, b1⟩
  have B1 := Lib.hid b1
  clear b1
  cases own
  case' false =>
    obtain ⟨t, ht⟩ : ∃ t, t = s := ⟨_, rfl⟩
    rw [← ht] at hs ⊢
    have hts : t.size ≤ 140737488355328 := by omega
    clear ht hs
    have BZ := B1
    rename World => wz
    clear B1
  case' true =>
    go_wp2_with fail
    obtain ⟨b, hb⟩ : ∃ b, b = b0 % 5 := ⟨_, rfl⟩
    have hb4 : b ≤ 4 := by omega
    rw [show (b0 : Int) % 5 = (b : Int) by omega]
    clear hb
    refine (r_new b _ hb4).mono ?_
    rintro e w2 ⟨rfl, s2, b2⟩
    obtain ⟨p, hp⟩ : ∃ p, p = w1.heap.size := ⟨_, rfl⟩
    rw [← hp] at s2 b2 ⊢
    have HP := Lib.hid (show w.heap.size ≤ p by rw [hp]; exact B1.out.size)
    have S2 := Lib.hid s2
    have B2 := Lib.hid (show Below p w1 w2 from b2)
    have B2w := Lib.hid (show Below w.heap.size w w2 from B1.out.trans (b2.mono HP.out))
    clear s2 b2 hp
    go_wp2_with fail
    go_loopw [15] (fun x wr => ∃ j : Nat, j ≤ n ∧ j ≤ 30 ∧ x = .int .i64 j ∧ RSH p wr p b (ofL b (ns.take j)) ∧ Below p w1 wr) (fun x _ => n - (intOf x).toNat)
    case atStart => exact ⟨0, Nat.zero_le _, by omega, rfl, S2.out, B2.out⟩
    case round =>
      obtain ⟨j, hj, hj30, rfl, hh, bb⟩ := hrel
      have HH := Lib.hid hh
      have BB := Lib.hid bb
      clear hh bb
      by_cases hlt : j < n ∧ j < 30
      · obtain ⟨hl1, hl2⟩ := hlt
        have q1 : (j : Int) < n := by omega
        have q2 : (j : Int) < 30 := by omega
        obtain ⟨x, hx⟩ : ∃ x, ns[j]? = some x := ⟨_, List.getElem?_eq_getElem (by rw [← HN.out]; exact hl1)⟩
        obtain ⟨a', rfl, hc⟩ := HCELLS.out j x hx
        have c0 : wr.cell? (a'.add j) = some (.int .i64 x) := ((B1.out.trans (BB.out.mono HP.out)).cell (World.block_lt_of_cell? _ _ hc)).trans hc
        have hX : I64 x := hi x (List.mem_of_getElem? hx)
        have q3 : (j : Int) < n := by omega
        have HA := Lib.hid (show addL b (ofL b (ns.take j)) x = (ofL b (ns.take (j + 1)), 0) by
          rw [addL_ofL _ _ _ (by rw [List.length_take]; omega), List.take_add_one, hx]; rfl)
        have hlt' := Lib.hid (And.intro hl1 hl2)
        clear hx hc hl1 hl2
        go_wp2_with fail
        have K := r_add HH.out (by have := BB.out.size; have := B2.out.size; have h3 := S2.out; obtain ⟨G, h4, _, h5⟩ := HH.out; obtain ⟨v, R, h6, _, h7, _⟩ := h4.ex; exact Nat.le_of_lt (heap_lt h7)) x hX
        rw [HA.out] at K
        refine K.mono ?_
        rintro e w6 ⟨rfl, s6, b6⟩
        have S6 := Lib.hid s6
        have B6 := Lib.hid (BB.out.trans b6)
        clear s6 b6 K c0
        go_wp2
        go_roundw
        case rel => exact ⟨j + 1, by have := hlt'.out; omega, by have := hlt'.out; omega, by go_num, S6.out, B6.out⟩
        case measure => have := hlt'.out; simp [intOf]; omega
      have B3 := Lib.hid (show Below w.heap.size w wr from B1.out.trans (BB.out.mono HP.out))
      obtain ⟨l, hl⟩ : ∃ l, l = ofL b (ns.take j) := ⟨_, rfl⟩
      have HHL := Lib.hid (show total l ≤ 30 by rw [hl, total_ofL, List.length_take]; omega)
      rw [← hl] at HH
      have hlen : l.length ≤ 30 := by have := len_le_total l (fun x hx => (HH.out.ok.item x hx).1); have := HHL.out; omega
      obtain ⟨P, hP⟩ : ∃ P, P = strOfNums (encL b l) := ⟨_, rfl⟩
      have hPs : P.size ≤ 303 := by rw [hP, str_size, encL_length]; omega
      have KP := Lib.hid (show Calls Try.prog 14 #[.pointer (some ⟨p, 0, none⟩)] wr fun e w' => e = .returned (.string P) ∧ Below wr.heap.size wr w' by rw [hP]; exact r_put HH.out)
      have hPb : P.size + s.size ≤ 9223372036854775807 := by omega
      have hPb2 : (P.size : Int) + (s.size : Int) ≤ 9223372036854775807 := by omega
      have hPS := Lib.hid (show (P ++ s).size ≤ 140737488355328 by rw [ByteArray.size_append]; omega)
      clear hl hP hlen BB S2 B2w HHL
      by_cases hl1 : j < n
      case' pos =>
        obtain rfl : j = 30 := by omega
        have q1 : (30 : Int) < n := by omega
        clear hlt hl1
        go_wp2_with fail
      case' neg =>
        obtain rfl : j = n := by omega
        clear hlt hl1 hj
        go_wp2_with fail
      all_goals
        refine KP.out.mono ?_
        rintro e w3 ⟨rfl, b3⟩
        have B4 := Lib.hid (B3.out.trans (b3.mono B3.out.size))
        clear b3 KP
        go_wp2_with fail
        refine (Bend_any (P ++ s) at_ y w3 HAT.out ⟨by omega, by omega⟩ hPS.out).mono ?_
        rintro e wz ⟨rfl, b5⟩
        have BZ := Lib.hid (B4.out.trans (b5.mono B4.out.size))
        obtain ⟨t, ht⟩ : ∃ t, t = bendS (P ++ s) at_ y := ⟨_, rfl⟩
        have hts : t.size ≤ 140737488355328 := by rw [ht, bendS_size]; exact hPS.out
        rw [← ht]
        clear b5 ht hPb hPb2 hPs hPS HAT
        go_wp2_with fail
        refine (Get_any t wz hts).mono ?_
        rintro e wa (⟨hn1, rfl, ba⟩ | ⟨b1, l1, r1, p1, G1, hd1, rfl, hh1, ho1, hg1, ba⟩)
        · have BA := Lib.hid (BZ.out.trans (ba.mono BZ.out.size))
          have HN1 := Lib.hid hn1
          clear ba hn1
          go_wp2_with fail
          refine (rGet_any t wa hts).mono ?_
          rintro e wb (⟨hn2, rfl, bb⟩ | ⟨b2, l2, r2, p2, G2, hd2, rfl, hh2, ho2, hg2, bb⟩)
          · have BB := Lib.hid (BA.out.trans (bb.mono BA.out.size))
            clear bb hn2
            go_wp2
            go_ret
            exact ⟨rfl, BB.out⟩
          · rw [HN1.out] at hd2; cases hd2
        · have BA := Lib.hid (BZ.out.trans (ba.mono BZ.out.size))
          have HD1 := Lib.hid hd1
          have HH1 := Lib.hid hh1
          have HO1 := Lib.hid ho1
          clear ba hd1 hh1 ho1 hg1
          go_wp2_with fail
          refine (rGet_any t wa hts).mono ?_
          rintro e wb (⟨hn2, rfl, bb⟩ | ⟨b2, l2, r2, p2, G2, hd2, rfl, hh2, ho2, hg2, bb⟩)
          · rw [HD1.out] at hn2; cases hn2
          · have BB := Lib.hid (BA.out.trans (bb.mono BA.out.size))
            rw [HD1.out] at hd2
            injection hd2 with hd2
            injection hd2 with hd2 hd3
            injection hd3 with hd3 hd4
            subst hd2 hd3
            obtain rfl : r1 = r2 := ByteArray.ext (Array.toList_inj.1 hd4)
            have KS := Lib.hid (same_any (HH1.out.mono bb) hh2 HO1.out)
            clear bb hd4 hh2 ho2 hg2
            go_wp2_with fail
            refine KS.out.mono ?_
            rintro e wc ⟨rfl, bc⟩
            have BC := Lib.hid (BB.out.trans (bc.mono BB.out.size))
            clear bc KS
            go_wp2
            go_ret
            exact ⟨by simp, BC.out⟩
  all_goals
    go_wp2_with fail
    refine (Get_any t wz hts).mono ?_
    rintro e wa (⟨hn1, rfl, ba⟩ | ⟨b1, l1, r1, p1, G1, hd1, rfl, hh1, ho1, hg1, ba⟩)
    · have BA := Lib.hid (BZ.out.trans (ba.mono BZ.out.size))
      have HN1 := Lib.hid hn1
      clear ba hn1
      go_wp2_with fail
      refine (rGet_any t wa hts).mono ?_
      rintro e wb (⟨hn2, rfl, bb⟩ | ⟨b2, l2, r2, p2, G2, hd2, rfl, hh2, ho2, hg2, bb⟩)
      · have BB := Lib.hid (BA.out.trans (bb.mono BA.out.size))
        clear bb hn2
        go_wp2
        go_ret
        exact ⟨rfl, BB.out⟩
      · rw [HN1.out] at hd2; cases hd2
    · have BA := Lib.hid (BZ.out.trans (ba.mono BZ.out.size))
      have HD1 := Lib.hid hd1
      have HH1 := Lib.hid hh1
      have HO1 := Lib.hid ho1
      clear ba hd1 hh1 ho1 hg1
      go_wp2_with fail
      refine (rGet_any t wa hts).mono ?_
      rintro e wb (⟨hn2, rfl, bb⟩ | ⟨b2, l2, r2, p2, G2, hd2, rfl, hh2, ho2, hg2, bb⟩)
      · rw [HD1.out] at hn2; cases hn2
      · have BB := Lib.hid (BA.out.trans (bb.mono BA.out.size))
        rw [HD1.out] at hd2
        injection hd2 with hd2
        injection hd2 with hd2 hd3
        injection hd3 with hd3 hd4
        subst hd2 hd3
        obtain rfl : r1 = r2 := ByteArray.ext (Array.toList_inj.1 hd4)
        have KS := Lib.hid (same_any (HH1.out.mono bb) hh2 HO1.out)
        clear bb hd4 hh2 ho2 hg2
        go_wp2_with fail
        refine KS.out.mono ?_
        rintro e wc ⟨rfl, bc⟩
        have BC := Lib.hid (BB.out.trans (bc.mono BB.out.size))
        clear bc KS
        go_wp2
        go_ret
        exact ⟨by simp, BC.out⟩
theorem HistGets_row {b0 at_ y : Int} {v : Value} {ns : List Int} {s : ByteArray} {own : Bool} {w : World} (h0 : (Lit.int .u8 b0).wf = true) (hv : NRow .i64 w v ns) (hi : ∀ x ∈ ns, (Lit.int .i64 x).wf = true) (hs : s.size ≤ 140737488351232) (h1 : (Lit.int .i64 at_).wf = true) (h2 : (Lit.int .u8 y).wf = true) :
    Calls Try.prog 3 #[.int .u8 b0, v, .string s, .bool own, .int .i64 at_, .int .u8 y] w fun e w' => e = .returned (.bool true) ∧ Below w.heap.size w w' := by
  obtain ⟨a, rfl, ha⟩ := u8_wf h0
  obtain ⟨d, rfl, hd⟩ := u8_wf h2
  exact HistGets_any a ha v ns s own at_ (i64_wf h1) d hd w hv (fun x hx => i64_wf (hi x hx)) hs
end Go.Proofs.Ytmhljblfbnjopaa.HHist
