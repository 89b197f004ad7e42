/- CellGets: any bytes, and those of a cell with a byte another one, are the cell, or none, that the chapter says. Conditions: the parameters' ranges. -/
import Derived.Test.YtgafnilcmhjpcaaCellAlike
import Derived.Test.YtgafnilcmhjpcaaCellEx
import Derived.Test.YtgafnilcmhjpcaaCellBackP
import Derived.Test.YtgafnilcmhjpcaaBend15
namespace Go.Proofs.Ytgafnilcmhjpcaa.HCell
set_option linter.unusedVariables false
open Go.RowKit Go.Proofs.Ytgafnilcmhjpcaa.HMem Go.Proofs.Ytgafnilcmhjpcaa.HHist Go.Proofs.Ytgafnilcmhjpcaa.HWide Go.Proofs.Ytgafnilcmhjpcaa.HBend
open Go.Proofs.Ytgafnilcmhjpcaa.Print (I64)

set_option maxHeartbeats 8000000 in
set_option maxRecDepth 20000 in
theorem CellGets_any (w : World) (fr : Int) (b0 : Nat) (v : Value) (ns : List Int) (s : ByteArray) (own : Bool) (at_ : Int) (y : Nat) (hf : I64 fr) (hb0 : b0 < 256) (hat : I64 at_) (hy : y < 256) (hv : NRow .i64 w v ns) (hi : ∀ x ∈ ns, I64 x) (hs : s.size ≤ 140737488351232) :
    Calls Try.prog 3 #[.int .i64 fr, .int .u8 b0, v, .string s, .bool own, .int .i64 at_, .int .u8 y] w fun e w' => e = .returned (.bool true) ∧ Below w.heap.size w w' := by
  have hat1 : -9223372036854775808 ≤ at_ ∧ at_ ≤ 9223372036854775807 := hat
  obtain ⟨a, cp, rfl, hcap, hmax, hcells⟩ := hv.form
  have HCELLS := Lib.hid hcells
  have HAT := Lib.hid hat1
  have HF := Lib.hid hf
  have HI := Lib.hid hi
  obtain ⟨n, hn⟩ : ∃ n, n = ns.length := ⟨_, rfl⟩
  have HN := Lib.hid hn
  rw [← hn] at hcap ⊢
  clear hv hcells hn hat hat1 hf hi
  go_enter Try.func3, Try.ntmps3
  go_wp2_with fail
  refine (examples_any _).mono ?_
  rintro e w1 ⟨rfl, b1⟩
  have B1 := Lib.hid b1
  clear b1
  cases own
  case' false =>
    obtain ⟨t, ht⟩ : ∃ t, t = s := ⟨_, rfl⟩
    rw [← ht] at hs ⊢
    have hts : t.size ≤ 140737488355328 := by omega
    clear ht hs
    have BZ := B1
    rename World => wz
    clear B1
  case' true =>
    go_wp2_with fail
    obtain ⟨b, hb⟩ : ∃ b, b = b0 % 5 := ⟨_, rfl⟩
    have hb4 : b ≤ 4 := by omega
    rw [show (b0 : Int) % 5 = (b : Int) by omega]
    clear hb
    refine (rcNew_yes fr b w1 hb4).mono ?_
    rintro e w2 ⟨p, G, rfl, k2, hG, b2⟩
    obtain ⟨B, hB⟩ : ∃ B, B = w1.heap.size := ⟨_, rfl⟩
    have HB := Lib.hid hB
    have S2 := Lib.hid (show RSC B w2 p (newC fr b) from ⟨G, k2, COk.new fr b HF.out hb4, fun g hg => by rw [hB]; exact hG g hg⟩)
    have B2 := Lib.hid (show Below B w1 w2 by rw [hB]; exact b2)
    clear k2 hG b2 hB
    go_wp2_with fail
    go_loopw [17] (fun x wr => ∃ j : Nat, j ≤ n ∧ j ≤ 20 ∧ x = .int .i64 j ∧ RSC B wr p (ofC fr b (ns.take j)) ∧ Below B w1 wr) (fun x _ => n - (intOf x).toNat)
    case atStart => exact ⟨0, Nat.zero_le _, by omega, rfl, S2.out, B2.out⟩
    case round =>
      obtain ⟨j, hj, hj20, rfl, hh, bb⟩ := hrel
      have HH := Lib.hid hh
      have BB := Lib.hid bb
      have BW := Lib.hid (show Below w.heap.size w wr from B1.out.trans (bb.mono (by rw [HB.out]; exact B1.out.size)))
      have hBw : B ≤ wr.heap.size := by have := bb.size; have := HB.out; omega
      clear hh bb
      by_cases hlt : j < n ∧ j < 20
      · obtain ⟨hl1, hl2⟩ := hlt
        have q1 : (j : Int) < n := by omega
        have q2 : (j : Int) < 20 := by omega
        obtain ⟨x, hx⟩ : ∃ x, ns[j]? = some x := ⟨_, List.getElem?_eq_getElem (by rw [← HN.out]; exact hl1)⟩
        obtain ⟨a', rfl, hc⟩ := HCELLS.out j x hx
        have c0 : wr.cell? (a'.add j) = some (.int .i64 x) := (BW.out.cell (World.block_lt_of_cell? _ _ hc)).trans hc
        have ET := Lib.hid (ofC_take fr b ns j x hx)
        have K := Lib.hid (rc_add HH.out hBw x (HI.out x (List.mem_of_getElem? hx)))
        have hlt' := Lib.hid (And.intro hl1 hl2)
        clear hx hc hl1 hl2
        go_wp2_with fail
        refine K.out.mono ?_
        rintro e w6 ⟨rfl, s6, b6⟩
        have S6 := Lib.hid s6
        have B6 := Lib.hid (BB.out.trans b6)
        clear s6 b6 K c0
        go_wp2
        go_roundw
        case rel => exact ⟨j + 1, by have := hlt'.out; omega, by have := hlt'.out; omega, by go_num, by rw [ET.out]; exact S6.out, B6.out⟩
        case measure => have := hlt'.out; simp [intOf]; omega
      obtain ⟨G', kc, oc, gc⟩ := HH.out
      obtain ⟨C, hC⟩ : ∃ C, C = ofC fr b (ns.take j) := ⟨_, rfl⟩
      obtain ⟨u, hGd, hT, _, _⟩ := ofC_good fr b (ns.take j) HF.out hb4 (fun x hx => HI.out x (List.mem_of_mem_take hx)) (by rw [List.length_take]; omega)
      rw [← hC] at kc oc hT
      have hTl : total C.l ≤ 20 := by rw [hT, List.length_take]; omega
      have hlen : C.l.length ≤ 20 := by have := len_le_total C.l (fun x hx => (oc.h.item x hx).1); omega
      obtain ⟨P, hP⟩ : ∃ P, P = strOfNums (encC C) := ⟨_, rfl⟩
      have hPs : P.size ≤ 243 := by
        have h1 := encC_length C oc
        rw [ub_length] at h1
        rw [hP, strOfNums_size]
        omega
      have KP := Lib.hid (show Calls Try.prog 13 #[.pointer (some ⟨p, 0, none⟩)] wr fun e w' => e = .returned (.string P) ∧ Below wr.heap.size wr w' by rw [hP]; exact rcPut_any kc oc)
      have hPb : P.size + s.size ≤ 9223372036854775807 := by omega
      have hPb2 : (P.size : Int) + (s.size : Int) ≤ 9223372036854775807 := by omega
      have hPS := Lib.hid (show (P ++ s).size ≤ 140737488355328 by rw [ByteArray.size_append]; omega)
      clear kc oc gc hC hGd hT hTl hP hlen BB S2 HH
      by_cases hl1 : j < n
      case' pos =>
        obtain rfl : j = 20 := by omega
        have q1 : (20 : Int) < n := by omega
        clear hlt hl1
        go_wp2_with fail
      case' neg =>
        obtain rfl : j = n := by omega
        clear hlt hl1 hj
        go_wp2_with fail
      all_goals
        refine KP.out.mono ?_
        rintro e w3 ⟨rfl, b3⟩
        have B4 := Lib.hid (BW.out.trans (b3.mono BW.out.size))
        clear b3 KP
        go_wp2_with fail
        refine (Bend_any (P ++ s) at_ y w3 HAT.out ⟨by omega, by omega⟩ hPS.out).mono ?_
        rintro e wz ⟨rfl, b5⟩
        have BZ := Lib.hid (B4.out.trans (b5.mono B4.out.size))
        obtain ⟨t, ht⟩ : ∃ t, t = bendS (P ++ s) at_ y := ⟨_, rfl⟩
        have hts : t.size ≤ 140737488355328 := by rw [ht, bendS_size]; exact hPS.out
        rw [← ht]
        clear b5 ht hPb hPb2 hPs hPS HAT
        go_wp2_with fail
        refine (HCell.Get_any t wz hts).mono ?_
        rintro e wa ⟨⟨hd, rfl⟩ | ⟨c1, r1, p1, G1, hd, rfl, k1, o1, g1⟩, ba⟩
        · have BA := Lib.hid (BZ.out.trans (ba.mono BZ.out.size))
          have HD := Lib.hid hd
          clear ba hd
          go_wp2_with fail
          refine (rcGet_any t wa hts).mono ?_
          rintro e wb ⟨⟨hd2, rfl⟩ | ⟨c2, r2, p2, G2, hd2, rfl, k2, o2, g2⟩, bb⟩
          rotate_left
          · rw [HD.out] at hd2; cases hd2
          have BBB := Lib.hid (BA.out.trans (bb.mono BA.out.size))
          clear bb hd2
          go_wp2_with fail
          refine (alike_none wb).mono ?_
          rintro e wc ⟨rfl, bc⟩
          have BC := Lib.hid (BBB.out.trans (bc.mono BBB.out.size))
          clear bc
          go_wp2
          go_ret
          exact ⟨by first | rfl | simp, BC.out⟩
        · have BA := Lib.hid (BZ.out.trans (ba.mono BZ.out.size))
          have HD := Lib.hid hd
          have K1 := Lib.hid k1
          have O1 := Lib.hid o1
          clear ba hd k1 o1 g1
          go_wp2_with fail
          refine (rcGet_any t wa hts).mono ?_
          rintro e wb ⟨⟨hd2, rfl⟩ | ⟨c2, r2, p2, G2, hd2, rfl, k2, o2, g2⟩, bb⟩
          · rw [HD.out] at hd2; cases hd2
          rw [HD.out] at hd2
          injection hd2 with hd2
          injection hd2 with hd2 hd3
          subst hd2
          obtain rfl : r1 = r2 := ByteArray.ext (Array.toList_inj.1 hd3)
          have BBB := Lib.hid (BA.out.trans (bb.mono BA.out.size))
          have K1B := Lib.hid (K1.out.mono bb)
          have K2 := Lib.hid k2
          have tself := str_self r1
          clear bb k2 o2 g2 hd3
          go_wp2_with fail
          refine (alike_some K1B.out K2.out O1.out).mono ?_
          rintro e wc ⟨rfl, bc⟩
          have BC := Lib.hid (BBB.out.trans (bc.mono BBB.out.size))
          clear bc
          go_wp2
          go_ret
          exact ⟨by first | rfl | simp, BC.out⟩
  all_goals
    go_wp2_with fail
    refine (HCell.Get_any t wz hts).mono ?_
    rintro e wa ⟨⟨hd, rfl⟩ | ⟨c1, r1, p1, G1, hd, rfl, k1, o1, g1⟩, ba⟩
    · have BA := Lib.hid (BZ.out.trans (ba.mono BZ.out.size))
      have HD := Lib.hid hd
      clear ba hd
      go_wp2_with fail
      refine (rcGet_any t wa hts).mono ?_
      rintro e wb ⟨⟨hd2, rfl⟩ | ⟨c2, r2, p2, G2, hd2, rfl, k2, o2, g2⟩, bb⟩
      rotate_left
      · rw [HD.out] at hd2; cases hd2
      have BBB := Lib.hid (BA.out.trans (bb.mono BA.out.size))
      clear bb hd2
      go_wp2_with fail
      refine (alike_none wb).mono ?_
      rintro e wc ⟨rfl, bc⟩
      have BC := Lib.hid (BBB.out.trans (bc.mono BBB.out.size))
      clear bc
      go_wp2
      go_ret
      exact ⟨by first | rfl | simp, BC.out⟩
    · have BA := Lib.hid (BZ.out.trans (ba.mono BZ.out.size))
      have HD := Lib.hid hd
      have K1 := Lib.hid k1
      have O1 := Lib.hid o1
      clear ba hd k1 o1 g1
      go_wp2_with fail
      refine (rcGet_any t wa hts).mono ?_
      rintro e wb ⟨⟨hd2, rfl⟩ | ⟨c2, r2, p2, G2, hd2, rfl, k2, o2, g2⟩, bb⟩
      · rw [HD.out] at hd2; cases hd2
      rw [HD.out] at hd2
      injection hd2 with hd2
      injection hd2 with hd2 hd3
      subst hd2
      obtain rfl : r1 = r2 := ByteArray.ext (Array.toList_inj.1 hd3)
      have BBB := Lib.hid (BA.out.trans (bb.mono BA.out.size))
      have K1B := Lib.hid (K1.out.mono bb)
      have K2 := Lib.hid k2
      have tself := str_self r1
      clear bb k2 o2 g2 hd3
      go_wp2_with fail
      refine (alike_some K1B.out K2.out O1.out).mono ?_
      rintro e wc ⟨rfl, bc⟩
      have BC := Lib.hid (BBB.out.trans (bc.mono BBB.out.size))
      clear bc
      go_wp2
      go_ret
      exact ⟨by first | rfl | simp, BC.out⟩
theorem CellGets_int (w : World) (fr : Int) (b0 : Int) (v : Value) (ns : List Int) (s : ByteArray) (own : Bool) (at_ : Int) (y : Int) (hf : I64 fr) (hb0 : 0 ≤ b0 ∧ b0 ≤ 255) (hat : I64 at_) (hy : 0 ≤ y ∧ y ≤ 255) (hv : NRow .i64 w v ns) (hi : ∀ x ∈ ns, I64 x) (hs : s.size ≤ 140737488351232) :
    Calls Try.prog 3 #[.int .i64 fr, .int .u8 b0, v, .string s, .bool own, .int .i64 at_, .int .u8 y] w fun e w' => e = .returned (.bool true) ∧ Below w.heap.size w w' := by
  obtain ⟨m, rfl⟩ := Int.eq_ofNat_of_zero_le hb0.1
  obtain ⟨k, rfl⟩ := Int.eq_ofNat_of_zero_le hy.1
  exact CellGets_any w fr m v ns s own at_ k hf (by omega) hat (by omega) hv hi hs
end Go.Proofs.Ytgafnilcmhjpcaa.HCell
