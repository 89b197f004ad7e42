/- CellFalse: bytes that tell a sum, a least, or a most that can't be are none. Conditions: the parameters' ranges. -/
import Derived.Test.YtgafnilcmhjpcaaCellFalseP
import Derived.Test.YtgafnilcmhjpcaaApp
import Derived.Test.YtgafnilcmhjpcaaQMid
namespace Go.Proofs.Ytgafnilcmhjpcaa.HCell
set_option linter.unusedVariables false
open Go.RowKit Go.Proofs.Ytgafnilcmhjpcaa.HMem Go.Proofs.Ytgafnilcmhjpcaa.HHist Go.Proofs.Ytgafnilcmhjpcaa.HWide Go.Proofs.Ytgafnilcmhjpcaa.HApp
open Go.Proofs.Ytgafnilcmhjpcaa.Print (I64)

def I32 (x : Int) : Prop := -2147483648 ≤ x ∧ x ≤ 2147483647
theorem I32.i64 {x : Int} (h : I32 x) : I64 x := by unfold I32 at h; unfold Print.I64; omega
theorem i64_wrap {x : Int} (h : I64 x) : IntKind.i64.wrap x = x := by unfold Print.I64 at h; rw [IntKind.wrap_i64]; omega
theorem Zs_nrow' {k : IntKind} {e : TypeId} {B : Nat} {w : World} {v : Value} {l : List Int} (h : Zs e k B w v l) : NRow k w v l := by
  rcases h.2 with ⟨rfl, h0⟩ | ⟨g, cap, cur, rfl, hg, hcur, hnc, hcm, hsz, htake⟩
  · exact .inl ⟨rfl, List.length_eq_zero_iff.1 h0⟩
  · obtain ⟨a, c, e, h2, h3, h4, h5⟩ := h.form
    cases e
    exact .inr ⟨_, _, rfl, h2, h3, fun i x hx => by obtain ⟨a', e, hc⟩ := h5 i x hx; cases e; exact hc⟩
theorem infoI3 : (Try.prog.info? 2).map (fun i => (i.zero, i.size, i.bytes)) = some (some (.int .i64 0), 1, 8) := by kernel_rfl
theorem Zs_one (B : Nat) (w : World) (x : Int) (hB : B ≤ w.heap.size) : Zs 2 .i64 B (w.alloc (.cells #[.int .i64 x] 2)) (.slice (some ⟨w.heap.size, 0, none⟩) 1 1) [x] :=
  ⟨rfl, .inr ⟨w.heap.size, 1, _, rfl, hB, heap_alloc_new w _, Nat.le_refl _, by unfold maxLen; omega, rfl, rfl⟩⟩
set_option maxHeartbeats 8000000 in
set_option maxRecDepth 20000 in
theorem CellFalse_any (w : World) (fine : Nat) (n : Int) (v : Value) (ls : List Int) (how by_ : Nat) (hfi : fine < 256) (hn : I32 n) (hv : NRow .i32 w v ls) (hi : ∀ x ∈ ls, I32 x) (hho : how < 256) (hby : by_ < 256) :
    Calls Try.prog 4 #[.int .u8 fine, .int .i32 n, v, .int .u8 how, .int .u8 by_] w fun e w' => e = .returned (.bool true) ∧ Below w.heap.size w w' := by
  obtain ⟨i0, hi0, hz0, hz1, hz2⟩ : ∃ i, Try.prog.info? 2 = some i ∧ i.zero = some (.int .i64 0) ∧ i.size = 1 ∧ i.bytes = 8 := by
    have := infoI3
    cases h : Try.prog.info? 2 with
    | none => rw [h] at this; cases this
    | some i => rw [h] at this; simp at this; exact ⟨i, rfl, this.1, this.2.1, this.2.2⟩
  have HVL := Lib.hid hv
  obtain ⟨a, cp, rfl, hcap, hmax, _⟩ := hv.form
  clear hv
  obtain ⟨q, hq⟩ : ∃ q, q = ls.length := ⟨_, rfl⟩
  rw [← hq] at hcap HVL ⊢
  have HQ := Lib.hid hq
  have HI := Lib.hid hi
  obtain ⟨b, hb⟩ : ∃ b, b = fine % 5 := ⟨_, rfl⟩
  have hb4 : b ≤ 4 := by omega
  have EB := Lib.hid (show ((fine : Nat) : Int) % 5 = (b : Int) by omega)
  obtain ⟨h3, hh3⟩ : ∃ b, b = how % 3 := ⟨_, rfl⟩
  have hh33 : h3 < 3 := by omega
  have E3 := Lib.hid (show ((how : Nat) : Int) % 3 = (h3 : Int) by omega)
  have HN := Lib.hid hn
  have ewn := i64_wrap hn.i64
  obtain ⟨m, hm⟩ : ∃ m, m = min q 19 := ⟨_, rfl⟩
  have hmq : m ≤ q := by omega
  have hm19 : m ≤ 19 := by omega
  have HM := Lib.hid hm
  clear hb hq hi hh3 hn hm
  go_enter Try.func4, Try.ntmps4
  go_wp2_with fail
  refine (examples_any w).mono ?_
  rintro e w1 ⟨rfl, b1⟩
  have B1 := Lib.hid b1
  have Z1 := Lib.hid (Zs_one w1.heap.size w1 n (Nat.le_refl _))
  have BA := Lib.hid (show Below w1.heap.size w1 (w1.alloc (.cells #[.int .i64 n] 2)) from (Below.refl _ _).alloc (Nat.le_refl _) _)
  clear b1
  go_upto_block 0 with fail
  go_cut [12, 13] from 34 to 51 (fun v i wc => Zs 2 .i64 w1.heap.size wc v (n :: ls.take m) ∧ Below w1.heap.size w1 wc)
  case first =>
    go_wp2_with fail
    go_loopw [12, 13] (fun y i wr => ∃ (v : Value) (j : Nat), v = y ∧ i = .int .i64 j ∧ j ≤ m ∧ Zs 2 .i64 w1.heap.size wr v (n :: ls.take j) ∧ Below w1.heap.size w1 wr) (fun _ i _ => m - (intOf i).toNat)
    case atStart => exact ⟨_, 0, rfl, rfl, Nat.zero_le _, by simpa using Z1.out, BA.out⟩
    case round =>
      obtain ⟨v, j, rfl, rfl, hj, zz, bb⟩ := hrel
      have ZZ := Lib.hid zz
      have BB := Lib.hid bb
      clear zz bb Z1 BA
      by_cases hlt : j < m
      · have hj1 : (j : Int) < q := by omega
        have hj2 : (j : Int) < 19 := by omega
        have hj3 : 0 ≤ (j : Int) := by omega
        have LR := HVL.out.mono (B1.out.trans (BB.out.mono B1.out.size))
        obtain ⟨x, hx⟩ : ∃ x, ls[j]? = some x := ⟨_, List.getElem?_eq_getElem (by rw [← HQ.out]; omega)⟩
        obtain ⟨ad, rfl⟩ : ∃ ad, a = some ad := by
          cases a with
          | none => have := (LR.none rfl).1; omega
          | some ad => exact ⟨ad, rfl⟩
        have c0 := LR.cells.2 ad rfl j x hx
        have HX : I64 x := (HI.out x (List.mem_of_getElem? hx)).i64
        have ewx := i64_wrap HX
        have ER := Lib.hid (show n :: ls.take (j + 1) = (n :: ls.take j) ++ [x] by rw [List.take_add_one, hx]; rfl)
        obtain ⟨xs, hxs⟩ : ∃ xs, xs = n :: ls.take j := ⟨_, rfl⟩
        have hxl : xs.length ≤ 20 := by rw [hxs]; simp; omega
        rw [← hxs] at ZZ ER
        obtain ⟨p, hp⟩ : ∃ p, p = xs.length := ⟨_, rfl⟩
        rw [← hp] at hxl
        have HP := Lib.hid hp
        have OWN := Lib.hid (show (wr.alloc (.cells #[.int .i64 x] 2)).ownsRow w1.heap.size 2 1 v p (vz .i64 xs) by
          have := ZZ.out.mono ((Below.refl wr.heap.size wr).alloc (Nat.le_refl _) (.cells #[.int .i64 x] 2))
          unfold Zs at this
          rw [hp]
          exact this)
        have hWr : w1.heap.size ≤ wr.heap.size := BB.out.size
        clear LR hx hxs hp HX
        go_wp2_with (at_builtin; refine append_any _ rfl _ _ 22 rfl w1.heap.size 2 i0 (.int .i64 0) 1 8 Try.underlying22 hi0 hz0 hz1 hz2 rfl (by decide) _ p (vz .i64 xs) rfl OWN.out (some ⟨wr.heap.size, 0, none⟩) 1 1 [.int .i64 x] rfl ?c0 rfl ?c2 ?c3 ?c4 ?c5 ?c6 ?_)
        case c0 => intro h; cases h
        case c2 => intro ad h; cases h; exact cell_one_new _ _ _
        case c3 => intro u hu; simp at hu; subst hu; rfl
        case c4 => unfold maxLen; omega
        case c5 => omega
        case c6 => exact Nat.le_trans hWr (by simp)
        intro v3 w4 o3 b3
        have bb : Below w1.heap.size wr w4 := ((Below.refl _ wr).alloc hWr _).trans b3
        have B4 := Lib.hid (BB.out.trans bb)
        have Z4 := Lib.hid (show Zs 2 .i64 w1.heap.size w4 v3 (n :: ls.take (j + 1)) by
          rw [ER.out]
          unfold Zs
          rw [List.length_append, ← HP.out, vz_append]
          exact o3)
        clear c0 o3 b3 bb OWN ZZ BB
        go_wp2_with fail
        go_roundw
        case rel => exact ⟨v3, j + 1, rfl, by go_num, by omega, Z4.out, B4.out⟩
        case measure => first | (simp [intOf]; done) | (simp [intOf]; omega)
      · have hjm : j = m := by omega
        subst hjm
        have hm2 := HM.out
        by_cases hq2 : (j : Int) < q
        · have hj2 : ¬ (j : Int) < 19 := by omega
          clear hm2
          go_wp2_with fail
          go_meet
          case rel => exact ⟨ZZ.out, BB.out⟩
        · clear hm2
          go_wp2_with fail
          go_meet
          case rel => exact ⟨ZZ.out, BB.out⟩
  case rest =>
    obtain ⟨zz, bb⟩ := hcut
    obtain ⟨ns, hns⟩ : ∃ ns, ns = n :: ls.take m := ⟨_, rfl⟩
    have hnl : ns.length = m + 1 := by rw [hns, List.length_cons, List.length_take, ← HQ.out]; omega
    have hnz : ∀ x ∈ ns, I64 x := fun x hx => by
      rw [hns] at hx
      rcases List.mem_cons.1 hx with rfl | hx
      · exact HN.out.i64
      · exact (HI.out x (List.mem_of_mem_take hx)).i64
    rw [← hns] at zz
    obtain ⟨N, hN⟩ : ∃ N, N = m + 1 := ⟨_, rfl⟩
    rw [← hN] at hnl
    have hN20 : N ≤ 20 := by omega
    have hN1 : 1 ≤ N := by omega
    have NR := zz
    obtain ⟨ax, cx, rfl, _, hcx, _, _⟩ := zz.form
    rw [hnl] at NR ⊢
    have NR2 := Lib.hid (Zs_nrow' NR)
    obtain ⟨C, hC⟩ : ∃ C, C = ofC 0 b ns := ⟨_, rfl⟩
    obtain ⟨u, hG, hT, hCb, hCf⟩ := ofC_good 0 b ns (by unfold Print.I64; omega) hb4 hnz (by omega)
    rw [← hC] at hG hT hCb hCf
    rw [hnl] at hT
    have hCl : C.l ≠ [] := fun e => by have := (total_zero hG.ok.h).2 e; omega
    have HG := Lib.hid hG
    have HT := Lib.hid hT
    have HCL := Lib.hid hCl
    have HC := Lib.hid hC
    have HNZ := Lib.hid hnz
    have HNL := Lib.hid hnl
    have BW := Lib.hid (show Below w.heap.size w wc from B1.out.trans (bb.mono B1.out.size))
    obtain ⟨T, hTT⟩ : ∃ T, T = strOfNums (encC C) := ⟨_, rfl⟩
    have hTl : T.data.toList = ub (encC C) := by rw [hTT, ub_data]
    have hTs : 43 ≤ T.size ∧ T.size ≤ 343 := by
      have h1 := encC_length C hG.ok
      have h2 := len_le_total C.l (fun x hx => (hG.ok.h.item x hx).1)
      rw [hT] at h2
      rw [hTT, strOfNums_size]
      rw [ub_length] at h1
      omega
    have HTL := Lib.hid hTl
    have HTS := Lib.hid hTs
    have KP := Lib.hid (fun (x : Nat) (g : List Nat) (z : World) (kk : CellAt z x g C) => HCell.Put_any kk hG.ok)
    rw [← hTT] at KP
    have eb := EB.out
    clear zz bb hns NR hG hT hCb hCf hC hnz hnl hTT hTl hCl hN hTs HVL Z1 BA hcap
    go_wp2_with fail
    refine (HCell.of_any wc 0 b _ ns hb4 (by unfold Print.I64; omega) NR2.out HNZ.out (by rw [HNL.out]; omega)).mono ?_
    rintro e w2 ⟨p, rfl, ⟨G, kc, oc, gc⟩, b2⟩
    rw [← HC.out] at kc oc
    have B2 := Lib.hid (BW.out.trans (b2.mono BW.out.size))
    have KC2 := Lib.hid kc
    clear kc oc gc b2
    have KBD := HCell.Bounds_any KC2.out
    rw [HT.out] at KBD
    go_wp2_with fail
    refine KBD.mono ?_
    rintro e w3 ⟨rfl, b3⟩
    have B3 := Lib.hid (B2.out.trans (b3.mono B2.out.size))
    have KC3 := Lib.hid (KC2.out.mono b3)
    clear b3 KBD
    go_wp2_with fail
    refine (KP.out p G w3 KC3.out).mono ?_
    rintro e w4 ⟨rfl, b4⟩
    have B4 := Lib.hid (B3.out.trans (b4.mono B3.out.size))
    clear b4 KC3 KC2 NR2
    have ts1 : decide ((T.size : Int) < 43) = false := by have := HTS.out; simp; omega
    have e3 := E3.out
    obtain ⟨lo, hlo⟩ : ∃ x, x = C.lo := ⟨_, rfl⟩
    obtain ⟨hi_, hhi⟩ : ∃ x, x = C.hi := ⟨_, rfl⟩
    rw [← hlo, ← hhi]
    have HLO := Lib.hid hlo
    have HHI := Lib.hid hhi
    clear hlo hhi
    obtain ⟨g, hg⟩ : ∃ g, g = w4.heap.size := ⟨_, rfl⟩
    obtain ⟨W, hW⟩ : ∃ W, W = w4.alloc (.cells #[.int .i64 0, .int .u64 0] 43) := ⟨_, rfl⟩
    have TW := Lib.hid (show two W g (0, 0) by rw [hW, hg]; exact heap_alloc_new w4 _)
    have BWW := Lib.hid (show Below g w4 W by rw [hW, hg]; exact (Below.refl _ _).alloc (Nat.le_refl _) _)
    have HW := Lib.hid hW
    have HGG := Lib.hid hg
    clear hW hg
    rcases (show h3 = 0 ∨ h3 = 1 ∨ h3 = 2 by omega) with rfl | rfl | rfl
    · have D0 : Good C u := HG.out
      go_wp2_with fail
      rw [← HW.out, ← HGG.out]
      rw [show ((how : Nat) : Int) % 3 = 0 from e3]
      go_loopw [20] (fun i wr => ∃ (j : Nat), i = .int .i64 j ∧ j ≤ N ∧ two wr g (nrm ((j : Int) * hi_)) ∧ Below g w4 wr) (fun i _ => N - (intOf i).toNat)
      case atStart => exact ⟨0, rfl, Nat.zero_le _, by
        have e : nrm (((0 : Nat) : Int) * hi_) = (0, 0) := by rw [show ((0 : Nat) : Int) * hi_ = 0 by simp]; decide +kernel
        rw [e]; exact TW.out, BWW.out⟩
      case round =>
        obtain ⟨j, rfl, hj, tt, bb⟩ := hrel
        have TT := Lib.hid tt
        have BB := Lib.hid bb
        clear tt bb
        have HX : I64 hi_ := by rw [HHI.out]; exact HG.out.ok.hi
        have HXX := Lib.hid HX
        rcases Nat.lt_or_ge j N with hlt | hge
        · have hj1 : (j : Int) < N := by omega
          have hxb : -9223372036854775808 ≤ hi_ ∧ hi_ ≤ 9223372036854775807 := HX
          have hjx : -10141204801825835211973625643008 ≤ (j : Int) * hi_ ∧ (j : Int) * hi_ ≤ 10141204801825835211973625643008 := by
            have := prod_bound hi_ j HX (by omega)
            rw [Int.mul_comm] at this
            exact this
          have SUM := Lib.hid (show nrm (val (nrm ((j : Int) * hi_)).1 (nrm ((j : Int) * hi_)).2 + val (nrm hi_).1 (nrm hi_).2) = nrm (((j + 1 : Nat) : Int) * hi_) by
            rw [sum_step _ _ hjx (by omega), Int.natCast_add, Int.add_mul, show ((1 : Nat) : Int) * hi_ = hi_ by simp])
          obtain ⟨p0, hp⟩ : ∃ p, p = nrm ((j : Int) * hi_) := ⟨_, rfl⟩
          obtain ⟨r, hr⟩ : ∃ r, r = nrm (((j + 1 : Nat) : Int) * hi_) := ⟨_, rfl⟩
          obtain ⟨s, hs⟩ : ∃ s, s = nrm hi_ := ⟨_, rfl⟩
          have hp1 := nrm_rng ((j : Int) * hi_)
          have hs1 := nrm_rng hi_
          rw [← hp, ← hr, ← hs] at SUM
          rw [← hp] at hp1 TT
          rw [← hs] at hs1
          have K1 := Lib.hid (show ∀ v, Below wr.heap.size wr v → Calls Try.prog 21 #[.int .i64 hi_] v fun e w' => e = .returned (.agg #[.int .i64 s.1, .int .u64 s.2]) ∧ Below v.heap.size v w' from fun v hv => by rw [hs]; exact HWide.Of_any hi_ v HXX.out)
          have K2 := Lib.hid (show ∀ v, Below wr.heap.size wr v → Calls Try.prog 20 #[.agg #[.int .i64 p0.1, .int .u64 p0.2], .agg #[.int .i64 s.1, .int .u64 s.2]] v fun e w' => e = .returned (.agg #[.int .i64 r.1, .int .u64 r.2]) ∧ Below v.heap.size v w' from fun v hv => by
            unfold Rng at hp1 hs1
            have := HWide.Add_any p0.1 p0.2 s.1 s.2 v hp1.2.2.1 hp1.2.2.2 hs1.2.2.1 hs1.2.2.2
            rw [SUM.out] at this
            exact this)
          have HR := Lib.hid hr
          obtain ⟨x0, x1, _, _⟩ := TT.out.c
          have hgr : g < wr.heap.size := heap_lt (show wr.heap[g]? = some (.cells #[.int .i64 p0.1, .int .u64 p0.2] 43 (0, 0)) from TT.out)
          clear hp hr hs hp1 hs1 hxb hjx HX D0
          go_wp2_with fail
          refine QTail.wp_region_quiet_tail (C := fun w' => Below wr.heap.size wr w') 4 (by kernel_rfl) (by kernel_rfl) ((Below.refl _ _).drew) ?_
          simp only [List.take_succ_cons, List.take_zero]
          repeat (
            with_reducible refine wpQuiet_step (fun K hK => ?_)
            go_simp
            first
              | (with_reducible refine hK _ ?_; clear hK K)
              | (refine hK _ ?_; clear hK K)
              | (apply Exists.intro
                 refine ⟨fun v hv => ?_, hK _ ?_⟩
                 (first
                   | with_reducible rfl
                   | (with_reducible show Calls _ _ _ _ _
                      first
                        | with_reducible refine Calls.mono (K1.out _ hv) ?_
                        | with_reducible refine Calls.mono (K2.out _ hv) ?_
                      rintro e w' ⟨rfl, hb⟩
                      exact ⟨rfl, hv.trans (hb.mono hv.size)⟩)
                   | (have d0 := (hv.cell (World.block_lt_of_cell? _ _ x0)).trans x0
                      have d1 := (hv.cell (World.block_lt_of_cell? _ _ x1)).trans x1
                      go_simp
                      with_reducible rfl))
                 clear hK K))
          refine wpQuiet_nil ?_
          intro wf hk
          simp only [List.drop_succ_cons, List.drop_zero]
          have TF := TT.out.mono hk
          replace x0 := (hk.cell hgr).trans x0
          replace x1 := (hk.cell hgr).trans x1
          obtain ⟨_, _, f0, f1⟩ := TF.c
          have RT := Lib.hid (two.set TF r)
          have BF := Lib.hid (Below.setCell (Below.setCell (BB.out.trans (hk.mono (by rw [HGG.out]; exact BB.out.size))) (show g ≤ (Addr.block ⟨g, 0, none⟩) from Nat.le_refl _) (.int .i64 r.1)) (show g ≤ (Addr.block ⟨g, 1, none⟩) from Nat.le_refl _) (.int .u64 r.2))
          clear hk TF K1 K2
          go_wp2
          go_roundw
          case rel => exact ⟨j + 1, by go_num, by omega, by rw [← HR.out]; exact RT.out, BF.out⟩
          case measure => first | (simp [intOf]; done) | (simp [intOf]; omega)
        · have hjN : j = N := by omega
          subst hjN
          have hj1 : ¬ (j : Int) < (j : Int) := by omega
          obtain ⟨y, hy⟩ : ∃ y, y = (1 + ((by_ : Nat) : Int)) := ⟨_, rfl⟩
          have HY : I64 y := by rw [hy]; unfold Print.I64; omega
          obtain ⟨z, hz⟩ : ∃ z, z = (j : Int) * hi_ + y := ⟨_, rfl⟩
          have hjx : -10141204801825835211973625643008 ≤ (j : Int) * hi_ ∧ (j : Int) * hi_ ≤ 10141204801825835211973625643008 := by
            have := prod_bound hi_ j HX (by omega)
            rw [Int.mul_comm] at this
            exact this
          have hyb : -9223372036854775808 ≤ y ∧ y ≤ 9223372036854775807 := HY
          have SUM := Lib.hid (show nrm (val (nrm ((j : Int) * hi_)).1 (nrm ((j : Int) * hi_)).2 + val (nrm y).1 (nrm y).2) = nrm z by
            rw [sum_step _ _ hjx (by omega), hz])
          have HRF : rightC { C with s := nrm z } = false := by
            have := HT.out
            refine right_high HG.out HCL.out z ?_ (by omega)
            rw [this, ← HHI.out, hz, hy, Int.mul_comm]
            omega
          obtain ⟨p0, hp⟩ : ∃ p, p = nrm ((j : Int) * hi_) := ⟨_, rfl⟩
          obtain ⟨r, hr⟩ : ∃ r, r = nrm z := ⟨_, rfl⟩
          obtain ⟨s, hs⟩ : ∃ s, s = nrm y := ⟨_, rfl⟩
          have hp1 := nrm_rng ((j : Int) * hi_)
          have hs1 := nrm_rng y
          rw [← hp, ← hr, ← hs] at SUM
          rw [← hp] at hp1 TT
          rw [← hs] at hs1
          have K1 := Lib.hid (show ∀ v, Below wr.heap.size wr v → Calls Try.prog 21 #[.int .i64 y] v fun e w' => e = .returned (.agg #[.int .i64 s.1, .int .u64 s.2]) ∧ Below v.heap.size v w' from fun v hv => by rw [hs]; exact HWide.Of_any y v HY)
          have K2 := Lib.hid (show ∀ v, Below wr.heap.size wr v → Calls Try.prog 20 #[.agg #[.int .i64 p0.1, .int .u64 p0.2], .agg #[.int .i64 s.1, .int .u64 s.2]] v fun e w' => e = .returned (.agg #[.int .i64 r.1, .int .u64 r.2]) ∧ Below v.heap.size v w' from fun v hv => by
            unfold Rng at hp1 hs1
            have := HWide.Add_any p0.1 p0.2 s.1 s.2 v hp1.2.2.1 hp1.2.2.2 hs1.2.2.1 hs1.2.2.2
            rw [SUM.out] at this
            exact this)
          have ewy : IntKind.i64.wrap (1 + ((by_ : Nat) : Int)) = y := by rw [← hy]; exact i64_wrap HY
          have ewy2 : IntKind.i64.wrap y = y := i64_wrap HY
          have ewb : IntKind.i64.wrap ((by_ : Nat) : Int) = ((by_ : Nat) : Int) := i64_wrap (by unfold Print.I64; omega)
          have hy2 : (1 + ((by_ : Nat) : Int)) = y := hy.symm
          have DEC := Lib.hid (show decC (ub (encC { C with s := r })) = none by
            have := decC_any { C with s := r } (by rw [hr]; exact ok_sum HG.out.ok z) []
            rw [List.append_nil] at this
            rw [this, if_neg]
            rw [hr, HRF]
            decide)
          obtain ⟨x0, x1, _, _⟩ := TT.out.c
          have hgr : g < wr.heap.size := heap_lt (show wr.heap[g]? = some (.cells #[.int .i64 p0.1, .int .u64 p0.2] 43 (0, 0)) from TT.out)
          clear hp hr hs hp1 hs1 hjx HX D0 hyb HRF hz HY hy
          go_wp2_with fail
          refine QTail.wp_region_quiet_tail (C := fun w' => Below wr.heap.size wr w') 6 (by kernel_rfl) (by kernel_rfl) ((Below.refl _ _).drew) ?_
          simp only [List.take_succ_cons, List.take_zero]
          repeat (
            with_reducible refine wpQuiet_step (fun K hK => ?_)
            go_simp
            first
              | (with_reducible refine hK _ ?_; clear hK K)
              | (refine hK _ ?_; clear hK K)
              | (apply Exists.intro
                 refine ⟨fun v hv => ?_, hK _ ?_⟩
                 (first
                   | with_reducible rfl
                   | (with_reducible show Calls _ _ _ _ _
                      first
                        | with_reducible refine Calls.mono (K1.out _ hv) ?_
                        | with_reducible refine Calls.mono (K2.out _ hv) ?_
                      rintro e w' ⟨rfl, hb⟩
                      exact ⟨rfl, hv.trans (hb.mono hv.size)⟩)
                   | (have d0 := (hv.cell (World.block_lt_of_cell? _ _ x0)).trans x0
                      have d1 := (hv.cell (World.block_lt_of_cell? _ _ x1)).trans x1
                      go_simp
                      with_reducible rfl))
                 clear hK K))
          refine wpQuiet_nil ?_
          intro wf hk
          simp only [List.drop_succ_cons, List.drop_zero]
          have TF := TT.out.mono hk
          replace x0 := (hk.cell hgr).trans x0
          replace x1 := (hk.cell hgr).trans x1
          obtain ⟨_, _, f0, f1⟩ := TF.c
          have RT := Lib.hid (two.set TF r)
          have BF := Lib.hid (Below.setCell (Below.setCell (BB.out.trans (hk.mono (by rw [HGG.out]; exact BB.out.size))) (show g ≤ (Addr.block ⟨g, 0, none⟩) from Nat.le_refl _) (.int .i64 r.1)) (show g ≤ (Addr.block ⟨g, 1, none⟩) from Nat.le_refl _) (.int .u64 r.2))
          clear hk TF K1 K2 TT
          obtain ⟨V, hV⟩ : ∃ V, V = (wf.setCell ⟨g, 0, none⟩ (.int .i64 r.1)).setCell ⟨g, 1, none⟩ (.int .u64 r.2) := ⟨_, rfl⟩
          rw [← hV] at RT BF
          have HV := Lib.hid hV
          have B5 := Lib.hid (show Below w.heap.size w V from B4.out.trans (BF.out.mono (by rw [HGG.out]; exact B4.out.size)))
          clear hV
          go_wp2_with fail
          rw [← HV.out]
          clear x0 x1 f0 f1
          obtain ⟨x0, x1, _, _⟩ := RT.out.c
          have ts8 : (8 : Int) ≤ T.size := by have := HTS.out; omega
          have ts24 : (24 : Int) ≤ T.size := by have := HTS.out; omega
          obtain ⟨P, hP⟩ : ∃ P, P = strOfNums (putN r.1 r.2) := ⟨_, rfl⟩
          have hPs : P.size = 16 := by rw [hP, strOfNums_size]; simp [putN]
          have hPl : P.data.toList = ub (putN r.1 r.2) := by rw [hP, ub_data]
          obtain ⟨A1, hA1⟩ : ∃ A, A = T.extract 0 8 := ⟨_, rfl⟩
          obtain ⟨A2, hA2⟩ : ∃ A, A = T.extract 24 T.size := ⟨_, rfl⟩
          have hA1s : A1.size = 8 := by rw [hA1, ByteArray.size_extract]; have := HTS.out; omega
          have hA2s : A2.size ≤ 343 := by rw [hA2, ByteArray.size_extract]; have := HTS.out; omega
          obtain ⟨U1, hU1⟩ : ∃ U, U = A1 ++ P := ⟨_, rfl⟩
          obtain ⟨U2, hU2⟩ : ∃ U, U = U1 ++ A2 := ⟨_, rfl⟩
          have hU1s : U1.size = 24 := by rw [hU1, ByteArray.size_append, hA1s, hPs]
          have hU2s : U2.size ≤ 140737488355328 := by rw [hU2, ByteArray.size_append]; omega
          have hU2l : U2.data.toList = ub (encC { C with s := r }) := by
            rw [← encC_sum C r, ← HTL.out, ← hPl, hU2, hU1, hA1, hA2]
            simp only [ByteArray.data_append, Array.toList_append, Lib.extract_data]
            rw [List.drop_zero, Nat.sub_zero, List.take_of_length_le (l := List.drop 24 _) (by rw [List.length_drop]; exact Nat.le_of_eq (by rw [Array.length_toList]; rfl))]
          have K3 := Lib.hid (show ∀ v, Below V.heap.size V v → Calls Try.prog 22 #[.agg #[.int .i64 r.1, .int .u64 r.2]] v fun e w' => e = .returned (.string P) ∧ Below v.heap.size v w' from fun v hv => by
            rw [hP]; exact HWide.Put_any r.1 r.2 v)
          have K4 := Lib.hid (show ∀ v, Below V.heap.size V v → Calls Try.prog 14 #[.string U2] v fun e w' => e = .returned (.tuple #[.pointer none, .string ⟨#[]⟩, .int .i64 2]) ∧ Below v.heap.size v w' from fun v hv => (HCell.Get_any U2 v hU2s).mono fun e w' ⟨h, hb⟩ => by
            rw [hU2l, DEC.out] at h
            rcases h with ⟨_, he⟩ | ⟨_, _, _, _, h, _⟩
            · exact ⟨he, hb⟩
            · cases h)
          have k1 : ¬ 9223372036854775807 < A1.size + P.size := by omega
          have k2 : ¬ 9223372036854775807 < U1.size + A2.size := by omega
          replace hA1 := hA1.symm
          replace hA2 := hA2.symm
          replace hU1 := hU1.symm
          replace hU2 := hU2.symm
          clear hA1s hA2s hU1s hU2s hU2l hPs hPl hP
          refine wp_region_quiet (C := fun w' => Below V.heap.size V w') (by kernel_rfl) (by kernel_rfl) ((Below.refl _ _).drew) ?_
          repeat (
            with_reducible refine wpQuiet_step (fun K hK => ?_)
            go_simp
            first
              | (with_reducible refine hK _ ?_; clear hK K)
              | (refine hK _ ?_; clear hK K)
              | (apply Exists.intro
                 refine ⟨fun v hv => ?_, hK _ ?_⟩
                 (first
                   | with_reducible rfl
                   | (with_reducible show Calls _ _ _ _ _
                      first
                        | with_reducible refine Calls.mono (K3.out _ hv) ?_
                        | with_reducible refine Calls.mono (K4.out _ hv) ?_
                      rintro e w' ⟨rfl, hb⟩
                      exact ⟨rfl, hv.trans (hb.mono hv.size)⟩)
                   | (have d0 := (hv.cell (World.block_lt_of_cell? _ _ x0)).trans x0
                      have d1 := (hv.cell (World.block_lt_of_cell? _ _ x1)).trans x1
                      go_simp
                      with_reducible rfl))
                 clear hK K))
          refine wpQuiet_nil ?_
          intro wg hg
          have B6 := Lib.hid (B5.out.trans (hg.mono B5.out.size))
          clear hg K3 K4 x0 x1
          go_wp2
          go_ret
          exact ⟨by first | rfl | simp, B6.out⟩
    · have D0 : Good C u := HG.out
      go_wp2_with fail
      rw [← HW.out, ← HGG.out]
      rw [show ((how : Nat) : Int) % 3 = 1 from e3]
      go_loopw [21] (fun i wr => ∃ (j : Nat), i = .int .i64 j ∧ j ≤ N ∧ two wr g (nrm ((j : Int) * lo)) ∧ Below g w4 wr) (fun i _ => N - (intOf i).toNat)
      case atStart => exact ⟨0, rfl, Nat.zero_le _, by
        have e : nrm (((0 : Nat) : Int) * lo) = (0, 0) := by rw [show ((0 : Nat) : Int) * lo = 0 by simp]; decide +kernel
        rw [e]; exact TW.out, BWW.out⟩
      case round =>
        obtain ⟨j, rfl, hj, tt, bb⟩ := hrel
        have TT := Lib.hid tt
        have BB := Lib.hid bb
        clear tt bb
        have HX : I64 lo := by rw [HLO.out]; exact HG.out.ok.lo
        have HXX := Lib.hid HX
        rcases Nat.lt_or_ge j N with hlt | hge
        · have hj1 : (j : Int) < N := by omega
          have hxb : -9223372036854775808 ≤ lo ∧ lo ≤ 9223372036854775807 := HX
          have hjx : -10141204801825835211973625643008 ≤ (j : Int) * lo ∧ (j : Int) * lo ≤ 10141204801825835211973625643008 := by
            have := prod_bound lo j HX (by omega)
            rw [Int.mul_comm] at this
            exact this
          have SUM := Lib.hid (show nrm (val (nrm ((j : Int) * lo)).1 (nrm ((j : Int) * lo)).2 + val (nrm lo).1 (nrm lo).2) = nrm (((j + 1 : Nat) : Int) * lo) by
            rw [sum_step _ _ hjx (by omega), Int.natCast_add, Int.add_mul, show ((1 : Nat) : Int) * lo = lo by simp])
          obtain ⟨p0, hp⟩ : ∃ p, p = nrm ((j : Int) * lo) := ⟨_, rfl⟩
          obtain ⟨r, hr⟩ : ∃ r, r = nrm (((j + 1 : Nat) : Int) * lo) := ⟨_, rfl⟩
          obtain ⟨s, hs⟩ : ∃ s, s = nrm lo := ⟨_, rfl⟩
          have hp1 := nrm_rng ((j : Int) * lo)
          have hs1 := nrm_rng lo
          rw [← hp, ← hr, ← hs] at SUM
          rw [← hp] at hp1 TT
          rw [← hs] at hs1
          have K1 := Lib.hid (show ∀ v, Below wr.heap.size wr v → Calls Try.prog 21 #[.int .i64 lo] v fun e w' => e = .returned (.agg #[.int .i64 s.1, .int .u64 s.2]) ∧ Below v.heap.size v w' from fun v hv => by rw [hs]; exact HWide.Of_any lo v HXX.out)
          have K2 := Lib.hid (show ∀ v, Below wr.heap.size wr v → Calls Try.prog 20 #[.agg #[.int .i64 p0.1, .int .u64 p0.2], .agg #[.int .i64 s.1, .int .u64 s.2]] v fun e w' => e = .returned (.agg #[.int .i64 r.1, .int .u64 r.2]) ∧ Below v.heap.size v w' from fun v hv => by
            unfold Rng at hp1 hs1
            have := HWide.Add_any p0.1 p0.2 s.1 s.2 v hp1.2.2.1 hp1.2.2.2 hs1.2.2.1 hs1.2.2.2
            rw [SUM.out] at this
            exact this)
          have HR := Lib.hid hr
          obtain ⟨x0, x1, _, _⟩ := TT.out.c
          have hgr : g < wr.heap.size := heap_lt (show wr.heap[g]? = some (.cells #[.int .i64 p0.1, .int .u64 p0.2] 43 (0, 0)) from TT.out)
          clear hp hr hs hp1 hs1 hxb hjx HX D0
          go_wp2_with fail
          refine QTail.wp_region_quiet_tail (C := fun w' => Below wr.heap.size wr w') 4 (by kernel_rfl) (by kernel_rfl) ((Below.refl _ _).drew) ?_
          simp only [List.take_succ_cons, List.take_zero]
          repeat (
            with_reducible refine wpQuiet_step (fun K hK => ?_)
            go_simp
            first
              | (with_reducible refine hK _ ?_; clear hK K)
              | (refine hK _ ?_; clear hK K)
              | (apply Exists.intro
                 refine ⟨fun v hv => ?_, hK _ ?_⟩
                 (first
                   | with_reducible rfl
                   | (with_reducible show Calls _ _ _ _ _
                      first
                        | with_reducible refine Calls.mono (K1.out _ hv) ?_
                        | with_reducible refine Calls.mono (K2.out _ hv) ?_
                      rintro e w' ⟨rfl, hb⟩
                      exact ⟨rfl, hv.trans (hb.mono hv.size)⟩)
                   | (have d0 := (hv.cell (World.block_lt_of_cell? _ _ x0)).trans x0
                      have d1 := (hv.cell (World.block_lt_of_cell? _ _ x1)).trans x1
                      go_simp
                      with_reducible rfl))
                 clear hK K))
          refine wpQuiet_nil ?_
          intro wf hk
          simp only [List.drop_succ_cons, List.drop_zero]
          have TF := TT.out.mono hk
          replace x0 := (hk.cell hgr).trans x0
          replace x1 := (hk.cell hgr).trans x1
          obtain ⟨_, _, f0, f1⟩ := TF.c
          have RT := Lib.hid (two.set TF r)
          have BF := Lib.hid (Below.setCell (Below.setCell (BB.out.trans (hk.mono (by rw [HGG.out]; exact BB.out.size))) (show g ≤ (Addr.block ⟨g, 0, none⟩) from Nat.le_refl _) (.int .i64 r.1)) (show g ≤ (Addr.block ⟨g, 1, none⟩) from Nat.le_refl _) (.int .u64 r.2))
          clear hk TF K1 K2
          go_wp2
          go_roundw
          case rel => exact ⟨j + 1, by go_num, by omega, by rw [← HR.out]; exact RT.out, BF.out⟩
          case measure => first | (simp [intOf]; done) | (simp [intOf]; omega)
        · have hjN : j = N := by omega
          subst hjN
          have hj1 : ¬ (j : Int) < (j : Int) := by omega
          obtain ⟨y, hy⟩ : ∃ y, y = ((-1) - ((by_ : Nat) : Int)) := ⟨_, rfl⟩
          have HY : I64 y := by rw [hy]; unfold Print.I64; omega
          obtain ⟨z, hz⟩ : ∃ z, z = (j : Int) * lo + y := ⟨_, rfl⟩
          have hjx : -10141204801825835211973625643008 ≤ (j : Int) * lo ∧ (j : Int) * lo ≤ 10141204801825835211973625643008 := by
            have := prod_bound lo j HX (by omega)
            rw [Int.mul_comm] at this
            exact this
          have hyb : -9223372036854775808 ≤ y ∧ y ≤ 9223372036854775807 := HY
          have SUM := Lib.hid (show nrm (val (nrm ((j : Int) * lo)).1 (nrm ((j : Int) * lo)).2 + val (nrm y).1 (nrm y).2) = nrm z by
            rw [sum_step _ _ hjx (by omega), hz])
          have HRF : rightC { C with s := nrm z } = false := by
            have := HT.out
            refine right_low HG.out HCL.out z ?_ (by omega)
            rw [this, ← HLO.out, hz, hy, Int.mul_comm]
            omega
          obtain ⟨p0, hp⟩ : ∃ p, p = nrm ((j : Int) * lo) := ⟨_, rfl⟩
          obtain ⟨r, hr⟩ : ∃ r, r = nrm z := ⟨_, rfl⟩
          obtain ⟨s, hs⟩ : ∃ s, s = nrm y := ⟨_, rfl⟩
          have hp1 := nrm_rng ((j : Int) * lo)
          have hs1 := nrm_rng y
          rw [← hp, ← hr, ← hs] at SUM
          rw [← hp] at hp1 TT
          rw [← hs] at hs1
          have K1 := Lib.hid (show ∀ v, Below wr.heap.size wr v → Calls Try.prog 21 #[.int .i64 y] v fun e w' => e = .returned (.agg #[.int .i64 s.1, .int .u64 s.2]) ∧ Below v.heap.size v w' from fun v hv => by rw [hs]; exact HWide.Of_any y v HY)
          have K2 := Lib.hid (show ∀ v, Below wr.heap.size wr v → Calls Try.prog 20 #[.agg #[.int .i64 p0.1, .int .u64 p0.2], .agg #[.int .i64 s.1, .int .u64 s.2]] v fun e w' => e = .returned (.agg #[.int .i64 r.1, .int .u64 r.2]) ∧ Below v.heap.size v w' from fun v hv => by
            unfold Rng at hp1 hs1
            have := HWide.Add_any p0.1 p0.2 s.1 s.2 v hp1.2.2.1 hp1.2.2.2 hs1.2.2.1 hs1.2.2.2
            rw [SUM.out] at this
            exact this)
          have ewy : IntKind.i64.wrap ((-1) - ((by_ : Nat) : Int)) = y := by rw [← hy]; exact i64_wrap HY
          have ewy2 : IntKind.i64.wrap y = y := i64_wrap HY
          have ewb : IntKind.i64.wrap ((by_ : Nat) : Int) = ((by_ : Nat) : Int) := i64_wrap (by unfold Print.I64; omega)
          have hy2 : ((-1) - ((by_ : Nat) : Int)) = y := hy.symm
          have DEC := Lib.hid (show decC (ub (encC { C with s := r })) = none by
            have := decC_any { C with s := r } (by rw [hr]; exact ok_sum HG.out.ok z) []
            rw [List.append_nil] at this
            rw [this, if_neg]
            rw [hr, HRF]
            decide)
          obtain ⟨x0, x1, _, _⟩ := TT.out.c
          have hgr : g < wr.heap.size := heap_lt (show wr.heap[g]? = some (.cells #[.int .i64 p0.1, .int .u64 p0.2] 43 (0, 0)) from TT.out)
          clear hp hr hs hp1 hs1 hjx HX D0 hyb HRF hz HY hy
          go_wp2_with fail
          refine QTail.wp_region_quiet_tail (C := fun w' => Below wr.heap.size wr w') 6 (by kernel_rfl) (by kernel_rfl) ((Below.refl _ _).drew) ?_
          simp only [List.take_succ_cons, List.take_zero]
          repeat (
            with_reducible refine wpQuiet_step (fun K hK => ?_)
            go_simp
            first
              | (with_reducible refine hK _ ?_; clear hK K)
              | (refine hK _ ?_; clear hK K)
              | (apply Exists.intro
                 refine ⟨fun v hv => ?_, hK _ ?_⟩
                 (first
                   | with_reducible rfl
                   | (with_reducible show Calls _ _ _ _ _
                      first
                        | with_reducible refine Calls.mono (K1.out _ hv) ?_
                        | with_reducible refine Calls.mono (K2.out _ hv) ?_
                      rintro e w' ⟨rfl, hb⟩
                      exact ⟨rfl, hv.trans (hb.mono hv.size)⟩)
                   | (have d0 := (hv.cell (World.block_lt_of_cell? _ _ x0)).trans x0
                      have d1 := (hv.cell (World.block_lt_of_cell? _ _ x1)).trans x1
                      go_simp
                      with_reducible rfl))
                 clear hK K))
          refine wpQuiet_nil ?_
          intro wf hk
          simp only [List.drop_succ_cons, List.drop_zero]
          have TF := TT.out.mono hk
          replace x0 := (hk.cell hgr).trans x0
          replace x1 := (hk.cell hgr).trans x1
          obtain ⟨_, _, f0, f1⟩ := TF.c
          have RT := Lib.hid (two.set TF r)
          have BF := Lib.hid (Below.setCell (Below.setCell (BB.out.trans (hk.mono (by rw [HGG.out]; exact BB.out.size))) (show g ≤ (Addr.block ⟨g, 0, none⟩) from Nat.le_refl _) (.int .i64 r.1)) (show g ≤ (Addr.block ⟨g, 1, none⟩) from Nat.le_refl _) (.int .u64 r.2))
          clear hk TF K1 K2 TT
          obtain ⟨V, hV⟩ : ∃ V, V = (wf.setCell ⟨g, 0, none⟩ (.int .i64 r.1)).setCell ⟨g, 1, none⟩ (.int .u64 r.2) := ⟨_, rfl⟩
          rw [← hV] at RT BF
          have HV := Lib.hid hV
          have B5 := Lib.hid (show Below w.heap.size w V from B4.out.trans (BF.out.mono (by rw [HGG.out]; exact B4.out.size)))
          clear hV
          go_wp2_with fail
          rw [← HV.out]
          clear x0 x1 f0 f1
          obtain ⟨x0, x1, _, _⟩ := RT.out.c
          have ts8 : (8 : Int) ≤ T.size := by have := HTS.out; omega
          have ts24 : (24 : Int) ≤ T.size := by have := HTS.out; omega
          obtain ⟨P, hP⟩ : ∃ P, P = strOfNums (putN r.1 r.2) := ⟨_, rfl⟩
          have hPs : P.size = 16 := by rw [hP, strOfNums_size]; simp [putN]
          have hPl : P.data.toList = ub (putN r.1 r.2) := by rw [hP, ub_data]
          obtain ⟨A1, hA1⟩ : ∃ A, A = T.extract 0 8 := ⟨_, rfl⟩
          obtain ⟨A2, hA2⟩ : ∃ A, A = T.extract 24 T.size := ⟨_, rfl⟩
          have hA1s : A1.size = 8 := by rw [hA1, ByteArray.size_extract]; have := HTS.out; omega
          have hA2s : A2.size ≤ 343 := by rw [hA2, ByteArray.size_extract]; have := HTS.out; omega
          obtain ⟨U1, hU1⟩ : ∃ U, U = A1 ++ P := ⟨_, rfl⟩
          obtain ⟨U2, hU2⟩ : ∃ U, U = U1 ++ A2 := ⟨_, rfl⟩
          have hU1s : U1.size = 24 := by rw [hU1, ByteArray.size_append, hA1s, hPs]
          have hU2s : U2.size ≤ 140737488355328 := by rw [hU2, ByteArray.size_append]; omega
          have hU2l : U2.data.toList = ub (encC { C with s := r }) := by
            rw [← encC_sum C r, ← HTL.out, ← hPl, hU2, hU1, hA1, hA2]
            simp only [ByteArray.data_append, Array.toList_append, Lib.extract_data]
            rw [List.drop_zero, Nat.sub_zero, List.take_of_length_le (l := List.drop 24 _) (by rw [List.length_drop]; exact Nat.le_of_eq (by rw [Array.length_toList]; rfl))]
          have K3 := Lib.hid (show ∀ v, Below V.heap.size V v → Calls Try.prog 22 #[.agg #[.int .i64 r.1, .int .u64 r.2]] v fun e w' => e = .returned (.string P) ∧ Below v.heap.size v w' from fun v hv => by
            rw [hP]; exact HWide.Put_any r.1 r.2 v)
          have K4 := Lib.hid (show ∀ v, Below V.heap.size V v → Calls Try.prog 14 #[.string U2] v fun e w' => e = .returned (.tuple #[.pointer none, .string ⟨#[]⟩, .int .i64 2]) ∧ Below v.heap.size v w' from fun v hv => (HCell.Get_any U2 v hU2s).mono fun e w' ⟨h, hb⟩ => by
            rw [hU2l, DEC.out] at h
            rcases h with ⟨_, he⟩ | ⟨_, _, _, _, h, _⟩
            · exact ⟨he, hb⟩
            · cases h)
          have k1 : ¬ 9223372036854775807 < A1.size + P.size := by omega
          have k2 : ¬ 9223372036854775807 < U1.size + A2.size := by omega
          replace hA1 := hA1.symm
          replace hA2 := hA2.symm
          replace hU1 := hU1.symm
          replace hU2 := hU2.symm
          clear hA1s hA2s hU1s hU2s hU2l hPs hPl hP
          refine wp_region_quiet (C := fun w' => Below V.heap.size V w') (by kernel_rfl) (by kernel_rfl) ((Below.refl _ _).drew) ?_
          repeat (
            with_reducible refine wpQuiet_step (fun K hK => ?_)
            go_simp
            first
              | (with_reducible refine hK _ ?_; clear hK K)
              | (refine hK _ ?_; clear hK K)
              | (apply Exists.intro
                 refine ⟨fun v hv => ?_, hK _ ?_⟩
                 (first
                   | with_reducible rfl
                   | (with_reducible show Calls _ _ _ _ _
                      first
                        | with_reducible refine Calls.mono (K3.out _ hv) ?_
                        | with_reducible refine Calls.mono (K4.out _ hv) ?_
                      rintro e w' ⟨rfl, hb⟩
                      exact ⟨rfl, hv.trans (hb.mono hv.size)⟩)
                   | (have d0 := (hv.cell (World.block_lt_of_cell? _ _ x0)).trans x0
                      have d1 := (hv.cell (World.block_lt_of_cell? _ _ x1)).trans x1
                      go_simp
                      with_reducible rfl))
                 clear hK K))
          refine wpQuiet_nil ?_
          intro wg hg
          have B6 := Lib.hid (B5.out.trans (hg.mono B5.out.size))
          clear hg K3 K4 x0 x1
          go_wp2
          go_ret
          exact ⟨by first | rfl | simp, B6.out⟩
    · have ts24 : (24 : Int) ≤ T.size := by have := HTS.out; omega
      have ts32 : (32 : Int) ≤ T.size := by have := HTS.out; omega
      have ts40 : (40 : Int) ≤ T.size := by have := HTS.out; omega
      obtain ⟨A1, hA1⟩ : ∃ A, A = T.extract 0 24 := ⟨_, rfl⟩
      obtain ⟨A2, hA2⟩ : ∃ A, A = T.extract 32 40 := ⟨_, rfl⟩
      obtain ⟨A3, hA3⟩ : ∃ A, A = T.extract 24 32 := ⟨_, rfl⟩
      obtain ⟨A4, hA4⟩ : ∃ A, A = T.extract 40 T.size := ⟨_, rfl⟩
      have hA1s : A1.size = 24 := by rw [hA1, ByteArray.size_extract]; have := HTS.out; omega
      have hA2s : A2.size = 8 := by rw [hA2, ByteArray.size_extract]; have := HTS.out; omega
      have hA3s : A3.size = 8 := by rw [hA3, ByteArray.size_extract]; have := HTS.out; omega
      have hA4s : A4.size ≤ 343 := by rw [hA4, ByteArray.size_extract]; have := HTS.out; omega
      obtain ⟨U1, hU1⟩ : ∃ U, U = A1 ++ A2 := ⟨_, rfl⟩
      obtain ⟨U2, hU2⟩ : ∃ U, U = U1 ++ A3 := ⟨_, rfl⟩
      obtain ⟨U3, hU3⟩ : ∃ U, U = U2 ++ A4 := ⟨_, rfl⟩
      have hU1s : U1.size = 32 := by rw [hU1, ByteArray.size_append, hA1s, hA2s]
      have hU2s : U2.size = 40 := by rw [hU2, ByteArray.size_append, hU1s, hA3s]
      have hU3s : U3.size ≤ 140737488355328 := by rw [hU3, ByteArray.size_append]; omega
      have hU3l : U3.data.toList = ub (encC { C with lo := C.hi, hi := C.lo }) := by
        rw [← encC_swap C, ← HTL.out, hU3, hU2, hU1, hA1, hA2, hA3, hA4]
        simp only [ByteArray.data_append, Array.toList_append, Lib.extract_data]
        rw [List.drop_zero, Nat.sub_zero, List.take_of_length_le (l := List.drop 40 _) (by rw [List.length_drop]; exact Nat.le_of_eq (by rw [Array.length_toList]; rfl))]
      have KG := Lib.hid (fun (v : World) => HCell.Get_any U3 v hU3s)
      have DEC : decC U3.data.toList = if decide (lo = hi_) then some ({ C with lo := C.hi, hi := C.lo }, []) else none := by
        have := decC_any { C with lo := C.hi, hi := C.lo } (ok_swap HG.out.ok) []
        rw [List.append_nil] at this
        rw [hU3l, this, right_swap HG.out HCL.out, ← HLO.out, ← HHI.out]
      have HDEC := Lib.hid DEC
      have k1 : ¬ 9223372036854775807 < A1.size + A2.size := by omega
      have k2 : ¬ 9223372036854775807 < U1.size + A3.size := by omega
      have k3 : ¬ 9223372036854775807 < U2.size + A4.size := by omega
      replace hA1 := hA1.symm
      replace hA2 := hA2.symm
      replace hA3 := hA3.symm
      replace hA4 := hA4.symm
      replace hU1 := hU1.symm
      replace hU2 := hU2.symm
      replace hU3 := hU3.symm
      have B5 := Lib.hid (show Below w.heap.size w W from B4.out.trans (BWW.out.mono (by rw [HGG.out]; exact B4.out.size)))
      clear hA1s hA2s hA3s hA4s hU1s hU2s hU3l DEC hU3s
      go_wp2_with fail
      rw [← HW.out, ← HGG.out]
      refine QTail.wp_region_quiet_mid (C := fun w' => Below W.heap.size W w') 11 (by kernel_rfl) (by kernel_rfl) rfl ((Below.refl _ _).drew) ?_
      simp only [List.take_succ_cons, List.take_zero]
      repeat (
        with_reducible refine wpQuiet_step (fun K hK => ?_)
        go_simp
        first
          | (with_reducible refine hK _ ?_; clear hK K)
          | (apply Exists.intro
             refine ⟨fun v hv => ?_, hK _ ?_⟩
             (first
               | with_reducible rfl)
             clear hK K))
      refine wpQuiet_nil ?_
      intro wf hk K hK
      have B6 := Lib.hid (B5.out.trans (hk.mono B5.out.size))
      clear hk
      simp only [List.drop_succ_cons, List.drop_zero] at hK
      have HK := Lib.hid hK
      clear hK
      go_simp
      refine (KG.out wf).mono ?_
      rintro e w7 ⟨h, b7⟩
      rw [HDEC.out] at h
      have B7 := Lib.hid (B6.out.trans (b7.mono B6.out.size))
      clear b7
      by_cases hlh : lo = hi_
      · have q1 : (lo == hi_) = true := by rw [beq_iff_eq]; exact hlh
        rw [decide_eq_true hlh, if_pos rfl] at h
        rcases h with ⟨h, _⟩ | ⟨c, r, p2, G2, _, rfl, _, _, _⟩
        · cases h
        clear hlh
        go_simp
        refine HK.out _ _ ?_
        repeat (
          with_reducible refine wpQuiet_step (fun K hK => ?_)
          go_simp
          first
            | (with_reducible refine hK _ ?_; clear hK K)
            | (apply Exists.intro
               refine ⟨fun v hv => ?_, hK _ ?_⟩
               (first
                 | with_reducible rfl
                 | exact ⟨rfl, rfl⟩)
               clear hK K))
        refine wpQuiet_nil ?_
        go_wp2
        go_ret
        exact ⟨by first | rfl | simp, B7.out⟩
      · have q1 : (lo == hi_) = false := by rw [beq_eq_false_iff_ne]; exact hlh
        rw [decide_eq_false hlh, if_neg (by decide)] at h
        rcases h with ⟨_, rfl⟩ | ⟨c, r, p2, G2, h, _⟩
        rotate_left
        · cases h
        clear hlh
        go_simp
        refine HK.out _ _ ?_
        repeat (
          with_reducible refine wpQuiet_step (fun K hK => ?_)
          go_simp
          first
            | (with_reducible refine hK _ ?_; clear hK K)
            | (apply Exists.intro
               refine ⟨fun v hv => ?_, hK _ ?_⟩
               (first
                 | with_reducible rfl
                 | exact ⟨rfl, rfl⟩)
               clear hK K))
        refine wpQuiet_nil ?_
        go_wp2
        go_ret
        exact ⟨by first | rfl | simp, B7.out⟩
theorem CellFalse_int (w : World) (fine n : Int) (v : Value) (ls : List Int) (how by_ : Int) (hfi : 0 ≤ fine ∧ fine ≤ 255) (hn : -2147483648 ≤ n ∧ n ≤ 2147483647) (hv : NRow .i32 w v ls) (hi : ∀ x ∈ ls, I32 x) (hho : 0 ≤ how ∧ how ≤ 255) (hby : 0 ≤ by_ ∧ by_ ≤ 255) :
    Calls Try.prog 4 #[.int .u8 fine, .int .i32 n, v, .int .u8 how, .int .u8 by_] w fun e w' => e = .returned (.bool true) ∧ Below w.heap.size w w' := by
  obtain ⟨m, rfl⟩ := Int.eq_ofNat_of_zero_le hfi.1
  obtain ⟨k, rfl⟩ := Int.eq_ofNat_of_zero_le hho.1
  obtain ⟨j, rfl⟩ := Int.eq_ofNat_of_zero_le hby.1
  exact CellFalse_any w m n v ls k j (by omega) hn hv hi (by omega) (by omega)
theorem i32_wf {x : Int} (h : (Lit.int .i32 x).wf = true) : I32 x := by simpa [I32, Lit.wf, IntKind.min, IntKind.max, IntKind.signed, IntKind.bits] using h
end Go.Proofs.Ytgafnilcmhjpcaa.HCell
