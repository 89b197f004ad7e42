/- The reference's cells: Merge, walked. Conditions: the two lie apart; the numbers are of their kinds' ranges. -/
import Derived.Test.YtgafnilcmhjpcaaRCell
namespace Go.Proofs.Ytgafnilcmhjpcaa.HCell
set_option linter.unusedVariables false
open Go.RowKit Go.Proofs.Ytgafnilcmhjpcaa.HMem Go.Proofs.Ytgafnilcmhjpcaa.HHist Go.Proofs.Ytgafnilcmhjpcaa.HWide
open Go.Proofs.Ytgafnilcmhjpcaa.Print (I64)

theorem rcount_q {w : World} {h : Nat} {R : List Nat} {b : Nat} {l : IL} (k : RHistAt w h R b l) (ho : HOk b l) : ∀ v, Below w.heap.size w v → Calls Try.prog 41 #[.pointer (some ⟨h, 0, none⟩)] v fun e w' => e = .returned (.int .u64 (total l : Nat)) ∧ Below v.heap.size v w' := fun v hv =>
  (rCount_any (k.mono hv) (by have := ho.len; omega) (by have := ho.total; omega)).mono fun e w' ⟨a, b⟩ => ⟨a, by subst b; exact Below.refl _ _⟩
set_option maxHeartbeats 4000000 in
set_option maxRecDepth 20000 in
theorem rcMerge_any {w : World} {p q : Nat} {G F : List Nat} {c d : CM} (k : RCellAt w p G c) (kd : RCellAt w q F d) (ho : COk c) (hod : COk d) (hs : ∀ x ∈ G, x ∉ F) :
    Calls Try.prog 33 #[.pointer (some ⟨p, 0, none⟩), .pointer (some ⟨q, 0, none⟩)] w (RCRes w p G (mergeC c d).1 (.int .i64 (mergeC c d).2)) := by
  obtain ⟨h, R, rfl, hpR, kc, kh⟩ := k.ex
  obtain ⟨h', S, rfl, hqS, kc', kh'⟩ := kd.ex
  obtain ⟨c0, c1, c2, c3, c4, c5⟩ := kc.cells
  obtain ⟨q0, q1, q2, q3, q4, q5⟩ := kc'.cells
  obtain ⟨X, hX⟩ : ∃ X, X = w.heap.size := ⟨_, rfl⟩
  obtain ⟨W, hW⟩ : ∃ W, W = w.alloc (.cells #[.int .i64 d.s.1, .int .u64 d.s.2] 71) := ⟨_, rfl⟩
  have b0 : Below w.heap.size w W := by rw [hW]; exact (Below.refl _ _).alloc (Nat.le_refl _) _
  have BX := Lib.hid (show W.heap[X]? = some (.cells #[.int .i64 d.s.1, .int .u64 d.s.2] 71 (0, 0)) by rw [hW, hX]; exact heap_alloc_new w _)
  have HPX := Lib.hid (show p < X by rw [hX]; exact kc.lt)
  have HXR := Lib.hid (show X ∉ R from fun hm => by have := (kh.own.mem X hm).2; omega)
  have HQR := Lib.hid (show q ∉ R from fun hm => hs q (by simp [hm]) (by simp))
  have HSR := Lib.hid (show ∀ x ∈ R, x ∉ S from fun x hx hm => hs x (by simp [hx]) (by simp [hm]))
  have B0 := Lib.hid b0
  have KC := Lib.hid (kc.mono b0)
  have KH := Lib.hid (kh.mono b0)
  have KH' := Lib.hid (kh'.mono b0)
  have HPR := Lib.hid hpR
  have HO := Lib.hid ho
  have HO' := Lib.hid hod
  have HW := Lib.hid hW
  have HX := Lib.hid hX
  have CK := Lib.hid (fun (u : World) (hu : Below w.heap.size w u) => rCount_any (kh.mono hu) (by have := ho.h.len; omega) (by have := ho.h.total; omega))
  have CK' := Lib.hid (fun (u : World) (hu : Below w.heap.size w u) => rCount_any (kh'.mono hu) (by have := hod.h.len; omega) (by have := hod.h.total; omega))
  clear k kd kc kc' kh kh' hpR hqS ho hod hs b0 hX hW c0 c2 c3 c4 c5 q0
  go_enter Try.func33, Try.ntmps33
  go_wp2_with fail
  refine (CK.out w (Below.refl _ _)).mono ?_
  rintro e w1 ⟨rfl, rfl⟩
  go_wp2_with fail
  refine (CK'.out w (Below.refl _ _)).mono ?_
  rintro e w1 ⟨rfl, rfl⟩
  obtain ⟨T, hT⟩ : ∃ T, T = total c.l := ⟨_, rfl⟩
  obtain ⟨M, hM⟩ : ∃ M, M = total d.l := ⟨_, rfl⟩
  rw [← hT, ← hM]
  have HT := Lib.hid hT
  have HM := Lib.hid hM
  clear hT hM CK CK'
  go_wp2_with fail
  rw [← HW.out, ← HX.out]
  replace c1 := (B0.out.cell (World.block_lt_of_cell? _ _ c1)).trans c1
  replace q1 := (B0.out.cell (World.block_lt_of_cell? _ _ q1)).trans q1
  clear q2 q3 q4 q5
  refine QTail.wp_region_quiet_tail (C := fun w' => Below W.heap.size W w') 8 (by kernel_rfl) (by kernel_rfl) ((Below.refl _ _).drew) ?_
  simp only [List.take_succ_cons, List.take_zero]
  repeat (
    with_reducible refine wpQuiet_step (fun K hK => ?_)
    go_simp
    first
      | (with_reducible refine hK _ ?_; clear hK K)
      | (refine hK _ ?_; clear hK K)
      | (apply Exists.intro
         refine ⟨fun v hv => ?_, hK _ ?_⟩
         (first
           | with_reducible rfl
           | (have d0 := (hv.cell (World.block_lt_of_cell? _ _ c1)).trans c1
              have d1 := (hv.cell (World.block_lt_of_cell? _ _ q1)).trans q1
              go_simp
              with_reducible rfl))
         clear hK K))
  refine wpQuiet_nil ?_
  intro w2 b2
  simp only [List.drop_succ_cons, List.drop_zero]
  have B2 := Lib.hid b2
  clear b2 c1 q1
  go_wp2_with fail
  refine (HHist.rMerge_any (KH.out.mono B2.out) (KH'.out.mono B2.out) HO.out.h HO'.out.h).mono ?_
  rintro e w3 ⟨rfl, R', h1, t1⟩
  have H1 := Lib.hid h1
  have T1 := Lib.hid t1
  have K3 := Lib.hid (show RCb w3 p h c by
    unfold RCb
    rw [t1.chg.block p (Nat.lt_of_lt_of_le KC.out.lt B2.out.size) HPR.out, B2.out.block p KC.out.lt]; exact KC.out)
  have HPR' := Lib.hid (show p ∉ R' from fun hm => by
    rcases t1.foot p hm with h | h
    · exact HPR.out h
    · have h1 := KC.out.lt; have h2 := B2.out.size; omega)
  have BX3 := Lib.hid (show w3.heap[X]? = some (.cells #[.int .i64 d.s.1, .int .u64 d.s.2] 71 (0, 0)) by
    have hl := heap_lt BX.out
    rw [t1.chg.block X (Nat.lt_of_lt_of_le hl B2.out.size) HXR.out, B2.out.block X hl]; exact BX.out)
  have B02 := Lib.hid (show Below w.heap.size w w2 from B0.out.trans (B2.out.mono B0.out.size))
  have TT := Lib.hid (show Turn R R' w w3 from (Turn.of B02.out).trans t1)
  clear h1 t1
  obtain ⟨r, hr⟩ : ∃ r, r = mergeL c.b c.l d.b d.l := ⟨_, rfl⟩
  obtain ⟨l', er⟩ := r
  have HR := Lib.hid hr
  rw [← hr] at H1 ⊢
  dsimp only at H1 ⊢
  by_cases hz : er = 0
  rotate_left
  · have EC := Lib.hid (show mergeC c d = (c, er) by unfold mergeC; rw [← hr]; exact if_neg hz)
    have EL := Lib.hid (show l' = c.l by have := mergeL_err (b := c.b) (c := d.b) (l := c.l) (m := d.l) (by rw [← hr]; exact hz); rw [← hr] at this; exact this)
    have z1 : (er != 0) = true := by rw [bne_iff_ne]; exact hz
    clear hz hr
    go_wp2
    go_ret
    have e1 := H1.out
    rw [EL.out] at e1
    exact ⟨by rw [EC.out]; rfl, p :: R', by rw [EC.out]; exact ⟨h, R', rfl, HPR'.out, K3.out, e1⟩, rturn TT.out (Chg.refl _ _)⟩
  subst hz
  have EC := Lib.hid (show mergeC c d = ({ takeC c T M d.s d.lo d.hi with l := l' }, 0) by unfold mergeC; rw [← hr, HT.out, HM.out]; exact if_pos rfl)
  clear hr
  by_cases hm : M = 0
  · have z2 : ((M : Int) == 0) = true := by rw [beq_iff_eq]; omega
    have ET := Lib.hid (show takeC c T M d.s d.lo d.hi = c from if_pos hm)
    clear hm
    go_wp2
    go_ret
    exact ⟨by rw [EC.out]; rfl, p :: R', by rw [EC.out, ET.out]; exact ⟨h, R', rfl, HPR'.out, K3.out, H1.out⟩, rturn TT.out (Chg.refl _ _)⟩
  have z2 : ((M : Int) == 0) = false := by rw [beq_eq_false_iff_ne]; omega
  have ET := Lib.hid (show takeC c T M d.s d.lo d.hi = { c with lo := loT c T d.lo, hi := hiT c T d.hi, s := sT c d.s } from if_neg hm)
  rw [ET.out] at EC
  clear ET hm
  obtain ⟨lo, hlo⟩ : ∃ x, x = d.lo := ⟨_, rfl⟩
  obtain ⟨hi, hhi⟩ : ∃ x, x = d.hi := ⟨_, rfl⟩
  rw [← hlo, ← hhi] at EC ⊢
  obtain ⟨y0, hy0⟩ : ∃ y, y = if T = 0 then lo else c.lo := ⟨_, rfl⟩
  obtain ⟨z0, hz0⟩ : ∃ z, z = if T = 0 then hi else c.hi := ⟨_, rfl⟩
  have HLO := Lib.hid (show loT c T lo = min y0 lo by unfold loT; rw [hy0])
  have HHI := Lib.hid (show hiT c T hi = max z0 hi by unfold hiT; rw [hz0])
  have K0 := Lib.hid (show RCb (if T = 0 then (w3.setCell ⟨p, 4, none⟩ (.int .i64 lo)).setCell ⟨p, 5, none⟩ (.int .i64 hi) else w3) p h { c with lo := y0, hi := z0 } by
    by_cases h0 : T = 0
    · rw [if_pos h0, hy0, hz0, if_pos h0, if_pos h0]; exact (K3.out.lo lo).hi hi
    · rw [if_neg h0, hy0, hz0, if_neg h0, if_neg h0]; exact K3.out)
  clear hy0 hz0 hlo hhi
  obtain ⟨c0, c1, c2, c3, c4, c5⟩ := K3.out.cells
  have f4 := K3.out.frozen 4
  have f5 := K3.out.frozen 5
  by_cases h0 : T = 0
  case' pos =>
    have h1 : ((T : Int) == 0) = true := by rw [beq_iff_eq]; omega
    rw [if_pos h0] at K0
    obtain ⟨V, hV⟩ : ∃ V, V = (w3.setCell ⟨p, 4, none⟩ (.int .i64 lo)).setCell ⟨p, 5, none⟩ (.int .i64 hi) := ⟨_, rfl⟩
    have CV := Lib.hid (show Chg (· = p) w3 V from by rw [hV]; exact (Chg.set w3 p 4 _).trans (Chg.set _ p 5 _))
    clear h0
  case' neg =>
    have h1 : ((T : Int) == 0) = false := by rw [beq_eq_false_iff_ne]; omega
    rw [if_neg h0] at K0
    obtain ⟨V, hV⟩ : ∃ V, V = w3 := ⟨_, rfl⟩
    have CV := Lib.hid (show Chg (· = p) w3 V from by rw [hV]; exact Chg.refl _ _)
    clear h0
  all_goals
    go_upto_region 12 with fail
    rw [← hV]
    rw [← hV] at K0
    clear hV h1 z2 c0 c1 c2 c3 c4 c5 f4 f5
    obtain ⟨c0, c1, c2, c3, c4, c5⟩ := K0.out.cells
    have f4 := K0.out.frozen 4
    have f5 := K0.out.frozen 5
    dsimp only at c0 c1 c2 c3 c4 c5
    obtain ⟨U, hU⟩ : ∃ U, U = (V.setCell ⟨p, 4, none⟩ (.int .i64 (min y0 lo))).setCell ⟨p, 5, none⟩ (.int .i64 (max z0 hi)) := ⟨_, rfl⟩
    have KU := Lib.hid (show RCb U p h { c with lo := min y0 lo, hi := max z0 hi } by rw [hU]; exact (K0.out.lo (min y0 lo)).hi (max z0 hi))
    have CU := Lib.hid (show Chg (· = p) w3 U by rw [hU]; exact (CV.out.trans (Chg.set V p 4 _)).trans (Chg.set _ p 5 _))
    have d5 : (V.setCell ⟨p, 4, none⟩ (.int .i64 (min y0 lo))).cell? ⟨p, 5, none⟩ = some (.int .i64 z0) := (K0.out.lo (min y0 lo)).cells.2.2.2.2.2
    clear K0 CV
    go_wp2_with fail
    rw [← hU]
    clear hU c0 c1 c2 c3 c4 c5 f4 f5 d5
    obtain ⟨c0, c1, c2, c3, c4, c5⟩ := KU.out.cells
    dsimp only at c0 c1 c2 c3 c4 c5
    clear c0 c1 c4 c5
    have hbx : U.heap[X]? = some (.cells #[.int .i64 d.s.1, .int .u64 d.s.2] 71 (0, 0)) := by
      rw [CU.out.block X (heap_lt BX3.out) (by have := HPX.out; omega)]
      exact BX3.out
    have x0 : U.cell? ⟨X, 0, none⟩ = some (.int .i64 d.s.1) := by simp [World.cell?, hbx]
    have x1 : U.cell? ⟨X, 1, none⟩ = some (.int .u64 d.s.2) := by simp [World.cell?, hbx]
    obtain ⟨S', hS⟩ : ∃ S, S = sT c d.s := ⟨_, rfl⟩
    have KS := Lib.hid (show ∀ v, Below U.heap.size U v → Calls Try.prog 42 #[.agg #[.int .i64 c.s.1, .int .u64 c.s.2], .agg #[.int .i64 d.s.1, .int .u64 d.s.2]] v
      fun e w' => e = .returned (.agg #[.int .i64 S'.1, .int .u64 S'.2]) ∧ Below v.heap.size v w' from fun v hv => by
        have hc := HO.out.rng
        have hs := HO'.out.rng
        unfold Rng at hs hc
        rw [hS]
        exact rSumAdd_any c.s.1 c.s.2 d.s.1 d.s.2 v hc.2.2.1 hc.2.2.2 hs.2.2.1 hs.2.2.2)
    rw [← hS] at EC
    clear hS hbx
    refine QTail.wp_region_quiet_tail (C := fun w' => Below U.heap.size U w') 9 (by kernel_rfl) (by kernel_rfl) ((Below.refl _ _).drew) ?_
    simp only [List.take_succ_cons, List.take_zero]
    repeat (
      with_reducible refine wpQuiet_step (fun K hK => ?_)
      go_simp
      first
        | (with_reducible refine hK _ ?_; clear hK K)
        | (refine hK _ ?_; clear hK K)
        | (apply Exists.intro
           refine ⟨fun v hv => ?_, hK _ ?_⟩
           (first
             | with_reducible rfl
             | (with_reducible show Calls _ _ _ _ _
                first
                  | with_reducible refine Calls.mono (KS.out _ hv) ?_
                rintro e w' ⟨rfl, hb⟩
                exact ⟨rfl, hv.trans (hb.mono hv.size)⟩)
             | (have d0 := (hv.cell (World.block_lt_of_cell? _ _ c2)).trans c2
                have d1 := (hv.cell (World.block_lt_of_cell? _ _ c3)).trans c3
                have d2 := (hv.cell (World.block_lt_of_cell? _ _ x0)).trans x0
                have d3 := (hv.cell (World.block_lt_of_cell? _ _ x1)).trans x1
                go_simp
                with_reducible rfl))
           clear hK K))
    refine wpQuiet_nil ?_
    intro wf hk
    simp only [List.drop_succ_cons, List.drop_zero]
    have hp := KU.out.lt
    replace c2 := (hk.cell hp).trans c2
    replace c3 := (hk.cell hp).trans c3
    have f2 := (KU.out.mono hk).frozen 2
    have f3 := (KU.out.mono hk).frozen 3
    have RES := Lib.hid (((KU.out.mono hk).s1 S'.1).s2 S'.2)
    have BW := Lib.hid (show Chg (· = p) w3 ((wf.setCell ⟨p, 2, none⟩ (.int .i64 S'.1)).setCell ⟨p, 3, none⟩ (.int .u64 S'.2)) from ((CU.out.trans (Chg.of hk)).trans (Chg.set wf p 2 _)).trans (Chg.set _ p 3 _))
    clear hk hp x0 x1
    go_wp2
    go_ret
    refine ⟨by rw [EC.out]; rfl, p :: R', ?_, rturn TT.out BW.out⟩
    rw [EC.out, HLO.out, HHI.out]
    refine ⟨h, R', rfl, HPR'.out, RES.out, ?_⟩
    exact H1.out.same fun g hg => BW.out.block g (H1.out.own.mem g hg).2 (fun e => HPR'.out (e ▸ hg))
end Go.Proofs.Ytgafnilcmhjpcaa.HCell
