/- The reference's cells in memory: what their blocks hold; New, Add, walked. Conditions: the numbers are of their kinds' ranges. -/
import Derived.Test.YtgafnilcmhjpcaaCellUse
import Derived.Test.YtgafnilcmhjpcaaRWd
import Derived.Test.YtgafnilcmhjpcaaRefAll
namespace Go.Proofs.Ytgafnilcmhjpcaa.HCell
set_option linter.unusedVariables false
open Go.RowKit Go.Proofs.Ytgafnilcmhjpcaa.HMem Go.Proofs.Ytgafnilcmhjpcaa.HHist Go.Proofs.Ytgafnilcmhjpcaa.HWide
open Go.Proofs.Ytgafnilcmhjpcaa.Print (I64)

/-- A reference's cell's own block. -/
def RCb (w : World) (p h : Nat) (c : CM) : Prop :=
  w.heap[p]? = some (.cells #[.int .i64 c.fr, .pointer (some ⟨h, 0, none⟩), .int .i64 c.s.1, .int .u64 c.s.2, .int .i64 c.lo, .int .i64 c.hi] 73 (0, 0))
theorem RCb.cells {w : World} {p h : Nat} {c : CM} (k : RCb w p h c) : w.cell? ⟨p, 0, none⟩ = some (.int .i64 c.fr) ∧ w.cell? ⟨p, 1, none⟩ = some (.pointer (some ⟨h, 0, none⟩)) ∧ w.cell? ⟨p, 2, none⟩ = some (.int .i64 c.s.1) ∧
    w.cell? ⟨p, 3, none⟩ = some (.int .u64 c.s.2) ∧ w.cell? ⟨p, 4, none⟩ = some (.int .i64 c.lo) ∧ w.cell? ⟨p, 5, none⟩ = some (.int .i64 c.hi) := by
  unfold RCb at k
  simp [World.cell?, k]
theorem RCb.frozen {w : World} {p h : Nat} {c : CM} (k : RCb w p h c) (i : Nat) : w.frozen? ⟨p, i, none⟩ = false := by
  unfold RCb at k
  simp [World.frozen?, k]
theorem RCb.lt {w : World} {p h : Nat} {c : CM} (k : RCb w p h c) : p < w.heap.size := heap_lt k
theorem RCb.mono {w w' : World} {p h : Nat} {c : CM} (k : RCb w p h c) (b : Below w.heap.size w w') : RCb w' p h c := by
  unfold RCb
  rw [b.block p k.lt]
  exact k
theorem RCb.lo {w : World} {p h : Nat} {c : CM} (k : RCb w p h c) (x : Int) : RCb (w.setCell ⟨p, 4, none⟩ (.int .i64 x)) p h { c with lo := x } := set_at k 4 _
theorem RCb.hi {w : World} {p h : Nat} {c : CM} (k : RCb w p h c) (x : Int) : RCb (w.setCell ⟨p, 5, none⟩ (.int .i64 x)) p h { c with hi := x } := set_at k 5 _
theorem RCb.s1 {w : World} {p h : Nat} {c : CM} (k : RCb w p h c) (x : Int) : RCb (w.setCell ⟨p, 2, none⟩ (.int .i64 x)) p h { c with s := (x, c.s.2) } := set_at k 2 _
theorem RCb.s2 {w : World} {p h : Nat} {c : CM} (k : RCb w p h c) (x : Int) : RCb (w.setCell ⟨p, 3, none⟩ (.int .u64 x)) p h { c with s := (c.s.1, x) } := set_at k 3 _
/-- A reference's cell: its block, and its histogram's. -/
structure RCellAt (w : World) (p : Nat) (G : List Nat) (c : CM) : Prop where
  ex : ∃ h R, G = p :: R ∧ p ∉ R ∧ RCb w p h c ∧ RHistAt w h R c.b c.l
theorem RCellAt.same {w w' : World} {p : Nat} {G : List Nat} {c : CM} (k : RCellAt w p G c) (s : Same G w w') : RCellAt w' p G c := by
  obtain ⟨h, R, rfl, h1, h2, h3⟩ := k.ex
  refine ⟨h, R, rfl, h1, ?_, h3.same (s.sub fun k hk => by simp [hk])⟩
  unfold RCb
  rw [s p (by simp)]
  exact h2
theorem RCellAt.own {w : World} {p : Nat} {G : List Nat} {c : CM} (k : RCellAt w p G c) : Own 0 w G := by
  obtain ⟨h, R, rfl, h1, h2, h3⟩ := k.ex
  refine ⟨List.nodup_cons.2 ⟨h1, h3.own.nodup⟩, fun g hg => ?_⟩
  rcases List.mem_cons.1 hg with rfl | hg
  · exact ⟨Nat.zero_le _, h2.lt⟩
  · exact h3.own.mem g hg
theorem RCellAt.mono {w w' : World} {p : Nat} {G : List Nat} {c : CM} (k : RCellAt w p G c) (b : Below w.heap.size w w') : RCellAt w' p G c := k.same (Same.own b k.own)
def RCRes (w : World) (p : Nat) (G : List Nat) (c : CM) (v : Value) (e : Ending) (w' : World) : Prop := e = .returned v ∧ ∃ G', RCellAt w' p G' c ∧ Turn G G' w w'
theorem rturn {w w1 w2 : World} {p : Nat} {R R' : List Nat} (t : Turn R R' w w1) (c : Chg (· = p) w1 w2) : Turn (p :: R) (p :: R') w w2 := by
  refine ⟨⟨c.os.trans t.chg.os, c.tape.trans t.chg.tape, c.output.trans t.chg.output, Nat.le_trans t.size c.size, fun k hk hf => ?_⟩, fun g hg => ?_⟩
  · simp only [List.mem_cons, not_or] at hf
    rw [c.block k (Nat.lt_of_lt_of_le hk t.size) hf.1, t.chg.block k hk hf.2]
  · rcases List.mem_cons.1 hg with rfl | hg
    · exact .inl (by simp)
    · rcases t.foot g hg with h | h
      · exact .inl (by simp [h])
      · exact .inr h
theorem rcNew_yes (fr : Int) (b : Nat) (w : World) (hb : b ≤ 4) :
    Calls Try.prog 10 #[.int .i64 fr, .int .i64 b] w fun e w' => ∃ p G, e = .returned (.pointer (some ⟨p, 0, none⟩)) ∧ RCellAt w' p G (newC fr b) ∧ (∀ g ∈ G, w.heap.size ≤ g) ∧ Below w.heap.size w w' := by
  go_enter Try.func10, Try.ntmps10
  go_wp2_with fail
  refine (HHist.rNew_yes b w hb).mono ?_
  rintro e w1 ⟨rfl, h1, b1⟩
  obtain ⟨h, hh⟩ : ∃ h, h = w.heap.size := ⟨_, rfl⟩
  rw [← hh] at h1 ⊢
  have H1 := Lib.hid h1
  have B1 := Lib.hid b1
  have HH := Lib.hid hh
  clear h1 b1 hh
  go_wp2
  go_ret
  have hm := H1.out.own.mem h (by simp)
  refine ⟨_, w1.heap.size :: [h], rfl, ⟨⟨h, [h], rfl, by simp; omega, heap_alloc_new w1 _, H1.out.mono ((Below.refl _ _).alloc (Nat.le_refl _) _)⟩⟩, fun g hg => ?_, by rw [HH.out]; exact B1.out.alloc B1.out.size _⟩
  simp at hg
  have := B1.out.size
  rcases hg with rfl | rfl
  · exact this
  · exact Nat.le_of_eq HH.out.symm
theorem rcNew_no (fr b : Int) (w : World) (hb : b < 0 ∨ 4 < b) :
    Calls Try.prog 10 #[.int .i64 fr, .int .i64 b] w fun e w' => e = .returned (.pointer none) ∧ Below w.heap.size w w' := by
  go_enter Try.func10, Try.ntmps10
  go_wp2_with fail
  refine (HHist.rNew_no b w hb).mono ?_
  rintro e w1 ⟨rfl, rfl⟩
  go_wp2
  go_ret
  exact ⟨rfl, Below.refl _ _⟩
set_option maxHeartbeats 4000000 in
set_option maxRecDepth 20000 in
theorem rcAdd_any {w : World} {p : Nat} {G : List Nat} {c : CM} (k : RCellAt w p G c) (ho : COk c) (n : Int) (hn : I64 n) :
    Calls Try.prog 11 #[.pointer (some ⟨p, 0, none⟩), .int .i64 n] w (RCRes w p G (addC c n).1 (.int .i64 (addC c n).2)) := by
  obtain ⟨h, R, rfl, hpR, kc, kh⟩ := k.ex
  obtain ⟨c0, c1, c2, c3, c4, c5⟩ := kc.cells
  have KC := Lib.hid kc
  have KH := Lib.hid kh
  have HPR := Lib.hid hpR
  have HO := Lib.hid ho
  have HN := Lib.hid hn
  have KA := Lib.hid (HHist.rAdd_any kh ho.h n hn)
  clear k kc kh hpR ho hn
  go_enter Try.func11, Try.ntmps11
  go_wp2_with fail
  refine KA.out.mono ?_
  rintro e w1 ⟨rfl, R', h1, t1⟩
  have H1 := Lib.hid h1
  have T1 := Lib.hid t1
  have K1 := Lib.hid (show RCb w1 p h c by unfold RCb; rw [t1.chg.block p KC.out.lt HPR.out]; exact KC.out)
  have HPR' := Lib.hid (show p ∉ R' from fun hm => by
    rcases t1.foot p hm with h | h
    · exact HPR.out h
    · have := KC.out.lt; omega)
  have CK := Lib.hid (rCount_any h1 (by have := (HO.out.h.add HN.out).len; omega) (by have := (HO.out.h.add HN.out).total; omega))
  clear h1 t1 c0 c1 c2 c3 c4 c5 KA
  obtain ⟨c0, c1, c2, c3, c4, c5⟩ := K1.out.cells
  have f4 := K1.out.frozen 4
  have f5 := K1.out.frozen 5
  by_cases hf : 1099511627776 ≤ total c.l
  · have EA := Lib.hid (show addL c.b c.l n = (c.l, 7) from if_pos hf)
    have EC := Lib.hid (show addC c n = (c, 7) from if_pos hf)
    have EAL := Lib.hid (show (addL c.b c.l n).1 = c.l by rw [EA.out])
    rw [EA.out]
    clear hf c0 c1 c2 c3 c4 c5 f4 f5
    go_wp2
    go_ret
    have e1 := H1.out
    rw [EAL.out] at e1
    exact ⟨by rw [EC.out]; rfl, p :: R', by rw [EC.out]; exact ⟨h, R', rfl, HPR'.out, K1.out, e1⟩, rturn T1.out (Chg.refl _ _)⟩
  · have EA := Lib.hid (show (addL c.b c.l n).2 = 0 by unfold addL; rw [if_neg hf])
    have EC := Lib.hid (show addC c n = ({ c with lo := loT c (total c.l) n, hi := hiT c (total c.l) n, s := sT c (nrm n), l := (addL c.b c.l n).1 }, 0) by
      have et : takeC c (total c.l) 1 (nrm n) n n = { c with lo := loT c (total c.l) n, hi := hiT c (total c.l) n, s := sT c (nrm n) } := if_neg (by decide)
      unfold addC
      rw [if_neg hf, et])
    have ET : total (addL c.b c.l n).1 = total c.l + 1 := by unfold addL; rw [if_neg hf]; exact total_moreL _ _ _
    rw [ET] at CK
    rw [EA.out]
    obtain ⟨T, hT⟩ : ∃ T, T = total c.l := ⟨_, rfl⟩
    rw [← hT] at CK EC
    obtain ⟨y0, hy0⟩ : ∃ y, y = if T = 0 then n else c.lo := ⟨_, rfl⟩
    obtain ⟨z0, hz0⟩ : ∃ z, z = if T = 0 then n else c.hi := ⟨_, rfl⟩
    have HLO := Lib.hid (show loT c T n = min y0 n by unfold loT; rw [hy0])
    have HHI := Lib.hid (show hiT c T n = max z0 n by unfold hiT; rw [hz0])
    have K0 := Lib.hid (show RCb (if T = 0 then (w1.setCell ⟨p, 4, none⟩ (.int .i64 n)).setCell ⟨p, 5, none⟩ (.int .i64 n) else w1) p h { c with lo := y0, hi := z0 } by
      by_cases h0 : T = 0
      · rw [if_pos h0, hy0, hz0, if_pos h0, if_pos h0]; exact (K1.out.lo n).hi n
      · rw [if_neg h0, hy0, hz0, if_neg h0, if_neg h0]; exact K1.out)
    clear hy0 hz0 ET hT hf
    go_wp2_with fail
    refine CK.out.mono ?_
    rintro e w2 ⟨rfl, rfl⟩
    by_cases h0 : T = 0
    case' pos =>
      have h1 : (((T + 1 : Nat) : Int) == 1) = true := by rw [beq_iff_eq]; omega
      rw [if_pos h0] at K0
      obtain ⟨V, hV⟩ : ∃ V, V = (w1.setCell ⟨p, 4, none⟩ (.int .i64 n)).setCell ⟨p, 5, none⟩ (.int .i64 n) := ⟨_, rfl⟩
      have CV := Lib.hid (show Chg (· = p) w1 V from by rw [hV]; exact (Chg.set w1 p 4 _).trans (Chg.set _ p 5 _))
      clear h0
    case' neg =>
      have h1 : (((T + 1 : Nat) : Int) == 1) = false := by rw [beq_eq_false_iff_ne]; omega
      rw [if_neg h0] at K0
      obtain ⟨V, hV⟩ : ∃ V, V = w1 := ⟨_, rfl⟩
      have CV := Lib.hid (show Chg (· = p) w1 V from by rw [hV]; exact Chg.refl _ _)
      clear h0
    all_goals
      go_upto_region 7 with fail
      rw [← hV]
      rw [← hV] at K0
      clear hV h1 c0 c1 c2 c3 c4 c5 f4 f5 CK
      obtain ⟨c0, c1, c2, c3, c4, c5⟩ := K0.out.cells
      have f4 := K0.out.frozen 4
      have f5 := K0.out.frozen 5
      dsimp only at c0 c1 c2 c3 c4 c5
      obtain ⟨U, hU⟩ : ∃ U, U = (V.setCell ⟨p, 4, none⟩ (.int .i64 (min y0 n))).setCell ⟨p, 5, none⟩ (.int .i64 (max z0 n)) := ⟨_, rfl⟩
      have KU := Lib.hid (show RCb U p h { c with lo := min y0 n, hi := max z0 n } by rw [hU]; exact (K0.out.lo (min y0 n)).hi (max z0 n))
      have CU := Lib.hid (show Chg (· = p) w1 U by rw [hU]; exact (CV.out.trans (Chg.set V p 4 _)).trans (Chg.set _ p 5 _))
      have d5 : (V.setCell ⟨p, 4, none⟩ (.int .i64 (min y0 n))).cell? ⟨p, 5, none⟩ = some (.int .i64 z0) := (K0.out.lo (min y0 n)).cells.2.2.2.2.2
      clear K0 CV
      go_wp2_with fail
      rw [← hU]
      clear hU c0 c1 c2 c3 c4 c5 f4 f5 d5
      obtain ⟨c0, c1, c2, c3, c4, c5⟩ := KU.out.cells
      dsimp only at c0 c1 c2 c3 c4 c5
      clear c0 c1 c4 c5
      obtain ⟨a, ha⟩ : ∃ a, a = nrm n := ⟨_, rfl⟩
      obtain ⟨S, hS⟩ : ∃ S, S = sT c a := ⟨_, rfl⟩
      have KO := Lib.hid (show ∀ v, Below U.heap.size U v → Calls Try.prog 43 #[.int .i64 n] v fun e w' => e = .returned (.agg #[.int .i64 a.1, .int .u64 a.2]) ∧ Below v.heap.size v w' from fun v hv => by
        rw [ha]; exact rOf_any n v HN.out)
      have KS := Lib.hid (show ∀ v, Below U.heap.size U v → Calls Try.prog 42 #[.agg #[.int .i64 c.s.1, .int .u64 c.s.2], .agg #[.int .i64 a.1, .int .u64 a.2]] v
        fun e w' => e = .returned (.agg #[.int .i64 S.1, .int .u64 S.2]) ∧ Below v.heap.size v w' from fun v hv => by
          have hs := nrm_rng n
          have hc := HO.out.rng
          rw [← ha] at hs
          unfold Rng at hs hc
          rw [hS]
          exact rSumAdd_any c.s.1 c.s.2 a.1 a.2 v hc.2.2.1 hc.2.2.2 hs.2.2.1 hs.2.2.2)
      rw [← ha, ← hS] at EC
      clear hS ha
      refine QTail.wp_region_quiet_tail (C := fun w' => Below U.heap.size U w') 10 (by kernel_rfl) (by kernel_rfl) ((Below.refl _ _).drew) ?_
      simp only [List.take_succ_cons, List.take_zero]
      repeat (
        with_reducible refine wpQuiet_step (fun K hK => ?_)
        go_simp
        first
          | (with_reducible refine hK _ ?_; clear hK K)
          | (refine hK _ ?_; clear hK K)
          | (apply Exists.intro
             refine ⟨fun v hv => ?_, hK _ ?_⟩
             (first
               | with_reducible rfl
               | (with_reducible show Calls _ _ _ _ _
                  first
                    | with_reducible refine Calls.mono (KO.out _ hv) ?_
                    | with_reducible refine Calls.mono (KS.out _ hv) ?_
                  rintro e w' ⟨rfl, hb⟩
                  exact ⟨rfl, hv.trans (hb.mono hv.size)⟩)
               | (have d0 := (hv.cell (World.block_lt_of_cell? _ _ c2)).trans c2
                  have d1 := (hv.cell (World.block_lt_of_cell? _ _ c3)).trans c3
                  go_simp
                  with_reducible rfl))
             clear hK K))
      refine wpQuiet_nil ?_
      intro wf hk
      simp only [List.drop_succ_cons, List.drop_zero]
      have hp := KU.out.lt
      replace c2 := (hk.cell hp).trans c2
      replace c3 := (hk.cell hp).trans c3
      have f2 := (KU.out.mono hk).frozen 2
      have f3 := (KU.out.mono hk).frozen 3
      have RES := Lib.hid (((KU.out.mono hk).s1 S.1).s2 S.2)
      have BW := Lib.hid (show Chg (· = p) w1 ((wf.setCell ⟨p, 2, none⟩ (.int .i64 S.1)).setCell ⟨p, 3, none⟩ (.int .u64 S.2)) from ((CU.out.trans (Chg.of hk)).trans (Chg.set wf p 2 _)).trans (Chg.set _ p 3 _))
      clear hk hp
      go_wp2
      go_ret
      refine ⟨by rw [EC.out]; rfl, p :: R', ?_, rturn T1.out BW.out⟩
      rw [EC.out, HLO.out, HHI.out]
      refine ⟨h, R', rfl, HPR'.out, RES.out, ?_⟩
      exact H1.out.same fun g hg => BW.out.block g (H1.out.own.mem g hg).2 (fun e => HPR'.out (e ▸ hg))
end Go.Proofs.Ytgafnilcmhjpcaa.HCell
