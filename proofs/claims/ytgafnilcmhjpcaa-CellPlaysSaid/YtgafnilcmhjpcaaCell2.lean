/- Cells: take, walked. Conditions: the numbers are of their kinds' ranges. -/
import Derived.Test.YtgafnilcmhjpcaaCell
namespace Go.Proofs.Ytgafnilcmhjpcaa.HCell
set_option linter.unusedVariables false
open Go.RowKit Go.Proofs.Ytgafnilcmhjpcaa.HMem Go.Proofs.Ytgafnilcmhjpcaa.HHist Go.Proofs.Ytgafnilcmhjpcaa.HWide
open Go.Proofs.Ytgafnilcmhjpcaa.Print (I64)

def loT (c : CM) (old : Nat) (lo : Int) : Int := min (if old = 0 then lo else c.lo) lo
def hiT (c : CM) (old : Nat) (hi : Int) : Int := max (if old = 0 then hi else c.hi) hi
def sT (c : CM) (s : Int × Int) : Int × Int := nrm (val c.s.1 c.s.2 + val s.1 s.2)
/-- What others told is taken. -/
def takeC (c : CM) (old many : Nat) (s : Int × Int) (lo hi : Int) : CM := if many = 0 then c else { c with lo := loT c old lo, hi := hiT c old hi, s := sT c s }
set_option maxHeartbeats 4000000 in
set_option maxRecDepth 20000 in
theorem take_any {w : World} {p h : Nat} {c : CM} (k : Cb w p h c) (old many : Nat) (s : Int × Int) (lo hi : Int) (hs : Rng s.1 s.2) (hc : Rng c.s.1 c.s.2) :
    Calls Try.prog 55 #[.pointer (some ⟨p, 0, none⟩), .int .u64 old, .int .u64 many, .agg #[.int .i64 s.1, .int .u64 s.2], .int .i64 lo, .int .i64 hi] w
      fun e w' => e = .returned (.tuple #[]) ∧ Cb w' p h (takeC c old many s lo hi) ∧ Chg (· = p) w w' := by
  obtain ⟨s1, s2⟩ := s
  by_cases hm : many = 0
  · subst hm
    go_enter Try.func55, Try.ntmps55
    go_wp2
    refine bodyPost_ret (results_none rfl _ _ _) rfl ⟨rfl, k.mono ((Below.refl _ _).alloc (Nat.le_refl _) _), Chg.of ((Below.refl _ _).alloc (Nat.le_refl _) _)⟩
  have hm1 : ((many : Int) == 0) = false := by rw [beq_eq_false_iff_ne]; omega
  have HTK := Lib.hid (show takeC c old many (s1, s2) lo hi = { c with lo := loT c old lo, hi := hiT c old hi, s := sT c (s1, s2) } from if_neg hm)
  obtain ⟨X, hX⟩ : ∃ X, X = w.heap.size := ⟨_, rfl⟩
  obtain ⟨W, hW⟩ : ∃ W, W = w.alloc (.cells #[.int .i64 s1, .int .u64 s2] 43) := ⟨_, rfl⟩
  have HW := Lib.hid hW
  have HX := Lib.hid hX
  have b0 : Below w.heap.size w W := by rw [hW]; exact (Below.refl _ _).alloc (Nat.le_refl _) _
  have BX := Lib.hid (show W.heap[X]? = some (.cells #[.int .i64 s1, .int .u64 s2] 43 (0, 0)) by rw [hW, hX]; exact heap_alloc_new w _)
  have K := Lib.hid (k.mono b0)
  have hpX : p < X := by rw [hX]; exact k.lt
  have CH := Lib.hid (show Chg (· = p) w W from Chg.of b0)
  clear hm k b0 hX hW
  go_enter Try.func55, Try.ntmps55
  obtain ⟨y0, hy0⟩ : ∃ y, y = if old = 0 then lo else c.lo := ⟨_, rfl⟩
  obtain ⟨z0, hz0⟩ : ∃ z, z = if old = 0 then hi else c.hi := ⟨_, rfl⟩
  have HLO := Lib.hid (show loT c old lo = min y0 lo by unfold loT; rw [hy0])
  have HHI := Lib.hid (show hiT c old hi = max z0 hi by unfold hiT; rw [hz0])
  have K0 := Lib.hid (show Cb (if old = 0 then (W.setCell ⟨p, 4, none⟩ (.int .i64 lo)).setCell ⟨p, 5, none⟩ (.int .i64 hi) else W) p h { c with lo := y0, hi := z0 } by
    by_cases h0 : old = 0
    · rw [if_pos h0, hy0, hz0, if_pos h0, if_pos h0]; exact (K.out.lo lo).hi hi
    · rw [if_neg h0, hy0, hz0, if_neg h0, if_neg h0]; exact K.out)
  obtain ⟨c0, c1, c2, c3, c4, c5⟩ := K.out.cells
  have f4 := K.out.frozen 4
  have f5 := K.out.frozen 5
  clear hy0 hz0
  rw [HW.out] at c0 c1 c2 c3 c4 c5 f4 f5
  by_cases h0 : old = 0
  case' pos =>
    have h1 : ((old : Int) == 0) = true := by rw [beq_iff_eq]; omega
    rw [if_pos h0] at K0
    obtain ⟨V, hV⟩ : ∃ V, V = (W.setCell ⟨p, 4, none⟩ (.int .i64 lo)).setCell ⟨p, 5, none⟩ (.int .i64 hi) := ⟨_, rfl⟩
    have CV := Lib.hid (show Chg (· = p) W V from by rw [hV]; exact (Chg.set W p 4 _).trans (Chg.set _ p 5 _))
    clear h0
    go_wp2_with fail
    rw [← HW.out, ← HX.out, ← hV]
    rw [← hV] at K0
    rw [← HW.out] at c0 c1 c2 c3 c4 c5 f4 f5
    clear hV h1 c0 c1 c2 c3 c4 c5 f4 f5
  case' neg =>
    have h1 : ((old : Int) == 0) = false := by rw [beq_eq_false_iff_ne]; omega
    rw [if_neg h0] at K0
    obtain ⟨V, hV⟩ : ∃ V, V = W := ⟨_, rfl⟩
    have CV := Lib.hid (show Chg (· = p) W V from by rw [hV]; exact Chg.refl _ _)
    clear h0
    go_wp2_with fail
    rw [← HW.out, ← HX.out, ← hV]
    rw [← hV] at K0
    rw [← HW.out] at c0 c1 c2 c3 c4 c5 f4 f5
    clear hV h1 c0 c1 c2 c3 c4 c5 f4 f5
  all_goals
    obtain ⟨c0, c1, c2, c3, c4, c5⟩ := K0.out.cells
    have f4 := K0.out.frozen 4
    have f5 := K0.out.frozen 5
    dsimp only at c0 c1 c2 c3 c4 c5
    go_cut [] (fun w' => Cb w' p h { c with lo := min y0 lo, hi := max z0 hi } ∧ Chg (· = p) V w')
    case first =>
      go_region
      all_goals
        go_wp2_with fail
        go_meet
        case rel =>
          first
            | exact ⟨(K0.out.lo (min y0 lo)).hi (max z0 hi), ((Chg.set V p 4 _).trans (Chg.set _ p 5 _)).drew⟩
            | exact ⟨(K0.out.hi (max z0 hi)).lo (min y0 lo), ((Chg.set V p 5 _).trans (Chg.set _ p 4 _)).drew⟩
    case rest =>
      obtain ⟨kc, ch⟩ := hcut
      have hXW := heap_lt BX.out
      have hbx : wc.heap[X]? = some (.cells #[.int .i64 s1, .int .u64 s2] 43 (0, 0)) := by
        rw [ch.block X (Nat.lt_of_lt_of_le hXW CV.out.size) (by omega), CV.out.block X hXW (by omega)]
        exact BX.out
      have x0 : wc.cell? ⟨X, 0, none⟩ = some (.int .i64 s1) := by simp [World.cell?, hbx]
      have x1 : wc.cell? ⟨X, 1, none⟩ = some (.int .u64 s2) := by simp [World.cell?, hbx]
      have KC := Lib.hid kc
      have CHG := Lib.hid (show Chg (· = p) w wc from (CH.out.trans CV.out).trans ch)
      clear c0 c1 c2 c3 c4 c5 f4 f5 kc ch hbx hXW K0 CV
      obtain ⟨c0, c1, c2, c3, c4, c5⟩ := KC.out.cells
      dsimp only at c0 c1 c2 c3 c4 c5
      clear c0 c1 c4 c5
      have KA := Lib.hid (show ∀ v, Below wc.heap.size wc v → Calls Try.prog 20 #[.agg #[.int .i64 c.s.1, .int .u64 c.s.2], .agg #[.int .i64 s1, .int .u64 s2]] v
        fun e w' => e = .returned (.agg #[.int .i64 (sT c (s1, s2)).1, .int .u64 (sT c (s1, s2)).2]) ∧ Below v.heap.size v w' from fun v hv => by
          unfold Rng at hs hc
          exact Add_any c.s.1 c.s.2 s1 s2 v hc.2.2.1 hc.2.2.2 hs.2.2.1 hs.2.2.2)
      obtain ⟨S, hS⟩ : ∃ S, S = sT c (s1, s2) := ⟨_, rfl⟩
      rw [← hS] at KA HTK
      clear hS
      go_wp2_with fail
      refine QTail.wp_region_quiet_tail (C := fun w' => Below wc.heap.size wc w') 9 (by kernel_rfl) (by kernel_rfl) ((Below.refl _ _).drew) ?_
      simp only [List.take_succ_cons, List.take_zero]
      repeat (
        with_reducible refine wpQuiet_step (fun K hK => ?_)
        go_simp
        first
          | (with_reducible refine hK _ ?_; clear hK K)
          | (refine hK _ ?_; clear hK K)
          | (apply Exists.intro
             refine ⟨fun v hv => ?_, hK _ ?_⟩
             (first
               | with_reducible rfl
               | (with_reducible show Calls _ _ _ _ _
                  first
                    | with_reducible refine Calls.mono (KA.out _ hv) ?_
                  rintro e w' ⟨rfl, hb⟩
                  exact ⟨rfl, hv.trans (hb.mono hv.size)⟩)
               | (have d0 := (hv.cell (World.block_lt_of_cell? _ _ c2)).trans c2
                  have d1 := (hv.cell (World.block_lt_of_cell? _ _ c3)).trans c3
                  have d2 := (hv.cell (World.block_lt_of_cell? _ _ x0)).trans x0
                  have d3 := (hv.cell (World.block_lt_of_cell? _ _ x1)).trans x1
                  go_simp
                  with_reducible rfl))
             clear hK K))
      refine wpQuiet_nil ?_
      intro wf hk
      simp only [List.drop_succ_cons, List.drop_zero]
      have hp := KC.out.lt
      replace c2 := (hk.cell hp).trans c2
      replace c3 := (hk.cell hp).trans c3
      have f2 := (KC.out.mono hk).frozen 2
      have f3 := (KC.out.mono hk).frozen 3
      have RES := Lib.hid (((KC.out.mono hk).s1 S.1).s2 S.2)
      have BW := Lib.hid (show Chg (· = p) w ((wf.setCell ⟨p, 2, none⟩ (.int .i64 S.1)).setCell ⟨p, 3, none⟩ (.int .u64 S.2)) from ((CHG.out.trans (Chg.of hk)).trans (Chg.set wf p 2 _)).trans (Chg.set _ p 3 _))
      clear hk x0 x1 hp
      go_wp2
      go_end0
      refine ⟨rfl, ?_, BW.out⟩
      rw [HTK.out, HLO.out, HHI.out]
      exact RES.out
end Go.Proofs.Ytgafnilcmhjpcaa.HCell
