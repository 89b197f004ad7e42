/- Cells and the reference's: alike, walked: two that hold the same. Conditions: the numbers are of their kinds' ranges. -/
import Derived.Test.YtgafnilcmhjpcaaRCell5
import Derived.Test.YtgafnilcmhjpcaaRCell2
import Derived.Test.YtgafnilcmhjpcaaCellMoves
namespace Go.Proofs.Ytgafnilcmhjpcaa.HCell
set_option linter.unusedVariables false
open Go.RowKit Go.Proofs.Ytgafnilcmhjpcaa.HMem Go.Proofs.Ytgafnilcmhjpcaa.HHist Go.Proofs.Ytgafnilcmhjpcaa.HWide
open Go.Proofs.Ytgafnilcmhjpcaa.Print (I64)

@[go_sem] theorem fieldSum0 (a b : Int) (w : World) : (Instr.field 43 (.agg #[.int .i64 a, .int .u64 b]) 0).run Try.prog w = .ok (.int .i64 a) w := by
  unfold Instr.field
  go_simp
  first | rfl | simp [asAgg]
@[go_sem] theorem fieldSum1 (a b : Int) (w : World) : (Instr.field 43 (.agg #[.int .i64 a, .int .u64 b]) 1).run Try.prog w = .ok (.int .u64 b) w := by
  unfold Instr.field
  go_simp
  first | rfl | simp [asAgg]
theorem alike_none (w : World) : Calls Try.prog 16 #[.pointer none, .pointer none] w fun e w' => e = .returned (.bool true) ∧ Below w.heap.size w w' := by
  go_enter Try.func16, Try.ntmps16
  go_wp2
  go_ret
  exact ⟨rfl, Below.refl _ _⟩
set_option maxHeartbeats 8000000 in
set_option maxRecDepth 20000 in
theorem alike_some {w : World} {p q : Nat} {G F : List Nat} {c : CM} (k : CellAt w p G c) (kr : RCellAt w q F c) (ho : COk c) :
    Calls Try.prog 16 #[.pointer (some ⟨p, 0, none⟩), .pointer (some ⟨q, 0, none⟩)] w fun e w' => e = .returned (.bool true) ∧ Below w.heap.size w w' := by
  have KBD := Bounds_any k
  have KP := Lib.hid (fun (v : World) (hv : Below w.heap.size w v) => HCell.Put_any (k.mono hv) ho)
  have KR := Lib.hid (fun (v : World) (hv : Below w.heap.size w v) => rcPut_any (kr.mono hv) ho)
  obtain ⟨h, R, _, _, kb, kh⟩ := k.ex
  obtain ⟨h', R', _, _, kb', kh'⟩ := kr.ex
  obtain ⟨p0, _⟩ := kb.cells
  obtain ⟨q0, q1, q2, q3, q4, q5⟩ := kb'.cells
  have KF := Lib.hid (fun (v : World) (hv : Below w.heap.size w v) => From_any (kb.mono hv))
  have KS := Lib.hid (fun (v : World) (hv : Below w.heap.size w v) => Sum_any (kb.mono hv))
  have KC := Lib.hid (count_q kh)
  have KD := Lib.hid (rcount_q kh' ho.h)
  obtain ⟨T, hT⟩ : ∃ T, T = total c.l := ⟨_, rfl⟩
  obtain ⟨fr, hfr⟩ : ∃ T, T = c.fr := ⟨_, rfl⟩
  obtain ⟨s1, hs1⟩ : ∃ T, T = c.s.1 := ⟨_, rfl⟩
  obtain ⟨s2, hs2⟩ : ∃ T, T = c.s.2 := ⟨_, rfl⟩
  obtain ⟨lo, hlo⟩ : ∃ T, T = c.lo := ⟨_, rfl⟩
  obtain ⟨hi, hhi⟩ : ∃ T, T = c.hi := ⟨_, rfl⟩
  obtain ⟨S, hS⟩ : ∃ T, T = strOfNums (encC c) := ⟨_, rfl⟩
  rw [← hT] at KBD KC KD
  rw [← hfr] at q0 KF
  rw [← hs1] at q2 KS
  rw [← hs2] at q3 KS
  rw [← hlo] at q4 KBD
  rw [← hhi] at q5 KBD
  rw [← hS] at KP KR
  have t1 : (fr == fr) = true := by simp
  have t2 : ((T : Int) == (T : Int)) = true := by simp
  have t3 : (s1 == s1) = true := by simp
  have t4 : (s2 == s2) = true := by simp
  have t5 : (lo == lo) = true := by simp
  have t6 : (hi == hi) = true := by simp
  have t7 := str_self S
  clear k kr kb kb' kh kh' hT hfr hs1 hs2 hlo hhi hS ho
  have hNd : decide (0 < T) = decide ((0 : Int) < (T : Int)) := by by_cases h : 0 < T <;> simp [h]
  rw [hNd] at KBD
  have P0 := Lib.hid p0
  have KBDH := Lib.hid KBD
  clear KBD hNd
  rcases Nat.eq_zero_or_pos T with hT0 | hT0
  all_goals
    first
      | (have hq : decide ((0 : Int) < (T : Int)) = false := by rw [hT0]; rfl)
      | (have hq : decide ((0 : Int) < (T : Int)) = true := decide_eq_true (by omega)
         have hT1 : (0 : Int) < (T : Int) := by omega)
    have KBE := KBDH.out
    rw [hq] at KBE
    go_enter Try.func16, Try.ntmps16
    go_wp2_with fail
    refine KBE.mono ?_
    rintro e w1 ⟨rfl, b1⟩
    have B1 := Lib.hid b1
    have J1 := Lib.hid (fun v (hv : Below w1.heap.size w1 v) => KF.out v (B1.out.trans (hv.mono B1.out.size)))
    have J2 := Lib.hid (fun v (hv : Below w1.heap.size w1 v) => KC.out v (B1.out.trans (hv.mono B1.out.size)))
    have J3 := Lib.hid (fun v (hv : Below w1.heap.size w1 v) => KD.out v (B1.out.trans (hv.mono B1.out.size)))
    have J4 := Lib.hid (fun v (hv : Below w1.heap.size w1 v) => KS.out v (B1.out.trans (hv.mono B1.out.size)))
    have J5 := Lib.hid (fun v (hv : Below w1.heap.size w1 v) => KP.out v (B1.out.trans (hv.mono B1.out.size)))
    have J6 := Lib.hid (fun v (hv : Below w1.heap.size w1 v) => KR.out v (B1.out.trans (hv.mono B1.out.size)))
    replace p0 := (b1.cell (World.block_lt_of_cell? _ _ p0)).trans p0
    replace q0 := (b1.cell (World.block_lt_of_cell? _ _ q0)).trans q0
    replace q1 := (b1.cell (World.block_lt_of_cell? _ _ q1)).trans q1
    replace q2 := (b1.cell (World.block_lt_of_cell? _ _ q2)).trans q2
    replace q3 := (b1.cell (World.block_lt_of_cell? _ _ q3)).trans q3
    replace q4 := (b1.cell (World.block_lt_of_cell? _ _ q4)).trans q4
    replace q5 := (b1.cell (World.block_lt_of_cell? _ _ q5)).trans q5
    clear b1 KF KC KD KS KP KR KBE
    try subst hT0
    go_wp2_with fail
    refine wp_region_quiet (C := fun w' => Below w1.heap.size w1 w') (by kernel_rfl) (by kernel_rfl) ((Below.refl _ _).drew) ?_
    try dsimp only [List.append]
    repeat (
      with_reducible refine wpQuiet_step (fun K hK => ?_)
      go_simp
      first
        | (with_reducible refine hK _ ?_; clear hK K)
        | (refine hK _ ?_; clear hK K)
        | (apply Exists.intro
           refine ⟨fun v hv => ?_, hK _ ?_⟩
           (first
             | with_reducible rfl
             | (with_reducible show Calls _ _ _ _ _
                first
                  | with_reducible refine Calls.mono (J1.out _ hv) ?_
                  | with_reducible refine Calls.mono (J2.out _ hv) ?_
                  | with_reducible refine Calls.mono (J3.out _ hv) ?_
                  | with_reducible refine Calls.mono (J4.out _ hv) ?_
                  | with_reducible refine Calls.mono (J5.out _ hv) ?_
                  | with_reducible refine Calls.mono (J6.out _ hv) ?_
                rintro e w' ⟨rfl, hb⟩
                exact ⟨rfl, hv.trans (hb.mono hv.size)⟩)
             | (have d0 := (hv.cell (World.block_lt_of_cell? _ _ p0)).trans p0
                have d1 := (hv.cell (World.block_lt_of_cell? _ _ q0)).trans q0
                have d2 := (hv.cell (World.block_lt_of_cell? _ _ q1)).trans q1
                have d3 := (hv.cell (World.block_lt_of_cell? _ _ q2)).trans q2
                have d4 := (hv.cell (World.block_lt_of_cell? _ _ q3)).trans q3
                have d5 := (hv.cell (World.block_lt_of_cell? _ _ q4)).trans q4
                have d6 := (hv.cell (World.block_lt_of_cell? _ _ q5)).trans q5
                go_simp
                with_reducible rfl))
           clear hK K))
    refine wpQuiet_nil ?_
    intro w2 b2
    have B2 := Lib.hid (B1.out.trans (b2.mono B1.out.size))
    clear b2 J1 J2 J3 J4 J5 J6 p0 q0 q1 q2 q3 q4 q5
    go_wp2
    go_ret
    exact ⟨by first | rfl | simp, B2.out⟩
/-- The reference's cell of one's own: all its blocks are from some place on. -/
def RSC (B : Nat) (w : World) (p : Nat) (c : CM) : Prop := ∃ G, RCellAt w p G c ∧ COk c ∧ ∀ g ∈ G, B ≤ g
theorem RSC.mono {B : Nat} {w w' : World} {p : Nat} {c : CM} (h : RSC B w p c) (k : Below w.heap.size w w') : RSC B w' p c := by
  obtain ⟨G, h1, h2, h3⟩ := h
  exact ⟨G, h1.mono k, h2, h3⟩
theorem rc_add {B : Nat} {w : World} {p : Nat} {c : CM} (h : RSC B w p c) (hB : B ≤ w.heap.size) (n : Int) (hn : I64 n) :
    Calls Try.prog 11 #[.pointer (some ⟨p, 0, none⟩), .int .i64 n] w fun e w' => e = .returned (.int .i64 (addC c n).2) ∧ RSC B w' p (addC c n).1 ∧ Below B w w' := by
  obtain ⟨G, h1, h2, h3⟩ := h
  refine (HCell.rcAdd_any h1 h2 n hn).mono ?_
  rintro e w' ⟨rfl, G', k1, k2⟩
  refine ⟨rfl, ⟨G', k1, h2.add hn, fun g hg => ?_⟩, k2.chg.below h3 hB⟩
  rcases k2.foot g hg with h' | h'
  · exact h3 g h'
  · omega
end Go.Proofs.Ytgafnilcmhjpcaa.HCell
