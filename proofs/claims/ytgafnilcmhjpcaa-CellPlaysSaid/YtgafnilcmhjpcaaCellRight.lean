/- Cells: right, walked. Conditions: the numbers are of their kinds' ranges. -/
import Derived.Test.YtgafnilcmhjpcaaCellTimes
import Derived.Test.YtgafnilcmhjpcaaWdGet
namespace Go.Proofs.Ytgafnilcmhjpcaa.HCell
set_option linter.unusedVariables false
open Go.RowKit Go.Proofs.Ytgafnilcmhjpcaa.HMem Go.Proofs.Ytgafnilcmhjpcaa.HHist Go.Proofs.Ytgafnilcmhjpcaa.HWide Go.Proofs.Ytgafnilcmhjpcaa.HBucket
open Go.Proofs.Ytgafnilcmhjpcaa.Print (I64)

def firstL (l : IL) : Int := (l.getD 0 (0, 0)).1
def lastL (l : IL) : Int := (l.getD (l.length - 1) (0, 0)).1
/-- May a cell be? -/
def rightC (c : CM) : Bool :=
  if c.l.length = 0 then decide (c.lo = 0) && (decide (c.hi = 0) && decide (c.s.1 = 0 ∧ c.s.2 = 0))
  else decide (c.lo ≤ c.hi) && (decide (ofZ c.b c.lo = firstL c.l) && (decide (ofZ c.b c.hi = lastL c.l) &&
    (!decide (val c.s.1 c.s.2 < val (timesC c.lo (total c.l)).1 (timesC c.lo (total c.l)).2) && !decide (val (timesC c.hi (total c.l)).1 (timesC c.hi (total c.l)).2 < val c.s.1 c.s.2))))
def RightAns (w : World) (c : CM) (e : Ending) (w' : World) : Prop :=
  ((rightC c = true ∧ e = .returned (.tuple #[])) ∨ (rightC c = false ∧ e = .panicked [{ v := .iface 30 (.int .i64 2), recovered := false }])) ∧ Below w.heap.size w w'
theorem bits_q {w : World} {h : Nat} {R : List Nat} {b : Nat} {l : IL} (k : HistAt w h R b l) : ∀ v, Below w.heap.size w v → Calls Try.prog 57 #[.pointer (some ⟨h, 0, none⟩)] v fun e w' => e = .returned (.int .i64 b) ∧ Below v.heap.size v w' := fun v hv =>
  (Bits_any (k.mono hv)).mono fun e w' ⟨a, b⟩ => ⟨a, by subst b; exact Below.refl _ _⟩
theorem of_q (b : Nat) (n : Int) (hb : b ≤ 4) (hn : I64 n) (v : World) : Calls Try.prog 59 #[.int .i64 b, .int .i64 n] v fun e w' => e = .returned (.tuple #[.int .i64 (ofZ b n), .bool true]) ∧ Below v.heap.size v w' := by
  unfold Print.I64 at hn
  exact (Of_yes b n v (by omega) (by omega) hn.1 hn.2).mono fun e w' ⟨h1, h2⟩ => ⟨by rw [h1, ofZ_def]; simp, h2⟩
set_option maxHeartbeats 8000000 in
set_option maxRecDepth 20000 in
theorem right_any {w : World} {p : Nat} {G : List Nat} {c : CM} (k : CellAt w p G c) (ho : COk c) :
    Calls Try.prog 71 #[.pointer (some ⟨p, 0, none⟩)] w (RightAns w c) := by
  obtain ⟨h, R, hG, hpR, kc, kh⟩ := k.ex
  obtain ⟨c0, c1, c2, c3, c4, c5⟩ := kc.cells
  have HO := Lib.hid ho
  have KH := Lib.hid kh
  have KC := Lib.hid kc
  have hlen := ho.h.len
  obtain ⟨n, hn⟩ : ∃ n, n = c.l.length := ⟨_, rfl⟩
  rw [← hn] at hlen
  have HN := Lib.hid hn
  obtain ⟨r, hr⟩ : ∃ r, r = rightC c := ⟨_, rfl⟩
  have HR := Lib.hid hr
  have BX := Lib.hid (Below.refl w.heap.size w)
  clear k kc kh hG hpR ho hr
  go_enter Try.func71, Try.ntmps71
  go_wp2_with fail
  refine (Items_any KH.out (by rw [← hn]; omega)).mono ?_
  rintro e w1 ⟨v, rfl, G', row, hG', b1⟩
  rw [← hn] at row
  obtain ⟨av, cv, rfl, _⟩ := row.form
  have ROW := Lib.hid row
  have B1 := Lib.hid b1
  replace c0 := (b1.cell (World.block_lt_of_cell? _ _ c0)).trans c0
  replace c2 := (b1.cell (World.block_lt_of_cell? _ _ c2)).trans c2
  replace c3 := (b1.cell (World.block_lt_of_cell? _ _ c3)).trans c3
  replace c4 := (b1.cell (World.block_lt_of_cell? _ _ c4)).trans c4
  replace c5 := (b1.cell (World.block_lt_of_cell? _ _ c5)).trans c5
  clear row hG' b1 c1 hn
  go_wp2_with fail
  obtain ⟨q1, hq1⟩ : ∃ q1, q1 = decide (c.lo ≤ c.hi) := ⟨_, rfl⟩
  have eq1 : decide (c.lo ≤ c.hi) = q1 := hq1.symm
  have HQ1 := Lib.hid hq1
  clear hq1
  refine wp_region_quiet (C := fun w' => Below w1.heap.size w1 w') (by kernel_rfl) (by kernel_rfl) ((Below.refl _ _).drew) ?_
  repeat (
    with_reducible refine wpQuiet_step (fun K hK => ?_)
    go_simp
    first
      | (with_reducible refine hK _ ?_; clear hK K)
      | (refine hK _ ?_; clear hK K)
      | (apply Exists.intro
         refine ⟨fun v hv => ?_, hK _ ?_⟩
         (first
           | with_reducible rfl
           | (have d0 := (hv.cell (World.block_lt_of_cell? _ _ c4)).trans c4
              have d1 := (hv.cell (World.block_lt_of_cell? _ _ c5)).trans c5
              go_simp
              with_reducible rfl))
         clear hK K))
  refine wpQuiet_nil ?_
  intro w2 b2
  clear eq1
  have B2 := Lib.hid (B1.out.trans (b2.mono B1.out.size))
  have B12 := Lib.hid b2
  replace c0 := (b2.cell (World.block_lt_of_cell? _ _ c0)).trans c0
  replace c2 := (b2.cell (World.block_lt_of_cell? _ _ c2)).trans c2
  replace c3 := (b2.cell (World.block_lt_of_cell? _ _ c3)).trans c3
  replace c4 := (b2.cell (World.block_lt_of_cell? _ _ c4)).trans c4
  replace c5 := (b2.cell (World.block_lt_of_cell? _ _ c5)).trans c5
  clear b2
  rcases Nat.eq_zero_or_pos n with h0 | h0
  · subst h0
    have HN0 := Lib.hid (show rightC c = (decide (c.lo = 0) && (decide (c.hi = 0) && decide (c.s.1 = 0 ∧ c.s.2 = 0))) by unfold rightC; rw [if_pos HN.out.symm])
    have h4 : (¬ c.lo = 0 ∧ rightC c = false) ∨ (c.lo = 0 ∧ ¬ c.hi = 0 ∧ rightC c = false) ∨ (c.lo = 0 ∧ c.hi = 0 ∧ ¬ (c.s.1 = 0 ∧ c.s.2 = 0) ∧ rightC c = false) ∨ (c.lo = 0 ∧ c.hi = 0 ∧ (c.s.1 = 0 ∧ c.s.2 = 0) ∧ rightC c = true) := by
      rw [HN0.out]
      by_cases a1 : c.lo = 0
      · by_cases a2 : c.hi = 0
        · by_cases a3 : c.s.1 = 0 ∧ c.s.2 = 0
          · exact .inr (.inr (.inr ⟨a1, a2, a3, by simp [a1, a2, a3]⟩))
          · exact .inr (.inr (.inl ⟨a1, a2, a3, by simp [a1, a2]; simpa using a3⟩))
        · exact .inr (.inl ⟨a1, a2, by simp [a2]⟩)
      · exact .inl ⟨a1, by simp [a1]⟩
    rcases h4 with ⟨a1, a4⟩ | ⟨a1, a2, a4⟩ | ⟨a1, a2, a3, a4⟩ | ⟨a1, a2, a3, a4⟩
    case' inl =>
      have e1 : (c.lo == 0) = false := by simpa using a1
      have A4 := Lib.hid a4
      clear a1 a4
    case' inr.inl =>
      have e1 : (c.lo == 0) = true := by simpa using a1
      have e2 : (c.hi == 0) = false := by simpa using a2
      have A4 := Lib.hid a4
      clear a1 a2 a4
    case' inr.inr.inl =>
      have e1 : (c.lo == 0) = true := by simpa using a1
      have e2 : (c.hi == 0) = true := by simpa using a2
      have A4 := Lib.hid a4
      have A3 := Lib.hid a3
      clear a1 a2 a3 a4
      by_cases a5 : c.s.1 = 0
      case' pos =>
        have e3 : (c.s.1 == 0) = true := by simpa using a5
        have e4 : (c.s.2 == 0) = false := by
          have := A3.out
          simpa [a5] using this
        clear a5
      case' neg =>
        have e3 : (c.s.1 == 0) = false := by simpa using a5
        clear a5
    case' inr.inr.inr =>
      have e1 : (c.lo == 0) = true := by simpa using a1
      have e2 : (c.hi == 0) = true := by simpa using a2
      have e3 : (c.s.1 == 0) = true := by simpa using a3.1
      have e4 : (c.s.2 == 0) = true := by simpa using a3.2
      have A4 := Lib.hid a4
      clear a1 a2 a3 a4
    all_goals
      go_wp2_with fail
      first
        | (refine (must_throws 2 (by decide) w2).mono ?_
           rintro e w3 ⟨rfl, rfl⟩
           go_wp2
           exact ⟨rfl, .inr ⟨A4.out, rfl⟩, B2.out⟩)
        | (go_end0
           exact ⟨.inl ⟨A4.out, rfl⟩, B2.out⟩)
  · obtain ⟨g, off, cap, ev, _, hnc, hcm, hat⟩ := ROW.out.there h0
    cases ev
    obtain ⟨fx, hfx⟩ : ∃ x, c.l[0]? = some x := ⟨_, List.getElem?_eq_getElem (by rw [← HN.out]; exact h0)⟩
    obtain ⟨m, hm⟩ : ∃ m, n = m + 1 := ⟨n - 1, by omega⟩
    obtain ⟨lx, hlx⟩ : ∃ x, c.l[m]? = some x := ⟨_, List.getElem?_eq_getElem (by rw [← HN.out]; omega)⟩
    have g0 := (hat _ _ (flat_get c.l 0 fx hfx).1).1
    have g1 := (hat _ _ (flat_get c.l m lx hlx).1).1
    have EF := Lib.hid (show firstL c.l = fx.1 by unfold firstL; rw [List.getD_eq_getElem?_getD, hfx]; rfl)
    have EL := Lib.hid (show lastL c.l = lx.1 by unfold lastL; rw [← HN.out, hm, Nat.add_sub_cancel, List.getD_eq_getElem?_getD, hlx]; rfl)
    have q0 : w1.cell? ⟨g, off, none⟩ = some (.int .i64 fx.1) := by simpa using g0
    replace q0 := (B12.out.cell (World.block_lt_of_cell? _ _ q0)).trans q0
    replace g1 := (B12.out.cell (World.block_lt_of_cell? _ _ g1)).trans g1
    have z0 : ((n : Int) == 0) = false := by rw [beq_eq_false_iff_ne]; omega
    have z1 : IntKind.i64.wrap ((n : Int) - 1) = (m : Int) := by rw [IntKind.wrap_i64]; omega
    have z2 : (m : Int) < n := by omega
    have z3 : (0 : Int) < n := by omega
    obtain ⟨q2, hq2⟩ : ∃ q2, q2 = decide (ofZ c.b c.lo = firstL c.l) := ⟨_, rfl⟩
    obtain ⟨q3, hq3⟩ : ∃ q3, q3 = decide (ofZ c.b c.hi = lastL c.l) := ⟨_, rfl⟩
    obtain ⟨L1, hL1⟩ : ∃ L1, L1 = decide (val c.s.1 c.s.2 < val (timesC c.lo (total c.l)).1 (timesC c.lo (total c.l)).2) := ⟨_, rfl⟩
    obtain ⟨L2, hL2⟩ : ∃ L2, L2 = decide (val (timesC c.hi (total c.l)).1 (timesC c.hi (total c.l)).2 < val c.s.1 c.s.2) := ⟨_, rfl⟩
    have HRR := Lib.hid (show rightC c = (q1 && (q2 && (q3 && (!L1 && !L2)))) by
      unfold rightC
      rw [if_neg (by rw [← HN.out]; omega), hq2, hq3, hL1, hL2, HQ1.out])
    rw [EF.out] at hq2
    rw [EL.out] at hq3
    obtain ⟨o1, ho1⟩ : ∃ o1, o1 = ofZ c.b c.lo := ⟨_, rfl⟩
    obtain ⟨o2, ho2⟩ : ∃ o2, o2 = ofZ c.b c.hi := ⟨_, rfl⟩
    obtain ⟨T1, hT1⟩ : ∃ T1, T1 = timesC c.lo (total c.l) := ⟨_, rfl⟩
    obtain ⟨T2, hT2⟩ : ∃ T2, T2 = timesC c.hi (total c.l) := ⟨_, rfl⟩
    have eq2 : (o1 == fx.1) = q2 := by rw [hq2, ho1]; rfl
    have eq3 : (o2 == lx.1) = q3 := by rw [hq3, ho2]; rfl
    have KB := Lib.hid (bits_q (KH.out.mono B2.out))
    have KO1 := Lib.hid (show ∀ v, Below w2.heap.size w2 v → Calls Try.prog 59 #[.int .i64 c.b, .int .i64 c.lo] v fun e w' => e = .returned (.tuple #[.int .i64 o1, .bool true]) ∧ Below v.heap.size v w' from fun v hv => by rw [ho1]; exact of_q c.b c.lo HO.out.h.bits HO.out.lo v)
    have KO2 := Lib.hid (show ∀ v, Calls Try.prog 59 #[.int .i64 c.b, .int .i64 c.hi] v fun e w' => e = .returned (.tuple #[.int .i64 o2, .bool true]) ∧ Below v.heap.size v w' from fun v => by rw [ho2]; exact of_q c.b c.hi HO.out.h.bits HO.out.hi v)
    have KT1 := Lib.hid (show ∀ v, Calls Try.prog 89 #[.int .i64 c.lo, .int .u64 (total c.l : Nat)] v fun e w' => e = .returned (.agg #[.int .i64 T1.1, .int .u64 T1.2]) ∧ Below v.heap.size v w' from fun v => by rw [hT1]; exact times_any c.lo (total c.l) v HO.out.lo HO.out.h.total)
    have KT2 := Lib.hid (show ∀ v, Calls Try.prog 89 #[.int .i64 c.hi, .int .u64 (total c.l : Nat)] v fun e w' => e = .returned (.agg #[.int .i64 T2.1, .int .u64 T2.2]) ∧ Below v.heap.size v w' from fun v => by rw [hT2]; exact times_any c.hi (total c.l) v HO.out.hi HO.out.h.total)
    have KL1 := Lib.hid (show ∀ v, Calls Try.prog 88 #[.agg #[.int .i64 c.s.1, .int .u64 c.s.2], .agg #[.int .i64 T1.1, .int .u64 T1.2]] v fun e w' => e = .returned (.bool L1) ∧ Below v.heap.size v w' from fun v => by rw [hL1, hT1]; exact Less_any _ _ _ _ v HO.out.rng (nrm_rng _))
    have KL2 := Lib.hid (show ∀ v, Calls Try.prog 88 #[.agg #[.int .i64 T2.1, .int .u64 T2.2], .agg #[.int .i64 c.s.1, .int .u64 c.s.2]] v fun e w' => e = .returned (.bool L2) ∧ Below v.heap.size v w' from fun v => by rw [hL2, hT2]; exact Less_any _ _ _ _ v (nrm_rng _) HO.out.rng)
    clear hq2 hq3 hL1 hL2 ho1 ho2 hT1 hT2 hfx hlx hat hnc hcm hm g0 EF EL
    go_wp2_with fail
    refine wp_region_quiet (C := fun w' => Below w2.heap.size w2 w') (by kernel_rfl) (by kernel_rfl) ((Below.refl _ _).drew) ?_
    repeat (
      with_reducible refine wpQuiet_step (fun K hK => ?_)
      go_simp
      first
        | (with_reducible refine hK _ ?_; clear hK K)
        | (refine hK _ ?_; clear hK K)
        | (apply Exists.intro
           refine ⟨fun v hv => ?_, hK _ ?_⟩
           (first
             | with_reducible rfl
             | (with_reducible show Calls _ _ _ _ _
                first
                  | with_reducible refine Calls.mono (KB.out _ hv) ?_
                  | with_reducible refine Calls.mono (KO1.out _ hv) ?_
                rintro e w' ⟨rfl, hb⟩
                exact ⟨rfl, hv.trans (hb.mono hv.size)⟩)
             | (have d0 := (hv.cell (World.block_lt_of_cell? _ _ c0)).trans c0
                have d1 := (hv.cell (World.block_lt_of_cell? _ _ c4)).trans c4
                go_simp
                with_reducible rfl))
           clear hK K))
    refine wpQuiet_nil ?_
    intro w3 b3
    have B3 := Lib.hid (B2.out.trans (b3.mono B2.out.size))
    replace c0 := (b3.cell (World.block_lt_of_cell? _ _ c0)).trans c0
    replace c2 := (b3.cell (World.block_lt_of_cell? _ _ c2)).trans c2
    replace c3 := (b3.cell (World.block_lt_of_cell? _ _ c3)).trans c3
    replace c4 := (b3.cell (World.block_lt_of_cell? _ _ c4)).trans c4
    replace c5 := (b3.cell (World.block_lt_of_cell? _ _ c5)).trans c5
    replace q0 := (b3.cell (World.block_lt_of_cell? _ _ q0)).trans q0
    replace g1 := (b3.cell (World.block_lt_of_cell? _ _ g1)).trans g1
    clear b3 KB KO1
    have KB := Lib.hid (bits_q (KH.out.mono B3.out))
    have KO3 := Lib.hid (fun v (hv : Below w3.heap.size w3 v) => KO2.out v)
    clear KO2
    go_wp2_with fail
    refine wp_region_quiet (C := fun w' => Below w3.heap.size w3 w') (by kernel_rfl) (by kernel_rfl) ((Below.refl _ _).drew) ?_
    repeat (
      with_reducible refine wpQuiet_step (fun K hK => ?_)
      go_simp
      first
        | (with_reducible refine hK _ ?_; clear hK K)
        | (refine hK _ ?_; clear hK K)
        | (apply Exists.intro
           refine ⟨fun v hv => ?_, hK _ ?_⟩
           (first
             | with_reducible rfl
             | (with_reducible show Calls _ _ _ _ _
                first
                  | with_reducible refine Calls.mono (KB.out _ hv) ?_
                  | with_reducible refine Calls.mono (KO3.out _ hv) ?_
                rintro e w' ⟨rfl, hb⟩
                exact ⟨rfl, hv.trans (hb.mono hv.size)⟩)
             | (have d0 := (hv.cell (World.block_lt_of_cell? _ _ c0)).trans c0
                have d1 := (hv.cell (World.block_lt_of_cell? _ _ c5)).trans c5
                go_simp
                with_reducible rfl))
           clear hK K))
    refine wpQuiet_nil ?_
    intro w4 b4
    have B4 := Lib.hid (B3.out.trans (b4.mono B3.out.size))
    replace c0 := (b4.cell (World.block_lt_of_cell? _ _ c0)).trans c0
    replace c2 := (b4.cell (World.block_lt_of_cell? _ _ c2)).trans c2
    replace c3 := (b4.cell (World.block_lt_of_cell? _ _ c3)).trans c3
    replace c4 := (b4.cell (World.block_lt_of_cell? _ _ c4)).trans c4
    replace c5 := (b4.cell (World.block_lt_of_cell? _ _ c5)).trans c5
    replace q0 := (b4.cell (World.block_lt_of_cell? _ _ q0)).trans q0
    replace g1 := (b4.cell (World.block_lt_of_cell? _ _ g1)).trans g1
    clear b4 KB KO3
    have K1 := Lib.hid (count_q (KH.out.mono B4.out))
    have K2 := Lib.hid (fun v (hv : Below w4.heap.size w4 v) => KT1.out v)
    have K3 := Lib.hid (fun v (hv : Below w4.heap.size w4 v) => KT2.out v)
    have K4 := Lib.hid (fun v (hv : Below w4.heap.size w4 v) => KL1.out v)
    have K5 := Lib.hid (fun v (hv : Below w4.heap.size w4 v) => KL2.out v)
    clear KT1 KT2 KL1 KL2
    go_wp2_with fail
    have h5 : (q1 = false) ∨ (q1 = true ∧ q2 = false) ∨ (q1 = true ∧ q2 = true ∧ q3 = false) ∨ (q1 = true ∧ q2 = true ∧ q3 = true ∧ L1 = true) ∨ (q1 = true ∧ q2 = true ∧ q3 = true ∧ L1 = false ∧ L2 = true) ∨ (q1 = true ∧ q2 = true ∧ q3 = true ∧ L1 = false ∧ L2 = false) := by
      cases q1 <;> cases q2 <;> cases q3 <;> cases L1 <;> cases L2 <;> simp
    rcases h5 with rfl | ⟨rfl, rfl⟩ | ⟨rfl, rfl, rfl⟩ | ⟨rfl, rfl, rfl, rfl⟩ | ⟨rfl, rfl, rfl, rfl, rfl⟩ | ⟨rfl, rfl, rfl, rfl, rfl⟩
    all_goals
      refine wp_region_quiet (C := fun w' => Below w4.heap.size w4 w') (by kernel_rfl) (by kernel_rfl) ((Below.refl _ _).drew) ?_
      repeat (
        with_reducible refine wpQuiet_step (fun K hK => ?_)
        go_simp
        first
          | (with_reducible refine hK _ ?_; clear hK K)
          | (refine hK _ ?_; clear hK K)
          | (apply Exists.intro
             refine ⟨fun v hv => ?_, hK _ ?_⟩
             (first
               | with_reducible rfl
               | (with_reducible show Calls _ _ _ _ _
                  first
                    | with_reducible refine Calls.mono (K1.out _ hv) ?_
                    | with_reducible refine Calls.mono (K2.out _ hv) ?_
                    | with_reducible refine Calls.mono (K3.out _ hv) ?_
                    | with_reducible refine Calls.mono (K4.out _ hv) ?_
                    | with_reducible refine Calls.mono (K5.out _ hv) ?_
                  rintro e w' ⟨rfl, hb⟩
                  exact ⟨rfl, hv.trans (hb.mono hv.size)⟩)
               | (have d0 := (hv.cell (World.block_lt_of_cell? _ _ c0)).trans c0
                  have d1 := (hv.cell (World.block_lt_of_cell? _ _ c2)).trans c2
                  have d2 := (hv.cell (World.block_lt_of_cell? _ _ c3)).trans c3
                  have d3 := (hv.cell (World.block_lt_of_cell? _ _ c4)).trans c4
                  have d4 := (hv.cell (World.block_lt_of_cell? _ _ c5)).trans c5
                  have d5 := (hv.cell (World.block_lt_of_cell? _ _ q0)).trans q0
                  have d6 := (hv.cell (World.block_lt_of_cell? _ _ g1)).trans g1
                  go_simp
                  with_reducible rfl))
             clear hK K))
      refine wpQuiet_nil ?_
      intro w5 b5
      have B5 := Lib.hid (B4.out.trans (b5.mono B4.out.size))
      clear b5 K1 K2 K3 K4 K5 c0 c2 c3 c4 c5 q0 g1
      go_wp2_with fail
      first
        | (refine (must_throws 2 (by decide) w5).mono ?_
           rintro e w6 ⟨rfl, rfl⟩
           go_wp2
           exact ⟨rfl, .inr ⟨HRR.out, rfl⟩, B5.out⟩)
        | (go_end0
           exact ⟨.inl ⟨HRR.out, rfl⟩, B5.out⟩)
end Go.Proofs.Ytgafnilcmhjpcaa.HCell
