/- The text of the sum -1 (the chapter's example), walked. Conditions: none. -/
import Derived.Test.YtgafnilcmhjpcaaCellRead
import Derived.Test.YtgafnilcmhjpcaaApp
namespace Go.Proofs.Ytgafnilcmhjpcaa.HCell
set_option linter.unusedVariables false
open Go.RowKit Go.Proofs.Ytgafnilcmhjpcaa.HMem Go.Proofs.Ytgafnilcmhjpcaa.HHist Go.Proofs.Ytgafnilcmhjpcaa.HWide Go.Proofs.Ytgafnilcmhjpcaa.HApp
open Go.Proofs.Ytgafnilcmhjpcaa.Print (I64)

theorem div10_small (l : Int) (w : World) (h0 : 0 ≤ l) (h1 : l ≤ 18446744073709551615) :
    Calls Try.prog 64 #[.int .u64 0, .int .u64 l, .int .u64 10] w fun e w' => e = .returned (.tuple #[.int .u64 (l / 10), .int .u64 (l % 10)]) ∧ ∃ n, w' = w.drewN n := by
  go_enter Try.func64, Try.ntmps64
  go_wp2
  repeat (go_quiet (fail); try go_wp2)
  go_ret2
  exact ⟨rfl, _, rfl⟩
set_option maxHeartbeats 2000000 in
theorem rev2_any (w : World) (g cap : Nat) (x y : Int) (c0 : w.cell? ⟨g, 0, none⟩ = some (.int .u8 x)) (c1 : w.cell? ⟨g, 1, none⟩ = some (.int .u8 y)) (f0 : w.frozen? ⟨g, 0, none⟩ = false) (f1 : w.frozen? ⟨g, 1, none⟩ = false) :
    Calls Try.prog 65 #[.slice (some ⟨g, 0, none⟩) 2 cap] w fun e w' => e = .returned (.tuple #[]) ∧ w'.cell? ⟨g, 0, none⟩ = some (.int .u8 y) ∧ w'.cell? ⟨g, 1, none⟩ = some (.int .u8 x) ∧ Chg (· = g) w w' := by
  have e0 : ((w.setCell ⟨g, 0, none⟩ (.int .u8 y)).setCell ⟨g, 1, none⟩ (.int .u8 x)).cell? ⟨g, 0, none⟩ = some (.int .u8 y) := by
    rw [World.cell?_setCell_other _ _ _ _ (by simp)]; exact World.cell?_setCell_same _ _ _ c0
  have e1 : ((w.setCell ⟨g, 0, none⟩ (.int .u8 y)).setCell ⟨g, 1, none⟩ (.int .u8 x)).cell? ⟨g, 1, none⟩ = some (.int .u8 x) := by
    refine World.cell?_setCell_same (u := .int .u8 y) _ _ _ ?_
    rw [World.cell?_setCell_other _ _ _ _ (by simp)]; exact c1
  have CH := Lib.hid (show Chg (· = g) w ((w.setCell ⟨g, 0, none⟩ (.int .u8 y)).setCell ⟨g, 1, none⟩ (.int .u8 x)).drew from ((Chg.set w g 0 _).trans (Chg.set _ g 1 _)).drew)
  have RES := Lib.hid (And.intro e0 e1)
  clear e0 e1
  go_enter Try.func65, Try.ntmps65
  go_wp2_with fail
  go_loopw [2, 3] (fun i j wr => (i = .int .i64 0 ∧ j = .int .i64 1 ∧ wr = w) ∨ (i = .int .i64 1 ∧ j = .int .i64 0 ∧ wr.cell? ⟨g, 0, none⟩ = some (.int .u8 y) ∧ wr.cell? ⟨g, 1, none⟩ = some (.int .u8 x) ∧ Chg (· = g) w wr)) (fun i _ _ => 2 - (intOf i).toNat)
  case atStart => exact .inl ⟨rfl, rfl, rfl⟩
  case round =>
    rcases hrel with ⟨rfl, rfl, rfl⟩ | ⟨rfl, rfl, h0, h1, ch⟩
    · go_wp2_with fail
      go_region
      all_goals
        go_wp2
        go_roundw
        case rel => exact .inr ⟨rfl, rfl, RES.out.1, RES.out.2, CH.out⟩
        case measure => simp [intOf]
    · have FIN := Lib.hid (And.intro h0 (And.intro h1 ch))
      clear h0 h1 ch
      go_wp2
      go_end0
      exact ⟨rfl, FIN.out⟩
set_option maxHeartbeats 4000000 in
set_option maxRecDepth 20000 in
theorem text_m1 (w : World) : Calls Try.prog 38 #[.agg #[.int .i64 (-1), .int .u64 18446744073709551615]] w fun e w' => e = .returned (.string ⟨#[45, 49]⟩) ∧ Below w.heap.size w w' := by
  obtain ⟨i0, hi, hz0, hz1, hz2⟩ := info_parts infoB
  have KN := Lib.hid (fun v => Neg_any (-1) 18446744073709551615 v (by decide) (by decide))
  have en : nrm (-val (-1) 18446744073709551615) = (0, 1) := by decide +kernel
  rw [en] at KN
  have K0 := Lib.hid (fun v => div10_small 0 v (by decide) (by decide))
  have K1 := Lib.hid (fun v => div10_small 1 v (by decide) (by decide))
  obtain ⟨B, hB⟩ : ∃ B, B = w.heap.size := ⟨_, rfl⟩
  obtain ⟨W, hW⟩ : ∃ W, W = w.alloc (.cells #[.int .i64 (-1), .int .u64 18446744073709551615] 43) := ⟨_, rfl⟩
  have hx : W.heap[B]? = some (.cells #[.int .i64 (-1), .int .u64 18446744073709551615] 43 (0, 0)) := by rw [hW, hB]; exact heap_alloc_new w _
  have BX := Lib.hid hx
  have B0 := Lib.hid (show Below w.heap.size w W by rw [hW]; exact (Below.refl _ _).alloc (Nat.le_refl _) _)
  have HB := Lib.hid hB
  clear en hx
  go_enter Try.func38, Try.ntmps38
  go_wp2_with fail
  rw [← hW, ← hB]
  clear hW hB
  refine (KN.out W).mono ?_
  rintro e w1 ⟨rfl, b1⟩
  have hx := BX.out
  have hx1 : w1.heap[B]? = some (.cells #[.int .i64 (-1), .int .u64 18446744073709551615] 43 (0, 0)) := by rw [b1.block B (heap_lt hx)]; exact hx
  have c0 : w1.cell? ⟨B, 0, none⟩ = some (.int .i64 (-1)) := by simp [World.cell?, hx1]
  have c1 : w1.cell? ⟨B, 1, none⟩ = some (.int .u64 18446744073709551615) := by simp [World.cell?, hx1]
  have f0 : w1.frozen? ⟨B, 0, none⟩ = false := by simp [World.frozen?, hx1]
  have f1 : w1.frozen? ⟨B, 1, none⟩ = false := by simp [World.frozen?, hx1]
  have hle : w.heap.size ≤ B := Nat.le_of_eq HB.out.symm
  obtain ⟨V, hV⟩ : ∃ V, V = (w1.setCell ⟨B, 0, none⟩ (.int .i64 0)).setCell ⟨B, 1, none⟩ (.int .u64 1) := ⟨_, rfl⟩
  have hxV : V.heap[B]? = some (.cells #[.int .i64 0, .int .u64 1] 43 (0, 0)) := by rw [hV]; exact set_at (set_at hx1 0 (.int .i64 0)) 1 (.int .u64 1)
  have BV := Lib.hid (show Below w.heap.size w V by
    rw [hV]
    exact Below.setCell (Below.setCell (B0.out.trans (b1.mono B0.out.size)) (show w.heap.size ≤ (Addr.block ⟨B, 0, none⟩) from hle) _) (show w.heap.size ≤ (Addr.block ⟨B, 1, none⟩) from hle) _)
  have v0 : V.cell? ⟨B, 0, none⟩ = some (.int .i64 0) := by simp [World.cell?, hxV]
  have v1 : V.cell? ⟨B, 1, none⟩ = some (.int .u64 1) := by simp [World.cell?, hxV]
  clear hx hx1 b1 hxV
  go_wp2_with fail
  rw [← hV]
  clear hV c0 c1 f0 f1
  refine wp_region_quiet (C := fun w' => Below V.heap.size V w') (by kernel_rfl) (by kernel_rfl) ((Below.refl _ _).drew) ?_
  repeat (
    with_reducible refine wpQuiet_step (fun K hK => ?_)
    go_simp
    first
      | (with_reducible refine hK _ ?_; clear hK K)
      | (refine hK _ ?_; clear hK K)
      | (apply Exists.intro
         refine ⟨fun v hv => ?_, hK _ ?_⟩
         (first
           | with_reducible rfl
           | (have d0 := (hv.cell (World.block_lt_of_cell? _ _ v0)).trans v0
              have d1 := (hv.cell (World.block_lt_of_cell? _ _ v1)).trans v1
              go_simp
              with_reducible rfl))
         clear hK K))
  refine wpQuiet_nil ?_
  intro w2 b2
  have B2 := Lib.hid (BV.out.trans (b2.mono BV.out.size))
  clear b2 v0 v1
  go_wp2_with fail
  obtain ⟨C, hC⟩ : ∃ C, C = w2.heap.size := ⟨_, rfl⟩
  have HC := Lib.hid hC
  clear hC
  go_loopw [4, 5, 6, 7] (fun x y v _ wr => (x = .int .u64 0 ∧ y = .int .u64 1 ∧ v = .slice none 0 0 ∧ wr = w2) ∨ (x = .int .u64 0 ∧ y = .int .u64 0 ∧ wr.ownsRow C 5 1 v 1 [.int .u8 49] ∧ Below C w2 wr)) (fun _ y _ _ _ => (intOf y).toNat)
  case atStart => exact .inl ⟨rfl, rfl, rfl, rfl⟩
  case round =>
    rcases hrel with ⟨rfl, rfl, rfl, rfl⟩ | ⟨rfl, rfl, own, bb⟩
    · go_wp2_with fail
      refine (K0.out _).mono ?_
      rintro e w3 ⟨rfl, n3, rfl⟩
      go_wp2_with fail
      refine (K1.out _).mono ?_
      rintro e w4 ⟨rfl, n4, hw4⟩
      have b4 := Lib.hid (show Below C wr w4 by
        rw [HC.out, hw4]
        exact ⟨rfl, rfl, rfl, Nat.le_refl _, fun _ _ => rfl⟩)
      clear hw4
      have hbw : C ≤ w4.heap.size := by rw [HC.out]; exact b4.out.size
      have A2 : ∀ ad, (some ⟨w4.heap.size, 0, none⟩ : Option Addr) = some ad → ∀ j u, [Value.int .u8 49][j]? = some u → (w4.alloc (.cells #[.int .u8 49] 5)).cell? (ad.add j) = some u := fun ad e j u hj => by
        cases e
        match j, hj with
        | 0, hj => simp at hj; subst hj; rw [Addr.add_zero', new_cell]; rfl
      have A3 : ∀ u ∈ [Value.int .u8 49], u.oneCell' = true := fun u hu => by simp at hu; subst hu; rfl
      have A6 : C ≤ (w4.alloc (.cells #[.int .u8 49] 5)).heap.size := by simp; omega
      have OW : (w4.alloc (.cells #[.int .u8 49] 5)).ownsRow C 5 1 (.slice none 0 0) 0 [] := ⟨rfl, .inl ⟨rfl, rfl⟩⟩
      have HOW := Lib.hid OW
      clear OW
      go_wp2_with (at_builtin; refine append_any _ rfl _ _ 79 rfl C 5 i0 (.int .u8 0) 1 1 Try.underlying79 hi hz0 hz1 hz2 rfl (by decide) _ 0 [] rfl HOW.out (some ⟨w4.heap.size, 0, none⟩) 1 1 [.int .u8 49] rfl (fun e => nomatch e) rfl A2 A3 (by decide) (by decide) A6 ?_)
      intro v5 w5 o5 b5
      have B5 := Lib.hid (show Below C wr w5 from (b4.out.alloc hbw _).trans b5)
      have O5 := Lib.hid o5
      clear o5 b5 A2 A3 A6 HOW
      go_wp2
      go_roundw
      case rel => exact .inr ⟨rfl, rfl, O5.out, B5.out⟩
      case measure => simp [intOf]
    · have OWN := Lib.hid own
      have BB := Lib.hid bb
      have hbw : C ≤ wr.heap.size := by rw [HC.out]; exact bb.size
      obtain ⟨G, row, hG⟩ := Row.ofOwns own
      obtain ⟨av, cq, rfl, _⟩ := row.form
      clear own bb row hG
      have A2 : ∀ ad, (some ⟨wr.heap.size, 0, none⟩ : Option Addr) = some ad → ∀ j u, [Value.int .u8 45][j]? = some u → (wr.alloc (.cells #[.int .u8 45] 5)).cell? (ad.add j) = some u := fun ad e j u hj => by
        cases e
        match j, hj with
        | 0, hj => simp at hj; subst hj; rw [Addr.add_zero', new_cell]; rfl
      have A3 : ∀ u ∈ [Value.int .u8 45], u.oneCell' = true := fun u hu => by simp at hu; subst hu; rfl
      have A6 : C ≤ (wr.alloc (.cells #[.int .u8 45] 5)).heap.size := by simp; omega
      have HOW := Lib.hid (OWN.out.alloc (.cells #[.int .u8 45] 5))
      go_wp2_with (at_builtin; refine append_any _ rfl _ _ 79 rfl C 5 i0 (.int .u8 0) 1 1 Try.underlying79 hi hz0 hz1 hz2 rfl (by decide) _ 1 [.int .u8 49] rfl HOW.out (some ⟨wr.heap.size, 0, none⟩) 1 1 [.int .u8 45] rfl (fun e => nomatch e) rfl A2 A3 (by decide) (by decide) A6 ?_)
      intro v5 w5 o5 b5
      have B5 := Lib.hid (show Below C w2 w5 from (BB.out.alloc hbw _).trans b5)
      rcases o5.2 with ⟨rfl, h0⟩ | ⟨g, cap2, cur, rfl, h2, h3, h4, h5, h6, h7⟩
      · omega
      have q0 := o5.cellAt 0 (by decide)
      have q1 := o5.cellAt 1 (by decide)
      have f0 : w5.frozen? ⟨g, 0, none⟩ = false := by simp [World.frozen?, h3]
      have f1 : w5.frozen? ⟨g, 1, none⟩ = false := by simp [World.frozen?, h3]
      have hCg := Lib.hid h2
      clear A2 A3 A6 HOW h3 h4 h5 h6 h7 b5 o5 h2
      go_wp2_with fail
      refine (rev2_any w5 g cap2 49 45 q0 q1 f0 f1).mono ?_
      rintro e w6 ⟨rfl, z0, z1, ch⟩
      have hcv := run_convert_bytes_arg (P := Try.prog) w6 79 5 Try.underlying79 Try.underlying5 g 0 2 cap2 [45, 49] rfl (fun i hi => by
        match i, hi with
        | 0, _ => exact z0
        | 1, _ => exact z1) 9 Try.underlying9
      have es : strOfNums [(45 : Int), 49] = ⟨#[45, 49]⟩ := by decide +kernel
      rw [es] at hcv
      have B6 := Lib.hid (show Below w.heap.size w w6 from B2.out.trans ((B5.out.trans (ch.below (fun k hk => by subst hk; exact hCg.out) (Nat.le_trans (by rw [HC.out]; exact Nat.le_refl _) B5.out.size))).mono (by rw [HC.out]; exact B2.out.size)))
      clear q0 q1 f0 f1 z0 z1 ch es
      go_wp2
      go_ret
      exact ⟨rfl, B6.out⟩
end Go.Proofs.Ytgafnilcmhjpcaa.HCell
