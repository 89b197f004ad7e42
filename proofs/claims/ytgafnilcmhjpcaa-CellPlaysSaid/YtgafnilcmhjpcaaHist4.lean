/- Histograms: Merge, walked. -/
import Derived.Test.YtgafnilcmhjpcaaHist3
namespace Go.Proofs.Ytgafnilcmhjpcaa.HHist
set_option linter.unusedVariables false
open Go.RowKit Go.Proofs.Ytgafnilcmhjpcaa.HMem Go.Proofs.Ytgafnilcmhjpcaa.HBucket
open Go.Proofs.Ytgafnilcmhjpcaa.Print (I64)

theorem foldL_snoc : ∀ (m l : IL) (x : Int × Nat), foldL l (m ++ [x]) = moreL (foldL l m) x.1 x.2
  | [], l, x => rfl
  | y :: r, l, x => by simp only [List.cons_append, foldL, foldL_snoc r]
theorem total_take : ∀ (m : IL) (k : Nat), total (m.take k) ≤ total m
  | [], k => by simp
  | x :: r, 0 => by simp [total]
  | x :: r, k + 1 => by have := total_take r k; simp [total]; omega

set_option maxHeartbeats 2000000 in
set_option maxRecDepth 20000 in
theorem Merge_any {w : World} {p q : Nat} {G F : List Nat} {b c : Nat} {l m : IL} (h : HistAt w p G b l) (k : HistAt w q F c m) (ho : HOk b l) (ko : HOk c m) (hs : ∀ x ∈ G, x ∉ F) :
    Calls Try.prog 58 #[.pointer (some ⟨p, 0, none⟩), .pointer (some ⟨q, 0, none⟩)] w (HRes w p G b (mergeL b l c m).1 (.int .i64 (mergeL b l c m).2)) := by
  obtain ⟨p0, p2, _⟩ := h.cells
  obtain ⟨q0, q2, _⟩ := k.cells
  have H := Lib.hid h
  have K := Lib.hid k
  have HO := Lib.hid ho
  have KO := Lib.hid ko
  have HS := Lib.hid hs
  have tl := ho.total
  clear h k ho ko hs
  by_cases hbc : c = b
  rotate_left
  · have t1 : (((c : Nat) : Int) != ((b : Nat) : Int)) = true := by rw [bne_iff_ne]; omega
    have E := Lib.hid (show mergeL b l c m = (l, 1) from if_pos hbc)
    clear hbc
    go_enter Try.func58, Try.ntmps58
    go_wp2_with fail
    refine wp_region_quiet (C := fun w' => Below w.heap.size w w') (by kernel_rfl) (by kernel_rfl) ((Below.refl _ _).drew) ?_
    repeat (
      with_reducible refine wpQuiet_step (fun K hK => ?_)
      go_simp
      first
        | (with_reducible refine hK _ ?_; clear hK K)
        | (refine hK _ ?_; clear hK K)
        | (apply Exists.intro
           refine ⟨fun v hv => ?_, hK _ ?_⟩
           (first
             | with_reducible rfl
             | (have d0 := (hv.cell (World.block_lt_of_cell? _ _ p0)).trans p0
                have d1 := (hv.cell (World.block_lt_of_cell? _ _ q0)).trans q0
                go_simp
                with_reducible rfl))
           clear hK K))
    refine wpQuiet_nil ?_
    intro wf hk
    have BF := Lib.hid hk
    clear hk
    go_wp2
    go_ret
    exact ⟨by rw [E.out]; rfl, G, by rw [E.out]; exact H.out.mono BF.out, Turn.of BF.out⟩
  have t1 : (((c : Nat) : Int) != ((b : Nat) : Int)) = false := by rw [hbc]; simp
  have s1 : IntKind.u64.wrap (1099511627776 - ((total l : Nat) : Int)) = 1099511627776 - ((total l : Nat) : Int) := u64_in _ (by omega) (by omega)
  by_cases hov : 1099511627776 - total l < total m
  · have t2 : 1099511627776 - ((total l : Nat) : Int) < ((total m : Nat) : Int) := by omega
    have E := Lib.hid (show mergeL b l c m = (l, 7) by unfold mergeL; rw [if_neg (by omega), if_pos hov])
    clear hbc hov
    go_enter Try.func58, Try.ntmps58
    go_wp2_with fail
    refine wp_region_quiet (C := fun w' => Below w.heap.size w w') (by kernel_rfl) (by kernel_rfl) ((Below.refl _ _).drew) ?_
    repeat (
      with_reducible refine wpQuiet_step (fun K hK => ?_)
      go_simp
      first
        | (with_reducible refine hK _ ?_; clear hK K)
        | (refine hK _ ?_; clear hK K)
        | (apply Exists.intro
           refine ⟨fun v hv => ?_, hK _ ?_⟩
           (first
             | with_reducible rfl
             | (have d0 := (hv.cell (World.block_lt_of_cell? _ _ p0)).trans p0
                have d1 := (hv.cell (World.block_lt_of_cell? _ _ q0)).trans q0
                go_simp
                with_reducible rfl))
           clear hK K))
    refine wpQuiet_nil ?_
    intro wf hk
    replace p2 := (hk.cell (World.block_lt_of_cell? _ _ p2)).trans p2
    replace q2 := (hk.cell (World.block_lt_of_cell? _ _ q2)).trans q2
    go_wp2_with fail
    refine wp_region_quiet (C := fun w' => Below wf.heap.size wf w') (by kernel_rfl) (by kernel_rfl) ((Below.refl _ _).drew) ?_
    repeat (
      with_reducible refine wpQuiet_step (fun K hK => ?_)
      go_simp
      first
        | (with_reducible refine hK _ ?_; clear hK K)
        | (refine hK _ ?_; clear hK K)
        | (apply Exists.intro
           refine ⟨fun v hv => ?_, hK _ ?_⟩
           (first
             | with_reducible rfl
             | (have d0 := (hv.cell (World.block_lt_of_cell? _ _ p2)).trans p2
                have d1 := (hv.cell (World.block_lt_of_cell? _ _ q2)).trans q2
                go_simp
                with_reducible rfl))
           clear hK K))
    refine wpQuiet_nil ?_
    intro wg hg
    have BF := Lib.hid (hk.trans (hg.mono hk.size))
    clear hk hg
    go_wp2
    go_ret
    exact ⟨by rw [E.out]; rfl, G, by rw [E.out]; exact H.out.mono BF.out, Turn.of BF.out⟩
  · have t2 : ¬ 1099511627776 - ((total l : Nat) : Int) < ((total m : Nat) : Int) := by omega
    have E := Lib.hid (show mergeL b l c m = (foldL l m, 0) by unfold mergeL; rw [if_neg (by omega), if_neg hov])
    have HT := Lib.hid (show total l + total m ≤ 1099511627776 by omega)
    have HBC := Lib.hid hbc
    clear hbc hov
    go_enter Try.func58, Try.ntmps58
    go_wp2_with fail
    refine wp_region_quiet (C := fun w' => Below w.heap.size w w') (by kernel_rfl) (by kernel_rfl) ((Below.refl _ _).drew) ?_
    repeat (
      with_reducible refine wpQuiet_step (fun K hK => ?_)
      go_simp
      first
        | (with_reducible refine hK _ ?_; clear hK K)
        | (refine hK _ ?_; clear hK K)
        | (apply Exists.intro
           refine ⟨fun v hv => ?_, hK _ ?_⟩
           (first
             | with_reducible rfl
             | (have d0 := (hv.cell (World.block_lt_of_cell? _ _ p0)).trans p0
                have d1 := (hv.cell (World.block_lt_of_cell? _ _ q0)).trans q0
                go_simp
                with_reducible rfl))
           clear hK K))
    refine wpQuiet_nil ?_
    intro wf hk
    replace p2 := (hk.cell (World.block_lt_of_cell? _ _ p2)).trans p2
    replace q2 := (hk.cell (World.block_lt_of_cell? _ _ q2)).trans q2
    go_wp2_with fail
    refine wp_region_quiet (C := fun w' => Below wf.heap.size wf w') (by kernel_rfl) (by kernel_rfl) ((Below.refl _ _).drew) ?_
    repeat (
      with_reducible refine wpQuiet_step (fun K hK => ?_)
      go_simp
      first
        | (with_reducible refine hK _ ?_; clear hK K)
        | (refine hK _ ?_; clear hK K)
        | (apply Exists.intro
           refine ⟨fun v hv => ?_, hK _ ?_⟩
           (first
             | with_reducible rfl
             | (have d0 := (hv.cell (World.block_lt_of_cell? _ _ p2)).trans p2
                have d1 := (hv.cell (World.block_lt_of_cell? _ _ q2)).trans q2
                go_simp
                with_reducible rfl))
           clear hK K))
    refine wpQuiet_nil ?_
    intro wg hg
    have BF := Lib.hid (hk.trans (hg.mono hk.size))
    clear hk hg
    go_wp2_with fail
    refine (Items_any (K.out.mono BF.out) (by have := KO.out.len; omega)).mono ?_
    rintro e w3 ⟨v3, rfl, G3, r3, g3, b3⟩
    obtain ⟨ba, cap, rfl, _⟩ := r3.form
    have B3 := Lib.hid (BF.out.trans (b3.mono BF.out.size))
    have O3 := Lib.hid (show Own 0 w3 (G ++ G3) from (H.out.own.size (Nat.le_trans BF.out.size b3.size)).join r3.own fun x hx h' => by have := (H.out.own.mem x hx).2; have := g3 x h'; have := BF.out.size; omega)
    have R3 := Lib.hid r3
    have H3 := Lib.hid (H.out.mono B3.out)
    obtain ⟨n, hn⟩ : ∃ n, n = m.length := ⟨_, rfl⟩
    rw [← hn] at R3 ⊢
    have HN := Lib.hid hn
    have hn9 : n ≤ 4294967296 := by have := KO.out.len; omega
    clear b3 r3 g3 hn p0 p2 q0 q2 s1 t1 t2 tl BF
    go_wp2_with fail
    go_loopw [31] (fun x wr => ∃ (j : Nat) (Gj : List Nat), j ≤ n ∧ x = .int .i64 j ∧ HistAt wr p Gj b (foldL l (m.take j)) ∧ Row 105 2 wr (.slice ba n cap) n (flat m) G3 ∧ Own 0 wr (Gj ++ G3) ∧ Turn G Gj w wr) (fun x _ => n - (intOf x).toNat)
    case atStart => exact ⟨0, G, Nat.zero_le _, rfl, H3.out, R3.out, O3.out, Turn.of B3.out⟩
    case round =>
      obtain ⟨j, Gj, hj, rfl, hh, rr, oo, tt⟩ := hrel
      have HH := Lib.hid hh
      have RR := Lib.hid rr
      have OO := Lib.hid oo
      have TT := Lib.hid tt
      clear hh rr oo tt
      rcases Nat.lt_or_ge j n with hlt | hge
      · have hj1 : (j : Int) < n := by omega
        obtain ⟨x, hx⟩ : ∃ x, m[j]? = some x := ⟨_, List.getElem?_eq_getElem (by rw [← HN.out]; exact hlt)⟩
        obtain ⟨g, off, cap', e1, _, _, _, hc⟩ := RR.out.there (by omega)
        cases e1
        have c0 := (hc _ _ (flat_get m j x hx).1).1
        have c1 := (hc _ _ (flat_get m j x hx).2).1
        rw [← Nat.add_assoc] at c1
        have HX := Lib.hid (show foldL l (m.take (j + 1)) = moreL (foldL l (m.take j)) x.1 x.2 by
          rw [List.take_add_one, hx]; exact foldL_snoc _ _ _)
        have HJ := Lib.hid (show HOk b (foldL l (m.take j)) by
          refine HOk.fold _ _ HO.out (by have := total_take m j; have := HT.out; omega) fun y hy => ?_
          rw [← HBC.out]
          exact KO.out.item y (List.mem_of_mem_take hy))
        have HM := Lib.hid (show total (foldL l (m.take j)) + x.2 < 18446744073709551616 by
          rw [total_foldL]
          have := total_take m j
          have := many_le m x (List.mem_of_getElem? hx)
          have := HT.out
          omega)
        have hlt' := Lib.hid hlt
        clear hc hx hlt
        go_wp2_with fail
        have B5 : Below wr.heap.size wr (wr.alloc (.cells #[.int .i64 x.1, .int .u64 (x.2 : Int)] 105)) := (Below.refl _ _).alloc (Nat.le_refl _) _
        refine (more_any _ p Gj b _ x.1 x.2 (HH.out.mono B5) HJ.out.rise (by have := HJ.out.len; omega) HM.out).mono ?_
        rintro e w6 ⟨rfl, G6, h6, t6⟩
        have O6 := Lib.hid (t6.own (OO.out.size B5.size) (Nat.zero_le _) h6.own)
        have R6 := Lib.hid ((RR.out.same (Same.own B5 RR.out.own)).same (t6.same (OO.out.size B5.size)))
        have T6 := Lib.hid ((TT.out.trans (Turn.of B5)).trans t6)
        have H6 := Lib.hid (show HistAt w6 p G6 b (foldL l (m.take (j + 1))) by rw [HX.out]; exact h6)
        clear h6 t6 c0 c1 B5
        go_wp2
        go_roundw
        case rel => exact ⟨j + 1, G6, hlt'.out, by go_num, H6.out, R6.out, O6.out, T6.out⟩
        case measure => have := hlt'.out; simp [intOf]; omega
      · have hj1 : ¬ (j : Int) < n := by omega
        have EJ := Lib.hid (show m.take j = m from List.take_of_length_le (by have := HN.out; omega))
        clear hge
        go_wp2
        go_ret
        exact ⟨by rw [E.out]; rfl, Gj, by rw [E.out]; have := HH.out; rw [EJ.out] at this; exact this, TT.out⟩

end Go.Proofs.Ytgafnilcmhjpcaa.HHist
