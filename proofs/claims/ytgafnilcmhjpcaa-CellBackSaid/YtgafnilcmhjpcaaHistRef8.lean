/- The reference's histogram, walked: Add, Merge, Quantile. Conditions: what a histogram holds. -/
import Derived.Test.YtgafnilcmhjpcaaHistRef7
import Derived.Test.YtgafnilcmhjpcaaHistRef6
namespace Go.Proofs.Ytgafnilcmhjpcaa.HHist
set_option linter.unusedVariables false
open Go.RowKit Go.Proofs.Ytgafnilcmhjpcaa.HMem Go.Proofs.Ytgafnilcmhjpcaa.HBucket Go.Proofs.Ytgafnilcmhjpcaa.HApp
open Go.Proofs.Ytgafnilcmhjpcaa.Print (I64)

/-- The reference's histogram p turned, and so much was answered. -/
def RHRes (w : World) (p : Nat) (G : List Nat) (b : Nat) (l : IL) (v : Value) (e : Ending) (w' : World) : Prop := e = .returned v ∧ ∃ G', RHistAt w' p G' b l ∧ Turn G G' w w'
set_option maxHeartbeats 1000000 in
set_option maxRecDepth 20000 in
theorem rAdd_any {w : World} {p : Nat} {G : List Nat} {b : Nat} {l : IL} (h : RHistAt w p G b l) (ho : HOk b l) (n : Int) (hn : I64 n) :
    Calls Try.prog 40 #[.pointer (some ⟨p, 0, none⟩), .int .i64 n] w (RHRes w p G b (addL b l n).1 (.int .i64 (addL b l n).2)) := by
  have c0 := h.cells.1
  have H := Lib.hid h
  have HB := ho.bits
  have HO := Lib.hid ho
  have KC := Lib.hid (rCount_any h (by have := ho.len; omega) (by have := ho.total; omega))
  by_cases hf : 1099511627776 ≤ total l
  · have E := Lib.hid (show addL b l n = (l, 7) from if_pos hf)
    have t1 : (1099511627776 : Int) ≤ ((total l : Nat) : Int) := by omega
    clear h ho hf
    go_enter Try.func40, Try.ntmps40
    go_wp2_with fail
    refine KC.out.mono ?_
    rintro e w1 ⟨rfl, rfl⟩
    go_wp2
    go_ret
    exact ⟨by rw [E.out]; rfl, G, by rw [E.out]; exact H.out, Turn.refl _ _⟩
  · have E := Lib.hid (show addL b l n = (moreL l (ofZ b n) 1, 0) from if_neg hf)
    have t1 : ¬ (1099511627776 : Int) ≤ ((total l : Nat) : Int) := by omega
    have HT := Lib.hid hf
    clear h ho hf
    go_enter Try.func40, Try.ntmps40
    go_wp2_with fail
    refine KC.out.mono ?_
    rintro e w0 ⟨rfl, rfl⟩
    have t1 : decide ((1099511627776 : Int) ≤ ((total l : Nat) : Int)) = false := by have := HT.out; simp; omega
    go_wp2_with fail
    clear t1
    have KO := rOf_yes (b : Int) n w (by omega) (by omega) hn.1 hn.2
    rw [Int.toNat_natCast, ofZ_def] at KO
    refine KO.mono ?_
    rintro e w1 ⟨rfl, b1⟩
    have H1 := Lib.hid (H.out.mono b1)
    have B1 := Lib.hid b1
    obtain ⟨a, ha⟩ : ∃ a, a = ofZ b n := ⟨_, rfl⟩
    rw [← ha]
    have HA := Lib.hid ha
    clear b1 KO ha c0 KC
    go_wp2_with fail
    refine (rMore_any w1 p G b l a 1 H1.out HO.out.rise (by have := HO.out.len; omega) (by have := HO.out.total; omega)).mono ?_
    rintro e w2 ⟨rfl, G', h2, t2⟩
    have H2 := Lib.hid h2
    have T2 := Lib.hid t2
    clear h2 t2
    go_wp2
    go_ret
    exact ⟨by rw [E.out]; rfl, G', by rw [E.out, ← HA.out]; exact H2.out, (Turn.of B1.out).trans T2.out⟩

set_option maxHeartbeats 2000000 in
set_option maxRecDepth 20000 in
theorem rMerge_any {w : World} {p q : Nat} {G F : List Nat} {b c : Nat} {l m : IL} (h : RHistAt w p G b l) (k : RHistAt w q F c m) (ho : HOk b l) (ko : HOk c m) :
    Calls Try.prog 61 #[.pointer (some ⟨p, 0, none⟩), .pointer (some ⟨q, 0, none⟩)] w (RHRes w p G b (mergeL b l c m).1 (.int .i64 (mergeL b l c m).2)) := by
  obtain ⟨i0, hi0, hz0, hz1, hz2⟩ := infoRI2
  have p0 := h.cells.1
  have q0 := k.cells.1; obtain ⟨_, v, R, hx1, hx2, q1, hrow⟩ := k.cells; clear hx1 hx2
  have H := Lib.hid h
  have K := Lib.hid k
  have HO := Lib.hid ho
  have KO := Lib.hid ko
  have hrl := hrow.own
  have tl := ho.total
  have tm := ko.total
  obtain ⟨av, cp, rfl, hnc, hcm⟩ := hrow.form
  obtain ⟨n, hn⟩ : ∃ n, n = m.length := ⟨_, rfl⟩
  rw [← hn] at q1 hrow hnc
  have HROW := Lib.hid hrow
  have HN := Lib.hid hn
  have hn9 : n ≤ 4294967296 := by have := ko.len; omega
  clear h k ho ko hrow hn hrl
  by_cases hbc : c = b
  rotate_left
  · have t1 : (((c : Nat) : Int) != ((b : Nat) : Int)) = true := by rw [bne_iff_ne]; omega
    have E := Lib.hid (show mergeL b l c m = (l, 1) from if_pos hbc)
    clear hbc
    go_enter Try.func61, Try.ntmps61
    go_wp2_with fail
    refine wp_region_quiet (C := fun w' => Below w.heap.size w w') (by kernel_rfl) (by kernel_rfl) ((Below.refl _ _).drew) ?_
    repeat (
      with_reducible refine wpQuiet_step (fun K hK => ?_)
      go_simp
      first
        | (with_reducible refine hK _ ?_; clear hK K)
        | (apply Exists.intro
           refine ⟨fun v hv => ?_, hK _ ?_⟩
           (first
             | with_reducible rfl
             | (have d0 := (hv.cell (World.block_lt_of_cell? _ _ p0)).trans p0
                have d1 := (hv.cell (World.block_lt_of_cell? _ _ q0)).trans q0
                go_simp
                with_reducible rfl))
           clear hK K))
    refine wpQuiet_nil ?_
    intro wf hk
    have BF := Lib.hid hk
    clear hk
    go_wp2
    go_ret
    exact ⟨by rw [E.out]; rfl, G, by rw [E.out]; exact H.out.mono BF.out, Turn.of BF.out⟩
  have t1 : (((c : Nat) : Int) != ((b : Nat) : Int)) = false := by rw [hbc]; simp
  have s1 : IntKind.u64.wrap (((total l : Nat) : Int) + ((total m : Nat) : Int)) = ((total l : Nat) : Int) + ((total m : Nat) : Int) := u64_in _ (by omega) (by omega)
  have KL := Lib.hid (fun (u : World) (hu : RHistAt u p G b l) => rCount_any hu (by have := HO.out.len; omega) (by omega))
  have KM := Lib.hid (fun (u : World) (hu : RHistAt u q F c m) => rCount_any hu (by have := KO.out.len; omega) (by omega))
  by_cases hov : 1099511627776 - total l < total m
  · have t2 : 1099511627776 < ((total l : Nat) : Int) + ((total m : Nat) : Int) := by omega
    have E := Lib.hid (show mergeL b l c m = (l, 7) by unfold mergeL; rw [if_neg (by omega), if_pos hov])
    clear hbc hov
    go_enter Try.func61, Try.ntmps61
    go_wp2_with fail
    refine wp_region_quiet (C := fun w' => Below w.heap.size w w') (by kernel_rfl) (by kernel_rfl) ((Below.refl _ _).drew) ?_
    repeat (
      with_reducible refine wpQuiet_step (fun K hK => ?_)
      go_simp
      first
        | (with_reducible refine hK _ ?_; clear hK K)
        | (apply Exists.intro
           refine ⟨fun v hv => ?_, hK _ ?_⟩
           (first
             | with_reducible rfl
             | (have d0 := (hv.cell (World.block_lt_of_cell? _ _ p0)).trans p0
                have d1 := (hv.cell (World.block_lt_of_cell? _ _ q0)).trans q0
                go_simp
                with_reducible rfl))
           clear hK K))
    refine wpQuiet_nil ?_
    intro wf hk
    have BF := Lib.hid hk
    clear hk
    go_wp2_with fail
    refine (KL.out wf (H.out.mono BF.out)).mono ?_
    rintro e w1 ⟨rfl, rfl⟩
    go_wp2_with fail
    refine (KM.out wf (K.out.mono BF.out)).mono ?_
    rintro e w1 ⟨rfl, rfl⟩
    go_wp2
    go_ret
    exact ⟨by rw [E.out]; rfl, G, by rw [E.out]; exact H.out.mono BF.out, Turn.of BF.out⟩
  · have E := Lib.hid (show mergeL b l c m = (foldL l m, 0) by unfold mergeL; rw [if_neg (by omega), if_neg hov])
    have HT := Lib.hid (show total l + total m ≤ 1099511627776 by omega)
    have HBC := Lib.hid hbc
    clear hbc hov
    go_enter Try.func61, Try.ntmps61
    go_wp2_with fail
    refine wp_region_quiet (C := fun w' => Below w.heap.size w w') (by kernel_rfl) (by kernel_rfl) ((Below.refl _ _).drew) ?_
    repeat (
      with_reducible refine wpQuiet_step (fun K hK => ?_)
      go_simp
      first
        | (with_reducible refine hK _ ?_; clear hK K)
        | (apply Exists.intro
           refine ⟨fun v hv => ?_, hK _ ?_⟩
           (first
             | with_reducible rfl
             | (have d0 := (hv.cell (World.block_lt_of_cell? _ _ p0)).trans p0
                have d1 := (hv.cell (World.block_lt_of_cell? _ _ q0)).trans q0
                go_simp
                with_reducible rfl))
           clear hK K))
    refine wpQuiet_nil ?_
    intro wf hk
    replace q1 := (hk.cell (World.block_lt_of_cell? _ _ q1)).trans q1
    have BF := Lib.hid hk
    have RF := Lib.hid (HROW.out.same (Same.own hk HROW.out.own))
    clear hk
    go_wp2_with fail
    refine (KL.out wf (H.out.mono BF.out)).mono ?_
    rintro e w1 ⟨rfl, rfl⟩
    go_wp2_with fail
    refine (KM.out wf (K.out.mono BF.out)).mono ?_
    rintro e w1 ⟨rfl, rfl⟩
    have t2 : decide (1099511627776 < ((total l : Nat) : Int) + ((total m : Nat) : Int)) = false := by have := HT.out; simp; omega
    obtain ⟨hnone, hcells⟩ := row_cells RF.out
    have NL : (flat m).length = n * 2 := by rw [flat_length]; have := HN.out; omega
    have H2 := hcells wf (Below.refl _ _)
    have H4 : 0 + n ≤ maxLen := by unfold maxLen; omega
    have H5 : (0 + n) * 16 ≤ 140737488355328 := by omega
    go_wp2_with (at_builtin; refine append_any _ rfl _ _ 107 rfl wf.heap.size 111 i0 (.agg #[.int .i64 0, .int .u64 0]) 2 16 Try.underlying107 hi0 hz0 hz1 hz2 rfl (by decide) (.slice none 0 0) 0 [] rfl ⟨rfl, .inl ⟨rfl, rfl⟩⟩ av n cp (flat m) rfl hnone NL H2 (flat_one _) H4 H5 (Nat.le_refl _) ?_)
    intro v3 w3 o3 b3
    have o3' : w3.ownsRow wf.heap.size 111 2 v3 n (flat m) := by simpa using o3
    obtain ⟨G3, r3, g3⟩ := Row.ofOwns o3'
    obtain ⟨ba, cap, rfl, _⟩ := r3.form
    have B3 := Lib.hid (BF.out.trans (b3.mono BF.out.size))
    have O3 := Lib.hid (show Own 0 w3 (G ++ G3) from (H.out.own.size (Nat.le_trans BF.out.size b3.size)).join r3.own fun x hx h' => by have := (H.out.own.mem x hx).2; have := g3 x h'; have := BF.out.size; omega)
    have R3 := Lib.hid r3
    have H3 := Lib.hid (H.out.mono B3.out)
    clear b3 r3 g3 p0 q0 q1 s1 t1 t2 tl tm BF o3 o3' hnone hcells H2 H4 H5 RF NL KL KM
    go_wp2_with fail
    go_loopw [6] (fun x wr => ∃ (j : Nat) (Gj : List Nat), j ≤ n ∧ x = .int .i64 j ∧ RHistAt wr p Gj b (foldL l (m.take j)) ∧ Row 111 2 wr (.slice ba n cap) n (flat m) G3 ∧ Own 0 wr (Gj ++ G3) ∧ Turn G Gj w wr) (fun x _ => n - (intOf x).toNat)
    case atStart => exact ⟨0, G, Nat.zero_le _, rfl, H3.out, R3.out, O3.out, Turn.of B3.out⟩
    case round =>
      obtain ⟨j, Gj, hj, rfl, hh, rr, oo, tt⟩ := hrel
      have HH := Lib.hid hh
      have RR := Lib.hid rr
      have OO := Lib.hid oo
      have TT := Lib.hid tt
      clear hh rr oo tt
      rcases Nat.lt_or_ge j n with hlt | hge
      · have hj1 : (j : Int) < n := by omega
        obtain ⟨x, hx⟩ : ∃ x, m[j]? = some x := ⟨_, List.getElem?_eq_getElem (by rw [← HN.out]; exact hlt)⟩
        obtain ⟨g, off, cap', e1, _, _, _, hc⟩ := RR.out.there (by omega)
        cases e1
        have c0 := (hc _ _ (flat_get m j x hx).1).1
        have c1 := (hc _ _ (flat_get m j x hx).2).1
        rw [← Nat.add_assoc] at c1
        have HX := Lib.hid (show foldL l (m.take (j + 1)) = moreL (foldL l (m.take j)) x.1 x.2 by
          rw [List.take_add_one, hx]; exact foldL_snoc _ _ _)
        have HJ := Lib.hid (show HOk b (foldL l (m.take j)) by
          refine HOk.fold _ _ HO.out (by have := total_take m j; have := HT.out; omega) fun y hy => ?_
          rw [← HBC.out]
          exact KO.out.item y (List.mem_of_mem_take hy))
        have HM := Lib.hid (show total (foldL l (m.take j)) + x.2 < 18446744073709551616 by
          rw [total_foldL]
          have := total_take m j
          have := many_le m x (List.mem_of_getElem? hx)
          have := HT.out
          omega)
        have hlt' := Lib.hid hlt
        clear hc hx hlt
        go_wp2_with fail
        refine (rMore_any _ p Gj b _ x.1 x.2 HH.out HJ.out.rise (by have := HJ.out.len; omega) HM.out).mono ?_
        rintro e w6 ⟨rfl, G6, h6, t6⟩
        have O6 := Lib.hid (t6.own OO.out (Nat.zero_le _) h6.own)
        have R6 := Lib.hid (RR.out.same (t6.same OO.out))
        have T6 := Lib.hid (TT.out.trans t6)
        have H6 := Lib.hid (show RHistAt w6 p G6 b (foldL l (m.take (j + 1))) by rw [HX.out]; exact h6)
        clear h6 t6 c0 c1
        go_wp2
        go_roundw
        case rel => exact ⟨j + 1, G6, hlt'.out, by go_num, H6.out, R6.out, O6.out, T6.out⟩
        case measure => have := hlt'.out; simp [intOf]; omega
      · have hj1 : ¬ (j : Int) < n := by omega
        have EJ := Lib.hid (show m.take j = m from List.take_of_length_le (by have := HN.out; omega))
        clear hge
        go_wp2
        go_ret
        exact ⟨by rw [E.out]; rfl, Gj, by rw [E.out]; have := HH.out; rw [EJ.out] at this; exact this, TT.out⟩

end Go.Proofs.Ytgafnilcmhjpcaa.HHist
