/- The reference's histogram, walked: more. Conditions: the buckets rise, sizes. -/
import Derived.Test.YtgafnilcmhjpcaaHistRef2
import Derived.Test.YtgafnilcmhjpcaaApp
namespace Go.Proofs.Ytgafnilcmhjpcaa.HHist
set_option linter.unusedVariables false
open Go.RowKit Go.Proofs.Ytgafnilcmhjpcaa.HMem Go.Proofs.Ytgafnilcmhjpcaa.HApp

theorem infoRI : (Try.prog.info? 111).map (fun i => (i.zero, i.size, i.bytes)) = some (some (.agg #[.int .i64 0, .int .u64 0]), 2, 16) := by kernel_rfl
theorem infoRI2 : ∃ i, Try.prog.info? 111 = some i ∧ i.zero = some (.agg #[.int .i64 0, .int .u64 0]) ∧ i.size = 2 ∧ i.bytes = 16 := by
  have h := infoRI
  cases hi : Try.prog.info? 111 with
  | none => rw [hi] at h; cases h
  | some i =>
    rw [hi] at h
    injection h with h
    injection h with h1 h2
    injection h2 with h2 h3
    exact ⟨i, rfl, h1, h2, h3⟩
theorem pos_stop (l : IL) (a : Int) (hs : Rise l) (x : Int × Nat) (hx : l[pos l a]? = some x) : ¬ x.1 < a := fun h => by
  have := (pos_lt l a hs _ x hx).1 h
  omega
/-- The cells of a row, read through its slice. -/
theorem row_cells {E : TypeId} {k : Nat} {w : World} {a : Option Addr} {n c : Nat} {xs : List Value} {G : List Nat} (h : Row E k w (.slice a n c) n xs G) :
    (a = none → n = 0 ∧ c = 0) ∧ ∀ u, Below w.heap.size w u → ∀ ad, a = some ad → ∀ j y, xs[j]? = some y → u.cell? (ad.add j) = some y := by
  rcases h.2 with ⟨e, h0, _⟩ | ⟨g, off, cap, cur, _, e, _⟩
  · cases e
    exact ⟨fun _ => ⟨rfl, rfl⟩, fun u hu ad e => (by cases e)⟩
  · cases e
    refine ⟨fun e => (by cases e), fun u hu ad e j y hy => ?_⟩
    cases e
    have hj := (List.getElem?_eq_some_iff.1 hy).1
    have hn : 0 < n := by
      rcases Nat.eq_zero_or_pos n with e | e
      · have := h.1; rw [e] at this; omega
      · exact e
    obtain ⟨g', off', c', e1, _, _, _, hc⟩ := h.there hn
    cases e1
    have h1 := (hc j y hy).1
    have h2 := (hu.cell (World.block_lt_of_cell? _ _ h1)).trans h1
    have e2 : (⟨g, off, none⟩ : Addr).add j = ⟨g, off + j, none⟩ := by simp [Addr.add]
    rw [e2]; exact h2
theorem cell_of {w : World} {p : Nat} {cs : Array Value} {t : TypeId} (h : w.heap[p]? = some (.cells cs t (0, 0))) (i : Nat) (v : Value) (hi : cs[i]? = some v) : w.cell? ⟨p, i, none⟩ = some v := by simp [World.cell?, h, hi]
theorem two_new (w : World) (x y : Value) (t : TypeId) (j : Nat) (u : Value) (h : [x, y][j]? = some u) : (w.alloc (.cells #[x, y] t)).cell? ((⟨w.heap.size, 0, none⟩ : Addr).add j) = some u := by
  have e : (⟨w.heap.size, 0, none⟩ : Addr).add j = ⟨w.heap.size, j, none⟩ := by simp [Addr.add]; omega
  rw [e, new_cell, ← h]
  simp
set_option maxHeartbeats 8000000 in
set_option maxRecDepth 20000 in
theorem rMore_any (w : World) (p : Nat) (G : List Nat) (bits : Int) (l : IL) (a : Int) (m : Nat) (h : RHistAt w p G bits l) (hs : Rise l) (hl : l.length ≤ 4294967295) (hm : total l + m < 18446744073709551616) :
    Calls Try.prog 67 #[.pointer (some ⟨p, 0, none⟩), .agg #[.int .i64 a, .int .u64 m]] w fun e w' => e = .returned (.tuple #[]) ∧ ∃ G', RHistAt w' p G' bits (moreL l a m) ∧ Turn G G' w w' := by
  obtain ⟨i0, hi0, hz0, hz1, hz2⟩ := infoRI2
  have hown := h.own
  obtain ⟨v, R, rfl, hpR, hcp, hrow⟩ := h.ex
  have c1 : w.cell? ⟨p, 1, none⟩ = some v := by simp [World.cell?, hcp]
  have HO := Lib.hid hown
  have HCP := Lib.hid hcp
  have HR := Lib.hid hrow
  have HS := Lib.hid hs
  have HL := Lib.hid hl
  have HM := Lib.hid hm
  have hpl := heap_lt hcp
  obtain ⟨av, cp, rfl, hnc, hcm⟩ := hrow.form
  clear hown hcp hrow hs hl h hm
  go_enter Try.func67, Try.ntmps67
  go_wp2_with fail
  obtain ⟨X, hX⟩ : ∃ X, X = w.heap.size := ⟨_, rfl⟩
  obtain ⟨W, hW⟩ : ∃ W, W = w.alloc (.cells #[.int .i64 a, .int .u64 m] 111) := ⟨_, rfl⟩
  have BW := Lib.hid (show Below w.heap.size w W by rw [hW]; exact (Below.refl _ _).alloc (Nat.le_refl _) _)
  have x0 : W.cell? ⟨X, 0, none⟩ = some (.int .i64 a) := by rw [hW, hX, new_cell]; rfl
  have x1 : W.cell? ⟨X, 1, none⟩ = some (.int .u64 m) := by rw [hW, hX, new_cell]; rfl
  rw [← hW, ← hX]
  replace c1 := (BW.out.cell (World.block_lt_of_cell? _ _ c1)).trans c1
  have HX := Lib.hid hX
  have HXW := Lib.hid (World.block_lt_of_cell? _ _ x0)
  clear hW hX hpl
  obtain ⟨q, hq⟩ : ∃ q, q = pos l a := ⟨_, rfl⟩
  have hqn := pos_le l a
  rw [← hq] at hqn
  have HQ := Lib.hid hq
  have RW := Lib.hid (HR.out.same (Same.own BW.out HR.out.own))
  obtain ⟨n, hn⟩ : ∃ n, n = l.length := ⟨_, rfl⟩
  rw [← hn] at RW hqn c1
  have HN := Lib.hid hn
  have hn32 : n ≤ 4294967295 := by rw [hn]; exact HL.out
  clear hq hn
  go_loopw [4] (fun x wr => ∃ j : Nat, x = .int .i64 j ∧ j ≤ q ∧ Below W.heap.size W wr) (fun x _ => q - (intOf x).toNat)
  case atStart => exact ⟨0, rfl, Nat.zero_le _, Below.refl _ _⟩
  case round =>
    obtain ⟨j, rfl, hjq, bb⟩ := hrel
    have BB := Lib.hid bb
    have RB := Lib.hid (RW.out.same (Same.own bb RW.out.own))
    replace c1 := (BB.out.cell (World.block_lt_of_cell? _ _ c1)).trans c1
    replace x0 := (BB.out.cell (World.block_lt_of_cell? _ _ x0)).trans x0
    replace x1 := (BB.out.cell (World.block_lt_of_cell? _ _ x1)).trans x1
    clear bb
    rcases Nat.lt_or_ge j q with hlt | hge
    · have q1 : (j : Int) < n := by omega
      have q2 : decide ((j : Int) < n) = true := decide_eq_true q1
      obtain ⟨x, hx⟩ : ∃ x, l[j]? = some x := ⟨_, List.getElem?_eq_getElem (by rw [← HN.out]; omega)⟩
      have hxa := (pos_lt l a HS.out j x hx).2 (by rw [← HQ.out]; exact hlt)
      have q3 : decide (x.1 < a) = true := decide_eq_true hxa
      obtain ⟨g, off, cap', e1, _, _, _, hc⟩ := RB.out.there (by omega)
      cases e1
      have y0 := (hc _ _ (flat_get l j x hx).1).1
      have hlt' := Lib.hid hlt
      clear hc hx hlt hxa
      go_wp2_with fail
      refine wp_region_quiet (C := fun w' => Below wr.heap.size wr w') (by kernel_rfl) (by kernel_rfl) ((Below.refl _ _).drew) ?_
      repeat (
        with_reducible refine wpQuiet_step (fun K hK => ?_)
        go_simp
        first
          | (with_reducible refine hK _ ?_; clear hK K)
          | (apply Exists.intro
             refine ⟨fun v hv => ?_, hK _ ?_⟩
             (first
               | with_reducible rfl
               | (have d0 := (hv.cell (World.block_lt_of_cell? _ _ c1)).trans c1
                  have d1 := (hv.cell (World.block_lt_of_cell? _ _ x0)).trans x0
                  have d2 := (hv.cell (World.block_lt_of_cell? _ _ y0)).trans y0
                  go_simp
                  with_reducible rfl))
             clear hK K))
      refine wpQuiet_nil ?_
      intro wf hk
      have BF := Lib.hid (BB.out.trans (hk.mono BB.out.size))
      clear hk c1 x0 x1 y0
      go_wp2
      go_roundw
      case rel => exact ⟨j + 1, by go_num, hlt'.out, BF.out⟩
      case measure => have := hlt'.out; simp [intOf]; omega
    · obtain rfl : q = j := by omega
      clear hge hjq
      by_cases ht : ∃ x, l[q]? = some x ∧ x.1 = a
      · obtain ⟨x, hx, hxa⟩ := ht
        have hqn2 : q < n := by rw [HN.out]; exact (List.getElem?_eq_some_iff.1 hx).1
        have q1 : (q : Int) < n := by omega
        have q2 : decide ((q : Int) < n) = true := decide_eq_true q1
        obtain ⟨g, off, cap', e1, rfl, _, _, hc⟩ := RB.out.there (by omega)
        cases e1
        have y0 := (hc _ _ (flat_get l q x hx).1).1
        have y1 := (hc _ _ (flat_get l q x hx).2).1
        rw [hxa] at y0
        rw [← Nat.add_assoc] at y1
        have HX2 := Lib.hid hx
        have HXA := Lib.hid hxa
        have hxm := many_le l x (List.mem_of_getElem? hx)
        have s1 : IntKind.u64.wrap ((x.2 : Int) + (m : Int)) = (x.2 : Int) + (m : Int) := u64_in _ (by omega) (by have := HM.out; omega)
        have HQN := Lib.hid hqn2
        clear hc hx hxa hqn2 hxm
        go_wp2_with fail
        refine wp_region_quiet (C := fun w' => Below wr.heap.size wr w') (by kernel_rfl) (by kernel_rfl) ((Below.refl _ _).drew) ?_
        repeat (
          with_reducible refine wpQuiet_step (fun K hK => ?_)
          go_simp
          first
            | (with_reducible refine hK _ ?_; clear hK K)
            | (apply Exists.intro
               refine ⟨fun v hv => ?_, hK _ ?_⟩
               (first
                 | with_reducible rfl
                 | (have d0 := (hv.cell (World.block_lt_of_cell? _ _ c1)).trans c1
                    have d1 := (hv.cell (World.block_lt_of_cell? _ _ x0)).trans x0
                    have d2 := (hv.cell (World.block_lt_of_cell? _ _ y0)).trans y0
                    go_simp
                    with_reducible rfl))
               clear hK K))
        refine wpQuiet_nil ?_
        intro wf hk
        replace c1 := (hk.cell (World.block_lt_of_cell? _ _ c1)).trans c1
        replace x0 := (hk.cell (World.block_lt_of_cell? _ _ x0)).trans x0
        replace x1 := (hk.cell (World.block_lt_of_cell? _ _ x1)).trans x1
        replace y0 := (hk.cell (World.block_lt_of_cell? _ _ y0)).trans y0
        replace y1 := (hk.cell (World.block_lt_of_cell? _ _ y1)).trans y1
        go_wp2_with fail
        have HK := Lib.hid hk
        clear hk
        refine wp_region_quiet (C := fun w' => Below wf.heap.size wf w') (by kernel_rfl) (by kernel_rfl) ((Below.refl _ _).drew) ?_
        repeat (
          with_reducible refine wpQuiet_step (fun K hK => ?_)
          go_simp
          first
            | (with_reducible refine hK _ ?_; clear hK K)
            | (apply Exists.intro
               refine ⟨fun v hv => ?_, hK _ ?_⟩
               (first
                 | with_reducible rfl
                 | (have d0 := (hv.cell (World.block_lt_of_cell? _ _ c1)).trans c1
                    have d1 := (hv.cell (World.block_lt_of_cell? _ _ x0)).trans x0
                    have d2 := (hv.cell (World.block_lt_of_cell? _ _ y0)).trans y0
                    go_simp
                    with_reducible rfl))
               clear hK K))
        refine wpQuiet_nil ?_
        intro wg hg
        replace c1 := (hg.cell (World.block_lt_of_cell? _ _ c1)).trans c1
        replace x0 := (hg.cell (World.block_lt_of_cell? _ _ x0)).trans x0
        replace x1 := (hg.cell (World.block_lt_of_cell? _ _ x1)).trans x1
        replace y0 := (hg.cell (World.block_lt_of_cell? _ _ y0)).trans y0
        replace y1 := (hg.cell (World.block_lt_of_cell? _ _ y1)).trans y1
        go_wp2_with fail
        have BG := Lib.hid ((BB.out.trans (HK.out.mono BB.out.size)).trans (hg.mono (Nat.le_trans BB.out.size HK.out.size)))
        have RG := Lib.hid (RW.out.same (Same.own BG.out RW.out.own))
        have BWG := Lib.hid (BW.out.trans (BG.out.mono BW.out.size))
        obtain ⟨g', off', cap'', e1, _, _, _, hc2⟩ := RG.out.there (by have := HQN.out; omega)
        cases e1
        have f1 := (hc2 _ _ (flat_get l q x HX2.out).2).2
        rw [← Nat.add_assoc] at f1
        clear hc2 hg
        go_wp2_with fail
        go_region
        go_wp2_with fail
        (try simp only [Exit.inBlock, Exit.then])
        refine bodyPost_ret (results_none rfl _ _ _) rfl ?_
        obtain ⟨M, hM⟩ : ∃ M, M = moreL l a m := ⟨_, rfl⟩
        have EM : M = l.set q (x.1, x.2 + m) := by
          rw [hM, HXA.out, HQ.out]
          exact moreL_there l a m HS.out x (by rw [← HQ.out]; exact HX2.out) HXA.out
        have hgp : p ≠ g := fun e => hpR (by simp [e])
        rw [← hM]
        refine ⟨rfl, [p, g], ⟨_, [g], rfl, hpR, ((Below.heap_setCell wg ⟨g, off + q * 2 + 1, none⟩ _ p hgp).trans ((BWG.out.block p (heap_lt HCP.out)).trans HCP.out)), ?_⟩, ((Turn.of BWG.out).trans (Turn.set (b := g) (G := [p, g]) (by simp) _ _)).drew⟩
        have h1 := RG.out.setCell rfl (q * 2 + 1) (by have := HQN.out; omega) (.int .u64 ((x.2 + m : Nat) : Int))
        rw [flat_set l q x (x.2 + m) HX2.out, ← EM, ← Nat.add_assoc] at h1
        rw [EM, List.length_set, ← HN.out, ← EM]
        exact h1
      · have hne : ∀ x, l[pos l a]? = some x → x.1 ≠ a := fun x hx e => ht ⟨x, by rw [HQ.out]; exact hx, e⟩
        have EQ := Lib.hid (show moreL l a m = l.take q ++ ((a, m) :: l.drop q) by rw [HQ.out]; exact moreL_not l a m hne)
        have HNE := Lib.hid hne
        clear ht hne
        have hq0 : (0 : Int) ≤ (q : Int) := by omega
        have hqi : (q : Int) ≤ (n : Int) := by omega
        have hqc : (q : Int) ≤ (cp : Int) := by have := HN.out; omega
        have hni : (n : Int) ≤ (cp : Int) := by have := HN.out; omega
        rcases Nat.lt_or_ge q n with hqn2 | hqn2
        focus
          have q1 : (q : Int) < n := by omega
          have q2 : decide ((q : Int) < n) = true := decide_eq_true q1
          obtain ⟨x, hx⟩ : ∃ x, l[q]? = some x := ⟨_, List.getElem?_eq_getElem (by rw [← HN.out]; omega)⟩
          have q3 : decide (x.1 < a) = false := decide_eq_false (pos_stop l a HS.out x (by rw [← HQ.out]; exact hx))
          have q4 : (x.1 == a) = false := by simpa using HNE.out x (by rw [← HQ.out]; exact hx)
          obtain ⟨g, off, cap', e1, _, _, _, hc⟩ := RB.out.there (by omega)
          injection e1 with e1 _ e2
          subst e2
          have E1 := Lib.hid e1
          rw [e1] at c1
          clear e1
          have y0 := (hc _ _ (flat_get l q x hx).1).1
          clear hc hx hqn2
          go_wp2_with fail
          refine wp_region_quiet (C := fun w' => Below wr.heap.size wr w') (by kernel_rfl) (by kernel_rfl) ((Below.refl _ _).drew) ?_
          repeat (
            with_reducible refine wpQuiet_step (fun K hK => ?_)
            go_simp
            first
              | (with_reducible refine hK _ ?_; clear hK K)
              | (apply Exists.intro
                 refine ⟨fun v hv => ?_, hK _ ?_⟩
                 (first
                   | with_reducible rfl
                   | (have d0 := (hv.cell (World.block_lt_of_cell? _ _ c1)).trans c1
                      have d1 := (hv.cell (World.block_lt_of_cell? _ _ x0)).trans x0
                      have d2 := (hv.cell (World.block_lt_of_cell? _ _ y0)).trans y0
                      go_simp
                      with_reducible rfl))
                 clear hK K))
          refine wpQuiet_nil ?_
          intro wf hk
          replace c1 := (hk.cell (World.block_lt_of_cell? _ _ c1)).trans c1
          replace x0 := (hk.cell (World.block_lt_of_cell? _ _ x0)).trans x0
          replace x1 := (hk.cell (World.block_lt_of_cell? _ _ x1)).trans x1
          replace y0 := (hk.cell (World.block_lt_of_cell? _ _ y0)).trans y0
          have HK := Lib.hid hk
          clear hk
          go_wp2_with fail
          refine wp_region_quiet (C := fun w' => Below wf.heap.size wf w') (by kernel_rfl) (by kernel_rfl) ((Below.refl _ _).drew) ?_
          repeat (
            with_reducible refine wpQuiet_step (fun K hK => ?_)
            go_simp
            first
              | (with_reducible refine hK _ ?_; clear hK K)
              | (apply Exists.intro
                 refine ⟨fun v hv => ?_, hK _ ?_⟩
                 (first
                   | with_reducible rfl
                   | (have d0 := (hv.cell (World.block_lt_of_cell? _ _ c1)).trans c1
                      have d1 := (hv.cell (World.block_lt_of_cell? _ _ x0)).trans x0
                      have d2 := (hv.cell (World.block_lt_of_cell? _ _ y0)).trans y0
                      go_simp
                      with_reducible rfl))
                 clear hK K))
          refine wpQuiet_nil ?_
          intro wg hg
          replace c1 := (hg.cell (World.block_lt_of_cell? _ _ c1)).trans c1
          replace x0 := (hg.cell (World.block_lt_of_cell? _ _ x0)).trans x0
          replace x1 := (hg.cell (World.block_lt_of_cell? _ _ x1)).trans x1
          have BG := Lib.hid ((BB.out.trans (HK.out.mono BB.out.size)).trans (hg.mono (Nat.le_trans BB.out.size HK.out.size)))
          clear hg y0 HK q1 q2 q3 q4 RB
          rw [← E1.out] at c1 ⊢
          clear E1
        rotate_left
        focus
          go_wp2_with fail
          have q1 : ¬ (q : Int) < n := by omega
          have q2 : decide ((q : Int) < n) = false := decide_eq_false q1
          refine wp_region_quiet (C := fun w' => Below wr.heap.size wr w') (by kernel_rfl) (by kernel_rfl) ((Below.refl _ _).drew) ?_
          repeat (
            with_reducible refine wpQuiet_step (fun K hK => ?_)
            go_simp
            first
              | (with_reducible refine hK _ ?_; clear hK K)
              | (apply Exists.intro
                 refine ⟨fun v hv => ?_, hK _ ?_⟩
                 (first
                   | with_reducible rfl
                   | (have d0 := (hv.cell (World.block_lt_of_cell? _ _ c1)).trans c1
                      have d1 := (hv.cell (World.block_lt_of_cell? _ _ x0)).trans x0
                      go_simp
                      with_reducible rfl))
                 clear hK K))
          refine wpQuiet_nil ?_
          intro wf hk
          replace c1 := (hk.cell (World.block_lt_of_cell? _ _ c1)).trans c1
          replace x0 := (hk.cell (World.block_lt_of_cell? _ _ x0)).trans x0
          replace x1 := (hk.cell (World.block_lt_of_cell? _ _ x1)).trans x1
          have HK := Lib.hid hk
          clear hk q1 q2
          go_wp2_with fail
          have q1 : ¬ (q : Int) < n := by omega
          have q2 : decide ((q : Int) < n) = false := decide_eq_false q1
          refine wp_region_quiet (C := fun w' => Below wf.heap.size wf w') (by kernel_rfl) (by kernel_rfl) ((Below.refl _ _).drew) ?_
          repeat (
            with_reducible refine wpQuiet_step (fun K hK => ?_)
            go_simp
            first
              | (with_reducible refine hK _ ?_; clear hK K)
              | (apply Exists.intro
                 refine ⟨fun v hv => ?_, hK _ ?_⟩
                 (first
                   | with_reducible rfl
                   | (have d0 := (hv.cell (World.block_lt_of_cell? _ _ c1)).trans c1
                      have d1 := (hv.cell (World.block_lt_of_cell? _ _ x0)).trans x0
                      go_simp
                      with_reducible rfl))
                 clear hK K))
          refine wpQuiet_nil ?_
          intro wg hg
          replace c1 := (hg.cell (World.block_lt_of_cell? _ _ c1)).trans c1
          replace x0 := (hg.cell (World.block_lt_of_cell? _ _ x0)).trans x0
          replace x1 := (hg.cell (World.block_lt_of_cell? _ _ x1)).trans x1
          have BG := Lib.hid ((BB.out.trans (HK.out.mono BB.out.size)).trans (hg.mono (Nat.le_trans BB.out.size HK.out.size)))
          clear hg HK q1 q2 RB hqn2
        all_goals
          obtain ⟨hnone, hcells⟩ := row_cells RW.out
          have HNONE := Lib.hid hnone
          have HCELLS := Lib.hid hcells
          clear hnone hcells
          have NQ : (flat (l.take q)).length = q * 2 := by rw [flat_length, List.length_take]; have := HN.out; omega
          have ND : (flat (l.drop q)).length = (n - q) * 2 := by rw [flat_length, List.length_drop]; have := HN.out; omega
          have CQ := Lib.hid (show ∀ u, Below W.heap.size W u → ∀ ad, av = some ad → ∀ j y, (flat (l.take q))[j]? = some y → u.cell? (ad.add j) = some y from fun u hu ad e j y hy => by
            rw [← flat_take, List.getElem?_take] at hy
            split at hy
            · exact HCELLS.out u hu ad e j y hy
            · cases hy)
          have H0 : av = none → q = 0 ∧ cp = 0 := fun e => by obtain ⟨h1, h2⟩ := HNONE.out e; exact ⟨by omega, h2⟩
          have H2 := CQ.out _ BG.out
          have H4 : 0 + q ≤ maxLen := by unfold maxLen; omega
          have H5 : (0 + q) * 16 ≤ 140737488355328 := by omega
          go_wp2_with (at_builtin; refine append_any _ rfl _ _ 107 rfl wg.heap.size 111 i0 (.agg #[.int .i64 0, .int .u64 0]) 2 16 Try.underlying107 hi0 hz0 hz1 hz2 rfl (by decide) _ 0 [] rfl ⟨rfl, .inl ⟨rfl, rfl⟩⟩ av q cp (flat (l.take q)) rfl H0 NQ H2 (flat_one _) H4 H5 (Nat.le_refl _) ?_)
          clear H0 H2 H4 H5
          intro v2 w2 o2 b2
          have B2 := Lib.hid b2
          have O2 := Lib.hid o2
          have HZ := Lib.hid (show wg.heap.size ≤ w2.heap.size from b2.size)
          have BG2 := Lib.hid (BG.out.trans (b2.mono BG.out.size))
          have C1 := Lib.hid c1
          replace c1 := (b2.cell (World.block_lt_of_cell? _ _ c1)).trans c1
          replace x0 := (b2.cell (World.block_lt_of_cell? _ _ x0)).trans x0
          replace x1 := (b2.cell (World.block_lt_of_cell? _ _ x1)).trans x1
          clear b2 o2
          have O2' := Lib.hid (O2.out.alloc (.cells #[.int .i64 a, .int .u64 m] 111))
          have H2 : ∀ ad, (some ⟨w2.heap.size, 0, none⟩ : Option Addr) = some ad → ∀ j u, [Value.int .i64 a, .int .u64 m][j]? = some u → (w2.alloc (.cells #[.int .i64 a, .int .u64 m] 111)).cell? (ad.add j) = some u := fun ad e j y hy => by cases e; exact two_new _ _ _ _ j y hy
          have H3 : ∀ u ∈ [Value.int .i64 a, .int .u64 m], u.oneCell' = true := fun u hu => by simp at hu; rcases hu with rfl | rfl <;> rfl
          have H4 : q + 1 ≤ maxLen := by unfold maxLen; omega
          have H5 : (q + 1) * 16 ≤ 140737488355328 := by omega
          have H6 : wg.heap.size ≤ (w2.alloc (.cells #[.int .i64 a, .int .u64 m] 111)).heap.size := Nat.le_trans HZ.out (by simp)
          go_wp2_with (at_builtin; refine append_any _ rfl _ _ 107 rfl wg.heap.size 111 i0 (.agg #[.int .i64 0, .int .u64 0]) 2 16 Try.underlying107 hi0 hz0 hz1 hz2 rfl (by decide) _ q (flat (l.take q)) rfl O2'.out (some ⟨w2.heap.size, 0, none⟩) 1 1 [.int .i64 a, .int .u64 m] rfl (fun e => nomatch e) rfl H2 H3 H4 H5 H6 ?_)
          clear H2 H3 H4 H5 H6
          intro v3 w3 o3 b3
          have B3 := Lib.hid (show Below wg.heap.size wg w3 from (B2.out.alloc HZ.out _).trans b3)
          have O3 := Lib.hid o3
          have BG3 := Lib.hid (BG.out.trans (B3.out.mono BG.out.size))
          clear x0 x1 O2' b3 o3 c1
          have c1 : w3.cell? ⟨p, 1, none⟩ = some (.slice av n cp) := (B3.out.cell (World.block_lt_of_cell? _ _ C1.out)).trans C1.out
          have H63 : q + 1 + (n - q) ≤ maxLen := by unfold maxLen; omega
          have HBY : (q + 1 + (n - q)) * 16 ≤ 140737488355328 := by omega
          have HW3 : wg.heap.size ≤ w3.heap.size := B3.out.size
          cases av with
          | none =>
            obtain ⟨hn0, hc0⟩ := HNONE.out rfl
            obtain rfl : q = 0 := by omega
            subst hn0 hc0
            go_wp2_with (at_builtin; refine append_any _ rfl _ _ 107 rfl wg.heap.size 111 i0 (.agg #[.int .i64 0, .int .u64 0]) 2 16 Try.underlying107 hi0 hz0 hz1 hz2 rfl (by decide) v3 (0 + 1) (flat (l.take 0) ++ [.int .i64 a, .int .u64 m]) rfl O3.out none 0 0 (flat (l.drop 0)) rfl (fun _ => ⟨rfl, rfl⟩) ND (fun _ e => nomatch e) (flat_one _) H63 HBY HW3 ?_)
            all_goals (
              intro v4 w4 o4 b4
              have BT := Lib.hid ((BW.out.trans ((BG.out.trans (B3.out.mono BG.out.size)).mono BW.out.size)).trans (b4.mono (Nat.le_trans BW.out.size BG.out.size)))
              have HP4 := Lib.hid ((BT.out.block p (heap_lt HCP.out)).trans HCP.out)
              have f1 : w4.frozen? ⟨p, 1, none⟩ = false := by simp [World.frozen?, HP4.out]
              have c9 := cell_of HP4.out 1 _ rfl
              obtain ⟨M, hM⟩ : ∃ M, M = moreL l a m := ⟨_, rfl⟩
              have EF : flat M = flat (l.take 0) ++ (.int .i64 a :: .int .u64 m :: flat (l.drop 0)) := by rw [hM, EQ.out, flat_append]; rfl
              have EL : M.length = 0 + 1 + (0 - 0) := by rw [hM, EQ.out, List.length_append, List.length_take, List.length_cons, List.length_drop]; have := HN.out; omega
              have o5 : w4.ownsRow wg.heap.size 111 2 v4 M.length (flat M) := by rw [EL, EF]; simpa [flat] using o4
              obtain ⟨G', r5, g5⟩ := Row.ofOwns o5
              obtain ⟨a4, c4, rfl, _, _⟩ := r5.form
              have hpw : p < wg.heap.size := Nat.lt_of_lt_of_le (heap_lt HCP.out) (Nat.le_trans BW.out.size BG.out.size)
              have R5 := Lib.hid r5
              have HMM := Lib.hid hM
              have G5 := Lib.hid g5
              have HPW := Lib.hid hpw
              clear o4 o5 b4 c1 EF EL r5 hM g5 hpw
              go_wp2
              all_goals go_end0
              all_goals (
                have r5 := R5.out
                have g5 := G5.out
                have hpw := HPW.out
                rw [← HMM.out]
                refine ⟨rfl, p :: G', ⟨_, G', rfl, fun h => (by have := g5 p h; omega), set_at HP4.out 1 _, r5.same fun k hk => Below.heap_setCell w4 ⟨p, 1, none⟩ _ k (fun e => (by have := g5 k hk; have e' : k = p := e; omega))⟩, ⟨(Chg.of BT.out).trans ((Chg.set w4 p 1 _).mono fun k _ e => (by subst e; simp)), fun g hg => ?_⟩⟩
                rcases List.mem_cons.1 hg with rfl | hg
                · exact .inl (by simp)
                · exact .inr (Nat.le_trans (Nat.le_trans BW.out.size BG.out.size) (g5 g hg))))
          | some ad =>
            have H0 : (if cp = q then some ad else some (ad.add (q * 2))) = none → n - q = 0 ∧ cp - q = 0 := fun e => by split at e <;> cases e
            have H2 : ∀ ad', (if cp = q then some ad else some (ad.add (q * 2))) = some ad' → ∀ j y, (flat (l.drop q))[j]? = some y → w3.cell? (ad'.add j) = some y := fun ad' e j y hy => by
              have hj := (List.getElem?_eq_some_iff.1 hy).1
              rw [ND] at hj
              rw [if_neg (by omega)] at e
              cases e
              rw [← flat_drop, List.getElem?_drop] at hy
              rw [Addr.add_add]
              exact HCELLS.out _ (BG.out.trans (B3.out.mono BG.out.size)) _ rfl _ _ hy
            go_wp2_with (at_builtin; refine append_any _ rfl _ _ 107 rfl wg.heap.size 111 i0 (.agg #[.int .i64 0, .int .u64 0]) 2 16 Try.underlying107 hi0 hz0 hz1 hz2 rfl (by decide) v3 (q + 1) (flat (l.take q) ++ [.int .i64 a, .int .u64 m]) rfl O3.out (if cp = q then some ad else some (ad.add (q * 2))) (n - q) (cp - q) (flat (l.drop q)) rfl H0 ND H2 (flat_one _) H63 HBY HW3 ?_)
            all_goals (
              intro v4 w4 o4 b4
              have BT := Lib.hid ((BW.out.trans ((BG.out.trans (B3.out.mono BG.out.size)).mono BW.out.size)).trans (b4.mono (Nat.le_trans BW.out.size BG.out.size)))
              have HP4 := Lib.hid ((BT.out.block p (heap_lt HCP.out)).trans HCP.out)
              have f1 : w4.frozen? ⟨p, 1, none⟩ = false := by simp [World.frozen?, HP4.out]
              have c9 := cell_of HP4.out 1 _ rfl
              obtain ⟨M, hM⟩ : ∃ M, M = moreL l a m := ⟨_, rfl⟩
              have EF : flat M = flat (l.take q) ++ (.int .i64 a :: .int .u64 m :: flat (l.drop q)) := by rw [hM, EQ.out, flat_append]; rfl
              have EL : M.length = q + 1 + (n - q) := by rw [hM, EQ.out, List.length_append, List.length_take, List.length_cons, List.length_drop]; have := HN.out; omega
              have o5 : w4.ownsRow wg.heap.size 111 2 v4 M.length (flat M) := by rw [EL, EF]; simpa [flat] using o4
              obtain ⟨G', r5, g5⟩ := Row.ofOwns o5
              obtain ⟨a4, c4, rfl, _, _⟩ := r5.form
              have hpw : p < wg.heap.size := Nat.lt_of_lt_of_le (heap_lt HCP.out) (Nat.le_trans BW.out.size BG.out.size)
              have R5 := Lib.hid r5
              have HMM := Lib.hid hM
              have G5 := Lib.hid g5
              have HPW := Lib.hid hpw
              clear o4 o5 b4 c1 EF EL r5 hM g5 hpw
              go_wp2
              all_goals go_end0
              all_goals (
                have r5 := R5.out
                have g5 := G5.out
                have hpw := HPW.out
                rw [← HMM.out]
                refine ⟨rfl, p :: G', ⟨_, G', rfl, fun h => (by have := g5 p h; omega), set_at HP4.out 1 _, r5.same fun k hk => Below.heap_setCell w4 ⟨p, 1, none⟩ _ k (fun e => (by have := g5 k hk; have e' : k = p := e; omega))⟩, ⟨(Chg.of BT.out).trans ((Chg.set w4 p 1 _).mono fun k _ e => (by subst e; simp)), fun g hg => ?_⟩⟩
                rcases List.mem_cons.1 hg with rfl | hg
                · exact .inl (by simp)
                · exact .inr (Nat.le_trans (Nat.le_trans BW.out.size BG.out.size) (g5 g hg))))
end Go.Proofs.Ytgafnilcmhjpcaa.HHist
