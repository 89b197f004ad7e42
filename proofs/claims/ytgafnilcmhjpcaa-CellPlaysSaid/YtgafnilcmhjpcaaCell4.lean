/- Cells: Merge, walked. Conditions: the two lie apart; the numbers are of their kinds' ranges. -/
import Derived.Test.YtgafnilcmhjpcaaCell3
namespace Go.Proofs.Ytgafnilcmhjpcaa.HCell
set_option linter.unusedVariables false
open Go.RowKit Go.Proofs.Ytgafnilcmhjpcaa.HMem Go.Proofs.Ytgafnilcmhjpcaa.HHist Go.Proofs.Ytgafnilcmhjpcaa.HWide
open Go.Proofs.Ytgafnilcmhjpcaa.Print (I64)

/-- What another one took is taken. -/
def mergeC (c d : CM) : CM × Int :=
  if (mergeL c.b c.l d.b d.l).2 = 0 then ({ takeC c (total c.l) (total d.l) d.s d.lo d.hi with l := (mergeL c.b c.l d.b d.l).1 }, 0) else (c, (mergeL c.b c.l d.b d.l).2)
theorem mergeL_err {b c : Nat} {l m : IL} (h : ¬ (mergeL b l c m).2 = 0) : (mergeL b l c m).1 = l := by
  unfold mergeL at h ⊢
  split
  · rfl
  · split
    · rfl
    · rename_i h1 h2
      rw [if_neg h1, if_neg h2] at h
      exact absurd rfl h
theorem COk.merge {c d : CM} (h : COk c) (k : COk d) : COk (mergeC c d).1 := by
  unfold mergeC
  split
  · refine COk.hist (h.take _ _ _ _ _ k.lo k.hi) ?_
    rw [(takeC_b _ _ _ _ _ _).1]
    exact h.h.merge k.h
  · exact h
theorem count_q {w : World} {h : Nat} {R : List Nat} {b : Nat} {l : IL} (k : HistAt w h R b l) : ∀ v, Below w.heap.size w v → Calls Try.prog 28 #[.pointer (some ⟨h, 0, none⟩)] v fun e w' => e = .returned (.int .u64 (total l : Nat)) ∧ Below v.heap.size v w' := fun v hv =>
  (Count_any (k.mono hv)).mono fun e w' ⟨a, b⟩ => ⟨a, by subst b; exact Below.refl _ _⟩
set_option maxHeartbeats 4000000 in
set_option maxRecDepth 20000 in
theorem Merge_any {w : World} {p q : Nat} {G F : List Nat} {c d : CM} (k : CellAt w p G c) (kd : CellAt w q F d) (ho : COk c) (hod : COk d) (hs : ∀ x ∈ G, x ∉ F) :
    Calls Try.prog 29 #[.pointer (some ⟨p, 0, none⟩), .pointer (some ⟨q, 0, none⟩)] w (CRes w p G (mergeC c d).1 (.int .i64 (mergeC c d).2)) := by
  obtain ⟨h, R, rfl, hpR, kc, kh⟩ := k.ex
  obtain ⟨h', S, rfl, hqS, kc', kh'⟩ := kd.ex
  obtain ⟨E, hE⟩ : ∃ E, E = w.heap.size := ⟨_, rfl⟩
  obtain ⟨W, hW⟩ : ∃ W, W = w.alloc (.cells #[.int .i64 0] 30) := ⟨_, rfl⟩
  have b0 : Below w.heap.size w W := by rw [hW]; exact (Below.refl _ _).alloc (Nat.le_refl _) _
  have hEW : W.heap[E]? = some (.cells #[.int .i64 0] 30 (0, 0)) := by rw [hW, hE]; exact heap_alloc_new w _
  have hpE : p < E := by rw [hE]; exact kc.lt
  have hER : E ∉ R := fun hm => by have := (kh.own.mem E hm).2; omega
  have HQR := Lib.hid (show q ∉ R from fun hm => hs q (by simp [hm]) (by simp))
  have HSR := Lib.hid (show ∀ x ∈ R, x ∉ S from fun x hx hm => hs x (by simp [hx]) (by simp [hm]))
  have kcW := kc.mono b0
  have khW := kh.mono b0
  have kcW' := kc'.mono b0
  have khW' := kh'.mono b0
  obtain ⟨c0, _⟩ := kcW.cells
  obtain ⟨q0, _⟩ := kcW'.cells
  have B0 := Lib.hid b0
  have HEW := Lib.hid hEW
  have KC := Lib.hid kcW
  have KH := Lib.hid khW
  have KC' := Lib.hid kcW'
  have KH' := Lib.hid khW'
  have HW := Lib.hid hW
  have HE := Lib.hid hE
  have HER := Lib.hid hER
  have HPR := Lib.hid hpR
  have HO := Lib.hid ho
  have HO' := Lib.hid hod
  have HPE := Lib.hid hpE
  clear b0 hEW hpE hER kcW khW k kc kh hpR hE ho hod hs kd kc' kh' hqS kcW' khW'
  have K1 := Lib.hid (count_q KH.out)
  have K2 := Lib.hid (count_q KH'.out)
  go_enter_defers Try.func29, Try.ntmps29
  go_wp2_with fail
  rw [← hW, ← HE.out]
  clear hW
  refine wp_region_quiet (C := fun w' => Below W.heap.size W w') (by kernel_rfl) (by kernel_rfl) ((Below.refl _ _).drew) ?_
  repeat (
    with_reducible refine wpQuiet_step (fun K hK => ?_)
    go_simp
    first
      | (with_reducible refine hK _ ?_; clear hK K)
      | (refine hK _ ?_; clear hK K)
      | (apply Exists.intro
         refine ⟨fun v hv => ?_, hK _ ?_⟩
         (first
           | with_reducible rfl
           | (with_reducible show Calls _ _ _ _ _
              first
                | with_reducible refine Calls.mono (K1.out _ hv) ?_
                | with_reducible refine Calls.mono (K2.out _ hv) ?_
              rintro e w' ⟨rfl, hb⟩
              exact ⟨rfl, hv.trans (hb.mono hv.size)⟩)
           | (have d0 := (hv.cell (World.block_lt_of_cell? _ _ c0)).trans c0
              have d1 := (hv.cell (World.block_lt_of_cell? _ _ q0)).trans q0
              go_simp
              with_reducible rfl))
         clear hK K))
  refine wpQuiet_nil ?_
  intro w1 b1
  have B1 := Lib.hid b1
  replace c0 := (b1.cell (World.block_lt_of_cell? _ _ c0)).trans c0
  replace q0 := (b1.cell (World.block_lt_of_cell? _ _ q0)).trans q0
  clear b1 K1 K2
  go_wp2_with fail
  refine QTail.wp_region_quiet_tail (C := fun w' => Below w1.heap.size w1 w') 8 (by kernel_rfl) (by kernel_rfl) ((Below.refl _ _).drew) ?_
  simp only [List.take_succ_cons, List.take_zero]
  repeat (
    with_reducible refine wpQuiet_step (fun K hK => ?_)
    go_simp
    first
      | (with_reducible refine hK _ ?_; clear hK K)
      | (refine hK _ ?_; clear hK K)
      | (apply Exists.intro
         refine ⟨fun v hv => ?_, hK _ ?_⟩
         (first
           | with_reducible rfl
           | (have d0 := (hv.cell (World.block_lt_of_cell? _ _ c0)).trans c0
              have d1 := (hv.cell (World.block_lt_of_cell? _ _ q0)).trans q0
              go_simp
              with_reducible rfl))
         clear hK K))
  refine wpQuiet_nil ?_
  intro w2 b2
  simp only [List.drop_succ_cons, List.drop_zero]
  have B2 := Lib.hid (B1.out.trans (b2.mono B1.out.size))
  clear b2 c0 q0
  go_wp2_with fail
  refine (HHist.Merge_any (KH.out.mono B2.out) (KH'.out.mono B2.out) HO.out.h HO'.out.h HSR.out).mono ?_
  rintro e w3 ⟨rfl, R', h1, t1⟩
  have H1 := Lib.hid h1
  have T1 := Lib.hid t1
  have hE3 : w3.heap[E]? = some (.cells #[.int .i64 0] 30 (0, 0)) := by
    have hl := heap_lt HEW.out
    rw [t1.chg.block E (Nat.lt_of_lt_of_le hl B2.out.size) HER.out, B2.out.block E hl]; exact HEW.out
  have K3 := Lib.hid (show Cb w3 p h c by
    unfold Cb
    rw [t1.chg.block p (Nat.lt_of_lt_of_le KC.out.lt B2.out.size) HPR.out, B2.out.block p KC.out.lt]; exact KC.out)
  have K3' := Lib.hid (show Cb w3 q h' d by
    unfold Cb
    rw [t1.chg.block q (Nat.lt_of_lt_of_le KC'.out.lt B2.out.size) HQR.out, B2.out.block q KC'.out.lt]; exact KC'.out)
  have HE3 := Lib.hid hE3
  have HPR' := Lib.hid (show p ∉ R' from fun hm => by
    rcases t1.foot p hm with h | h
    · exact HPR.out h
    · have h1 := KC.out.lt; have h2 := B2.out.size; omega)
  have HER' := Lib.hid (show E ∉ R' from fun hm => by
    rcases t1.foot E hm with h | h
    · exact HER.out h
    · have h1 := heap_lt HEW.out; have h2 := B2.out.size; omega)
  have B02 := Lib.hid (show Below w.heap.size w w2 from B0.out.trans (B2.out.mono B0.out.size))
  clear h1 t1 hE3
  obtain ⟨r, hr⟩ : ∃ r, r = mergeL c.b c.l d.b d.l := ⟨_, rfl⟩
  obtain ⟨l', er⟩ := r
  have HR := Lib.hid hr
  rw [← hr] at H1 ⊢
  dsimp only at H1 ⊢
  by_cases hz : er = 0
  rotate_left
  · have EC := Lib.hid (show mergeC c d = (c, er) by unfold mergeC; rw [← hr]; exact if_neg hz)
    have EL := Lib.hid (show l' = c.l by
      have := mergeL_err (b := c.b) (l := c.l) (c := d.b) (m := d.l) (by rw [← hr]; exact hz)
      rw [← hr] at this
      exact this)
    have HZ := Lib.hid hz
    clear hz hr
    go_wp2_with fail
    refine (must_throws er HZ.out _).mono ?_
    rintro e w4 ⟨rfl, rfl⟩
    go_wp2_with fail
    have hE2 := HE3.out
    refine leaves_cons (f := 53) (args := #[.pointer (some ⟨E, 0, none⟩)]) (by simp) (by simp [go_sem]) ?_
    refine (caught_errno ⟨E, 0, none⟩ er (.int .i64 0) [] _ (by simp [World.cell?, hE2]) (by simp [World.frozen?, hE2])).mono ?_
    rintro e u' w5 ⟨rfl, rfl, rfl⟩
    have e0 : (w4.setCell ⟨E, 0, none⟩ (.int .i64 er)).cell? ⟨E, 0, none⟩ = some (.int .i64 er) := World.cell?_setCell_same _ _ _ (show w4.cell? ⟨E, 0, none⟩ = some (.int .i64 0) by simp [World.cell?, hE2])
    have RES := Lib.hid (show CRes w p (p :: R) (mergeC c d).1 (.int .i64 (mergeC c d).2) (.returned (.int .i64 er)) (w4.setCell ⟨E, 0, none⟩ (.int .i64 er)) by
      rw [EC.out]
      have hne : ∀ k, k ≠ E → (w4.setCell ⟨E, 0, none⟩ (.int .i64 er)).heap[k]? = w4.heap[k]? := fun k hk => Below.heap_setCell _ _ _ _ hk
      have e1 := H1.out
      rw [EL.out] at e1
      refine ⟨rfl, p :: R', ⟨⟨h, R', rfl, HPR'.out, ?_, e1.same fun g hg => hne g fun e => HER'.out (e ▸ hg)⟩⟩, turn_all B02.out T1.out (Below.refl _ _) (Chg.refl _ _) (Nat.le_of_eq HE.out.symm) _⟩
      unfold Cb
      rw [hne p (by have := HPE.out; omega)]
      exact K3.out)
    clear hE2
    simp [Leaves, settle, results, Try.results29, go_sem, e0]
    exact RES.out
  · subst hz
    have EC := Lib.hid (show mergeC c d = ({ takeC c (total c.l) (total d.l) d.s d.lo d.hi with l := l' }, 0) by unfold mergeC; rw [← hr]; exact if_pos rfl)
    clear hr
    go_wp2_with fail
    refine (must_ok _).mono ?_
    rintro e w4 ⟨rfl, rfl⟩
    obtain ⟨q0, q1, q2, q3, q4, q5⟩ := K3'.out.cells
    go_wp2_with fail
    refine QTail.wp_region_quiet_tail (C := fun w' => Below w4.heap.size w4 w') 15 (by kernel_rfl) (by kernel_rfl) ((Below.refl _ _).drew) ?_
    simp only [List.take_succ_cons, List.take_zero]
    repeat (
      with_reducible refine wpQuiet_step (fun K hK => ?_)
      go_simp
      first
        | (with_reducible refine hK _ ?_; clear hK K)
        | (refine hK _ ?_; clear hK K)
        | (apply Exists.intro
           refine ⟨fun v hv => ?_, hK _ ?_⟩
           (first
             | with_reducible rfl
             | (have d0 := (hv.cell (World.block_lt_of_cell? _ _ q2)).trans q2
                have d1 := (hv.cell (World.block_lt_of_cell? _ _ q3)).trans q3
                have d2 := (hv.cell (World.block_lt_of_cell? _ _ q4)).trans q4
                have d3 := (hv.cell (World.block_lt_of_cell? _ _ q5)).trans q5
                go_simp
                with_reducible rfl))
           clear hK K))
    refine wpQuiet_nil ?_
    intro w5 b5
    simp only [List.drop_succ_cons, List.drop_zero]
    have B5 := Lib.hid b5
    clear b5 q0 q1 q2 q3 q4 q5
    go_wp2_with fail
    refine (take_any (K3.out.mono B5.out) (total c.l) (total d.l) d.s d.lo d.hi HO'.out.rng HO.out.rng).mono ?_
    rintro e w6 ⟨rfl, k6, c6⟩
    have K6 := Lib.hid k6
    have C6 := Lib.hid c6
    have hE6 : w6.heap[E]? = some (.cells #[.int .i64 0] 30 (0, 0)) := by
      have h1 := heap_lt HE3.out
      rw [c6.block E (Nat.lt_of_lt_of_le h1 B5.out.size) (by have := HPE.out; omega), B5.out.block E h1]
      exact HE3.out
    have e0 : w6.cell? ⟨E, 0, none⟩ = some (.int .i64 0) := by simp [World.cell?, hE6]
    have ef : w6.frozen? ⟨E, 0, none⟩ = false := by simp [World.frozen?, hE6]
    clear k6 c6 hE6
    go_wp2
    refine leaves_cons (f := 53) (args := #[.pointer (some ⟨E, 0, none⟩)]) (by simp) (by simp [go_sem]) ?_
    refine (caught_idle ⟨E, 0, none⟩ _).mono ?_
    rintro e u' w7 ⟨rfl, rfl, rfl⟩
    have e1 : (w6.setCell ⟨E, 0, none⟩ (.int .i64 0)).cell? ⟨E, 0, none⟩ = some (.int .i64 0) := World.cell?_setCell_same _ _ _ e0
    have RES := Lib.hid (show CRes w p (p :: R) (mergeC c d).1 (.int .i64 (mergeC c d).2) (.returned (.int .i64 0)) (w6.setCell ⟨E, 0, none⟩ (.int .i64 0)) by
      rw [EC.out]
      have hne : ∀ k, k ≠ E → (w6.setCell ⟨E, 0, none⟩ (.int .i64 0)).heap[k]? = w6.heap[k]? := fun k hk => Below.heap_setCell _ _ _ _ hk
      refine ⟨rfl, p :: R', ⟨⟨h, R', rfl, HPR'.out, ?_, ?_⟩⟩, turn_all B02.out T1.out B5.out C6.out (Nat.le_of_eq HE.out.symm) _⟩
      · unfold Cb
        rw [hne p (by have := HPE.out; omega)]
        exact K6.out
      · have hb : (takeC c (total c.l) (total d.l) d.s d.lo d.hi).b = c.b := (takeC_b _ _ _ _ _ _).1
        show HistAt _ h R' ((takeC c (total c.l) (total d.l) d.s d.lo d.hi).b : Int) l'
        rw [hb]
        refine H1.out.same fun g hg => ?_
        have hgs := (H1.out.own.mem g hg).2
        rw [hne g (fun e => HER'.out (e ▸ hg)), C6.out.block g (Nat.lt_of_lt_of_le hgs B5.out.size) (fun e => HPR'.out (e ▸ hg)), B5.out.block g hgs])
    clear e0 ef
    simp [Leaves, settle, results, Try.results29, go_sem, e1]
    exact RES.out
end Go.Proofs.Ytgafnilcmhjpcaa.HCell
