/- Histograms: more, walked. -/
import Derived.Test.YtgafnilcmhjpcaaHist
import Derived.Test.YtgafnilcmhjpcaaQTail
import Derived.RegionTactic
import Derived.BigRegion
import Derived.Deep.RegionWith
namespace Go.Proofs.Ytgafnilcmhjpcaa.HHist
set_option linter.unusedVariables false
open Go.RowKit Go.Proofs.Ytgafnilcmhjpcaa.HMem

/-- Behind the insertion: the row, and what stayed. -/
structure InsAt (w : World) (p X : Nat) (R : List Nat) (bits a : Int) (m : Nat) (v : Value) (l L : IL) (N g off cap : Nat) (W6 : World) : Prop where
  turn : Turn (p :: R) [p, g] w W6
  hd : W6.heap[p]? = some (.cells #[.int .i64 bits, v, .int .u64 (total l : Nat)] 100 (0, 0))
  row : Row 105 2 W6 (.slice (some ⟨g, off, none⟩) N cap) N (flat L) [g]
  x0 : W6.cell? ⟨X, 0, none⟩ = some (.int .i64 a)
  x1 : W6.cell? ⟨X, 1, none⟩ = some (.int .u64 m)
  hp : p ≠ g
  hX : X ≠ p ∧ X ≠ g
set_option maxHeartbeats 2000000 in
set_option maxRecDepth 20000 in
theorem more_any (w : World) (p : Nat) (G : List Nat) (bits : Int) (l : IL) (a : Int) (m : Nat) (h : HistAt w p G bits l) (hs : Rise l) (hl : l.length ≤ 4294967295) (hm : total l + m < 18446744073709551616) :
    Calls Try.prog 60 #[.pointer (some ⟨p, 0, none⟩), .agg #[.int .i64 a, .int .u64 m]] w fun e w' => e = .returned (.tuple #[]) ∧ ∃ G', HistAt w' p G' bits (moreL l a m) ∧ Turn G G' w w' := by
  have hown := h.own
  obtain ⟨v, R, rfl, hpR, hcp, hrow⟩ := h.ex
  have c0 : w.cell? ⟨p, 0, none⟩ = some (.int .i64 bits) := by simp [World.cell?, hcp]
  have c1 : w.cell? ⟨p, 1, none⟩ = some v := by simp [World.cell?, hcp]
  have c2 : w.cell? ⟨p, 2, none⟩ = some (.int .u64 (total l : Nat)) := by simp [World.cell?, hcp]
  have HO := Lib.hid hown
  have HCP := Lib.hid hcp
  have HR := Lib.hid hrow
  have HS := Lib.hid hs
  have HL := Lib.hid hl
  have hpl := heap_lt hcp
  clear hown hcp hrow hs hl h
  go_enter Try.func60, Try.ntmps60
  go_wp2_with fail
  obtain ⟨X, hX⟩ : ∃ X, X = w.heap.size := ⟨_, rfl⟩
  obtain ⟨W, hW⟩ : ∃ W, W = w.alloc (.cells #[.int .i64 a, .int .u64 m] 105) := ⟨_, rfl⟩
  have BW := Lib.hid (show Below w.heap.size w W by rw [hW]; exact (Below.refl _ _).alloc (Nat.le_refl _) _)
  have x0 : W.cell? ⟨X, 0, none⟩ = some (.int .i64 a) := by rw [hW, hX, new_cell]; rfl
  have x1 : W.cell? ⟨X, 1, none⟩ = some (.int .u64 m) := by rw [hW, hX, new_cell]; rfl
  rw [← hW, ← hX]
  replace c0 := (BW.out.cell (World.block_lt_of_cell? _ _ c0)).trans c0
  replace c1 := (BW.out.cell (World.block_lt_of_cell? _ _ c1)).trans c1
  replace c2 := (BW.out.cell (World.block_lt_of_cell? _ _ c2)).trans c2
  have HX := Lib.hid hX
  clear hW hX hpl
  have K1 := Lib.hid (show ∀ v, Below W.heap.size W v → Calls Try.prog 80 #[_, .int .i64 a, .func (.func 81) #[] #[]] v fun e w' => e = .returned (.tuple #[.int .i64 (pos l a), .bool (thereL l a)]) ∧ Below v.heap.size v w' from
    fun u hu => search_any u v l R a (HR.out.same ((Same.own BW.out HR.out.own).trans (Same.own hu (HR.out.own.size BW.out.size)))) HS.out (by have := HL.out; omega))
  refine wp_region_quiet (C := fun w' => Below W.heap.size W w') (by kernel_rfl) (by kernel_rfl) ((Below.refl _ _).drew) ?_
  repeat (
    with_reducible refine wpQuiet_step (fun K hK => ?_)
    go_simp
    first
      | (with_reducible refine hK _ ?_; clear hK K)
      | (refine hK _ ?_; clear hK K)
      | (apply Exists.intro
         refine ⟨fun v hv => ?_, hK _ ?_⟩
         (first
           | with_reducible rfl
           | (with_reducible show Calls _ _ _ _ _
              first
                | with_reducible refine Calls.mono (K1.out _ hv) ?_
              rintro e w' ⟨rfl, hb⟩
              exact ⟨rfl, hv.trans (hb.mono hv.size)⟩)
           | (have d0 := (hv.cell (World.block_lt_of_cell? _ _ c1)).trans c1
              have d1 := (hv.cell (World.block_lt_of_cell? _ _ x0)).trans x0
              go_simp
              with_reducible rfl))
         clear hK K))
  refine wpQuiet_nil ?_
  intro wf hk
  replace c0 := (hk.cell (World.block_lt_of_cell? _ _ c0)).trans c0
  replace c1 := (hk.cell (World.block_lt_of_cell? _ _ c1)).trans c1
  replace c2 := (hk.cell (World.block_lt_of_cell? _ _ c2)).trans c2
  replace x0 := (hk.cell (World.block_lt_of_cell? _ _ x0)).trans x0
  replace x1 := (hk.cell (World.block_lt_of_cell? _ _ x1)).trans x1
  have BF := Lib.hid (BW.out.trans (hk.mono BW.out.size))
  clear hk K1
  obtain ⟨q, hq⟩ : ∃ q, q = pos l a := ⟨_, rfl⟩
  rw [← hq]
  have hql := pos_le l a
  rw [← hq] at hql
  have RF := Lib.hid (HR.out.same (Same.own BF.out HR.out.own))
  have OF := Lib.hid (HO.out.size BF.out.size)
  have HX0 := HX.out
  have T0 := Lib.hid (show Turn (p :: R) (p :: R) w wf from Turn.of BF.out)
  have HCF : Hid (wf.heap[p]? = some (.cells #[.int .i64 bits, v, .int .u64 (total l : Nat)] 100 (0, 0))) := Lib.hid ((BF.out.block p (HO.out.mem p (by simp)).2).trans HCP.out)
  have hXs : p < X ∧ ∀ g ∈ R, g < X := ⟨by have := (HO.out.mem p (by simp)).2; omega, fun g hg => by have := (HO.out.mem g (by simp [hg])).2; omega⟩
  have HXS := Lib.hid hXs
  have hXw : X < wf.heap.size := World.block_lt_of_cell? _ _ x0
  clear HX HX0 hXs HCP HR HO
  by_cases ht : thereL l a = true
  obtain ⟨x, hx, hxa⟩ : ∃ x, l[q]? = some x ∧ x.1 = a := by
    unfold thereL at ht
    rw [← hq] at ht
    cases e : l[q]? with
    | none => rw [e] at ht; cases ht
    | some x => rw [e] at ht; exact ⟨x, rfl, of_decide_eq_true ht⟩
  have hql2 : q < l.length := (List.getElem?_eq_some_iff.1 hx).1
  obtain ⟨g, off, cap, rfl, rfl, e1, e2, e3⟩ := RF.out.there (by omega)
  obtain ⟨y0, y1⟩ := e3 _ _ (flat_get l q x hx).2
  rw [← Nat.add_assoc] at y0 y1
  have hxm := many_le l x (List.mem_of_getElem? hx)
  have s1 : IntKind.u64.wrap ((x.2 : Int) + (m : Int)) = (x.2 : Int) + (m : Int) := u64_in _ (by omega) (by omega)
  have s2 : IntKind.u64.wrap ((total l : Int) + (m : Int)) = (total l : Int) + (m : Int) := u64_in _ (by omega) (by omega)
  have hq1 : (q : Int) < (l.length : Int) := by omega
  obtain ⟨L, hL⟩ : ∃ L : IL, L = l := ⟨_, rfl⟩
  have EQ := Lib.hid (show moreL l a m = L.set q (x.1, x.2 + m) by
    rw [hL]
    have := moreL_there l a m HS.out x (by rw [← hq]; exact hx) hxa
    rw [← hq] at this
    rw [hxa]
    exact this)
  have ET := Lib.hid (show ((total l : Nat) : Int) + (m : Int) = ((total (moreL l a m) : Nat) : Int) by rw [total_moreL]; omega)
  rw [ht]
  have HX2 := Lib.hid (show L[q]? = some x by rw [hL]; exact hx)
  obtain ⟨N, hN⟩ : ∃ N, N = l.length := ⟨_, rfl⟩
  have HQN := Lib.hid (show q < N by omega)
  have HLN := Lib.hid (show L.length = N by rw [hL, hN])
  have RL := Lib.hid (show Row 105 2 wf (.slice (some ⟨g, off, none⟩) N cap) N (flat L) [g] by rw [hL, hN]; exact RF.out)
  have HXO := Lib.hid (show X ≠ p ∧ X ≠ g from ⟨by have := HXS.out.1; omega, by have := HXS.out.2 g (by simp); omega⟩)
  rw [← hN] at HCF c1 hq1
  rw [← hN]
  clear RF hL hN ht hq hxa hx e1 e2 e3 hxm hql hql2 HS HL OF BF BW c0
  go_wp2_with fail
  rotate_left
  have ht' : thereL l a = false := by simpa using ht
  rw [ht']
  have HNT := Lib.hid (show ∀ x, l[q]? = some x → x.1 ≠ a from fun x hx e => by
    unfold thereL at ht'
    rw [← hq, hx] at ht'
    exact absurd e (of_decide_eq_false ht'))
  have HQ := Lib.hid hq
  clear ht ht' hq
  go_wp2_with fail
  obtain ⟨x, hx0⟩ : ∃ x : Int × Nat, x = (a, 0) := ⟨_, rfl⟩
  obtain ⟨L, hL⟩ : ∃ L : IL, L = l.take q ++ (x :: l.drop q) := ⟨_, rfl⟩
  obtain ⟨N, hN⟩ : ∃ N, N = l.length + 1 := ⟨_, rfl⟩
  have hfl : flat L = flat (l.take q) ++ ([.int .i64 a, .int .u64 0] ++ flat (l.drop q)) := by rw [hL, flat_append, hx0]; rfl
  have hx : L[q]? = some x := by rw [hL, List.getElem?_append_right (by simp; omega)]; simp [Nat.min_eq_left hql]
  have EQ := Lib.hid (show moreL l a m = L.set q (x.1, x.2 + m) by
    have h1 := moreL_not l a m (by rw [← HQ.out]; exact HNT.out)
    rw [← HQ.out] at h1
    rw [h1, hL, hx0]
    have hm' : (l.take q).length = q := by simp [Nat.min_eq_left hql]
    rw [List.set_append_right _ _ (by omega), hm', Nat.sub_self]
    simp)
  have ET := Lib.hid (show ((total l : Nat) : Int) + (m : Int) = ((total (moreL l a m) : Nat) : Int) by rw [total_moreL]; omega)
  have HLN := Lib.hid (show L.length = N by rw [hL, hN]; simp; omega)
  have KI := Lib.hid (show ∀ u : World, u.os = wf.os ∧ u.tape = wf.tape ∧ u.output = wf.output ∧ u.heap = (wf.alloc (.cells #[.int .i64 a, .int .u64 0] 105)).heap →
      Calls Try.prog 83 #[v, .int .i64 q, .slice (some ⟨wf.heap.size, 0, none⟩) 1 1] u fun e W6 => ∃ g off cap, e = .returned (.slice (some ⟨g, off, none⟩) N cap) ∧ InsAt w p X R bits a m v l L N g off cap W6 from fun u hu => by
    obtain ⟨u1, u2, u3, u4⟩ := hu
    have B5 : Below wf.heap.size wf u := ⟨u1, u2, u3, by rw [u4]; simp, fun k hk => by rw [u4]; exact Below.heap_alloc wf _ k hk⟩
    have hY5 : u.heap[wf.heap.size]? = some (.cells [Value.int .i64 a, .int .u64 0].toArray 105 (0, 0)) := by rw [u4]; exact heap_alloc_new wf _
    have hpw := heap_lt HCF.out
    have hp5 : u.heap[p]? = some (.cells #[.int .i64 bits, v, .int .u64 (total l : Nat)] 100 (0, 0)) := (B5.block p hpw).trans HCF.out
    have O5 := OF.out.size B5.size
    have HI := HItmIns.any u v l.length (flat l) R q wf.heap.size [.int .i64 a, .int .u64 0] (RF.out.same (Same.own B5 RF.out.own)) hql (by have := HL.out; omega) hY5 rfl (fun h => by have := (RF.out.own.mem _ h).2; omega) (flat_one l) (by simp [Value.oneCell'])
    rw [flat_take, flat_drop, ← hfl, ← hN] at HI
    refine HI.mono ?_
    rintro e W6 ⟨v6, rfl, R6, r6, t6⟩
    obtain ⟨g, off, cap, rfl, rfl, _, _, cell6⟩ := r6.there (by omega)
    have hXu : X < u.heap.size := Nat.lt_of_lt_of_le hXw B5.size
    have hX6 : ∀ o, W6.cell? ⟨X, o, none⟩ = wf.cell? ⟨X, o, none⟩ := fun o => (World.cell?_of_block (a := ⟨X, o, none⟩) (t6.chg.block X hXu fun h => by have := HXS.out.2 X h; omega)).trans (World.cell?_of_block (a := ⟨X, o, none⟩) (B5.block X hXw))
    exact ⟨g, off, cap, rfl, (T0.out.trans (Turn.of B5)).trans (t6.part' (L := [p])), (t6.chg.block p (heap_lt hp5) hpR).trans hp5, r6, (hX6 0).trans x0, (hX6 1).trans x1,
      fun h => by
        rcases t6.foot g (by simp) with h' | h'
        · exact hpR (h ▸ h')
        · have := (O5.mem p (by simp)).2; omega,
      by have := HXS.out.1; omega,
      fun h => by
        rcases t6.foot g (by simp) with h' | h'
        · have := HXS.out.2 g h'; omega
        · omega⟩)
  have HQN := Lib.hid (show q < N by omega)
  have hq1 : (q : Int) < (N : Int) := by omega
  have HX2 := Lib.hid hx
  have HX0 := Lib.hid hx0
  clear hx0 hL hN hfl hx HS HL HNT HQ hql HXS hXw RF OF T0 BF BW HCF hpR c0
  have c1a : ∀ o, (wf.alloc o).cell? ⟨p, 1, none⟩ = some v := fun o => ((Below.refl _ _).alloc (Nat.le_refl _) o).cell (World.block_lt_of_cell? _ _ c1) |>.trans c1
  focus
    go_region_with ((go_at_call 83; refine Calls.mono (KI.out _ ?_) ?_; exact ⟨rfl, rfl, rfl, rfl⟩; rintro e W6 ⟨g, off, cap, rfl, pk⟩; have PK := Lib.hid pk; have f6 : W6.frozen? ⟨p, 1, none⟩ = false := (by simp [World.frozen?, pk.hd]); have c6 : W6.cell? ⟨p, 1, none⟩ = some v := (by simp [World.cell?, pk.hd]); clear pk))
    all_goals
      go_wp2_with fail
      obtain ⟨wf', hwf⟩ : ∃ w', w' = W6.setCell ⟨p, 1, none⟩ (.slice (some ⟨g, off, none⟩) N cap) := ⟨_, rfl⟩
      rw [← hwf]
      have hpR : ¬ p ∈ [g] := by simpa using PK.out.hp
      have HCF : Hid (wf'.heap[p]? = some (.cells #[.int .i64 bits, .slice (some ⟨g, off, none⟩) N cap, .int .u64 (total l : Nat)] 100 (0, 0))) := Lib.hid (by rw [hwf]; exact set_at PK.out.hd 1 _)
      have RL := Lib.hid (show Row 105 2 wf' (.slice (some ⟨g, off, none⟩) N cap) N (flat L) [g] by
        rw [hwf]
        exact PK.out.row.same fun k hk => by
          simp at hk
          subst hk
          exact Below.heap_setCell W6 ⟨p, 1, none⟩ _ k (Ne.symm PK.out.hp))
      have T0 := Lib.hid (PK.out.turn.trans (show Turn [p, g] [p, g] W6 wf' by rw [hwf]; exact Turn.set (b := p) (G := [p, g]) (by simp) _ _))
      have HXO := Lib.hid PK.out.hX
      have x0' : wf'.cell? ⟨X, 0, none⟩ = some (.int .i64 a) := by rw [hwf, World.cell?_setCell_other _ _ _ _ (by simp)]; exact PK.out.x0
      have x1' : wf'.cell? ⟨X, 1, none⟩ = some (.int .u64 m) := by rw [hwf, World.cell?_setCell_other _ _ _ _ (by simp [Ne.symm HXO.out.1])]; exact PK.out.x1
      have c1' : wf'.cell? ⟨p, 1, none⟩ = some (.slice (some ⟨g, off, none⟩) N cap) := by simp [World.cell?, HCF.out]
      have c2' : wf'.cell? ⟨p, 2, none⟩ = some (.int .u64 (total l : Nat)) := by simp [World.cell?, HCF.out]
      obtain ⟨g', off', cap', e1, _, _, _, e3⟩ := RL.out.there (by have := HQN.out; omega)
      cases e1
      obtain ⟨y0, y1⟩ := e3 _ _ (flat_get L q _ HX2.out).2
      rw [← Nat.add_assoc] at y0 y1
      have s1 : IntKind.u64.wrap ((x.2 : Int) + (m : Int)) = (x.2 : Int) + (m : Int) := by rw [HX0.out]; exact u64_in _ (by simp) (by simp; omega)
      have s2 : IntKind.u64.wrap ((total l : Int) + (m : Int)) = (total l : Int) + (m : Int) := u64_in _ (by omega) (by omega)
      clear hwf c6 f6 e3 c1a c1 c2 x0 x1 KI PK
      obtain ⟨wf, hwf⟩ : ∃ w'', w'' = wf' := ⟨_, rfl⟩
      subst hwf
      go_wp2_with fail
  all_goals try (have x0 := x0'; have x1 := x1'; have c1 := c1'; have c2 := c2'; clear x0' x1' c1' c2')
  all_goals
    go_region
    obtain ⟨W2, hW2⟩ : ∃ W2, W2 = (wf.setCell ⟨g, off + q * 2 + 1, none⟩ (.int .u64 ((x.2 : Int) + (m : Int)))).drew := ⟨_, rfl⟩
    rw [← hW2]
    have hpg : p ≠ g := fun e => hpR (by simp [e])
    have hXp : X ≠ p ∧ X ≠ g := HXO.out
    have d2 : W2.cell? ⟨p, 2, none⟩ = some (.int .u64 (total l : Nat)) := by rw [hW2]; exact (World.cell?_setCell_other _ _ _ _ (by simp)).trans c2
    have z1 : W2.cell? ⟨X, 1, none⟩ = some (.int .u64 m) := by rw [hW2]; exact (World.cell?_setCell_other _ _ _ _ (by simp)).trans x1
    have hf2 : W2.heap[p]? = some (.cells #[.int .i64 bits, .slice (some ⟨g, off, none⟩) N cap, .int .u64 (total l : Nat)] 100 (0, 0)) := by
      rw [hW2]
      exact (Below.heap_setCell wf ⟨g, off + q * 2 + 1, none⟩ _ p hpg).trans HCF.out
    have f2 : W2.frozen? ⟨p, 2, none⟩ = false := by simp [World.frozen?, hf2]
    have R2 := Lib.hid (show Row 105 2 W2 (.slice (some ⟨g, off, none⟩) N cap) N (flat (moreL l a m)) [g] by
      have := RL.out.setCell rfl (q * 2 + 1) (by have := HQN.out; omega) (.int .u64 ((x.2 + m : Nat) : Int))
      rw [flat_set L q x (x.2 + m) HX2.out, ← EQ.out, ← Nat.add_assoc] at this
      rw [hW2]
      exact this)
    have HF2 := Lib.hid hf2
    have T2 := Lib.hid (T0.out.trans (show Turn [p, g] [p, g] wf W2 by
      rw [hW2]
      exact (Turn.set (b := g) (G := [p, g]) (by simp) _ _).drew))
    clear hW2 hf2 c1 c2 x0 x1 y0 y1 hpR
    go_wp2_with fail
    go_region
    go_end0
    have HNL : (moreL l a m).length = N := by rw [EQ.out, List.length_set, HLN.out]
    refine ⟨rfl, [p, g], ⟨.slice (some ⟨g, off, none⟩) N cap, [g], rfl, by simpa using hpg, ?_, ?_⟩, (T2.out.trans (Turn.set (b := p) (G := [p, g]) (by simp) _ _)).drew⟩
    · rw [ET.out]
      exact set_at HF2.out 2 _
    · rw [HNL]
      exact R2.out.same fun k hk => by
        simp at hk
        subst hk
        exact Below.heap_setCell W2 ⟨p, 2, none⟩ _ k (Ne.symm hpg)

end Go.Proofs.Ytgafnilcmhjpcaa.HHist
