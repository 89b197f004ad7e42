/- Labels: the reference's Sort, walked. Conditions: sizes. -/
import Derived.Test.YtlmnniajindlgaaLab3
import Derived.Test.YtlmnniajindlgaaApp
namespace Go.Proofs.Ytlmnniajindlgaa.HLab
set_option linter.unusedVariables false
open Go.RowKit Go.Proofs.Ytlmnniajindlgaa.HMem Go.Proofs.Ytlmnniajindlgaa.HApp

theorem infoL2 : ∃ i, Try.prog.info? 42 = some i ∧ i.zero = some (.agg #[.string ⟨#[]⟩, .string ⟨#[]⟩]) ∧ i.size = 2 ∧ i.bytes = 32 := by
  have h := HLabIns.info
  cases hi : Try.prog.info? 42 with
  | none => rw [hi] at h; cases h
  | some i =>
    rw [hi] at h
    injection h with h
    injection h with h1 h2
    injection h2 with h2 h3
    exact ⟨i, rfl, h1, h2, h3⟩
theorem owns_same {w w' : World} {B : Nat} {e : TypeId} {size : Nat} {v : Value} {n : Nat} {xs : List Value} (h : w.ownsRow B e size v n xs) (s : ∀ g, B ≤ g → g < w.heap.size → w'.heap[g]? = w.heap[g]?) : w'.ownsRow B e size v n xs := by
  refine ⟨h.1, ?_⟩
  rcases h.2 with h | ⟨g, cap, cur, h1, h2, h3, h4⟩
  · exact .inl h
  · exact .inr ⟨g, cap, cur, h1, h2, by rw [s g h2 (heap_lt h3)]; exact h3, h4⟩
theorem owns_base {B B' : Nat} {w : World} {e : TypeId} {size : Nat} {v : Value} {n : Nat} {xs : List Value} (h : w.ownsRow B e size v n xs) (hB : B' ≤ B) : w.ownsRow B' e size v n xs := by
  refine ⟨h.1, ?_⟩
  rcases h.2 with h | ⟨g, cap, cur, h1, h2, h3⟩
  · exact .inl h
  · exact .inr ⟨g, cap, cur, h1, Nat.le_trans hB h2, h3⟩
theorem two_new (w : World) (x y : Value) (t : TypeId) (j : Nat) (u : Value) (h : [x, y][j]? = some u) : (w.alloc (.cells #[x, y] t)).cell? ((⟨w.heap.size, 0, none⟩ : Addr).add j) = some u := by
  have e : (⟨w.heap.size, 0, none⟩ : Addr).add j = ⟨w.heap.size, j, none⟩ := by simp [Addr.add]; omega
  rw [e, new_cell, ← h]
  simp
/-- The cells of a row, read through its slice. -/
theorem row_cells {E : TypeId} {k : Nat} {w : World} {a : Option Addr} {n c : Nat} {xs : List Value} {G : List Nat} (h : Row E k w (.slice a n c) n xs G) :
    (a = none → n = 0 ∧ c = 0) ∧ ∀ u, Below w.heap.size w u → ∀ ad, a = some ad → ∀ j y, xs[j]? = some y → u.cell? (ad.add j) = some y := by
  rcases h.2 with ⟨e, h0, _⟩ | ⟨g, off, cap, cur, _, e, _⟩
  · cases e
    exact ⟨fun _ => ⟨rfl, rfl⟩, fun u hu ad e => (by cases e)⟩
  · cases e
    refine ⟨fun e => (by cases e), fun u hu ad e j y hy => ?_⟩
    cases e
    have hj := (List.getElem?_eq_some_iff.1 hy).1
    have hn : 0 < n := by
      rcases Nat.eq_zero_or_pos n with e | e
      · have := h.1; rw [e] at this; omega
      · exact e
    obtain ⟨g', off', c', e1, _, _, _, hc⟩ := h.there hn
    cases e1
    have h1 := (hc j y hy).1
    have h2 := (hu.cell (World.block_lt_of_cell? _ _ h1)).trans h1
    have e2 : (⟨g, off, none⟩ : Addr).add j = ⟨g, off + j, none⟩ := by simp [Addr.add]
    rw [e2]; exact h2
theorem pos_stop (l : LL) (a : ByteArray) (hs : Rise l) (x : ByteArray × ByteArray) (hx : l[pos l a]? = some x) : ¬ Lt x.1 a := fun h => by
  have := (pos_lt l a hs _ x hx).1 h
  omega
set_option maxHeartbeats 16000000 in
set_option maxRecDepth 20000 in
theorem rSort_any (w : World) (v : Value) (l : LL) (hv : LRow w v l) (hl : l.length ≤ 4398046511000) :
    Calls Try.prog 23 #[v] w (SortAns w l) := by
  obtain ⟨i0, hi0, hz0, hz1, hz2⟩ := infoL2
  obtain ⟨al, cl, e, _⟩ := id hv
  subst e
  have HV := Lib.hid hv
  obtain ⟨n, hn⟩ : ∃ n, n = l.length := ⟨_, rfl⟩
  rw [← hn] at hl HV ⊢
  have HN := Lib.hid hn
  obtain ⟨RES, hR⟩ : ∃ RES, RES = sortL l := ⟨_, rfl⟩
  have HR := Lib.hid hR
  obtain ⟨B, hB⟩ : ∃ B, B = w.heap.size := ⟨_, rfl⟩
  have HB := Lib.hid hB
  clear hv hn hR hB
  go_enter Try.func23, Try.ntmps23
  go_wp2_with fail
  go_loopw [4, 5] (fun v i wr => ∃ (j : Nat) (acc : LL), j ≤ n ∧ i = .int .i64 j ∧ wr.ownsRow B 42 2 v acc.length (flat acc) ∧ Rise acc ∧ acc.length = j ∧ RES = sortA acc (l.drop j) ∧ Below B w wr) (fun _ i _ => n - (intOf i).toNat)
  case atStart => exact ⟨0, [], Nat.zero_le _, rfl, ⟨rfl, .inl ⟨rfl, rfl⟩⟩, List.Pairwise.nil, rfl, HR.out, Below.refl _ _⟩
  case round =>
    obtain ⟨j, acc, hj, rfl, own, rise, hal, hres, bb⟩ := hrel
    have OWN := Lib.hid own
    have RISE := Lib.hid rise
    have HAL := Lib.hid hal
    have HRES := Lib.hid hres
    have BB := Lib.hid bb
    obtain ⟨R, row, hRB⟩ := Row.ofOwns own
    have ROW := Lib.hid row
    obtain ⟨av, cp, rfl, hnc, hcm⟩ := row.form
    rw [hal] at hnc OWN ROW ⊢
    clear own rise hal hres bb row hRB
    rcases Nat.lt_or_ge j n with hlt | hge
    · have hj1 : (j : Int) < n := by omega
      obtain ⟨x, hx⟩ : ∃ x, l[j]? = some x := ⟨_, List.getElem?_eq_getElem (by rw [← HN.out]; exact hlt)⟩
      obtain ⟨ad, rfl, k0, k1⟩ := (HV.out.mono (by rw [← HB.out]; exact BB.out)).at j x hx
      obtain ⟨a, b⟩ := x
      have K0 := Lib.hid k0
      have K1 := Lib.hid k1
      have HX := Lib.hid hx
      have hlt' := Lib.hid hlt
      obtain ⟨P, hP⟩ : ∃ P, P = pos acc a := ⟨_, rfl⟩
      have hPj : P ≤ j := by rw [hP, ← HAL.out]; exact pos_le acc a
      have HP := Lib.hid hP
      clear hx hlt k0 k1 hP
      go_wp2_with fail
      rename World => W0
      go_loopw [6] (fun z wr => ∃ t : Nat, z = .int .i64 t ∧ t ≤ P ∧ Below W0.heap.size W0 wr) (fun z _ => P - (intOf z).toNat)
      case atStart => exact ⟨0, rfl, Nat.zero_le _, Below.refl _ _⟩
      case round =>
        obtain ⟨t, rfl, htP, b0⟩ := hrel
        have B0 := Lib.hid b0
        have RW := Lib.hid (ROW.out.same (Same.own b0 ROW.out.own))
        have c0 := (b0.cell (World.block_lt_of_cell? _ _ K0.out)).trans K0.out
        have c1 := (b0.cell (World.block_lt_of_cell? _ _ K1.out)).trans K1.out
        clear b0
        rcases Nat.lt_or_ge t P with hlt2 | hge2
        · have q1 : (t : Int) < (j : Int) := by omega
          obtain ⟨y, hy⟩ : ∃ y, acc[t]? = some y := ⟨_, List.getElem?_eq_getElem (by rw [HAL.out]; omega)⟩
          have hya := (pos_lt acc a RISE.out t y hy).2 (by rw [← HP.out]; exact hlt2)
          have q3 : Op.bytesLess y.1.toList a.toList = true := by rw [less_lt]; exact decide_eq_true hya
          obtain ⟨g, off, cap', e1, _, _, _, hc⟩ := RW.out.there (by omega)
          cases e1
          have y0 := (hc _ _ (flat_get acc t y hy).1).1
          have HLT2 := Lib.hid hlt2
          clear hc hy hlt2 hya
          go_wp2_with fail
          refine wp_region_quiet (C := fun w' => Below wr.heap.size wr w') (by kernel_rfl) (by kernel_rfl) ((Below.refl _ _).drew) ?_
          repeat (
            with_reducible refine wpQuiet_step (fun K hK => ?_)
            go_simp
            first
              | (with_reducible refine hK _ ?_; clear hK K)
              | (apply Exists.intro
                 refine ⟨fun v hv => ?_, hK _ ?_⟩
                 (first
                   | with_reducible rfl
                   | (have d0 := (hv.cell (World.block_lt_of_cell? _ _ c0)).trans c0
                      have d1 := (hv.cell (World.block_lt_of_cell? _ _ y0)).trans y0
                      go_simp
                      with_reducible rfl))
                 clear hK K))
          refine wpQuiet_nil ?_
          intro wf hk
          have BF := Lib.hid (B0.out.trans (hk.mono B0.out.size))
          clear hk c0 c1 y0 q3
          go_wp2
          go_roundw
          case rel => exact ⟨t + 1, by go_num, HLT2.out, BF.out⟩
          case measure => have := HLT2.out; simp [intOf]; omega
        obtain rfl : P = t := by omega
        clear hge2 htP
        by_cases ht : thereL acc a = true
        · obtain ⟨y, hy, hya⟩ : ∃ y, acc[P]? = some y ∧ y.1 = a := by
            unfold thereL at ht
            rw [← HP.out] at ht
            cases e : acc[P]? with
            | none => rw [e] at ht; cases ht
            | some y => rw [e] at ht; exact ⟨y, rfl, of_decide_eq_true ht⟩
          have hPn : P < j := by rw [← HAL.out]; exact (List.getElem?_eq_some_iff.1 hy).1
          have q1 : (P : Int) < (j : Int) := by omega
          have q3 : Op.bytesLess a.toList a.toList = false := by rw [less_lt]; exact decide_eq_false (Lt.irrefl a)
          have EN := Lib.hid (show RES = none by rw [HRES.out]; exact sortA_stop acc l j _ HX.out ht)
          obtain ⟨g, off, cap', e1, _, _, _, hc⟩ := RW.out.there (by omega)
          cases e1
          have y0 := (hc _ _ (flat_get acc P y hy).1).1
          rw [hya] at y0
          clear hc hy hya ht hPn
          go_wp2_with fail
          refine wp_region_quiet (C := fun w' => Below wr.heap.size wr w') (by kernel_rfl) (by kernel_rfl) ((Below.refl _ _).drew) ?_
          repeat (
            with_reducible refine wpQuiet_step (fun K hK => ?_)
            go_simp
            first
              | (with_reducible refine hK _ ?_; clear hK K)
              | (apply Exists.intro
                 refine ⟨fun v hv => ?_, hK _ ?_⟩
                 (first
                   | with_reducible rfl
                   | (have d0 := (hv.cell (World.block_lt_of_cell? _ _ c0)).trans c0
                      have d1 := (hv.cell (World.block_lt_of_cell? _ _ y0)).trans y0
                      go_simp
                      with_reducible rfl))
                 clear hK K))
          refine wpQuiet_nil ?_
          intro wf hk
          replace c0 := (hk.cell (World.block_lt_of_cell? _ _ c0)).trans c0
          replace y0 := (hk.cell (World.block_lt_of_cell? _ _ y0)).trans y0
          have HK := Lib.hid (B0.out.trans (hk.mono B0.out.size))
          clear hk
          go_wp2_with fail
          refine wp_region_quiet (C := fun w' => Below wf.heap.size wf w') (by kernel_rfl) (by kernel_rfl) ((Below.refl _ _).drew) ?_
          repeat (
            with_reducible refine wpQuiet_step (fun K hK => ?_)
            go_simp
            first
              | (with_reducible refine hK _ ?_; clear hK K)
              | (apply Exists.intro
                 refine ⟨fun v hv => ?_, hK _ ?_⟩
                 (first
                   | with_reducible rfl
                   | (have d0 := (hv.cell (World.block_lt_of_cell? _ _ c0)).trans c0
                      have d1 := (hv.cell (World.block_lt_of_cell? _ _ y0)).trans y0
                      go_simp
                      with_reducible rfl))
                 clear hK K))
          refine wpQuiet_nil ?_
          intro wg hg
          have BG := Lib.hid (BB.out.trans ((HK.out.trans (hg.mono HK.out.size)).mono (by have := BB.out.size; rw [HB.out]; exact this)))
          clear hg c0 y0
          go_wp2
          go_ret2
          exact .inl ⟨by rw [← HR.out, EN.out], rfl, by rw [← HB.out]; exact BG.out⟩
        have HT := Lib.hid (show thereL acc a = false by simpa using ht)
        clear ht
        by_cases hPn : P < j
        case' pos =>
          obtain ⟨y, hy⟩ : ∃ y, acc[P]? = some y := ⟨_, List.getElem?_eq_getElem (by rw [HAL.out]; exact hPn)⟩
          have q1 : (P : Int) < (j : Int) := by omega
          have q3 : Op.bytesLess y.1.toList a.toList = false := by rw [less_lt]; exact decide_eq_false (pos_stop acc a RISE.out y (by rw [← HP.out]; exact hy))
          have q4 : (y.1.toList == a.toList) = false := by
            rw [eq_lt]
            refine decide_eq_false fun e => ?_
            have h1 := there_yes (l := acc) (a := a) (x := y) (by rw [← HP.out]; exact hy) e
            rw [HT.out] at h1; cases h1
          obtain ⟨g, off, cap', e1, _, _, _, hc⟩ := RW.out.there (by omega)
          injection e1 with e1 _ e2
          subst e2
          have E1 := Lib.hid e1
          rw [e1]
          have y0 := (hc _ _ (flat_get acc P y hy).1).1
          clear hc hy e1
          go_wp2_with fail
          refine wp_region_quiet (C := fun w' => Below wr.heap.size wr w') (by kernel_rfl) (by kernel_rfl) ((Below.refl _ _).drew) ?_
          repeat (
            with_reducible refine wpQuiet_step (fun K hK => ?_)
            go_simp
            first
              | (with_reducible refine hK _ ?_; clear hK K)
              | (apply Exists.intro
                 refine ⟨fun v hv => ?_, hK _ ?_⟩
                 (first
                   | with_reducible rfl
                   | (have d0 := (hv.cell (World.block_lt_of_cell? _ _ c0)).trans c0
                      have d1 := (hv.cell (World.block_lt_of_cell? _ _ y0)).trans y0
                      go_simp
                      with_reducible rfl))
                 clear hK K))
          refine wpQuiet_nil ?_
          intro wf hk
          replace c0 := (hk.cell (World.block_lt_of_cell? _ _ c0)).trans c0
          replace c1 := (hk.cell (World.block_lt_of_cell? _ _ c1)).trans c1
          replace y0 := (hk.cell (World.block_lt_of_cell? _ _ y0)).trans y0
          have HK := Lib.hid (B0.out.trans (hk.mono B0.out.size))
          clear hk
          go_wp2_with fail
          refine wp_region_quiet (C := fun w' => Below wf.heap.size wf w') (by kernel_rfl) (by kernel_rfl) ((Below.refl _ _).drew) ?_
          repeat (
            with_reducible refine wpQuiet_step (fun K hK => ?_)
            go_simp
            first
              | (with_reducible refine hK _ ?_; clear hK K)
              | (apply Exists.intro
                 refine ⟨fun v hv => ?_, hK _ ?_⟩
                 (first
                   | with_reducible rfl
                   | (have d0 := (hv.cell (World.block_lt_of_cell? _ _ c0)).trans c0
                      have d1 := (hv.cell (World.block_lt_of_cell? _ _ y0)).trans y0
                      go_simp
                      with_reducible rfl))
                 clear hK K))
          refine wpQuiet_nil ?_
          intro wg hg
          replace c0 := (hg.cell (World.block_lt_of_cell? _ _ c0)).trans c0
          replace c1 := (hg.cell (World.block_lt_of_cell? _ _ c1)).trans c1
          have BG := Lib.hid (HK.out.trans (hg.mono HK.out.size))
          clear hg y0 HK q1 q3 q4 RW
          rw [← E1.out]
          clear E1
        case' neg =>
          go_wp2_with fail
          have q1 : ¬ (P : Int) < (j : Int) := by omega
          have q2 : decide ((P : Int) < (j : Int)) = false := decide_eq_false q1
          refine wp_region_quiet (C := fun w' => Below wr.heap.size wr w') (by kernel_rfl) (by kernel_rfl) ((Below.refl _ _).drew) ?_
          repeat (
            with_reducible refine wpQuiet_step (fun K hK => ?_)
            go_simp
            first
              | (with_reducible refine hK _ ?_; clear hK K)
              | (apply Exists.intro
                 refine ⟨fun v hv => ?_, hK _ ?_⟩
                 (first
                   | with_reducible rfl
                   | (have d0 := (hv.cell (World.block_lt_of_cell? _ _ c0)).trans c0
                      go_simp
                      with_reducible rfl))
                 clear hK K))
          refine wpQuiet_nil ?_
          intro wf hk
          replace c0 := (hk.cell (World.block_lt_of_cell? _ _ c0)).trans c0
          replace c1 := (hk.cell (World.block_lt_of_cell? _ _ c1)).trans c1
          have HK := Lib.hid (B0.out.trans (hk.mono B0.out.size))
          clear hk q1 q2
          go_wp2_with fail
          have q1 : ¬ (P : Int) < (j : Int) := by omega
          have q2 : decide ((P : Int) < (j : Int)) = false := decide_eq_false q1
          refine wp_region_quiet (C := fun w' => Below wf.heap.size wf w') (by kernel_rfl) (by kernel_rfl) ((Below.refl _ _).drew) ?_
          repeat (
            with_reducible refine wpQuiet_step (fun K hK => ?_)
            go_simp
            first
              | (with_reducible refine hK _ ?_; clear hK K)
              | (apply Exists.intro
                 refine ⟨fun v hv => ?_, hK _ ?_⟩
                 (first
                   | with_reducible rfl
                   | (have d0 := (hv.cell (World.block_lt_of_cell? _ _ c0)).trans c0
                      go_simp
                      with_reducible rfl))
                 clear hK K))
          refine wpQuiet_nil ?_
          intro wg hg
          replace c0 := (hg.cell (World.block_lt_of_cell? _ _ c0)).trans c0
          replace c1 := (hg.cell (World.block_lt_of_cell? _ _ c1)).trans c1
          have BG := Lib.hid (HK.out.trans (hg.mono HK.out.size))
          clear hg HK q1 q2 RW
        all_goals
          have hq0 : (0 : Int) ≤ (P : Int) := by omega
          have hqi : (P : Int) ≤ (j : Int) := by omega
          have hqc : (P : Int) ≤ (cp : Int) := by omega
          have hni : (j : Int) ≤ (cp : Int) := by omega
          obtain ⟨hnone, hcells⟩ := row_cells ROW.out
          have HNONE := Lib.hid hnone
          have HCELLS := Lib.hid hcells
          clear hnone hcells hPn
          have NQ : (flat (acc.take P)).length = P * 2 := by rw [flat_length, List.length_take]; have := HAL.out; omega
          have ND : (flat (acc.drop P)).length = (j - P) * 2 := by rw [flat_length, List.length_drop]; have := HAL.out; omega
          have CQ := Lib.hid (show ∀ u, Below W0.heap.size W0 u → ∀ ad, av = some ad → ∀ j y, (flat (acc.take P))[j]? = some y → u.cell? (ad.add j) = some y from fun u hu ad e j y hy => by
            rw [← flat_take, List.getElem?_take] at hy
            split at hy
            · exact HCELLS.out u hu ad e j y hy
            · cases hy)
          have H0 : av = none → P = 0 ∧ cp = 0 := fun e => by obtain ⟨h1, h2⟩ := HNONE.out e; exact ⟨by omega, h2⟩
          have H2 := CQ.out _ BG.out
          have H4 : 0 + P ≤ maxLen := by unfold maxLen; omega
          have H5 : (0 + P) * 32 ≤ 140737488355328 := by omega
          go_wp2_with (at_builtin; refine append_any _ rfl _ _ 28 rfl wg.heap.size 42 i0 (.agg #[.string ⟨#[]⟩, .string ⟨#[]⟩]) 2 32 Try.underlying28 hi0 hz0 hz1 hz2 rfl (by decide) _ 0 [] rfl ⟨rfl, .inl ⟨rfl, rfl⟩⟩ av P cp (flat (acc.take P)) rfl H0 NQ H2 (flat_one _) H4 H5 (Nat.le_refl _) ?_)
          clear H0 H2 H4 H5
          intro v2 w2 o2 b2
          have B2 := Lib.hid b2
          have O2 := Lib.hid o2
          have HZ := Lib.hid (show wg.heap.size ≤ w2.heap.size from b2.size)
          replace c0 := (b2.cell (World.block_lt_of_cell? _ _ c0)).trans c0
          replace c1 := (b2.cell (World.block_lt_of_cell? _ _ c1)).trans c1
          clear b2 o2
          have O2' := Lib.hid (O2.out.alloc (.cells #[.string a, .string b] 42))
          have H2 : ∀ ad, (some ⟨w2.heap.size, 0, none⟩ : Option Addr) = some ad → ∀ j u, [Value.string a, .string b][j]? = some u → (w2.alloc (.cells #[.string a, .string b] 42)).cell? (ad.add j) = some u := fun ad e j y hy => by cases e; exact two_new _ _ _ _ j y hy
          have H3 : ∀ u ∈ [Value.string a, .string b], u.oneCell' = true := fun u hu => by simp at hu; rcases hu with rfl | rfl <;> rfl
          have H4 : P + 1 ≤ maxLen := by unfold maxLen; omega
          have H5 : (P + 1) * 32 ≤ 140737488355328 := by omega
          have H6 : wg.heap.size ≤ (w2.alloc (.cells #[.string a, .string b] 42)).heap.size := Nat.le_trans HZ.out (by simp)
          go_wp2_with (at_builtin; refine append_any _ rfl _ _ 28 rfl wg.heap.size 42 i0 (.agg #[.string ⟨#[]⟩, .string ⟨#[]⟩]) 2 32 Try.underlying28 hi0 hz0 hz1 hz2 rfl (by decide) _ P (flat (acc.take P)) rfl O2'.out (some ⟨w2.heap.size, 0, none⟩) 1 1 [.string a, .string b] rfl (fun e => nomatch e) rfl H2 H3 H4 H5 H6 ?_)
          clear H2 H3 H4 H5 H6
          intro v3 w3 o3 b3
          have B3 := Lib.hid (show Below wg.heap.size wg w3 from (B2.out.alloc HZ.out _).trans b3)
          have O3 := Lib.hid o3
          clear O2' b3 o3 c0 c1
          have H63 : P + 1 + (j - P) ≤ maxLen := by unfold maxLen; omega
          have HBY : (P + 1 + (j - P)) * 32 ≤ 140737488355328 := by omega
          have HW3 : wg.heap.size ≤ w3.heap.size := B3.out.size
          cases av with
          | none =>
            obtain ⟨hn0, hc0⟩ := HNONE.out rfl
            obtain rfl : P = 0 := by omega
            subst hn0 hc0
            go_wp2_with (at_builtin; refine append_any _ rfl _ _ 28 rfl wg.heap.size 42 i0 (.agg #[.string ⟨#[]⟩, .string ⟨#[]⟩]) 2 32 Try.underlying28 hi0 hz0 hz1 hz2 rfl (by decide) v3 (0 + 1) (flat (acc.take 0) ++ [.string a, .string b]) rfl O3.out none 0 0 (flat (acc.drop 0)) rfl (fun _ => ⟨rfl, rfl⟩) ND (fun _ e => nomatch e) (flat_one _) H63 HBY HW3 ?_)
            all_goals
              intro v4 w4 o4 b4
              have BTT := Lib.hid (show Below B w w4 from BB.out.trans ((BG.out.trans ((B3.out.trans b4).mono BG.out.size)).mono (by rw [HB.out]; exact BB.out.size)))
              obtain ⟨M, hM⟩ : ∃ M, M = insL acc (a, b) := ⟨_, rfl⟩
              have EF : flat M = flat (acc.take 0) ++ (.string a :: .string b :: flat (acc.drop 0)) := by rw [hM]; unfold insL; rw [← HP.out, flat_append]; rfl
              have EL : M.length = 0 + 1 := by rw [hM, insL_length, HAL.out]
              have EL2 : 0 + 1 + (0 - 0) = 0 + 1 := by omega
              have o5 : w4.ownsRow wg.heap.size 42 2 v4 M.length (flat M) := by rw [EL, EF, ← EL2]; simpa [flat] using o4
              have O5 := Lib.hid (owns_base o5 (show B ≤ wg.heap.size from Nat.le_trans (Nat.le_trans (Nat.le_of_eq HB.out) BB.out.size) BG.out.size))
              have RI := Lib.hid (show Rise M by rw [hM]; exact RISE.out.ins (a, b) HT.out)
              have ES := Lib.hid (show RES = sortA M (l.drop (0 + 1)) by rw [HRES.out, hM]; exact sortA_step acc l 0 _ HX.out HT.out)
              have ELM := Lib.hid EL
              clear o4 o5 b4 EF EL EL2 hM
              go_wp2
              go_roundw
              case rel => exact ⟨0 + 1, M, hlt'.out, by go_num, O5.out, RI.out, ELM.out, ES.out, BTT.out⟩
              case measure => have := hlt'.out; simp [intOf]; omega
          | some ao =>
            have H0 : (if cp = P then some ao else some (ao.add (P * 2))) = none → j - P = 0 ∧ cp - P = 0 := fun e => by split at e <;> cases e
            have H2 : ∀ ad', (if cp = P then some ao else some (ao.add (P * 2))) = some ad' → ∀ i y, (flat (acc.drop P))[i]? = some y → w3.cell? (ad'.add i) = some y := fun ad' e i y hy => by
              have hj := (List.getElem?_eq_some_iff.1 hy).1
              rw [ND] at hj
              rw [if_neg (by omega)] at e
              cases e
              rw [← flat_drop, List.getElem?_drop] at hy
              rw [Addr.add_add]
              exact HCELLS.out _ (BG.out.trans (B3.out.mono BG.out.size)) _ rfl _ _ hy
            go_wp2_with (at_builtin; refine append_any _ rfl _ _ 28 rfl wg.heap.size 42 i0 (.agg #[.string ⟨#[]⟩, .string ⟨#[]⟩]) 2 32 Try.underlying28 hi0 hz0 hz1 hz2 rfl (by decide) v3 (P + 1) (flat (acc.take P) ++ [.string a, .string b]) rfl O3.out (if cp = P then some ao else some (ao.add (P * 2))) (j - P) (cp - P) (flat (acc.drop P)) rfl H0 ND H2 (flat_one _) H63 HBY HW3 ?_)
            clear H0 H2
            all_goals
              intro v4 w4 o4 b4
              have BTT := Lib.hid (show Below B w w4 from BB.out.trans ((BG.out.trans ((B3.out.trans b4).mono BG.out.size)).mono (by rw [HB.out]; exact BB.out.size)))
              obtain ⟨M, hM⟩ : ∃ M, M = insL acc (a, b) := ⟨_, rfl⟩
              have EF : flat M = flat (acc.take P) ++ (.string a :: .string b :: flat (acc.drop P)) := by rw [hM]; unfold insL; rw [← HP.out, flat_append]; rfl
              have EL : M.length = j + 1 := by rw [hM, insL_length, HAL.out]
              have EL2 : P + 1 + (j - P) = j + 1 := by omega
              have o5 : w4.ownsRow wg.heap.size 42 2 v4 M.length (flat M) := by rw [EL, EF, ← EL2]; simpa [flat] using o4
              have O5 := Lib.hid (owns_base o5 (show B ≤ wg.heap.size from Nat.le_trans (Nat.le_trans (Nat.le_of_eq HB.out) BB.out.size) BG.out.size))
              have RI := Lib.hid (show Rise M by rw [hM]; exact RISE.out.ins (a, b) HT.out)
              have ES := Lib.hid (show RES = sortA M (l.drop (j + 1)) by rw [HRES.out, hM]; exact sortA_step acc l j _ HX.out HT.out)
              have ELM := Lib.hid EL
              clear o4 o5 b4 EF EL EL2 hM
              go_wp2
              go_roundw
              case rel => exact ⟨j + 1, M, hlt'.out, by go_num, O5.out, RI.out, ELM.out, ES.out, BTT.out⟩
              case measure => have := hlt'.out; simp [intOf]; omega
    · have hj1 : ¬ (j : Int) < n := by omega
      have ES := Lib.hid (show sortL l = some acc by
        rw [← HR.out, HRES.out, List.drop_of_length_le (by have := HN.out; omega)]; rfl)
      clear hge
      go_wp2
      go_ret2
      obtain ⟨G, r, hG⟩ := Row.ofOwns OWN.out
      rw [← HAL.out] at r
      exact .inr ⟨acc, _, G, ES.out, (by rw [← HAL.out]; rfl), r, fun g h => (by rw [← HB.out]; exact hG g h), by rw [← HB.out]; exact BB.out⟩
end Go.Proofs.Ytlmnniajindlgaa.HLab
