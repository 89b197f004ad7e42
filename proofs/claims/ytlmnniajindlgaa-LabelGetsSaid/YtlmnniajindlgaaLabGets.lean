/- LabelGets: of sorted labels each is found by its name, and others are not. Conditions: sizes. -/
import Derived.Test.YtlmnniajindlgaaLabFew
namespace Go.Proofs.Ytlmnniajindlgaa.HLab
set_option linter.unusedVariables false
open Go.RowKit Go.Proofs.Ytlmnniajindlgaa.HMem Go.Proofs.Ytlmnniajindlgaa.HBld Go.Proofs.Ytlmnniajindlgaa.HApp

def isL (l : LL) (n : ByteArray) : Bool := l.any fun x => decide (x.1 = n)
theorem isL_take (l : LL) (n : ByteArray) (j : Nat) (x : ByteArray × ByteArray) (h : l[j]? = some x) : isL (l.take (j + 1)) n = (isL (l.take j) n || decide (x.1 = n)) := by
  unfold isL; rw [List.take_add_one, h]; simp [List.any_append]
theorem isL_get {l s : LL} (n : ByteArray) (h : sortL l = some s) : (getL s n).isSome = isL l n := by
  have hp := sortL_perm h
  rw [Bool.eq_iff_iff]
  constructor
  · intro hg
    obtain ⟨v, hv⟩ := Option.isSome_iff_exists.1 hg
    exact List.any_eq_true.2 ⟨(n, v), hp.mem_iff.1 (getL_some hv), decide_eq_true rfl⟩
  · intro hi
    obtain ⟨x, hx, he⟩ := List.any_eq_true.1 hi
    have he := of_decide_eq_true he
    have hn := (sortL_rise h).nodup
    rw [← he, getL_mem hn x (hp.mem_iff.2 hx)]
    rfl
theorem getV_is (s : LL) (n : ByteArray) : ∃ p, getV s n = .tuple #[.string p, .bool (getL s n).isSome] := by
  cases h : getL s n with
  | none => exact ⟨_, getV_none h⟩
  | some v => exact ⟨_, getV_some h⟩
set_option maxHeartbeats 8000000 in
set_option maxRecDepth 20000 in
theorem LabelGets_any (w : World) (v x : Value) (ls : List (List UInt8)) (xs : List UInt8) (hv : WRow w v ls) (hx : URow w x xs) :
    Calls Try.prog 8 #[v, x] w fun e w' => e = .returned (.bool true) ∧ Below w.heap.size w w' := by
  obtain ⟨av, cv, rfl, hcap, hmax, _⟩ := id hv
  obtain ⟨n, hn⟩ : ∃ n, n = ls.length := ⟨_, rfl⟩
  rw [← hn] at hv hcap ⊢
  obtain ⟨k, hk⟩ : ∃ k, k = min n 10 := ⟨_, rfl⟩
  have hv2 := hv.take k (by omega)
  have HV := Lib.hid hv2
  have HX := Lib.hid hx
  have HK := Lib.hid (show k ≤ 10 by omega)
  have hkn : k ≤ n := by omega
  have hkc : (k : Int) ≤ cv := by omega
  have hmin : min (n : Int) 10 = (k : Int) := by omega
  have HN := Lib.hid hn
  clear hv hv2 hx hn hcap hk
  go_enter Try.func8, Try.ntmps8
  go_wp2_with fail
  refine (examples_any w).mono ?_
  rintro e w1 ⟨rfl, b1⟩
  have B1 := Lib.hid b1
  clear b1
  go_wp2_with fail
  refine (few_own w1 (.slice av k cv) (.slice none 0 0) _ (HV.out.mono B1.out)).mono ?_
  rintro e w2 ⟨a, rfl, lr, b2⟩
  obtain ⟨l, hl⟩ : ∃ l, l = fewL (ls.take k) := ⟨_, rfl⟩
  rw [← hl] at lr
  have HL := Lib.hid (show l.length ≤ 10 by rw [hl, fewL_length, List.length_take]; have := HK.out; omega)
  clear hl
  obtain ⟨a, c, rfl, _⟩ := id lr
  have LR := Lib.hid lr
  have B2 := Lib.hid (B1.out.trans (b2.mono B1.out.size))
  clear b2 lr B1
  go_wp2_with fail
  refine (Sort_any _ _ l LR.out (by have := HL.out; omega)).mono ?_
  rintro e w3 (⟨h1, rfl, b3⟩ | ⟨s, vs, G, h1, rfl, hr, hG, b3⟩)
  · have B3 := Lib.hid (B2.out.trans (b3.mono B2.out.size))
    clear b3 h1
    go_wp2
    go_ret
    exact ⟨rfl, B3.out⟩
  have B3 := Lib.hid (B2.out.trans (b3.mono B2.out.size))
  have LR3 := Lib.hid (LR.out.mono b3)
  have hr := LRow.ofRow hr
  obtain ⟨sa0, cs, rfl, _⟩ := id hr
  have SR := Lib.hid hr
  have HS := Lib.hid h1
  have hsl := (sortL_perm h1).length_eq
  have HSL := Lib.hid (show s.length ≤ 4398046511000 by have := HL.out; omega)
  obtain ⟨m, hm⟩ : ∃ m, m = l.length := ⟨_, rfl⟩
  have hm10 : m ≤ 10 := by have := HL.out; omega
  rw [hsl, ← hm] at SR ⊢
  rw [← hm] at LR3
  have HM := Lib.hid hm
  clear b3 h1 hr hG hm LR hsl
  go_wp2_with fail
  obtain ⟨W, hW⟩ : ∃ W, W = wordB xs := ⟨_, rfl⟩
  have KX := Lib.hid (show ∀ u, Below w3.heap.size w3 u → Calls Try.prog 11 #[x] u fun e w' => e = .returned (.string W) ∧ Below u.heap.size u w' from fun u bu =>
    (word_any u x xs (HX.out.mono (B3.out.trans (bu.mono B3.out.size)))).mono fun e w' ⟨h1, h2⟩ => ⟨by rw [hW]; exact h1, h2⟩)
  clear hW
  go_loopw [9, 10, 11, 12] (fun y z _ _ wr => ∃ j : Nat, j ≤ m ∧ y = .bool (isL (l.take j) W) ∧ z = .int .i64 j ∧ Below w3.heap.size w3 wr) (fun _ z _ _ _ => m - (intOf z).toNat)
  case atStart => exact ⟨0, Nat.zero_le _, rfl, rfl, Below.refl _ _⟩
  case round =>
    obtain ⟨j, hj, rfl, rfl, bb⟩ := hrel
    obtain ⟨t, ht⟩ : ∃ t, t = isL (l.take j) W := ⟨_, rfl⟩
    rw [← ht]
    have HT := Lib.hid ht
    have BB := Lib.hid bb
    have HLr := LR3.out.mono bb
    have KG := fun (c : ByteArray) (u : World) (bu : Below w3.heap.size w3 u) => Get_any u _ s c (SR.out.mono bu) HSL.out
    have HKG := Lib.hid KG
    clear bb ht KG
    rcases Nat.lt_or_ge j m with hlt | hge
    · have hj1 : (j : Int) < m := by omega
      obtain ⟨y, hy⟩ : ∃ y, l[j]? = some y := ⟨_, List.getElem?_eq_getElem (by rw [← HM.out]; exact hlt)⟩
      obtain ⟨ad, e1, x0, x1⟩ := HLr.at j y hy
      subst e1
      have E := getL_mem (sortL_rise HS.out).nodup y ((sortL_perm HS.out).mem_iff.2 (List.mem_of_getElem? hy))
      have HY := Lib.hid hy
      have HLT := Lib.hid hlt
      obtain ⟨ya, yb⟩ := y
      have EV := Lib.hid (getV_some E)
      clear HLr hy hlt E
      dsimp only at x0 x1 EV
      go_wp2_with fail
      refine (HKG.out ya _ BB.out).mono ?_
      rintro e w4 ⟨rfl, b4⟩
      rw [EV.out]
      replace x0 := (b4.cell (World.block_lt_of_cell? _ _ x0)).trans x0
      replace x1 := (b4.cell (World.block_lt_of_cell? _ _ x1)).trans x1
      have B4 := Lib.hid (BB.out.trans (b4.mono BB.out.size))
      clear b4 EV
      go_wp2_with fail
      have ek : (ya.toList == W.toList) = decide (ya = W) := eq_lt _ _
      cases t with
      | true =>
        refine wp_region_quiet (C := fun w' => Below w4.heap.size w4 w') (by kernel_rfl) (by kernel_rfl) ((Below.refl _ _).drew) ?_
        repeat (
          with_reducible refine wpQuiet_step (fun K hK => ?_)
          go_simp
          first
            | (with_reducible refine hK _ ?_; clear hK K)
            | (apply Exists.intro
               refine ⟨fun v hv => ?_, hK _ ?_⟩
               (first
                 | with_reducible rfl
                 | (have d0 := (hv.cell (World.block_lt_of_cell? _ _ x0)).trans x0
                    have d1 := (hv.cell (World.block_lt_of_cell? _ _ x1)).trans x1
                    go_simp
                    with_reducible rfl))
               clear hK K))
        refine wpQuiet_nil ?_
        intro wf hk
        have B5 := Lib.hid (B4.out.trans (hk.mono B4.out.size))
        clear hk x0 x1
        go_wp2
        go_roundw
        case rel => exact ⟨j + 1, HLT.out, by rw [isL_take l W j _ HY.out, ← HT.out]; rfl, by go_num, B5.out⟩
        case measure => have := HLT.out; simp [intOf]; omega
      | false =>
        have K5 := Lib.hid (show ∀ u, Below w4.heap.size w4 u → Calls Try.prog 11 #[x] u fun e w' => e = .returned (.string W) ∧ Below u.heap.size u w' from fun u bu => KX.out u (B4.out.trans (bu.mono B4.out.size)))
        by_cases heq : ya = W
        case' pos =>
          rw [decide_eq_true heq] at ek
          have EQ := Lib.hid (decide_eq_true heq)
        case' neg =>
          rw [decide_eq_false heq] at ek
          have EQ := Lib.hid (decide_eq_false heq)
        all_goals
          clear heq
          refine wp_region_quiet (C := fun w' => Below w4.heap.size w4 w') (by kernel_rfl) (by kernel_rfl) ((Below.refl _ _).drew) ?_
          repeat (
            with_reducible refine wpQuiet_step (fun K hK => ?_)
            go_simp
            first
              | (with_reducible refine hK _ ?_; clear hK K)
              | (apply Exists.intro
                 refine ⟨fun v hv => ?_, hK _ ?_⟩
                 (first
                   | with_reducible rfl
                   | (with_reducible show Calls _ _ _ _ _
                      first
                        | with_reducible refine Calls.mono (K5.out _ hv) ?_
                      rintro e w' ⟨rfl, hb⟩
                      exact ⟨rfl, hv.trans (hb.mono hv.size)⟩)
                   | (have d0 := (hv.cell (World.block_lt_of_cell? _ _ x0)).trans x0
                      have d1 := (hv.cell (World.block_lt_of_cell? _ _ x1)).trans x1
                      go_simp
                      with_reducible rfl))
                 clear hK K))
          refine wpQuiet_nil ?_
          intro wf hk
          have B5 := Lib.hid (B4.out.trans (hk.mono B4.out.size))
          clear hk x0 x1
          go_wp2
          go_roundw
          case rel => exact ⟨j + 1, HLT.out, by rw [isL_take l W j _ HY.out, ← HT.out, Bool.false_or, EQ.out], by go_num, B5.out⟩
          case measure => have := HLT.out; simp [intOf]; omega
    · have hj1 : ¬ (j : Int) < m := by omega
      obtain rfl : j = m := by omega
      clear hge HLr
      go_wp2_with fail
      refine (KX.out _ BB.out).mono ?_
      rintro e w4 ⟨rfl, b4⟩
      have B4 := Lib.hid (BB.out.trans (b4.mono BB.out.size))
      clear b4
      go_wp2_with fail
      refine (HKG.out W _ B4.out).mono ?_
      rintro e w5 ⟨rfl, b5⟩
      obtain ⟨p, hp⟩ := getV_is s W
      have e1 : (getL s W).isSome = t := by rw [isL_get W HS.out, HT.out, List.take_of_length_le (Nat.le_of_eq HM.out.symm)]
      rw [hp, e1]
      have B5 := Lib.hid (B3.out.trans ((B4.out.trans (b5.mono B4.out.size)).mono B3.out.size))
      clear b5 hp e1
      go_wp2
      go_ret
      exact ⟨by simp, B5.out⟩
end Go.Proofs.Ytlmnniajindlgaa.HLab
