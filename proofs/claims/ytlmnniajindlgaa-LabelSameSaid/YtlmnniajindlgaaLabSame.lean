/- LabelSame: two have one key just if their names, and their labels in whatever order, are the same. Conditions: none but the parameters' sizes. -/
import Derived.Test.YtlmnniajindlgaaLabSameP
namespace Go.Proofs.Ytlmnniajindlgaa.HLab
set_option linter.unusedVariables false
open Go.RowKit Go.Proofs.Ytlmnniajindlgaa.HMem Go.Proofs.Ytlmnniajindlgaa.HBld Go.Proofs.Ytlmnniajindlgaa.HApp

set_option maxHeartbeats 8000000 in
set_option maxRecDepth 20000 in
theorem LabelSame_any (w : World) (a b : Nat) (vl vm : Value) (xl xm : List UInt8) (ha : a < 256) (hb : b < 256) (hl : URow w vl xl) (hm : URow w vm xm) :
    Calls Try.prog 7 #[.int .u8 a, .int .u8 b, vl, vm] w fun e w' => e = .returned (.bool true) ∧ Below w.heap.size w w' := by
  have HL := Lib.hid hl
  have HM := Lib.hid hm
  obtain ⟨ra, hra⟩ : ∃ ra, ra = a % 2 := ⟨_, rfl⟩
  obtain ⟨rb, hrb⟩ : ∃ rb, rb = b % 2 := ⟨_, rfl⟩
  obtain ⟨ca, hca⟩ : ∃ ca, ca = 97 + ra := ⟨_, rfl⟩
  obtain ⟨cb, hcb⟩ : ∃ cb, cb = 97 + rb := ⟨_, rfl⟩
  have en1 : ((a : Nat) : Int).tmod 2 = (ra : Int) := by rw [Int.tmod_eq_emod_of_nonneg (by omega)]; omega
  have en2 : ((b : Nat) : Int).tmod 2 = (rb : Int) := by rw [Int.tmod_eq_emod_of_nonneg (by omega)]; omega
  have en4 : (97 : Int) + (ra : Int) = (ca : Int) := by omega
  have en5 : (97 : Int) + (rb : Int) = (cb : Int) := by omega
  have ew1 : IntKind.u8.wrap (ra : Int) = (ra : Int) := by simp [IntKind.wrap, IntKind.signed, IntKind.bits]; omega
  have ew2 : IntKind.u8.wrap (rb : Int) = (rb : Int) := by simp [IntKind.wrap, IntKind.signed, IntKind.bits]; omega
  have ew3 : IntKind.u8.wrap (ca : Int) = (ca : Int) := by simp [IntKind.wrap, IntKind.signed, IntKind.bits]; omega
  have ew4 : IntKind.u8.wrap (cb : Int) = (cb : Int) := by simp [IntKind.wrap, IntKind.signed, IntKind.bits]; omega
  obtain ⟨N, hN⟩ : ∃ N, N = oneB ca := ⟨_, rfl⟩
  obtain ⟨O, hO⟩ : ∃ O, O = oneB cb := ⟨_, rfl⟩
  have HNN := Lib.hid (show named N = true ∧ N.size = 1 by rw [hN]; exact ⟨oneB_named _ (by omega), oneB_size _⟩)
  have HNO := Lib.hid (show named O = true ∧ O.size = 1 by rw [hO]; exact ⟨oneB_named _ (by omega), oneB_size _⟩)
  have hcv1 : ∀ V q c, V.cell? ⟨q, 0, none⟩ = some (.int .u8 (ca : Int)) → (convert 23 9 (.slice (some ⟨q, 0, none⟩) 1 c)).run Try.prog V = .ok (.string N) V := fun V q c h => by rw [hN]; exact cv_one V q ca c h
  have hcv2 : ∀ V q c, V.cell? ⟨q, 0, none⟩ = some (.int .u8 (cb : Int)) → (convert 23 9 (.slice (some ⟨q, 0, none⟩) 1 c)).run Try.prog V = .ok (.string O) V := fun V q c h => by rw [hO]; exact cv_one V q cb c h
  have HCV := Lib.hid (And.intro hcv1 hcv2)
  clear hl hm hra hrb hca hcb hN hO hcv1 hcv2
  go_enter Try.func7, Try.ntmps7
  go_wp2_with fail
  refine (examples_any w).mono ?_
  rintro e w1 ⟨rfl, b1⟩
  have B1 := Lib.hid b1
  clear b1
  go_wp2_with fail
  refine (list_any w1 vl xl (HL.out.mono B1.out)).mono ?_
  rintro e w2 ⟨a2, n2, c2, rfl, lr, b2⟩
  have B2 := Lib.hid (B1.out.trans (b2.mono B1.out.size))
  have LX2 := Lib.hid lr
  clear b2 lr
  go_wp2_with fail
  refine (list_any w2 vm xm (HM.out.mono B2.out)).mono ?_
  rintro e w3 ⟨a3, n3, c3, rfl, lr, b3⟩
  have B3 := Lib.hid (B2.out.trans (b3.mono B2.out.size))
  have LX3 := Lib.hid (LX2.out.mono b3)
  have LY3 := Lib.hid lr
  clear b3 lr LX2
  obtain ⟨s, J, hs1, hs2, hs3⟩ := set_key N HNN.out.1 (by rw [HNN.out.2]; decide) (xl.take 6) (by rw [List.length_take]; omega)
  obtain ⟨t, K, ht1, ht2, ht3⟩ := set_key O HNO.out.1 (by rw [HNO.out.2]; decide) (xm.take 6) (by rw [List.length_take]; omega)
  have IX := (setL_inv (fun x => named x.1 = true ∧ named x.2 = true ∧ x.1.size = 1 ∧ x.2.size = 1) lab1_named (xl.take 6)).2
  have IY := (setL_inv (fun x => named x.1 = true ∧ named x.2 = true ∧ x.1.size = 1 ∧ x.2.size = 1) lab1_named (xm.take 6)).2
  have lx := setL_length (xl.take 6)
  have ly := setL_length (xm.take 6)
  rw [List.length_take] at lx ly
  obtain ⟨X, hX⟩ : ∃ X, X = setL (xl.take 6) := ⟨_, rfl⟩
  obtain ⟨Y, hY⟩ : ∃ Y, Y = setL (xm.take 6) := ⟨_, rfl⟩
  rw [← hX] at hs1 hs2 IX lx LX3
  rw [← hY] at ht1 ht2 IY ly LY3
  have HSX := Lib.hid (show Szs X from fun x hx => by have := IX x hx; exact ⟨by omega, by omega⟩)
  have HSY := Lib.hid (show Szs Y from fun x hx => by have := IY x hx; exact ⟨by omega, by omega⟩)
  have S1 := Lib.hid hs1
  have S2 := Lib.hid hs2
  have S3 := Lib.hid hs3
  have T1 := Lib.hid ht1
  have T2 := Lib.hid ht2
  have T3 := Lib.hid ht3
  clear hs1 hs2 hs3 ht1 ht2 ht3 IX IY hX hY
  obtain ⟨_, _, e2, _⟩ := id LX3.out
  cases e2
  obtain ⟨_, _, e3, _⟩ := id LY3.out
  cases e3
  obtain ⟨p, hp⟩ : ∃ p, p = X.length := ⟨_, rfl⟩
  obtain ⟨q, hq⟩ : ∃ q, q = Y.length := ⟨_, rfl⟩
  rw [← hp] at LX3 lx ⊢
  rw [← hq] at LY3 ly ⊢
  have HP := Lib.hid hp
  have HQ := Lib.hid hq
  have hp6 : p ≤ 6 := by omega
  have hq6 : q ≤ 6 := by omega
  clear hp hq lx ly
  have eNO : (N.toList == O.toList) = decide (N = O) := eq_lt _ _
  have hal : ∃ z, z = (decide (N = O) && decide (p = q)) := ⟨_, rfl⟩
  obtain ⟨z, hz⟩ := hal
  have HZ := Lib.hid hz
  have h3 : (N = O ∧ p = q ∧ z = true) ∨ (N = O ∧ ¬ p = q ∧ z = false) ∨ (¬ N = O ∧ z = false) := by
    by_cases h1 : N = O
    · by_cases h2 : p = q
      · exact .inl ⟨h1, h2, by rw [hz, decide_eq_true h1, decide_eq_true h2]; rfl⟩
      · exact .inr (.inl ⟨h1, h2, by rw [hz, decide_eq_false h2, Bool.and_false]⟩)
    · exact .inr (.inr ⟨h1, by rw [hz, decide_eq_false h1]; rfl⟩)
  clear hz
  rcases h3 with ⟨h1, h2, h⟩ | ⟨h1, h2, h⟩ | ⟨h1, h⟩
  case' inl =>
    rw [decide_eq_true h1] at eNO
    have q1 : ((p : Int) == (q : Int)) = true := by simp; omega
    have HZV := Lib.hid h
    clear h1 h2 h
  case' inr.inl =>
    rw [decide_eq_true h1] at eNO
    have q1 : ((p : Int) == (q : Int)) = false := by simp; omega
    have HZV := Lib.hid h
    clear h1 h2 h
  case' inr.inr =>
    rw [decide_eq_false h1] at eNO
    have HZV := Lib.hid h
    clear h1 h
  all_goals
    have hcv1 := HCV.out.1
    have hcv2 := HCV.out.2
    have BA := Lib.hid (((Below.refl w3.heap.size w3).alloc (Nat.le_refl _) (.cells #[.int .u8 ca] 5)).alloc (by simp) (.cells #[.int .u8 cb] 5))
    obtain ⟨W4, hW4⟩ : ∃ W4, W4 = (w3.alloc (.cells #[.int .u8 (ca : Int)] 5)).alloc (.cells #[.int .u8 (cb : Int)] 5) := ⟨_, rfl⟩
    rw [← hW4] at BA
    go_wp2_with fail
    rw [← hW4]
    have B4 := Lib.hid (B3.out.trans (BA.out.mono B3.out.size))
    have LX4 := Lib.hid (LX3.out.mono BA.out)
    have LY4 := Lib.hid (LY3.out.mono BA.out)
    clear hW4 hcv1 hcv2 eNO BA
    go_loopw [15, 16, 17, 18] (fun y i _ _ wr => ∃ j : Nat, j ≤ p ∧ y = .bool (z && likeL (X.take j) Y) ∧ i = .int .i64 j ∧ Below W4.heap.size W4 wr) (fun _ i _ _ _ => p - (intOf i).toNat)
    case atStart => exact ⟨0, Nat.zero_le _, by rw [HZV.out]; rfl, rfl, Below.refl _ _⟩
    case round =>
      obtain ⟨j, hj, rfl, rfl, bb⟩ := hrel
      obtain ⟨u, hu⟩ : ∃ u, u = (z && likeL (X.take j) Y) := ⟨_, rfl⟩
      rw [← hu]
      have HU := Lib.hid hu
      have BB := Lib.hid bb
      have LXr := LX4.out.mono bb
      have LYr := Lib.hid (LY4.out.mono bb)
      clear hu bb
      rcases Nat.lt_or_ge j p with hlt | hge
      · have hj1 : (j : Int) < p := by omega
        obtain ⟨x, hx⟩ : ∃ x, X[j]? = some x := ⟨_, List.getElem?_eq_getElem (by rw [← HP.out]; exact hlt)⟩
        obtain ⟨ad, e1, x0, x1⟩ := LXr.at j x hx
        subst e1
        have HX := Lib.hid hx
        have HLT := Lib.hid hlt
        obtain ⟨xa, xb⟩ := x
        have HLK := Lib.hid (likeL_take X Y j (xa, xb) hx)
        clear LXr hx hlt
        dsimp only at x0 x1
        go_wp2_with fail
        refine (Get_any _ _ Y xa LYr.out (by rw [← HQ.out]; omega)).mono ?_
        rintro e w5 ⟨rfl, b5⟩
        have B5 := Lib.hid (BB.out.trans (b5.mono BB.out.size))
        replace x0 := (b5.cell (World.block_lt_of_cell? _ _ x0)).trans x0
        replace x1 := (b5.cell (World.block_lt_of_cell? _ _ x1)).trans x1
        clear b5 LYr
        have h4 : (getL Y xa = none) ∨ (∃ v, getL Y xa = some v ∧ v = xb) ∨ ∃ v, getL Y xa = some v ∧ ¬ v = xb := by
          cases hg : getL Y xa with
          | none => exact .inl rfl
          | some v =>
            by_cases h : v = xb
            · exact .inr (.inl ⟨v, rfl, h⟩)
            · exact .inr (.inr ⟨v, rfl, h⟩)
        rcases h4 with h4 | ⟨v, h4, h5⟩ | ⟨v, h4, h5⟩
        case' inl =>
          rw [getV_none h4]
          have EV := Lib.hid (show decide (getL Y xa = some xb) = false by rw [h4]; rfl)
          clear h4
        case' inr.inl =>
          rw [getV_some h4]
          have EV := Lib.hid (show decide (getL Y xa = some xb) = true by rw [h4, h5]; exact decide_eq_true rfl)
          have q2 : (v.toList == xb.toList) = true := by rw [eq_lt]; exact decide_eq_true h5
          clear h4 h5
        case' inr.inr =>
          rw [getV_some h4]
          have EV := Lib.hid (show decide (getL Y xa = some xb) = false by rw [h4]; exact decide_eq_false fun e => h5 (Option.some.inj e))
          have q2 : (v.toList == xb.toList) = false := by rw [eq_lt]; exact decide_eq_false h5
          clear h4 h5
        all_goals
          cases u
          all_goals
            go_wp2
            go_roundw
            case rel => exact ⟨j + 1, HLT.out, by rw [HLK.out, ← Bool.and_assoc, ← HU.out, EV.out]; rfl, by go_num, B5.out⟩
            case measure => have := HLT.out; simp [intOf]; omega
      · have hj1 : ¬ (j : Int) < p := by omega
        have RES := Lib.hid (show (J.toList == K.toList) = u by
          rw [eq_lt]
          refine same_key S1.out T1.out S3.out T3.out u ?_
          rw [HU.out, HZ.out, List.take_of_length_le (by rw [← HP.out]; exact hge), ← HP.out, ← HQ.out, Bool.and_assoc])
        clear hge LXr
        go_wp2_with fail
        refine (Key_any _ _ X N (LX4.out.mono BB.out) (by rw [← HP.out]; omega) HSX.out (by rw [HNN.out.2]; decide)).mono ?_
        rintro e w6 ⟨rfl, b6⟩
        rw [S2.out]
        have B6 := Lib.hid (BB.out.trans (b6.mono BB.out.size))
        clear b6
        go_wp2_with fail
        refine (Key_any _ _ Y O (LY4.out.mono B6.out) (by rw [← HQ.out]; omega) HSY.out (by rw [HNO.out.2]; decide)).mono ?_
        rintro e w7 ⟨rfl, b7⟩
        rw [T2.out]
        have B7 := Lib.hid (B4.out.trans ((B6.out.trans (b7.mono B6.out.size)).mono B4.out.size))
        clear b7
        have r1 := RES.out
        go_wp2
        go_ret
        exact ⟨by simp, B7.out⟩
theorem LabelSame_int (w : World) (a b : Int) (vl vm : Value) (xl xm : List UInt8) (ha : 0 ≤ a ∧ a ≤ 255) (hb : 0 ≤ b ∧ b ≤ 255) (hl : URow w vl xl) (hm : URow w vm xm) :
    Calls Try.prog 7 #[.int .u8 a, .int .u8 b, vl, vm] w fun e w' => e = .returned (.bool true) ∧ Below w.heap.size w w' := by
  obtain ⟨m, rfl⟩ := Int.eq_ofNat_of_zero_le ha.1
  obtain ⟨n, rfl⟩ := Int.eq_ofNat_of_zero_le hb.1
  exact LabelSame_any w m n vl vm xl xm (by omega) (by omega) hl hm
end Go.Proofs.Ytlmnniajindlgaa.HLab
