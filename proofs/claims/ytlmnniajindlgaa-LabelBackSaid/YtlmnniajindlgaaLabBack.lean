/- LabelBack: what a key was made of is split off it, sorted; turned round it makes the same key. Conditions: sizes. -/
import Derived.Test.YtlmnniajindlgaaLabFew
import Derived.Test.YtlmnniajindlgaaLabSplits
namespace Go.Proofs.Ytlmnniajindlgaa.HLab
set_option linter.unusedVariables false
open Go.RowKit Go.Proofs.Ytlmnniajindlgaa.HMem Go.Proofs.Ytlmnniajindlgaa.HBld Go.Proofs.Ytlmnniajindlgaa.HApp

theorem lrev_drop (l : LL) (j : Nat) (x : ByteArray × ByteArray) (h : l[j]? = some x) : (l.drop j).reverse = (l.drop (j + 1)).reverse ++ [x] := by
  have hj := (List.getElem?_eq_some_iff.1 h)
  rw [List.drop_eq_getElem_cons hj.1, List.reverse_cons, hj.2]
theorem short_no {k n : ByteArray} {s : LL} (h : IsKey k n s) (j : ByteArray) (z : List UInt8) (hz : z ≠ []) (e : k.data.toList = j.data.toList ++ z) : ∀ m t, ¬ IsKey j m t := fun m t g => hz (g.alone h z e)
theorem long_no {k n : ByteArray} {s : LL} (h : IsKey k n s) (j : ByteArray) (z : List UInt8) (hz : z ≠ []) (e : j.data.toList = k.data.toList ++ z) : ∀ m t, ¬ IsKey j m t := fun m t g => hz (h.alone g z e)
theorem app_data (a b : ByteArray) : (a ++ b).data.toList = a.data.toList ++ b.data.toList := by
  rw [ByteArray.data_append, Array.toList_append]
theorem cut_data (k : ByteArray) (h : 1 ≤ k.size) : ∃ z, z ≠ [] ∧ k.data.toList = (k.extract 0 (k.size - 1)).data.toList ++ z := by
  refine ⟨k.data.toList.drop (k.size - 1), fun e => ?_, ?_⟩
  · have := congrArg List.length e
    rw [List.length_drop, list_size] at this
    simp at this
    omega
  · rw [Lib.extract_data]
    simp
set_option maxHeartbeats 16000000 in
set_option maxRecDepth 20000 in
theorem LabelBack_any (w : World) (v x : Value) (ls : List (List UInt8)) (xs : List UInt8) (hv : WRow w v ls) (hx : URow w x xs) :
    Calls Try.prog 4 #[x, v] w fun e w' => e = .returned (.bool true) ∧ Below w.heap.size w w' := by
  obtain ⟨i0, hi0, hz0, hz1, hz2⟩ := infoL2
  obtain ⟨av, cv, rfl, hcap, hmax, _⟩ := id hv
  obtain ⟨n, hn⟩ : ∃ n, n = ls.length := ⟨_, rfl⟩
  rw [← hn] at hv hcap ⊢
  obtain ⟨k, hk⟩ : ∃ k, k = min n 16 := ⟨_, rfl⟩
  have hv2 := hv.take k (by omega)
  have HV := Lib.hid hv2
  have HX := Lib.hid hx
  have HK := Lib.hid (show k ≤ 16 by omega)
  have hkn : k ≤ n := by omega
  have hkc : (k : Int) ≤ cv := by omega
  have hmin : min (n : Int) 16 = (k : Int) := by omega
  have HN := Lib.hid hn
  clear hv hv2 hx hn hcap hk
  go_enter Try.func4, Try.ntmps4
  go_wp2_with fail
  refine (examples_any w).mono ?_
  rintro e w1 ⟨rfl, b1⟩
  have B1 := Lib.hid b1
  clear b1
  go_wp2_with fail
  refine (few_own w1 (.slice av k cv) (.slice none 0 0) _ (HV.out.mono B1.out)).mono ?_
  rintro e w2 ⟨a, rfl, lr, b2⟩
  obtain ⟨l, hl⟩ : ∃ l, l = fewL (ls.take k) := ⟨_, rfl⟩
  have hl16 : l.length ≤ 16 := by rw [hl, fewL_length, List.length_take]; have := HK.out; omega
  have HFK := Lib.hid (few_key (ls.take k) xs (by rw [← hl]; exact hl16))
  have HSZ := Lib.hid (fewL_szs (ls.take k))
  rw [← hl] at lr HFK HSZ
  have HL := Lib.hid hl16
  clear hl hl16
  obtain ⟨a, c, rfl, _⟩ := id lr
  have LR := Lib.hid lr
  have B2 := Lib.hid (B1.out.trans (b2.mono B1.out.size))
  clear b2 lr B1
  obtain ⟨W, hW⟩ : ∃ W, W = wordB xs := ⟨_, rfl⟩
  have HWS := Lib.hid (show W.size ≤ 13 by rw [hW]; exact wordB_size xs)
  have KX := Lib.hid (show ∀ u, Below w2.heap.size w2 u → Calls Try.prog 11 #[x] u fun e w' => e = .returned (.string W) ∧ Below u.heap.size u w' from fun u bu =>
    (word_any u x xs (HX.out.mono (B2.out.trans (bu.mono B2.out.size)))).mono fun e w' ⟨h1, h2⟩ => ⟨by rw [hW]; exact h1, h2⟩)
  rw [← hW] at HFK
  clear hW
  obtain ⟨m, hm⟩ : ∃ m, m = l.length := ⟨_, rfl⟩
  rw [← hm] at LR ⊢
  have hm16 : m ≤ 16 := by have := HL.out; omega
  have HM := Lib.hid hm
  clear hm
  go_wp2_with fail
  have SA := Sort_any w2 _ l LR.out (by have := HL.out; omega)
  refine SA.mono ?_
  rcases HFK.out with ⟨f1, f2⟩ | ⟨s, key, f1, f2, ik⟩
  · rintro e w3 (⟨h1, rfl, b3⟩ | ⟨s, vs, G, h1, rfl, hr, hG, b3⟩)
    rotate_left
    · rw [f1] at h1; cases h1
    have F2 := Lib.hid f2
    have B3 := Lib.hid b3
    clear b3 h1 f1 f2 SA
    go_wp2_with fail
    refine (KX.out _ B3.out).mono ?_
    rintro e w4 ⟨rfl, b4⟩
    have B4 := Lib.hid (B3.out.trans (b4.mono B3.out.size))
    clear b4
    go_wp2_with fail
    refine (Key_any _ _ l W (LR.out.mono B4.out) (by have := HL.out; omega) HSZ.out (by have := HWS.out; omega)).mono ?_
    rintro e w5 ⟨rfl, b5⟩
    rw [F2.out]
    have B5 := Lib.hid (B2.out.trans ((B4.out.trans (b5.mono B4.out.size)).mono B2.out.size))
    clear b5
    go_wp2
    go_ret
    exact ⟨by rfl, B5.out⟩
  rintro e w3 (⟨h1, rfl, b3⟩ | ⟨s', vs, G, h1, rfl, hr, hG, b3⟩)
  · rw [f1] at h1; cases h1
  rw [f1] at h1
  cases h1
  have F1 := Lib.hid f1
  have F2 := Lib.hid f2
  have IK := Lib.hid ik
  have hr := LRow.ofRow hr
  obtain ⟨sa0, cs, rfl, _⟩ := id hr
  have SR := Lib.hid hr
  have B3 := Lib.hid b3
  obtain ⟨q, hq⟩ : ∃ q, q = s.length := ⟨_, rfl⟩
  have HQ := Lib.hid hq
  have hq16 : q ≤ 16 := by rw [hq, (sortL_perm f1).length_eq]; exact HL.out
  rw [← hq] at SR ⊢
  clear b3 f1 f2 SA ik hr hG hq
  go_wp2_with fail
  refine (KX.out _ B3.out).mono ?_
  rintro e w4 ⟨rfl, b4⟩
  have B4 := Lib.hid (B3.out.trans (b4.mono B3.out.size))
  have SR4 := Lib.hid (SR.out.mono b4)
  clear b4 SR B3
  go_wp2_with fail
  refine (Key_any _ _ l W (LR.out.mono B4.out) (by have := HL.out; omega) HSZ.out (by have := HWS.out; omega)).mono ?_
  rintro e w5 ⟨rfl, b5⟩
  rw [F2.out]
  have B5 := Lib.hid (B4.out.trans (b5.mono B4.out.size))
  have SR5 := Lib.hid (SR4.out.mono b5)
  clear b5 B4 SR4
  obtain ⟨B, hB⟩ : ∃ B, B = w5.heap.size := ⟨_, rfl⟩
  have HB := Lib.hid hB
  have LR5 := Lib.hid (LR.out.mono B5.out)
  clear hB
  go_wp2_with fail
  go_loopw [11, 12] (fun y z wr => ∃ j : Nat, j ≤ m ∧ z = .int .i64 ((j : Int) - 1) ∧ wr.ownsRow B 42 2 y (m - j) (flat ((l.drop j).reverse)) ∧ Below B w5 wr) (fun _ z _ => (intOf z + 1).toNat)
  case atStart => exact ⟨m, Nat.le_refl _, by go_num, ⟨by rw [List.drop_of_length_le (by rw [HM.out]; exact Nat.le_refl _)]; simp [flat], .inl ⟨rfl, by omega⟩⟩, by rw [HB.out]; exact Below.refl _ _⟩
  case round =>
    obtain ⟨j, hj, rfl, own, bb⟩ := hrel
    have OWN := Lib.hid own
    have BB := Lib.hid bb
    have hbw : B ≤ wr.heap.size := by rw [HB.out]; exact bb.size
    have LRr := LR5.out.mono (w' := wr) (by rw [← HB.out]; exact bb)
    have SRr := Lib.hid (SR5.out.mono (w' := wr) (by rw [← HB.out]; exact bb))
    clear own bb
    rcases Nat.eq_zero_or_pos j with hj0 | hpos
    rotate_left
    · obtain ⟨j, rfl⟩ : ∃ i, j = i + 1 := ⟨j - 1, by omega⟩
      have ej : ((j + 1 : Nat) : Int) - 1 = (j : Int) := by omega
      rw [ej]
      have hj1 : 0 ≤ (j : Int) := by omega
      have hj2 : (j : Int) < m := by omega
      obtain ⟨y, hy⟩ : ∃ y, l[j]? = some y := ⟨_, List.getElem?_eq_getElem (by rw [← HM.out]; omega)⟩
      obtain ⟨ad, rfl, x0, x1⟩ := LRr.at j y hy
      have ER := Lib.hid (lrev_drop l j y hy)
      obtain ⟨ya, yb⟩ := y
      dsimp only at x0 x1
      obtain ⟨acc, hacc⟩ : ∃ acc, acc = (l.drop (j + 1)).reverse := ⟨_, rfl⟩
      rw [← hacc] at OWN ER
      obtain ⟨r, hr⟩ : ∃ r, r = m - (j + 1) := ⟨_, rfl⟩
      rw [← hr] at OWN
      have hr16 : r ≤ 16 := by omega
      have HR := Lib.hid (show r + 1 = m - j by omega)
      have HJ := Lib.hid hj
      clear hy ej hacc hr LRr hpos
      have OW5 := Lib.hid (OWN.out.alloc (.cells #[.string ya, .string yb] 42))
      have A2 : ∀ ad, (some ⟨wr.heap.size, 0, none⟩ : Option Addr) = some ad → ∀ j u, [Value.string ya, .string yb][j]? = some u → (wr.alloc (.cells #[.string ya, .string yb] 42)).cell? (ad.add j) = some u := fun ad e j y hy => by cases e; exact two_new _ _ _ _ j y hy
      have A3 : ∀ u ∈ [Value.string ya, .string yb], u.oneCell' = true := fun u hu => by simp at hu; rcases hu with rfl | rfl <;> rfl
      have A4 : r + 1 ≤ maxLen := by unfold maxLen; omega
      have A5 : (r + 1) * 32 ≤ 140737488355328 := by omega
      have A6 : B ≤ (wr.alloc (.cells #[.string ya, .string yb] 42)).heap.size := by simp; omega
      go_wp2_with (at_builtin; refine append_any _ rfl _ _ 28 rfl B 42 i0 (.agg #[.string ⟨#[]⟩, .string ⟨#[]⟩]) 2 32 Try.underlying28 hi0 hz0 hz1 hz2 rfl (by decide) _ r (flat acc) rfl OW5.out (some ⟨wr.heap.size, 0, none⟩) 1 1 [.string ya, .string yb] rfl (fun e => nomatch e) rfl A2 A3 A4 A5 A6 ?_)
      intro v5 w6 o6 b6
      have B6 := Lib.hid (show Below B w5 w6 from BB.out.trans (((Below.refl B wr).alloc hbw _).trans b6))
      have O6 := Lib.hid (show w6.ownsRow B 42 2 v5 (m - j) (flat ((l.drop j).reverse)) by
        rw [ER.out, flat_append, ← HR.out]; exact o6)
      clear A2 A3 A4 A5 A6 o6 b6 OW5 hbw
      go_wp2
      go_roundw
      case rel => exact ⟨j, by have := HJ.out; omega, by go_num, O6.out, B6.out⟩
      case measure => first | (simp [intOf]; done) | (simp [intOf]; omega)
    · subst hj0
      have hj1 : ¬ (0 : Int) ≤ (0 : Int) - 1 := by omega
      obtain ⟨G, row, hG⟩ := Row.ofOwns OWN.out
      have hrl : l.reverse.length = m := by rw [List.length_reverse, HM.out]
      have lr2 : LRow wr _ l.reverse := LRow.ofRow (G := G) (by rw [hrl]; exact row)
      obtain ⟨ab, cb, rfl, _⟩ := id lr2
      rw [hrl] at lr2 ⊢
      have LB := Lib.hid lr2
      have F3 := Lib.hid (show keyL W l.reverse = (key, 0) by rw [keyL_perm W (List.reverse_perm l), F2.out])
      have SZ3 := Lib.hid (show Szs l.reverse from fun x hx => HSZ.out x (List.mem_reverse.1 hx))
      have BW := Lib.hid (show Below w2.heap.size w2 wr from B5.out.trans (BB.out.mono (by rw [HB.out]; exact B5.out.size)))
      have HRL := Lib.hid hrl
      clear LRr hj row hG hrl lr2 OWN BB hbw
      go_wp2_with fail
      refine (KX.out _ BW.out).mono ?_
      rintro e w6 ⟨rfl, b6⟩
      have B6 := Lib.hid (BW.out.trans (b6.mono BW.out.size))
      have SR6 := Lib.hid (SRr.out.mono b6)
      have LB6 := Lib.hid (LB.out.mono b6)
      clear b6 SRr LB BW
      go_wp2_with fail
      refine (Key_any _ _ l.reverse W LB6.out (by have h1 := HRL.out; omega) SZ3.out (by have := HWS.out; omega)).mono ?_
      rintro e w7 ⟨rfl, b7⟩
      rw [F3.out]
      have B7 := Lib.hid (B6.out.trans (b7.mono B6.out.size))
      have SR7 := Lib.hid (SR6.out.mono b7)
      clear b7 SR6 LB6 B6
      have TD := Lib.hid (told_key IK.out)
      have hk1 : 1 ≤ key.size ∧ key.size ≤ 2048 := by
        have h1 := IK.out.enc
        have h2 := IK.out.short
        have h3 := list_size key
        rw [h1] at h3
        refine ⟨?_, by omega⟩
        rw [← h3]
        simp [encL, txL]
      have HK1 := Lib.hid hk1
      clear hk1
      go_wp2_with fail
      refine (Split_any _ key (by have := HK1.out; omega)).mono ?_
      intro e w8 h
      obtain ⟨a8, n8, c8, rfl, r8, b8⟩ := TD.out.split _ _ _ h
      have B8 := Lib.hid (B7.out.trans (b8.mono B7.out.size))
      have SR8 := Lib.hid (SR7.out.mono b8)
      obtain ⟨_, _, e8, _⟩ := id r8
      cases e8
      rw [← HQ.out] at r8 ⊢
      have R8 := Lib.hid r8
      clear r8 b8 h B7 SR7
      go_wp2_with fail
      refine (same_any _ _ _ s s R8.out SR8.out).mono ?_
      rintro e w9 ⟨rfl, b9⟩
      rw [decide_eq_true rfl]
      have B9 := Lib.hid (B8.out.trans (b9.mono B8.out.size))
      have R9 := Lib.hid (R8.out.mono b9)
      clear b9 B8 SR8 R8
      go_wp2_with fail
      go_loopw [19] (fun z u => ∃ j : Nat, 1 ≤ j ∧ (j ≤ q ∨ j = 1) ∧ z = .int .i64 j ∧ Below w9.heap.size w9 u) (fun z _ => q + 1 - (intOf z).toNat)
      case atStart => exact ⟨1, Nat.le_refl _, .inr rfl, rfl, Below.refl _ _⟩
      case round =>
        obtain ⟨j, h1j, hjq, rfl, bb⟩ := hrel
        have BB := Lib.hid bb
        have Rr := R9.out.mono bb
        clear bb
        rcases Nat.lt_or_ge j q with hlt | hge
        · have hj1 : (j : Int) < q := by omega
          obtain ⟨i, hij⟩ : ∃ i, j = i + 1 := ⟨j - 1, by omega⟩
          obtain ⟨y, hy⟩ : ∃ y, s[i]? = some y := ⟨_, List.getElem?_eq_getElem (by rw [← HQ.out]; omega)⟩
          obtain ⟨z, hz⟩ : ∃ z, s[j]? = some z := ⟨_, List.getElem?_eq_getElem (by rw [← HQ.out]; omega)⟩
          obtain ⟨ad, rfl, x0, x1⟩ := Rr.at i y hy
          obtain ⟨ad', e', z0, z1⟩ := Rr.at j z hz
          cases e'
          have hrise : Lt y.1 z.1 := by
            have := IK.out.rise
            obtain ⟨p1, p2⟩ := List.getElem?_eq_some_iff.1 hy
            obtain ⟨p3, p4⟩ := List.getElem?_eq_some_iff.1 hz
            have h := List.pairwise_iff_getElem.1 this i j p1 p3 (by omega)
            rw [p2, p4] at h
            exact h
          obtain ⟨ya, yb⟩ := y
          obtain ⟨za, zb⟩ := z
          dsimp only at x0 x1 z0 z1 hrise
          have tl : Op.bytesLess ya.toList za.toList = true := by rw [less_lt]; exact decide_eq_true hrise
          have ej : IntKind.i64.wrap ((j : Int) - 1) = (i : Int) := by rw [IntKind.wrap_i64]; omega
          have hi1 : (i : Int) < q := by omega
          have HI := Lib.hid hlt
          clear hy hz hrise Rr hlt hjq h1j hij
          go_wp2_with fail
          refine wp_region_quiet (C := fun w' => Below wr.heap.size wr w') (by kernel_rfl) (by kernel_rfl) ((Below.refl _ _).drew) ?_
          repeat (
            with_reducible refine wpQuiet_step (fun K hK => ?_)
            go_simp
            first
              | (with_reducible refine hK _ ?_; clear hK K)
              | (apply Exists.intro
                 refine ⟨fun v hv => ?_, hK _ ?_⟩
                 (first
                   | with_reducible rfl
                   | (have d0 := (hv.cell (World.block_lt_of_cell? _ _ x0)).trans x0
                      have d1 := (hv.cell (World.block_lt_of_cell? _ _ z0)).trans z0
                      go_simp
                      with_reducible rfl))
                 clear hK K))
          refine wpQuiet_nil ?_
          intro wf hk
          have BF := Lib.hid (BB.out.trans (hk.mono BB.out.size))
          clear hk x0 z0 x1 z1
          go_wp2
          go_roundw
          case rel => exact ⟨j + 1, by omega, .inl HI.out, by go_num, BF.out⟩
          case measure => have := HI.out; simp [intOf]; omega
        · have hj1 : ¬ (j : Int) < q := by omega
          have BZ := Lib.hid (B9.out.trans (BB.out.mono B9.out.size))
          clear Rr hge hjq h1j BB
          obtain ⟨z, hz, ez⟩ := cut_data key HK1.out.1
          have TS := Lib.hid (told_none (short_no IK.out _ z hz ez))
          obtain ⟨K2, hK2⟩ : ∃ K2, K2 = key ++ ⟨#[120]⟩ := ⟨_, rfl⟩
          have TL := Lib.hid (told_none (long_no IK.out K2 [120] (by simp) (by rw [hK2, app_data])))
          have HK2 := Lib.hid (show K2.size ≤ 140737488355328 by
            have h1 : K2.size = key.size + 1 := by rw [hK2, ByteArray.size_append]; rfl
            have h2 := HK1.out.2
            omega)
          have EK2 := Lib.hid hK2
          clear hK2
          clear hz ez
          have hk1 := HK1.out.1
          have hk2 := HK1.out.2
          have hks : ¬ 9223372036854775807 < key.size + 1 := by omega
          have hmin1 : min ((key.size : Nat) : Int) 1 = 1 := by omega
          go_wp2_with fail
          refine (Split_any _ (key.extract 0 (key.size - 1)) (by rw [ByteArray.size_extract]; omega)).mono ?_
          intro e wa h
          obtain ⟨aa, na, ca, rfl, ra, ba⟩ := TS.out.split _ _ _ h
          have BA := Lib.hid (BZ.out.trans (ba.mono BZ.out.size))
          clear ra ba h BZ
          go_wp2_with fail
          rw [← EK2.out]
          refine (Split_any _ K2 HK2.out).mono ?_
          intro e wb h
          obtain ⟨ab', nb, cb', rfl, rb, bb⟩ := TL.out.split _ _ _ h
          have BB := Lib.hid (BA.out.trans (bb.mono BA.out.size))
          clear rb bb h BA
          go_wp2_with fail
          refine (KX.out _ BB.out).mono ?_
          rintro e wc ⟨rfl, bc⟩
          have BC := Lib.hid (BB.out.trans (bc.mono BB.out.size))
          clear bc BB
          go_wp2_with fail
          refine (Metric_any _ key (by omega)).mono ?_
          intro e wd h
          obtain ⟨rfl, bd⟩ := TD.out.met _ _ _ h
          have BD := Lib.hid (B2.out.trans ((BC.out.trans (bd.mono BC.out.size)).mono B2.out.size))
          clear bd h BC
          go_wp2
          go_ret
          exact ⟨by simp, BD.out⟩
end Go.Proofs.Ytlmnniajindlgaa.HLab
