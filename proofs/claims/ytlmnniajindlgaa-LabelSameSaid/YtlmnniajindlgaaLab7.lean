/- Labels: Key, walked. Conditions: sizes. -/
import Derived.Test.YtlmnniajindlgaaLab6
namespace Go.Proofs.Ytlmnniajindlgaa.HLab
set_option linter.unusedVariables false
open Go.RowKit Go.Proofs.Ytlmnniajindlgaa.HMem Go.Proofs.Ytlmnniajindlgaa.HBld

theorem any_bad (l : LL) : l.any badB = !(l.all fun x => named x.1 && named x.2) := by
  induction l with
  | nil => rfl
  | cons x r ih => rw [List.any_cons, List.all_cons, ih, Bool.not_and]; rfl
theorem encS_take (s : LL) (j : Nat) (x : ByteArray × ByteArray) (hx : s[j]? = some x) : encS (s.take (j + 1)) = encS (s.take j) ++ txL x.1 ++ txL x.2 := by
  have h : ∀ (a b : LL), encS (a ++ b) = encS a ++ encS b := fun a b => by
    induction a with
    | nil => rfl
    | cons y r ih => simp [encS, ih]
  rw [List.take_add_one, hx, h]
  simp [encS]
theorem txL_length (s : ByteArray) : (txL s).length = s.size + 1 := by
  have : s.data.toList.length = s.size := by rw [Array.length_toList]; rfl
  simp [txL]
theorem encS_length : ∀ (s : LL) (B : Nat), (∀ x ∈ s, x.1.size ≤ B ∧ x.2.size ≤ B) → (encS s).length ≤ s.length * (2 * B + 2)
  | [], B, h => by simp [encS]
  | x :: r, B, h => by
    have h1 := h x (by simp)
    have h2 := encS_length r B (fun y hy => h y (by simp [hy]))
    simp only [encS, List.length_append, txL_length, List.length_cons]
    rw [Nat.add_mul]
    omega
set_option maxHeartbeats 8000000 in
set_option maxRecDepth 20000 in
theorem Key_any (w : World) (v : Value) (l : LL) (name : ByteArray) (hv : LRow w v l) (hl : l.length ≤ 4398046511000) (hz : Szs l) (hnz : name.size ≤ 140737488355328) :
    Calls Try.prog 22 #[.string name, v] w fun e w' => e = .returned (.tuple #[.string (keyL name l).1, .int .i64 (keyL name l).2]) ∧ Below w.heap.size w w' := by
  have KS := Lib.hid (fun (u : World) (hu : LRow u v l) => Sort_any u v l hu hl)
  have KN := Lib.hid (fun (u : World) => named_any name u hnz)
  obtain ⟨av, cv, e, _⟩ := id hv
  subst e
  have HV := Lib.hid hv
  have KW := Lib.hid (contains_any w _ l hv hl hz)
  obtain ⟨n, hn⟩ : ∃ n, n = l.length := ⟨_, rfl⟩
  rw [← hn] at hl HV KS KW ⊢
  have HN := Lib.hid hn
  clear hv
  cases hnm : named name with
  | false =>
    have E := Lib.hid (keyL_arg (n := name) (l := l) (by unfold okL; rw [hnm]; rfl))
    rw [hnm] at KN
    clear hnm hn
    go_enter Try.func22, Try.ntmps22
    go_wp2_with fail
    refine (KN.out w).mono ?_
    rintro e w1 ⟨rfl, rfl⟩
    go_wp2
    go_ret2
    exact ⟨by rw [E.out]; rfl, Below.refl _ _⟩
  | true =>
    rw [hnm] at KN
    by_cases h16 : n ≤ 16
    rotate_left
    · have E := Lib.hid (keyL_arg (n := name) (l := l) (by unfold okL; rw [decide_eq_false (by omega)]; simp))
      clear hnm hn
      go_enter Try.func22, Try.ntmps22
      go_wp2_with fail
      refine (KN.out w).mono ?_
      rintro e w1 ⟨rfl, rfl⟩
      have t1 : (16 : Int) < (n : Int) := by omega
      clear h16
      go_wp2
      go_ret2
      exact ⟨by rw [E.out]; rfl, Below.refl _ _⟩
    · have t1 : decide ((16 : Int) < (n : Int)) = false := by simp; omega
      cases hbad : l.any badB with
      | true =>
        have E := Lib.hid (keyL_arg (n := name) (l := l) (by
          unfold okL
          rw [any_bad] at hbad
          have : (l.all fun x => named x.1 && named x.2) = false := by simpa using hbad
          rw [this]; simp))
        rw [hbad] at KW
        clear hnm hn hbad h16
        go_enter Try.func22, Try.ntmps22
        go_wp2_with fail
        refine (KN.out w).mono ?_
        rintro e w1 ⟨rfl, rfl⟩
        go_wp2_with fail
        refine KW.out.mono ?_
        rintro e w2 ⟨rfl, b2⟩
        have B2 := Lib.hid b2
        clear b2 KW KS KN
        go_wp2
        go_ret2
        exact ⟨by rw [E.out]; rfl, B2.out⟩
      | false =>
        have hok : okL name l = true := by
          unfold okL
          rw [any_bad] at hbad
          have : (l.all fun x => named x.1 && named x.2) = true := by simpa using hbad
          rw [this, hnm, decide_eq_true (by omega)]; rfl
        have HOK := Lib.hid hok
        rw [hbad] at KW
        clear hnm hn hbad hok
        go_enter Try.func22, Try.ntmps22
        go_wp2_with fail
        refine (KN.out w).mono ?_
        rintro e w1 ⟨rfl, rfl⟩
        go_wp2_with fail
        refine KW.out.mono ?_
        rintro e w2 ⟨rfl, b2⟩
        have B2 := Lib.hid b2
        have V2 := Lib.hid (HV.out.mono b2)
        clear b2 KW KN t1
        go_wp2_with fail
        refine (KS.out w2 V2.out).mono ?_
        rintro e w3 (⟨hno, rfl, b3⟩ | ⟨s, vs, G, hso, rfl, row, hG, b3⟩)
        · have E := Lib.hid (keyL_double HOK.out hno)
          have B3 := Lib.hid (B2.out.trans (b3.mono B2.out.size))
          clear hno b3 KS
          go_wp2
          go_ret2
          exact ⟨by rw [E.out]; rfl, B3.out⟩
        · have B3 := Lib.hid (B2.out.trans (b3.mono B2.out.size))
          have HSO := Lib.hid hso
          have ROW := Lib.hid row
          obtain ⟨aS, cS, rfl, _⟩ := row.form
          have hsz : s.length = n := by rw [(sortL_perm hso).length_eq, HN.out]
          rw [hsz] at ROW ⊢
          have hokn := okL_name ((okL_perm (n := name) (sortL_perm hso)).trans HOK.out)
          have HNM := Lib.hid (named_size hokn.1)
          have HNS := Lib.hid (fun x hx => And.intro (named_size (hokn.2.2 x hx).1) (named_size (hokn.2.2 x hx).2))
          have HSZ := Lib.hid hsz
          clear hso b3 KS row hsz hokn hG
          go_wp2_with fail
          obtain ⟨b, hb⟩ : ∃ b, b = w3.heap.size := ⟨_, rfl⟩
          obtain ⟨W, hW⟩ : ∃ W, W = w3.alloc (.cells #[.pointer none, .slice none 0 0] 63) := ⟨_, rfl⟩
          have BW := Lib.hid (show Below b w3 W by rw [hW, hb]; exact (Below.refl _ _).alloc (Nat.le_refl _) _)
          have D0 := Lib.hid (show BldAt W b [b] [] by rw [hW, hb]; exact BldAt.new w3)
          have HBW := Lib.hid (show w.heap.size ≤ b by rw [hb]; exact B3.out.size)
          have RG := Lib.hid (show ∀ g ∈ G, g < b from fun g hg => by rw [hb]; exact (ROW.out.own.mem g hg).2)
          rw [← hW, ← hb]
          clear hW hb
          refine (put_any D0.out name (by have := HNM.out; omega) (by simp)).mono ?_
          rintro e w4 ⟨rfl, G4, h4, t4⟩
          have D4 := Lib.hid h4
          have B4 := Lib.hid (t4.bel D0.out.own BW.out (Nat.le_of_lt (D0.out.own.mem b (by simp)).2))
          clear h4 t4 D0 BW
          have e1 : IntKind.u8.wrap (n : Int) = (n : Int) := by simp [IntKind.wrap, IntKind.signed, IntKind.bits]; omega
          have hl4 : ([] ++ txL name).length ≤ 100 := by rw [List.nil_append, txL_length]; have := HNM.out; omega
          have KB := byte_any D4.out (UInt8.ofNat n) (by omega)
          rw [show ((UInt8.ofNat n).toNat : Int) = (n : Int) by rw [UInt8.toNat_ofNat']; omega] at KB
          have KB' := Lib.hid KB
          clear KB hl4
          go_wp2_with fail
          refine KB'.out.mono ?_
          rintro e w5 ⟨rfl, G5, h5, t5⟩
          have hb4 : b ≤ w4.heap.size := by
            have := (D4.out.own.mem b (by obtain ⟨_, _, _, _, _, _, rfl⟩ := D4.out.ex; simp)).2
            omega
          have B5 := Lib.hid (t5.bel D4.out.own B4.out hb4)
          have D5 := Lib.hid (show BldAt w5 b G5 (txL name ++ [UInt8.ofNat n] ++ encS (s.take 0)) by simpa [encS] using h5)
          clear h5 t5 KB' D4 B4 hb4 e1
          go_wp2_with fail
          go_loopw [44] (fun x wr => ∃ (j : Nat) (Gj : List Nat), j ≤ n ∧ x = .int .i64 j ∧ BldAt wr b Gj (txL name ++ [UInt8.ofNat n] ++ encS (s.take j)) ∧ Below b w3 wr) (fun x _ => n - (intOf x).toNat)
          case atStart => exact ⟨0, G5, Nat.zero_le _, rfl, D5.out, B5.out⟩
          case round =>
            obtain ⟨j, Gj, hj, rfl, hd, bb⟩ := hrel
            have HD := Lib.hid hd
            have BB := Lib.hid bb
            have hlen : (txL name ++ [UInt8.ofNat n] ++ encS (s.take j)).length ≤ 5000 := by
              have h1 := encS_length (s.take j) 64 (fun x hx => by have := HNS.out x (List.mem_of_mem_take hx); omega)
              have h2 : (s.take j).length ≤ 16 := by rw [List.length_take]; have := HSZ.out; omega
              have h3 : (s.take j).length * (2 * 64 + 2) ≤ 16 * (2 * 64 + 2) := Nat.mul_le_mul_right _ h2
              rw [List.length_append, List.length_append, txL_length, List.length_singleton]
              have := HNM.out
              omega
            clear hd bb
            rcases Nat.lt_or_ge j n with hlt | hge
            · have hj1 : (j : Int) < n := by omega
              obtain ⟨x, hx⟩ : ∃ x, s[j]? = some x := ⟨_, List.getElem?_eq_getElem (by rw [HSZ.out]; exact hlt)⟩
              have RR := ROW.out.same (w' := wr) fun g hg => BB.out.block g (RG.out g hg)
              obtain ⟨g, off, cap', e1, _, _, _, hc⟩ := RR.there (by omega)
              cases e1
              have c0 := (hc _ _ (flat_get s j x hx).1).1
              have c1 := (hc _ _ (flat_get s j x hx).2).1
              rw [← Nat.add_assoc] at c1
              obtain ⟨a, d⟩ := x
              have hns : (1 ≤ a.size ∧ a.size ≤ 64) ∧ 1 ≤ d.size ∧ d.size ≤ 64 := HNS.out (a, d) (List.mem_of_getElem? hx)
              have HX := Lib.hid (encS_take s j (a, d) hx)
              have HLT := Lib.hid hlt
              have HNA := Lib.hid (show a.size < 256 ∧ d.size < 256 ∧ a.size ≤ 64 by exact ⟨by have := hns.1; omega, by have := hns.2; omega, by have := hns.1; omega⟩)
              clear hc hx hlt RR hns
              go_wp2_with fail
              obtain ⟨W6, hW6⟩ : ∃ W6, W6 = wr.alloc (.cells #[.string a, .string d] 42) := ⟨_, rfl⟩
              obtain ⟨X, hX⟩ : ∃ X, X = wr.heap.size := ⟨_, rfl⟩
              have x1 : W6.cell? ⟨X, 1, none⟩ = some (.string d) := by rw [hW6, hX, new_cell]; rfl
              have BW6 := Lib.hid (show Below wr.heap.size wr W6 by rw [hW6]; exact (Below.refl _ _).alloc (Nat.le_refl _) _)
              have D6 := Lib.hid (HD.out.mono BW6.out)
              have hbw : b ≤ wr.heap.size := by
                have := (HD.out.own.mem b (by obtain ⟨_, _, _, _, _, _, rfl⟩ := HD.out.ex; simp)).2
                omega
              have B6 := Lib.hid (BB.out.trans (BW6.out.mono hbw))
              have hXG : X ∉ Gj := fun h => by have := (HD.out.own.mem X h).2; omega
              rw [← hW6, ← hX]
              clear hW6 hX c0 c1
              refine (put_any D6.out a HNA.out.1 (by omega)).mono ?_
              rintro e w7 ⟨rfl, G7, h7, t7⟩
              have D7 := Lib.hid h7
              have B7 := Lib.hid (t7.bel D6.out.own B6.out (Nat.le_trans hbw BW6.out.size))
              have z1 : w7.cell? ⟨X, 1, none⟩ = some (.string d) := (World.cell?_of_block (a := ⟨X, 1, none⟩) (t7.chg.block X (World.block_lt_of_cell? _ _ x1) hXG)).trans x1
              clear h7 t7 x1 hXG
              go_wp2_with fail
              refine (put_any D7.out d HNA.out.2.1 (by rw [List.length_append, txL_length]; have := HNA.out.2.2; omega)).mono ?_
              rintro e w8 ⟨rfl, G8, h8, t8⟩
              have D8 := Lib.hid (show BldAt w8 b G8 (txL name ++ [UInt8.ofNat n] ++ encS (s.take (j + 1))) by
                rw [HX.out]
                simpa using h8)
              have hb7 : b ≤ w7.heap.size := by
                have := (D7.out.own.mem b (by obtain ⟨_, _, _, _, _, _, rfl⟩ := D7.out.ex; simp)).2
                omega
              have B8 := Lib.hid (t8.bel D7.out.own B7.out hb7)
              clear h8 t8 z1 hlen hbw hb7
              go_wp2
              go_roundw
              case rel => exact ⟨j + 1, G8, HLT.out, by go_num, D8.out, B8.out⟩
              case measure => have := HLT.out; simp [intOf]; omega
            · have hj1 : ¬ (j : Int) < n := by omega
              have EJ : txL name ++ [UInt8.ofNat n] ++ encS (s.take j) = encL name s := by
                rw [List.take_of_length_le (by rw [HSZ.out]; exact hge), ← HSZ.out]
                simp [encL]
              rw [EJ] at HD hlen
              obtain ⟨L, hL⟩ : ∃ L, L = (encL name s).length := ⟨_, rfl⟩
              have KL := Lib.hid (len_any HD.out)
              have KS := Lib.hid (string_any HD.out)
              rw [← hL] at KL hlen
              have HLE := Lib.hid hL
              have BE := Lib.hid (B3.out.trans (BB.out.mono HBW.out))
              clear hge EJ hL
              by_cases h2048 : 2048 < L
              · have E := Lib.hid (keyL_long HOK.out HSO.out (by rw [← HLE.out]; exact h2048))
                have t2 : (2048 : Int) < (L : Int) := by omega
                clear h2048
                go_wp2_with fail
                refine KL.out.mono ?_
                rintro e w9 ⟨rfl, rfl⟩
                go_wp2
                go_ret2
                exact ⟨by rw [E.out]; rfl, BE.out⟩
              · have E := Lib.hid (keyL_ok HOK.out HSO.out (by rw [← HLE.out]; exact h2048))
                have HN48 := Lib.hid h2048
                clear h2048
                go_wp2_with fail
                refine KL.out.mono ?_
                rintro e w9 ⟨rfl, rfl⟩
                have t2 : decide ((2048 : Int) < (L : Int)) = false := by have := HN48.out; simp; omega
                go_wp2_with fail
                refine KS.out.mono ?_
                rintro e w9 ⟨rfl, b9⟩
                have BF := Lib.hid (BE.out.trans (b9.mono HBW.out))
                clear b9
                go_wp2
                go_ret2
                exact ⟨by rw [E.out]; rfl, BF.out⟩
end Go.Proofs.Ytlmnniajindlgaa.HLab
