/- Labels: the reference's Key, walked. Conditions: sizes. -/
import Derived.Test.YtlmnniajindlgaaLab7
import Derived.Test.YtlmnniajindlgaaLab4
import Derived.Laws.BytesArg
import Derived.Deep.RegionWith
import Derived.Deep.CutBlock
import Derived.Deep.DeepCutAuto
namespace Go.Proofs.Ytlmnniajindlgaa.HLab
set_option linter.unusedVariables false
open Go.RowKit Go.Proofs.Ytlmnniajindlgaa.HMem Go.Proofs.Ytlmnniajindlgaa.HBld

theorem cv_one (V : World) (q : Nat) (n : Nat) (c : Nat) (h : V.cell? ⟨q, 0, none⟩ = some (.int .u8 n)) : (convert 23 9 (.slice (some ⟨q, 0, none⟩) 1 c)).run Try.prog V = .ok (.string (strOfNums [(n : Int)])) V :=
  run_convert_bytes_arg (P := Try.prog) V 23 5 Try.underlying23 Try.underlying5 q 0 1 c [(n : Int)] rfl (fun i hi => by
    obtain rfl : i = 0 := by omega
    rw [h]; rfl) 9 Try.underlying9
theorem tx_str (s : ByteArray) : strOfNums [((s.size % 256 : Nat) : Int)] ++ s = ⟨⟨txL s⟩⟩ := by
  refine bytes_ext ?_
  rw [ByteArray.data_append, Array.toList_append, strOfNums_data]
  show [UInt8.ofNat _] ++ _ = UInt8.ofNat s.size :: s.data.toList
  have : UInt8.ofNat (((s.size % 256 : Nat) : Int)).toNat = UInt8.ofNat s.size := by
    apply UInt8.toNat_inj.1
    rw [UInt8.toNat_ofNat', UInt8.toNat_ofNat']
    omega
  rw [this]
  rfl
set_option maxHeartbeats 1000000 in
theorem rtext_any (s : ByteArray) (w : World) (hs : s.size < 256) :
    Calls Try.prog 28 #[.string s] w fun e w' => e = .returned (.string ⟨⟨txL s⟩⟩) ∧ Below w.heap.size w w' := by
  have e1 : IntKind.u8.wrap (s.size : Int) = (s.size : Int) := by simp [IntKind.wrap, IntKind.signed, IntKind.bits]; omega
  have hcv := cv_one (w.alloc (.cells #[.int .u8 s.size] 5)) w.heap.size s.size 1 (by rw [new_cell]; rfl)
  have hz : (strOfNums [(s.size : Int)]).size + s.size ≤ 9223372036854775807 := by rw [strOfNums_size]; simp; omega
  have hz2 : ¬ 9223372036854775807 < (strOfNums [(s.size : Int)]).size + s.size := by omega
  have E := Lib.hid (show strOfNums [(s.size : Int)] ++ s = ⟨⟨txL s⟩⟩ by rw [← tx_str, Nat.mod_eq_of_lt hs])
  obtain ⟨T, hT⟩ : ∃ T, T = strOfNums [(s.size : Int)] := ⟨_, rfl⟩
  rw [← hT] at hcv hz hz2 E
  clear hT
  go_enter Try.func28, Try.ntmps28
  go_wp2
  go_ret
  exact ⟨by rw [← E.out]; rfl, (Below.refl _ _).alloc (Nat.le_refl _) _⟩
theorem all_take (l : LL) (p : ByteArray × ByteArray → Bool) (j : Nat) (x : ByteArray × ByteArray) (hx : l[j]? = some x) : (l.take (j + 1)).all p = ((l.take j).all p && p x) := by
  rw [List.take_add_one, hx, List.all_append]; simp
theorem mk_app (a b : List UInt8) : (⟨⟨a⟩⟩ : ByteArray) ++ ⟨⟨b⟩⟩ = ⟨⟨a ++ b⟩⟩ := by
  refine bytes_ext ?_
  rw [ByteArray.data_append, Array.toList_append]
theorem mk_size (a : List UInt8) : (⟨⟨a⟩⟩ : ByteArray).size = a.length := rfl
set_option maxHeartbeats 16000000 in
set_option maxRecDepth 20000 in
theorem rKey_any (w : World) (v : Value) (l : LL) (name : ByteArray) (hv : LRow w v l) (hl : l.length ≤ 4398046511000) (hz : Szs l) (hnz : name.size ≤ 140737488355328) :
    Calls Try.prog 10 #[.string name, v] w fun e w' => e = .returned (.tuple #[.string (keyL name l).1, .int .i64 (keyL name l).2]) ∧ Below w.heap.size w w' := by
  have KS := Lib.hid (fun (u : World) (hu : LRow u v l) => rSort_any u v l hu hl)
  have KN := Lib.hid (fun (u : World) => rnamed_any name u hnz)
  obtain ⟨av, cv, e, _⟩ := id hv
  subst e
  have HV := Lib.hid hv
  have HZ := Lib.hid hz
  obtain ⟨n, hn⟩ : ∃ n, n = l.length := ⟨_, rfl⟩
  rw [← hn] at hl HV KS ⊢
  have HN := Lib.hid hn
  obtain ⟨q0, hq0⟩ : ∃ q0, q0 = named name := ⟨_, rfl⟩
  rw [← hq0] at KN
  have HQ0 := Lib.hid hq0
  clear hv hz hn hq0
  go_enter Try.func10, Try.ntmps10
  go_wp2_with fail
  refine (KN.out w).mono ?_
  rintro e w1 ⟨rfl, rfl⟩
  go_wp2_with fail
  go_loopw [6, 7] (fun f i wr => ∃ (j : Nat) (ok : Bool), j ≤ n ∧ i = .int .i64 j ∧ f = .bool ok ∧ ok = (q0 && (l.take j).all fun x => named x.1 && named x.2) ∧ w = wr) (fun _ i _ => n - (intOf i).toNat)
  case atStart => exact ⟨0, q0, Nat.zero_le _, rfl, rfl, by simp, rfl⟩
  case round =>
    obtain ⟨j, ok, hj, rfl, rfl, hok, rfl⟩ := hrel
    have OK := Lib.hid hok
    clear hok
    rcases Nat.lt_or_ge j n with hlt | hge
    · have hj1 : (j : Int) < n := by omega
      obtain ⟨x, hx⟩ : ∃ x, l[j]? = some x := ⟨_, List.getElem?_eq_getElem (by rw [← HN.out]; exact hlt)⟩
      obtain ⟨ad, rfl, c0, c1⟩ := HV.out.at j x hx
      have hxz := HZ.out x (List.mem_of_getElem? hx)
      have HA := Lib.hid (all_take l (fun x => named x.1 && named x.2) j x hx)
      obtain ⟨a, d⟩ := x
      obtain ⟨qa, hqa⟩ : ∃ qa, qa = named a := ⟨_, rfl⟩
      obtain ⟨qd, hqd⟩ : ∃ qd, qd = named d := ⟨_, rfl⟩
      have KA := rnamed_any a w hxz.1
      have KD := rnamed_any d w hxz.2
      rw [← hqa] at KA
      rw [← hqd] at KD
      have KA' := Lib.hid KA
      have KD' := Lib.hid KD
      have HLT := Lib.hid hlt
      have NX := Lib.hid (show ((ok && qa) && qd) = (q0 && (l.take (j + 1)).all fun x => named x.1 && named x.2) by rw [HA.out, OK.out, hqa, hqd, Bool.and_assoc, Bool.and_assoc])
      clear hx hlt hxz KA KD hqa hqd
      go_wp2_with fail
      refine KA'.out.mono ?_
      rintro e w2 ⟨rfl, rfl⟩
      go_wp2_with fail
      refine KD'.out.mono ?_
      rintro e w2 ⟨rfl, rfl⟩
      clear KA' KD' c0 c1
      cases ok <;> cases qa <;> cases qd
      all_goals
        go_wp2
        go_roundw
        case rel => exact ⟨j + 1, _, HLT.out, by go_num, rfl, NX.out, by first | rfl | trivial⟩
        case measure => have := HLT.out; simp [intOf]; omega
    · have hj1 : ¬ (j : Int) < n := by omega
      have hall : ok = (q0 && l.all fun x => named x.1 && named x.2) := by
        rw [OK.out, List.take_of_length_le (by rw [← HN.out]; exact hge)]
      cases ok with
      | false =>
        have E := Lib.hid (keyL_arg (n := name) (l := l) (by
          unfold okL
          rw [← HQ0.out]
          cases q0 with
          | false => rfl
          | true => simp at hall; simp [hall]))
        clear hge hall
        go_wp2
        go_ret2
        exact ⟨by rw [E.out]; rfl, Below.refl _ _⟩
      | true =>
        obtain rfl : j = n := by omega
        by_cases h16 : j ≤ 16
        rotate_left
        · have E := Lib.hid (keyL_arg (n := name) (l := l) (by unfold okL; rw [decide_eq_false (by rw [← HN.out]; omega)]; simp))
          have t1 : (16 : Int) < (j : Int) := by omega
          clear hge hall h16 hj1
          go_wp2
          go_ret2
          exact ⟨by rw [E.out]; rfl, Below.refl _ _⟩
        · have t1 : decide ((16 : Int) < (j : Int)) = false := by simp; omega
          have HOK := Lib.hid (show okL name l = true by
            unfold okL
            rw [← HQ0.out, decide_eq_true (by rw [← HN.out]; exact h16)]
            simp at hall
            rw [hall.1]
            simp
            exact hall.2)
          clear hge hall hj1
          go_wp2_with fail
          refine (KS.out w HV.out).mono ?_
          rintro e w3 (⟨hno, rfl, b3⟩ | ⟨s, vs, G, hso, rfl, row, hG, b3⟩)
          · have E := Lib.hid (keyL_double HOK.out hno)
            have B3 := Lib.hid b3
            clear hno b3 KS t1
            go_wp2
            go_ret2
            exact ⟨by rw [E.out]; rfl, B3.out⟩
          · have B3 := Lib.hid b3
            have HSO := Lib.hid hso
            have ROW := Lib.hid row
            obtain ⟨aS, cS, rfl, _⟩ := row.form
            have hsz : s.length = j := by rw [(sortL_perm hso).length_eq, HN.out]
            rw [hsz] at ROW ⊢
            have hokn := okL_name ((okL_perm (n := name) (sortL_perm hso)).trans HOK.out)
            have HNM := Lib.hid (named_size hokn.1)
            have HNS := Lib.hid (fun x hx => And.intro (named_size (hokn.2.2 x hx).1) (named_size (hokn.2.2 x hx).2))
            have HSZ := Lib.hid hsz
            have H16 := Lib.hid h16
            clear hso b3 KS row hsz hokn hG t1 h16
            go_wp2_with fail
            have e1 : IntKind.u8.wrap (j : Int) = (j : Int) := by have := H16.out; simp [IntKind.wrap, IntKind.signed, IntKind.bits]; omega
            have KT := Lib.hid (fun (u : World) => rtext_any name u (by have := HNM.out; omega))
            have hcv := fun V q c => cv_one V q j c
            have hz1 : ¬ 9223372036854775807 < (⟨⟨txL name⟩⟩ : ByteArray).size + (strOfNums [(j : Int)]).size := by
              rw [strOfNums_size, mk_size, txL_length]; have := HNM.out; simp; omega
            obtain ⟨T1, hT1⟩ : ∃ T1 : ByteArray, T1 = ⟨⟨txL name⟩⟩ := ⟨_, rfl⟩
            obtain ⟨T2, hT2⟩ : ∃ T2, T2 = strOfNums [(j : Int)] := ⟨_, rfl⟩
            rw [← hT1] at KT hz1
            rw [← hT2] at hz1
            simp only [← hT2] at hcv
            have HT := Lib.hid (show T1 ++ T2 = ⟨⟨txL name ++ [UInt8.ofNat j] ++ encS (s.take 0)⟩⟩ by
              rw [hT1, hT2]
              have : strOfNums [(j : Int)] = ⟨⟨[UInt8.ofNat j]⟩⟩ := by refine bytes_ext ?_; rw [strOfNums_data]; rfl
              rw [this, mk_app]; simp [encS])
            have hnw : ∀ V : World, (V.alloc (.cells #[.int .u8 (j : Int)] 5)).cell? ⟨V.heap.size, 0, none⟩ = some (.int .u8 (j : Int)) := fun V => by rw [new_cell]; rfl
            have HNW := Lib.hid hnw
            clear hT1 hT2
            go_cut [12] (fun x w' => x = .string (T1 ++ T2) ∧ Below w3.heap.size w3 w')
            case first =>
              go_region_with (go_at_call 28; refine (KT.out _).mono ?_; rintro e w4 ⟨rfl, b4⟩; have B4 := Lib.hid b4; (try have hby := (b4.cell (World.block_lt_of_cell? _ _ (HNW.out w3))).trans (HNW.out w3)); clear b4)
              all_goals
                go_wp2_with fail
                go_meet
                case rel =>
                  refine ⟨rfl, ?_⟩
                  have hb := B4.out
                  have hb' := hb.size
                  first
                    | exact ⟨hb.os, hb.tape, hb.output, Nat.le_trans hb.size (by simp), fun k hk => (Lib.alloc_old w4 _ k (Nat.lt_of_lt_of_le hk hb.size)).trans (hb.block k hk)⟩
                    | exact ((Below.refl w3.heap.size w3).alloc (Nat.le_refl _) _).trans ⟨hb.os, hb.tape, hb.output, hb.size, fun k hk => hb.block k (by simp; omega)⟩
            case rest =>
              obtain ⟨rfl, b4⟩ := hcut
              have B4 := Lib.hid b4
              have R4 := Lib.hid (ROW.out.same (Same.own b4 ROW.out.own))
              obtain ⟨P, hP⟩ : ∃ P, P = T1 ++ T2 := ⟨_, rfl⟩
              rw [← hP] at HT ⊢
              clear b4 hcv hz1 hnw HNW KT e1 hP
              have BW := Lib.hid (B3.out.trans (B4.out.mono B3.out.size))
              rename World => W0
              go_wp2_with fail
              go_loopw [12, 13] (fun x i wr => ∃ (k : Nat) (S : ByteArray), k ≤ j ∧ i = .int .i64 k ∧ x = .string S ∧ S = ⟨⟨txL name ++ [UInt8.ofNat j] ++ encS (s.take k)⟩⟩ ∧ Below W0.heap.size W0 wr) (fun _ i _ => j - (intOf i).toNat)
              case atStart => exact ⟨0, P, Nat.zero_le _, rfl, rfl, HT.out, Below.refl _ _⟩
              case round =>
                obtain ⟨k, S, hk, rfl, rfl, hS, bb⟩ := hrel
                have HS := Lib.hid hS
                have BB := Lib.hid bb
                have RR := Lib.hid (R4.out.same (Same.own bb R4.out.own))
                have hSz : S.size ≤ 5000 := by
                  have h1 := encS_length (s.take k) 64 (fun x hx => by have := HNS.out x (List.mem_of_mem_take hx); omega)
                  have h2 : (s.take k).length ≤ 16 := by rw [List.length_take]; have := HSZ.out; have := H16.out; omega
                  have h3 : (s.take k).length * (2 * 64 + 2) ≤ 16 * (2 * 64 + 2) := Nat.mul_le_mul_right _ h2
                  rw [hS, mk_size, List.length_append, List.length_append, txL_length, List.length_singleton]
                  have := HNM.out
                  omega
                clear hS bb
                rcases Nat.lt_or_ge k j with hlt | hge
                · have hk1 : (k : Int) < j := by omega
                  obtain ⟨x, hx⟩ : ∃ x, s[k]? = some x := ⟨_, List.getElem?_eq_getElem (by rw [HSZ.out]; exact hlt)⟩
                  obtain ⟨g, off, cap', e1, _, _, _, hc⟩ := RR.out.there (by omega)
                  cases e1
                  have y0 := (hc _ _ (flat_get s k x hx).1).1
                  have y1 := (hc _ _ (flat_get s k x hx).2).1
                  rw [← Nat.add_assoc] at y1
                  obtain ⟨a, d⟩ := x
                  have hns : (1 ≤ a.size ∧ a.size ≤ 64) ∧ 1 ≤ d.size ∧ d.size ≤ 64 := HNS.out (a, d) (List.mem_of_getElem? hx)
                  have HX := Lib.hid (encS_take s k (a, d) hx)
                  have HLT := Lib.hid hlt
                  obtain ⟨U1, hU1⟩ : ∃ U1 : ByteArray, U1 = ⟨⟨txL a⟩⟩ := ⟨_, rfl⟩
                  obtain ⟨U2, hU2⟩ : ∃ U2 : ByteArray, U2 = ⟨⟨txL d⟩⟩ := ⟨_, rfl⟩
                  have K1 := Lib.hid (show ∀ v, Below wr.heap.size wr v → Calls Try.prog 28 #[.string a] v fun e w' => e = .returned (.string U1) ∧ Below v.heap.size v w' from fun v _ => by rw [hU1]; exact rtext_any a v (by omega))
                  have K2 := Lib.hid (show ∀ v, Below wr.heap.size wr v → Calls Try.prog 28 #[.string d] v fun e w' => e = .returned (.string U2) ∧ Below v.heap.size v w' from fun v _ => by rw [hU2]; exact rtext_any d v (by omega))
                  have z1 : ¬ 9223372036854775807 < S.size + U1.size := by rw [hU1, mk_size (txL a), txL_length]; omega
                  have z2 : ¬ 9223372036854775807 < S.size + U1.size + U2.size := by rw [hU1, hU2, mk_size (txL a), mk_size (txL d), txL_length, txL_length]; omega
                  have HSS := Lib.hid (show S ++ U1 ++ U2 = ⟨⟨txL name ++ [UInt8.ofNat j] ++ encS (s.take (k + 1))⟩⟩ by
                    rw [HS.out, hU1, hU2, mk_app, mk_app, HX.out]; simp)
                  clear hc hx hns hlt hU1 hU2 hSz
                  go_wp2_with fail
                  refine wp_region_quiet (C := fun w' => Below wr.heap.size wr w') (by kernel_rfl) (by kernel_rfl) ((Below.refl _ _).drew) ?_
                  repeat (
                    with_reducible refine wpQuiet_step (fun K hK => ?_)
                    go_simp
                    first
                      | (with_reducible refine hK _ ?_; clear hK K)
                      | (apply Exists.intro
                         refine ⟨fun v hv => ?_, hK _ ?_⟩
                         (first
                           | with_reducible rfl
                           | (with_reducible show Calls _ _ _ _ _
                              first
                                | with_reducible refine Calls.mono (K1.out _ hv) ?_
                                | with_reducible refine Calls.mono (K2.out _ hv) ?_
                              rintro e w' ⟨rfl, hb⟩
                              exact ⟨rfl, hv.trans (hb.mono hv.size)⟩)
                           | (have d0 := (hv.cell (World.block_lt_of_cell? _ _ y0)).trans y0
                              have d1 := (hv.cell (World.block_lt_of_cell? _ _ y1)).trans y1
                              go_simp
                              with_reducible rfl))
                         clear hK K))
                  refine wpQuiet_nil ?_
                  intro wf hk
                  have BG := Lib.hid (BB.out.trans (hk.mono BB.out.size))
                  obtain ⟨S', hS'⟩ : ∃ S', S' = S ++ U1 ++ U2 := ⟨_, rfl⟩
                  rw [← hS'] at HSS ⊢
                  clear hk K1 K2 z1 z2 y0 y1 hS'
                  go_wp2
                  go_roundw
                  case rel => exact ⟨k + 1, S', HLT.out, by go_num, rfl, HSS.out, BG.out⟩
                  case measure => have := HLT.out; simp [intOf]; omega
                · obtain rfl : k = j := by omega
                  have ES := Lib.hid (show S = ⟨⟨encL name s⟩⟩ by
                    rw [HS.out, List.take_of_length_le (by rw [HSZ.out]; exact Nat.le_refl _), ← HSZ.out]
                    simp [encL])
                  have EL := Lib.hid (show S.size = (encL name s).length by rw [ES.out]; rfl)
                  have BE := Lib.hid (BW.out.trans (BB.out.mono BW.out.size))
                  clear hge hk
                  by_cases h2048 : 2048 < (encL name s).length
                  · have E := Lib.hid (keyL_long HOK.out HSO.out h2048)
                    have t2 : (2048 : Int) < (S.size : Int) := by have := EL.out; omega
                    clear h2048 hSz
                    go_wp2
                    go_ret2
                    exact ⟨by rw [E.out]; rfl, BE.out⟩
                  · have E := Lib.hid (keyL_ok HOK.out HSO.out h2048)
                    have t2 : decide ((2048 : Int) < (S.size : Int)) = false := by have := EL.out; simp; omega
                    clear h2048 hSz
                    go_wp2
                    go_ret2
                    exact ⟨by rw [E.out, ES.out]; rfl, BE.out⟩
end Go.Proofs.Ytlmnniajindlgaa.HLab
