/- The reference's histogram, walked: Put. Conditions: what a histogram holds. -/
import Derived.Test.YtgafnilcmhjpcaaHistRef8
import Derived.Test.YtgafnilcmhjpcaaHistRef3
namespace Go.Proofs.Ytgafnilcmhjpcaa.HHist
set_option linter.unusedVariables false
open Go.RowKit Go.Proofs.Ytgafnilcmhjpcaa.HMem Go.Proofs.Ytgafnilcmhjpcaa.HBucket Go.Proofs.Ytgafnilcmhjpcaa.HApp
open Go.Proofs.Ytgafnilcmhjpcaa.Print (I64)

theorem str_app (a b : List Int) : strOfNums a ++ strOfNums b = strOfNums (a ++ b) := by
  refine ByteArray.ext (Array.toList_inj.1 ?_)
  rw [ByteArray.data_append, Array.toList_append, strOfNums_data, strOfNums_data, strOfNums_data, List.map_append]
theorem str_size (a : List Int) : (strOfNums a).size = a.length := by
  show (strOfNums a).data.size = _
  rw [← Array.length_toList, strOfNums_data, List.length_map]
set_option maxHeartbeats 2000000 in
set_option maxRecDepth 20000 in
theorem rPut_any {w : World} {p : Nat} {G : List Nat} {b : Nat} {l : IL} (h : RHistAt w p G b l) (ho : HOk b l) :
    Calls Try.prog 37 #[.pointer (some ⟨p, 0, none⟩)] w fun e w' => e = .returned (.string (strOfNums (encL b l))) ∧ Below w.heap.size w w' := by
  have c0 := h.cells.1
  obtain ⟨_, v, R, hx1, hx2, c1, hrow⟩ := h.cells
  obtain ⟨ba, cap, rfl, _⟩ := hrow.form
  have HO := Lib.hid ho
  have HR := Lib.hid hrow
  have hb := ho.bits
  have hlen := ho.len
  obtain ⟨n, hn⟩ : ∃ n, n = l.length := ⟨_, rfl⟩
  have HN := Lib.hid hn
  rw [← hn] at c1 hlen HR
  clear ho h hrow hn hx1 hx2
  go_enter Try.func37, Try.ntmps37
  go_wp2_with fail
  obtain ⟨T1, hT1⟩ : ∃ T1, T1 = strOfNums (be b 1) := ⟨_, rfl⟩
  obtain ⟨T2, hT2⟩ : ∃ T2, T2 = strOfNums (be n 2) := ⟨_, rfl⟩
  have K1 := Lib.hid (show ∀ v, Below w.heap.size w v → Calls Try.prog 44 #[.int .u64 b, .int .i64 1] v fun e w' => e = .returned (.string T1) ∧ Below v.heap.size v w' from fun v _ => by
    rw [hT1]; exact rBytes_any v b 1 (by omega) (by omega) (by omega))
  have K2 := Lib.hid (show ∀ v, Below w.heap.size w v → Calls Try.prog 44 #[.int .u64 n, .int .i64 2] v fun e w' => e = .returned (.string T2) ∧ Below v.heap.size v w' from fun v _ => by
    rw [hT2]; exact rBytes_any v n 2 (by omega) (by omega) (by omega))
  have s1 : IntKind.u64.wrap ((b : Nat) : Int) = ((b : Nat) : Int) := u64_in _ (by omega) (by omega)
  have s2 : IntKind.u64.wrap ((n : Nat) : Int) = ((n : Nat) : Int) := u64_in _ (by omega) (by omega)
  have z1 : ¬ 9223372036854775807 < T1.size + T2.size := by rw [hT1, hT2, str_size, str_size, be_length, be_length]; omega
  have H1 := Lib.hid hT1
  have H2 := Lib.hid hT2
  clear hT1 hT2
  refine wp_region_quiet (C := fun w' => Below w.heap.size w w') (by kernel_rfl) (by kernel_rfl) ((Below.refl _ _).drew) ?_
  repeat (
    with_reducible refine wpQuiet_step (fun K hK => ?_)
    go_simp
    first
      | (with_reducible refine hK _ ?_; clear hK K)
      | (apply Exists.intro
         refine ⟨fun v hv => ?_, hK _ ?_⟩
         (first
           | with_reducible rfl
           | (with_reducible show Calls _ _ _ _ _
              first
                | with_reducible refine Calls.mono (K1.out _ hv) ?_
                | with_reducible refine Calls.mono (K2.out _ hv) ?_
              rintro e w' ⟨rfl, hb⟩
              exact ⟨rfl, hv.trans (hb.mono hv.size)⟩)
           | (have d0 := (hv.cell (World.block_lt_of_cell? _ _ c0)).trans c0
              have d1 := (hv.cell (World.block_lt_of_cell? _ _ c1)).trans c1
              go_simp
              with_reducible rfl))
         clear hK K))
  refine wpQuiet_nil ?_
  intro wf hk
  replace c1 := (hk.cell (World.block_lt_of_cell? _ _ c1)).trans c1
  have BF := Lib.hid hk
  obtain ⟨P, hP⟩ : ∃ P, P = T1 ++ T2 := ⟨_, rfl⟩
  have HP := Lib.hid (show P = strOfNums ((b : Int) :: be n 2) by
    rw [hP, H1.out, H2.out, str_app]
    have : be b 1 = [(b : Int)] := by simp [be]; omega
    rw [this]; rfl)
  clear hk K1 K2 s1 s2 z1 c0
  rw [← hP]
  clear hP
  obtain ⟨pre, hpre⟩ : ∃ pre : List Int, pre = (b : Int) :: be n 2 := ⟨_, rfl⟩
  rw [← hpre] at HP
  have HPL := Lib.hid (show pre.length = 3 by rw [hpre]; simp [be_length])
  have HPR := Lib.hid hpre
  have C1 := Lib.hid c1
  clear hpre H1 H2
  go_wp2_with fail
  rename World => W0
  go_loopw [3, 4] (fun s x wr => ∃ (j : Nat) (S : ByteArray), j ≤ n ∧ x = .int .i64 j ∧ s = .string S ∧ S = strOfNums (pre ++ encI (l.take j)) ∧ Below W0.heap.size W0 wr) (fun _ x _ => n - (intOf x).toNat)
  case atStart => exact ⟨0, P, Nat.zero_le _, rfl, rfl, by rw [HP.out]; simp [encI], Below.refl _ _⟩
  case round =>
    obtain ⟨j, S, hj, rfl, rfl, hS, bb⟩ := hrel
    have HS := Lib.hid hS
    have BB := Lib.hid bb
    have c1 : wr.cell? ⟨p, 1, none⟩ = some (.slice ba n cap) := (bb.cell (World.block_lt_of_cell? _ _ C1.out)).trans C1.out
    have RR := Lib.hid ((HR.out.same (Same.own BF.out HR.out.own)).same (Same.own bb (HR.out.own.size BF.out.size)))
    clear hS bb
    rcases Nat.lt_or_ge j n with hlt | hge
    · have hj1 : (j : Int) < n := by omega
      obtain ⟨x, hx⟩ : ∃ x, l[j]? = some x := ⟨_, List.getElem?_eq_getElem (by rw [← HN.out]; exact hlt)⟩
      obtain ⟨g, off, cap', e1, _, _, _, hc⟩ := RR.out.there (by omega)
      cases e1
      have y0 := (hc _ _ (flat_get l j x hx).1).1
      have y1 := (hc _ _ (flat_get l j x hx).2).1
      rw [← Nat.add_assoc] at y1
      have hit := HO.out.item x (List.mem_of_getElem? hx)
      have hmost := most_lt b hb
      have htot : x.2 ≤ 1099511627776 := Nat.le_trans (many_le l x (List.mem_of_getElem? hx)) HO.out.total
      obtain ⟨A, hA⟩ : ∃ A : Nat, A = (x.1 + 2147483648).toNat := ⟨_, rfl⟩
      have s3 : IntKind.u64.wrap (x.1 + 2147483648) = (A : Int) := by rw [u64_in _ (by omega) (by omega)]; omega
      have s4 : IntKind.i64.wrap (x.1 + 2147483648) = x.1 + 2147483648 := by rw [IntKind.wrap_i64]; omega
      have hA2 : A < 18446744073709551616 := by omega
      have HX := Lib.hid (show encI (l.take (j + 1)) = encI (l.take j) ++ (be A 4 ++ be x.2 6) by rw [List.take_add_one, hx, hA]; exact encI_snoc _ _)
      obtain ⟨T1, hT1⟩ : ∃ T1, T1 = strOfNums (be A 4) := ⟨_, rfl⟩
      obtain ⟨T2, hT2⟩ : ∃ T2, T2 = strOfNums (be x.2 6) := ⟨_, rfl⟩
      have K1 := Lib.hid (show ∀ v, Below wr.heap.size wr v → Calls Try.prog 44 #[.int .u64 A, .int .i64 4] v fun e w' => e = .returned (.string T1) ∧ Below v.heap.size v w' from fun v _ => by
        rw [hT1]; exact rBytes_any v A 4 (by omega) (by omega) (by omega))
      have K2 := Lib.hid (show ∀ v, Below wr.heap.size wr v → Calls Try.prog 44 #[.int .u64 (x.2 : Int), .int .i64 6] v fun e w' => e = .returned (.string T2) ∧ Below v.heap.size v w' from fun v _ => by
        rw [hT2]; exact rBytes_any v x.2 6 (by omega) (by omega) (by omega))
      have hSz : S.size ≤ 100000 := by
        rw [HS.out, str_size, List.length_append, HPL.out, encI_length]
        have : (l.take j).length ≤ j := List.length_take_le _ _
        omega
      have z1 : ¬ 9223372036854775807 < S.size + T1.size := by rw [hT1, str_size, be_length]; omega
      have z2 : ¬ 9223372036854775807 < S.size + T1.size + T2.size := by rw [hT1, hT2, str_size, str_size, be_length, be_length]; omega
      have HST := Lib.hid (show S ++ T1 ++ T2 = strOfNums (pre ++ encI (l.take (j + 1))) by
        rw [HS.out, hT1, hT2, str_app, str_app, HX.out, List.append_assoc, List.append_assoc])
      have hlt' := Lib.hid hlt
      clear hc hx hit hmost hlt hA hT1 hT2 hSz hA2
      go_wp2_with fail
      refine wp_region_quiet (C := fun w' => Below wr.heap.size wr w') (by kernel_rfl) (by kernel_rfl) ((Below.refl _ _).drew) ?_
      repeat (
        with_reducible refine wpQuiet_step (fun K hK => ?_)
        go_simp
        first
          | (with_reducible refine hK _ ?_; clear hK K)
          | (apply Exists.intro
             refine ⟨fun v hv => ?_, hK _ ?_⟩
             (first
               | with_reducible rfl
               | (with_reducible show Calls _ _ _ _ _
                  first
                    | with_reducible refine Calls.mono (K1.out _ hv) ?_
                    | with_reducible refine Calls.mono (K2.out _ hv) ?_
                  rintro e w' ⟨rfl, hb⟩
                  exact ⟨rfl, hv.trans (hb.mono hv.size)⟩)
               | (have d0 := (hv.cell (World.block_lt_of_cell? _ _ c1)).trans c1
                  have d1 := (hv.cell (World.block_lt_of_cell? _ _ y0)).trans y0
                  have d2 := (hv.cell (World.block_lt_of_cell? _ _ y1)).trans y1
                  go_simp
                  with_reducible rfl))
             clear hK K))
      refine wpQuiet_nil ?_
      intro wf hk
      have BG := Lib.hid (BB.out.trans (hk.mono BB.out.size))
      obtain ⟨S', hS'⟩ : ∃ S', S' = S ++ T1 ++ T2 := ⟨_, rfl⟩
      rw [← hS'] at HST ⊢
      clear hk K1 K2 s3 s4 z1 z2 y0 y1 c1 hS'
      go_wp2
      go_roundw
      case rel => exact ⟨j + 1, S', hlt'.out, by go_num, rfl, HST.out, BG.out⟩
      case measure => have := hlt'.out; simp [intOf]; omega
    · have hj1 : ¬ (j : Int) < n := by omega
      have EJ := Lib.hid (show S = strOfNums (encL b l) by
        rw [HS.out, List.take_of_length_le (by rw [← HN.out]; omega), HPR.out, HN.out]
        rfl)
      clear hge
      go_wp2
      go_ret
      exact ⟨by rw [EJ.out]; rfl, BF.out.trans (BB.out.mono BF.out.size)⟩
end Go.Proofs.Ytgafnilcmhjpcaa.HHist
