/- CellBack: what was put is got, and what stands behind it; cut anywhere it is none; a copy is apart. Conditions: the parameters' ranges. -/
import Derived.Test.YtgafnilcmhjpcaaCellMoves
namespace Go.Proofs.Ytgafnilcmhjpcaa.HCell
set_option linter.unusedVariables false
open Go.RowKit Go.Proofs.Ytgafnilcmhjpcaa.HMem Go.Proofs.Ytgafnilcmhjpcaa.HHist Go.Proofs.Ytgafnilcmhjpcaa.HWide
open Go.Proofs.Ytgafnilcmhjpcaa.Print (I64)

set_option maxHeartbeats 8000000 in
set_option maxRecDepth 20000 in
theorem CellBack_any (w : World) (fr : Int) (fine : Nat) (v : Value) (ns : List Int) (s : ByteArray) (cut : Nat) (hf : I64 fr) (hfi : fine < 256) (hv : NRow .i64 w v ns) (hz : ∀ x ∈ ns, I64 x) (hs : s.size ≤ 140737488351232) (hcut : cut < 65536) :
    Calls Try.prog 5 #[.int .i64 fr, .int .u8 fine, v, .string s, .int .u16 cut] w fun e w' => e = .returned (.bool true) ∧ Below w.heap.size w w' := by
  obtain ⟨av, cv, rfl, hcap, hmax, _⟩ := hv.form
  obtain ⟨l, hl⟩ : ∃ l, l = ns.length := ⟨_, rfl⟩
  rw [← hl] at hv hcap ⊢
  obtain ⟨k, hk⟩ : ∃ k, k = min l 30 := ⟨_, rfl⟩
  have hv2 := hv.take k (by omega)
  obtain ⟨ms, hms⟩ : ∃ ms, ms = ns.take k := ⟨_, rfl⟩
  rw [← hms] at hv2
  have hmz : ∀ x ∈ ms, I64 x := fun x hx => hz x (List.mem_of_mem_take (by rw [hms] at hx; exact hx))
  have hml : ms.length = k := by rw [hms, List.length_take]; omega
  have hk30 : k ≤ 30 := by omega
  obtain ⟨b, hb⟩ : ∃ b, b = fine % 5 := ⟨_, rfl⟩
  have hb4 : b ≤ 4 := by omega
  have eb : ((fine : Nat) : Int).tmod 5 = (b : Int) := by rw [Int.tmod_eq_emod_of_nonneg (by omega)]; omega
  obtain ⟨C, hC⟩ : ∃ C, C = ofC fr b ms := ⟨_, rfl⟩
  obtain ⟨u, hG, hT, hCb, hCf⟩ := ofC_good fr b ms hf hb4 hmz (by omega)
  rw [← hC] at hG hT hCb hCf
  rw [hml] at hT
  have HV := Lib.hid hv2
  have HG := Lib.hid hG
  have HT := Lib.hid hT
  have HMZ := Lib.hid hmz
  have HML := Lib.hid hml
  have HC := Lib.hid hC
  have HF := Lib.hid hf
  have hkn : k ≤ l := by omega
  have hkc : (k : Int) ≤ cv := by omega
  have hmin : min (l : Int) 30 = (k : Int) := by omega
  obtain ⟨T, hTT⟩ : ∃ T, T = strOfNums (encC C) := ⟨_, rfl⟩
  have hTl : T.data.toList = ub (encC C) := by rw [hTT, ub_data]
  have hTs : 43 ≤ T.size ∧ T.size ≤ 343 := by
    have h1 := encC_length C hG.ok
    have h2 := len_le_total C.l (fun x hx => (hG.ok.h.item x hx).1)
    rw [hT] at h2
    rw [hTT, strOfNums_size]
    rw [ub_length] at h1
    omega
  have hTs2 : (ub (encC C)).length = T.size := by rw [← hTl, Array.length_toList]; rfl
  have KP := Lib.hid (fun (x : Nat) (g : List Nat) (z : World) (kk : CellAt z x g C) => HCell.Put_any kk hG.ok)
  rw [← hTT] at KP
  have tne : T.toList.isEmpty = false := by
    rw [Lib.toList_data, hTl]
    have : (ub (encC C)).length = T.size := hTs2
    cases h : ub (encC C) with
    | nil => rw [h] at this; simp at this; omega
    | cons x r => rfl
  have tself := str_self T
  have sself := str_self s
  have hks : ¬ 9223372036854775807 < T.size + s.size := by omega
  obtain ⟨T2, hT2⟩ : ∃ T2, T2 = T ++ s := ⟨_, rfl⟩
  have HT2 := Lib.hid (show T2.data.toList = ub (encC C) ++ s.data.toList ∧ T2.size ≤ 140737488355328 by
    rw [hT2]
    refine ⟨by rw [ByteArray.data_append, Array.toList_append, hTl], ?_⟩
    rw [ByteArray.size_append]
    omega)
  obtain ⟨ct, hct⟩ : ∃ ct, ct = cut % T.size := ⟨_, rfl⟩
  have hctl : ct < T.size := by rw [hct]; exact Nat.mod_lt _ (by omega)
  have ect : ((cut : Nat) : Int).tmod (T.size : Int) = (ct : Int) := by rw [Int.tmod_eq_emod_of_nonneg (by omega), hct]; exact (Int.natCast_emod _ _).symm
  have hctle : (ct : Int) ≤ T.size := by omega
  have tnz : ¬ (T.size : Int) = 0 := by omega
  obtain ⟨T3, hT3⟩ : ∃ T3, T3 = T.extract 0 ct := ⟨_, rfl⟩
  have HT3 := Lib.hid (show T3.data.toList = (ub (encC C)).take ct ∧ T3.size ≤ 140737488355328 by
    rw [hT3]
    refine ⟨by rw [Lib.extract_data, List.drop_zero, Nat.sub_zero, hTl], by rw [ByteArray.size_extract]; omega⟩)
  have HCT := Lib.hid (show ct < (ub (encC C)).length by rw [hTs2]; exact hctl)
  have ET2 := Lib.hid hT2
  have ET3 := Lib.hid hT3
  have HTS := Lib.hid hTs
  clear hv hv2 hG hT hCb hCf hmz hml hC hf hz hms hk hb hcap hl hTT hTl hTs2 hT2 hct hT3
  go_enter Try.func5, Try.ntmps5
  go_wp2_with fail
  refine (examples_any w).mono ?_
  rintro e w1 ⟨rfl, b1⟩
  have B1 := Lib.hid b1
  have NR1 := HV.out.mono b1
  clear b1
  go_wp2_with fail
  refine (of_any w1 fr b _ ms hb4 HF.out NR1 HMZ.out (by rw [HML.out]; omega)).mono ?_
  rintro e w2 ⟨p, rfl, ⟨G, kc, oc, gc⟩, b2⟩
  rw [← HC.out] at kc oc
  have B2 := Lib.hid (B1.out.trans (b2.mono B1.out.size))
  have KC2 := Lib.hid kc
  have OC := Lib.hid oc
  have HGB := Lib.hid (show ∀ g ∈ G, w.heap.size ≤ g from fun g hg => Nat.le_trans B1.out.size (gc g hg))
  clear NR1 kc oc gc b2
  go_wp2_with fail
  refine (KP.out p G w2 KC2.out).mono ?_
  rintro e w3 ⟨rfl, b3⟩
  have B3 := Lib.hid (B2.out.trans (b3.mono B2.out.size))
  have KC3 := Lib.hid (KC2.out.mono b3)
  clear b3
  go_wp2_with fail
  refine (KP.out p G w3 KC3.out).mono ?_
  rintro e w4 ⟨rfl, b4⟩
  have B4 := Lib.hid (B3.out.trans (b4.mono B3.out.size))
  have KC4 := Lib.hid (KC3.out.mono b4)
  clear b4
  go_wp2_with fail
  rw [← ET2.out]
  refine (HCell.Get_any T2 w4 HT2.out.2).mono ?_
  rintro e w5 ⟨⟨hd, rfl⟩ | ⟨c, r, q, F, hd, rfl, kd, od, gd⟩, b5⟩
  · rw [HT2.out.1, decC_enc C OC.out HG.out.right] at hd
    cases hd
  rw [HT2.out.1, decC_enc C OC.out HG.out.right] at hd
  injection hd with hd
  injection hd with hd1 hd2
  subst hd1
  have er : r = s := ByteArray.ext (Array.toList_inj.1 hd2.symm)
  subst er
  have B5 := Lib.hid (B4.out.trans (b5.mono B4.out.size))
  have KC5 := Lib.hid (KC4.out.mono b5)
  have KD5 := Lib.hid kd
  clear b5 kd od gd hd2
  go_wp2_with fail
  rw [← ET3.out]
  refine (HCell.Get_any T3 w5 HT3.out.2).mono ?_
  rintro e w6 ⟨⟨hd, rfl⟩ | ⟨c, z, q', F', hd, rfl, kd, od, gd⟩, b6⟩
  rotate_left
  · rw [HT3.out.1, decC_cut _ OC.out ct HCT.out] at hd
    cases hd
  have B6 := Lib.hid (B5.out.trans (b6.mono B5.out.size))
  have KC6 := Lib.hid (KC5.out.mono b6)
  have KD6 := Lib.hid (KD5.out.mono b6)
  clear b6 hd
  go_wp2_with fail
  refine (HCell.Copy_any KC6.out OC.out).mono ?_
  rintro e w7 ⟨y, Y, rfl, ky, gy, b7⟩
  have B7 := Lib.hid (B6.out.trans (b7.mono B6.out.size))
  have KC7 := Lib.hid (KC6.out.mono b7)
  have KD7 := Lib.hid (KD6.out.mono b7)
  have KY7 := Lib.hid ky
  have HGY := Lib.hid (show ∀ x ∈ G, x ∉ Y from fun x hx hm => by have h1 := (KC6.out.own.mem x hx).2; have h2 := gy x hm; omega)
  have HFY := Lib.hid (show ∀ x ∈ F, x ∉ Y from fun x hx hm => by have h1 := (KD6.out.own.mem x hx).2; have h2 := gy x hm; omega)
  have HYB := Lib.hid (show ∀ x ∈ Y, w.heap.size ≤ x from fun x hx => Nat.le_trans B6.out.size (gy x hx))
  clear ky gy b7
  go_wp2_with fail
  obtain ⟨m1, m2, m3⟩ := HG.out.add (i64_ex 1 (by decide)) (by rw [HT.out]; omega)
  have KA := HCell.Add_any KY7.out OC.out 1 (i64_ex 1 (by decide))
  refine KA.mono ?_
  rintro e w8 ⟨rfl, Y', ky, ty⟩
  have KY8 := Lib.hid ky
  have KC8 := Lib.hid (KC7.out.same fun x hx => ty.chg.block x (KC7.out.own.mem x hx).2 (HGY.out x hx))
  have KD8 := Lib.hid (KD7.out.same fun x hx => ty.chg.block x (KD7.out.own.mem x hx).2 (HFY.out x hx))
  have B8 := Lib.hid (show Below w.heap.size w w8 from B7.out.trans (ty.chg.below (fun x hx => HYB.out x hx) B7.out.size))
  rw [HT.out] at m3
  have M3 := Lib.hid m3
  clear ky ty KA m1 m2 m3
  go_wp2_with fail
  refine (HCell.Spread_any KC8.out OC.out).mono ?_
  rintro e w9 ⟨z, Z, rfl, kz, gz, b9⟩
  have B9 := Lib.hid (B8.out.trans (b9.mono B8.out.size))
  have KC9 := Lib.hid (KC8.out.mono b9)
  have KD9 := Lib.hid (KD8.out.mono b9)
  have KY9 := Lib.hid (KY8.out.mono b9)
  have KA := HHist.Add_any kz OC.out.h 7 (i64_ex 7 (by decide))
  go_wp2_with fail
  refine KA.mono ?_
  rintro e w10 ⟨rfl, Z', kz', tz⟩
  have hz : ∀ x, x < w8.heap.size → x ∉ Z := fun x hx hm => by have := gz x hm; omega
  have KC10 := Lib.hid (KC9.out.same fun x hx => tz.chg.block x (KC9.out.own.mem x hx).2 (hz x (KC8.out.own.mem x hx).2))
  have KD10 := Lib.hid (KD9.out.same fun x hx => tz.chg.block x (KD9.out.own.mem x hx).2 (hz x (KD8.out.own.mem x hx).2))
  have KY10 := Lib.hid (KY9.out.same fun x hx => tz.chg.block x (KY9.out.own.mem x hx).2 (hz x (KY8.out.own.mem x hx).2))
  have B10 := Lib.hid (show Below w.heap.size w w10 from B9.out.trans (tz.chg.below (fun x hx => Nat.le_trans B8.out.size (gz x hx)) B9.out.size))
  clear kz gz b9 KA kz' tz hz
  obtain ⟨h1, R1, _, _, kb1, kh1⟩ := KC10.out.ex
  obtain ⟨h2, R2, _, _, kb2, kh2⟩ := KY10.out.ex
  obtain ⟨p0, _⟩ := kb1.cells
  obtain ⟨y0, _⟩ := kb2.cells
  obtain ⟨N1, hN1⟩ : ∃ N1, N1 = k + 1 := ⟨_, rfl⟩
  have en1 : (k : Int) + 1 = (N1 : Int) := by omega
  have ew1 : IntKind.u64.wrap (N1 : Int) = (N1 : Int) := by rw [u64w]; unfold B64; omega
  have K1 := Lib.hid (show ∀ v, Below w10.heap.size w10 v → Calls Try.prog 27 #[.pointer (some ⟨p, 0, none⟩), .pointer (some ⟨q, 0, none⟩)] v fun e w' => e = .returned (.bool true) ∧ Below v.heap.size v w' from fun v hv => Same_yes (KC10.out.mono hv) (KD10.out.mono hv) OC.out OC.out rfl)
  have K2 := Lib.hid (show ∀ v, Below w10.heap.size w10 v → Calls Try.prog 19 #[.pointer (some ⟨p, 0, none⟩)] v fun e w' => e = .returned (.string T) ∧ Below v.heap.size v w' from fun v hv => KP.out p G v (KC10.out.mono hv))
  have K3 := Lib.hid (show ∀ v, Below w10.heap.size w10 v → Calls Try.prog 28 #[.pointer (some ⟨h1, 0, none⟩)] v fun e w' => e = .returned (.int .u64 (k : Nat)) ∧ Below v.heap.size v w' from fun v hv => by
    have := count_q kh1 v hv; rw [HT.out] at this; exact this)
  have K4 := Lib.hid (show ∀ v, Below w10.heap.size w10 v → Calls Try.prog 28 #[.pointer (some ⟨h2, 0, none⟩)] v fun e w' => e = .returned (.int .u64 (N1 : Nat)) ∧ Below v.heap.size v w' from fun v hv => by
    have := count_q kh2 v hv; rw [M3.out] at this; rw [hN1]; exact this)
  have t3 : ((N1 : Int) == (N1 : Int)) = true := by simp
  clear kb1 kb2 kh1 kh2 hN1
  go_wp2_with fail
  refine wp_region_quiet (C := fun w' => Below w10.heap.size w10 w') (by kernel_rfl) (by kernel_rfl) ((Below.refl _ _).drew) ?_
  repeat (
    with_reducible refine wpQuiet_step (fun K hK => ?_)
    go_simp
    first
      | (with_reducible refine hK _ ?_; clear hK K)
      | (apply Exists.intro
         refine ⟨fun v hv => ?_, hK _ ?_⟩
         (first
           | with_reducible rfl
           | (with_reducible show Calls _ _ _ _ _
              first
                | with_reducible refine Calls.mono (K1.out _ hv) ?_
                | with_reducible refine Calls.mono (K2.out _ hv) ?_
                | with_reducible refine Calls.mono (K3.out _ hv) ?_
                | with_reducible refine Calls.mono (K4.out _ hv) ?_
              rintro e w' ⟨rfl, hb⟩
              exact ⟨rfl, hv.trans (hb.mono hv.size)⟩)
           | (have d0 := (hv.cell (World.block_lt_of_cell? _ _ p0)).trans p0
              have d1 := (hv.cell (World.block_lt_of_cell? _ _ y0)).trans y0
              go_simp
              with_reducible rfl))
         clear hK K))
  refine wpQuiet_nil ?_
  intro w11 b11
  have B11 := Lib.hid (B10.out.trans (b11.mono B10.out.size))
  clear b11 K1 K2 K3 K4
  go_wp2
  go_ret
  exact ⟨by first | rfl | simp, B11.out⟩
theorem CellBack_int (w : World) (fr : Int) (fine : Int) (v : Value) (ns : List Int) (s : ByteArray) (cut : Int) (hf : I64 fr) (hfi : 0 ≤ fine ∧ fine ≤ 255) (hv : NRow .i64 w v ns) (hz : ∀ x ∈ ns, I64 x) (hs : s.size ≤ 140737488351232) (hcut : 0 ≤ cut ∧ cut ≤ 65535) :
    Calls Try.prog 5 #[.int .i64 fr, .int .u8 fine, v, .string s, .int .u16 cut] w fun e w' => e = .returned (.bool true) ∧ Below w.heap.size w w' := by
  obtain ⟨m, rfl⟩ := Int.eq_ofNat_of_zero_le hfi.1
  obtain ⟨c, rfl⟩ := Int.eq_ofNat_of_zero_le hcut.1
  exact CellBack_any w fr m v ns s c hf (by omega) hv hz hs (by omega)
end Go.Proofs.Ytgafnilcmhjpcaa.HCell
