/- CellMoves: moved it begins elsewhere, and is the same else; what is added to one is not in the other. Conditions: the parameters' ranges. -/
import Derived.Test.YtgafnilcmhjpcaaCellEx
namespace Go.Proofs.Ytgafnilcmhjpcaa.HCell
set_option linter.unusedVariables false
open Go.RowKit Go.Proofs.Ytgafnilcmhjpcaa.HMem Go.Proofs.Ytgafnilcmhjpcaa.HHist Go.Proofs.Ytgafnilcmhjpcaa.HWide
open Go.Proofs.Ytgafnilcmhjpcaa.Print (I64)

theorem addC_bf (c : CM) (n : Int) : (addC c n).1.b = c.b ∧ (addC c n).1.fr = c.fr := by
  unfold addC
  split
  · exact ⟨rfl, rfl⟩
  · exact ⟨(takeC_b _ _ _ _ _ _).1, (takeC_b _ _ _ _ _ _).2.2⟩
theorem fold_good : ∀ (ns : List Int) (c : CM) (v : Int), Good c v → (∀ x ∈ ns, I64 x) → HHist.total c.l + ns.length ≤ 1099511627776 →
    ∃ u, Good (ns.foldl (fun c n => (addC c n).1) c) u ∧ HHist.total (ns.foldl (fun c n => (addC c n).1) c).l = HHist.total c.l + ns.length ∧ (ns.foldl (fun c n => (addC c n).1) c).b = c.b ∧ (ns.foldl (fun c n => (addC c n).1) c).fr = c.fr
  | [], c, v, h, _, _ => ⟨v, h, rfl, rfl, rfl⟩
  | n :: r, c, v, h, hz, hl => by
    rw [List.length_cons] at hl
    obtain ⟨h1, h2, h3⟩ := h.add (hz n (by simp)) (by omega)
    obtain ⟨u, k1, k2, k3, k4⟩ := fold_good r _ _ h1 (fun x hx => hz x (by simp [hx])) (by rw [h3]; omega)
    refine ⟨u, k1, ?_, k3.trans (addC_bf c n).1, k4.trans (addC_bf c n).2⟩
    rw [List.foldl_cons, k2, h3, List.length_cons]
    omega
theorem ofC_good (fr : Int) (b : Nat) (ns : List Int) (hf : I64 fr) (hb : b ≤ 4) (hz : ∀ x ∈ ns, I64 x) (hl : ns.length ≤ 1000) :
    ∃ u, Good (ofC fr b ns) u ∧ HHist.total (ofC fr b ns).l = ns.length ∧ (ofC fr b ns).b = b ∧ (ofC fr b ns).fr = fr := by
  obtain ⟨u, h1, h2, h3, h4⟩ := fold_good ns _ _ (Good.new fr b hf hb) hz (by simp [newC, HHist.total]; omega)
  exact ⟨u, h1, by unfold ofC; rw [h2]; simp [newC, HHist.total], h3, h4⟩
set_option maxHeartbeats 8000000 in
set_option maxRecDepth 20000 in
theorem CellMoves_any (w : World) (fr tgt : Int) (fine : Nat) (v : Value) (ns : List Int) (n : Int) (hf : I64 fr) (ht : I64 tgt) (hfi : fine < 256) (hv : NRow .i64 w v ns) (hz : ∀ x ∈ ns, I64 x) (hn : I64 n) :
    Calls Try.prog 8 #[.int .i64 fr, .int .i64 tgt, .int .u8 fine, v, .int .i64 n] w fun e w' => e = .returned (.bool true) ∧ Below w.heap.size w w' := by
  obtain ⟨av, cv, rfl, hcap, hmax, _⟩ := hv.form
  obtain ⟨l, hl⟩ : ∃ l, l = ns.length := ⟨_, rfl⟩
  rw [← hl] at hv hcap ⊢
  obtain ⟨k, hk⟩ : ∃ k, k = min l 20 := ⟨_, rfl⟩
  have hv2 := hv.take k (by omega)
  obtain ⟨ms, hms⟩ : ∃ ms, ms = ns.take k := ⟨_, rfl⟩
  rw [← hms] at hv2
  have hmz : ∀ x ∈ ms, I64 x := fun x hx => hz x (List.mem_of_mem_take (by rw [hms] at hx; exact hx))
  have hml : ms.length = k := by rw [hms, List.length_take]; omega
  have hk20 : k ≤ 20 := by omega
  obtain ⟨b, hb⟩ : ∃ b, b = fine % 5 := ⟨_, rfl⟩
  have hb4 : b ≤ 4 := by omega
  have eb : ((fine : Nat) : Int).tmod 5 = (b : Int) := by rw [Int.tmod_eq_emod_of_nonneg (by omega)]; omega
  obtain ⟨C, hC⟩ : ∃ C, C = ofC fr b ms := ⟨_, rfl⟩
  obtain ⟨u, hG, hT, hCb, hCf⟩ := ofC_good fr b ms hf hb4 hmz (by omega)
  rw [← hC] at hG hT hCb hCf
  rw [hml] at hT
  have HV := Lib.hid hv2
  have HG := Lib.hid hG
  have HT := Lib.hid hT
  have HCF := Lib.hid hCf
  have HMZ := Lib.hid hmz
  have HML := Lib.hid hml
  have HC := Lib.hid hC
  have HF := Lib.hid (And.intro hf ht)
  have HNN := Lib.hid hn
  have hkn : k ≤ l := by omega
  have hkc : (k : Int) ≤ cv := by omega
  have hmin : min (l : Int) 20 = (k : Int) := by omega
  clear hv hv2 hG hT hCf hmz hml hC hf ht hn hz hms hk hb hcap hl
  go_enter Try.func8, Try.ntmps8
  go_wp2_with fail
  refine (examples_any w).mono ?_
  rintro e w1 ⟨rfl, b1⟩
  have B1 := Lib.hid b1
  have NR1 := HV.out.mono b1
  clear b1
  go_wp2_with fail
  refine (of_any w1 fr b _ ms hb4 HF.out.1 NR1 HMZ.out (by rw [HML.out]; omega)).mono ?_
  rintro e w2 ⟨p, rfl, ⟨G, kc, oc, gc⟩, b2⟩
  rw [← HC.out] at kc oc
  have B2 := Lib.hid (B1.out.trans (b2.mono B1.out.size))
  have KC2 := Lib.hid kc
  have OC := Lib.hid oc
  have HGB := Lib.hid (show ∀ g ∈ G, w.heap.size ≤ g from fun g hg => Nat.le_trans B1.out.size (gc g hg))
  clear NR1 kc oc gc b2
  go_wp2_with fail
  refine (HCell.Move_any KC2.out OC.out tgt).mono ?_
  rintro e w3 ⟨q, F, rfl, kd, gd, b3⟩
  have B3 := Lib.hid (B2.out.trans (b3.mono B2.out.size))
  have KC3 := Lib.hid (KC2.out.mono b3)
  have KD3 := Lib.hid kd
  have HGF := Lib.hid (show ∀ x ∈ G, x ∉ F from fun x hx hm => by have h1 := (KC2.out.own.mem x hx).2; have h2 := gd x hm; omega)
  have OD := Lib.hid (OC.out.move HF.out.2)
  have HFB := Lib.hid (show ∀ g ∈ F, w.heap.size ≤ g from fun g hg => Nat.le_trans B2.out.size (gd g hg))
  clear kd gd b3
  go_wp2_with fail
  refine (HCell.Move_any KD3.out OD.out fr).mono ?_
  rintro e w4 ⟨r, R, rfl, kr, gr, b4⟩
  have er : moveC (moveC C tgt) fr = C := by unfold moveC; simp only; rw [← HCF.out]
  rw [er] at kr
  have B4 := Lib.hid (B3.out.trans (b4.mono B3.out.size))
  have KC4 := Lib.hid (KC3.out.mono b4)
  have KD4 := Lib.hid (KD3.out.mono b4)
  have KR4 := Lib.hid kr
  have HGR := Lib.hid (show ∀ x ∈ G, x ∉ R from fun x hx hm => by have h1 := (KC3.out.own.mem x hx).2; have h2 := gr x hm; omega)
  have HFR := Lib.hid (show ∀ x ∈ F, x ∉ R from fun x hx hm => by have h1 := (KD3.out.own.mem x hx).2; have h2 := gr x hm; omega)
  clear kr gr b4 er
  obtain ⟨T, hT⟩ : ∃ T, T = strOfNums (encC C) := ⟨_, rfl⟩
  have KP := Lib.hid (fun (x : Nat) (g : List Nat) (z : World) (kk : CellAt z x g C) => HCell.Put_any kk OC.out)
  rw [← hT] at KP
  clear hT
  go_wp2_with fail
  refine (KP.out p G w4 KC4.out).mono ?_
  rintro e w5 ⟨rfl, b5⟩
  have B5 := Lib.hid (B4.out.trans (b5.mono B4.out.size))
  have KC5 := Lib.hid (KC4.out.mono b5)
  have KD5 := Lib.hid (KD4.out.mono b5)
  have KR5 := Lib.hid (KR4.out.mono b5)
  clear b5
  go_wp2_with fail
  obtain ⟨D, hD⟩ : ∃ D, D = (addC (moveC C tgt) n).1 := ⟨_, rfl⟩
  have KA := HCell.Add_any KD5.out OD.out n HNN.out
  rw [← hD] at KA
  refine KA.mono ?_
  rintro e w6 ⟨rfl, F', kd, td⟩
  have hsG : Same G w5 w6 := fun x hx => td.chg.block x (KC5.out.own.mem x hx).2 (HGF.out x hx)
  have hsR : Same R w5 w6 := fun x hx => td.chg.block x (KR5.out.own.mem x hx).2 (fun hm => HFR.out x hm hx)
  have KC6 := Lib.hid (KC5.out.same hsG)
  have KR6 := Lib.hid (KR5.out.same hsR)
  have KD6 := Lib.hid kd
  have HGF' := Lib.hid (show ∀ x ∈ G, x ∉ F' from fun x hx hm => by
    rcases td.foot x hm with h | h
    · exact HGF.out x hx h
    · have := (KC5.out.own.mem x hx).2; omega)
  have hDt : HHist.total D.l = k + 1 ∧ D.fr = tgt := by
    have hm : Good (moveC C tgt) u := ⟨OD.out, HG.out.sum, HG.out.none, HG.out.some⟩
    have h3 := (hm.add HNN.out (by show HHist.total C.l < _; rw [HT.out]; omega)).2.2
    rw [hD]
    exact ⟨by rw [h3]; show HHist.total C.l + 1 = _; rw [HT.out], (addC_bf _ _).2⟩
  have HDT := Lib.hid hDt
  have B6 := Lib.hid (show Below w.heap.size w w6 from B5.out.trans (td.chg.below (fun x hx => HFB.out x hx) B5.out.size))
  clear kd td hsG hsR KA hD hDt
  go_wp2_with fail
  refine (HCell.Copy_any KC6.out OC.out).mono ?_
  rintro e w7 ⟨s, S, rfl, ks, gs, b7⟩
  have B7 := Lib.hid (B6.out.trans (b7.mono B6.out.size))
  have KC7 := Lib.hid (KC6.out.mono b7)
  have KR7 := Lib.hid (KR6.out.mono b7)
  have KD7 := Lib.hid (KD6.out.mono b7)
  have HGS := Lib.hid (show ∀ x ∈ G, x ∉ S from fun x hx hm => by have h1 := (KC6.out.own.mem x hx).2; have h2 := gs x hm; omega)
  have KS7 := Lib.hid ks
  clear ks gs b7
  obtain ⟨m1, m2, m3⟩ := HG.out.merge HG.out rfl (by rw [HT.out]; omega)
  have KM := HCell.Merge_any KC7.out KS7.out OC.out OC.out HGS.out
  rw [m2] at KM
  obtain ⟨E, hE⟩ : ∃ E, E = (mergeC C C).1 := ⟨_, rfl⟩
  rw [← hE] at KM m1 m3
  have M1 := Lib.hid m1
  rw [HT.out] at m3
  have M3 := Lib.hid m3
  clear m1 m2 m3 hE
  go_wp2_with fail
  refine KM.mono ?_
  rintro e w8 ⟨rfl, G', ke, te⟩
  have KE8 := Lib.hid ke
  have KR8 := Lib.hid (KR7.out.same fun x hx => te.chg.block x (KR7.out.own.mem x hx).2 (fun hm => HGR.out x hm hx))
  have KD8 := Lib.hid (KD7.out.same fun x hx => te.chg.block x (KD7.out.own.mem x hx).2 (fun hm => HGF'.out x hm hx))
  have B8 := Lib.hid (show Below w.heap.size w w8 from B7.out.trans (te.chg.below (fun x hx => HGB.out x hx) B7.out.size))
  clear ke te KM
  obtain ⟨h1, R1, _, _, kb1, kh1⟩ := KE8.out.ex
  obtain ⟨h2, R2, _, _, kb2, kh2⟩ := KD8.out.ex
  obtain ⟨h3, R3, _, _, kb3, kh3⟩ := KR8.out.ex
  obtain ⟨p0, _⟩ := kb1.cells
  obtain ⟨q0, _⟩ := kb2.cells
  obtain ⟨r0, _⟩ := kb3.cells
  obtain ⟨N1, hN1⟩ : ∃ N1, N1 = k + 1 := ⟨_, rfl⟩
  obtain ⟨N2, hN2⟩ : ∃ N2, N2 = 2 * k := ⟨_, rfl⟩
  have en1 : (k : Int) + 1 = (N1 : Int) := by omega
  have en2 : (2 : Int) * (k : Int) = (N2 : Int) := by omega
  have ew1 : IntKind.u64.wrap (N1 : Int) = (N1 : Int) := by rw [u64w]; unfold B64; omega
  have ew2 : IntKind.u64.wrap (N2 : Int) = (N2 : Int) := by rw [u64w]; unfold B64; omega
  obtain ⟨S, hS⟩ : ∃ S, S = C.s := ⟨_, rfl⟩
  obtain ⟨S2, hS2⟩ : ∃ S2, S2 = E.s := ⟨_, rfl⟩
  have K1 := Lib.hid (show ∀ v, Below w8.heap.size w8 v → Calls Try.prog 19 #[.pointer (some ⟨r, 0, none⟩)] v fun e w' => e = .returned (.string T) ∧ Below v.heap.size v w' from fun v hv => KP.out r R v (KR8.out.mono hv))
  have K2 := Lib.hid (show ∀ v, Below w8.heap.size w8 v → Calls Try.prog 31 #[.pointer (some ⟨q, 0, none⟩)] v fun e w' => e = .returned (.int .i64 tgt) ∧ Below v.heap.size v w' from fun v hv => by rw [← HDT.out.2]; exact HCell.From_any (kb2.mono hv))
  have K3 := Lib.hid (show ∀ v, Below w8.heap.size w8 v → Calls Try.prog 28 #[.pointer (some ⟨h2, 0, none⟩)] v fun e w' => e = .returned (.int .u64 (N1 : Nat)) ∧ Below v.heap.size v w' from fun v hv => by
    have := count_q kh2 v hv; rw [HDT.out.1] at this; rw [hN1]; exact this)
  have K4 := Lib.hid (show ∀ v, Below w8.heap.size w8 v → Calls Try.prog 28 #[.pointer (some ⟨h3, 0, none⟩)] v fun e w' => e = .returned (.int .u64 (k : Nat)) ∧ Below v.heap.size v w' from fun v hv => by
    have := count_q kh3 v hv; rw [HT.out] at this; exact this)
  have K5 := Lib.hid (show ∀ v, Below w8.heap.size w8 v → Calls Try.prog 28 #[.pointer (some ⟨h1, 0, none⟩)] v fun e w' => e = .returned (.int .u64 (N2 : Nat)) ∧ Below v.heap.size v w' from fun v hv => by
    have := count_q kh1 v hv; rw [M3.out] at this; rw [hN2, Nat.two_mul]; exact this)
  have K6 := Lib.hid (show ∀ v, Below w8.heap.size w8 v → Calls Try.prog 30 #[.pointer (some ⟨p, 0, none⟩)] v fun e w' => e = .returned (.agg #[.int .i64 S2.1, .int .u64 S2.2]) ∧ Below v.heap.size v w' from fun v hv => by rw [hS2]; exact HCell.Sum_any (kb1.mono hv))
  have K7 := Lib.hid (show ∀ v, Below w8.heap.size w8 v → Calls Try.prog 30 #[.pointer (some ⟨r, 0, none⟩)] v fun e w' => e = .returned (.agg #[.int .i64 S.1, .int .u64 S.2]) ∧ Below v.heap.size v w' from fun v hv => by rw [hS]; exact HCell.Sum_any (kb3.mono hv))
  have K8 := Lib.hid (show ∀ v, Below w8.heap.size w8 v → Calls Try.prog 20 #[.agg #[.int .i64 S.1, .int .u64 S.2], .agg #[.int .i64 S.1, .int .u64 S.2]] v fun e w' => e = .returned (.agg #[.int .i64 S2.1, .int .u64 S2.2]) ∧ Below v.heap.size v w' from fun v hv => by
    have hr := HG.out.ok.rng
    unfold Rng at hr
    rw [← hS] at hr
    have := HWide.Add_any S.1 S.2 S.1 S.2 v hr.2.2.1 hr.2.2.2 hr.2.2.1 hr.2.2.2
    have e2 : HWide.val S.1 S.2 = u := by rw [hS]; exact HG.out.val
    have e3 : S2 = nrm (u + u) := by rw [hS2]; exact M1.out.sum
    rw [e2, ← e3] at this
    exact this)
  have t1 := str_self T
  have t2 : (tgt == tgt) = true := by simp
  have t3 : ((N1 : Int) == (N1 : Int)) = true := by simp
  have t4 : ((N2 : Int) == (N2 : Int)) = true := by simp
  have t5 : (S2.1 == S2.1) = true := by simp
  have t6 : (S2.2 == S2.2) = true := by simp
  clear kb1 kb2 kb3 kh1 kh2 kh3 hN1 hN2 hS hS2
  go_wp2_with fail
  refine wp_region_quiet (C := fun w' => Below w8.heap.size w8 w') (by kernel_rfl) (by kernel_rfl) ((Below.refl _ _).drew) ?_
  repeat (
    with_reducible refine wpQuiet_step (fun K hK => ?_)
    go_simp
    first
      | (with_reducible refine hK _ ?_; clear hK K)
      | (refine hK _ ?_; clear hK K)
      | (apply Exists.intro
         refine ⟨fun v hv => ?_, hK _ ?_⟩
         (first
           | with_reducible rfl
           | (with_reducible show Calls _ _ _ _ _
              first
                | with_reducible refine Calls.mono (K1.out _ hv) ?_
                | with_reducible refine Calls.mono (K2.out _ hv) ?_
                | with_reducible refine Calls.mono (K3.out _ hv) ?_
                | with_reducible refine Calls.mono (K4.out _ hv) ?_
                | with_reducible refine Calls.mono (K5.out _ hv) ?_
                | with_reducible refine Calls.mono (K6.out _ hv) ?_
                | with_reducible refine Calls.mono (K7.out _ hv) ?_
                | with_reducible refine Calls.mono (K8.out _ hv) ?_
              rintro e w' ⟨rfl, hb⟩
              exact ⟨rfl, hv.trans (hb.mono hv.size)⟩)
           | (have d0 := (hv.cell (World.block_lt_of_cell? _ _ p0)).trans p0
              have d1 := (hv.cell (World.block_lt_of_cell? _ _ q0)).trans q0
              have d2 := (hv.cell (World.block_lt_of_cell? _ _ r0)).trans r0
              go_simp
              with_reducible rfl))
         clear hK K))
  refine wpQuiet_nil ?_
  intro w9 b9
  have B9 := Lib.hid (B8.out.trans (b9.mono B8.out.size))
  clear b9 K1 K2 K3 K4 K5 K6 K7 K8
  go_wp2
  go_ret
  exact ⟨by first | rfl | simp, B9.out⟩
theorem CellMoves_int (w : World) (fr tgt : Int) (fine : Int) (v : Value) (ns : List Int) (n : Int) (hf : I64 fr) (ht : I64 tgt) (hfi : 0 ≤ fine ∧ fine ≤ 255) (hv : NRow .i64 w v ns) (hz : ∀ x ∈ ns, I64 x) (hn : I64 n) :
    Calls Try.prog 8 #[.int .i64 fr, .int .i64 tgt, .int .u8 fine, v, .int .i64 n] w fun e w' => e = .returned (.bool true) ∧ Below w.heap.size w w' := by
  obtain ⟨m, rfl⟩ := Int.eq_ofNat_of_zero_le hfi.1
  exact CellMoves_any w fr tgt m v ns n hf ht (by omega) hv hz hn
end Go.Proofs.Ytgafnilcmhjpcaa.HCell
