/- The reference's cells: Get, walked: what bytes tell. Conditions: the text's size. -/
import Derived.Test.YtgafnilcmhjpcaaRCell4
import Derived.Test.YtgafnilcmhjpcaaCellRead
import Derived.Test.YtgafnilcmhjpcaaRefAll
namespace Go.Proofs.Ytgafnilcmhjpcaa.HCell
set_option linter.unusedVariables false
open Go.RowKit Go.Proofs.Ytgafnilcmhjpcaa.HMem Go.Proofs.Ytgafnilcmhjpcaa.HHist Go.Proofs.Ytgafnilcmhjpcaa.HWide
open Go.Proofs.Ytgafnilcmhjpcaa.Print (I64)

/-- What the reference's Get answers. -/
def RGetCAns (w : World) (l : List UInt8) (e : Ending) (w' : World) : Prop :=
  ((decC l = none ∧ e = .returned (.tuple #[.pointer none, .string ⟨#[]⟩, .int .i64 2])) ∨
   ∃ c r p G, decC l = some (c, r.data.toList) ∧ e = .returned (.tuple #[.pointer (some ⟨p, 0, none⟩), .string r, .int .i64 0]) ∧ RCellAt w' p G c ∧ COk c ∧ ∀ g ∈ G, w.heap.size ≤ g) ∧ Below w.heap.size w w'
theorem rnum_q (s : ByteArray) (hs : s.size ≤ 8) (v : World) : Calls Try.prog 49 #[.string s] v fun e w' => e = .returned (.int .u64 (num s.data.toList : Nat)) ∧ Below v.heap.size v w' :=
  (rNumber_any s v hs).mono fun e w' ⟨h1, h2⟩ => ⟨h1, by subst h2; exact Below.refl _ _⟩
set_option maxHeartbeats 4000000 in
set_option maxRecDepth 20000 in
theorem rcGet_any (s : ByteArray) (w : World) (hs : s.size ≤ 140737488355328) : Calls Try.prog 15 #[.string s] w (RGetCAns w s.data.toList) := by
  have hll : s.data.toList.length = s.size := by rw [Array.length_toList]; rfl
  by_cases h40 : s.size < 40
  · have t0 : decide ((s.size : Int) < 40) = true := by simp; omega
    have EN := Lib.hid (show decC s.data.toList = none by unfold decC; rw [hll, if_pos h40])
    clear h40 hll
    go_enter Try.func15, Try.ntmps15
    go_wp2
    go_ret3
    exact ⟨.inl ⟨EN.out, rfl⟩, Below.refl _ _⟩
  · have t0 : decide ((s.size : Int) < 40) = false := by simp; omega
    have t8 : (8 : Int) ≤ s.size := by omega
    have t24 : (24 : Int) ≤ s.size := by omega
    have t32 : (32 : Int) ≤ s.size := by omega
    have t40 : (40 : Int) ≤ s.size := by omega
    obtain ⟨A, hA⟩ : ∃ A, A = s.extract 8 24 := ⟨_, rfl⟩
    obtain ⟨A1, hA1⟩ : ∃ A, A = s.extract 0 8 := ⟨_, rfl⟩
    obtain ⟨A2, hA2⟩ : ∃ A, A = s.extract 24 32 := ⟨_, rfl⟩
    obtain ⟨A3, hA3⟩ : ∃ A, A = s.extract 32 40 := ⟨_, rfl⟩
    obtain ⟨S, hS⟩ : ∃ S, S = s.extract 40 s.size := ⟨_, rfl⟩
    have sA : A.size = 16 := by rw [hA, ByteArray.size_extract]; omega
    have sA1 : A1.size ≤ 8 := by rw [hA1, ByteArray.size_extract]; omega
    have sA2 : A2.size ≤ 8 := by rw [hA2, ByteArray.size_extract]; omega
    have sA3 : A3.size ≤ 8 := by rw [hA3, ByteArray.size_extract]; omega
    have hSs : S.size ≤ 140737488355328 := by rw [hS, ByteArray.size_extract]; omega
    have ESL := Lib.hid (show S.data.toList = s.data.toList.drop 40 by
      rw [hS, Lib.extract_data, List.take_of_length_le (by rw [List.length_drop]; omega)])
    have lA : A.data.toList = (s.data.toList.drop 8).take 16 := by rw [hA, Lib.extract_data]
    have lA1 : A1.data.toList = s.data.toList.take 8 := by rw [hA1, Lib.extract_data, List.drop_zero]
    have lA2 : A2.data.toList = (s.data.toList.drop 24).take 8 := by rw [hA2, Lib.extract_data]
    have lA3 : A3.data.toList = (s.data.toList.drop 32).take 8 := by rw [hA3, Lib.extract_data]
    have H40 := Lib.hid h40
    have HLL := Lib.hid hll
    obtain ⟨m, hm⟩ : ∃ x, x = sumL ((s.data.toList.drop 8).take 16) := ⟨_, rfl⟩
    obtain ⟨n1, hn1⟩ : ∃ x, x = num A1.data.toList := ⟨_, rfl⟩
    obtain ⟨n2, hn2⟩ : ∃ x, x = num A2.data.toList := ⟨_, rfl⟩
    obtain ⟨n3, hn3⟩ : ∃ x, x = num A3.data.toList := ⟨_, rfl⟩
    obtain ⟨y1, hy1⟩ : ∃ x, x = i8of s.data.toList := ⟨_, rfl⟩
    obtain ⟨y2, hy2⟩ : ∃ x, x = i8of (s.data.toList.drop 24) := ⟨_, rfl⟩
    obtain ⟨y3, hy3⟩ : ∃ x, x = i8of (s.data.toList.drop 32) := ⟨_, rfl⟩
    have w1 : IntKind.i64.wrap (n1 : Int) = y1 := by rw [hn1, lA1, hy1]; rfl
    have w2 : IntKind.i64.wrap (n2 : Int) = y2 := by rw [hn2, lA2, hy2]; rfl
    have w3 : IntKind.i64.wrap (n3 : Int) = y3 := by rw [hn3, lA3, hy3]; rfl
    have ERAW := Lib.hid (show ∀ b il, rawC s.data.toList b il = ⟨y1, m, y2, y3, b, il⟩ from fun b il => by unfold rawC; rw [hm, hy1, hy2, hy3])
    have KM := Lib.hid (show ∀ v, Calls Try.prog 47 #[.string A] v fun e w' => e = .returned (.tuple #[.agg #[.int .i64 m.1, .int .u64 m.2], .bool true]) ∧ Below v.heap.size v w' from fun v => by
      have := rWGet_any A v sA
      rw [lA, ← hm] at this
      exact this)
    have N1 := Lib.hid (show ∀ v, Calls Try.prog 49 #[.string A1] v fun e w' => e = .returned (.int .u64 (n1 : Nat)) ∧ Below v.heap.size v w' from fun v => by rw [hn1]; exact rnum_q A1 sA1 v)
    have N2 := Lib.hid (show ∀ v, Calls Try.prog 49 #[.string A2] v fun e w' => e = .returned (.int .u64 (n2 : Nat)) ∧ Below v.heap.size v w' from fun v => by rw [hn2]; exact rnum_q A2 sA2 v)
    have N3 := Lib.hid (show ∀ v, Calls Try.prog 49 #[.string A3] v fun e w' => e = .returned (.int .u64 (n3 : Nat)) ∧ Below v.heap.size v w' from fun v => by rw [hn3]; exact rnum_q A3 sA3 v)
    replace hA := hA.symm
    replace hA1 := hA1.symm
    replace hA2 := hA2.symm
    replace hA3 := hA3.symm
    replace hS := hS.symm
    clear sA sA1 sA2 sA3 lA lA1 lA2 lA3 hn1 hn2 hn3 hy1 hy2 hy3 hm h40 hll
    go_enter Try.func15, Try.ntmps15
    go_wp2_with fail
    refine (KM.out w).mono ?_
    rintro e v1 ⟨rfl, b1⟩
    obtain ⟨X, hX⟩ : ∃ X, X = v1.heap.size := ⟨_, rfl⟩
    obtain ⟨V, hV⟩ : ∃ V, V = v1.alloc (.cells #[.int .i64 m.1, .int .u64 m.2] 71) := ⟨_, rfl⟩
    have TX := Lib.hid (show rtwo V X m by rw [hV, hX]; exact heap_alloc_new v1 _)
    have BV := Lib.hid (show Below w.heap.size w V by rw [hV]; exact b1.alloc b1.size _)
    have HV := Lib.hid hV
    have HX := Lib.hid hX
    clear hV hX b1
    go_wp2_with fail
    rw [← HV.out, ← HX.out]
    refine (HHist.rGet_any S V hSs).mono ?_
    rintro e v2 (⟨hd, rfl, b2⟩ | ⟨b, l, r, ph, G, hd, rfl, hh, hok, hG, b2⟩)
    · have EN := Lib.hid (show decC s.data.toList = none by unfold decC; rw [HLL.out, if_neg H40.out, ← ESL.out, hd])
      have B2 := Lib.hid (BV.out.trans (b2.mono BV.out.size))
      clear hd b2
      go_wp2
      go_ret3
      exact ⟨.inl ⟨EN.out, rfl⟩, B2.out⟩
    · have HD := Lib.hid hd
      have HH := Lib.hid hh
      have HOK := Lib.hid hok
      have HG := Lib.hid (show ∀ g ∈ G, w.heap.size ≤ g from fun g hg => Nat.le_trans BV.out.size (hG g hg))
      have B2 := Lib.hid (BV.out.trans (b2.mono BV.out.size))
      have T2 := Lib.hid (TX.out.mono b2)
      obtain ⟨x0, x1, _, _⟩ := T2.out.c
      have K1 := Lib.hid (fun v (hv : Below v2.heap.size v2 v) => N1.out v)
      have K2 := Lib.hid (fun v (hv : Below v2.heap.size v2 v) => N2.out v)
      have K3 := Lib.hid (fun v (hv : Below v2.heap.size v2 v) => N3.out v)
      clear hd hh hok hG b2 N1 N2 N3 KM
      go_wp2_with fail
      refine QTail.wp_region_quiet_tail (C := fun w' => Below v2.heap.size v2 w') 15 (by kernel_rfl) (by kernel_rfl) ((Below.refl _ _).drew) ?_
      simp only [List.take_succ_cons, List.take_zero]
      repeat (
        with_reducible refine wpQuiet_step (fun K hK => ?_)
        go_simp
        first
          | (with_reducible refine hK _ ?_; clear hK K)
          | (refine hK _ ?_; clear hK K)
          | (apply Exists.intro
             refine ⟨fun v hv => ?_, hK _ ?_⟩
             (first
               | with_reducible rfl
               | (with_reducible show Calls _ _ _ _ _
                  first
                    | with_reducible refine Calls.mono (K1.out _ hv) ?_
                    | with_reducible refine Calls.mono (K2.out _ hv) ?_
                    | with_reducible refine Calls.mono (K3.out _ hv) ?_
                  rintro e w' ⟨rfl, hb⟩
                  exact ⟨rfl, hv.trans (hb.mono hv.size)⟩)
               | (have d0 := (hv.cell (World.block_lt_of_cell? _ _ x0)).trans x0
                  have d1 := (hv.cell (World.block_lt_of_cell? _ _ x1)).trans x1
                  go_simp
                  with_reducible rfl))
             clear hK K))
      refine wpQuiet_nil ?_
      intro wf hk
      simp only [List.drop_succ_cons, List.drop_zero]
      obtain ⟨P, hP⟩ : ∃ P, P = wf.heap.size := ⟨_, rfl⟩
      obtain ⟨U, hU⟩ : ∃ U, U = wf.alloc (.cells #[.int .i64 y1, .pointer (some ⟨ph, 0, none⟩), .int .i64 m.1, .int .u64 m.2, .int .i64 y2, .int .i64 y3] 73) := ⟨_, rfl⟩
      obtain ⟨C, hC⟩ : ∃ C, C = rawC s.data.toList b l := ⟨_, rfl⟩
      have HC := Lib.hid hC
      have hba : Below v2.heap.size v2 U := by rw [hU]; exact hk.alloc hk.size _
      have CU := Lib.hid (show RCellAt U P (P :: G) C by
        rw [hC, ERAW.out]
        have h1 := HH.out.mono hba
        refine ⟨ph, G, rfl, fun hm => ?_, by rw [hU, hP]; exact heap_alloc_new wf _, h1⟩
        have h2 := (HH.out.own.mem P hm).2
        have h3 := hk.size
        omega)
      have OC := Lib.hid (show COk C by rw [hC]; exact rawC_ok _ _ _ HOK.out)
      have GP := Lib.hid (show ∀ g ∈ P :: G, w.heap.size ≤ g from fun g hg => by
        rcases List.mem_cons.1 hg with rfl | hg
        · rw [hP]; exact Nat.le_trans B2.out.size hk.size
        · exact HG.out g hg)
      have BU := Lib.hid (B2.out.trans (hba.mono B2.out.size))
      have HU := Lib.hid hU
      have HP := Lib.hid hP
      clear hba hU hP hC hk K1 K2 K3 x0 x1
      go_wp2_with fail
      rw [← HU.out, ← HP.out]
      refine (rright_any CU.out OC.out).mono ?_
      rintro e v5 ⟨rfl, b5⟩
      have C5 := Lib.hid (CU.out.mono b5)
      have B5 := Lib.hid (BU.out.trans (b5.mono BU.out.size))
      clear b5
      obtain ⟨z, hz⟩ : ∃ z, z = rightC C := ⟨_, rfl⟩
      rw [← hz]
      have DEC := Lib.hid (show decC s.data.toList = if z then some (C, r.data.toList) else none by
        unfold decC
        rw [HLL.out, if_neg H40.out, ← ESL.out, HD.out]
        simp only []
        rw [hz, HC.out])
      clear hz
      cases z
      · have EN := Lib.hid (show decC s.data.toList = none from DEC.out)
        go_wp2
        go_ret3
        exact ⟨.inl ⟨EN.out, rfl⟩, B5.out⟩
      · have EN := Lib.hid (show decC s.data.toList = some (C, r.data.toList) from DEC.out)
        go_wp2
        go_ret3
        exact ⟨.inr ⟨C, r, P, _, EN.out, rfl, C5.out, OC.out, GP.out⟩, B5.out⟩
end Go.Proofs.Ytgafnilcmhjpcaa.HCell
