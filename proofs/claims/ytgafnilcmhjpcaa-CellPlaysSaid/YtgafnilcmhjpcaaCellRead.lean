/- Cells: read, Get, walked: what bytes tell. Conditions: the text's size. -/
import Derived.Test.YtgafnilcmhjpcaaCellRight
namespace Go.Proofs.Ytgafnilcmhjpcaa.HCell
set_option linter.unusedVariables false
open Go.RowKit Go.Proofs.Ytgafnilcmhjpcaa.HMem Go.Proofs.Ytgafnilcmhjpcaa.HHist Go.Proofs.Ytgafnilcmhjpcaa.HWide
open Go.Proofs.Ytgafnilcmhjpcaa.Print (I64)

/-- The sum of sixteen bytes. -/
def sumL (l : List UInt8) : Int × Int := (IntKind.i64.wrap (num (l.take 8) : Nat), (num ((l.drop 8).take 8) : Nat))
theorem sumL_rng (l : List UInt8) : Rng (sumL l).1 (sumL l).2 := by
  have h := num_lt ((l.drop 8).take 8)
  have h2 : ((l.drop 8).take 8).length ≤ 8 := by rw [List.length_take]; omega
  have h3 : num ((l.drop 8).take 8) < 256 ^ 8 := Nat.lt_of_lt_of_le h (Nat.pow_le_pow_right (by decide) h2)
  unfold sumL Rng
  simp only [IntKind.wrap_i64]
  have : (256 : Nat) ^ 8 = 18446744073709551616 := by decide
  omega
/-- What the bytes of a cell would tell. -/
def rawC (l : List UInt8) (b : Nat) (il : IL) : CM := ⟨i8of l, sumL ((l.drop 8).take 16), i8of (l.drop 24), i8of (l.drop 32), b, il⟩
theorem rawC_ok (l : List UInt8) (b : Nat) (il : IL) (h : HOk b il) : COk (rawC l b il) := ⟨h, sumL_rng _, i8of_i64 _, i8of_i64 _, i8of_i64 _⟩
/-- The cell that bytes begin with, what stands behind it; none: there is none. -/
def decC (l : List UInt8) : Option (CM × List UInt8) :=
  if l.length < 40 then none else match decL (l.drop 40) with
  | none => none
  | some (b, il, r) => if rightC (rawC l b il) then some (rawC l b il, r) else none
theorem gfold_num : ∀ (k : Nat) (l : List UInt8), l.length = k → k ≤ 8 → gfold (l.map fun c => (c.toNat : Int)) = (num l : Nat)
  | 0, l, hl, _ => by rw [List.length_eq_zero_iff.1 hl]; rfl
  | k + 1, l, hl, hk => by
    rcases List.eq_nil_or_concat l with rfl | ⟨L, c, rfl⟩
    · simp at hl
    · rw [List.concat_eq_append] at hl ⊢
      have hL : L.length = k := by simpa using hl
      have h1 := gfold_num k L hL (by omega)
      unfold gfold at h1 ⊢
      rw [List.map_append, List.foldl_append, h1, num_snoc]
      have hn : num L < 72057594037927936 := Nat.lt_of_lt_of_le (num_lt L) (Nat.le_trans (Nat.pow_le_pow_right (by decide) (show L.length ≤ 7 by omega)) (by decide))
      have := or_step (num L) c.toNat hn c.toNat_lt
      show gst _ _ = _
      unfold gst
      rw [← this, u64_in (c.toNat : Int) (by omega) (by have := c.toNat_lt; omega)]
theorem getR_sum (s : ByteArray) (h : s.size = 16) : (getR s).1 = sumL s.data.toList := by
  have hl : s.data.toList.length = 16 := by rw [Array.length_toList]; exact h
  unfold getR
  rw [if_pos h]
  unfold sumL gHi gLo bytesOf
  rw [← List.map_take, ← List.map_drop, ← List.map_take, gfold_num _ _ rfl (by rw [List.length_take]; omega), gfold_num _ _ rfl (by rw [List.length_take]; omega)]
  simp [wrap64, IntKind.wrap_i64]
theorem wget_any (s : ByteArray) (h : s.size = 16) (w : World) :
    Calls Try.prog 69 #[.string s] w fun e w' => ∃ ok, e = .returned (.tuple #[.agg #[.int .i64 (sumL s.data.toList).1, .int .u64 (sumL s.data.toList).2], .bool ok]) ∧ Below w.heap.size w w' :=
  (HWide.Get_any s w).mono fun e w' ⟨h1, h2⟩ => by
    rw [getR_sum s h] at h1
    exact ⟨_, h1, h2⟩
/-- What read answers. -/
def ReadAns (w : World) (l : List UInt8) (e : Ending) (w' : World) : Prop :=
  ((decC l = none ∧ ∃ v r, e = .returned (.tuple #[v, r, .int .i64 2])) ∨
   ∃ c r p G, decC l = some (c, r.data.toList) ∧ e = .returned (.tuple #[.pointer (some ⟨p, 0, none⟩), .string r, .int .i64 0]) ∧ CellAt w' p G c ∧ COk c ∧ ∀ g ∈ G, w.heap.size ≤ g) ∧ Below w.heap.size w w'
set_option maxHeartbeats 4000000 in
set_option maxRecDepth 20000 in
theorem read_any (s : ByteArray) (w : World) (hs : s.size ≤ 140737488355328) : Calls Try.prog 46 #[.string s] w (ReadAns w s.data.toList) := by
  have hll : s.data.toList.length = s.size := by rw [Array.length_toList]; rfl
  obtain ⟨E, hE⟩ : ∃ E, E = w.heap.size := ⟨_, rfl⟩
  obtain ⟨W, hW⟩ : ∃ W, W = w.alloc (.cells #[.int .i64 0] 30) := ⟨_, rfl⟩
  have b0 : Below w.heap.size w W := by rw [hW]; exact (Below.refl _ _).alloc (Nat.le_refl _) _
  have hEW : W.heap[E]? = some (.cells #[.int .i64 0] 30 (0, 0)) := by rw [hW, hE]; exact heap_alloc_new w _
  have B0 := Lib.hid b0
  have HEW := Lib.hid hEW
  have HE := Lib.hid hE
  by_cases h40 : s.size < 40
  · have t0 : decide ((s.size : Int) < 40) = true := by simp; omega
    have EN := Lib.hid (show decC s.data.toList = none by unfold decC; rw [hll, if_pos h40])
    clear h40 b0 hEW
    go_enter_defers Try.func46, Try.ntmps46
    go_wp2_with fail
    rw [← hW, ← hE]
    clear hE hW
    refine (must_throws 2 (by decide) W).mono ?_
    rintro e w1 ⟨rfl, rfl⟩
    go_wp2_with fail
    have hE1 := HEW.out
    refine leaves_cons (f := 53) (args := #[.pointer (some ⟨E, 0, none⟩)]) (by simp) (by simp [go_sem]) ?_
    refine (caught_errno ⟨E, 0, none⟩ 2 (.int .i64 0) [] _ (by simp [World.cell?, hE1]) (by simp [World.frozen?, hE1])).mono ?_
    rintro e u' w2 ⟨rfl, rfl, rfl⟩
    have e0 : (w1.setCell ⟨E, 0, none⟩ (.int .i64 2)).cell? ⟨E, 0, none⟩ = some (.int .i64 2) := World.cell?_setCell_same _ _ _ (show w1.cell? ⟨E, 0, none⟩ = some (.int .i64 0) by simp [World.cell?, hE1])
    have RES := Lib.hid (show ReadAns w s.data.toList (.returned (.tuple #[.pointer none, .string ⟨#[]⟩, .int .i64 2])) (w1.setCell ⟨E, 0, none⟩ (.int .i64 2)) from
      ⟨.inl ⟨EN.out, _, _, rfl⟩, Below.setCell B0.out (show w.heap.size ≤ (Addr.block ⟨E, 0, none⟩) from Nat.le_of_eq HE.out.symm) _⟩)
    clear hE1
    simp [Leaves, settle, results, Try.results46, go_sem, e0]
    exact RES.out
  · have t0 : decide ((s.size : Int) < 40) = false := by simp; omega
    have t1 : (40 : Int) ≤ s.size := by omega
    have H40 := Lib.hid h40
    clear b0 hEW h40
    go_enter_defers Try.func46, Try.ntmps46
    go_wp2_with fail
    rw [← hW, ← hE]
    clear hE hW
    obtain ⟨S, hS⟩ : ∃ S, S = s.extract 40 s.size := ⟨_, rfl⟩
    have hSs : S.size ≤ 140737488355328 := by rw [hS, ByteArray.size_extract]; omega
    have ESL := Lib.hid (show S.data.toList = s.data.toList.drop 40 by
      rw [hS, Lib.extract_data, List.take_of_length_le (by rw [List.length_drop]; omega)])
    rw [← hS]
    clear hS
    refine (HHist.Get_any S W hSs).mono ?_
    rintro e w1 (⟨hd, rfl, b1⟩ | ⟨b, l, r, ph, G, hd, rfl, hh, hok, hG, b1⟩)
    · have EN := Lib.hid (show decC s.data.toList = none by unfold decC; rw [hll, if_neg H40.out, ← ESL.out, hd])
      have hE1 : w1.heap[E]? = some (.cells #[.int .i64 0] 30 (0, 0)) := by rw [b1.block E (heap_lt HEW.out)]; exact HEW.out
      have B1 := Lib.hid (B0.out.trans (b1.mono B0.out.size))
      have e0 : w1.cell? ⟨E, 0, none⟩ = some (.int .i64 0) := by simp [World.cell?, hE1]
      have f0 : w1.frozen? ⟨E, 0, none⟩ = false := by simp [World.frozen?, hE1]
      have HE1 := Lib.hid hE1
      clear hd b1 hE1
      go_wp2_with fail
      refine (must_throws 2 (by decide) _).mono ?_
      rintro e w2 ⟨rfl, rfl⟩
      go_wp2_with fail
      obtain ⟨V, hV⟩ : ∃ V, V = w1.setCell ⟨E, 0, none⟩ (.int .i64 2) := ⟨_, rfl⟩
      rw [← hV]
      have hEV : V.heap[E]? = some (.cells #[.int .i64 2] 30 (0, 0)) := by rw [hV]; exact set_at HE1.out 0 _
      refine leaves_cons (f := 53) (args := #[.pointer (some ⟨E, 0, none⟩)]) (by simp) (by simp [go_sem]) ?_
      refine (caught_errno ⟨E, 0, none⟩ 2 (.int .i64 2) [] _ (by simp [World.cell?, hEV]) (by simp [World.frozen?, hEV])).mono ?_
      rintro e u' w3 ⟨rfl, rfl, rfl⟩
      have e2 : (V.setCell ⟨E, 0, none⟩ (.int .i64 2)).cell? ⟨E, 0, none⟩ = some (.int .i64 2) := World.cell?_setCell_same _ _ _ (show V.cell? ⟨E, 0, none⟩ = some (.int .i64 2) by simp [World.cell?, hEV])
      have hle : w.heap.size ≤ E := Nat.le_of_eq HE.out.symm
      have RES := Lib.hid (show ReadAns w s.data.toList (.returned (.tuple #[.pointer none, .string ⟨#[]⟩, .int .i64 2])) (V.setCell ⟨E, 0, none⟩ (.int .i64 2)) from
        ⟨.inl ⟨EN.out, _, _, rfl⟩, Below.setCell (by rw [hV]; exact Below.setCell B1.out (show w.heap.size ≤ (Addr.block ⟨E, 0, none⟩) from hle) _) (show w.heap.size ≤ (Addr.block ⟨E, 0, none⟩) from hle) _⟩)
      clear hEV e0 f0 hV
      simp [Leaves, settle, results, Try.results46, go_sem, e2]
      exact RES.out
    · have HD := Lib.hid hd
      have HH := Lib.hid hh
      have HOK := Lib.hid hok
      have HG := Lib.hid hG
      have hE1 : w1.heap[E]? = some (.cells #[.int .i64 0] 30 (0, 0)) := by rw [b1.block E (heap_lt HEW.out)]; exact HEW.out
      have B1 := Lib.hid (B0.out.trans (b1.mono B0.out.size))
      have BW1 := Lib.hid b1
      have e0 : w1.cell? ⟨E, 0, none⟩ = some (.int .i64 0) := by simp [World.cell?, hE1]
      have f0 : w1.frozen? ⟨E, 0, none⟩ = false := by simp [World.frozen?, hE1]
      have HE1 := Lib.hid hE1
      clear hd b1 hE1 hh hok hG
      go_wp2_with fail
      obtain ⟨V, hV⟩ : ∃ V, V = w1.setCell ⟨E, 0, none⟩ (.int .i64 0) := ⟨_, rfl⟩
      rw [← hV]
      have hle : w.heap.size ≤ E := Nat.le_of_eq HE.out.symm
      have HEV := Lib.hid (show V.heap[E]? = some (.cells #[.int .i64 0] 30 (0, 0)) by rw [hV]; exact set_at HE1.out 0 _)
      have BV := Lib.hid (show Below w.heap.size w V by rw [hV]; exact Below.setCell B1.out (show w.heap.size ≤ (Addr.block ⟨E, 0, none⟩) from hle) _)
      have HEG := Lib.hid (show E ∉ G from fun hm => by have h1 := HG.out E hm; have h2 := heap_lt HEW.out; omega)
      have HHV := Lib.hid (show HistAt V ph G b l from HH.out.same fun g hg => by
        rw [hV]; exact Below.heap_setCell _ _ _ _ (fun e => HEG.out ((show g = E from e) ▸ hg)))
      have HGw := Lib.hid (show ∀ g ∈ G, w.heap.size ≤ g from fun g hg => Nat.le_trans B0.out.size (HG.out g hg))
      clear hV e0 f0
      refine (must_ok V).mono ?_
      rintro e w2 ⟨rfl, rfl⟩
      have t2 : (8 : Int) ≤ 24 := by decide
      have t3 : (24 : Int) ≤ s.size := by omega
      have t4 : (32 : Int) ≤ s.size := by omega
      have t5 : (8 : Int) ≤ s.size := by omega
      go_wp2_with fail
      obtain ⟨Z, hZ⟩ : ∃ Z, Z = s.extract 8 24 := ⟨_, rfl⟩
      have hZs : Z.size = 16 := by rw [hZ, ByteArray.size_extract]; have := H40.out; omega
      have EZ := Lib.hid (show Z.data.toList = (s.data.toList.drop 8).take 16 by rw [hZ, Lib.extract_data])
      rw [← hZ]
      clear hZ
      refine (wget_any Z hZs w2).mono ?_
      rintro e w3 ⟨ok, rfl, b3⟩
      obtain ⟨Q, hQ⟩ : ∃ Q, Q = sumL Z.data.toList := ⟨_, rfl⟩
      rw [← hQ]
      have HQ := Lib.hid hQ
      have B3 := Lib.hid (BV.out.trans (b3.mono BV.out.size))
      have HH3 := Lib.hid (HHV.out.mono b3)
      have HE3 := Lib.hid (show w3.heap[E]? = some (.cells #[.int .i64 0] 30 (0, 0)) by rw [b3.block E (heap_lt HEV.out)]; exact HEV.out)
      clear b3 hQ hZs
      go_wp2_with fail
      obtain ⟨X, hX⟩ : ∃ X, X = w3.heap.size := ⟨_, rfl⟩
      obtain ⟨W3, hW3⟩ : ∃ W3, W3 = w3.alloc (.cells #[.int .i64 Q.1, .int .u64 Q.2] 43) := ⟨_, rfl⟩
      have hx3 : W3.heap[X]? = some (.cells #[.int .i64 Q.1, .int .u64 Q.2] 43 (0, 0)) := by rw [hW3, hX]; exact heap_alloc_new w3 _
      have b3 : Below w3.heap.size w3 W3 := by rw [hW3]; exact (Below.refl _ _).alloc (Nat.le_refl _) _
      rw [← hW3, ← hX]
      clear hW3 hX
      have x0 : W3.cell? ⟨X, 0, none⟩ = some (.int .i64 Q.1) := by simp [World.cell?, hx3]
      have x1 : W3.cell? ⟨X, 1, none⟩ = some (.int .u64 Q.2) := by simp [World.cell?, hx3]
      have B3' := Lib.hid (B3.out.trans (b3.mono B3.out.size))
      have HH4 := Lib.hid (HH3.out.mono b3)
      have HE4 := Lib.hid (show W3.heap[E]? = some (.cells #[.int .i64 0] 30 (0, 0)) by rw [b3.block E (heap_lt HE3.out)]; exact HE3.out)
      clear hx3 b3
      obtain ⟨S1, hS1⟩ : ∃ S1, S1 = s.extract 24 s.size := ⟨_, rfl⟩
      obtain ⟨S2, hS2⟩ : ∃ S2, S2 = s.extract 32 s.size := ⟨_, rfl⟩
      have hs1 : 8 ≤ S1.size := by rw [hS1, ByteArray.size_extract]; have := H40.out; omega
      have hs2 : 8 ≤ S2.size := by rw [hS2, ByteArray.size_extract]; have := H40.out; omega
      have es1 : S1.data.toList = s.data.toList.drop 24 := by rw [hS1, Lib.extract_data, List.take_of_length_le (by rw [List.length_drop]; omega)]
      have es2 : S2.data.toList = s.data.toList.drop 32 := by rw [hS2, Lib.extract_data, List.take_of_length_le (by rw [List.length_drop]; omega)]
      obtain ⟨C, hC⟩ : ∃ C, C = rawC s.data.toList b l := ⟨_, rfl⟩
      have eq1 : s.extract 24 s.size = S1 := hS1.symm
      have eq2 : s.extract 32 s.size = S2 := hS2.symm
      have K1 := Lib.hid (show ∀ v, Below W3.heap.size W3 v → Calls Try.prog 70 #[.string s] v fun e w' => e = .returned (.int .i64 C.fr) ∧ Below v.heap.size v w' from fun v hv =>
        (get_any s v (by have := H40.out; omega)).mono fun e w' ⟨h1, h2⟩ => ⟨by rw [h1, hC]; rfl, by subst h2; exact Below.refl _ _⟩)
      have K2 := Lib.hid (show ∀ v, Below W3.heap.size W3 v → Calls Try.prog 70 #[.string S1] v fun e w' => e = .returned (.int .i64 C.lo) ∧ Below v.heap.size v w' from fun v hv =>
        (get_any S1 v hs1).mono fun e w' ⟨h1, h2⟩ => ⟨by rw [h1, hC, es1]; rfl, by subst h2; exact Below.refl _ _⟩)
      have K3 := Lib.hid (show ∀ v, Below W3.heap.size W3 v → Calls Try.prog 70 #[.string S2] v fun e w' => e = .returned (.int .i64 C.hi) ∧ Below v.heap.size v w' from fun v hv =>
        (get_any S2 v hs2).mono fun e w' ⟨h1, h2⟩ => ⟨by rw [h1, hC, es2]; rfl, by subst h2; exact Below.refl _ _⟩)
      have HQC := Lib.hid (show Q = C.s by rw [HQ.out, EZ.out, hC]; rfl)
      have HC := Lib.hid hC
      clear hS1 hS2 hs1 hs2 es1 es2 hC
      refine QTail.wp_region_quiet_tail (C := fun w' => Below W3.heap.size W3 w') 10 (by kernel_rfl) (by kernel_rfl) ((Below.refl _ _).drew) ?_
      simp only [List.take_succ_cons, List.take_zero]
      repeat (
        with_reducible refine wpQuiet_step (fun K hK => ?_)
        go_simp
        first
          | (with_reducible refine hK _ ?_; clear hK K)
          | (refine hK _ ?_; clear hK K)
          | (apply Exists.intro
             refine ⟨fun v hv => ?_, hK _ ?_⟩
             (first
               | with_reducible rfl
               | (with_reducible show Calls _ _ _ _ _
                  first
                    | with_reducible refine Calls.mono (K1.out _ hv) ?_
                    | with_reducible refine Calls.mono (K2.out _ hv) ?_
                    | with_reducible refine Calls.mono (K3.out _ hv) ?_
                  rintro e w' ⟨rfl, hb⟩
                  exact ⟨rfl, hv.trans (hb.mono hv.size)⟩)
               | (have d0 := (hv.cell (World.block_lt_of_cell? _ _ x0)).trans x0
                  have d1 := (hv.cell (World.block_lt_of_cell? _ _ x1)).trans x1
                  go_simp
                  with_reducible rfl))
             clear hK K))
      refine wpQuiet_nil ?_
      intro w4 b4
      simp only [List.drop_succ_cons, List.drop_zero]
      have B4 := Lib.hid (B3'.out.trans (b4.mono B3'.out.size))
      have HH5 := Lib.hid (HH4.out.mono b4)
      have HE5 := Lib.hid (show w4.heap[E]? = some (.cells #[.int .i64 0] 30 (0, 0)) by rw [b4.block E (heap_lt HE4.out)]; exact HE4.out)
      clear b4 x0 x1 K1 K2 K3 eq1 eq2
      go_wp2_with fail
      obtain ⟨P, hP⟩ : ∃ P, P = w4.heap.size := ⟨_, rfl⟩
      obtain ⟨W5, hW5⟩ : ∃ W5, W5 = w4.alloc (.cells #[.pointer (some ⟨ph, 0, none⟩), .int .i64 C.fr, .int .i64 Q.1, .int .u64 Q.2, .int .i64 C.lo, .int .i64 C.hi] 55) := ⟨_, rfl⟩
      have b5 : Below w4.heap.size w4 W5 := by rw [hW5]; exact (Below.refl _ _).alloc (Nat.le_refl _) _
      have hcb : Cb W5 P ph C := by
        have := heap_alloc_new w4 (.cells #[.pointer (some ⟨ph, 0, none⟩), .int .i64 C.fr, .int .i64 Q.1, .int .u64 Q.2, .int .i64 C.lo, .int .i64 C.hi] 55)
        rw [← hW5, ← hP, HQC.out] at this
        exact this
      rw [← hW5, ← hP]
      have hcbl : C.b = b ∧ C.l = l := by rw [HC.out]; exact ⟨rfl, rfl⟩
      have hPG : P ∉ G := fun hm => by
        have := (HH5.out.own.mem P hm).2
        omega
      have HCA := Lib.hid (show CellAt W5 P (P :: G) C from ⟨⟨ph, G, rfl, hPG, hcb, by rw [hcbl.1, hcbl.2]; exact HH5.out.mono b5⟩⟩)
      have HCO := Lib.hid (show COk C by rw [HC.out]; exact rawC_ok _ _ _ HOK.out)
      have HE6 := Lib.hid (show W5.heap[E]? = some (.cells #[.int .i64 0] 30 (0, 0)) by rw [b5.block E (heap_lt HE5.out)]; exact HE5.out)
      have HFR := Lib.hid (show ∀ g ∈ P :: G, w.heap.size ≤ g from fun g hg => by
        rcases List.mem_cons.1 hg with rfl | hg
        · rw [hP]; exact B4.out.size
        · exact HGw.out g hg)
      have HEP := Lib.hid (show E ≠ P from fun e => by have := heap_lt HE5.out; omega)
      have B5 := Lib.hid (B4.out.trans (b5.mono B4.out.size))
      clear b5 hcb hcbl hPG hW5 hP
      refine (right_any HCA.out HCO.out).mono ?_
      rintro e w6 ⟨⟨hr, rfl⟩ | ⟨hr, rfl⟩, b6⟩
      · have ES := Lib.hid (show decC s.data.toList = some (C, r.data.toList) by
          unfold decC
          rw [hll, if_neg H40.out, ← ESL.out, HD.out]
          simp only []
          rw [← HC.out, hr]
          rfl)
        have hE7 : w6.heap[E]? = some (.cells #[.int .i64 0] 30 (0, 0)) := by rw [b6.block E (heap_lt HE6.out)]; exact HE6.out
        have HCA7 := Lib.hid (HCA.out.mono b6)
        have B6 := Lib.hid (B5.out.trans (b6.mono B5.out.size))
        have e0 : w6.cell? ⟨E, 0, none⟩ = some (.int .i64 0) := by simp [World.cell?, hE7]
        have f0 : w6.frozen? ⟨E, 0, none⟩ = false := by simp [World.frozen?, hE7]
        clear hE7 b6 hr
        go_wp2
        refine leaves_cons (f := 53) (args := #[.pointer (some ⟨E, 0, none⟩)]) (by simp) (by simp [go_sem]) ?_
        refine (caught_idle ⟨E, 0, none⟩ _).mono ?_
        rintro e u' w7 ⟨rfl, rfl, rfl⟩
        have e1 : (w6.setCell ⟨E, 0, none⟩ (.int .i64 0)).cell? ⟨E, 0, none⟩ = some (.int .i64 0) := World.cell?_setCell_same _ _ _ e0
        have RES := Lib.hid (show ReadAns w s.data.toList (.returned (.tuple #[.pointer (some ⟨P, 0, none⟩), .string r, .int .i64 0])) (w6.setCell ⟨E, 0, none⟩ (.int .i64 0)) from
          ⟨.inr ⟨C, r, P, P :: G, ES.out, rfl, HCA7.out.same fun g hg => Below.heap_setCell _ _ _ _ (fun e => by
            rcases List.mem_cons.1 hg with h | h
            · exact HEP.out (e.symm.trans h)
            · exact HEG.out ((show g = E from e) ▸ h)), HCO.out, HFR.out⟩, Below.setCell B6.out (show w.heap.size ≤ (Addr.block ⟨E, 0, none⟩) from hle) _⟩)
        clear e0 f0
        simp [Leaves, settle, results, Try.results46, go_sem, e1]
        exact RES.out
      · have EN := Lib.hid (show decC s.data.toList = none by
          unfold decC
          rw [hll, if_neg H40.out, ← ESL.out, HD.out]
          simp only []
          rw [← HC.out, hr]
          rfl)
        have hE7 : w6.heap[E]? = some (.cells #[.int .i64 0] 30 (0, 0)) := by rw [b6.block E (heap_lt HE6.out)]; exact HE6.out
        have B6 := Lib.hid (B5.out.trans (b6.mono B5.out.size))
        clear b6 hr
        go_wp2_with fail
        refine leaves_cons (f := 53) (args := #[.pointer (some ⟨E, 0, none⟩)]) (by simp) (by simp [go_sem]) ?_
        refine (caught_errno ⟨E, 0, none⟩ 2 (.int .i64 0) [] _ (by simp [World.cell?, hE7]) (by simp [World.frozen?, hE7])).mono ?_
        rintro e u' w7 ⟨rfl, rfl, rfl⟩
        have e1 : (w6.setCell ⟨E, 0, none⟩ (.int .i64 2)).cell? ⟨E, 0, none⟩ = some (.int .i64 2) := World.cell?_setCell_same _ _ _ (show w6.cell? ⟨E, 0, none⟩ = some (.int .i64 0) by simp [World.cell?, hE7])
        have RES := Lib.hid (show ReadAns w s.data.toList (.returned (.tuple #[.pointer (some ⟨P, 0, none⟩), .string r, .int .i64 2])) (w6.setCell ⟨E, 0, none⟩ (.int .i64 2)) from
          ⟨.inl ⟨EN.out, _, _, rfl⟩, Below.setCell B6.out (show w.heap.size ≤ (Addr.block ⟨E, 0, none⟩) from hle) _⟩)
        clear hE7
        simp [Leaves, settle, results, Try.results46, go_sem, e1]
        exact RES.out
/-- What Get answers. -/
def GetCAns (w : World) (l : List UInt8) (e : Ending) (w' : World) : Prop :=
  ((decC l = none ∧ e = .returned (.tuple #[.pointer none, .string ⟨#[]⟩, .int .i64 2])) ∨
   ∃ c r p G, decC l = some (c, r.data.toList) ∧ e = .returned (.tuple #[.pointer (some ⟨p, 0, none⟩), .string r, .int .i64 0]) ∧ CellAt w' p G c ∧ COk c ∧ ∀ g ∈ G, w.heap.size ≤ g) ∧ Below w.heap.size w w'
theorem Get_any (s : ByteArray) (w : World) (hs : s.size ≤ 140737488355328) : Calls Try.prog 14 #[.string s] w (GetCAns w s.data.toList) := by
  go_enter Try.func14, Try.ntmps14
  go_wp2_with fail
  refine (read_any s w hs).mono ?_
  rintro e w1 ⟨⟨hd, v, r, rfl⟩ | ⟨c, r, p, G, hd, rfl, hc, ho, hg⟩, b1⟩
  · have HD := Lib.hid hd
    have B1 := Lib.hid b1
    clear hd b1
    go_wp2
    go_ret3
    exact ⟨.inl ⟨HD.out, rfl⟩, B1.out⟩
  · have RES := Lib.hid (show GetCAns w s.data.toList (.returned (.tuple #[.pointer (some ⟨p, 0, none⟩), .string r, .int .i64 0])) w1 from ⟨.inr ⟨c, r, p, G, hd, rfl, hc, ho, hg⟩, b1⟩)
    clear hd b1 hc ho hg
    go_wp2
    go_ret3
    exact RES.out
end Go.Proofs.Ytgafnilcmhjpcaa.HCell
