/- Cells: put (a number's bytes), Put, Same, walked. Conditions: the numbers are of their kinds' ranges. -/
import Derived.Test.YtgafnilcmhjpcaaCell5
import Derived.Test.YtgafnilcmhjpcaaWdPut
import Derived.Test.YtgafnilcmhjpcaaRefAll
namespace Go.Proofs.Ytgafnilcmhjpcaa.HCell
set_option linter.unusedVariables false
open Go.RowKit Go.Proofs.Ytgafnilcmhjpcaa.HMem Go.Proofs.Ytgafnilcmhjpcaa.HHist Go.Proofs.Ytgafnilcmhjpcaa.HWide
open Go.Proofs.Ytgafnilcmhjpcaa.Print (I64)

/-- A number's bits as a number of no sign. -/
def u64of (n : Int) : Nat := (n % 18446744073709551616).toNat
theorem u64of_lt (n : Int) : u64of n < 18446744073709551616 := by unfold u64of; omega
def pF (n : Int) (k i : Nat) : Int := if i < k then n / 2 ^ (56 - 8 * i) % 256 else 0
def pL (n : Int) (k : Nat) : List Value := (List.range 8).map fun i => Value.int .u8 (pF n k i)
def arr8 (w : World) (b : Nat) (l : List Value) : Prop := w.heap[b]? = some (.cells l.toArray 122 (0, 0))
theorem arr8.cell {w : World} {b : Nat} {l : List Value} (h : arr8 w b l) (i : Nat) (v : Value) (hi : l[i]? = some v) : w.cell? ⟨b, i, none⟩ = some v ∧ w.frozen? ⟨b, i, none⟩ = false := by
  unfold arr8 at h
  simp [World.cell?, World.frozen?, h, hi]
theorem arr8.set {w : World} {b : Nat} {l : List Value} (h : arr8 w b l) (i : Nat) (v : Value) : arr8 (w.setCell ⟨b, i, none⟩ v) b (l.set i v) := by
  unfold arr8 at *
  simp [World.setCell, Array.getElem?_modify, h]
theorem pL_get (n : Int) (k i : Nat) (hi : i < 8) : (pL n k)[i]? = some (.int .u8 (pF n k i)) := by simp [pL, hi]
theorem pL_next (n : Int) (k : Nat) (h : k < 8) : (pL n k).set k (.int .u8 (n / 2 ^ (56 - 8 * k) % 256)) = pL n (k + 1) := by
  refine List.ext_getElem? fun i => ?_
  rw [List.getElem?_set]
  by_cases hi : i < 8
  · rw [pL_get _ _ _ hi, pL_get _ _ _ hi]
    by_cases h1 : k = i
    · rw [if_pos h1, if_pos (by simp [pL]; omega)]
      subst h1
      unfold pF
      rw [if_pos (by omega)]
    · rw [if_neg h1]
      congr 2
      unfold pF
      by_cases h2 : i < k
      · rw [if_pos h2, if_pos (by omega)]
      · rw [if_neg h2, if_neg (by omega)]
  · rw [if_neg (by omega), List.getElem?_eq_none (by simp [pL]; omega), List.getElem?_eq_none (by simp [pL]; omega)]
theorem pF_be (n : Int) : ((List.range 8).map fun i => pF n 8 i) = be (u64of n) 8 := by
  have e : ((u64of n : Nat) : Int) = n % 18446744073709551616 := by unfold u64of; omega
  simp only [be, List.range_succ, List.range_zero, List.nil_append, List.map_append, List.map_cons, List.map_nil, List.cons_append, pF]
  simp only [Nat.reduceMul, Nat.reduceSub, Int.reducePow, Nat.reducePow, Nat.reduceLT, if_true, Int.natCast_emod, Int.natCast_ediv, e]
  refine List.cons_eq_cons.2 ⟨by omega, List.cons_eq_cons.2 ⟨by omega, List.cons_eq_cons.2 ⟨by omega, List.cons_eq_cons.2 ⟨by omega, List.cons_eq_cons.2 ⟨by omega, List.cons_eq_cons.2 ⟨by omega, List.cons_eq_cons.2 ⟨by omega, List.cons_eq_cons.2 ⟨by omega, rfl⟩⟩⟩⟩⟩⟩⟩⟩
set_option maxHeartbeats 2000000 in
theorem put_any (n : Int) (w : World) :
    Calls Try.prog 51 #[.int .i64 n] w fun e w' => e = .returned (.string (strOfNums (be (u64of n) 8))) ∧ Below w.heap.size w w' := by
  obtain ⟨b, hb⟩ : ∃ b, b = w.heap.size := ⟨_, rfl⟩
  obtain ⟨W0, q0⟩ : ∃ W, W = w.alloc (.cells #[.int .u8 0, .int .u8 0, .int .u8 0, .int .u8 0, .int .u8 0, .int .u8 0, .int .u8 0, .int .u8 0] 122) := ⟨_, rfl⟩
  have S2 := Lib.hid (show arr8 W0 b (pL n 0) by rw [q0, hb]; exact heap_alloc_new w _)
  have S3 := Lib.hid (show Below b w W0 by rw [q0, hb]; exact (Below.refl _ _).alloc (Nat.le_refl _) _)
  have HB := Lib.hid hb
  go_enter Try.func51, Try.ntmps51
  go_wp2_with fail
  rw [← q0, ← hb]
  clear q0 hb
  go_loopw [4, 5] (fun _ i wr => ∃ k : Nat, k ≤ 8 ∧ i = .int .i64 k ∧ arr8 wr b (pL n k) ∧ Below b w wr) (fun _ i _ => 8 - (intOf i).toNat)
  case atStart => exact ⟨0, by omega, rfl, S2.out, S3.out⟩
  case round =>
    obtain ⟨k, hk, rfl, ha, hbl⟩ := hrel
    have HA := Lib.hid ha
    have HBL := Lib.hid hbl
    clear ha hbl
    rcases Nat.lt_or_ge k 8 with hlt | hge
    · obtain ⟨g0, g1⟩ := HA.out.cell k _ (pL_get n _ _ hlt)
      have E := pL_next n k hlt
      have hc : k = 0 ∨ k = 1 ∨ k = 2 ∨ k = 3 ∨ k = 4 ∨ k = 5 ∨ k = 6 ∨ k = 7 := by omega
      rcases hc with rfl | rfl | rfl | rfl | rfl | rfl | rfl | rfl
      all_goals
        simp only [Nat.reduceMul, Nat.reduceSub, Int.reducePow, Nat.reduceAdd, Int.pow_zero, Int.ediv_one] at E
        have EE := Lib.hid E
        clear E
        go_wp2
        go_roundw
        case rel =>
          refine ⟨_, ?_, rfl, ?_, Below.setCell HBL.out (show b ≤ (Addr.block ⟨b, _, none⟩) from Nat.le_refl b) _⟩
          · decide
          · rw [← EE.out]
            exact HA.out.set _ _
        case measure => simp [intOf]
    · obtain rfl : k = 8 := by omega
      have hcv := run_convert_bytes_arg (P := Try.prog) wr 79 5 Try.underlying79 Try.underlying5 b 0 8 8 (be (u64of n) 8) (by simp [be_length]) (fun i hi => by
        rw [Nat.zero_add, (HA.out.cell i _ (pL_get n 8 i hi)).1, ← pF_be]
        simp [hi]) 9 Try.underlying9
      go_wp2
      go_ret
      exact ⟨rfl, by rw [← HB.out]; exact HBL.out⟩
/-- A cell's bytes. -/
def encC (c : CM) : List Int := be (u64of c.fr) 8 ++ putN c.s.1 c.s.2 ++ be (u64of c.lo) 8 ++ be (u64of c.hi) 8 ++ encL c.b c.l
set_option maxHeartbeats 4000000 in
set_option maxRecDepth 20000 in
theorem Put_any {w : World} {p : Nat} {G : List Nat} {c : CM} (k : CellAt w p G c) (ho : COk c) :
    Calls Try.prog 19 #[.pointer (some ⟨p, 0, none⟩)] w fun e w' => e = .returned (.string (strOfNums (encC c))) ∧ Below w.heap.size w w' := by
  obtain ⟨h, R, rfl, hpR, kc, kh⟩ := k.ex
  obtain ⟨c0, c1, c2, c3, c4, c5⟩ := kc.cells
  obtain ⟨A, hA⟩ : ∃ A, A = strOfNums (be (u64of c.fr) 8) := ⟨_, rfl⟩
  obtain ⟨B, hB⟩ : ∃ B, B = strOfNums (putN c.s.1 c.s.2) := ⟨_, rfl⟩
  obtain ⟨C, hC⟩ : ∃ C, C = strOfNums (be (u64of c.lo) 8) := ⟨_, rfl⟩
  obtain ⟨D, hD⟩ : ∃ D, D = strOfNums (be (u64of c.hi) 8) := ⟨_, rfl⟩
  obtain ⟨H, hH⟩ : ∃ H, H = strOfNums (encL c.b c.l) := ⟨_, rfl⟩
  have KA := Lib.hid (show ∀ v, Below w.heap.size w v → Calls Try.prog 51 #[.int .i64 c.fr] v fun e w' => e = .returned (.string A) ∧ Below v.heap.size v w' from fun v hv => by rw [hA]; exact put_any c.fr v)
  have KB := Lib.hid (show ∀ v, Below w.heap.size w v → Calls Try.prog 22 #[.agg #[.int .i64 c.s.1, .int .u64 c.s.2]] v fun e w' => e = .returned (.string B) ∧ Below v.heap.size v w' from fun v hv => by rw [hB]; exact HWide.Put_any c.s.1 c.s.2 v)
  have KC := Lib.hid (show ∀ v, Below w.heap.size w v → Calls Try.prog 51 #[.int .i64 c.lo] v fun e w' => e = .returned (.string C) ∧ Below v.heap.size v w' from fun v hv => by rw [hC]; exact put_any c.lo v)
  have KD := Lib.hid (show ∀ v, Below w.heap.size w v → Calls Try.prog 51 #[.int .i64 c.hi] v fun e w' => e = .returned (.string D) ∧ Below v.heap.size v w' from fun v hv => by rw [hD]; exact put_any c.hi v)
  have KH := Lib.hid (show ∀ v, Below w.heap.size w v → Calls Try.prog 36 #[.pointer (some ⟨h, 0, none⟩)] v fun e w' => e = .returned (.string H) ∧ Below v.heap.size v w' from fun v hv => by rw [hH]; exact HHist.Put_any (kh.mono hv) ho.h)
  have sA : A.size = 8 := by rw [hA, strOfNums_size, be_length]
  have sB : B.size = 16 := by rw [hB, strOfNums_size]; rfl
  have sC : C.size = 8 := by rw [hC, strOfNums_size, be_length]
  have sD : D.size = 8 := by rw [hD, strOfNums_size, be_length]
  have sH : H.size ≤ 30000 := by
    rw [hH, strOfNums_size, encL_length]
    have := ho.h.len
    omega
  have z1 : ¬ 9223372036854775807 < A.size + B.size := by omega
  have z2 : ¬ 9223372036854775807 < A.size + B.size + C.size := by omega
  have z3 : ¬ 9223372036854775807 < A.size + B.size + C.size + D.size := by omega
  have z4 : ¬ 9223372036854775807 < A.size + B.size + C.size + D.size + H.size := by omega
  have E := Lib.hid (show A ++ B ++ C ++ D ++ H = strOfNums (encC c) by
    unfold encC
    rw [hA, hB, hC, hD, hH, str_app, str_app, str_app, str_app])
  clear hA hB hC hD hH sA sB sC sD sH k kc kh hpR ho
  go_enter Try.func19, Try.ntmps19
  go_wp2_with fail
  refine wp_region_quiet (C := fun w' => Below w.heap.size w w') (by kernel_rfl) (by kernel_rfl) ((Below.refl _ _).drew) ?_
  repeat (
    with_reducible refine wpQuiet_step (fun K hK => ?_)
    go_simp
    first
      | (with_reducible refine hK _ ?_; clear hK K)
      | (refine hK _ ?_; clear hK K)
      | (apply Exists.intro
         refine ⟨fun v hv => ?_, hK _ ?_⟩
         (first
           | with_reducible rfl
           | (with_reducible show Calls _ _ _ _ _
              first
                | with_reducible refine Calls.mono (KA.out _ hv) ?_
                | with_reducible refine Calls.mono (KB.out _ hv) ?_
                | with_reducible refine Calls.mono (KC.out _ hv) ?_
                | with_reducible refine Calls.mono (KD.out _ hv) ?_
                | with_reducible refine Calls.mono (KH.out _ hv) ?_
              rintro e w' ⟨rfl, hb⟩
              exact ⟨rfl, hv.trans (hb.mono hv.size)⟩)
           | (have d0 := (hv.cell (World.block_lt_of_cell? _ _ c0)).trans c0
              have d1 := (hv.cell (World.block_lt_of_cell? _ _ c1)).trans c1
              have d2 := (hv.cell (World.block_lt_of_cell? _ _ c2)).trans c2
              have d3 := (hv.cell (World.block_lt_of_cell? _ _ c3)).trans c3
              have d4 := (hv.cell (World.block_lt_of_cell? _ _ c4)).trans c4
              have d5 := (hv.cell (World.block_lt_of_cell? _ _ c5)).trans c5
              go_simp
              with_reducible rfl))
         clear hK K))
  refine wpQuiet_nil ?_
  intro wf hk
  clear c0 c1 c2 c3 c4 c5 z1 z2 z3 z4
  go_wp2
  go_ret
  exact ⟨by rw [← E.out]; rfl, hk⟩
end Go.Proofs.Ytgafnilcmhjpcaa.HCell
