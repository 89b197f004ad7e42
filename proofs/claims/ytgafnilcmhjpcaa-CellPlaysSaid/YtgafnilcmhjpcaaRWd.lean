/- The reference's sums of 128 bits: Of, Add, Less, Put, Get, walked by hand, with no print's words. Conditions: the numbers are of their kinds' ranges. -/
import Derived.Test.YtgafnilcmhjpcaaCellRead
import Derived.Test.YtgafnilcmhjpcaaApp
namespace Go.Proofs.Ytgafnilcmhjpcaa.HCell
set_option linter.unusedVariables false
open Go.RowKit Go.Proofs.Ytgafnilcmhjpcaa.HMem Go.Proofs.Ytgafnilcmhjpcaa.HHist Go.Proofs.Ytgafnilcmhjpcaa.HWide Go.Proofs.Ytgafnilcmhjpcaa.HApp
open Go.Proofs.Ytgafnilcmhjpcaa.Print (I64)

theorem rOf_any (n : Int) (w : World) (h : I64 n) :
    Calls Try.prog 43 #[.int .i64 n] w fun e w' => e = .returned (.agg #[.int .i64 (nrm n).1, .int .u64 (nrm n).2]) ∧ Below w.heap.size w w' := by
  have hn := h
  unfold Print.I64 at hn
  by_cases hneg : n < 0
  · have E := Lib.hid (show ((-1 : Int), IntKind.u64.wrap n) = nrm n by
      rw [u64w]; unfold nrm; refine Prod.ext ?_ rfl; simp only [wrap64, B64]; omega)
    go_enter Try.func43, Try.ntmps43
    go_wp2
    refine bodyPost_ret (v := .agg #[.int .i64 (-1), .int .u64 (IntKind.u64.wrap n)]) (by simp [results, Try.results43, go_sem]) rfl ⟨by rw [← E.out], ?_⟩
    exact (Below.refl _ w).alloc (Nat.le_refl _) _
  · have E := Lib.hid (show ((0 : Int), n) = nrm n by
      unfold nrm; refine Prod.ext ?_ ?_ <;> simp only [wrap64, B64] <;> omega)
    have h2 : ¬ n < 0 := hneg
    have h3 : IntKind.u64.wrap n = n := by rw [u64w]; unfold B64; omega
    go_enter Try.func43, Try.ntmps43
    go_wp2
    refine bodyPost_ret (v := .agg #[.int .i64 0, .int .u64 n]) (by simp [results, Try.results43, go_sem]) rfl ⟨by rw [← E.out], ?_⟩
    exact (Below.refl _ w).alloc (Nat.le_refl _) _
set_option maxHeartbeats 1000000 in
theorem rSumAdd_any (a b c d : Int) (w : World) (hb : 0 ≤ b) (hb1 : b ≤ 18446744073709551615) (hd : 0 ≤ d) (hd1 : d ≤ 18446744073709551615) :
    Calls Try.prog 42 #[.agg #[.int .i64 a, .int .u64 b], .agg #[.int .i64 c, .int .u64 d]] w fun e w' =>
      e = .returned (.agg #[.int .i64 (nrm (val a b + val c d)).1, .int .u64 (nrm (val a b + val c d)).2]) ∧ Below w.heap.size w w' := by
  obtain ⟨lo, hlo⟩ : ∃ lo, lo = IntKind.u64.wrap (b + d) := ⟨_, rfl⟩
  obtain ⟨p, hp⟩ : ∃ p, p = IntKind.u64.wrap a := ⟨_, rfl⟩
  obtain ⟨q, hq⟩ : ∃ q, q = IntKind.u64.wrap c := ⟨_, rfl⟩
  obtain ⟨hi, hhi⟩ : ∃ hi, hi = IntKind.u64.wrap (p + q) := ⟨_, rfl⟩
  have e1 := hlo.symm
  have e2 := hp.symm
  have e3 := hq.symm
  have e4 := hhi.symm
  by_cases hc : lo < b
  · obtain ⟨h2, hh2⟩ : ∃ h2, h2 = IntKind.u64.wrap (hi + 1) := ⟨_, rfl⟩
    obtain ⟨h3, hh3⟩ : ∃ h3, h3 = IntKind.i64.wrap h2 := ⟨_, rfl⟩
    have e5 := hh2.symm
    have e6 := hh3.symm
    have E := Lib.hid (show (h3, lo) = nrm (val a b + val c d) by
      rw [nrm_add, hh3, hh2, hhi, hlo, ← hp, ← hq]
      rw [hlo, u64w] at hc
      simp only [u64w, wrap64, IntKind.wrap_i64]
      unfold B64 at *
      refine Prod.ext ?_ rfl
      simp only
      omega)
    clear hlo hp hq hhi hh2 hh3 hb hb1 hd hd1
    go_enter Try.func42, Try.ntmps42
    go_wp2
    refine bodyPost_ret (v := .agg #[.int .i64 h3, .int .u64 lo]) (by simp [results, Try.results42, go_sem]) rfl ⟨by rw [← E.out], ?_⟩
    exact ((((Below.refl _ w).alloc (Nat.le_refl _) _).alloc (by simp) _).alloc (by simp; omega) _)
  · obtain ⟨h3, hh3⟩ : ∃ h3, h3 = IntKind.i64.wrap hi := ⟨_, rfl⟩
    have e6 := hh3.symm
    have E := Lib.hid (show (h3, lo) = nrm (val a b + val c d) by
      rw [nrm_add, hh3, hhi, hlo, ← hp, ← hq]
      rw [hlo, u64w] at hc
      simp only [u64w, wrap64, IntKind.wrap_i64]
      unfold B64 at *
      refine Prod.ext ?_ rfl
      simp only
      omega)
    have hc2 : ¬ lo < b := hc
    clear hlo hp hq hhi hh3 hb hb1 hd hd1
    go_enter Try.func42, Try.ntmps42
    go_wp2
    refine bodyPost_ret (v := .agg #[.int .i64 h3, .int .u64 lo]) (by simp [results, Try.results42, go_sem]) rfl ⟨by rw [← E.out], ?_⟩
    exact ((((Below.refl _ w).alloc (Nat.le_refl _) _).alloc (by simp) _).alloc (by simp; omega) _)
theorem rLess_any (a b c d : Int) (w : World) (h : Rng a b) (k : Rng c d) :
    Calls Try.prog 73 #[.agg #[.int .i64 a, .int .u64 b], .agg #[.int .i64 c, .int .u64 d]] w fun e w' => e = .returned (.bool (decide (val a b < val c d))) ∧ Below w.heap.size w w' := by
  obtain ⟨r, hr⟩ : ∃ r, r = decide (val a b < val c d) := ⟨_, rfl⟩
  rw [← hr]
  unfold Rng at h k
  have h4 : (a < c ∧ r = true) ∨ (¬ a < c ∧ a = c ∧ b < d ∧ r = true) ∨ (¬ a < c ∧ a = c ∧ ¬ b < d ∧ r = false) ∨ (¬ a < c ∧ ¬ a = c ∧ r = false) := by
    rw [hr]
    unfold val B64
    by_cases h1 : a < c
    · exact .inl ⟨h1, decide_eq_true (by omega)⟩
    · by_cases h2 : a = c
      · by_cases h3 : b < d
        · exact .inr (.inl ⟨h1, h2, h3, decide_eq_true (by omega)⟩)
        · exact .inr (.inr (.inl ⟨h1, h2, h3, decide_eq_false (by omega)⟩))
      · exact .inr (.inr (.inr ⟨h1, h2, decide_eq_false (by omega)⟩))
  clear hr h k
  rcases h4 with ⟨a1, a4⟩ | ⟨a1, a2, a3, a4⟩ | ⟨a1, a2, a3, a4⟩ | ⟨a1, a2, a4⟩
  case' inl => have A4 := Lib.hid a4; clear a4
  case' inr.inl =>
    have t1 : decide (a < c) = false := decide_eq_false a1
    have t2 : (a == c) = true := by simpa using a2
    have A4 := Lib.hid a4
    clear a4 a2 a1
  case' inr.inr.inl =>
    have t1 : decide (a < c) = false := decide_eq_false a1
    have t2 : (a == c) = true := by simpa using a2
    have t3 : decide (b < d) = false := decide_eq_false a3
    have A4 := Lib.hid a4
    clear a4 a2 a1 a3
  case' inr.inr.inr =>
    have t1 : decide (a < c) = false := decide_eq_false a1
    have t2 : (a == c) = false := by simpa using a2
    have A4 := Lib.hid a4
    clear a4 a2 a1
  all_goals
    go_enter Try.func73, Try.ntmps73
    go_wp2
    go_ret
    exact ⟨by rw [A4.out]; rfl, ((Below.refl _ _).alloc (Nat.le_refl _) _).alloc (by simp) _⟩
theorem putN_be (a b : Int) (hb : 0 ≤ b ∧ b ≤ 18446744073709551615) : putN a b = be (u64of a) 8 ++ be b.toNat 8 := by
  have e : ((u64of a : Nat) : Int) = a % 18446744073709551616 := by unfold u64of; omega
  have e2 : ((b.toNat : Nat) : Int) = b := by omega
  have ew : IntKind.u64.wrap a = a % 18446744073709551616 := u64w a
  simp only [putN, List.range_succ, List.range_zero, List.nil_append, List.map_append, List.map_cons, List.map_nil, List.cons_append, putF, hb, ew]
  simp only [be, Nat.reduceMul, Nat.reduceSub, Int.reducePow, Nat.reducePow, Nat.reduceLT, if_true, if_false, Int.natCast_emod, Int.natCast_ediv, e, e2, List.cons_append, List.nil_append]
  rfl
def byteN (N : Nat) (k : Nat) : Int := ((N / 2 ^ (56 - 8 * k) % 256 : Nat) : Int)
theorem be_take (N : Nat) (k : Nat) (h : k < 8) : (be N 8).take (k + 1) = (be N 8).take k ++ [byteN N k] := by
  have : (be N 8)[k]? = some (byteN N k) := by
    have hc : k = 0 ∨ k = 1 ∨ k = 2 ∨ k = 3 ∨ k = 4 ∨ k = 5 ∨ k = 6 ∨ k = 7 := by omega
    rcases hc with rfl | rfl | rfl | rfl | rfl | rfl | rfl | rfl <;> rfl
  rw [List.take_add_one, this]
  rfl
set_option maxHeartbeats 8000000 in
set_option maxRecDepth 20000 in
theorem rSumPut_any (a b : Int) (w : World) (hb : 0 ≤ b ∧ b ≤ 18446744073709551615) :
    Calls Try.prog 45 #[.agg #[.int .i64 a, .int .u64 b]] w fun e w' => e = .returned (.string (strOfNums (putN a b))) ∧ Below w.heap.size w w' := by
  obtain ⟨H, hH⟩ : ∃ H, H = u64of a := ⟨_, rfl⟩
  obtain ⟨L, hL⟩ : ∃ L, L = b.toNat := ⟨_, rfl⟩
  have EP := Lib.hid (show putN a b = be H 8 ++ be L 8 by rw [putN_be a b hb, hH, hL])
  rw [EP.out]
  have eL : b = (L : Int) := by omega
  have eH : IntKind.u64.wrap a = (H : Int) := by rw [u64w, hH]; unfold u64of B64; omega
  have hHlt : H < 18446744073709551616 := by rw [hH]; exact u64of_lt a
  have hLlt : L < 18446744073709551616 := by omega
  subst eL
  obtain ⟨B, hB⟩ : ∃ B, B = w.heap.size := ⟨_, rfl⟩
  obtain ⟨W, hW⟩ : ∃ W, W = w.alloc (.cells #[.int .i64 a, .int .u64 (L : Int)] 71) := ⟨_, rfl⟩
  have hx : W.heap[B]? = some (.cells #[.int .i64 a, .int .u64 (L : Int)] 71 (0, 0)) := by rw [hW, hB]; exact heap_alloc_new w _
  have BX := Lib.hid hx
  have B0 := Lib.hid (show Below w.heap.size w W by rw [hW]; exact (Below.refl _ _).alloc (Nat.le_refl _) _)
  obtain ⟨i0, hi, hz0, hz1, hz2⟩ := info_parts infoB
  clear hH hL EP hb hx
  go_enter Try.func45, Try.ntmps45
  go_wp2_with fail
  rw [← hW, ← hB]
  have HB := Lib.hid (show w.heap.size ≤ B ∧ B < W.heap.size from ⟨Nat.le_of_eq hB.symm, heap_lt BX.out⟩)
  clear hW hB
  obtain ⟨C, hC⟩ : ∃ C, C = W.heap.size := ⟨_, rfl⟩
  have HC := Lib.hid hC
  clear hC
  go_loopw [3, 4] (fun v x wr => ∃ k : Nat, k ≤ 8 ∧ x = .int .i64 k ∧ wr.ownsRow C 5 1 v k (vb ((be H 8).take k)) ∧ Below C W wr) (fun _ x _ => 8 - (intOf x).toNat)
  case atStart => exact ⟨0, by omega, rfl, ⟨rfl, .inl ⟨rfl, rfl⟩⟩, by rw [HC.out]; exact Below.refl _ _⟩
  case round =>
    obtain ⟨k, hk, rfl, own, bb⟩ := hrel
    have OWN := Lib.hid own
    have BB := Lib.hid bb
    have hbw : C ≤ wr.heap.size := by rw [HC.out]; exact bb.size
    have hxr : wr.heap[B]? = some (.cells #[.int .i64 a, .int .u64 (L : Int)] 71 (0, 0)) := by
      rw [bb.block B (by rw [HC.out]; exact HB.out.2)]; exact BX.out
    have c0 : wr.cell? ⟨B, 0, none⟩ = some (.int .i64 a) := by simp [World.cell?, hxr]
    clear own bb hxr
    rcases Nat.lt_or_ge k 8 with hlt | hge
    · obtain ⟨V, hV⟩ : ∃ V, V = byteN H k := ⟨_, rfl⟩
      have eV : (H : Int) / 2 ^ (56 - 8 * k) % 256 = V := by rw [hV]; unfold byteN; simp
      have ET := Lib.hid (be_take H k hlt)
      rw [← hV] at ET
      have HLT := Lib.hid hlt
      have OW5 := Lib.hid (OWN.out.alloc (.cells #[.int .u8 V] 5))
      have A2 : ∀ ad, (some ⟨wr.heap.size, 0, none⟩ : Option Addr) = some ad → ∀ j u, [Value.int .u8 V][j]? = some u → (wr.alloc (.cells #[.int .u8 V] 5)).cell? (ad.add j) = some u := fun ad e j u hj => by
        cases e
        match j, hj with
        | 0, hj => simp at hj; subst hj; rw [Addr.add_zero', new_cell]; rfl
      have A3 : ∀ u ∈ [Value.int .u8 V], u.oneCell' = true := fun u hu => by simp at hu; subst hu; rfl
      have A6 : C ≤ (wr.alloc (.cells #[.int .u8 V] 5)).heap.size := by simp; omega
      have hc : k = 0 ∨ k = 1 ∨ k = 2 ∨ k = 3 ∨ k = 4 ∨ k = 5 ∨ k = 6 ∨ k = 7 := by omega
      clear hV hlt hk
      rcases hc with rfl | rfl | rfl | rfl | rfl | rfl | rfl | rfl
      all_goals
        simp only [Nat.reduceMul, Nat.reduceSub, Int.reducePow, Nat.reduceAdd, Int.pow_zero, Int.ediv_one] at eV
        (try have eV0 : (H : Int) / 72057594037927936 = V := by rw [← eV]; omega)
        go_wp2_with (at_builtin; refine append_any _ rfl _ _ 79 rfl C 5 i0 (.int .u8 0) 1 1 Try.underlying79 hi hz0 hz1 hz2 rfl (by decide) _ _ (vb ((be H 8).take _)) rfl OW5.out (some ⟨wr.heap.size, 0, none⟩) 1 1 [.int .u8 V] rfl (fun e => nomatch e) rfl A2 A3 (by decide) (by decide) A6 ?_)
        intro v5 w5 o5 b5
        have B5 := Lib.hid (show Below C W w5 from (BB.out.alloc hbw _).trans b5)
        have O5 := Lib.hid (show w5.ownsRow C 5 1 v5 _ (vb ((be H 8).take _)) by
          rw [ET.out]
          have e : ∀ (l : List Int) (x : Int), vb (l ++ [x]) = vb l ++ [.int .u8 x] := fun l x => by simp [vb]
          rw [e]
          exact o5)
        clear o5 b5 OW5 A2 A3 A6 eV
        go_wp2
        go_roundw
        case rel => exact ⟨_, by decide, rfl, O5.out, B5.out⟩
        case measure => simp [intOf]
    · obtain rfl : k = 8 := by omega
      have hk8 : (be H 8).take 8 = be H 8 := List.take_of_length_le (by rw [be_length]; exact Nat.le_refl _)
      rw [hk8] at OWN
      clear hk8 hge hk c0
      obtain ⟨V0, hV0⟩ : ∃ V0, V0 = wr := ⟨_, rfl⟩
      subst hV0
      have BV := BB
      have OV := OWN
      clear BB OWN hbw
      rw [show ((8 : Nat) : Int) = 8 from rfl]
      go_wp2_with fail
      go_loopw [3, 5] (fun v x wr => ∃ k : Nat, k ≤ 8 ∧ x = .int .i64 k ∧ wr.ownsRow C 5 1 v (8 + k) (vb (be H 8 ++ (be L 8).take k)) ∧ Below C W wr) (fun _ x _ => 8 - (intOf x).toNat)
      case atStart => exact ⟨0, by omega, rfl, by rw [List.take_zero, List.append_nil]; exact OV.out, BV.out⟩
      case round =>
        obtain ⟨k, hk, rfl, own, bb⟩ := hrel
        have OWN := Lib.hid own
        have BB := Lib.hid bb
        have hbw : C ≤ wr.heap.size := by rw [HC.out]; exact bb.size
        have hxr : wr.heap[B]? = some (.cells #[.int .i64 a, .int .u64 (L : Int)] 71 (0, 0)) := by
          rw [bb.block B (by rw [HC.out]; exact HB.out.2)]; exact BX.out
        have c1 : wr.cell? ⟨B, 1, none⟩ = some (.int .u64 (L : Int)) := by simp [World.cell?, hxr]
        clear own bb hxr
        rcases Nat.lt_or_ge k 8 with hlt | hge
        · obtain ⟨V, hV⟩ : ∃ V, V = byteN L k := ⟨_, rfl⟩
          have eV : (L : Int) / 2 ^ (56 - 8 * k) % 256 = V := by rw [hV]; unfold byteN; simp
          have ET := Lib.hid (be_take L k hlt)
          rw [← hV] at ET
          have HLT := Lib.hid hlt
          have OW5 := Lib.hid (OWN.out.alloc (.cells #[.int .u8 V] 5))
          have A2 : ∀ ad, (some ⟨wr.heap.size, 0, none⟩ : Option Addr) = some ad → ∀ j u, [Value.int .u8 V][j]? = some u → (wr.alloc (.cells #[.int .u8 V] 5)).cell? (ad.add j) = some u := fun ad e j u hj => by
            cases e
            match j, hj with
            | 0, hj => simp at hj; subst hj; rw [Addr.add_zero', new_cell]; rfl
          have A3 : ∀ u ∈ [Value.int .u8 V], u.oneCell' = true := fun u hu => by simp at hu; subst hu; rfl
          have A6 : C ≤ (wr.alloc (.cells #[.int .u8 V] 5)).heap.size := by simp; omega
          have hc : k = 0 ∨ k = 1 ∨ k = 2 ∨ k = 3 ∨ k = 4 ∨ k = 5 ∨ k = 6 ∨ k = 7 := by omega
          clear hV hlt hk
          rcases hc with rfl | rfl | rfl | rfl | rfl | rfl | rfl | rfl
          all_goals
            simp only [Nat.reduceMul, Nat.reduceSub, Int.reducePow, Nat.reduceAdd, Int.pow_zero, Int.ediv_one] at eV
            (try have eV0 : (L : Int) / 72057594037927936 = V := by rw [← eV]; omega)
            go_wp2_with (at_builtin; refine append_any _ rfl _ _ 79 rfl C 5 i0 (.int .u8 0) 1 1 Try.underlying79 hi hz0 hz1 hz2 rfl (by decide) _ _ (vb (be H 8 ++ (be L 8).take _)) rfl OW5.out (some ⟨wr.heap.size, 0, none⟩) 1 1 [.int .u8 V] rfl (fun e => nomatch e) rfl A2 A3 (by decide) (by decide) A6 ?_)
            intro v5 w5 o5 b5
            have B5 := Lib.hid (show Below C W w5 from (BB.out.alloc hbw _).trans b5)
            have O5 := Lib.hid (show w5.ownsRow C 5 1 v5 _ (vb (be H 8 ++ (be L 8).take _)) by
              rw [ET.out]
              have e : ∀ (l : List Int) (x : Int), vb (l ++ [x]) = vb l ++ [.int .u8 x] := fun l x => by simp [vb]
              rw [← List.append_assoc, e]
              exact o5)
            clear o5 b5 OW5 A2 A3 A6 eV
            go_wp2
            go_roundw
            case rel => exact ⟨_, by decide, rfl, O5.out, B5.out⟩
            case measure => simp [intOf]
        · obtain rfl : k = 8 := by omega
          have hk8 : (be L 8).take 8 = be L 8 := List.take_of_length_le (by rw [be_length]; exact Nat.le_refl _)
          rw [hk8] at OWN
          obtain ⟨xs, hxs⟩ : ∃ xs, xs = be H 8 ++ be L 8 := ⟨_, rfl⟩
          have hxl : xs.length = 16 := by rw [hxs, List.length_append, be_length, be_length]
          have OE : wr.ownsRow C 5 1 u3 16 (vb xs) := by rw [hxs]; exact OWN.out
          have HXS := Lib.hid hxs
          clear hk8 hge hk c1 hxs OWN
          rcases OE.2 with ⟨rfl, h0⟩ | ⟨g, cap2, cur, rfl, h2, h3, h4, h5, h6, h7⟩
          · omega
          · have hcv := run_convert_bytes_arg (P := Try.prog) wr 79 5 Try.underlying79 Try.underlying5 g 0 16 cap2 xs hxl (fun i hi => by
              have hc := OE.cellAt i (by omega)
              rw [Nat.zero_add, hc]
              have hi' : i < xs.length := by rw [hxl]; exact hi
              simp [vb, List.getD_eq_getElem?_getD, List.getElem?_eq_getElem hi']) 9 Try.underlying9
            clear OE h2 h3 h4 h5 h6 h7
            have BR := Lib.hid (show Below w.heap.size w wr from B0.out.trans (BB.out.mono (by rw [HC.out]; exact B0.out.size)))
            go_wp2
            go_ret
            exact ⟨by rw [← HXS.out]; rfl, BR.out⟩
theorem num_drop (s : ByteArray) (k : Nat) (hs : s.size = 16) (hk : k < 8) : num ((s.data.toList.drop 8).take (k + 1)) = num ((s.data.toList.drop 8).take k) * 256 + (s[8 + k]'(by omega)).toNat := by
  have hl : s.data.toList.length = 16 := by rw [Array.length_toList]; exact hs
  have h : (s.data.toList.drop 8)[k]? = some (s[8 + k]'(by omega)) := by
    rw [List.getElem?_drop, List.getElem?_eq_getElem (by omega)]
    rfl
  rw [List.take_add_one, h, Option.toList_some, num_snoc]
set_option maxHeartbeats 2000000 in
theorem rWGet_any (s : ByteArray) (w : World) (hs : s.size = 16) :
    Calls Try.prog 47 #[.string s] w fun e w' => e = .returned (.tuple #[.agg #[.int .i64 (sumL s.data.toList).1, .int .u64 (sumL s.data.toList).2], .bool true]) ∧ Below w.heap.size w w' := by
  have hl : s.data.toList.length = 16 := by rw [Array.length_toList]; exact hs
  have t0 : ((s.size : Int) != 16) = false := by simp [hs]
  obtain ⟨B, hB⟩ : ∃ B, B = w.heap.size := ⟨_, rfl⟩
  obtain ⟨W, hW⟩ : ∃ W, W = w.alloc (.cells #[.int .i64 0, .int .u64 0] 71) := ⟨_, rfl⟩
  have hx : W.heap[B]? = some (.cells #[.int .i64 0, .int .u64 0] 71 (0, 0)) := by rw [hW, hB]; exact heap_alloc_new w _
  have BX := Lib.hid hx
  have B0 := Lib.hid (show Below w.heap.size w W by rw [hW]; exact (Below.refl _ _).alloc (Nat.le_refl _) _)
  have HB := Lib.hid hB
  have HS := Lib.hid hs
  go_enter Try.func47, Try.ntmps47
  go_wp2_with fail
  rw [← hW, ← hB]
  clear hW hB hx hs
  go_loopw [4, 5, 6] (fun x y z wr => ∃ k : Nat, k ≤ 8 ∧ z = .int .i64 k ∧ x = .int .u64 (num (s.data.toList.take k) : Nat) ∧ y = .int .u64 (num ((s.data.toList.drop 8).take k) : Nat) ∧ W = wr) (fun _ _ z _ => 8 - (intOf z).toNat)
  case atStart => exact ⟨0, Nat.zero_le _, rfl, rfl, rfl, rfl⟩
  case round =>
    obtain ⟨k, hk, rfl, rfl, rfl, rfl⟩ := hrel
    rcases Nat.lt_or_ge k 8 with hlt | hge
    · have hk1 : (k : Int) < 8 := by omega
      have hs := HS.out
      have hks : k < s.size := by omega
      have hks1 : (k : Int) < s.size := by omega
      have hkt : 8 + k < s.size := by omega
      obtain ⟨j, hj⟩ : ∃ j, j = 8 + k := ⟨_, rfl⟩
      have ej : (8 : Int) + (k : Int) = (j : Int) := by omega
      have hjs : j < s.size := by omega
      have hjs1 : (j : Int) < s.size := by omega
      have n1 : num (s.data.toList.take k) < 72057594037927936 := Nat.lt_of_lt_of_le (num_lt _) (Nat.le_trans (Nat.pow_le_pow_right (by decide) (show (s.data.toList.take k).length ≤ 7 by rw [List.length_take]; omega)) (by decide))
      have n2 : num ((s.data.toList.drop 8).take k) < 72057594037927936 := Nat.lt_of_lt_of_le (num_lt _) (Nat.le_trans (Nat.pow_le_pow_right (by decide) (show ((s.data.toList.drop 8).take k).length ≤ 7 by rw [List.length_take]; omega)) (by decide))
      have E1 := or_step (num (s.data.toList.take k)) (s[k]'hks).toNat n1 (s[k]'hks).toNat_lt
      have E2 := or_step (num ((s.data.toList.drop 8).take k)) (s[j]'hjs).toNat n2 (s[j]'hjs).toNat_lt
      have N1 : num (s.data.toList.take (k + 1)) = num (s.data.toList.take k) * 256 + (s[k]'hks).toNat := by rw [take_byte s k hks, num_snoc]
      have N2 : num ((s.data.toList.drop 8).take (k + 1)) = num ((s.data.toList.drop 8).take k) * 256 + (s[j]'hjs).toNat := by
        subst hj; exact num_drop s k hs hlt
      rw [← N1] at E1
      rw [← N2] at E2
      obtain ⟨m1, hm1⟩ : ∃ m, m = num (s.data.toList.take k) := ⟨_, rfl⟩
      obtain ⟨m2, hm2⟩ : ∃ m, m = num ((s.data.toList.drop 8).take k) := ⟨_, rfl⟩
      obtain ⟨p1, hp1⟩ : ∃ m, m = num (s.data.toList.take (k + 1)) := ⟨_, rfl⟩
      obtain ⟨p2, hp2⟩ : ∃ m, m = num ((s.data.toList.drop 8).take (k + 1)) := ⟨_, rfl⟩
      rw [← hm1, ← hp1] at E1
      rw [← hm2, ← hp2] at E2
      rw [← hm1] at n1 ⊢
      rw [← hm2] at n2 ⊢
      rw [u64_in ((m1 : Int) * 256) (by omega) (by omega)] at E1
      rw [u64_in ((m2 : Int) * 256) (by omega) (by omega)] at E2
      have P1 := Lib.hid hp1
      have P2 := Lib.hid hp2
      have HLT := Lib.hid hlt
      clear hm1 hm2 hp1 hp2 N1 N2 hlt hs hj hkt
      go_wp2
      go_roundw
      case rel => exact ⟨k + 1, HLT.out, by go_num, by rw [← P1.out, ← E1], by rw [← P2.out, ← E2], trivial⟩
      case measure => have := HLT.out; simp [intOf]; omega
    · obtain rfl : k = 8 := by omega
      have hx := BX.out
      have r0 : W.cell? ⟨B, 0, none⟩ = some (.int .i64 0) := by simp [World.cell?, hx]
      have r1 : W.cell? ⟨B, 1, none⟩ = some (.int .u64 0) := by simp [World.cell?, hx]
      have f0 : W.frozen? ⟨B, 0, none⟩ = false := by simp [World.frozen?, hx]
      have f1 : W.frozen? ⟨B, 1, none⟩ = false := by simp [World.frozen?, hx]
      obtain ⟨S1, hS1⟩ : ∃ S, S = IntKind.i64.wrap ((num (s.data.toList.take 8) : Nat) : Int) := ⟨_, rfl⟩
      obtain ⟨m2, hm2⟩ : ∃ m, m = num ((s.data.toList.drop 8).take 8) := ⟨_, rfl⟩
      have ES : sumL s.data.toList = (S1, (m2 : Int)) := by unfold sumL; rw [← hS1, ← hm2]
      have e1 := hS1.symm
      rw [← hm2]
      have HES := Lib.hid ES
      have r2 : ((W.setCell ⟨B, 0, none⟩ (.int .i64 S1)).setCell ⟨B, 1, none⟩ (.int .u64 m2)).cell? ⟨B, 0, none⟩ = some (.int .i64 S1) := by
        have h2 := set_at (set_at hx 0 (.int .i64 S1)) 1 (.int .u64 (m2 : Int))
        simp [World.cell?, h2]
      have r3 : ((W.setCell ⟨B, 0, none⟩ (.int .i64 S1)).setCell ⟨B, 1, none⟩ (.int .u64 m2)).cell? ⟨B, 1, none⟩ = some (.int .u64 m2) := by
        have h2 := set_at (set_at hx 0 (.int .i64 S1)) 1 (.int .u64 (m2 : Int))
        simp [World.cell?, h2]
      have hle : w.heap.size ≤ B := Nat.le_of_eq HB.out.symm
      have BW := Lib.hid (show Below w.heap.size w ((W.setCell ⟨B, 0, none⟩ (.int .i64 S1)).setCell ⟨B, 1, none⟩ (.int .u64 m2)) from
        Below.setCell (Below.setCell B0.out (show w.heap.size ≤ (Addr.block ⟨B, 0, none⟩) from hle) _) (show w.heap.size ≤ (Addr.block ⟨B, 1, none⟩) from hle) _)
      clear hS1 hm2 ES hx hle
      go_wp2
      exact bodyPost_ret (v := .tuple #[.agg #[.int .i64 S1, .int .u64 m2], .bool true]) (by simp [results, Try.results47, go_sem, r2, r3]) rfl ⟨by rw [HES.out], BW.out⟩
end Go.Proofs.Ytgafnilcmhjpcaa.HCell
