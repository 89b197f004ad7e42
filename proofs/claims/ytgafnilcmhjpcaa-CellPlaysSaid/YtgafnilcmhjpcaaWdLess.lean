/- Sums of 128 bits: Less; numbers: Mul64; walked by hand, with no print's words. Conditions: the numbers are of their kinds' ranges. -/
import Derived.Test.YtgafnilcmhjpcaaWd
import Derived.Test.YtgafnilcmhjpcaaQTail
import Derived.Test.YtgafnilcmhjpcaaHist
import Derived.BigRegion
import Derived.BigQuiet
namespace Go.Proofs.Ytgafnilcmhjpcaa.HWide
set_option linter.unusedVariables false
open Go.RowKit Go.Proofs.Ytgafnilcmhjpcaa.HMem
open Go.Proofs.Ytgafnilcmhjpcaa.HHist (cmpI cmpI_neg)

theorem cmp64_any (a b : Int) (w : World) : Calls Try.prog 102 #[.int .i64 a, .int .i64 b] w fun e w' => e = .returned (.int .i64 (cmpI a b)) ∧ w = w' := by
  by_cases h1 : a < b
  · rw [show cmpI a b = -1 from if_pos h1]
    go_enter Try.func102, Try.ntmps102
    go_wp2
    go_ret
    exact ⟨rfl, rfl⟩
  · by_cases h2 : b < a
    · rw [show cmpI a b = 1 by unfold HHist.cmpI; rw [if_neg h1, if_pos h2]]
      go_enter Try.func102, Try.ntmps102
      go_wp2
      go_ret
      exact ⟨rfl, rfl⟩
    · rw [show cmpI a b = 0 by unfold HHist.cmpI; rw [if_neg h1, if_neg h2]]
      go_enter Try.func102, Try.ntmps102
      go_wp2
      go_ret
      exact ⟨rfl, rfl⟩
theorem cmpu_any (a b : Int) (w : World) : Calls Try.prog 103 #[.int .u64 a, .int .u64 b] w fun e w' => e = .returned (.int .i64 (cmpI a b)) ∧ w = w' := by
  by_cases h1 : a < b
  · rw [show cmpI a b = -1 from if_pos h1]
    go_enter Try.func103, Try.ntmps103
    go_wp2
    go_ret
    exact ⟨rfl, rfl⟩
  · by_cases h2 : b < a
    · rw [show cmpI a b = 1 by unfold HHist.cmpI; rw [if_neg h1, if_pos h2]]
      go_enter Try.func103, Try.ntmps103
      go_wp2
      go_ret
      exact ⟨rfl, rfl⟩
    · rw [show cmpI a b = 0 by unfold HHist.cmpI; rw [if_neg h1, if_neg h2]]
      go_enter Try.func103, Try.ntmps103
      go_wp2
      go_ret
      exact ⟨rfl, rfl⟩
theorem or_any (x y : Int) (g : Nat) (w : World) (h : w.heap[g]? = some (.cells #[.int .i64 x, .int .i64 y] 3 (0, 0))) :
    Calls Try.prog 101 #[.slice (some ⟨g, 0, none⟩) 2 2] w fun e w' => e = .returned (.int .i64 (if x = 0 then y else x)) ∧ w = w' := by
  have c0 : w.cell? ⟨g, 0, none⟩ = some (.int .i64 x) := by simp [World.cell?, h]
  have c1 : w.cell? ⟨g, 1, none⟩ = some (.int .i64 y) := by simp [World.cell?, h]
  obtain ⟨r, hr⟩ : ∃ r, r = if x = 0 then y else x := ⟨_, rfl⟩
  rw [← hr]
  have HR := Lib.hid hr
  clear h hr
  go_enter Try.func101, Try.ntmps101
  go_wp2_with fail
  go_loopw [5, 8] (fun _ i wr => ∃ k : Nat, i = .int .i64 k ∧ w = wr ∧ (k = 0 ∨ (x = 0 ∧ k = 1) ∨ (x = 0 ∧ y = 0 ∧ k = 2))) (fun _ i _ => 2 - (intOf i).toNat)
  case atStart => exact ⟨0, rfl, rfl, .inl rfl⟩
  case round =>
    obtain ⟨k, rfl, rfl, hk⟩ := hrel
    rcases hk with rfl | ⟨hx, rfl⟩ | ⟨hx, hy, rfl⟩
    · by_cases hx : x = 0
      · have t1 : (x != 0) = false := by simp [hx]
        have HX := Lib.hid hx
        clear hx
        go_wp2
        go_roundw
        case rel => exact ⟨1, rfl, trivial, .inr (.inl ⟨HX.out, rfl⟩)⟩
        case measure => simp [intOf]
      · have t1 : (x != 0) = true := by simp [hx]
        have E := Lib.hid (show r = x by rw [HR.out, if_neg hx])
        clear hx
        go_wp2
        go_ret
        exact ⟨by rw [E.out]; rfl, rfl⟩
    · by_cases hy : y = 0
      · have t1 : (y != 0) = false := by simp [hy]
        have HX := Lib.hid (And.intro hx hy)
        clear hx hy
        go_wp2
        go_roundw
        case rel => exact ⟨2, rfl, trivial, .inr (.inr ⟨HX.out.1, HX.out.2, rfl⟩)⟩
        case measure => simp [intOf]
      · have t1 : (y != 0) = true := by simp [hy]
        have E := Lib.hid (show r = y by rw [HR.out, if_pos hx])
        clear hy hx
        go_wp2
        go_ret
        exact ⟨by rw [E.out]; rfl, rfl⟩
    · have E := Lib.hid (show r = 0 by rw [HR.out, if_pos hx, hy])
      clear hx hy
      go_wp2
      go_ret
      exact ⟨by rw [E.out]; rfl, rfl⟩
theorem cmpI_val (a b c d : Int) (h : Rng a b) (k : Rng c d) : (if cmpI a c = 0 then cmpI b d else cmpI a c) = cmpI (val a b) (val c d) := by
  unfold Rng at h k
  unfold HHist.cmpI val B64
  by_cases h1 : a < c
  · rw [if_pos h1, if_neg (by omega), if_pos (by omega)]
  · by_cases h2 : c < a
    · rw [if_neg h1, if_pos h2, if_neg (by omega), if_neg (by omega), if_pos (by omega)]
    · rw [if_neg h1, if_neg h2, if_pos rfl]
      by_cases h3 : b < d
      · rw [if_pos h3, if_pos (by omega)]
      · by_cases h4 : d < b
        · rw [if_neg h3, if_pos h4, if_neg (by omega), if_pos (by omega)]
        · rw [if_neg h3, if_neg h4, if_neg (by omega), if_neg (by omega)]
set_option maxHeartbeats 2000000 in
theorem compare_any (a b c d : Int) (w : World) (h : Rng a b) (k : Rng c d) :
    Calls Try.prog 97 #[.agg #[.int .i64 a, .int .u64 b], .agg #[.int .i64 c, .int .u64 d]] w fun e w' => e = .returned (.int .i64 (cmpI (val a b) (val c d))) ∧ Below w.heap.size w w' := by
  obtain ⟨X, hX⟩ : ∃ X, X = w.heap.size := ⟨_, rfl⟩
  obtain ⟨Y, hY⟩ : ∃ Y, Y = w.heap.size + 1 := ⟨_, rfl⟩
  obtain ⟨W, hW⟩ : ∃ W, W = (w.alloc (.cells #[.int .i64 a, .int .u64 b] 43)).alloc (.cells #[.int .i64 c, .int .u64 d] 43) := ⟨_, rfl⟩
  have hs : (w.alloc (.cells #[.int .i64 a, .int .u64 b] 43)).heap.size = w.heap.size + 1 := by simp
  have b0 : Below w.heap.size w W := by rw [hW]; exact ((Below.refl _ _).alloc (Nat.le_refl _) _).alloc (by simp) _
  have hx : W.heap[X]? = some (.cells #[.int .i64 a, .int .u64 b] 43 (0, 0)) := by
    rw [hW, hX, Lib.alloc_old _ _ _ (by simp)]; exact heap_alloc_new w _
  have hy : W.heap[Y]? = some (.cells #[.int .i64 c, .int .u64 d] 43 (0, 0)) := by
    rw [hW, hY, ← hs]; exact heap_alloc_new _ _
  have x0 : W.cell? ⟨X, 0, none⟩ = some (.int .i64 a) := by simp [World.cell?, hx]
  have x1 : W.cell? ⟨X, 1, none⟩ = some (.int .u64 b) := by simp [World.cell?, hx]
  have y0 : W.cell? ⟨Y, 0, none⟩ = some (.int .i64 c) := by simp [World.cell?, hy]
  have y1 : W.cell? ⟨Y, 1, none⟩ = some (.int .u64 d) := by simp [World.cell?, hy]
  obtain ⟨p, hp⟩ : ∃ p, p = cmpI a c := ⟨_, rfl⟩
  obtain ⟨q, hq⟩ : ∃ q, q = cmpI b d := ⟨_, rfl⟩
  have K1 := Lib.hid (show ∀ v, Below W.heap.size W v → Calls Try.prog 102 #[.int .i64 a, .int .i64 c] v fun e w' => e = .returned (.int .i64 p) ∧ Below v.heap.size v w' from fun v hv =>
    (cmp64_any a c v).mono fun e w' ⟨h1, h2⟩ => ⟨by rw [hp]; exact h1, by subst h2; exact Below.refl _ _⟩)
  have K2 := Lib.hid (show ∀ v, Below W.heap.size W v → Calls Try.prog 103 #[.int .u64 b, .int .u64 d] v fun e w' => e = .returned (.int .i64 q) ∧ Below v.heap.size v w' from fun v hv =>
    (cmpu_any b d v).mono fun e w' ⟨h1, h2⟩ => ⟨by rw [hq]; exact h1, by subst h2; exact Below.refl _ _⟩)
  obtain ⟨r, hr⟩ : ∃ r, r = if p = 0 then q else p := ⟨_, rfl⟩
  have E := Lib.hid (show cmpI (val a b) (val c d) = r by rw [hr, hp, hq, cmpI_val a b c d h k])
  rw [E.out]
  have KO := Lib.hid (fun g v (hv : v.heap[g]? = some (.cells #[.int .i64 p, .int .i64 q] 3 (0, 0))) => or_any p q g v hv)
  rw [← hr] at KO
  clear hr
  have B0 := Lib.hid b0
  clear hp hq hx hy h k hs b0
  go_enter Try.func97, Try.ntmps97
  go_wp2_with fail
  rw [← hW, ← hY, ← hX]
  clear hW hX hY
  refine QTail.wp_region_quiet_tail (C := fun w' => Below W.heap.size W w') 10 (by kernel_rfl) (by kernel_rfl) ((Below.refl _ _).drew) ?_
  simp only [List.take_succ_cons, List.take_zero]
  repeat (
    with_reducible refine wpQuiet_step (fun K hK => ?_)
    go_simp
    first
      | (with_reducible refine hK _ ?_; clear hK K)
      | (refine hK _ ?_; clear hK K)
      | (apply Exists.intro
         refine ⟨fun v hv => ?_, hK _ ?_⟩
         (first
           | with_reducible rfl
           | (with_reducible show Calls _ _ _ _ _
              first
                | with_reducible refine Calls.mono (K1.out _ hv) ?_
                | with_reducible refine Calls.mono (K2.out _ hv) ?_
              rintro e w' ⟨rfl, hb⟩
              exact ⟨rfl, hv.trans (hb.mono hv.size)⟩)
           | (have d0 := (hv.cell (World.block_lt_of_cell? _ _ x0)).trans x0
              have d1 := (hv.cell (World.block_lt_of_cell? _ _ x1)).trans x1
              have d2 := (hv.cell (World.block_lt_of_cell? _ _ y0)).trans y0
              have d3 := (hv.cell (World.block_lt_of_cell? _ _ y1)).trans y1
              go_simp
              with_reducible rfl))
         clear hK K))
  refine wpQuiet_nil ?_
  intro w1 b1
  simp only [List.drop_succ_cons, List.drop_zero]
  have B1 := Lib.hid (B0.out.trans (b1.mono B0.out.size))
  clear b1 K1 K2 x0 x1 y0 y1
  go_wp2_with fail
  refine (KO.out w1.heap.size _ (heap_alloc_new w1 _)).mono ?_
  rintro e w2 ⟨rfl, rfl⟩
  go_wp2
  go_ret
  exact ⟨rfl, B1.out.alloc B1.out.size _⟩
theorem Less_any (a b c d : Int) (w : World) (h : Rng a b) (k : Rng c d) :
    Calls Try.prog 88 #[.agg #[.int .i64 a, .int .u64 b], .agg #[.int .i64 c, .int .u64 d]] w fun e w' => e = .returned (.bool (decide (val a b < val c d))) ∧ Below w.heap.size w w' := by
  obtain ⟨r, hr⟩ : ∃ r, r = decide (val a b < val c d) := ⟨_, rfl⟩
  rw [← hr]
  obtain ⟨z, hz⟩ : ∃ z, z = cmpI (val a b) (val c d) := ⟨_, rfl⟩
  have HZ := Lib.hid (show decide (z < 0) = r by
    rw [hz, hr]
    by_cases hh : val a b < val c d
    · rw [decide_eq_true hh, decide_eq_true ((cmpI_neg _ _).2 hh)]
    · rw [decide_eq_false hh, decide_eq_false (fun q => hh ((cmpI_neg _ _).1 q))])
  have K := Lib.hid (fun v => compare_any a b c d v h k)
  rw [← hz] at K
  clear hr hz h k
  go_enter Try.func88, Try.ntmps88
  go_wp2_with fail
  refine (K.out _).mono ?_
  rintro e w1 ⟨rfl, b1⟩
  have B1 := Lib.hid ((((Below.refl w.heap.size w).alloc (Nat.le_refl _) _).alloc (by simp) _).trans (b1.mono (by simp; omega)))
  clear b1
  go_wp2
  go_ret
  exact ⟨by rw [← HZ.out]; rfl, B1.out⟩
theorem and32 (x : Int) (h0 : 0 ≤ x) (h1 : x ≤ 18446744073709551615) : Go.bits .and .u64 x 4294967295 = x % 4294967296 := by
  obtain ⟨n, rfl⟩ := Int.eq_ofNat_of_zero_le h0
  have := u64_and_nat n 4294967295 (by omega) (by omega)
  rw [show ((4294967295 : Nat) : Int) = 4294967295 from rfl] at this
  rw [this, show (4294967295 : Nat) = 2 ^ 32 - 1 from rfl, Nat.and_two_pow_sub_one_eq_mod]
  rfl
theorem ret2_eq {a b c d : Int} {k j : IntKind} (h1 : a = c) (h2 : b = d) : Ending.returned (.tuple #[.int k a, .int j b]) = .returned (.tuple #[.int k c, .int j d]) := by rw [h1, h2]
theorem mul_bound (a b : Int) (ha : 0 ≤ a ∧ a ≤ 4294967295) (hb : 0 ≤ b ∧ b ≤ 4294967295) : 0 ≤ a * b ∧ a * b ≤ 18446744065119617025 := by
  refine ⟨Int.mul_nonneg ha.1 hb.1, ?_⟩
  calc a * b ≤ 4294967295 * b := Int.mul_le_mul_of_nonneg_right ha.2 hb.1
    _ ≤ 4294967295 * 4294967295 := Int.mul_le_mul_of_nonneg_left hb.2 (by decide)
    _ = 18446744065119617025 := by decide
set_option maxHeartbeats 1000000 in
theorem mul64_any (x y : Int) (w : World) (hx : 0 ≤ x ∧ x ≤ 18446744073709551615) (hy : 0 ≤ y ∧ y ≤ 18446744073709551615) :
    Calls Try.prog 98 #[.int .u64 x, .int .u64 y] w fun e w' => e = .returned (.tuple #[.int .u64 (x * y / B64), .int .u64 (x * y % B64)]) ∧ w' = w := by
  obtain ⟨x0, hx0⟩ : ∃ x0, x0 = x % 4294967296 := ⟨_, rfl⟩
  obtain ⟨x1, hx1⟩ : ∃ x1, x1 = x / 4294967296 := ⟨_, rfl⟩
  obtain ⟨y0, hy0⟩ : ∃ y0, y0 = y % 4294967296 := ⟨_, rfl⟩
  obtain ⟨y1, hy1⟩ : ∃ y1, y1 = y / 4294967296 := ⟨_, rfl⟩
  have a1 := and32 x hx.1 hx.2
  have a2 := and32 y hy.1 hy.2
  rw [← hx0] at a1
  rw [← hy0] at a2
  obtain ⟨p00, h00⟩ : ∃ p, p = x0 * y0 := ⟨_, rfl⟩
  obtain ⟨p10, h10⟩ : ∃ p, p = x1 * y0 := ⟨_, rfl⟩
  obtain ⟨p01, h01⟩ : ∃ p, p = x0 * y1 := ⟨_, rfl⟩
  obtain ⟨p11, h11⟩ : ∃ p, p = x1 * y1 := ⟨_, rfl⟩
  have q00 := mul_bound x0 y0 (by omega) (by omega)
  have q10 := mul_bound x1 y0 (by omega) (by omega)
  have q01 := mul_bound x0 y1 (by omega) (by omega)
  have q11 := mul_bound x1 y1 (by omega) (by omega)
  have ex : x = x1 * 4294967296 + x0 := by omega
  have ey : y = y1 * 4294967296 + y0 := by omega
  have E : x * y = p11 * 18446744073709551616 + (p10 + p01) * 4294967296 + p00 := by
    rw [ex, ey, h00, h10, h01, h11, Int.add_mul, Int.mul_add, Int.mul_add]
    have e1 : x1 * 4294967296 * (y1 * 4294967296) = x1 * y1 * 18446744073709551616 := by
      rw [Int.mul_assoc, Int.mul_left_comm 4294967296 y1, ← Int.mul_assoc]; rfl
    have e2 : x1 * 4294967296 * y0 = x1 * y0 * 4294967296 := by rw [Int.mul_assoc, Int.mul_comm 4294967296, ← Int.mul_assoc]
    have e3 : x0 * (y1 * 4294967296) = x0 * y1 * 4294967296 := by rw [← Int.mul_assoc]
    rw [e1, e2, e3, Int.add_mul]
    omega
  rw [← h00] at q00
  rw [← h10] at q10
  rw [← h01] at q01
  rw [← h11] at q11
  have m00 : x0 * y0 = p00 := h00.symm
  have m10 : x1 * y0 = p10 := h10.symm
  have m01 : x0 * y1 = p01 := h01.symm
  have m11 : x1 * y1 = p11 := h11.symm
  obtain ⟨z, hz⟩ : ∃ z, z = x * y := ⟨_, rfl⟩
  have EZ := Lib.hid (show z = p11 * 18446744073709551616 + (p10 + p01) * 4294967296 + p00 by rw [hz, E])
  have mz : x * y = z := hz.symm
  have s1 : x / 4294967296 = x1 := hx1.symm
  have s2 : y / 4294967296 = y1 := hy1.symm
  have w1 : IntKind.u64.wrap p00 = p00 := by rw [u64w]; unfold B64; omega
  have w2 : IntKind.u64.wrap p10 = p10 := by rw [u64w]; unfold B64; omega
  have w3 : IntKind.u64.wrap p01 = p01 := by rw [u64w]; unfold B64; omega
  have w4 : IntKind.u64.wrap p11 = p11 := by rw [u64w]; unfold B64; omega
  obtain ⟨t, ht⟩ : ∃ t, t = p10 + p00 / 4294967296 := ⟨_, rfl⟩
  have tz : p10 + p00 / 4294967296 = t := ht.symm
  have w5 : IntKind.u64.wrap t = t := by rw [u64w]; unfold B64; omega
  have a3 := and32 t (by omega) (by omega)
  obtain ⟨u, hu⟩ : ∃ u, u = t % 4294967296 + p01 := ⟨_, rfl⟩
  have uz : t % 4294967296 + p01 = u := hu.symm
  have w6 : IntKind.u64.wrap u = u := by rw [u64w]; unfold B64; omega
  obtain ⟨v, hv⟩ : ∃ v, v = p11 + t / 4294967296 := ⟨_, rfl⟩
  have vz : p11 + t / 4294967296 = v := hv.symm
  have w7 : IntKind.u64.wrap v = v := by rw [u64w]; unfold B64; omega
  have FIN := Lib.hid (show IntKind.u64.wrap (v + u / 4294967296) = z / B64 by
    rw [EZ.out, u64w]
    unfold B64
    omega)
  rw [mz]
  clear E ex ey hx0 hx1 hy0 hy1 h00 h10 h01 h11 hz ht hu hv q00 q10 q01 q11 hx hy
  go_enter Try.func98, Try.ntmps98
  go_wp2
  go_ret2
  refine ⟨ret2_eq ?_ ?_, rfl⟩
  · exact FIN.out
  · rw [u64w]
end Go.Proofs.Ytgafnilcmhjpcaa.HWide
