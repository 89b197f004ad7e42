/- The walk of WideEnds. -/
import Derived.Test.YtfbmdlheajclcaaWideEx
import Derived.Test.YtfbmdlheajclcaaWideCanon
namespace Go.Proofs.Ytfbmdlheajclcaa.HWide
open Go.RowKit Go.Proofs.Ytfbmdlheajclcaa.Print Go.Proofs.YtfbmdlheajclcaaW.PrintWords Go.Proofs.YtfbmdlheajclcaaW.PrintLast Go.Proofs.YtfbmdlheajclcaaW.PrintMore

theorem en_r1 : readR ⟨#[49, 55, 48, 49, 52, 49, 49, 56, 51, 52, 54, 48, 52, 54, 57, 50, 51, 49, 55, 51, 49, 54, 56, 55, 51, 48, 51, 55, 49, 53, 56, 56, 52, 49, 48, 53, 55, 50, 55]⟩ = ((9223372036854775807, 18446744073709551615), true) := by decide +kernel
theorem en_c1 (w : World) : Calls Try.prog 27 #[.string ⟨#[49, 55, 48, 49, 52, 49, 49, 56, 51, 52, 54, 48, 52, 54, 57, 50, 51, 49, 55, 51, 49, 54, 56, 55, 51, 48, 51, 55, 49, 53, 56, 56, 52, 49, 48, 53, 55, 50, 55]⟩] w fun e w' => e = .returned (.tuple #[.agg #[.int .i64 9223372036854775807, .int .u64 18446744073709551615], .bool true]) ∧ Below w.heap.size w w' := by
  have := Read_any ⟨#[49, 55, 48, 49, 52, 49, 49, 56, 51, 52, 54, 48, 52, 54, 57, 50, 51, 49, 55, 51, 49, 54, 56, 55, 51, 48, 51, 55, 49, 53, 56, 56, 52, 49, 48, 53, 55, 50, 55]⟩ w (by decide)
  rw [en_r1] at this
  exact this
theorem en_r2 : readR ⟨#[45, 49, 55, 48, 49, 52, 49, 49, 56, 51, 52, 54, 48, 52, 54, 57, 50, 51, 49, 55, 51, 49, 54, 56, 55, 51, 48, 51, 55, 49, 53, 56, 56, 52, 49, 48, 53, 55, 50, 56]⟩ = (((-9223372036854775808), 0), true) := by decide +kernel
theorem en_c2 (w : World) : Calls Try.prog 27 #[.string ⟨#[45, 49, 55, 48, 49, 52, 49, 49, 56, 51, 52, 54, 48, 52, 54, 57, 50, 51, 49, 55, 51, 49, 54, 56, 55, 51, 48, 51, 55, 49, 53, 56, 56, 52, 49, 48, 53, 55, 50, 56]⟩] w fun e w' => e = .returned (.tuple #[.agg #[.int .i64 (-9223372036854775808), .int .u64 0], .bool true]) ∧ Below w.heap.size w w' := by
  have := Read_any ⟨#[45, 49, 55, 48, 49, 52, 49, 49, 56, 51, 52, 54, 48, 52, 54, 57, 50, 51, 49, 55, 51, 49, 54, 56, 55, 51, 48, 51, 55, 49, 53, 56, 56, 52, 49, 48, 53, 55, 50, 56]⟩ w (by decide)
  rw [en_r2] at this
  exact this
theorem en_r3 : readR ⟨#[49, 55, 48, 49, 52, 49, 49, 56, 51, 52, 54, 48, 52, 54, 57, 50, 51, 49, 55, 51, 49, 54, 56, 55, 51, 48, 51, 55, 49, 53, 56, 56, 52, 49, 48, 53, 55, 50, 56]⟩ = ((0, 0), false) := by decide +kernel
theorem en_c3 (w : World) : Calls Try.prog 27 #[.string ⟨#[49, 55, 48, 49, 52, 49, 49, 56, 51, 52, 54, 48, 52, 54, 57, 50, 51, 49, 55, 51, 49, 54, 56, 55, 51, 48, 51, 55, 49, 53, 56, 56, 52, 49, 48, 53, 55, 50, 56]⟩] w fun e w' => e = .returned (.tuple #[.agg #[.int .i64 0, .int .u64 0], .bool false]) ∧ Below w.heap.size w w' := by
  have := Read_any ⟨#[49, 55, 48, 49, 52, 49, 49, 56, 51, 52, 54, 48, 52, 54, 57, 50, 51, 49, 55, 51, 49, 54, 56, 55, 51, 48, 51, 55, 49, 53, 56, 56, 52, 49, 48, 53, 55, 50, 56]⟩ w (by decide)
  rw [en_r3] at this
  exact this

/-- Some cells stay as they are, and all that lay there ahead. -/
def KC (w0 w : World) (l : List (Nat × (Int × Int))) : Prop := (∀ p ∈ l, two w p.1 p.2) ∧ Below w0.heap.size w0 w
theorem KC.carry {w0 w w' : World} {l : List (Nat × (Int × Int))} (hb : Below w.heap.size w w') (h : KC w0 w l) : KC w0 w' l := ⟨fun p hp => (h.1 p hp).mono hb, h.2.trans (hb.mono h.2.size)⟩
theorem KC.drew {w0 w : World} {l : List (Nat × (Int × Int))} (h : KC w0 w l) : KC w0 w.drew l := ⟨fun p hp => h.1 p hp, ⟨h.2.os, h.2.tape, h.2.output, h.2.size, h.2.block⟩⟩
theorem KC.new {w0 w : World} {l : List (Nat × (Int × Int))} (h : KC w0 w l) (x : Int × Int) : KC w0 (w.alloc (.cells #[.int .i64 x.1, .int .u64 x.2] 24)) ((w.heap.size, x) :: l) := by
  refine ⟨fun p hp => ?_, h.2.trans ((Below.refl _ _).alloc h.2.size _)⟩
  rcases List.mem_cons.1 hp with rfl | hp
  · show (w.heap.push _)[w.heap.size]? = _
    rw [Array.getElem?_push_size]
  · exact (h.1 p hp).mono ((Below.refl _ _).alloc (Nat.le_refl _) _)

theorem en_add1 (w : World) : Calls Try.prog 13 #[.agg #[.int .i64 9223372036854775807, .int .u64 18446744073709551615], .agg #[.int .i64 0, .int .u64 1]] w fun e w' => e = .returned (.agg #[.int .i64 (-9223372036854775808), .int .u64 0]) ∧ Below w.heap.size w w' := wide_Sum_Add.calls _ _ _ _ _ _ w (by decide +kernel)
theorem en_neg (w : World) : Calls Try.prog 15 #[.agg #[.int .i64 (-9223372036854775808), .int .u64 0]] w fun e w' => e = .returned (.agg #[.int .i64 (-9223372036854775808), .int .u64 0]) ∧ Below w.heap.size w w' := wide_Sum_Neg.calls _ _ _ _ w (by decide +kernel)
theorem en_of (n : Int) (hn : 0 ≤ n ∧ n ≤ 4294967295) (w : World) : Calls Try.prog 25 #[.int .i64 (1 + n)] w fun e w' => e = .returned (.agg #[.int .i64 (nrm (1 + n)).1, .int .u64 (nrm (1 + n)).2]) ∧ Below w.heap.size w w' := wide_Of.calls _ _ _ w (of_is _ (by omega))
theorem en_ofm (n : Int) (hn : 0 ≤ n ∧ n ≤ 4294967295) (w : World) : Calls Try.prog 25 #[.int .i64 (IntKind.i64.wrap (-(1 + n)))] w fun e w' => e = .returned (.agg #[.int .i64 (nrm (-(1 + n))).1, .int .u64 (nrm (-(1 + n))).2]) ∧ Below w.heap.size w w' := by
  have e : IntKind.i64.wrap (-(1 + n)) = -(1 + n) := by
    rw [IntKind.wrap_i64]; omega
  rw [e]
  exact wide_Of.calls _ _ _ w (of_is _ (by omega))
def eA (n : Int) : Int := 170141183460469231731687303715884105727 + (1 + n)
def eB (n : Int) : Int := -170141183460469231731687303715884105728 + -(1 + n)
theorem nrm_most : nrm 170141183460469231731687303715884105727 = (9223372036854775807, 18446744073709551615) := by decide +kernel
theorem nrm_least : nrm (-170141183460469231731687303715884105728) = (-9223372036854775808, 0) := by decide +kernel
theorem en_add2 (n : Int) (_hn : 0 ≤ n ∧ n ≤ 4294967295) (w : World) : Calls Try.prog 13 #[.agg #[.int .i64 9223372036854775807, .int .u64 18446744073709551615], .agg #[.int .i64 (nrm (1 + n)).1, .int .u64 (nrm (1 + n)).2]] w fun e w' => e = .returned (.agg #[.int .i64 (nrm (eA n)).1, .int .u64 (nrm (eA n)).2]) ∧ Below w.heap.size w w' := by
  have h := add_is 170141183460469231731687303715884105727 (1 + n)
  rw [nrm_most] at h
  exact wide_Sum_Add.calls _ _ _ _ _ _ w h
theorem en_add3 (n : Int) (_hn : 0 ≤ n ∧ n ≤ 4294967295) (w : World) : Calls Try.prog 13 #[.agg #[.int .i64 (-9223372036854775808), .int .u64 0], .agg #[.int .i64 (nrm (-(1 + n))).1, .int .u64 (nrm (-(1 + n))).2]] w fun e w' => e = .returned (.agg #[.int .i64 (nrm (eB n)).1, .int .u64 (nrm (eB n)).2]) ∧ Below w.heap.size w w' := by
  have h := add_is (-170141183460469231731687303715884105728) (-(1 + n))
  rw [nrm_least] at h
  exact wide_Sum_Add.calls _ _ _ _ _ _ w h
theorem val_eA (n : Int) (hn : 0 ≤ n ∧ n ≤ 4294967295) : val (nrm (eA n)).1 (nrm (eA n)).2 < 0 := by
  rw [nrm_turn (eA n) (eA n - 340282366920938463463374607431768211456) 1 (by omega), val_nrm _ (by unfold Sm eA; omega)]
  unfold eA; omega
theorem val_eB (n : Int) (hn : 0 ≤ n ∧ n ≤ 4294967295) : 0 < val (nrm (eB n)).1 (nrm (eB n)).2 := by
  rw [nrm_turn (eB n) (eB n + 340282366920938463463374607431768211456) (-1) (by omega), val_nrm _ (by unfold Sm eB; omega)]
  unfold eB; omega
theorem en_less (n : Int) (hn : 0 ≤ n ∧ n ≤ 4294967295) (w : World) : Calls Try.prog 17 #[.agg #[.int .i64 (nrm (eA n)).1, .int .u64 (nrm (eA n)).2], .agg #[.int .i64 0, .int .u64 0]] w fun e w' => e = .returned (.bool true) ∧ Below w.heap.size w w' := by
  refine wide_Sum_Less.calls _ _ _ _ _ w ?_
  unfold wide_Sum_Less.f
  rw [if_pos ⟨nrm_rng _, by decide⟩]
  have h0 : val 0 0 = 0 := by decide +kernel
  rw [h0]
  simp [val_eA n hn]
theorem en_sign (n : Int) (hn : 0 ≤ n ∧ n ≤ 4294967295) (w : World) : Calls Try.prog 19 #[.agg #[.int .i64 (nrm (eB n)).1, .int .u64 (nrm (eB n)).2]] w fun e w' => e = .returned (.int .i64 1) ∧ Below w.heap.size w w' := by
  refine wide_Sum_Sign.calls _ _ _ w ?_
  unfold wide_Sum_Sign.f cmpI
  rw [if_pos (nrm_rng _), if_neg (by have := val_eB n hn; omega), if_pos (val_eB n hn)]

set_option maxHeartbeats 2000000 in
theorem WideEnds_any (n : Int) (hn : 0 ≤ n ∧ n ≤ 4294967295) (w : World) :
    Calls Try.prog 7 #[.int .u32 n] w fun e w' => e = .returned (.bool true) ∧ Below w.heap.size w w' := by
  go_enter Try.func7, Try.ntmps7
  go_wp2_with fail
  refine (examples_any _).mono ?_
  rintro e w1 ⟨rfl, hb1⟩
  have K1 := Lib.hid (KC.new (KC.new (show KC w w1 [] from ⟨fun p hp => (by cases hp), hb1⟩) (9223372036854775807, 18446744073709551615)) (-9223372036854775808, 0))
  clear hb1
  go_wp2_with fail
  refine (en_c1 _).mono ?_
  rintro e w2 ⟨rfl, hb⟩
  have K2 := Lib.hid (KC.new (KC.carry hb K1.out) (9223372036854775807, 18446744073709551615))
  clear hb
  go_wp2_with fail
  refine (en_c2 _).mono ?_
  rintro e w3 ⟨rfl, hb⟩
  have K3 := Lib.hid (KC.new (KC.carry hb K2.out) (-9223372036854775808, 0))
  clear hb
  go_wp2_with fail
  refine (en_c3 _).mono ?_
  rintro e w4 ⟨rfl, hb⟩
  have K4 := Lib.hid (KC.new (KC.carry hb K3.out) (0, 0))
  clear hb
  go_wp2_with fail
  obtain ⟨W, hW⟩ : ∃ W, W = w4.alloc (.cells #[.int .i64 0, .int .u64 0] 24) := ⟨_, rfl⟩
  obtain ⟨a1, h1⟩ : ∃ a, a = w1.heap.size := ⟨_, rfl⟩
  obtain ⟨a2, h2⟩ : ∃ a, a = w1.heap.size + 1 := ⟨_, rfl⟩
  obtain ⟨a3, h3⟩ : ∃ a, a = w2.heap.size := ⟨_, rfl⟩
  obtain ⟨a4, h4⟩ : ∃ a, a = w3.heap.size := ⟨_, rfl⟩
  obtain ⟨a5, h5⟩ : ∃ a, a = w4.heap.size := ⟨_, rfl⟩
  rw [← hW, ← h2, ← h1, ← h3, ← h4, ← h5]
  have T := Lib.hid (show KC w W [(a5, (0, 0)), (a4, (-9223372036854775808, 0)), (a3, (9223372036854775807, 18446744073709551615)), (a2, (-9223372036854775808, 0)), (a1, (9223372036854775807, 18446744073709551615))] by
    have := K4.out
    simp only [show ∀ o, (w1.alloc o).heap.size = w1.heap.size + 1 from fun o => by simp] at this
    rw [h1, h2, h3, h4, h5, hW]
    exact this)
  clear hW h1 h2 h3 h4 h5 K1 K2 K3 K4
  refine wp_region_quiet (C := fun w' => KC w w' [(a5, (0, 0)), (a4, (-9223372036854775808, 0)), (a3, (9223372036854775807, 18446744073709551615)), (a2, (-9223372036854775808, 0)), (a1, (9223372036854775807, 18446744073709551615))]) (by kernel_rfl) (by kernel_rfl) (KC.drew T.out) ?_
  repeat (
    refine wpQuiet_step (fun K hK => ?_)
    go_simp
    first
      | (refine hK _ ?_; clear hK K)
      | (apply Exists.intro
         refine ⟨fun v hv => ?_, hK _ ?_⟩
         (first
           | with_reducible rfl
           | (with_reducible show Calls _ _ _ _ _
              first
                | with_reducible refine Calls.mono (ex_of2 v) ?_
                | with_reducible refine Calls.mono (en_add1 v) ?_
                | with_reducible refine Calls.mono (en_neg v) ?_
                | with_reducible refine Calls.mono (en_of n hn v) ?_
                | with_reducible refine Calls.mono (en_ofm n hn v) ?_
                | with_reducible refine Calls.mono (en_add2 n hn v) ?_
                | with_reducible refine Calls.mono (en_add3 n hn v) ?_
                | with_reducible refine Calls.mono (en_less n hn v) ?_
                | with_reducible refine Calls.mono (en_sign n hn v) ?_
              rintro e w' ⟨rfl, hb⟩
              exact ⟨rfl, KC.carry hb hv⟩)
           | (obtain ⟨c0, c1, f0, f1⟩ := (hv.1 _ (List.mem_of_getElem? (show _ = some (a1, ((9223372036854775807 : Int), (18446744073709551615 : Int))) from (rfl : [(a5, ((0 : Int), (0 : Int))), (a4, (-9223372036854775808, 0)), (a3, (9223372036854775807, 18446744073709551615)), (a2, (-9223372036854775808, 0)), (a1, (9223372036854775807, 18446744073709551615))][4]? = _)))).c
              obtain ⟨c2, c3, f2, f3⟩ := (hv.1 (a2, (-9223372036854775808, 0)) (by simp)).c
              obtain ⟨c4, c5, f4, f5⟩ := (hv.1 (a3, (9223372036854775807, 18446744073709551615)) (by simp)).c
              obtain ⟨c6, c7, f6, f7⟩ := (hv.1 (a4, (-9223372036854775808, 0)) (by simp)).c
              go_simp
              with_reducible rfl))
         clear hK K))
  refine wpQuiet_nil ?_
  intro wf hk
  go_wp2
  exact bodyPost_ret (by simp [results, Try.results7, go_sem]) rfl ⟨rfl, hk.2⟩

end Go.Proofs.Ytfbmdlheajclcaa.HWide
