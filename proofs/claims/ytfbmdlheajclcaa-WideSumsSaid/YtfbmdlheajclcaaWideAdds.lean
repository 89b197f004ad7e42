/- The walk of WideAdds. -/
import Derived.Test.YtfbmdlheajclcaaWideEnds
namespace Go.Proofs.Ytfbmdlheajclcaa.HWide
set_option linter.unusedVariables false
open Go.RowKit Go.Proofs.Ytfbmdlheajclcaa.Print Go.Proofs.YtfbmdlheajclcaaW.PrintWords Go.Proofs.YtfbmdlheajclcaaW.PrintLast Go.Proofs.YtfbmdlheajclcaaW.PrintMore

theorem nrm_zero0 : nrm 0 = (0, 0) := by decide +kernel
theorem ad1 (x y z : Int) (w : World) : Calls Try.prog 13 #[.agg #[.int .i64 (nrm x).1, .int .u64 (nrm x).2], .agg #[.int .i64 (nrm y).1, .int .u64 (nrm y).2]] w fun e w' => e = .returned (.agg #[.int .i64 (nrm (x + y)).1, .int .u64 (nrm (x + y)).2]) ∧ Below w.heap.size w w' := by
  have h := add_is (x) (y)
  rw [show x + y = x + y from rfl] at h
  exact wide_Sum_Add.calls _ _ _ _ _ _ w h
theorem ad2 (x y z : Int) (w : World) : Calls Try.prog 13 #[.agg #[.int .i64 (nrm y).1, .int .u64 (nrm y).2], .agg #[.int .i64 (nrm x).1, .int .u64 (nrm x).2]] w fun e w' => e = .returned (.agg #[.int .i64 (nrm (x + y)).1, .int .u64 (nrm (x + y)).2]) ∧ Below w.heap.size w w' := by
  have h := add_is (y) (x)
  rw [show y + x = x + y from by omega] at h
  exact wide_Sum_Add.calls _ _ _ _ _ _ w h
theorem ad3 (x y z : Int) (w : World) : Calls Try.prog 13 #[.agg #[.int .i64 (nrm (x + y)).1, .int .u64 (nrm (x + y)).2], .agg #[.int .i64 (nrm z).1, .int .u64 (nrm z).2]] w fun e w' => e = .returned (.agg #[.int .i64 (nrm (x + y + z)).1, .int .u64 (nrm (x + y + z)).2]) ∧ Below w.heap.size w w' := by
  have h := add_is (x + y) (z)
  rw [show x + y + z = x + y + z from rfl] at h
  exact wide_Sum_Add.calls _ _ _ _ _ _ w h
theorem ad4 (x y z : Int) (w : World) : Calls Try.prog 13 #[.agg #[.int .i64 (nrm y).1, .int .u64 (nrm y).2], .agg #[.int .i64 (nrm z).1, .int .u64 (nrm z).2]] w fun e w' => e = .returned (.agg #[.int .i64 (nrm (y + z)).1, .int .u64 (nrm (y + z)).2]) ∧ Below w.heap.size w w' := by
  have h := add_is (y) (z)
  rw [show y + z = y + z from rfl] at h
  exact wide_Sum_Add.calls _ _ _ _ _ _ w h
theorem ad5 (x y z : Int) (w : World) : Calls Try.prog 13 #[.agg #[.int .i64 (nrm x).1, .int .u64 (nrm x).2], .agg #[.int .i64 (nrm (y + z)).1, .int .u64 (nrm (y + z)).2]] w fun e w' => e = .returned (.agg #[.int .i64 (nrm (x + y + z)).1, .int .u64 (nrm (x + y + z)).2]) ∧ Below w.heap.size w w' := by
  have h := add_is (x) (y + z)
  rw [show x + (y + z) = x + y + z from by omega] at h
  exact wide_Sum_Add.calls _ _ _ _ _ _ w h
theorem ad6 (x y z : Int) (w : World) : Calls Try.prog 13 #[.agg #[.int .i64 (nrm (x + y)).1, .int .u64 (nrm (x + y)).2], .agg #[.int .i64 (nrm (-y)).1, .int .u64 (nrm (-y)).2]] w fun e w' => e = .returned (.agg #[.int .i64 (nrm x).1, .int .u64 (nrm x).2]) ∧ Below w.heap.size w w' := by
  have h := add_is (x + y) (-y)
  rw [show x + y + -y = x from by omega] at h
  exact wide_Sum_Add.calls _ _ _ _ _ _ w h
theorem ad7 (x y z : Int) (w : World) : Calls Try.prog 13 #[.agg #[.int .i64 (nrm x).1, .int .u64 (nrm x).2], .agg #[.int .i64 0, .int .u64 0]] w fun e w' => e = .returned (.agg #[.int .i64 (nrm x).1, .int .u64 (nrm x).2]) ∧ Below w.heap.size w w' := by
  have h := add_is (x) (0)
  rw [nrm_zero0, show x + 0 = x from by omega] at h
  exact wide_Sum_Add.calls _ _ _ _ _ _ w h
theorem ng1 (x y z : Int) (w : World) : Calls Try.prog 15 #[.agg #[.int .i64 (nrm y).1, .int .u64 (nrm y).2]] w fun e w' => e = .returned (.agg #[.int .i64 (nrm (-y)).1, .int .u64 (nrm (-y)).2]) ∧ Below w.heap.size w w' := by
  have h := neg_is (y)
  rw [show -y = -y from rfl] at h
  exact wide_Sum_Neg.calls _ _ _ _ w h
theorem ng2 (x y z : Int) (w : World) : Calls Try.prog 15 #[.agg #[.int .i64 (nrm x).1, .int .u64 (nrm x).2]] w fun e w' => e = .returned (.agg #[.int .i64 (nrm (-x)).1, .int .u64 (nrm (-x)).2]) ∧ Below w.heap.size w w' := by
  have h := neg_is (x)
  rw [show -x = -x from rfl] at h
  exact wide_Sum_Neg.calls _ _ _ _ w h
theorem ng3 (x y z : Int) (w : World) : Calls Try.prog 15 #[.agg #[.int .i64 (nrm (-x)).1, .int .u64 (nrm (-x)).2]] w fun e w' => e = .returned (.agg #[.int .i64 (nrm x).1, .int .u64 (nrm x).2]) ∧ Below w.heap.size w w' := by
  have h := neg_is (-x)
  rw [show - -x = x from by omega] at h
  exact wide_Sum_Neg.calls _ _ _ _ w h

set_option maxHeartbeats 2000000 in
theorem WideAdds_any (x y z : Int) (w : World) :
    Calls Try.prog 4 #[.agg #[.int .i64 (nrm x).1, .int .u64 (nrm x).2], .agg #[.int .i64 (nrm y).1, .int .u64 (nrm y).2], .agg #[.int .i64 (nrm z).1, .int .u64 (nrm z).2]] w fun e w' => e = .returned (.bool true) ∧ Below w.heap.size w w' := by
  go_enter Try.func4, Try.ntmps4
  go_wp2_with fail
  refine (examples_any _).mono ?_
  rintro e w1 ⟨rfl, hb1⟩
  have K1 := Lib.hid (KC.carry hb1 (KC.new (KC.new (KC.new (show KC w w [] from ⟨fun p hp => (by cases hp), Below.refl _ _⟩) (nrm x)) (nrm y)) (nrm z)))
  clear hb1
  go_wp2_with fail
  obtain ⟨a1, h1⟩ : ∃ a, a = w.heap.size := ⟨_, rfl⟩
  obtain ⟨a2, h2⟩ : ∃ a, a = w.heap.size + 1 := ⟨_, rfl⟩
  obtain ⟨a3, h3⟩ : ∃ a, a = w.heap.size + 1 + 1 := ⟨_, rfl⟩
  have T := Lib.hid (show KC w w1 [(a3, nrm z), (a2, nrm y), (a1, nrm x)] by
    have := K1.out
    simp only [show ∀ (u : World) o, (u.alloc o).heap.size = u.heap.size + 1 from fun u o => by simp] at this
    rw [h1, h2, h3]
    exact this)
  clear K1
  try rw [← h3]
  try rw [← h2]
  try rw [← h1]
  clear h1 h2 h3
  refine wp_region_quiet (C := fun w' => KC w w' [(a3, nrm z), (a2, nrm y), (a1, nrm x)]) (by kernel_rfl) (by kernel_rfl) (KC.drew T.out) ?_
  repeat (
    refine wpQuiet_step (fun K hK => ?_)
    go_simp
    first
      | (refine hK _ ?_; clear hK K)
      | (apply Exists.intro
         refine ⟨fun v hv => ?_, hK _ ?_⟩
         (first
           | with_reducible rfl
           | (with_reducible show Calls _ _ _ _ _
              first
                | with_reducible refine Calls.mono (ad1 x y z v) ?_
                | with_reducible refine Calls.mono (ad2 x y z v) ?_
                | with_reducible refine Calls.mono (ad3 x y z v) ?_
                | with_reducible refine Calls.mono (ad4 x y z v) ?_
                | with_reducible refine Calls.mono (ad5 x y z v) ?_
                | with_reducible refine Calls.mono (ad6 x y z v) ?_
                | with_reducible refine Calls.mono (ad7 x y z v) ?_
                | with_reducible refine Calls.mono (ng1 x y z v) ?_
                | with_reducible refine Calls.mono (ng2 x y z v) ?_
                | with_reducible refine Calls.mono (ng3 x y z v) ?_
              rintro e w' ⟨rfl, hb⟩
              exact ⟨rfl, KC.carry hb hv⟩)
           | (obtain ⟨c0, c1, f0, f1⟩ := (hv.1 (a1, nrm x) (by simp)).c
              obtain ⟨c2, c3, f2, f3⟩ := (hv.1 (a2, nrm y) (by simp)).c
              obtain ⟨c4, c5, f4, f5⟩ := (hv.1 (a3, nrm z) (by simp)).c
              go_simp
              with_reducible rfl))
         clear hK K))
  refine wpQuiet_nil ?_
  intro wf hk
  go_wp2
  exact bodyPost_ret (by simp [results, Try.results4, go_sem]) rfl ⟨rfl, hk.2⟩
theorem rng_of {a b : Int} (ha : (Lit.int .i64 a).wf = true) (hb : (Lit.int .u64 b).wf = true) : Rng a b := by
  have b0 : -9223372036854775808 ≤ a ∧ a ≤ 9223372036854775807 := by simpa [Lit.wf, IntKind.min, IntKind.max, IntKind.signed, IntKind.bits] using ha
  have b1 : 0 ≤ b ∧ b ≤ 18446744073709551615 := by simpa [Lit.wf, IntKind.min, IntKind.max, IntKind.signed, IntKind.bits] using hb
  exact ⟨b0.1, b0.2, b1.1, b1.2⟩
theorem WideAdds_at (a b c d e f : Int) (w : World) (h1 : Rng a b) (h2 : Rng c d) (h3 : Rng e f) :
    Calls Try.prog 4 #[.agg #[.int .i64 a, .int .u64 b], .agg #[.int .i64 c, .int .u64 d], .agg #[.int .i64 e, .int .u64 f]] w fun e w' => e = .returned (.bool true) ∧ Below w.heap.size w w' := by
  have := WideAdds_any (val a b) (val c d) (val e f) w
  rw [nrm_val a b h1, nrm_val c d h2, nrm_val e f h3] at this
  exact this

end Go.Proofs.Ytfbmdlheajclcaa.HWide
