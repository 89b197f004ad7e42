/- The walk of WideOrder. -/
import Derived.Test.YtfbmdlheajclcaaWideAdds
namespace Go.Proofs.Ytfbmdlheajclcaa.HWide
set_option linter.unusedVariables false
open Go.RowKit Go.Proofs.Ytfbmdlheajclcaa.Print Go.Proofs.YtfbmdlheajclcaaW.PrintWords Go.Proofs.YtfbmdlheajclcaaW.PrintLast Go.Proofs.YtfbmdlheajclcaaW.PrintMore

def I64 (m : Int) : Prop := -9223372036854775808 ≤ m ∧ m ≤ 9223372036854775807
theorem I64.sm {m : Int} (h : I64 m) : Sm m := by unfold I64 at h; unfold Sm; omega
theorem lt_is (u v : Int) (hu : Sm u) (hv : Sm v) : (if Rng (nrm u).1 (nrm u).2 ∧ Rng (nrm v).1 (nrm v).2 then some (decide (val (nrm u).1 (nrm u).2 < val (nrm v).1 (nrm v).2)) else none) = some (decide (u < v)) := by
  rw [if_pos ⟨nrm_rng _, nrm_rng _⟩, val_nrm u hu, val_nrm v hv]
theorem lt_zero (u : Int) (hu : Sm u) : (if Rng (nrm u).1 (nrm u).2 ∧ Rng 0 0 then some (decide (val (nrm u).1 (nrm u).2 < val 0 0)) else none) = some (decide (cmpI u 0 < 0)) := by
  have h0 : val 0 0 = 0 := by decide +kernel
  rw [if_pos ⟨nrm_rng _, by decide⟩, val_nrm u hu, h0]
  congr 1
  unfold cmpI
  by_cases h : u < 0
  · simp [h]
  · rw [if_neg h]
    by_cases h2 : 0 < u
    · simp [h, h2]
    · simp [h, h2]
theorem or1 (x y m n : Int) (hx : Sm x) (hy : Sm y) (hm : I64 m) (hn : I64 n) (w : World) : Calls Try.prog 17 #[.agg #[.int .i64 (nrm x).1, .int .u64 (nrm x).2], .agg #[.int .i64 (nrm y).1, .int .u64 (nrm y).2]] w fun e w' => e = .returned (.bool (decide (x < y))) ∧ Below w.heap.size w w' := by
  refine wide_Sum_Less.calls _ _ _ _ _ w ?_
  unfold wide_Sum_Less.f
  exact lt_is x y hx hy
theorem or2 (x y m n : Int) (hx : Sm x) (hy : Sm y) (hm : I64 m) (hn : I64 n) (w : World) : Calls Try.prog 17 #[.agg #[.int .i64 (nrm y).1, .int .u64 (nrm y).2], .agg #[.int .i64 (nrm x).1, .int .u64 (nrm x).2]] w fun e w' => e = .returned (.bool (decide (y < x))) ∧ Below w.heap.size w w' := by
  refine wide_Sum_Less.calls _ _ _ _ _ w ?_
  unfold wide_Sum_Less.f
  exact lt_is y x hy hx
theorem or3 (x y m n : Int) (hx : Sm x) (hy : Sm y) (hm : I64 m) (hn : I64 n) (w : World) : Calls Try.prog 17 #[.agg #[.int .i64 (nrm x).1, .int .u64 (nrm x).2], .agg #[.int .i64 (nrm x).1, .int .u64 (nrm x).2]] w fun e w' => e = .returned (.bool false) ∧ Below w.heap.size w w' := by
  refine wide_Sum_Less.calls _ _ _ _ _ w ?_
  unfold wide_Sum_Less.f
  rw [lt_is x x hx hx]; simp
theorem or4 (x y m n : Int) (hx : Sm x) (hy : Sm y) (hm : I64 m) (hn : I64 n) (w : World) : Calls Try.prog 17 #[.agg #[.int .i64 (nrm m).1, .int .u64 (nrm m).2], .agg #[.int .i64 (nrm n).1, .int .u64 (nrm n).2]] w fun e w' => e = .returned (.bool (decide (m < n))) ∧ Below w.heap.size w w' := by
  refine wide_Sum_Less.calls _ _ _ _ _ w ?_
  unfold wide_Sum_Less.f
  exact lt_is m n hm.sm hn.sm
theorem or5 (x y m n : Int) (hx : Sm x) (hy : Sm y) (hm : I64 m) (hn : I64 n) (w : World) : Calls Try.prog 17 #[.agg #[.int .i64 (nrm x).1, .int .u64 (nrm x).2], .agg #[.int .i64 0, .int .u64 0]] w fun e w' => e = .returned (.bool (decide (cmpI x 0 < 0))) ∧ Below w.heap.size w w' := by
  refine wide_Sum_Less.calls _ _ _ _ _ w ?_
  unfold wide_Sum_Less.f
  exact lt_zero x hx
theorem or6 (x y m n : Int) (hx : Sm x) (hy : Sm y) (hm : I64 m) (hn : I64 n) (w : World) : Calls Try.prog 25 #[.int .i64 m] w fun e w' => e = .returned (.agg #[.int .i64 (nrm m).1, .int .u64 (nrm m).2]) ∧ Below w.heap.size w w' := wide_Of.calls _ _ _ w (of_is _ ⟨hm.1, by have := hm.2; omega⟩)
theorem or7 (x y m n : Int) (hx : Sm x) (hy : Sm y) (hm : I64 m) (hn : I64 n) (w : World) : Calls Try.prog 25 #[.int .i64 n] w fun e w' => e = .returned (.agg #[.int .i64 (nrm n).1, .int .u64 (nrm n).2]) ∧ Below w.heap.size w w' := wide_Of.calls _ _ _ w (of_is _ ⟨hn.1, by have := hn.2; omega⟩)
theorem or8 (x y m n : Int) (hx : Sm x) (hy : Sm y) (hm : I64 m) (hn : I64 n) (w : World) : Calls Try.prog 19 #[.agg #[.int .i64 (nrm x).1, .int .u64 (nrm x).2]] w fun e w' => e = .returned (.int .i64 (cmpI x 0)) ∧ Below w.heap.size w w' := by
  refine wide_Sum_Sign.calls _ _ _ w ?_
  unfold wide_Sum_Sign.f
  rw [if_pos (nrm_rng _), val_nrm x hx]
theorem beq_nrm (x y : Int) (hx : Sm x) (hy : Sm y) : decide ((nrm x).1 = (nrm y).1 ∧ (nrm x).2 = (nrm y).2) = decide (x = y) := by
  have : ((nrm x).1 = (nrm y).1 ∧ (nrm x).2 = (nrm y).2) ↔ x = y := by
    constructor
    · rintro ⟨h1, h2⟩
      have e1 := val_nrm x hx
      have e2 := val_nrm y hy
      rw [h1, h2] at e1
      omega
    · rintro rfl; exact ⟨rfl, rfl⟩
  rw [Bool.eq_iff_iff]
  simp [this]
theorem ite_two {p q : Prop} [Decidable p] [Decidable q] (v : World) : (if p then (if q then Result.ok (Next.value (Value.bool true)) v else Result.ok (Next.value (Value.bool false)) v) else Result.ok (Next.value (Value.bool false)) v) = Result.ok (Next.value (Value.bool (decide (p ∧ q)))) v := by
  by_cases hp : p <;> by_cases hq : q <;> simp [hp, hq]
theorem beq_zero (x : Int) (hx : Sm x) : decide ((nrm x).1 = 0 ∧ (nrm x).2 = 0) = (cmpI x 0 == 0) := by
  have h := beq_nrm x 0 hx (by unfold Sm; omega)
  rw [nrm_zero0] at h
  rw [h]
  unfold cmpI
  by_cases h1 : x < 0
  · rw [if_pos h1]; simp; omega
  · rw [if_neg h1]
    by_cases h2 : 0 < x
    · rw [if_pos h2]; simp; omega
    · rw [if_neg h2]; simp; omega

set_option maxHeartbeats 2000000 in
theorem WideOrder_0 (x m n : Int) (hx : Sm x) (hm : I64 m) (hn : I64 n) (w : World) :
    Calls Try.prog 5 #[.agg #[.int .i64 (nrm x).1, .int .u64 (nrm x).2], .agg #[.int .i64 (nrm x).1, .int .u64 (nrm x).2], .int .i64 m, .int .i64 n] w fun e w' => e = .returned (.bool true) ∧ Below w.heap.size w w' := by
  have HZ := beq_zero x hx
  go_enter Try.func5, Try.ntmps5
  go_wp2_with fail
  refine (examples_any _).mono ?_
  rintro e w1 ⟨rfl, hb1⟩
  have K1 := Lib.hid (KC.carry hb1 (KC.new (KC.new (show KC w w [] from ⟨fun p hp => (by cases hp), Below.refl _ _⟩) (nrm x)) (nrm x)))
  clear hb1
  go_wp2_with fail
  obtain ⟨a1, h1⟩ : ∃ a, a = w.heap.size := ⟨_, rfl⟩
  obtain ⟨a2, h2⟩ : ∃ a, a = w.heap.size + 1 := ⟨_, rfl⟩
  have T := Lib.hid (show KC w w1 [(a2, nrm x), (a1, nrm x)] by
    have := K1.out
    simp only [show ∀ (u : World) o, (u.alloc o).heap.size = u.heap.size + 1 from fun u o => by simp] at this
    rw [h1, h2]
    exact this)
  clear K1
  try rw [← h2]
  try rw [← h1]
  clear h1 h2
  refine wp_region_quiet (C := fun w' => KC w w' [(a2, nrm x), (a1, nrm x)]) (by kernel_rfl) (by kernel_rfl) (KC.drew T.out) ?_
  repeat (
    with_reducible refine wpQuiet_step (fun K hK => ?_)
    go_simp
    try simp only [ite_two, HZ]
    first
      | (with_reducible refine hK _ ?_; clear hK K)
      | (apply Exists.intro
         refine ⟨fun v hv => ?_, hK _ ?_⟩
         (first
           | with_reducible rfl
           | (with_reducible show Calls _ _ _ _ _
              first
                | with_reducible refine Calls.mono (or1 x x m n hx hx hm hn v) ?_
                | with_reducible refine Calls.mono (or2 x x m n hx hx hm hn v) ?_
                | with_reducible refine Calls.mono (or3 x x m n hx hx hm hn v) ?_
                | with_reducible refine Calls.mono (or4 x x m n hx hx hm hn v) ?_
                | with_reducible refine Calls.mono (or5 x x m n hx hx hm hn v) ?_
                | with_reducible refine Calls.mono (or6 x x m n hx hx hm hn v) ?_
                | with_reducible refine Calls.mono (or7 x x m n hx hx hm hn v) ?_
                | with_reducible refine Calls.mono (or8 x x m n hx hx hm hn v) ?_
              rintro e w' ⟨rfl, hb⟩
              exact ⟨rfl, KC.carry hb hv⟩)
           | (obtain ⟨c0, c1, f0, f1⟩ := (hv.1 (a1, nrm x) (by simp)).c
              obtain ⟨c2, c3, f2, f3⟩ := (hv.1 (a2, nrm x) (by simp)).c
              go_simp
              with_reducible rfl))
         clear hK K))
  with_reducible refine wpQuiet_nil ?_
  intro wf hk
  go_wp2
  exact bodyPost_ret (by simp [results, Try.results5, go_sem]) rfl ⟨rfl, hk.2⟩

set_option maxHeartbeats 2000000 in
theorem WideOrder_1 (x y m n : Int) (hx : Sm x) (hy : Sm y) (hm : I64 m) (hn : I64 n) (h : x < y) (w : World) :
    Calls Try.prog 5 #[.agg #[.int .i64 (nrm x).1, .int .u64 (nrm x).2], .agg #[.int .i64 (nrm y).1, .int .u64 (nrm y).2], .int .i64 m, .int .i64 n] w fun e w' => e = .returned (.bool true) ∧ Below w.heap.size w w' := by
  have HZ := beq_zero x hx
  have HB : decide ((nrm x).1 = (nrm y).1 ∧ (nrm x).2 = (nrm y).2) = false := by rw [beq_nrm x y hx hy]; simp; omega
  have D1 : decide (x < y) = true := by simp; omega
  have D2 : decide (y < x) = false := by simp; omega
  clear h
  go_enter Try.func5, Try.ntmps5
  go_wp2_with fail
  refine (examples_any _).mono ?_
  rintro e w1 ⟨rfl, hb1⟩
  have K1 := Lib.hid (KC.carry hb1 (KC.new (KC.new (show KC w w [] from ⟨fun p hp => (by cases hp), Below.refl _ _⟩) (nrm x)) (nrm y)))
  clear hb1
  go_wp2_with fail
  obtain ⟨a1, h1⟩ : ∃ a, a = w.heap.size := ⟨_, rfl⟩
  obtain ⟨a2, h2⟩ : ∃ a, a = w.heap.size + 1 := ⟨_, rfl⟩
  have T := Lib.hid (show KC w w1 [(a2, nrm y), (a1, nrm x)] by
    have := K1.out
    simp only [show ∀ (u : World) o, (u.alloc o).heap.size = u.heap.size + 1 from fun u o => by simp] at this
    rw [h1, h2]
    exact this)
  clear K1
  try rw [← h2]
  try rw [← h1]
  clear h1 h2
  refine wp_region_quiet (C := fun w' => KC w w' [(a2, nrm y), (a1, nrm x)]) (by kernel_rfl) (by kernel_rfl) (KC.drew T.out) ?_
  repeat (
    with_reducible refine wpQuiet_step (fun K hK => ?_)
    go_simp
    try simp only [ite_two, HB, HZ, D1, D2]
    first
      | (with_reducible refine hK _ ?_; clear hK K)
      | (apply Exists.intro
         refine ⟨fun v hv => ?_, hK _ ?_⟩
         (first
           | with_reducible rfl
           | (with_reducible show Calls _ _ _ _ _
              first
                | with_reducible refine Calls.mono (or1 x y m n hx hy hm hn v) ?_
                | with_reducible refine Calls.mono (or2 x y m n hx hy hm hn v) ?_
                | with_reducible refine Calls.mono (or3 x y m n hx hy hm hn v) ?_
                | with_reducible refine Calls.mono (or4 x y m n hx hy hm hn v) ?_
                | with_reducible refine Calls.mono (or5 x y m n hx hy hm hn v) ?_
                | with_reducible refine Calls.mono (or6 x y m n hx hy hm hn v) ?_
                | with_reducible refine Calls.mono (or7 x y m n hx hy hm hn v) ?_
                | with_reducible refine Calls.mono (or8 x y m n hx hy hm hn v) ?_
              rintro e w' ⟨rfl, hb⟩
              exact ⟨rfl, KC.carry hb hv⟩)
           | (obtain ⟨c0, c1, f0, f1⟩ := (hv.1 (a1, nrm x) (by simp)).c
              obtain ⟨c2, c3, f2, f3⟩ := (hv.1 (a2, nrm y) (by simp)).c
              go_simp
              with_reducible rfl))
         clear hK K))
  with_reducible refine wpQuiet_nil ?_
  intro wf hk
  go_wp2
  exact bodyPost_ret (by simp [results, Try.results5, go_sem]) rfl ⟨rfl, hk.2⟩

set_option maxHeartbeats 2000000 in
theorem WideOrder_2 (x y m n : Int) (hx : Sm x) (hy : Sm y) (hm : I64 m) (hn : I64 n) (h : y < x) (w : World) :
    Calls Try.prog 5 #[.agg #[.int .i64 (nrm x).1, .int .u64 (nrm x).2], .agg #[.int .i64 (nrm y).1, .int .u64 (nrm y).2], .int .i64 m, .int .i64 n] w fun e w' => e = .returned (.bool true) ∧ Below w.heap.size w w' := by
  have HZ := beq_zero x hx
  have HB : decide ((nrm x).1 = (nrm y).1 ∧ (nrm x).2 = (nrm y).2) = false := by rw [beq_nrm x y hx hy]; simp; omega
  have D1 : decide (x < y) = false := by simp; omega
  have D2 : decide (y < x) = true := by simp; omega
  clear h
  go_enter Try.func5, Try.ntmps5
  go_wp2_with fail
  refine (examples_any _).mono ?_
  rintro e w1 ⟨rfl, hb1⟩
  have K1 := Lib.hid (KC.carry hb1 (KC.new (KC.new (show KC w w [] from ⟨fun p hp => (by cases hp), Below.refl _ _⟩) (nrm x)) (nrm y)))
  clear hb1
  go_wp2_with fail
  obtain ⟨a1, h1⟩ : ∃ a, a = w.heap.size := ⟨_, rfl⟩
  obtain ⟨a2, h2⟩ : ∃ a, a = w.heap.size + 1 := ⟨_, rfl⟩
  have T := Lib.hid (show KC w w1 [(a2, nrm y), (a1, nrm x)] by
    have := K1.out
    simp only [show ∀ (u : World) o, (u.alloc o).heap.size = u.heap.size + 1 from fun u o => by simp] at this
    rw [h1, h2]
    exact this)
  clear K1
  try rw [← h2]
  try rw [← h1]
  clear h1 h2
  refine wp_region_quiet (C := fun w' => KC w w' [(a2, nrm y), (a1, nrm x)]) (by kernel_rfl) (by kernel_rfl) (KC.drew T.out) ?_
  repeat (
    with_reducible refine wpQuiet_step (fun K hK => ?_)
    go_simp
    try simp only [ite_two, HB, HZ, D1, D2]
    first
      | (with_reducible refine hK _ ?_; clear hK K)
      | (apply Exists.intro
         refine ⟨fun v hv => ?_, hK _ ?_⟩
         (first
           | with_reducible rfl
           | (with_reducible show Calls _ _ _ _ _
              first
                | with_reducible refine Calls.mono (or1 x y m n hx hy hm hn v) ?_
                | with_reducible refine Calls.mono (or2 x y m n hx hy hm hn v) ?_
                | with_reducible refine Calls.mono (or3 x y m n hx hy hm hn v) ?_
                | with_reducible refine Calls.mono (or4 x y m n hx hy hm hn v) ?_
                | with_reducible refine Calls.mono (or5 x y m n hx hy hm hn v) ?_
                | with_reducible refine Calls.mono (or6 x y m n hx hy hm hn v) ?_
                | with_reducible refine Calls.mono (or7 x y m n hx hy hm hn v) ?_
                | with_reducible refine Calls.mono (or8 x y m n hx hy hm hn v) ?_
              rintro e w' ⟨rfl, hb⟩
              exact ⟨rfl, KC.carry hb hv⟩)
           | (obtain ⟨c0, c1, f0, f1⟩ := (hv.1 (a1, nrm x) (by simp)).c
              obtain ⟨c2, c3, f2, f3⟩ := (hv.1 (a2, nrm y) (by simp)).c
              go_simp
              with_reducible rfl))
         clear hK K))
  with_reducible refine wpQuiet_nil ?_
  intro wf hk
  go_wp2
  exact bodyPost_ret (by simp [results, Try.results5, go_sem]) rfl ⟨rfl, hk.2⟩

theorem WideOrder_at (a b c d m n : Int) (w : World) (h1 : Rng a b) (h2 : Rng c d) (hm : I64 m) (hn : I64 n) :
    Calls Try.prog 5 #[.agg #[.int .i64 a, .int .u64 b], .agg #[.int .i64 c, .int .u64 d], .int .i64 m, .int .i64 n] w fun e w' => e = .returned (.bool true) ∧ Below w.heap.size w w' := by
  have this : Calls Try.prog 5 #[.agg #[.int .i64 (nrm (val a b)).1, .int .u64 (nrm (val a b)).2], .agg #[.int .i64 (nrm (val c d)).1, .int .u64 (nrm (val c d)).2], .int .i64 m, .int .i64 n] w fun e w' => e = .returned (.bool true) ∧ Below w.heap.size w w' := by
    rcases Int.lt_trichotomy (val a b) (val c d) with h | h | h
    · exact WideOrder_1 _ _ m n (val_Sm _ _ h1) (val_Sm _ _ h2) hm hn h w
    · rw [← h]; exact WideOrder_0 _ m n (val_Sm _ _ h1) hm hn w
    · exact WideOrder_2 _ _ m n (val_Sm _ _ h1) (val_Sm _ _ h2) hm hn h w
  rw [nrm_val a b h1, nrm_val c d h2] at this
  exact this

end Go.Proofs.Ytfbmdlheajclcaa.HWide
