/- What the print is given: Text, Read, Put, Get. -/
import Derived.Test.YtfbmdlheajclcaaWideLess
namespace Go.Proofs.Ytfbmdlheajclcaa.Print
open Go.RowKit Go.Proofs.Ytfbmdlheajclcaa.HWide

def wide_Sum_Text.f (a b : Int) : Option ByteArray := if Rng a b then some (strOfNums (decZ (val a b))) else none
theorem wide_Sum_Text.calls (a0_0 : Int) (a0_1 : Int) (r : ByteArray) (w : World) (h : wide_Sum_Text.f a0_0 a0_1 = some r) :
    Calls Try.prog 21 #[.agg #[.int .i64 a0_0, .int .u64 a0_1]] w fun e w' => e = .returned (.string r) ∧ Below w.heap.size w w' := by
  unfold wide_Sum_Text.f at h
  by_cases g : Rng a0_0 a0_1
  · rw [if_pos g] at h
    have e := Option.some.inj h
    have := Text_any a0_0 a0_1 w g
    rw [e] at this
    exact this
  · rw [if_neg g] at h; cases h

def wide_Read.f (s : ByteArray) : Option (Int × Int × Bool) := if s.size ≤ 140737488355328 then some ((readR s).1.1, (readR s).1.2, (readR s).2) else none
theorem wide_Read.calls (a0 : ByteArray) (r1 : Int) (r2 : Int) (r3 : Bool) (w : World) (h : wide_Read.f a0 = some (r1, r2, r3)) :
    Calls Try.prog 27 #[.string a0] w fun e w' => e = .returned (.tuple #[.agg #[.int .i64 r1, .int .u64 r2], .bool r3]) ∧ Below w.heap.size w w' := by
  unfold wide_Read.f at h
  by_cases g : a0.size ≤ 140737488355328
  · rw [if_pos g] at h
    have e := Option.some.inj h
    have := Read_any a0 w g
    simp only [Prod.mk.injEq] at e
    rw [e.1, e.2.1, e.2.2] at this
    exact this
  · rw [if_neg g] at h; cases h

def wide_Sum_Put.f (a b : Int) : Option ByteArray := some (strOfNums (putN a b))
theorem wide_Sum_Put.calls (a0_0 : Int) (a0_1 : Int) (r : ByteArray) (w : World) (h : wide_Sum_Put.f a0_0 a0_1 = some r) :
    Calls Try.prog 23 #[.agg #[.int .i64 a0_0, .int .u64 a0_1]] w fun e w' => e = .returned (.string r) ∧ Below w.heap.size w w' := by
  have e := Option.some.inj h
  have := Put_any a0_0 a0_1 w
  rw [e] at this
  exact this

def wide_Get.f (s : ByteArray) : Option (Int × Int × Bool) := some ((getR s).1.1, (getR s).1.2, (getR s).2)
theorem wide_Get.calls (a0 : ByteArray) (r1 : Int) (r2 : Int) (r3 : Bool) (w : World) (h : wide_Get.f a0 = some (r1, r2, r3)) :
    Calls Try.prog 30 #[.string a0] w fun e w' => e = .returned (.tuple #[.agg #[.int .i64 r1, .int .u64 r2], .bool r3]) ∧ Below w.heap.size w w' := by
  have e := Option.some.inj h
  simp only [Prod.mk.injEq] at e
  have := Get_any a0 w
  rw [e.1, e.2.1, e.2.2] at this
  exact this

def wide_Of.f (n : Int) : Option (Int × Int) := if -9223372036854775808 ≤ n ∧ n < 9223372036854775808 then some (nrm n) else none
theorem wide_Of.calls (a0 : Int) (r1 : Int) (r2 : Int) (w : World) (h : wide_Of.f a0 = some (r1, r2)) :
    Calls Try.prog 25 #[.int .i64 a0] w fun e w' => e = .returned (.agg #[.int .i64 r1, .int .u64 r2]) ∧ Below w.heap.size w w' := by
  unfold wide_Of.f at h
  by_cases g : -9223372036854775808 ≤ a0 ∧ a0 < 9223372036854775808
  · rw [if_pos g] at h
    exact PrintT.wide_Of.calls a0 r1 r2 w (by rw [of_ev a0 g]; exact h)
  · rw [if_neg g] at h; cases h

def wide_Sum_Less.f (a b c d : Int) : Option Bool := if Rng a b ∧ Rng c d then some (decide (val a b < val c d)) else none
theorem wide_Sum_Less.calls (a0_0 : Int) (a0_1 : Int) (a1_0 : Int) (a1_1 : Int) (r : Bool) (w : World) (h : wide_Sum_Less.f a0_0 a0_1 a1_0 a1_1 = some r) :
    Calls Try.prog 17 #[.agg #[.int .i64 a0_0, .int .u64 a0_1], .agg #[.int .i64 a1_0, .int .u64 a1_1]] w fun e w' => e = .returned (.bool r) ∧ Below w.heap.size w w' := by
  unfold wide_Sum_Less.f at h
  by_cases g : Rng a0_0 a0_1 ∧ Rng a1_0 a1_1
  · rw [if_pos g] at h
    exact PrintT.wide_Sum_Less.calls 10 a0_0 a0_1 a1_0 a1_1 r w (by rw [less_ev _ _ _ _ g.1 g.2]; exact h)
  · rw [if_neg g] at h; cases h

def wide_Sum_Sign.f (a b : Int) : Option Int := if Rng a b then some (cmpI (val a b) 0) else none
theorem wide_Sum_Sign.calls (a0_0 : Int) (a0_1 : Int) (r : Int) (w : World) (h : wide_Sum_Sign.f a0_0 a0_1 = some r) :
    Calls Try.prog 19 #[.agg #[.int .i64 a0_0, .int .u64 a0_1]] w fun e w' => e = .returned (.int .i64 r) ∧ Below w.heap.size w w' := by
  unfold wide_Sum_Sign.f at h
  by_cases g : Rng a0_0 a0_1
  · rw [if_pos g] at h
    exact PrintT.wide_Sum_Sign.calls 10 a0_0 a0_1 r w (by rw [sign_ev _ _ g]; exact h)
  · rw [if_neg g] at h; cases h

end Go.Proofs.Ytfbmdlheajclcaa.Print
