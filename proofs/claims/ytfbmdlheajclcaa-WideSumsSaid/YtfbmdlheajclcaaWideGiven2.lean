/- What the second print is given besides: the document's Neg, and bend. -/
import Derived.Test.YtfbmdlheajclcaaRefNeg
import Derived.Test.YtfbmdlheajclcaaBend
import Derived.Test.YtfbmdlheajclcaaWideEx
namespace Go.Proofs.Ytfbmdlheajclcaa.Print
open Go.RowKit Go.Proofs.Ytfbmdlheajclcaa.HWide Go.Proofs.Ytfbmdlheajclcaa.HBend

def scantlingref02_Sum_Neg.f (a b : Int) : Option (Int × Int) := if Rng a b then some (nrm (-val a b)) else none
theorem scantlingref02_Sum_Neg.calls (a0_0 : Int) (a0_1 : Int) (r1 : Int) (r2 : Int) (w : World) (h : scantlingref02_Sum_Neg.f a0_0 a0_1 = some (r1, r2)) :
    Calls Try.prog 16 #[.agg #[.int .i64 a0_0, .int .u64 a0_1]] w fun e w' => e = .returned (.agg #[.int .i64 r1, .int .u64 r2]) ∧ Below w.heap.size w w' := by
  unfold scantlingref02_Sum_Neg.f at h
  by_cases g : Rng a0_0 a0_1
  · rw [if_pos g] at h
    have e := Option.some.inj h
    have := RefNeg_any a0_0 a0_1 w g
    rw [e] at this
    exact this
  · rw [if_neg g] at h; cases h

def scantlinglaw02_bend.f (s : ByteArray) (a b : Int) : Option ByteArray := if (-9223372036854775808 ≤ a ∧ a ≤ 9223372036854775807) ∧ (0 ≤ b ∧ b ≤ 255) ∧ s.size ≤ 140737488355328 then some (bendS s a b) else none
theorem scantlinglaw02_bend.calls (a0 : ByteArray) (a1 : Int) (a2 : Int) (r : ByteArray) (w : World) (h : scantlinglaw02_bend.f a0 a1 a2 = some r) :
    Calls Try.prog 28 #[.string a0, .int .i64 a1, .int .u8 a2] w fun e w' => e = .returned (.string r) ∧ Below w.heap.size w w' := by
  unfold scantlinglaw02_bend.f at h
  by_cases g : (-9223372036854775808 ≤ a1 ∧ a1 ≤ 9223372036854775807) ∧ (0 ≤ a2 ∧ a2 ≤ 255) ∧ a0.size ≤ 140737488355328
  · rw [if_pos g] at h
    have e := Option.some.inj h
    have := Bend_any a0 a1 a2 w g.1 g.2.1 g.2.2
    rw [e] at this
    exact this
  · rw [if_neg g] at h; cases h

end Go.Proofs.Ytfbmdlheajclcaa.Print
