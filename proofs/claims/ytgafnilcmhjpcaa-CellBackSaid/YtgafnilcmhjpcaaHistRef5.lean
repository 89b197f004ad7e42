/- The reference's buckets, walked: Bounds. -/
import Derived.Test.YtgafnilcmhjpcaaHistRef4
import Derived.Test.YtgafnilcmhjpcaaRefBucket
namespace Go.Proofs.Ytgafnilcmhjpcaa.HHist
set_option linter.unusedVariables false
open Go.RowKit Go.Proofs.Ytgafnilcmhjpcaa.HMem Go.Proofs.Ytgafnilcmhjpcaa.HBucket
open Go.Proofs.Ytgafnilcmhjpcaa.Print (I64)

theorem rBounds_no (b : Nat) (hb : b ≤ 4) (a : Int) (h : ¬ (-(mostN b : Int) - 1 ≤ a ∧ a ≤ mostN b)) (hI : I64 a) (w : World) :
    Calls Try.prog 72 #[.int .i64 b, .int .i64 a] w fun e w' => e = .returned (.tuple #[.int .i64 0, .int .i64 0, .bool false]) ∧ Below w.heap.size w w' := by
  have hm := most_lt b hb
  have K := rMost_yes b hb w
  obtain ⟨M, hM⟩ : ∃ M, M = mostN b := ⟨_, rfl⟩
  rw [← hM] at K hm h
  clear hM
  go_enter Try.func72, Try.ntmps72
  go_wp2_with fail
  refine K.mono ?_
  rintro e w1 ⟨rfl, hb1⟩
  have HB1 := Lib.hid hb1
  clear hb1 K
  have t0 : decide ((M : Int) < 0) = false := decide_eq_false (by omega)
  by_cases h1 : (M : Int) < a
  · have t1 : decide ((M : Int) < a) = true := decide_eq_true h1
    go_wp2
    go_ret3
    exact ⟨rfl, HB1.out⟩
  · have t1 : decide ((M : Int) < a) = false := decide_eq_false h1
    have h2 : a < -(M : Int) - 1 := by omega
    have t2 : decide (a < -(M : Int) - 1) = true := decide_eq_true h2
    go_wp2
    go_ret3
    exact ⟨rfl, HB1.out⟩
end Go.Proofs.Ytgafnilcmhjpcaa.HHist
