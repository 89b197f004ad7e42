/- The reference's buckets, walked: Most. -/
import Derived.Test.YtgafnilcmhjpcaaHistRef3
import Derived.Test.YtgafnilcmhjpcaaRefBucket
namespace Go.Proofs.Ytgafnilcmhjpcaa.HHist
set_option linter.unusedVariables false
open Go.RowKit Go.Proofs.Ytgafnilcmhjpcaa.HMem Go.Proofs.Ytgafnilcmhjpcaa.HBucket
open Go.Proofs.Ytgafnilcmhjpcaa.Print (I64)

theorem rMost_yes (b : Nat) (hb : b ≤ 4) (w : World) :
    Calls Try.prog 90 #[.int .i64 b] w fun e w' => e = .returned (.int .i64 (mostN b : Nat)) ∧ Below w.heap.size w w' := by
  go_enter Try.func90, Try.ntmps90
  go_wp2_with fail
  have K := rOf_yes b 9223372036854775807 w (by omega) (by omega) (by omega) (by omega)
  rw [show sgn 9223372036854775807 (ofN ((b : Int)).toNat (9223372036854775807 : Int).natAbs) = (mostN b : Nat) from rfl] at K
  refine K.mono ?_
  rintro e w1 ⟨rfl, hb1⟩
  have HB1 := Lib.hid hb1
  clear hb1
  go_wp2
  go_ret
  exact ⟨rfl, HB1.out⟩
theorem rMost_no (b : Int) (hb : b < 0 ∨ 4 < b) (w : World) :
    Calls Try.prog 90 #[.int .i64 b] w fun e w' => e = .returned (.int .i64 (-1)) ∧ Below w.heap.size w w' := by
  go_enter Try.func90, Try.ntmps90
  go_wp2_with fail
  refine (rOf_no b 9223372036854775807 w hb).mono ?_
  rintro e w1 ⟨rfl, hb1⟩
  have HB1 := Lib.hid hb1
  clear hb1
  go_wp2
  go_ret
  exact ⟨rfl, HB1.out⟩
end Go.Proofs.Ytgafnilcmhjpcaa.HHist
