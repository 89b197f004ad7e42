/- What is thrown is caught: the deferred caught, its two ways; must. Conditions: none. -/
import Derived.Test.YtgafnilcmhjpcaaMem
import Derived.Defers
import Derived.Recover
import Derived.WalkKit
import Derived.WalkSpells
import Derived.WalkLawsBesides
namespace Go.Proofs.Ytgafnilcmhjpcaa.HCell
set_option linter.unusedVariables false
open Go.RowKit Go.Proofs.Ytgafnilcmhjpcaa.HMem

theorem errno_is (n : Int) (W : World) : (Instr.typeAssert (.iface 30 (.int .i64 n)) 20 30 true).run Try.prog W = .ok (.tuple #[.int .i64 n, .bool true]) W := by
  kernel_rfl
set_option maxHeartbeats 1000000 in
/-- Nothing was thrown. -/
theorem caught_idle (p : Addr) (w : World) :
    CallsD Try.prog 53 #[.pointer (some p)] .returning w fun e u' w' => e = .returned (.tuple #[]) ∧ u' = .returning ∧ w' = w := by
  refine callsD_of_wpS Try.func53 rfl fun c₀ cs hu => ?_
  apply wpS_seq
  apply wpS_region
  simp [wpOpsS, go_sem, recoverD, hu, Try.ntmps53, Exit.thenS]
  refine wpS_of_wp ?_
  go_wp2
  cases c₀
  simp_all [bodyPostS, results, Try.results53]
set_option maxHeartbeats 1000000 in
set_option maxRecDepth 20000 in
/-- An error was thrown. -/
theorem caught_errno (p : Addr) (n : Int) (x : Value) (older : List PanicEntry) (w : World) (hc : w.cell? p = some x) (hz : w.frozen? p = false) :
    CallsD Try.prog 53 #[.pointer (some p)] (.panicking ({ v := .iface 30 (.int .i64 n), recovered := false } :: older)) w fun e u' w' =>
      e = .returned (.tuple #[]) ∧ u' = .panicking ({ v := .iface 30 (.int .i64 n), recovered := true } :: older) ∧ w' = w.setCell p (.int .i64 n) := by
  refine callsD_of_wpS Try.func53 rfl fun c₀ cs hu => ?_
  apply wpS_seq
  apply wpS_region
  simp [wpOpsS, go_sem, recoverD, hu, Try.ntmps53, Exit.thenS]
  refine wpS_of_wp ?_
  have hta := errno_is n
  go_wp2
  cases c₀
  simp_all [bodyPostS, results, Try.results53]
/-- No error: nothing is thrown. -/
theorem must_ok (w : World) : Calls Try.prog 54 #[.int .i64 0] w fun e w' => e = .returned (.tuple #[]) ∧ w' = w := by
  go_enter Try.func54, Try.ntmps54
  go_wp2
  go_end0
  exact ⟨rfl, rfl⟩
/-- An error is thrown. -/
theorem must_throws (n : Int) (hn : ¬ n = 0) (w : World) : Calls Try.prog 54 #[.int .i64 n] w fun e w' => e = .panicked [{ v := .iface 30 (.int .i64 n), recovered := false }] ∧ w' = w := by
  have h : (n == 0) = false := beq_eq_false_iff_ne.2 hn
  go_enter Try.func54, Try.ntmps54
  go_wp2
  exact ⟨rfl, rfl, rfl⟩
end Go.Proofs.Ytgafnilcmhjpcaa.HCell
