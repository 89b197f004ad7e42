-- Written by a program of this session (wip/mkprint.py, over the kit's print), not by hand.
import Derived.Test.YtfbmdlheajclcaaProg
import Derived.Below
import Derived.Deep.Draws
import Derived.Deep.AppendLies
import Derived.Maps.AppendAt
import Derived.OwnWalk
import Derived.Laws.BytesArg
import Derived.Laws.MakeOwn
import Derived.Laws.OwnMore
import Derived.Deep.OwnRows
import Derived.Tactics
import Derived.Lib.ConvBytes
import Derived.Laws.Slices
import Derived.WalkKit
import Derived.KernelRfl
import Derived.RowKit3
import Derived.Deep.LoopGhost
import Derived.Deep.QuietTactic
import Derived.BigQuiet
import Derived.WideLaws
import Derived.Deep.DeepCutAuto
import Derived.Deep.CutBlock
import Derived.Deep.RegionHeld3
import Derived.Laws.Rows
import Derived.Lib.AppendStr
import Derived.ArgAppend
import Derived.Laws.IdiomCopy
import Derived.OrdersHeld
import Derived.Laws.BitsLemmas
import Derived.RowKit
import Derived.Test.YtfbmdlheajclcaaWideGiven2
import Derived.Test.YtfbmdlheajclcaaWWords
import Derived.Test.YtfbmdlheajclcaaWLast
import Derived.Test.YtfbmdlheajclcaaWTab
import Derived.Test.YtfbmdlheajclcaaWFour
import Derived.Test.YtfbmdlheajclcaaWQPut
import Derived.Test.YtfbmdlheajclcaaWApart
import Derived.Test.YtfbmdlheajclcaaWArr
import Derived.Test.YtfbmdlheajclcaaWZeros
import Derived.Test.YtfbmdlheajclcaaWFoot
import Derived.Test.YtfbmdlheajclcaaWKept
import Derived.Test.YtfbmdlheajclcaaWShare
import Derived.Test.YtfbmdlheajclcaaWN
import Derived.Test.YtfbmdlheajclcaaWFootNe
import Derived.Test.YtfbmdlheajclcaaWAt
import Derived.Test.YtfbmdlheajclcaaWEqStruct
import Derived.Test.YtfbmdlheajclcaaWRepsOne
import Derived.Test.YtfbmdlheajclcaaWInv
import Derived.Test.YtfbmdlheajclcaaWInvWords
import Derived.Test.YtfbmdlheajclcaaWGuard
import Derived.Test.YtfbmdlheajclcaaWNEv
import Derived.Test.YtfbmdlheajclcaaWMore
namespace Go.Proofs.Ytfbmdlheajclcaa.Print
open Go.RowKit Go.Proofs.YtfbmdlheajclcaaW.PrintWords Go.Proofs.YtfbmdlheajclcaaW.PrintLast Go.Proofs.YtfbmdlheajclcaaW.PrintMore
attribute [local go_sem] max2_int min2_int max_two min_two max_three min_three max_four min_four   -- for this text's walks alone
set_option linter.unusedVariables false
set_option linter.unusedSimpArgs false



def errW : Option Int → Value
  | none => .nilIface
  | some c => .iface 0 (.int .i64 c)
theorem errW_none : errW none = .nilIface := rfl
theorem errW_some (c : Int) : errW (some c) = .iface 0 (.int .i64 c) := rfl

theorem info5 : (Try.prog.info? 5).map (fun i => (i.zero, i.size, i.bytes)) = some (some (.int .u8 0), 1, 1) := by kernel_rfl
theorem info22 : (Try.prog.info? 22).map (fun i => (i.zero, i.size, i.bytes)) = some (some (.int .u64 0), 1, 8) := by kernel_rfl
-- the values' own types

end Go.Proofs.Ytfbmdlheajclcaa.Print
