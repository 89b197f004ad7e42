-- Written by a program of this session (wip/mkprint.py, over the kit's print), not by hand.
import Derived.Test.YtjlhfjcjmeonmaaDoorProg
import Derived.Below
import Derived.Deep.Draws
import Derived.Deep.AppendLies
import Derived.Maps.AppendAt
import Derived.OwnWalk
import Derived.Laws.BytesArg
import Derived.Laws.MakeOwn
import Derived.Laws.OwnMore
import Derived.Deep.OwnRows
import Derived.Tactics
import Derived.Lib.ConvBytes
import Derived.Laws.Slices
import Derived.WalkKit
import Derived.KernelRfl
import Derived.RowKit3
import Derived.Deep.LoopGhost
import Derived.Deep.QuietTactic
import Derived.BigQuiet
import Derived.WideLaws
import Derived.Deep.DeepCutAuto
import Derived.Deep.CutBlock
import Derived.Deep.RegionHeld3
import Derived.Laws.Rows
import Derived.Lib.AppendStr
import Derived.ArgAppend
import Derived.Laws.IdiomCopy
import Derived.OrdersHeld
import Derived.Laws.BitsLemmas
import Derived.RowKit
import Derived.Test.YtjlhfjcjmeonmaaDoorWWords
import Derived.Test.YtjlhfjcjmeonmaaDoorWLast
import Derived.Test.YtjlhfjcjmeonmaaDoorWTab
import Derived.Test.YtjlhfjcjmeonmaaDoorWFour
import Derived.Test.YtjlhfjcjmeonmaaDoorWQPut
import Derived.Test.YtjlhfjcjmeonmaaDoorWApart
import Derived.Test.YtjlhfjcjmeonmaaDoorWArr
import Derived.Test.YtjlhfjcjmeonmaaDoorWZeros
import Derived.Test.YtjlhfjcjmeonmaaDoorWFoot
import Derived.Test.YtjlhfjcjmeonmaaDoorWKept
import Derived.Test.YtjlhfjcjmeonmaaDoorWShare
import Derived.Test.YtjlhfjcjmeonmaaDoorWN
import Derived.Test.YtjlhfjcjmeonmaaDoorWFootNe
import Derived.Test.YtjlhfjcjmeonmaaDoorWAt
import Derived.Test.YtjlhfjcjmeonmaaDoorWEqStruct
import Derived.Test.YtjlhfjcjmeonmaaDoorWRepsOne
import Derived.Test.YtjlhfjcjmeonmaaDoorWInv
import Derived.Test.YtjlhfjcjmeonmaaDoorWInvWords
import Derived.Test.YtjlhfjcjmeonmaaDoorWGuard
import Derived.Test.YtjlhfjcjmeonmaaDoorWNEv
import Derived.Test.YtjlhfjcjmeonmaaDoorWMore
namespace Go.Proofs.YtjlhfjcjmeonmaaDoor.Print
open Go.RowKit Go.Proofs.YtjlhfjcjmeonmaaDoorW.PrintWords Go.Proofs.YtjlhfjcjmeonmaaDoorW.PrintLast Go.Proofs.YtjlhfjcjmeonmaaDoorW.PrintMore
attribute [local go_sem] max2_int min2_int max_two min_two max_three min_three max_four min_four   -- for this text's walks alone
set_option linter.unusedVariables false
set_option linter.unusedSimpArgs false



def errW : Option Int → Value
  | none => .nilIface
  | some c => .iface 0 (.int .i64 c)
theorem errW_none : errW none = .nilIface := rfl
theorem errW_some (c : Int) : errW (some c) = .iface 0 (.int .i64 c) := rfl

theorem info22 : (Tryd.prog.info? 22).map (fun i => (i.zero, i.size, i.bytes)) = some (some (.int .u64 0), 1, 8) := by kernel_rfl
-- the values' own types

end Go.Proofs.YtjlhfjcjmeonmaaDoor.Print
