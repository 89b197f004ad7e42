-- Written by a program of this session (wip/mkprint.py, over the kit's print), not by hand.
import Derived.Test.YtjlhfjcjmeonmaaProg
import Derived.Below
import Derived.Deep.Draws
import Derived.Deep.AppendLies
import Derived.Maps.AppendAt
import Derived.OwnWalk
import Derived.Laws.BytesArg
import Derived.Laws.MakeOwn
import Derived.Laws.OwnMore
import Derived.Deep.OwnRows
import Derived.Tactics
import Derived.Lib.ConvBytes
import Derived.Laws.Slices
import Derived.WalkKit
import Derived.KernelRfl
import Derived.RowKit3
import Derived.Deep.LoopGhost
import Derived.Deep.QuietTactic
import Derived.BigQuiet
import Derived.WideLaws
import Derived.Deep.DeepCutAuto
import Derived.Deep.CutBlock
import Derived.Deep.RegionHeld3
import Derived.Laws.Rows
import Derived.Lib.AppendStr
import Derived.ArgAppend
import Derived.Laws.IdiomCopy
import Derived.OrdersHeld
import Derived.Laws.BitsLemmas
import Derived.RowKit
import Derived.Test.YtjlhfjcjmeonmaaBucket
import Derived.Test.YtjlhfjcjmeonmaaRefBucket
import Derived.Test.YtjlhfjcjmeonmaaWWords
import Derived.Test.YtjlhfjcjmeonmaaWLast
import Derived.Test.YtjlhfjcjmeonmaaWTab
import Derived.Test.YtjlhfjcjmeonmaaWFour
import Derived.Test.YtjlhfjcjmeonmaaWQPut
import Derived.Test.YtjlhfjcjmeonmaaWApart
import Derived.Test.YtjlhfjcjmeonmaaWArr
import Derived.Test.YtjlhfjcjmeonmaaWZeros
import Derived.Test.YtjlhfjcjmeonmaaWFoot
import Derived.Test.YtjlhfjcjmeonmaaWKept
import Derived.Test.YtjlhfjcjmeonmaaWShare
import Derived.Test.YtjlhfjcjmeonmaaWN
import Derived.Test.YtjlhfjcjmeonmaaWFootNe
import Derived.Test.YtjlhfjcjmeonmaaWAt
import Derived.Test.YtjlhfjcjmeonmaaWEqStruct
import Derived.Test.YtjlhfjcjmeonmaaWRepsOne
import Derived.Test.YtjlhfjcjmeonmaaWInv
import Derived.Test.YtjlhfjcjmeonmaaWInvWords
import Derived.Test.YtjlhfjcjmeonmaaWGuard
import Derived.Test.YtjlhfjcjmeonmaaWNEv
import Derived.Test.YtjlhfjcjmeonmaaWMore
namespace Go.Proofs.Ytjlhfjcjmeonmaa.Print
open Go.RowKit Go.Proofs.YtjlhfjcjmeonmaaW.PrintWords Go.Proofs.YtjlhfjcjmeonmaaW.PrintLast Go.Proofs.YtjlhfjcjmeonmaaW.PrintMore
attribute [local go_sem] max2_int min2_int max_two min_two max_three min_three max_four min_four   -- for this text's walks alone
set_option linter.unusedVariables false
set_option linter.unusedSimpArgs false



def errW : Option Int → Value
  | none => .nilIface
  | some c => .iface 0 (.int .i64 c)
theorem errW_none : errW none = .nilIface := rfl
theorem errW_some (c : Int) : errW (some c) = .iface 0 (.int .i64 c) := rfl

-- the values' own types

end Go.Proofs.Ytjlhfjcjmeonmaa.Print
