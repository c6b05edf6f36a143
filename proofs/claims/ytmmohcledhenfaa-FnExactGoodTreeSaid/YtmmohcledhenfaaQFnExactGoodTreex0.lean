-- written by a program of this session (wip/fork) out of the translation; Lean checks it
import Derived.Test.YtmmohcledhenfaaProg
import Derived.Below
import Derived.Deep.Draws
import Derived.Deep.AppendLies
import Derived.Maps.AppendAt
import Derived.OwnWalk
import Derived.Laws.BytesArg
import Derived.Laws.MakeOwn
import Derived.Laws.OwnMore
import Derived.Deep.OwnRows
import Derived.Tactics
import Derived.Lib.ConvBytes
import Derived.Laws.Slices
import Derived.WalkKit
import Derived.KernelRfl
import Derived.RowKit3
import Derived.Deep.LoopGhost
import Derived.Deep.QuietTactic
import Derived.BigQuiet
import Derived.WideLaws
import Derived.Deep.DeepCutAuto
import Derived.Deep.CutBlock
import Derived.Deep.RegionHeld3
import Derived.Laws.Rows
import Derived.Lib.AppendStr
import Derived.ArgAppend
import Derived.Laws.IdiomCopy
import Derived.OrdersHeld
import Derived.Laws.BitsLemmas
import Derived.RowKit
import Derived.Test.YtmmohcledhenfaaWWords
import Derived.Test.YtmmohcledhenfaaWLast
import Derived.Test.YtmmohcledhenfaaWTab
import Derived.Test.YtmmohcledhenfaaWFour
import Derived.Test.YtmmohcledhenfaaWQPut
import Derived.Test.YtmmohcledhenfaaWApart
import Derived.Test.YtmmohcledhenfaaWArr
import Derived.Test.YtmmohcledhenfaaWZeros
import Derived.Test.YtmmohcledhenfaaWFoot
import Derived.Test.YtmmohcledhenfaaWKept
import Derived.Test.YtmmohcledhenfaaWShare
import Derived.Test.YtmmohcledhenfaaWN
import Derived.Test.YtmmohcledhenfaaWFootNe
import Derived.Test.YtmmohcledhenfaaWAt
import Derived.Test.YtmmohcledhenfaaWEqStruct
import Derived.Test.YtmmohcledhenfaaWRepsOne
import Derived.Test.YtmmohcledhenfaaWInv
import Derived.Test.YtmmohcledhenfaaWInvWords
import Derived.Test.YtmmohcledhenfaaWGuard
import Derived.Test.YtmmohcledhenfaaWNEv
import Derived.Test.YtmmohcledhenfaaWMore
namespace Go.Proofs.Ytmmohcledhenfaa.QFnExactGoodTree
open Go.RowKit Go.Proofs.YtmmohcledhenfaaW.PrintWords Go.Proofs.YtmmohcledhenfaaW.PrintLast Go.Proofs.YtmmohcledhenfaaW.PrintMore
attribute [local go_sem] max2_int min2_int max_two min_two max_three min_three max_four min_four   -- for this text's walks alone
set_option linter.unusedVariables false
set_option linter.unusedSimpArgs false



def errW : Option Int → Value
  | none => .nilIface
  | some c => .iface 0 (.int .i64 c)
theorem errW_none : errW none = .nilIface := rfl
theorem errW_some (c : Int) : errW (some c) = .iface 0 (.int .i64 c) := rfl

theorem info3 : (Try.prog.info? 3).map (fun i => (i.zero, i.size, i.bytes)) = some (some (.int .i64 0), 1, 8) := by kernel_rfl
-- the values' own types

end Go.Proofs.Ytmmohcledhenfaa.QFnExactGoodTree
