/- Printed for this claim by a program of this repo, over the print of the kit. -/
import Derived.Test.YtapanoalhhlphaaProg
import Derived.Below
import Derived.Deep.Draws
import Derived.Deep.AppendLies
import Derived.Maps.AppendAt
import Derived.OwnWalk
import Derived.Laws.BytesArg
import Derived.Laws.MakeOwn
import Derived.Laws.OwnMore
import Derived.Deep.OwnRows
import Derived.Tactics
import Derived.Lib.ConvBytes
import Derived.Laws.Slices
import Derived.WalkKit
import Derived.KernelRfl
import Derived.RowKit3
import Derived.Deep.LoopGhost
import Derived.Deep.QuietTactic
import Derived.BigQuiet
import Derived.WideLaws
import Derived.Deep.DeepCutAuto
import Derived.Deep.CutBlock
import Derived.Deep.RegionHeld3
import Derived.Laws.Rows
import Derived.Lib.AppendStr
import Derived.ArgAppend
import Derived.Laws.IdiomCopy
import Derived.OrdersHeld
import Derived.Laws.BitsLemmas
import Derived.RowKit
import Derived.Test.YtapanoalhhlphaaStr
import Derived.Test.YtapanoalhhlphaaKd
import Derived.Test.YtapanoalhhlphaaVecD
import Derived.Test.YtapanoalhhlphaaVecS
import Derived.Test.YtapanoalhhlphaaVecW
import Derived.Test.YtapanoalhhlphaaWWords
import Derived.Test.YtapanoalhhlphaaWLast
import Derived.Test.YtapanoalhhlphaaWTab
import Derived.Test.YtapanoalhhlphaaWFour
import Derived.Test.YtapanoalhhlphaaWQPut
import Derived.Test.YtapanoalhhlphaaWApart
import Derived.Test.YtapanoalhhlphaaWArr
import Derived.Test.YtapanoalhhlphaaWZeros
import Derived.Test.YtapanoalhhlphaaWFoot
import Derived.Test.YtapanoalhhlphaaWKept
import Derived.Test.YtapanoalhhlphaaWShare
import Derived.Test.YtapanoalhhlphaaWN
import Derived.Test.YtapanoalhhlphaaWFootNe
import Derived.Test.YtapanoalhhlphaaWAt
import Derived.Test.YtapanoalhhlphaaWEqStruct
import Derived.Test.YtapanoalhhlphaaWRepsOne
import Derived.Test.YtapanoalhhlphaaWInv
import Derived.Test.YtapanoalhhlphaaWInvWords
import Derived.Test.YtapanoalhhlphaaWGuard
import Derived.Test.YtapanoalhhlphaaWNEv
import Derived.Test.YtapanoalhhlphaaWMore
namespace Go.Proofs.Ytapanoalhhlphaa.PV
open Go.RowKit Go.Proofs.YtapanoalhhlphaaW.PrintWords Go.Proofs.YtapanoalhhlphaaW.PrintLast Go.Proofs.YtapanoalhhlphaaW.PrintMore
attribute [local go_sem] max2_int min2_int max_two min_two max_three min_three max_four min_four   -- for this text's walks alone
set_option linter.unusedVariables false
set_option linter.unusedSimpArgs false



def errW : Option Int → Value
  | none => .nilIface
  | some c => .iface 0 (.int .i64 c)
theorem errW_none : errW none = .nilIface := rfl
theorem errW_some (c : Int) : errW (some c) = .iface 0 (.int .i64 c) := rfl

theorem info3 : (Try.prog.info? 3).map (fun i => (i.zero, i.size, i.bytes)) = some (some (.int .i64 0), 1, 8) := by kernel_rfl
theorem info4 : (Try.prog.info? 4).map (fun i => (i.zero, i.size, i.bytes)) = some (some (.bool false), 1, 1) := by kernel_rfl
-- the values' own types

end Go.Proofs.Ytapanoalhhlphaa.PV
