/- Printed for this claim by a program of this repo, over the print of the kit. -/
import Derived.Test.YtghghioidllgiaaProg
import Derived.Below
import Derived.Deep.Draws
import Derived.Deep.AppendLies
import Derived.Maps.AppendAt
import Derived.OwnWalk
import Derived.Laws.BytesArg
import Derived.Laws.MakeOwn
import Derived.Laws.OwnMore
import Derived.Deep.OwnRows
import Derived.Tactics
import Derived.Lib.ConvBytes
import Derived.Laws.Slices
import Derived.WalkKit
import Derived.KernelRfl
import Derived.RowKit3
import Derived.Deep.LoopGhost
import Derived.Deep.QuietTactic
import Derived.BigQuiet
import Derived.WideLaws
import Derived.Deep.DeepCutAuto
import Derived.Deep.CutBlock
import Derived.Deep.RegionHeld3
import Derived.Laws.Rows
import Derived.Lib.AppendStr
import Derived.ArgAppend
import Derived.Laws.IdiomCopy
import Derived.OrdersHeld
import Derived.Laws.BitsLemmas
import Derived.RowKit
import Derived.Test.YtghghioidllgiaaStr
import Derived.Test.YtghghioidllgiaaKd
import Derived.Test.YtghghioidllgiaaPkQ
import Derived.Test.YtghghioidllgiaaPkH
import Derived.Test.YtghghioidllgiaaPkR
import Derived.Test.YtghghioidllgiaaPkA
import Derived.Test.YtghghioidllgiaaPkJ
import Derived.Test.YtghghioidllgiaaWWords
import Derived.Test.YtghghioidllgiaaWLast
import Derived.Test.YtghghioidllgiaaWTab
import Derived.Test.YtghghioidllgiaaWFour
import Derived.Test.YtghghioidllgiaaWQPut
import Derived.Test.YtghghioidllgiaaWApart
import Derived.Test.YtghghioidllgiaaWArr
import Derived.Test.YtghghioidllgiaaWZeros
import Derived.Test.YtghghioidllgiaaWFoot
import Derived.Test.YtghghioidllgiaaWKept
import Derived.Test.YtghghioidllgiaaWShare
import Derived.Test.YtghghioidllgiaaWN
import Derived.Test.YtghghioidllgiaaWFootNe
import Derived.Test.YtghghioidllgiaaWAt
import Derived.Test.YtghghioidllgiaaWEqStruct
import Derived.Test.YtghghioidllgiaaWRepsOne
import Derived.Test.YtghghioidllgiaaWInv
import Derived.Test.YtghghioidllgiaaWInvWords
import Derived.Test.YtghghioidllgiaaWGuard
import Derived.Test.YtghghioidllgiaaWNEv
import Derived.Test.YtghghioidllgiaaWMore
namespace Go.Proofs.Ytghghioidllgiaa.PK
open Go.RowKit Go.Proofs.YtghghioidllgiaaW.PrintWords Go.Proofs.YtghghioidllgiaaW.PrintLast Go.Proofs.YtghghioidllgiaaW.PrintMore
attribute [local go_sem] max2_int min2_int max_two min_two max_three min_three max_four min_four   -- for this text's walks alone
set_option linter.unusedVariables false
set_option linter.unusedSimpArgs false



def errW : Option Int → Value
  | none => .nilIface
  | some c => .iface 0 (.int .i64 c)
theorem errW_none : errW none = .nilIface := rfl
theorem errW_some (c : Int) : errW (some c) = .iface 0 (.int .i64 c) := rfl

theorem info3 : (Try.prog.info? 3).map (fun i => (i.zero, i.size, i.bytes)) = some (some (.int .i64 0), 1, 8) := by kernel_rfl
theorem info4 : (Try.prog.info? 4).map (fun i => (i.zero, i.size, i.bytes)) = some (some (.bool false), 1, 1) := by kernel_rfl
theorem info5 : (Try.prog.info? 5).map (fun i => (i.zero, i.size, i.bytes)) = some (some (.int .u8 0), 1, 1) := by kernel_rfl
-- the values' own types

end Go.Proofs.Ytghghioidllgiaa.PK
