
/- Opening a pair of numbers. -/
import Derived.Test.YtkcocdpmangcgaaProg
import Derived.Test.YtkcocdpmangcgaaOpen
import Derived.KernelRfl
import Derived.OpenShut
import Derived.WideKeyPair
namespace Go.Proofs.Ytkcocdpmangcgaa.Buf
set_option linter.unusedSimpArgs false
set_option linter.unusedVariables false
open Go Go.RowKit Go.ChangeShapes
theorem pair_key : Go.WideMaps.ArrKey Try.prog 38 3 2 := ⟨Try.underlying38, by kernel_rfl, by kernel_rfl, by kernel_rfl⟩
end Go.Proofs.Ytkcocdpmangcgaa.Buf
