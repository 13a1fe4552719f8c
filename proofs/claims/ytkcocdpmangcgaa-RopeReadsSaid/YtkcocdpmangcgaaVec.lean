
/- The library's Equal at numbers and at truths. -/
import Derived.Test.YtkcocdpmangcgaaVecK
namespace Go.Proofs.Ytkcocdpmangcgaa.Vec
set_option linter.unusedSimpArgs false
set_option linter.unusedVariables false
open Go Go.RowKit
attribute [local go_sem] lt_add1 lt_self1 size_ne size_ne' size_ne1 size_ne1'

end Go.Proofs.Ytkcocdpmangcgaa.Vec
