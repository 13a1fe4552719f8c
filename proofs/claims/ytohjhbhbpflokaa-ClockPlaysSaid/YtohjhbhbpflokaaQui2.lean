
/- The end of a quiet walk over a class of worlds. -/
import Derived.Test.YtohjhbhbpflokaaQui
namespace Go.Proofs.Ytohjhbhbpflokaa
set_option linter.unusedSimpArgs false
set_option linter.unusedVariables false
open Go Go.RowKit
theorem wd_all {I : World → Prop} {Q : World → Prop} (h : ∀ w', I w' → Q w') : ∀ w', (∃ x : Wd I, w' = x.w) → Q w' := fun w' ⟨x, e⟩ => e ▸ h _ x.h
end Go.Proofs.Ytohjhbhbpflokaa
