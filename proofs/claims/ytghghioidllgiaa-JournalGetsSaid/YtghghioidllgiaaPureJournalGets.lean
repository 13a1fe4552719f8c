/- Of any bytes the program and the page tell the same operations, the same place and the same error; no condition beyond the statement's own. -/
import Derived.Test.YtghghioidllgiaaPJx6
import Derived.Test.YtghghioidllgiaaJr
namespace Go.Proofs.Ytghghioidllgiaa.Pure
set_option linter.unusedSimpArgs false
set_option linter.unusedVariables false
open Go.RowKit Go.Proofs.Ytghghioidllgiaa.PJ Go.Proofs.YtghghioidllgiaaW.PrintWords Go.Proofs.YtghghioidllgiaaW.PrintLast Go.Proofs.YtghghioidllgiaaW.PrintMore Go.Proofs.Ytghghioidllgiaa.JPure

theorem JournalGets : tattinglaw44_JournalGets.Pure := by
  intro l0 _ _ hw
  have hB : B l0 := fun x hx => by
    have := hw x hx
    simp [Lit.wf, IntKind.min, IntKind.max, IntKind.signed, IntKind.bits] at this
    omega
  have hmn : mn (l0.length : Int) 600 = ((min l0.length 600 : Nat) : Int) := by unfold mn; split <;> omega
  obtain ⟨R, h1, h2, h3, h4⟩ := both (l0.take (min l0.length 600)) (hB.take _) (by simp; omega) 600 0 [] (by simp; omega) (by omega) (by simp) (by simp)
  refine Ev.rounds (g := fun k => tattinglaw44_JournalGets.f k l0) ?_
  unfold tattinglaw44_JournalGets.f
  refine Ev.bind (g := fun _ => tattinglaw44_awake.f) (Ev.now true) (Ev.pos rfl ?_)
  rw [hmn, Int.toNat_natCast]
  refine Ev.pos (by omega) (Ev.pos (by omega) ?_)
  refine Ev.bind (g := fun k => journal_Get.f k _) h1 ?_
  refine Ev.bind (g := fun k => tattingref44_Get.f k _) h2 ?_
  refine Ev.bind (same_f R.1 (by omega) (fun y hy => by have := h4 y hy; omega)) (Ev.pos rfl (Ev.pos rfl ?_))
  exact Ev.at_ (by simp)
end Go.Proofs.Ytghghioidllgiaa.Pure
