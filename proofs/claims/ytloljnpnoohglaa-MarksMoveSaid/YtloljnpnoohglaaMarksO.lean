/- Opening a slice of marks. -/
import Derived.Test.YtloljnpnoohglaaOpen
import Derived.Test.YtloljnpnoohglaaMarksV
import Derived.OpenShut
namespace Go.Proofs.Ytloljnpnoohglaa.Marks
set_option linter.unusedSimpArgs false
set_option linter.unusedVariables false
open Go.RowKit Go.ChangeShapes

theorem cells_mark : Try.prog.cellsOf 23 = 2 := by kernel_rfl
theorem cells_int : Try.prog.cellsOf 3 = 1 := by kernel_rfl
theorem cells_bool : Try.prog.cellsOf 4 = 1 := by kernel_rfl

set_option maxRecDepth 100000 in
theorem dec_mark {H : Type} {enc : TypeId × Value → H} {W : World} {base : Nat} {spare : Nat → Bool} {held : Bool} (n : Nat) (cs : List Value) (y : DataW H × List MemPlace)
    (h : DataW.trod enc Try.prog W base spare held n 23 cs = some y) : ∃ x : Int × Bool, cs = mcells x ∧ (-9223372036854775808 ≤ x.1 ∧ x.1 ≤ 9223372036854775807) := by
  obtain ⟨y0, y1, m, _, hl, h0, h1⟩ := trod_struct2 Try.underlying23 h
  rw [cells_mark] at hl
  obtain ⟨c0, c1, rfl⟩ := list2 hl
  rw [show (0 : Nat) = 0 from rfl] at h0
  simp only [cells_int, cells_bool, List.drop_zero, List.drop_succ_cons, List.take_succ_cons, List.take_zero] at h0 h1
  obtain ⟨a, e0, _, wa⟩ := DataW.trod_int Try.underlying3 h0
  obtain ⟨b, e1, _⟩ := DataW.trod_bool Try.underlying4 h1
  simp only [List.cons.injEq, and_true] at e0 e1
  subst e0 e1
  exact ⟨(a, b), rfl, bounds_i64 wa⟩
end Go.Proofs.Ytloljnpnoohglaa.Marks
