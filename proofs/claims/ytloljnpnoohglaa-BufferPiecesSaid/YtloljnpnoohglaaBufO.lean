/- Opening a slice of texts, and a pair of numbers. -/
import Derived.Test.YtloljnpnoohglaaOpen
import Derived.Test.YtloljnpnoohglaaBufL
import Derived.OpenShut
import Derived.WideKeyPair
namespace Go.Proofs.Ytloljnpnoohglaa.Buf
set_option linter.unusedSimpArgs false
set_option linter.unusedVariables false
open Go Go.RowKit Go.ChangeShapes
open Go.Proofs.Ytloljnpnoohglaa.Vec (SlI)

theorem cells_str : Try.prog.cellsOf 9 = 1 := by kernel_rfl
theorem dec_str {H : Type} {enc : TypeId × Value → H} {W : World} {base : Nat} {spare : Nat → Bool} {held : Bool} (n : Nat) (cs : List Value) (y : DataW H × List MemPlace)
    (h : DataW.trod enc Try.prog W base spare held n 9 cs = some y) : ∃ x : ByteArray, cs = [.string x] ∧ True := by
  obtain ⟨s, h1, _, _⟩ := DataW.trod_string Try.underlying9 h
  exact ⟨s, h1, trivial⟩
instance : Inhabited ByteArray := ⟨⟨#[]⟩⟩
/-- one cell a row. -/
theorem sl_of_at {w : World} {B n : Nat} {A : Option Addr} {f : Nat → Nat → Value} (h : SlAt w B 1 n A f) : SlI w B n A (fun i => f i 0) := fun hn => by
  obtain ⟨b, off, e, hb, hc⟩ := h hn
  exact ⟨b, off, e, hb, fun i hi => by have := hc i 0 hi (by omega); simpa using this⟩
theorem pair_key : Go.WideMaps.ArrKey Try.prog 81 3 2 := ⟨Try.underlying81, by kernel_rfl, by kernel_rfl, by kernel_rfl⟩
end Go.Proofs.Ytloljnpnoohglaa.Buf
