/- Opening a function of states. -/
import Derived.Test.YtloljnpnoohglaaOpen
import Derived.Test.YtloljnpnoohglaaVecR
import Derived.OpenShut
import Derived.Lib.SmallJoins
namespace Go.Proofs.Ytloljnpnoohglaa.Vec
set_option linter.unusedSimpArgs false
set_option linter.unusedVariables false
open Go Go.RowKit Go.ChangeShapes Go.Joins Go.Deep

theorem cells_fun : Try.prog.cellsOf 60 = 2 := by kernel_rfl
theorem cells_int : Try.prog.cellsOf 3 = 1 := by kernel_rfl
theorem cells_bool : Try.prog.cellsOf 4 = 1 := by kernel_rfl
theorem dec_int {H : Type} {enc : TypeId × Value → H} {W : World} {base : Nat} {spare : Nat → Bool} {held : Bool} (n : Nat) (cs : List Value) (y : DataW H × List MemPlace)
    (h : DataW.trod enc Try.prog W base spare held n 3 cs = some y) : ∃ x : Int, cs = [.int .i64 x] ∧ True := by
  obtain ⟨s, h1, _⟩ := DataW.trod_int Try.underlying3 h
  exact ⟨s, h1, trivial⟩
theorem dec_bool {H : Type} {enc : TypeId × Value → H} {W : World} {base : Nat} {spare : Nat → Bool} {held : Bool} (n : Nat) (cs : List Value) (y : DataW H × List MemPlace)
    (h : DataW.trod enc Try.prog W base spare held n 4 cs = some y) : ∃ x : Bool, cs = [.bool x] ∧ True := by
  obtain ⟨s, h1, _⟩ := DataW.trod_bool Try.underlying4 h
  exact ⟨s, h1, trivial⟩
theorem sl_of_at {w : World} {B n : Nat} {A : Option Addr} {f : Nat → Nat → Value} (h : SlAt w B 1 n A f) : SlI w B n A (fun i => f i 0) := fun hn => by
  obtain ⟨b, off, e, hb, hc⟩ := h hn
  exact ⟨b, off, e, hb, fun i hi => by have := hc i 0 hi (by omega); simpa using this⟩
instance : Inhabited Int := ⟨0⟩

section
variable {H : Type} {enc : TypeId × Value → H} {W : World} {base : Nat} {spare : Nat → Bool} {held : Bool}
set_option maxRecDepth 100000 in
theorem open_fun {b0 : Nat} {r : Reach} {v : Value} {d : DataW H} {p : List MemPlace} (hv : Value.okWide Try.prog W r b0 60 v) (h : DataW.Trod enc Try.prog W base spare held 60 v d p) :
    ∃ A n c B m e T Hs, v = .agg #[.slice A n c, .slice B m e] ∧ FunAt W A n B m T Hs := by
  obtain ⟨v0, v1, y0, y1, k, rfl, _, _, h0, h1⟩ := open_agg2 Try.underlying60 (by kernel_rfl) cells_fun hv h
  have form : ∀ {t e : TypeId} {u : Value} {y : DataW H × List MemPlace}, Try.prog.underlying t = some (.slice e) → DataW.trod enc Try.prog W base spare held k t [u] = some y → ∃ A n c, u = .slice A n c := by
    intro t e u y ht hu
    rcases open_slice ht hu with ⟨hcs, _⟩ | ⟨a, len', cap', m, n, D, Pl, hcs, _⟩
    · simp at hcs; exact ⟨_, _, _, hcs⟩
    · simp at hcs; exact ⟨_, _, _, hcs⟩
  obtain ⟨A, n, c, rfl⟩ := form Try.underlying57 h0
  obtain ⟨B, m, e, rfl⟩ := form Try.underlying58 h1
  obtain ⟨T, hT, _, _, _, sT⟩ := open_rows (α := Int) (fun x : Int => [Value.int .i64 x]) (fun _ => True) cells_int (by omega) Try.underlying57 dec_int (d := y0.1) (p := y0.2) ⟨k, h0⟩
  obtain ⟨Hs, hH, _, _, _, sH⟩ := open_rows (α := Bool) (fun x : Bool => [Value.bool x]) (fun _ => True) cells_bool (by omega) Try.underlying58 dec_bool (d := y1.1) (p := y1.2) ⟨k, h1⟩
  exact ⟨A, n, c, B, m, e, T, Hs, rfl, hT, hH, sl_of_at sT, sl_of_at sH⟩
end
end Go.Proofs.Ytloljnpnoohglaa.Vec
