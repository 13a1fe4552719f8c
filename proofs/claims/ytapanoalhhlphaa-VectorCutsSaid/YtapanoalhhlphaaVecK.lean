
/- One-cell slices, read. -/
import Derived.Test.YtapanoalhhlphaaProg
import Derived.Test.YtapanoalhhlphaaKit
import Derived.Test.YtapanoalhhlphaaGrow
import Derived.Deep.QuietTactic
import Derived.Deep.DeepCutAuto
import Derived.KernelRfl
import Derived.BigQuiet
namespace Go.Proofs.Ytapanoalhhlphaa.Vec
set_option linter.unusedSimpArgs false
set_option linter.unusedVariables false
open Go Go.RowKit
attribute [local go_sem] lt_add1 lt_self1 size_ne size_ne' size_ne1 size_ne1'

/-- n elements of one cell each. -/
def SlI (w : World) (B n : Nat) (A : Option Addr) (f : Nat → Value) : Prop :=
  0 < n → ∃ b off, A = some ⟨b, off, none⟩ ∧ b < B ∧ ∀ i, i < n → w.cell? ⟨b, off + i, none⟩ = some (f i)
section
variable {w w' : World} {B B' n m : Nat} {A : Option Addr} {f g : Nat → Value}
theorem SlI.none_ : SlI w B 0 A f := fun h => absurd h (by omega)
theorem SlI.below (h : SlI w B n A f) (hb : Below B w w') : SlI w' B n A f := fun hn => by
  obtain ⟨b, off, e, hl, hc⟩ := h hn
  exact ⟨b, off, e, hl, fun i hi => (hb.cell (p := ⟨b, _, none⟩) hl).trans (hc i hi)⟩
theorem SlI.more (h : SlI w B n A f) (hB : B ≤ B') : SlI w B' n A f := fun h0 => by
  obtain ⟨b, off, e, hb, hc⟩ := h h0
  exact ⟨b, off, e, by omega, hc⟩
theorem SlI.next (h : SlI w w.heap.size n A f) (hb : Below w.heap.size w w') : SlI w' w'.heap.size n A f := (h.below hb).more hb.size
theorem SlI.congr (h : SlI w B n A f) (hf : ∀ i, i < n → f i = g i) : SlI w B n A g := fun h0 => by
  obtain ⟨b, off, e, hb, hc⟩ := h h0
  exact ⟨b, off, e, hb, fun i hi => by rw [hc i hi, hf i hi]⟩
end
def iv (xs : List Int) (i : Nat) : Value := .int .i64 (xs.getD i 0)
def bv (xs : List Bool) (i : Nat) : Value := .bool (xs.getD i false)

/-! ### slices.Equal -/
theorem take_eq_succ {α : Type} [DecidableEq α] (d : α) (xs ys : List α) (j : Nat) (hx : j < xs.length) (hy : j < ys.length) : (xs.take (j + 1) = ys.take (j + 1)) ↔ (xs.take j = ys.take j ∧ xs.getD j d = ys.getD j d) := by
  rw [List.take_add_one, List.take_add_one]
  simp only [List.getElem?_eq_getElem hx, List.getElem?_eq_getElem hy, Option.toList_some, List.getD, Option.getD_some]
  constructor
  · intro h
    have hl : (xs.take j).length = (ys.take j).length := by simp; omega
    have := List.append_inj h hl
    exact ⟨this.1, by simpa using this.2⟩
  · rintro ⟨h1, h2⟩
    rw [h1, h2]
end Go.Proofs.Ytapanoalhhlphaa.Vec
