
/- Regions that draw their order, whose operations only read and whose callees only add to memory: the quiet walk over a class of worlds. -/
import Derived.Test.YtohjhbhbpflokaaKit
import Derived.BigQuiet
namespace Go.Proofs.Ytohjhbhbpflokaa
set_option linter.unusedSimpArgs false
set_option linter.unusedVariables false
open Go Go.RowKit

/-- a world of a class. -/
structure Wd (I : World → Prop) where
  w : World
  h : I w

section
variable {P : Program} {I : World → Prop}
theorem wp_region_wd (I : World → Prop) {id : Nat} {Q : Exit → Act → World → Prop} {a : Act} {w : World} {l : List Oper} (hm : P.follows .mixedOrders = true) (hB : Region.lexB .any l.toArray = true) (h0 : I w.drew)
    (h : wpQuiet P l.toArray (fun w' => ∃ x : Wd I, w' = x.w) (fun a' => ∀ w', (∃ x : Wd I, w' = x.w) → Q .normal a' w') l a) : (Code.region id l.toArray true).wp P Q a w :=
  wp_region_quiet (C := fun w' => ∃ x : Wd I, w' = x.w) hm hB ⟨⟨_, h0⟩, rfl⟩ (by simpa using h)
/-- a callee that keeps the class. -/
theorem Wd.call {f : FuncId} {args : Array Value} {x : Wd I} {v : Value} (h : Calls P f args x.w fun e w' => e = .returned v ∧ I w') : Calls P f args x.w fun e w'' => e = .returned v ∧ ∃ y : Wd I, w'' = y.w :=
  h.mono fun _ w' ⟨he, hi⟩ => ⟨he, ⟨w', hi⟩, rfl⟩
/-- the class of what is behind a world. -/
abbrev Bw (W : World) : Type := Wd (fun w' => Below W.heap.size W w')
instance (W : World) : Nonempty (Wd fun w' => Below W.heap.size W w') := ⟨⟨W, Below.refl _ _⟩⟩
theorem Bw.call {W : World} {f : FuncId} {args : Array Value} {x : Bw W} {v : Value} (h : Calls P f args x.w fun e w' => e = .returned v ∧ Below x.w.heap.size x.w w') : Calls P f args x.w fun e w'' => e = .returned v ∧ ∃ y : Bw W, w'' = y.w :=
  Wd.call (h.mono fun _ _ ⟨he, hb⟩ => ⟨he, x.h.trans (hb.mono x.h.size)⟩)
theorem Bw.same {W : World} {f : FuncId} {args : Array Value} {x : Bw W} {v : Value} (h : Calls P f args x.w fun e w' => e = .returned v ∧ x.w = w') : Calls P f args x.w fun e w'' => e = .returned v ∧ ∃ y : Bw W, w'' = y.w :=
  Bw.call (h.mono fun _ _ ⟨he, hb⟩ => ⟨he, hb ▸ Below.refl _ _⟩)
theorem Bw.start (W : World) : Below W.heap.size W W.drew := (Below.refl _ _).drew
theorem Bw.cell {W : World} {b o : Nat} {v : Option Value} (hb : b < W.heap.size) (h : W.cell? ⟨b, o, none⟩ = v) : ∀ x : Bw W, x.w.cell? ⟨b, o, none⟩ = v := fun x => (x.h.cell (p := ⟨b, o, none⟩) hb).trans h
theorem Bw.lt {W : World} {b : Nat} (hb : b < W.heap.size) : ∀ x : Bw W, b < x.w.heap.size := fun x => Nat.lt_of_lt_of_le hb x.h.size
end
end Go.Proofs.Ytohjhbhbpflokaa
