
/- What a callee may change: the blocks of a footprint, which it may take anew, and nothing else. -/
import Derived.Test.YtohjhbhbpflokaaSl
namespace Go.Proofs.Ytohjhbhbpflokaa
set_option linter.unusedSimpArgs false
set_option linter.unusedVariables false
open Go Go.RowKit

structure Fr (w : World) (F : Nat → Prop) (w' : World) (F' : Nat → Prop) : Prop where
  os : w'.os = w.os
  tape : w'.tape = w.tape
  output : w'.output = w.output
  size : w.heap.size ≤ w'.heap.size
  keep : ∀ b, b < w.heap.size → ¬ F b → w'.heap[b]? = w.heap[b]?
  new : ∀ b, F' b → F b ∨ w.heap.size ≤ b

section
variable {w w' w'' : World} {F F' F'' G : Nat → Prop}
theorem Fr.refl (w : World) (F : Nat → Prop) : Fr w F w F := ⟨rfl, rfl, rfl, Nat.le_refl _, fun _ _ _ => rfl, fun _ h => .inl h⟩
theorem Fr.trans (h : Fr w F w' F') (k : Fr w' F' w'' F'') : Fr w F w'' F'' :=
  ⟨k.os.trans h.os, k.tape.trans h.tape, k.output.trans h.output, Nat.le_trans h.size k.size,
    fun b hb hn => (k.keep b (Nat.lt_of_lt_of_le hb h.size) (fun hf => (h.new b hf).elim hn (fun hge => by omega))).trans (h.keep b hb hn),
    fun b hb => (k.new b hb).elim (h.new b) (fun hge => .inr (Nat.le_trans h.size hge))⟩
theorem Fr.of_below (hb : Below w.heap.size w w') : Fr w F w' F := ⟨hb.os, hb.tape, hb.output, hb.size, fun b hl _ => hb.block b hl, fun _ h => .inl h⟩
theorem Fr.weaken (h : Fr w F w' F') (hs : ∀ b, F b → G b) (hs' : ∀ b, F'' b → F' b ∨ G b) : Fr w G w' F'' :=
  ⟨h.os, h.tape, h.output, h.size, fun b hb hn => h.keep b hb fun hf => hn (hs b hf), fun b hb => (hs' b hb).elim (fun hf => (h.new b hf).imp (hs b) id) .inl⟩
theorem Fr.cell (h : Fr w F w' F') {b : Nat} (hb : b < w.heap.size) (hn : ¬ F b) (o : Nat) : w'.cell? ⟨b, o, none⟩ = w.cell? ⟨b, o, none⟩ := World.cell?_of_block (a := ⟨b, o, none⟩) (h.keep b hb hn)
theorem Fr.frozen (h : Fr w F w' F') {b : Nat} (hb : b < w.heap.size) (hn : ¬ F b) (o : Nat) : w'.frozen? ⟨b, o, none⟩ = w.frozen? ⟨b, o, none⟩ := World.frozen?_of_block (a := ⟨b, o, none⟩) (h.keep b hb hn)
theorem Fr.out (h : Fr w F w' F') {b : Nat} (hb : b < w.heap.size) (hn : ¬ F b) : ¬ F' b := fun hf => (h.new b hf).elim hn (fun hge => by omega)
theorem Fr.lt (h : Fr w F w' F') {b : Nat} (hb : b < w.heap.size) : b < w'.heap.size := Nat.lt_of_lt_of_le hb h.size
theorem Fr.below {B : Nat} {a : World} (h : Fr w F w' F') (hb : Below B a w) (hF : ∀ b, F b → B ≤ b) (hB : B ≤ w.heap.size) : Below B a w' :=
  hb.trans ⟨h.os, h.tape, h.output, h.size, fun b hl => h.keep b (by omega) (fun hf => by have := hF b hf; omega)⟩
theorem Fr.ge {B : Nat} (h : Fr w F w' F') (hF : ∀ b, F b → B ≤ b) (hB : B ≤ w.heap.size) : ∀ b, F' b → B ≤ b := fun b hb => (h.new b hb).elim (hF b) (fun hge => Nat.le_trans hB hge)
theorem Fr.sl {B size n : Nat} {A : Option Addr} {f : Nat → Nat → Value} (h : Fr w F w' F') (hs : SlAt w B size n A f) (hB : B ≤ w.heap.size) (hA : ∀ b off, A = some ⟨b, off, none⟩ → ¬ F b) : SlAt w' B size n A f := fun hn => by
  obtain ⟨b, off, e, hb, hc⟩ := hs hn
  exact ⟨b, off, e, hb, fun i j hi hj => (h.cell (by omega) (hA b off e) _).trans (hc i j hi hj)⟩
theorem Fr.own {base : Nat} {e : TypeId} {size : Nat} {v : Value} {n : Nat} {xs : List Value} (h : Fr w F w' F') (ho : w.ownsRow base e size v n xs) (hn : ∀ b, v.ownBlock = some b → ¬ F b) : w'.ownsRow base e size v n xs := by
  refine ⟨ho.1, ?_⟩
  rcases ho.2 with h2 | ⟨g, cap, cur, rfl, e2, e3, rest⟩
  · exact .inl h2
  · exact .inr ⟨g, cap, cur, rfl, e2, (h.keep g (Array.getElem?_eq_some_iff.1 e3).1 (hn g rfl)).trans e3, rest⟩
theorem Fr.block (h : Fr w F w' F') {b : Nat} {o : Obj} (ho : w.heap[b]? = some o) (hn : ¬ F b) : w'.heap[b]? = some o := (h.keep b (Array.getElem?_eq_some_iff.1 ho).1 hn).trans ho
end

/-- rows of equal length, one behind the other. -/
theorem rows_getD {α : Type} (cells : α → List Value) (z : α) {size : Nat} (hc : ∀ x, (cells x).length = size) : ∀ (l : List α) (i j : Nat), i < l.length → j < size → (l.flatMap cells).getD (i * size + j) undef = (cells (l.getD i z)).getD j undef
  | [], i, j, hi, _ => by simp at hi
  | x :: l, i, j, hi, hj => by
    rw [List.flatMap_cons]
    cases i with
    | zero =>
      simp only [List.getD, Nat.zero_mul, Nat.zero_add]
      rw [List.getElem?_append_left (by rw [hc]; exact hj)]
      simp
    | succ i =>
      have ih := rows_getD cells z hc l i j (by simpa using hi) hj
      have e : (i + 1) * size + j = size + (i * size + j) := by rw [Nat.succ_mul]; omega
      rw [e]
      simp only [List.getD] at ih ⊢
      rw [List.getElem?_append_right (by rw [hc]; omega), hc]
      rw [show size + (i * size + j) - size = i * size + j by omega]
      simpa using ih
theorem rows_length {α : Type} (cells : α → List Value) {size : Nat} (hc : ∀ x, (cells x).length = size) (l : List α) : (l.flatMap cells).length = l.length * size := by
  induction l with
  | nil => simp
  | cons x l ih => rw [List.flatMap_cons, List.length_append, ih, hc, List.length_cons, Nat.succ_mul]; omega
end Go.Proofs.Ytohjhbhbpflokaa
