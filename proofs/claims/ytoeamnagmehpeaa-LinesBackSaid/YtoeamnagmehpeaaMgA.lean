/- Small words for walks: results, cells behind a callee that keeps what was there. -/
import Derived.WalkKit
import Derived.Lib.Hide
import Derived.Deep.Draws
import Derived.Laws.AppendOwn
import Derived.Laws.OwnMore
import Derived.Orders
import Derived.Still
import Derived.Deep.QuietTactic
import Derived.Deep.AppendLies
import Derived.ArgAppend
import Derived.Deep.Slices
import Derived.ChangeSame
import Derived.ChangeArms
import Derived.BigQuiet
namespace Go.Proofs.Ytoeamnagmehpeaa
set_option linter.unusedSimpArgs false
set_option linter.unusedVariables false
open Go.RowKit

theorem ret_int {k : IntKind} {a b : Int} (h : a = b) : Ending.returned (.int k a) = .returned (.int k b) := by rw [h]
theorem ret_bool {a b : Bool} (h : a = b) : Ending.returned (.bool a) = .returned (.bool b) := by rw [h]

theorem bcell {W w1 : World} (hb : Below W.heap.size W w1) : (∀ b o, b < W.heap.size → w1.cell? ⟨b, o, none⟩ = W.cell? ⟨b, o, none⟩) ∧ (∀ b o, b < W.heap.size → w1.frozen? ⟨b, o, none⟩ = W.frozen? ⟨b, o, none⟩) :=
  ⟨fun b o h => hb.cell (p := ⟨b, o, none⟩) h, fun b o h => hb.frozen (p := ⟨b, o, none⟩) h⟩

/-- the same, and that old blocks are there still. -/
theorem bcell3 {W w1 : World} (hb : Below W.heap.size W w1) : (∀ b o, b < W.heap.size → w1.cell? ⟨b, o, none⟩ = W.cell? ⟨b, o, none⟩) ∧ (∀ b o, b < W.heap.size → w1.frozen? ⟨b, o, none⟩ = W.frozen? ⟨b, o, none⟩) ∧ (∀ b, b < W.heap.size → b < w1.heap.size) :=
  ⟨fun b o h => hb.cell (p := ⟨b, o, none⟩) h, fun b o h => hb.frozen (p := ⟨b, o, none⟩) h, fun _ h => Nat.lt_of_lt_of_le h hb.size⟩

/-! rules for a walk's text: 'attribute [local go_sem] lt_add1 size_ne size_ne' size_ne1 size_ne1'' -/
theorem lt_add1 {b n : Nat} (h : b < n) : b < n + 1 := by omega
theorem lt_self1 (n : Nat) : n < n + 1 := by omega
theorem size_ne {w : World} {b : Nat} (h : b < w.heap.size) : (b = w.heap.size) = False := by simp; omega
theorem size_ne' {w : World} {b : Nat} (h : b < w.heap.size) : (w.heap.size = b) = False := by simp; omega
theorem size_ne1 {w : World} {b : Nat} (h : b < w.heap.size) : (b = w.heap.size + 1) = False := by simp; omega
theorem size_ne1' {w : World} {b : Nat} (h : b < w.heap.size) : (w.heap.size + 1 = b) = False := by simp; omega

/-- what stood below block n is as it was: for go_region_held3's S, 'fun w' => (∀ b o, b < n → w'.cell? ⟨b, o, none⟩ = W.cell? ⟨b, o, none⟩) ∧ n ≤ w'.heap.size'. -/
theorem old_of_below {n : Nat} {W w' : World} (h : Below n W w') (hn : n ≤ W.heap.size := by first | exact Nat.le_refl _ | (simp; done) | (simp; omega)) : (∀ b o, b < n → w'.cell? ⟨b, o, none⟩ = W.cell? ⟨b, o, none⟩) ∧ n ≤ w'.heap.size :=
  ⟨fun b o hb => h.cell (p := ⟨b, o, none⟩) hb, Nat.le_trans hn h.size⟩

/-- what is known of the world that a walk stands in, and no more. -/
theorem world_as {Q : World → Prop} {w : World} (I : World → Prop) (hI : I w) (h : ∀ W, I W → Q W) : Q w := h w hI

theorem Below.drewN {B : Nat} {a w : World} (h : Below B a w) (n : Nat) : Below B a (w.drewN n) := ⟨h.os, h.tape, h.output, h.size, h.block⟩

end Go.Proofs.Ytoeamnagmehpeaa


/- Slices of elements of several cells: what is read of one that came in, or of one that the call made itself. -/
namespace Go.Proofs.Ytoeamnagmehpeaa
set_option linter.unusedSimpArgs false
set_option linter.unusedVariables false
open Go Go.RowKit

/-- n elements of so many cells each: cell j of element i holds f i j. -/
def SlAt (w : World) (B size n : Nat) (A : Option Addr) (f : Nat → Nat → Value) : Prop :=
  0 < n → ∃ b off, A = some ⟨b, off, none⟩ ∧ b < B ∧ ∀ i j, i < n → j < size → w.cell? ⟨b, off + (i * size + j), none⟩ = some (f i j)

section
variable {w w' : World} {B B' size n m : Nat} {A : Option Addr} {f g : Nat → Nat → Value}
theorem SlAt.none_ : SlAt w B size 0 A f := fun h => absurd h (by omega)
theorem SlAt.keep (h : SlAt w B size n A f) (hk : ∀ b o, b < B → w'.cell? ⟨b, o, none⟩ = w.cell? ⟨b, o, none⟩) : SlAt w' B size n A f := fun hn => by
  obtain ⟨b, off, e, hb, hc⟩ := h hn
  exact ⟨b, off, e, hb, fun i j hi hj => (hk b _ hb).trans (hc i j hi hj)⟩
theorem SlAt.below (h : SlAt w B size n A f) (hb : Below B w w') : SlAt w' B size n A f := h.keep fun b o hl => hb.cell (p := ⟨b, o, none⟩) hl
theorem SlAt.less (h : SlAt w B size n A f) (hm : m ≤ n) : SlAt w B size m A f := fun h0 => by
  obtain ⟨b, off, e, hb, hc⟩ := h (by omega)
  exact ⟨b, off, e, hb, fun i j hi hj => hc i j (by omega) hj⟩
theorem SlAt.more (h : SlAt w B size n A f) (hB : B ≤ B') : SlAt w B' size n A f := fun h0 => by
  obtain ⟨b, off, e, hb, hc⟩ := h h0
  exact ⟨b, off, e, by omega, hc⟩
theorem SlAt.congr (h : SlAt w B size n A f) (hf : ∀ i j, i < n → j < size → f i j = g i j) : SlAt w B size n A g := fun h0 => by
  obtain ⟨b, off, e, hb, hc⟩ := h h0
  exact ⟨b, off, e, hb, fun i j hi hj => by rw [hc i j hi hj, hf i j hi hj]⟩
/-- Of a slice that the call made. -/
theorem SlAt.of_own {base : Nat} {e : TypeId} {v : Value} {xs : List Value} (h : w.ownsRow base e size v n xs) : ∃ A c, v = .slice A n c ∧ n ≤ c ∧ SlAt w w.heap.size size n A (fun i j => xs.getD (i * size + j) undef) := by
  obtain ⟨hl, h2⟩ := h
  rcases h2 with ⟨rfl, rfl⟩ | ⟨b, cap, cur, rfl, hb, hh, hnc, _, hcs, ht⟩
  · exact ⟨none, 0, rfl, Nat.le_refl _, .none_⟩
  · refine ⟨_, cap, rfl, hnc, fun hn => ⟨b, 0, rfl, (Array.getElem?_eq_some_iff.1 hh).1, fun i j hi hj => ?_⟩⟩
    have hlt : i * size + j < n * size := Nat.lt_of_lt_of_le (by omega) (show i * size + size ≤ n * size by rw [← Nat.succ_mul]; exact Nat.mul_le_mul_right _ hi)
    rw [Nat.zero_add, cell_of_row w b _ cur e (0, 0) hh]
    have h1 : i * size + j < xs.length := by omega
    have e2 : xs[i * size + j]? = cur[i * size + j]? := by rw [← ht, List.getElem?_take_of_lt hlt]; simp
    rw [← e2]
    simp [List.getD, h1]
end

/-- rows written out, one behind the other. -/
def flat (f : Nat → List Value) (k : Nat) : List Value := (List.range k).flatMap f
theorem flat_zero (f : Nat → List Value) : flat f 0 = [] := rfl
theorem flat_succ (f : Nat → List Value) (k : Nat) : flat f (k + 1) = flat f k ++ f k := by
  unfold flat
  rw [List.range_succ, List.flatMap_append]
  simp
theorem flat_length {f : Nat → List Value} {size : Nat} (k : Nat) (h : ∀ i, i < k → (f i).length = size) : (flat f k).length = k * size := by
  induction k with
  | zero => simp [flat]
  | succ k ih => rw [flat_succ, List.length_append, ih (fun i hi => h i (by omega)), h k (by omega), Nat.succ_mul]
theorem flat_getD {f : Nat → List Value} {size : Nat} : ∀ (k i j : Nat), (∀ i, i < k → (f i).length = size) → i < k → j < size → (flat f k).getD (i * size + j) undef = (f i).getD j undef
  | 0, i, j, _, hi, _ => by omega
  | k + 1, i, j, h, hi, hj => by
    have hl := flat_length k (fun i hi => h i (by omega))
    have hle : ∀ a, a ≤ k → a * size ≤ k * size := fun a ha => Nat.mul_le_mul_right _ ha
    rw [flat_succ]
    by_cases e : i = k
    · subst e
      simp only [List.getD]
      rw [List.getElem?_append_right (by omega), hl]
      congr 1
      congr 1
      omega
    · have h1 : i * size + j < k * size := Nat.lt_of_lt_of_le (by omega) (show i * size + size ≤ k * size by rw [← Nat.succ_mul]; exact hle _ (by omega))
      have ih := flat_getD k i j (fun i hi => h i (by omega)) (by omega) hj
      simp only [List.getD] at ih ⊢
      rw [List.getElem?_append_left (by omega)]
      exact ih
theorem grown_of_below {a w : World} (h : Below a.heap.size a w) (row : Option Nat) : a.grownBy w row := ⟨h.os, h.tape, h.output, h.size, fun i hi _ => h.block i hi⟩
theorem own_below {w w' : World} {base : Nat} {e : TypeId} {size : Nat} {v : Value} {n : Nat} {xs : List Value} (h : w.ownsRow base e size v n xs) (hb : Below w.heap.size w w') : w'.ownsRow base e size v n xs :=
  h.kept (grown_of_below hb none) (by cases hv : v.ownBlock <;> simp)
theorem own_base {w : World} {base base' : Nat} {e : TypeId} {size : Nat} {v : Value} {n : Nat} {xs : List Value} (h : w.ownsRow base e size v n xs) (hb : base' ≤ base) : w.ownsRow base' e size v n xs := by
  refine ⟨h.1, ?_⟩
  rcases h.2 with h2 | ⟨g, cap, cur, e1, e2, rest⟩
  · exact .inl h2
  · exact .inr ⟨g, cap, cur, e1, Nat.le_trans hb e2, rest⟩
theorem own_setCell {w : World} {base : Nat} {e : TypeId} {size : Nat} {v : Value} {n : Nat} {xs : List Value} (h : w.ownsRow base e size v n xs) {p : Addr} (hp : v.ownBlock ≠ some p.block) (u : Value) : (w.setCell p u).ownsRow base e size v n xs := by
  refine ⟨h.1, ?_⟩
  rcases h.2 with h2 | ⟨g, cap, cur, e1, e2, e3, rest⟩
  · exact .inl h2
  · exact .inr ⟨g, cap, cur, e1, e2, by rw [Below.heap_setCell _ _ _ _ (fun e => hp (by rw [e1, Value.ownBlock, e]))]; exact e3, rest⟩
/-- behind an append: what lies below the rows' base is as it was. -/
theorem grow_cell {w w' : World} {base : Nat} {e : TypeId} {size : Nat} {v : Value} {n : Nat} {xs : List Value} (hg : w.grownBy w' v.ownBlock) (h : w.ownsRow base e size v n xs) {b : Nat} (hb : b < base) (hl : b < w.heap.size) :
    ∀ o, w'.cell? ⟨b, o, none⟩ = w.cell? ⟨b, o, none⟩ := fun o =>
  World.cell?_of_block (a := ⟨b, o, none⟩) (hg.block b hl (fun e => by have := (h.lt b e.symm).1; omega))
theorem grow_below {B : Nat} {a w w' : World} {base : Nat} {e : TypeId} {size : Nat} {v : Value} {n : Nat} {xs : List Value} (hb : Below B a w) (hg : w.grownBy w' v.ownBlock) (h : w.ownsRow base e size v n xs) (hB : B ≤ base) (hl : B ≤ w.heap.size) : Below B a w' :=
  hb.grown hg hl fun k hk => by have := (h.lt k hk).1; omega
end Go.Proofs.Ytoeamnagmehpeaa


/- What a callee may change: the blocks of a footprint, which it may take anew, and nothing else. -/
namespace Go.Proofs.Ytoeamnagmehpeaa
set_option linter.unusedSimpArgs false
set_option linter.unusedVariables false
open Go Go.RowKit

structure Fr (w : World) (F : Nat → Prop) (w' : World) (F' : Nat → Prop) : Prop where
  os : w'.os = w.os
  tape : w'.tape = w.tape
  output : w'.output = w.output
  size : w.heap.size ≤ w'.heap.size
  keep : ∀ b, b < w.heap.size → ¬ F b → w'.heap[b]? = w.heap[b]?
  new : ∀ b, F' b → F b ∨ w.heap.size ≤ b

section
variable {w w' w'' : World} {F F' F'' G : Nat → Prop}
theorem Fr.refl (w : World) (F : Nat → Prop) : Fr w F w F := ⟨rfl, rfl, rfl, Nat.le_refl _, fun _ _ _ => rfl, fun _ h => .inl h⟩
theorem Fr.trans (h : Fr w F w' F') (k : Fr w' F' w'' F'') : Fr w F w'' F'' :=
  ⟨k.os.trans h.os, k.tape.trans h.tape, k.output.trans h.output, Nat.le_trans h.size k.size,
    fun b hb hn => (k.keep b (Nat.lt_of_lt_of_le hb h.size) (fun hf => (h.new b hf).elim hn (fun hge => by omega))).trans (h.keep b hb hn),
    fun b hb => (k.new b hb).elim (h.new b) (fun hge => .inr (Nat.le_trans h.size hge))⟩
theorem Fr.of_below (hb : Below w.heap.size w w') : Fr w F w' F := ⟨hb.os, hb.tape, hb.output, hb.size, fun b hl _ => hb.block b hl, fun _ h => .inl h⟩
theorem Fr.weaken (h : Fr w F w' F') (hs : ∀ b, F b → G b) (hs' : ∀ b, F'' b → F' b ∨ G b) : Fr w G w' F'' :=
  ⟨h.os, h.tape, h.output, h.size, fun b hb hn => h.keep b hb fun hf => hn (hs b hf), fun b hb => (hs' b hb).elim (fun hf => (h.new b hf).imp (hs b) id) .inl⟩
theorem Fr.cell (h : Fr w F w' F') {b : Nat} (hb : b < w.heap.size) (hn : ¬ F b) (o : Nat) : w'.cell? ⟨b, o, none⟩ = w.cell? ⟨b, o, none⟩ := World.cell?_of_block (a := ⟨b, o, none⟩) (h.keep b hb hn)
theorem Fr.frozen (h : Fr w F w' F') {b : Nat} (hb : b < w.heap.size) (hn : ¬ F b) (o : Nat) : w'.frozen? ⟨b, o, none⟩ = w.frozen? ⟨b, o, none⟩ := World.frozen?_of_block (a := ⟨b, o, none⟩) (h.keep b hb hn)
theorem Fr.out (h : Fr w F w' F') {b : Nat} (hb : b < w.heap.size) (hn : ¬ F b) : ¬ F' b := fun hf => (h.new b hf).elim hn (fun hge => by omega)
theorem Fr.lt (h : Fr w F w' F') {b : Nat} (hb : b < w.heap.size) : b < w'.heap.size := Nat.lt_of_lt_of_le hb h.size
theorem Fr.below {B : Nat} {a : World} (h : Fr w F w' F') (hb : Below B a w) (hF : ∀ b, F b → B ≤ b) (hB : B ≤ w.heap.size) : Below B a w' :=
  hb.trans ⟨h.os, h.tape, h.output, h.size, fun b hl => h.keep b (by omega) (fun hf => by have := hF b hf; omega)⟩
theorem Fr.ge {B : Nat} (h : Fr w F w' F') (hF : ∀ b, F b → B ≤ b) (hB : B ≤ w.heap.size) : ∀ b, F' b → B ≤ b := fun b hb => (h.new b hb).elim (hF b) (fun hge => Nat.le_trans hB hge)
theorem Fr.sl {B size n : Nat} {A : Option Addr} {f : Nat → Nat → Value} (h : Fr w F w' F') (hs : SlAt w B size n A f) (hB : B ≤ w.heap.size) (hA : ∀ b off, A = some ⟨b, off, none⟩ → ¬ F b) : SlAt w' B size n A f := fun hn => by
  obtain ⟨b, off, e, hb, hc⟩ := hs hn
  exact ⟨b, off, e, hb, fun i j hi hj => (h.cell (by omega) (hA b off e) _).trans (hc i j hi hj)⟩
theorem Fr.own {base : Nat} {e : TypeId} {size : Nat} {v : Value} {n : Nat} {xs : List Value} (h : Fr w F w' F') (ho : w.ownsRow base e size v n xs) (hn : ∀ b, v.ownBlock = some b → ¬ F b) : w'.ownsRow base e size v n xs := by
  refine ⟨ho.1, ?_⟩
  rcases ho.2 with h2 | ⟨g, cap, cur, rfl, e2, e3, rest⟩
  · exact .inl h2
  · exact .inr ⟨g, cap, cur, rfl, e2, (h.keep g (Array.getElem?_eq_some_iff.1 e3).1 (hn g rfl)).trans e3, rest⟩
theorem Fr.block (h : Fr w F w' F') {b : Nat} {o : Obj} (ho : w.heap[b]? = some o) (hn : ¬ F b) : w'.heap[b]? = some o := (h.keep b (Array.getElem?_eq_some_iff.1 ho).1 hn).trans ho
end

/-- rows of equal length, one behind the other. -/
theorem rows_getD {α : Type} (cells : α → List Value) (z : α) {size : Nat} (hc : ∀ x, (cells x).length = size) : ∀ (l : List α) (i j : Nat), i < l.length → j < size → (l.flatMap cells).getD (i * size + j) undef = (cells (l.getD i z)).getD j undef
  | [], i, j, hi, _ => by simp at hi
  | x :: l, i, j, hi, hj => by
    rw [List.flatMap_cons]
    cases i with
    | zero =>
      simp only [List.getD, Nat.zero_mul, Nat.zero_add]
      rw [List.getElem?_append_left (by rw [hc]; exact hj)]
      simp
    | succ i =>
      have ih := rows_getD cells z hc l i j (by simpa using hi) hj
      have e : (i + 1) * size + j = size + (i * size + j) := by rw [Nat.succ_mul]; omega
      rw [e]
      simp only [List.getD] at ih ⊢
      rw [List.getElem?_append_right (by rw [hc]; omega), hc]
      rw [show size + (i * size + j) - size = i * size + j by omega]
      simpa using ih
theorem rows_length {α : Type} (cells : α → List Value) {size : Nat} (hc : ∀ x, (cells x).length = size) (l : List α) : (l.flatMap cells).length = l.length * size := by
  induction l with
  | nil => simp
  | cons x l ih => rw [List.flatMap_cons, List.length_append, ih, hc, List.length_cons, Nat.succ_mul]; omega
end Go.Proofs.Ytoeamnagmehpeaa


/- A region that draws its order, whose operations read, call functions that leave what was there as it was, and make variables; stores at its end: one walk in the order of the text serves every order. -/
namespace Go.Proofs.Ytoeamnagmehpeaa
set_option linter.unusedSimpArgs false
set_option linter.unusedVariables false
open Go Go.RowKit

section
variable {P : Program} {ops : Array Oper} {md : Region.Mode} {W : World}

/-- The worlds that the region may come to: what stood in W is as it was; the new variables stand there, each with its first value. -/
structure InD (W : World) (bs : List (Nat × Obj)) (w : World) : Prop where
  below : Below W.heap.size W w
  at_ : ∀ x ∈ bs, W.heap.size ≤ x.1 ∧ w.heap[x.1]? = some x.2

theorem InD.lt {bs : List (Nat × Obj)} {w : World} (h : InD W bs w) {x : Nat × Obj} (hx : x ∈ bs) : x.1 < w.heap.size := (Array.getElem?_eq_some_iff.1 (h.at_ x hx).2).1
theorem InD.grow {bs : List (Nat × Obj)} {w w' : World} (h : InD W bs w) (hb : Below w.heap.size w w') : InD W bs w' :=
  ⟨h.below.trans (hb.mono h.below.size), fun x hx => ⟨(h.at_ x hx).1, (hb.block x.1 (h.lt hx)).trans (h.at_ x hx).2⟩⟩
theorem InD.add {bs : List (Nat × Obj)} {w : World} (h : InD W bs w) (O : Obj) : InD W ((w.heap.size, O) :: bs) (w.alloc O) := by
  refine ⟨h.below.alloc h.below.size O, fun x hx => ?_⟩
  rcases List.mem_cons.1 hx with rfl | hx
  · exact ⟨h.below.size, by show (w.heap.push O)[w.heap.size]? = _; simp⟩
  · exact ⟨(h.at_ x hx).1, (Below.heap_alloc w O x.1 (h.lt hx)).trans (h.at_ x hx).2⟩
theorem InD.fewer {bs bs' : List (Nat × Obj)} {w : World} (h : InD W bs w) (hs : ∀ x ∈ bs', x ∈ bs) : InD W bs' w := ⟨h.below, fun x hx => h.at_ x (hs x hx)⟩

/-- Does an operation make a variable? Does it store? -/
def isMaker (o : Oper) : Bool := match o.op with | .alloc _ => true | _ => false
def isStore (o : Oper) : Bool := match o.op with | .store .. => true | _ => false
/-- What it makes. -/
def makes (P : Program) (o : Oper) : Option Obj := match o.op with | .alloc T => (P.info? T).bind fun i => i.zero.map fun z => .cells z.cells T | _ => none

theorem run_maker {o : Oper} {O : Obj} (h : makes P o = some O) (ρ : Operand → Value) (w : World) : (execOp ρ o).run P w = .ok (.value (.pointer (some ⟨w.heap.size, 0, none⟩))) (w.alloc O) := by
  obtain ⟨dst, op, type, pos, after, guard⟩ := o
  cases op <;> simp only [makes] at h <;> try cases h
  case alloc T =>
    cases hi : P.info? T with
    | none => rw [hi] at h; cases h
    | some i =>
      rw [hi] at h
      cases hz : i.zero with
      | none => simp [hz] at h
      | some z =>
        simp [hz] at h
        subst h
        simp [execOp, Instr.alloc, zeroValue, typeInfo, hi, hz, newVar, go_sem]

/-- What is asked of an operation that yields the value v in the world w. -/
def growUpon (P : Program) (w : World) (v : Value) : Result Next → Prop
  | .ok (.value u) w' => u = v ∧ Below w.heap.size w w'
  | .ok .skip w' => v = undef ∧ Below w.heap.size w w'
  | .ok (.enter f args) w' => w' = w ∧ Calls P f args w (fun e w'' => e = .returned v ∧ Below w.heap.size w w'')
  | _ => False

/-- ONE VALUE IN EVERY WORLD OF THE CLASS; or a new variable, wherever it comes to lie. -/
def growOp (P : Program) (W : World) (o : Oper) (a : Act) (bs : List (Nat × Obj)) (K : Act → List (Nat × Obj) → Prop) : Prop :=
  if isMaker o then ∃ O, makes P o = some O ∧ ∀ b, W.heap.size ≤ b → (∀ x ∈ bs, x.1 ≠ b) → K (a.put o.dst (.pointer (some ⟨b, 0, none⟩))) ((b, O) :: bs)
  else ∃ v, (∀ w, InD W bs w → growUpon P w v ((execOp a.eval o).run P w)) ∧ K (a.put o.dst v) bs

def gOp (P : Program) (ops : Array Oper) (W : World) (j : Nat) (K : Act → List (Nat × Obj) → Prop) (a : Act) (bs : List (Nat × Obj)) : Prop :=
  match ops[j]? with
  | none => K a bs
  | some o => if Region.wanted o (yielded ops a.tmps) then growOp P W o a bs K else K (a.put o.dst undef) bs

theorem growOp_mono {o : Oper} {a : Act} {bs : List (Nat × Obj)} {K K' : Act → List (Nat × Obj) → Prop} (h : ∀ a bs, K a bs → K' a bs) (hh : growOp P W o a bs K) : growOp P W o a bs K' := by
  unfold growOp at *
  split
  · rename_i hm; simp only [hm, if_true] at hh; obtain ⟨O, h1, h2⟩ := hh; exact ⟨O, h1, fun b hb hf => h _ _ (h2 b hb hf)⟩
  · rename_i hm; simp only [hm] at hh; obtain ⟨v, h1, h2⟩ := hh; exact ⟨v, h1, h _ _ h2⟩

theorem gOp_mono {j : Nat} {a : Act} {bs : List (Nat × Obj)} {K K' : Act → List (Nat × Obj) → Prop} (h : ∀ a bs, K a bs → K' a bs) (hh : gOp P ops W j K a bs) : gOp P ops W j K' a bs := by
  unfold gOp at *
  split
  · rename_i ho; simp only [ho] at hh; exact h _ _ hh
  · rename_i o ho
    simp only [ho] at hh
    split
    · rename_i hw; simp only [hw, if_true] at hh; exact growOp_mono h hh
    · rename_i hw; simp only [hw] at hh; exact h _ _ hh

/-- The walk in the order of the text. -/
def wpGrow (P : Program) (ops : Array Oper) (W : World) (Q : Act → List (Nat × Obj) → Prop) : List Oper → Act → List (Nat × Obj) → Prop
  | [], a, bs => Q a bs
  | o :: rest, a, bs => if Region.wanted o (yielded ops a.tmps) then growOp P W o a bs (wpGrow P ops W Q rest) else wpGrow P ops W Q rest (a.put o.dst undef) bs

/-- Whatever order is picked, up to the stores. -/
def anyG (P : Program) (md : Region.Mode) (ops : Array Oper) (W : World) (Q : Array Bool → Act → List (Nat × Obj) → Prop) : Nat → Array Bool → Act → List (Nat × Obj) → Prop
  | 0, listed, a, bs => (∀ j ∈ Region.ready md ops listed, ((ops[j]?).map isStore).getD false = true) ∧ Q listed a bs
  | fuel + 1, listed, a, bs => Region.ready md ops listed ≠ [] ∧ ∀ j ∈ Region.ready md ops listed, gOp P ops W j (anyG P md ops W Q fuel (listed.setIfInBounds j true)) a bs

theorem wpOp_of_gOp {j : Nat} {a : Act} {bs : List (Nat × Obj)} {w : World} {K : Act → List (Nat × Obj) → Prop} {K' : Act → World → Prop} {Q' : Exit → Act → World → Prop} (hD : InD W bs w)
    (h : ∀ a' bs' w', InD W bs' w' → K a' bs' → K' a' w') (hh : gOp P ops W j K a bs) : wpOp P ops Q' j K' a w := by
  unfold gOp at hh
  unfold wpOp
  split
  · rename_i ho; simp only [ho] at hh; exact h _ _ _ hD hh
  · rename_i o ho
    simp only [ho] at hh
    split
    · rename_i hw
      simp only [hw, if_true] at hh
      refine .inl ?_
      unfold growOp at hh
      split at hh
      · obtain ⟨O, h1, h2⟩ := hh
        unfold Oper.wp
        rw [run_maker h1]
        exact h _ _ _ (hD.add O) (h2 _ hD.below.size fun x hx => Nat.ne_of_lt (hD.lt hx))
      · obtain ⟨v, h1, h2⟩ := hh
        have h3 := h1 w hD
        unfold Oper.wp
        generalize (execOp a.eval o).run P w = r at *
        cases r with
        | ok n w' =>
          cases n <;> simp only [growUpon] at h3 <;> simp only [Oper.upon]
          case value u => obtain ⟨rfl, hb⟩ := h3; exact h _ _ _ (hD.grow hb) h2
          case skip => obtain ⟨e, hb⟩ := h3; rw [← e]; exact h _ _ _ (hD.grow hb) h2
          case enter f args =>
            obtain ⟨rfl, hc⟩ := h3
            exact hc.mono fun e w'' ⟨he, hb⟩ => by subst he; exact h _ _ _ (hD.grow hb) h2
        | halt x w' => simp only [growUpon] at h3
    · rename_i hw; simp only [hw] at hh; exact h _ _ _ hD hh

theorem wpAny_of_anyG {Q : Array Bool → Act → List (Nat × Obj) → Prop} {Q' : Exit → Act → World → Prop} {nB : Nat} (hQ : ∀ listed a bs w, InD W bs w → Q listed a bs → wpAny P md ops Q' nB listed a w) :
    ∀ (fuel : Nat) (listed : Array Bool) (a : Act) (bs : List (Nat × Obj)) (w : World), InD W bs w → anyG P md ops W Q fuel listed a bs → wpAny P md ops Q' (fuel + nB) listed a w
  | 0, listed, a, bs, w, hD, h => by rw [Nat.zero_add]; exact hQ _ _ _ _ hD h.2
  | fuel + 1, listed, a, bs, w, hD, h => by
    rw [show fuel + 1 + nB = (fuel + nB) + 1 from by omega]
    exact ⟨fun h0 => absurd h0 h.1, fun i hi => wpOp_of_gOp hD (fun a' bs' w' hD' => wpAny_of_anyG hQ fuel _ a' bs' w' hD') (h.2 i hi)⟩

/-- Which operations come behind number i in every order. -/
def waitsOn (md : Region.Mode) (ops : Array Oper) (i : Nat) : Nat → List Nat
  | 0 => []
  | n + 1 => let l := waitsOn md ops i n; match ops[n]? with
    | some o => if o.after.any (fun e => Region.binds md e && (e.on == i || (l.contains e.on && decide (e.on < n)))) then n :: l else l
    | none => l

/-- What is listed has all listed that it waits for. -/
def Closed (md : Region.Mode) (ops : Array Oper) (listed : Array Bool) : Prop :=
  ∀ (j : Nat) (o : Oper), ops[j]? = some o → listed.getD j false = true → ∀ e ∈ o.after, Region.binds md e = true → listed.getD e.on false = true

theorem Closed.set {listed : Array Bool} (h : Closed md ops listed) {i : Nat} (hi : i ∈ Region.ready md ops listed) : Closed md ops (listed.setIfInBounds i true) := by
  intro j o ho hj e he hb
  obtain ⟨_, oi, hoi, hall⟩ := mem_ready.1 hi
  by_cases hji : j = i
  · subst hji
    rw [hoi] at ho
    cases ho
    exact getD_set_true (hall e he hb)
  · rw [getD_set_ne false (Ne.symm hji)] at hj
    exact getD_set_true (h j o ho hj e he hb)

theorem getD_ne_of_true {listed : Array Bool} {i : Nat} (h : listed.getD i true = false) : listed.getD i false = false := by
  rcases Nat.lt_or_ge i listed.size with h' | h'
  · simp [h'] at h ⊢; exact h
  · simp [Array.getElem?_eq_none h'] at h

theorem waitsOn_spec {i : Nat} {listed : Array Bool} (hc : Closed md ops listed) (hi : listed.getD i false = false) : ∀ (n : Nat) (j : Nat), j ∈ waitsOn md ops i n → listed.getD j false = false ∧ j ∉ Region.ready md ops listed
  | 0, j, h => by simp [waitsOn] at h
  | n + 1, j, h => by
    have ih := waitsOn_spec hc hi n
    unfold waitsOn at h
    cases ho : ops[n]? with
    | none => simp only [ho] at h; exact ih j h
    | some o =>
      simp only [ho] at h
      split at h
      · rename_i hany
        rcases List.mem_cons.1 h with rfl | h
        · obtain ⟨e, he, hb⟩ := Array.any_eq_true'.1 hany
          simp only [Bool.and_eq_true, Bool.or_eq_true, beq_iff_eq, List.contains_iff_mem] at hb
          have hun : listed.getD e.on false = false := by
            rcases hb.2 with h1 | h1
            · rw [h1]; exact hi
            · exact (ih e.on h1.1).1
          constructor
          · cases hl : listed.getD j false with
            | false => rfl
            | true => rw [hc j o ho hl e he hb.1] at hun; cases hun
          · intro hr
            obtain ⟨_, o', ho', hall⟩ := mem_ready.1 hr
            rw [ho] at ho'
            cases ho'
            rw [hall e he hb.1] at hun
            cases hun
        · exact ih j h
      · exact ih j h

/-- In state a an operation yields v in every world of the class. -/
def YieldsG (P : Program) (ops : Array Oper) (W : World) (o : Oper) (v : Value) (a : Act) (bs : List (Nat × Obj)) : Prop :=
  (Region.wanted o (yielded ops a.tmps) = true ∧ isMaker o = false ∧ ∀ w, InD W bs w → growUpon P w v ((execOp a.eval o).run P w)) ∨
  (Region.wanted o (yielded ops a.tmps) = false ∧ v = undef)

theorem YieldsG.gOp {i : Nat} {o : Oper} {v : Value} {a : Act} {bs : List (Nat × Obj)} (hi : ops[i]? = some o) (hy : YieldsG P ops W o v a bs) {K : Act → List (Nat × Obj) → Prop} (h : K (a.put o.dst v) bs) : gOp P ops W i K a bs := by
  unfold Proofs.Ytoeamnagmehpeaa.gOp
  simp only [hi]
  rcases hy with ⟨hw, hm, hv⟩ | ⟨hw, rfl⟩
  · simp only [hw, if_true, growOp, hm, Bool.false_eq_true, if_false]; exact ⟨v, hv, h⟩
  · simp only [hw, Bool.false_eq_true, if_false]; exact h

theorem YieldsG.of_same {o : Oper} {v : Value} {a a' : Act} {bs bs' : List (Nat × Obj)} (hy : YieldsG P ops W o v a bs) (he : execOp a'.eval o = execOp a.eval o)
    (hw : Region.wanted o (yielded ops a'.tmps) = Region.wanted o (yielded ops a.tmps)) (hs : ∀ x ∈ bs, x ∈ bs') : YieldsG P ops W o v a' bs' := by
  unfold YieldsG at *
  rw [he, hw]
  exact hy.imp (fun ⟨h1, h2, h3⟩ => ⟨h1, h2, fun w hD => h3 w (hD.fewer hs)⟩) id

theorem gOp_put {j : Nat} {oi oj : Oper} {v : Value} (hj : ops[j]? = some oj) (hap : oi.apart ops oj = true)
    (hsi : ∀ cs b, oi.op ≠ .select cs b) (hsj : ∀ cs b, oj.op ≠ .select cs b) {K : Act → List (Nat × Obj) → Prop} {a : Act} {bs : List (Nat × Obj)}
    (hy : YieldsG P ops W oi v a bs) (h : gOp P ops W j K (a.put oi.dst v) bs) :
    gOp P ops W j (fun a' bs' => YieldsG P ops W oi v a' bs' ∧ K (a'.put oi.dst v) bs') a bs := by
  obtain ⟨h1, h2, h3⟩ := Oper.apart_spec hap
  have keep : ∀ (u : Value) (bs' : List (Nat × Obj)), (∀ x ∈ bs, x ∈ bs') → YieldsG P ops W oi v (a.put oj.dst u) bs' := fun u bs' hs =>
    hy.of_same (execOp_put oi hsi a oj.dst u h3) (wanted_put oi a oj.dst u h3) hs
  unfold gOp at *
  simp only [hj] at *
  rw [wanted_put oj a oi.dst v h1] at h
  split
  · rename_i hw
    simp only [hw, if_true] at h
    unfold growOp at *
    split
    · rename_i hm
      simp only [hm, if_true] at h
      obtain ⟨O, hO, hn⟩ := h
      refine ⟨O, hO, fun b hb hf => ⟨keep _ _ fun x hx => List.mem_cons_of_mem _ hx, ?_⟩⟩
      rw [← Act.put_comm a v _ h2]
      exact hn b hb hf
    · rename_i hm
      simp only [hm] at h
      obtain ⟨u, hu, hn⟩ := h
      refine ⟨u, fun w hD => ?_, keep u bs fun _ hx => hx, by rw [← Act.put_comm a v u h2]; exact hn⟩
      have := hu w hD
      rwa [execOp_put oj hsj a oi.dst v h1] at this
  · rename_i hw
    simp only [hw] at h
    exact ⟨keep undef bs fun _ hx => hx, by rw [← Act.put_comm a v undef h2]; exact h⟩

/-- An operation that yields one value may be taken first. -/
theorem anyG_first {Q : Array Bool → Act → List (Nat × Obj) → Prop} {i : Nat} {oi : Oper} {v : Value} (hi : ops[i]? = some oi) (hsel : ∀ (j : Nat) (o : Oper) cs b, ops[j]? = some o → o.op ≠ .select cs b)
    (hst : ∀ j o, ops[j]? = some o → isStore o = true → j ≠ i → j ∈ waitsOn md ops i ops.size) :
    ∀ (fuel : Nat) (listed : Array Bool) (a : Act) (bs : List (Nat × Obj)), Closed md ops listed →
      (∀ j oj, ops[j]? = some oj → j ≠ i → listed.getD j true = false → (∀ e ∈ oj.after, Region.binds md e = true → e.on ≠ i) → oi.apart ops oj = true) →
      i ∈ Region.ready md ops listed → YieldsG P ops W oi v a bs →
      anyG P md ops W Q fuel (listed.setIfInBounds i true) (a.put oi.dst v) bs → anyG P md ops W Q (fuel + 1) listed a bs := by
  intro fuel
  induction fuel with
  | zero =>
    intro listed a bs hc _ hr hy H
    refine ⟨fun h => (by rw [h] at hr; cases hr), fun j hj => ?_⟩
    by_cases hji : j = i
    · subst hji; exact hy.gOp hi H
    · have hs := H.1 j (ready_mono hj hji)
      obtain ⟨_, oj, hoj, _⟩ := mem_ready.1 hj
      rw [hoj] at hs
      exact absurd hj (waitsOn_spec hc (getD_ne_of_true (mem_ready.1 hr).1) _ j (hst j oj hoj (by simpa using hs) hji)).2
  | succ fuel ih =>
    intro listed a bs hc hfree hr hy H
    refine ⟨fun h => (by rw [h] at hr; cases hr), fun j hj => ?_⟩
    by_cases hji : j = i
    · subst hji; exact hy.gOp hi H
    · have h1 := H.2 j (ready_mono hj hji)
      obtain ⟨hjun, oj, hoj, hall⟩ := mem_ready.1 hj
      have hnot : ∀ e ∈ oj.after, Region.binds md e = true → e.on ≠ i := fun e he hb heq => by
        have h1 := hall e he hb
        have h0 := (mem_ready.1 hr).1
        rw [heq] at h1
        rw [getD_ne_of_true h0] at h1
        cases h1
      have h2 := gOp_put hoj (hfree j oj hoj hji hjun hnot) (fun cs b => hsel i oi cs b hi) (fun cs b => hsel j oj cs b hoj) hy h1
      have hfree' : ∀ k ok, ops[k]? = some ok → k ≠ i → (listed.setIfInBounds j true).getD k true = false →
          (∀ e ∈ ok.after, Region.binds md e = true → e.on ≠ i) → oi.apart ops ok = true := fun k ok hk hki hun hno => by
        refine hfree k ok hk hki ?_ hno
        by_cases hjk : j = k
        · subst hjk; exact hjun
        · rw [getD_set_ne true hjk] at hun; exact hun
      refine gOp_mono (fun a' bs' h3 => ih (listed.setIfInBounds j true) a' bs' (hc.set hj) hfree' (ready_mono hr (Ne.symm hji)) h3.1 ?_) h2
      rw [Array.setIfInBounds_comm _ _ hji]
      exact h3.2

/-- The same members: the same. -/
theorem anyG_perm {Q : Array Bool → Act → List (Nat × Obj) → Prop} (hQ : ∀ listed a bs bs', (∀ x, x ∈ bs ↔ x ∈ bs') → Q listed a bs → Q listed a bs') :
    ∀ (fuel : Nat) (listed : Array Bool) (a : Act) (bs bs' : List (Nat × Obj)), (∀ x, x ∈ bs ↔ x ∈ bs') → anyG P md ops W Q fuel listed a bs → anyG P md ops W Q fuel listed a bs'
  | 0, _, _, _, _, hp, h => ⟨h.1, hQ _ _ _ _ hp h.2⟩
  | fuel + 1, listed, a, bs, bs', hp, h => by
    refine ⟨h.1, fun j hj => ?_⟩
    have h1 := h.2 j hj
    unfold gOp at *
    split
    · rename_i ho; simp only [ho] at h1; exact anyG_perm hQ fuel _ _ _ _ hp h1
    · rename_i o ho
      simp only [ho] at h1
      split
      · rename_i hw
        simp only [hw, if_true] at h1
        unfold growOp at *
        split
        · rename_i hm
          simp only [hm, if_true] at h1
          obtain ⟨O, hO, hn⟩ := h1
          exact ⟨O, hO, fun b hb hf => anyG_perm hQ fuel _ _ _ _ (fun x => by simp only [List.mem_cons, hp]) (hn b hb fun x hx => hf x ((hp x).1 hx))⟩
        · rename_i hm
          simp only [hm] at h1
          obtain ⟨v, hv, hn⟩ := h1
          exact ⟨v, fun w hD => hv w (hD.fewer fun x hx => (hp x).1 hx), anyG_perm hQ fuel _ _ _ _ hp hn⟩
      · rename_i hw; simp only [hw] at h1; exact anyG_perm hQ fuel _ _ _ _ hp h1

theorem exists_fresh (n : Nat) : ∀ bs : List (Nat × Obj), ∃ b, n ≤ b ∧ ∀ x ∈ bs, x.1 < b
  | [] => ⟨n, Nat.le_refl _, fun x hx => by cases hx⟩
  | y :: bs => by
    obtain ⟨b, hb, hf⟩ := exists_fresh n bs
    refine ⟨max b (y.1 + 1), by omega, fun x hx => ?_⟩
    rcases List.mem_cons.1 hx with rfl | hx
    · omega
    · have := hf x hx; omega

/-- A variable may be made first, where nothing but other variables can come ahead of it. -/
theorem anyG_make {Q : Array Bool → Act → List (Nat × Obj) → Prop} (hQ : ∀ listed a bs bs', (∀ x, x ∈ bs ↔ x ∈ bs') → Q listed a bs → Q listed a bs') {i : Nat} {oi : Oper} {O : Obj}
    (hi : ops[i]? = some oi) (hO : makes P oi = some O) (hm : isMaker oi = true) (hg : ∀ (j : Nat) o, ops[j]? = some o → isMaker o = true → o.guard = none) :
    ∀ (fuel : Nat) (listed : Array Bool) (a : Act) (bs : List (Nat × Obj)), Closed md ops listed →
      (∀ j oj, ops[j]? = some oj → j ≠ i → listed.getD j true = false → (∀ e ∈ oj.after, Region.binds md e = true → e.on ≠ i) → oi.apart ops oj = true) →
      (∀ j oj, ops[j]? = some oj → listed.getD j true = false → isMaker oj = false → j ∈ waitsOn md ops i ops.size) →
      i ∈ Region.ready md ops listed →
      (∀ b, W.heap.size ≤ b → (∀ x ∈ bs, x.1 ≠ b) → anyG P md ops W Q fuel (listed.setIfInBounds i true) (a.put oi.dst (.pointer (some ⟨b, 0, none⟩))) ((b, O) :: bs)) →
      anyG P md ops W Q (fuel + 1) listed a bs := by
  have wanted : ∀ (j : Nat) o, ops[j]? = some o → isMaker o = true → ∀ y, Region.wanted o y = true := fun j o ho h y => by simp [Region.wanted, hg j o ho h]
  intro fuel
  induction fuel with
  | zero =>
    intro listed a bs hc _ hoth hr H
    refine ⟨fun h => (by rw [h] at hr; cases hr), fun j hj => ?_⟩
    by_cases hji : j = i
    · subst hji
      unfold gOp
      simp only [hi, wanted j oi hi hm, if_true, growOp, hm]
      exact ⟨O, hO, H⟩
    · exfalso
      obtain ⟨hjun, oj, hoj, _⟩ := mem_ready.1 hj
      obtain ⟨b, hb, hf⟩ := exists_fresh W.heap.size bs
      have hs := (H b hb fun x hx => Nat.ne_of_lt (hf x hx)).1 j (ready_mono hj hji)
      rw [hoj] at hs
      cases hmj : isMaker oj with
      | true =>
        unfold isMaker at hmj
        unfold isStore at hs
        simp only [Option.map_some, Option.getD_some] at hs
        split at hmj
        · rename_i hop; rw [hop] at hs; cases hs
        · cases hmj
      | false => exact (waitsOn_spec hc (getD_ne_of_true (mem_ready.1 hr).1) _ j (hoth j oj hoj hjun hmj)).2 hj
  | succ fuel ih =>
    intro listed a bs hc hfree hoth hr H
    refine ⟨fun h => (by rw [h] at hr; cases hr), fun j hj => ?_⟩
    by_cases hji : j = i
    · subst hji
      unfold gOp
      simp only [hi, wanted j oi hi hm, if_true, growOp, hm]
      exact ⟨O, hO, H⟩
    · obtain ⟨hjun, oj, hoj, hall⟩ := mem_ready.1 hj
      cases hmj : isMaker oj with
      | false => exact absurd hj (waitsOn_spec hc (getD_ne_of_true (mem_ready.1 hr).1) _ j (hoth j oj hoj hjun hmj)).2
      | true =>
        have hnot : ∀ e ∈ oj.after, Region.binds md e = true → e.on ≠ i := fun e he hb heq => by
          have h1 := hall e he hb
          have h0 := (mem_ready.1 hr).1
          rw [heq] at h1
          rw [getD_ne_of_true h0] at h1
          cases h1
        obtain ⟨_, hap2, _⟩ := Oper.apart_spec (hfree j oj hoj hji hjun hnot)
        have hfree' : ∀ k ok, ops[k]? = some ok → k ≠ i → (listed.setIfInBounds j true).getD k true = false →
            (∀ e ∈ ok.after, Region.binds md e = true → e.on ≠ i) → oi.apart ops ok = true := fun k ok hk hki hun hno => by
          refine hfree k ok hk hki ?_ hno
          by_cases hjk : j = k
          · subst hjk; exact hjun
          · rw [getD_set_ne true hjk] at hun; exact hun
        have hoth' : ∀ k ok, ops[k]? = some ok → (listed.setIfInBounds j true).getD k true = false → isMaker ok = false → k ∈ waitsOn md ops i ops.size := fun k ok hk hun hmk => by
          refine hoth k ok hk ?_ hmk
          by_cases hjk : j = k
          · subst hjk; exact hjun
          · rw [getD_set_ne true hjk] at hun; exact hun
        -- what is made at j
        have first : ∀ b, W.heap.size ≤ b → (∀ x ∈ bs, x.1 ≠ b) → ∃ Oj, makes P oj = some Oj ∧ ∀ c, W.heap.size ≤ c → (∀ x ∈ (b, O) :: bs, x.1 ≠ c) →
            anyG P md ops W Q fuel ((listed.setIfInBounds i true).setIfInBounds j true) ((a.put oi.dst (.pointer (some ⟨b, 0, none⟩))).put oj.dst (.pointer (some ⟨c, 0, none⟩))) ((c, Oj) :: (b, O) :: bs) := fun b hb hf => by
          have h1 := (H b hb hf).2 j (ready_mono hj hji)
          unfold gOp at h1
          simpa only [hoj, wanted j oj hoj hmj, if_true, growOp, hmj] using h1
        obtain ⟨b0, hb0, hf0⟩ := exists_fresh W.heap.size bs
        obtain ⟨Oj, hOj, _⟩ := first b0 hb0 fun x hx => Nat.ne_of_lt (hf0 x hx)
        unfold gOp
        simp only [hoj, wanted j oj hoj hmj, if_true, growOp, hmj]
        refine ⟨Oj, hOj, fun c hcb hcf => ih (listed.setIfInBounds j true) _ _ (hc.set hj) hfree' hoth' (ready_mono hr (Ne.symm hji)) fun b hb hf => ?_⟩
        obtain ⟨Oj', hOj', hn⟩ := first b hb fun x hx => hf x (List.mem_cons_of_mem _ hx)
        rw [hOj] at hOj'
        cases hOj'
        have hbc : b ≠ c := fun e => hf (c, Oj) List.mem_cons_self e.symm
        have h2 := hn c hcb fun x hx => by
          rcases List.mem_cons.1 hx with rfl | hx
          · exact hbc
          · exact hcf x hx
        rw [Array.setIfInBounds_comm _ _ hji, ← Act.put_comm a _ _ hap2]
        exact anyG_perm hQ _ _ _ _ _ (fun x => by simp only [List.mem_cons]; constructor <;> (rintro (h | h | h) <;> simp [h])) h2

/-! ### The order of the text, and the stores at the end -/

def growFrom (md : Region.Mode) (ops : Array Oper) : Nat → Nat → Array Bool → Bool
  | 0, _, listed => (Region.ready md ops listed).all fun j => ((ops[j]?).map isStore).getD false
  | fuel + 1, k, listed => (Region.ready md ops listed).contains k && Region.free md ops listed k &&
      (match ops[k]? with
       | some o => !isMaker o || (List.range ops.size).all fun j => listed.getD j true || ((ops[j]?).map isMaker).getD true || (waitsOn md ops k ops.size).contains j
       | none => false) && growFrom md ops fuel (k + 1) (listed.setIfInBounds k true)
def seqFrom (md : Region.Mode) (ops : Array Oper) : Nat → Nat → Array Bool → Bool
  | 0, _, listed => (Region.ready md ops listed).isEmpty
  | fuel + 1, k, listed => (Region.ready md ops listed == [k]) && seqFrom md ops fuel (k + 1) (listed.setIfInBounds k true)
def listedTo : Nat → Nat → Array Bool → Array Bool
  | 0, _, listed => listed
  | n + 1, k, listed => listedTo n (k + 1) (listed.setIfInBounds k true)
def growB (md : Region.Mode) (ops : Array Oper) (nA : Nat) : Bool :=
  Region.noSelect ops && ((List.range ops.size).all fun j => ((ops[j]?).map fun o => !isMaker o || o.guard.isNone).getD true) &&
  ((List.range nA).all fun i => (List.range ops.size).all fun j => !((ops[j]?).map isStore).getD false || (j == i || (waitsOn md ops i ops.size).contains j)) &&
  growFrom md ops nA 0 (Array.replicate ops.size false) && seqFrom md ops (ops.size - nA) nA (listedTo nA 0 (Array.replicate ops.size false))

theorem anyG_lex {R : Array Bool → Act → List (Nat × Obj) → Prop} (hR : ∀ listed a bs bs', (∀ x, x ∈ bs ↔ x ∈ bs') → R listed a bs → R listed a bs')
    (hsel : Region.noSelect ops = true) (hg : ∀ (j : Nat) o, ops[j]? = some o → isMaker o = true → o.guard = none) (nA : Nat)
    (hst : ∀ i, i < nA → ∀ j o, ops[j]? = some o → isStore o = true → j ≠ i → j ∈ waitsOn md ops i ops.size) :
    ∀ (l : List Oper) (k : Nat) (listed : Array Bool) (a : Act) (bs : List (Nat × Obj)), (∀ j, j < l.length → l[j]? = ops[k + j]?) → k + l.length ≤ nA → Closed md ops listed →
      growFrom md ops l.length k listed = true → wpGrow P ops W (R (listedTo l.length k listed)) l a bs → anyG P md ops W R l.length listed a bs
  | [], k, listed, a, bs, _, _, _, hB, h => by
    refine ⟨?_, h⟩
    simpa [growFrom] using hB
  | o :: l, k, listed, a, bs, hl, hk, hc, hB, h => by
    have h0 : ops[k]? = some o := by simpa using (hl 0 (by simp)).symm
    simp only [List.length_cons, growFrom, h0, Bool.and_eq_true] at hB
    obtain ⟨⟨⟨hr, hf⟩, hmk⟩, hB'⟩ := hB
    have hr' : k ∈ Region.ready md ops listed := by simpa using hr
    simp only [List.length_cons] at hk
    have next : ∀ a' bs', wpGrow P ops W (R (listedTo l.length (k + 1) (listed.setIfInBounds k true))) l a' bs' → anyG P md ops W R l.length (listed.setIfInBounds k true) a' bs' := fun a' bs' hh =>
      anyG_lex hR hsel hg nA hst l (k + 1) _ a' bs' (fun j hj => by have := hl (j + 1) (by simp; omega); simpa [Nat.add_assoc, Nat.add_comm 1 j] using this) (by omega) (hc.set hr') hB' hh
    have hh : if Region.wanted o (yielded ops a.tmps) then growOp P W o a bs (wpGrow P ops W (R (listedTo l.length (k + 1) (listed.setIfInBounds k true))) l)
        else wpGrow P ops W (R (listedTo l.length (k + 1) (listed.setIfInBounds k true))) l (a.put o.dst undef) bs := h
    by_cases hm : isMaker o = true
    · have hw : Region.wanted o (yielded ops a.tmps) = true := by simp [Region.wanted, hg k o h0 hm]
      simp only [hw, if_true, growOp, hm] at hh
      obtain ⟨O, hO, hn⟩ := hh
      refine anyG_make hR h0 hO hm hg l.length listed a bs hc (Region.free_spec h0 hf) (fun j oj hj hun hmj => ?_) hr' fun b hb hfr => next _ _ (hn b hb hfr)
      simp only [hm, Bool.not_true, Bool.false_or, List.all_eq_true, List.mem_range] at hmk
      have := hmk j (Array.getElem?_eq_some_iff.1 hj).1
      simpa [hj, hun, hmj] using this
    · have hy : ∃ v, YieldsG P ops W o v a bs ∧ wpGrow P ops W (R (listedTo l.length (k + 1) (listed.setIfInBounds k true))) l (a.put o.dst v) bs := by
        by_cases hw : Region.wanted o (yielded ops a.tmps) = true
        · simp only [hw, if_true, growOp, hm] at hh
          obtain ⟨v, h1, h2⟩ := hh
          exact ⟨v, .inl ⟨hw, by simpa using hm, h1⟩, h2⟩
        · simp only [hw] at hh
          exact ⟨undef, .inr ⟨by simpa using hw, rfl⟩, hh⟩
      obtain ⟨v, hy, hn⟩ := hy
      exact anyG_first h0 (Region.noSelect_spec hsel) (hst k (by omega)) l.length listed a bs hc (Region.free_spec h0 hf) hr' hy (next _ _ hn)

theorem wpAny_seq {Q : Exit → Act → World → Prop} : ∀ (l : List Oper) (k : Nat) (listed : Array Bool) (a : Act) (w : World), (∀ j, j < l.length → l[j]? = ops[k + j]?) →
    seqFrom md ops l.length k listed = true → wpList P ops Q l a w → wpAny P md ops Q l.length listed a w
  | [], _, _, _, _, _, hB, h => ⟨by simpa [seqFrom] using hB, by simpa [wpList] using h⟩
  | o :: l, k, listed, a, w, hl, hB, h => by
    have h0 : ops[k]? = some o := by simpa using (hl 0 (by simp)).symm
    simp only [List.length_cons, seqFrom, Bool.and_eq_true, beq_iff_eq] at hB
    refine ⟨fun e => (by rw [hB.1] at e; cases e), fun i hi => ?_⟩
    rw [hB.1] at hi
    obtain rfl : i = k := by simpa using hi
    have hs : wpOp P ops Q i (wpList P ops Q l) a w := by unfold wpOp; simp only [h0]; exact h
    exact wpOp_mono (fun a' w' h' => wpAny_seq l (i + 1) _ a' w' (fun j hj => by have := hl (j + 1) (by simp; omega); simpa [Nat.add_assoc, Nat.add_comm 1 j] using this) hB.2 h') hs

/-- **ONE WALK OF THE ORDER OF THE TEXT SERVES EVERY ORDER**: the first nA operations read, call functions that only add to memory, or make variables; the others are stores, one behind the other. -/
theorem wp_region_grow {id : Nat} {Q : Exit → Act → World → Prop} {a : Act} {w : World} {l : List Oper} (nA : Nat) (hm : P.follows .mixedOrders = true) (hB : growB .any l.toArray nA = true)
    (h : wpGrow P l.toArray w (fun a' bs => ∀ w', InD w bs w' → wpList P l.toArray Q (l.drop nA) a' w') (l.take nA) a []) : (Code.region id l.toArray true).wp P Q a w := by
  unfold growB at hB
  simp only [Bool.and_eq_true, List.all_eq_true, List.mem_range] at hB
  obtain ⟨⟨⟨⟨hsel, hgd⟩, hst⟩, hG⟩, hS⟩ := hB
  have hle : nA ≤ l.length := by
    rcases Nat.lt_or_ge l.length nA with hlt | hge
    · exfalso
      have bad : ∀ n k (listed : Array Bool), listed.size = l.length → l.length < k + n → k ≤ l.length → growFrom .any l.toArray n k listed = true → False := by
        intro n
        induction n with
        | zero => intro k listed _ h1 h2 _; omega
        | succ n ih =>
          intro k listed hsz h1 h2 h3
          simp only [growFrom, Bool.and_eq_true] at h3
          obtain ⟨⟨⟨hr, _⟩, _⟩, h4⟩ := h3
          have hk : k < l.length := by
            have := (mem_ready.1 (show k ∈ Region.ready .any l.toArray listed by simpa using hr)).1
            rcases Nat.lt_or_ge k listed.size with h' | h'
            · omega
            · simp [Array.getElem?_eq_none h'] at this
          exact ih (k + 1) _ (by simpa using hsz) (by omega) (by omega) h4
      exact bad nA 0 _ (by simp) (by omega) (by omega) hG
    · exact hge
  have hsz : (l.take nA).length = nA := by simp; omega
  have hsd : (l.drop nA).length = l.length - nA := by simp
  let R : Array Bool → Act → List (Nat × Obj) → Prop := fun listed a bs => ∀ w', InD w bs w' → wpAny P .any l.toArray Q (l.length - nA) listed a w'
  refine wp_region_any hm ?_
  have hcl : Closed .any l.toArray (Array.replicate l.toArray.size false) := fun j o ho hj => by
    exfalso
    rcases Nat.lt_or_ge j l.length with h' | h' <;> simp [h'] at hj
  have hany : anyG P .any l.toArray w R (l.take nA).length (Array.replicate l.toArray.size false) a [] := by
    refine anyG_lex (fun _ _ bs bs' hp hh w' hD => hh w' (hD.fewer fun x hx => (hp x).1 hx)) hsel (fun j o ho hmk => ?_) nA (fun i hi j o ho hs hne => ?_) (l.take nA) 0 _ a [] (fun j hj => ?_) (by omega) hcl (by rw [hsz]; exact hG) ?_
    · have := hgd j (Array.getElem?_eq_some_iff.1 ho).1
      rw [ho] at this
      simp only [Option.map_some, Option.getD_some, hmk, Bool.not_true, Bool.false_or] at this
      simpa using this
    · have := hst i hi j (Array.getElem?_eq_some_iff.1 ho).1
      rw [ho] at this
      simpa [hs, hne] using this
    · simp only [List.length_take] at hj
      rw [List.getElem?_take_of_lt (by omega)]
      simp
    · have mono : ∀ (l' : List Oper) (a' : Act) (bs' : List (Nat × Obj)), wpGrow P l.toArray w (fun a' bs => ∀ w', InD w bs w' → wpList P l.toArray Q (l.drop nA) a' w') l' a' bs' →
          wpGrow P l.toArray w (R (listedTo (l.take nA).length 0 (Array.replicate l.toArray.size false))) l' a' bs' := by
        intro l'
        induction l' with
        | nil =>
          intro a' bs' hh w' hD
          rw [hsz]
          have := wpAny_seq (md := .any) (l.drop nA) nA (listedTo nA 0 (Array.replicate l.toArray.size false)) a' w' (fun j hj => by simp) (by rw [hsd]; simpa using hS) (hh w' hD)
          rwa [hsd] at this
        | cons o l' ih =>
          intro a' bs' hh
          have hh' : if Region.wanted o (yielded l.toArray a'.tmps) then growOp P w o a' bs' (wpGrow P l.toArray w (fun a' bs => ∀ w', InD w bs w' → wpList P l.toArray Q (l.drop nA) a' w') l')
              else wpGrow P l.toArray w (fun a' bs => ∀ w', InD w bs w' → wpList P l.toArray Q (l.drop nA) a' w') l' (a'.put o.dst undef) bs' := hh
          show if _ then _ else _
          split
          · rename_i hw; simp only [hw, if_true] at hh'; exact growOp_mono ih hh'
          · rename_i hw; simp only [hw] at hh'; exact ih _ _ hh'
      exact mono _ _ _ h
  have hfin := wpAny_of_anyG (W := w) (Q := R) (nB := l.length - nA) (Q' := Q) (fun listed a bs w' hD hh => hh w' hD) (l.take nA).length (Array.replicate l.toArray.size false) a [] ({ w with drawn := w.drawn + 1 } : World) ⟨⟨rfl, rfl, rfl, Nat.le_refl _, fun _ _ => rfl⟩, fun x hx => by cases hx⟩ hany
  rw [hsz] at hfin
  have e : nA + (l.length - nA) = l.toArray.size := by simp; omega
  rwa [e] at hfin

/-! ### Steps of the walk -/
theorem wpGrow_val {Q : Act → List (Nat × Obj) → Prop} {o : Oper} {rest : List Oper} {a : Act} {bs : List (Nat × Obj)} (hm : isMaker o = false) (v : Value)
    (hw : Region.wanted o (yielded ops a.tmps) = true) (hv : ∀ w, InD W bs w → growUpon P w v ((execOp a.eval o).run P w)) (h : wpGrow P ops W Q rest (a.put o.dst v) bs) : wpGrow P ops W Q (o :: rest) a bs := by
  show if _ then _ else _
  simp only [hw, if_true, growOp, hm]
  exact ⟨v, hv, h⟩
theorem wpGrow_pass {Q : Act → List (Nat × Obj) → Prop} {o : Oper} {rest : List Oper} {a : Act} {bs : List (Nat × Obj)}
    (hw : Region.wanted o (yielded ops a.tmps) = false) (h : wpGrow P ops W Q rest (a.put o.dst undef) bs) : wpGrow P ops W Q (o :: rest) a bs := by
  show if _ then _ else _
  simp only [hw]
  exact h
theorem wpGrow_make {Q : Act → List (Nat × Obj) → Prop} {o : Oper} {rest : List Oper} {a : Act} {bs : List (Nat × Obj)} {O : Obj} (hg : o.guard = none) (hO : makes P o = some O)
    (h : ∀ b, W.heap.size ≤ b → (∀ x ∈ bs, x.1 ≠ b) → wpGrow P ops W Q rest (a.put o.dst (.pointer (some ⟨b, 0, none⟩))) ((b, O) :: bs)) : wpGrow P ops W Q (o :: rest) a bs := by
  have hm : isMaker o = true := by
    unfold makes at hO
    unfold isMaker
    split at hO
    · rfl
    · cases hO
  show if _ then _ else _
  simp only [show Region.wanted o (yielded ops a.tmps) = true by simp [Region.wanted, hg], if_true, growOp, hm]
  exact ⟨O, hO, h⟩
theorem wpGrow_nil {Q : Act → List (Nat × Obj) → Prop} {a : Act} {bs : List (Nat × Obj)} (h : Q a bs) : wpGrow P ops W Q [] a bs := h
theorem growUpon_ok {w : World} {u v : Value} (h : u = v) : growUpon P w v (.ok (.value u) w) := ⟨h, Below.refl _ _⟩
theorem growUpon_skip {w : World} : growUpon P w undef (.ok .skip w) := ⟨rfl, Below.refl _ _⟩
theorem growUpon_call {w : World} {f : FuncId} {args : Array Value} {v : Value} (h : Calls P f args w (fun e w'' => e = .returned v ∧ Below w.heap.size w w'')) : growUpon P w v (.ok (.enter f args) w) := ⟨rfl, h⟩
theorem InD.cell {bs : List (Nat × Obj)} {w : World} (h : InD W bs w) : ∀ b o, b < W.heap.size → w.cell? ⟨b, o, none⟩ = W.cell? ⟨b, o, none⟩ := fun b o hb => h.below.cell (p := ⟨b, o, none⟩) hb

theorem wpGrow_val' {Q : Act → List (Nat × Obj) → Prop} {o : Oper} {rest : List Oper} {a : Act} {bs : List (Nat × Obj)} (hm : isMaker o = false)
    (hw : Region.wanted o (yielded ops a.tmps) = true) (h : ∃ v, (∀ w, InD W bs w → growUpon P w v ((execOp a.eval o).run P w)) ∧ wpGrow P ops W Q rest (a.put o.dst v) bs) : wpGrow P ops W Q (o :: rest) a bs := by
  obtain ⟨v, h1, h2⟩ := h
  exact wpGrow_val hm v hw h1 h2
theorem wpGrow_at {Q : Act → List (Nat × Obj) → Prop} {l : List Oper} {a a' : Act} {bs : List (Nat × Obj)} (e : a = a') (h : wpGrow P ops W Q l a' bs) : wpGrow P ops W Q l a bs := e ▸ h
/-- A new variable, behind all. -/
theorem InD.new {bs : List (Nat × Obj)} {w : World} (h : InD W bs w) {b : Nat} {cs : Array Value} {t : TypeId} (hx : (b, Obj.cells cs t) ∈ bs) :
    (∀ i, w.cell? ⟨b, i, none⟩ = cs[i]?) ∧ (∀ i, w.frozen? ⟨b, i, none⟩ = false) ∧ W.heap.size ≤ b ∧ b < w.heap.size := by
  have hh := (h.at_ _ hx).2
  refine ⟨fun i => cell_of_row w b i cs t (0, 0) hh, fun i => ?_, (h.at_ _ hx).1, h.lt hx⟩
  simp only at hh
  simp [World.frozen?, hh]

end
end Go.Proofs.Ytoeamnagmehpeaa


/- A region that draws its order, with a chain of calls that write: reads that hold in every state, calls one behind the other (each leaves a value and a state), new variables, stores at the end: one walk serves every order. -/
namespace Go.Proofs.Ytoeamnagmehpeaa
set_option linter.unusedSimpArgs false
set_option linter.unusedVariables false
open Go Go.RowKit

/-- The worlds of a state: closed under what only adds to memory, under new variables, under fewer told ones. -/
structure Cls (σ : Type) (W : World) where
  In : σ → List (Nat × Obj) → World → Prop
  below : ∀ {s bs w w'}, In s bs w → Below w.heap.size w w' → In s bs w'
  alloc : ∀ {s bs w} (O : Obj), In s bs w → In s ((w.heap.size, O) :: bs) (w.alloc O)
  fresh : ∀ {s bs w}, In s bs w → W.heap.size ≤ w.heap.size ∧ ∀ x ∈ bs, x.1 < w.heap.size
  fewer : ∀ {s bs bs' w}, In s bs w → (∀ x ∈ bs', x ∈ bs) → In s bs' w

/-- Is an operation of the chain: a call, an append or a copy, a slice written out? -/
def isFnCall (o : Oper) : Bool := match o.op with
  | .call c => (match c.callee with | .builtin b => (match b with | .append => true | .copy => true | .delete => true | .clear => true | _ => false) | _ => true)
  | .buildSlice _ n _ => n != 0
  | _ => false
/-- Does it make a variable, or an empty slice? -/
def isMk (o : Oper) : Bool := match o.op with | .alloc _ => true | .buildSlice _ n _ => n == 0 | _ => false
def mval : Option Nat → Nat → Value
  | none, b => .pointer (some ⟨b, 0, none⟩)
  | some n, b => .slice (some ⟨b, 0, none⟩) n n
/-- What it makes, whatever the operands. -/
def Mk (P : Program) (o : Oper) (O : Obj) (sh : Option Nat) : Prop := o.guard = none ∧ ∀ (ρ : Operand → Value) (w : World), (execOp ρ o).run P w = .ok (.value (mval sh w.heap.size)) (w.alloc O)
theorem Mk.one {P : Program} {o : Oper} {O O' : Obj} {sh sh' : Option Nat} (w : World) (h : Mk P o O sh) (h' : Mk P o O' sh') : O = O' ∧ sh = sh' := by
  have e := (h.2 (fun _ => undef) w).symm.trans (h'.2 (fun _ => undef) w)
  have e1 : mval sh w.heap.size = mval sh' w.heap.size ∧ w.alloc O = w.alloc O' := by
    injection e with e1 e2
    injection e1 with e1
    exact ⟨e1, e2⟩
  refine ⟨?_, ?_⟩
  · have h2 : (w.alloc O).heap[w.heap.size]? = (w.alloc O').heap[w.heap.size]? := by rw [e1.2]
    rw [heap_alloc_new, heap_alloc_new] at h2
    cases h2; rfl
  · cases sh with
    | none => cases sh' with
      | none => rfl
      | some n => exact absurd e1.1 (by simp [mval])
    | some n => cases sh' with
      | none => exact absurd e1.1 (by simp [mval])
      | some m => have := e1.1; simp [mval] at this; rw [this]
/-- A test by the kernel. -/
def mkB (P : Program) (o : Oper) : Bool := o.guard.isNone && match o.op with
  | .alloc _ => (makes P o).isSome
  | .buildSlice t 0 ps => ps.isEmpty && (match P.underlying t with | some (.slice e) => (P.info? e).isSome | _ => false)
  | _ => false
theorem Mk.alloc {P : Program} {o : Oper} {O : Obj} (hg : o.guard = none) (h : makes P o = some O) : Mk P o O none := ⟨hg, fun ρ w => run_maker h ρ w⟩
theorem Mk.empty {P : Program} {o : Oper} {t e : TypeId} {i : TypeInfo} (hg : o.guard = none) (ho : o.op = .buildSlice t 0 #[]) (ht : P.underlying t = some (.slice e)) (hi : P.info? e = some i) : Mk P o (.cells #[] e) (some 0) := by
  refine ⟨hg, fun ρ w => ?_⟩
  obtain ⟨dst, op, type, pos, after, guard⟩ := o
  simp only at ho
  subst ho
  simp [execOp, Instr.buildSlice, Go.underlying, Go.sizeOf, typeInfo, ht, hi, newRow, Instr.fill, mval, go_sem]
theorem Mk.of_test {P : Program} {o : Oper} (h : mkB P o = true) : ∃ O sh, Mk P o O sh := by
  unfold mkB at h
  simp only [Bool.and_eq_true, Option.isNone_iff_eq_none] at h
  obtain ⟨hg, h⟩ := h
  split at h
  · obtain ⟨O, hO⟩ := Option.isSome_iff_exists.1 h
    exact ⟨O, none, Mk.alloc hg hO⟩
  · rename_i t ps ho
    simp only [Bool.and_eq_true, Array.isEmpty_iff] at h
    obtain ⟨rfl, h⟩ := h
    split at h
    · rename_i e ht
      obtain ⟨i, hi⟩ := Option.isSome_iff_exists.1 h
      exact ⟨_, _, Mk.empty hg ho ht hi⟩
    · cases h
  · cases h

section
variable {σ : Type} {P : Program} {ops : Array Oper} {md : Region.Mode} {W : World} {C : Cls σ W}
abbrev Made := List (Nat × Obj)

/-- What is asked of a call of the chain. -/
def thrUpon (P : Program) (C : Cls σ W) (bs : Made) (Post : Value → σ → Prop) (w : World) : Result Next → Prop
  | .ok (.enter f args) w' => w' = w ∧ Calls P f args w (fun e w'' => ∃ v s', e = .returned v ∧ Post v s' ∧ C.In s' bs w'')
  | .ok (.value u) w' => ∃ s', Post u s' ∧ C.In s' bs w'
  | _ => False

def thrOp (P : Program) (C : Cls σ W) (o : Oper) (a : Act) (s : σ) (bs : Made) (K : Act → σ → Made → Prop) : Prop :=
  if isMk o then ∃ O sh, Mk P o O sh ∧ ∀ b, W.heap.size ≤ b → (∀ x ∈ bs, x.1 ≠ b) → K (a.put o.dst (mval sh b)) s ((b, O) :: bs)
  else if isFnCall o then ∃ Post : Value → σ → Prop, (∀ bs' w, (∀ x ∈ bs, x ∈ bs') → C.In s bs' w → thrUpon P C bs' Post w ((execOp a.eval o).run P w)) ∧ ∀ v s', Post v s' → K (a.put o.dst v) s' bs
  else ∃ v, (∀ s' bs' w, (∀ x ∈ bs, x ∈ bs') → C.In s' bs' w → growUpon P w v ((execOp a.eval o).run P w)) ∧ K (a.put o.dst v) s bs

def gOpT (P : Program) (ops : Array Oper) (C : Cls σ W) (j : Nat) (K : Act → σ → Made → Prop) (a : Act) (s : σ) (bs : Made) : Prop :=
  match ops[j]? with
  | none => K a s bs
  | some o => if Region.wanted o (yielded ops a.tmps) then thrOp P C o a s bs K else K (a.put o.dst undef) s bs

theorem thrOp_mono {o : Oper} {a : Act} {s : σ} {bs : Made} {K K' : Act → σ → Made → Prop} (h : ∀ a s bs, K a s bs → K' a s bs) (hh : thrOp P C o a s bs K) : thrOp P C o a s bs K' := by
  unfold thrOp at *
  split
  · rename_i hm; simp only [hm, if_true] at hh; obtain ⟨O, sh, h1, h2⟩ := hh; exact ⟨O, sh, h1, fun b hb hf => h _ _ _ (h2 b hb hf)⟩
  · rename_i hm
    simp only [hm, Bool.false_eq_true, if_false] at hh
    split
    · rename_i hc; simp only [hc, if_true] at hh; obtain ⟨Post, h1, h2⟩ := hh; exact ⟨Post, h1, fun v s' hp => h _ _ _ (h2 v s' hp)⟩
    · rename_i hc; simp only [hc, Bool.false_eq_true, if_false] at hh; obtain ⟨v, h1, h2⟩ := hh; exact ⟨v, h1, h _ _ _ h2⟩
theorem gOpT_mono {j : Nat} {a : Act} {s : σ} {bs : Made} {K K' : Act → σ → Made → Prop} (h : ∀ a s bs, K a s bs → K' a s bs) (hh : gOpT P ops C j K a s bs) : gOpT P ops C j K' a s bs := by
  unfold gOpT at *
  split
  · rename_i ho; simp only [ho] at hh; exact h _ _ _ hh
  · rename_i o ho
    simp only [ho] at hh
    split
    · rename_i hw; simp only [hw, if_true] at hh; exact thrOp_mono h hh
    · rename_i hw; simp only [hw, Bool.false_eq_true, if_false] at hh; exact h _ _ _ hh

/-- Whatever order is picked. -/
def anyT (P : Program) (md : Region.Mode) (ops : Array Oper) (C : Cls σ W) (Q : Array Bool → Act → σ → Made → Prop) : Nat → Array Bool → Act → σ → Made → Prop
  | 0, listed, a, s, bs => Q listed a s bs
  | fuel + 1, listed, a, s, bs => ∀ j ∈ Region.ready md ops listed, gOpT P ops C j (anyT P md ops C Q fuel (listed.setIfInBounds j true)) a s bs
/-- Up to the stores there is always an operation that is ready. -/
def StrT (md : Region.Mode) (ops : Array Oper) : Nat → Array Bool → Prop
  | 0, listed => ∀ j ∈ Region.ready md ops listed, ((ops[j]?).map isStore).getD false = true
  | fuel + 1, listed => Region.ready md ops listed ≠ [] ∧ ∀ j ∈ Region.ready md ops listed, StrT md ops fuel (listed.setIfInBounds j true)

theorem wpOp_of_gOpT {j : Nat} {a : Act} {s : σ} {bs : Made} {w : World} {K : Act → σ → Made → Prop} {K' : Act → World → Prop} {Q' : Exit → Act → World → Prop} (hD : C.In s bs w)
    (h : ∀ a' s' bs' w', C.In s' bs' w' → K a' s' bs' → K' a' w') (hh : gOpT P ops C j K a s bs) : wpOp P ops Q' j K' a w := by
  unfold gOpT at hh
  unfold wpOp
  split
  · rename_i ho; simp only [ho] at hh; exact h _ _ _ _ hD hh
  · rename_i o ho
    simp only [ho] at hh
    split
    · rename_i hw
      simp only [hw, if_true] at hh
      refine .inl ?_
      unfold thrOp at hh
      split at hh
      · obtain ⟨O, sh, h1, h2⟩ := hh
        unfold Oper.wp
        rw [h1.2]
        have hf := C.fresh hD
        exact h _ _ _ _ (C.alloc O hD) (h2 _ hf.1 fun x hx => Nat.ne_of_lt (hf.2 x hx))
      · split at hh
        · obtain ⟨Post, h1, h2⟩ := hh
          have h3 := h1 bs w (fun _ hx => hx) hD
          unfold Oper.wp
          generalize (execOp a.eval o).run P w = r at *
          cases r with
          | ok n w' =>
            cases n <;> simp only [thrUpon] at h3 <;> simp only [Oper.upon]
            case value u => obtain ⟨s', hp, hb⟩ := h3; exact h _ _ _ _ hb (h2 u s' hp)
            case enter f args =>
              obtain ⟨rfl, hc⟩ := h3
              exact hc.mono fun e w'' ⟨v, s', he, hp, hb⟩ => by subst he; exact h _ _ _ _ hb (h2 v s' hp)
          | halt x w' => simp only [thrUpon] at h3
        · obtain ⟨v, h1, h2⟩ := hh
          have h3 := h1 s bs w (fun _ hx => hx) hD
          unfold Oper.wp
          generalize (execOp a.eval o).run P w = r at *
          cases r with
          | ok n w' =>
            cases n <;> simp only [growUpon] at h3 <;> simp only [Oper.upon]
            case value u => obtain ⟨rfl, hb⟩ := h3; exact h _ _ _ _ (C.below hD hb) h2
            case skip => obtain ⟨e, hb⟩ := h3; rw [← e]; exact h _ _ _ _ (C.below hD hb) h2
            case enter f args =>
              obtain ⟨rfl, hc⟩ := h3
              exact hc.mono fun e w'' ⟨he, hb⟩ => by subst he; exact h _ _ _ _ (C.below hD hb) h2
          | halt x w' => simp only [growUpon] at h3
    · rename_i hw; simp only [hw, Bool.false_eq_true, if_false] at hh; exact h _ _ _ _ hD hh

theorem wpAny_of_anyT {Q : Array Bool → Act → σ → Made → Prop} {Q' : Exit → Act → World → Prop} {nB : Nat} (hQ : ∀ listed a s bs w, C.In s bs w → Q listed a s bs → wpAny P md ops Q' nB listed a w) :
    ∀ (fuel : Nat) (listed : Array Bool) (a : Act) (s : σ) (bs : Made) (w : World), C.In s bs w → StrT md ops fuel listed → anyT P md ops C Q fuel listed a s bs → wpAny P md ops Q' (fuel + nB) listed a w
  | 0, listed, a, s, bs, w, hD, _, h => by rw [Nat.zero_add]; exact hQ _ _ _ _ _ hD h
  | fuel + 1, listed, a, s, bs, w, hD, hS, h => by
    rw [show fuel + 1 + nB = (fuel + nB) + 1 from by omega]
    exact ⟨fun h0 => absurd h0 hS.1, fun i hi => wpOp_of_gOpT hD (fun a' s' bs' w' hD' => wpAny_of_anyT hQ fuel _ a' s' bs' w' hD' (hS.2 i hi)) (h i hi)⟩

theorem StrT_first {i : Nat} (hst : ∀ j o, ops[j]? = some o → isStore o = true → j ≠ i → j ∈ waitsOn md ops i ops.size) :
    ∀ (fuel : Nat) (listed : Array Bool), Closed md ops listed → i ∈ Region.ready md ops listed → StrT md ops fuel (listed.setIfInBounds i true) → StrT md ops (fuel + 1) listed := by
  intro fuel
  induction fuel with
  | zero =>
    intro listed hc hr H
    refine ⟨fun h => (by rw [h] at hr; cases hr), fun j hj => ?_⟩
    by_cases hji : j = i
    · subst hji; exact H
    · have hs := H j (ready_mono hj hji)
      obtain ⟨_, oj, hoj, _⟩ := mem_ready.1 hj
      rw [hoj] at hs
      exact absurd hj (waitsOn_spec hc (getD_ne_of_true (mem_ready.1 hr).1) _ j (hst j oj hoj (by simpa using hs) hji)).2
  | succ fuel ih =>
    intro listed hc hr H
    refine ⟨fun h => (by rw [h] at hr; cases hr), fun j hj => ?_⟩
    by_cases hji : j = i
    · subst hji; exact H
    · have h1 := H.2 j (ready_mono hj hji)
      refine ih _ (hc.set hj) (ready_mono hr (Ne.symm hji)) ?_
      rwa [Array.setIfInBounds_comm _ _ hji]

/-- In state a an operation yields v in every world of every state. -/
def YieldsT (P : Program) (ops : Array Oper) (C : Cls σ W) (o : Oper) (v : Value) (a : Act) (bs : Made) : Prop :=
  (Region.wanted o (yielded ops a.tmps) = true ∧ isMk o = false ∧ isFnCall o = false ∧ ∀ s' bs' w, (∀ x ∈ bs, x ∈ bs') → C.In s' bs' w → growUpon P w v ((execOp a.eval o).run P w)) ∨
  (Region.wanted o (yielded ops a.tmps) = false ∧ v = undef)

theorem YieldsT.gOp {i : Nat} {o : Oper} {v : Value} {a : Act} {s : σ} {bs : Made} (hi : ops[i]? = some o) (hy : YieldsT P ops C o v a bs) {K : Act → σ → Made → Prop} (h : K (a.put o.dst v) s bs) : gOpT P ops C i K a s bs := by
  unfold Proofs.Ytoeamnagmehpeaa.gOpT
  simp only [hi]
  rcases hy with ⟨hw, hm, hc, hv⟩ | ⟨hw, rfl⟩
  · simp only [hw, if_true, thrOp, hm, hc, Bool.false_eq_true, if_false]; exact ⟨v, hv, h⟩
  · simp only [hw, Bool.false_eq_true, if_false]; exact h

theorem YieldsT.of_same {o : Oper} {v : Value} {a a' : Act} {bs bs' : Made} (hy : YieldsT P ops C o v a bs) (he : execOp a'.eval o = execOp a.eval o)
    (hw : Region.wanted o (yielded ops a'.tmps) = Region.wanted o (yielded ops a.tmps)) (hs : ∀ x ∈ bs, x ∈ bs') : YieldsT P ops C o v a' bs' := by
  unfold YieldsT at *
  rw [he, hw]
  exact hy.imp (fun ⟨h1, h2, h3, h4⟩ => ⟨h1, h2, h3, fun s'' bs'' w hb hD => h4 s'' bs'' w (fun x hx => hb x (hs x hx)) hD⟩) id

theorem gOpT_put {j : Nat} {oi oj : Oper} {v : Value} (hj : ops[j]? = some oj) (hap : oi.apart ops oj = true)
    (hsi : ∀ cs b, oi.op ≠ .select cs b) (hsj : ∀ cs b, oj.op ≠ .select cs b) {K : Act → σ → Made → Prop} {a : Act} {s : σ} {bs : Made}
    (hy : YieldsT P ops C oi v a bs) (h : gOpT P ops C j K (a.put oi.dst v) s bs) :
    gOpT P ops C j (fun a' s' bs' => YieldsT P ops C oi v a' bs' ∧ K (a'.put oi.dst v) s' bs') a s bs := by
  obtain ⟨h1, h2, h3⟩ := Oper.apart_spec hap
  have keep : ∀ (u : Value) (bs' : Made), (∀ x ∈ bs, x ∈ bs') → YieldsT P ops C oi v (a.put oj.dst u) bs' := fun u bs' hs =>
    hy.of_same (execOp_put oi hsi a oj.dst u h3) (wanted_put oi a oj.dst u h3) hs
  unfold gOpT at *
  simp only [hj] at *
  rw [wanted_put oj a oi.dst v h1] at h
  split
  · rename_i hw
    simp only [hw, if_true] at h
    unfold thrOp at *
    split
    · rename_i hm
      simp only [hm, if_true] at h
      obtain ⟨O, sh, hO, hn⟩ := h
      refine ⟨O, sh, hO, fun b hb hf => ⟨keep _ _ fun x hx => List.mem_cons_of_mem _ hx, ?_⟩⟩
      rw [← Act.put_comm a v _ h2]
      exact hn b hb hf
    · rename_i hm
      simp only [hm, Bool.false_eq_true, if_false] at h
      split
      · rename_i hc
        simp only [hc, if_true] at h
        obtain ⟨Post, hu, hn⟩ := h
        refine ⟨Post, fun bs' w hb hD => ?_, fun u s' hp => ⟨keep u bs fun _ hx => hx, by rw [← Act.put_comm a v u h2]; exact hn u s' hp⟩⟩
        have := hu bs' w hb hD
        rwa [execOp_put oj hsj a oi.dst v h1] at this
      · rename_i hc
        simp only [hc, Bool.false_eq_true, if_false] at h
        obtain ⟨u, hu, hn⟩ := h
        refine ⟨u, fun s' bs' w hb hD => ?_, keep u bs fun _ hx => hx, by rw [← Act.put_comm a v u h2]; exact hn⟩
        have := hu s' bs' w hb hD
        rwa [execOp_put oj hsj a oi.dst v h1] at this
  · rename_i hw
    simp only [hw, Bool.false_eq_true, if_false] at h
    exact ⟨keep undef bs fun _ hx => hx, by rw [← Act.put_comm a v undef h2]; exact h⟩

/-- the first operations are apart from what may come ahead of them. -/
def FreeT (md : Region.Mode) (ops : Array Oper) (i : Nat) (oi : Oper) (listed : Array Bool) : Prop :=
  ∀ j oj, ops[j]? = some oj → j ≠ i → listed.getD j true = false → (∀ e ∈ oj.after, Region.binds md e = true → e.on ≠ i) → oi.apart ops oj = true
theorem FreeT.set {i j : Nat} {oi : Oper} {listed : Array Bool} (h : FreeT md ops i oi listed) (hjun : listed.getD j true = false) : FreeT md ops i oi (listed.setIfInBounds j true) := fun k ok hk hki hun hno => by
  refine h k ok hk hki ?_ hno
  by_cases hjk : j = k
  · subst hjk; exact hjun
  · rw [getD_set_ne true hjk] at hun; exact hun
theorem not_waits {i j : Nat} {oj : Oper} {listed : Array Bool} (hr : i ∈ Region.ready md ops listed) (hall : ∀ e ∈ oj.after, Region.binds md e = true → listed.getD e.on true = true) : ∀ e ∈ oj.after, Region.binds md e = true → e.on ≠ i := fun e he hb heq => by
  have h1 := hall e he hb
  rw [heq, (mem_ready.1 hr).1] at h1
  cases h1

/-- A read may be taken first. -/
theorem anyT_first {Q : Array Bool → Act → σ → Made → Prop} {i : Nat} {oi : Oper} {v : Value} (hi : ops[i]? = some oi) (hsel : ∀ (j : Nat) (o : Oper) cs b, ops[j]? = some o → o.op ≠ .select cs b)
    (hst : ∀ j o, ops[j]? = some o → isStore o = true → j ≠ i → j ∈ waitsOn md ops i ops.size) :
    ∀ (fuel : Nat) (listed : Array Bool) (a : Act) (s : σ) (bs : Made), Closed md ops listed → FreeT md ops i oi listed →
      i ∈ Region.ready md ops listed → StrT md ops fuel (listed.setIfInBounds i true) → YieldsT P ops C oi v a bs →
      anyT P md ops C Q fuel (listed.setIfInBounds i true) (a.put oi.dst v) s bs → anyT P md ops C Q (fuel + 1) listed a s bs := by
  intro fuel
  induction fuel with
  | zero =>
    intro listed a s bs hc _ hr hS hy H j hj
    by_cases hji : j = i
    · subst hji; exact hy.gOp hi H
    · have hs := hS j (ready_mono hj hji)
      obtain ⟨_, oj, hoj, _⟩ := mem_ready.1 hj
      rw [hoj] at hs
      exact absurd hj (waitsOn_spec hc (getD_ne_of_true (mem_ready.1 hr).1) _ j (hst j oj hoj (by simpa using hs) hji)).2
  | succ fuel ih =>
    intro listed a s bs hc hfree hr hS hy H j hj
    by_cases hji : j = i
    · subst hji; exact hy.gOp hi H
    · have h1 := H j (ready_mono hj hji)
      obtain ⟨hjun, oj, hoj, hall⟩ := mem_ready.1 hj
      have hnot : ∀ e ∈ oj.after, Region.binds md e = true → e.on ≠ i := fun e he hb heq => by
        have h1 := hall e he hb
        have h0 := (mem_ready.1 hr).1
        rw [heq] at h1
        rw [getD_ne_of_true h0] at h1
        cases h1
      have h2 := gOpT_put hoj (hfree j oj hoj hji hjun hnot) (fun cs b => hsel i oi cs b hi) (fun cs b => hsel j oj cs b hoj) hy h1
      have hS' := hS.2 j (ready_mono hj hji)
      refine gOpT_mono (fun a' s' bs' h3 => ih (listed.setIfInBounds j true) a' s' bs' (hc.set hj) (hfree.set hjun) (ready_mono hr (Ne.symm hji)) ?_ h3.1 ?_) h2
      · rw [Array.setIfInBounds_comm _ _ hji]; exact hS'
      · rw [Array.setIfInBounds_comm _ _ hji]; exact h3.2

/-- The same members: the same. -/
theorem anyT_perm {Q : Array Bool → Act → σ → Made → Prop} (hQ : ∀ listed a s bs bs', (∀ x, x ∈ bs ↔ x ∈ bs') → Q listed a s bs → Q listed a s bs') :
    ∀ (fuel : Nat) (listed : Array Bool) (a : Act) (s : σ) (bs bs' : Made), (∀ x, x ∈ bs ↔ x ∈ bs') → anyT P md ops C Q fuel listed a s bs → anyT P md ops C Q fuel listed a s bs'
  | 0, _, _, _, _, _, hp, h => hQ _ _ _ _ _ hp h
  | fuel + 1, listed, a, s, bs, bs', hp, h => by
    intro j hj
    have h1 := h j hj
    unfold gOpT at *
    split
    · rename_i ho; simp only [ho] at h1; exact anyT_perm hQ fuel _ _ _ _ _ hp h1
    · rename_i o ho
      simp only [ho] at h1
      split
      · rename_i hw
        simp only [hw, if_true] at h1
        unfold thrOp at *
        split
        · rename_i hm
          simp only [hm, if_true] at h1
          obtain ⟨O, sh, hO, hn⟩ := h1
          exact ⟨O, sh, hO, fun b hb hf => anyT_perm hQ fuel _ _ _ _ _ (fun x => by simp only [List.mem_cons, hp]) (hn b hb fun x hx => hf x ((hp x).1 hx))⟩
        · rename_i hm
          simp only [hm, Bool.false_eq_true, if_false] at h1
          split
          · rename_i hc
            simp only [hc, if_true] at h1
            obtain ⟨Post, hv, hn⟩ := h1
            exact ⟨Post, fun bs'' w hb hD => hv bs'' w (fun x hx => hb x ((hp x).1 hx)) hD, fun v s' hpo => anyT_perm hQ fuel _ _ _ _ _ hp (hn v s' hpo)⟩
          · rename_i hc
            simp only [hc, Bool.false_eq_true, if_false] at h1
            obtain ⟨v, hv, hn⟩ := h1
            exact ⟨v, fun s'' bs'' w hb hD => hv s'' bs'' w (fun x hx => hb x ((hp x).1 hx)) hD, anyT_perm hQ fuel _ _ _ _ _ hp hn⟩
      · rename_i hw; simp only [hw, Bool.false_eq_true, if_false] at h1; exact anyT_perm hQ fuel _ _ _ _ _ hp h1

/-- A variable, or a call, may be taken first, where nothing but variables can come ahead of it. -/
theorem anyT_later {Q : Array Bool → Act → σ → Made → Prop} (hQ : ∀ listed a s bs bs', (∀ x, x ∈ bs ↔ x ∈ bs') → Q listed a s bs → Q listed a s bs') {i : Nat} {oi : Oper}
    (hi : ops[i]? = some oi) (hm : isMk oi = true ∨ isFnCall oi = true) (hg : ∀ (j : Nat) o, ops[j]? = some o → isMk o = true → ∃ O sh, Mk P o O sh)
    (hsel : ∀ (j : Nat) (o : Oper) cs b, ops[j]? = some o → o.op ≠ .select cs b) :
    ∀ (fuel : Nat) (listed : Array Bool) (a : Act) (s : σ) (bs : Made), Closed md ops listed → FreeT md ops i oi listed →
      (∀ j oj, ops[j]? = some oj → j ≠ i → listed.getD j true = false → isMk oj = false → j ∈ waitsOn md ops i ops.size) →
      i ∈ Region.ready md ops listed → StrT md ops fuel (listed.setIfInBounds i true) →
      gOpT P ops C i (anyT P md ops C Q fuel (listed.setIfInBounds i true)) a s bs → anyT P md ops C Q (fuel + 1) listed a s bs := by
  have wanted : ∀ (j : Nat) o, ops[j]? = some o → isMk o = true → ∀ y, Region.wanted o y = true := fun j o ho h y => by obtain ⟨O, sh, hk⟩ := hg j o ho h; simp [Region.wanted, hk.1]
  intro fuel
  induction fuel with
  | zero =>
    intro listed a s bs hc _ hoth hr hS H j hj
    by_cases hji : j = i
    · subst hji; exact H
    · exfalso
      obtain ⟨hjun, oj, hoj, _⟩ := mem_ready.1 hj
      have hs := hS j (ready_mono hj hji)
      rw [hoj] at hs
      cases hmj : isMk oj with
      | true =>
        unfold isMk at hmj
        unfold isStore at hs
        simp only [Option.map_some, Option.getD_some] at hs
        split at hmj
        · rename_i hop; rw [hop] at hs; cases hs
        · rename_i hop; rw [hop] at hs; cases hs
        · cases hmj
      | false => exact (waitsOn_spec hc (getD_ne_of_true (mem_ready.1 hr).1) _ j (hoth j oj hoj hji hjun hmj)).2 hj
  | succ fuel ih =>
    intro listed a s bs hc hfree hoth hr hS H j hj
    by_cases hji : j = i
    · subst hji; exact H
    · obtain ⟨hjun, oj, hoj, hall⟩ := mem_ready.1 hj
      cases hmj : isMk oj with
      | false => exact absurd hj (waitsOn_spec hc (getD_ne_of_true (mem_ready.1 hr).1) _ j (hoth j oj hoj hji hjun hmj)).2
      | true =>
        have hnot : ∀ e ∈ oj.after, Region.binds md e = true → e.on ≠ i := fun e he hb heq => by
          have h1 := hall e he hb
          have h0 := (mem_ready.1 hr).1
          rw [heq] at h1
          rw [getD_ne_of_true h0] at h1
          cases h1
        obtain ⟨hap1, hap2, hap3⟩ := Oper.apart_spec (hfree j oj hoj hji hjun hnot)
        have hoth' : ∀ k ok, ops[k]? = some ok → k ≠ i → (listed.setIfInBounds j true).getD k true = false → isMk ok = false → k ∈ waitsOn md ops i ops.size := fun k ok hk hki hun hmk => by
          refine hoth k ok hk hki ?_ hmk
          by_cases hjk : j = k
          · subst hjk; exact hjun
          · rw [getD_set_ne true hjk] at hun; exact hun
        obtain ⟨Oj, shj, hOj⟩ := hg j oj hoj hmj
        have hjr := ready_mono hj hji
        -- what is made at j, behind i
        have atj : ∀ {a' s' bs'}, anyT P md ops C Q (fuel + 1) (listed.setIfInBounds i true) a' s' bs' → ∀ c, W.heap.size ≤ c → (∀ x ∈ bs', x.1 ≠ c) →
            anyT P md ops C Q fuel ((listed.setIfInBounds j true).setIfInBounds i true) (a'.put oj.dst (mval shj c)) s' ((c, Oj) :: bs') := fun {a' s' bs'} h c hcb hcf => by
          have h1 := h j hjr
          unfold gOpT at h1
          simp only [hoj, wanted j oj hoj hmj, if_true, thrOp, hmj] at h1
          obtain ⟨O', sh', hO', hn⟩ := h1
          obtain ⟨rfl, rfl⟩ := Mk.one W hOj hO'
          rw [Array.setIfInBounds_comm _ _ hji]
          exact hn c hcb hcf
        unfold gOpT
        simp only [hoj, wanted j oj hoj hmj, if_true, thrOp, hmj]
        refine ⟨Oj, shj, hOj, fun c hcb hcf => ih (listed.setIfInBounds j true) _ _ _ (hc.set hj) (hfree.set hjun) hoth' (ready_mono hr (Ne.symm hji)) ?_ ?_⟩
        · rw [Array.setIfInBounds_comm _ _ hji]; exact hS.2 j hjr
        · unfold gOpT at H ⊢
          simp only [hi] at H ⊢
          rw [wanted_put oi a oj.dst _ hap3]
          by_cases hw : Region.wanted oi (yielded ops a.tmps) = true
          · simp only [hw, if_true] at H ⊢
            unfold thrOp at H ⊢
            by_cases hmi : isMk oi = true
            · simp only [hmi, if_true] at H ⊢
              obtain ⟨O, sh, hO, hn⟩ := H
              refine ⟨O, sh, hO, fun b hb hf => ?_⟩
              have h2 := atj (hn b hb fun x hx => hf x (List.mem_cons_of_mem _ hx)) c hcb fun x hx => by
                rcases List.mem_cons.1 hx with rfl | hx
                · exact fun e => hf (c, Oj) List.mem_cons_self e.symm
                · exact hcf x hx
              rw [← Act.put_comm a _ _ hap2]
              exact anyT_perm hQ _ _ _ _ _ _ (fun x => by simp only [List.mem_cons]; constructor <;> (rintro (h | h | h) <;> simp [h])) h2
            · have hci : isFnCall oi = true := hm.elim (fun h => absurd h hmi) id
              have hmi' : isMk oi = false := by simpa using hmi
              simp only [hmi', hci, if_true, Bool.false_eq_true, if_false] at H ⊢
              obtain ⟨Post, hP, hn⟩ := H
              refine ⟨Post, fun bs' w hb hD => ?_, fun v s' hp => ?_⟩
              · rw [execOp_put oi (fun cs b => hsel i oi cs b hi) a oj.dst _ hap3]
                exact hP bs' w (fun x hx => hb x (List.mem_cons_of_mem _ hx)) hD
              · rw [← Act.put_comm a _ _ hap2]
                exact atj (hn v s' hp) c hcb hcf
          · have hw' : Region.wanted oi (yielded ops a.tmps) = false := by simpa using hw
            simp only [hw', Bool.false_eq_true, if_false] at H ⊢
            rw [← Act.put_comm a _ _ hap2]
            exact atj H c hcb hcf

/-! ### A given order, and the stores at the end -/
def thrFrom (md : Region.Mode) (ops : Array Oper) : List Nat → Array Bool → Bool
  | [], listed => (Region.ready md ops listed).all fun j => ((ops[j]?).map isStore).getD false
  | k :: l, listed => (Region.ready md ops listed).contains k && Region.free md ops listed k &&
      (match ops[k]? with
       | some o => !(isMk o || isFnCall o) || (List.range ops.size).all fun j => j == k || listed.getD j true || ((ops[j]?).map isMk).getD true || (waitsOn md ops k ops.size).contains j
       | none => false) && thrFrom md ops l (listed.setIfInBounds k true)
def listedOf : List Nat → Array Bool → Array Bool
  | [], listed => listed
  | k :: l, listed => listedOf l (listed.setIfInBounds k true)
def thrB (md : Region.Mode) (ops : Array Oper) (nA : Nat) (ord : List Nat) : Bool :=
  Region.noSelect ops && ((List.range ops.size).all fun j => ((ops[j]?).map fun o => !isMk o || o.guard.isNone).getD true) &&
  (ord.all fun i => (List.range ops.size).all fun j => !((ops[j]?).map isStore).getD false || (j == i || (waitsOn md ops i ops.size).contains j)) &&
  thrFrom md ops ord (Array.replicate ops.size false) && seqFrom md ops (ops.size - nA) nA (listedOf ord (Array.replicate ops.size false)) && (ord.length == nA)

/-- The walk in the given order. -/
def wpThr (P : Program) (ops : Array Oper) (C : Cls σ W) (Q : Act → σ → Made → Prop) : List Oper → Act → σ → Made → Prop
  | [], a, s, bs => Q a s bs
  | o :: rest, a, s, bs => if Region.wanted o (yielded ops a.tmps) then thrOp P C o a s bs (wpThr P ops C Q rest) else wpThr P ops C Q rest (a.put o.dst undef) s bs

theorem StrT_of_from (ord : List Nat) : ∀ (listed : Array Bool), Closed md ops listed → (∀ i ∈ ord, ∀ j o, ops[j]? = some o → isStore o = true → j ≠ i → j ∈ waitsOn md ops i ops.size) → thrFrom md ops ord listed = true → StrT md ops ord.length listed := by
  induction ord with
  | nil => intro listed _ _ h; simpa [thrFrom, StrT] using h
  | cons k l ih =>
    intro listed hc hst h
    simp only [thrFrom, Bool.and_eq_true] at h
    obtain ⟨⟨⟨hr, _⟩, _⟩, h4⟩ := h
    have hr' : k ∈ Region.ready md ops listed := by simpa using hr
    exact StrT_first (hst k (by simp)) l.length listed hc hr' (ih _ (hc.set hr') (fun i hi => hst i (by simp [hi])) h4)

theorem anyT_lex {R : Array Bool → Act → σ → Made → Prop} (hR : ∀ listed a s bs bs', (∀ x, x ∈ bs ↔ x ∈ bs') → R listed a s bs → R listed a s bs')
    (hsel : Region.noSelect ops = true) (hg : ∀ (j : Nat) o, ops[j]? = some o → isMk o = true → ∃ O sh, Mk P o O sh) :
    ∀ (ord : List Nat) (l : List Oper) (listed : Array Bool) (a : Act) (s : σ) (bs : Made), (∀ i ∈ ord, ∀ j o, ops[j]? = some o → isStore o = true → j ≠ i → j ∈ waitsOn md ops i ops.size) →
      l.map some = ord.map (fun i => ops[i]?) → Closed md ops listed → thrFrom md ops ord listed = true → wpThr P ops C (R (listedOf ord listed)) l a s bs → anyT P md ops C R ord.length listed a s bs
  | [], l, listed, a, s, bs, _, hl, _, _, h => by
    have : l = [] := by simpa using hl
    subst this
    exact h
  | k :: ord, [], listed, a, s, bs, _, hl, _, _, _ => by simp at hl
  | k :: ord, o :: l, listed, a, s, bs, hst, hl, hc, hB, h => by
    have hl2 : some o = ops[k]? ∧ l.map some = ord.map (fun i => ops[i]?) := by simpa using hl
    have h0 : ops[k]? = some o := hl2.1.symm
    simp only [thrFrom, h0, Bool.and_eq_true] at hB
    obtain ⟨⟨⟨hr, hf⟩, hmk⟩, hB'⟩ := hB
    have hr' : k ∈ Region.ready md ops listed := by simpa using hr
    have hS := StrT_of_from ord _ (hc.set hr') (fun i hi => hst i (by simp [hi])) hB'
    have next : ∀ a' s' bs', wpThr P ops C (R (listedOf ord (listed.setIfInBounds k true))) l a' s' bs' → anyT P md ops C R ord.length (listed.setIfInBounds k true) a' s' bs' := fun a' s' bs' hh =>
      anyT_lex hR hsel hg ord l _ a' s' bs' (fun i hi => hst i (by simp [hi])) hl2.2 (hc.set hr') hB' hh
    have hh : if Region.wanted o (yielded ops a.tmps) then thrOp P C o a s bs (wpThr P ops C (R (listedOf ord (listed.setIfInBounds k true))) l)
        else wpThr P ops C (R (listedOf ord (listed.setIfInBounds k true))) l (a.put o.dst undef) s bs := h
    by_cases hm : isMk o = true ∨ isFnCall o = true
    · refine anyT_later hR h0 hm hg (Region.noSelect_spec hsel) ord.length listed a s bs hc (Region.free_spec h0 hf) (fun j oj hj hji hun hmj => ?_) hr' hS ?_
      · have hmo : (isMk o || isFnCall o) = true := by rcases hm with h | h <;> simp [h]
        simp only [hmo, Bool.not_true, Bool.false_or, List.all_eq_true, List.mem_range] at hmk
        have := hmk j (Array.getElem?_eq_some_iff.1 hj).1
        simpa [hj, hun, hmj, hji] using this
      · unfold gOpT
        simp only [h0]
        by_cases hw : Region.wanted o (yielded ops a.tmps) = true
        · simp only [hw, if_true] at hh ⊢
          exact thrOp_mono (fun a s bs h => next a s bs h) hh
        · have hw' : Region.wanted o (yielded ops a.tmps) = false := by simpa using hw
          simp only [hw', Bool.false_eq_true, if_false] at hh ⊢
          exact next _ _ _ hh
    · have hm1 : isMk o = false := Bool.eq_false_iff.2 fun h => hm (.inl h)
      have hm2 : isFnCall o = false := Bool.eq_false_iff.2 fun h => hm (.inr h)
      have hy : ∃ v, YieldsT P ops C o v a bs ∧ wpThr P ops C (R (listedOf ord (listed.setIfInBounds k true))) l (a.put o.dst v) s bs := by
        by_cases hw : Region.wanted o (yielded ops a.tmps) = true
        · simp only [hw, if_true, thrOp, hm1, hm2, Bool.false_eq_true, if_false] at hh
          obtain ⟨v, h1, h2⟩ := hh
          exact ⟨v, .inl ⟨hw, hm1, hm2, h1⟩, h2⟩
        · have hw' : Region.wanted o (yielded ops a.tmps) = false := by simpa using hw
          simp only [hw', Bool.false_eq_true, if_false] at hh
          exact ⟨undef, .inr ⟨hw', rfl⟩, hh⟩
      obtain ⟨v, hy, hn⟩ := hy
      exact anyT_first h0 (Region.noSelect_spec hsel) (hst k (by simp)) ord.length listed a s bs hc (Region.free_spec h0 hf) hr' hS hy (next _ _ _ hn)

/-- **ONE WALK IN A GIVEN ORDER SERVES EVERY ORDER.** -/
theorem wp_region_thr {rid : Nat} {Q : Exit → Act → World → Prop} {a : Act} {w : World} {l : List Oper} (C : Cls σ w) (s0 : σ) (nA : Nat) (ord : List Nat) (l' : List Oper) (hm : P.follows .mixedOrders = true) (hB : thrB .any l.toArray nA ord = true)
    (hmk : (l.all fun o => !isMk o || mkB P o) = true) (hl' : l' = ord.filterMap (fun i => l[i]?)) (h0 : C.In s0 [] w.drew)
    (h : wpThr P l.toArray C (fun a' s bs => ∀ w', C.In s bs w' → wpList P l.toArray Q (l.drop nA) a' w') l' a s0 []) : (Code.region rid l.toArray true).wp P Q a w := by
  unfold thrB at hB
  simp only [Bool.and_eq_true, List.all_eq_true, List.mem_range] at hB
  obtain ⟨⟨⟨⟨⟨hsel, hgd⟩, hst⟩, hG⟩, hS⟩, hlen⟩ := hB
  have hlen : ord.length = nA := by simpa using hlen
  let R : Array Bool → Act → σ → Made → Prop := fun listed a s bs => ∀ w', C.In s bs w' → wpAny P .any l.toArray Q (l.length - nA) listed a w'
  have hord : ∀ i ∈ ord, i < l.length := by
    have gen : ∀ (o : List Nat) (listed : Array Bool), listed.size = l.length → thrFrom .any l.toArray o listed = true → ∀ i ∈ o, i < l.length := by
      intro o
      induction o with
      | nil => intro _ _ _ i hi; cases hi
      | cons k o ih =>
        intro listed hsz h1 i hi
        simp only [thrFrom, Bool.and_eq_true] at h1
        obtain ⟨⟨⟨hr, _⟩, _⟩, h4⟩ := h1
        rcases List.mem_cons.1 hi with rfl | hi
        · obtain ⟨_, o', ho', _⟩ := mem_ready.1 (show i ∈ Region.ready .any l.toArray listed by simpa using hr)
          have := (Array.getElem?_eq_some_iff.1 ho').1
          simpa using this
        · exact ih _ (by simpa using hsz) h4 i hi
    exact gen ord _ (by simp) hG
  have hmap : l'.map some = ord.map (fun i => l.toArray[i]?) := by
    rw [hl']
    have gen : ∀ o : List Nat, (∀ i ∈ o, i < l.length) → (o.filterMap fun i => l[i]?).map some = o.map fun i => l.toArray[i]? := by
      intro o
      induction o with
      | nil => intro _; rfl
      | cons k o ih =>
        intro ho
        have hk := ho k (by simp)
        rw [List.filterMap_cons, List.getElem?_eq_getElem hk]
        simp only [List.map_cons]
        rw [ih (fun i hi => ho i (by simp [hi]))]
        simp [hk]
    exact gen ord hord
  have hle : nA ≤ l.length := by
    rcases Nat.lt_or_ge l.length nA with hlt | hge
    · exfalso
      -- more operations listed than there are
      have gen : ∀ (o : List Nat) (listed : Array Bool), listed.size = l.length → thrFrom .any l.toArray o listed = true → o.length + (listed.toList.filter id).length ≤ l.length := by
        intro o
        induction o with
        | nil => intro listed hsz _; have := List.length_filter_le (id : Bool → Bool) listed.toList; simp at this ⊢; omega
        | cons k o ih =>
          intro listed hsz h1
          simp only [thrFrom, Bool.and_eq_true] at h1
          obtain ⟨⟨⟨hr, _⟩, _⟩, h4⟩ := h1
          obtain ⟨hun, o', ho', _⟩ := mem_ready.1 (show k ∈ Region.ready .any l.toArray listed by simpa using hr)
          have hk : k < listed.size := by
            have := (Array.getElem?_eq_some_iff.1 ho').1
            simp at this; omega
          have h2 := ih _ (by simpa using hsz) h4
          have h3 : ((listed.setIfInBounds k true).toList.filter id).length = (listed.toList.filter id).length + 1 := by
            rw [Array.toList_setIfInBounds]
            have hk' : k < listed.toList.length := by simpa using hk
            have hv : listed.toList[k] = false := by
              have : listed.getD k true = false := hun
              simp [hk] at this
              simpa using this
            have e1 : listed.toList = listed.toList.take k ++ false :: listed.toList.drop (k + 1) := by
              conv => lhs; rw [← List.take_append_drop k listed.toList]
              rw [List.drop_eq_getElem_cons hk', hv]
            have e2 : listed.toList.set k true = listed.toList.take k ++ true :: listed.toList.drop (k + 1) := by
              rw [List.set_eq_take_append_cons_drop, if_pos hk']
            rw [e2]
            conv => rhs; rw [e1]
            simp [List.filter_append]
            omega
          simp only [List.length_cons]
          omega
      have := gen ord _ (by simp) hG
      omega
    · exact hge
  have hsd : (l.drop nA).length = l.length - nA := by simp
  refine wp_region_any hm ?_
  have hcl : Closed .any l.toArray (Array.replicate l.toArray.size false) := fun j o ho hj => by
    exfalso
    rcases Nat.lt_or_ge j l.length with h' | h' <;> simp [h'] at hj
  have hst' : ∀ i ∈ ord, ∀ j o, l.toArray[j]? = some o → isStore o = true → j ≠ i → j ∈ waitsOn .any l.toArray i l.toArray.size := fun i hi j o ho hs hne => by
    have := hst i hi j (Array.getElem?_eq_some_iff.1 ho).1
    rw [ho] at this
    simpa [hs, hne] using this
  have hany : anyT P .any l.toArray C R ord.length (Array.replicate l.toArray.size false) a s0 [] := by
    refine anyT_lex (fun _ _ _ bs bs' hp hh w' hD => hh w' (C.fewer hD fun x hx => (hp x).1 hx)) hsel (fun j o ho hmo => ?_) ord l' _ a s0 [] hst' hmap hcl hG ?_
    · have h1 := hgd j (Array.getElem?_eq_some_iff.1 ho).1
      rw [ho] at h1
      simp only [Option.map_some, Option.getD_some, hmo, Bool.not_true, Bool.false_or] at h1
      have h2 : o ∈ l := by
        have : l[j]? = some o := by simpa using ho
        exact List.mem_of_getElem? this
      have h3 := (List.all_eq_true.1 hmk) o h2
      simp only [hmo, Bool.not_true, Bool.false_or] at h3
      exact Mk.of_test h3
    · have mono : ∀ (l2 : List Oper) (a' : Act) (s' : σ) (bs' : Made), wpThr P l.toArray C (fun a' s bs => ∀ w', C.In s bs w' → wpList P l.toArray Q (l.drop nA) a' w') l2 a' s' bs' →
          wpThr P l.toArray C (R (listedOf ord (Array.replicate l.toArray.size false))) l2 a' s' bs' := by
        intro l2
        induction l2 with
        | nil =>
          intro a' s' bs' hh w' hD
          have := wpAny_seq (md := .any) (l.drop nA) nA (listedOf ord (Array.replicate l.toArray.size false)) a' w' (fun j hj => by simp) (by rw [hsd]; simpa using hS) (hh w' hD)
          rwa [hsd] at this
        | cons o l2 ih =>
          intro a' s' bs' hh
          have hh' : if Region.wanted o (yielded l.toArray a'.tmps) then thrOp P C o a' s' bs' (wpThr P l.toArray C (fun a' s bs => ∀ w', C.In s bs w' → wpList P l.toArray Q (l.drop nA) a' w') l2)
              else wpThr P l.toArray C (fun a' s bs => ∀ w', C.In s bs w' → wpList P l.toArray Q (l.drop nA) a' w') l2 (a'.put o.dst undef) s' bs' := hh
          show if _ then _ else _
          split
          · rename_i hw; simp only [hw, if_true] at hh'; exact thrOp_mono ih hh'
          · rename_i hw; simp only [hw, Bool.false_eq_true, if_false] at hh'; exact ih _ _ _ hh'
      exact mono _ _ _ _ h
  have hstr := StrT_of_from ord _ hcl hst' hG
  have hfin := wpAny_of_anyT (W := w) (C := C) (Q := R) (nB := l.length - nA) (Q' := Q) (fun listed a s bs w' hD hh => hh w' hD) ord.length (Array.replicate l.toArray.size false) a s0 [] w.drew h0 hstr hany
  rw [hlen] at hfin
  have e : nA + (l.length - nA) = l.toArray.size := by simp; omega
  rwa [e] at hfin

/-! ### Steps of the walk -/
variable {Q : Act → σ → Made → Prop} {o : Oper} {rest : List Oper} {a a' : Act} {s : σ} {bs : Made}
theorem wpThr_val (hm : isMk o = false) (hc : isFnCall o = false) (hw : Region.wanted o (yielded ops a.tmps) = true)
    (h : ∃ v, (∀ s' bs' w, (∀ x ∈ bs, x ∈ bs') → C.In s' bs' w → growUpon P w v ((execOp a.eval o).run P w)) ∧ wpThr P ops C Q rest (a.put o.dst v) s bs) : wpThr P ops C Q (o :: rest) a s bs := by
  show if _ then _ else _
  simp only [hw, if_true, thrOp, hm, hc, Bool.false_eq_true, if_false]
  exact h
theorem wpThr_call (Post : Value → σ → Prop) (hm : isMk o = false) (hc : isFnCall o = true) (hw : Region.wanted o (yielded ops a.tmps) = true)
    (h1 : ∀ bs' w, (∀ x ∈ bs, x ∈ bs') → C.In s bs' w → thrUpon P C bs' Post w ((execOp a.eval o).run P w)) (h2 : ∀ v s', Post v s' → wpThr P ops C Q rest (a.put o.dst v) s' bs) : wpThr P ops C Q (o :: rest) a s bs := by
  show if _ then _ else _
  simp only [hw, if_true, thrOp, hm, hc, Bool.false_eq_true, if_false]
  exact ⟨Post, h1, h2⟩
theorem wpThr_pass (hw : Region.wanted o (yielded ops a.tmps) = false) (h : wpThr P ops C Q rest (a.put o.dst undef) s bs) : wpThr P ops C Q (o :: rest) a s bs := by
  show if _ then _ else _
  simp only [hw, Bool.false_eq_true, if_false]
  exact h
theorem wpThr_mk {O : Obj} {sh : Option Nat} (hm : isMk o = true) (hO : Mk P o O sh)
    (h : ∀ b, W.heap.size ≤ b → (∀ x ∈ bs, x.1 ≠ b) → wpThr P ops C Q rest (a.put o.dst (mval sh b)) s ((b, O) :: bs)) : wpThr P ops C Q (o :: rest) a s bs := by
  show if _ then _ else _
  simp only [show Region.wanted o (yielded ops a.tmps) = true by simp [Region.wanted, hO.1], if_true, thrOp, hm]
  exact ⟨O, sh, hO, h⟩
theorem wpThr_make {O : Obj} (hm : isMk o = true) (hg : o.guard = none) (hO : makes P o = some O)
    (h : ∀ b, W.heap.size ≤ b → (∀ x ∈ bs, x.1 ≠ b) → wpThr P ops C Q rest (a.put o.dst (.pointer (some ⟨b, 0, none⟩))) s ((b, O) :: bs)) : wpThr P ops C Q (o :: rest) a s bs := wpThr_mk hm (Mk.alloc hg hO) h
theorem wpThr_empty {t e : TypeId} {i : TypeInfo} (hm : isMk o = true) (hg : o.guard = none) (ho : o.op = .buildSlice t 0 #[]) (ht : P.underlying t = some (.slice e)) (hi : P.info? e = some i)
    (h : ∀ b, W.heap.size ≤ b → (∀ x ∈ bs, x.1 ≠ b) → wpThr P ops C Q rest (a.put o.dst (.slice (some ⟨b, 0, none⟩) 0 0)) s ((b, .cells #[] e) :: bs)) : wpThr P ops C Q (o :: rest) a s bs := wpThr_mk hm (Mk.empty hg ho ht hi) h
theorem wpThr_nil (h : Q a s bs) : wpThr P ops C Q [] a s bs := h
theorem wpThr_at (e : a = a') {l : List Oper} (h : wpThr P ops C Q l a' s bs) : wpThr P ops C Q l a s bs := e ▸ h
theorem thrUpon_ok {Post : Value → σ → Prop} {w w' : World} {u : Value} (h : ∃ s', Post u s' ∧ C.In s' bs w') : thrUpon P C bs Post w (.ok (.value u) w') := h
theorem thrUpon_call {Post : Value → σ → Prop} {w : World} {f : FuncId} {args : Array Value} (h : Calls P f args w (fun e w'' => ∃ v s', e = .returned v ∧ Post v s' ∧ C.In s' bs w'')) : thrUpon P C bs Post w (.ok (.enter f args) w) := ⟨rfl, h⟩
end
end Go.Proofs.Ytoeamnagmehpeaa


/- What lies in memory with a footprint and a state; calls that take a state to another; the class of worlds that a drawn region goes through. -/
namespace Go.Proofs.Ytoeamnagmehpeaa
set_option linter.unusedSimpArgs false
set_option linter.unusedVariables false
open Go Go.RowKit

structure Res (σ : Type) where
  at_ : World → (Nat → Prop) → σ → Prop
  below : ∀ {w w' F s}, at_ w F s → Below w.heap.size w w' → at_ w' F s
  lt : ∀ {w F s}, at_ w F s → ∀ b, F b → b < w.heap.size

section
variable {σ : Type} {P : Program} {R : Res σ} {w w' W : World} {F F' F0 : Nat → Prop} {s s' : σ}
/-- A call takes a state to another, and leaves what is not the resource's as it was. -/
def Does (P : Program) (R : Res σ) (f : FuncId) (args : Array Value) (s : σ) (Post : Value → σ → Prop) : Prop :=
  ∀ w F, R.at_ w F s → Calls P f args w fun e w' => ∃ v s' F', e = .returned v ∧ Post v s' ∧ R.at_ w' F' s' ∧ Fr w F w' F'
theorem Does.run {f : FuncId} {args : Array Value} {Post : Value → σ → Prop} (h : Does P R f args s Post) (w : World) (F : Nat → Prop) (ha : R.at_ w F s) : Calls P f args w fun e w' => ∃ v s' F', e = .returned v ∧ Post v s' ∧ R.at_ w' F' s' ∧ Fr w F w' F' := h w F ha
theorem Does.mono {f : FuncId} {args : Array Value} {Post Post' : Value → σ → Prop} (h : Does P R f args s Post) (hp : ∀ v s', Post v s' → Post' v s') : Does P R f args s Post' := fun w F ha =>
  (h w F ha).mono fun _ _ ⟨v, s', F', he, h1, h2, h3⟩ => ⟨v, s', F', he, hp v s' h1, h2, h3⟩
/-- a call that only reads, and may leave garbage. -/
theorem Does.of_below {f : FuncId} {args : Array Value} {v : Value} (h : ∀ w F, R.at_ w F s → Calls P f args w fun e w' => e = .returned v ∧ Below w.heap.size w w') : Does P R f args s (fun u s' => u = v ∧ s' = s) := fun w F ha =>
  (h w F ha).mono fun _ _ ⟨he, hb⟩ => ⟨v, s, F, he, ⟨rfl, rfl⟩, R.below ha hb, Fr.of_below hb⟩

/-- the worlds of a region that begins in W. -/
def resCls (R : Res σ) (W : World) (F0 : Nat → Prop) : Cls σ W where
  In := fun s bs w => ∃ F, R.at_ w F s ∧ Fr W F0 w F ∧ ∀ x ∈ bs, W.heap.size ≤ x.1 ∧ w.heap[x.1]? = some x.2 ∧ ¬ F x.1
  below := fun {s bs w w'} ⟨F, h1, h2, h3⟩ hb => ⟨F, R.below h1 hb, h2.trans (Fr.of_below hb), fun x hx => ⟨(h3 x hx).1, (hb.block x.1 (Array.getElem?_eq_some_iff.1 (h3 x hx).2.1).1).trans (h3 x hx).2.1, (h3 x hx).2.2⟩⟩
  alloc := fun {s bs w} O ⟨F, h1, h2, h3⟩ => by
    have hb : Below w.heap.size w (w.alloc O) := (Below.refl _ _).alloc (Nat.le_refl _) O
    refine ⟨F, R.below h1 hb, h2.trans (Fr.of_below hb), fun x hx => ?_⟩
    rcases List.mem_cons.1 hx with rfl | hx
    · exact ⟨h2.size, by show (w.heap.push O)[w.heap.size]? = _; simp, fun hf => absurd (R.lt h1 _ hf) (Nat.lt_irrefl _)⟩
    · exact ⟨(h3 x hx).1, (Below.heap_alloc w O x.1 (Array.getElem?_eq_some_iff.1 (h3 x hx).2.1).1).trans (h3 x hx).2.1, (h3 x hx).2.2⟩
  fresh := fun {s bs w} ⟨F, h1, h2, h3⟩ => ⟨h2.size, fun x hx => (Array.getElem?_eq_some_iff.1 (h3 x hx).2.1).1⟩
  fewer := fun {s bs bs' w} ⟨F, h1, h2, h3⟩ hs => ⟨F, h1, h2, fun x hx => h3 x (hs x hx)⟩

theorem resCls_start (h : R.at_ W F0 s) : (resCls R W F0).In s [] W.drew := by
  have hb : Below W.heap.size W W.drew := (Below.refl _ _).drew
  exact ⟨F0, R.below h hb, Fr.of_below hb, fun x hx => by cases hx⟩
theorem resCls_upon {f : FuncId} {args : Array Value} {Post : Value → σ → Prop} (h : Does P R f args s Post) {bs : Made} (hw : (resCls R W F0).In s bs w) : thrUpon P (resCls R W F0) bs Post w (.ok (.enter f args) w) := by
  obtain ⟨F, h1, h2, h3⟩ := hw
  refine ⟨rfl, (h w F h1).mono fun e w' ⟨v, s', F', he, hp, ha, hf⟩ => ⟨v, s', he, hp, F', ha, h2.trans hf, fun x hx => ?_⟩⟩
  obtain ⟨g1, g2, g3⟩ := h3 x hx
  have hlt := (Array.getElem?_eq_some_iff.1 g2).1
  exact ⟨g1, (hf.keep _ hlt g3).trans g2, hf.out hlt g3⟩
/-- cells that are not the resource's. -/
theorem resCls_cell {bs : Made} (hw : (resCls R W F0).In s bs w) {b : Nat} (hb : b < W.heap.size) (hn : ¬ F0 b) (o : Nat) : w.cell? ⟨b, o, none⟩ = W.cell? ⟨b, o, none⟩ := by
  obtain ⟨F, _, h2, _⟩ := hw
  exact h2.cell hb hn o

/-- a resource, and what holds as long as nothing but the resource changes. -/
def Res.with_ (R : Res σ) (C : World → (Nat → Prop) → Prop) (hC : ∀ {w F w' F'}, C w F → Fr w F w' F' → C w' F') : Res σ where
  at_ := fun w F s => R.at_ w F s ∧ C w F
  below := fun h hb => ⟨R.below h.1 hb, hC h.2 (Fr.of_below hb)⟩
  lt := fun h => R.lt h.1
theorem Does.with_ {C : World → (Nat → Prop) → Prop} {hC : ∀ {w F w' F'}, C w F → Fr w F w' F' → C w' F'} {f : FuncId} {args : Array Value} {Post : Value → σ → Prop} (h : Does P R f args s Post) : Does P (R.with_ C hC) f args s Post := fun w F ha =>
  (h w F ha.1).mono fun _ _ ⟨v, s', F', he, hp, h1, h2⟩ => ⟨v, s', F', he, hp, ⟨h1, hC ha.2 h2⟩, h2⟩
end
end Go.Proofs.Ytoeamnagmehpeaa


/- States that are whatever holds of a world and a footprint; appends inside a drawn region. -/
namespace Go.Proofs.Ytoeamnagmehpeaa
set_option linter.unusedSimpArgs false
set_option linter.unusedVariables false
open Go Go.RowKit

/-- what holds of a world and a footprint, and stays where memory is only added. -/
structure PSt where
  at_ : World → (Nat → Prop) → Prop
  below : ∀ {w w' F}, at_ w F → Below w.heap.size w w' → at_ w' F
  lt : ∀ {w F}, at_ w F → ∀ b, F b → b < w.heap.size
def resAny : Res PSt := ⟨fun w F s => s.at_ w F, fun {w w' F s} h hb => s.below h hb, fun {w F s} h => s.lt h⟩
/-- no footprint: what holds of a world. -/
def PSt.of (I : World → Prop) (h : ∀ {w w'}, I w → Below w.heap.size w w' → I w') : PSt := ⟨fun w F => (∀ b, ¬ F b) ∧ I w, fun ⟨h1, h2⟩ hb => ⟨h1, h h2 hb⟩, fun ⟨h1, _⟩ b hb => absurd hb (h1 b)⟩
/-- the footprint is a slice's own row. -/
def PSt.own (v : Value) (I : World → Prop) (h : ∀ {w w'}, I w → Below w.heap.size w w' → I w') (hl : ∀ {w}, I w → ∀ b, v.ownBlock = some b → b < w.heap.size) : PSt :=
  ⟨fun w F => (∀ b, F b ↔ v.ownBlock = some b) ∧ I w, fun ⟨h1, h2⟩ hb => ⟨h1, h h2 hb⟩, fun ⟨h1, h2⟩ b hb => hl h2 b ((h1 b).1 hb)⟩

section
variable {σ : Type} {P : Program} {R : Res σ} {w W : World} {F0 : Nat → Prop} {s : σ} {bs : Made} {Post : Value → σ → Prop}
theorem resCls_run {f : FuncId} {args : Array Value} (hw : (resCls R W F0).In s bs w) (h : ∀ F, R.at_ w F s → Fr W F0 w F → Calls P f args w fun e w' => ∃ v s' F', e = .returned v ∧ Post v s' ∧ R.at_ w' F' s' ∧ Fr w F w' F') :
    thrUpon P (resCls R W F0) bs Post w (.ok (.enter f args) w) := by
  obtain ⟨F, h1, h2, h3⟩ := hw
  refine ⟨rfl, (h F h1 h2).mono fun e w' ⟨v, s', F', he, hp, ha, hf⟩ => ⟨v, s', he, hp, F', ha, h2.trans hf, fun x hx => ?_⟩⟩
  obtain ⟨g1, g2, g3⟩ := h3 x hx
  have hlt := (Array.getElem?_eq_some_iff.1 g2).1
  exact ⟨g1, (hf.keep _ hlt g3).trans g2, hf.out hlt g3⟩
theorem resCls_ok {r : Result Next} (hw : (resCls R W F0).In s bs w) (h : ∀ F, R.at_ w F s → Fr W F0 w F → (∀ x ∈ bs, ¬ F x.1 ∧ w.heap[x.1]? = some x.2) → ∃ u w' s' F', r = .ok (.value u) w' ∧ Post u s' ∧ R.at_ w' F' s' ∧ Fr w F w' F') :
    thrUpon P (resCls R W F0) bs Post w r := by
  obtain ⟨F, h1, h2, h3⟩ := hw
  obtain ⟨u, w', s', F', rfl, hp, ha, hf⟩ := h F h1 h2 (fun x hx => ⟨(h3 x hx).2.2, (h3 x hx).2.1⟩)
  refine ⟨s', hp, F', ha, h2.trans hf, fun x hx => ?_⟩
  obtain ⟨g1, g2, g3⟩ := h3 x hx
  have hlt := (Array.getElem?_eq_some_iff.1 g2).1
  exact ⟨g1, (hf.keep _ hlt g3).trans g2, hf.out hlt g3⟩
/-- where the region began without a footprint: nothing that stood is changed. -/
theorem resCls_below {bs : Made} (h0 : ∀ b, ¬ F0 b) (hw : (resCls R W F0).In s bs w) : Below W.heap.size W w := by
  obtain ⟨F, _, h2, _⟩ := hw
  exact h2.below (Below.refl _ _) (fun b hb => absurd hb (h0 b)) (Nat.le_refl _)
theorem run_exec_append {o : Oper} {a : Act} {s x : Operand} {t : TypeId} {v v2 v' : Value} {w' : World} (ho : o.op = .call { callee := .builtin .append, args := #[s, x], argTypes := #[t, t] }) (hs : a.eval s = v) (hx : a.eval x = v2)
    (hr : (Builtin.append_ #[t, t] o.type #[v, v2]).run P w = .ok v' w') : (execOp a.eval o).run P w = .ok (.value v') w' := by
  unfold execOp
  simp only [ho, resolve, invoke, builtin, Sem.run_bind, Sem.run_pure, Result.andThen_ok, List.map_toArray, List.map_cons, List.map_nil, hs, hx, hr]
end

theorem below_of_grown {w w' : World} (h : w.grownBy w' none) : Below w.heap.size w w' := ⟨h.os, h.tape, h.output, h.size, fun b hb => h.block b hb (by simp)⟩
theorem fr_of_grown {w w' : World} {v v' : Value} (h : w.grownBy w' v.ownBlock) (hat : ∀ b, v'.ownBlock = some b → v.ownBlock = some b ∨ w.heap.size ≤ b) : Fr w (fun b => v.ownBlock = some b) w' (fun b => v'.ownBlock = some b) :=
  ⟨h.os, h.tape, h.output, h.size, fun b hb hn => h.block b hb (fun e => hn e.symm), fun b hb => hat b hb⟩
end Go.Proofs.Ytoeamnagmehpeaa


/- Opening arguments: slices of structs with one-cell fields. -/
namespace Go.Proofs.Ytoeamnagmehpeaa
set_option linter.unusedSimpArgs false
set_option linter.unusedVariables false
open Go Go.RowKit Go.Deep

section
variable {H : Type} {enc : TypeId × Value → H} {P : Program} {W : World} {base : Nat} {spare : Nat → Bool} {held : Bool}

/-- A slice that came in, element by element: 'dec' says what an element's cells are. -/
theorem open_rows {α : Type} [Inhabited α] (cells : α → List Value) (good : α → Prop) {t e : TypeId} {S : Nat} (hS : P.cellsOf e = S) (h0 : 0 < S) (ht : P.underlying t = some (.slice e))
    (dec : ∀ n cs y, DataW.trod enc P W base spare held n e cs = some y → ∃ x, cs = cells x ∧ good x) {A : Option Addr} {len cap : Nat} {d : DataW H} {p : List MemPlace}
    (h : DataW.Trod enc P W base spare held t (.slice A len cap) d p) :
    ∃ l : List α, l.length = len ∧ (∀ x ∈ l, good x) ∧ len ≤ cap ∧ cap ≤ maxLen ∧ SlAt W W.heap.size S len A (fun i j => (cells (l.getD i default)).getD j undef) := by
  obtain ⟨fuel, hf⟩ := h
  rcases open_slice ht hf with ⟨hcs, _⟩ | ⟨a, len', cap', m, n, D, Pl, hcs, hb, hl, hm, hmm, _, hx⟩
  · simp [Value.cells] at hcs
    obtain ⟨rfl, rfl, rfl⟩ := hcs
    exact ⟨[], rfl, fun x hx => (by cases hx), Nat.le_refl _, (by unfold maxLen; omega), SlAt.none_⟩
  · simp [Value.cells] at hcs
    obtain ⟨rfl, rfl, rfl⟩ := hcs
    have hlm : len ≤ m := by rw [hmm]; split <;> omega
    have each : ∀ i, i < len → ∃ x : α, good x ∧ (cells x).length = S ∧ ∀ j, j < S → W.cell? (a.add (i * S + j)) = some ((cells x).getD j undef) := by
      intro i hi
      obtain ⟨cs, h1, h2⟩ := hx i (by omega)
      rw [hS] at h1
      obtain ⟨_, hlen, hcell⟩ := World.cells?_some h1
      obtain ⟨x, rfl, hg⟩ := dec _ _ _ h2
      refine ⟨x, hg, hlen, fun j hj => ?_⟩
      have := hcell j hj
      rw [add_add] at this
      rw [this]
      simp [List.getD, show j < (cells x).length by omega]
    obtain ⟨X, hX⟩ := choose_lt each
    refine ⟨(List.range len).map X, by simp, fun x hx => ?_, hl, hm, fun hn => ?_⟩
    · obtain ⟨i, hi, rfl⟩ := List.mem_map.1 hx
      exact (hX i (List.mem_range.1 hi)).1
    · have hc0 := (hX 0 hn).2.2 0 h0
      have hspot : a.spot = none := by
        have := World.cell?_spot hc0
        simpa [Addr.add] using this
      obtain ⟨b, off, sp⟩ := a
      subst hspot
      refine ⟨b, off, rfl, by have := World.block_lt_of_cell? W _ hc0; simpa [Addr.add] using this, fun i j hi hj => ?_⟩
      have h3 := (hX i hi).2.2 j hj
      have e1 : ((⟨b, off, none⟩ : Addr).add (i * S + j)) = ⟨b, off + (i * S + j), none⟩ := by
        unfold Addr.add
        split
        · rename_i hz; simp [hz]
        · rfl
      rw [e1] at h3
      rw [h3]
      simp [List.getD, hi]
end
theorem list1 {α : Type} {cs : List α} (h : cs.length = 1) : ∃ c0, cs = [c0] := by
  match cs, h with
  | [c0], _ => exact ⟨c0, rfl⟩
theorem list2 {α : Type} {cs : List α} (h : cs.length = 2) : ∃ c0 c1, cs = [c0, c1] := by
  match cs, h with
  | [c0, c1], _ => exact ⟨c0, c1, rfl⟩
theorem list3 {α : Type} {cs : List α} (h : cs.length = 3) : ∃ c0 c1 c2, cs = [c0, c1, c2] := by
  match cs, h with
  | [c0, c1, c2], _ => exact ⟨c0, c1, c2, rfl⟩
theorem list4 {α : Type} {cs : List α} (h : cs.length = 4) : ∃ c0 c1 c2 c3, cs = [c0, c1, c2, c3] := by
  match cs, h with
  | [c0, c1, c2, c3], _ => exact ⟨c0, c1, c2, c3, rfl⟩
theorem list5 {α : Type} {cs : List α} (h : cs.length = 5) : ∃ c0 c1 c2 c3 c4, cs = [c0, c1, c2, c3, c4] := by
  match cs, h with
  | [c0, c1, c2, c3, c4], _ => exact ⟨c0, c1, c2, c3, c4, rfl⟩
theorem list6 {α : Type} {cs : List α} (h : cs.length = 6) : ∃ c0 c1 c2 c3 c4 c5, cs = [c0, c1, c2, c3, c4, c5] := by
  match cs, h with
  | [c0, c1, c2, c3, c4, c5], _ => exact ⟨c0, c1, c2, c3, c4, c5, rfl⟩
theorem list7 {α : Type} {cs : List α} (h : cs.length = 7) : ∃ c0 c1 c2 c3 c4 c5 c6, cs = [c0, c1, c2, c3, c4, c5, c6] := by
  match cs, h with
  | [c0, c1, c2, c3, c4, c5, c6], _ => exact ⟨c0, c1, c2, c3, c4, c5, c6, rfl⟩
theorem list8 {α : Type} {cs : List α} (h : cs.length = 8) : ∃ c0 c1 c2 c3 c4 c5 c6 c7, cs = [c0, c1, c2, c3, c4, c5, c6, c7] := by
  match cs, h with
  | [c0, c1, c2, c3, c4, c5, c6, c7], _ => exact ⟨c0, c1, c2, c3, c4, c5, c6, c7, rfl⟩
end Go.Proofs.Ytoeamnagmehpeaa


/- Regions that draw their order, whose operations only read and whose callees only add to memory: the quiet walk over a class of worlds. -/
namespace Go.Proofs.Ytoeamnagmehpeaa
set_option linter.unusedSimpArgs false
set_option linter.unusedVariables false
open Go Go.RowKit

/-- a world of a class. -/
structure Wd (I : World → Prop) where
  w : World
  h : I w

section
variable {P : Program} {I : World → Prop}
theorem wp_region_wd (I : World → Prop) {id : Nat} {Q : Exit → Act → World → Prop} {a : Act} {w : World} {l : List Oper} (hm : P.follows .mixedOrders = true) (hB : Region.lexB .any l.toArray = true) (h0 : I w.drew)
    (h : wpQuiet P l.toArray (fun w' => ∃ x : Wd I, w' = x.w) (fun a' => ∀ w', (∃ x : Wd I, w' = x.w) → Q .normal a' w') l a) : (Code.region id l.toArray true).wp P Q a w :=
  wp_region_quiet (C := fun w' => ∃ x : Wd I, w' = x.w) hm hB ⟨⟨_, h0⟩, rfl⟩ (by simpa using h)
/-- a callee that keeps the class. -/
theorem Wd.call {f : FuncId} {args : Array Value} {x : Wd I} {v : Value} (h : Calls P f args x.w fun e w' => e = .returned v ∧ I w') : Calls P f args x.w fun e w'' => e = .returned v ∧ ∃ y : Wd I, w'' = y.w :=
  h.mono fun _ w' ⟨he, hi⟩ => ⟨he, ⟨w', hi⟩, rfl⟩
/-- the class of what is behind a world. -/
abbrev Bw (W : World) : Type := Wd (fun w' => Below W.heap.size W w')
instance (W : World) : Nonempty (Wd fun w' => Below W.heap.size W w') := ⟨⟨W, Below.refl _ _⟩⟩
theorem Bw.call {W : World} {f : FuncId} {args : Array Value} {x : Bw W} {v : Value} (h : Calls P f args x.w fun e w' => e = .returned v ∧ Below x.w.heap.size x.w w') : Calls P f args x.w fun e w'' => e = .returned v ∧ ∃ y : Bw W, w'' = y.w :=
  Wd.call (h.mono fun _ _ ⟨he, hb⟩ => ⟨he, x.h.trans (hb.mono x.h.size)⟩)
theorem Bw.same {W : World} {f : FuncId} {args : Array Value} {x : Bw W} {v : Value} (h : Calls P f args x.w fun e w' => e = .returned v ∧ x.w = w') : Calls P f args x.w fun e w'' => e = .returned v ∧ ∃ y : Bw W, w'' = y.w :=
  Bw.call (h.mono fun _ _ ⟨he, hb⟩ => ⟨he, hb ▸ Below.refl _ _⟩)
theorem Bw.start (W : World) : Below W.heap.size W W.drew := (Below.refl _ _).drew
theorem Bw.cell {W : World} {b o : Nat} {v : Option Value} (hb : b < W.heap.size) (h : W.cell? ⟨b, o, none⟩ = v) : ∀ x : Bw W, x.w.cell? ⟨b, o, none⟩ = v := fun x => (x.h.cell (p := ⟨b, o, none⟩) hb).trans h
theorem Bw.lt {W : World} {b : Nat} (hb : b < W.heap.size) : ∀ x : Bw W, b < x.w.heap.size := fun x => Nat.lt_of_lt_of_le hb x.h.size
end
end Go.Proofs.Ytoeamnagmehpeaa


/- The end of a quiet walk over a class of worlds. -/
namespace Go.Proofs.Ytoeamnagmehpeaa
set_option linter.unusedSimpArgs false
set_option linter.unusedVariables false
open Go Go.RowKit
theorem wd_all {I : World → Prop} {Q : World → Prop} (h : ∀ w', I w' → Q w') : ∀ w', (∃ x : Wd I, w' = x.w) → Q w' := fun w' ⟨x, e⟩ => e ▸ h _ x.h
end Go.Proofs.Ytoeamnagmehpeaa


/- A region that draws its order, whose operations read, call functions that only add to memory, make variables, and store into what they made: one walk in the order of the text serves every order (what only reads may come behind a store, too). -/
namespace Go.Proofs.Ytoeamnagmehpeaa
set_option linter.unusedSimpArgs false
set_option linter.unusedVariables false
open Go Go.RowKit

section
variable {P : Program} {ops : Array Oper} {md : Region.Mode} {W : World}

/-- a block is another one, all else is as it was. -/
structure SetAt (w : World) (b : Nat) (O : Obj) (w' : World) : Prop where
  os : w'.os = w.os
  tape : w'.tape = w.tape
  output : w'.output = w.output
  size : w'.heap.size = w.heap.size
  other : ∀ k, k ≠ b → w'.heap[k]? = w.heap[k]?
  at_ : w'.heap[b]? = some O
def updB (bs : List (Nat × Obj)) (b : Nat) (O : Obj) : List (Nat × Obj) := bs.map fun x => if x.1 = b then (b, O) else x
theorem mem_updB {bs : List (Nat × Obj)} {b : Nat} {O : Obj} {x : Nat × Obj} (h : x ∈ updB bs b O) : x = (b, O) ∨ (x.1 ≠ b ∧ x ∈ bs) := by
  unfold updB at h
  obtain ⟨y, hy, rfl⟩ := List.mem_map.1 h
  by_cases e : y.1 = b
  · rw [if_pos e]; exact .inl rfl
  · rw [if_neg e]; exact .inr ⟨e, hy⟩
theorem InD.set {bs : List (Nat × Obj)} {w w' : World} {b : Nat} {O O0 : Obj} (h : InD W bs w) (hb : (b, O0) ∈ bs) (hs : SetAt w b O w') : InD W (updB bs b O) w' := by
  have hge := (h.at_ _ hb).1
  refine ⟨⟨hs.os.trans h.below.os, hs.tape.trans h.below.tape, hs.output.trans h.below.output, by rw [hs.size]; exact h.below.size, fun k hk => (hs.other k (by simp only at hge; omega)).trans (h.below.block k hk)⟩, fun x hx => ?_⟩
  rcases mem_updB hx with rfl | ⟨hne, hx⟩
  · exact ⟨hge, hs.at_⟩
  · exact ⟨(h.at_ x hx).1, (hs.other _ hne).trans (h.at_ x hx).2⟩

def growOpS (P : Program) (W : World) (o : Oper) (a : Act) (bs : List (Nat × Obj)) (K : Act → List (Nat × Obj) → Prop) : Prop :=
  if isMaker o then ∃ O, makes P o = some O ∧ ∀ b, W.heap.size ≤ b → (∀ x ∈ bs, x.1 ≠ b) → K (a.put o.dst (.pointer (some ⟨b, 0, none⟩))) ((b, O) :: bs)
  else if isStore o then ∃ b O0 O, (b, O0) ∈ bs ∧ (∀ w, InD W bs w → ∃ w', (execOp a.eval o).run P w = .ok .skip w' ∧ SetAt w b O w') ∧ K (a.put o.dst undef) (updB bs b O)
  else ∃ v, (∀ w, Below W.heap.size W w → growUpon P w v ((execOp a.eval o).run P w)) ∧ K (a.put o.dst v) bs

def gOpS (P : Program) (ops : Array Oper) (W : World) (j : Nat) (K : Act → List (Nat × Obj) → Prop) (a : Act) (bs : List (Nat × Obj)) : Prop :=
  match ops[j]? with
  | none => K a bs
  | some o => if Region.wanted o (yielded ops a.tmps) then growOpS P W o a bs K else K (a.put o.dst undef) bs

theorem growOpS_mono {o : Oper} {a : Act} {bs : List (Nat × Obj)} {K K' : Act → List (Nat × Obj) → Prop} (h : ∀ a bs, K a bs → K' a bs) (hh : growOpS P W o a bs K) : growOpS P W o a bs K' := by
  unfold growOpS at *
  split
  · rename_i hm; simp only [hm, if_true] at hh; obtain ⟨O, h1, h2⟩ := hh; exact ⟨O, h1, fun b hb hf => h _ _ (h2 b hb hf)⟩
  · rename_i hm
    simp only [hm, Bool.false_eq_true, if_false] at hh
    split
    · rename_i hs; simp only [hs, if_true] at hh; obtain ⟨b, O0, O, h1, h2, h3⟩ := hh; exact ⟨b, O0, O, h1, h2, h _ _ h3⟩
    · rename_i hs; simp only [hs, Bool.false_eq_true, if_false] at hh; obtain ⟨v, h1, h2⟩ := hh; exact ⟨v, h1, h _ _ h2⟩

theorem gOpS_mono {j : Nat} {a : Act} {bs : List (Nat × Obj)} {K K' : Act → List (Nat × Obj) → Prop} (h : ∀ a bs, K a bs → K' a bs) (hh : gOpS P ops W j K a bs) : gOpS P ops W j K' a bs := by
  unfold gOpS at *
  split
  · rename_i ho; simp only [ho] at hh; exact h _ _ hh
  · rename_i o ho
    simp only [ho] at hh
    split
    · rename_i hw; simp only [hw, if_true] at hh; exact growOpS_mono h hh
    · rename_i hw; simp only [hw] at hh; exact h _ _ hh

/-- The walk in the order of the text. -/
def wpSto (P : Program) (ops : Array Oper) (W : World) (Q : Act → List (Nat × Obj) → Prop) : List Oper → Act → List (Nat × Obj) → Prop
  | [], a, bs => Q a bs
  | o :: rest, a, bs => if Region.wanted o (yielded ops a.tmps) then growOpS P W o a bs (wpSto P ops W Q rest) else wpSto P ops W Q rest (a.put o.dst undef) bs

/-- Whatever order is picked. -/
def anyS (P : Program) (md : Region.Mode) (ops : Array Oper) (W : World) (Q : Act → List (Nat × Obj) → Prop) : Nat → Array Bool → Act → List (Nat × Obj) → Prop
  | 0, listed, a, bs => Region.ready md ops listed = [] ∧ Q a bs
  | fuel + 1, listed, a, bs => Region.ready md ops listed ≠ [] ∧ ∀ j ∈ Region.ready md ops listed, gOpS P ops W j (anyS P md ops W Q fuel (listed.setIfInBounds j true)) a bs

theorem wpOp_of_gOpS {j : Nat} {a : Act} {bs : List (Nat × Obj)} {w : World} {K : Act → List (Nat × Obj) → Prop} {K' : Act → World → Prop} {Q' : Exit → Act → World → Prop} (hD : InD W bs w)
    (h : ∀ a' bs' w', InD W bs' w' → K a' bs' → K' a' w') (hh : gOpS P ops W j K a bs) : wpOp P ops Q' j K' a w := by
  unfold gOpS at hh
  unfold wpOp
  split
  · rename_i ho; simp only [ho] at hh; exact h _ _ _ hD hh
  · rename_i o ho
    simp only [ho] at hh
    split
    · rename_i hw
      simp only [hw, if_true] at hh
      refine .inl ?_
      unfold growOpS at hh
      split at hh
      · obtain ⟨O, h1, h2⟩ := hh
        unfold Oper.wp
        rw [run_maker h1]
        exact h _ _ _ (hD.add O) (h2 _ hD.below.size fun x hx => Nat.ne_of_lt (hD.lt hx))
      · split at hh
        · obtain ⟨b, O0, O, h1, h2, h3⟩ := hh
          obtain ⟨w', hr, hs⟩ := h2 w hD
          unfold Oper.wp
          rw [hr]
          exact h _ _ _ (hD.set h1 hs) h3
        · obtain ⟨v, h1, h2⟩ := hh
          have h3 := h1 w hD.below
          unfold Oper.wp
          generalize (execOp a.eval o).run P w = r at *
          cases r with
          | ok n w' =>
            cases n <;> simp only [growUpon] at h3 <;> simp only [Oper.upon]
            case value u => obtain ⟨rfl, hb⟩ := h3; exact h _ _ _ (hD.grow hb) h2
            case skip => obtain ⟨e, hb⟩ := h3; rw [← e]; exact h _ _ _ (hD.grow hb) h2
            case enter f args =>
              obtain ⟨rfl, hc⟩ := h3
              exact hc.mono fun e w'' ⟨he, hb⟩ => by subst he; exact h _ _ _ (hD.grow hb) h2
          | halt x w' => simp only [growUpon] at h3
    · rename_i hw; simp only [hw] at hh; exact h _ _ _ hD hh

theorem wpAny_of_anyS {Q : Act → List (Nat × Obj) → Prop} {Q' : Exit → Act → World → Prop} (hQ : ∀ a bs w, InD W bs w → Q a bs → Q' .normal a w) :
    ∀ (fuel : Nat) (listed : Array Bool) (a : Act) (bs : List (Nat × Obj)) (w : World), InD W bs w → anyS P md ops W Q fuel listed a bs → wpAny P md ops Q' fuel listed a w
  | 0, listed, a, bs, w, hD, h => ⟨h.1, hQ _ _ _ hD h.2⟩
  | fuel + 1, listed, a, bs, w, hD, h => ⟨fun h0 => absurd h0 h.1, fun i hi => wpOp_of_gOpS hD (fun a' bs' w' hD' => wpAny_of_anyS hQ fuel _ a' bs' w' hD') (h.2 i hi)⟩

/-- In state a an operation yields v in every world behind W. -/
def YieldsS (P : Program) (ops : Array Oper) (W : World) (o : Oper) (v : Value) (a : Act) : Prop :=
  (Region.wanted o (yielded ops a.tmps) = true ∧ isMaker o = false ∧ isStore o = false ∧ ∀ w, Below W.heap.size W w → growUpon P w v ((execOp a.eval o).run P w)) ∨
  (Region.wanted o (yielded ops a.tmps) = false ∧ v = undef)

theorem YieldsS.gOp {i : Nat} {o : Oper} {v : Value} {a : Act} {bs : List (Nat × Obj)} (hi : ops[i]? = some o) (hy : YieldsS P ops W o v a) {K : Act → List (Nat × Obj) → Prop} (h : K (a.put o.dst v) bs) : gOpS P ops W i K a bs := by
  unfold gOpS
  simp only [hi]
  rcases hy with ⟨hw, hm, hs, hv⟩ | ⟨hw, rfl⟩
  · simp only [hw, if_true, growOpS, hm, hs, Bool.false_eq_true, if_false]; exact ⟨v, hv, h⟩
  · simp only [hw, Bool.false_eq_true, if_false]; exact h

theorem YieldsS.of_same {o : Oper} {v : Value} {a a' : Act} (hy : YieldsS P ops W o v a) (he : execOp a'.eval o = execOp a.eval o)
    (hw : Region.wanted o (yielded ops a'.tmps) = Region.wanted o (yielded ops a.tmps)) : YieldsS P ops W o v a' := by
  unfold YieldsS at *
  rw [he, hw]
  exact hy

theorem gOpS_put {j : Nat} {oi oj : Oper} {v : Value} (hj : ops[j]? = some oj) (hap : oi.apart ops oj = true)
    (hsi : ∀ cs b, oi.op ≠ .select cs b) (hsj : ∀ cs b, oj.op ≠ .select cs b) {K : Act → List (Nat × Obj) → Prop} {a : Act} {bs : List (Nat × Obj)}
    (hy : YieldsS P ops W oi v a) (h : gOpS P ops W j K (a.put oi.dst v) bs) :
    gOpS P ops W j (fun a' bs' => YieldsS P ops W oi v a' ∧ K (a'.put oi.dst v) bs') a bs := by
  obtain ⟨h1, h2, h3⟩ := Oper.apart_spec hap
  have keep : ∀ (u : Value), YieldsS P ops W oi v (a.put oj.dst u) := fun u => hy.of_same (execOp_put oi hsi a oj.dst u h3) (wanted_put oi a oj.dst u h3)
  unfold gOpS at *
  simp only [hj] at *
  rw [wanted_put oj a oi.dst v h1] at h
  split
  · rename_i hw
    simp only [hw, if_true] at h
    unfold growOpS at *
    split
    · rename_i hm
      simp only [hm, if_true] at h
      obtain ⟨O, hO, hn⟩ := h
      refine ⟨O, hO, fun b hb hf => ⟨keep _, ?_⟩⟩
      rw [← Act.put_comm a v _ h2]
      exact hn b hb hf
    · rename_i hm
      simp only [hm, Bool.false_eq_true, if_false] at h
      split
      · rename_i hs
        simp only [hs, if_true] at h
        obtain ⟨b, O0, O, hb, hr, hn⟩ := h
        refine ⟨b, O0, O, hb, fun w hD => ?_, keep _, by rw [← Act.put_comm a v undef h2]; exact hn⟩
        have := hr w hD
        rwa [execOp_put oj hsj a oi.dst v h1] at this
      · rename_i hs
        simp only [hs, Bool.false_eq_true, if_false] at h
        obtain ⟨u, hu, hn⟩ := h
        refine ⟨u, fun w hD => ?_, keep u, by rw [← Act.put_comm a v u h2]; exact hn⟩
        have := hu w hD
        rwa [execOp_put oj hsj a oi.dst v h1] at this
  · rename_i hw
    simp only [hw] at h
    exact ⟨keep undef, by rw [← Act.put_comm a v undef h2]; exact h⟩

/-- An operation that yields one value may be taken first. -/
theorem anyS_first {Q : Act → List (Nat × Obj) → Prop} {i : Nat} {oi : Oper} {v : Value} (hi : ops[i]? = some oi) (hsel : ∀ (j : Nat) (o : Oper) cs b, ops[j]? = some o → o.op ≠ .select cs b) :
    ∀ (fuel : Nat) (listed : Array Bool) (a : Act) (bs : List (Nat × Obj)),
      (∀ j oj, ops[j]? = some oj → j ≠ i → listed.getD j true = false → (∀ e ∈ oj.after, Region.binds md e = true → e.on ≠ i) → oi.apart ops oj = true) →
      i ∈ Region.ready md ops listed → YieldsS P ops W oi v a →
      anyS P md ops W Q fuel (listed.setIfInBounds i true) (a.put oi.dst v) bs → anyS P md ops W Q (fuel + 1) listed a bs := by
  intro fuel
  induction fuel with
  | zero =>
    intro listed a bs _ hr hy H
    refine ⟨fun h => (by rw [h] at hr; cases hr), fun j hj => ?_⟩
    by_cases hji : j = i
    · subst hji; exact hy.gOp hi H
    · have := ready_mono hj hji
      rw [H.1] at this
      cases this
  | succ fuel ih =>
    intro listed a bs hfree hr hy H
    refine ⟨fun h => (by rw [h] at hr; cases hr), fun j hj => ?_⟩
    by_cases hji : j = i
    · subst hji; exact hy.gOp hi H
    · have h1 := H.2 j (ready_mono hj hji)
      obtain ⟨hjun, oj, hoj, hall⟩ := mem_ready.1 hj
      have hnot : ∀ e ∈ oj.after, Region.binds md e = true → e.on ≠ i := fun e he hb heq => by
        have h1 := hall e he hb
        have h0 := (mem_ready.1 hr).1
        rw [heq] at h1
        rw [getD_ne_of_true h0] at h1
        cases h1
      have h2 := gOpS_put hoj (hfree j oj hoj hji hjun hnot) (fun cs b => hsel i oi cs b hi) (fun cs b => hsel j oj cs b hoj) hy h1
      have hfree' : ∀ k ok, ops[k]? = some ok → k ≠ i → (listed.setIfInBounds j true).getD k true = false →
          (∀ e ∈ ok.after, Region.binds md e = true → e.on ≠ i) → oi.apart ops ok = true := fun k ok hk hki hun hno => by
        refine hfree k ok hk hki ?_ hno
        by_cases hjk : j = k
        · subst hjk; exact hjun
        · rw [getD_set_ne true hjk] at hun; exact hun
      refine gOpS_mono (fun a' bs' h3 => ih (listed.setIfInBounds j true) a' bs' hfree' (ready_mono hr (Ne.symm hji)) h3.1 ?_) h2
      rw [Array.setIfInBounds_comm _ _ hji]
      exact h3.2

/-- The same members: the same. -/
theorem anyS_perm {Q : Act → List (Nat × Obj) → Prop} (hQ : ∀ a bs bs', (∀ x, x ∈ bs ↔ x ∈ bs') → Q a bs → Q a bs') :
    ∀ (fuel : Nat) (listed : Array Bool) (a : Act) (bs bs' : List (Nat × Obj)), (∀ x, x ∈ bs ↔ x ∈ bs') → anyS P md ops W Q fuel listed a bs → anyS P md ops W Q fuel listed a bs'
  | 0, _, _, _, _, hp, h => ⟨h.1, hQ _ _ _ hp h.2⟩
  | fuel + 1, listed, a, bs, bs', hp, h => by
    refine ⟨h.1, fun j hj => ?_⟩
    have h1 := h.2 j hj
    unfold gOpS at *
    split
    · rename_i ho; simp only [ho] at h1; exact anyS_perm hQ fuel _ _ _ _ hp h1
    · rename_i o ho
      simp only [ho] at h1
      split
      · rename_i hw
        simp only [hw, if_true] at h1
        unfold growOpS at *
        split
        · rename_i hm
          simp only [hm, if_true] at h1
          obtain ⟨O, hO, hn⟩ := h1
          exact ⟨O, hO, fun b hb hf => anyS_perm hQ fuel _ _ _ _ (fun x => by simp only [List.mem_cons, hp]) (hn b hb fun x hx => hf x ((hp x).1 hx))⟩
        · rename_i hm
          simp only [hm, Bool.false_eq_true, if_false] at h1
          split
          · rename_i hs
            simp only [hs, if_true] at h1
            obtain ⟨b, O0, O, hb, hr, hn⟩ := h1
            refine ⟨b, O0, O, (hp _).1 hb, fun w hD => hr w (hD.fewer fun x hx => (hp x).1 hx), anyS_perm hQ fuel _ _ _ _ (fun x => ?_) hn⟩
            simp only [updB, List.mem_map, hp]
          · rename_i hs
            simp only [hs, Bool.false_eq_true, if_false] at h1
            obtain ⟨v, hv, hn⟩ := h1
            exact ⟨v, hv, anyS_perm hQ fuel _ _ _ _ hp hn⟩
      · rename_i hw; simp only [hw] at h1; exact anyS_perm hQ fuel _ _ _ _ hp h1

/-- A store may be taken where all that is left waits for it. -/
theorem anyS_only {Q : Act → List (Nat × Obj) → Prop} {i : Nat} {fuel : Nat} {listed : Array Bool} {a : Act} {bs : List (Nat × Obj)} (hr : Region.ready md ops listed = [i])
    (h : gOpS P ops W i (anyS P md ops W Q fuel (listed.setIfInBounds i true)) a bs) : anyS P md ops W Q (fuel + 1) listed a bs :=
  ⟨by rw [hr]; simp, fun j hj => by
    rw [hr] at hj
    have e : j = i := by simpa using hj
    rw [e]
    exact h⟩

/-- A variable may be made first, where nothing but other variables can come ahead of it. -/
theorem anyS_make {Q : Act → List (Nat × Obj) → Prop} (hQ : ∀ a bs bs', (∀ x, x ∈ bs ↔ x ∈ bs') → Q a bs → Q a bs') {i : Nat} {oi : Oper} {O : Obj}
    (hi : ops[i]? = some oi) (hO : makes P oi = some O) (hm : isMaker oi = true) (hg : ∀ (j : Nat) o, ops[j]? = some o → isMaker o = true → o.guard = none) :
    ∀ (fuel : Nat) (listed : Array Bool) (a : Act) (bs : List (Nat × Obj)), Closed md ops listed →
      (∀ j oj, ops[j]? = some oj → j ≠ i → listed.getD j true = false → (∀ e ∈ oj.after, Region.binds md e = true → e.on ≠ i) → oi.apart ops oj = true) →
      (∀ j oj, ops[j]? = some oj → listed.getD j true = false → isMaker oj = false → j ∈ waitsOn md ops i ops.size) →
      i ∈ Region.ready md ops listed →
      (∀ b, W.heap.size ≤ b → (∀ x ∈ bs, x.1 ≠ b) → anyS P md ops W Q fuel (listed.setIfInBounds i true) (a.put oi.dst (.pointer (some ⟨b, 0, none⟩))) ((b, O) :: bs)) →
      anyS P md ops W Q (fuel + 1) listed a bs := by
  have wanted : ∀ (j : Nat) o, ops[j]? = some o → isMaker o = true → ∀ y, Region.wanted o y = true := fun j o ho h y => by simp [Region.wanted, hg j o ho h]
  intro fuel
  induction fuel with
  | zero =>
    intro listed a bs hc _ hoth hr H
    refine ⟨fun h => (by rw [h] at hr; cases hr), fun j hj => ?_⟩
    by_cases hji : j = i
    · subst hji
      unfold gOpS
      simp only [hi, wanted j oi hi hm, if_true, growOpS, hm]
      exact ⟨O, hO, H⟩
    · exfalso
      obtain ⟨b, hb, hf⟩ := exists_fresh W.heap.size bs
      have hs := (H b hb fun x hx => Nat.ne_of_lt (hf x hx)).1
      have := ready_mono hj hji
      rw [hs] at this
      cases this
  | succ fuel ih =>
    intro listed a bs hc hfree hoth hr H
    refine ⟨fun h => (by rw [h] at hr; cases hr), fun j hj => ?_⟩
    by_cases hji : j = i
    · subst hji
      unfold gOpS
      simp only [hi, wanted j oi hi hm, if_true, growOpS, hm]
      exact ⟨O, hO, H⟩
    · obtain ⟨hjun, oj, hoj, hall⟩ := mem_ready.1 hj
      cases hmj : isMaker oj with
      | false => exact absurd hj (waitsOn_spec hc (getD_ne_of_true (mem_ready.1 hr).1) _ j (hoth j oj hoj hjun hmj)).2
      | true =>
        have hnot : ∀ e ∈ oj.after, Region.binds md e = true → e.on ≠ i := fun e he hb heq => by
          have h1 := hall e he hb
          have h0 := (mem_ready.1 hr).1
          rw [heq] at h1
          rw [getD_ne_of_true h0] at h1
          cases h1
        obtain ⟨_, hap2, _⟩ := Oper.apart_spec (hfree j oj hoj hji hjun hnot)
        have hfree' : ∀ k ok, ops[k]? = some ok → k ≠ i → (listed.setIfInBounds j true).getD k true = false →
            (∀ e ∈ ok.after, Region.binds md e = true → e.on ≠ i) → oi.apart ops ok = true := fun k ok hk hki hun hno => by
          refine hfree k ok hk hki ?_ hno
          by_cases hjk : j = k
          · subst hjk; exact hjun
          · rw [getD_set_ne true hjk] at hun; exact hun
        have hoth' : ∀ k ok, ops[k]? = some ok → (listed.setIfInBounds j true).getD k true = false → isMaker ok = false → k ∈ waitsOn md ops i ops.size := fun k ok hk hun hmk => by
          refine hoth k ok hk ?_ hmk
          by_cases hjk : j = k
          · subst hjk; exact hjun
          · rw [getD_set_ne true hjk] at hun; exact hun
        have first : ∀ b, W.heap.size ≤ b → (∀ x ∈ bs, x.1 ≠ b) → ∃ Oj, makes P oj = some Oj ∧ ∀ c, W.heap.size ≤ c → (∀ x ∈ (b, O) :: bs, x.1 ≠ c) →
            anyS P md ops W Q fuel ((listed.setIfInBounds i true).setIfInBounds j true) ((a.put oi.dst (.pointer (some ⟨b, 0, none⟩))).put oj.dst (.pointer (some ⟨c, 0, none⟩))) ((c, Oj) :: (b, O) :: bs) := fun b hb hf => by
          have h1 := (H b hb hf).2 j (ready_mono hj hji)
          unfold gOpS at h1
          simpa only [hoj, wanted j oj hoj hmj, if_true, growOpS, hmj] using h1
        obtain ⟨b0, hb0, hf0⟩ := exists_fresh W.heap.size bs
        obtain ⟨Oj, hOj, _⟩ := first b0 hb0 fun x hx => Nat.ne_of_lt (hf0 x hx)
        unfold gOpS
        simp only [hoj, wanted j oj hoj hmj, if_true, growOpS, hmj]
        refine ⟨Oj, hOj, fun c hcb hcf => ih (listed.setIfInBounds j true) _ _ (hc.set hj) hfree' hoth' (ready_mono hr (Ne.symm hji)) fun b hb hf => ?_⟩
        obtain ⟨Oj', hOj', hn⟩ := first b hb fun x hx => hf x (List.mem_cons_of_mem _ hx)
        rw [hOj] at hOj'
        cases hOj'
        have hbc : b ≠ c := fun e => hf (c, Oj) List.mem_cons_self e.symm
        have h2 := hn c hcb fun x hx => by
          rcases List.mem_cons.1 hx with rfl | hx
          · exact hbc
          · exact hcf x hx
        rw [Array.setIfInBounds_comm _ _ hji, ← Act.put_comm a _ _ hap2]
        exact anyS_perm hQ _ _ _ _ _ (fun x => by simp only [List.mem_cons]; constructor <;> (rintro (h | h | h) <;> simp [h])) h2

/-! ### The order of the text -/
def stoFrom (md : Region.Mode) (ops : Array Oper) : Nat → Nat → Array Bool → Bool
  | 0, _, listed => (Region.ready md ops listed).isEmpty
  | fuel + 1, k, listed => (Region.ready md ops listed).contains k &&
      (match ops[k]? with
       | some o => if isStore o then Region.ready md ops listed == [k] else (Region.free md ops listed k && (!isMaker o || (List.range ops.size).all fun j => listed.getD j true || ((ops[j]?).map isMaker).getD true || (waitsOn md ops k ops.size).contains j))
       | none => false) && stoFrom md ops fuel (k + 1) (listed.setIfInBounds k true)
def stoB (md : Region.Mode) (ops : Array Oper) : Bool :=
  Region.noSelect ops && ((List.range ops.size).all fun j => ((ops[j]?).map fun o => !isMaker o || o.guard.isNone).getD true) && stoFrom md ops ops.size 0 (Array.replicate ops.size false)

theorem anyS_lex {R : Act → List (Nat × Obj) → Prop} (hR : ∀ a bs bs', (∀ x, x ∈ bs ↔ x ∈ bs') → R a bs → R a bs')
    (hsel : Region.noSelect ops = true) (hg : ∀ (j : Nat) o, ops[j]? = some o → isMaker o = true → o.guard = none) :
    ∀ (l : List Oper) (k : Nat) (listed : Array Bool) (a : Act) (bs : List (Nat × Obj)), (∀ j, l[j]? = ops[k + j]?) → Closed md ops listed →
      stoFrom md ops l.length k listed = true → wpSto P ops W R l a bs → anyS P md ops W R l.length listed a bs
  | [], k, listed, a, bs, _, _, hB, h => ⟨by simpa [stoFrom] using hB, h⟩
  | o :: l, k, listed, a, bs, hl, hc, hB, h => by
    have h0 : ops[k]? = some o := by simpa using (hl 0).symm
    simp only [List.length_cons, stoFrom, h0, Bool.and_eq_true] at hB
    obtain ⟨⟨hr, hmk⟩, hB'⟩ := hB
    have hr' : k ∈ Region.ready md ops listed := by simpa using hr
    have next : ∀ a' bs', wpSto P ops W R l a' bs' → anyS P md ops W R l.length (listed.setIfInBounds k true) a' bs' := fun a' bs' hh =>
      anyS_lex hR hsel hg l (k + 1) _ a' bs' (fun j => by have := hl (j + 1); simpa [Nat.add_assoc, Nat.add_comm 1 j] using this) (hc.set hr') hB' hh
    have hh : if Region.wanted o (yielded ops a.tmps) then growOpS P W o a bs (wpSto P ops W R l) else wpSto P ops W R l (a.put o.dst undef) bs := h
    by_cases hs : isStore o = true
    · simp only [hs, if_true, beq_iff_eq] at hmk
      refine anyS_only hmk ?_
      unfold gOpS
      simp only [h0]
      split
      · rename_i hw; simp only [hw, if_true] at hh; exact growOpS_mono next hh
      · rename_i hw; simp only [hw] at hh; exact next _ _ hh
    · simp only [hs, Bool.false_eq_true, if_false, Bool.and_eq_true] at hmk
      obtain ⟨hf, hmk⟩ := hmk
      by_cases hm : isMaker o = true
      · have hw : Region.wanted o (yielded ops a.tmps) = true := by simp [Region.wanted, hg k o h0 hm]
        simp only [hw, if_true, growOpS, hm] at hh
        obtain ⟨O, hO, hn⟩ := hh
        refine anyS_make hR h0 hO hm hg l.length listed a bs hc (Region.free_spec h0 hf) (fun j oj hj hun hmj => ?_) hr' fun b hb hfr => next _ _ (hn b hb hfr)
        simp only [hm, Bool.not_true, Bool.false_or, List.all_eq_true, List.mem_range] at hmk
        have := hmk j (Array.getElem?_eq_some_iff.1 hj).1
        simpa [hj, hun, hmj] using this
      · have hy : ∃ v, YieldsS P ops W o v a ∧ wpSto P ops W R l (a.put o.dst v) bs := by
          by_cases hw : Region.wanted o (yielded ops a.tmps) = true
          · simp only [hw, if_true, growOpS, hm, hs, Bool.false_eq_true, if_false] at hh
            obtain ⟨v, h1, h2⟩ := hh
            exact ⟨v, .inl ⟨hw, by simpa using hm, by simpa using hs, h1⟩, h2⟩
          · simp only [hw] at hh
            exact ⟨undef, .inr ⟨by simpa using hw, rfl⟩, hh⟩
        obtain ⟨v, hy, hn⟩ := hy
        exact anyS_first h0 (Region.noSelect_spec hsel) l.length listed a bs (Region.free_spec h0 hf) hr' hy (next _ _ hn)

/-- **ONE WALK OF THE ORDER OF THE TEXT SERVES EVERY ORDER.** -/
theorem wp_region_sto {id : Nat} {Q : Exit → Act → World → Prop} {a : Act} {w : World} {l : List Oper} (hm : P.follows .mixedOrders = true) (hB : stoB .any l.toArray = true)
    (h : wpSto P l.toArray w (fun a' bs => ∀ w', InD w bs w' → Q .normal a' w') l a []) : (Code.region id l.toArray true).wp P Q a w := by
  unfold stoB at hB
  simp only [Bool.and_eq_true, List.all_eq_true, List.mem_range] at hB
  obtain ⟨⟨hsel, hgd⟩, hG⟩ := hB
  refine wp_region_any hm ?_
  have hcl : Closed .any l.toArray (Array.replicate l.toArray.size false) := fun j o ho hj => by
    exfalso
    rcases Nat.lt_or_ge j l.length with h' | h' <;> simp [h'] at hj
  have hany : anyS P .any l.toArray w (fun a' bs => ∀ w', InD w bs w' → Q .normal a' w') l.length (Array.replicate l.toArray.size false) a [] := by
    refine anyS_lex (fun _ bs bs' hp hh w' hD => hh w' (hD.fewer fun x hx => (hp x).1 hx)) hsel (fun j o ho hmk => ?_) l 0 _ a [] (fun j => by simp) hcl (by simpa using hG) h
    have := hgd j (Array.getElem?_eq_some_iff.1 ho).1
    rw [ho] at this
    simp only [Option.map_some, Option.getD_some, hmk, Bool.not_true, Bool.false_or] at this
    simpa using this
  have hfin := wpAny_of_anyS (W := w) (Q' := Q) (fun a bs w' hD hh => hh w' hD) l.length (Array.replicate l.toArray.size false) a [] ({ w with drawn := w.drawn + 1 } : World) ⟨⟨rfl, rfl, rfl, Nat.le_refl _, fun _ _ => rfl⟩, fun x hx => by cases hx⟩ hany
  simpa using hfin

/-! ### Steps: what reads is walked as the kit's quiet walk -/
theorem wpSto_quiet {Q : Act → List (Nat × Obj) → Prop} {o : Oper} {rest : List Oper} {a : Act} {bs : List (Nat × Obj)} (hm : isMaker o = false) (hs : isStore o = false)
    (hw : Region.wanted o (yielded ops a.tmps) = true) (h : ∃ v, (∀ w, Below W.heap.size W w → growUpon P w v ((execOp a.eval o).run P w)) ∧ wpSto P ops W Q rest (a.put o.dst v) bs) : wpSto P ops W Q (o :: rest) a bs := by
  show if _ then _ else _
  simp only [hw, if_true, growOpS, hm, hs, Bool.false_eq_true, if_false]
  exact h
theorem wpSto_make {Q : Act → List (Nat × Obj) → Prop} {o : Oper} {rest : List Oper} {a : Act} {bs : List (Nat × Obj)} {O : Obj} (hg : o.guard = none) (hO : makes P o = some O)
    (h : ∀ b, W.heap.size ≤ b → (∀ x ∈ bs, x.1 ≠ b) → wpSto P ops W Q rest (a.put o.dst (.pointer (some ⟨b, 0, none⟩))) ((b, O) :: bs)) : wpSto P ops W Q (o :: rest) a bs := by
  have hm : isMaker o = true := by
    unfold makes at hO
    unfold isMaker
    split at hO
    · rfl
    · cases hO
  show if _ then _ else _
  simp only [show Region.wanted o (yielded ops a.tmps) = true by simp [Region.wanted, hg], if_true, growOpS, hm]
  exact ⟨O, hO, h⟩
theorem wpSto_store {Q : Act → List (Nat × Obj) → Prop} {o : Oper} {rest : List Oper} {a : Act} {bs : List (Nat × Obj)} {b : Nat} {O0 O : Obj} (hs : isStore o = true) (hg : o.guard = none) (hb : (b, O0) ∈ bs)
    (hr : ∀ w, InD W bs w → ∃ w', (execOp a.eval o).run P w = .ok .skip w' ∧ SetAt w b O w') (h : wpSto P ops W Q rest (a.put o.dst undef) (updB bs b O)) : wpSto P ops W Q (o :: rest) a bs := by
  have hm : isMaker o = false := by
    unfold isStore at hs
    unfold isMaker
    split at hs
    · rename_i h; rw [h]
    · cases hs
  show if _ then _ else _
  simp only [show Region.wanted o (yielded ops a.tmps) = true by simp [Region.wanted, hg], if_true, growOpS, hm, hs, Bool.false_eq_true, if_false]
  exact ⟨b, O0, O, hb, hr, h⟩
theorem wpSto_nil {Q : Act → List (Nat × Obj) → Prop} {a : Act} {bs : List (Nat × Obj)} (h : Q a bs) : wpSto P ops W Q [] a bs := h
theorem wpSto_pass {Q : Act → List (Nat × Obj) → Prop} {o : Oper} {rest : List Oper} {a : Act} {bs : List (Nat × Obj)}
    (hw : Region.wanted o (yielded ops a.tmps) = false) (h : wpSto P ops W Q rest (a.put o.dst undef) bs) : wpSto P ops W Q (o :: rest) a bs := by
  show if _ then _ else _
  simp only [hw]
  exact h
theorem wpSto_at {Q : Act → List (Nat × Obj) → Prop} {l : List Oper} {a a' : Act} {bs : List (Nat × Obj)} (e : a = a') (h : wpSto P ops W Q l a' bs) : wpSto P ops W Q l a bs := e ▸ h
theorem below_cells {w : World} (h : Below W.heap.size W w) : ∀ b o, b < W.heap.size → w.cell? ⟨b, o, none⟩ = W.cell? ⟨b, o, none⟩ := fun b o hb => h.cell (p := ⟨b, o, none⟩) hb
end
end Go.Proofs.Ytoeamnagmehpeaa
