
/- Slices of elements of several cells: what is read of one that came in, or of one that the call made itself. -/
import Derived.Test.YtohjhbhbpflokaaKit
import Derived.Laws.AppendOwn
import Derived.Laws.OwnMore
namespace Go.Proofs.Ytohjhbhbpflokaa
set_option linter.unusedSimpArgs false
set_option linter.unusedVariables false
open Go Go.RowKit

/-- n elements of so many cells each: cell j of element i holds f i j. -/
def SlAt (w : World) (B size n : Nat) (A : Option Addr) (f : Nat → Nat → Value) : Prop :=
  0 < n → ∃ b off, A = some ⟨b, off, none⟩ ∧ b < B ∧ ∀ i j, i < n → j < size → w.cell? ⟨b, off + (i * size + j), none⟩ = some (f i j)

section
variable {w w' : World} {B B' size n m : Nat} {A : Option Addr} {f g : Nat → Nat → Value}
theorem SlAt.none_ : SlAt w B size 0 A f := fun h => absurd h (by omega)
theorem SlAt.keep (h : SlAt w B size n A f) (hk : ∀ b o, b < B → w'.cell? ⟨b, o, none⟩ = w.cell? ⟨b, o, none⟩) : SlAt w' B size n A f := fun hn => by
  obtain ⟨b, off, e, hb, hc⟩ := h hn
  exact ⟨b, off, e, hb, fun i j hi hj => (hk b _ hb).trans (hc i j hi hj)⟩
theorem SlAt.below (h : SlAt w B size n A f) (hb : Below B w w') : SlAt w' B size n A f := h.keep fun b o hl => hb.cell (p := ⟨b, o, none⟩) hl
theorem SlAt.less (h : SlAt w B size n A f) (hm : m ≤ n) : SlAt w B size m A f := fun h0 => by
  obtain ⟨b, off, e, hb, hc⟩ := h (by omega)
  exact ⟨b, off, e, hb, fun i j hi hj => hc i j (by omega) hj⟩
theorem SlAt.more (h : SlAt w B size n A f) (hB : B ≤ B') : SlAt w B' size n A f := fun h0 => by
  obtain ⟨b, off, e, hb, hc⟩ := h h0
  exact ⟨b, off, e, by omega, hc⟩
theorem SlAt.congr (h : SlAt w B size n A f) (hf : ∀ i j, i < n → j < size → f i j = g i j) : SlAt w B size n A g := fun h0 => by
  obtain ⟨b, off, e, hb, hc⟩ := h h0
  exact ⟨b, off, e, hb, fun i j hi hj => by rw [hc i j hi hj, hf i j hi hj]⟩
/-- Of a slice that the call made. -/
theorem SlAt.of_own {base : Nat} {e : TypeId} {v : Value} {xs : List Value} (h : w.ownsRow base e size v n xs) : ∃ A c, v = .slice A n c ∧ n ≤ c ∧ SlAt w w.heap.size size n A (fun i j => xs.getD (i * size + j) undef) := by
  obtain ⟨hl, h2⟩ := h
  rcases h2 with ⟨rfl, rfl⟩ | ⟨b, cap, cur, rfl, hb, hh, hnc, _, hcs, ht⟩
  · exact ⟨none, 0, rfl, Nat.le_refl _, .none_⟩
  · refine ⟨_, cap, rfl, hnc, fun hn => ⟨b, 0, rfl, (Array.getElem?_eq_some_iff.1 hh).1, fun i j hi hj => ?_⟩⟩
    have hlt : i * size + j < n * size := Nat.lt_of_lt_of_le (by omega) (show i * size + size ≤ n * size by rw [← Nat.succ_mul]; exact Nat.mul_le_mul_right _ hi)
    rw [Nat.zero_add, cell_of_row w b _ cur e (0, 0) hh]
    have h1 : i * size + j < xs.length := by omega
    have e2 : xs[i * size + j]? = cur[i * size + j]? := by rw [← ht, List.getElem?_take_of_lt hlt]; simp
    rw [← e2]
    simp [List.getD, h1]
end

/-- rows written out, one behind the other. -/
def flat (f : Nat → List Value) (k : Nat) : List Value := (List.range k).flatMap f
theorem flat_zero (f : Nat → List Value) : flat f 0 = [] := rfl
theorem flat_succ (f : Nat → List Value) (k : Nat) : flat f (k + 1) = flat f k ++ f k := by
  unfold flat
  rw [List.range_succ, List.flatMap_append]
  simp
theorem flat_length {f : Nat → List Value} {size : Nat} (k : Nat) (h : ∀ i, i < k → (f i).length = size) : (flat f k).length = k * size := by
  induction k with
  | zero => simp [flat]
  | succ k ih => rw [flat_succ, List.length_append, ih (fun i hi => h i (by omega)), h k (by omega), Nat.succ_mul]
theorem flat_getD {f : Nat → List Value} {size : Nat} : ∀ (k i j : Nat), (∀ i, i < k → (f i).length = size) → i < k → j < size → (flat f k).getD (i * size + j) undef = (f i).getD j undef
  | 0, i, j, _, hi, _ => by omega
  | k + 1, i, j, h, hi, hj => by
    have hl := flat_length k (fun i hi => h i (by omega))
    have hle : ∀ a, a ≤ k → a * size ≤ k * size := fun a ha => Nat.mul_le_mul_right _ ha
    rw [flat_succ]
    by_cases e : i = k
    · subst e
      simp only [List.getD]
      rw [List.getElem?_append_right (by omega), hl]
      congr 1
      congr 1
      omega
    · have h1 : i * size + j < k * size := Nat.lt_of_lt_of_le (by omega) (show i * size + size ≤ k * size by rw [← Nat.succ_mul]; exact hle _ (by omega))
      have ih := flat_getD k i j (fun i hi => h i (by omega)) (by omega) hj
      simp only [List.getD] at ih ⊢
      rw [List.getElem?_append_left (by omega)]
      exact ih
theorem grown_of_below {a w : World} (h : Below a.heap.size a w) (row : Option Nat) : a.grownBy w row := ⟨h.os, h.tape, h.output, h.size, fun i hi _ => h.block i hi⟩
theorem own_below {w w' : World} {base : Nat} {e : TypeId} {size : Nat} {v : Value} {n : Nat} {xs : List Value} (h : w.ownsRow base e size v n xs) (hb : Below w.heap.size w w') : w'.ownsRow base e size v n xs :=
  h.kept (grown_of_below hb none) (by cases hv : v.ownBlock <;> simp)
theorem own_base {w : World} {base base' : Nat} {e : TypeId} {size : Nat} {v : Value} {n : Nat} {xs : List Value} (h : w.ownsRow base e size v n xs) (hb : base' ≤ base) : w.ownsRow base' e size v n xs := by
  refine ⟨h.1, ?_⟩
  rcases h.2 with h2 | ⟨g, cap, cur, e1, e2, rest⟩
  · exact .inl h2
  · exact .inr ⟨g, cap, cur, e1, Nat.le_trans hb e2, rest⟩
theorem own_setCell {w : World} {base : Nat} {e : TypeId} {size : Nat} {v : Value} {n : Nat} {xs : List Value} (h : w.ownsRow base e size v n xs) {p : Addr} (hp : v.ownBlock ≠ some p.block) (u : Value) : (w.setCell p u).ownsRow base e size v n xs := by
  refine ⟨h.1, ?_⟩
  rcases h.2 with h2 | ⟨g, cap, cur, e1, e2, e3, rest⟩
  · exact .inl h2
  · exact .inr ⟨g, cap, cur, e1, e2, by rw [Below.heap_setCell _ _ _ _ (fun e => hp (by rw [e1, Value.ownBlock, e]))]; exact e3, rest⟩
/-- behind an append: what lies below the rows' base is as it was. -/
theorem grow_cell {w w' : World} {base : Nat} {e : TypeId} {size : Nat} {v : Value} {n : Nat} {xs : List Value} (hg : w.grownBy w' v.ownBlock) (h : w.ownsRow base e size v n xs) {b : Nat} (hb : b < base) (hl : b < w.heap.size) :
    ∀ o, w'.cell? ⟨b, o, none⟩ = w.cell? ⟨b, o, none⟩ := fun o =>
  World.cell?_of_block (a := ⟨b, o, none⟩) (hg.block b hl (fun e => by have := (h.lt b e.symm).1; omega))
theorem grow_below {B : Nat} {a w w' : World} {base : Nat} {e : TypeId} {size : Nat} {v : Value} {n : Nat} {xs : List Value} (hb : Below B a w) (hg : w.grownBy w' v.ownBlock) (h : w.ownsRow base e size v n xs) (hB : B ≤ base) (hl : B ≤ w.heap.size) : Below B a w' :=
  hb.grown hg hl fun k hk => by have := (h.lt k hk).1; omega
end Go.Proofs.Ytohjhbhbpflokaa
