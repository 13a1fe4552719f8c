/- What bytes are read as: plain words, and the rows that Get fills. -/
import Derived.Test.YtghghioidllgiaaPkP
namespace Go.Proofs.Ytghghioidllgiaa.Pk
set_option linter.unusedSimpArgs false
set_option linter.unusedVariables false
open Go Go.RowKit
open Go.Proofs.Ytghghioidllgiaa.Vec (SlI iv bv FunAt Right right_any)
attribute [local go_sem] lt_add1 lt_self1 size_ne size_ne' size_ne1 size_ne1'

/-- how many entries bytes tell of; the first j bytes of entry i as a number; the entry; a hit. -/
def cnt (bs : List Nat) : Nat := bs.getD 0 0 * 256 + bs.getD 1 0
def part (bs : List Nat) (k i : Nat) : Nat → Nat
  | 0 => 0
  | j + 1 => part bs k i j * 256 + bs.getD (2 + i * wid k + j) 0
def getT (bs : List Nat) (k i : Nat) : Nat := part bs k i (wid k)
def getH (bs : List Nat) (k i : Nat) : Bool := decide (bs.getD (2 + k * wid k + i / 8) 0 / 2 ^ (i % 8) % 2 = 1)
def getTs (bs : List Nat) (k : Nat) : List Int := (List.range k).map fun i => (getT bs k i : Int)
def getHs (bs : List Nat) (k : Nat) : List Bool := (List.range k).map (getH bs k)
/-- are there no bits behind the last hit? -/
def Clean (bs : List Nat) (k : Nat) : Prop := k % 8 = 0 ∨ bs.getD (siz k - 1) 0 / 2 ^ (k % 8) = 0
instance (bs : List Nat) (k : Nat) : Decidable (Clean bs k) := by unfold Clean; infer_instance
/-- what Get tells. -/
def gerr (bs : List Nat) : Nat :=
  if bs.length < 2 then 10 else if cnt bs = 0 ∨ 4096 < cnt bs then 3 else if bs.length < siz (cnt bs) then 10 else if Right (cnt bs) (cnt bs) (getTs bs (cnt bs)) ∧ Clean bs (cnt bs) then 0 else 3
def Byt (bs : List Nat) : Prop := ∀ i, bs.getD i 0 < 256
theorem Byt.of (bs : List Nat) (h : ∀ x ∈ bs, x < 256) : Byt bs := fun i => by
  rw [List.getD]
  cases e : bs[i]? with
  | none => simp
  | some x => exact h x (List.mem_of_getElem? e)
theorem part_lt {bs : List Nat} (h : Byt bs) (k i : Nat) : ∀ j, part bs k i j < 256 ^ j
  | 0 => by simp [part]
  | j + 1 => by
    have := part_lt h k i j
    have := h (2 + i * wid k + j)
    unfold part
    rw [Nat.pow_succ]
    omega
theorem part_byte {bs : List Nat} (h : Byt bs) (k i j : Nat) (hj : j < wid k) : part bs k i j < 256 := by
  have h1 := part_lt h k i j
  have : j = 0 ∨ j = 1 := by rcases wid_cases k with ⟨_, e⟩ | ⟨_, e⟩ <;> omega
  rcases this with rfl | rfl <;> simpa using (by omega : part bs k i _ < 256)
theorem getTs_length (bs : List Nat) (k : Nat) : (getTs bs k).length = k := by simp [getTs]
theorem getHs_length (bs : List Nat) (k : Nat) : (getHs bs k).length = k := by simp [getHs]

/-- the row of entries, when entry i has j bytes. -/
def rowp (bs : List Nat) (k i j : Nat) : Array Value := ((List.range k).map fun t => Value.int .i64 ((if t < i then getT bs k t else if t = i then part bs k i j else 0 : Nat) : Int)).toArray
theorem rowp_size (bs : List Nat) (k i j : Nat) : (rowp bs k i j).size = k := by simp [rowp]
theorem rowp_get (bs : List Nat) (k i j : Nat) (hi : i < k) : (rowp bs k i j)[i]? = some (.int .i64 (part bs k i j : Nat)) := by simp [rowp, hi]
theorem rowp_zero (bs : List Nat) (k : Nat) : Array.replicate k (Value.int .i64 0) = rowp bs k 0 0 := by
  refine Array.ext (by simp [rowp]) fun t h1 h2 => ?_
  simp [rowp]
  by_cases e : t = 0
  · subst e; simp [part]
  · simp [e]
theorem rowp_next (bs : List Nat) (k i : Nat) : rowp bs k i (wid k) = rowp bs k (i + 1) 0 := by
  unfold rowp
  congr 2
  funext t
  by_cases h1 : t < i
  · rw [if_pos h1, if_pos (by omega)]
  · by_cases h2 : t = i
    · subst h2; rw [if_neg h1, if_pos rfl, if_pos (by omega)]; rfl
    · rw [if_neg h1, if_neg h2, if_neg (by omega)]
      by_cases h3 : t = i + 1
      · rw [if_pos h3]; rfl
      · rw [if_neg h3]
theorem rowp_set (bs : List Nat) (k i j : Nat) (hi : i < k) : (rowp bs k i j).setIfInBounds i (.int .i64 (part bs k i (j + 1) : Nat)) = rowp bs k i (j + 1) := by
  refine Array.ext (by simp [rowp]) fun t h1 h2 => ?_
  have ht : t < k := by simpa [rowp] using h2
  rw [Array.getElem_setIfInBounds (by rw [rowp_size]; exact ht)]
  by_cases e : i = t
  · subst e; simp [rowp]
  · simp only [if_neg e]
    simp only [rowp, List.getElem_toArray, List.getElem_map, List.getElem_range]
    by_cases h : t < i
    · rw [if_pos h, if_pos h]
    · rw [if_neg h, if_neg h, if_neg (fun e2 => e e2.symm), if_neg (fun e2 => e e2.symm)]
def rowh (bs : List Nat) (k i : Nat) : Array Value := ((List.range k).map fun t => Value.bool (decide (t < i) && getH bs k t)).toArray
theorem rowh_size (bs : List Nat) (k i : Nat) : (rowh bs k i).size = k := by simp [rowh]
theorem rowh_zero (bs : List Nat) (k : Nat) : Array.replicate k (Value.bool false) = rowh bs k 0 := by
  refine Array.ext (by simp [rowh]) fun t h1 h2 => ?_
  simp [rowh]
theorem rowh_get (bs : List Nat) (k i : Nat) (hi : i < k) : (rowh bs k i)[i]? = some (.bool false) := by simp [rowh, hi]
theorem rowh_set (bs : List Nat) (k i : Nat) (hi : i < k) : (rowh bs k i).setIfInBounds i (.bool (getH bs k i)) = rowh bs k (i + 1) := by
  refine Array.ext (by simp [rowh]) fun t h1 h2 => ?_
  have ht : t < k := by simpa [rowh] using h2
  rw [Array.getElem_setIfInBounds (by rw [rowh_size]; exact ht)]
  by_cases e : i = t
  · subst e; simp [rowh]
  · simp only [if_neg e]
    simp only [rowh, List.getElem_toArray, List.getElem_map, List.getElem_range]
    have : (t < i + 1) ↔ (t < i) := by omega
    simp only [this]

/-- the two rows of a function that was made, the variable that holds it, and the result's box. -/
structure Rows3 (B : Nat) (a0 w : World) (x a b k : Nat) (R1 R2 : Array Value) : Prop where
  xa : x ≠ a
  xb : x ≠ b
  ab : a ≠ b
  bx : w.heap[x]? = some (.cells #[.slice (some ⟨a, 0, none⟩) k k, .slice (some ⟨b, 0, none⟩) k k] 27 (0, 0))
  ra : w.heap[a]? = some (.cells R1 3 (0, 0))
  rb : w.heap[b]? = some (.cells R2 4 (0, 0))
  lx : B < x
  la : B < a
  lb : B < b
  box : w.heap[B]? = some (.cells #[.slice none 0 0, .slice none 0 0] 27 (0, 0))
  bel : Below B a0 w
section
variable {B : Nat} {a0 w w1 : World} {x a b k : Nat} {R1 R2 : Array Value}
theorem Rows3.seta (h : Rows3 B a0 w x a b k R1 R2) (i : Nat) (v : Value) : Rows3 B a0 (w.setCell ⟨a, i, none⟩ v) x a b k (R1.setIfInBounds i v) R2 := by
  have hbl := h.la
  refine ⟨h.xa, h.xb, h.ab, ?_, heap_setCell_same _ _ _ _ _ _ h.ra, ?_, h.lx, h.la, h.lb, ?_, h.bel.setCell (by show B ≤ a; omega) _⟩
  · rw [heap_setCell_other _ _ _ _ h.xa]; exact h.bx
  · rw [heap_setCell_other _ _ _ _ (fun e => h.ab e.symm)]; exact h.rb
  · rw [heap_setCell_other _ _ _ _ (by show B ≠ a; omega)]; exact h.box
theorem Rows3.setb (h : Rows3 B a0 w x a b k R1 R2) (i : Nat) (v : Value) : Rows3 B a0 (w.setCell ⟨b, i, none⟩ v) x a b k R1 (R2.setIfInBounds i v) := by
  have hbl := h.lb
  refine ⟨h.xa, h.xb, h.ab, ?_, ?_, heap_setCell_same _ _ _ _ _ _ h.rb, h.lx, h.la, h.lb, ?_, h.bel.setCell (by show B ≤ b; omega) _⟩
  · rw [heap_setCell_other _ _ _ _ h.xb]; exact h.bx
  · rw [heap_setCell_other _ _ _ _ h.ab]; exact h.ra
  · rw [heap_setCell_other _ _ _ _ (by show B ≠ b; omega)]; exact h.box
theorem Rows3.drew (h : Rows3 B a0 w x a b k R1 R2) : Rows3 B a0 w.drew x a b k R1 R2 := ⟨h.xa, h.xb, h.ab, h.bx, h.ra, h.rb, h.lx, h.la, h.lb, h.box, h.bel.drew⟩
theorem Rows3.below (h : Rows3 B a0 w x a b k R1 R2) (hb : Below w.heap.size w w1) : Rows3 B a0 w1 x a b k R1 R2 := by
  have hl : ∀ {i : Nat} {o : Obj}, w.heap[i]? = some o → w1.heap[i]? = some o := fun e => (hb.block _ (Array.getElem?_eq_some_iff.1 e).1).trans e
  refine ⟨h.xa, h.xb, h.ab, hl h.bx, hl h.ra, hl h.rb, h.lx, h.la, h.lb, hl h.box, h.bel.trans (hb.mono ?_)⟩
  have := (Array.getElem?_eq_some_iff.1 h.box).1
  omega
theorem Rows3.fun_ {bs : List Nat} (h : Rows3 B a0 w x a b k (rowp bs k k 0) (rowh bs k k)) : FunAt w (some ⟨a, 0, none⟩) k (some ⟨b, 0, none⟩) k (getTs bs k) (getHs bs k) := by
  refine ⟨getTs_length _ _, getHs_length _ _, fun _ => ⟨a, 0, rfl, (Array.getElem?_eq_some_iff.1 h.ra).1, fun i hi => ?_⟩, fun _ => ⟨b, 0, rfl, (Array.getElem?_eq_some_iff.1 h.rb).1, fun i hi => ?_⟩⟩
  · rw [Nat.zero_add, cell_of_row w a i _ _ (0, 0) h.ra]
    simp [rowp, iv, getTs, hi]
  · rw [Nat.zero_add, cell_of_row w b i _ _ (0, 0) h.rb]
    simp [rowh, bv, getHs, hi]
end
end Go.Proofs.Ytghghioidllgiaa.Pk
