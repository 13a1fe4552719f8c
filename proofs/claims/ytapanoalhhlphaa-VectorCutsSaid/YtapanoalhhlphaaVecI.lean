
/- Ident and Then. -/
import Derived.Test.YtapanoalhhlphaaVecR
import Derived.BigRegion
import Derived.Deep.RegionLaw
import Derived.Laws.MakeOwn
namespace Go.Proofs.Ytapanoalhhlphaa.Vec
set_option linter.unusedSimpArgs false
set_option linter.unusedVariables false
open Go Go.RowKit
attribute [local go_sem] lt_add1 lt_self1 size_ne size_ne' size_ne1 size_ne1'

theorem int_info : (Try.prog.info? 3).map (fun i => (i.zero, i.size, i.bytes)) = some (some (.int .i64 0), 1, 8) := by kernel_rfl
theorem bool_info : (Try.prog.info? 4).map (fun i => (i.zero, i.size, i.bytes)) = some (some (.bool false), 1, 1) := by kernel_rfl
theorem make_ints (k : Nat) (hk : k ≤ 1000000) (W : World) : (Instr.makeSlice 22 (.int .i64 k) (.int .i64 k)).run Try.prog W = .ok (.slice (some ⟨W.heap.size, 0, none⟩) k k) (W.alloc (.cells (Array.replicate k (.int .i64 0)) 3)) := by
  obtain ⟨i, hi, h0, h1, h2⟩ := info_parts int_info
  have := run_make (P := Try.prog) W 22 3 i (.int .i64 0) Try.underlying22 hi h0 .i64 .i64 k k (by omega) (by omega) (by rw [h2]; omega) (by omega)
  rw [h1] at this
  have e : madeCells (Value.int .i64 0).cells ((k : Int).toNat * 1) = Array.replicate k (.int .i64 0) := by
    refine Array.ext (by simp [madeCells]) fun i h1 h2 => ?_
    simp [madeCells, Value.cells, Nat.mod_one]
  rw [e] at this
  simpa using this
theorem make_bools (k : Nat) (hk : k ≤ 1000000) (W : World) : (Instr.makeSlice 23 (.int .i64 k) (.int .i64 k)).run Try.prog W = .ok (.slice (some ⟨W.heap.size, 0, none⟩) k k) (W.alloc (.cells (Array.replicate k (.bool false)) 4)) := by
  obtain ⟨i, hi, h0, h1, h2⟩ := info_parts bool_info
  have := run_make (P := Try.prog) W 23 4 i (.bool false) Try.underlying23 hi h0 .i64 .i64 k k (by omega) (by omega) (by rw [h2]; omega) (by omega)
  rw [h1] at this
  have e : madeCells (Value.bool false).cells ((k : Int).toNat * 1) = Array.replicate k (.bool false) := by
    refine Array.ext (by simp [madeCells]) fun i h1 h2 => ?_
    simp [madeCells, Value.cells, Nat.mod_one]
  rw [e] at this
  simpa using this

/-- a row of k numbers, the first i of which are their own places. -/
def L (i k : Nat) : Array Value := ((List.range k).map fun j => if j < i then Value.int .i64 j else .int .i64 0).toArray
theorem L_size (i k : Nat) : (L i k).size = k := by simp [L]
theorem L_zero (k : Nat) : L 0 k = Array.replicate k (.int .i64 0) := by
  refine Array.ext (by simp [L]) fun i h1 h2 => ?_
  simp [L]
theorem L_get (i k j : Nat) (hj : j < k) : (L i k)[j]? = some (if j < i then Value.int .i64 j else .int .i64 0) := by simp [L, hj]
theorem L_set (i k : Nat) (hi : i < k) : (L i k).setIfInBounds i (.int .i64 i) = L (i + 1) k := by
  refine Array.ext (by simp [L]) fun j h1 h2 => ?_
  have hj : j < k := by simpa [L] using h2
  rw [Array.getElem_setIfInBounds (by rw [L_size]; exact hj)]
  by_cases e : i = j
  · subst e; simp [L]
  · simp only [if_neg e]
    simp [L]
    have : (j < i + 1) ↔ (j < i) := by omega
    simp [this]
/-- the two rows of a function that was made, and the variable that holds it. -/
structure Rows3 (B : Nat) (a0 w : World) (x a b k : Nat) (R1 R2 : Array Value) : Prop where
  xa : x ≠ a
  xb : x ≠ b
  ab : a ≠ b
  bx : w.heap[x]? = some (.cells #[.slice (some ⟨a, 0, none⟩) k k, .slice (some ⟨b, 0, none⟩) k k] 29 (0, 0))
  ra : w.heap[a]? = some (.cells R1 3 (0, 0))
  rb : w.heap[b]? = some (.cells R2 4 (0, 0))
  lx : B < x
  la : B < a
  lb : B < b
  box : w.heap[B]? = some (.cells #[.slice none 0 0, .slice none 0 0] 29 (0, 0))
  bel : Below B a0 w
theorem Rows3.seta {B : Nat} {a0 w : World} {x a b k : Nat} {R1 R2 : Array Value} (h : Rows3 B a0 w x a b k R1 R2) (i : Nat) (v : Value) : Rows3 B a0 (w.setCell ⟨a, i, none⟩ v) x a b k (R1.setIfInBounds i v) R2 := by
  have hbl := h.la
  refine ⟨h.xa, h.xb, h.ab, ?_, heap_setCell_same _ _ _ _ _ _ h.ra, ?_, h.lx, h.la, h.lb, ?_, h.bel.setCell (by show B ≤ a; omega) _⟩
  · rw [heap_setCell_other _ _ _ _ h.xa]; exact h.bx
  · rw [heap_setCell_other _ _ _ _ (fun e => h.ab e.symm)]; exact h.rb
  · rw [heap_setCell_other _ _ _ _ (by show B ≠ a; omega)]; exact h.box

theorem at_old {w : World} {O : Obj} {i : Nat} {r : Option Obj} (hr : w.heap[i]? = r) (h : i < w.heap.size) : (w.alloc O).heap[i]? = r := by
  show (w.heap.push O)[i]? = r
  rw [Array.getElem?_push, if_neg (by omega)]; exact hr
theorem at_alloc {w : World} {O : Obj} {i : Nat} (h : i = w.heap.size) : (w.alloc O).heap[i]? = some O := by subst h; exact heap_alloc_new w O

set_option maxRecDepth 100000 in
set_option maxHeartbeats 1000000 in
theorem ident_any (k : Nat) (h1 : 1 ≤ k) (h2 : k ≤ 4096) (w : World) :
    Calls Try.prog 13 #[.int .i64 k] w fun e w' => ∃ a b, e = .returned (.agg #[.slice (some ⟨a, 0, none⟩) k k, .slice (some ⟨b, 0, none⟩) k k]) ∧ a ≠ b ∧ w.heap.size ≤ a ∧ w.heap.size ≤ b ∧
      w'.heap[a]? = some (.cells (L k k) 3 (0, 0)) ∧ w'.heap[b]? = some (.cells (Array.replicate k (.bool false)) 4 (0, 0)) ∧ Below w.heap.size w w' := by
  have hk1 : ¬ (k : Int) < 1 := by omega
  have hk2 : ¬ (4096 : Int) < k := by omega
  have hm1 := make_ints k (by omega)
  have hm2 := make_bools k (by omega)
  rw [← L_zero] at hm1
  generalize Array.replicate k (Value.bool false) = R2 at hm2 ⊢
  go_enter Try.func13, Try.ntmps13
  go_upto_region 3 with fail
  go_cut [3, 13, 15] (fun v va vb wx => ∃ x a b, v = .pointer (some ⟨x, 0, none⟩) ∧ va = .slice (some ⟨a, 0, none⟩) k k ∧ vb = .slice (some ⟨b, 0, none⟩) k k ∧ Rows3 w.heap.size w wx x a b k (L 0 k) R2)
  case first =>
    go_region
    all_goals
      go_wp2_with fail
      go_meet
      refine ⟨_, _, _, rfl, rfl, rfl, ?_⟩
      constructor
      all_goals first | omega | (simp only [heap_drew]; (repeat (first | exact at_alloc (by first | rfl | (simp; done) | (simp; omega)) | refine at_old ?_ (by first | (simp; done) | (simp; omega)))); done) | ((repeat (first | exact Below.refl _ _ | assumption | (refine Below.setCell ?_ (by first | (simp; done) | (simp; omega) | omega) _) | (refine Below.alloc ?_ (by first | (simp; done) | (simp; omega) | omega) _) | (refine Below.drew ?_) | (refine Below.drewN ?_ _) | (refine Below.trans ?_ (Below.mono (by assumption) (by first | (simp; done) | (simp; omega) | omega))))); done)
  case rest =>
  obtain ⟨x, a, b, rfl, rfl, rfl, hr⟩ := hcut
  have HR := Lib.hid hr
  have hx := cell_of_row wc x
  have x0 := hx 0 _ _ (0, 0) hr.bx
  simp only [List.getElem?_toArray, List.getElem?_cons_zero, List.getElem?_cons_succ] at x0
  clear hr hx hm1 hm2
  go_wp2_with fail
  go_loopw [20] (fun i wr => ∃ j : Nat, j ≤ k ∧ i = .int .i64 j ∧ Rows3 w.heap.size w wr x a b k (L j k) R2) (fun i _ => k - (intOf i).toNat)
  case atStart => exact ⟨0, by omega, rfl, HR.out⟩
  case round =>
    obtain ⟨j, hj, rfl, hr⟩ := hrel
    have H := Lib.hid hr
    have x0 := cell_of_row wr x 0 _ _ (0, 0) hr.bx
    simp only [List.getElem?_toArray, List.getElem?_cons_zero, List.getElem?_cons_succ] at x0
    by_cases hlt : j < k
    · have a0 : wr.cell? ⟨a, j, none⟩ = some (.int .i64 0) := by
        rw [cell_of_row wr a j _ _ (0, 0) hr.ra, L_get _ _ _ hlt]
        simp
      have af : wr.frozen? ⟨a, j, none⟩ = false := by simp [World.frozen?, hr.ra]
      have hj0 : (0 : Int) ≤ j := by omega
      have hj1 : (j : Int) < k := by omega
      have hset := hr.seta j (.int .i64 j)
      rw [L_set j k hlt] at hset
      have HS := Lib.hid hset
      clear hr hset
      go_wp2
      go_roundw
      case rel => exact ⟨j + 1, by omega, by go_num, HS.out⟩
      case measure => simp [intOf]; omega
    · have e : j = k := by omega
      subst e
      have x1 := cell_of_row wr x 1 _ _ (0, 0) hr.bx
      have y0 := cell_of_row wr w.heap.size 0 _ _ (0, 0) hr.box
      have y1 := cell_of_row wr w.heap.size 1 _ _ (0, 0) hr.box
      simp only [List.getElem?_toArray, List.getElem?_cons_zero, List.getElem?_cons_succ] at x1 y0 y1
      have yf : ∀ o, wr.frozen? ⟨w.heap.size, o, none⟩ = false := fun o => by simp [World.frozen?, hr.box]
      have hla := hr.la
      have hlb := hr.lb
      have r1 : ((wr.setCell ⟨w.heap.size, 0, none⟩ (.slice (some ⟨a, 0, none⟩) j j)).setCell ⟨w.heap.size, 1, none⟩ (.slice (some ⟨b, 0, none⟩) j j)).heap[a]? = some (.cells (L j j) 3 (0, 0)) := by
        rw [heap_setCell_other _ _ _ _ (by show a ≠ w.heap.size; omega), heap_setCell_other _ _ _ _ (by show a ≠ w.heap.size; omega)]; exact hr.ra
      have r2 : ((wr.setCell ⟨w.heap.size, 0, none⟩ (.slice (some ⟨a, 0, none⟩) j j)).setCell ⟨w.heap.size, 1, none⟩ (.slice (some ⟨b, 0, none⟩) j j)).heap[b]? = some (.cells R2 4 (0, 0)) := by
        rw [heap_setCell_other _ _ _ _ (by show b ≠ w.heap.size; omega), heap_setCell_other _ _ _ _ (by show b ≠ w.heap.size; omega)]; exact hr.rb
      have hbel : Below w.heap.size w ((wr.setCell ⟨w.heap.size, 0, none⟩ (.slice (some ⟨a, 0, none⟩) j j)).setCell ⟨w.heap.size, 1, none⟩ (.slice (some ⟨b, 0, none⟩) j j)) := (hr.bel.setCell (Nat.le_refl _) _).setCell (Nat.le_refl _) _
      have HF := Lib.hid (And.intro r1 (And.intro r2 (And.intro hbel hr.ab)))
      clear r1 r2 hbel hr
      go_wp2
      refine bodyPost_ret (v := .agg #[.slice (some ⟨a, 0, none⟩) j j, .slice (some ⟨b, 0, none⟩) j j]) ?_ ?_ ⟨a, b, rfl, HF.out.2.2.2, by omega, by omega, HF.out.1, HF.out.2.1, HF.out.2.2.1⟩
      · simp [results, Try.results13, go_sem, *]
      · rfl
end Go.Proofs.Ytapanoalhhlphaa.Vec
