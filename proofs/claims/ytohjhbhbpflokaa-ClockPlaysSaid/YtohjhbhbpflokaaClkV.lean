
/- The clock's search: what its loop's measure is. -/
import Derived.Test.YtohjhbhbpflokaaClkM
namespace Go.Proofs.Ytohjhbhbpflokaa.Ck
set_option linter.unusedSimpArgs false
set_option linter.unusedVariables false
open Go Go.RowKit
set_option linter.unusedVariables false
def isT (v : Option Value) : Bool := match v with | some (.bool b) => b | _ => false
/-- how many marks stand in a block of entries. -/
def usedW (g l : Nat) (w : World) : Nat := (List.range l).countP fun i => isT (w.cell? ⟨g, i * 3 + 2, none⟩)
theorem usedN_range (r : List CE) : usedN r = (List.range r.length).countP fun i => (r[i]?.map CE.used).getD false := by
  induction r with
  | nil => rfl
  | cons e r ih =>
    rw [List.length_cons, List.range_succ_eq_map, List.countP_cons, List.countP_map]
    have h1 : usedN (e :: r) = usedN r + if e.used = true then 1 else 0 := by simp [usedN, List.countP_cons]
    rw [h1, ih]
    simp only [List.getElem?_cons_zero, Option.map_some, Option.getD_some]
    rfl
theorem flat_at (r : List CE) (i : Nat) (hi : i < r.length) : (r.flatMap ec)[i * 3 + 2]? = some (.bool r[i].used) := by
  induction r generalizing i with
  | nil => simp at hi
  | cons e r ih =>
    rw [List.flatMap_cons]
    cases i with
    | zero => simp [ec]
    | succ i =>
      have := ih i (by simpa using hi)
      rw [List.getElem?_append_right (by rw [ec_length]; omega), ec_length, show (i + 1) * 3 + 2 - 3 = i * 3 + 2 by omega, this]
      simp
theorem own_at {w : World} {e : TypeId} {size g n cap : Nat} {xs : List Value} (h : w.ownsRow 0 e size (.slice (some ⟨g, 0, none⟩) n cap) n xs) {j : Nat} (hj : j < n * size) : w.cell? ⟨g, j, none⟩ = xs[j]? := by
  rcases h.2 with ⟨h2, _⟩ | ⟨g', cap', cur, e1, e2, e3, e4, e5, e6, e7⟩
  · simp at h2
  · obtain ⟨rfl, rfl⟩ : g = g' ∧ cap = cap' := by simpa using e1
    rw [← e7, List.getElem?_take_of_lt hj]
    simp [World.cell?, e3]
theorem usedW_eq {w : World} {e : TypeId} {g cap : Nat} {r : List CE} (h : w.ownsRow 0 e 3 (.slice (some ⟨g, 0, none⟩) r.length cap) r.length (r.flatMap ec)) : usedW g r.length w = usedN r := by
  rw [usedN_range]
  unfold usedW
  refine List.countP_congr fun i hi => ?_
  have hl : i < r.length := List.mem_range.1 hi
  rw [own_at h (by omega), flat_at r i hl, List.getElem?_eq_getElem hl]
  simp [isT]
end Go.Proofs.Ytohjhbhbpflokaa.Ck
