
/- Clock, what its loops need: the map of a row, the rounds of Evict and of Drop. -/
import Derived.Test.YtohjhbhbpflokaaClkQ
namespace Go.Proofs.Ytohjhbhbpflokaa.Ck
set_option linter.unusedSimpArgs false
set_option linter.unusedVariables false
set_option linter.unusedVariables false

/-- what the map of a row holds. -/
def kF (l : List Int) : Int → Option Int := fun k => (kx l k).map (fun i => (i : Int))
theorem kF_nil : kF [] = fun _ => none := rfl
theorem kF_append {l : List Int} {k : Int} (hk : k ∉ l) : kF (l ++ [k]) = fun j => if j = k then some (l.length : Int) else kF l j := by
  funext j
  unfold kF
  rw [kx_append hk]
  by_cases h : j = k
  · simp [h]
  · simp [h]
theorem kF_set {l : List Int} {k o : Int} {i : Nat} (hn : l.Nodup) (hk : k ∉ l) (ho : l[i]? = some o) : kF (l.set i k) = fun j => if j = k then some (i : Int) else if j = o then none else kF l j := by
  funext j
  unfold kF
  rw [kx_set hn hk ho]
  by_cases h : j = k
  · simp [h]
  · by_cases h2 : j = o
    · subst h2
      simp [h]
    · simp [h, h2]
/-- a round of lay. -/
theorem kF_take {l : List Int} (hn : l.Nodup) {i : Nat} {k : Int} (hi : l[i]? = some k) : kF (l.take (i + 1)) = fun j => if j = k then some (i : Int) else kF (l.take i) j := by
  have hl := (List.getElem?_eq_some_iff.1 hi).1
  have h1 : l.take (i + 1) = l.take i ++ [k] := by rw [List.take_add_one, hi]; rfl
  have h2 : k ∉ l.take i := by
    intro hm
    obtain ⟨j, hj⟩ := List.getElem?_of_mem hm
    have hj' : j < i := by
      have := (List.getElem?_eq_some_iff.1 hj).1
      rw [List.length_take] at this
      omega
    rw [List.getElem?_take_of_lt hj'] at hj
    have := nodup_idx hn hj hi
    omega
  rw [h1, kF_append h2, List.length_take, Nat.min_eq_left (Nat.le_of_lt hl)]

theorem evN_succ : ∀ (n : Nat) (s : CS), evN (n + 1) s = ev1 (evN n s)
  | 0, s => rfl
  | n + 1, s => by
    show evN (n + 1) (ev1 s) = ev1 (evN n (ev1 s))
    exact evN_succ n (ev1 s)

/-- what Drop has kept of the first i, and how many of them lie ahead of the hand. -/
def keepR (p : Int → Bool) (r : List CE) (i : Nat) : List CE := (r.take i).filter (fun e => !p e.key)
def keepH (p : Int → Bool) (r : List CE) (h i : Nat) : Nat := stay p (r.take i) h
theorem keepR_0 (p : Int → Bool) (r : List CE) : keepR p r 0 = [] := by simp [keepR]
theorem keepH_0 (p : Int → Bool) (r : List CE) (h : Nat) : keepH p r h 0 = 0 := by simp [keepH, stay]
theorem keepR_succ {p : Int → Bool} {r : List CE} {i : Nat} {e : CE} (h : r[i]? = some e) : keepR p r (i + 1) = if p e.key then keepR p r i else keepR p r i ++ [e] := by
  unfold keepR
  rw [List.take_add_one, h]
  cases hp : p e.key <;> simp [List.filter_append, hp]
theorem keepH_succ {p : Int → Bool} {r : List CE} {h i : Nat} {e : CE} (he : r[i]? = some e) : keepH p r h (i + 1) = if p e.key = false ∧ i < h then keepH p r h i + 1 else keepH p r h i := by
  have hl := (List.getElem?_eq_some_iff.1 he).1
  unfold keepH stay
  simp only [List.take_take]
  by_cases hi : i < h
  · rw [Nat.min_eq_right (by omega : i + 1 ≤ h), Nat.min_eq_right (by omega : i ≤ h), List.take_add_one, he]
    cases hp : p e.key <;> simp [List.filter_append, hp, hi]
  · rw [if_neg (fun h' => hi h'.2), Nat.min_eq_left (by omega : h ≤ i + 1), Nat.min_eq_left (by omega : h ≤ i)]
theorem keepR_all {p : Int → Bool} {r : List CE} {i : Nat} (h : r.length ≤ i) : keepR p r i = r.filter (fun e => !p e.key) := by
  unfold keepR
  rw [List.take_of_length_le h]
theorem keepH_all {p : Int → Bool} {r : List CE} {h i : Nat} (hh : r.length ≤ i) : keepH p r h i = stay p r h := by
  unfold keepH
  rw [List.take_of_length_le hh]
theorem keepR_le (p : Int → Bool) (r : List CE) (i : Nat) : (keepR p r i).length ≤ i := Nat.le_trans (List.length_filter_le _ _) (by rw [List.length_take]; omega)
theorem keepH_le (p : Int → Bool) (r : List CE) (h i : Nat) : keepH p r h i ≤ i := by
  unfold keepH stay
  refine Nat.le_trans (List.length_filter_le _ _) ?_
  rw [List.length_take, List.length_take]
  omega
end Go.Proofs.Ytohjhbhbpflokaa.Ck
