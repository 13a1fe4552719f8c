/- Journals: all records of bytes: the program and the page read the same; what is the same is found the same. -/
import Derived.Test.YtghghioidllgiaaJq
namespace Go.Proofs.Ytghghioidllgiaa.JPure
set_option linter.unusedSimpArgs false
set_option linter.unusedVariables false
open Go.RowKit Go.Proofs.Ytghghioidllgiaa.PJ Go.Proofs.YtghghioidllgiaaW.PrintWords Go.Proofs.YtghghioidllgiaaW.PrintLast Go.Proofs.YtghghioidllgiaaW.PrintMore
set_option linter.unusedVariables false

theorem rec_size (b : List Int) (h : (rec b).2.2.2 = 0) : ∃ n : Nat, (rec b).2.2.1 = 8 + (n : Int) ∧ 8 + n ≤ b.length ∧ (rec b).1.length ≤ n := by
  unfold rec at h ⊢
  by_cases c1 : b.length < 8
  · rw [if_pos c1] at h; simp at h
  by_cases c2 : 1572858 < len_ b
  · rw [if_neg c1, if_pos c2] at h; simp at h
  by_cases c3 : b.length < 8 + len_ b
  · rw [if_neg c1, if_neg c2, if_pos c3] at h; simp at h
  by_cases c4 : sumv (inn b) ≠ numv ((b.take 8).drop 4)
  · rw [if_neg c1, if_neg c2, if_neg c3, if_pos c4] at h; simp at h
  by_cases c5 : len_ b < 2 ∨ len_ b < 2 + 8 * cnt b
  · rw [if_neg c1, if_neg c2, if_neg c3, if_neg c4, if_pos c5] at h; simp at h
  rw [if_neg c1, if_neg c2, if_neg c3, if_neg c4, if_neg c5]
  exact ⟨len_ b, rfl, by omega, by rw [els_length]; omega⟩
/-- one record more, as the program takes it. -/
theorem get_step (x0 : List Int) (hB : B x0) (hx : x0.length ≤ 2000) (acc : List S88) (hacc : acc.length ≤ 2000) (a : Nat) (ha : a < x0.length) (R : List S88 × Int × Int)
    (H : (rec (x0.drop a)).2.2.2 = 0 → Ev (fun k => journal_Get.l0 k x0 (acc ++ [⟨(rec (x0.drop a)).1, (rec (x0.drop a)).2.1⟩]) ((a : Int) + (rec (x0.drop a)).2.2.1)) R)
    (H' : (rec (x0.drop a)).2.2.2 ≠ 0 → R = (acc, (a : Int), (rec (x0.drop a)).2.2.2)) : Ev (fun k => journal_Get.l0 k x0 acc (a : Int)) R := by
  have hbl : (x0.drop a).length = x0.length - a := List.length_drop
  refine Ev.succ ?_
  simp only [journal_Get.l0]
  rw [Int.toNat_natCast]
  refine Ev.pos (by omega) (Ev.pos (by omega) (Ev.pos (by omega) ?_))
  refine Ev.bind (rec_f (x0.drop a) (hB.drop a) (by omega)) ?_
  by_cases c : (rec (x0.drop a)).2.2.2 = 0
  · obtain ⟨n, e, hn, _⟩ := rec_size _ c
    refine Ev.pos c (Ev.pos (by omega) ?_)
    rw [w64 _ (by omega) (by omega)]
    exact H c
  · rw [H' c]
    exact Ev.neg c (Ev.now _)
theorem both (x0 : List Int) (hB : B x0) (hx : x0.length ≤ 2000) : ∀ (d a : Nat) (acc : List S88), x0.length - a ≤ d → a ≤ x0.length → acc.length ≤ a → (∀ y ∈ acc, y.f0.length ≤ 2000) →
    ∃ R : List S88 × Int × Int, Ev (fun k => journal_Get.l0 k x0 acc (a : Int)) R ∧ Ev (fun k => tattingref44_Get.l0 k x0 acc (a : Int)) R ∧ R.1.length ≤ 2000 ∧ ∀ y ∈ R.1, y.f0.length ≤ 2000 := by
  have hend : ∀ (a : Nat) (acc : List S88), a = x0.length → Ev (fun k => journal_Get.l0 k x0 acc (a : Int)) (acc, (a : Int), 0) ∧ Ev (fun k => tattingref44_Get.l0 k x0 acc (a : Int)) (acc, (a : Int), 0) := fun a acc e => by
    constructor
    · refine Ev.succ ?_
      simp only [journal_Get.l0]
      exact Ev.neg (by omega) (Ev.now _)
    · refine Ev.succ ?_
      simp only [tattingref44_Get.l0]
      exact Ev.neg (by omega) (Ev.now _)
  intro d
  induction d with
  | zero =>
    intro a acc hd ha hacc hy
    have := hend a acc (by omega)
    exact ⟨_, this.1, this.2, by show acc.length ≤ 2000; omega, hy⟩
  | succ d ih =>
    intro a acc hd ha hacc hy
    by_cases hlt : a < x0.length
    · by_cases c : (rec (x0.drop a)).2.2.2 = 0
      · obtain ⟨n, e, hn, hl⟩ := rec_size _ c
        rw [List.length_drop] at hn
        obtain ⟨R, h1, h2, h3⟩ := ih (a + (8 + n)) (acc ++ [⟨(rec (x0.drop a)).1, (rec (x0.drop a)).2.1⟩]) (by omega) (by omega) (by simp; omega) (fun y hm => by
          rcases List.mem_append.1 hm with hm | hm
          · exact hy y hm
          · rw [List.mem_singleton.1 hm]; show (rec (x0.drop a)).1.length ≤ 2000; omega)
        have e2 : (a : Int) + (rec (x0.drop a)).2.2.1 = ((a + (8 + n) : Nat) : Int) := by rw [e]; omega
        exact ⟨R, get_step x0 hB hx acc (by omega) a hlt R (fun _ => by rw [e2]; exact h1) (fun h => absurd c h), rget_step x0 hB hx acc (by omega) a hlt R (fun _ => by rw [e2]; exact h2) (fun h => absurd c h), h3⟩
      · exact ⟨_, get_step x0 hB hx acc (by omega) a hlt _ (fun h => absurd h c) (fun _ => rfl), rget_step x0 hB hx acc (by omega) a hlt _ (fun h => absurd h c) (fun _ => rfl), by show acc.length ≤ 2000; omega, hy⟩
    · have := hend a acc (by omega)
      exact ⟨_, this.1, this.2, by show acc.length ≤ 2000; omega, hy⟩

/-! what is the same -/
theorem same_l0 (x : List Int) (s : ByteArray) (hx : x.length ≤ 1000000000) : ∀ (d i : Nat), x.length - i = d → i ≤ x.length → Ev (fun k => tattingref40_Same.l0 k (i : Int) x s x s) true := by
  intro d
  induction d with
  | zero =>
    intro i hd hi
    refine Ev.succ ?_
    simp only [tattingref40_Same.l0]
    exact Ev.neg (by omega) (Ev.now _)
  | succ d ih =>
    intro i hd hi
    refine Ev.succ ?_
    simp only [tattingref40_Same.l0]
    refine Ev.pos (by omega) (Ev.pos (by omega) (Ev.pos (by omega) (Ev.pos trivial ?_)))
    rw [w64 _ (by omega) (by omega)]
    exact ih (i + 1) (by omega) (by omega)
theorem same_one (x : List Int) (s : ByteArray) (hx : x.length ≤ 1000000000) : Ev (fun k => tattingref40_Same.f k x s x s) true := by
  unfold tattingref40_Same.f
  refine Ev.pos rfl ?_
  rw [show (s.toList != s.toList) = false by simp]
  refine Ev.succ ?_
  simp only [tattingref40_Same.j0]
  exact Ev.neg (by decide) (same_l0 x s hx x.length 0 (by omega) (by omega))
theorem same_all (l : List S88) (hl : l.length ≤ 1000000000) (hx : ∀ y ∈ l, y.f0.length ≤ 1000000000) : ∀ (d i : Nat), l.length - i = d → i ≤ l.length → Ev (fun k => tattingref43_Same.l0 k l l (i : Int)) true := by
  intro d
  induction d with
  | zero =>
    intro i hd hi
    refine Ev.succ ?_
    simp only [tattingref43_Same.l0]
    exact Ev.neg (by omega) (Ev.now _)
  | succ d ih =>
    intro i hd hi
    refine Ev.succ ?_
    simp only [tattingref43_Same.l0]
    refine Ev.pos (by omega) (Ev.pos (by omega) (Ev.pos (by omega) ?_))
    have hm : (rd_T88 l (i : Int)) ∈ l := by
      unfold rd_T88
      rw [Int.toNat_natCast, List.getD, List.getElem?_eq_getElem (by omega), Option.getD_some]
      exact List.getElem_mem _
    refine Ev.bind (same_one _ _ (hx _ hm)) (Ev.pos rfl ?_)
    rw [w64 _ (by omega) (by omega)]
    exact ih (i + 1) (by omega) (by omega)
theorem same_f (l : List S88) (hl : l.length ≤ 1000000000) (hx : ∀ y ∈ l, y.f0.length ≤ 1000000000) : Ev (fun k => tattingref43_Same.f k l l) true := by
  unfold tattingref43_Same.f
  exact Ev.pos rfl (same_all l hl hx l.length 0 (by omega) (by omega))
end Go.Proofs.Ytghghioidllgiaa.JPure
