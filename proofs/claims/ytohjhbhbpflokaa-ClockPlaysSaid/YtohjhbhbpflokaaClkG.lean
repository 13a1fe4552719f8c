
/- Get. -/
import Derived.Test.YtohjhbhbpflokaaClkW
namespace Go.Proofs.Ytohjhbhbpflokaa.Ck
set_option linter.unusedSimpArgs false
set_option linter.unusedVariables false
open Go Go.RowKit
set_option linter.unusedVariables false
attribute [local go_sem] lt_add1 lt_self1 size_ne size_ne' size_ne1 size_ne1'
theorem flat_val (r : List CE) (i : Nat) (hi : i < r.length) : (r.flatMap ec)[i * 3 + 1]? = some (.string r[i].val) := by
  induction r generalizing i with
  | nil => simp at hi
  | cons e r ih =>
    rw [List.flatMap_cons]
    cases i with
    | zero => simp [ec]
    | succ i =>
      have := ih i (by simpa using hi)
      rw [List.getElem?_append_right (by rw [ec_length]; omega), ec_length, show (i + 1) * 3 + 1 - 3 = i * 3 + 1 by omega, this]
      simp
theorem get_nil (k : Int) (w : World) : Calls Try.prog 9 #[.pointer none, .int .i64 k] w fun e w' => e = .returned (.tuple #[.string ⟨#[]⟩, .bool false]) ∧ Below w.heap.size w w' := by
  go_enter Try.func9, Try.ntmps9
  go_wp2_with fail
  refine bodyPost_ret (v := .tuple #[.string ⟨#[]⟩, .bool false]) ?_ rfl ⟨rfl, Below.refl _ _⟩
  simp [results, Try.results9, go_sem, *]
set_option maxHeartbeats 2000000 in
theorem get_any (c : Nat) (s : CS) (n : Nat) (k : Int) (hk : i64ok k) : Does Try.prog (resCk c) 9 #[.pointer (some ⟨c, 0, none⟩), .int .i64 k] (s, n)
    (fun v s' => v = .tuple #[.string (getS s k).2.1, .bool (getS s k).2.2] ∧ s' = ((getS s k).1, n)) := by
  rintro w F h
  have hc := resCk_of h
  obtain ⟨v, m, h1, h2, h3, h4, h5, h6, h7, h8⟩ := id hc
  obtain ⟨A, cp, rfl, _, _⟩ := SlAt.of_own h6
  have c0 := cell_of_row w c 0 _ _ (0, 0) h5
  have c1 := cell_of_row w c 1 _ _ (0, 0) h5
  have hlt := (Array.getElem?_eq_some_iff.1 h5).1
  simp only [List.getElem?_toArray, List.getElem?_cons_zero, List.getElem?_cons_succ] at c0 c1
  have hlk0 := h7.look_ok hk
  have HC := Lib.hid hc
  cases hx : kx (keys s.row) k with
  | none =>
    have hkf : kF (keys s.row) k = none := by unfold kF; rw [hx]; rfl
    rw [hkf] at hlk0
    simp only [Option.getD_none, Option.isSome_none] at hlk0
    rw [getS_none hx]
    clear h hc h1 h2 h3 h4 h5 h6 h7 h8
    go_enter Try.func9, Try.ntmps9
    go_wp2_with fail
    refine bodyPost_ret (v := .tuple #[.string ⟨#[]⟩, .bool false]) ?_ rfl ⟨_, rfl, _, _, ⟨rfl, rfl, rfl⟩, F, HC.out, Fr.refl _ _⟩
    simp [results, Try.results9, go_sem, *]
  | some i =>
    have hkf : kF (keys s.row) k = some (i : Int) := by unfold kF; rw [hx]; rfl
    rw [hkf] at hlk0
    simp only [Option.getD_some, Option.isSome_some] at hlk0
    have hi : i < s.row.length := by simpa [keys] using kx_lt hx
    obtain ⟨e, he⟩ : ∃ e, s.row[i]? = some e := ⟨_, List.getElem?_eq_getElem hi⟩
    obtain ⟨g, rfl, hFg, hset⟩ := setUsed hc he true c0
    obtain ⟨d2, dc, dg, dfz, du, _, hFc, hgc, _⟩ := ckCells hc c0 he
    have dv := own_at h6 (j := i * 3 + 1) (show i * 3 + 1 < s.row.length * 3 by omega)
    rw [flat_val _ i hi] at dv
    have hev : s.row[i].val = e.val := by rw [(List.getElem?_eq_some_iff.1 he).2]
    rw [hev] at dv
    have hsm : s.row.length ≤ 1000 := Nat.le_trans h8.le h8.small
    have HS := Lib.hid (And.intro hset (fr_cell hFg : Fr w F (w.setCell ⟨g, i * 3 + 2, none⟩ (.bool true)) F))
    have hgs : getS s k = ({ s with row := s.row.set i (e.mk1 true) }, e.val, true) := by
      unfold getS
      rw [hx]
      simp only [he]
    rw [hgs]
    clear h hc h1 h2 h3 h4 h5 h6 h7 h8 hset
    go_enter Try.func9, Try.ntmps9
    go_wp2_with fail
    refine bodyPost_ret (v := .tuple #[.string e.val, .bool true]) ?_ rfl ⟨_, rfl, _, _, ⟨rfl, rfl, rfl⟩, F, HS.out.1, HS.out.2⟩
    simp [results, Try.results9, go_sem, *]
end Go.Proofs.Ytohjhbhbpflokaa.Ck
