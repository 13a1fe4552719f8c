
/- The page's clock: Get. -/
import Derived.Test.YtohjhbhbpflokaaClkB
namespace Go.Proofs.Ytohjhbhbpflokaa.Ck
set_option linter.unusedSimpArgs false
set_option linter.unusedVariables false
open Go Go.RowKit Go.Shelf
set_option linter.unusedVariables false
attribute [local go_sem] lt_add1 lt_self1 size_ne size_ne' size_ne1 size_ne1'
theorem findZ_some {row : List CE} {k : Int} {i : Nat} (h : kx (keys row) k = some i) : findZ row k = i := by unfold findZ; rw [h]
theorem findZ_none {row : List CE} {k : Int} (h : kx (keys row) k = none) : findZ row k = -1 := by unfold findZ; rw [h]
/-- the page's variable in its block. -/
def VarAt (w : World) (x : Nat) (r : Value) (hand mo : Int) : Prop := w.heap[x]? = some (.cells #[r, .int .i64 hand, .int .i64 mo] 40 (0, 0))
theorem VarAt.cells {w : World} {x : Nat} {r : Value} {hand mo : Int} (h : VarAt w x r hand mo) : w.cell? ⟨x, 0, none⟩ = some r ∧ w.cell? ⟨x, 1, none⟩ = some (.int .i64 hand) ∧ w.cell? ⟨x, 2, none⟩ = some (.int .i64 mo) ∧ x < w.heap.size ∧ ∀ o, w.frozen? ⟨x, o, none⟩ = false := by
  unfold VarAt at h
  have c0 := cell_of_row w x 0 _ _ (0, 0) h
  have c1 := cell_of_row w x 1 _ _ (0, 0) h
  have c2 := cell_of_row w x 2 _ _ (0, 0) h
  simp only [List.getElem?_toArray, List.getElem?_cons_zero, List.getElem?_cons_succ] at c0 c1 c2
  exact ⟨c0, c1, c2, (Array.getElem?_eq_some_iff.1 h).1, fun o => by simp [World.frozen?, h]⟩
theorem VarAt.below {w w' : World} {x : Nat} {r : Value} {hand mo : Int} (h : VarAt w x r hand mo) (hb : Below w.heap.size w w') : VarAt w' x r hand mo := (hb.block x (Array.getElem?_eq_some_iff.1 h).1).trans h
theorem VarAt.new (w : World) (r : Value) (hand mo : Int) : VarAt (w.alloc (.cells #[r, .int .i64 hand, .int .i64 mo] 40)) w.heap.size r hand mo := heap_alloc_new _ _
theorem VarAt.other {w : World} {x y o : Nat} {r u : Value} {hand mo : Int} (h : VarAt w x r hand mo) (hn : x ≠ y) : VarAt (w.setCell ⟨y, o, none⟩ u) x r hand mo := (heap_setCell_other _ _ _ _ hn).trans h
theorem VarAt.set0 {w : World} {x : Nat} {r u : Value} {hand mo : Int} (h : VarAt w x r hand mo) : VarAt (w.setCell ⟨x, 0, none⟩ u) x u hand mo := by
  have := heap_setCell_same w x 0 _ _ u h
  exact this
theorem VarAt.set1 {w : World} {x : Nat} {r : Value} {hand mo z : Int} (h : VarAt w x r hand mo) : VarAt (w.setCell ⟨x, 1, none⟩ (.int .i64 z)) x r z mo := by
  have := heap_setCell_same w x 1 _ _ (.int .i64 z) h
  exact this
theorem own_setB {w : World} {B : Nat} {e : TypeId} {size g n cap : Nat} {xs : List Value} (h : w.ownsRow B e size (.slice (some ⟨g, 0, none⟩) n cap) n xs) {j : Nat} (hj : j < n * size) (u : Value) : (w.setCell ⟨g, j, none⟩ u).ownsRow B e size (.slice (some ⟨g, 0, none⟩) n cap) n (xs.set j u) := by
  refine ⟨by rw [List.length_set]; exact h.1, ?_⟩
  rcases h.2 with ⟨h2, _⟩ | ⟨g', cap', cur, e1, e2, e3, e4, e5, e6, e7⟩
  · simp at h2
  · obtain ⟨rfl, rfl⟩ : g = g' ∧ cap = cap' := by simpa using e1
    refine .inr ⟨g, cap, cur.setIfInBounds j u, rfl, e2, heap_setCell_same w g j _ _ u e3, e4, e5, by simpa using e6, ?_⟩
    rw [Array.toList_setIfInBounds, List.take_set, e7]
theorem OwnE.mark {w : World} {B g cap i : Nat} {row : List CE} {e : CE} (h : OwnE w B (.slice (some ⟨g, 0, none⟩) row.length cap) row) (he : row[i]? = some e) (b : Bool) : OwnE (w.setCell ⟨g, i * 3 + 2, none⟩ (.bool b)) B (.slice (some ⟨g, 0, none⟩) row.length cap) (row.set i (e.mk1 b)) := by
  have hl := (List.getElem?_eq_some_iff.1 he).1
  unfold OwnE at h ⊢
  rw [List.length_set, ← flat_set b he]
  exact own_setB h (by omega) _
theorem OwnE.setE {w : World} {B g cap i : Nat} {row : List CE} (h : OwnE w B (.slice (some ⟨g, 0, none⟩) row.length cap) row) (hi : i < row.length) (e : CE) : OwnE (Ck.setE w g i e) B (.slice (some ⟨g, 0, none⟩) row.length cap) (row.set i e) := by
  unfold OwnE at h ⊢
  rw [List.length_set, ← flat_setE e hi]
  exact own_setB (own_setB (own_setB h (by omega) _) (by omega) _) (by omega) _
theorem OwnE.other {w : World} {B y o : Nat} {r u : Value} {row : List CE} (h : OwnE w B r row) (hn : r.ownBlock ≠ some y) : OwnE (w.setCell ⟨y, o, none⟩ u) B r row := own_setCell h hn _
theorem OwnE.base {w : World} {B B' : Nat} {r : Value} {row : List CE} (h : OwnE w B r row) (hb : B' ≤ B) : OwnE w B' r row := own_base h hb
/-- what lies where the page's function begins: the argument's box and the result's. -/
structure Beg (w : World) (x : Nat) (r : Value) (hand mo : Int) (row : List CE) (w1 : World) : Prop where
  vx : VarAt w1 x r hand mo
  vy : VarAt w1 (x + 1) (.slice none 0 0) 0 0
  own : OwnE w1 0 r row
  bel : Below w.heap.size w w1
  eq : w.heap.size = x
theorem Beg.mk0 {w : World} {r : Value} {hand mo : Int} {row : List CE} (h : OwnE w 0 r row) : Beg w w.heap.size r hand mo row ((w.alloc (.cells #[r, .int .i64 hand, .int .i64 mo] 40)).alloc (.cells #[.slice none 0 0, .int .i64 0, .int .i64 0] 40)) := by
  have hb1 : Below w.heap.size w ((w.alloc (.cells #[r, .int .i64 hand, .int .i64 mo] 40)).alloc (.cells #[.slice none 0 0, .int .i64 0, .int .i64 0] 40)) := ((Below.refl _ _).alloc (Nat.le_refl _) _).alloc (by simp) _
  exact ⟨(Below.heap_alloc _ _ _ (by simp)).trans (heap_alloc_new _ _), alloc2_at w _ _, h.below hb1, hb1, rfl⟩
/-- .. and its own copy. -/
structure Cpy (w : World) (x z : Nat) (r r2 : Value) (hand mo : Int) (row : List CE) (w3 : World) : Prop where
  vx : VarAt w3 x r hand mo
  vy : VarAt w3 (x + 1) (.slice none 0 0) 0 0
  vz : VarAt w3 z r2 hand mo
  own : OwnE w3 (x + 2) r2 row
  bel : Below w.heap.size w w3
  eq : w.heap.size = x
  lt : x + 1 < z
  ne : r2.ownBlock ≠ some z
theorem Beg.copy {w w1 w2 : World} {x : Nat} {r r2 : Value} {hand mo : Int} {row : List CE} (h : Beg w x r hand mo row w1) (ho : OwnE w2 w1.heap.size r2 row) (hb : Below w1.heap.size w1 w2) : Cpy w x w2.heap.size r r2 hand mo row (w2.alloc (.cells #[r2, .int .i64 hand, .int .i64 mo] 40)) := by
  have hba : Below w2.heap.size w2 (w2.alloc (.cells #[r2, .int .i64 hand, .int .i64 mo] 40)) := (Below.refl _ _).alloc (Nat.le_refl _) _
  have hx1 := (Array.getElem?_eq_some_iff.1 h.vy).1
  have hz := hb.size
  have hle := h.bel.size
  exact ⟨(h.vx.below hb).below hba, (h.vy.below hb).below hba, VarAt.new _ _ _ _, own_base (ho.below hba) (by omega), (h.bel.trans (hb.mono hle)).trans (hba.mono (by omega)), h.eq, by omega, fun e => by have := (World.ownsRow.lt ho _ e).2; omega⟩
set_option maxHeartbeats 4000000 in
theorem refget_any (r : Value) (s : CS) (mo k : Int) (w : World) (hs : s.row.length ≤ 1000) (h : OwnE w 0 r s.row) : Calls Try.prog 22 #[refV r s.hand mo, .int .i64 k] w fun e w' => ∃ r', e = .returned (.tuple #[refV r' (getS s k).1.hand mo, .string (getS s k).2.1, .bool (getS s k).2.2]) ∧ OwnE w' w.heap.size r' (getS s k).1.row ∧ Below w.heap.size w w' := by
  obtain ⟨A, cp, rfl⟩ := h.form
  have HO := Lib.hid h
  clear h
  unfold refV
  go_enter Try.func22, Try.ntmps22
  go_upto_region 1 with fail
  have HB := Lib.hid (Beg.mk0 (hand := s.hand) (mo := mo) HO.out)
  generalize (w.alloc (.cells #[.slice A s.row.length cp, .int .i64 s.hand, .int .i64 mo] 40)).alloc (.cells #[.slice none 0 0, .int .i64 0, .int .i64 0] 40) = w1 at HB ⊢
  obtain ⟨x, hx⟩ : ∃ x, w.heap.size = x := ⟨_, rfl⟩
  rw [hx] at HB
  rw [hx]
  clear hx
  obtain ⟨c0, c1, c2, hxl, _⟩ := HB.out.vx.cells
  have HCP := Lib.hid (copied_any (.slice A s.row.length cp) s.hand mo s.row w1 hs HB.out.own)
  unfold refV at HCP
  go_wp2_with fail
  ((with_reducible refine HCP.out.mono ?_); rintro _ w2 ⟨r2, rfl, ho2, hb2⟩)
  have HC := Lib.hid (HB.out.copy ho2 hb2)
  obtain ⟨A2, cp2, rfl⟩ := ho2.form
  clear ho2 hb2 c0 c1 c2 hxl HCP
  go_upto_region 2 with fail
  generalize w2.alloc (.cells #[.slice A2 s.row.length cp2, .int .i64 s.hand, .int .i64 mo] 40) = w3 at HC ⊢
  generalize w2.heap.size = z at HC ⊢
  obtain ⟨c0, c1, c2, hzl, _⟩ := HC.out.vz.cells
  have HFN := Lib.hid (find_any (.slice A2 s.row.length cp2) s.hand mo k s.row w3 hs (own_base HC.out.own (Nat.zero_le _)))
  unfold refV at HFN
  go_wp2_with fail
  ((with_reducible refine HFN.out.mono ?_); rintro _ w4 ⟨rfl, hb4⟩)
  have HY4 := Lib.hid (HC.out.vy.below hb4)
  have HZ4 := Lib.hid (HC.out.vz.below hb4)
  have HO4 := Lib.hid (HC.out.own.below hb4)
  have HB4 := Lib.hid (HC.out.bel.trans (hb4.mono HC.out.bel.size))
  clear hb4 c0 c1 c2 hzl HFN
  obtain ⟨c0, c1, c2, hzl, hzf⟩ := HZ4.out.cells
  obtain ⟨y0, y1, y2, hyl, hyf⟩ := HY4.out.cells
  have hx0 : w.heap.size ≤ x + 1 := by have := HC.out.eq; omega
  have hyz : x + 1 ≠ z := by have := HC.out.lt; omega
  cases hk : kx (keys s.row) k with
  | none =>
    have HG := Lib.hid (getS_none hk)
    rw [findZ_none hk]
    clear hk
    go_wp2_with fail
    rw [HG.out]
    refine bodyPost_ret (v := .tuple #[.agg #[.slice A2 s.row.length cp2, .int .i64 s.hand, .int .i64 mo], .string ⟨#[]⟩, .bool false]) (by simp [results, Try.results22, go_sem, *]) rfl ⟨_, rfl, ?_, ?_⟩
    · have n1 : (Value.slice A2 s.row.length cp2).ownBlock ≠ some (x + 1) := fun e => by have := (World.ownsRow.lt HO4.out _ e).1; omega
      exact own_base (own_setCell (own_setCell (own_setCell HO4.out n1 _) n1 _) n1 _) (by have := HC.out.eq; omega)
    · exact ((HB4.out.setCell hx0 _).setCell hx0 _).setCell hx0 _
  | some i =>
    have hi : i < s.row.length := by simpa [keys] using kx_lt hk
    obtain ⟨e, he⟩ : ∃ e, s.row[i]? = some e := ⟨_, List.getElem?_eq_getElem hi⟩
    have hgs : getS s k = ({ s with row := s.row.set i (e.mk1 true) }, e.val, true) := by
      unfold getS
      rw [hk]
      simp only [he]
    have HG := Lib.hid (And.intro hgs he)
    rw [findZ_some hk]
    obtain ⟨g, cap, e1, hg1, hgl, d0, d1, d2, hfg⟩ := HO4.out.cells he
    obtain ⟨rfl, rfl⟩ : A2 = some ⟨g, 0, none⟩ ∧ cp2 = cap := by simpa using e1
    have hgz : g ≠ z := fun e => HC.out.ne (by simp [Value.ownBlock, e])
    have hgx : g ≠ x + 1 := by omega
    have hi' : (i : Int) < s.row.length := by omega
    clear hk he hgs e1
    go_wp2_with fail
    go_region
    go_wp2_with fail
    rw [HG.out.1]
    refine bodyPost_ret (v := .tuple #[.agg #[.slice (some ⟨g, 0, none⟩) s.row.length cp2, .int .i64 s.hand, .int .i64 mo], .string e.val, .bool true]) (by simp [results, Try.results22, go_sem, *]) rfl ⟨_, rfl, ?_, ?_⟩
    · have n1 : (Value.slice (some ⟨g, 0, none⟩) s.row.length cp2).ownBlock ≠ some (x + 1) := fun e => hgx (by simpa [Value.ownBlock] using e)
      exact (((((HO4.out.mark HG.out.2 true).other n1).other n1).other n1).below ((Below.refl _ _).drew)).base (by have := HC.out.eq; omega)
    · exact ((((HB4.out.setCell (show w.heap.size ≤ g by omega) _).setCell hx0 _).setCell hx0 _).setCell hx0 _).drew
end Go.Proofs.Ytohjhbhbpflokaa.Ck
