
/- Balance: size, height, the joiner's pair and get, left and right. -/
import Derived.Test.YtkcocdpmangcgaaBalP
import Derived.Test.YtkcocdpmangcgaaRes
namespace Go.Proofs.Ytkcocdpmangcgaa.Ar
set_option linter.unusedSimpArgs false
set_option linter.unusedVariables false
open Go Go.RowKit
attribute [local go_sem] lt_add1 lt_self1 size_ne size_ne' size_ne1 size_ne1'
attribute [local irreducible] wpGrow wpThr

/-- an arena of so many knots as a resource. -/
def resAr (g : Nat) : Res (List Knot) where
  at_ := fun w F ks => ∃ r, F = foot g r ∧ Arena w g r ks
  below := fun ⟨r, e, h⟩ hb => ⟨r, e, h.below hb⟩
  lt := fun ⟨r, e, h⟩ b hb => by subst e; exact hb.elim (fun e => e ▸ h.lt) h.row_lt

set_option maxHeartbeats 400000 in
theorem size_any (g : Nat) (r : Option Nat) (ks : List Knot) (t : Int) (w : World) (h : Arena w g r ks) (hn : ks.length ≤ small) :
    Calls Try.prog 17 #[.pointer (some ⟨g, 0, none⟩), .int .i64 t] w fun e w' => e = .returned (.tuple #[.int .i64 (getK ks t).len, .bool (getB ks t || t == 0)]) ∧ Below w.heap.size w w' := by
  have G := Lib.hid (get_any g r ks t w h hn)
  unfold Knot.val at G
  generalize getK ks t = k at G ⊢
  cases hb : getB ks t
  all_goals
    rw [hb] at G
    clear hb
    go_enter Try.func17, Try.ntmps17
    go_wp2_with fail
    refine G.out.mono ?_
    rintro e w1 ⟨rfl, hb1⟩
    have HB := Lib.hid hb1
    have hz := hb1.size
    clear hb1 G
  · by_cases h0 : t = 0
    · subst h0
      go_wp2
      go_ret2
      exact ⟨rfl, HB.out.alloc hz _⟩
    · have h1 : (t == 0) = false := by simpa using h0
      go_wp2
      go_ret2
      exact ⟨by rw [h1]; rfl, HB.out.alloc hz _⟩
  · go_wp2
    go_ret2
    exact ⟨rfl, HB.out.alloc hz _⟩

set_option maxHeartbeats 400000 in
theorem bhigh_any (g : Nat) (r : Option Nat) (ks : List Knot) (t : Int) (w : World) (h : Arena w g r ks) (hn : ks.length ≤ small) :
    Calls Try.prog 69 #[.pointer (some ⟨g, 0, none⟩), .int .i64 t] w fun e w' => e = .returned (.int .i64 (getK ks t).high) ∧ Below w.heap.size w w' := by
  have G := Lib.hid (get_any g r ks t w h hn)
  unfold Knot.val at G
  generalize getK ks t = k at G ⊢
  generalize getB ks t = ok at G
  go_enter Try.func69, Try.ntmps69
  go_wp2_with fail
  refine G.out.mono ?_
  rintro e w1 ⟨rfl, hb1⟩
  have HB := Lib.hid hb1
  have hz := hb1.size
  clear hb1 G
  go_wp2
  go_ret
  exact ⟨rfl, HB.out.alloc hz _⟩

set_option maxHeartbeats 400000 in
theorem jget_any (g : Nat) (r : Option Nat) (ks : List Knot) (t : Int) (w : World) (h : Arena w g r ks) (hn : ks.length ≤ small) :
    Calls Try.prog 94 #[.agg #[.pointer (some ⟨g, 0, none⟩)], .int .i64 t] w fun e w' => e = .returned (getK ks t).val ∧ Below w.heap.size w w' := by
  have G := Lib.hid (fun w' (ha : Arena w' g r ks) => get_any g r ks t w' ha hn)
  have HA := Lib.hid h
  have hlt := h.lt
  clear h
  unfold Knot.val at G ⊢
  generalize getK ks t = k at G ⊢
  generalize getB ks t = ok at G
  go_enter Try.func94, Try.ntmps94
  go_wp2_with fail
  refine (G.out _ (HA.out.below (by (repeat (first | exact Below.refl _ _ | assumption | (refine Below.setCell ?_ (by first | (simp; done) | (simp; omega) | omega) _) | (refine Below.alloc ?_ (by first | (simp; done) | (simp; omega) | omega) _) | (refine Below.drew ?_) | (refine Below.drewN ?_ _) | (refine Below.trans ?_ (Below.mono (by assumption) (by first | (simp; done) | (simp; omega) | omega)))))))).mono ?_
  rintro e w1 ⟨rfl, hb1⟩
  have hz := hb1.size
  simp at hz
  have hz1 : w.heap.size + 1 < w1.heap.size := by omega
  have hz2 : w.heap.size < w1.heap.size := by omega
  have HB := Lib.hid ((((Below.refl w.heap.size w).alloc (Nat.le_refl _) (.cells #[.pointer (some ⟨g, 0, none⟩)] 117)).alloc (by simp) (.cells #[.int .i64 0, .int .i64 0, .int .i64 0, .int .i64 0, .int .i64 0, .int .i64 0, .int .i64 0] 66)).trans (hb1.mono (by simp; omega)))
  have q : w1.heap[w.heap.size + 1]? = some (.cells #[.int .i64 0, .int .i64 0, .int .i64 0, .int .i64 0, .int .i64 0, .int .i64 0, .int .i64 0] 66) := by
    rw [hb1.block _ (by simp)]
    have e : w.heap.size + 1 = (w.alloc (.cells #[.pointer (some ⟨g, 0, none⟩)] 117)).heap.size := by simp
    rw [e]
    exact heap_alloc_new _ _
  have z := fun i => cell_of_row w1 (w.heap.size + 1) i _ _ (0, 0) q
  have z0 := z 0
  have z1 := z 1
  have z2 := z 2
  have z3 := z 3
  have z4 := z 4
  have z5 := z 5
  have z6 := z 6
  simp only [List.getElem?_toArray, List.getElem?_cons_zero, List.getElem?_cons_succ] at z0 z1 z2 z3 z4 z5 z6
  have hf2 : ∀ o, w1.frozen? ⟨w.heap.size + 1, o, none⟩ = false := fun o => by simp [World.frozen?, q]
  clear hb1 G q z HA
  go_wp2
  refine bodyPost_ret (v := .agg #[.int .i64 k.left, .int .i64 k.right, .int .i64 k.off, .int .i64 k.len, .int .i64 k.high, .int .i64 k.leaves, .int .i64 k.feeds]) ?_ ?_ ⟨?_, ?_⟩
  · simp [results, Try.results94, go_sem, *]
  · rfl
  · rfl
  · have hbl := HB.out
    refine Below.alloc ?_ (by simp; omega) _
    iterate 7 (with_reducible refine Below.setCell ?_ ?_ _)
    all_goals first | exact hbl | exact Nat.le_succ _

/-! a boxed joiner; a boxed knot -/
def blkJ (w : World) (b g : Nat) : Prop := w.heap[b]? = some (.cells #[.pointer (some ⟨g, 0, none⟩)] 117 (0, 0))
def blkK (w : World) (b : Nat) (k : Knot) : Prop := w.heap[b]? = some (.cells #[.int .i64 k.left, .int .i64 k.right, .int .i64 k.off, .int .i64 k.len, .int .i64 k.high, .int .i64 k.leaves, .int .i64 k.feeds] 66 (0, 0))
section
variable {w w' : World} {b g : Nat} {k : Knot} {F F' : Nat → Prop}
theorem blkJ.lt (h : blkJ w b g) : b < w.heap.size := (Array.getElem?_eq_some_iff.1 h).1
theorem blkK.lt (h : blkK w b k) : b < w.heap.size := (Array.getElem?_eq_some_iff.1 h).1
theorem blkJ.below (h : blkJ w b g) (hb : Below w.heap.size w w') : blkJ w' b g := (hb.block b h.lt).trans h
theorem blkK.below (h : blkK w b k) (hb : Below w.heap.size w w') : blkK w' b k := (hb.block b h.lt).trans h
theorem blkJ.fr (h : blkJ w b g) (hf : Fr w F w' F') (hn : ¬ F b) : blkJ w' b g := (hf.keep b h.lt hn).trans h
theorem blkK.fr (h : blkK w b k) (hf : Fr w F w' F') (hn : ¬ F b) : blkK w' b k := (hf.keep b h.lt hn).trans h
theorem blkJ.c (h : blkJ w b g) : w.cell? ⟨b, 0, none⟩ = some (.pointer (some ⟨g, 0, none⟩)) := cell_of_row w b 0 _ _ (0, 0) h
theorem blkK.c0 (h : blkK w b k) : w.cell? ⟨b, 0, none⟩ = some (.int .i64 k.left) := cell_of_row w b 0 _ _ (0, 0) h
theorem blkK.c1 (h : blkK w b k) : w.cell? ⟨b, 1, none⟩ = some (.int .i64 k.right) := cell_of_row w b 1 _ _ (0, 0) h
theorem blkK.c2 (h : blkK w b k) : w.cell? ⟨b, 2, none⟩ = some (.int .i64 k.off) := cell_of_row w b 2 _ _ (0, 0) h
theorem blkK.c3 (h : blkK w b k) : w.cell? ⟨b, 3, none⟩ = some (.int .i64 k.len) := cell_of_row w b 3 _ _ (0, 0) h
theorem blkK.c4 (h : blkK w b k) : w.cell? ⟨b, 4, none⟩ = some (.int .i64 k.high) := cell_of_row w b 4 _ _ (0, 0) h
theorem blkK.c5 (h : blkK w b k) : w.cell? ⟨b, 5, none⟩ = some (.int .i64 k.leaves) := cell_of_row w b 5 _ _ (0, 0) h
theorem blkK.c6 (h : blkK w b k) : w.cell? ⟨b, 6, none⟩ = some (.int .i64 k.feeds) := cell_of_row w b 6 _ _ (0, 0) h
end

/-- a knot stored, field by field. -/
def setK (w : World) (b : Nat) (k : Knot) : World := ((((((w.setCell ⟨b, 0, none⟩ (.int .i64 k.left)).setCell ⟨b, 1, none⟩ (.int .i64 k.right)).setCell ⟨b, 2, none⟩ (.int .i64 k.off)).setCell ⟨b, 3, none⟩ (.int .i64 k.len)).setCell ⟨b, 4, none⟩ (.int .i64 k.high)).setCell ⟨b, 5, none⟩ (.int .i64 k.leaves)).setCell ⟨b, 6, none⟩ (.int .i64 k.feeds)
theorem setK_blk {w : World} {b : Nat} {v0 v1 v2 v3 v4 v5 v6 : Value} (h : w.heap[b]? = some (.cells #[v0, v1, v2, v3, v4, v5, v6] 66 (0, 0))) (k : Knot) : blkK (setK w b k) b k := by
  simp [blkK, setK, World.setCell, Array.getElem?_modify, h]
theorem setK_below {w : World} {b n : Nat} {W : World} (h : Below n W w) (hb : n ≤ b) (k : Knot) : Below n W (setK w b k) := by
  unfold setK
  iterate 7 (with_reducible refine Below.setCell ?_ ?_ _)
  all_goals first | exact h | exact hb
theorem setK_other {w : World} {b c : Nat} (h : c ≠ b) (k : Knot) : (setK w b k).heap[c]? = w.heap[c]? := by
  unfold setK
  iterate 7 rw [Below.heap_setCell _ _ _ _ h]
theorem setK_size (w : World) (b : Nat) (k : Knot) : (setK w b k).heap.size = w.heap.size := by
  unfold setK
  simp [World.setCell]

/-- a pair of two that are there, and are not too long. -/
def mkp (ks : List Knot) (L R : T) (v : Value) (ks' : List Knot) : Prop := v = .int .i64 (ks.length + 1 : Nat) ∧ WF ks' ∧ Is ks' ((ks.length + 1 : Nat) : Int) (.node L R) ∧ Ext ks ks' 1 0

set_option maxHeartbeats 400000 in
theorem jpair_any (g : Nat) (ks : List Knot) (l r : Int) (L R : T) (hw : WF ks) (hl : Is ks l L) (hr : Is ks r R) (h1 : 0 < L.size) (h2 : 0 < R.size) (h3 : L.size + R.size ≤ 1099511627776) (hn : ks.length ≤ small) :
    Does Try.prog (resAr g) 97 #[.agg #[.pointer (some ⟨g, 0, none⟩)], .int .i64 l, .int .i64 r] ks (mkp ks L R) := by
  obtain ⟨m1, m2, m3, m4, m5⟩ := Is.mk_pair hw hl hr h1 h2 h3
  have HM := Lib.hid (And.intro m3 (And.intro m4 m5))
  rintro w F ⟨q, rfl, ha⟩
  have HP := Lib.hid (fun w' (ha : Arena w' g q ks) => pair_any g q ks l r w' ha hn)
  have H1 := Lib.hid (And.intro m1 m2)
  have HA := Lib.hid ha
  have hlt := ha.lt
  clear ha m1 m2 m3 m4 m5 hw hl hr h1 h2 h3 hn
  go_enter Try.func97, Try.ntmps97
  go_wp2_with fail
  refine (HP.out _ (HA.out.below (by (repeat (first | exact Below.refl _ _ | assumption | (refine Below.setCell ?_ (by first | (simp; done) | (simp; omega) | omega) _) | (refine Below.alloc ?_ (by first | (simp; done) | (simp; omega) | omega) _) | (refine Below.drew ?_) | (refine Below.drewN ?_ _) | (refine Below.trans ?_ (Below.mono (by assumption) (by first | (simp; done) | (simp; omega) | omega)))))))).mono ?_
  rintro e w1 hq
  obtain ⟨q', rfl, ha1, hf1⟩ : ∃ q', e = .returned (.tuple #[.int .i64 (ks.length + 1 : Nat), .int .i64 0]) ∧ Arena w1 g q' (ks ++ [pairK ks l r]) ∧ Fr (w.alloc (.cells #[.pointer (some ⟨g, 0, none⟩)] 117)) (foot g q) w1 (foot g q') := by
    rcases hq with ⟨h, _⟩ | ⟨_, h, _⟩ | ⟨_, _, h⟩
    · rw [H1.out.1] at h; cases h
    · have := H1.out.2; omega
    · exact h
  have HF := Lib.hid ((Fr.of_below (F := foot g q) ((Below.refl w.heap.size w).alloc (Nat.le_refl _) (.cells #[.pointer (some ⟨g, 0, none⟩)] 117))).trans hf1)
  have HA1 := Lib.hid ha1
  clear hq ha1 hf1
  go_wp2
  go_ret
  exact ⟨_, _, _, rfl, ⟨rfl, HM.out⟩, ⟨q', rfl, HA1.out⟩, HF.out⟩
end Go.Proofs.Ytkcocdpmangcgaa.Ar
