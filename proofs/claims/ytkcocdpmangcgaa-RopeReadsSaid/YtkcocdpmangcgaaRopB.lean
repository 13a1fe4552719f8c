
/- A store's functions that only read: Knot, Knots, Bytes, Feed, Balanced, span; of a nil store nothing is there. -/
import Derived.Test.YtkcocdpmangcgaaRopA
namespace Go.Proofs.Ytkcocdpmangcgaa.Rp
set_option linter.unusedSimpArgs false
set_option linter.unusedVariables false
open Go Go.RowKit
open Go.Proofs.Ytkcocdpmangcgaa.Ar (T Is Ext WF Knot getK getB Arena resAr small)
open Go.Proofs.Ytkcocdpmangcgaa.Buf (BufS feedsV feedV feedB thereB sliceV)
attribute [local go_sem] lt_add1 lt_self1 size_ne size_ne' size_ne1 size_ne1'
attribute [local irreducible] wpGrow wpThr

section
variable (gs gb ga : Nat) (rb rf q : Option Nat) (S : ByteArray) (ks : List Knot) (w : World)

set_option maxHeartbeats 400000 in
theorem rknot_nil (t : Int) : Calls Try.prog 35 #[.pointer none, .int .i64 t] w fun e w' => e = .returned (.tuple #[Knot.zero.val, .bool false]) ∧ Below w.heap.size w w' := by
  go_enter Try.func35, Try.ntmps35
  go_wp2
  exact bodyPost_ret (v := .tuple #[Knot.zero.val, .bool false]) (by simp [results, Try.results35, go_sem, Ar.Knot.val, Ar.Knot.zero]) rfl ⟨rfl, by (repeat (first | exact Below.refl _ _ | assumption | (refine Below.setCell ?_ (by first | (simp; done) | (simp; omega) | omega) _) | (refine Below.alloc ?_ (by first | (simp; done) | (simp; omega) | omega) _) | (refine Below.drew ?_) | (refine Below.drewN ?_ _) | (refine Below.trans ?_ (Below.mono (by assumption) (by first | (simp; done) | (simp; omega) | omega)))))⟩

set_option maxHeartbeats 1000000 in
theorem rknot_any (t : Int) (h : St w gs gb ga rb rf q S ks) (hn : ks.length ≤ small) : Calls Try.prog 35 #[.pointer (some ⟨gs, 0, none⟩), .int .i64 t] w fun e w' =>
    e = .returned (.tuple #[(getK ks t).val, .bool (getB ks t)]) ∧ Below w.heap.size w w' := by
  have H := Lib.hid h
  obtain ⟨c0, c1⟩ := h.c
  have hlt := h.lt
  have G := Lib.hid (fun w' (ha : Arena w' ga q ks) => Ar.get_any ga q ks t w' ha hn)
  unfold Ar.Knot.val at G ⊢
  clear h hn
  generalize getK ks t = k at G ⊢
  generalize getB ks t = ok at G ⊢
  go_enter Try.func35, Try.ntmps35
  go_wp2_with fail
  have hb0 : Below w.heap.size w (w.alloc (.cells #[.int .i64 0, .int .i64 0, .int .i64 0, .int .i64 0, .int .i64 0, .int .i64 0, .int .i64 0] 66)) := (Below.refl _ _).alloc (Nat.le_refl _) _
  ((with_reducible refine (G.out _ (H.out.ar.below hb0)).mono ?_); rintro e w1 ⟨rfl, hb1⟩)
  have hz := hb1.size
  simp at hz
  have hz2 : w.heap.size < w1.heap.size := by omega
  have HB := Lib.hid (hb0.trans (hb1.mono hb0.size))
  have qq : w1.heap[w.heap.size]? = some (.cells #[.int .i64 0, .int .i64 0, .int .i64 0, .int .i64 0, .int .i64 0, .int .i64 0, .int .i64 0] 66) := by
    rw [hb1.block _ (by simp)]
    exact heap_alloc_new _ _
  have z := fun i => cell_of_row w1 w.heap.size i _ _ (0, 0) qq
  have z0 := z 0
  have z1 := z 1
  have z2 := z 2
  have z3 := z 3
  have z4 := z 4
  have z5 := z 5
  have z6 := z 6
  simp only [List.getElem?_toArray, List.getElem?_cons_zero, List.getElem?_cons_succ] at z0 z1 z2 z3 z4 z5 z6
  have hf2 : ∀ o, w1.frozen? ⟨w.heap.size, o, none⟩ = false := fun o => by simp [World.frozen?, qq]
  clear hb1 G qq z H c0 c1 hb0
  go_wp2
  refine bodyPost_ret (v := .tuple #[.agg #[.int .i64 k.left, .int .i64 k.right, .int .i64 k.off, .int .i64 k.len, .int .i64 k.high, .int .i64 k.leaves, .int .i64 k.feeds], .bool ok]) ?_ ?_ ⟨?_, ?_⟩
  · simp [results, Try.results35, go_sem, *]
  · rfl
  · rfl
  · have hbl := HB.out
    iterate 7 (with_reducible refine Below.setCell ?_ ?_ _)
    all_goals first | exact hbl | exact Nat.le_refl _

set_option maxHeartbeats 400000 in
theorem rknots_nil : Calls Try.prog 33 #[.pointer none] w fun e w' => e = .returned (.int .i64 0) ∧ w = w' := by
  go_enter Try.func33, Try.ntmps33
  go_wp2
  go_ret
  exact ⟨rfl, rfl⟩
set_option maxHeartbeats 400000 in
theorem rknots_any (h : St w gs gb ga rb rf q S ks) : Calls Try.prog 33 #[.pointer (some ⟨gs, 0, none⟩)] w fun e w' => e = .returned (.int .i64 ks.length) ∧ w = w' := by
  obtain ⟨c0, c1⟩ := h.c
  have hlt := h.lt
  have G := Lib.hid (Ar.len_any ga q ks w h.ar)
  clear h
  go_enter Try.func33, Try.ntmps33
  go_wp2_with (go_at_call 26; ((with_reducible refine G.out.mono ?_); rintro e w1 ⟨rfl, rfl⟩))
  go_ret
  exact ⟨rfl, rfl⟩

set_option maxHeartbeats 400000 in
theorem rbytes_nil (o n : Int) : Calls Try.prog 48 #[.pointer none, .agg #[.int .i64 o, .int .i64 n]] w fun e w' => e = .returned (.string ⟨#[]⟩) ∧ Below w.heap.size w w' := by
  go_enter Try.func48, Try.ntmps48
  go_wp2
  go_ret
  exact ⟨rfl, by (repeat (first | exact Below.refl _ _ | assumption | (refine Below.setCell ?_ (by first | (simp; done) | (simp; omega) | omega) _) | (refine Below.alloc ?_ (by first | (simp; done) | (simp; omega) | omega) _) | (refine Below.drew ?_) | (refine Below.drewN ?_ _) | (refine Below.trans ?_ (Below.mono (by assumption) (by first | (simp; done) | (simp; omega) | omega)))))⟩
set_option maxHeartbeats 1000000 in
theorem rbytes_any (o n : Int) (h : St w gs gb ga rb rf q S ks) (hS : S.size ≤ 1000000) : Calls Try.prog 48 #[.pointer (some ⟨gs, 0, none⟩), .agg #[.int .i64 o, .int .i64 n]] w fun e w' =>
    e = .returned (.string (sliceV S o n)) ∧ Below w.heap.size w w' := by
  have hb0 : Below w.heap.size w (w.alloc (.cells #[.int .i64 o, .int .i64 n] 90)) := (Below.refl _ _).alloc (Nat.le_refl _) _
  have hk0 : (w.alloc (.cells #[.int .i64 o, .int .i64 n] 90)).heap[w.heap.size]? = some (.cells #[.int .i64 o, .int .i64 n] 90 (0, 0)) := heap_alloc_new _ _
  have hlt := h.lt
  have H := Lib.hid (And.intro (h.below hb0) (And.intro hb0 hk0))
  clear h hb0 hk0
  have HSL := Lib.hid (fun w' (hw : BufS w' gb rb rf S) => Buf.slice_any gb rb rf S _ o n w' hw hS)
  generalize sliceV S o n = v at HSL ⊢
  generalize thereB S.size o n = b at HSL
  go_enter Try.func48, Try.ntmps48
  go_wp2_with fail
  generalize w.alloc (.cells #[.int .i64 o, .int .i64 n] 90) = W at H ⊢
  have hbp := (Array.getElem?_eq_some_iff.1 H.out.2.2).1
  have p0 : W.cell? ⟨w.heap.size, 0, none⟩ = some (.int .i64 o) := cell_of_row W _ 0 _ _ (0, 0) H.out.2.2
  have p1 : W.cell? ⟨w.heap.size, 1, none⟩ = some (.int .i64 n) := cell_of_row W _ 1 _ _ (0, 0) H.out.2.2
  obtain ⟨c0, c1⟩ := H.out.1.c
  have hltW := H.out.1.lt
  refine wp_region_grow 14 (by kernel_rfl) (by kernel_rfl) ?_
  simp only [List.take_succ_cons, List.take_zero, List.drop_succ_cons, List.drop_zero, List.take_nil, List.drop_nil]
  iterate 8 ((refine wpGrow_val' rfl rfl ?_; apply Exists.intro; refine ⟨fun w1 hw1 => ?_, ?_⟩); (have hc1 := hw1.cell; go_simp; exact growUpon_ok rfl); (refine wpGrow_at (by (simp only [Act.put, List.setIfInBounds_toArray, List.set_cons_succ, List.set_cons_zero]) <;> exact rfl) ?_))
  (refine wpGrow_val' rfl rfl ?_; apply Exists.intro; refine ⟨fun w1 hw1 => ?_, ?_⟩)
  · go_simp
    exact growUpon_call ((HSL.out _ (H.out.1.below hw1.below).buf).mono fun e w' ⟨h1, h2⟩ => ⟨h1, h2 ▸ Below.refl _ _⟩)
  (refine wpGrow_at (by (simp only [Act.put, List.setIfInBounds_toArray, List.set_cons_succ, List.set_cons_zero]) <;> exact rfl) ?_)
  iterate 5 ((refine wpGrow_val' rfl rfl ?_; apply Exists.intro; refine ⟨fun w1 hw1 => ?_, ?_⟩); (have hc1 := hw1.cell; go_simp; exact growUpon_ok rfl); (refine wpGrow_at (by (simp only [Act.put, List.setIfInBounds_toArray, List.set_cons_succ, List.set_cons_zero]) <;> exact rfl) ?_))
  refine wpGrow_nil ?_
  intro w2 hD
  have HD := Lib.hid (H.out.2.1.trans (hD.below.mono H.out.2.1.size))
  clear hD p0 p1 c0 c1
  go_wp2
  go_ret
  exact ⟨rfl, HD.out⟩

set_option maxHeartbeats 400000 in
theorem rfeed_nil (o n k : Int) : Calls Try.prog 55 #[.pointer none, .agg #[.int .i64 o, .int .i64 n], .int .i64 k] w fun e w' => e = .returned (.tuple #[.int .i64 0, .bool false]) ∧ Below w.heap.size w w' := by
  go_enter Try.func55, Try.ntmps55
  go_wp2
  go_ret2
  exact ⟨rfl, by (repeat (first | exact Below.refl _ _ | assumption | (refine Below.setCell ?_ (by first | (simp; done) | (simp; omega) | omega) _) | (refine Below.alloc ?_ (by first | (simp; done) | (simp; omega) | omega) _) | (refine Below.drew ?_) | (refine Below.drewN ?_ _) | (refine Below.trans ?_ (Below.mono (by assumption) (by first | (simp; done) | (simp; omega) | omega)))))⟩
set_option maxHeartbeats 1000000 in
theorem rfeed_any (o n k : Int) (h : St w gs gb ga rb rf q S ks) (hS : S.size ≤ 1000000) : Calls Try.prog 55 #[.pointer (some ⟨gs, 0, none⟩), .agg #[.int .i64 o, .int .i64 n], .int .i64 k] w fun e w' =>
    e = .returned (.tuple #[.int .i64 (feedV S o n k), .bool (feedB S o n k)]) ∧ Below w.heap.size w w' := by
  have hb0 : Below w.heap.size w (w.alloc (.cells #[.int .i64 o, .int .i64 n] 90)) := (Below.refl _ _).alloc (Nat.le_refl _) _
  have hk0 : (w.alloc (.cells #[.int .i64 o, .int .i64 n] 90)).heap[w.heap.size]? = some (.cells #[.int .i64 o, .int .i64 n] 90 (0, 0)) := heap_alloc_new _ _
  have hlt := h.lt
  have H := Lib.hid (And.intro (h.below hb0) (And.intro hb0 hk0))
  clear h hb0 hk0
  have HSL := Lib.hid (fun w' (hw : BufS w' gb rb rf S) => Buf.feed_any gb rb rf S o n k w' hw hS)
  generalize feedV S o n k = v at HSL ⊢
  generalize feedB S o n k = b at HSL ⊢
  go_enter Try.func55, Try.ntmps55
  go_wp2_with fail
  generalize w.alloc (.cells #[.int .i64 o, .int .i64 n] 90) = W at H ⊢
  have hbp := (Array.getElem?_eq_some_iff.1 H.out.2.2).1
  have p0 : W.cell? ⟨w.heap.size, 0, none⟩ = some (.int .i64 o) := cell_of_row W _ 0 _ _ (0, 0) H.out.2.2
  have p1 : W.cell? ⟨w.heap.size, 1, none⟩ = some (.int .i64 n) := cell_of_row W _ 1 _ _ (0, 0) H.out.2.2
  obtain ⟨c0, c1⟩ := H.out.1.c
  have hltW := H.out.1.lt
  refine wp_region_grow 14 (by kernel_rfl) (by kernel_rfl) ?_
  simp only [List.take_succ_cons, List.take_zero, List.drop_succ_cons, List.drop_zero, List.take_nil, List.drop_nil]
  iterate 9 ((refine wpGrow_val' rfl rfl ?_; apply Exists.intro; refine ⟨fun w1 hw1 => ?_, ?_⟩); (have hc1 := hw1.cell; go_simp; exact growUpon_ok rfl); (refine wpGrow_at (by (simp only [Act.put, List.setIfInBounds_toArray, List.set_cons_succ, List.set_cons_zero]) <;> exact rfl) ?_))
  (refine wpGrow_val' rfl rfl ?_; apply Exists.intro; refine ⟨fun w1 hw1 => ?_, ?_⟩)
  · go_simp
    exact growUpon_call (HSL.out _ (H.out.1.below hw1.below).buf)
  (refine wpGrow_at (by (simp only [Act.put, List.setIfInBounds_toArray, List.set_cons_succ, List.set_cons_zero]) <;> exact rfl) ?_)
  iterate 4 ((refine wpGrow_val' rfl rfl ?_; apply Exists.intro; refine ⟨fun w1 hw1 => ?_, ?_⟩); (have hc1 := hw1.cell; go_simp; exact growUpon_ok rfl); (refine wpGrow_at (by (simp only [Act.put, List.setIfInBounds_toArray, List.set_cons_succ, List.set_cons_zero]) <;> exact rfl) ?_))
  refine wpGrow_nil ?_
  intro w2 hD
  have HD := Lib.hid (H.out.2.1.trans (hD.below.mono H.out.2.1.size))
  clear hD p0 p1 c0 c1
  go_wp2
  go_ret2
  exact ⟨rfl, HD.out⟩

set_option maxHeartbeats 400000 in
theorem rbal_nil (t : Int) : Calls Try.prog 42 #[.pointer none, .int .i64 t] w fun e w' => e = .returned (.bool false) ∧ w = w' := by
  go_enter Try.func42, Try.ntmps42
  go_wp2
  go_ret
  exact ⟨rfl, rfl⟩
set_option maxHeartbeats 400000 in
theorem rbal_any (t : Int) (X : T) (hw : WF ks) (ht : Is ks t X) (h : St w gs gb ga rb rf q S ks) (hn : ks.length ≤ small) : Calls Try.prog 42 #[.pointer (some ⟨gs, 0, none⟩), .int .i64 t] w fun e w' =>
    e = .returned (.bool (Ar.balB X)) ∧ Below w.heap.size w w' := by
  obtain ⟨c0, c1⟩ := h.c
  have hlt := h.lt
  have G := Lib.hid (Ar.balanced_any ga q ks t X hw ht hn w h.ar)
  clear h hw ht
  generalize Ar.balB X = b at G ⊢
  go_enter Try.func42, Try.ntmps42
  go_wp2_with fail
  ((with_reducible refine G.out.mono ?_); rintro e w1 ⟨rfl, hb⟩)
  have HB := Lib.hid hb
  clear hb
  cases b
  · go_wp2
    go_ret
    exact ⟨rfl, HB.out⟩
  · go_wp2
    go_ret
    exact ⟨rfl, HB.out⟩

theorem rsize_is (t : Int) (X : T) (ht : Is ks t X) (h : St w gs gb ga rb rf q S ks) (hn : ks.length ≤ small) : Calls Try.prog 40 #[.pointer (some ⟨gs, 0, none⟩), .int .i64 t] w fun e w' =>
    e = .returned (.tuple #[.int .i64 X.size, .int .i64 0]) ∧ Below w.heap.size w w' := by
  have := rsize_any gs gb ga rb rf q S ks w t h hn
  rw [if_pos (Ar.is_there ht), ht.knot.1] at this
  exact this
theorem rsize_none (t : Int) (ht : t < 0 ∨ (ks.length : Int) < t) (h : St w gs gb ga rb rf q S ks) (hn : ks.length ≤ small) : Calls Try.prog 40 #[.pointer (some ⟨gs, 0, none⟩), .int .i64 t] w fun e w' =>
    e = .returned (.tuple #[.int .i64 0, .int .i64 7]) ∧ Below w.heap.size w w' := by
  have := rsize_any gs gb ga rb rf q S ks w t h hn
  have hs : Ar.getS ks t = (Knot.zero, false) := by unfold Ar.getS; rw [if_neg (by omega)]
  have hz : (t == 0) = false := by simp; omega
  rw [show (getB ks t || t == 0) = false by rw [getB, hs, hz]; rfl] at this
  simpa using this

/-- what span answers where the rope has so many bytes. -/
def spanV (size at_ n : Int) : Int := if at_ < 0 ∨ n < 0 ∨ size < at_ ∨ size - at_ < n then 2 else 0
set_option maxHeartbeats 1000000 in
theorem rspan_any (t a n z : Int) (hz0 : 0 ≤ z) (hz1 : z ≤ 1099511627776) (hsz : Calls Try.prog 40 #[.pointer (some ⟨gs, 0, none⟩), .int .i64 t] w fun e w' => e = .returned (.tuple #[.int .i64 z, .int .i64 0]) ∧ Below w.heap.size w w') :
    Calls Try.prog 78 #[.pointer (some ⟨gs, 0, none⟩), .int .i64 t, .int .i64 a, .int .i64 n] w fun e w' => e = .returned (.int .i64 (spanV z a n)) ∧ Below w.heap.size w w' := by
  have HZ := Lib.hid hsz
  clear hsz
  have key : (a < 0) ∨ (¬ a < 0 ∧ n < 0) ∨ (¬ a < 0 ∧ ¬ n < 0 ∧ z < a) ∨ (¬ a < 0 ∧ ¬ n < 0 ∧ ¬ z < a ∧ z - a < n) ∨ (¬ a < 0 ∧ ¬ n < 0 ∧ ¬ z < a ∧ ¬ z - a < n) := by omega
  rcases key with h1 | ⟨h1, h2⟩ | ⟨h1, h2, h3⟩ | ⟨h1, h2, h3, h4⟩ | ⟨h1, h2, h3, h4⟩
  case inr.inr.inr.inr =>
    have e : spanV z a n = 0 := by unfold spanV; rw [if_neg (by omega)]
    rw [e]
    go_enter Try.func78, Try.ntmps78
    go_wp2_with fail
    ((with_reducible refine HZ.out.mono ?_); rintro e w1 ⟨rfl, hb⟩)
    have HB := Lib.hid hb
    clear hb
    go_wp2
    go_ret
    exact ⟨rfl, HB.out⟩
  all_goals
    have e : spanV z a n = 2 := by unfold spanV; rw [if_pos (by omega)]
    rw [e]
    clear e
    go_enter Try.func78, Try.ntmps78
    go_wp2_with fail
    ((with_reducible refine HZ.out.mono ?_); rintro e w1 ⟨rfl, hb⟩)
    have HB := Lib.hid hb
    clear hb
    go_wp2
    go_ret
    exact ⟨rfl, HB.out⟩
set_option maxHeartbeats 400000 in
theorem rspan_none (s : Option Addr) (t a n : Int) (hsz : Calls Try.prog 40 #[.pointer s, .int .i64 t] w fun e w' => e = .returned (.tuple #[.int .i64 0, .int .i64 7]) ∧ Below w.heap.size w w') :
    Calls Try.prog 78 #[.pointer s, .int .i64 t, .int .i64 a, .int .i64 n] w fun e w' => e = .returned (.int .i64 7) ∧ Below w.heap.size w w' := by
  have HZ := Lib.hid hsz
  clear hsz
  go_enter Try.func78, Try.ntmps78
  go_wp2_with fail
  ((with_reducible refine HZ.out.mono ?_); rintro e w1 ⟨rfl, hb⟩)
  have HB := Lib.hid hb
  clear hb
  go_wp2
  go_ret
  exact ⟨rfl, HB.out⟩
end
end Go.Proofs.Ytkcocdpmangcgaa.Rp
