
/- Balance: the joiner's left. -/
import Derived.Test.YtkcocdpmangcgaaBal
namespace Go.Proofs.Ytkcocdpmangcgaa.Ar
set_option linter.unusedSimpArgs false
set_option linter.unusedVariables false
open Go Go.RowKit
attribute [local go_sem] lt_add1 lt_self1 size_ne size_ne' size_ne1 size_ne1'
attribute [local irreducible] wpGrow wpThr

/-- what left makes of two. -/
def lefP (ks : List Knot) (L K : T) (v : Value) (ks' : List Knot) : Prop := ∃ (t : Int) (X : T) (n : Nat), v = .int .i64 t ∧ Is ks' t X ∧ WF ks' ∧ Ext ks ks' n 0 ∧
  ((K.high ≤ L.high + 1 ∧ X = .node L K ∧ n = 1) ∨
   (∃ k1 k2, K = .node k1 k2 ∧ L.high + 1 < K.high ∧ k1.high ≤ k2.high ∧ X = .node (.node L k1) k2 ∧ n = 2) ∨
   (∃ m1 m2 k2, K = .node (.node m1 m2) k2 ∧ L.high + 1 < K.high ∧ k2.high < (T.node m1 m2).high ∧ X = .node (.node L m1) (.node m2 k2) ∧ n = 3))

structure JK (w W : World) (g : Nat) (q : Option Nat) (ks : List Knot) (bj bk : Nat) (k : Knot) : Prop where
  ar : Arena W g q ks
  bl : Below w.heap.size w W
  j : blkJ W bj g
  k : blkK W bk k
  gj : w.heap.size ≤ bj
  gk : w.heap.size ≤ bk
theorem JK.below {w W W' : World} {g : Nat} {q : Option Nat} {ks : List Knot} {bj bk : Nat} {k : Knot} (h : JK w W g q ks bj bk k) (hb : Below W.heap.size W W') : JK w W' g q ks bj bk k :=
  ⟨h.ar.below hb, h.bl.trans (hb.mono h.bl.size), h.j.below hb, h.k.below hb, h.gj, h.gk⟩

set_option maxHeartbeats 4000000 in
theorem left_any (g : Nat) (ks : List Knot) (l r : Int) (L K : T) (hw : WF ks) (hl : Is ks l L) (hr : Is ks r K) (h1 : 0 < L.size) (h2 : 0 < K.size) (h3 : L.size + K.size ≤ 1099511627776) (hn : ks.length + 3 ≤ small) :
    Does Try.prog (resAr g) 95 #[.agg #[.pointer (some ⟨g, 0, none⟩)], .int .i64 l, .int .i64 r] ks (lefP ks L K) := by
  rintro w F ⟨q, rfl, ha⟩
  have hkL := hl.knot.2.1
  have hkK := hr.knot.2.1
  have okL := hl.ok hw
  have okK := hr.ok hw
  have bL := T.bounds okL
  have bK := T.bounds okK
  have hlt := ha.lt
  have HG := Lib.hid (fun w' (ha : Arena w' g q ks) => jget_any g q ks r w' ha (by unfold small at hn ⊢; omega))
  have HH := Lib.hid (fun (t : Int) w' (ha : Arena w' g q ks) => bhigh_any g q ks t w' ha (by unfold small at hn ⊢; omega))
  have H0 := Lib.hid (And.intro hl (And.intro hr (And.intro hw (And.intro okL okK))))
  have HA := Lib.hid ha
  have hLh : 0 ≤ L.high ∧ L.high ≤ 1099511627776 := by omega
  have hKh : 0 ≤ K.high ∧ K.high ≤ 1099511627776 := by omega
  obtain ⟨hL0, hL1⟩ := hLh
  obtain ⟨hK0, hK1⟩ := hKh
  have hwr : IntKind.i64.wrap (L.high + 1) = L.high + 1 := IntWalk.i64_in _ (by omega)
  have hkr : (getK ks r).high = K.high := hkK
  have HL := Lib.hid hkL
  unfold Knot.val at HG
  clear ha hkL hkK hl hr hw okL okK bL bK
  have HKR := Lib.hid hkr
  clear hkr
  have HKN := Lib.hid (Eq.refl (getK ks r))
  generalize hk : getK ks r = k at HG HKR
  have HKK := Lib.hid hk
  clear hk HKN
  go_enter Try.func95, Try.ntmps95
  go_wp2_with fail
  refine (HG.out _ (HA.out.below (by (repeat (first | exact Below.refl _ _ | assumption | (refine Below.setCell ?_ (by first | (simp; done) | (simp; omega) | omega) _) | (refine Below.alloc ?_ (by first | (simp; done) | (simp; omega) | omega) _) | (refine Below.drew ?_) | (refine Below.drewN ?_ _) | (refine Below.trans ?_ (Below.mono (by assumption) (by first | (simp; done) | (simp; omega) | omega)))))))).mono ?_
  rintro e w1 ⟨rfl, hb1⟩
  have HJ : Hid (JK w (w1.alloc (.cells #[.int .i64 k.left, .int .i64 k.right, .int .i64 k.off, .int .i64 k.len, .int .i64 k.high, .int .i64 k.leaves, .int .i64 k.feeds] 66)) g q ks w.heap.size w1.heap.size k) := by
    have hb0 : Below w.heap.size w (w.alloc (.cells #[.pointer (some ⟨g, 0, none⟩)] 117)) := (Below.refl _ _).alloc (Nat.le_refl _) _
    have j0 : blkJ (w.alloc (.cells #[.pointer (some ⟨g, 0, none⟩)] 117)) w.heap.size g := heap_alloc_new _ _
    have hb2 : Below w1.heap.size w1 (w1.alloc (.cells #[.int .i64 k.left, .int .i64 k.right, .int .i64 k.off, .int .i64 k.len, .int .i64 k.high, .int .i64 k.leaves, .int .i64 k.feeds] 66)) := (Below.refl _ _).alloc (Nat.le_refl _) _
    have hb01 := hb0.trans (hb1.mono hb0.size)
    exact Lib.hid ⟨((HA.out.below hb0).below hb1).below hb2, hb01.trans (hb2.mono hb01.size), (j0.below hb1).below hb2, heap_alloc_new _ _, Nat.le_refl _, hb01.size⟩
  clear hb1
  go_wp2_with fail
  generalize w1.alloc (.cells #[.int .i64 k.left, .int .i64 k.right, .int .i64 k.off, .int .i64 k.len, .int .i64 k.high, .int .i64 k.leaves, .int .i64 k.feeds] 66) = W at HJ ⊢
  generalize hbj : w.heap.size = bj at HJ ⊢
  generalize w1.heap.size = bk at HJ ⊢
  have HNF := Lib.hid (fun b (hb : bj ≤ b) => (show ¬ foot g q b from fun hf => by
    subst hbj
    rcases hf with rfl | e
    · omega
    · have := HA.out.row_lt e; omega))
  by_cases hc : K.high ≤ L.high + 1
  · have c4 : W.cell? ⟨bk, 4, none⟩ = some (.int .i64 K.high) := by rw [← HKR.out]; exact HJ.out.k.c4
    have cj := HJ.out.j.c
    have hltj := HJ.out.j.lt
    have hltk := HJ.out.k.lt
    refine wp_region_grow 9 (by kernel_rfl) (by kernel_rfl) ?_
    simp only [List.take_succ_cons, List.take_zero, List.drop_succ_cons, List.drop_zero, List.take_nil, List.drop_nil]
    iterate 5 ((refine wpGrow_val' rfl rfl ?_; apply Exists.intro; refine ⟨fun w1 hw1 => ?_, ?_⟩); (have hc1 := hw1.cell; go_simp; exact growUpon_ok rfl); (refine wpGrow_at (by (simp only [Act.put, List.setIfInBounds_toArray, List.set_cons_succ, List.set_cons_zero]) <;> exact rfl) ?_))
    (refine wpGrow_val' rfl rfl ?_; apply Exists.intro; refine ⟨fun w1 hw1 => ?_, ?_⟩)
    · go_simp
      have := HH.out l _ (HJ.out.ar.below hw1.below)
      rw [HL.out] at this
      exact growUpon_call this
    (refine wpGrow_at (by (simp only [Act.put, List.setIfInBounds_toArray, List.set_cons_succ, List.set_cons_zero]) <;> exact rfl) ?_)
    iterate 3 ((refine wpGrow_val' rfl rfl ?_; apply Exists.intro; refine ⟨fun w1 hw1 => ?_, ?_⟩); (have hc1 := hw1.cell; go_simp; exact growUpon_ok rfl); (refine wpGrow_at (by (simp only [Act.put, List.setIfInBounds_toArray, List.set_cons_succ, List.set_cons_zero]) <;> exact rfl) ?_))
    refine wpGrow_nil ?_
    intro w2 hD
    have HJ2 := Lib.hid (HJ.out.below hD.below)
    have cj := HJ2.out.j.c
    clear hD c4 HJ
    obtain ⟨i1, i2, i3, i4, i5⟩ := H0.out
    have HP := Lib.hid (jpair_any g ks l r L K i3 i1 i2 h1 h2 h3 (by unfold small at hn ⊢; omega) w2 _ ⟨q, rfl, HJ2.out.ar⟩)
    clear i1 i2 i3 i4 i5
    go_wp2_with fail
    refine HP.out.mono ?_
    rintro e w3 ⟨v, ks', F', rfl, ⟨rfl, p1, p2, p3⟩, ha, hf⟩
    have HE := Lib.hid (And.intro p1 (And.intro p2 (And.intro p3 (And.intro ha hf))))
    clear p1 p2 p3 ha hf HP cj
    go_wp2
    go_ret
    obtain ⟨p1, p2, p3, ha, hf⟩ := HE.out
    exact ⟨_, ks', F', rfl, ⟨_, _, 1, rfl, p2, p1, p3, .inl ⟨hc, rfl, rfl⟩⟩, ha, (Fr.of_below HJ2.out.bl).trans hf⟩
  · have hK : ∃ k1 k2, K = .node k1 k2 := by
      cases K with
      | nil => simp [T.high] at hc; omega
      | leaf o n f => simp [T.high] at hc; omega
      | node k1 k2 => exact ⟨k1, k2, rfl⟩
    obtain ⟨k1, k2, rfl⟩ := hK
    obtain ⟨l', r', e1, e2, hI1, hI2, _, _, _, _, hkn⟩ := H0.out.2.1.node_
    have hkl : k.left = l' := by rw [← HKK.out, hkn]
    have hkr : k.right = r' := by rw [← HKK.out, hkn]
    have g1 := hI1.knot.2.1
    have g2 := hI2.knot.2.1
    have HI := Lib.hid (And.intro hI1 (And.intro hI2 (And.intro hkl (And.intro hkr (And.intro g1 g2)))))
    have ok1 : k1.ok ∧ k2.ok ∧ 0 < k1.size ∧ 0 < k2.size ∧ (T.node k1 k2).size = k1.size + k2.size := by
      have := H0.out.2.2.2.2
      exact ⟨this.1, this.2.1, this.2.2.1, this.2.2.2.1, rfl⟩
    obtain ⟨ok1, ok2, s1, s2, s3⟩ := ok1
    have hc' : L.high + 1 < (T.node k1 k2).high := by omega
    have b1 := T.bounds ok1
    have b2 := T.bounds ok2
    have HOK := Lib.hid (And.intro ok1 ok2)
    clear hI1 hI2 hkn hkl hkr g1 g2 ok1 ok2 e1 e2
    have c4 : W.cell? ⟨bk, 4, none⟩ = some (.int .i64 (T.node k1 k2).high) := by rw [← HKR.out]; exact HJ.out.k.c4
    generalize hNe : (T.node k1 k2).high = hN at c4 hc hc' hK0 hK1 HKR
    have HNE := Lib.hid hNe
    clear hNe
    have cj := HJ.out.j.c
    have hltj := HJ.out.j.lt
    have hltk := HJ.out.k.lt
    refine wp_region_grow 9 (by kernel_rfl) (by kernel_rfl) ?_
    simp only [List.take_succ_cons, List.take_zero, List.drop_succ_cons, List.drop_zero, List.take_nil, List.drop_nil]
    iterate 5 ((refine wpGrow_val' rfl rfl ?_; apply Exists.intro; refine ⟨fun w1 hw1 => ?_, ?_⟩); (have hc1 := hw1.cell; go_simp; exact growUpon_ok rfl); (refine wpGrow_at (by (simp only [Act.put, List.setIfInBounds_toArray, List.set_cons_succ, List.set_cons_zero]) <;> exact rfl) ?_))
    (refine wpGrow_val' rfl rfl ?_; apply Exists.intro; refine ⟨fun w1 hw1 => ?_, ?_⟩)
    · go_simp
      have := HH.out l _ (HJ.out.ar.below hw1.below)
      rw [HL.out] at this
      exact growUpon_call this
    (refine wpGrow_at (by (simp only [Act.put, List.setIfInBounds_toArray, List.set_cons_succ, List.set_cons_zero]) <;> exact rfl) ?_)
    iterate 3 ((refine wpGrow_val' rfl rfl ?_; apply Exists.intro; refine ⟨fun w1 hw1 => ?_, ?_⟩); (have hc1 := hw1.cell; go_simp; exact growUpon_ok rfl); (refine wpGrow_at (by (simp only [Act.put, List.setIfInBounds_toArray, List.set_cons_succ, List.set_cons_zero]) <;> exact rfl) ?_))
    refine wpGrow_nil ?_
    intro w2 hD
    have HJ2 := Lib.hid (HJ.out.below hD.below)
    clear hD c4 HJ cj hltj hltk
    have c0 : w2.cell? ⟨bk, 0, none⟩ = some (.int .i64 l') := by rw [← HI.out.2.2.1]; exact HJ2.out.k.c0
    have c1 : w2.cell? ⟨bk, 1, none⟩ = some (.int .i64 r') := by rw [← HI.out.2.2.2.1]; exact HJ2.out.k.c1
    have cj := HJ2.out.j.c
    have hltj := HJ2.out.j.lt
    have hltk := HJ2.out.k.lt
    go_wp2_with fail
    refine wp_region_grow 12 (by kernel_rfl) (by kernel_rfl) ?_
    simp only [List.take_succ_cons, List.take_zero, List.drop_succ_cons, List.drop_zero, List.take_nil, List.drop_nil]
    iterate 4 ((refine wpGrow_val' rfl rfl ?_; apply Exists.intro; refine ⟨fun w1 hw1 => ?_, ?_⟩); (have hc1 := hw1.cell; go_simp; exact growUpon_ok rfl); (refine wpGrow_at (by (simp only [Act.put, List.setIfInBounds_toArray, List.set_cons_succ, List.set_cons_zero]) <;> exact rfl) ?_))
    (refine wpGrow_val' rfl rfl ?_; apply Exists.intro; refine ⟨fun w1 hw1 => ?_, ?_⟩)
    · go_simp
      have := HH.out l' _ (HJ2.out.ar.below hw1.below)
      rw [HI.out.2.2.2.2.1] at this
      exact growUpon_call this
    (refine wpGrow_at (by (simp only [Act.put, List.setIfInBounds_toArray, List.set_cons_succ, List.set_cons_zero]) <;> exact rfl) ?_)
    iterate 4 ((refine wpGrow_val' rfl rfl ?_; apply Exists.intro; refine ⟨fun w1 hw1 => ?_, ?_⟩); (have hc1 := hw1.cell; go_simp; exact growUpon_ok rfl); (refine wpGrow_at (by (simp only [Act.put, List.setIfInBounds_toArray, List.set_cons_succ, List.set_cons_zero]) <;> exact rfl) ?_))
    (refine wpGrow_val' rfl rfl ?_; apply Exists.intro; refine ⟨fun w1 hw1 => ?_, ?_⟩)
    · go_simp
      have := HH.out r' _ (HJ2.out.ar.below hw1.below)
      rw [HI.out.2.2.2.2.2] at this
      exact growUpon_call this
    (refine wpGrow_at (by (simp only [Act.put, List.setIfInBounds_toArray, List.set_cons_succ, List.set_cons_zero]) <;> exact rfl) ?_)
    iterate 2 ((refine wpGrow_val' rfl rfl ?_; apply Exists.intro; refine ⟨fun w1 hw1 => ?_, ?_⟩); (have hc1 := hw1.cell; go_simp; exact growUpon_ok rfl); (refine wpGrow_at (by (simp only [Act.put, List.setIfInBounds_toArray, List.set_cons_succ, List.set_cons_zero]) <;> exact rfl) ?_))
    refine wpGrow_nil ?_
    intro w4 hD
    have HJ4 := Lib.hid (HJ2.out.below hD.below)
    clear hD HJ2 c0 c1 cj hltj hltk
    have c0 : w4.cell? ⟨bk, 0, none⟩ = some (.int .i64 l') := by rw [← HI.out.2.2.1]; exact HJ4.out.k.c0
    have c1 : w4.cell? ⟨bk, 1, none⟩ = some (.int .i64 r') := by rw [← HI.out.2.2.2.1]; exact HJ4.out.k.c1
    have cj := HJ4.out.j.c
    have hltj := HJ4.out.j.lt
    have hltk := HJ4.out.k.lt
    have hnj := HNF.out bj (Nat.le_refl _)
    have hnk := HNF.out bk (by subst hbj; exact HJ4.out.gk)
    by_cases hd : k2.high < k1.high
    · have hK : ∃ m1 m2, k1 = .node m1 m2 := by
        cases k1 with
        | nil => simp [T.high] at hd; omega
        | leaf o n f => simp [T.high] at hd; omega
        | node m1 m2 => exact ⟨m1, m2, rfl⟩
      obtain ⟨m1, m2, rfl⟩ := hK
      obtain ⟨l2, r2, e1, e2, hI1, hI2, _, _, _, _, hkn⟩ := HI.out.1.node_
      have ok1 : m1.ok ∧ m2.ok ∧ 0 < m1.size ∧ 0 < m2.size ∧ (T.node m1 m2).size = m1.size + m2.size := by
        have := HOK.out.1
        exact ⟨this.1, this.2.1, this.2.2.1, this.2.2.2.1, rfl⟩
      obtain ⟨ok1, ok2, s4, s5, s6⟩ := ok1
      have HI2 := Lib.hid (And.intro hI1 hI2)
      have HG2 := Lib.hid (fun w' (ha : Arena w' g q ks) => jget_any g q ks l' w' ha (by unfold small at hn ⊢; omega))
      rw [hkn] at HG2
      unfold Knot.val at HG2
      simp only at HG2
      clear hI1 hI2 hkn ok1 ok2 e1 e2 b1 b2
      generalize hMe : (T.node m1 m2).high = hM at hd
      have HME := Lib.hid hMe
      clear hMe
      generalize m1.size + m2.size = z1 at HG2
      generalize 1 + max m1.high m2.high = z2 at HG2
      generalize m1.many + m2.many = z3 at HG2
      generalize m1.feeds + m2.feeds = z4 at HG2
      have hd' : decide (k2.high < hM) = true := by simpa using hd
      go_wp2_with fail
      ((with_reducible refine (HG2.out _ HJ4.out.ar).mono ?_); rintro e w5 ⟨rfl, hb5⟩)
      have HJ6 : Hid (JK w (w5.alloc (.cells #[.int .i64 l2, .int .i64 r2, .int .i64 0, .int .i64 z1, .int .i64 z2, .int .i64 z3, .int .i64 z4] 66)) g q ks bj bk k ∧ blkK (w5.alloc (.cells #[.int .i64 l2, .int .i64 r2, .int .i64 0, .int .i64 z1, .int .i64 z2, .int .i64 z3, .int .i64 z4] 66)) w5.heap.size ⟨l2, r2, 0, z1, z2, z3, z4⟩ ∧ bj ≤ w5.heap.size) :=
        Lib.hid ⟨(HJ4.out.below hb5).below ((Below.refl _ _).alloc (Nat.le_refl _) _), heap_alloc_new _ _, by have := hb5.size; omega⟩
      clear hb5 c0 c1 cj hnj hnk hltj hltk HG2
      go_wp2_with fail
      generalize w5.alloc (.cells #[.int .i64 l2, .int .i64 r2, .int .i64 0, .int .i64 z1, .int .i64 z2, .int .i64 z3, .int .i64 z4] 66) = w6 at HJ6 ⊢
      generalize w5.heap.size = bm at HJ6 ⊢
      have HR : Hid (∀ s bs w1, (resCls (resAr g) w6 (foot g q)).In s bs w1 → w1.cell? ⟨bj, 0, none⟩ = some (.pointer (some ⟨g, 0, none⟩)) ∧ w1.cell? ⟨bk, 1, none⟩ = some (.int .i64 r') ∧ w1.cell? ⟨bm, 0, none⟩ = some (.int .i64 l2) ∧ w1.cell? ⟨bm, 1, none⟩ = some (.int .i64 r2)) := Lib.hid (fun s bs w1 hw1 =>
        ⟨(resCls_cell hw1 HJ6.out.1.j.lt (HNF.out bj (Nat.le_refl _)) 0).trans HJ6.out.1.j.c, (resCls_cell hw1 HJ6.out.1.k.lt (HNF.out bk (by subst hbj; exact HJ6.out.1.gk)) 1).trans (by rw [← HI.out.2.2.2.1]; exact HJ6.out.1.k.c1),
          (resCls_cell hw1 HJ6.out.2.1.lt (HNF.out bm HJ6.out.2.2) 0).trans HJ6.out.2.1.c0, (resCls_cell hw1 HJ6.out.2.1.lt (HNF.out bm HJ6.out.2.2) 1).trans HJ6.out.2.1.c1⟩)
      refine wp_region_thr (resCls (resAr g) w6 (foot g q)) ks 14 [0, 1, 2, 3, 4, 6, 7, 8, 9, 10, 5, 11, 12, 13] _ (by kernel_rfl) (by kernel_rfl) (by kernel_rfl) rfl (resCls_start ⟨q, rfl, HJ6.out.1.ar⟩) ?_
      (simp only [List.filterMap_cons, List.filterMap_nil, List.getElem?_cons_zero, List.getElem?_cons_succ, List.drop_succ_cons, List.drop_zero, List.drop_nil])
      iterate 10 ((refine wpThr_val rfl rfl rfl ?_; apply Exists.intro; refine ⟨fun s1 bs1 w1 hb1 hw1 => ?_, ?_⟩); (have hc1 := HR.out s1 bs1 w1 hw1; go_simp; exact growUpon_ok rfl); (refine wpThr_at (by (simp only [Act.put, List.setIfInBounds_toArray, List.set_cons_succ, List.set_cons_zero]) <;> exact rfl) ?_))
      refine wpThr_call (mkp ks L m1) rfl rfl rfl ?_ ?_
      · intro bs1 w1 hb1 hw1
        go_simp
        exact resCls_upon (jpair_any g ks l l2 L m1 H0.out.2.2.1 H0.out.1 HI2.out.1 h1 s4 (by omega) (by unfold small at hn ⊢; omega)) hw1
      rintro v ks1 ⟨rfl, p1, p2, p3⟩
      (refine wpThr_at (by (simp only [Act.put, List.setIfInBounds_toArray, List.set_cons_succ, List.set_cons_zero]) <;> exact rfl) ?_)
      refine wpThr_call (fun v ks' => mkp ks1 m2 k2 v ks' ∧ Is ks' ((ks.length + 1 : Nat) : Int) (.node L m1)) rfl rfl rfl ?_ ?_
      · intro bs1 w1 hb1 hw1
        go_simp
        have hlen := p3.len
        exact resCls_upon ((jpair_any g ks1 r2 r' m2 k2 p1 (HI2.out.2.ext p3) (HI.out.2.1.ext p3) s5 s2 (by omega) (by unfold small at hn ⊢; omega)).mono fun v ks' h => ⟨h, p2.ext h.2.2.2⟩) hw1
      rintro v ks2 ⟨⟨rfl, p4, p5, p6⟩, p7⟩
      (refine wpThr_at (by (simp only [Act.put, List.setIfInBounds_toArray, List.set_cons_succ, List.set_cons_zero]) <;> exact rfl) ?_)
      refine wpThr_call (mkp ks2 (.node L m1) (.node m2 k2)) rfl rfl rfl ?_ ?_
      · intro bs1 w1 hb1 hw1
        go_simp
        have hlen := p3.len
        have hlen2 := p6.len
        exact resCls_upon (jpair_any g ks2 _ _ (.node L m1) (.node m2 k2) p4 p7 p5 (by simp only [T.size]; omega) (by simp only [T.size]; omega) (by simp only [T.size]; omega) (by unfold small at hn ⊢; omega)) hw1
      rintro v ks3 ⟨rfl, p8, p9, p10⟩
      (refine wpThr_at (by (simp only [Act.put, List.setIfInBounds_toArray, List.set_cons_succ, List.set_cons_zero]) <;> exact rfl) ?_)
      ((refine wpThr_val rfl rfl rfl ?_; apply Exists.intro; refine ⟨fun s1 bs1 w1 hb1 hw1 => ?_, ?_⟩); (have hc1 := HR.out s1 bs1 w1 hw1; go_simp; exact growUpon_ok rfl); (refine wpThr_at (by (simp only [Act.put, List.setIfInBounds_toArray, List.set_cons_succ, List.set_cons_zero]) <;> exact rfl) ?_))
      refine wpThr_nil ?_
      rintro w7 ⟨F', ha, hf, _⟩
      have HE := Lib.hid (And.intro p8 (And.intro p9 (And.intro ((p3.trans p6).trans p10) (And.intro ha hf))))
      clear p1 p2 p3 p4 p5 p6 p7 p8 p9 p10 ha hf
      go_wp2
      go_ret
      obtain ⟨p1, p2, p3, ha, hf⟩ := HE.out
      exact ⟨_, ks3, F', rfl, ⟨_, _, 3, rfl, p2, p1, p3, .inr (.inr ⟨m1, m2, k2, rfl, by rw [HNE.out]; exact hc', by rw [HME.out]; exact hd, rfl, rfl⟩)⟩, ha, (Fr.of_below HJ6.out.1.bl).trans hf⟩
    · go_wp2_with fail
      have HR : Hid (∀ s bs w1, (resCls (resAr g) w4 (foot g q)).In s bs w1 → w1.cell? ⟨bj, 0, none⟩ = some (.pointer (some ⟨g, 0, none⟩)) ∧ w1.cell? ⟨bk, 0, none⟩ = some (.int .i64 l') ∧ w1.cell? ⟨bk, 1, none⟩ = some (.int .i64 r')) := Lib.hid (fun s bs w1 hw1 =>
        ⟨(resCls_cell hw1 hltj hnj 0).trans cj, (resCls_cell hw1 hltk hnk 0).trans c0, (resCls_cell hw1 hltk hnk 1).trans c1⟩)
      clear c0 c1 cj
      refine wp_region_thr (resCls (resAr g) w4 (foot g q)) ks 10 [0, 1, 2, 3, 4, 6, 7, 5, 8, 9] _ (by kernel_rfl) (by kernel_rfl) (by kernel_rfl) rfl (resCls_start ⟨q, rfl, HJ4.out.ar⟩) ?_
      (simp only [List.filterMap_cons, List.filterMap_nil, List.getElem?_cons_zero, List.getElem?_cons_succ, List.drop_succ_cons, List.drop_zero, List.drop_nil])
      iterate 7 ((refine wpThr_val rfl rfl rfl ?_; apply Exists.intro; refine ⟨fun s1 bs1 w1 hb1 hw1 => ?_, ?_⟩); (have hc1 := HR.out s1 bs1 w1 hw1; go_simp; exact growUpon_ok rfl); (refine wpThr_at (by (simp only [Act.put, List.setIfInBounds_toArray, List.set_cons_succ, List.set_cons_zero]) <;> exact rfl) ?_))
      refine wpThr_call (mkp ks L k1) rfl rfl rfl ?_ ?_
      · intro bs1 w1 hb1 hw1
        go_simp
        exact resCls_upon (jpair_any g ks l l' L k1 H0.out.2.2.1 H0.out.1 HI.out.1 h1 s1 (by omega) (by unfold small at hn ⊢; omega)) hw1
      rintro v ks1 ⟨rfl, p1, p2, p3⟩
      (refine wpThr_at (by (simp only [Act.put, List.setIfInBounds_toArray, List.set_cons_succ, List.set_cons_zero]) <;> exact rfl) ?_)
      refine wpThr_call (mkp ks1 (.node L k1) k2) rfl rfl rfl ?_ ?_
      · intro bs1 w1 hb1 hw1
        go_simp
        have hlen := p3.len
        exact resCls_upon (jpair_any g ks1 _ r' (.node L k1) k2 p1 p2 (HI.out.2.1.ext p3) (by simp only [T.size]; omega) s2 (by simp only [T.size]; omega) (by unfold small at hn ⊢; omega)) hw1
      rintro v ks2 ⟨rfl, p4, p5, p6⟩
      (refine wpThr_at (by (simp only [Act.put, List.setIfInBounds_toArray, List.set_cons_succ, List.set_cons_zero]) <;> exact rfl) ?_)
      ((refine wpThr_val rfl rfl rfl ?_; apply Exists.intro; refine ⟨fun s1 bs1 w1 hb1 hw1 => ?_, ?_⟩); (have hc1 := HR.out s1 bs1 w1 hw1; go_simp; exact growUpon_ok rfl); (refine wpThr_at (by (simp only [Act.put, List.setIfInBounds_toArray, List.set_cons_succ, List.set_cons_zero]) <;> exact rfl) ?_))
      refine wpThr_nil ?_
      rintro w5 ⟨F', ha, hf, _⟩
      have HE := Lib.hid (And.intro p4 (And.intro p5 (And.intro (p3.trans p6) (And.intro ha hf))))
      clear p1 p2 p3 p4 p5 p6 ha hf
      go_wp2
      go_ret
      obtain ⟨p1, p2, p3, ha, hf⟩ := HE.out
      exact ⟨_, ks2, F', rfl, ⟨_, _, 2, rfl, p2, p1, p3, .inr (.inl ⟨k1, k2, rfl, by rw [HNE.out]; exact hc', by omega, rfl, rfl⟩)⟩, ha, (Fr.of_below HJ4.out.bl).trans hf⟩
end Go.Proofs.Ytkcocdpmangcgaa.Ar
