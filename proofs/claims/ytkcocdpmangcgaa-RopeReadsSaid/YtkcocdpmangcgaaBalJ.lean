
/- Balance: the joiner's join. -/
import Derived.Test.YtkcocdpmangcgaaBalR
namespace Go.Proofs.Ytkcocdpmangcgaa.Ar
set_option linter.unusedSimpArgs false
set_option linter.unusedVariables false
open Go Go.RowKit
attribute [local go_sem] lt_add1 lt_self1 size_ne size_ne' size_ne1 size_ne1'
attribute [local irreducible] wpGrow wpThr

/-- what join makes of two. -/
def joinP (ks : List Knot) (l r : Int) (L R : T) (v : Value) (ks' : List Knot) : Prop := ∃ (t : Int) (X : T) (n : Nat), v = .int .i64 t ∧ Is ks' t X ∧ WF ks' ∧ Ext ks ks' n 0 ∧ JoinOk L R X n ∧ (l = 0 → t = r) ∧ (r = 0 → t = l)

section
variable {ks ks1 ks2 : List Knot} {a b L R X K : T} {n : Nat} {v : Value} {l r : Int}
theorem lef_join (he : Ext ks ks1 n 0) (h : JoinOk b R X n) (h1 : (T.node a b).ok) (h2 : R.ok) (hs : (T.node a b).size + R.size ≤ 1099511627776) (h3 : R.high + 1 < (T.node a b).high) (hl : l ≠ 0) (hr : r ≠ 0) (hp : lefP ks1 a X v ks2) : joinP ks l r (.node a b) R v ks2 := by
  obtain ⟨t, Y, n', rfl, i1, i2, i3, h4⟩ := hp
  rcases h4 with ⟨h4, rfl, rfl⟩ | ⟨k1, k2, rfl, h4, h5, rfl, rfl⟩ | ⟨m1, m2, k2, rfl, h4, h5, rfl, rfl⟩
  · exact ⟨t, _, _, rfl, i1, i2, he.trans i3, h.left1 h1 h2 hs h3 h4, fun e => absurd e hl, fun e => absurd e hr⟩
  · exact ⟨t, _, _, rfl, i1, i2, he.trans i3, h.left3 h1 h2 hs h3 h4 h5, fun e => absurd e hl, fun e => absurd e hr⟩
  · exact ⟨t, _, _, rfl, i1, i2, he.trans i3, h.left2 h1 h2 hs h3 h4 h5, fun e => absurd e hl, fun e => absurd e hr⟩
theorem rig_join (he : Ext ks ks1 n 0) (h : JoinOk L a X n) (h1 : (T.node a b).ok) (h2 : L.ok) (hs : L.size + (T.node a b).size ≤ 1099511627776) (h3 : L.high + 1 < (T.node a b).high) (hl : l ≠ 0) (hr : r ≠ 0) (hp : rigP ks1 X b v ks2) : joinP ks l r L (.node a b) v ks2 := by
  obtain ⟨t, Y, n', rfl, i1, i2, i3, h4⟩ := hp
  rcases h4 with ⟨h4, rfl, rfl⟩ | ⟨k1, k2, rfl, h4, h5, rfl, rfl⟩ | ⟨k1, m1, m2, rfl, h4, h5, rfl, rfl⟩
  · exact ⟨t, _, _, rfl, i1, i2, he.trans i3, h.right1 h1 h2 hs h3 h4, fun e => absurd e hl, fun e => absurd e hr⟩
  · exact ⟨t, _, _, rfl, i1, i2, he.trans i3, h.right3 h1 h2 hs h3 h4 h5, fun e => absurd e hl, fun e => absurd e hr⟩
  · exact ⟨t, _, _, rfl, i1, i2, he.trans i3, h.right2 h1 h2 hs h3 h4 h5, fun e => absurd e hl, fun e => absurd e hr⟩
end

/-- a knot stored into its own variable. -/
theorem wpList_storeK {ops : Array Oper} {Q : Exit → Act → World → Prop} {a : Act} {w : World} {rest : List Oper} {o : Oper} {b : Nat} {k : Knot} {p x : Operand} {v0 v1 v2 v3 v4 v5 v6 : Value} (hop : o.op = .store 66 p x) (hg : o.guard = none) (hd : o.dst = none)
    (hp : a.eval p = .pointer (some ⟨b, 0, none⟩)) (hx : a.eval x = .agg #[.int .i64 k.left, .int .i64 k.right, .int .i64 k.off, .int .i64 k.len, .int .i64 k.high, .int .i64 k.leaves, .int .i64 k.feeds])
    (h : w.heap[b]? = some (.cells #[v0, v1, v2, v3, v4, v5, v6] 66 (0, 0))) (hn : wpList Try.prog ops Q rest a (setK w b k)) : wpList Try.prog ops Q (o :: rest) a w := by
  refine wpList_plain hg fun K hK => ?_
  obtain ⟨dst, op, type, pos, after, guard⟩ := o
  simp only at hop hg hd
  subst hop hg hd
  have hf : ∀ o, w.frozen? ⟨b, o, none⟩ = false := fun o => by simp [World.frozen?, h]
  have z := fun i => cell_of_row w b i _ _ (0, 0) h
  have z0 := z 0
  have z1 := z 1
  have z2 := z 2
  have z3 := z 3
  have z4 := z 4
  have z5 := z 5
  have z6 := z 6
  simp only [List.getElem?_toArray, List.getElem?_cons_zero, List.getElem?_cons_succ] at z0 z1 z2 z3 z4 z5 z6
  clear z h
  unfold Oper.wp
  unfold execOp
  simp only [hp, hx]
  clear hp hx
  have hK' := hK _ _ hn
  unfold setK at hK'
  go_simp
  exact hK'

def T.cnt : T → Nat
  | .nil => 1
  | .leaf _ _ _ => 1
  | .node l r => l.cnt + r.cnt + 1
theorem T.cnt_pos (X : T) : 1 ≤ X.cnt := by cases X <;> simp [T.cnt]
structure JX (w W : World) (g : Nat) (q : Option Nat) (ks : List Knot) (bj bx by_ : Nat) (x y : Knot) : Prop where
  ar : Arena W g q ks
  bl : Below w.heap.size w W
  j : blkJ W bj g
  x : blkK W bx x
  y : blkK W by_ y
  gj : w.heap.size ≤ bj
  gx : w.heap.size ≤ bx
  gy : w.heap.size ≤ by_

set_option maxHeartbeats 4000000 in
theorem join_any (g : Nat) : ∀ (m : Nat) (ks : List Knot) (l r : Int) (L R : T), L.cnt + R.cnt ≤ m → WF ks → Is ks l L → Is ks r R → L.size + R.size ≤ 1099511627776 → (ks.length : Int) + 1 + 3 * (L.high + R.high) ≤ 1073741824 →
    Does Try.prog (resAr g) 71 #[.agg #[.pointer (some ⟨g, 0, none⟩)], .int .i64 l, .int .i64 r] ks (joinP ks l r L R) := by
  intro m
  induction m with
  | zero => intro ks l r L R hm; have := T.cnt_pos L; omega
  | succ m ih =>
  intro ks l r L R hm hw hl hr h3 hn
  rintro w F ⟨q, rfl, ha⟩
  have IH := Lib.hid ih
  have HM := Lib.hid hm
  have okL := hl.ok hw
  have okR := hr.ok hw
  have bL := T.bounds okL
  have bR := T.bounds okR
  have hlt := ha.lt
  have hks : ks.length ≤ small := by unfold small; omega
  have HG1 := Lib.hid (fun w' (ha : Arena w' g q ks) => jget_any g q ks l w' ha hks)
  have HG2 := Lib.hid (fun w' (ha : Arena w' g q ks) => jget_any g q ks r w' ha hks)
  have H0 := Lib.hid (And.intro hl (And.intro hr (And.intro hw (And.intro okL okR))))
  have HA := Lib.hid ha
  have HX := Lib.hid hl.knot.2.1
  have HY := Lib.hid hr.knot.2.1
  unfold Knot.val at HG1 HG2
  clear ih hm ha hl hr hw okL okR
  generalize hx : getK ks l = x at HG1 HX
  have HXX := Lib.hid hx
  clear hx
  generalize hy : getK ks r = y at HG2 HY
  have HYY := Lib.hid hy
  clear hy
  have hb0 : Below w.heap.size w (w.alloc (.cells #[.pointer (some ⟨g, 0, none⟩)] 117)) := (Below.refl _ _).alloc (Nat.le_refl _) _
  have j0 : blkJ (w.alloc (.cells #[.pointer (some ⟨g, 0, none⟩)] 117)) w.heap.size g := heap_alloc_new _ _
  have HB0 := Lib.hid (And.intro hb0 (And.intro j0 (HA.out.below hb0)))
  clear hb0 j0
  go_enter Try.func71, Try.ntmps71
  go_wp2_with fail
  generalize w.alloc (.cells #[.pointer (some ⟨g, 0, none⟩)] 117) = W0 at HB0 ⊢
  generalize hbj : w.heap.size = bj at HB0 ⊢
  have cj := HB0.out.2.1.c
  have hltj := HB0.out.2.1.lt
  refine wp_region_grow 8 (by kernel_rfl) (by kernel_rfl) ?_
  simp only [List.take_succ_cons, List.take_zero, List.drop_succ_cons, List.drop_zero, List.take_nil, List.drop_nil]
  iterate 2 ((refine wpGrow_val' rfl rfl ?_; apply Exists.intro; refine ⟨fun w1 hw1 => ?_, ?_⟩); (have hc1 := hw1.cell; go_simp; exact growUpon_ok rfl); (refine wpGrow_at (by (simp only [Act.put, List.setIfInBounds_toArray, List.set_cons_succ, List.set_cons_zero]) <;> exact rfl) ?_))
  (refine wpGrow_val' rfl rfl ?_; apply Exists.intro; refine ⟨fun w1 hw1 => ?_, ?_⟩)
  · go_simp
    exact growUpon_call (HG1.out _ (HB0.out.2.2.below hw1.below))
  (refine wpGrow_at (by (simp only [Act.put, List.setIfInBounds_toArray, List.set_cons_succ, List.set_cons_zero]) <;> exact rfl) ?_)
  iterate 2 ((refine wpGrow_val' rfl rfl ?_; apply Exists.intro; refine ⟨fun w1 hw1 => ?_, ?_⟩); (have hc1 := hw1.cell; go_simp; exact growUpon_ok rfl); (refine wpGrow_at (by (simp only [Act.put, List.setIfInBounds_toArray, List.set_cons_succ, List.set_cons_zero]) <;> exact rfl) ?_))
  (refine wpGrow_val' rfl rfl ?_; apply Exists.intro; refine ⟨fun w1 hw1 => ?_, ?_⟩)
  · go_simp
    exact growUpon_call (HG2.out _ (HB0.out.2.2.below hw1.below))
  (refine wpGrow_at (by (simp only [Act.put, List.setIfInBounds_toArray, List.set_cons_succ, List.set_cons_zero]) <;> exact rfl) ?_)
  refine wpGrow_make (O := .cells #[.int .i64 0, .int .i64 0, .int .i64 0, .int .i64 0, .int .i64 0, .int .i64 0, .int .i64 0] 66) rfl (by kernel_rfl) (fun bx hbx hfx => ?_)
  (refine wpGrow_at (by (simp only [Act.put, List.setIfInBounds_toArray, List.set_cons_succ, List.set_cons_zero]) <;> exact rfl) ?_)
  refine wpGrow_make (O := .cells #[.int .i64 0, .int .i64 0, .int .i64 0, .int .i64 0, .int .i64 0, .int .i64 0, .int .i64 0] 66) rfl (by kernel_rfl) (fun by_ hby hfy => ?_)
  (refine wpGrow_at (by (simp only [Act.put, List.setIfInBounds_toArray, List.set_cons_succ, List.set_cons_zero]) <;> exact rfl) ?_)
  refine wpGrow_nil ?_
  intro w2 hD
  have hne : bx ≠ by_ := hfy _ List.mem_cons_self
  have hne' : by_ ≠ bx := Ne.symm hne
  have ax := (hD.at_ _ (List.mem_cons_of_mem _ List.mem_cons_self)).2
  have ay := (hD.at_ _ List.mem_cons_self).2
  refine wpList_storeK (k := x) rfl rfl rfl rfl rfl ax ?_
  refine wpList_storeK (k := y) rfl rfl rfl rfl rfl ((setK_other hne' x).trans ay) ?_
  refine wpList_nil ?_
  refine world_as (fun W => Hid (JX w W g q ks bj bx by_ x y)) ?_ ?_
  · subst hbj
    have hB2 := HB0.out.1.trans (hD.below.mono HB0.out.1.size)
    have hb := Below.trans HB0.out.1 (setK_below (setK_below (hD.below.mono HB0.out.1.size) (show w.heap.size ≤ bx by have := HB0.out.1.size; omega) x) (show w.heap.size ≤ by_ by have := HB0.out.1.size; omega) y)
    have hD3 := setK_below (setK_below hD.below hbx x) hby y
    refine Lib.hid ⟨HB0.out.2.2.below hD3, hb, HB0.out.2.1.below hD3, ?_, setK_blk ((setK_other hne' x).trans ay) y, Nat.le_refl _, by have := HB0.out.1.size; omega, by have := HB0.out.1.size; omega⟩
    have := setK_blk ax x
    unfold blkK at this ⊢
    rwa [setK_other hne y]
  intro W HJ
  clear hD ax ay hfx hfy cj hltj HB0
  have HNF := Lib.hid (fun b (hb : bj ≤ b) => (show ¬ foot g q b from fun hf => by
    subst hbj
    rcases hf with rfl | e
    · omega
    · have := HA.out.row_lt e; omega))
  by_cases hl0 : l = 0
  · subst hl0
    go_wp2
    go_ret
    obtain ⟨i1, i2, i3, i4, i5⟩ := H0.out
    obtain rfl := i1.zero
    exact ⟨_, ks, _, rfl, ⟨r, R, 0, rfl, i2, i3, Ext.refl ks, JoinOk.nil_left i5, fun _ => rfl, fun e => e⟩, ⟨q, rfl, HJ.out.ar⟩, Fr.of_below HJ.out.bl⟩
  · by_cases hr0 : r = 0
    · subst hr0
      have hl1 : (l == 0) = false := by simpa using hl0
      go_wp2
      go_ret
      obtain ⟨i1, i2, i3, i4, i5⟩ := H0.out
      obtain rfl := i2.zero
      exact ⟨_, ks, _, rfl, ⟨l, L, 0, rfl, i1, i3, Ext.refl ks, JoinOk.nil_right i4, fun e => e, fun _ => rfl⟩, ⟨q, rfl, HJ.out.ar⟩, Fr.of_below HJ.out.bl⟩
    · have hl1 : (l == 0) = false := by simpa using hl0
      have hr1 : (r == 0) = false := by simpa using hr0
      have s1 : 0 < L.size := H0.out.1.pos H0.out.2.2.1 hl0
      have s2 : 0 < R.size := H0.out.2.1.pos H0.out.2.2.1 hr0
      have hLh : 1 ≤ L.high ∧ L.high ≤ 1099511627776 := by omega
      have hRh : 1 ≤ R.high ∧ R.high ≤ 1099511627776 := by omega
      obtain ⟨hL0, hL1⟩ := hLh
      obtain ⟨hR0, hR1⟩ := hRh
      have x4 : W.cell? ⟨bx, 4, none⟩ = some (.int .i64 L.high) := by rw [← HX.out]; exact HJ.out.x.c4
      have y4 : W.cell? ⟨by_, 4, none⟩ = some (.int .i64 R.high) := by rw [← HY.out]; exact HJ.out.y.c4
      have cj := HJ.out.j.c
      have hltj := HJ.out.j.lt
      have hltx := HJ.out.x.lt
      have hlty := HJ.out.y.lt
      have hnj := HNF.out bj (Nat.le_refl _)
      have hnx := HNF.out bx (by subst hbj; exact HJ.out.gx)
      have hny := HNF.out by_ (by subst hbj; exact HJ.out.gy)
      have HBD := Lib.hid (And.intro bL bR)
      clear bL bR
      by_cases hc : R.high + 1 < L.high
      · have hK : ∃ a b, L = .node a b := by
          cases L with
          | nil => simp [T.high] at hL0
          | leaf o n f => simp [T.high] at hc; omega
          | node a b => exact ⟨a, b, rfl⟩
        obtain ⟨a, b, rfl⟩ := hK
        obtain ⟨l', r', e1, e2, hI1, hI2, _, _, _, _, hkn⟩ := H0.out.1.node_
        have hkl : x.left = l' := by rw [← HXX.out, hkn]
        have hkr : x.right = r' := by rw [← HXX.out, hkn]
        have x0 : W.cell? ⟨bx, 0, none⟩ = some (.int .i64 l') := by rw [← hkl]; exact HJ.out.x.c0
        have x1 : W.cell? ⟨bx, 1, none⟩ = some (.int .i64 r') := by rw [← hkr]; exact HJ.out.x.c1
        have HI := Lib.hid (And.intro hI1 hI2)
        clear hkl hkr hkn hI1 hI2
        have HC := Lib.hid hc
        generalize hLe : (T.node a b).high = hLn at x4 hc hL0 hL1
        have HLE := Lib.hid hLe
        clear hLe
        go_wp2_with fail
        have HR : Hid (∀ s bs w1, (resCls (resAr g) W (foot g q)).In s bs w1 → w1.cell? ⟨bj, 0, none⟩ = some (.pointer (some ⟨g, 0, none⟩)) ∧ w1.cell? ⟨bx, 0, none⟩ = some (.int .i64 l') ∧ w1.cell? ⟨bx, 1, none⟩ = some (.int .i64 r')) := Lib.hid (fun s bs w1 hw1 =>
          ⟨(resCls_cell hw1 hltj hnj 0).trans cj, (resCls_cell hw1 hltx hnx 0).trans x0, (resCls_cell hw1 hltx hnx 1).trans x1⟩)
        clear x0 x1 cj x4 y4
        have okN := H0.out.2.2.2.1
        simp only [T.ok] at okN
        obtain ⟨oka, okb, sa, sb, sab⟩ := okN
        have hab := T.high_node a b
        have ba := (T.bounds oka).2.2.2.1
        have bb := (T.bounds okb).2.2.2.1
        have hcn : (T.node a b).cnt = a.cnt + b.cnt + 1 := rfl
        have hsz : (T.node a b).size = a.size + b.size := rfl
        have hmm := HM.out
        refine wp_region_thr (resCls (resAr g) W (foot g q)) ks 10 [0, 1, 2, 3, 4, 5, 6, 7, 8, 9] _ (by kernel_rfl) (by kernel_rfl) (by kernel_rfl) rfl (resCls_start ⟨q, rfl, HJ.out.ar⟩) ?_
        (simp only [List.filterMap_cons, List.filterMap_nil, List.getElem?_cons_zero, List.getElem?_cons_succ, List.drop_succ_cons, List.drop_zero, List.drop_nil])
        iterate 7 ((refine wpThr_val rfl rfl rfl ?_; apply Exists.intro; refine ⟨fun s1 bs1 w1 hb1 hw1 => ?_, ?_⟩); (have hc1 := HR.out s1 bs1 w1 hw1; go_simp; exact growUpon_ok rfl); (refine wpThr_at (by (simp only [Act.put, List.setIfInBounds_toArray, List.set_cons_succ, List.set_cons_zero]) <;> exact rfl) ?_))
        refine wpThr_call (joinP ks r' r b R) rfl rfl rfl ?_ ?_
        · intro bs1 w1 hb1 hw1
          go_simp
          exact resCls_upon (IH.out ks r' r b R (by omega) H0.out.2.2.1 HI.out.2 H0.out.2.1 (by omega) (by omega)) hw1
        rintro v ks1 ⟨t, X, n, rfl, p1, p2, p3, p4, _, _⟩
        (refine wpThr_at (by (simp only [Act.put, List.setIfInBounds_toArray, List.set_cons_succ, List.set_cons_zero]) <;> exact rfl) ?_)
        have hX := p4.size
        have hcost := p4.cost
        have hlen := p3.len
        refine wpThr_call (lefP ks1 a X) rfl rfl rfl ?_ ?_
        · intro bs1 w1 hb1 hw1
          go_simp
          exact resCls_upon (left_any g ks1 l' t a X p2 (HI.out.1.ext p3) p1 sa (by omega) (by omega) (by unfold small; omega)) hw1
        rintro v ks2 hp
        (refine wpThr_at (by (simp only [Act.put, List.setIfInBounds_toArray, List.set_cons_succ, List.set_cons_zero]) <;> exact rfl) ?_)
        have hj := lef_join p3 p4 H0.out.2.2.2.1 H0.out.2.2.2.2 h3 (by rw [HLE.out]; exact hc) hl0 hr0 hp
        obtain ⟨t', Y, n', rfl, hrest⟩ := hj
        ((refine wpThr_val rfl rfl rfl ?_; apply Exists.intro; refine ⟨fun s1 bs1 w1 hb1 hw1 => ?_, ?_⟩); (have hc1 := HR.out s1 bs1 w1 hw1; go_simp; exact growUpon_ok rfl); (refine wpThr_at (by (simp only [Act.put, List.setIfInBounds_toArray, List.set_cons_succ, List.set_cons_zero]) <;> exact rfl) ?_))
        refine wpThr_nil ?_
        rintro w5 ⟨F', ha, hf, _⟩
        have HE := Lib.hid (And.intro hrest (And.intro ha hf))
        clear hrest ha hf hp p1 p2 p3 p4 hX hcost hlen
        go_wp2
        go_ret
        obtain ⟨hrest, ha, hf⟩ := HE.out
        exact ⟨_, ks2, F', rfl, ⟨t', Y, n', rfl, hrest⟩, ha, (Fr.of_below HJ.out.bl).trans hf⟩
      · by_cases hd : L.high + 1 < R.high
        · have hK : ∃ a b, R = .node a b := by
            cases R with
            | nil => simp [T.high] at hR0
            | leaf o n f => simp [T.high] at hd; omega
            | node a b => exact ⟨a, b, rfl⟩
          obtain ⟨a, b, rfl⟩ := hK
          obtain ⟨l', r', e1, e2, hI1, hI2, _, _, _, _, hkn⟩ := H0.out.2.1.node_
          have hkl : y.left = l' := by rw [← HYY.out, hkn]
          have hkr : y.right = r' := by rw [← HYY.out, hkn]
          have x0 : W.cell? ⟨by_, 0, none⟩ = some (.int .i64 l') := by rw [← hkl]; exact HJ.out.y.c0
          have x1 : W.cell? ⟨by_, 1, none⟩ = some (.int .i64 r') := by rw [← hkr]; exact HJ.out.y.c1
          have HI := Lib.hid (And.intro hI1 hI2)
          clear hkl hkr hkn hI1 hI2
          generalize hLe : (T.node a b).high = hLn at y4 hc hd hR0 hR1
          have HLE := Lib.hid hLe
          clear hLe
          go_wp2_with fail
          have HR : Hid (∀ s bs w1, (resCls (resAr g) W (foot g q)).In s bs w1 → w1.cell? ⟨bj, 0, none⟩ = some (.pointer (some ⟨g, 0, none⟩)) ∧ w1.cell? ⟨by_, 0, none⟩ = some (.int .i64 l') ∧ w1.cell? ⟨by_, 1, none⟩ = some (.int .i64 r')) := Lib.hid (fun s bs w1 hw1 =>
            ⟨(resCls_cell hw1 hltj hnj 0).trans cj, (resCls_cell hw1 hlty hny 0).trans x0, (resCls_cell hw1 hlty hny 1).trans x1⟩)
          clear x0 x1 cj x4 y4
          have okN := H0.out.2.2.2.2
          simp only [T.ok] at okN
          obtain ⟨oka, okb, sa, sb, sab⟩ := okN
          have hab := T.high_node a b
          have ba := (T.bounds oka).2.2.2.1
          have bb := (T.bounds okb).2.2.2.1
          have hcn : (T.node a b).cnt = a.cnt + b.cnt + 1 := rfl
          have hsz : (T.node a b).size = a.size + b.size := rfl
          have hmm := HM.out
          refine wp_region_thr (resCls (resAr g) W (foot g q)) ks 10 [0, 1, 2, 3, 4, 6, 7, 5, 8, 9] _ (by kernel_rfl) (by kernel_rfl) (by kernel_rfl) rfl (resCls_start ⟨q, rfl, HJ.out.ar⟩) ?_
          (simp only [List.filterMap_cons, List.filterMap_nil, List.getElem?_cons_zero, List.getElem?_cons_succ, List.drop_succ_cons, List.drop_zero, List.drop_nil])
          iterate 7 ((refine wpThr_val rfl rfl rfl ?_; apply Exists.intro; refine ⟨fun s1 bs1 w1 hb1 hw1 => ?_, ?_⟩); (have hc1 := HR.out s1 bs1 w1 hw1; go_simp; exact growUpon_ok rfl); (refine wpThr_at (by (simp only [Act.put, List.setIfInBounds_toArray, List.set_cons_succ, List.set_cons_zero]) <;> exact rfl) ?_))
          refine wpThr_call (joinP ks l l' L a) rfl rfl rfl ?_ ?_
          · intro bs1 w1 hb1 hw1
            go_simp
            exact resCls_upon (IH.out ks l l' L a (by omega) H0.out.2.2.1 H0.out.1 HI.out.1 (by omega) (by omega)) hw1
          rintro v ks1 ⟨t, X, n, rfl, p1, p2, p3, p4, _, _⟩
          (refine wpThr_at (by (simp only [Act.put, List.setIfInBounds_toArray, List.set_cons_succ, List.set_cons_zero]) <;> exact rfl) ?_)
          have hX := p4.size
          have hcost := p4.cost
          have hlen := p3.len
          refine wpThr_call (rigP ks1 X b) rfl rfl rfl ?_ ?_
          · intro bs1 w1 hb1 hw1
            go_simp
            exact resCls_upon (right_any g ks1 t r' X b p2 p1 (HI.out.2.ext p3) (by omega) sb (by omega) (by unfold small; omega)) hw1
          rintro v ks2 hp
          (refine wpThr_at (by (simp only [Act.put, List.setIfInBounds_toArray, List.set_cons_succ, List.set_cons_zero]) <;> exact rfl) ?_)
          have hj := rig_join p3 p4 H0.out.2.2.2.2 H0.out.2.2.2.1 h3 (by rw [HLE.out]; exact hd) hl0 hr0 hp
          obtain ⟨t', Y, n', rfl, hrest⟩ := hj
          ((refine wpThr_val rfl rfl rfl ?_; apply Exists.intro; refine ⟨fun s1 bs1 w1 hb1 hw1 => ?_, ?_⟩); (have hc1 := HR.out s1 bs1 w1 hw1; go_simp; exact growUpon_ok rfl); (refine wpThr_at (by (simp only [Act.put, List.setIfInBounds_toArray, List.set_cons_succ, List.set_cons_zero]) <;> exact rfl) ?_))
          refine wpThr_nil ?_
          rintro w5 ⟨F', ha, hf, _⟩
          have HE := Lib.hid (And.intro hrest (And.intro ha hf))
          clear hrest ha hf hp p1 p2 p3 p4 hX hcost hlen
          go_wp2
          go_ret
          obtain ⟨hrest, ha, hf⟩ := HE.out
          exact ⟨_, ks2, F', rfl, ⟨t', Y, n', rfl, hrest⟩, ha, (Fr.of_below HJ.out.bl).trans hf⟩
        · have HP := Lib.hid (jpair_any g ks l r L R H0.out.2.2.1 H0.out.1 H0.out.2.1 s1 s2 h3 hks W _ ⟨q, rfl, HJ.out.ar⟩)
          go_wp2_with fail
          ((with_reducible refine HP.out.mono ?_); rintro e w3 ⟨v, ks', F', rfl, ⟨rfl, p1, p2, p3⟩, ha, hf⟩)
          have HE := Lib.hid (And.intro p1 (And.intro p2 (And.intro p3 (And.intro ha hf))))
          clear p1 p2 p3 ha hf x4 y4 cj
          go_wp2
          go_ret
          obtain ⟨p1, p2, p3, ha, hf⟩ := HE.out
          exact ⟨_, ks', F', rfl, ⟨_, _, 1, rfl, p2, p1, p3, JoinOk.pair H0.out.2.2.2.1 H0.out.2.2.2.2 s1 s2 h3 (by omega) (by omega), fun e => absurd e hl0, fun e => absurd e hr0⟩, ha, (Fr.of_below HJ.out.bl).trans hf⟩
end Go.Proofs.Ytkcocdpmangcgaa.Ar
