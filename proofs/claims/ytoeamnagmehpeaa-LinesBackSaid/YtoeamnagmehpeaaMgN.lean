/- The mover moves a knot of two. */ -/
import Derived.Test.YtoeamnagmehpeaaMgM
namespace Go.Proofs.Ytoeamnagmehpeaa.Kp
set_option linter.unusedSimpArgs false
set_option linter.unusedVariables false
open Go Go.RowKit Go.Proofs.Ytoeamnagmehpeaa.Rp Go.Proofs.Ytoeamnagmehpeaa.Wk
open Go.Proofs.Ytoeamnagmehpeaa.Ar (T Is Ext WF Knot getK getB getS Arena resAr small leafK pairK)
attribute [local go_sem] lt_add1 lt_self1 size_ne size_ne' size_ne1 size_ne1'
attribute [local irreducible] wpGrow wpThr wpThx

set_option maxRecDepth 100000 in
set_option maxHeartbeats 4000000 in
theorem move_node (bv bt ts tb ta gs gb ga : Nat) (rb rf q : Option Nat) (S S' : ByteArray) (ks ks' : List Knot) (i : Int) (kn : Knot) (f : Int → Option Int) (n : Nat) (x y : Int) (L R : T) (hl : kn.left ≠ 0) (hi : i64ok i) (hil : i64ok kn.left) (hir : i64ok kn.right) (hn : n < 1000000)
    (hx : (f kn.left).getD 0 = x) (hy : (f kn.right).getD 0 = y) (hw : WF ks') (h1 : Is ks' x L) (h2 : Is ks' y R) (h3 : 0 < L.size) (h4 : 0 < R.size) (h5 : L.size + R.size ≤ 1099511627776) (hk : ks'.length ≤ small) :
    Does Try.prog (resMv bv (mvO gs ts bt) bt ts tb ta gs gb ga rb rf q S ks) 65 #[.pointer (some ⟨bv, 0, none⟩), .int .i64 i, kn.val] ((f, n), (S', ks'))
      (fun v s' => v = .tuple #[] ∧ s' = ((putF f i (ks'.length + 1 : Nat), n + 1), (S', ks' ++ [pairK ks' x y]))) := by
  rintro w F h
  have HH := Lib.hid h
  have HMK := Lib.hid (does_Mv bv (mvO gs ts bt) bt ts tb ta gs gb ga rb rf q S ks (m := (f, n)) (rpair_det ts tb ta S' ks' x y L R hw h1 h2 h3 h4 h5 hk))
  have HPI := Lib.hid (And.intro hi (And.intro hn (i64ok_of (k := ((ks'.length + 1 : Nat) : Int)) (by omega) (by unfold small at hk; omega))))
  generalize ks' ++ [pairK ks' x y] = ks2 at *
  obtain ⟨left, right, off, len, high, leaves, feeds⟩ := kn
  simp only at hl hil hir hx hy
  have HXY := Lib.hid (And.intro hil (And.intro hir (And.intro hx hy)))
  have hl2 : (left == 0) = false := by simpa using hl
  clear h hw h1 h2 h3 h4 h5 hk hi hn hil hir hx hy
  unfold Knot.val
  simp only
  go_enter Try.func65, Try.ntmps65
  go_wp2_with fail
  have hb0 : Below w.heap.size w (w.alloc (.cells #[.int .i64 left, .int .i64 right, .int .i64 off, .int .i64 len, .int .i64 high, .int .i64 leaves, .int .i64 feeds] 50)) := (Below.refl _ _).alloc (Nat.le_refl _) _
  have hkb : (w.alloc (.cells #[.int .i64 left, .int .i64 right, .int .i64 off, .int .i64 len, .int .i64 high, .int .i64 leaves, .int .i64 feeds] 50)).heap[w.heap.size]? = some (.cells #[.int .i64 left, .int .i64 right, .int .i64 off, .int .i64 len, .int .i64 high, .int .i64 leaves, .int .i64 feeds] 50 (0, 0)) := heap_alloc_new _ _
  have HB := Lib.hid (And.intro hb0 (And.intro hkb (And.intro ((resMv bv (mvO gs ts bt) bt ts tb ta gs gb ga rb rf q S ks).below HH.out hb0) (fun e => Nat.lt_irrefl _ ((resMv bv (mvO gs ts bt) bt ts tb ta gs gb ga rb rf q S ks).lt HH.out w.heap.size e)))))
  clear hb0 hkb
  generalize w.alloc (.cells #[.int .i64 left, .int .i64 right, .int .i64 off, .int .i64 len, .int .i64 high, .int .i64 leaves, .int .i64 feeds] 50) = W at HB ⊢
  have hfr : Fr w F W F := Fr.of_below HB.out.1
  have HF := Lib.hid hfr
  clear hfr
  generalize w.heap.size = kb at HB ⊢
  have HR : Hid (∀ s bs w1, s.1 = (f, n) → (resCls (resMv bv (mvO gs ts bt) bt ts tb ta gs gb ga rb rf q S ks) W F).In s bs w1 → (w1.cell? ⟨bv, 0, none⟩ = some (.pointer (some ⟨gs, 0, none⟩)) ∧ w1.cell? ⟨bv, 1, none⟩ = some (.pointer (some ⟨ts, 0, none⟩)) ∧ w1.cell? ⟨bv, 2, none⟩ = some (.map (some bt))) ∧ (w1.cell? ⟨kb, 0, none⟩ = some (.int .i64 left) ∧ w1.cell? ⟨kb, 1, none⟩ = some (.int .i64 right)) ∧
      (Instr.lookup 114 (.map (some bt)) (.int .i64 left) false).run Try.prog w1 = .ok (.int .i64 x) w1 ∧ (Instr.lookup 114 (.map (some bt)) (.int .i64 right) false).run Try.prog w1 = .ok (.int .i64 y) w1) := Lib.hid (fun s bs w1 hs1 hw1 => by
    obtain ⟨_, g2, g3, g4⟩ := HB.out
    have hbx : W.heap[bv]? = some (.cells #[.pointer (some ⟨gs, 0, none⟩), .pointer (some ⟨ts, 0, none⟩), .map (some bt)] 119 (0, 0)) := g3.2.1
    have l1 := (Array.getElem?_eq_some_iff.1 hbx).1
    have l2 := (Array.getElem?_eq_some_iff.1 g2).1
    obtain ⟨⟨sf, sn⟩, ss⟩ := s
    obtain ⟨rfl, rfl⟩ : sf = f ∧ sn = n := by simpa using hs1
    have hw2 := hw1
    obtain ⟨F2, ha2, _, _⟩ := hw2
    obtain ⟨F1, p1, p2, p3, p4, p5⟩ := resV_of _ _ _ _ _ _ _ _ _ _ ha2.1
    have q1 := MapI.look p4 HXY.out.1
    have q2 := MapI.look p4 HXY.out.2.1
    rw [show (sf left).getD 0 = x from HXY.out.2.2.1] at q1
    rw [show (sf right).getD 0 = y from HXY.out.2.2.2] at q2
    exact ⟨⟨(resCls_cell hw1 l1 g3.2.2 0).trans (cell_of_row W bv 0 _ _ (0, 0) hbx), (resCls_cell hw1 l1 g3.2.2 1).trans (cell_of_row W bv 1 _ _ (0, 0) hbx), (resCls_cell hw1 l1 g3.2.2 2).trans (cell_of_row W bv 2 _ _ (0, 0) hbx)⟩,
      ⟨(resCls_cell hw1 l2 g4 0).trans (cell_of_row W kb 0 _ _ (0, 0) g2), (resCls_cell hw1 l2 g4 1).trans (cell_of_row W kb 1 _ _ (0, 0) g2)⟩, q1, q2⟩)
  refine wp_region_thx' (resCls (resMv bv (mvO gs ts bt) bt ts tb ta gs gb ga rb rf q S ks) W F) (fun s => s.1 = (f, n)) ((f, n), (S', ks')) ((List.range 28).map fun i => (i, [])) _ (by kernel_rfl) (by kernel_rfl) (by kernel_rfl) (by kernel_rfl) rfl (resCls_start HB.out.2.2.1) ?_
  simp only [List.range, List.range.loop, List.map_cons, List.map_nil]
  (simp only [List.filterMap_cons, List.filterMap_nil, List.getElem?_cons_zero, List.getElem?_cons_succ, Option.map_some])
  ((refine wpThx_pure rfl rfl rfl rfl ?_; apply Exists.intro; refine ⟨fun w1 => ?_, ?_⟩); (go_simp; exact growUpon_ok rfl); (refine wpThx_at (by (simp only [Act.put, mval, List.setIfInBounds_toArray, List.set_cons_succ, List.set_cons_zero]) <;> exact rfl) ?_))
  iterate 3 ((refine wpThx_val rfl rfl rfl rfl rfl ?_; apply Exists.intro; refine ⟨fun s1 bs1 w1 hp1 hb1 hw1 => ?_, ?_⟩); (have hc1 := HR.out s1 bs1 w1 hp1 hw1; go_simp; exact growUpon_ok rfl); (refine wpThx_at (by (simp only [Act.put, mval, List.setIfInBounds_toArray, List.set_cons_succ, List.set_cons_zero]) <;> exact rfl) ?_))
  iterate 2 ((refine wpThx_pure rfl rfl rfl rfl ?_; apply Exists.intro; refine ⟨fun w1 => ?_, ?_⟩); (go_simp; exact growUpon_ok rfl); (refine wpThx_at (by (simp only [Act.put, mval, List.setIfInBounds_toArray, List.set_cons_succ, List.set_cons_zero]) <;> exact rfl) ?_))
  iterate 3 ((refine wpThx_val rfl rfl rfl rfl rfl ?_; apply Exists.intro; refine ⟨fun s1 bs1 w1 hp1 hb1 hw1 => ?_, ?_⟩); (have hc1 := HR.out s1 bs1 w1 hp1 hw1; go_simp; exact growUpon_ok rfl); (refine wpThx_at (by (simp only [Act.put, mval, List.setIfInBounds_toArray, List.set_cons_succ, List.set_cons_zero]) <;> exact rfl) ?_))
  ((refine wpThx_pure rfl rfl rfl rfl ?_; apply Exists.intro; refine ⟨fun w1 => ?_, ?_⟩); (go_simp; exact growUpon_ok rfl); (refine wpThx_at (by (simp only [Act.put, mval, List.setIfInBounds_toArray, List.set_cons_succ, List.set_cons_zero]) <;> exact rfl) ?_))
  iterate 6 ((refine wpThx_val rfl rfl rfl rfl rfl ?_; apply Exists.intro; refine ⟨fun s1 bs1 w1 hp1 hb1 hw1 => ?_, ?_⟩); (have hc1 := HR.out s1 bs1 w1 hp1 hw1; go_simp; exact growUpon_ok rfl); (refine wpThx_at (by (simp only [Act.put, mval, List.setIfInBounds_toArray, List.set_cons_succ, List.set_cons_zero]) <;> exact rfl) ?_))
  ((refine wpThx_pure rfl rfl rfl rfl ?_; apply Exists.intro; refine ⟨fun w1 => ?_, ?_⟩); (go_simp; exact growUpon_ok rfl); (refine wpThx_at (by (simp only [Act.put, mval, List.setIfInBounds_toArray, List.set_cons_succ, List.set_cons_zero]) <;> exact rfl) ?_))
  iterate 6 ((refine wpThx_val rfl rfl rfl rfl rfl ?_; apply Exists.intro; refine ⟨fun s1 bs1 w1 hp1 hb1 hw1 => ?_, ?_⟩); (have hc1 := HR.out s1 bs1 w1 hp1 hw1; go_simp; exact growUpon_ok rfl); (refine wpThx_at (by (simp only [Act.put, mval, List.setIfInBounds_toArray, List.set_cons_succ, List.set_cons_zero]) <;> exact rfl) ?_))
  refine wpThx_call (fun v s' => v = .tuple #[.int .i64 (ks'.length + 1 : Nat), .int .i64 0] ∧ s' = ((f, n), (S', ks2))) rfl rfl rfl (fun bs1 w1 hb1 hw1 => by
    go_simp
    exact thx_of_thr (resCls_upon (Does.mono HMK.out fun v s' h => ⟨h.1.2.1, Prod.ext h.2 (Prod.ext h.1.1 h.1.2.2)⟩) hw1)) (fun _ _ s' h => by rw [h.2]) ?_
  rintro v st ⟨rfl, rfl⟩
  (refine wpThx_at (by (simp only [Act.put, mval, List.setIfInBounds_toArray, List.set_cons_succ, List.set_cons_zero]) <;> exact rfl) ?_)
  iterate 3 ((refine wpThx_pure rfl rfl rfl rfl ?_; apply Exists.intro; refine ⟨fun w1 => ?_, ?_⟩); (go_simp; exact growUpon_ok rfl); (refine wpThx_at (by (simp only [Act.put, mval, List.setIfInBounds_toArray, List.set_cons_succ, List.set_cons_zero]) <;> exact rfl) ?_))
  refine wpThx_call (fun _ s' => s' = ((putF f i (ks'.length + 1 : Nat), n + 1), (S', ks2))) rfl rfl rfl (fun bs1 w1 hb1 hw1 => thx_putMv hw1 rfl rfl HPI.out.2.1 rfl rfl HPI.out.1 HPI.out.2.2) (fun h => by cases h) ?_
  rintro v st rfl
  (refine wpThx_at (by (simp only [Act.put, mval, List.setIfInBounds_toArray, List.set_cons_succ, List.set_cons_zero]) <;> exact rfl) ?_)
  refine wpThx_nil ?_
  rintro w2 ⟨F2, ha2, hf2, _⟩
  have HE := Lib.hid (And.intro ha2 (HF.out.trans hf2))
  clear ha2 hf2 HR
  go_wp2
  go_end0
  exact ⟨_, _, F2, rfl, ⟨rfl, rfl⟩, HE.out.1, HE.out.2⟩
end Go.Proofs.Ytoeamnagmehpeaa.Kp


/- Layer 26: what the mover makes: the same ropes, each knot once; plain. */ -/
namespace Go.Proofs.Ytoeamnagmehpeaa.Kp
set_option linter.unusedSimpArgs false
set_option linter.unusedVariables false
open Go Go.RowKit Go.Proofs.Ytoeamnagmehpeaa.Rp Go.Proofs.Ytoeamnagmehpeaa.Wk
open Go.Proofs.Ytoeamnagmehpeaa.Ar (T Is Ext WF Knot getK getB getS Arena resAr small leafK pairK)
open Go.Proofs.Ytoeamnagmehpeaa.Buf (BufS feedsV feedV feedB thereB sliceV)

/-- a number is one tree. -/
theorem is_one {ks : List Knot} : ∀ {X X' : T} {t : Int}, Is ks t X → Is ks t X' → X = X'
  | .nil, X', t, h, h' => by
    have := h.nil_
    subst this
    exact h'.zero.symm
  | .leaf o n f, X', t, h, h' => by
    obtain ⟨h1, _, h2⟩ := h.leaf_
    cases X' with
    | nil => have := h'.nil_; omega
    | leaf o' n' f' =>
      obtain ⟨g1, _, _⟩ := h'.leaf_
      rw [h1] at g1
      simp only [leafK, Knot.mk.injEq] at g1
      obtain ⟨_, _, rfl, rfl, _, _, rfl⟩ := g1
      rfl
    | node a b =>
      obtain ⟨l, r, q1, _, _, _, _, _, _, _, g1⟩ := h'.node_
      rw [h1] at g1
      simp only [leafK, Knot.mk.injEq] at g1
      omega
  | .node L R, X', t, h, h' => by
    obtain ⟨l, r, p1, p2, p3, p4, _, p5, _, _, h1⟩ := h.node_
    cases X' with
    | nil => have := h'.nil_; omega
    | leaf o n f =>
      obtain ⟨g1, _, _⟩ := h'.leaf_
      rw [h1] at g1
      simp only [leafK, Knot.mk.injEq] at g1
      omega
    | node a b =>
      obtain ⟨l', r', q1, q2, q3, q4, _, _, _, _, g1⟩ := h'.node_
      rw [h1] at g1
      simp only [Knot.mk.injEq] at g1
      obtain ⟨rfl, rfl, _⟩ := g1
      rw [is_one p3 q3, is_one p4 q4]

/-- the same rope over other bytes. -/
inductive Like (S S' : ByteArray) : T → T → Prop
  | nil : Like S S' .nil .nil
  | leaf {o o' n f : Int} (h : cutS S' o' n = cutS S o n) (hg : lfOK S' (o', n, f)) : Like S S' (.leaf o n f) (.leaf o' n f)
  | node {L R L' R' : T} (h1 : Like S S' L L') (h2 : Like S S' R R') : Like S S' (.node L R) (.node L' R')
section
variable {S S' : ByteArray} {X Y : T}
theorem Like.grow (s : ByteArray) (h : Like S S' X Y) : Like S (S' ++ s) X Y := by
  induction h with
  | nil => exact .nil
  | leaf h hg =>
    obtain ⟨g1, g2, g3, _⟩ := id hg
    simp only at g1 g2 g3
    exact .leaf ((cutS_grow g1 (by omega) g3).trans h) (lfOK_grow hg)
  | node _ _ h1 h2 => exact .node h1 h2
theorem Like.txt (h : Like S S' X Y) : Rp.txt S' Y = Rp.txt S X := by
  induction h with
  | nil => rfl
  | leaf h hg => rw [txt_leaf, txt_leaf, h]
  | node _ _ h1 h2 => rw [txt_node, txt_node, h1, h2]
theorem Like.good (h : Like S S' X Y) : Rp.Good S' Y := by
  induction h with
  | nil => exact Rp.Good.nil _
  | leaf h hg => exact good_leaf.2 hg
  | node _ _ h1 h2 => exact good_node.2 ⟨h1, h2⟩
theorem Like.nums (h : Like S S' X Y) : Y.size = X.size ∧ Y.high = X.high ∧ Y.many = X.many ∧ Y.feeds = X.feeds ∧ (Y.bal ↔ X.bal) := by
  induction h with
  | nil => exact ⟨rfl, rfl, rfl, rfl, Iff.rfl⟩
  | leaf h hg => exact ⟨rfl, rfl, rfl, rfl, Iff.rfl⟩
  | node _ _ h1 h2 =>
    obtain ⟨a1, a2, a3, a4, a5⟩ := h1
    obtain ⟨b1, b2, b3, b4, b5⟩ := h2
    simp only [T.size, T.high, T.many, T.feeds, T.bal, a1, a2, a3, a4, b1, b2, b3, b4, a5, b5]
    exact ⟨trivial, trivial, trivial, trivial, trivial⟩
end

/-- the bytes of knots that are leaves. -/
def bytesK (ks : List Knot) : List Int → Int
  | [] => 0
  | j :: l => (if (getK ks j).left = 0 then (getK ks j).len else 0) + bytesK ks l
theorem bytesK_append (ks : List Knot) : ∀ (a b : List Int), bytesK ks (a ++ b) = bytesK ks a + bytesK ks b
  | [], b => by simp [bytesK]
  | j :: a, b => by simp [bytesK, bytesK_append ks a b]; omega
theorem foldN2 (ks : List Knot) : ∀ (l : List Int) (s : Int × Int), (l.foldl (stepN ks) s).2 = s.2 + bytesK ks l
  | [], s => by simp [bytesK]
  | t :: l, s => by
    simp only [List.foldl_cons]
    rw [foldN2 ks l]
    simp only [stepN, bytesK]
    omega

/-! one knot moved -/
def stepM (S : ByteArray) (ks : List Knot) (s : Vs Sst) (i : Int) : Vs Sst :=
  if (getK ks i).left = 0 then
    ((putF s.1.1 i (s.2.2.length + 1 : Nat), s.1.2 + 1), (s.2.1 ++ sliceV S (getK ks i).off (getK ks i).len, s.2.2 ++ [leafK s.2.1.size (sliceV S (getK ks i).off (getK ks i).len).size (feedsV (s.2.1 ++ sliceV S (getK ks i).off (getK ks i).len) s.2.1.size (sliceV S (getK ks i).off (getK ks i).len).size)]))
  else ((putF s.1.1 i (s.2.2.length + 1 : Nat), s.1.2 + 1), (s.2.1, s.2.2 ++ [pairK s.2.2 ((s.1.1 (getK ks i).left).getD 0) ((s.1.1 (getK ks i).right).getD 0)]))
def PreM (S : ByteArray) (ks : List Knot) (s : Vs Sst) (i : Int) : Prop :=
  (i64ok i ∧ s.1.2 < 1000000 ∧ WF s.2.2 ∧ s.2.2.length + 1 ≤ small ∧ S.size ≤ 1000000) ∧
  ((getK ks i).left = 0 → (sliceV S (getK ks i).off (getK ks i).len).size ≠ 0 ∧ s.2.1.size + (sliceV S (getK ks i).off (getK ks i).len).size ≤ 1000000) ∧
  ((getK ks i).left ≠ 0 → i64ok (getK ks i).left ∧ i64ok (getK ks i).right ∧ ∃ L R : T, Is s.2.2 ((s.1.1 (getK ks i).left).getD 0) L ∧ Is s.2.2 ((s.1.1 (getK ks i).right).getD 0) R ∧ 0 < L.size ∧ 0 < R.size ∧ L.size + R.size ≤ 1099511627776)
theorem move_does (bv bt ts tb ta gs gb ga : Nat) (rb rf q : Option Nat) (S : ByteArray) (ks : List Knot) (i : Int) (s : Vs Sst) (hp : PreM S ks s i) :
    Does Try.prog (resMv bv (mvO gs ts bt) bt ts tb ta gs gb ga rb rf q S ks) 65 (#[.pointer (some ⟨bv, 0, none⟩)] ++ (#[.int .i64 i, (getK ks i).val] ++ #[])) s (fun v s' => v = .tuple #[] ∧ s' = stepM S ks s i) := by
  obtain ⟨⟨f, n⟩, S', ks'⟩ := s
  obtain ⟨⟨h1, h2, h3, h4, h5⟩, h6, h7⟩ := hp
  simp only at h2 h3 h4 h6 h7
  by_cases hl : (getK ks i).left = 0
  · obtain ⟨g1, g2⟩ := h6 hl
    have := move_leaf bv bt ts tb ta gs gb ga rb rf q S S' ks ks' i (getK ks i) f n hl h1 h2 h3 h4 h5 g1 g2
    refine this.mono ?_
    rintro v s' ⟨rfl, rfl⟩
    refine ⟨rfl, ?_⟩
    unfold stepM
    rw [if_pos hl]
  · obtain ⟨g1, g2, L, R, g3, g4, g5, g6, g7⟩ := h7 hl
    have := move_node bv bt ts tb ta gs gb ga rb rf q S S' ks ks' i (getK ks i) f n _ _ L R hl h1 g1 g2 h2 rfl rfl h3 g3 g4 g5 g6 g7 (by omega)
    refine this.mono ?_
    rintro v s' ⟨rfl, rfl⟩
    refine ⟨rfl, ?_⟩
    unfold stepM
    rw [if_neg hl]

/-- what is moved behind some knots. -/
structure MvI (S : ByteArray) (ks : List Knot) (done : List Int) (s : Vs Sst) : Prop where
  n : s.1.2 = done.length
  len : s.2.2.length = done.length
  wf : WF s.2.2
  sz : (s.2.1.size : Int) = bytesK ks done
  fin : ∀ k, k < done.length → s.1.1 (done.getD k 0) = some ((k : Int) + 1)
  fout : ∀ j, j ∉ done → s.1.1 j = none
  pos : ∀ j ∈ done, getB ks j = true
  rel : ∀ j ∈ done, ∃ X Y, Is ks j X ∧ Is s.2.2 ((s.1.1 j).getD 0) Y ∧ Like S s.2.1 X Y
  kn : ∀ j ∈ done, ((getK ks j).left = 0 ∧ (getK s.2.2 ((s.1.1 j).getD 0)).left = 0 ∧ (getK s.2.2 ((s.1.1 j).getD 0)).len = (getK ks j).len) ∨
    (0 < (getK ks j).left ∧ (getK ks j).left ∈ done ∧ (getK ks j).right ∈ done ∧ (getK s.2.2 ((s.1.1 j).getD 0)).left = (s.1.1 (getK ks j).left).getD 0 ∧ (getK s.2.2 ((s.1.1 j).getD 0)).right = (s.1.1 (getK ks j).right).getD 0)

theorem idx {l : List Int} {j : Int} (h : j ∈ l) : ∃ k, k < l.length ∧ l.getD k 0 = j := by
  obtain ⟨k, hk, e⟩ := List.mem_iff_getElem.1 h
  exact ⟨k, hk, by simp [List.getD, hk, e]⟩
section
variable {S : ByteArray} {ks : List Knot} {done : List Int} {s : Vs Sst}
theorem MvI.at_ (h : MvI S ks done s) {j : Int} (hj : j ∈ done) : ∃ k : Nat, k < done.length ∧ done.getD k 0 = j ∧ s.1.1 j = some ((k : Int) + 1) ∧ (s.1.1 j).getD 0 = (k : Int) + 1 := by
  obtain ⟨k, hk, rfl⟩ := idx hj
  exact ⟨k, hk, rfl, h.fin k hk, by rw [h.fin k hk]; rfl⟩
theorem MvI.inj (h : MvI S ks done s) {i j : Int} (hi : i ∈ done) (hj : j ∈ done) (e : (s.1.1 i).getD 0 = (s.1.1 j).getD 0) : i = j := by
  obtain ⟨a, _, a2, _, a3⟩ := h.at_ hi
  obtain ⟨b, _, b2, _, b3⟩ := h.at_ hj
  rw [a3, b3] at e
  have : a = b := by omega
  rw [← a2, ← b2, this]
theorem MvI.one_le (h : MvI S ks done s) {j : Int} (hj : j ∈ done) : 1 ≤ (s.1.1 j).getD 0 ∧ (s.1.1 j).getD 0 ≤ s.2.2.length := by
  obtain ⟨a, a1, a2, _, a3⟩ := h.at_ hj
  rw [a3, h.len]
  omega
theorem getB_le {ks : List Knot} {t : Int} (h : getB ks t = true) : 1 ≤ t ∧ t ≤ ks.length := by
  unfold getB getS at h
  split at h
  · assumption
  · simp at h
theorem getB_zero (ks : List Knot) : getB ks 0 = false := by
  cases h : getB ks 0 with
  | false => rfl
  | true => have := getB_le h; omega
theorem getB_of {ks : List Knot} {t : Int} (h1 : 1 ≤ t) (h2 : t ≤ ks.length) : getB ks t = true := by
  unfold getB getS
  rw [if_pos ⟨h1, h2⟩]
theorem MvI.zero (h : MvI S ks done s) : (s.1.1 0).getD 0 = 0 := by
  rw [h.fout 0 (fun hm => by have := getB_le (h.pos 0 hm); omega)]
  rfl
theorem MvI.nil (S : ByteArray) (ks : List Knot) : MvI S ks [] ((fun _ => none, 0), (⟨#[]⟩, [])) :=
  ⟨rfl, rfl, fun i hi => by simp at hi, rfl, fun k hk => by simp at hk, fun j _ => rfl, fun j hj => by simp at hj, fun j hj => by simp at hj, fun j hj => by simp at hj⟩
theorem getK_app {ks new : List Knot} {t : Int} (h1 : 1 ≤ t) (h2 : t ≤ ks.length) : getK (ks ++ new) t = getK ks t := by
  obtain ⟨k, rfl⟩ : ∃ k : Nat, t = (k : Int) + 1 := ⟨(t - 1).toNat, by omega⟩
  rw [(Ar.getK_at (ks := ks) rfl (show k < ks.length by omega)).1, (Ar.getK_at (ks := ks ++ new) rfl (show k < (ks ++ new).length by simp; omega)).1, Ar.getD_app (by omega)]
theorem getK_last {ks : List Knot} {k : Knot} : getK (ks ++ [k]) ((ks.length : Int) + 1) = k := by
  rw [(Ar.getK_at (ks := ks ++ [k]) rfl (show ks.length < (ks ++ [k]).length by simp)).1, Ar.getD_append_last]
theorem left_ne {hw : WF ks} {i : Int} (hb : getB ks i = true) : (getK ks i).left = 0 ∨ 0 < (getK ks i).left := by
  obtain ⟨h1, h2⟩ := getB_le hb
  obtain ⟨k, rfl⟩ : ∃ k : Nat, i = (k : Int) + 1 := ⟨(i - 1).toNat, by omega⟩
  rw [(Ar.getK_at (ks := ks) rfl (show k < ks.length by omega)).1]
  rcases hw k (by omega) with ⟨h, _⟩ | ⟨l, r, h, _⟩
  · exact .inl h
  · exact .inr (by omega)

/-- what is moved of a leaf. -/
theorem leaf_parts {i : Int} {X : T} (hX : Is ks i X) (hg : Rp.Good S X) (hb : getB ks i = true) (hl : (getK ks i).left = 0) :
    X = .leaf (getK ks i).off (getK ks i).len (getK ks i).feeds ∧ ((sliceV S (getK ks i).off (getK ks i).len).size : Int) = (getK ks i).len ∧ 1 ≤ (getK ks i).len ∧ (sliceV S (getK ks i).off (getK ks i).len).data.toList = cutS S (getK ks i).off (getK ks i).len ∧
    (getK ks i).feeds = feedsV S (getK ks i).off (getK ks i).len ∧ 0 ≤ (getK ks i).off ∧ (getK ks i).off + (getK ks i).len ≤ S.size := by
  cases X with
  | nil => have := hX.nil_; have := getB_le hb; omega
  | node a b => obtain ⟨l, r, h1, _, _, _, _, _, _, _, e⟩ := hX.node_; rw [e] at hl; simp only at hl; omega
  | leaf o n f =>
    obtain ⟨e, _, _⟩ := hX.leaf_
    obtain ⟨g1, g2, g3, g4⟩ := good_leaf.1 hg
    simp only at g1 g2 g3 g4
    rw [e]
    simp only [leafK]
    have hc := sliceV_cut (S := S) g1 (by omega : (0 : Int) ≤ n) g3
    have hn := cutS_length g1 (by omega : (0 : Int) ≤ n) g3
    rw [← hc] at hn
    exact ⟨trivial, hn, g2, hc, g4, g1, g3⟩
theorem node_parts {i : Int} {X : T} (hX : Is ks i X) (hl : 0 < (getK ks i).left) : ∃ L R, X = .node L R ∧ Is ks (getK ks i).left L ∧ Is ks (getK ks i).right R := by
  cases X with
  | nil => have := hX.nil_; subst this; simp [getK, getS, Knot.zero] at hl
  | leaf o n f => obtain ⟨e, _, _⟩ := hX.leaf_; rw [e] at hl; simp [leafK] at hl
  | node a b =>
    obtain ⟨l, r, h1, h2, h3, h4, _, _, _, _, e⟩ := hX.node_
    rw [e]
    exact ⟨a, b, rfl, h3, h4⟩

theorem MvI.step (h : MvI S ks done s) (hw : WF ks) {i : Int} (hi : i ∉ done) (hb : getB ks i = true) {X : T} (hX : Is ks i X) (hg : Rp.Good S X) (hs : S.size ≤ 1000000) (hB1 : done.length + 1 ≤ 900000) (hB2 : (getK ks i).left = 0 → bytesK ks done + X.size ≤ 1000000) (hk9 : ks.length ≤ small)
    (hp : 0 < (getK ks i).left → (getK ks i).left ∈ done ∧ (getK ks i).right ∈ done) : PreM S ks s i ∧ MvI S ks (done ++ [i]) (stepM S ks s i) := by
  obtain ⟨⟨f, n⟩, S', ks'⟩ := s
  obtain ⟨e1, e2, e3, e4, e5, e6, e7, e8, e9⟩ := id h
  simp only at e1 e2 e3 e4 e5 e6 e8 e9
  have hi2 := getB_le hb
  have hok := hX.ok hw
  have hi64 : i64ok i := i64ok_of (by omega) (by unfold small at hk9; omega)
  -- the map
  have hold : ∀ j ∈ done, putF f i (ks'.length + 1 : Nat) j = f j := fun j hj => by unfold putF; rw [if_neg (fun (e : j = i) => hi (e ▸ hj))]
  have hnew : putF f i (ks'.length + 1 : Nat) i = some ((done.length : Int) + 1) := by unfold putF; rw [if_pos rfl, e2]; rfl
  have hnew2 : (putF f i (ks'.length + 1 : Nat) i).getD 0 = (ks'.length : Int) + 1 := by unfold putF; rw [if_pos rfl]; rfl
  have hfin : ∀ k, k < (done ++ [i]).length → putF f i (ks'.length + 1 : Nat) ((done ++ [i]).getD k 0) = some ((k : Int) + 1) := fun k hk => by
    rw [getD_snoc]
    by_cases e : k = done.length
    · rw [if_pos e, hnew, e]
    · rw [if_neg e]
      have hk' : k < done.length := by simp at hk; omega
      rw [hold _ (by simp [List.getD, hk'])]
      exact e5 k hk'
  have hfout : ∀ j, j ∉ done ++ [i] → putF f i (ks'.length + 1 : Nat) j = none := fun j hj => by
    simp only [List.mem_append, List.mem_singleton, not_or] at hj
    unfold putF
    rw [if_neg hj.2]
    exact e6 j hj.1
  have hpos : ∀ j ∈ done ++ [i], getB ks j = true := fun j hj => by
    rcases List.mem_append.1 hj with hj | hj
    · exact e7 j hj
    · rw [List.mem_singleton.1 hj]; exact hb
  have hrange : ∀ j ∈ done, 1 ≤ (f j).getD 0 ∧ (f j).getD 0 ≤ ks'.length := fun j hj => h.one_le hj
  have hkn : ∀ (nk : Knot), (∀ j ∈ done, ((getK ks j).left = 0 ∧ (getK (ks' ++ [nk]) ((putF f i (ks'.length + 1 : Nat) j).getD 0)).left = 0 ∧ (getK (ks' ++ [nk]) ((putF f i (ks'.length + 1 : Nat) j).getD 0)).len = (getK ks j).len) ∨
    (0 < (getK ks j).left ∧ (getK ks j).left ∈ done ++ [i] ∧ (getK ks j).right ∈ done ++ [i] ∧ (getK (ks' ++ [nk]) ((putF f i (ks'.length + 1 : Nat) j).getD 0)).left = (putF f i (ks'.length + 1 : Nat) (getK ks j).left).getD 0 ∧ (getK (ks' ++ [nk]) ((putF f i (ks'.length + 1 : Nat) j).getD 0)).right = (putF f i (ks'.length + 1 : Nat) (getK ks j).right).getD 0)) := fun nk j hj => by
    have hr := hrange j hj
    rw [hold j hj, getK_app hr.1 hr.2]
    rcases e9 j hj with h9 | ⟨a1, a2, a3, a4, a5⟩
    · exact .inl h9
    · refine .inr ⟨a1, by simp [a2], by simp [a3], ?_, ?_⟩
      · rw [hold _ a2]; exact a4
      · rw [hold _ a3]; exact a5
  rcases left_ne (hw := hw) hb with hl | hl
  · obtain ⟨p1, p2, p3, p4, p5, p6, p7⟩ := leaf_parts hX hg hb hl
    have hXs : X.size = (getK ks i).len := by rw [p1]; rfl
    have hB2' := hB2 hl
    generalize htx : sliceV S (getK ks i).off (getK ks i).len = tx at p2 p4
    have hsz : (S' ++ tx).size = S'.size + tx.size := ByteArray.size_append
    have hfd := feedsV_bd (S := S' ++ tx) (o := S'.size) (n := tx.size) (by omega) (by omega) (by omega)
    have hcut : cutS (S' ++ tx) S'.size tx.size = cutS S (getK ks i).off (getK ks i).len := by rw [cutS_new, p4]
    have hfeq : feedsV (S' ++ tx) S'.size tx.size = (getK ks i).feeds := by
      rw [p5, feedsV_piece (by omega) (by omega) (by omega), feedsV_piece p6 (by omega) p7, hcut]
    have hbad : Ar.leafBad S'.size tx.size (feedsV (S' ++ tx) S'.size tx.size) = false := by
      simp [Ar.leafBad]
      omega
    obtain ⟨m1, m2⟩ := Is.mk_leaf e3 hbad
    refine ⟨⟨⟨hi64, by simp only; omega, e3, by simp only; unfold small; omega, hs⟩, fun _ => ⟨by rw [htx]; omega, by rw [htx]; simp only; omega⟩, fun hn => absurd hl hn⟩, ?_⟩
    unfold stepM
    rw [if_pos hl, htx]
    refine ⟨by simp [e1], by simp [e2], m1, ?_, hfin, hfout, hpos, fun j hj => ?_, fun j hj => ?_⟩
    · rw [bytesK_append]
      simp only [bytesK, if_pos hl]
      omega
    · rcases List.mem_append.1 hj with hj | hj
      · obtain ⟨Z, Y, z1, z2, z3⟩ := e8 j hj
        refine ⟨Z, Y, z1, ?_, z3.grow tx⟩
        simp only
        rw [hold j hj]
        exact z2.app _
      · obtain rfl := List.mem_singleton.1 hj
        refine ⟨X, _, hX, by simp only; rw [hnew2]; exact m2, ?_⟩
        rw [p1, hfeq, ← p2]
        refine .leaf (by rw [hcut, p2]) ⟨by simp only; omega, by simp only; omega, by simp only; omega, by simp only; exact hfeq.symm⟩
    · rcases List.mem_append.1 hj with hj | hj
      · exact hkn _ j hj
      · obtain rfl := List.mem_singleton.1 hj
        simp only
        rw [hnew2, getK_last]
        exact .inl ⟨hl, rfl, p2⟩
  · obtain ⟨L, R, rfl, i1, i2⟩ := node_parts hX hl
    obtain ⟨d1, d2⟩ := hp hl
    obtain ⟨L', YL, q1, q2, q3⟩ := e8 _ d1
    obtain ⟨R', YR, r1, r2, r3⟩ := e8 _ d2
    obtain rfl := is_one i1 q1
    obtain rfl := is_one i2 r1
    have o1 := i1.range
    have o2 := i2.range
    obtain ⟨k1, k2, k3, k4, k5⟩ := hok
    have n1 := q3.nums
    have n2 := r3.nums
    obtain ⟨_, _, m1, m2, _⟩ := Is.mk_pair e3 q2 r2 (by omega) (by omega) (by omega)
    have hl' : (getK ks i).left ≠ 0 := by omega
    refine ⟨⟨⟨hi64, by simp only; omega, e3, by simp only; unfold small; omega, hs⟩, fun h0 => absurd h0 hl', fun _ => ⟨i64ok_of (by omega) (by unfold small at hk9; omega), i64ok_of (by omega) (by unfold small at hk9; omega), YL, YR, q2, r2, by omega, by omega, by omega⟩⟩, ?_⟩
    unfold stepM
    rw [if_neg hl']
    refine ⟨by simp [e1], by simp [e2], m1, ?_, hfin, hfout, hpos, fun j hj => ?_, fun j hj => ?_⟩
    · rw [bytesK_append]
      simp only [bytesK, if_neg hl']
      omega
    · rcases List.mem_append.1 hj with hj | hj
      · obtain ⟨Z, Y, z1, z2, z3⟩ := e8 j hj
        refine ⟨Z, Y, z1, ?_, z3⟩
        simp only
        rw [hold j hj]
        exact z2.app _
      · obtain rfl := List.mem_singleton.1 hj
        exact ⟨_, _, hX, by simp only; rw [hnew2]; exact m2, .node q3 r3⟩
    · rcases List.mem_append.1 hj with hj | hj
      · exact hkn _ j hj
      · obtain rfl := List.mem_singleton.1 hj
        simp only
        rw [hnew2, getK_last, hold _ d1, hold _ d2]
        exact .inr ⟨hl, by simp [d1], by simp [d2], rfl, rfl⟩
theorem MvI.same {out : List Int} {s' : Vs Sst} (h : MvI S ks done s) (h' : MvI S ks (done ++ out) s') {j : Int} (hj : j ∈ done) : s'.1.1 j = s.1.1 j := by
  obtain ⟨k, k1, k2, k3, _⟩ := h.at_ hj
  have := h'.fin k (by simp; omega)
  rw [show (done ++ out).getD k 0 = j by rw [← k2]; simp [List.getD, List.getElem?_append_left k1]] at this
  rw [this, k3]
end
end Go.Proofs.Ytoeamnagmehpeaa.Kp


/- Layer 26: what is visited is moved, and what is moved is visited alike; plain. */ -/
namespace Go.Proofs.Ytoeamnagmehpeaa.Kp
set_option linter.unusedSimpArgs false
set_option linter.unusedVariables false
open Go Go.RowKit Go.Proofs.Ytoeamnagmehpeaa.Rp Go.Proofs.Ytoeamnagmehpeaa.Wk
open Go.Proofs.Ytoeamnagmehpeaa.Ar (T Is Ext WF Knot getK getB getS Arena resAr small leafK pairK)
open Go.Proofs.Ytoeamnagmehpeaa.Buf (BufS feedsV feedV feedB thereB sliceV)

theorem putF_some {sf : Int → Option Int} {t j : Int} : ((putF sf t 1) j).isSome = true ↔ (j = t ∨ (sf j).isSome = true) := by
  unfold putF
  by_cases e : j = t
  · simp [e]
  · simp [e]
section
variable {S : ByteArray} {ks : List Knot}
theorem vis_mv (hw : WF ks) (hs : S.size ≤ 1000000) (hk9 : ks.length ≤ small) : ∀ (n : Nat) (t : Int) (sf : Int → Option Int) (done : List Int) (s : Vs Sst) (X : T), t < n → Is ks t X → Rp.Good S X → (∀ j, j ≤ t → ((sf j).isSome = true ↔ j ∈ done)) → MvI S ks done s →
    (done.length : Int) + 2 * X.size ≤ 900000 → bytesK ks done + X.size ≤ 1000000 →
    Runs (stepM S ks) (PreM S ks) s (vis ks n t sf).2 ∧ MvI S ks (done ++ (vis ks n t sf).2) ((vis ks n t sf).2.foldl (stepM S ks) s) ∧ (t ≠ 0 → t ∈ done ++ (vis ks n t sf).2) ∧
      ((vis ks n t sf).2.length : Int) ≤ 2 * X.size ∧ (0 < X.size → ((vis ks n t sf).2.length : Int) + 1 ≤ 2 * X.size) ∧ bytesK ks (vis ks n t sf).2 ≤ X.size
  | 0, t, sf, done, s, X, ht, hX, _, _, _, _, _ => by have := hX.range; omega
  | n + 1, t, sf, done, s, X, ht, hX, hg, H, h, hB1, hB2 => by
    have hok := hX.ok hw
    have hbd := T.bounds hok
    have hz : 0 ≤ X.size := by omega
    simp only [vis]
    by_cases hskip : (sf t).isSome = true ∨ getB ks t = false
    · rw [if_pos hskip]
      refine ⟨trivial, by simpa using h, fun h0 => ?_, by simp; omega, fun _ => by simp; omega, by simpa [bytesK] using hz⟩
      rcases hskip with h1 | h1
      · simpa using (H t (Int.le_refl _)).1 h1
      · rcases hX.knot.2.2.2.2 with h2 | h2
        · rw [h1] at h2; cases h2
        · exact absurd h2 h0
    · rw [if_neg hskip]
      have hns : ¬ (sf t).isSome = true := fun e => hskip (.inl e)
      have hgb : getB ks t = true := by
        cases e : getB ks t with
        | true => rfl
        | false => exact absurd (.inr e) hskip
      have hnd : t ∉ done := fun e => hns ((H t (Int.le_refl _)).2 e)
      obtain ⟨hr, hc⟩ := wf_parts hw hgb
      have hpos := hX.pos hw (by omega)
      by_cases hl : 0 < (getK ks t).left
      · rw [if_pos hl]
        obtain ⟨c1, c2, c3, c4⟩ := hc hl
        obtain ⟨L, R, rfl, i1, i2⟩ := node_parts hX hl
        obtain ⟨g1, g2⟩ := good_node.1 hg
        obtain ⟨o1, o2, o3, o4, _⟩ := hok
        have hsz : (T.node L R).size = L.size + R.size := rfl
        have hokL := vis_ok hw n (getK ks t).left (putF sf t 1) (by omega)
        have HL : ∀ j, j ≤ (getK ks t).left → (((putF sf t 1) j).isSome = true ↔ j ∈ done) := fun j hj => by
          rw [putF_some, H j (by omega)]
          constructor
          · rintro (e | e)
            · omega
            · exact e
          · exact .inr
        obtain ⟨a1, a2, a3, a4, a5, a6⟩ := vis_mv hw hs hk9 n (getK ks t).left (putF sf t 1) done s L (by omega) i1 g1 HL h (by omega) (by omega)
        generalize hvl : vis ks n (getK ks t).left (putF sf t 1) = vl at *
        obtain ⟨sfL, outL⟩ := vl
        simp only at hokL a1 a2 a3 a4 a5 a6 ⊢
        have hokR := vis_ok hw n (getK ks t).right sfL (by omega)
        have HR : ∀ j, j ≤ (getK ks t).right → ((sfL j).isSome = true ↔ j ∈ done ++ outL) := fun j hj => by
          rw [hokL.seen, putF_some, H j (by omega), List.mem_append]
          constructor
          · rintro ((e | e) | e)
            · omega
            · exact .inl e
            · exact .inr e
          · rintro (e | e)
            · exact .inl (.inr e)
            · exact .inr e
        obtain ⟨b1, b2, b3, b4, b5, b6⟩ := vis_mv hw hs hk9 n (getK ks t).right sfL (done ++ outL) (outL.foldl (stepM S ks) s) R (by omega) i2 g2 HR a2 (by rw [List.length_append]; omega) (by rw [bytesK_append]; omega)
        generalize hvr : vis ks n (getK ks t).right sfL = vr at *
        obtain ⟨sfR, outR⟩ := vr
        simp only at hokR b1 b2 b3 b4 b5 b6 ⊢
        have hnt : t ∉ done ++ outL ++ outR := by
          simp only [List.mem_append, not_or]
          refine ⟨⟨hnd, fun e => ?_⟩, fun e => ?_⟩
          · have e1 := (hokL.new t e).1
            have e2 : ((putF sf t 1) t).isSome = true := putF_some.2 (.inl rfl)
            rw [e2] at e1; cases e1
          · have e1 := (hokR.new t e).1
            have e2 : (sfL t).isSome = true := (hokL.seen t).2 (.inl (putF_some.2 (.inl rfl)))
            rw [e2] at e1; cases e1
        have hbl : bytesK ks [t] = 0 := by simp only [bytesK]; rw [if_neg (by omega)]; rfl
        obtain ⟨p1, p2⟩ := b2.step hw hnt hgb hX hg hs (by simp only [List.length_append]; omega) (fun e => by omega) hk9 (fun _ => ⟨by have := a3 (by omega); simp only [List.mem_append] at this ⊢; exact .inl this, by have := b3 (by omega); simpa using this⟩)
        refine ⟨?_, ?_, fun _ => by simp, ?_, fun _ => ?_, ?_⟩
        · rw [Runs_append, Runs_append, List.foldl_append]
          exact ⟨⟨a1, b1⟩, p1, trivial⟩
        · rw [List.foldl_append, List.foldl_append, ← List.append_assoc, ← List.append_assoc]
          exact p2
        · simp only [List.length_append, List.length_cons, List.length_nil]
          have := a5 o3
          have := b5 o4
          omega
        · simp only [List.length_append, List.length_cons, List.length_nil]
          have := a5 o3
          have := b5 o4
          omega
        · rw [bytesK_append, bytesK_append, hbl]
          omega
      · rw [if_neg hl]
        have hl0 : (getK ks t).left = 0 := by
          rcases left_ne (hw := hw) hgb with e | e
          · exact e
          · exact absurd e hl
        obtain ⟨q1, _, q3, _⟩ := leaf_parts hX hg hgb hl0
        have hXs : X.size = (getK ks t).len := by rw [q1]; rfl
        obtain ⟨p1, p2⟩ := h.step hw hnd hgb hX hg hs (by omega) (fun _ => by omega) hk9 (fun e => absurd e hl)
        refine ⟨⟨p1, trivial⟩, p2, fun _ => by simp, ?_, fun _ => ?_, ?_⟩
        · simp; omega
        · simp; omega
        · simp only [bytesK, if_pos hl0]; omega

theorem visL_mv (hw : WF ks) (hs : S.size ≤ 1000000) (hk9 : ks.length ≤ small) (n : Nat) : ∀ (l : List Int) (sf : Int → Option Int) (done : List Int) (s : Vs Sst), (∀ t ∈ l, t < n) → (∀ t ∈ l, ∃ X, Is ks t X ∧ Rp.Good S X ∧ X.size ≤ 900) → (∀ j, (sf j).isSome = true ↔ j ∈ done) → MvI S ks done s →
    done.length + 1800 * l.length ≤ 900000 → bytesK ks done + 900 * l.length ≤ 1000000 →
    MvI S ks (done ++ (visL ks n l sf).2) ((visL ks n l sf).2.foldl (stepM S ks) s) ∧ (∀ j, ((visL ks n l sf).1 j).isSome = true ↔ j ∈ done ++ (visL ks n l sf).2) ∧ (∀ t ∈ l, t ≠ 0 → t ∈ done ++ (visL ks n l sf).2) ∧
      (visL ks n l sf).2.length ≤ 1800 * l.length ∧ bytesK ks (visL ks n l sf).2 ≤ 900 * l.length
  | [], sf, done, s, _, _, H, h, _, _ => by
    simp only [visL, List.append_nil, List.foldl_nil]
    exact ⟨h, H, fun t ht => by simp at ht, by simp, by simp [bytesK]⟩
  | t :: l, sf, done, s, hn, hX, H, h, hB1, hB2 => by
    obtain ⟨X, x1, x2, x3⟩ := hX t (by simp)
    simp only [List.length_cons] at hB1 hB2
    have hok := vis_ok hw n t sf (hn t (by simp))
    obtain ⟨a1, a2, a3, a4, a5, a6⟩ := vis_mv hw hs hk9 n t sf done s X (hn t (by simp)) x1 x2 (fun j _ => H j) h (by omega) (by omega)
    simp only [visL]
    generalize vis ks n t sf = vl at *
    obtain ⟨sf1, out1⟩ := vl
    simp only at hok a1 a2 a3 a4 a5 a6 ⊢
    obtain ⟨b1, b2, b3, b4, b5⟩ := visL_mv hw hs hk9 n l sf1 (done ++ out1) (out1.foldl (stepM S ks) s) (fun u hu => hn u (by simp [hu])) (fun u hu => hX u (by simp [hu])) (fun j => by rw [hok.seen, H j, List.mem_append]) a2
      (by rw [List.length_append]; omega) (by rw [bytesK_append]; omega)
    refine ⟨?_, fun j => ?_, fun u hu h0 => ?_, ?_, ?_⟩
    · rw [List.foldl_append, ← List.append_assoc]; exact b1
    · rw [← List.append_assoc]; exact b2 j
    · rw [← List.append_assoc]
      rcases List.mem_cons.1 hu with rfl | hu
      · exact List.mem_append.2 (.inl (a3 h0))
      · exact b3 u hu h0
    · simp only [List.length_append, List.length_cons]; omega
    · rw [bytesK_append]; simp only [List.length_cons]; omega

/-! the new store is visited as the old one is -/
section
variable {done : List Int} {s : Vs Sst}
abbrev gM (s : Vs Sst) (j : Int) : Int := (s.1.1 j).getD 0
theorem vis_new (h : MvI S ks done s) (hw : WF ks) : ∀ (n n' : Nat) (t : Int) (sf sf' : Int → Option Int), t < n → gM s t < n' → (t = 0 ∨ t ∈ done) → (∀ j ∈ done, (sf' (gM s j)).isSome = (sf j).isSome) →
    (vis s.2.2 n' (gM s t) sf').2 = (vis ks n t sf).2.map (gM s) ∧ (∀ j ∈ done, ((vis s.2.2 n' (gM s t) sf').1 (gM s j)).isSome = ((vis ks n t sf).1 j).isSome) ∧ ∀ j ∈ (vis ks n t sf).2, j ∈ done
  | 0, n', t, sf, sf', ht, _, hd, _ => by
    exfalso
    rcases hd with rfl | hd
    · omega
    · have := getB_le (h.pos t hd); omega
  | n + 1, n', t, sf, sf', ht, ht', hd, H => by
    by_cases h0 : t = 0
    · subst h0
      have hg0 : gM s 0 = 0 := h.zero
      rw [hg0] at ht' ⊢
      obtain ⟨m, rfl⟩ : ∃ m, n' = m + 1 := ⟨n' - 1, by omega⟩
      simp only [vis]
      rw [if_pos (.inr (getB_zero _)), if_pos (.inr (getB_zero _))]
      exact ⟨rfl, H, fun j hj => by simp at hj⟩
    · have hd' : t ∈ done := hd.elim (fun e => absurd e h0) id
      have hr := h.one_le hd'
      have hgt : 1 ≤ gM s t ∧ gM s t ≤ s.2.2.length := hr
      obtain ⟨m, rfl⟩ : ∃ m, n' = m + 1 := ⟨n' - 1, by omega⟩
      have hb := h.pos t hd'
      have hb' : getB s.2.2 (gM s t) = true := getB_of hr.1 hr.2
      simp only [vis]
      by_cases hs : (sf t).isSome = true
      · rw [if_pos (.inl (by rw [H t hd']; exact hs)), if_pos (.inl hs)]
        exact ⟨rfl, H, fun j hj => by simp at hj⟩
      · have hn1 : ¬ ((sf' (gM s t)).isSome = true ∨ getB s.2.2 (gM s t) = false) := by rw [H t hd', hb']; simp [hs]
        have hn2 : ¬ ((sf t).isSome = true ∨ getB ks t = false) := by rw [hb]; simp [hs]
        rw [if_neg hn1, if_neg hn2]
        have Hp : ∀ j ∈ done, ((putF sf' (gM s t) 1) (gM s j)).isSome = ((putF sf t 1) j).isSome := fun j hj => by
          unfold putF
          by_cases e : j = t
          · subst e; simp
          · rw [if_neg e, if_neg (fun e' => e (h.inj hj hd' e'))]
            exact H j hj
        rcases h.kn t hd' with ⟨k1, k2, _⟩ | ⟨k1, k2, k3, k4, k5⟩
        · have k2' : (getK s.2.2 (gM s t)).left = 0 := k2
          rw [if_neg (by omega), if_neg (by omega)]
          exact ⟨rfl, Hp, fun j hj => by simp at hj; subst hj; exact hd'⟩
        · have k4' : (getK s.2.2 (gM s t)).left = gM s (getK ks t).left := k4
          have k5' : (getK s.2.2 (gM s t)).right = gM s (getK ks t).right := k5
          have hl1 : 1 ≤ gM s (getK ks t).left := (h.one_le k2).1
          obtain ⟨_, hc⟩ := wf_parts hw hb
          obtain ⟨c1, c2, c3, c4⟩ := hc k1
          obtain ⟨_, hc'⟩ := wf_parts h.wf hb'
          obtain ⟨d1, d2, d3, d4⟩ := hc' (by omega)
          rw [if_pos (by omega), if_pos k1, k4', k5']
          rw [k4'] at d1 d2
          rw [k5'] at d3 d4
          obtain ⟨a1, a2, a3⟩ := vis_new h hw n m (getK ks t).left (putF sf t 1) (putF sf' (gM s t) 1) (by omega) (by omega) (.inr k2) Hp
          obtain ⟨b1, b2, b3⟩ := vis_new h hw n m (getK ks t).right _ _ (by omega) (by omega) (.inr k3) a2
          refine ⟨?_, b2, fun j hj => ?_⟩
          · simp only
            rw [b1, a1]
            simp
          · simp only [List.mem_append, List.mem_singleton] at hj
            rcases hj with (hj | hj) | hj
            · exact a3 j hj
            · exact b3 j hj
            · subst hj; exact hd'
theorem visL_new (h : MvI S ks done s) (hw : WF ks) (n n' : Nat) : ∀ (l : List Int) (sf sf' : Int → Option Int), (∀ t ∈ l, t < n) → (∀ t ∈ l, gM s t < n') → (∀ t ∈ l, t = 0 ∨ t ∈ done) → (∀ j ∈ done, (sf' (gM s j)).isSome = (sf j).isSome) →
    (visL s.2.2 n' (l.map (gM s)) sf').2 = (visL ks n l sf).2.map (gM s) ∧ ∀ j ∈ (visL ks n l sf).2, j ∈ done
  | [], sf, sf', _, _, _, _ => ⟨rfl, fun j hj => by simp [visL] at hj⟩
  | t :: l, sf, sf', h1, h2, h3, H => by
    obtain ⟨a1, a2, a3⟩ := vis_new h hw n n' t sf sf' (h1 t (by simp)) (h2 t (by simp)) (h3 t (by simp)) H
    obtain ⟨b1, b2⟩ := visL_new h hw n n' l _ _ (fun u hu => h1 u (by simp [hu])) (fun u hu => h2 u (by simp [hu])) (fun u hu => h3 u (by simp [hu])) a2
    simp only [visL, List.map_cons, List.map_append]
    refine ⟨by rw [a1, b1], fun j hj => ?_⟩
    rcases List.mem_append.1 hj with hj | hj
    · exact a3 j hj
    · exact b2 j hj
theorem bytesK_new (h : MvI S ks done s) : ∀ (l : List Int), (∀ j ∈ l, j ∈ done) → bytesK s.2.2 (l.map (gM s)) = bytesK ks l
  | [], _ => rfl
  | j :: l, hl => by
    simp only [List.map_cons, bytesK]
    rw [bytesK_new h l (fun u hu => hl u (by simp [hu]))]
    congr 1
    rcases h.kn j (hl j (by simp)) with ⟨k1, k2, k3⟩ | ⟨k1, k2, k3, k4, k5⟩
    · have k2' : (getK s.2.2 (gM s j)).left = 0 := k2
      rw [if_pos k2', if_pos k1]
      exact k3
    · have k4' : (getK s.2.2 (gM s j)).left = gM s (getK ks j).left := k4
      have hl1 : 1 ≤ gM s (getK ks j).left := (h.one_le k2).1
      rw [if_neg (by omega), if_neg (by omega)]
theorem gM_le (h : MvI S ks done s) {t : Int} (ht : t = 0 ∨ t ∈ done) : 0 ≤ gM s t ∧ gM s t ≤ s.2.2.length := by
  rcases ht with rfl | ht
  · have : gM s 0 = 0 := h.zero
    omega
  · have : 1 ≤ gM s t ∧ gM s t ≤ s.2.2.length := h.one_le ht
    omega
theorem neededB_new (h : MvI S ks done s) (hw : WF ks) (l : List Int) (h1 : ∀ t ∈ l, t = 0 ∨ t ∈ done) : neededB s.2.2 (l.map (gM s)) = neededB ks l := by
  obtain ⟨a1, a2⟩ := visL_new h hw (ks.length + 1) (s.2.2.length + 1) l (fun _ => none) (fun _ => none) (fun t ht => by
    rcases h1 t ht with rfl | hd
    · omega
    · have := getB_le (h.pos t hd); omega) (fun t ht => by have := gM_le h (h1 t ht); omega) h1 (fun _ _ => rfl)
  unfold neededB
  rw [a1]
  refine Prod.ext ?_ ?_
  · rw [foldN, foldN, List.length_map]
  · rw [foldN2, foldN2, bytesK_new h _ a2]
end

/-- what Compact makes, plain. -/
structure Kept (S : ByteArray) (ks : List Knot) (l done : List Int) (s : Vs Sst) : Prop where
  mv : MvI S ks done s
  roots : ∀ t ∈ l, t = 0 ∨ t ∈ done
  need : (neededB ks l).1 = done.length
  cnt : done.length ≤ 1800 * l.length
  bytes : bytesK ks done ≤ 900 * l.length
theorem kept_of (hw : WF ks) (hs : S.size ≤ 1000000) (hk9 : ks.length ≤ small) (l : List Int) (hX : ∀ t ∈ l, ∃ X, Is ks t X ∧ Rp.Good S X ∧ X.size ≤ 900) (hl : l.length ≤ 100) :
    Kept S ks l (visL ks (ks.length + 1) l (fun _ => none)).2 ((visL ks (ks.length + 1) l (fun _ => none)).2.foldl (stepM S ks) ((fun _ => none, 0), (⟨#[]⟩, []))) := by
  obtain ⟨a1, a2, a3, a4, a5⟩ := visL_mv hw hs hk9 (ks.length + 1) l (fun _ => none) [] ((fun _ => none, 0), (⟨#[]⟩, [])) (fun t ht => by obtain ⟨X, x, _⟩ := hX t ht; have := x.range; omega) hX (fun j => by simp) (MvI.nil S ks) (by simp; omega) (by simp [bytesK]; omega)
  simp only [List.nil_append] at a1 a2 a3
  refine ⟨a1, fun t ht => ?_, by unfold neededB; rw [foldN]; simp, a4, a5⟩
  by_cases h0 : t = 0
  · exact .inl h0
  · exact .inr (a3 t ht h0)
/-- each root is the same rope. -/
theorem Kept.rope {l done : List Int} {s : Vs Sst} (h : Kept S ks l done s) {t : Int} {X : T} (ht : t ∈ l) (hX : Is ks t X) : ∃ Y, Is s.2.2 (gM s t) Y ∧ Like S s.2.1 X Y := by
  rcases h.roots t ht with rfl | hd
  · obtain rfl := hX.zero
    exact ⟨.nil, .nil h.mv.zero, .nil⟩
  · obtain ⟨Z, Y, z1, z2, z3⟩ := h.mv.rel t hd
    obtain rfl := is_one hX z1
    exact ⟨Y, z2, z3⟩
theorem Kept.same {l done : List Int} {s : Vs Sst} (h : Kept S ks l done s) {t u : Int} (ht : t ∈ l) (hu : u ∈ l) : gM s t = gM s u ↔ t = u := by
  refine ⟨fun e => ?_, fun e => by rw [e]⟩
  rcases h.roots t ht with rfl | ht
  · rcases h.roots u hu with rfl | hu
    · rfl
    · have h1 : gM s 0 = 0 := h.mv.zero
      have h2 : 1 ≤ gM s u := (h.mv.one_le hu).1
      omega
  · rcases h.roots u hu with rfl | hu
    · have h1 : gM s 0 = 0 := h.mv.zero
      have h2 : 1 ≤ gM s t := (h.mv.one_le ht).1
      omega
    · exact h.mv.inj ht hu e
end
end Go.Proofs.Ytoeamnagmehpeaa.Kp
