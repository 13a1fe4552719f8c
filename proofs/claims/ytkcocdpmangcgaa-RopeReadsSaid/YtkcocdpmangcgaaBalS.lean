
/- Balance: Join, and the cut of a leaf. -/
import Derived.Test.YtkcocdpmangcgaaBalJ
import Derived.Shelf.GgClosure.Gives
namespace Go.Proofs.Ytkcocdpmangcgaa.Ar
set_option linter.unusedSimpArgs false
set_option linter.unusedVariables false
open Go Go.RowKit
attribute [local go_sem] lt_add1 lt_self1 size_ne size_ne' size_ne1 size_ne1'
attribute [local irreducible] wpGrow wpThr

set_option maxHeartbeats 1000000 in
theorem join_bad (g : Nat) (r : Option Nat) (ks : List Knot) (x y : Int) (w : World) (h : Arena w g r ks) (hn : ks.length ≤ small) (hb : ((getB ks x || x == 0) && (getB ks y || y == 0)) = false) :
    Calls Try.prog 25 #[.pointer (some ⟨g, 0, none⟩), .int .i64 x, .int .i64 y] w fun e w' => e = .returned (.tuple #[.int .i64 0, .int .i64 2]) ∧ Below w.heap.size w w' := by
  have S1 := Lib.hid (size_any g r ks x w h hn)
  have S2 := Lib.hid (fun w' (ha : Arena w' g r ks) => size_any g r ks y w' ha hn)
  have HA := Lib.hid h
  clear h hn
  generalize (getB ks x || x == 0) = o1 at hb S1
  generalize (getB ks y || y == 0) = o2 at hb S2
  generalize (getK ks x).len = n1 at S1
  generalize (getK ks y).len = n2 at S2
  cases o1
  · go_enter Try.func25, Try.ntmps25
    go_wp2_with fail
    refine S1.out.mono ?_
    rintro e w1 ⟨rfl, hb1⟩
    have HB := Lib.hid hb1
    have HA1 := Lib.hid (HA.out.below hb1)
    clear hb1
    go_wp2_with fail
    ((with_reducible refine (S2.out _ HA1.out).mono ?_); rintro e w2 ⟨rfl, hb2⟩)
    have HB2 := Lib.hid (HB.out.trans (hb2.mono HB.out.size))
    clear hb2
    go_wp2
    go_ret2
    exact ⟨rfl, HB2.out⟩
  · cases o2
    · go_enter Try.func25, Try.ntmps25
      go_wp2_with fail
      refine S1.out.mono ?_
      rintro e w1 ⟨rfl, hb1⟩
      have HB := Lib.hid hb1
      have HA1 := Lib.hid (HA.out.below hb1)
      clear hb1
      go_wp2_with fail
      ((with_reducible refine (S2.out _ HA1.out).mono ?_); rintro e w2 ⟨rfl, hb2⟩)
      have HB2 := Lib.hid (HB.out.trans (hb2.mono HB.out.size))
      clear hb2
      go_wp2
      go_ret2
      exact ⟨rfl, HB2.out⟩
    · cases hb

/-- what Join makes. -/
def JoinP (ks : List Knot) (l r : Int) (L R : T) (v : Value) (ks' : List Knot) : Prop := ∃ (t : Int) (X : T) (n : Nat), v = .tuple #[.int .i64 t, .int .i64 0] ∧ Is ks' t X ∧ WF ks' ∧ Ext ks ks' n 0 ∧ JoinOk L R X n ∧ (l = 0 → t = r) ∧ (r = 0 → t = l)
theorem is_there {ks : List Knot} {t : Int} {X : T} (h : Is ks t X) : (getB ks t || t == 0) = true := by
  rcases h.knot.2.2.2.2 with e | e
  · simp [e]
  · simp [e]

set_option maxHeartbeats 1000000 in
theorem Join_any (g : Nat) (ks : List Knot) (l r : Int) (L R : T) (hw : WF ks) (hl : Is ks l L) (hr : Is ks r R) (h3 : L.size + R.size ≤ 1099511627776) (hn : (ks.length : Int) + 1 + 3 * (L.high + R.high) ≤ 1073741824) :
    Does Try.prog (resAr g) 25 #[.pointer (some ⟨g, 0, none⟩), .int .i64 l, .int .i64 r] ks (JoinP ks l r L R) := by
  rintro w F ⟨q, rfl, ha⟩
  have bL := T.bounds (hl.ok hw)
  have bR := T.bounds (hr.ok hw)
  have hks : ks.length ≤ small := by unfold small; omega
  have s1 := size_any g q ks l w ha hks
  have s2 := fun w' (ha : Arena w' g q ks) => size_any g q ks r w' ha hks
  rw [is_there hl, hl.knot.1] at s1
  simp only [is_there hr, hr.knot.1] at s2
  have S1 := Lib.hid s1
  have S2 := Lib.hid s2
  have HA := Lib.hid ha
  have HP := Lib.hid (join_any g _ ks l r L R (Nat.le_refl _) hw hl hr h3 hn)
  have t1 : ¬ 1099511627776 < L.size + R.size := by omega
  have u1 : 0 ≤ L.size ∧ L.size ≤ 1099511627776 := by omega
  have u2 : 0 ≤ R.size ∧ R.size ≤ 1099511627776 := by omega
  obtain ⟨u3, u4⟩ := u1
  obtain ⟨u5, u6⟩ := u2
  generalize L.size = z1 at S1 t1 u3 u4
  generalize R.size = z2 at S2 t1 u5 u6
  clear s1 s2 ha hw hl hr h3 hn bL bR hks
  go_enter Try.func25, Try.ntmps25
  go_wp2_with fail
  refine S1.out.mono ?_
  rintro e w1 ⟨rfl, hb1⟩
  have HB := Lib.hid hb1
  have HA1 := Lib.hid (HA.out.below hb1)
  clear hb1
  go_wp2_with fail
  ((with_reducible refine (S2.out _ HA1.out).mono ?_); rintro e w2 ⟨rfl, hb2⟩)
  have HB2 := Lib.hid (HB.out.trans (hb2.mono HB.out.size))
  have HC := Lib.hid (HP.out w2 _ ⟨q, rfl, HA1.out.below hb2⟩)
  clear hb2
  go_wp2_with fail
  ((with_reducible refine HC.out.mono ?_); rintro e w3 ⟨v, ks', F', rfl, ⟨t, X, n, rfl, hp⟩, ha, hf⟩)
  have HE := Lib.hid (And.intro hp (And.intro ha hf))
  clear hp ha hf
  go_wp2
  go_ret2
  exact ⟨_, ks', F', rfl, ⟨t, X, n, rfl, HE.out.1⟩, HE.out.2.1, (Fr.of_below HB2.out).trans HE.out.2.2⟩

/-! ### cuts -/
theorem cutL_bytes {f : Int → Int → Int} : ∀ {l : List Lf} {n : Int}, (∀ p ∈ l, 1 ≤ p.2.1) → bytesL (cutL f l n).1 + bytesL (cutL f l n).2 = bytesL l
  | [], _, _ => rfl
  | p :: l, n, h => by
    rw [cutL_cons]
    by_cases h1 : p.2.1 ≤ n
    · rw [if_pos h1]
      have := cutL_bytes (f := f) (l := l) (n := n - p.2.1) (fun q hq => h q (by simp [hq]))
      simp only [bytesL]
      omega
    · rw [if_neg h1]
      by_cases h2 : 0 < n
      · rw [if_pos h2]; simp only [bytesL]; omega
      · rw [if_neg h2]; simp only [bytesL]; omega
/-- a function value that tells line feeds: it reads, and stands as long as nothing but the arena changes. -/
def Clo (kf : Nat) (first : Array Value) (In : Int → Int → Prop) (f : Int → Int → Int) (w : World) (F : Nat → Prop) : Prop :=
  ∀ w' F', Fr w F w' F' → ∀ o n, In o n → Calls Try.prog kf (first ++ #[.int .i64 o, .int .i64 n]) w' fun e w'' => e = .returned (.int .i64 (f o n)) ∧ Below w'.heap.size w' w''
theorem Clo.fr {kf : Nat} {first : Array Value} {In : Int → Int → Prop} {f : Int → Int → Int} {w : World} {F : Nat → Prop} {w' : World} {F' : Nat → Prop} (h : Clo kf first In f w F) (hf : Fr w F w' F') : Clo kf first In f w' F' := fun w'' F'' hf' => h w'' F'' (hf.trans hf')
def resCl (g kf : Nat) (first : Array Value) (In : Int → Int → Prop) (f : Int → Int → Int) : Res (List Knot) := (resAr g).with_ (Clo kf first In f) Clo.fr
theorem resCl_at {g kf : Nat} {first : Array Value} {In : Int → Int → Prop} {f : Int → Int → Int} {w : World} {q : Option Nat} {ks : List Knot} (ha : Arena w g q ks) (hc : Clo kf first In f w (foot g q)) : (resCl g kf first In f).at_ w (foot g q) ks := ⟨⟨q, rfl, ha⟩, hc⟩
theorem does_cl {g kf : Nat} {first : Array Value} {In : Int → Int → Prop} {f : Int → Int → Int} {fn : Nat} {args : Array Value} {ks : List Knot} {Post : Value → List Knot → Prop} (h : Does Try.prog (resAr g) fn args ks Post) : Does Try.prog (resCl g kf first In f) fn args ks Post := h.with_
/-- the pieces of which it tells. -/
structure FdOk (In : Int → Int → Prop) (f : Int → Int → Int) : Prop where
  bd : ∀ {o n}, In o n → 0 ≤ f o n ∧ f o n ≤ n
  sub : ∀ {o n a}, In o n → 0 < a → a < n → In o a ∧ In (o + a) (n - a)

/-- a leaf that may be. -/
def mkl (ks : List Knot) (o n f : Int) (v : Value) (ks' : List Knot) : Prop := v = .tuple #[.int .i64 (ks.length + 1 : Nat), .int .i64 0] ∧ WF ks' ∧ Is ks' ((ks.length + 1 : Nat) : Int) (.leaf o n f) ∧ Ext ks ks' 1 1
theorem leaf_mk (g : Nat) (ks : List Knot) (o n f : Int) (hw : WF ks) (hok : (T.leaf o n f).ok) (hn : ks.length ≤ small) : Does Try.prog (resAr g) 62 #[.pointer (some ⟨g, 0, none⟩), .int .i64 o, .int .i64 n, .int .i64 f] ks (mkl ks o n f) := by
  rintro w F ⟨q, rfl, ha⟩
  simp only [T.ok] at hok
  have hb : leafBad o n f = false := by simp [leafBad]; omega
  refine (leaf_any g q ks o n f w ha hn).mono ?_
  rintro e w' (⟨h, _⟩ | ⟨_, q', rfl, h1, h2⟩)
  · rw [hb] at h; cases h
  · obtain ⟨m1, m2⟩ := Is.mk_leaf hw hb
    exact ⟨_, _, _, rfl, ⟨rfl, m1, m2, Ext.one_leaf ks o n f⟩, ⟨q', rfl, h1⟩, h2⟩
theorem clo_does (g kf : Nat) (first : Array Value) (In : Int → Int → Prop) (f : Int → Int → Int) (ks : List Knot) {o n : Int} (hi : In o n) : Does Try.prog (resCl g kf first In f) kf (first ++ #[.int .i64 o, .int .i64 n]) ks (fun v ks' => v = .int .i64 (f o n) ∧ ks' = ks) :=
  Does.of_below fun w F ha => ha.2 w F (Fr.refl _ _) o n hi

set_option maxHeartbeats 4000000 in
theorem cut_any (g kf : Nat) (first : Array Value) (In : Int → Int → Prop) (f : Int → Int → Int) (eg : ∀ args w, (callFunc kf args).run Try.prog w = .ok (.enter kf args) w) (hfd : FdOk In f) (ks : List Knot) (o n fd a : Int) (hw : WF ks) (hok : (T.leaf o n fd).ok) (hin : In o n) (h0 : 0 < a) (h1 : a < n) (hn : ks.length + 2 ≤ small) :
    Does Try.prog (resCl g kf first In f) 72 #[.pointer (some ⟨g, 0, none⟩), (leafK o n fd).val, .int .i64 a, .func (.func kf) first #[]] ks
      (fun v ks' => v = .tuple #[.int .i64 (ks.length + 1 : Nat), .int .i64 (ks.length + 2 : Nat), .int .i64 0] ∧ WF ks' ∧ Is ks' ((ks.length + 1 : Nat) : Int) (.leaf o a (f o a)) ∧ Is ks' ((ks.length + 2 : Nat) : Int) (.leaf (o + a) (n - a) (f (o + a) (n - a))) ∧ Ext ks ks' 2 2) := by
  rintro w F ⟨⟨q, rfl, ha⟩, hcl⟩
  simp only [T.ok] at hok
  obtain ⟨k1, k2, k3, k4, k5, k6⟩ := hok
  obtain ⟨i1, i2⟩ := hfd.sub hin h0 h1
  obtain ⟨f1, f2⟩ := hfd.bd i1
  obtain ⟨f3, f4⟩ := hfd.bd i2
  have HF := Lib.hid (And.intro i1 i2)
  have HA := Lib.hid (And.intro ha hcl)
  have HW := Lib.hid hw
  clear ha hcl i1 i2 hw hin hfd
  have EG := Lib.hid eg
  clear eg
  have b0 : blkK (w.alloc (.cells #[.int .i64 0, .int .i64 0, .int .i64 o, .int .i64 n, .int .i64 1, .int .i64 1, .int .i64 fd] 66)) w.heap.size (leafK o n fd) := heap_alloc_new _ _
  have hb0 : Below w.heap.size w (w.alloc (.cells #[.int .i64 0, .int .i64 0, .int .i64 o, .int .i64 n, .int .i64 1, .int .i64 1, .int .i64 fd] 66)) := (Below.refl _ _).alloc (Nat.le_refl _) _
  have HB := Lib.hid (And.intro b0 (And.intro hb0 (And.intro (HA.out.1.below hb0) (HA.out.2.fr (Fr.of_below hb0)))))
  clear b0 hb0
  unfold Knot.val leafK
  simp only
  go_enter Try.func72, Try.ntmps72
  go_wp2_with fail
  generalize (w.alloc (.cells #[.int .i64 0, .int .i64 0, .int .i64 o, .int .i64 n, .int .i64 1, .int .i64 1, .int .i64 fd] 66)) = W at HB ⊢
  have hbk : ¬ foot g q w.heap.size := fun hf => by
    rcases hf with e | e
    · have := HA.out.1.lt; omega
    · have := HA.out.1.row_lt e; omega
  have HBW := Lib.hid (Fr.of_below (F := foot g q) HB.out.2.1)
  generalize w.heap.size = bk at HB hbk ⊢
  have HR : Hid (∀ s bs w1, (resCls (resCl g kf first In f) W (foot g q)).In s bs w1 → w1.cell? ⟨bk, 2, none⟩ = some (.int .i64 o) ∧ w1.cell? ⟨bk, 3, none⟩ = some (.int .i64 n)) := Lib.hid (fun s bs w1 hw1 =>
    ⟨(resCls_cell hw1 HB.out.1.lt hbk 2).trans HB.out.1.c2, (resCls_cell hw1 HB.out.1.lt hbk 3).trans HB.out.1.c3⟩)
  refine wp_region_thr (resCls (resCl g kf first In f) W (foot g q)) ks 15 [0, 1, 2, 3, 4, 5, 6, 7, 8, 9, 10, 11, 12, 13, 14] _ (by kernel_rfl) (by kernel_rfl) (by kernel_rfl) rfl (resCls_start ⟨⟨q, rfl, HB.out.2.2.1⟩, HB.out.2.2.2⟩) ?_
  (simp only [List.filterMap_cons, List.filterMap_nil, List.getElem?_cons_zero, List.getElem?_cons_succ, List.drop_succ_cons, List.drop_zero, List.drop_nil])
  iterate 8 ((refine wpThr_val rfl rfl rfl ?_; apply Exists.intro; refine ⟨fun s1 bs1 w1 hb1 hw1 => ?_, ?_⟩); (have hc1 := HR.out s1 bs1 w1 hw1; go_simp; exact growUpon_ok rfl); (refine wpThr_at (by (simp only [Act.put, List.setIfInBounds_toArray, List.set_cons_succ, List.set_cons_zero]) <;> exact rfl) ?_))
  refine wpThr_call (fun v ks' => v = .int .i64 (f o a) ∧ ks' = ks) rfl rfl rfl ?_ ?_
  · intro bs1 w1 hb1 hw1
    have eg := EG.out
    go_simp
    exact resCls_upon (clo_does g kf first In f ks HF.out.1) hw1
  rintro v ks1 ⟨rfl, rfl⟩
  (refine wpThr_at (by (simp only [Act.put, List.setIfInBounds_toArray, List.set_cons_succ, List.set_cons_zero]) <;> exact rfl) ?_)
  have hl1 : (T.leaf o a (f o a)).ok := by simp only [T.ok]; omega
  have hl2 : (T.leaf (o + a) (n - a) (f (o + a) (n - a))).ok := by simp only [T.ok]; omega
  have HL := Lib.hid (And.intro hl1 hl2)
  have hs1 : IntKind.i64.wrap (o + a) = o + a := IntWalk.i64_in _ (by omega)
  have hs2 : IntKind.i64.wrap (n - a) = n - a := IntWalk.i64_in _ (by omega)
  clear hl1 hl2
  refine wpThr_call (mkl ks1 o a (f o a)) rfl rfl rfl ?_ ?_
  · intro bs1 w1 hb1 hw1
    go_simp
    exact resCls_upon (leaf_mk g ks1 o a (f o a) HW.out HL.out.1 (by unfold small at hn ⊢; omega)).with_ hw1
  rintro v ks2 ⟨rfl, p1, p2, p3⟩
  (refine wpThr_at (by (simp only [Act.put, List.setIfInBounds_toArray, List.set_cons_succ, List.set_cons_zero]) <;> exact rfl) ?_)
  iterate 5 ((refine wpThr_val rfl rfl rfl ?_; apply Exists.intro; refine ⟨fun s1 bs1 w1 hb1 hw1 => ?_, ?_⟩); (have hc1 := HR.out s1 bs1 w1 hw1; go_simp; exact growUpon_ok rfl); (refine wpThr_at (by (simp only [Act.put, List.setIfInBounds_toArray, List.set_cons_succ, List.set_cons_zero]) <;> exact rfl) ?_))
  refine wpThr_nil ?_
  rintro w2 ⟨F2, ⟨⟨q2, rfl, ha2⟩, hcl2⟩, hf2, _⟩
  have HE := Lib.hid (And.intro p1 (And.intro p2 (And.intro p3 (And.intro ha2 (And.intro hcl2 hf2)))))
  have hb2 : blkK w2 bk (leafK o n fd) := HB.out.1.fr hf2 hbk
  have hbk2 := hf2.out HB.out.1.lt hbk
  have HB2 := Lib.hid hb2
  have hlen := p3.len
  clear p1 p2 p3 ha2 hcl2 hf2 hb2 hbk HR
  go_wp2_with fail
  have HR : Hid (∀ s bs w1, (resCls (resCl g kf first In f) w2 (foot g q2)).In s bs w1 → w1.cell? ⟨bk, 2, none⟩ = some (.int .i64 o) ∧ w1.cell? ⟨bk, 3, none⟩ = some (.int .i64 n)) := Lib.hid (fun s bs w1 hw1 =>
    ⟨(resCls_cell hw1 HB2.out.lt hbk2 2).trans HB2.out.c2, (resCls_cell hw1 HB2.out.lt hbk2 3).trans HB2.out.c3⟩)
  refine wp_region_thr (resCls (resCl g kf first In f) w2 (foot g q2)) ks2 25 [0, 1, 2, 3, 4, 5, 6, 7, 8, 9, 10, 11, 12, 13, 14, 15, 16, 17, 18, 19, 20, 21, 22, 23, 24] _ (by kernel_rfl) (by kernel_rfl) (by kernel_rfl) rfl (resCls_start ⟨⟨q2, rfl, HE.out.2.2.2.1⟩, HE.out.2.2.2.2.1⟩) ?_
  (simp only [List.filterMap_cons, List.filterMap_nil, List.getElem?_cons_zero, List.getElem?_cons_succ, List.drop_succ_cons, List.drop_zero, List.drop_nil])
  iterate 18 ((refine wpThr_val rfl rfl rfl ?_; apply Exists.intro; refine ⟨fun s1 bs1 w1 hb1 hw1 => ?_, ?_⟩); (have hc1 := HR.out s1 bs1 w1 hw1; go_simp; exact growUpon_ok rfl); (refine wpThr_at (by (simp only [Act.put, List.setIfInBounds_toArray, List.set_cons_succ, List.set_cons_zero]) <;> exact rfl) ?_))
  refine wpThr_call (fun v ks' => v = .int .i64 (f (o + a) (n - a)) ∧ ks' = ks2) rfl rfl rfl ?_ ?_
  · intro bs1 w1 hb1 hw1
    have eg := EG.out
    go_simp
    exact resCls_upon (clo_does g kf first In f ks2 HF.out.2) hw1
  rintro v ks3 ⟨rfl, rfl⟩
  (refine wpThr_at (by (simp only [Act.put, List.setIfInBounds_toArray, List.set_cons_succ, List.set_cons_zero]) <;> exact rfl) ?_)
  refine wpThr_call (mkl ks3 (o + a) (n - a) (f (o + a) (n - a))) rfl rfl rfl ?_ ?_
  · intro bs1 w1 hb1 hw1
    go_simp
    exact resCls_upon (leaf_mk g ks3 (o + a) (n - a) (f (o + a) (n - a)) HE.out.1 HL.out.2 (by unfold small at hn ⊢; omega)).with_ hw1
  rintro v ks4 ⟨rfl, p4, p5, p6⟩
  (refine wpThr_at (by (simp only [Act.put, List.setIfInBounds_toArray, List.set_cons_succ, List.set_cons_zero]) <;> exact rfl) ?_)
  iterate 5 ((refine wpThr_val rfl rfl rfl ?_; apply Exists.intro; refine ⟨fun s1 bs1 w1 hb1 hw1 => ?_, ?_⟩); (have hc1 := HR.out s1 bs1 w1 hw1; go_simp; exact growUpon_ok rfl); (refine wpThr_at (by (simp only [Act.put, List.setIfInBounds_toArray, List.set_cons_succ, List.set_cons_zero]) <;> exact rfl) ?_))
  refine wpThr_nil ?_
  rintro w5 ⟨F5, ha5, hf5, _⟩
  have HE5 := Lib.hid (And.intro p4 (And.intro p5 (And.intro p6 (And.intro ha5 hf5))))
  clear p4 p5 p6 ha5 hf5 HR
  go_wp2
  go_ret3
  obtain ⟨p1, p2, p3, _, _, hf2⟩ := HE.out
  obtain ⟨p4, p5, p6, ha5, hf5⟩ := HE5.out
  refine ⟨.tuple #[.int .i64 ((ks1.length : Int) + 1), .int .i64 ((ks1.length : Int) + 1 + 1), .int .i64 0], ks4, F5, rfl, ⟨?_, p4, p2.ext p6, ?_, p3.trans p6⟩, ha5, (HBW.out.trans hf2).trans hf5⟩
  · rfl
  · rw [hlen] at p5; exact p5
end Go.Proofs.Ytkcocdpmangcgaa.Ar
