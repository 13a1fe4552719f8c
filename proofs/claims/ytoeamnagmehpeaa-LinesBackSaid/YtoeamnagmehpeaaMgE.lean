/- Balance: Join, and the cut of a leaf. -/
import Derived.Test.YtoeamnagmehpeaaMgD
import Derived.Shelf.GgClosure.Gives
namespace Go.Proofs.Ytoeamnagmehpeaa.Ar
set_option linter.unusedSimpArgs false
set_option linter.unusedVariables false
open Go Go.RowKit
attribute [local go_sem] lt_add1 lt_self1 size_ne size_ne' size_ne1 size_ne1'
attribute [local irreducible] wpGrow wpThr

set_option maxHeartbeats 1000000 in
theorem join_bad (g : Nat) (r : Option Nat) (ks : List Knot) (x y : Int) (w : World) (h : Arena w g r ks) (hn : ks.length ≤ small) (hb : ((getB ks x || x == 0) && (getB ks y || y == 0)) = false) :
    Calls Try.prog 69 #[.pointer (some ⟨g, 0, none⟩), .int .i64 x, .int .i64 y] w fun e w' => e = .returned (.tuple #[.int .i64 0, .int .i64 2]) ∧ Below w.heap.size w w' := by
  have S1 := Lib.hid (size_any g r ks x w h hn)
  have S2 := Lib.hid (fun w' (ha : Arena w' g r ks) => size_any g r ks y w' ha hn)
  have HA := Lib.hid h
  clear h hn
  generalize (getB ks x || x == 0) = o1 at hb S1
  generalize (getB ks y || y == 0) = o2 at hb S2
  generalize (getK ks x).len = n1 at S1
  generalize (getK ks y).len = n2 at S2
  cases o1
  · go_enter Try.func69, Try.ntmps69
    go_wp2_with fail
    refine S1.out.mono ?_
    rintro e w1 ⟨rfl, hb1⟩
    have HB := Lib.hid hb1
    have HA1 := Lib.hid (HA.out.below hb1)
    clear hb1
    go_wp2_with fail
    ((with_reducible refine (S2.out _ HA1.out).mono ?_); rintro e w2 ⟨rfl, hb2⟩)
    have HB2 := Lib.hid (HB.out.trans (hb2.mono HB.out.size))
    clear hb2
    go_wp2
    go_ret2
    exact ⟨rfl, HB2.out⟩
  · cases o2
    · go_enter Try.func69, Try.ntmps69
      go_wp2_with fail
      refine S1.out.mono ?_
      rintro e w1 ⟨rfl, hb1⟩
      have HB := Lib.hid hb1
      have HA1 := Lib.hid (HA.out.below hb1)
      clear hb1
      go_wp2_with fail
      ((with_reducible refine (S2.out _ HA1.out).mono ?_); rintro e w2 ⟨rfl, hb2⟩)
      have HB2 := Lib.hid (HB.out.trans (hb2.mono HB.out.size))
      clear hb2
      go_wp2
      go_ret2
      exact ⟨rfl, HB2.out⟩
    · cases hb

/-- what Join makes. -/
def JoinP (ks : List Knot) (l r : Int) (L R : T) (v : Value) (ks' : List Knot) : Prop := ∃ (t : Int) (X : T) (n : Nat), v = .tuple #[.int .i64 t, .int .i64 0] ∧ Is ks' t X ∧ WF ks' ∧ Ext ks ks' n 0 ∧ JoinOk L R X n ∧ (l = 0 → t = r) ∧ (r = 0 → t = l)
theorem is_there {ks : List Knot} {t : Int} {X : T} (h : Is ks t X) : (getB ks t || t == 0) = true := by
  rcases h.knot.2.2.2.2 with e | e
  · simp [e]
  · simp [e]

set_option maxHeartbeats 1000000 in
theorem Join_any (g : Nat) (ks : List Knot) (l r : Int) (L R : T) (hw : WF ks) (hl : Is ks l L) (hr : Is ks r R) (h3 : L.size + R.size ≤ 1099511627776) (hn : (ks.length : Int) + 1 + 3 * (L.high + R.high) ≤ 1073741824) :
    Does Try.prog (resAr g) 69 #[.pointer (some ⟨g, 0, none⟩), .int .i64 l, .int .i64 r] ks (JoinP ks l r L R) := by
  rintro w F ⟨q, rfl, ha⟩
  have bL := T.bounds (hl.ok hw)
  have bR := T.bounds (hr.ok hw)
  have hks : ks.length ≤ small := by unfold small; omega
  have s1 := size_any g q ks l w ha hks
  have s2 := fun w' (ha : Arena w' g q ks) => size_any g q ks r w' ha hks
  rw [is_there hl, hl.knot.1] at s1
  simp only [is_there hr, hr.knot.1] at s2
  have S1 := Lib.hid s1
  have S2 := Lib.hid s2
  have HA := Lib.hid ha
  have HP := Lib.hid (join_any g _ ks l r L R (Nat.le_refl _) hw hl hr h3 hn)
  have t1 : ¬ 1099511627776 < L.size + R.size := by omega
  have u1 : 0 ≤ L.size ∧ L.size ≤ 1099511627776 := by omega
  have u2 : 0 ≤ R.size ∧ R.size ≤ 1099511627776 := by omega
  obtain ⟨u3, u4⟩ := u1
  obtain ⟨u5, u6⟩ := u2
  generalize L.size = z1 at S1 t1 u3 u4
  generalize R.size = z2 at S2 t1 u5 u6
  clear s1 s2 ha hw hl hr h3 hn bL bR hks
  go_enter Try.func69, Try.ntmps69
  go_wp2_with fail
  refine S1.out.mono ?_
  rintro e w1 ⟨rfl, hb1⟩
  have HB := Lib.hid hb1
  have HA1 := Lib.hid (HA.out.below hb1)
  clear hb1
  go_wp2_with fail
  ((with_reducible refine (S2.out _ HA1.out).mono ?_); rintro e w2 ⟨rfl, hb2⟩)
  have HB2 := Lib.hid (HB.out.trans (hb2.mono HB.out.size))
  have HC := Lib.hid (HP.out w2 _ ⟨q, rfl, HA1.out.below hb2⟩)
  clear hb2
  go_wp2_with fail
  ((with_reducible refine HC.out.mono ?_); rintro e w3 ⟨v, ks', F', rfl, ⟨t, X, n, rfl, hp⟩, ha, hf⟩)
  have HE := Lib.hid (And.intro hp (And.intro ha hf))
  clear hp ha hf
  go_wp2
  go_ret2
  exact ⟨_, ks', F', rfl, ⟨t, X, n, rfl, HE.out.1⟩, HE.out.2.1, (Fr.of_below HB2.out).trans HE.out.2.2⟩

/-! ### cuts -/
theorem cutL_bytes {f : Int → Int → Int} : ∀ {l : List Lf} {n : Int}, (∀ p ∈ l, 1 ≤ p.2.1) → bytesL (cutL f l n).1 + bytesL (cutL f l n).2 = bytesL l
  | [], _, _ => rfl
  | p :: l, n, h => by
    rw [cutL_cons]
    by_cases h1 : p.2.1 ≤ n
    · rw [if_pos h1]
      have := cutL_bytes (f := f) (l := l) (n := n - p.2.1) (fun q hq => h q (by simp [hq]))
      simp only [bytesL]
      omega
    · rw [if_neg h1]
      by_cases h2 : 0 < n
      · rw [if_pos h2]; simp only [bytesL]; omega
      · rw [if_neg h2]; simp only [bytesL]; omega
/-- a function value that tells line feeds: it reads, and stands as long as nothing but the arena changes. -/
def Clo (kf : Nat) (first : Array Value) (In : Int → Int → Prop) (f : Int → Int → Int) (w : World) (F : Nat → Prop) : Prop :=
  ∀ w' F', Fr w F w' F' → ∀ o n, In o n → Calls Try.prog kf (first ++ #[.int .i64 o, .int .i64 n]) w' fun e w'' => e = .returned (.int .i64 (f o n)) ∧ Below w'.heap.size w' w''
theorem Clo.fr {kf : Nat} {first : Array Value} {In : Int → Int → Prop} {f : Int → Int → Int} {w : World} {F : Nat → Prop} {w' : World} {F' : Nat → Prop} (h : Clo kf first In f w F) (hf : Fr w F w' F') : Clo kf first In f w' F' := fun w'' F'' hf' => h w'' F'' (hf.trans hf')
def resCl (g kf : Nat) (first : Array Value) (In : Int → Int → Prop) (f : Int → Int → Int) : Res (List Knot) := (resAr g).with_ (Clo kf first In f) Clo.fr
theorem resCl_at {g kf : Nat} {first : Array Value} {In : Int → Int → Prop} {f : Int → Int → Int} {w : World} {q : Option Nat} {ks : List Knot} (ha : Arena w g q ks) (hc : Clo kf first In f w (foot g q)) : (resCl g kf first In f).at_ w (foot g q) ks := ⟨⟨q, rfl, ha⟩, hc⟩
theorem does_cl {g kf : Nat} {first : Array Value} {In : Int → Int → Prop} {f : Int → Int → Int} {fn : Nat} {args : Array Value} {ks : List Knot} {Post : Value → List Knot → Prop} (h : Does Try.prog (resAr g) fn args ks Post) : Does Try.prog (resCl g kf first In f) fn args ks Post := h.with_
/-- the pieces of which it tells. -/
structure FdOk (In : Int → Int → Prop) (f : Int → Int → Int) : Prop where
  bd : ∀ {o n}, In o n → 0 ≤ f o n ∧ f o n ≤ n
  sub : ∀ {o n a}, In o n → 0 < a → a < n → In o a ∧ In (o + a) (n - a)

/-- a leaf that may be. -/
def mkl (ks : List Knot) (o n f : Int) (v : Value) (ks' : List Knot) : Prop := v = .tuple #[.int .i64 (ks.length + 1 : Nat), .int .i64 0] ∧ WF ks' ∧ Is ks' ((ks.length + 1 : Nat) : Int) (.leaf o n f) ∧ Ext ks ks' 1 1
theorem leaf_mk (g : Nat) (ks : List Knot) (o n f : Int) (hw : WF ks) (hok : (T.leaf o n f).ok) (hn : ks.length ≤ small) : Does Try.prog (resAr g) 91 #[.pointer (some ⟨g, 0, none⟩), .int .i64 o, .int .i64 n, .int .i64 f] ks (mkl ks o n f) := by
  rintro w F ⟨q, rfl, ha⟩
  simp only [T.ok] at hok
  have hb : leafBad o n f = false := by simp [leafBad]; omega
  refine (leaf_any g q ks o n f w ha hn).mono ?_
  rintro e w' (⟨h, _⟩ | ⟨_, q', rfl, h1, h2⟩)
  · rw [hb] at h; cases h
  · obtain ⟨m1, m2⟩ := Is.mk_leaf hw hb
    exact ⟨_, _, _, rfl, ⟨rfl, m1, m2, Ext.one_leaf ks o n f⟩, ⟨q', rfl, h1⟩, h2⟩
theorem clo_does (g kf : Nat) (first : Array Value) (In : Int → Int → Prop) (f : Int → Int → Int) (ks : List Knot) {o n : Int} (hi : In o n) : Does Try.prog (resCl g kf first In f) kf (first ++ #[.int .i64 o, .int .i64 n]) ks (fun v ks' => v = .int .i64 (f o n) ∧ ks' = ks) :=
  Does.of_below fun w F ha => ha.2 w F (Fr.refl _ _) o n hi

set_option maxHeartbeats 4000000 in
theorem cut_any (g kf : Nat) (first : Array Value) (In : Int → Int → Prop) (f : Int → Int → Int) (eg : ∀ args w, (callFunc kf args).run Try.prog w = .ok (.enter kf args) w) (hfd : FdOk In f) (ks : List Knot) (o n fd a : Int) (hw : WF ks) (hok : (T.leaf o n fd).ok) (hin : In o n) (h0 : 0 < a) (h1 : a < n) (hn : ks.length + 2 ≤ small) :
    Does Try.prog (resCl g kf first In f) 101 #[.pointer (some ⟨g, 0, none⟩), (leafK o n fd).val, .int .i64 a, .func (.func kf) first #[]] ks
      (fun v ks' => v = .tuple #[.int .i64 (ks.length + 1 : Nat), .int .i64 (ks.length + 2 : Nat), .int .i64 0] ∧ WF ks' ∧ Is ks' ((ks.length + 1 : Nat) : Int) (.leaf o a (f o a)) ∧ Is ks' ((ks.length + 2 : Nat) : Int) (.leaf (o + a) (n - a) (f (o + a) (n - a))) ∧ Ext ks ks' 2 2) := by
  rintro w F ⟨⟨q, rfl, ha⟩, hcl⟩
  simp only [T.ok] at hok
  obtain ⟨k1, k2, k3, k4, k5, k6⟩ := hok
  obtain ⟨i1, i2⟩ := hfd.sub hin h0 h1
  obtain ⟨f1, f2⟩ := hfd.bd i1
  obtain ⟨f3, f4⟩ := hfd.bd i2
  have HF := Lib.hid (And.intro i1 i2)
  have HA := Lib.hid (And.intro ha hcl)
  have HW := Lib.hid hw
  clear ha hcl i1 i2 hw hin hfd
  have EG := Lib.hid eg
  clear eg
  have b0 : blkK (w.alloc (.cells #[.int .i64 0, .int .i64 0, .int .i64 o, .int .i64 n, .int .i64 1, .int .i64 1, .int .i64 fd] 50)) w.heap.size (leafK o n fd) := heap_alloc_new _ _
  have hb0 : Below w.heap.size w (w.alloc (.cells #[.int .i64 0, .int .i64 0, .int .i64 o, .int .i64 n, .int .i64 1, .int .i64 1, .int .i64 fd] 50)) := (Below.refl _ _).alloc (Nat.le_refl _) _
  have HB := Lib.hid (And.intro b0 (And.intro hb0 (And.intro (HA.out.1.below hb0) (HA.out.2.fr (Fr.of_below hb0)))))
  clear b0 hb0
  unfold Knot.val leafK
  simp only
  go_enter Try.func101, Try.ntmps101
  go_wp2_with fail
  generalize (w.alloc (.cells #[.int .i64 0, .int .i64 0, .int .i64 o, .int .i64 n, .int .i64 1, .int .i64 1, .int .i64 fd] 50)) = W at HB ⊢
  have hbk : ¬ foot g q w.heap.size := fun hf => by
    rcases hf with e | e
    · have := HA.out.1.lt; omega
    · have := HA.out.1.row_lt e; omega
  have HBW := Lib.hid (Fr.of_below (F := foot g q) HB.out.2.1)
  generalize w.heap.size = bk at HB hbk ⊢
  have HR : Hid (∀ s bs w1, (resCls (resCl g kf first In f) W (foot g q)).In s bs w1 → w1.cell? ⟨bk, 2, none⟩ = some (.int .i64 o) ∧ w1.cell? ⟨bk, 3, none⟩ = some (.int .i64 n)) := Lib.hid (fun s bs w1 hw1 =>
    ⟨(resCls_cell hw1 HB.out.1.lt hbk 2).trans HB.out.1.c2, (resCls_cell hw1 HB.out.1.lt hbk 3).trans HB.out.1.c3⟩)
  refine wp_region_thr (resCls (resCl g kf first In f) W (foot g q)) ks 15 [0, 1, 2, 3, 4, 5, 6, 7, 8, 9, 10, 11, 12, 13, 14] _ (by kernel_rfl) (by kernel_rfl) (by kernel_rfl) rfl (resCls_start ⟨⟨q, rfl, HB.out.2.2.1⟩, HB.out.2.2.2⟩) ?_
  (simp only [List.filterMap_cons, List.filterMap_nil, List.getElem?_cons_zero, List.getElem?_cons_succ, List.drop_succ_cons, List.drop_zero, List.drop_nil])
  iterate 8 ((refine wpThr_val rfl rfl rfl ?_; apply Exists.intro; refine ⟨fun s1 bs1 w1 hb1 hw1 => ?_, ?_⟩); (have hc1 := HR.out s1 bs1 w1 hw1; go_simp; exact growUpon_ok rfl); (refine wpThr_at (by (simp only [Act.put, List.setIfInBounds_toArray, List.set_cons_succ, List.set_cons_zero]) <;> exact rfl) ?_))
  refine wpThr_call (fun v ks' => v = .int .i64 (f o a) ∧ ks' = ks) rfl rfl rfl ?_ ?_
  · intro bs1 w1 hb1 hw1
    have eg := EG.out
    go_simp
    exact resCls_upon (clo_does g kf first In f ks HF.out.1) hw1
  rintro v ks1 ⟨rfl, rfl⟩
  (refine wpThr_at (by (simp only [Act.put, List.setIfInBounds_toArray, List.set_cons_succ, List.set_cons_zero]) <;> exact rfl) ?_)
  have hl1 : (T.leaf o a (f o a)).ok := by simp only [T.ok]; omega
  have hl2 : (T.leaf (o + a) (n - a) (f (o + a) (n - a))).ok := by simp only [T.ok]; omega
  have HL := Lib.hid (And.intro hl1 hl2)
  have hs1 : IntKind.i64.wrap (o + a) = o + a := IntWalk.i64_in _ (by omega)
  have hs2 : IntKind.i64.wrap (n - a) = n - a := IntWalk.i64_in _ (by omega)
  clear hl1 hl2
  refine wpThr_call (mkl ks1 o a (f o a)) rfl rfl rfl ?_ ?_
  · intro bs1 w1 hb1 hw1
    go_simp
    exact resCls_upon (leaf_mk g ks1 o a (f o a) HW.out HL.out.1 (by unfold small at hn ⊢; omega)).with_ hw1
  rintro v ks2 ⟨rfl, p1, p2, p3⟩
  (refine wpThr_at (by (simp only [Act.put, List.setIfInBounds_toArray, List.set_cons_succ, List.set_cons_zero]) <;> exact rfl) ?_)
  iterate 5 ((refine wpThr_val rfl rfl rfl ?_; apply Exists.intro; refine ⟨fun s1 bs1 w1 hb1 hw1 => ?_, ?_⟩); (have hc1 := HR.out s1 bs1 w1 hw1; go_simp; exact growUpon_ok rfl); (refine wpThr_at (by (simp only [Act.put, List.setIfInBounds_toArray, List.set_cons_succ, List.set_cons_zero]) <;> exact rfl) ?_))
  refine wpThr_nil ?_
  rintro w2 ⟨F2, ⟨⟨q2, rfl, ha2⟩, hcl2⟩, hf2, _⟩
  have HE := Lib.hid (And.intro p1 (And.intro p2 (And.intro p3 (And.intro ha2 (And.intro hcl2 hf2)))))
  have hb2 : blkK w2 bk (leafK o n fd) := HB.out.1.fr hf2 hbk
  have hbk2 := hf2.out HB.out.1.lt hbk
  have HB2 := Lib.hid hb2
  have hlen := p3.len
  clear p1 p2 p3 ha2 hcl2 hf2 hb2 hbk HR
  go_wp2_with fail
  have HR : Hid (∀ s bs w1, (resCls (resCl g kf first In f) w2 (foot g q2)).In s bs w1 → w1.cell? ⟨bk, 2, none⟩ = some (.int .i64 o) ∧ w1.cell? ⟨bk, 3, none⟩ = some (.int .i64 n)) := Lib.hid (fun s bs w1 hw1 =>
    ⟨(resCls_cell hw1 HB2.out.lt hbk2 2).trans HB2.out.c2, (resCls_cell hw1 HB2.out.lt hbk2 3).trans HB2.out.c3⟩)
  refine wp_region_thr (resCls (resCl g kf first In f) w2 (foot g q2)) ks2 25 [0, 1, 2, 3, 4, 5, 6, 7, 8, 9, 10, 11, 12, 13, 14, 15, 16, 17, 18, 19, 20, 21, 22, 23, 24] _ (by kernel_rfl) (by kernel_rfl) (by kernel_rfl) rfl (resCls_start ⟨⟨q2, rfl, HE.out.2.2.2.1⟩, HE.out.2.2.2.2.1⟩) ?_
  (simp only [List.filterMap_cons, List.filterMap_nil, List.getElem?_cons_zero, List.getElem?_cons_succ, List.drop_succ_cons, List.drop_zero, List.drop_nil])
  iterate 18 ((refine wpThr_val rfl rfl rfl ?_; apply Exists.intro; refine ⟨fun s1 bs1 w1 hb1 hw1 => ?_, ?_⟩); (have hc1 := HR.out s1 bs1 w1 hw1; go_simp; exact growUpon_ok rfl); (refine wpThr_at (by (simp only [Act.put, List.setIfInBounds_toArray, List.set_cons_succ, List.set_cons_zero]) <;> exact rfl) ?_))
  refine wpThr_call (fun v ks' => v = .int .i64 (f (o + a) (n - a)) ∧ ks' = ks2) rfl rfl rfl ?_ ?_
  · intro bs1 w1 hb1 hw1
    have eg := EG.out
    go_simp
    exact resCls_upon (clo_does g kf first In f ks2 HF.out.2) hw1
  rintro v ks3 ⟨rfl, rfl⟩
  (refine wpThr_at (by (simp only [Act.put, List.setIfInBounds_toArray, List.set_cons_succ, List.set_cons_zero]) <;> exact rfl) ?_)
  refine wpThr_call (mkl ks3 (o + a) (n - a) (f (o + a) (n - a))) rfl rfl rfl ?_ ?_
  · intro bs1 w1 hb1 hw1
    go_simp
    exact resCls_upon (leaf_mk g ks3 (o + a) (n - a) (f (o + a) (n - a)) HE.out.1 HL.out.2 (by unfold small at hn ⊢; omega)).with_ hw1
  rintro v ks4 ⟨rfl, p4, p5, p6⟩
  (refine wpThr_at (by (simp only [Act.put, List.setIfInBounds_toArray, List.set_cons_succ, List.set_cons_zero]) <;> exact rfl) ?_)
  iterate 5 ((refine wpThr_val rfl rfl rfl ?_; apply Exists.intro; refine ⟨fun s1 bs1 w1 hb1 hw1 => ?_, ?_⟩); (have hc1 := HR.out s1 bs1 w1 hw1; go_simp; exact growUpon_ok rfl); (refine wpThr_at (by (simp only [Act.put, List.setIfInBounds_toArray, List.set_cons_succ, List.set_cons_zero]) <;> exact rfl) ?_))
  refine wpThr_nil ?_
  rintro w5 ⟨F5, ha5, hf5, _⟩
  have HE5 := Lib.hid (And.intro p4 (And.intro p5 (And.intro p6 (And.intro ha5 hf5))))
  clear p4 p5 p6 ha5 hf5 HR
  go_wp2
  go_ret3
  obtain ⟨p1, p2, p3, _, _, hf2⟩ := HE.out
  obtain ⟨p4, p5, p6, ha5, hf5⟩ := HE5.out
  refine ⟨.tuple #[.int .i64 ((ks1.length : Int) + 1), .int .i64 ((ks1.length : Int) + 1 + 1), .int .i64 0], ks4, F5, rfl, ⟨?_, p4, p2.ext p6, ?_, p3.trans p6⟩, ha5, (HBW.out.trans hf2).trans hf5⟩
  · rfl
  · rw [hlen] at p5; exact p5
end Go.Proofs.Ytoeamnagmehpeaa.Ar


/- Balance: Split. -/
namespace Go.Proofs.Ytoeamnagmehpeaa.Ar
set_option linter.unusedSimpArgs false
set_option linter.unusedVariables false
open Go Go.RowKit
attribute [local go_sem] lt_add1 lt_self1 size_ne size_ne' size_ne1 size_ne1'
attribute [local irreducible] wpGrow wpThr

/-- what Split makes. -/
def splitP (f : Int → Int → Int) (ks : List Knot) (X : T) (a : Int) (v : Value) (ks' : List Knot) : Prop :=
  ∃ (x y : Int) (A B : T) (n m : Nat), v = .tuple #[.int .i64 x, .int .i64 y, .int .i64 0] ∧ Is ks' x A ∧ Is ks' y B ∧ WF ks' ∧ Ext ks ks' n m ∧ SplitOk f X A B a n m

set_option maxRecDepth 100000 in
set_option maxHeartbeats 1000000 in
theorem split_bad (g : Nat) (r : Option Nat) (ks : List Knot) (t a : Int) (fv : Value) (w : World) (h : Arena w g r ks) (hn : ks.length ≤ small) (hb : (getB ks t || t == 0) = false ∨ a < 0 ∨ (getK ks t).len < a) :
    Calls Try.prog 67 #[.pointer (some ⟨g, 0, none⟩), .int .i64 t, .int .i64 a, fv] w fun e w' => e = .returned (.tuple #[.int .i64 0, .int .i64 0, .int .i64 2]) ∧ Below w.heap.size w w' := by
  have S1 := Lib.hid (size_any g r ks t w h hn)
  clear h hn
  generalize (getB ks t || t == 0) = o1 at hb S1
  generalize (getK ks t).len = n1 at hb S1
  by_cases ho : o1 = false
  · subst ho
    go_enter Try.func67, Try.ntmps67
    go_wp2_with fail
    ((with_reducible refine S1.out.mono ?_); rintro e w1 ⟨rfl, hb1⟩)
    have HB := Lib.hid hb1
    clear hb1 hb
    go_wp2
    go_ret3
    exact ⟨rfl, HB.out⟩
  · obtain rfl : o1 = true := by simpa using ho
    by_cases h1 : a < 0
    · go_enter Try.func67, Try.ntmps67
      go_wp2_with fail
      ((with_reducible refine S1.out.mono ?_); rintro e w1 ⟨rfl, hb1⟩)
      have HB := Lib.hid hb1
      clear hb1 hb ho
      go_wp2
      go_ret3
      exact ⟨rfl, HB.out⟩
    · have h2 : n1 < a := by rcases hb with h | h | h; · cases h
                             · exact absurd h h1
                             · exact h
      go_enter Try.func67, Try.ntmps67
      go_wp2_with fail
      ((with_reducible refine S1.out.mono ?_); rintro e w1 ⟨rfl, hb1⟩)
      have HB := Lib.hid hb1
      clear hb1 hb ho
      go_wp2
      go_ret3
      exact ⟨rfl, HB.out⟩

set_option maxRecDepth 100000 in
set_option maxHeartbeats 4000000 in
theorem split_any (g kf : Nat) (first : Array Value) (In : Int → Int → Prop) (f : Int → Int → Int) (eg : ∀ args w, (callFunc kf args).run Try.prog w = .ok (.enter kf args) w) (hfd : FdOk In f) :
    ∀ (m : Nat) (ks : List Knot) (t a : Int) (X : T), X.cnt ≤ m → WF ks → Is ks t X → 0 ≤ a → a ≤ X.size → (∀ p ∈ X.lv, In p.1 p.2.1) → X.many ≤ 1000 → (ks.length : Int) + 4000 * X.high ≤ 1073741824 →
    Does Try.prog (resCl g kf first In f) 67 #[.pointer (some ⟨g, 0, none⟩), .int .i64 t, .int .i64 a, .func (.func kf) first #[]] ks (splitP f ks X a) := by
  intro m
  induction m with
  | zero => intro ks t a X hm; have := T.cnt_pos X; omega
  | succ m ih =>
  rintro ks t a X hm hw ht ha0 ha1 hin hmany hn w F ⟨⟨q, rfl, ha⟩, hcl⟩
  have okX := ht.ok hw
  have bX := T.bounds okX
  have hks : ks.length ≤ small := by unfold small; omega
  have s1 := size_any g q ks t w ha hks
  rw [is_there ht, ht.knot.1] at s1
  have S1 := Lib.hid s1
  have HA := Lib.hid (And.intro ha hcl)
  have H0 := Lib.hid (And.intro hw (And.intro ht (And.intro okX hin)))
  have IH := Lib.hid ih
  have HM := Lib.hid (And.intro hm (And.intro hmany (And.intro hn bX)))
  have u1 : X.size ≤ 1099511627776 := by omega
  clear s1 ha hcl hw ht okX hin ih hm hmany hn bX
  by_cases h0 : a = 0
  · subst h0
    go_enter Try.func67, Try.ntmps67
    go_wp2_with fail
    ((with_reducible refine S1.out.mono ?_); rintro e w1 ⟨rfl, hb1⟩)
    have HB := Lib.hid hb1
    clear hb1
    generalize X.size = z at ha0 ha1 u1
    go_wp2
    go_ret3
    exact ⟨_, ks, _, rfl, ⟨0, t, _, X, 0, 0, rfl, .nil rfl, H0.out.2.1, H0.out.1, Ext.refl ks, SplitOk.zero H0.out.2.2.1⟩, ⟨⟨q, rfl, HA.out.1.below HB.out⟩, HA.out.2.fr (Fr.of_below HB.out)⟩, Fr.of_below HB.out⟩
  · have hz0 : (a == 0) = false := by simpa using h0
    by_cases h1 : a = X.size
    · go_enter Try.func67, Try.ntmps67
      rw [← h1] at S1
      go_wp2_with fail
      ((with_reducible refine S1.out.mono ?_); rintro e w1 ⟨rfl, hb1⟩)
      have HB := Lib.hid hb1
      have H1 := Lib.hid h1
      clear hb1 h1
      go_wp2
      go_ret3
      exact ⟨_, ks, _, rfl, ⟨t, 0, X, _, 0, 0, rfl, H0.out.2.1, .nil rfl, H0.out.1, Ext.refl ks, H1.out ▸ SplitOk.all H0.out.2.2.1⟩, ⟨⟨q, rfl, HA.out.1.below HB.out⟩, HA.out.2.fr (Fr.of_below HB.out)⟩, Fr.of_below HB.out⟩
    · have hz1 : (a == X.size) = false := by simpa using h1
      have ha2 : a < X.size := by omega
      have ha3 : 0 < a := by omega
      clear h0 h1
      cases X with
      | nil => simp [T.size] at ha2; omega
      | leaf o n fd =>
        obtain ⟨gk, gb, _⟩ := H0.out.2.1.leaf_
        have hg := fun w' (ha : Arena w' g q ks) => get_any g q ks t w' ha hks
        rw [gk, gb] at hg
        unfold Knot.val leafK at hg
        simp only at hg
        have G := Lib.hid hg
        have hc := cut_any g kf first In f eg hfd ks o n fd a H0.out.1 H0.out.2.2.1 (H0.out.2.2.2 (o, n, fd) (by simp [T.lv])) ha3 ha2 (by have := HM.out.2.2.1; simp only [T.high] at this; unfold small; omega)
        unfold Knot.val leafK at hc
        simp only at hc
        have HC := Lib.hid hc
        clear gk gb hg hc
        simp only [T.size] at S1 ha1 ha2 hz1 u1
        go_enter Try.func67, Try.ntmps67
        go_wp2_with fail
        ((with_reducible refine S1.out.mono ?_); rintro e w1 ⟨rfl, hb1⟩)
        have HB := Lib.hid hb1
        clear hb1
        go_wp2_with fail
        ((with_reducible refine (G.out _ (HA.out.1.below HB.out)).mono ?_); rintro e w2 ⟨rfl, hb2⟩)
        have HB2 := Lib.hid (HB.out.trans (hb2.mono HB.out.size))
        clear hb2 HB G S1
        go_wp2_with fail
        have HB3 := Lib.hid (HB2.out.alloc HB2.out.size (.cells #[.int .i64 0, .int .i64 0, .int .i64 o, .int .i64 n, .int .i64 1, .int .i64 1, .int .i64 fd] 50))
        ((with_reducible refine (HC.out.run _ _ (resCl_at (HA.out.1.below HB3.out) (HA.out.2.fr (Fr.of_below HB3.out)))).mono ?_); rintro e w3 ⟨v, ks', F', rfl, ⟨rfl, p1, p2, p3, p4⟩, ha, hf⟩)
        have HE := Lib.hid (And.intro p1 (And.intro p2 (And.intro p3 (And.intro p4 (And.intro ha hf)))))
        clear p1 p2 p3 p4 ha hf
        go_wp2
        go_ret3
        obtain ⟨p1, p2, p3, p4, ha, hf⟩ := HE.out
        have hin := H0.out.2.2.2 (o, n, fd) (by simp [T.lv])
        obtain ⟨i1, i2⟩ := hfd.sub hin ha3 ha2
        exact ⟨_, ks', F', rfl, ⟨_, _, _, _, 2, 2, rfl, p2, p3, p1, p4, SplitOk.leaf H0.out.2.2.1 ha3 ha2 (hfd.bd i1) (hfd.bd i2)⟩, ha, (Fr.of_below HB3.out).trans hf⟩
      | node L R =>
        obtain ⟨l', r', e1, e2, hI1, hI2, gb, _, _, _, gk⟩ := H0.out.2.1.node_
        have hg := fun w' (ha : Arena w' g q ks) => get_any g q ks t w' ha hks
        rw [gk, gb] at hg
        unfold Knot.val at hg
        simp only at hg
        have G := Lib.hid hg
        have hs := fun w' (ha : Arena w' g q ks) => size_any g q ks l' w' ha hks
        rw [is_there hI1, hI1.knot.1] at hs
        have S2 := Lib.hid hs
        have okN := H0.out.2.2.1
        simp only [T.ok] at okN
        obtain ⟨okl, okr, sl, sr, slr⟩ := okN
        have bl := T.bounds okl
        have br := T.bounds okr
        have hh := T.high_node L R
        have hmm := HM.out.1
        have hma := HM.out.2.1
        have hnn := HM.out.2.2.1
        simp only [T.cnt] at hmm
        simp only [T.many] at hma
        have hz2 : (l' == 0) = false := by simp; omega
        have HI := Lib.hid (And.intro hI1 (And.intro hI2 (And.intro okl okr)))
        clear gk gb hg hs hI1 hI2 okl okr
        simp only [T.size] at S1 ha1 ha2 hz1 u1
        have ul : 0 < L.size ∧ L.size ≤ 1099511627776 := by omega
        obtain ⟨ul1, ul2⟩ := ul
        have HBD := Lib.hid (And.intro bl (And.intro br (And.intro hh (And.intro hmm (And.intro hma hnn)))))
        have hw1 : IntKind.i64.wrap (a - L.size) = a - L.size := IntWalk.i64_in _ (by omega)
        have HSR := Lib.hid (And.intro sl (And.intro sr slr))
        clear bl br hh hmm hma hnn sl sr slr
        generalize 1 + max L.high R.high = z2 at G
        generalize L.many + R.many = z3 at G
        generalize L.feeds + R.feeds = z4 at G
        generalize hzs : L.size + R.size = zs at S1 G ha1 ha2 hz1 u1
        have HZS := Lib.hid hzs
        clear hzs
        go_enter Try.func67, Try.ntmps67
        go_wp2_with fail
        ((with_reducible refine S1.out.mono ?_); rintro e w1 ⟨rfl, hb1⟩)
        have HB := Lib.hid hb1
        clear hb1
        go_wp2_with fail
        ((with_reducible refine (G.out _ (HA.out.1.below HB.out)).mono ?_); rintro e w2 ⟨rfl, hb2⟩)
        have HB2 := Lib.hid (HB.out.trans (hb2.mono HB.out.size))
        clear hb2 HB G S1
        go_wp2_with fail
        have HJ : Hid (JK w ((w2.alloc (.cells #[.int .i64 l', .int .i64 r', .int .i64 0, .int .i64 zs, .int .i64 z2, .int .i64 z3, .int .i64 z4] 50)).alloc (.cells #[.pointer (some ⟨g, 0, none⟩)] 177)) g q ks (w2.heap.size + 1) w2.heap.size ⟨l', r', 0, zs, z2, z3, z4⟩) := by
          have hz := HB2.out.size
          have hk : Below w2.heap.size w2 (w2.alloc (.cells #[.int .i64 l', .int .i64 r', .int .i64 0, .int .i64 zs, .int .i64 z2, .int .i64 z3, .int .i64 z4] 50)) := (Below.refl _ _).alloc (Nat.le_refl _) _
          have bk : blkK (w2.alloc (.cells #[.int .i64 l', .int .i64 r', .int .i64 0, .int .i64 zs, .int .i64 z2, .int .i64 z3, .int .i64 z4] 50)) w2.heap.size ⟨l', r', 0, zs, z2, z3, z4⟩ := heap_alloc_new _ _
          have es : (w2.alloc (.cells #[.int .i64 l', .int .i64 r', .int .i64 0, .int .i64 zs, .int .i64 z2, .int .i64 z3, .int .i64 z4] 50)).heap.size = w2.heap.size + 1 := by simp
          generalize w2.alloc (.cells #[.int .i64 l', .int .i64 r', .int .i64 0, .int .i64 zs, .int .i64 z2, .int .i64 z3, .int .i64 z4] 50) = w3 at hk bk es ⊢
          have hj : Below w3.heap.size w3 (w3.alloc (.cells #[.pointer (some ⟨g, 0, none⟩)] 177)) := (Below.refl _ _).alloc (Nat.le_refl _) _
          have hb3 := HB2.out.trans (hk.mono hz)
          rw [← es]
          exact Lib.hid ⟨(HA.out.1.below hb3).below hj, hb3.trans (hj.mono hb3.size), heap_alloc_new _ _, bk.below hj, by omega, hz⟩
        clear HB2
        ((with_reducible refine (S2.out _ HJ.out.ar).mono ?_); rintro e w4 ⟨rfl, hb4⟩)
        have HJ4 := Lib.hid (HJ.out.below hb4)
        clear hb4 HJ S2
        have HCL := Lib.hid (HA.out.2.fr (Fr.of_below HJ4.out.bl))
        have hnj : ¬ foot g q (w2.heap.size + 1) := fun hf => by
          have := HJ4.out.gj
          rcases hf with e | e
          · have := HA.out.1.lt; omega
          · have := HA.out.1.row_lt e; omega
        have hnk : ¬ foot g q w2.heap.size := fun hf => by
          have := HJ4.out.gk
          rcases hf with e | e
          · have := HA.out.1.lt; omega
          · have := HA.out.1.row_lt e; omega
        generalize w2.heap.size + 1 = bj at HJ4 hnj ⊢
        generalize w2.heap.size = bk at HJ4 hnk ⊢
        have k0 := HJ4.out.k.c0
        have k1 := HJ4.out.k.c1
        simp only at k0 k1
        by_cases hc : L.size < a
        · obtain ⟨bl, br, hh, hmm, hma, hnn⟩ := HBD.out
          have HP := Lib.hid (IH.out ks r' (a - L.size) R (by omega) H0.out.1 HI.out.2.1 (by omega) (by have := HZS.out; omega) (fun p hp => H0.out.2.2.2 p (by simp [T.lv, hp])) (by omega) (by omega))
          clear bl br hh hmm hma hnn
          go_wp2_with fail
          ((with_reducible refine (HP.out.run _ _ (resCl_at HJ4.out.ar HCL.out)).mono ?_); rintro e w5 ⟨v, ks1, F1, rfl, ⟨x, y, A, B, n1, m1, rfl, p1, p2, p3, p4, p5⟩, ⟨⟨q1, rfl, ha1⟩, hcl1⟩, hf1⟩)
          have j5 := HJ4.out.j.fr hf1 hnj
          have k5 := HJ4.out.k.fr hf1 hnk
          have cj := j5.c
          have ck := k5.c0
          simp only at ck
          have HE := Lib.hid (And.intro p1 (And.intro p2 (And.intro p3 (And.intro p4 (And.intro p5 (And.intro ha1 (And.intro hcl1 hf1)))))))
          have HQ : Hid (Does Try.prog (resAr g) 102 #[.agg #[.pointer (some ⟨g, 0, none⟩)], .int .i64 l', .int .i64 x] ks1 (joinP ks1 l' x L A)) := by
            obtain ⟨bl, br, hh, hmm, hma, hnn⟩ := HBD.out
            have hA1 := p5.many
            have hA2 := T.bounds p5.oka
            have hA3 := T.bounds p5.okb
            have hA4 := p5.cost (by omega)
            have hA5 := p4.len
            have hsz : A.size + B.size = R.size := by
              have e1 : A.lv = (cutL f R.lv (a - L.size)).1 := congrArg Prod.fst p5.cut
              have e2 : B.lv = (cutL f R.lv (a - L.size)).2 := congrArg Prod.snd p5.cut
              rw [T.size_lv, T.size_lv, T.size_lv, e1, e2, cutL_bytes (T.pos HI.out.2.2.2)]
            exact Lib.hid (join_any g _ ks1 l' x L A (Nat.le_refl _) p3 (HI.out.1.ext p4) p1 (by have := HSR.out; omega) (by omega))
          clear p1 p2 p3 p4 p5 ha1 hcl1 hf1 j5 k5
          go_wp2_with fail
          ((with_reducible refine ((does_cl HQ.out).run _ _ (resCl_at HE.out.2.2.2.2.2.1 HE.out.2.2.2.2.2.2.1)).mono ?_); rintro e w6 ⟨v, ks2, F2, rfl, ⟨t2, Y, n2, rfl, p6, p7, p8, p9, _, _⟩, ha2, hf2⟩)
          have HE2 := Lib.hid (And.intro p6 (And.intro p7 (And.intro p8 (And.intro p9 (And.intro ha2 hf2)))))
          clear p6 p7 p8 p9 ha2 hf2
          go_wp2
          go_ret3
          obtain ⟨p1, p2, p3, p4, p5, _, _, hf1⟩ := HE.out
          obtain ⟨p6, p7, p8, p9, ha2, hf2⟩ := HE2.out
          have h9 := p4.trans p8
          rw [Nat.add_zero] at h9
          exact ⟨_, ks2, F2, rfl, ⟨t2, y, Y, B, _, _, rfl, p6, p2.ext p8, p7, h9, SplitOk.right p5 p9 H0.out.2.2.1 hc⟩, ha2, ((Fr.of_below HJ4.out.bl).trans hf1).trans hf2⟩
        · obtain ⟨bl, br, hh, hmm, hma, hnn⟩ := HBD.out
          have HP := Lib.hid (IH.out ks l' a L (by omega) H0.out.1 HI.out.1 ha0 (by omega) (fun p hp => H0.out.2.2.2 p (by simp [T.lv, hp])) (by omega) (by omega))
          clear bl br hh hmm hma hnn
          go_wp2_with fail
          ((with_reducible refine (HP.out.run _ _ (resCl_at HJ4.out.ar HCL.out)).mono ?_); rintro e w5 ⟨v, ks1, F1, rfl, ⟨x, y, A, B, n1, m1, rfl, p1, p2, p3, p4, p5⟩, ⟨⟨q1, rfl, ha1⟩, hcl1⟩, hf1⟩)
          have j5 := HJ4.out.j.fr hf1 hnj
          have k5 := HJ4.out.k.fr hf1 hnk
          have cj := j5.c
          have ck := k5.c1
          simp only at ck
          have HE := Lib.hid (And.intro p1 (And.intro p2 (And.intro p3 (And.intro p4 (And.intro p5 (And.intro ha1 (And.intro hcl1 hf1)))))))
          have HQ : Hid (Does Try.prog (resAr g) 102 #[.agg #[.pointer (some ⟨g, 0, none⟩)], .int .i64 y, .int .i64 r'] ks1 (joinP ks1 y r' B R)) := by
            obtain ⟨bl, br, hh, hmm, hma, hnn⟩ := HBD.out
            have hA1 := p5.many
            have hA2 := T.bounds p5.oka
            have hA3 := T.bounds p5.okb
            have hA4 := p5.cost (by omega)
            have hA5 := p4.len
            have hsz : A.size + B.size = L.size := by
              have e1 : A.lv = (cutL f L.lv a).1 := congrArg Prod.fst p5.cut
              have e2 : B.lv = (cutL f L.lv a).2 := congrArg Prod.snd p5.cut
              rw [T.size_lv, T.size_lv, T.size_lv, e1, e2, cutL_bytes (T.pos HI.out.2.2.1)]
            exact Lib.hid (join_any g _ ks1 y r' B R (Nat.le_refl _) p3 p2 (HI.out.2.1.ext p4) (by have := HSR.out; omega) (by omega))
          clear p1 p2 p3 p4 p5 ha1 hcl1 hf1 j5 k5
          go_wp2_with fail
          ((with_reducible refine ((does_cl HQ.out).run _ _ (resCl_at HE.out.2.2.2.2.2.1 HE.out.2.2.2.2.2.2.1)).mono ?_); rintro e w6 ⟨v, ks2, F2, rfl, ⟨t2, Y, n2, rfl, p6, p7, p8, p9, _, _⟩, ha2, hf2⟩)
          have HE2 := Lib.hid (And.intro p6 (And.intro p7 (And.intro p8 (And.intro p9 (And.intro ha2 hf2)))))
          clear p6 p7 p8 p9 ha2 hf2
          go_wp2
          go_ret3
          obtain ⟨p1, p2, p3, p4, p5, _, _, hf1⟩ := HE.out
          obtain ⟨p6, p7, p8, p9, ha2, hf2⟩ := HE2.out
          have h9 := p4.trans p8
          rw [Nat.add_zero] at h9
          exact ⟨_, ks2, F2, rfl, ⟨x, t2, A, Y, _, _, rfl, p1.ext p8, p6, p7, h9, SplitOk.left p5 p9 H0.out.2.2.1 ha0 (by omega)⟩, ha2, ((Fr.of_below HJ4.out.bl).trans hf1).trans hf2⟩
end Go.Proofs.Ytoeamnagmehpeaa.Ar


/- Balance: going over a rope's knots, with whatever is done at each. -/
namespace Go.Proofs.Ytoeamnagmehpeaa.Ar
set_option linter.unusedSimpArgs false
set_option linter.unusedVariables false
open Go Go.RowKit
attribute [local go_sem] lt_add1 lt_self1 size_ne size_ne' size_ne1 size_ne1'
attribute [local irreducible] wpGrow wpThr

/-- what is done at each knot, its parts first. -/
def T.fold {σ : Type} (step : σ → T → σ) : T → σ → σ
  | .nil, s => s
  | .leaf o n f, s => step s (.leaf o n f)
  | .node l r, s => step (r.fold step (l.fold step s)) (.node l r)

/-- what it asks on its way. -/
def T.pre {σ : Type} (step : σ → T → σ) (Pre : σ → T → Prop) : T → σ → Prop
  | .nil, _ => True
  | .leaf o n f, s => Pre s (.leaf o n f)
  | .node l r, s => l.pre step Pre s ∧ r.pre step Pre (l.fold step s) ∧ Pre (r.fold step (l.fold step s)) (.node l r)

set_option maxHeartbeats 4000000 in
theorem bwalk_any {σ : Type} (R : Res σ) (g : Nat) (ks : List Knot) (hw : WF ks) (hks : ks.length ≤ small) (hAr : ∀ {w F s}, R.at_ w F s → ∃ q, Arena w g q ks) (kf : Nat) (caps : Array Value) (step : σ → T → σ) (Pre : σ → T → Prop)
    (eg : ∀ args w, (callFunc kf args).run Try.prog w = .ok (.enter kf args) w)
    (hdo : ∀ (t : Int) (X : T) (s : σ), Is ks t X → 0 < X.size → Pre s X → Does Try.prog R kf (#[(getK ks t).val] ++ caps) s (fun v s' => v = .tuple #[] ∧ s' = step s X)) :
    ∀ (m : Nat) (t : Int) (X : T) (s : σ), X.cnt ≤ m → Is ks t X → X.pre step Pre s → Does Try.prog R 106 #[.pointer (some ⟨g, 0, none⟩), .int .i64 t, .func (.func kf) #[] caps] s (fun v s' => v = .tuple #[] ∧ s' = X.fold step s) := by
  intro m
  induction m with
  | zero => intro t X s hm; have := T.cnt_pos X; omega
  | succ m ih =>
  rintro t X s hm ht hpre w F ha
  obtain ⟨q, har⟩ := hAr ha
  have HX := Lib.hid (And.intro hm (And.intro ht ha))
  have HPRE := Lib.hid hpre
  have IH := Lib.hid ih
  have G := Lib.hid (get_any g q ks t w har hks)
  have HD := Lib.hid hdo
  have EG := Lib.hid eg
  unfold Knot.val at G
  clear hm ha ih hdo eg har hpre
  cases X with
  | nil =>
    obtain rfl := HX.out.2.1.nil_
    have e1 : getB ks 0 = false := by simp [getB, getS]
    rw [e1] at G
    generalize getK ks 0 = k at G
    go_enter Try.func106, Try.ntmps106
    go_wp2_with fail
    ((with_reducible refine G.out.mono ?_); rintro e w1 ⟨rfl, hb1⟩)
    have HB := Lib.hid hb1
    clear hb1
    go_wp2
    refine bodyPost_ret (v := .tuple #[]) (by simp [results, Try.results106, go_sem]) rfl ?_
    have hb := HB.out.alloc HB.out.size (.cells #[.int .i64 k.left, .int .i64 k.right, .int .i64 k.off, .int .i64 k.len, .int .i64 k.high, .int .i64 k.leaves, .int .i64 k.feeds] 50)
    exact ⟨_, s, F, rfl, ⟨rfl, rfl⟩, R.below HX.out.2.2 hb, Fr.of_below hb⟩
  | leaf o n f =>
    obtain ⟨gk, gb, _⟩ := HX.out.2.1.leaf_
    have hd := HD.out t _ s HX.out.2.1 (by have := HX.out.2.1.ok hw; simp only [T.ok] at this; simp only [T.size]; omega) HPRE.out
    rw [gk] at hd
    rw [gk, gb] at G
    unfold Knot.val leafK at hd
    simp only at hd
    unfold leafK at G
    simp only at G
    have HP := Lib.hid hd
    clear hd gk gb
    go_enter Try.func106, Try.ntmps106
    go_wp2_with fail
    ((with_reducible refine G.out.mono ?_); rintro e w1 ⟨rfl, hb1⟩)
    have hb := hb1.alloc hb1.size (.cells #[.int .i64 0, .int .i64 0, .int .i64 o, .int .i64 n, .int .i64 1, .int .i64 1, .int .i64 f] 50)
    have HB := Lib.hid (And.intro hb (R.below HX.out.2.2 hb))
    have eg := EG.out
    clear hb1 hb
    go_wp2_with fail
    ((with_reducible refine (HP.out.run _ _ HB.out.2).mono ?_); rintro e w2 ⟨v, s2, F2, rfl, ⟨rfl, rfl⟩, ha2, hf2⟩)
    have HE := Lib.hid (And.intro ha2 ((Fr.of_below HB.out.1).trans hf2))
    clear ha2 hf2
    go_wp2
    go_end0
    exact ⟨_, _, F2, rfl, ⟨rfl, rfl⟩, HE.out.1, HE.out.2⟩
  | node L R' =>
    obtain ⟨l', r', e1, e2, hI1, hI2, gb, _, _, _, gk⟩ := HX.out.2.1.node_
    have okN := HX.out.2.1.ok hw
    simp only [T.ok] at okN
    have hd := HD.out t _ _ HX.out.2.1 (show 0 < (T.node L R').size by simp only [T.size]; omega) HPRE.out.2.2
    rw [gk] at hd
    rw [gk, gb] at G
    unfold Knot.val at hd
    simp only at hd G
    have HP := Lib.hid hd
    have hcn := HX.out.1
    simp only [T.cnt] at hcn
    have HI := Lib.hid (And.intro (IH.out l' L s (by omega) hI1 HPRE.out.1) (IH.out r' R' _ (by omega) hI2 HPRE.out.2.1))
    clear hd gk gb hI1 hI2 okN hcn
    generalize L.size + R'.size = z1 at G HP
    generalize 1 + max L.high R'.high = z2 at G HP
    generalize L.many + R'.many = z3 at G HP
    generalize L.feeds + R'.feeds = z4 at G HP
    go_enter Try.func106, Try.ntmps106
    go_wp2_with fail
    ((with_reducible refine G.out.mono ?_); rintro e w1 ⟨rfl, hb1⟩)
    have hb := hb1.alloc hb1.size (.cells #[.int .i64 l', .int .i64 r', .int .i64 0, .int .i64 z1, .int .i64 z2, .int .i64 z3, .int .i64 z4] 50)
    have hk : blkK (w1.alloc (.cells #[.int .i64 l', .int .i64 r', .int .i64 0, .int .i64 z1, .int .i64 z2, .int .i64 z3, .int .i64 z4] 50)) w1.heap.size ⟨l', r', 0, z1, z2, z3, z4⟩ := heap_alloc_new _ _
    have hnf : ¬ F w1.heap.size := fun hf => by have := R.lt HX.out.2.2 _ hf; have := hb1.size; omega
    have HB := Lib.hid (And.intro hb (R.below HX.out.2.2 hb))
    have HK := Lib.hid hk
    clear hb1 hb hk
    go_wp2_with fail
    ((with_reducible refine (HI.out.1.run _ _ HB.out.2).mono ?_); rintro e w2 ⟨v, s2, F2, rfl, ⟨rfl, rfl⟩, ha2, hf2⟩)
    have HK2 := Lib.hid (HK.out.fr hf2 hnf)
    have hnf2 := hf2.out HK.out.lt hnf
    have HE := Lib.hid (And.intro ha2 ((Fr.of_below HB.out.1).trans hf2))
    have c1 := HK2.out.c1
    simp only at c1
    clear ha2 hf2 HK HB
    go_wp2_with fail
    ((with_reducible refine (HI.out.2.run _ _ HE.out.1).mono ?_); rintro e w3 ⟨v, s3, F3, rfl, ⟨rfl, rfl⟩, ha3, hf3⟩)
    have HK3 := Lib.hid (HK2.out.fr hf3 hnf2)
    have HE3 := Lib.hid (And.intro ha3 (HE.out.2.trans hf3))
    clear ha3 hf3 HE HK2 c1
    have c0 := HK3.out.c0
    have c1 := HK3.out.c1
    have c2 := HK3.out.c2
    have c3 := HK3.out.c3
    have c4 := HK3.out.c4
    have c5 := HK3.out.c5
    have c6 := HK3.out.c6
    simp only at c0 c1 c2 c3 c4 c5 c6
    have eg := EG.out
    go_wp2_with fail
    ((with_reducible refine (HP.out.run _ _ HE3.out.1).mono ?_); rintro e w4 ⟨v, s4, F4, rfl, ⟨rfl, rfl⟩, ha4, hf4⟩)
    have HE4 := Lib.hid (And.intro ha4 (HE3.out.2.trans hf4))
    clear ha4 hf4 HE3 c0 c1 c2 c3 c4 c5 c6
    go_wp2
    go_end0
    exact ⟨_, _, F4, rfl, ⟨rfl, rfl⟩, HE4.out.1, HE4.out.2⟩
end Go.Proofs.Ytoeamnagmehpeaa.Ar


/- Balance: Leaves and Balanced. -/
namespace Go.Proofs.Ytoeamnagmehpeaa.Ar
set_option linter.unusedSimpArgs false
set_option linter.unusedVariables false
open Go Go.RowKit
attribute [local go_sem] lt_add1 lt_self1 size_ne size_ne' size_ne1 size_ne1'
attribute [local irreducible] wpGrow wpThr

abbrev Pc := Int × Int
def pcells (p : Pc) : List Value := [.int .i64 p.1, .int .i64 p.2]
theorem pcells_length (p : Pc) : (pcells p).length = 2 := rfl
theorem piece_info : (Try.prog.info? 173).map (fun i => (i.zero, i.size, i.bytes)) = some (some (.agg #[.int .i64 0, .int .i64 0]), 2, 16) := by kernel_rfl

section
variable {B g : Nat} {q : Option Nat} {ks : List Knot} {bo : Nat} {v : Value} {w w' : World} {s : List Pc}
end
def stepL (s : List Pc) (X : T) : List Pc := match X with | .leaf o n _ => s ++ [(o, n)] | _ => s
theorem fold_stepL (X : T) : ∀ s, X.fold stepL s = s ++ X.lv.map (fun p => (p.1, p.2.1)) := by
  induction X with
  | nil => intro s; simp [T.fold, T.lv]
  | leaf o n f => intro s; simp [T.fold, T.lv, stepL]
  | node l r hl hr => intro s; simp [T.fold, T.lv, hl, hr, stepL]
def preL (s : List Pc) (_ : T) : Prop := s.length + 1 ≤ small
theorem pre_stepL (X : T) : ∀ s : List Pc, (s.length : Int) + X.many + 1 ≤ 1073741824 → X.ok → X.pre stepL preL s := by
  induction X with
  | nil => intro s _ _; trivial
  | leaf o n f => intro s h _; simp only [T.many] at h; show s.length + 1 ≤ small; unfold small; omega
  | node l r hl hr =>
    intro s h hok
    have bl := T.bounds hok.1
    have br := T.bounds hok.2.1
    simp only [T.many] at h
    have e1 : (l.fold stepL s).length = s.length + l.lv.length := by rw [fold_stepL]; simp
    have e2 : (r.fold stepL (l.fold stepL s)).length = s.length + l.lv.length + r.lv.length := by rw [fold_stepL, List.length_append, e1]; simp
    have m1 := T.many_lv l
    have m2 := T.many_lv r
    refine ⟨hl s (by omega) hok.1, hr _ (by rw [e1]; omega) hok.2.1, ?_⟩
    show (r.fold stepL (l.fold stepL s)).length + 1 ≤ small
    unfold small
    omega

def pieces (X : T) : List Pc := X.lv.map fun p => (p.1, p.2.1)

/-! ### Balanced -/
def stepB (s : Bool) (X : T) : Bool := match X with | .node L R => s && (decide (L.high ≤ R.high + 1) && decide (R.high ≤ L.high + 1)) | _ => s
def balB : T → Bool
  | .nil => true
  | .leaf _ _ _ => true
  | .node l r => balB l && balB r && (decide (l.high ≤ r.high + 1) && decide (r.high ≤ l.high + 1))
theorem balB_iff (X : T) : balB X = true ↔ X.bal := by
  induction X with
  | nil => simp [balB, T.bal]
  | leaf o n f => simp [balB, T.bal]
  | node l r hl hr => simp [balB, T.bal, hl, hr, and_assoc]
theorem fold_stepB (X : T) : ∀ s, X.fold stepB s = (s && balB X) := by
  induction X with
  | nil => intro s; simp [T.fold, balB]
  | leaf o n f => intro s; simp [T.fold, balB, stepB]
  | node l r hl hr => intro s; simp only [T.fold, hl, hr, stepB, balB]; simp only [Bool.and_assoc]
def preB (_ : Bool) (_ : T) : Prop := True
theorem pre_stepB (X : T) : ∀ s : Bool, X.pre stepB preB s := by
  induction X with
  | nil => intro s; trivial
  | leaf o n f => intro s; trivial
  | node l r hl hr => intro s; exact ⟨hl s, hr _, trivial⟩

structure AllAt (g : Nat) (q : Option Nat) (ks : List Knot) (bp ba : Nat) (w : World) (s : Bool) : Prop where
  all : w.heap[ba]? = some (.cells #[.bool s] 4 (0, 0))
  p : w.heap[bp]? = some (.cells #[.pointer (some ⟨g, 0, none⟩)] 123 (0, 0))
  ar : Arena w g q ks
  ne : bp ≠ ba
  apart : ¬ foot g q ba
theorem AllAt.below {g : Nat} {q : Option Nat} {ks : List Knot} {bp ba : Nat} {w w' : World} {s : Bool} (h : AllAt g q ks bp ba w s) (hb : Below w.heap.size w w') : AllAt g q ks bp ba w' s :=
  ⟨(hb.block ba (Array.getElem?_eq_some_iff.1 h.all).1).trans h.all, (hb.block bp (Array.getElem?_eq_some_iff.1 h.p).1).trans h.p, h.ar.below hb, h.ne, h.apart⟩
def resAll (g : Nat) (q : Option Nat) (ks : List Knot) (bp ba : Nat) : Res Bool where
  at_ := fun w F s => F = (fun b => b = ba) ∧ AllAt g q ks bp ba w s
  below := fun h hb => ⟨h.1, h.2.below hb⟩
  lt := fun h b hb => by
    rw [h.1] at hb
    subst hb
    exact (Array.getElem?_eq_some_iff.1 h.2.all).1
theorem AllAt.set {g : Nat} {q : Option Nat} {ks : List Knot} {bp ba : Nat} {w : World} {s : Bool} (h : AllAt g q ks bp ba w s) (s' : Bool) : AllAt g q ks bp ba (w.setCell ⟨ba, 0, none⟩ (.bool s')) s' ∧ Fr w (fun b => b = ba) (w.setCell ⟨ba, 0, none⟩ (.bool s')) (fun b => b = ba) := by
  have hfr : Fr w (fun b => b = ba) (w.setCell ⟨ba, 0, none⟩ (.bool s')) (fun b => b = ba) := ⟨rfl, rfl, rfl, by simp [World.setCell], fun b _ hn => Below.heap_setCell _ _ _ _ hn, fun b hb => .inl hb⟩
  refine ⟨⟨?_, ?_, h.ar.keep hfr (fun b hb e => h.apart (e ▸ hb)), h.ne, h.apart⟩, hfr⟩
  · simp [World.setCell, Array.getElem?_modify, h.all]
  · rw [Below.heap_setCell _ _ _ _ h.ne]; exact h.p

def allPost (w : World) (g : Nat) (q : Option Nat) (ks : List Knot) (bp ba : Nat) (r : Bool) (e : Ending) (w' : World) : Prop := ∃ v s' F', e = .returned v ∧ (v = .tuple #[] ∧ s' = r) ∧ (resAll g q ks bp ba).at_ w' F' s' ∧ Fr w (fun b => b = ba) w' F'

set_option maxHeartbeats 2000000 in
theorem balanced_clo (g : Nat) (q : Option Nat) (ks : List Knot) (bp ba : Nat) (hw : WF ks) (hks : ks.length ≤ small) (t : Int) (X : T) (s : Bool) (ht : Is ks t X) (h0 : 0 < X.size) :
    Does Try.prog (resAll g q ks bp ba) 107 (#[(getK ks t).val] ++ #[.pointer (some ⟨bp, 0, none⟩), .pointer (some ⟨ba, 0, none⟩)]) s (fun v s' => v = .tuple #[] ∧ s' = stepB s X) := by
  rintro w F ⟨rfl, ha⟩
  have HA := Lib.hid ha
  have HH := Lib.hid (fun (t : Int) w' (ha : Arena w' g q ks) => bhigh_any g q ks t w' ha hks)
  have hba := (Array.getElem?_eq_some_iff.1 ha.all).1
  have hbp := (Array.getElem?_eq_some_iff.1 ha.p).1
  -- a knot of whatever numbers
  have main : ∀ (k : Knot) (x y : Int) (d : Bool), (getK ks k.left).high = x → (getK ks k.right).high = y → 0 ≤ x → x ≤ 1099511627776 → 0 ≤ y → y ≤ 1099511627776 → d = (k.left == 0 || (decide (-1 ≤ x - y) && decide (x - y ≤ 1))) →
      Calls Try.prog 107 (#[k.val] ++ #[.pointer (some ⟨bp, 0, none⟩), .pointer (some ⟨ba, 0, none⟩)]) w (allPost w g q ks bp ba (s && d)) := by
    intro k x y d hx hy hx0 hx1 hy0 hy1 hd
    have HX := Lib.hid (And.intro hx (And.intro hy hd))
    have hb0 : Below w.heap.size w (w.alloc (.cells #[.int .i64 k.left, .int .i64 k.right, .int .i64 k.off, .int .i64 k.len, .int .i64 k.high, .int .i64 k.leaves, .int .i64 k.feeds] 50)) := (Below.refl _ _).alloc (Nat.le_refl _) _
    have hk0 : blkK (w.alloc (.cells #[.int .i64 k.left, .int .i64 k.right, .int .i64 k.off, .int .i64 k.len, .int .i64 k.high, .int .i64 k.leaves, .int .i64 k.feeds] 50)) w.heap.size k := heap_alloc_new _ _
    have HW := Lib.hid (And.intro (HA.out.below hb0) (And.intro hk0 hb0))
    have hwr : IntKind.i64.wrap (x - y) = x - y := IntWalk.i64_in _ (by omega)
    clear hx hy hd hb0 hk0 ha
    unfold Knot.val
    go_enter Try.func107, Try.ntmps107
    go_wp2_with fail
    generalize w.alloc (.cells #[.int .i64 k.left, .int .i64 k.right, .int .i64 k.off, .int .i64 k.len, .int .i64 k.high, .int .i64 k.leaves, .int .i64 k.feeds] 50) = W at HW ⊢
    have HBW := Lib.hid (Fr.of_below (F := fun b => b = ba) HW.out.2.2)
    have hbaW : ba < W.heap.size := by have := HW.out.2.2.size; omega
    have hbpW : bp < W.heap.size := by have := HW.out.2.2.size; omega
    generalize w.heap.size = bk at HW hba hbp ⊢
    have k0 := HW.out.2.1.c0
    have k1 := HW.out.2.1.c1
    have hbk := HW.out.2.1.lt
    have p0 : W.cell? ⟨bp, 0, none⟩ = some (.pointer (some ⟨g, 0, none⟩)) := cell_of_row W bp 0 _ _ (0, 0) HW.out.1.p
    refine wp_region_grow 10 (by kernel_rfl) (by kernel_rfl) ?_
    simp only [List.take_succ_cons, List.take_zero, List.drop_succ_cons, List.drop_zero, List.take_nil, List.drop_nil]
    iterate 3 ((refine wpGrow_val' rfl rfl ?_; apply Exists.intro; refine ⟨fun w1 hw1 => ?_, ?_⟩); (have hc1 := hw1.cell; go_simp; exact growUpon_ok rfl); (refine wpGrow_at (by (simp only [Act.put, List.setIfInBounds_toArray, List.set_cons_succ, List.set_cons_zero]) <;> exact rfl) ?_))
    (refine wpGrow_val' rfl rfl ?_; apply Exists.intro; refine ⟨fun w1 hw1 => ?_, ?_⟩)
    · go_simp
      have := HH.out k.left _ (HW.out.1.ar.below hw1.below)
      rw [HX.out.1] at this
      exact growUpon_call this
    (refine wpGrow_at (by (simp only [Act.put, List.setIfInBounds_toArray, List.set_cons_succ, List.set_cons_zero]) <;> exact rfl) ?_)
    iterate 3 ((refine wpGrow_val' rfl rfl ?_; apply Exists.intro; refine ⟨fun w1 hw1 => ?_, ?_⟩); (have hc1 := hw1.cell; go_simp; exact growUpon_ok rfl); (refine wpGrow_at (by (simp only [Act.put, List.setIfInBounds_toArray, List.set_cons_succ, List.set_cons_zero]) <;> exact rfl) ?_))
    (refine wpGrow_val' rfl rfl ?_; apply Exists.intro; refine ⟨fun w1 hw1 => ?_, ?_⟩)
    · go_simp
      have := HH.out k.right _ (HW.out.1.ar.below hw1.below)
      rw [HX.out.2.1] at this
      exact growUpon_call this
    (refine wpGrow_at (by (simp only [Act.put, List.setIfInBounds_toArray, List.set_cons_succ, List.set_cons_zero]) <;> exact rfl) ?_)
    iterate 2 ((refine wpGrow_val' rfl rfl ?_; apply Exists.intro; refine ⟨fun w1 hw1 => ?_, ?_⟩); (have hc1 := hw1.cell; go_simp; exact growUpon_ok rfl); (refine wpGrow_at (by (simp only [Act.put, List.setIfInBounds_toArray, List.set_cons_succ, List.set_cons_zero]) <;> exact rfl) ?_))
    refine wpGrow_nil ?_
    intro w2 hD
    have HA2 := Lib.hid (And.intro (HW.out.1.below hD.below) (And.intro (HW.out.2.1.below hD.below) (HBW.out.trans (Fr.of_below hD.below))))
    clear hD k0 k1 p0
    have hba2 := (Array.getElem?_eq_some_iff.1 HA2.out.1.all).1
    have k0 := HA2.out.2.1.c0
    have hbk2 := HA2.out.2.1.lt
    have a0 : w2.cell? ⟨ba, 0, none⟩ = some (.bool s) := cell_of_row w2 ba 0 _ _ (0, 0) HA2.out.1.all
    have af : w2.frozen? ⟨ba, 0, none⟩ = false := by simp [World.frozen?, HA2.out.1.all]
    have fin : ∀ s' : Bool, s' = (s && d) → allPost w g q ks bp ba (s && d) (Ending.returned (.tuple #[])) (w2.setCell ⟨ba, 0, none⟩ (.bool s')) := fun s' e => by
      obtain ⟨h1, h2⟩ := HA2.out.1.set s'
      exact ⟨_, s', _, rfl, ⟨rfl, e⟩, ⟨rfl, h1⟩, HA2.out.2.2.trans h2⟩
    have FIN := Lib.hid fin
    clear fin
    cases s with
    | false =>
      go_wp2
      go_end0
      exact FIN.out false (by simp)
    | true =>
      by_cases hl : k.left = 0
      · rw [hl] at k0
        have hd : d = true := by rw [HX.out.2.2]; simp [hl]
        clear hl
        go_wp2
        go_end0
        exact FIN.out true (by rw [hd]; rfl)
      · have hz : (k.left == 0) = false := by simpa using hl
        by_cases h1 : -1 ≤ x - y
        · by_cases h2 : x - y ≤ 1
          · have hd : d = true := by rw [HX.out.2.2]; simp [h1, h2]
            clear hl
            go_wp2
            go_end0
            first | exact FIN.out true (by rw [hd]; rfl) | (simp only [decide_eq_true h1, decide_eq_true h2, Bool.and_true, Bool.true_and]; exact FIN.out true (by rw [hd]; rfl))
          · have hd : d = false := by rw [HX.out.2.2]; simp [h2, hz]
            have h2' : decide (x - y ≤ 1) = false := by simpa using h2
            have HD := Lib.hid hd
            clear hl hd
            go_wp2
            go_end0
            exact FIN.out false (by rw [HD.out]; rfl)
        · have hd : d = false := by rw [HX.out.2.2]; simp [h1, hz]
          have h1' : decide (-1 ≤ x - y) = false := by simpa using h1
          have HD := Lib.hid hd
          clear hl hd
          go_wp2
          go_end0
          exact FIN.out false (by rw [HD.out]; rfl)
  have bX := T.bounds (ht.ok hw)
  cases X with
  | nil => simp [T.size] at h0
  | leaf o n f =>
    rw [ht.leaf_.1]
    have e0 : (getK ks 0).high = 0 := by simp [getK, getS, Knot.zero]
    refine (main (leafK o n f) 0 0 true e0 e0 (by omega) (by omega) (by omega) (by omega) rfl).mono ?_
    rintro e w' ⟨v, s', F', he, ⟨h1, h2⟩, h3⟩
    exact ⟨v, s', F', he, ⟨h1, by rw [h2]; simp [stepB]⟩, h3⟩
  | node L R =>
    obtain ⟨l', r', e1, e2, i1, i2, _, _, _, _, gk⟩ := ht.node_
    have okN := ht.ok hw
    have bl := T.bounds okN.1
    have br := T.bounds okN.2.1
    rw [gk]
    refine (main ⟨l', r', 0, L.size + R.size, 1 + max L.high R.high, L.many + R.many, L.feeds + R.feeds⟩ L.high R.high (decide (L.high ≤ R.high + 1) && decide (R.high ≤ L.high + 1)) i1.knot.2.1 i2.knot.2.1 (by omega) (by omega) (by omega) (by omega) ?_).mono ?_
    · have : (l' == 0) = false := by simp; omega
      simp only [this, Bool.false_or]
      rw [Bool.eq_iff_iff]
      simp only [Bool.and_eq_true, decide_eq_true_eq]
      omega
    · rintro e w' ⟨v, s', F', he, ⟨h1, h2⟩, h3⟩
      exact ⟨v, s', F', he, ⟨h1, h2⟩, h3⟩

set_option maxHeartbeats 1000000 in
theorem balanced_any (g : Nat) (q : Option Nat) (ks : List Knot) (t : Int) (X : T) (hw : WF ks) (ht : Is ks t X) (hks : ks.length ≤ small) (w : World) (ha : Arena w g q ks) :
    Calls Try.prog 75 #[.pointer (some ⟨g, 0, none⟩), .int .i64 t] w fun e w' => e = .returned (.bool (balB X)) ∧ Below w.heap.size w w' := by
  have hg := ha.lt
  have eg : ∀ args w, (callFunc 107 args).run Try.prog w = .ok (.enter 107 args) w := enters_of Try.func107 (by kernel_rfl) rfl
  have s1 := fun w' (ha : Arena w' g q ks) => size_any g q ks t w' ha hks
  rw [is_there ht] at s1
  have S1 := Lib.hid s1
  have HA := Lib.hid ha
  have HP := Lib.hid (fun bp ba => bwalk_any (resAll g q ks bp ba) g ks hw hks (fun h => ⟨q, h.2.ar⟩) 107 #[.pointer (some ⟨bp, 0, none⟩), .pointer (some ⟨ba, 0, none⟩)] stepB preB eg
    (fun t X s h1 h2 _ => balanced_clo g q ks bp ba hw hks t X s h1 h2) X.cnt t X true (Nat.le_refl _) ht (pre_stepB X true))
  generalize (getK ks t).len = z at S1
  clear eg ha hw ht s1
  go_enter Try.func75, Try.ntmps75
  go_wp2_with fail
  have hb0 : Below w.heap.size w (w.alloc (.cells #[.pointer (some ⟨g, 0, none⟩)] 123)) := (Below.refl _ _).alloc (Nat.le_refl _) _
  ((with_reducible refine (S1.out _ (HA.out.below hb0)).mono ?_); rintro e w1 ⟨rfl, hb1⟩)
  have hz1 := hb1.size
  simp at hz1
  have hp1 : w1.heap[w.heap.size]? = some (.cells #[.pointer (some ⟨g, 0, none⟩)] 123 (0, 0)) := (hb1.block _ (by simp)).trans (heap_alloc_new _ _)
  have c1 : w1.cell? ⟨w.heap.size, 0, none⟩ = some (.pointer (some ⟨g, 0, none⟩)) := cell_of_row w1 _ 0 _ _ (0, 0) hp1
  have HB1 := Lib.hid (And.intro (hb0.trans (hb1.mono hb0.size)) (And.intro hp1 ((HA.out.below hb0).below hb1)))
  clear hb0 hb1 hp1
  have hz2 : w.heap.size < w1.heap.size := by omega
  go_wp2_with fail
  have ho : AllAt g q ks w.heap.size w1.heap.size (w1.alloc (.cells #[.bool true] 4)) true := by
    have hb2 : Below w1.heap.size w1 (w1.alloc (.cells #[.bool true] 4)) := (Below.refl _ _).alloc (Nat.le_refl _) _
    refine ⟨heap_alloc_new _ _, (hb2.block _ hz2).trans HB1.out.2.1, HB1.out.2.2.below hb2, by omega, fun hf => ?_⟩
    rcases hf with e | e
    · omega
    · have := HA.out.row_lt e; omega
  have HR := Lib.hid ((HP.out w.heap.size w1.heap.size).run _ _ ⟨rfl, ho⟩)
  have HF1 := Lib.hid (HB1.out.1.alloc HB1.out.1.size (.cells #[.bool true] 4))
  clear ho
  ((with_reducible refine HR.out.mono ?_); rintro e w3 ⟨v, s3, F3, rfl, ⟨rfl, rfl⟩, ⟨rfl, h3⟩, hf3⟩)
  rw [fold_stepB, Bool.true_and] at h3
  have c3 : w3.cell? ⟨w1.heap.size, 0, none⟩ = some (.bool (balB X)) := cell_of_row w3 _ 0 _ _ (0, 0) h3.all
  have HE := Lib.hid (hf3.below HF1.out (fun b hb => by have := HB1.out.1.size; omega) HF1.out.size)
  clear h3 hf3 c1
  go_wp2
  go_ret
  exact ⟨rfl, HE.out⟩

set_option maxHeartbeats 400000 in
theorem balanced_none (g : Nat) (q : Option Nat) (ks : List Knot) (t : Int) (hb : (getB ks t || t == 0) = false) (hks : ks.length ≤ small) (w : World) (ha : Arena w g q ks) :
    Calls Try.prog 75 #[.pointer (some ⟨g, 0, none⟩), .int .i64 t] w fun e w' => e = .returned (.bool false) ∧ Below w.heap.size w w' := by
  have hg := ha.lt
  have s1 := fun w' (ha : Arena w' g q ks) => size_any g q ks t w' ha hks
  rw [hb] at s1
  have S1 := Lib.hid s1
  have HA := Lib.hid ha
  generalize (getK ks t).len = z at S1
  clear ha hb s1
  go_enter Try.func75, Try.ntmps75
  go_wp2_with fail
  have hb0 : Below w.heap.size w (w.alloc (.cells #[.pointer (some ⟨g, 0, none⟩)] 123)) := (Below.refl _ _).alloc (Nat.le_refl _) _
  ((with_reducible refine (S1.out _ (HA.out.below hb0)).mono ?_); rintro e w1 ⟨rfl, hb1⟩)
  have HB1 := Lib.hid (hb0.trans (hb1.mono hb0.size))
  clear hb0 hb1
  go_wp2
  go_ret
  exact ⟨rfl, HB1.out⟩

end Go.Proofs.Ytoeamnagmehpeaa.Ar
