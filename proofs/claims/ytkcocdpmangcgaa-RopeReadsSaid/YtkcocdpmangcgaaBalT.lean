
/- Balance: Split. -/
import Derived.Test.YtkcocdpmangcgaaBalS
namespace Go.Proofs.Ytkcocdpmangcgaa.Ar
set_option linter.unusedSimpArgs false
set_option linter.unusedVariables false
open Go Go.RowKit
attribute [local go_sem] lt_add1 lt_self1 size_ne size_ne' size_ne1 size_ne1'
attribute [local irreducible] wpGrow wpThr

/-- what Split makes. -/
def splitP (f : Int → Int → Int) (ks : List Knot) (X : T) (a : Int) (v : Value) (ks' : List Knot) : Prop :=
  ∃ (x y : Int) (A B : T) (n m : Nat), v = .tuple #[.int .i64 x, .int .i64 y, .int .i64 0] ∧ Is ks' x A ∧ Is ks' y B ∧ WF ks' ∧ Ext ks ks' n m ∧ SplitOk f X A B a n m

set_option maxRecDepth 100000 in
set_option maxHeartbeats 1000000 in
theorem split_bad (g : Nat) (r : Option Nat) (ks : List Knot) (t a : Int) (fv : Value) (w : World) (h : Arena w g r ks) (hn : ks.length ≤ small) (hb : (getB ks t || t == 0) = false ∨ a < 0 ∨ (getK ks t).len < a) :
    Calls Try.prog 28 #[.pointer (some ⟨g, 0, none⟩), .int .i64 t, .int .i64 a, fv] w fun e w' => e = .returned (.tuple #[.int .i64 0, .int .i64 0, .int .i64 2]) ∧ Below w.heap.size w w' := by
  have S1 := Lib.hid (size_any g r ks t w h hn)
  clear h hn
  generalize (getB ks t || t == 0) = o1 at hb S1
  generalize (getK ks t).len = n1 at hb S1
  by_cases ho : o1 = false
  · subst ho
    go_enter Try.func28, Try.ntmps28
    go_wp2_with fail
    ((with_reducible refine S1.out.mono ?_); rintro e w1 ⟨rfl, hb1⟩)
    have HB := Lib.hid hb1
    clear hb1 hb
    go_wp2
    go_ret3
    exact ⟨rfl, HB.out⟩
  · obtain rfl : o1 = true := by simpa using ho
    by_cases h1 : a < 0
    · go_enter Try.func28, Try.ntmps28
      go_wp2_with fail
      ((with_reducible refine S1.out.mono ?_); rintro e w1 ⟨rfl, hb1⟩)
      have HB := Lib.hid hb1
      clear hb1 hb ho
      go_wp2
      go_ret3
      exact ⟨rfl, HB.out⟩
    · have h2 : n1 < a := by rcases hb with h | h | h; · cases h
                             · exact absurd h h1
                             · exact h
      go_enter Try.func28, Try.ntmps28
      go_wp2_with fail
      ((with_reducible refine S1.out.mono ?_); rintro e w1 ⟨rfl, hb1⟩)
      have HB := Lib.hid hb1
      clear hb1 hb ho
      go_wp2
      go_ret3
      exact ⟨rfl, HB.out⟩

set_option maxRecDepth 100000 in
set_option maxHeartbeats 4000000 in
theorem split_any (g kf : Nat) (first : Array Value) (In : Int → Int → Prop) (f : Int → Int → Int) (eg : ∀ args w, (callFunc kf args).run Try.prog w = .ok (.enter kf args) w) (hfd : FdOk In f) :
    ∀ (m : Nat) (ks : List Knot) (t a : Int) (X : T), X.cnt ≤ m → WF ks → Is ks t X → 0 ≤ a → a ≤ X.size → (∀ p ∈ X.lv, In p.1 p.2.1) → X.many ≤ 1000 → (ks.length : Int) + 4000 * X.high ≤ 1073741824 →
    Does Try.prog (resCl g kf first In f) 28 #[.pointer (some ⟨g, 0, none⟩), .int .i64 t, .int .i64 a, .func (.func kf) first #[]] ks (splitP f ks X a) := by
  intro m
  induction m with
  | zero => intro ks t a X hm; have := T.cnt_pos X; omega
  | succ m ih =>
  rintro ks t a X hm hw ht ha0 ha1 hin hmany hn w F ⟨⟨q, rfl, ha⟩, hcl⟩
  have okX := ht.ok hw
  have bX := T.bounds okX
  have hks : ks.length ≤ small := by unfold small; omega
  have s1 := size_any g q ks t w ha hks
  rw [is_there ht, ht.knot.1] at s1
  have S1 := Lib.hid s1
  have HA := Lib.hid (And.intro ha hcl)
  have H0 := Lib.hid (And.intro hw (And.intro ht (And.intro okX hin)))
  have IH := Lib.hid ih
  have HM := Lib.hid (And.intro hm (And.intro hmany (And.intro hn bX)))
  have u1 : X.size ≤ 1099511627776 := by omega
  clear s1 ha hcl hw ht okX hin ih hm hmany hn bX
  by_cases h0 : a = 0
  · subst h0
    go_enter Try.func28, Try.ntmps28
    go_wp2_with fail
    ((with_reducible refine S1.out.mono ?_); rintro e w1 ⟨rfl, hb1⟩)
    have HB := Lib.hid hb1
    clear hb1
    generalize X.size = z at ha0 ha1 u1
    go_wp2
    go_ret3
    exact ⟨_, ks, _, rfl, ⟨0, t, _, X, 0, 0, rfl, .nil rfl, H0.out.2.1, H0.out.1, Ext.refl ks, SplitOk.zero H0.out.2.2.1⟩, ⟨⟨q, rfl, HA.out.1.below HB.out⟩, HA.out.2.fr (Fr.of_below HB.out)⟩, Fr.of_below HB.out⟩
  · have hz0 : (a == 0) = false := by simpa using h0
    by_cases h1 : a = X.size
    · go_enter Try.func28, Try.ntmps28
      rw [← h1] at S1
      go_wp2_with fail
      ((with_reducible refine S1.out.mono ?_); rintro e w1 ⟨rfl, hb1⟩)
      have HB := Lib.hid hb1
      have H1 := Lib.hid h1
      clear hb1 h1
      go_wp2
      go_ret3
      exact ⟨_, ks, _, rfl, ⟨t, 0, X, _, 0, 0, rfl, H0.out.2.1, .nil rfl, H0.out.1, Ext.refl ks, H1.out ▸ SplitOk.all H0.out.2.2.1⟩, ⟨⟨q, rfl, HA.out.1.below HB.out⟩, HA.out.2.fr (Fr.of_below HB.out)⟩, Fr.of_below HB.out⟩
    · have hz1 : (a == X.size) = false := by simpa using h1
      have ha2 : a < X.size := by omega
      have ha3 : 0 < a := by omega
      clear h0 h1
      cases X with
      | nil => simp [T.size] at ha2; omega
      | leaf o n fd =>
        obtain ⟨gk, gb, _⟩ := H0.out.2.1.leaf_
        have hg := fun w' (ha : Arena w' g q ks) => get_any g q ks t w' ha hks
        rw [gk, gb] at hg
        unfold Knot.val leafK at hg
        simp only at hg
        have G := Lib.hid hg
        have hc := cut_any g kf first In f eg hfd ks o n fd a H0.out.1 H0.out.2.2.1 (H0.out.2.2.2 (o, n, fd) (by simp [T.lv])) ha3 ha2 (by have := HM.out.2.2.1; simp only [T.high] at this; unfold small; omega)
        unfold Knot.val leafK at hc
        simp only at hc
        have HC := Lib.hid hc
        clear gk gb hg hc
        simp only [T.size] at S1 ha1 ha2 hz1 u1
        go_enter Try.func28, Try.ntmps28
        go_wp2_with fail
        ((with_reducible refine S1.out.mono ?_); rintro e w1 ⟨rfl, hb1⟩)
        have HB := Lib.hid hb1
        clear hb1
        go_wp2_with fail
        ((with_reducible refine (G.out _ (HA.out.1.below HB.out)).mono ?_); rintro e w2 ⟨rfl, hb2⟩)
        have HB2 := Lib.hid (HB.out.trans (hb2.mono HB.out.size))
        clear hb2 HB G S1
        go_wp2_with fail
        have HB3 := Lib.hid (HB2.out.alloc HB2.out.size (.cells #[.int .i64 0, .int .i64 0, .int .i64 o, .int .i64 n, .int .i64 1, .int .i64 1, .int .i64 fd] 66))
        ((with_reducible refine (HC.out.run _ _ (resCl_at (HA.out.1.below HB3.out) (HA.out.2.fr (Fr.of_below HB3.out)))).mono ?_); rintro e w3 ⟨v, ks', F', rfl, ⟨rfl, p1, p2, p3, p4⟩, ha, hf⟩)
        have HE := Lib.hid (And.intro p1 (And.intro p2 (And.intro p3 (And.intro p4 (And.intro ha hf)))))
        clear p1 p2 p3 p4 ha hf
        go_wp2
        go_ret3
        obtain ⟨p1, p2, p3, p4, ha, hf⟩ := HE.out
        have hin := H0.out.2.2.2 (o, n, fd) (by simp [T.lv])
        obtain ⟨i1, i2⟩ := hfd.sub hin ha3 ha2
        exact ⟨_, ks', F', rfl, ⟨_, _, _, _, 2, 2, rfl, p2, p3, p1, p4, SplitOk.leaf H0.out.2.2.1 ha3 ha2 (hfd.bd i1) (hfd.bd i2)⟩, ha, (Fr.of_below HB3.out).trans hf⟩
      | node L R =>
        obtain ⟨l', r', e1, e2, hI1, hI2, gb, _, _, _, gk⟩ := H0.out.2.1.node_
        have hg := fun w' (ha : Arena w' g q ks) => get_any g q ks t w' ha hks
        rw [gk, gb] at hg
        unfold Knot.val at hg
        simp only at hg
        have G := Lib.hid hg
        have hs := fun w' (ha : Arena w' g q ks) => size_any g q ks l' w' ha hks
        rw [is_there hI1, hI1.knot.1] at hs
        have S2 := Lib.hid hs
        have okN := H0.out.2.2.1
        simp only [T.ok] at okN
        obtain ⟨okl, okr, sl, sr, slr⟩ := okN
        have bl := T.bounds okl
        have br := T.bounds okr
        have hh := T.high_node L R
        have hmm := HM.out.1
        have hma := HM.out.2.1
        have hnn := HM.out.2.2.1
        simp only [T.cnt] at hmm
        simp only [T.many] at hma
        have hz2 : (l' == 0) = false := by simp; omega
        have HI := Lib.hid (And.intro hI1 (And.intro hI2 (And.intro okl okr)))
        clear gk gb hg hs hI1 hI2 okl okr
        simp only [T.size] at S1 ha1 ha2 hz1 u1
        have ul : 0 < L.size ∧ L.size ≤ 1099511627776 := by omega
        obtain ⟨ul1, ul2⟩ := ul
        have HBD := Lib.hid (And.intro bl (And.intro br (And.intro hh (And.intro hmm (And.intro hma hnn)))))
        have hw1 : IntKind.i64.wrap (a - L.size) = a - L.size := IntWalk.i64_in _ (by omega)
        have HSR := Lib.hid (And.intro sl (And.intro sr slr))
        clear bl br hh hmm hma hnn sl sr slr
        generalize 1 + max L.high R.high = z2 at G
        generalize L.many + R.many = z3 at G
        generalize L.feeds + R.feeds = z4 at G
        generalize hzs : L.size + R.size = zs at S1 G ha1 ha2 hz1 u1
        have HZS := Lib.hid hzs
        clear hzs
        go_enter Try.func28, Try.ntmps28
        go_wp2_with fail
        ((with_reducible refine S1.out.mono ?_); rintro e w1 ⟨rfl, hb1⟩)
        have HB := Lib.hid hb1
        clear hb1
        go_wp2_with fail
        ((with_reducible refine (G.out _ (HA.out.1.below HB.out)).mono ?_); rintro e w2 ⟨rfl, hb2⟩)
        have HB2 := Lib.hid (HB.out.trans (hb2.mono HB.out.size))
        clear hb2 HB G S1
        go_wp2_with fail
        have HJ : Hid (JK w ((w2.alloc (.cells #[.int .i64 l', .int .i64 r', .int .i64 0, .int .i64 zs, .int .i64 z2, .int .i64 z3, .int .i64 z4] 66)).alloc (.cells #[.pointer (some ⟨g, 0, none⟩)] 117)) g q ks (w2.heap.size + 1) w2.heap.size ⟨l', r', 0, zs, z2, z3, z4⟩) := by
          have hz := HB2.out.size
          have hk : Below w2.heap.size w2 (w2.alloc (.cells #[.int .i64 l', .int .i64 r', .int .i64 0, .int .i64 zs, .int .i64 z2, .int .i64 z3, .int .i64 z4] 66)) := (Below.refl _ _).alloc (Nat.le_refl _) _
          have bk : blkK (w2.alloc (.cells #[.int .i64 l', .int .i64 r', .int .i64 0, .int .i64 zs, .int .i64 z2, .int .i64 z3, .int .i64 z4] 66)) w2.heap.size ⟨l', r', 0, zs, z2, z3, z4⟩ := heap_alloc_new _ _
          have es : (w2.alloc (.cells #[.int .i64 l', .int .i64 r', .int .i64 0, .int .i64 zs, .int .i64 z2, .int .i64 z3, .int .i64 z4] 66)).heap.size = w2.heap.size + 1 := by simp
          generalize w2.alloc (.cells #[.int .i64 l', .int .i64 r', .int .i64 0, .int .i64 zs, .int .i64 z2, .int .i64 z3, .int .i64 z4] 66) = w3 at hk bk es ⊢
          have hj : Below w3.heap.size w3 (w3.alloc (.cells #[.pointer (some ⟨g, 0, none⟩)] 117)) := (Below.refl _ _).alloc (Nat.le_refl _) _
          have hb3 := HB2.out.trans (hk.mono hz)
          rw [← es]
          exact Lib.hid ⟨(HA.out.1.below hb3).below hj, hb3.trans (hj.mono hb3.size), heap_alloc_new _ _, bk.below hj, by omega, hz⟩
        clear HB2
        ((with_reducible refine (S2.out _ HJ.out.ar).mono ?_); rintro e w4 ⟨rfl, hb4⟩)
        have HJ4 := Lib.hid (HJ.out.below hb4)
        clear hb4 HJ S2
        have HCL := Lib.hid (HA.out.2.fr (Fr.of_below HJ4.out.bl))
        have hnj : ¬ foot g q (w2.heap.size + 1) := fun hf => by
          have := HJ4.out.gj
          rcases hf with e | e
          · have := HA.out.1.lt; omega
          · have := HA.out.1.row_lt e; omega
        have hnk : ¬ foot g q w2.heap.size := fun hf => by
          have := HJ4.out.gk
          rcases hf with e | e
          · have := HA.out.1.lt; omega
          · have := HA.out.1.row_lt e; omega
        generalize w2.heap.size + 1 = bj at HJ4 hnj ⊢
        generalize w2.heap.size = bk at HJ4 hnk ⊢
        have k0 := HJ4.out.k.c0
        have k1 := HJ4.out.k.c1
        simp only at k0 k1
        by_cases hc : L.size < a
        · obtain ⟨bl, br, hh, hmm, hma, hnn⟩ := HBD.out
          have HP := Lib.hid (IH.out ks r' (a - L.size) R (by omega) H0.out.1 HI.out.2.1 (by omega) (by have := HZS.out; omega) (fun p hp => H0.out.2.2.2 p (by simp [T.lv, hp])) (by omega) (by omega))
          clear bl br hh hmm hma hnn
          go_wp2_with fail
          ((with_reducible refine (HP.out.run _ _ (resCl_at HJ4.out.ar HCL.out)).mono ?_); rintro e w5 ⟨v, ks1, F1, rfl, ⟨x, y, A, B, n1, m1, rfl, p1, p2, p3, p4, p5⟩, ⟨⟨q1, rfl, ha1⟩, hcl1⟩, hf1⟩)
          have j5 := HJ4.out.j.fr hf1 hnj
          have k5 := HJ4.out.k.fr hf1 hnk
          have cj := j5.c
          have ck := k5.c0
          simp only at ck
          have HE := Lib.hid (And.intro p1 (And.intro p2 (And.intro p3 (And.intro p4 (And.intro p5 (And.intro ha1 (And.intro hcl1 hf1)))))))
          have HQ : Hid (Does Try.prog (resAr g) 71 #[.agg #[.pointer (some ⟨g, 0, none⟩)], .int .i64 l', .int .i64 x] ks1 (joinP ks1 l' x L A)) := by
            obtain ⟨bl, br, hh, hmm, hma, hnn⟩ := HBD.out
            have hA1 := p5.many
            have hA2 := T.bounds p5.oka
            have hA3 := T.bounds p5.okb
            have hA4 := p5.cost (by omega)
            have hA5 := p4.len
            have hsz : A.size + B.size = R.size := by
              have e1 : A.lv = (cutL f R.lv (a - L.size)).1 := congrArg Prod.fst p5.cut
              have e2 : B.lv = (cutL f R.lv (a - L.size)).2 := congrArg Prod.snd p5.cut
              rw [T.size_lv, T.size_lv, T.size_lv, e1, e2, cutL_bytes (T.pos HI.out.2.2.2)]
            exact Lib.hid (join_any g _ ks1 l' x L A (Nat.le_refl _) p3 (HI.out.1.ext p4) p1 (by have := HSR.out; omega) (by omega))
          clear p1 p2 p3 p4 p5 ha1 hcl1 hf1 j5 k5
          go_wp2_with fail
          ((with_reducible refine ((does_cl HQ.out).run _ _ (resCl_at HE.out.2.2.2.2.2.1 HE.out.2.2.2.2.2.2.1)).mono ?_); rintro e w6 ⟨v, ks2, F2, rfl, ⟨t2, Y, n2, rfl, p6, p7, p8, p9, _, _⟩, ha2, hf2⟩)
          have HE2 := Lib.hid (And.intro p6 (And.intro p7 (And.intro p8 (And.intro p9 (And.intro ha2 hf2)))))
          clear p6 p7 p8 p9 ha2 hf2
          go_wp2
          go_ret3
          obtain ⟨p1, p2, p3, p4, p5, _, _, hf1⟩ := HE.out
          obtain ⟨p6, p7, p8, p9, ha2, hf2⟩ := HE2.out
          have h9 := p4.trans p8
          rw [Nat.add_zero] at h9
          exact ⟨_, ks2, F2, rfl, ⟨t2, y, Y, B, _, _, rfl, p6, p2.ext p8, p7, h9, SplitOk.right p5 p9 H0.out.2.2.1 hc⟩, ha2, ((Fr.of_below HJ4.out.bl).trans hf1).trans hf2⟩
        · obtain ⟨bl, br, hh, hmm, hma, hnn⟩ := HBD.out
          have HP := Lib.hid (IH.out ks l' a L (by omega) H0.out.1 HI.out.1 ha0 (by omega) (fun p hp => H0.out.2.2.2 p (by simp [T.lv, hp])) (by omega) (by omega))
          clear bl br hh hmm hma hnn
          go_wp2_with fail
          ((with_reducible refine (HP.out.run _ _ (resCl_at HJ4.out.ar HCL.out)).mono ?_); rintro e w5 ⟨v, ks1, F1, rfl, ⟨x, y, A, B, n1, m1, rfl, p1, p2, p3, p4, p5⟩, ⟨⟨q1, rfl, ha1⟩, hcl1⟩, hf1⟩)
          have j5 := HJ4.out.j.fr hf1 hnj
          have k5 := HJ4.out.k.fr hf1 hnk
          have cj := j5.c
          have ck := k5.c1
          simp only at ck
          have HE := Lib.hid (And.intro p1 (And.intro p2 (And.intro p3 (And.intro p4 (And.intro p5 (And.intro ha1 (And.intro hcl1 hf1)))))))
          have HQ : Hid (Does Try.prog (resAr g) 71 #[.agg #[.pointer (some ⟨g, 0, none⟩)], .int .i64 y, .int .i64 r'] ks1 (joinP ks1 y r' B R)) := by
            obtain ⟨bl, br, hh, hmm, hma, hnn⟩ := HBD.out
            have hA1 := p5.many
            have hA2 := T.bounds p5.oka
            have hA3 := T.bounds p5.okb
            have hA4 := p5.cost (by omega)
            have hA5 := p4.len
            have hsz : A.size + B.size = L.size := by
              have e1 : A.lv = (cutL f L.lv a).1 := congrArg Prod.fst p5.cut
              have e2 : B.lv = (cutL f L.lv a).2 := congrArg Prod.snd p5.cut
              rw [T.size_lv, T.size_lv, T.size_lv, e1, e2, cutL_bytes (T.pos HI.out.2.2.1)]
            exact Lib.hid (join_any g _ ks1 y r' B R (Nat.le_refl _) p3 p2 (HI.out.2.1.ext p4) (by have := HSR.out; omega) (by omega))
          clear p1 p2 p3 p4 p5 ha1 hcl1 hf1 j5 k5
          go_wp2_with fail
          ((with_reducible refine ((does_cl HQ.out).run _ _ (resCl_at HE.out.2.2.2.2.2.1 HE.out.2.2.2.2.2.2.1)).mono ?_); rintro e w6 ⟨v, ks2, F2, rfl, ⟨t2, Y, n2, rfl, p6, p7, p8, p9, _, _⟩, ha2, hf2⟩)
          have HE2 := Lib.hid (And.intro p6 (And.intro p7 (And.intro p8 (And.intro p9 (And.intro ha2 hf2)))))
          clear p6 p7 p8 p9 ha2 hf2
          go_wp2
          go_ret3
          obtain ⟨p1, p2, p3, p4, p5, _, _, hf1⟩ := HE.out
          obtain ⟨p6, p7, p8, p9, ha2, hf2⟩ := HE2.out
          have h9 := p4.trans p8
          rw [Nat.add_zero] at h9
          exact ⟨_, ks2, F2, rfl, ⟨x, t2, A, Y, _, _, rfl, p1.ext p8, p6, p7, h9, SplitOk.left p5 p9 H0.out.2.2.1 ha0 (by omega)⟩, ha2, ((Fr.of_below HJ4.out.bl).trans hf1).trans hf2⟩
end Go.Proofs.Ytkcocdpmangcgaa.Ar
