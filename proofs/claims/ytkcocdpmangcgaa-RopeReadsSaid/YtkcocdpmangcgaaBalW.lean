
/- Balance: going over a rope's knots, with whatever is done at each. -/
import Derived.Test.YtkcocdpmangcgaaBalS
namespace Go.Proofs.Ytkcocdpmangcgaa.Ar
set_option linter.unusedSimpArgs false
set_option linter.unusedVariables false
open Go Go.RowKit
attribute [local go_sem] lt_add1 lt_self1 size_ne size_ne' size_ne1 size_ne1'
attribute [local irreducible] wpGrow wpThr

/-- what is done at each knot, its parts first. -/
def T.fold {σ : Type} (step : σ → T → σ) : T → σ → σ
  | .nil, s => s
  | .leaf o n f, s => step s (.leaf o n f)
  | .node l r, s => step (r.fold step (l.fold step s)) (.node l r)

/-- what it asks on its way. -/
def T.pre {σ : Type} (step : σ → T → σ) (Pre : σ → T → Prop) : T → σ → Prop
  | .nil, _ => True
  | .leaf o n f, s => Pre s (.leaf o n f)
  | .node l r, s => l.pre step Pre s ∧ r.pre step Pre (l.fold step s) ∧ Pre (r.fold step (l.fold step s)) (.node l r)

set_option maxHeartbeats 4000000 in
theorem bwalk_any {σ : Type} (R : Res σ) (g : Nat) (ks : List Knot) (hw : WF ks) (hks : ks.length ≤ small) (hAr : ∀ {w F s}, R.at_ w F s → ∃ q, Arena w g q ks) (kf : Nat) (caps : Array Value) (step : σ → T → σ) (Pre : σ → T → Prop)
    (eg : ∀ args w, (callFunc kf args).run Try.prog w = .ok (.enter kf args) w)
    (hdo : ∀ (t : Int) (X : T) (s : σ), Is ks t X → 0 < X.size → Pre s X → Does Try.prog R kf (#[(getK ks t).val] ++ caps) s (fun v s' => v = .tuple #[] ∧ s' = step s X)) :
    ∀ (m : Nat) (t : Int) (X : T) (s : σ), X.cnt ≤ m → Is ks t X → X.pre step Pre s → Does Try.prog R 66 #[.pointer (some ⟨g, 0, none⟩), .int .i64 t, .func (.func kf) #[] caps] s (fun v s' => v = .tuple #[] ∧ s' = X.fold step s) := by
  intro m
  induction m with
  | zero => intro t X s hm; have := T.cnt_pos X; omega
  | succ m ih =>
  rintro t X s hm ht hpre w F ha
  obtain ⟨q, har⟩ := hAr ha
  have HX := Lib.hid (And.intro hm (And.intro ht ha))
  have HPRE := Lib.hid hpre
  have IH := Lib.hid ih
  have G := Lib.hid (get_any g q ks t w har hks)
  have HD := Lib.hid hdo
  have EG := Lib.hid eg
  unfold Knot.val at G
  clear hm ha ih hdo eg har hpre
  cases X with
  | nil =>
    obtain rfl := HX.out.2.1.nil_
    have e1 : getB ks 0 = false := by simp [getB, getS]
    rw [e1] at G
    generalize getK ks 0 = k at G
    go_enter Try.func66, Try.ntmps66
    go_wp2_with fail
    ((with_reducible refine G.out.mono ?_); rintro e w1 ⟨rfl, hb1⟩)
    have HB := Lib.hid hb1
    clear hb1
    go_wp2
    refine bodyPost_ret (v := .tuple #[]) (by simp [results, Try.results66, go_sem]) rfl ?_
    have hb := HB.out.alloc HB.out.size (.cells #[.int .i64 k.left, .int .i64 k.right, .int .i64 k.off, .int .i64 k.len, .int .i64 k.high, .int .i64 k.leaves, .int .i64 k.feeds] 66)
    exact ⟨_, s, F, rfl, ⟨rfl, rfl⟩, R.below HX.out.2.2 hb, Fr.of_below hb⟩
  | leaf o n f =>
    obtain ⟨gk, gb, _⟩ := HX.out.2.1.leaf_
    have hd := HD.out t _ s HX.out.2.1 (by have := HX.out.2.1.ok hw; simp only [T.ok] at this; simp only [T.size]; omega) HPRE.out
    rw [gk] at hd
    rw [gk, gb] at G
    unfold Knot.val leafK at hd
    simp only at hd
    unfold leafK at G
    simp only at G
    have HP := Lib.hid hd
    clear hd gk gb
    go_enter Try.func66, Try.ntmps66
    go_wp2_with fail
    ((with_reducible refine G.out.mono ?_); rintro e w1 ⟨rfl, hb1⟩)
    have hb := hb1.alloc hb1.size (.cells #[.int .i64 0, .int .i64 0, .int .i64 o, .int .i64 n, .int .i64 1, .int .i64 1, .int .i64 f] 66)
    have HB := Lib.hid (And.intro hb (R.below HX.out.2.2 hb))
    have eg := EG.out
    clear hb1 hb
    go_wp2_with fail
    ((with_reducible refine (HP.out.run _ _ HB.out.2).mono ?_); rintro e w2 ⟨v, s2, F2, rfl, ⟨rfl, rfl⟩, ha2, hf2⟩)
    have HE := Lib.hid (And.intro ha2 ((Fr.of_below HB.out.1).trans hf2))
    clear ha2 hf2
    go_wp2
    go_end0
    exact ⟨_, _, F2, rfl, ⟨rfl, rfl⟩, HE.out.1, HE.out.2⟩
  | node L R' =>
    obtain ⟨l', r', e1, e2, hI1, hI2, gb, _, _, _, gk⟩ := HX.out.2.1.node_
    have okN := HX.out.2.1.ok hw
    simp only [T.ok] at okN
    have hd := HD.out t _ _ HX.out.2.1 (show 0 < (T.node L R').size by simp only [T.size]; omega) HPRE.out.2.2
    rw [gk] at hd
    rw [gk, gb] at G
    unfold Knot.val at hd
    simp only at hd G
    have HP := Lib.hid hd
    have hcn := HX.out.1
    simp only [T.cnt] at hcn
    have HI := Lib.hid (And.intro (IH.out l' L s (by omega) hI1 HPRE.out.1) (IH.out r' R' _ (by omega) hI2 HPRE.out.2.1))
    clear hd gk gb hI1 hI2 okN hcn
    generalize L.size + R'.size = z1 at G HP
    generalize 1 + max L.high R'.high = z2 at G HP
    generalize L.many + R'.many = z3 at G HP
    generalize L.feeds + R'.feeds = z4 at G HP
    go_enter Try.func66, Try.ntmps66
    go_wp2_with fail
    ((with_reducible refine G.out.mono ?_); rintro e w1 ⟨rfl, hb1⟩)
    have hb := hb1.alloc hb1.size (.cells #[.int .i64 l', .int .i64 r', .int .i64 0, .int .i64 z1, .int .i64 z2, .int .i64 z3, .int .i64 z4] 66)
    have hk : blkK (w1.alloc (.cells #[.int .i64 l', .int .i64 r', .int .i64 0, .int .i64 z1, .int .i64 z2, .int .i64 z3, .int .i64 z4] 66)) w1.heap.size ⟨l', r', 0, z1, z2, z3, z4⟩ := heap_alloc_new _ _
    have hnf : ¬ F w1.heap.size := fun hf => by have := R.lt HX.out.2.2 _ hf; have := hb1.size; omega
    have HB := Lib.hid (And.intro hb (R.below HX.out.2.2 hb))
    have HK := Lib.hid hk
    clear hb1 hb hk
    go_wp2_with fail
    ((with_reducible refine (HI.out.1.run _ _ HB.out.2).mono ?_); rintro e w2 ⟨v, s2, F2, rfl, ⟨rfl, rfl⟩, ha2, hf2⟩)
    have HK2 := Lib.hid (HK.out.fr hf2 hnf)
    have hnf2 := hf2.out HK.out.lt hnf
    have HE := Lib.hid (And.intro ha2 ((Fr.of_below HB.out.1).trans hf2))
    have c1 := HK2.out.c1
    simp only at c1
    clear ha2 hf2 HK HB
    go_wp2_with fail
    ((with_reducible refine (HI.out.2.run _ _ HE.out.1).mono ?_); rintro e w3 ⟨v, s3, F3, rfl, ⟨rfl, rfl⟩, ha3, hf3⟩)
    have HK3 := Lib.hid (HK2.out.fr hf3 hnf2)
    have HE3 := Lib.hid (And.intro ha3 (HE.out.2.trans hf3))
    clear ha3 hf3 HE HK2 c1
    have c0 := HK3.out.c0
    have c1 := HK3.out.c1
    have c2 := HK3.out.c2
    have c3 := HK3.out.c3
    have c4 := HK3.out.c4
    have c5 := HK3.out.c5
    have c6 := HK3.out.c6
    simp only at c0 c1 c2 c3 c4 c5 c6
    have eg := EG.out
    go_wp2_with fail
    ((with_reducible refine (HP.out.run _ _ HE3.out.1).mono ?_); rintro e w4 ⟨v, s4, F4, rfl, ⟨rfl, rfl⟩, ha4, hf4⟩)
    have HE4 := Lib.hid (And.intro ha4 (HE3.out.2.trans hf4))
    clear ha4 hf4 HE3 c0 c1 c2 c3 c4 c5 c6
    go_wp2
    go_end0
    exact ⟨_, _, F4, rfl, ⟨rfl, rfl⟩, HE4.out.1, HE4.out.2⟩
end Go.Proofs.Ytkcocdpmangcgaa.Ar
