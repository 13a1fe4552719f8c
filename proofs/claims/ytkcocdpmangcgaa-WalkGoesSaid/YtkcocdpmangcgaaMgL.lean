/- Layer 23: a walker goes over a rope, forwards. */ -/
import Derived.Test.YtkcocdpmangcgaaMgK
import Derived.Deep.AppendLies
import Derived.BigQuiet
namespace Go.Proofs.Ytkcocdpmangcgaa.Wk
set_option linter.unusedSimpArgs false
set_option linter.unusedVariables false
open Go Go.RowKit Go.Proofs.Ytkcocdpmangcgaa.Rp
open Go.Proofs.Ytkcocdpmangcgaa.Ar (T Is Ext WF Knot getK getB getS Arena resAr small leafK T.cnt T.cnt_pos)
open Go.Proofs.Ytkcocdpmangcgaa.Buf (sliceV)
attribute [local go_sem] lt_add1 lt_self1 size_ne size_ne' size_ne1 size_ne1'
attribute [local irreducible] wpGrow wpThr

section
variable {σ : Type} (R : Res σ) (bw gs kf : Nat) (rc : Value) (gb ga : Nat) (rb rf q : Option Nat) (S : ByteArray) (ks : List Knot)
variable (go : σ → UInt8 → σ × Bool) (sz : σ → Nat) (hkp : Keeps R) (hsz : ∀ s c, sz (go s c).1 ≤ sz s + 1) (eg : ∀ args w, (callFunc kf args).run Try.prog w = .ok (.enter kf args) w)
  (hdo : ∀ s c, sz s + 1 ≤ 1000000 → Does Try.prog R kf #[rc, .int .u8 (c : UInt8).toNat] s (fun v s' => v = .bool (go s c).2 ∧ s' = (go s c).1))
/-- what eating leaves. -/
def ateP (s : σ) (m : Nat) (l : List UInt8) (v : Value) (s' : σ × Nat) : Prop := v = .bool (eat go s l).2.1 ∧ s' = ((eat go s l).1, m + (eat go s l).2.2)
include hkp hsz eg hdo

set_option maxRecDepth 100000 in
set_option maxHeartbeats 4000000 in
theorem fwd_does (hw : WF ks) (hks : ks.length ≤ small) (hS : S.size ≤ 1000000) : ∀ (n : Nat) (X : T) (t fr : Int) (s : σ) (m : Nat), X.cnt ≤ n → Is ks t X → Rp.Good S X → 0 ≤ fr ∧ fr ≤ 1099511627776 → (sz s : Int) + X.size ≤ 1000000 → (m : Int) + X.size ≤ 10000000 →
    Does Try.prog (resW R bw gs kf rc gb ga rb rf q S ks) 81 #[.pointer (some ⟨bw, 0, none⟩), .int .i64 t, .int .i64 fr] (s, m) (ateP go s m ((txt S X).drop fr.toNat)) := by
  intro n
  induction n with
  | zero => intro X t fr s m hc; have := T.cnt_pos X; omega
  | succ n ih =>
  rintro X t fr s m hc ht hg hfr hsz0 hm w F h
  obtain ⟨hfr0, hfr1⟩ := hfr
  have HH := Lib.hid (And.intro hc (And.intro ht (And.intro hg h)))
  have IH := Lib.hid ih
  obtain ⟨F1, _, _, _, hblk, hC⟩ := resW_of R bw gs kf rc gb ga rb rf q S ks h
  have G := Lib.hid (rknot_any gs gb ga rb rf q S ks w t hC.1 hks)
  have hX := T.bounds (ht.ok hw)
  have c0 := cell_of_row w bw 0 _ _ (0, 0) hblk
  have hlt := (Array.getElem?_eq_some_iff.1 hblk).1
  simp at c0
  unfold Knot.val at G
  have hone : ∀ w', Below w.heap.size w w' → (resW R bw gs kf rc gb ga rb rf q S ks).at_ w' F (s, m) ∧ Fr w F w' F := fun w' hb => ⟨(resW R bw gs kf rc gb ga rb rf q S ks).below HH.out.2.2.2 hb, Fr.of_below hb⟩
  have HON := Lib.hid hone
  clear hc ih h hblk hC hone
  cases X with
  | nil =>
    obtain rfl := ht.nil_
    have e1 : getB ks 0 = false := by simp [getB, getS]
    rw [e1] at G
    generalize getK ks 0 = k at G
    clear ht hg
    go_enter Try.func81, Try.ntmps81
    go_wp2_with fail
    ((with_reducible refine G.out.mono ?_); rintro e w1 ⟨rfl, hb1⟩)
    have HB := Lib.hid (HON.out _ (hb1.alloc hb1.size (.cells #[.int .i64 k.left, .int .i64 k.right, .int .i64 k.off, .int .i64 k.len, .int .i64 k.high, .int .i64 k.leaves, .int .i64 k.feeds] 66)))
    clear hb1
    go_wp2
    go_ret
    exact ⟨_, (s, m), F, rfl, by simp [ateP, txt_nil, eat], HB.out.1, HB.out.2⟩
  | leaf o l f =>
    obtain ⟨gk, gbt, _⟩ := ht.leaf_
    have hlf := good_leaf.1 hg
    obtain ⟨g1, g2, g3, -⟩ := hlf
    simp only at g1 g2 g3
    rw [gk, gbt] at G
    unfold leafK at G
    simp only [T.size] at G hsz0 hm hX
    clear gk gbt ht
    by_cases hend : l ≤ fr
    · have hL : (txt S (.leaf o l f)).drop fr.toNat = [] := by
        rw [List.drop_eq_nil_iff]; have := txt_length hg; simp only [T.size] at this; omega
      rw [hL]
      clear hL
      go_enter Try.func81, Try.ntmps81
      go_wp2_with fail
      ((with_reducible refine G.out.mono ?_); rintro e w1 ⟨rfl, hb1⟩)
      have HB := Lib.hid (HON.out _ (hb1.alloc hb1.size (.cells #[.int .i64 0, .int .i64 0, .int .i64 o, .int .i64 l, .int .i64 1, .int .i64 1, .int .i64 f] 66)))
      clear hb1
      go_wp2
      go_ret
      exact ⟨_, (s, m), F, rfl, by simp [ateP, eat], HB.out.1, HB.out.2⟩
    · have hend' : ¬ l ≤ fr := by omega
      have hcut : (txt S (.leaf o l f)).drop fr.toNat = (sliceV S (o + fr) (l - fr)).data.toList := by
        rw [txt_leaf, sliceV_cut (by omega) (by omega) (by omega), (cutS_part (S := S) (o := o) (n := l) (a := fr) (by omega) (by omega) (by omega)).2]
      have hslz : ((sliceV S (o + fr) (l - fr)).size : Int) ≤ l := by
        have h1 : (sliceV S (o + fr) (l - fr)).size = (sliceV S (o + fr) (l - fr)).data.toList.length := rfl
        have := cutS_length (S := S) (o := o + fr) (n := l - fr) (by omega) (by omega) (by omega)
        rw [h1, sliceV_cut (by omega) (by omega) (by omega)]
        omega
      have HSL := Lib.hid (fun w' (hr : St w' gs gb ga rb rf q S ks) => rbytes_any gs gb ga rb rf q S ks w' (o + fr) (l - fr) hr hS)
      rw [hcut]
      generalize sliceV S (o + fr) (l - fr) = x at HSL hslz
      have HTX : Hid (Does Try.prog (resW R bw gs kf rc gb ga rb rf q S ks) 100 #[.pointer (some ⟨bw, 0, none⟩), .string x, .bool false] (s, m) (ateP go s m x.data.toList)) := Lib.hid (textF_does R bw gs kf rc gb ga rb rf q S ks go sz hkp hsz eg hdo x s m (by omega) (by omega))
      have HSD := Lib.hid (Does.of_below (R := resW R bw gs kf rc gb ga rb rf q S ks) (s := (s, m)) fun w' F' h' => HSL.out w' (resW_of R bw gs kf rc gb ga rb rf q S ks h').choose_spec.2.2.2.2.1)
      have hwA : IntKind.i64.wrap (o + fr) = o + fr := IntWalk.i64_in _ (by omega)
      have hwB : IntKind.i64.wrap (l - fr) = l - fr := IntWalk.i64_in _ (by omega)
      clear hcut hg
      go_enter Try.func81, Try.ntmps81
      go_wp2_with fail
      ((with_reducible refine G.out.mono ?_); rintro e w1 ⟨rfl, hb1⟩)
      have hbk := hb1.alloc hb1.size (.cells #[.int .i64 0, .int .i64 0, .int .i64 o, .int .i64 l, .int .i64 1, .int .i64 1, .int .i64 f] 66)
      have HB := Lib.hid (HON.out _ hbk)
      have hk0 : (w1.alloc (.cells #[.int .i64 0, .int .i64 0, .int .i64 o, .int .i64 l, .int .i64 1, .int .i64 1, .int .i64 f] 66)).heap[w1.heap.size]? = some (.cells #[.int .i64 0, .int .i64 0, .int .i64 o, .int .i64 l, .int .i64 1, .int .i64 1, .int .i64 f] 66 (0, 0)) := heap_alloc_new _ _
      have hnF : ¬ F w1.heap.size := fun hf => by
        have h1 := (resW R bw gs kf rc gb ga rb rf q S ks).lt HH.out.2.2.2 _ hf
        have h2 := hb1.size
        omega
      have hltb : bw < (w1.alloc (.cells #[.int .i64 0, .int .i64 0, .int .i64 o, .int .i64 l, .int .i64 1, .int .i64 1, .int .i64 f] 66)).heap.size := by have := hbk.size; omega
      go_upto_region 5 with fail
      generalize w1.alloc (.cells #[.int .i64 0, .int .i64 0, .int .i64 o, .int .i64 l, .int .i64 1, .int .i64 1, .int .i64 f] 66) = W at HB hk0 hltb ⊢
      generalize w1.heap.size = bk at hk0 hnF ⊢
      have hltk := (Array.getElem?_eq_some_iff.1 hk0).1
      have HR : Hid (∀ s' bs w', (resCls (resW R bw gs kf rc gb ga rb rf q S ks) W F).In s' bs w' → w'.cell? ⟨bw, 0, none⟩ = some (.pointer (some ⟨gs, 0, none⟩)) ∧ w'.cell? ⟨bk, 2, none⟩ = some (.int .i64 o) ∧ w'.cell? ⟨bk, 3, none⟩ = some (.int .i64 l)) := Lib.hid (fun s' bs w' hw' => by
        refine ⟨?_, (resCls_cell hw' hltk hnF 2).trans (cell_of_row W bk 2 _ _ (0, 0) hk0), (resCls_cell hw' hltk hnF 3).trans (cell_of_row W bk 3 _ _ (0, 0) hk0)⟩
        obtain ⟨F', ha', _, _⟩ := hw'
        obtain ⟨_, _, _, _, hb', _⟩ := resW_of R bw gs kf rc gb ga rb rf q S ks ha'
        exact cell_of_row w' bw 0 _ _ (0, 0) hb')
      clear hb1 hbk hk0 hnF c0 hlt
      refine wp_region_thr (resCls (resW R bw gs kf rc gb ga rb rf q S ks) W F) (s, m) 17 [0, 1, 2, 3, 4, 5, 6, 7, 8, 9, 10, 11, 12, 13, 14, 15, 16] _ (by kernel_rfl) (by kernel_rfl) (by kernel_rfl) rfl (resCls_start HB.out.1) ?_
      (simp only [List.filterMap_cons, List.filterMap_nil, List.getElem?_cons_zero, List.getElem?_cons_succ, List.drop_succ_cons, List.drop_zero, List.drop_nil])
      iterate 14 ((refine wpThr_val rfl rfl rfl ?_; apply Exists.intro; refine ⟨fun s1 bs1 w1 hb1 hw1 => ?_, ?_⟩); (have hc1 := HR.out s1 bs1 w1 hw1; go_simp; exact growUpon_ok rfl); (refine wpThr_at (by (simp only [Act.put, List.setIfInBounds_toArray, List.set_cons_succ, List.set_cons_zero]) <;> exact rfl) ?_))
      refine wpThr_call (fun v s' => v = .string x ∧ s' = (s, m)) rfl rfl rfl ?_ ?_
      · intro bs1 w2 hb2 hw2
        go_simp
        with_reducible exact resCls_upon HSD.out hw2
      rintro v st ⟨rfl, rfl⟩
      (refine wpThr_at (by (simp only [Act.put, List.setIfInBounds_toArray, List.set_cons_succ, List.set_cons_zero]) <;> exact rfl) ?_)
      refine wpThr_call (ateP go s m x.data.toList) rfl rfl rfl ?_ ?_
      · intro bs1 w2 hb2 hw2
        go_simp
        with_reducible exact resCls_upon HTX.out hw2
      rintro v st hv
      (refine wpThr_at (by (simp only [Act.put, List.setIfInBounds_toArray, List.set_cons_succ, List.set_cons_zero]) <;> exact rfl) ?_)
      ((refine wpThr_val rfl rfl rfl ?_; apply Exists.intro; refine ⟨fun s1 bs1 w1 hb1 hw1 => ?_, ?_⟩); (have hc1 := HR.out s1 bs1 w1 hw1; go_simp; exact growUpon_ok rfl); (refine wpThr_at (by (simp only [Act.put, List.setIfInBounds_toArray, List.set_cons_succ, List.set_cons_zero]) <;> exact rfl) ?_))
      refine wpThr_nil ?_
      rintro w5 ⟨F5, ha5, hf5, _⟩
      have HE := Lib.hid (And.intro ha5 (HB.out.2.trans hf5))
      clear ha5 hf5
      go_wp2
      go_ret
      exact ⟨v, st, F5, rfl, hv, HE.out.1, HE.out.2⟩
  | node A B =>
    obtain ⟨la, lb, e1, e2, hI1, hI2, gbt, _, _, _, gk⟩ := ht.node_
    obtain ⟨hgA, hgB⟩ := good_node.1 hg
    have okN := ht.ok hw
    simp only [T.ok] at okN
    have hAz := T.bounds okN.1
    have hBz := T.bounds okN.2.1
    rw [gk, gbt] at G
    simp only [T.size] at hsz0 hm hX
    have hcn := HH.out.1
    simp only [T.cnt] at hcn
    simp only at G
    have hla0 : (la == 0) = false := by simp; omega
    have HSZ := Lib.hid (fun w' (hr : St w' gs gb ga rb rf q S ks) => rsize_is gs gb ga rb rf q S ks w' la A hI1 hr hks)
    obtain ⟨z1, hz1⟩ : ∃ z, z = A.size + B.size := ⟨_, rfl⟩
    rw [← hz1] at G
    generalize 1 + max A.high B.high = z2 at G
    generalize A.many + B.many = z3 at G
    generalize A.feeds + B.feeds = z4 at G
    by_cases hend : z1 ≤ fr
    · have hL : (txt S (.node A B)).drop fr.toNat = [] := by
        rw [List.drop_eq_nil_iff]; have := txt_length hg; simp only [T.size] at this; omega
      rw [hL]
      have HZ1 := Lib.hid hz1
      clear hL hz1
      go_enter Try.func81, Try.ntmps81
      go_wp2_with fail
      ((with_reducible refine G.out.mono ?_); rintro e w1 ⟨rfl, hb1⟩)
      have HB := Lib.hid (HON.out _ (hb1.alloc hb1.size (.cells #[.int .i64 la, .int .i64 lb, .int .i64 0, .int .i64 z1, .int .i64 z2, .int .i64 z3, .int .i64 z4] 66)))
      clear hb1
      go_wp2
      go_ret
      exact ⟨_, (s, m), F, rfl, by simp [ateP, eat], HB.out.1, HB.out.2⟩
    · have hend' : ¬ z1 ≤ fr := by omega
      have hsp : (txt S (.node A B)).drop fr.toNat = (txt S A).drop fr.toNat ++ (txt S B).drop (max (fr - A.size) 0).toNat := by
        rw [txt_node, List.drop_append]
        have hla := txt_length hgA
        congr 2
        omega
      have hl1 : (((txt S A).drop fr.toNat).length : Int) ≤ A.size := by
        have := txt_length hgA
        rw [List.length_drop]
        omega
      have HI1 := Lib.hid (IH.out A la fr s m (by omega) hI1 hgA (by omega) (by omega) (by omega))
      have HI2 := Lib.hid (fun s2 (m2 : Nat) (h1 : (sz s2 : Int) + B.size ≤ 1000000) (h2 : (m2 : Int) + B.size ≤ 10000000) => IH.out B lb (max (fr - A.size) 0) s2 m2 (by omega) hI2 hgB (by omega) h1 h2)
      have hsize1 := eat_size go sz hsz ((txt S A).drop fr.toNat) s
      have hle1 := eat_le go ((txt S A).drop fr.toNat) s
      have hA0 : 0 ≤ A.size ∧ A.size ≤ 1099511627776 := by omega
      obtain ⟨hA0, hA1⟩ := hA0
      rw [hsp]
      have hn2 : ∀ v' s', ¬ (eat go s ((txt S A).drop fr.toNat)).2.1 = true → ateP go s m ((txt S A).drop fr.toNat) v' s' → ateP go s m ((txt S A).drop fr.toNat ++ (txt S B).drop (max (fr - A.size) 0).toNat) v' s' := by
        intro v' s' hne h
        unfold ateP at h ⊢
        rw [eat_stop go s _ _ hne]
        exact h
      have hn3 : ∀ v' s', (eat go s ((txt S A).drop fr.toNat)).2.1 = true → ateP go (eat go s ((txt S A).drop fr.toNat)).1 (m + (eat go s ((txt S A).drop fr.toNat)).2.2) ((txt S B).drop (max (fr - A.size) 0).toNat) v' s' → ateP go s m ((txt S A).drop fr.toNat ++ (txt S B).drop (max (fr - A.size) 0).toNat) v' s' := by
        intro v' s' hne h
        unfold ateP at h ⊢
        rw [eat_append, if_pos hne]
        simp only
        rw [← Nat.add_assoc]
        exact h
      have HI3 := Lib.hid (HI2.out (eat go s ((txt S A).drop fr.toNat)).1 (m + (eat go s ((txt S A).drop fr.toNat)).2.2) (by omega) (by omega))
      have HN := Lib.hid (And.intro hn2 hn3)
      clear hn2 hn3 HI2 hsp hl1 hsize1 hle1 hgA hgB hg ht hI1 hI2 okN hAz hBz gk gbt hcn
      generalize (txt S A).drop fr.toNat = l1 at HI1 HI3 HN ⊢
      generalize (txt S B).drop (max (fr - A.size) 0).toNat = l2 at HI3 HN ⊢
      generalize A.size = az at HSZ HI1 HI3 hA0 hA1 hz1
      have HZ1 := Lib.hid (And.intro hz1 hX)
      clear hz1 hX
      go_enter Try.func81, Try.ntmps81
      go_wp2_with fail
      ((with_reducible refine G.out.mono ?_); rintro e w1 ⟨rfl, hb1⟩)
      have hbk := hb1.alloc hb1.size (.cells #[.int .i64 la, .int .i64 lb, .int .i64 0, .int .i64 z1, .int .i64 z2, .int .i64 z3, .int .i64 z4] 66)
      have HB := Lib.hid (HON.out _ hbk)
      have hk0 : (w1.alloc (.cells #[.int .i64 la, .int .i64 lb, .int .i64 0, .int .i64 z1, .int .i64 z2, .int .i64 z3, .int .i64 z4] 66)).heap[w1.heap.size]? = some (.cells #[.int .i64 la, .int .i64 lb, .int .i64 0, .int .i64 z1, .int .i64 z2, .int .i64 z3, .int .i64 z4] 66 (0, 0)) := heap_alloc_new _ _
      have hnF : ¬ F w1.heap.size := fun hf => by
        have h1 := (resW R bw gs kf rc gb ga rb rf q S ks).lt HH.out.2.2.2 _ hf
        have h2 := hb1.size
        omega
      go_upto_region 6 with fail
      generalize w1.alloc (.cells #[.int .i64 la, .int .i64 lb, .int .i64 0, .int .i64 z1, .int .i64 z2, .int .i64 z3, .int .i64 z4] 66) = W at HB hk0 ⊢
      generalize w1.heap.size = bk at hk0 hnF ⊢
      have hltk := (Array.getElem?_eq_some_iff.1 hk0).1
      obtain ⟨_, _, _, _, hb6, hC6⟩ := resW_of R bw gs kf rc gb ga rb rf q S ks HB.out.1
      have d0 := Bw.cell (o := 0) (Array.getElem?_eq_some_iff.1 hb6).1 (cell_of_row W bw 0 _ _ (0, 0) hb6)
      have dl := Bw.lt (Array.getElem?_eq_some_iff.1 hb6).1
      have k0 := Bw.cell (o := 0) hltk (cell_of_row W bk 0 _ _ (0, 0) hk0)
      have kl := Bw.lt hltk
      simp at d0 k0
      have HSZ6 := Lib.hid (fun w' (hb : Below W.heap.size W w') => HSZ.out w' (hC6.1.below hb))
      have HK := Lib.hid (And.intro hk0 hnF)
      clear hb1 hbk hk0 hnF c0 hlt hb6 hC6 hltk
      refine wp_region_wd (fun w' => Below W.heap.size W w') (by kernel_rfl) (by kernel_rfl) (Bw.start W) ?_
      repeat (go_big_quiet_step (exact Bw.call (HSZ6.out _ (Wd.h _))))
      refine wpQuiet_nil (wd_all ?_)
      intro w3 hb3
      have hk3 : w3.heap[bk]? = _ := (hb3.block _ (Array.getElem?_eq_some_iff.1 HK.out.1).1).trans HK.out.1
      have f0 := cell_of_row w3 bk 0 _ _ (0, 0) hk3
      have f1 := cell_of_row w3 bk 1 _ _ (0, 0) hk3
      have hl3 := (Array.getElem?_eq_some_iff.1 hk3).1
      have H3 := Lib.hid (And.intro ((resW R bw gs kf rc gb ga rb rf q S ks).below HB.out.1 hb3) (HB.out.2.trans (Fr.of_below hb3)))
      have HK3 := Lib.hid (And.intro hk3 HK.out.2)
      clear d0 dl k0 kl hb3 hk3
      cases hee : (eat go s l1).2.1
      · go_wp2_with fail
        ((with_reducible refine (HI1.out.run _ _ H3.out.1).mono ?_); rintro e w4 ⟨v, s4, F4, rfl, hv, ha4, hf4⟩)
        obtain ⟨rfl, rfl⟩ := hv
        have H4 := Lib.hid (And.intro ha4 (H3.out.2.trans hf4))
        clear ha4 hf4
        rw [hee]
        go_wp2_with fail
        go_ret
        exact ⟨_, _, F4, rfl, HN.out.1 (.bool false) _ (by rw [hee]; simp) ⟨by rw [hee], rfl⟩, H4.out.1, H4.out.2⟩
      · go_wp2_with fail
        ((with_reducible refine (HI1.out.run _ _ H3.out.1).mono ?_); rintro e w4 ⟨v, s4, F4, rfl, hv, ha4, hf4⟩)
        obtain ⟨rfl, rfl⟩ := hv
        have hk4 := hf4.block HK3.out.1 HK3.out.2
        have f0 := cell_of_row w4 bk 0 _ _ (0, 0) hk4
        have f1 := cell_of_row w4 bk 1 _ _ (0, 0) hk4
        have hl4 := (Array.getElem?_eq_some_iff.1 hk4).1
        have H4 := Lib.hid (And.intro ha4 (H3.out.2.trans hf4))
        clear ha4 hf4 hk4
        rw [hee]
        go_wp2_with fail
        ((with_reducible refine (HI3.out.run _ _ H4.out.1).mono ?_); rintro e w5 ⟨v, s5, F5, rfl, hv, ha5, hf5⟩)
        have H5 := Lib.hid (And.intro ha5 (H4.out.2.trans hf5))
        have hvv := hv
        obtain ⟨rfl, rfl⟩ := hvv
        clear ha5 hf5
        go_wp2_with fail
        go_ret
        exact ⟨_, _, F5, rfl, HN.out.2 _ _ hee hv, H5.out.1, H5.out.2⟩
end
end Go.Proofs.Ytkcocdpmangcgaa.Wk


/- Layer 23: a walker goes over a rope, backwards. */ -/
namespace Go.Proofs.Ytkcocdpmangcgaa.Wk
set_option linter.unusedSimpArgs false
set_option linter.unusedVariables false
open Go Go.RowKit Go.Proofs.Ytkcocdpmangcgaa.Rp
open Go.Proofs.Ytkcocdpmangcgaa.Ar (T Is Ext WF Knot getK getB getS Arena resAr small leafK T.cnt T.cnt_pos)
open Go.Proofs.Ytkcocdpmangcgaa.Buf (sliceV)
attribute [local go_sem] lt_add1 lt_self1 size_ne size_ne' size_ne1 size_ne1'
attribute [local irreducible] wpGrow wpThr

section
variable {σ : Type} (R : Res σ) (bw gs kf : Nat) (rc : Value) (gb ga : Nat) (rb rf q : Option Nat) (S : ByteArray) (ks : List Knot)
variable (go : σ → UInt8 → σ × Bool) (sz : σ → Nat) (hkp : Keeps R) (hsz : ∀ s c, sz (go s c).1 ≤ sz s + 1) (eg : ∀ args w, (callFunc kf args).run Try.prog w = .ok (.enter kf args) w)
  (hdo : ∀ s c, sz s + 1 ≤ 1000000 → Does Try.prog R kf #[rc, .int .u8 (c : UInt8).toNat] s (fun v s' => v = .bool (go s c).2 ∧ s' = (go s c).1))
include hkp hsz eg hdo

set_option maxRecDepth 100000 in
set_option maxHeartbeats 4000000 in
theorem bck_does (hw : WF ks) (hks : ks.length ≤ small) (hS : S.size ≤ 1000000) : ∀ (n : Nat) (X : T) (t fr : Int) (s : σ) (m : Nat), X.cnt ≤ n → Is ks t X → Rp.Good S X → fr ≤ 1099511627776 ∧ -1099511627776 ≤ fr → (sz s : Int) + X.size ≤ 1000000 → (m : Int) + X.size ≤ 10000000 →
    Does Try.prog (resW R bw gs kf rc gb ga rb rf q S ks) 82 #[.pointer (some ⟨bw, 0, none⟩), .int .i64 t, .int .i64 fr] (s, m) (ateP go s m (((txt S X).take fr.toNat).reverse)) := by
  intro n
  induction n with
  | zero => intro X t fr s m hc; have := T.cnt_pos X; omega
  | succ n ih =>
  rintro X t fr s m hc ht hg hfr hsz0 hm w F h
  obtain ⟨hfr0, hfr1⟩ := hfr
  have HH := Lib.hid (And.intro hc (And.intro ht (And.intro hg h)))
  have IH := Lib.hid ih
  obtain ⟨F1, _, _, _, hblk, hC⟩ := resW_of R bw gs kf rc gb ga rb rf q S ks h
  have G := Lib.hid (rknot_any gs gb ga rb rf q S ks w t hC.1 hks)
  have hX := T.bounds (ht.ok hw)
  have c0 := cell_of_row w bw 0 _ _ (0, 0) hblk
  have hlt := (Array.getElem?_eq_some_iff.1 hblk).1
  simp at c0
  unfold Knot.val at G
  have hone : ∀ w', Below w.heap.size w w' → (resW R bw gs kf rc gb ga rb rf q S ks).at_ w' F (s, m) ∧ Fr w F w' F := fun w' hb => ⟨(resW R bw gs kf rc gb ga rb rf q S ks).below HH.out.2.2.2 hb, Fr.of_below hb⟩
  have HON := Lib.hid hone
  clear hc ih h hblk hC hone
  cases X with
  | nil =>
    obtain rfl := ht.nil_
    have e1 : getB ks 0 = false := by simp [getB, getS]
    rw [e1] at G
    generalize getK ks 0 = k at G
    clear ht hg
    go_enter Try.func82, Try.ntmps82
    go_wp2_with fail
    ((with_reducible refine G.out.mono ?_); rintro e w1 ⟨rfl, hb1⟩)
    have HB := Lib.hid (HON.out _ (hb1.alloc hb1.size (.cells #[.int .i64 k.left, .int .i64 k.right, .int .i64 k.off, .int .i64 k.len, .int .i64 k.high, .int .i64 k.leaves, .int .i64 k.feeds] 66)))
    clear hb1
    go_wp2
    go_ret
    exact ⟨_, (s, m), F, rfl, by simp [ateP, txt_nil, eat], HB.out.1, HB.out.2⟩
  | leaf o l f =>
    obtain ⟨gk, gbt, _⟩ := ht.leaf_
    have hlf := good_leaf.1 hg
    obtain ⟨g1, g2, g3, -⟩ := hlf
    simp only at g1 g2 g3
    rw [gk, gbt] at G
    unfold leafK at G
    simp only [T.size] at G hsz0 hm hX
    clear gk gbt ht
    by_cases hend : fr ≤ 0
    · have hL : ((txt S (.leaf o l f)).take fr.toNat).reverse = [] := by
        rw [show fr.toNat = 0 by omega]; rfl
      rw [hL]
      clear hL
      go_enter Try.func82, Try.ntmps82
      go_wp2_with fail
      ((with_reducible refine G.out.mono ?_); rintro e w1 ⟨rfl, hb1⟩)
      have HB := Lib.hid (HON.out _ (hb1.alloc hb1.size (.cells #[.int .i64 0, .int .i64 0, .int .i64 o, .int .i64 l, .int .i64 1, .int .i64 1, .int .i64 f] 66)))
      clear hb1
      go_wp2
      go_ret
      exact ⟨_, (s, m), F, rfl, by simp [ateP, eat], HB.out.1, HB.out.2⟩
    · have hend' : ¬ fr ≤ 0 := by omega
      have hcut : ((txt S (.leaf o l f)).take fr.toNat).reverse = (sliceV S o (min fr l)).data.toList.reverse := by
        rw [txt_leaf, sliceV_cut (by omega) (by omega) (by omega)]
        congr 1
        have hl := cutS_length (S := S) (o := o) (n := l) (by omega) (by omega) (by omega)
        rw [(cutS_part (S := S) (o := o) (n := l) (a := min fr l) (by omega) (by omega) (by omega)).1]
        rcases Int.le_total fr l with h | h
        · rw [Int.min_eq_left h]
        · rw [Int.min_eq_right h, List.take_of_length_le (by omega), List.take_of_length_le (by omega)]
      have hslz : ((sliceV S o (min fr l)).size : Int) ≤ l := by
        have h1 : (sliceV S o (min fr l)).size = (sliceV S o (min fr l)).data.toList.length := rfl
        have := cutS_length (S := S) (o := o) (n := min fr l) (by omega) (by omega) (by omega)
        rw [h1, sliceV_cut (by omega) (by omega) (by omega)]
        omega
      have HSL := Lib.hid (fun w' (hr : St w' gs gb ga rb rf q S ks) => rbytes_any gs gb ga rb rf q S ks w' o (min fr l) hr hS)
      rw [hcut]
      generalize sliceV S o (min fr l) = x at HSL hslz
      have HTX : Hid (Does Try.prog (resW R bw gs kf rc gb ga rb rf q S ks) 100 #[.pointer (some ⟨bw, 0, none⟩), .string x, .bool true] (s, m) (ateP go s m x.data.toList.reverse)) := Lib.hid (textR_does R bw gs kf rc gb ga rb rf q S ks go sz hkp hsz eg hdo x s m (by omega) (by omega))
      have HSD := Lib.hid (Does.of_below (R := resW R bw gs kf rc gb ga rb rf q S ks) (s := (s, m)) fun w' F' h' => HSL.out w' (resW_of R bw gs kf rc gb ga rb rf q S ks h').choose_spec.2.2.2.2.1)
      clear hcut hg
      go_enter Try.func82, Try.ntmps82
      go_wp2_with fail
      ((with_reducible refine G.out.mono ?_); rintro e w1 ⟨rfl, hb1⟩)
      have hbk := hb1.alloc hb1.size (.cells #[.int .i64 0, .int .i64 0, .int .i64 o, .int .i64 l, .int .i64 1, .int .i64 1, .int .i64 f] 66)
      have HB := Lib.hid (HON.out _ hbk)
      have hk0 : (w1.alloc (.cells #[.int .i64 0, .int .i64 0, .int .i64 o, .int .i64 l, .int .i64 1, .int .i64 1, .int .i64 f] 66)).heap[w1.heap.size]? = some (.cells #[.int .i64 0, .int .i64 0, .int .i64 o, .int .i64 l, .int .i64 1, .int .i64 1, .int .i64 f] 66 (0, 0)) := heap_alloc_new _ _
      have hnF : ¬ F w1.heap.size := fun hf => by
        have h1 := (resW R bw gs kf rc gb ga rb rf q S ks).lt HH.out.2.2.2 _ hf
        have h2 := hb1.size
        omega
      have hltb : bw < (w1.alloc (.cells #[.int .i64 0, .int .i64 0, .int .i64 o, .int .i64 l, .int .i64 1, .int .i64 1, .int .i64 f] 66)).heap.size := by have := hbk.size; omega
      go_upto_region 5 with fail
      generalize w1.alloc (.cells #[.int .i64 0, .int .i64 0, .int .i64 o, .int .i64 l, .int .i64 1, .int .i64 1, .int .i64 f] 66) = W at HB hk0 hltb ⊢
      generalize w1.heap.size = bk at hk0 hnF ⊢
      have hltk := (Array.getElem?_eq_some_iff.1 hk0).1
      have HR : Hid (∀ s' bs w', (resCls (resW R bw gs kf rc gb ga rb rf q S ks) W F).In s' bs w' → w'.cell? ⟨bw, 0, none⟩ = some (.pointer (some ⟨gs, 0, none⟩)) ∧ w'.cell? ⟨bk, 2, none⟩ = some (.int .i64 o) ∧ w'.cell? ⟨bk, 3, none⟩ = some (.int .i64 l)) := Lib.hid (fun s' bs w' hw' => by
        refine ⟨?_, (resCls_cell hw' hltk hnF 2).trans (cell_of_row W bk 2 _ _ (0, 0) hk0), (resCls_cell hw' hltk hnF 3).trans (cell_of_row W bk 3 _ _ (0, 0) hk0)⟩
        obtain ⟨F', ha', _, _⟩ := hw'
        obtain ⟨_, _, _, _, hb', _⟩ := resW_of R bw gs kf rc gb ga rb rf q S ks ha'
        exact cell_of_row w' bw 0 _ _ (0, 0) hb')
      clear hb1 hbk hk0 hnF c0 hlt
      refine wp_region_thr (resCls (resW R bw gs kf rc gb ga rb rf q S ks) W F) (s, m) 15 [0, 1, 2, 3, 4, 5, 6, 7, 8, 9, 10, 11, 12, 13, 14] _ (by kernel_rfl) (by kernel_rfl) (by kernel_rfl) rfl (resCls_start HB.out.1) ?_
      (simp only [List.filterMap_cons, List.filterMap_nil, List.getElem?_cons_zero, List.getElem?_cons_succ, List.drop_succ_cons, List.drop_zero, List.drop_nil])
      iterate 12 ((refine wpThr_val rfl rfl rfl ?_; apply Exists.intro; refine ⟨fun s1 bs1 w1 hb1 hw1 => ?_, ?_⟩); (have hc1 := HR.out s1 bs1 w1 hw1; go_simp; exact growUpon_ok rfl); (refine wpThr_at (by (simp only [Act.put, List.setIfInBounds_toArray, List.set_cons_succ, List.set_cons_zero]) <;> exact rfl) ?_))
      refine wpThr_call (fun v s' => v = .string x ∧ s' = (s, m)) rfl rfl rfl ?_ ?_
      · intro bs1 w2 hb2 hw2
        go_simp
        with_reducible exact resCls_upon HSD.out hw2
      rintro v st ⟨rfl, rfl⟩
      (refine wpThr_at (by (simp only [Act.put, List.setIfInBounds_toArray, List.set_cons_succ, List.set_cons_zero]) <;> exact rfl) ?_)
      refine wpThr_call (ateP go s m x.data.toList.reverse) rfl rfl rfl ?_ ?_
      · intro bs1 w2 hb2 hw2
        go_simp
        with_reducible exact resCls_upon HTX.out hw2
      rintro v st hv
      (refine wpThr_at (by (simp only [Act.put, List.setIfInBounds_toArray, List.set_cons_succ, List.set_cons_zero]) <;> exact rfl) ?_)
      ((refine wpThr_val rfl rfl rfl ?_; apply Exists.intro; refine ⟨fun s1 bs1 w1 hb1 hw1 => ?_, ?_⟩); (have hc1 := HR.out s1 bs1 w1 hw1; go_simp; exact growUpon_ok rfl); (refine wpThr_at (by (simp only [Act.put, List.setIfInBounds_toArray, List.set_cons_succ, List.set_cons_zero]) <;> exact rfl) ?_))
      refine wpThr_nil ?_
      rintro w5 ⟨F5, ha5, hf5, _⟩
      have HE := Lib.hid (And.intro ha5 (HB.out.2.trans hf5))
      clear ha5 hf5
      go_wp2
      go_ret
      exact ⟨v, st, F5, rfl, hv, HE.out.1, HE.out.2⟩
  | node A B =>
    obtain ⟨la, lb, e1, e2, hI1, hI2, gbt, _, _, _, gk⟩ := ht.node_
    obtain ⟨hgA, hgB⟩ := good_node.1 hg
    have okN := ht.ok hw
    simp only [T.ok] at okN
    have hAz := T.bounds okN.1
    have hBz := T.bounds okN.2.1
    rw [gk, gbt] at G
    simp only [T.size] at hsz0 hm hX
    have hcn := HH.out.1
    simp only [T.cnt] at hcn
    simp only at G
    have hla0 : (la == 0) = false := by simp; omega
    have HSZ := Lib.hid (fun w' (hr : St w' gs gb ga rb rf q S ks) => rsize_is gs gb ga rb rf q S ks w' la A hI1 hr hks)
    obtain ⟨z1, hz1⟩ : ∃ z, z = A.size + B.size := ⟨_, rfl⟩
    rw [← hz1] at G
    generalize 1 + max A.high B.high = z2 at G
    generalize A.many + B.many = z3 at G
    generalize A.feeds + B.feeds = z4 at G
    by_cases hend : fr ≤ 0
    · have hL : ((txt S (.node A B)).take fr.toNat).reverse = [] := by
        rw [show fr.toNat = 0 by omega]; rfl
      rw [hL]
      have HZ1 := Lib.hid hz1
      clear hL hz1
      go_enter Try.func82, Try.ntmps82
      go_wp2_with fail
      ((with_reducible refine G.out.mono ?_); rintro e w1 ⟨rfl, hb1⟩)
      have HB := Lib.hid (HON.out _ (hb1.alloc hb1.size (.cells #[.int .i64 la, .int .i64 lb, .int .i64 0, .int .i64 z1, .int .i64 z2, .int .i64 z3, .int .i64 z4] 66)))
      clear hb1
      go_wp2
      go_ret
      exact ⟨_, (s, m), F, rfl, by simp [ateP, eat], HB.out.1, HB.out.2⟩
    · have hend' : ¬ fr ≤ 0 := by omega
      have hsp : ((txt S (.node A B)).take fr.toNat).reverse = ((txt S B).take (fr - A.size).toNat).reverse ++ ((txt S A).take (min fr A.size).toNat).reverse := by
        rw [txt_node, List.take_append, List.reverse_append]
        have hla := txt_length hgA
        congr 2
        · congr 1
          omega
        · rcases Int.le_total fr A.size with h | h
          · rw [Int.min_eq_left h]
          · rw [Int.min_eq_right h, List.take_of_length_le (by omega), List.take_of_length_le (by omega)]
      have hl1 : ((((txt S B).take (fr - A.size).toNat).reverse).length : Int) ≤ B.size := by
        have := txt_length hgB
        rw [List.length_reverse, List.length_take]
        omega
      have HI1 := Lib.hid (IH.out B lb (fr - A.size) s m (by omega) hI2 hgB (by omega) (by omega) (by omega))
      have HI2 := Lib.hid (fun s2 (m2 : Nat) (h1 : (sz s2 : Int) + A.size ≤ 1000000) (h2 : (m2 : Int) + A.size ≤ 10000000) => IH.out A la (min fr A.size) s2 m2 (by omega) hI1 hgA (by omega) h1 h2)
      have hsize1 := eat_size go sz hsz (((txt S B).take (fr - A.size).toNat).reverse) s
      have hle1 := eat_le go (((txt S B).take (fr - A.size).toNat).reverse) s
      have hA0 : 0 ≤ A.size ∧ A.size ≤ 1099511627776 := by omega
      obtain ⟨hA0, hA1⟩ := hA0
      rw [hsp]
      have hn2 : ∀ v' s', ¬ (eat go s (((txt S B).take (fr - A.size).toNat).reverse)).2.1 = true → ateP go s m (((txt S B).take (fr - A.size).toNat).reverse) v' s' → ateP go s m (((txt S B).take (fr - A.size).toNat).reverse ++ ((txt S A).take (min fr A.size).toNat).reverse) v' s' := by
        intro v' s' hne h
        unfold ateP at h ⊢
        rw [eat_stop go s _ _ hne]
        exact h
      have hn3 : ∀ v' s', (eat go s (((txt S B).take (fr - A.size).toNat).reverse)).2.1 = true → ateP go (eat go s (((txt S B).take (fr - A.size).toNat).reverse)).1 (m + (eat go s (((txt S B).take (fr - A.size).toNat).reverse)).2.2) (((txt S A).take (min fr A.size).toNat).reverse) v' s' → ateP go s m (((txt S B).take (fr - A.size).toNat).reverse ++ ((txt S A).take (min fr A.size).toNat).reverse) v' s' := by
        intro v' s' hne h
        unfold ateP at h ⊢
        rw [eat_append, if_pos hne]
        simp only
        rw [← Nat.add_assoc]
        exact h
      have HI3 := Lib.hid (HI2.out (eat go s (((txt S B).take (fr - A.size).toNat).reverse)).1 (m + (eat go s (((txt S B).take (fr - A.size).toNat).reverse)).2.2) (by omega) (by omega))
      have HN := Lib.hid (And.intro hn2 hn3)
      clear hn2 hn3 HI2 hsp hl1 hsize1 hle1 hgA hgB hg ht hI1 hI2 okN hAz hBz gk gbt hcn
      generalize ((txt S B).take (fr - A.size).toNat).reverse = l1 at HI1 HI3 HN ⊢
      generalize ((txt S A).take (min fr A.size).toNat).reverse = l2 at HI3 HN ⊢
      generalize A.size = az at HSZ HI1 HI3 hA0 hA1 hz1
      have HZ1 := Lib.hid (And.intro hz1 hX)
      clear hz1 hX
      go_enter Try.func82, Try.ntmps82
      go_wp2_with fail
      ((with_reducible refine G.out.mono ?_); rintro e w1 ⟨rfl, hb1⟩)
      have hbk := hb1.alloc hb1.size (.cells #[.int .i64 la, .int .i64 lb, .int .i64 0, .int .i64 z1, .int .i64 z2, .int .i64 z3, .int .i64 z4] 66)
      have HB := Lib.hid (HON.out _ hbk)
      have hk0 : (w1.alloc (.cells #[.int .i64 la, .int .i64 lb, .int .i64 0, .int .i64 z1, .int .i64 z2, .int .i64 z3, .int .i64 z4] 66)).heap[w1.heap.size]? = some (.cells #[.int .i64 la, .int .i64 lb, .int .i64 0, .int .i64 z1, .int .i64 z2, .int .i64 z3, .int .i64 z4] 66 (0, 0)) := heap_alloc_new _ _
      have hnF : ¬ F w1.heap.size := fun hf => by
        have h1 := (resW R bw gs kf rc gb ga rb rf q S ks).lt HH.out.2.2.2 _ hf
        have h2 := hb1.size
        omega
      go_upto_region 6 with fail
      generalize w1.alloc (.cells #[.int .i64 la, .int .i64 lb, .int .i64 0, .int .i64 z1, .int .i64 z2, .int .i64 z3, .int .i64 z4] 66) = W at HB hk0 ⊢
      generalize w1.heap.size = bk at hk0 hnF ⊢
      have hltk := (Array.getElem?_eq_some_iff.1 hk0).1
      obtain ⟨_, _, _, _, hb6, hC6⟩ := resW_of R bw gs kf rc gb ga rb rf q S ks HB.out.1
      have d0 := Bw.cell (o := 0) (Array.getElem?_eq_some_iff.1 hb6).1 (cell_of_row W bw 0 _ _ (0, 0) hb6)
      have dl := Bw.lt (Array.getElem?_eq_some_iff.1 hb6).1
      have k0 := Bw.cell (o := 0) hltk (cell_of_row W bk 0 _ _ (0, 0) hk0)
      have kl := Bw.lt hltk
      simp at d0 k0
      have HSZ6 := Lib.hid (fun w' (hb : Below W.heap.size W w') => HSZ.out w' (hC6.1.below hb))
      have HK := Lib.hid (And.intro hk0 hnF)
      clear hb1 hbk hk0 hnF c0 hlt hb6 hC6 hltk
      refine wp_region_wd (fun w' => Below W.heap.size W w') (by kernel_rfl) (by kernel_rfl) (Bw.start W) ?_
      repeat (go_big_quiet_step (exact Bw.call (HSZ6.out _ (Wd.h _))))
      refine wpQuiet_nil (wd_all ?_)
      intro w3 hb3
      have hk3 : w3.heap[bk]? = _ := (hb3.block _ (Array.getElem?_eq_some_iff.1 HK.out.1).1).trans HK.out.1
      have f0 := cell_of_row w3 bk 0 _ _ (0, 0) hk3
      have f1 := cell_of_row w3 bk 1 _ _ (0, 0) hk3
      have hl3 := (Array.getElem?_eq_some_iff.1 hk3).1
      have H3 := Lib.hid (And.intro ((resW R bw gs kf rc gb ga rb rf q S ks).below HB.out.1 hb3) (HB.out.2.trans (Fr.of_below hb3)))
      have HK3 := Lib.hid (And.intro hk3 HK.out.2)
      clear d0 dl k0 kl hb3 hk3
      cases hee : (eat go s l1).2.1
      · go_wp2_with fail
        ((with_reducible refine (HI1.out.run _ _ H3.out.1).mono ?_); rintro e w4 ⟨v, s4, F4, rfl, hv, ha4, hf4⟩)
        obtain ⟨rfl, rfl⟩ := hv
        have H4 := Lib.hid (And.intro ha4 (H3.out.2.trans hf4))
        clear ha4 hf4
        rw [hee]
        go_wp2_with fail
        go_ret
        exact ⟨_, _, F4, rfl, HN.out.1 (.bool false) _ (by rw [hee]; simp) ⟨by rw [hee], rfl⟩, H4.out.1, H4.out.2⟩
      · go_wp2_with fail
        ((with_reducible refine (HI1.out.run _ _ H3.out.1).mono ?_); rintro e w4 ⟨v, s4, F4, rfl, hv, ha4, hf4⟩)
        obtain ⟨rfl, rfl⟩ := hv
        have hk4 := hf4.block HK3.out.1 HK3.out.2
        have f0 := cell_of_row w4 bk 0 _ _ (0, 0) hk4
        have f1 := cell_of_row w4 bk 1 _ _ (0, 0) hk4
        have hl4 := (Array.getElem?_eq_some_iff.1 hk4).1
        have H4 := Lib.hid (And.intro ha4 (H3.out.2.trans hf4))
        clear ha4 hf4 hk4
        rw [hee]
        go_wp2_with fail
        ((with_reducible refine (HI3.out.run _ _ H4.out.1).mono ?_); rintro e w5 ⟨v, s5, F5, rfl, hv, ha5, hf5⟩)
        have H5 := Lib.hid (And.intro ha5 (H4.out.2.trans hf5))
        have hvv := hv
        obtain ⟨rfl, rfl⟩ := hvv
        clear ha5 hf5
        go_wp2_with fail
        go_ret
        exact ⟨_, _, F5, rfl, HN.out.2 _ _ hee hv, H5.out.1, H5.out.2⟩
end
end Go.Proofs.Ytkcocdpmangcgaa.Wk


/- Layer 23: who takes bytes: a slice of bytes and a number in memory; take, keep, like. */ -/
namespace Go.Proofs.Ytkcocdpmangcgaa.Wk
set_option linter.unusedSimpArgs false
set_option linter.unusedVariables false
open Go Go.RowKit Go.Proofs.Ytkcocdpmangcgaa.Rp
open Go.Proofs.Ytkcocdpmangcgaa.Ar (T Is Ext WF Knot getK getB getS Arena resAr small)
attribute [local go_sem] lt_add1 lt_self1 size_ne size_ne' size_ne1 size_ne1'

def bv (l : List UInt8) : List Value := l.map fun c => .int .u8 (c.toNat : Nat)
theorem bv_length (l : List UInt8) : (bv l).length = l.length := by simp [bv]
theorem bv_append (a b : List UInt8) : bv (a ++ b) = bv a ++ bv b := by simp [bv]
theorem u8_info : (Try.prog.info? 5).map (fun i => (i.zero, i.size, i.bytes)) = some (some (.int .u8 0), 1, 1) := by kernel_rfl

/-- a slice of bytes and a number. -/
def resSI (ty : TypeId) (bt : Nat) : Res (List UInt8 × Nat) where
  at_ := fun w F s => ∃ v, (∀ b, F b ↔ (b = bt ∨ v.ownBlock = some b)) ∧ v.ownBlock ≠ some bt ∧ w.heap[bt]? = some (.cells #[v, .int .i64 s.2] ty (0, 0)) ∧ w.ownsRow 0 5 1 v s.1.length (bv s.1)
  below := fun {w w' F s} h hb => by
    obtain ⟨v, h1, h2, h3, h4⟩ := h
    exact ⟨v, h1, h2, (hb.block bt (Array.getElem?_eq_some_iff.1 h3).1).trans h3, own_below h4 hb⟩
  lt := fun {w F s} h b hb => by
    obtain ⟨v, h1, h2, h3, h4⟩ := h
    rcases (h1 b).1 hb with rfl | e
    · exact (Array.getElem?_eq_some_iff.1 h3).1
    · exact (h4.lt b e).2
theorem keepsSI (ty : TypeId) (bt : Nat) : Keeps (resSI ty bt) := by
  intro w w' F G G' s h hf hd
  obtain ⟨v, h1, h2, h3, h4⟩ := h
  exact ⟨v, h1, h2, hf.block h3 (hd _ ((h1 bt).2 (.inl rfl))), hf.own h4 (fun b hb => hd _ ((h1 b).2 (.inr hb)))⟩
theorem resSI_of {ty : TypeId} {bt : Nat} {w : World} {F : Nat → Prop} {s : List UInt8 × Nat} (h : (resSI ty bt).at_ w F s) : ∃ v, (∀ b, F b ↔ (b = bt ∨ v.ownBlock = some b)) ∧ v.ownBlock ≠ some bt ∧ w.heap[bt]? = some (.cells #[v, .int .i64 s.2] ty (0, 0)) ∧ w.ownsRow 0 5 1 v s.1.length (bv s.1) := h
/-- a byte more. -/
theorem resSI_push {ty : TypeId} {bt g n cap m : Nat} {w w8 w9 : World} {F : Nat → Prop} {v : Value} {s : List UInt8} {c : UInt8} (hF : ∀ b, F b ↔ (b = bt ∨ v.ownBlock = some b)) (h2 : v.ownBlock ≠ some bt)
    (h3 : w.heap[bt]? = some (.cells #[v, .int .i64 m] ty (0, 0))) (hb : Below w.heap.size w w8) (hn : n = s.length + 1) (ho : w9.ownsRow 0 5 1 (.slice (some ⟨g, 0, none⟩) n cap) n (bv s ++ [.int .u8 (c.toNat : Nat)]))
    (hg : w8.grownBy w9 v.ownBlock) (hat : v.ownBlock = some g ∨ g = w8.heap.size) :
    (resSI ty bt).at_ (w9.setCell ⟨bt, 0, none⟩ (.slice (some ⟨g, 0, none⟩) n cap)) (fun k => k = bt ∨ k = g) (s ++ [c], m) ∧ Fr w F (w9.setCell ⟨bt, 0, none⟩ (.slice (some ⟨g, 0, none⟩) n cap)) (fun k => k = bt ∨ k = g) := by
  have hlt := (Array.getElem?_eq_some_iff.1 h3).1
  have h38 : w8.heap[bt]? = _ := (hb.block bt hlt).trans h3
  have hlt8 := (Array.getElem?_eq_some_iff.1 h38).1
  have hgb : g ≠ bt := by
    rintro rfl
    rcases hat with e | e
    · exact h2 e
    · omega
  have hf := fr_push (b := bt) (i := 0) (u := .slice (some ⟨g, 0, none⟩) n cap) hg hat
  refine ⟨⟨.slice (some ⟨g, 0, none⟩) n cap, fun b => by simp only [Value.ownBlock, Option.some.injEq, eq_comm], by simp only [Value.ownBlock]; intro e; exact hgb (by simpa using e), ?_, ?_⟩, ?_⟩
  · have e : w9.heap[bt]? = _ := (hg.block bt hlt8 (fun e => h2 e.symm)).trans h38
    simp [World.setCell, Array.getElem?_modify, e]
  · have := own_setCell ho (p := ⟨bt, 0, none⟩) (by simp only [Value.ownBlock]; intro e; exact hgb (by simpa using e)) (.slice (some ⟨g, 0, none⟩) n cap)
    simp only [List.length_append, List.length_cons, List.length_nil, bv_append]
    rw [show s.length + (0 + 1) = n by omega]
    exact this
  · refine (Fr.of_below hb : Fr w F w8 F).trans (hf.weaken (fun b h => (hF b).2 h) (fun b h => .inl h))

def goTake (s : List UInt8 × Nat) (c : UInt8) : (List UInt8 × Nat) × Bool := ((s.1 ++ [c], s.2), decide (s.1.length + 1 < s.2))
def goKeep (s : List UInt8 × Nat) (c : UInt8) : (List UInt8 × Nat) × Bool := ((s.1 ++ [c], s.2), true)
def goLike (s : List UInt8 × Nat) (c : UInt8) : (List UInt8 × Nat) × Bool := if s.1[s.2]? = some c then ((s.1, s.2 + 1), true) else (s, false)

set_option maxHeartbeats 1000000 in
theorem keep_does (bt : Nat) (s : List UInt8 × Nat) (c : UInt8) (hs : s.1.length + 1 ≤ 1000000) : Does Try.prog (resSI 143 bt) 84 #[.pointer (some ⟨bt, 0, none⟩), .int .u8 c.toNat] s (fun v s' => v = .bool (goKeep s c).2 ∧ s' = (goKeep s c).1) := by
  rintro w F h
  obtain ⟨v, h1, h2, h3, h4⟩ := resSI_of h
  obtain ⟨A, cp, rfl, _, _⟩ := SlAt.of_own h4
  obtain ⟨s, m⟩ := s
  simp only at h3 h4 hs
  have HH := Lib.hid (And.intro h1 (And.intro h2 (And.intro h3 h4)))
  have c0 := cell_of_row w bt 0 _ _ (0, 0) h3
  have hlt := (Array.getElem?_eq_some_iff.1 h3).1
  obtain ⟨i0, hi, hz0, hz1, hz2⟩ := info_parts u8_info
  clear h h1 h2 h3 h4
  go_enter Try.func84, Try.ntmps84
  go_wp2_with (at_builtin; refine wpList_append_lies _ rfl _ _ 82 rfl 0 5 i0 (.int .u8 0) 1 1 Try.underlying82 hi hz0 hz1 hz2 rfl (by decide) (.slice A s.length cp) s.length (bv s) rfl (World.ownsRow.alloc HH.out.2.2.2 _) ⟨w.heap.size, 0, none⟩ 1 1 [.int .u8 c.toNat] rfl rfl (World.news_of_block (fr := (0, 0)) (heap_alloc_new w _)) (by intro u hu; simp at hu; subst hu; rfl) (by omega) (by unfold maxLen; omega) (by omega) (Nat.zero_le _) _ rfl ?_)
  intro g cap w3 hown hgrow hat hlt3
  have hb8 : Below w.heap.size w (w.alloc (.cells #[.int .u8 c.toNat] 5)) := (Below.refl _ _).alloc (Nat.le_refl _) _
  have hp := resSI_push HH.out.1 HH.out.2.1 HH.out.2.2.1 hb8 rfl hown hgrow (by simpa using hat)
  have hk3 : w3.heap[bt]? = _ := (hgrow.block bt (by have := hb8.size; omega) (fun e => HH.out.2.1 e.symm)).trans ((hb8.block bt hlt).trans HH.out.2.2.1)
  have HP := Lib.hid hp
  have d0 := cell_of_row w3 bt 0 _ _ (0, 0) hk3
  have f0 : w3.frozen? ⟨bt, 0, none⟩ = false := by simp [World.frozen?, hk3]
  have hl3 := (Array.getElem?_eq_some_iff.1 hk3).1
  clear hp hk3 hown hgrow hat hb8 hlt3 c0 hlt hi hz0 hz1 hz2
  go_wp2
  go_ret
  exact ⟨_, (s ++ [c], m), _, rfl, ⟨rfl, rfl⟩, HP.out.1, HP.out.2⟩

set_option maxHeartbeats 1000000 in
theorem take_does (bt : Nat) (s : List UInt8 × Nat) (c : UInt8) (hs : s.1.length + 1 ≤ 1000000) : Does Try.prog (resSI 84 bt) 45 #[.pointer (some ⟨bt, 0, none⟩), .int .u8 c.toNat] s (fun v s' => v = .bool (goTake s c).2 ∧ s' = (goTake s c).1) := by
  rintro w F h
  obtain ⟨v, h1, h2, h3, h4⟩ := resSI_of h
  obtain ⟨A, cp, rfl, _, _⟩ := SlAt.of_own h4
  obtain ⟨s, m⟩ := s
  simp only at h3 h4 hs
  have HH := Lib.hid (And.intro h1 (And.intro h2 (And.intro h3 h4)))
  have c0 := cell_of_row w bt 0 _ _ (0, 0) h3
  have hlt := (Array.getElem?_eq_some_iff.1 h3).1
  obtain ⟨i0, hi, hz0, hz1, hz2⟩ := info_parts u8_info
  clear h h1 h2 h3 h4
  go_enter Try.func45, Try.ntmps45
  go_wp2_with (at_builtin; refine wpList_append_lies _ rfl _ _ 82 rfl 0 5 i0 (.int .u8 0) 1 1 Try.underlying82 hi hz0 hz1 hz2 rfl (by decide) (.slice A s.length cp) s.length (bv s) rfl (World.ownsRow.alloc HH.out.2.2.2 _) ⟨w.heap.size, 0, none⟩ 1 1 [.int .u8 c.toNat] rfl rfl (World.news_of_block (fr := (0, 0)) (heap_alloc_new w _)) (by intro u hu; simp at hu; subst hu; rfl) (by omega) (by unfold maxLen; omega) (by omega) (Nat.zero_le _) _ rfl ?_)
  intro g cap w3 hown hgrow hat hlt3
  have hb8 : Below w.heap.size w (w.alloc (.cells #[.int .u8 c.toNat] 5)) := (Below.refl _ _).alloc (Nat.le_refl _) _
  have hp := resSI_push HH.out.1 HH.out.2.1 HH.out.2.2.1 hb8 rfl hown hgrow (by simpa using hat)
  have hk3 : w3.heap[bt]? = _ := (hgrow.block bt (by have := hb8.size; omega) (fun e => HH.out.2.1 e.symm)).trans ((hb8.block bt hlt).trans HH.out.2.2.1)
  have d0 := cell_of_row w3 bt 0 _ _ (0, 0) hk3
  have f0 : w3.frozen? ⟨bt, 0, none⟩ = false := by simp [World.frozen?, hk3]
  have hl3 := (Array.getElem?_eq_some_iff.1 hk3).1
  obtain ⟨v4, q1, q2, q3, q4⟩ := resSI_of hp.1
  have e0 : (w3.setCell ⟨bt, 0, none⟩ (.slice (some ⟨g, 0, none⟩) (s.length + 1) cap)).heap[bt]? = some (.cells #[.slice (some ⟨g, 0, none⟩) (s.length + 1) cap, .int .i64 m] 84 (0, 0)) := by simp [World.setCell, Array.getElem?_modify, hk3]
  have e1 := cell_of_row _ bt 0 _ _ (0, 0) e0
  have e2 := cell_of_row _ bt 1 _ _ (0, 0) e0
  have hl4 := (Array.getElem?_eq_some_iff.1 e0).1
  have HP := Lib.hid hp
  simp only [List.getElem?_toArray, List.getElem?_cons_zero, List.getElem?_cons_succ] at e1 e2
  clear q1 q2 q3 q4 e0 hp hk3 hown hgrow hat hb8 hlt3 c0 hlt hi hz0 hz1 hz2
  go_upto_region 2 with fail
  generalize w3.setCell ⟨bt, 0, none⟩ (.slice (some ⟨g, 0, none⟩) (s.length + 1) cap) = W at HP e1 e2 hl4 ⊢
  clear d0 f0 hl3
  go_quiet (fail)
  have HD := Lib.hid ((resSI 84 bt).below HP.out.1 (Below.drewN (Below.refl W.heap.size W) nq))
  go_wp2
  go_ret
  refine ⟨_, (s ++ [c], m), _, rfl, ⟨?_, rfl⟩, HD.out, HP.out.2.trans (Fr.of_below (Below.drewN (Below.refl W.heap.size W) nq))⟩
  simp [goTake]
  omega

set_option maxHeartbeats 2000000 in
theorem like_does (bt : Nat) (s : List UInt8 × Nat) (c : UInt8) (hs : s.1.length ≤ 1000000) : Does Try.prog (resSI 143 bt) 85 #[.pointer (some ⟨bt, 0, none⟩), .int .u8 c.toNat] s (fun v s' => v = .bool (goLike s c).2 ∧ s' = (goLike s c).1) := by
  rintro w F h
  obtain ⟨v, h1, h2, h3, h4⟩ := resSI_of h
  obtain ⟨A, cp, rfl, _, hcs⟩ := SlAt.of_own h4
  obtain ⟨s, m⟩ := s
  simp only at h3 h4 hs hcs
  have HH := Lib.hid (And.intro h (And.intro h3 (And.intro h1 (And.intro h2 h4))))
  have HD := Lib.hid (fun n => (resSI 143 bt).below h (Below.drewN (Below.refl w.heap.size w) n))
  have c0 := cell_of_row w bt 0 _ _ (0, 0) h3
  have c1 := cell_of_row w bt 1 _ _ (0, 0) h3
  have hlt := (Array.getElem?_eq_some_iff.1 h3).1
  simp only [List.getElem?_toArray, List.getElem?_cons_zero, List.getElem?_cons_succ] at c0 c1
  clear h h1 h2 h3 h4
  by_cases hm : m < s.length
  · obtain ⟨g, off, rfl, hgl, hcell⟩ := hcs (by omega)
    have hx : w.cell? ⟨g, off + (m * 1 + 0), none⟩ = some ((bv s).getD (m * 1 + 0) undef) := hcell m 0 hm (by omega)
    have hxv : (bv s).getD (m * 1 + 0) undef = .int .u8 ((s.getD m 0).toNat : Nat) := by simp [bv, List.getD, hm]
    rw [hxv] at hx
    simp only [Nat.mul_one, Nat.add_zero] at hx
    have hgo : goLike (s, m) c = if s.getD m 0 = c then ((s, m + 1), true) else ((s, m), false) := by
      unfold goLike
      simp only
      rw [List.getElem?_eq_getElem hm]
      simp [List.getD, hm]
    rw [hgo]
    clear hcell hcs hxv hgo
    generalize s.getD m 0 = x at hx ⊢
    have hm' : ¬ (s.length : Int) ≤ m := by omega
    have hm2 : (m : Int) < s.length := by omega
    by_cases hxc : x = c
    · subst hxc
      have HS : Hid (∀ wn : World, wn.heap[bt]? = w.heap[bt]? → (wn.setCell ⟨bt, 1, none⟩ (.int .i64 ((m : Int) + 1))).heap[bt]? = some (.cells #[.slice (some ⟨g, off, none⟩) s.length cp, .int .i64 (m + 1 : Nat)] 143 (0, 0))) := Lib.hid (fun wn e => by
        rw [HH.out.2.1] at e
        simp [World.setCell, Array.getElem?_modify, e])
      have f1 : w.frozen? ⟨bt, 1, none⟩ = false := by simp [World.frozen?, HH.out.2.1]
      go_enter Try.func85, Try.ntmps85
      go_upto_region 1 with fail
      go_quiet (fail)
      go_wp2
      go_ret
      have hset : Fr (w.drewN nq) F ((w.drewN nq).setCell ⟨bt, 1, none⟩ (.int .i64 ((m : Int) + 1))) F :=
        ⟨rfl, rfl, rfl, by rw [World.size_setCell]; exact Nat.le_refl _, fun b _ hn => set_block (fun e => hn ((HH.out.2.2.1 b).2 (.inl e))), fun b hb => .inl hb⟩
      refine ⟨.bool true, rfl, s, m + 1, ⟨by first | rfl | simp, by first | rfl | simp, by first | rfl | simp⟩, F, ?_, (Fr.of_below (Below.drewN (Below.refl w.heap.size w) nq)).trans hset⟩
      refine ⟨_, HH.out.2.2.1, HH.out.2.2.2.1, HS.out _ rfl, ?_⟩
      exact own_setCell (own_below HH.out.2.2.2.2 (Below.drewN (Below.refl w.heap.size w) nq)) (p := ⟨bt, 1, none⟩) HH.out.2.2.2.1 _
    · have hne : ((x.toNat : Int) == (c.toNat : Int)) = false := by
        simp
        intro e
        exact hxc (UInt8.toNat_inj.1 (by omega))
      have hne2 : ((x.toNat : Int) != (c.toNat : Int)) = true := by simp [bne, hne]
      go_enter Try.func85, Try.ntmps85
      go_upto_region 1 with fail
      go_quiet (fail)
      go_wp2
      go_ret
      exact ⟨.bool false, rfl, s, m, ⟨by first | rfl | simp [hxc], by first | rfl | simp [hxc], by first | rfl | simp [hxc]⟩, F, HD.out nq, Fr.of_below (Below.drewN (Below.refl w.heap.size w) nq)⟩
  · have hgo : goLike (s, m) c = ((s, m), false) := by
      unfold goLike
      simp only
      rw [List.getElem?_eq_none (by omega)]
      simp
    rw [hgo]
    clear hcs hgo
    have hm' : (s.length : Int) ≤ m := by omega
    go_enter Try.func85, Try.ntmps85
    go_upto_region 1 with fail
    go_quiet (fail)
    go_wp2
    go_ret
    exact ⟨.bool false, rfl, s, m, ⟨rfl, rfl, rfl⟩, F, HD.out nq, Fr.of_below (Below.drewN (Below.refl w.heap.size w) nq)⟩
end Go.Proofs.Ytkcocdpmangcgaa.Wk
