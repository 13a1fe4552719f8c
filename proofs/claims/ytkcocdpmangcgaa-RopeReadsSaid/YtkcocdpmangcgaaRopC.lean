
/- A store's reading: read (over a tree), Read, Byte. */ -/
import Derived.Test.YtkcocdpmangcgaaRopB
import Derived.Test.YtkcocdpmangcgaaBld
namespace Go.Proofs.Ytkcocdpmangcgaa.Rp
set_option linter.unusedSimpArgs false
set_option linter.unusedVariables false
open Go Go.RowKit
open Go.Proofs.Ytkcocdpmangcgaa.Ar (T Is Ext WF Knot getK getB Arena resAr small leafK blkK)
open Go.Proofs.Ytkcocdpmangcgaa.Buf (BufS feedsV feedV feedB thereB sliceV)
attribute [local go_sem] lt_add1 lt_self1 size_ne size_ne' size_ne1 size_ne1'
attribute [local irreducible] wpGrow wpThr

theorem sliceV_cut {S : ByteArray} {o n : Int} (h0 : 0 ≤ o) (h1 : 0 ≤ n) (h2 : o + n ≤ S.size) : (sliceV S o n).data.toList = cutS S o n := by
  have hb : thereB S.size o n = true := by simp [thereB]; omega
  unfold sliceV
  rw [if_pos hb, extract_list]
  unfold cutS
  congr 1
  omega

/-! a builder in a world that has grown -/
theorem bld_below {T e : TypeId} {B b : Nat} {bs : List Value} {w w' : World} (h : Lib.IsBuilderF T e B b bs w) (hb : Below w.heap.size w w') : Lib.IsBuilderF T e B b bs w' := by
  have key : ∀ p, Lib.BuilderAtF T e B b p bs w → Lib.BuilderAtF T e B b p bs w' := by
    intro p hp
    have hlt := hp.lt
    obtain ⟨hB, v, hk, hown, hne⟩ := hp
    refine ⟨hB, v, (hb.block b hlt).trans hk, ⟨hown.1, ?_⟩, hne⟩
    rcases hown.2 with h | ⟨g, cap, cur, fz, hv, hg, hgk, rest⟩
    · exact .inl h
    · exact .inr ⟨g, cap, cur, fz, hv, hg, (hb.block g (Array.getElem?_eq_some_iff.1 hgk).1).trans hgk, rest⟩
  exact h.elim (fun h => .inl (key _ h)) (fun h => .inr (key _ h))
theorem others_below {e : TypeId} {b : Option Nat} {w w' : World} (hb : Below w.heap.size w w') : Lib.OthersKept e b w w' := fun k o hk _ _ => (hb.block k (Array.getElem?_eq_some_iff.1 hk).1).trans hk
theorem bld_lt {T e : TypeId} {B b : Nat} {bs : List Value} {w : World} (h : Lib.IsBuilderF T e B b bs w) : b < w.heap.size := h.elim (fun h => h.lt) (fun h => h.lt)

/-- where read stands: w0 before the builder was made; bs the builder's bytes. -/
structure RS (w0 : World) (b : Nat) (l : List UInt8) (w : World) : Prop where
  bl : Below w0.heap.size w0 w
  bd : Lib.IsBuilderF 132 5 w0.heap.size b (Lib.byteCells l) w
/-- what read hands back. -/
structure RSP (w0 : World) (b : Nat) (l : List UInt8) (w w' : World) : Prop where
  rs : RS w0 b l w'
  ok : Lib.OthersKept 5 (some b) w w'
section
variable {w0 w w' w2 : World} {b : Nat} {l l' : List UInt8}
theorem RS.below (h : RS w0 b l w) (hb : Below w.heap.size w w') : RS w0 b l w' := ⟨h.bl.trans (hb.mono h.bl.size), bld_below h.bd hb⟩
theorem RS.lt (h : RS w0 b l w) : b < w.heap.size := bld_lt h.bd
theorem RSP.of_below (h : RS w0 b l w) (hb : Below w.heap.size w w') : RSP w0 b l w w' := ⟨h.below hb, others_below hb⟩
theorem RSP.trans (h : RSP w0 b l w w') (h' : RSP w0 b l' w' w2) : RSP w0 b l' w w2 := ⟨h'.1, h.2.trans h'.2⟩
theorem RSP.blk (h : RSP w0 b l w w') {k : Nat} {x : Knot} (hx : blkK w k x) (hne : k ≠ b) : blkK w' k x :=
  h.2 k _ hx (fun e => hne (Option.some.inj e)) (fun c fz e => by injection e with _ e _; exact absurd e (by decide))
end

theorem take_one (a b : List UInt8) {z at_ n : Int} (hz : (a.length : Int) = z) (h0 : 0 ≤ at_) (h1 : at_ + n ≤ z) (h2 : 0 ≤ n) : ((a ++ b).drop at_.toNat).take n.toNat = (a.drop at_.toNat).take (min n (z - at_)).toNat := by
  rw [List.drop_append_of_le_length (by omega), List.take_append_of_le_length (by rw [List.length_drop]; omega), show min n (z - at_) = n by omega]
theorem take_snd (a b : List UInt8) {z at_ n : Int} (hz : (a.length : Int) = z) (h0 : 0 ≤ at_) (h1 : z ≤ at_) : ((a ++ b).drop at_.toNat).take n.toNat = (b.drop (max (at_ - z) 0).toNat).take (at_ + n - max at_ z).toNat := by
  rw [List.drop_append, List.drop_of_length_le (show a.length ≤ at_.toNat by omega), List.nil_append, show max at_ z = at_ by omega, show at_ + n - at_ = n by omega, show at_.toNat - a.length = (max (at_ - z) 0).toNat by omega]
theorem take_two (a b : List UInt8) {z at_ n : Int} (hz : (a.length : Int) = z) (h0 : 0 ≤ at_) (h1 : at_ < z) (h2 : z < at_ + n) :
    ((a ++ b).drop at_.toNat).take n.toNat = (a.drop at_.toNat).take (min n (z - at_)).toNat ++ (b.drop (max (at_ - z) 0).toNat).take (at_ + n - max at_ z).toNat := by
  rw [List.drop_append_of_le_length (by omega), List.take_append, show min n (z - at_) = z - at_ by omega, show max (at_ - z) 0 = 0 by omega, show max at_ z = z by omega, List.length_drop]
  rw [List.take_of_length_le (i := n.toNat) (by rw [List.length_drop]; omega), List.take_of_length_le (i := (z - at_).toNat) (by rw [List.length_drop]; omega), show n.toNat - (a.length - at_.toNat) = (at_ + n - z).toNat by omega]
  simp

section
variable {gs gb ga : Nat} {rb rf q : Option Nat} {S : ByteArray} {ks : List Knot} {w0 : World} {b : Nat}
abbrev readC (gs b : Nat) (t a n : Int) : Array Value := #[.pointer (some ⟨gs, 0, none⟩), .pointer (some ⟨b, 0, none⟩), .int .i64 t, .int .i64 a, .int .i64 n]

set_option maxHeartbeats 1000000 in
theorem read_zero (h : St w0 gs gb ga rb rf q S ks) (hks : ks.length ≤ small) (t a n : Int) (hn : n = 0 ∨ getB ks t = false) (l : List UInt8) (w : World) (hr : RS w0 b l w) :
    Calls Try.prog 79 #[.pointer (some ⟨gs, 0, none⟩), .pointer (some ⟨b, 0, none⟩), .int .i64 t, .int .i64 a, .int .i64 n] w fun e w' => e = .returned (.tuple #[]) ∧ RSP w0 b l w w' := by
  have G := Lib.hid (rknot_any gs gb ga rb rf q S ks w t ⟨(hr.bl.block gs h.lt).trans h.blk, Buf.Buf.below h.buf (hr.bl), h.ar.below hr.bl, h.ap, h.sb, h.sa⟩ hks)
  have HR := Lib.hid hr
  unfold Knot.val at G
  clear h hr hks
  generalize getK ks t = k at G
  generalize getB ks t = ok at G hn
  go_enter Try.func79, Try.ntmps79
  go_wp2_with fail
  ((with_reducible refine G.out.mono ?_); rintro e w1 ⟨rfl, hb1⟩)
  have hb := hb1.alloc hb1.size (.cells #[.int .i64 k.left, .int .i64 k.right, .int .i64 k.off, .int .i64 k.len, .int .i64 k.high, .int .i64 k.leaves, .int .i64 k.feeds] 66)
  have HB := Lib.hid (RSP.of_below HR.out hb)
  clear hb1 hb
  rcases hn with rfl | rfl
  · cases ok
    all_goals
      go_wp2
      (first | go_end0 | refine bodyPost_ret (v := .tuple #[]) (by simp [results, Try.results79, go_sem]) rfl ?_)
      exact ⟨rfl, HB.out⟩
  · go_wp2
    (first | go_end0 | refine bodyPost_ret (v := .tuple #[]) (by simp [results, Try.results79, go_sem]) rfl ?_)
    exact ⟨rfl, HB.out⟩

set_option maxHeartbeats 2000000 in
theorem read_leaf (h : St w0 gs gb ga rb rf q S ks) (hks : ks.length ≤ small) (hS : S.size ≤ 1000000) (t o m f a n : Int) (ht : Is ks t (.leaf o m f)) (hg : lfOK S (o, m, f)) (ha : 0 ≤ a) (hn : 1 ≤ n) (hm : a + n ≤ m) (l : List UInt8) (hl : l.length ≤ 100000000000) (w : World) (hr : RS w0 b l w) :
    Calls Try.prog 79 #[.pointer (some ⟨gs, 0, none⟩), .pointer (some ⟨b, 0, none⟩), .int .i64 t, .int .i64 a, .int .i64 n] w fun e w' => e = .returned (.tuple #[]) ∧ RSP w0 b (l ++ ((cutS S o m).drop a.toNat).take n.toNat) w w' := by
  obtain ⟨gk, gbt, _⟩ := ht.leaf_
  obtain ⟨o0, o1, o2, -⟩ := hg
  simp only at o0 o1 o2
  have hSt := Lib.hid (fun w (hr : Below w0.heap.size w0 w) => (⟨(hr.block gs h.lt).trans h.blk, Buf.Buf.below h.buf hr, h.ar.below hr, h.ap, h.sb, h.sa⟩ : St w gs gb ga rb rf q S ks))
  have G := Lib.hid (rknot_any gs gb ga rb rf q S ks w t (hSt.out w hr.bl) hks)
  have HR := Lib.hid hr
  rw [gk, gbt] at G
  unfold Knot.val leafK at G
  simp only at G
  have HS := Lib.hid (fun w' (hr : Below w0.heap.size w0 w') => rbytes_any gs gb ga rb rf q S ks w' (o + a) n (hSt.out w' hr) hS)
  have hcut : ((cutS S o m).drop a.toNat).take n.toNat = (sliceV S (o + a) n).data.toList := by
    rw [sliceV_cut (by omega) (by omega) (by omega)]
    unfold cutS
    rw [List.drop_take, List.drop_drop, List.take_take]
    congr 1
    · omega
    · congr 1
      omega
  rw [hcut]
  have hsz : (sliceV S (o + a) n).size ≤ 1000000 := by
    have h1 : (sliceV S (o + a) n).size = (sliceV S (o + a) n).data.toList.length := rfl
    have := cutS_length (S := S) (o := o + a) (n := n) (by omega) (by omega) (by omega)
    rw [h1, sliceV_cut (by omega) (by omega) (by omega)]
    omega
  generalize sliceV S (o + a) n = s at HS hsz ⊢
  clear h hr hks gk gbt ht hcut
  go_enter Try.func79, Try.ntmps79
  go_wp2_with fail
  ((with_reducible refine G.out.mono ?_); rintro e w1 ⟨rfl, hb1⟩)
  have hb := hb1.alloc hb1.size (.cells #[.int .i64 0, .int .i64 0, .int .i64 o, .int .i64 m, .int .i64 1, .int .i64 1, .int .i64 f] 66)
  have HB := Lib.hid (RSP.of_below HR.out hb)
  clear hb1 hb
  go_wp2_with (go_at_call 48; ((with_reducible refine (HS.out _ HB.out.1.bl).mono ?_); rintro e w2 ⟨rfl, hb2⟩))
  have HB2 := Lib.hid (HB.out.trans (RSP.of_below HB.out.1 hb2))
  clear hb2 HB
  go_wp2_with (go_at_call 99; ((with_reducible refine (Bld.write _ b _ s _ HB2.out.1.bd (by rw [Lib.byteCells_length]; omega) HB2.out.1.bl.size).mono ?_); rintro e w3 ⟨rfl, hbd, hbl, hok⟩))
  have HB3 : RSP w0 b (l ++ s.data.toList) w w3 := by
    refine ⟨⟨HB2.out.1.bl.trans hbl, ?_⟩, HB2.out.2.trans hok⟩
    rw [Lib.byteCells_append]
    exact .inr hbd
  have HB3 := Lib.hid HB3
  clear hbd hbl hok
  go_wp2
  (first | go_end0 | refine bodyPost_ret (v := .tuple #[]) (by simp [results, Try.results79, go_sem]) rfl ?_)
  exact ⟨rfl, HB3.out⟩

theorem blk_load {w : World} {k : Nat} {x : Knot} (h : blkK w k x) : w.cell? ⟨k, 0, none⟩ = some (.int .i64 x.left) ∧ w.cell? ⟨k, 1, none⟩ = some (.int .i64 x.right) ∧ k < w.heap.size := ⟨h.c0, h.c1, h.lt⟩
set_option maxHeartbeats 4000000 in
theorem read_node (h : St w0 gs gb ga rb rf q S ks) (hw : WF ks) (hks : ks.length ≤ small) (t a n : Int) (L R : T) (ht : Is ks t (.node L R)) (hg : Good S (.node L R)) (ha : 0 ≤ a) (hn : 1 ≤ n) (hm : a + n ≤ L.size + R.size) (l : List UInt8) (w : World) (hr : RS w0 b l w)
    (iL : ∀ t' a' n' l' w', Is ks t' L → 0 ≤ a' → 0 ≤ n' → a' + n' ≤ L.size → (l'.length : Int) + n' ≤ (l.length : Int) + n → RS w0 b l' w' → Calls Try.prog 79 #[.pointer (some ⟨gs, 0, none⟩), .pointer (some ⟨b, 0, none⟩), .int .i64 t', .int .i64 a', .int .i64 n'] w' fun e w'' => e = .returned (.tuple #[]) ∧ RSP w0 b (l' ++ ((txt S L).drop a'.toNat).take n'.toNat) w' w'')
    (iR : ∀ t' a' n' l' w', Is ks t' R → 0 ≤ a' → 0 ≤ n' → a' + n' ≤ R.size → (l'.length : Int) + n' ≤ (l.length : Int) + n → RS w0 b l' w' → Calls Try.prog 79 #[.pointer (some ⟨gs, 0, none⟩), .pointer (some ⟨b, 0, none⟩), .int .i64 t', .int .i64 a', .int .i64 n'] w' fun e w'' => e = .returned (.tuple #[]) ∧ RSP w0 b (l' ++ ((txt S R).drop a'.toNat).take n'.toNat) w' w'') :
    Calls Try.prog 79 #[.pointer (some ⟨gs, 0, none⟩), .pointer (some ⟨b, 0, none⟩), .int .i64 t, .int .i64 a, .int .i64 n] w fun e w' => e = .returned (.tuple #[]) ∧ RSP w0 b (l ++ ((txt S (.node L R)).drop a.toNat).take n.toNat) w w' := by
  have hgL : ((txt S L).length : Int) = L.size := txt_length (good_node.1 hg).1
  obtain ⟨l', r', e1, e2, hI1, hI2, gbt, _, _, _, gk⟩ := ht.node_
  have okN := ht.ok hw
  simp only [T.ok] at okN
  have hbL : 0 ≤ L.size ∧ L.size ≤ 1099511627776 ∧ 0 ≤ R.size ∧ L.size + R.size ≤ 1099511627776 := by omega
  have hSt := Lib.hid (fun w (hr : Below w0.heap.size w0 w) => (⟨(hr.block gs h.lt).trans h.blk, Buf.Buf.below h.buf hr, h.ar.below hr, h.ap, h.sb, h.sa⟩ : St w gs gb ga rb rf q S ks))
  have G := Lib.hid (rknot_any gs gb ga rb rf q S ks w t (hSt.out w hr.bl) hks)
  have HR := Lib.hid hr
  rw [gk, gbt] at G
  unfold Knot.val at G
  simp only at G
  have HZ := Lib.hid (fun w' (hr : Below w0.heap.size w0 w') => Ar.size_any ga q ks l' w' (hSt.out w' hr).ar hks)
  rw [Ar.is_there hI1, hI1.knot.1] at HZ
  rw [txt_node]
  have HI := Lib.hid (And.intro (fun a' n' lx w' => iL l' a' n' lx w' hI1) (fun a' n' lx w' => iR r' a' n' lx w' hI2))
  clear h hr hks gk gbt ht hI1 hI2 okN iL iR hg hw e2
  generalize txt S L = xL at hgL HI ⊢
  generalize txt S R = xR at HI ⊢
  generalize L.size = z at hgL HI hbL HZ G hm
  generalize R.size = zr at HI hbL G hm
  generalize 1 + max L.high R.high = z2 at G
  generalize L.many + R.many = z3 at G
  generalize L.feeds + R.feeds = z4 at G
  have HN := Lib.hid (And.intro hgL (And.intro ha (And.intro hn (And.intro hm hbL))))
  go_enter Try.func79, Try.ntmps79
  go_wp2_with fail
  ((with_reducible refine G.out.mono ?_); rintro e w1 ⟨rfl, hb1⟩)
  have hb := hb1.alloc hb1.size (.cells #[.int .i64 l', .int .i64 r', .int .i64 0, .int .i64 (z + zr), .int .i64 z2, .int .i64 z3, .int .i64 z4] 66)
  have hx : blkK (w1.alloc (.cells #[.int .i64 l', .int .i64 r', .int .i64 0, .int .i64 (z + zr), .int .i64 z2, .int .i64 z3, .int .i64 z4] 66)) w1.heap.size ⟨l', r', 0, z + zr, z2, z3, z4⟩ := heap_alloc_new _ _
  have hne : w1.heap.size ≠ b := by have := HR.out.lt; have := hb1.size; omega
  have HB := Lib.hid (RSP.of_below HR.out hb)
  have HX := Lib.hid (And.intro hx hne)
  clear hb1 hb hx hne
  go_upto_region 4 with fail
  generalize w1.heap.size = kb at HX ⊢
  generalize w1.alloc (.cells #[.int .i64 l', .int .i64 r', .int .i64 0, .int .i64 (z + zr), .int .i64 z2, .int .i64 z3, .int .i64 z4] 66) = W at HB HX ⊢
  have hStW := Lib.hid (hSt.out W HB.out.rs.bl)
  obtain ⟨c0, c1⟩ := hStW.out.c
  have hltW := hStW.out.lt
  obtain ⟨x0, x1, hbp⟩ := blk_load HX.out.1
  simp only at x0 x1
  refine wp_region_grow 12 (by kernel_rfl) (by kernel_rfl) ?_
  simp only [List.take_succ_cons, List.take_zero, List.drop_succ_cons, List.drop_zero, List.take_nil, List.drop_nil]
  iterate 6 ((refine wpGrow_val' rfl rfl ?_; apply Exists.intro; refine ⟨fun w1 hw1 => ?_, ?_⟩); (have hc1 := hw1.cell; go_simp; exact growUpon_ok rfl); (refine wpGrow_at (by (simp only [Act.put, List.setIfInBounds_toArray, List.set_cons_succ, List.set_cons_zero]) <;> exact rfl) ?_))
  (refine wpGrow_val' rfl rfl ?_; apply Exists.intro; refine ⟨fun w1 hw1 => ?_, ?_⟩)
  · go_simp
    exact growUpon_call (HZ.out _ (HB.out.rs.bl.trans (hw1.below.mono HB.out.rs.bl.size)))
  (refine wpGrow_at (by (simp only [Act.put, List.setIfInBounds_toArray, List.set_cons_succ, List.set_cons_zero]) <;> exact rfl) ?_)
  iterate 5 ((refine wpGrow_val' rfl rfl ?_; apply Exists.intro; refine ⟨fun w1 hw1 => ?_, ?_⟩); (have hc1 := hw1.cell; go_simp; exact growUpon_ok rfl); (refine wpGrow_at (by (simp only [Act.put, List.setIfInBounds_toArray, List.set_cons_succ, List.set_cons_zero]) <;> exact rfl) ?_))
  refine wpGrow_nil ?_
  intro w2 hD
  have HB2 := Lib.hid (HB.out.trans (RSP.of_below HB.out.1 hD.below))
  have HX2 := Lib.hid (And.intro (HX.out.1.below hD.below) HX.out.2)
  clear hD x0 x1 hbp c0 c1 hltW hStW HX HB
  obtain ⟨x0, x1, hbp⟩ := blk_load HX2.out.1
  simp only at x0 x1
  obtain ⟨hz0, hz1, hz2, hz3⟩ := hbL
  clear hgL
  by_cases c1 : a + n ≤ z
  · have c2 : a < z := by omega
    go_wp2_with fail
    ((with_reducible refine (HI.out.1 a (min n (z - a)) l _ ha (by omega) (by omega) (by omega) HB2.out.rs).mono ?_); rintro e w3 ⟨rfl, h3⟩)
    have HB3 := Lib.hid (HB2.out.trans h3)
    clear h3
    go_wp2
    (first | go_end0 | refine bodyPost_ret (v := .tuple #[]) (by simp [results, Try.results79, go_sem]) rfl ?_)
    rw [take_one xL xR HN.out.1 ha c1 (by omega)]
    exact ⟨rfl, HB3.out⟩
  · by_cases c2 : a < z
    · go_wp2_with fail
      ((with_reducible refine (HI.out.1 a (min n (z - a)) l _ ha (by omega) (by omega) (by omega) HB2.out.rs).mono ?_); rintro e w3 ⟨rfl, h3⟩)
      have HX3 := Lib.hid (h3.blk HX2.out.1 HX2.out.2)
      have HB3 := Lib.hid (HB2.out.trans h3)
      have hlen : (l ++ (xL.drop a.toNat).take (min n (z - a)).toNat).length = l.length + (min n (z - a)).toNat := by
        have := HN.out.1
        rw [List.length_append, List.length_take, List.length_drop]
        omega
      clear h3 x0 x1 hbp HX2 HB2
      obtain ⟨x0, x1, hbp⟩ := blk_load HX3.out
      simp only at x0 x1
      go_wp2_with fail
      ((with_reducible refine (HI.out.2 (max (a - z) 0) (a + n - max a z) _ _ (by omega) (by omega) (by omega) (by rw [hlen]; omega) HB3.out.rs).mono ?_); rintro e w4 ⟨rfl, h4⟩)
      have HB4 := Lib.hid (HB3.out.trans h4)
      clear h4
      go_wp2
      (first | go_end0 | refine bodyPost_ret (v := .tuple #[]) (by simp [results, Try.results79, go_sem]) rfl ?_)
      rw [take_two xL xR HN.out.1 ha c2 (by omega), ← List.append_assoc]
      exact ⟨rfl, HB4.out⟩
    · go_wp2_with fail
      ((with_reducible refine (HI.out.2 (max (a - z) 0) (a + n - max a z) l _ (by omega) (by omega) (by omega) (by omega) HB2.out.rs).mono ?_); rintro e w4 ⟨rfl, h4⟩)
      have HB4 := Lib.hid (HB2.out.trans h4)
      clear h4
      go_wp2
      (first | go_end0 | refine bodyPost_ret (v := .tuple #[]) (by simp [results, Try.results79, go_sem]) rfl ?_)
      rw [take_snd xL xR HN.out.1 ha (by omega)]
      exact ⟨rfl, HB4.out⟩

theorem read_any (h : St w0 gs gb ga rb rf q S ks) (hw : WF ks) (hks : ks.length ≤ small) (hS : S.size ≤ 1000000) : ∀ (X : T) (t a n : Int) (l : List UInt8) (w : World), Is ks t X → Good S X → 0 ≤ a → 0 ≤ n → a + n ≤ X.size → (l.length : Int) + n ≤ 100000000000 → RS w0 b l w →
    Calls Try.prog 79 #[.pointer (some ⟨gs, 0, none⟩), .pointer (some ⟨b, 0, none⟩), .int .i64 t, .int .i64 a, .int .i64 n] w fun e w' => e = .returned (.tuple #[]) ∧ RSP w0 b (l ++ ((txt S X).drop a.toNat).take n.toNat) w w' := by
  have z0 : ∀ (X : T) (t a n : Int) (l : List UInt8) (w : World), n = 0 → RS w0 b l w → Calls Try.prog 79 #[.pointer (some ⟨gs, 0, none⟩), .pointer (some ⟨b, 0, none⟩), .int .i64 t, .int .i64 a, .int .i64 n] w fun e w' => e = .returned (.tuple #[]) ∧ RSP w0 b (l ++ ((txt S X).drop a.toNat).take n.toNat) w w' := by
    intro X t a n l w hn hr
    have := read_zero h hks t a n (.inl hn) l w hr
    rw [hn] at this ⊢
    simpa using this
  intro X
  induction X with
  | nil => intro t a n l w ht hg ha hn hm hl hr; exact z0 _ _ _ _ _ _ (by simp only [T.size] at hm; omega) hr
  | leaf o m f =>
    intro t a n l w ht hg ha hn hm hl hr
    by_cases h0 : n = 0
    · exact z0 _ _ _ _ _ _ h0 hr
    · have := read_leaf h hks hS t o m f a n ht (good_leaf.1 hg) ha (by omega) (by simpa only [T.size] using hm) l (by omega) w hr
      rwa [txt_leaf]
  | node L R iL iR =>
    intro t a n l w ht hg ha hn hm hl hr
    by_cases h0 : n = 0
    · exact z0 _ _ _ _ _ _ h0 hr
    · exact read_node h hw hks t a n L R ht hg ha (by omega) (by simpa only [T.size] using hm) l w hr
        (fun t' a' n' l' w' h1 h2 h3 h4 h5 h6 => iL t' a' n' l' w' h1 (good_node.1 hg).1 h2 h3 h4 (by omega) h6)
        (fun t' a' n' l' w' h1 h2 h3 h4 h5 h6 => iR t' a' n' l' w' h1 (good_node.1 hg).2 h2 h3 h4 (by omega) h6)
end
end Go.Proofs.Ytkcocdpmangcgaa.Rp
