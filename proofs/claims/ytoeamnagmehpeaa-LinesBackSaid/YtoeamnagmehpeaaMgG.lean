/- A store's Make and Pair. */ -/
import Derived.Test.YtoeamnagmehpeaaMgF
namespace Go.Proofs.Ytoeamnagmehpeaa.Rp
set_option linter.unusedSimpArgs false
set_option linter.unusedVariables false
open Go Go.RowKit
open Go.Proofs.Ytoeamnagmehpeaa.Ar (T Is Ext WF Knot getK getB Arena resAr small mkl leaf_mk)
open Go.Proofs.Ytoeamnagmehpeaa.Buf (BufS feedsV feedV feedB thereB sliceV)
attribute [local go_sem] lt_add1 lt_self1 size_ne size_ne' size_ne1 size_ne1'
attribute [local irreducible] wpGrow wpThr

/-- the tree of a text that is made. -/
def mkT (S s : ByteArray) : T := if s.size = 0 then .nil else .leaf S.size s.size (feedsV (S ++ s) S.size s.size)
def mkN (ks : List Knot) (s : ByteArray) : Int := if s.size = 0 then 0 else (ks.length + 1 : Nat)
theorem mkT_good (S s : ByteArray) : Good (S ++ s) (mkT S s) ∧ txt (S ++ s) (mkT S s) = s.data.toList ∧ (mkT S s).size = s.size ∧ Ar.balB (mkT S s) = true := by
  have hz : (S ++ s).size = S.size + s.size := ByteArray.size_append
  unfold mkT
  split
  · next h =>
    have : s.data.toList = [] := List.length_eq_zero_iff.1 (show s.data.toList.length = 0 from h)
    refine ⟨Good.nil _, by rw [this]; rfl, by rw [h]; rfl, rfl⟩
  · next h =>
    refine ⟨good_leaf.2 ⟨by simp only; omega, by simp only; omega, by simp only; omega, rfl⟩, ?_, rfl, rfl⟩
    rw [txt_leaf]
    exact cutS_new S s
def madeP (S : ByteArray) (ks : List Knot) (s : ByteArray) (v : Value) (s' : Sst) : Prop :=
  s'.1 = S ++ s ∧ v = .tuple #[.int .i64 (mkN ks s), .int .i64 0] ∧ WF s'.2 ∧ Is s'.2 (mkN ks s) (mkT S s) ∧ ∃ n, n ≤ 1 ∧ Ext ks s'.2 n n

section
variable (gs gb ga : Nat) (S : ByteArray) (ks : List Knot)
theorem rfeeds_does (o n : Int) (hS : S.size ≤ 1000000) : Does Try.prog (resSt gs gb ga) 68 #[.pointer (some ⟨gb, 0, none⟩), .int .i64 o, .int .i64 n] (S, ks) (fun v s' => v = .int .i64 (feedsV S o n) ∧ s' = (S, ks)) :=
  Does.of_below fun w F ⟨rb, rf, q, _, h⟩ => Buf.feeds_any gb rb rf S o n w h.buf hS

set_option maxHeartbeats 1000000 in
theorem rmake_empty (hw : WF ks) : Does Try.prog (resSt gs gb ga) 49 #[.pointer (some ⟨gs, 0, none⟩), .string ⟨#[]⟩] (S, ks) (madeP S ks ⟨#[]⟩) := by
  rintro w F h
  have HA := Lib.hid (And.intro h hw)
  clear h hw
  go_enter Try.func49, Try.ntmps49
  go_wp2
  go_ret2
  have hb : Below w.heap.size w w := Below.refl _ _
  refine ⟨_, (S, ks), F, rfl, ⟨?_, rfl, HA.out.2, .nil rfl, 0, by omega, Ext.refl ks⟩, HA.out.1, Fr.refl _ _⟩
  exact Go.Proofs.Ytoeamnagmehpeaa.Buf.bytes_ext (by show S.data.toList = (S ++ (⟨#[]⟩ : ByteArray)).data.toList; rw [ByteArray.data_append, Array.toList_append]; exact (List.append_nil _).symm)

set_option maxHeartbeats 2000000 in
theorem rmake_some (s : ByteArray) (hs : s.size ≠ 0) (hw : WF ks) (hn : ks.length + 1 ≤ small) (hS : S.size + s.size ≤ 1000000) : Does Try.prog (resSt gs gb ga) 49 #[.pointer (some ⟨gs, 0, none⟩), .string s] (S, ks) (madeP S ks s) := by
  rintro w F ⟨rb, rf, q, rfl, h⟩
  have hne : s.toList.isEmpty = false := by
    rw [Lib.toList_data, List.isEmpty_eq_false_iff]
    exact fun e => hs (by rw [show s.size = s.data.toList.length from rfl, e]; rfl)
  have hz : (S ++ s).size = S.size + s.size := ByteArray.size_append
  have hfb := feedsV_bd (S := S ++ s) (o := S.size) (n := s.size) (by omega) (by omega) (by omega)
  have HF := Lib.hid hfb
  have HA := Lib.hid (And.intro h hw)
  obtain ⟨c0, c1⟩ := h.c
  have hlt := h.lt
  have HADD := Lib.hid (Buf.add_any gb rb rf S s w h.buf hS)
  have HZ := Lib.hid hz
  have HSZ := Lib.hid (And.intro hS hs)
  have hs1 : s.size ≤ 1000000 := by omega
  have hs2 : 1 ≤ s.size := by omega
  have hs3 : S.size ≤ 1000000 := by omega
  clear h hw hfb hz
  go_enter Try.func49, Try.ntmps49
  go_wp2_with fail
  ((with_reducible refine HADD.out.mono ?_); rintro e w1 ⟨rb', rf', rfl, hb1, hf1⟩)
  obtain ⟨h1, h2⟩ := HA.out.1.buffer hb1 hf1
  have HB := Lib.hid (And.intro h1 h2)
  clear hb1 hf1 h1 h2 c0 c1 hlt HADD hne hs
  go_wp2_with fail
  have HR : Hid (∀ s' bs w', (resCls (resSt gs gb ga) w1 (sfoot gb ga rb' rf' q)).In s' bs w' → w'.cell? ⟨gs, 0, none⟩ = some (.pointer (some ⟨gb, 0, none⟩)) ∧ w'.cell? ⟨gs, 1, none⟩ = some (.pointer (some ⟨ga, 0, none⟩))) := Lib.hid (fun s' bs w' hw' =>
    ⟨(resCls_cell hw' HB.out.1.lt (fun e => e.elim HB.out.1.sb HB.out.1.sa) 0).trans HB.out.1.c.1, (resCls_cell hw' HB.out.1.lt (fun e => e.elim HB.out.1.sb HB.out.1.sa) 1).trans HB.out.1.c.2⟩)
  refine wp_region_thr (resCls (resSt gs gb ga) w1 (sfoot gb ga rb' rf' q)) (S ++ s, ks) 20 [0, 1, 2, 3, 4, 5, 6, 7, 8, 9, 10, 11, 12, 13, 14, 15, 16, 17, 18, 19] _ (by kernel_rfl) (by kernel_rfl) (by kernel_rfl) rfl (resCls_start (resSt_at HB.out.1)) ?_
  (simp only [List.filterMap_cons, List.filterMap_nil, List.getElem?_cons_zero, List.getElem?_cons_succ, List.drop_succ_cons, List.drop_zero, List.drop_nil])
  iterate 14 ((refine wpThr_val rfl rfl rfl ?_; apply Exists.intro; refine ⟨fun s1 bs1 w1 hb1 hw1 => ?_, ?_⟩); (have hc1 := HR.out s1 bs1 w1 hw1; go_simp; exact growUpon_ok rfl); (refine wpThr_at (by (simp only [Act.put, List.setIfInBounds_toArray, List.set_cons_succ, List.set_cons_zero]) <;> exact rfl) ?_))
  refine wpThr_call (fun v s' => v = .int .i64 (feedsV (S ++ s) S.size s.size) ∧ s' = (S ++ s, ks)) rfl rfl rfl ?_ ?_
  · intro bs1 w1 hb1 hw1
    go_simp
    exact resCls_upon (rfeeds_does gs gb ga (S ++ s) ks S.size s.size (by rw [HZ.out]; exact HSZ.out.1)) hw1
  rintro v st ⟨rfl, rfl⟩
  (refine wpThr_at (by (simp only [Act.put, List.setIfInBounds_toArray, List.set_cons_succ, List.set_cons_zero]) <;> exact rfl) ?_)
  have hok : (T.leaf S.size s.size (feedsV (S ++ s) S.size s.size)).ok := by
    have := HF.out
    simp only [T.ok]
    omega
  have HL := Lib.hid (does_ar (gs := gs) (gb := gb) (S := S ++ s) (leaf_mk ga ks S.size s.size (feedsV (S ++ s) S.size s.size) HA.out.2 hok (by omega)))
  have HF2 := Lib.hid (rfl : mkT S s = mkT S s)
  clear hok
  generalize hfd : feedsV (S ++ s) S.size s.size = fd at HL ⊢
  have HFD := Lib.hid hfd
  clear hfd
  refine wpThr_call (fun v s' => s'.1 = S ++ s ∧ mkl ks S.size s.size fd v s'.2) rfl rfl rfl ?_ ?_
  · intro bs1 w1 hb1 hw1
    go_simp
    exact resCls_upon HL.out hw1
  rintro v ⟨S2, ks2⟩ ⟨rfl, rfl, p1, p2, p3⟩
  simp only at p1 p2 p3
  (refine wpThr_at (by (simp only [Act.put, List.setIfInBounds_toArray, List.set_cons_succ, List.set_cons_zero]) <;> exact rfl) ?_)
  iterate 4 ((refine wpThr_val rfl rfl rfl ?_; apply Exists.intro; refine ⟨fun s1 bs1 w1 hb1 hw1 => ?_, ?_⟩); (have hc1 := HR.out s1 bs1 w1 hw1; go_simp; exact growUpon_ok rfl); (refine wpThr_at (by (simp only [Act.put, List.setIfInBounds_toArray, List.set_cons_succ, List.set_cons_zero]) <;> exact rfl) ?_))
  refine wpThr_nil ?_
  rintro w2 ⟨F2, ha2, hf2, _⟩
  have HE := Lib.hid (And.intro p1 (And.intro p2 (And.intro p3 (And.intro ha2 (HB.out.2.trans hf2)))))
  clear p1 p2 p3 ha2 hf2 HR
  go_wp2
  go_ret2
  obtain ⟨p1, p2, p3, ha2, hf2⟩ := HE.out
  have e0 : s.size ≠ 0 := by omega
  refine ⟨_, rfl, S ++ s, ks2, ⟨rfl, ?_, p1, ?_, 1, by omega, p3⟩, F2, ha2, hf2⟩
  · simp [mkN, e0]
  · rw [mkN, if_neg e0, mkT, if_neg e0, HFD.out]
    exact p2

theorem rmake_any (s : ByteArray) (hw : WF ks) (hn : ks.length + 1 ≤ small) (hS : S.size + s.size ≤ 1000000) : Does Try.prog (resSt gs gb ga) 49 #[.pointer (some ⟨gs, 0, none⟩), .string s] (S, ks) (madeP S ks s) := by
  by_cases hs : s.size = 0
  · have : s = ⟨#[]⟩ := Go.Proofs.Ytoeamnagmehpeaa.Buf.bytes_ext (by rw [List.length_eq_zero_iff.1 (show s.data.toList.length = 0 from hs)])
    rw [this]
    exact rmake_empty gs gb ga S ks hw
  · exact rmake_some gs gb ga S ks s hs hw hn hS
end

set_option maxHeartbeats 400000 in
theorem rmake_nil (s : ByteArray) (w : World) : Calls Try.prog 49 #[.pointer none, .string s] w fun e w' => e = .returned (.tuple #[.int .i64 0, .int .i64 7]) ∧ w = w' := by
  go_enter Try.func49, Try.ntmps49
  go_wp2
  go_ret2
  exact ⟨rfl, rfl⟩
set_option maxHeartbeats 400000 in
theorem rpair_nil (l r : Int) (w : World) : Calls Try.prog 100 #[.pointer none, .int .i64 l, .int .i64 r] w fun e w' => e = .returned (.tuple #[.int .i64 0, .int .i64 7]) ∧ w = w' := by
  go_enter Try.func100, Try.ntmps100
  go_wp2
  go_ret2
  exact ⟨rfl, rfl⟩
end Go.Proofs.Ytoeamnagmehpeaa.Rp


/- A store's Replace. */ -/
namespace Go.Proofs.Ytoeamnagmehpeaa.Rp
set_option linter.unusedSimpArgs false
set_option linter.unusedVariables false
open Go Go.RowKit
open Go.Proofs.Ytoeamnagmehpeaa.Ar (T Is Ext WF Knot getK getB Arena resAr small splitP JoinP JoinOk SplitOk)
open Go.Proofs.Ytoeamnagmehpeaa.Buf (BufS feedsV feedV feedB thereB sliceV)
attribute [local go_sem] lt_add1 lt_self1 size_ne size_ne' size_ne1 size_ne1'
attribute [local irreducible] wpGrow wpThr

theorem mkT_high (S s : ByteArray) : 0 ≤ (mkT S s).high ∧ (mkT S s).high ≤ 1 ∧ (mkT S s).bal ∧ (mkT S s).many ≤ 1 ∧ 0 ≤ (mkT S s).many := by
  unfold mkT
  split <;> simp [T.high, T.bal, T.many]

theorem rep_end {S s : ByteArray} {X A B B1 C L1 Y : T} {a n : Int} {n1 m1 n2 m2 n3 n4 : Nat} (hg : Good S X) (h0 : 0 ≤ a) (h1 : 0 ≤ n)
    (s1 : SplitOk (feedsV S) X A B a n1 m1) (s2 : SplitOk (feedsV S) B B1 C n n2 m2) (j1 : JoinOk A (mkT S s) L1 n3) (j2 : JoinOk L1 C Y n4) :
    Good (S ++ s) Y ∧ txt (S ++ s) Y = (txt S X).take a.toNat ++ s.data.toList ++ (txt S X).drop (a.toNat + n.toNat) ∧ (X.bal → Y.bal ∧ (n1 : Int) + n2 + n3 + n4 ≤ 20 * X.high + 19) := by
  obtain ⟨gA, gB, tA, tB⟩ := SplitOk_txt s1 hg h0
  obtain ⟨_, gC, _, tC⟩ := SplitOk_txt s2 gB h1
  obtain ⟨gM, tM, _, _⟩ := mkT_good S s
  obtain ⟨u1, u2, u3, _⟩ := mkT_high S s
  refine ⟨JoinOk_good j2 (JoinOk_good j1 gA.grow gM) gC.grow, ?_, fun hb => ?_⟩
  · rw [JoinOk_txt j2, JoinOk_txt j1, txt_grow gA, txt_grow gC, tM, tA, tC, tB, List.drop_drop]
  · have bX := (T.bounds s1.oka)
    have bB := (T.bounds s1.okb)
    have bB1 := (T.bounds s2.oka)
    have bC := (T.bounds s2.okb)
    have bL := (T.bounds j1.ok)
    obtain ⟨e1, e2, e3, e4, e5⟩ := s1.even hb
    obtain ⟨f1, f2, f3, f4, f5⟩ := s2.even e2
    obtain ⟨g1, g2, g3, g4, g5⟩ := j1.even e1 u3
    obtain ⟨k1, k2, k3, k4, k5⟩ := j2.even g1 f2
    refine ⟨k1, ?_⟩
    omega

def repP (S : ByteArray) (ks : List Knot) (X : T) (a n : Int) (s : ByteArray) (v : Value) (s' : Sst) : Prop :=
  s'.1 = S ++ s ∧ ∃ (t : Int) (Y : T) (N M : Nat), v = .tuple #[.int .i64 t, .int .i64 0] ∧ WF s'.2 ∧ Is s'.2 t Y ∧ Ext ks s'.2 N M ∧ M ≤ 5 ∧ Good s'.1 Y ∧
    txt s'.1 Y = (txt S X).take a.toNat ++ s.data.toList ++ (txt S X).drop (a.toNat + n.toNat) ∧ (X.bal → Y.bal ∧ (N : Int) ≤ 20 * X.high + 20)

/-- where the loop stands: so many joined. -/
def joinedP (A M C : T) : Nat → T → Nat → Prop
  | 0, L, n => L = A ∧ n = 0
  | 1, L, n => JoinOk A M L n
  | _, L, n => ∃ L1 n1 n2, JoinOk A M L1 n1 ∧ JoinOk L1 C L n2 ∧ n = n1 + n2
def RepLoop (gs gb ga : Nat) (w : World) (F : Nat → Prop) (S' : ByteArray) (ks0 : List Knot) (sb : Nat) (m r : Int) (A M C : T) (k : Nat) (lv : Value) (wr : World) : Prop :=
  ∃ (rb rf q : Option Nat) (ks' : List Knot) (l : Int) (L : T) (n : Nat), St wr gs gb ga rb rf q S' ks' ∧ Fr w F wr (sfoot gb ga rb rf q) ∧ wr.heap[sb]? = some (.cells #[.int .i64 m, .int .i64 r] 3 (0, 0)) ∧ ¬ sfoot gb ga rb rf q sb ∧
    lv = .int .i64 l ∧ WF ks' ∧ Is ks' l L ∧ Ext ks0 ks' n 0 ∧ joinedP A M C k L n

theorem st_of {gs gb ga : Nat} {w : World} {F : Nat → Prop} {s : Sst} (h : (resSt gs gb ga).at_ w F s) : ∃ rb rf q, F = sfoot gb ga rb rf q ∧ St w gs gb ga rb rf q s.1 s.2 := h

section
variable (gs gb ga : Nat) (S : ByteArray) (ks : List Knot)
theorem rsplit_does (t a : Int) (X : T) (hw : WF ks) (ht : Is ks t X) (hg : Good S X) (h0 : 0 ≤ a) (h1 : a ≤ X.size) (hm : X.many ≤ 1000) (hn : (ks.length : Int) + 4000 * X.high ≤ 1073741824) (hS : S.size ≤ 1000000) :
    Does Try.prog (resSt gs gb ga) 67 #[.pointer (some ⟨ga, 0, none⟩), .int .i64 t, .int .i64 a, .func (.func 68) #[.pointer (some ⟨gb, 0, none⟩)] #[]] (S, ks) (fun v s' => s'.1 = S ∧ splitP (feedsV S) ks X a v s'.2) :=
  does_cut hS (Ar.split_any ga _ _ (inB S) (feedsV S) feeds_eg (feeds_ok S) X.cnt ks t a X (Nat.le_refl _) hw ht h0 h1 (fun p hp => ⟨(hg p hp).1, by have := (hg p hp).2.1; omega, (hg p hp).2.2.1⟩) hm hn)

theorem rjoin_does (l r : Int) (L R : T) (hw : WF ks) (hl : Is ks l L) (hr : Is ks r R) (h3 : L.size + R.size ≤ 1099511627776) (hn : (ks.length : Int) + 1 + 3 * (L.high + R.high) ≤ 1073741824) :
    Does Try.prog (resSt gs gb ga) 69 #[.pointer (some ⟨ga, 0, none⟩), .int .i64 l, .int .i64 r] (S, ks) (fun v s' => s'.1 = S ∧ JoinP ks l r L R v s'.2) :=
  does_ar (Ar.Join_any ga ks l r L R hw hl hr h3 hn)

/-- one round: the next is joined. -/
theorem rep_step (w : World) (F : Nat → Prop) (ks0 : List Knot) (sb : Nat) (m r : Int) (A M C : T) (k : Nat) (lv : Value) (wr : World) (hk : k < 2) (h : RepLoop gs gb ga w F S ks0 sb m r A M C k lv wr)
    (hA : A.ok) (hM : Is ks0 m M) (hMo : M.ok) (hC : Is ks0 r C) (hCo : C.ok) (hm : A.many ≤ 3000 ∧ M.many ≤ 3000 ∧ C.many ≤ 3000) (hs : A.size ≤ 100000000 ∧ M.size ≤ 100000000 ∧ C.size ≤ 100000000) (hn : ks0.length ≤ 100000000) :
    ∃ l, lv = .int .i64 l ∧ (wr.cell? ⟨gs, 1, none⟩ = some (.pointer (some ⟨ga, 0, none⟩)) ∧ wr.heap[sb]? = some (.cells #[.int .i64 m, .int .i64 r] 3 (0, 0))) ∧
      Calls Try.prog 69 #[.pointer (some ⟨ga, 0, none⟩), .int .i64 l, .int .i64 (if k = 0 then m else r)] wr fun e w' => ∃ t, e = .returned (.tuple #[.int .i64 t, .int .i64 0]) ∧ RepLoop gs gb ga w F S ks0 sb m r A M C (k + 1) (.int .i64 t) w' := by
  obtain ⟨rb, rf, q, ks', l, L, n, st, hf, hb, hnf, rfl, hwf, hl, hx, hj⟩ := h
  have bA := T.bounds hA
  have bM := T.bounds hMo
  have bC := T.bounds hCo
  have hxl := hx.len
  refine ⟨l, rfl, ⟨st.c.2, hb⟩, ?_⟩
  match k, hk, hj with
  | 0, _, hj =>
    obtain ⟨rfl, rfl⟩ := hj
    refine ((rjoin_does gs gb ga S ks' l m _ _ hwf hl (hM.ext hx) (by omega) (by omega)).run _ _ (resSt_at st)).mono ?_
    rintro e w' ⟨v, ⟨S2, ks2⟩, F2, rfl, ⟨h1, t, Y, n', rfl, i1, i2, i3, j, _⟩, ha, hf2⟩
    simp only at h1 i1 i2 i3
    subst h1
    obtain ⟨rb2, rf2, q2, rfl, st2⟩ := st_of ha
    have hlt := (Array.getElem?_eq_some_iff.1 hb).1
    exact ⟨t, rfl, rb2, rf2, q2, ks2, t, Y, _, st2, hf.trans hf2, (hf2.keep _ hlt hnf).trans hb, hf2.out hlt hnf, rfl, i2, i1, hx.trans i3, by simpa [joinedP] using j⟩
  | 1, _, hj =>
    have hj' : JoinOk A M L n := hj
    have bL := T.bounds hj'.ok
    have e1 := hj'.size
    have e2 := hj'.many
    have e3 := hj'.cost
    refine ((rjoin_does gs gb ga S ks' l r _ _ hwf hl (hC.ext hx) (by omega) (by omega)).run _ _ (resSt_at st)).mono ?_
    rintro e w' ⟨v, ⟨S2, ks2⟩, F2, rfl, ⟨h1, t, Y, n', rfl, i1, i2, i3, j, _⟩, ha, hf2⟩
    simp only at h1 i1 i2 i3
    subst h1
    obtain ⟨rb2, rf2, q2, rfl, st2⟩ := st_of ha
    have hlt := (Array.getElem?_eq_some_iff.1 hb).1
    exact ⟨t, rfl, rb2, rf2, q2, ks2, t, Y, _, st2, hf.trans hf2, (hf2.keep _ hlt hnf).trans hb, hf2.out hlt hnf, rfl, i2, i1, hx.trans i3, ⟨L, n, n', hj', j, rfl⟩⟩

/-- where the first half of Replace ends. -/
structure Rep1 (w : World) (F : Nat → Prop) (X : T) (a n : Int) (W : World) (rb rf q : Option Nat) (ks2 : List Knot) (x y : Int) (A B B1 C : T) (N M : Nat) : Prop where
  st : St W gs gb ga rb rf q S ks2
  fr : Fr w F W (sfoot gb ga rb rf q)
  wf : WF ks2
  ia : Is ks2 x A
  ic : Is ks2 y C
  ext : Ext ks ks2 N M
  sp : ∃ n1 m1 n2 m2, SplitOk (feedsV S) X A B a n1 m1 ∧ SplitOk (feedsV S) B B1 C n n2 m2 ∧ N = n1 + n2 ∧ M = m1 + m2

set_option maxRecDepth 100000 in
set_option maxHeartbeats 4000000 in
theorem rrep_some (t a n : Int) (X : T) (s : ByteArray) (hw : WF ks) (ht : Is ks t X) (hg : Good S X) (hm : X.many ≤ 999) (hks : ks.length ≤ 1000000) (hS : S.size + s.size ≤ 1000000) (hX : X.size ≤ 1000000) (hs : spanV X.size a n = 0) (hne : ¬ (n = 0 ∧ s.size = 0)) :
    Does Try.prog (resSt gs gb ga) 19 #[.pointer (some ⟨gs, 0, none⟩), .int .i64 t, .int .i64 a, .int .i64 n, .string s] (S, ks) (repP S ks X a n s) := by
  rintro w F ⟨rb, rf, q, rfl, h⟩
  have hok := ht.ok hw
  have hbX := T.bounds hok
  have hin : 0 ≤ a ∧ 0 ≤ n ∧ a + n ≤ X.size := by unfold spanV at hs; split at hs <;> omega
  have hsp := rspan_any gs w t a n X.size (by omega) (by omega) (rsize_is gs gb ga rb rf q S ks w t X ht h (by unfold small; omega))
  rw [hs] at hsp
  have HSP := Lib.hid hsp
  have HSZ := Lib.hid (fun w' (h : St w' gs gb ga rb rf q S ks) => rsize_is gs gb ga rb rf q S ks w' t X ht h (by unfold small; omega))
  have HA := Lib.hid (And.intro h (And.intro hw (And.intro ht (And.intro hg (And.intro hm (And.intro hks (And.intro hS hok)))))))
  obtain ⟨h0, h1, h2⟩ := hin
  have hbz : 0 ≤ X.size := by omega
  have HH := Lib.hid hbX
  have hs1 : s.size ≤ 1000000 := by omega
  have hemp : n ≠ 0 ∨ s.toList.isEmpty = false := by
    by_cases hn : n = 0
    · refine .inr ?_
      rw [Lib.toList_data, List.isEmpty_eq_false_iff]
      exact fun e => hne ⟨hn, by rw [show s.size = s.data.toList.length from rfl, e]; rfl⟩
    · exact .inl hn
  clear h hw ht hg hm hks hS hsp hs hok hbX hne
  have HXZ := Lib.hid (Eq.refl X.size)
  generalize hz : X.size = z at HSZ hX h2 hbz HXZ
  have HZ := Lib.hid hz
  clear hz HXZ
  go_enter Try.func19, Try.ntmps19
  go_wp2_with fail
  ((with_reducible refine HSP.out.mono ?_); rintro e w1 ⟨rfl, hb1⟩)
  have HB1 := Lib.hid (And.intro hb1 (HA.out.1.below hb1))
  clear hb1
  go_wp2_with fail
  ((with_reducible refine (HSZ.out _ HB1.out.2).mono ?_); rintro e w2 ⟨rfl, hb2⟩)
  have HB2 := Lib.hid (And.intro (HB1.out.1.trans (hb2.mono HB1.out.1.size)) (HB1.out.2.below hb2))
  clear hb2 HB1
  go_upto_region 7 with fail
  go_cut [49] (fun v wx => v = .bool false ∧ w2 = wx)
  case first =>
    rcases hemp with hemp | hemp
    · have hemp2 : (n == 0) = false := by simp [hemp]
      go_wp2_with fail
      go_meet
      exact ⟨rfl, rfl⟩
    · by_cases hn0 : n = 0
      · go_wp2_with fail
        go_meet
        exact ⟨rfl, rfl⟩
      · go_wp2_with fail
        go_meet
        exact ⟨rfl, rfl⟩
  case rest =>
  obtain ⟨rfl, rfl⟩ := hcut
  clear hemp
  have SP1 := Lib.hid (rsplit_does gs gb ga S ks t a X HA.out.2.1 HA.out.2.2.1 HA.out.2.2.2.1 h0 (by rw [HZ.out]; omega) (by have := HA.out.2.2.2.2.1; omega) (by have := HA.out.2.2.2.2.1; have := HA.out.2.2.2.2.2.1; have := HH.out; omega) (by have := HA.out.2.2.2.2.2.2.1; omega))
  have HBW := Lib.hid (Fr.of_below (F := sfoot gb ga rb rf q) HB2.out.1)
  have HR : Hid (∀ s' bs w', (resCls (resSt gs gb ga) w2 (sfoot gb ga rb rf q)).In s' bs w' → w'.cell? ⟨gs, 0, none⟩ = some (.pointer (some ⟨gb, 0, none⟩)) ∧ w'.cell? ⟨gs, 1, none⟩ = some (.pointer (some ⟨ga, 0, none⟩))) := Lib.hid (fun s' bs w' hw' =>
    ⟨(resCls_cell hw' HB2.out.2.lt (fun e => e.elim HB2.out.2.sb HB2.out.2.sa) 0).trans HB2.out.2.c.1, (resCls_cell hw' HB2.out.2.lt (fun e => e.elim HB2.out.2.sb HB2.out.2.sa) 1).trans HB2.out.2.c.2⟩)
  go_wp2_with fail
  refine wp_region_thr (resCls (resSt gs gb ga) w2 (sfoot gb ga rb rf q)) (S, ks) 19 [0, 1, 2, 3, 4, 5, 6, 7, 8, 9, 10, 11, 12, 13, 14, 15, 16, 17, 18] _ (by kernel_rfl) (by kernel_rfl) (by kernel_rfl) rfl (resCls_start (resSt_at HB2.out.2)) ?_
  (simp only [List.filterMap_cons, List.filterMap_nil, List.getElem?_cons_zero, List.getElem?_cons_succ, List.drop_succ_cons, List.drop_zero, List.drop_nil])
  iterate 11 ((refine wpThr_val rfl rfl rfl ?_; apply Exists.intro; refine ⟨fun s1 bs1 w1 hb1 hw1 => ?_, ?_⟩); (have hc1 := HR.out s1 bs1 w1 hw1; go_simp; exact growUpon_ok rfl); (refine wpThr_at (by (simp only [Act.put, List.setIfInBounds_toArray, List.set_cons_succ, List.set_cons_zero]) <;> exact rfl) ?_))
  refine wpThr_call (fun v s' => s'.1 = S ∧ splitP (feedsV S) ks X a v s'.2) rfl rfl rfl ?_ ?_
  · intro bs1 w1 hb1 hw1
    go_simp
    exact resCls_upon SP1.out hw1
  rintro v ⟨S2, ks2⟩ ⟨hS2, x, y, A, B, n1, m1, rfl, i1, i2, i3, i4, i5⟩
  simp only at hS2 i1 i2 i3 i4
  subst hS2
  (refine wpThr_at (by (simp only [Act.put, List.setIfInBounds_toArray, List.set_cons_succ, List.set_cons_zero]) <;> exact rfl) ?_)
  iterate 7 ((refine wpThr_val rfl rfl rfl ?_; apply Exists.intro; refine ⟨fun s1 bs1 w1 hb1 hw1 => ?_, ?_⟩); (have hc1 := HR.out s1 bs1 w1 hw1; go_simp; exact growUpon_ok rfl); (refine wpThr_at (by (simp only [Act.put, List.setIfInBounds_toArray, List.set_cons_succ, List.set_cons_zero]) <;> exact rfl) ?_))
  refine wpThr_nil ?_
  rintro w3 ⟨F3, ha3, hf3, _⟩
  obtain ⟨rb3, rf3, q3, rfl, st3⟩ := st_of ha3
  obtain ⟨gA, gB, _, _⟩ := SplitOk_txt i5 HA.out.2.2.2.1 h0
  have hBs : B.size = X.size - a := by
    have e1 := txt_length gB
    have e2 := txt_length HA.out.2.2.2.1
    rw [(SplitOk_txt i5 HA.out.2.2.2.1 h0).2.2.2, List.length_drop] at e1
    have := HZ.out
    omega
  have hAs : A.size = a := by
    have e1 := txt_length gA
    have e2 := txt_length HA.out.2.2.2.1
    rw [(SplitOk_txt i5 HA.out.2.2.2.1 h0).2.2.1, List.length_take] at e1
    have := HZ.out
    omega
  have hbB := T.bounds i5.okb
  have hbA := T.bounds i5.oka
  have hmA := i5.many
  have hN1 := i5.cost (by have := HA.out.2.2.2.2.1; omega)
  have hlen3 := i4.len
  have hkl : ks2.length ≤ 5000000 := by
    have := HA.out.2.2.2.2.1
    have := HA.out.2.2.2.2.2.1
    have := HH.out
    omega
  have HE3 := Lib.hid (And.intro st3 (And.intro (HBW.out.trans hf3) (And.intro i1 (And.intro i3 (And.intro i4 (And.intro i5 (And.intro hAs (And.intro gA gB))))))))
  have SP2 := Lib.hid (rsplit_does gs gb ga S2 ks2 y n B i3 i2 gB h1 (by rw [hBs, HZ.out]; omega) (by have := HA.out.2.2.2.2.1; omega) (by have := HA.out.2.2.2.2.1; omega) (by have := HA.out.2.2.2.2.2.2.1; omega))
  clear ha3 hf3 st3 i1 i2 i3 i4 i5 gA gB SP1 HBW HR HB2 hbB hbA hmA hN1 hlen3
  have HR : Hid (∀ s' bs w', (resCls (resSt gs gb ga) w3 (sfoot gb ga rb3 rf3 q3)).In s' bs w' → w'.cell? ⟨gs, 0, none⟩ = some (.pointer (some ⟨gb, 0, none⟩)) ∧ w'.cell? ⟨gs, 1, none⟩ = some (.pointer (some ⟨ga, 0, none⟩))) := Lib.hid (fun s' bs w' hw' =>
    ⟨(resCls_cell hw' HE3.out.1.lt (fun e => e.elim HE3.out.1.sb HE3.out.1.sa) 0).trans HE3.out.1.c.1, (resCls_cell hw' HE3.out.1.lt (fun e => e.elim HE3.out.1.sb HE3.out.1.sa) 1).trans HE3.out.1.c.2⟩)
  go_wp2_with fail
  refine wp_region_thr (resCls (resSt gs gb ga) w3 (sfoot gb ga rb3 rf3 q3)) (S2, ks2) 17 [0, 1, 2, 3, 4, 5, 6, 7, 8, 9, 10, 11, 12, 13, 14, 15, 16] _ (by kernel_rfl) (by kernel_rfl) (by kernel_rfl) rfl (resCls_start (resSt_at HE3.out.1)) ?_
  (simp only [List.filterMap_cons, List.filterMap_nil, List.getElem?_cons_zero, List.getElem?_cons_succ, List.drop_succ_cons, List.drop_zero, List.drop_nil])
  iterate 11 ((refine wpThr_val rfl rfl rfl ?_; apply Exists.intro; refine ⟨fun s1 bs1 w1 hb1 hw1 => ?_, ?_⟩); (have hc1 := HR.out s1 bs1 w1 hw1; go_simp; exact growUpon_ok rfl); (refine wpThr_at (by (simp only [Act.put, List.setIfInBounds_toArray, List.set_cons_succ, List.set_cons_zero]) <;> exact rfl) ?_))
  refine wpThr_call (fun v s' => s'.1 = S2 ∧ splitP (feedsV S2) ks2 B n v s'.2) rfl rfl rfl ?_ ?_
  · intro bs1 w1 hb1 hw1
    go_simp
    exact resCls_upon SP2.out hw1
  rintro v ⟨S4, ks4⟩ ⟨hS4, x2, y2, B1, C, n2, m2, rfl, j1, j2, j3, j4, j5⟩
  simp only at hS4 j1 j2 j3 j4
  subst hS4
  (refine wpThr_at (by (simp only [Act.put, List.setIfInBounds_toArray, List.set_cons_succ, List.set_cons_zero]) <;> exact rfl) ?_)
  iterate 5 ((refine wpThr_val rfl rfl rfl ?_; apply Exists.intro; refine ⟨fun s1 bs1 w1 hb1 hw1 => ?_, ?_⟩); (have hc1 := HR.out s1 bs1 w1 hw1; go_simp; exact growUpon_ok rfl); (refine wpThr_at (by (simp only [Act.put, List.setIfInBounds_toArray, List.set_cons_succ, List.set_cons_zero]) <;> exact rfl) ?_))
  refine wpThr_nil ?_
  rintro w4 ⟨F4, ha4, hf4, _⟩
  obtain ⟨rb4, rf4, q4, rfl, st4⟩ := st_of ha4
  simp only at st4
  have hbB := T.bounds HE3.out.2.2.2.2.2.1.okb
  have hmB := HE3.out.2.2.2.2.2.1.many
  have hN2 := j5.cost (by have := HA.out.2.2.2.2.1; have := T.bounds HE3.out.2.2.2.2.2.1.oka; omega)
  have hlen4 := j4.len
  have hkl4 : ks4.length ≤ 10000000 := by
    have := HA.out.2.2.2.2.1
    have := T.bounds HE3.out.2.2.2.2.2.1.oka
    omega
  have hbC := T.bounds j5.okb
  have hmC := j5.many
  have hCs : C.size ≤ 1000000 ∧ C.many ≤ 1001 := by
    have := HA.out.2.2.2.2.1
    have := T.bounds HE3.out.2.2.2.2.2.1.oka
    have := T.bounds j5.oka
    refine ⟨?_, by omega⟩
    have e1 := txt_length (SplitOk_txt j5 HE3.out.2.2.2.2.2.2.2.2 h1).2.1
    have e2 := txt_length HE3.out.2.2.2.2.2.2.2.2
    rw [(SplitOk_txt j5 HE3.out.2.2.2.2.2.2.2.2 h1).2.2.2, List.length_drop] at e1
    have := HZ.out
    omega
  have HE4 := Lib.hid (And.intro st4 (And.intro (HE3.out.2.1.trans hf4) (And.intro j3 (And.intro (HE3.out.2.2.1.ext j4) (And.intro j2 (And.intro (HE3.out.2.2.2.2.1.trans j4) (And.intro HE3.out.2.2.2.2.2.1 (And.intro j5 (And.intro hCs HE3.out.2.2.2.2.2.2))))))))) 
  have HMK := Lib.hid (rmake_any gs gb ga S4 ks4 s j3 (by unfold small; omega) HA.out.2.2.2.2.2.2.1)
  have HKL := Lib.hid hkl4
  clear st4 hf4 j1 j2 j3 j4 j5 HE3 SP2 HR hbB hmB hN2 hlen4 hkl4 hbC hmC hCs ha4
  have HAT := Lib.hid (resSt_at HE4.out.1)
  go_wp2_with fail
  ((with_reducible refine (HMK.out.run _ _ HAT.out).mono ?_); rintro e w5 ⟨v, ⟨S5, ks5⟩, F5, rfl, hmade, ha5, hf5⟩)
  obtain ⟨hS5, rfl, p1, p2, n5, hn5, p3⟩ := hmade
  simp only at hS5 p1 p2 p3
  subst hS5
  obtain ⟨rb5, rf5, q5, rfl, st5⟩ := st_of ha5
  simp only at st5
  have hlen5 := p3.len
  have HE5 := Lib.hid (And.intro st5 (And.intro (HE4.out.2.1.trans hf5) (And.intro p1 (And.intro (HE4.out.2.2.2.1.ext p3) (And.intro (HE4.out.2.2.2.2.1.ext p3) (And.intro p2 (HE4.out.2.2.2.2.2.1.trans p3)))))))
  have HKL5 : Hid (ks5.length ≤ 10000001) := Lib.hid (by have := HKL.out; omega)
  clear p1 p2 p3 st5 ha5 hf5 HAT HMK hlen5
  generalize mkN ks4 s = m at HE5 ⊢
  have hsb := heap_alloc_new w5 (.cells #[.int .i64 m, .int .i64 y2] 3)
  go_wp2
  have hb6 : Below w5.heap.size w5 (w5.alloc (.cells #[.int .i64 m, .int .i64 y2] 3)) := (Below.refl _ _).alloc (Nat.le_refl _) _
  have hnf6 : ¬ sfoot gb ga rb5 rf5 q5 w5.heap.size := fun e => Nat.lt_irrefl _ (HE5.out.1.foot_lt e)
  have HL0 : Hid (RepLoop gs gb ga w (sfoot gb ga rb rf q) (S4 ++ s) ks5 w5.heap.size m y2 A (mkT S4 s) C 0 (.int .i64 x) (w5.alloc (.cells #[.int .i64 m, .int .i64 y2] 3))) :=
    Lib.hid ⟨rb5, rf5, q5, ks5, x, A, 0, HE5.out.1.below hb6, HE5.out.2.1.trans (Fr.of_below hb6), hsb, hnf6, rfl, HE5.out.2.2.1, HE5.out.2.2.2.1, Ext.refl _, rfl, rfl⟩
  clear hb6 hnf6 hsb
  generalize w5.heap.size = sb at HL0 ⊢
  generalize w5.alloc (.cells #[.int .i64 m, .int .i64 y2] 3) = w6 at HL0 ⊢
  go_loopw [15, 99] (fun lv i wr => ∃ k : Nat, k ≤ 2 ∧ i = .int .i64 k ∧ RepLoop gs gb ga w (sfoot gb ga rb rf q) (S4 ++ s) ks5 sb m y2 A (mkT S4 s) C k lv wr) (fun _ i _ => 2 - (intOf i).toNat)
  case atStart => exact ⟨0, by omega, rfl, HL0.out⟩
  case round =>
    obtain ⟨k, hk, rfl, hl⟩ := hrel
    have HBD : Hid ((mkT S4 s).ok ∧ (A.many ≤ 3000 ∧ (mkT S4 s).many ≤ 3000 ∧ C.many ≤ 3000) ∧ (A.size ≤ 100000000 ∧ (mkT S4 s).size ≤ 100000000 ∧ C.size ≤ 100000000)) := by
      have bA := T.bounds HE4.out.2.2.2.2.2.2.1.oka
      have bB := T.bounds HE4.out.2.2.2.2.2.2.1.okb
      have h3 := HE4.out.2.2.2.2.2.2.1.many
      have h4 := HE4.out.2.2.2.2.2.2.2.2.1
      have h5 := mkT_high S4 s
      have h6 := (mkT_good S4 s).2.2.1
      have h7 := HA.out.2.2.2.2.1
      exact Lib.hid ⟨HE5.out.2.2.2.2.2.1.ok HE5.out.2.2.1, ⟨by omega, by omega, by omega⟩, ⟨by omega, by omega, by omega⟩⟩
    obtain rfl | rfl | rfl : k = 0 ∨ k = 1 ∨ k = 2 := by omega
    · obtain ⟨l, rfl, ⟨c1, hb⟩, hJ⟩ := rep_step gs gb ga (S4 ++ s) _ _ _ _ _ _ _ _ _ 0 _ _ (by omega) hl (HE4.out.2.2.2.2.2.2.1.oka) HE5.out.2.2.2.2.2.1 HBD.out.1 HE5.out.2.2.2.2.1 HE4.out.2.2.2.2.2.2.2.1.okb HBD.out.2.1 HBD.out.2.2 (by have := HKL5.out; omega)
      rw [if_pos rfl] at hJ
      have HJ := Lib.hid hJ
      have z0 : wr.cell? ⟨sb, 0, none⟩ = some (.int .i64 m) := cell_of_row wr sb 0 _ _ (0, 0) hb
      clear hl hJ hb
      go_wp2_with (go_at_call 69; ((with_reducible refine HJ.out.mono ?_); rintro e w7 ⟨t7, rfl, h7⟩))
      have H7 := Lib.hid h7
      clear h7 z0 c1 HJ
      go_wp2
      go_round
      case rel => exact ⟨0 + 1, by omega, by go_num, H7.out⟩
      case measure => simp [intOf]
    · obtain ⟨l, rfl, ⟨c1, hb⟩, hJ⟩ := rep_step gs gb ga (S4 ++ s) _ _ _ _ _ _ _ _ _ 1 _ _ (by omega) hl (HE4.out.2.2.2.2.2.2.1.oka) HE5.out.2.2.2.2.2.1 HBD.out.1 HE5.out.2.2.2.2.1 HE4.out.2.2.2.2.2.2.2.1.okb HBD.out.2.1 HBD.out.2.2 (by have := HKL5.out; omega)
      rw [if_neg (by decide)] at hJ
      have HJ := Lib.hid hJ
      have z0 : wr.cell? ⟨sb, 1, none⟩ = some (.int .i64 y2) := cell_of_row wr sb 1 _ _ (0, 0) hb
      clear hl hJ hb
      go_wp2_with (go_at_call 69; ((with_reducible refine HJ.out.mono ?_); rintro e w7 ⟨t7, rfl, h7⟩))
      have H7 := Lib.hid h7
      clear h7 z0 c1 HJ
      go_wp2
      go_round
      case rel => exact ⟨1 + 1, by omega, by go_num, H7.out⟩
      case measure => simp [intOf]
    · obtain ⟨rb7, rf7, q7, ks7, l7, L, n7, st7, hf7, _, _, rfl, hwf7, hil7, hx7, hj7⟩ := hl
      obtain ⟨L1, n3, n4, k1, k2, rfl⟩ := hj7
      have HF := Lib.hid (And.intro st7 (And.intro hf7 (And.intro hwf7 (And.intro hil7 (And.intro hx7 (And.intro k1 k2))))))
      clear st7 hf7 hwf7 hil7 hx7 k1 k2
      go_wp2
      go_ret2
      obtain ⟨st7, hf7, hwf7, hil7, hx7, k1, k2⟩ := HF.out
      obtain ⟨r1, r2, r3⟩ := rep_end HA.out.2.2.2.1 h0 h1 HE4.out.2.2.2.2.2.2.1 HE4.out.2.2.2.2.2.2.2.1 k1 k2
      have hl1 := HE4.out.2.2.2.2.2.2.1.leaves
      have hl2 := HE4.out.2.2.2.2.2.2.2.1.leaves
      refine ⟨_, (S4 ++ s, ks7), _, rfl, ⟨rfl, l7, L, _, _, rfl, hwf7, hil7, HE5.out.2.2.2.2.2.2.trans hx7, by omega, r1, r2, fun hb => ⟨(r3 hb).1, by have := (r3 hb).2; omega⟩⟩, resSt_at st7, hf7⟩
end
end Go.Proofs.Ytoeamnagmehpeaa.Rp


/- A store's Replace, whatever it is asked; the page's example; no store at all. */ -/
namespace Go.Proofs.Ytoeamnagmehpeaa.Rp
set_option linter.unusedSimpArgs false
set_option linter.unusedVariables false
open Go Go.RowKit
open Go.Proofs.Ytoeamnagmehpeaa.Ar (T Is Ext WF Knot getK getB Arena resAr small splitP JoinP JoinOk SplitOk)
open Go.Proofs.Ytoeamnagmehpeaa.Buf (BufS feedsV feedV feedB thereB sliceV)
attribute [local go_sem] lt_add1 lt_self1 size_ne size_ne' size_ne1 size_ne1'
attribute [local irreducible] wpGrow wpThr

set_option maxHeartbeats 1000000 in
/-- span said no. -/
theorem rrep_err (w : World) (s : Option Addr) (t a n c : Int) (x : ByteArray) (hc : c ≠ 0) (hsp : Calls Try.prog 66 #[.pointer s, .int .i64 t, .int .i64 a, .int .i64 n] w fun e w' => e = .returned (.int .i64 c) ∧ Below w.heap.size w w') :
    Calls Try.prog 19 #[.pointer s, .int .i64 t, .int .i64 a, .int .i64 n, .string x] w fun e w' => e = .returned (.tuple #[.int .i64 0, .int .i64 c]) ∧ Below w.heap.size w w' := by
  have HZ := Lib.hid hsp
  clear hsp
  go_enter Try.func19, Try.ntmps19
  go_wp2_with fail
  ((with_reducible refine HZ.out.mono ?_); rintro e w1 ⟨rfl, hb⟩)
  have HB := Lib.hid hb
  clear hb
  go_wp2
  go_ret2
  exact ⟨rfl, HB.out⟩

/-! no store -/
section
variable (w : World)
theorem below_of_eq {w w' : World} (h : w = w') : Below w.heap.size w w' := h ▸ Below.refl _ _
theorem rsize_nilB (t : Int) : Calls Try.prog 20 #[.pointer none, .int .i64 t] w fun e w' => e = .returned (.tuple #[.int .i64 0, .int .i64 7]) ∧ Below w.heap.size w w' := (rsize_nil w t).mono fun _ _ h => ⟨h.1, below_of_eq h.2⟩
theorem rrep_nil (t a n : Int) (x : ByteArray) : Calls Try.prog 19 #[.pointer none, .int .i64 t, .int .i64 a, .int .i64 n, .string x] w fun e w' => e = .returned (.tuple #[.int .i64 0, .int .i64 7]) ∧ Below w.heap.size w w' :=
  rrep_err w _ t a n 7 x (by decide) (rspan_none w _ t a n (rsize_nilB w t))
end

/-! the page's example -/
def abcd : ByteArray := ⟨#[97, 98, 99, 100]⟩
def xyz : ByteArray := ⟨#[88, 89, 90]⟩
theorem wf_nil : WF [] := fun i hi => by simp at hi

end Go.Proofs.Ytoeamnagmehpeaa.Rp
