
/- A store's Make and Pair. */ -/
import Derived.Test.YtkcocdpmangcgaaRopR
namespace Go.Proofs.Ytkcocdpmangcgaa.Rp
set_option linter.unusedSimpArgs false
set_option linter.unusedVariables false
open Go Go.RowKit
open Go.Proofs.Ytkcocdpmangcgaa.Ar (T Is Ext WF Knot getK getB Arena resAr small mkl leaf_mk)
open Go.Proofs.Ytkcocdpmangcgaa.Buf (BufS feedsV feedV feedB thereB sliceV)
attribute [local go_sem] lt_add1 lt_self1 size_ne size_ne' size_ne1 size_ne1'
attribute [local irreducible] wpGrow wpThr

/-- the tree of a text that is made. -/
def mkT (S s : ByteArray) : T := if s.size = 0 then .nil else .leaf S.size s.size (feedsV (S ++ s) S.size s.size)
def mkN (ks : List Knot) (s : ByteArray) : Int := if s.size = 0 then 0 else (ks.length + 1 : Nat)
theorem mkT_good (S s : ByteArray) : Good (S ++ s) (mkT S s) ∧ txt (S ++ s) (mkT S s) = s.data.toList ∧ (mkT S s).size = s.size ∧ Ar.balB (mkT S s) = true := by
  have hz : (S ++ s).size = S.size + s.size := ByteArray.size_append
  unfold mkT
  split
  · next h =>
    have : s.data.toList = [] := List.length_eq_zero_iff.1 (show s.data.toList.length = 0 from h)
    refine ⟨Good.nil _, by rw [this]; rfl, by rw [h]; rfl, rfl⟩
  · next h =>
    refine ⟨good_leaf.2 ⟨by simp only; omega, by simp only; omega, by simp only; omega, rfl⟩, ?_, rfl, rfl⟩
    rw [txt_leaf]
    exact cutS_new S s
def madeP (S : ByteArray) (ks : List Knot) (s : ByteArray) (v : Value) (s' : Sst) : Prop :=
  s'.1 = S ++ s ∧ v = .tuple #[.int .i64 (mkN ks s), .int .i64 0] ∧ WF s'.2 ∧ Is s'.2 (mkN ks s) (mkT S s) ∧ ∃ n, n ≤ 1 ∧ Ext ks s'.2 n n

section
variable (gs gb ga : Nat) (S : ByteArray) (ks : List Knot)
theorem rfeeds_does (o n : Int) (hS : S.size ≤ 1000000) : Does Try.prog (resSt gs gb ga) 87 #[.pointer (some ⟨gb, 0, none⟩), .int .i64 o, .int .i64 n] (S, ks) (fun v s' => v = .int .i64 (feedsV S o n) ∧ s' = (S, ks)) :=
  Does.of_below fun w F ⟨rb, rf, q, _, h⟩ => Buf.feeds_any gb rb rf S o n w h.buf hS

set_option maxHeartbeats 1000000 in
theorem rmake_empty (hw : WF ks) : Does Try.prog (resSt gs gb ga) 53 #[.pointer (some ⟨gs, 0, none⟩), .string ⟨#[]⟩] (S, ks) (madeP S ks ⟨#[]⟩) := by
  rintro w F h
  have HA := Lib.hid (And.intro h hw)
  clear h hw
  go_enter Try.func53, Try.ntmps53
  go_wp2
  go_ret2
  have hb : Below w.heap.size w w := Below.refl _ _
  refine ⟨_, (S, ks), F, rfl, ⟨?_, rfl, HA.out.2, .nil rfl, 0, by omega, Ext.refl ks⟩, HA.out.1, Fr.refl _ _⟩
  exact Go.Proofs.Ytkcocdpmangcgaa.Buf.bytes_ext (by show S.data.toList = (S ++ (⟨#[]⟩ : ByteArray)).data.toList; rw [ByteArray.data_append, Array.toList_append]; exact (List.append_nil _).symm)

set_option maxHeartbeats 2000000 in
theorem rmake_some (s : ByteArray) (hs : s.size ≠ 0) (hw : WF ks) (hn : ks.length + 1 ≤ small) (hS : S.size + s.size ≤ 1000000) : Does Try.prog (resSt gs gb ga) 53 #[.pointer (some ⟨gs, 0, none⟩), .string s] (S, ks) (madeP S ks s) := by
  rintro w F ⟨rb, rf, q, rfl, h⟩
  have hne : s.toList.isEmpty = false := by
    rw [Lib.toList_data, List.isEmpty_eq_false_iff]
    exact fun e => hs (by rw [show s.size = s.data.toList.length from rfl, e]; rfl)
  have hz : (S ++ s).size = S.size + s.size := ByteArray.size_append
  have hfb := feedsV_bd (S := S ++ s) (o := S.size) (n := s.size) (by omega) (by omega) (by omega)
  have HF := Lib.hid hfb
  have HA := Lib.hid (And.intro h hw)
  obtain ⟨c0, c1⟩ := h.c
  have hlt := h.lt
  have HADD := Lib.hid (Buf.add_any gb rb rf S s w h.buf hS)
  have HZ := Lib.hid hz
  have HSZ := Lib.hid (And.intro hS hs)
  have hs1 : s.size ≤ 1000000 := by omega
  have hs2 : 1 ≤ s.size := by omega
  have hs3 : S.size ≤ 1000000 := by omega
  clear h hw hfb hz
  go_enter Try.func53, Try.ntmps53
  go_wp2_with fail
  ((with_reducible refine HADD.out.mono ?_); rintro e w1 ⟨rb', rf', rfl, hb1, hf1⟩)
  obtain ⟨h1, h2⟩ := HA.out.1.buffer hb1 hf1
  have HB := Lib.hid (And.intro h1 h2)
  clear hb1 hf1 h1 h2 c0 c1 hlt HADD hne hs
  go_wp2_with fail
  have HR : Hid (∀ s' bs w', (resCls (resSt gs gb ga) w1 (sfoot gb ga rb' rf' q)).In s' bs w' → w'.cell? ⟨gs, 0, none⟩ = some (.pointer (some ⟨gb, 0, none⟩)) ∧ w'.cell? ⟨gs, 1, none⟩ = some (.pointer (some ⟨ga, 0, none⟩))) := Lib.hid (fun s' bs w' hw' =>
    ⟨(resCls_cell hw' HB.out.1.lt (fun e => e.elim HB.out.1.sb HB.out.1.sa) 0).trans HB.out.1.c.1, (resCls_cell hw' HB.out.1.lt (fun e => e.elim HB.out.1.sb HB.out.1.sa) 1).trans HB.out.1.c.2⟩)
  refine wp_region_thr (resCls (resSt gs gb ga) w1 (sfoot gb ga rb' rf' q)) (S ++ s, ks) 20 [0, 1, 2, 3, 4, 5, 6, 7, 8, 9, 10, 11, 12, 13, 14, 15, 16, 17, 18, 19] _ (by kernel_rfl) (by kernel_rfl) (by kernel_rfl) rfl (resCls_start (resSt_at HB.out.1)) ?_
  (simp only [List.filterMap_cons, List.filterMap_nil, List.getElem?_cons_zero, List.getElem?_cons_succ, List.drop_succ_cons, List.drop_zero, List.drop_nil])
  iterate 14 ((refine wpThr_val rfl rfl rfl ?_; apply Exists.intro; refine ⟨fun s1 bs1 w1 hb1 hw1 => ?_, ?_⟩); (have hc1 := HR.out s1 bs1 w1 hw1; go_simp; exact growUpon_ok rfl); (refine wpThr_at (by (simp only [Act.put, List.setIfInBounds_toArray, List.set_cons_succ, List.set_cons_zero]) <;> exact rfl) ?_))
  refine wpThr_call (fun v s' => v = .int .i64 (feedsV (S ++ s) S.size s.size) ∧ s' = (S ++ s, ks)) rfl rfl rfl ?_ ?_
  · intro bs1 w1 hb1 hw1
    go_simp
    exact resCls_upon (rfeeds_does gs gb ga (S ++ s) ks S.size s.size (by rw [HZ.out]; exact HSZ.out.1)) hw1
  rintro v st ⟨rfl, rfl⟩
  (refine wpThr_at (by (simp only [Act.put, List.setIfInBounds_toArray, List.set_cons_succ, List.set_cons_zero]) <;> exact rfl) ?_)
  have hok : (T.leaf S.size s.size (feedsV (S ++ s) S.size s.size)).ok := by
    have := HF.out
    simp only [T.ok]
    omega
  have HL := Lib.hid (does_ar (gs := gs) (gb := gb) (S := S ++ s) (leaf_mk ga ks S.size s.size (feedsV (S ++ s) S.size s.size) HA.out.2 hok (by omega)))
  have HF2 := Lib.hid (rfl : mkT S s = mkT S s)
  clear hok
  generalize hfd : feedsV (S ++ s) S.size s.size = fd at HL ⊢
  have HFD := Lib.hid hfd
  clear hfd
  refine wpThr_call (fun v s' => s'.1 = S ++ s ∧ mkl ks S.size s.size fd v s'.2) rfl rfl rfl ?_ ?_
  · intro bs1 w1 hb1 hw1
    go_simp
    exact resCls_upon HL.out hw1
  rintro v ⟨S2, ks2⟩ ⟨rfl, rfl, p1, p2, p3⟩
  simp only at p1 p2 p3
  (refine wpThr_at (by (simp only [Act.put, List.setIfInBounds_toArray, List.set_cons_succ, List.set_cons_zero]) <;> exact rfl) ?_)
  iterate 4 ((refine wpThr_val rfl rfl rfl ?_; apply Exists.intro; refine ⟨fun s1 bs1 w1 hb1 hw1 => ?_, ?_⟩); (have hc1 := HR.out s1 bs1 w1 hw1; go_simp; exact growUpon_ok rfl); (refine wpThr_at (by (simp only [Act.put, List.setIfInBounds_toArray, List.set_cons_succ, List.set_cons_zero]) <;> exact rfl) ?_))
  refine wpThr_nil ?_
  rintro w2 ⟨F2, ha2, hf2, _⟩
  have HE := Lib.hid (And.intro p1 (And.intro p2 (And.intro p3 (And.intro ha2 (HB.out.2.trans hf2)))))
  clear p1 p2 p3 ha2 hf2 HR
  go_wp2
  go_ret2
  obtain ⟨p1, p2, p3, ha2, hf2⟩ := HE.out
  have e0 : s.size ≠ 0 := by omega
  refine ⟨_, rfl, S ++ s, ks2, ⟨rfl, ?_, p1, ?_, 1, by omega, p3⟩, F2, ha2, hf2⟩
  · simp [mkN, e0]
  · rw [mkN, if_neg e0, mkT, if_neg e0, HFD.out]
    exact p2

theorem rmake_any (s : ByteArray) (hw : WF ks) (hn : ks.length + 1 ≤ small) (hS : S.size + s.size ≤ 1000000) : Does Try.prog (resSt gs gb ga) 53 #[.pointer (some ⟨gs, 0, none⟩), .string s] (S, ks) (madeP S ks s) := by
  by_cases hs : s.size = 0
  · have : s = ⟨#[]⟩ := Go.Proofs.Ytkcocdpmangcgaa.Buf.bytes_ext (by rw [List.length_eq_zero_iff.1 (show s.data.toList.length = 0 from hs)])
    rw [this]
    exact rmake_empty gs gb ga S ks hw
  · exact rmake_some gs gb ga S ks s hs hw hn hS
end

set_option maxHeartbeats 400000 in
theorem rmake_nil (s : ByteArray) (w : World) : Calls Try.prog 53 #[.pointer none, .string s] w fun e w' => e = .returned (.tuple #[.int .i64 0, .int .i64 7]) ∧ w = w' := by
  go_enter Try.func53, Try.ntmps53
  go_wp2
  go_ret2
  exact ⟨rfl, rfl⟩
set_option maxHeartbeats 400000 in
theorem rpair_nil (l r : Int) (w : World) : Calls Try.prog 56 #[.pointer none, .int .i64 l, .int .i64 r] w fun e w' => e = .returned (.tuple #[.int .i64 0, .int .i64 7]) ∧ w = w' := by
  go_enter Try.func56, Try.ntmps56
  go_wp2
  go_ret2
  exact ⟨rfl, rfl⟩
end Go.Proofs.Ytkcocdpmangcgaa.Rp
