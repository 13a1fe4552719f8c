
/- A store's Replace, whatever it is asked; the page's example; no store at all. */ -/
import Derived.Test.YtkcocdpmangcgaaRopN
namespace Go.Proofs.Ytkcocdpmangcgaa.Rp
set_option linter.unusedSimpArgs false
set_option linter.unusedVariables false
open Go Go.RowKit
open Go.Proofs.Ytkcocdpmangcgaa.Ar (T Is Ext WF Knot getK getB Arena resAr small splitP JoinP JoinOk SplitOk)
open Go.Proofs.Ytkcocdpmangcgaa.Buf (BufS feedsV feedV feedB thereB sliceV)
attribute [local go_sem] lt_add1 lt_self1 size_ne size_ne' size_ne1 size_ne1'
attribute [local irreducible] wpGrow wpThr

set_option maxHeartbeats 1000000 in
/-- span said no. -/
theorem rrep_err (w : World) (s : Option Addr) (t a n c : Int) (x : ByteArray) (hc : c ≠ 0) (hsp : Calls Try.prog 78 #[.pointer s, .int .i64 t, .int .i64 a, .int .i64 n] w fun e w' => e = .returned (.int .i64 c) ∧ Below w.heap.size w w') :
    Calls Try.prog 54 #[.pointer s, .int .i64 t, .int .i64 a, .int .i64 n, .string x] w fun e w' => e = .returned (.tuple #[.int .i64 0, .int .i64 c]) ∧ Below w.heap.size w w' := by
  have HZ := Lib.hid hsp
  clear hsp
  go_enter Try.func54, Try.ntmps54
  go_wp2_with fail
  ((with_reducible refine HZ.out.mono ?_); rintro e w1 ⟨rfl, hb⟩)
  have HB := Lib.hid hb
  clear hb
  go_wp2
  go_ret2
  exact ⟨rfl, HB.out⟩

/-! no store -/
section
variable (w : World)
theorem below_of_eq {w w' : World} (h : w = w') : Below w.heap.size w w' := h ▸ Below.refl _ _
theorem rsize_nilB (t : Int) : Calls Try.prog 40 #[.pointer none, .int .i64 t] w fun e w' => e = .returned (.tuple #[.int .i64 0, .int .i64 7]) ∧ Below w.heap.size w w' := (rsize_nil w t).mono fun _ _ h => ⟨h.1, below_of_eq h.2⟩
theorem rbyte_nil (t a : Int) : Calls Try.prog 39 #[.pointer none, .int .i64 t, .int .i64 a] w fun e w' => e = .returned (.tuple #[.int .u8 0, .int .i64 7]) ∧ Below w.heap.size w w' := rbyte_err w _ t a 7 (by decide) (rread_nil w t a 1)
theorem rrep_nil (t a n : Int) (x : ByteArray) : Calls Try.prog 54 #[.pointer none, .int .i64 t, .int .i64 a, .int .i64 n, .string x] w fun e w' => e = .returned (.tuple #[.int .i64 0, .int .i64 7]) ∧ Below w.heap.size w w' :=
  rrep_err w _ t a n 7 x (by decide) (rspan_none w _ t a n (rsize_nilB w t))
end

/-! the page's example -/
def abcd : ByteArray := ⟨#[97, 98, 99, 100]⟩
def xyz : ByteArray := ⟨#[88, 89, 90]⟩
theorem wf_nil : WF [] := fun i hi => by simp at hi

set_option maxRecDepth 100000 in
set_option maxHeartbeats 2000000 in
theorem awake_any (w : World) : Calls Try.prog 31 #[] w fun e w' => e = .returned (.bool true) ∧ Below w.heap.size w w' := by
  go_enter Try.func31, Try.ntmps31
  go_wp2_with fail
  ((with_reducible refine (rnew_any _).mono ?_); rintro e w1 ⟨gs, gb, ga, rfl, h1, hb1, g1, g2, g3⟩)
  have hF1 : ∀ b, sfoot gb ga none none none b → w.heap.size ≤ b := by
    intro b hb
    rcases hb with (rfl | e | e) | (rfl | e)
    · exact g2
    · cases e
    · cases e
    · exact g3
    · cases e
  have H1 := Lib.hid (And.intro h1 (And.intro hb1 hF1))
  clear h1 hb1 g1 g2 g3 hF1
  have HM := Lib.hid ((rmake_any gs gb ga ⟨#[]⟩ [] abcd wf_nil (by simp [small]) (by decide)).run w1 _ (resSt_at H1.out.1))
  unfold abcd at HM
  go_wp2_with fail
  ((with_reducible refine HM.out.mono ?_); rintro e w2 ⟨v, ⟨S2, ks2⟩, F2, rfl, ⟨hS2, rfl, m1, m2, n2, m3, m4⟩, ha2, hf2⟩)
  simp only at hS2 m1 m2 m4
  have e2 : mkN [] ⟨#[97, 98, 99, 100]⟩ = 1 := rfl
  rw [e2] at m2 ⊢
  have hB2 := hf2.below H1.out.2.1 H1.out.2.2 H1.out.2.1.size
  have hF2 := hf2.ge H1.out.2.2 H1.out.2.1.size
  have hl2 := m4.len
  simp only [List.length_nil] at hl2
  have H2 := Lib.hid (And.intro m1 (And.intro m2 (And.intro ha2 (And.intro hB2 hF2))))
  have hgd := mkT_good ⟨#[]⟩ abcd
  have HR := Lib.hid ((rrep_some gs gb ga S2 ks2 1 1 2 (mkT ⟨#[]⟩ abcd) xyz m1 m2 (by rw [hS2]; exact hgd.1) (by have := (mkT_high ⟨#[]⟩ abcd).2.2.2.1; omega) (by omega) (by rw [hS2]; decide) (by rw [hgd.2.2.1]; decide) (by rw [hgd.2.2.1]; decide) (by decide)).run w2 _ ha2)
  have HT := Lib.hid (And.intro hS2 (And.intro hgd m3))
  clear m1 m2 m3 m4 ha2 hf2 hB2 hF2 hS2 hgd HM e2
  unfold xyz at HR
  go_wp2_with fail
  ((with_reducible refine HR.out.mono ?_); rintro e w3 ⟨v, ⟨S3, ks3⟩, F3, rfl, ⟨hS3, t3, Y, N, M, rfl, r1, r2, r3, r4, r5, r6, r7⟩, ha3, hf3⟩)
  simp only at hS3 r1 r2 r3 r5 r6
  obtain ⟨rb3, rf3, q3, rfl, st3⟩ := st_of ha3
  simp only at st3
  obtain ⟨q1, ⟨q2, q3', q4, q5⟩, q6⟩ := HT.out
  have q1' : S2 = ⟨#[]⟩ ++ abcd := q1
  have e1 : txt S2 (mkT ⟨#[]⟩ abcd) = [97, 98, 99, 100] := by rw [q1', q3']; rfl
  have gd2 : Good S2 (mkT ⟨#[]⟩ abcd) := by rw [q1']; exact q2
  have e6 : txt S3 Y = [97, 88, 89, 90, 100] := by rw [r6, e1]; rfl
  have z2 : S2.size = 4 := by rw [q1']; rfl
  have z3 : S3.size ≤ 1000000 := by rw [hS3, ByteArray.size_append, z2]; decide
  have hh := mkT_high ⟨#[]⟩ abcd
  have hk3 : ks3.length ≤ small := by
    have := r3.len
    have := (r7 hh.2.2.1).2
    unfold small
    omega
  have hB3 := hf3.below H2.out.2.2.2.1 H2.out.2.2.2.2 H2.out.2.2.2.1.size
  have R1 := rread_any gs gb ga rb3 rf3 q3 S3 ks3 w3 t3 0 5 Y r1 r2 r5 st3 hk3 z3
  have R2 := fun w' (st : St w' gs gb ga rb3 rf3 q3 S3 ks3) => rread_any gs gb ga rb3 rf3 q3 S3 ks3 w' 1 0 4 (mkT ⟨#[]⟩ abcd) r1 (Is.ext H2.out.2.1 r3) (by rw [hS3]; exact gd2.grow) st hk3 z3
  have e7 : txt S3 (mkT ⟨#[]⟩ abcd) = [97, 98, 99, 100] := by rw [hS3, txt_grow gd2]; exact e1
  rw [e6] at R1
  rw [e7] at R2
  rw [show readV [97, 88, 89, 90, 100] 0 5 = ([97, 88, 89, 90, 100], 0) by decide] at R1
  rw [show readV [97, 98, 99, 100] 0 4 = ([97, 98, 99, 100], 0) by decide] at R2
  simp only at R1 R2
  have HR1 := Lib.hid (And.intro R1 (And.intro R2 (And.intro st3 hB3)))
  clear q1 q1' q2 q3' q4 q5 q6 e1 gd2 e6 z2 z3 hh hk3 hB3 R1 R2 e7 st3 ha3 hf3 r1 r2 r3 r4 r5 r6 r7 hS3 HR HT H2 H1 hl2
  go_wp2_with fail
  ((with_reducible refine HR1.out.1.mono ?_); rintro e w4 ⟨rfl, hb4⟩)
  have HB4 := Lib.hid (And.intro (HR1.out.2.2.1.below hb4) (HR1.out.2.2.2.trans (hb4.mono HR1.out.2.2.2.size)))
  clear hb4
  go_wp2_with fail
  ((with_reducible refine (HR1.out.2.1 _ HB4.out.1).mono ?_); rintro e w5 ⟨rfl, hb5⟩)
  have HB5 := Lib.hid (HB4.out.2.trans (hb5.mono HB4.out.2.size))
  clear hb5
  go_wp2
  go_ret
  exact ⟨rfl, HB5.out⟩

set_option maxRecDepth 100000 in
set_option maxHeartbeats 4000000 in
theorem none_walk (x y z : Int) (s : ByteArray) (w : World) (hs : s.size ≤ 2 ^ 63 - 1) : Calls Try.prog 12 #[.agg #[.int .i64 x, .int .i64 y, .int .i64 z], .string s] w fun e w' => e = .returned (.bool true) ∧ Below w.heap.size w w' := by
  have hb0 : Below w.heap.size w (w.alloc (.cells #[.int .i64 x, .int .i64 y, .int .i64 z] 94)) := (Below.refl _ _).alloc (Nat.le_refl _) _
  have hk0 : (w.alloc (.cells #[.int .i64 x, .int .i64 y, .int .i64 z] 94)).heap[w.heap.size]? = some (.cells #[.int .i64 x, .int .i64 y, .int .i64 z] 94 (0, 0)) := heap_alloc_new _ _
  have H0 := Lib.hid (And.intro hb0 hk0)
  clear hb0 hk0
  go_enter Try.func12, Try.ntmps12
  go_wp2_with fail
  ((with_reducible refine (awake_any _).mono ?_); rintro e w1 ⟨rfl, hb1⟩)
  have H1 := Lib.hid (And.intro (H0.out.1.trans (hb1.mono H0.out.1.size)) ((hb1.block _ (Array.getElem?_eq_some_iff.1 H0.out.2).1).trans H0.out.2))
  clear hb1 H0
  have hlt := (Array.getElem?_eq_some_iff.1 H1.out.2).1
  have c0 : w1.cell? ⟨w.heap.size, 0, none⟩ = some (.int .i64 x) := cell_of_row w1 _ 0 _ _ (0, 0) H1.out.2
  have c1 : w1.cell? ⟨w.heap.size, 1, none⟩ = some (.int .i64 y) := cell_of_row w1 _ 1 _ _ (0, 0) H1.out.2
  have c2 : w1.cell? ⟨w.heap.size, 2, none⟩ = some (.int .i64 z) := cell_of_row w1 _ 2 _ _ (0, 0) H1.out.2
  go_upto_region 3 with fail
  refine wp_region_grow 9 (by kernel_rfl) (by kernel_rfl) ?_
  simp only [List.take_succ_cons, List.take_zero, List.drop_succ_cons, List.drop_zero, List.take_nil, List.drop_nil]
  iterate 9 ((refine wpGrow_val' rfl rfl ?_; apply Exists.intro; refine ⟨fun w1 hw1 => ?_, ?_⟩); (have hc1 := hw1.cell; go_simp; exact growUpon_ok rfl); (refine wpGrow_at (by (simp only [Act.put, List.setIfInBounds_toArray, List.set_cons_succ, List.set_cons_zero]) <;> exact rfl) ?_))
  refine wpGrow_nil ?_
  intro w2 hD
  have HB2 := Lib.hid (H1.out.1.trans (hD.below.mono H1.out.1.size))
  clear hD c0 c1 c2 hlt H1
  have hs' : (s.size : Int) ≤ 9223372036854775807 := by omega
  go_wp2_with fail
  ((with_reducible refine (rmake_nil _ _).mono ?_); rintro e w3 ⟨rfl, rfl⟩)
  go_wp2_with fail
  ((with_reducible refine (rsize_nil _ _).mono ?_); rintro e w3 ⟨rfl, rfl⟩)
  go_wp2_with fail
  ((with_reducible refine (rread_nil _ _ _ _).mono ?_); rintro e w3 ⟨rfl, hb⟩)
  have HB3 := Lib.hid (HB2.out.trans (hb.mono HB2.out.size))
  clear hb
  go_wp2_with fail
  ((with_reducible refine (rbyte_nil _ _ _).mono ?_); rintro e w4 ⟨rfl, hb⟩)
  have HB4 := Lib.hid (HB3.out.trans (hb.mono HB3.out.size))
  clear hb
  go_wp2_with fail
  ((with_reducible refine (rrep_nil _ _ _ _ _).mono ?_); rintro e w5 ⟨rfl, hb⟩)
  have HB5 := Lib.hid (HB4.out.trans (hb.mono HB4.out.size))
  clear hb
  go_wp2_with fail
  ((with_reducible refine (rknot_nil _ _).mono ?_); rintro e w6 ⟨rfl, hb⟩)
  have HB6 := Lib.hid (HB5.out.trans (hb.mono HB5.out.size))
  clear hb
  have HB7 := Lib.hid (HB6.out.alloc HB6.out.size (.cells #[.int .i64 0, .int .i64 0, .int .i64 0, .int .i64 0, .int .i64 0, .int .i64 0, .int .i64 0] 66))
  simp only [Ar.Knot.val, Knot.zero]
  go_wp2_with fail
  ((with_reducible refine (rfeed_nil _ _ _ _).mono ?_); rintro e w8 ⟨rfl, hb⟩)
  have HB8 := Lib.hid (HB7.out.trans (hb.mono HB7.out.size))
  clear hb
  go_wp2_with fail
  ((with_reducible refine (rpair_nil _ _ _).mono ?_); rintro e w9 ⟨rfl, rfl⟩)
  go_wp2_with fail
  ((with_reducible refine (rknots_nil _).mono ?_); rintro e w9 ⟨rfl, rfl⟩)
  go_wp2_with fail
  ((with_reducible refine (rbytes_nil _ _ _).mono ?_); rintro e w10 ⟨rfl, hb⟩)
  have HB10 := Lib.hid (HB8.out.trans (hb.mono HB8.out.size))
  clear hb
  go_wp2_with fail
  ((with_reducible refine (rbal_nil _ _).mono ?_); rintro e w9 ⟨rfl, rfl⟩)
  go_wp2
  go_ret
  exact ⟨rfl, HB10.out⟩
end Go.Proofs.Ytkcocdpmangcgaa.Rp
