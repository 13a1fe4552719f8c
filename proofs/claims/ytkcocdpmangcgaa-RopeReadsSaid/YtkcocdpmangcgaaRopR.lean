
/- A store's Read and Byte. -/
import Derived.Test.YtkcocdpmangcgaaRopC
namespace Go.Proofs.Ytkcocdpmangcgaa.Rp
set_option linter.unusedSimpArgs false
set_option linter.unusedVariables false
open Go Go.RowKit
open Go.Proofs.Ytkcocdpmangcgaa.Ar (T Is Ext WF Knot getK getB Arena resAr small)
open Go.Proofs.Ytkcocdpmangcgaa.Buf (BufS feedsV feedV feedB thereB sliceV)
attribute [local go_sem] lt_add1 lt_self1 size_ne size_ne' size_ne1 size_ne1'
attribute [local irreducible] wpGrow wpThr

/-- a new builder. -/
theorem RS.new (w : World) : RS w w.heap.size [] (w.alloc (.cells #[.pointer none, .slice none 0 0] 132)) :=
  ⟨(Below.refl _ _).alloc (Nat.le_refl _) _, .inl ⟨Nat.le_refl _, _, heap_alloc_new _ _, World.ownsRowF_nil _ _ _ _, by simp [Value.ownBlock]⟩⟩

/-- what a read answers where the rope has the bytes x. -/
def readV (x : List UInt8) (a n : Int) : List UInt8 × Int := if spanV x.length a n ≠ 0 then ([], spanV x.length a n) else if 1048576 < n then ([], 4) else ((x.drop a.toNat).take n.toNat, 0)

section
variable (gs gb ga : Nat) (rb rf q : Option Nat) (S : ByteArray) (ks : List Knot) (w : World)
set_option maxHeartbeats 1000000 in
/-- span said no. -/
theorem rread_err (s : Option Addr) (t a n c : Int) (hc : c ≠ 0) (hsp : Calls Try.prog 78 #[.pointer s, .int .i64 t, .int .i64 a, .int .i64 n] w fun e w' => e = .returned (.int .i64 c) ∧ Below w.heap.size w w') :
    Calls Try.prog 38 #[.pointer s, .int .i64 t, .int .i64 a, .int .i64 n] w fun e w' => e = .returned (.tuple #[.string ⟨#[]⟩, .int .i64 c]) ∧ Below w.heap.size w w' := by
  have HZ := Lib.hid hsp
  clear hsp
  go_enter Try.func38, Try.ntmps38
  go_wp2_with fail
  ((with_reducible refine HZ.out.mono ?_); rintro e w1 ⟨rfl, hb⟩)
  have HB := Lib.hid hb
  clear hb
  go_wp2
  go_ret2
  exact ⟨rfl, HB.out⟩

set_option maxHeartbeats 1000000 in
theorem rread_ok (t a n : Int) (X : T) (hw : WF ks) (ht : Is ks t X) (hg : Good S X) (h : St w gs gb ga rb rf q S ks) (hks : ks.length ≤ small) (hS : S.size ≤ 1000000) (hs : spanV X.size a n = 0)
    (hsp : Calls Try.prog 78 #[.pointer (some ⟨gs, 0, none⟩), .int .i64 t, .int .i64 a, .int .i64 n] w fun e w' => e = .returned (.int .i64 0) ∧ Below w.heap.size w w') :
    Calls Try.prog 38 #[.pointer (some ⟨gs, 0, none⟩), .int .i64 t, .int .i64 a, .int .i64 n] w fun e w' =>
      e = .returned (if 1048576 < n then .tuple #[.string ⟨#[]⟩, .int .i64 4] else .tuple #[.string ⟨(((txt S X).drop a.toNat).take n.toNat).toArray⟩, .int .i64 0]) ∧ Below w.heap.size w w' := by
  have HZ := Lib.hid hsp
  have hin : 0 ≤ a ∧ 0 ≤ n ∧ a + n ≤ X.size := by unfold spanV at hs; split at hs <;> omega
  have HSt := Lib.hid h
  obtain ⟨h0, h1, h2⟩ := hin
  have HRD := Lib.hid (fun (w1 : World) (hb : Below w.heap.size w w1) (hn : n ≤ 1048576) => read_any (b := w1.heap.size) (HSt.out.below hb) hw hks hS X t a n [] (w1.alloc (.cells #[.pointer none, .slice none 0 0] 132)) ht hg h0 h1 h2 (by simp only [List.length_nil]; omega) (RS.new w1))
  clear hsp hs hw ht hg h hks hS
  simp only [List.nil_append] at HRD
  generalize ((txt S X).drop a.toNat).take n.toNat = x at HRD ⊢
  clear h2
  by_cases hn : 1048576 < n
  · rw [if_pos hn]
    go_enter Try.func38, Try.ntmps38
    go_wp2_with fail
    ((with_reducible refine HZ.out.mono ?_); rintro e w1 ⟨rfl, hb⟩)
    have HB := Lib.hid hb
    clear hb
    go_wp2
    go_ret2
    exact ⟨rfl, HB.out⟩
  · rw [if_neg hn]
    go_enter Try.func38, Try.ntmps38
    go_wp2_with fail
    ((with_reducible refine HZ.out.mono ?_); rintro e w1 ⟨rfl, hb⟩)
    have HB := Lib.hid hb
    have HW := Lib.hid hb.size
    clear hb
    go_wp2_with (go_at_call 79; ((with_reducible refine (HRD.out _ HB.out (by omega)).mono ?_); rintro e w2 ⟨rfl, h2⟩))
    have HB2 := Lib.hid (And.intro h2.rs ((HB.out.trans (h2.rs.bl.mono HW.out))))
    clear h2
    go_wp2_with (go_at_call 80; ((with_reducible refine (Bld.text _ _ x _ HB2.out.1.bd HB2.out.1.bl.size).mono ?_); rintro e w3 ⟨rfl, h3⟩))
    have HB3 := Lib.hid (HB2.out.2.trans (h3.mono HW.out))
    clear h3
    go_wp2
    go_ret2
    exact ⟨rfl, HB3.out⟩

/-- Read of a rope. -/
theorem rread_any (t a n : Int) (X : T) (hw : WF ks) (ht : Is ks t X) (hg : Good S X) (h : St w gs gb ga rb rf q S ks) (hks : ks.length ≤ small) (hS : S.size ≤ 1000000) :
    Calls Try.prog 38 #[.pointer (some ⟨gs, 0, none⟩), .int .i64 t, .int .i64 a, .int .i64 n] w fun e w' =>
      e = .returned (.tuple #[.string ⟨(readV (txt S X) a n).1.toArray⟩, .int .i64 (readV (txt S X) a n).2]) ∧ Below w.heap.size w w' := by
  have hl := txt_length hg
  have hok := ht.ok hw
  have hz : 0 ≤ X.size ∧ X.size ≤ 1099511627776 := by have := T.bounds hok; omega
  have hsp := rspan_any gs w t a n X.size hz.1 hz.2 (rsize_is gs gb ga rb rf q S ks w t X ht h hks)
  unfold readV
  rw [hl]
  by_cases hs : spanV X.size a n = 0
  · rw [hs] at hsp
    have := rread_ok gs gb ga rb rf q S ks w t a n X hw ht hg h hks hS hs hsp
    rw [if_neg (by omega)]
    split
    · next h1 => simpa [h1] using this
    · next h1 => simpa [h1] using this
  · rw [if_pos hs]
    exact rread_err w _ t a n _ hs hsp
theorem rread_none (t a n : Int) (ht : t < 0 ∨ (ks.length : Int) < t) (h : St w gs gb ga rb rf q S ks) (hks : ks.length ≤ small) :
    Calls Try.prog 38 #[.pointer (some ⟨gs, 0, none⟩), .int .i64 t, .int .i64 a, .int .i64 n] w fun e w' => e = .returned (.tuple #[.string ⟨#[]⟩, .int .i64 7]) ∧ Below w.heap.size w w' :=
  rread_err w _ t a n 7 (by decide) (rspan_none w _ t a n (rsize_none gs gb ga rb rf q S ks w t ht h hks))
theorem rread_nil (t a n : Int) : Calls Try.prog 38 #[.pointer none, .int .i64 t, .int .i64 a, .int .i64 n] w fun e w' => e = .returned (.tuple #[.string ⟨#[]⟩, .int .i64 7]) ∧ Below w.heap.size w w' :=
  rread_err w _ t a n 7 (by decide) (rspan_none w _ t a n ((rsize_nil w t).mono fun e w' h => ⟨h.1, h.2 ▸ Below.refl _ _⟩))

set_option maxHeartbeats 1000000 in
theorem rbyte_err (s : Option Addr) (t a c : Int) (hc : c ≠ 0) (hr : Calls Try.prog 38 #[.pointer s, .int .i64 t, .int .i64 a, .int .i64 1] w fun e w' => e = .returned (.tuple #[.string ⟨#[]⟩, .int .i64 c]) ∧ Below w.heap.size w w') :
    Calls Try.prog 39 #[.pointer s, .int .i64 t, .int .i64 a] w fun e w' => e = .returned (.tuple #[.int .u8 0, .int .i64 c]) ∧ Below w.heap.size w w' := by
  have HZ := Lib.hid hr
  clear hr
  go_enter Try.func39, Try.ntmps39
  go_wp2_with fail
  ((with_reducible refine HZ.out.mono ?_); rintro e w1 ⟨rfl, hb⟩)
  have HB := Lib.hid hb
  clear hb
  go_wp2
  go_ret2
  exact ⟨rfl, HB.out⟩
set_option maxHeartbeats 1000000 in
theorem rbyte_ok (s : Option Addr) (t a : Int) (c : UInt8) (hr : Calls Try.prog 38 #[.pointer s, .int .i64 t, .int .i64 a, .int .i64 1] w fun e w' => e = .returned (.tuple #[.string ⟨#[c]⟩, .int .i64 0]) ∧ Below w.heap.size w w') :
    Calls Try.prog 39 #[.pointer s, .int .i64 t, .int .i64 a] w fun e w' => e = .returned (.tuple #[.int .u8 c.toNat, .int .i64 0]) ∧ Below w.heap.size w w' := by
  have HZ := Lib.hid hr
  clear hr
  go_enter Try.func39, Try.ntmps39
  go_wp2_with fail
  ((with_reducible refine HZ.out.mono ?_); rintro e w1 ⟨rfl, hb⟩)
  have HB := Lib.hid hb
  clear hb
  go_wp2
  go_ret2
  exact ⟨rfl, HB.out⟩
/-- Byte of a rope. -/
theorem rbyte_any (t a : Int) (X : T) (hw : WF ks) (ht : Is ks t X) (hg : Good S X) (h : St w gs gb ga rb rf q S ks) (hks : ks.length ≤ small) (hS : S.size ≤ 1000000) :
    Calls Try.prog 39 #[.pointer (some ⟨gs, 0, none⟩), .int .i64 t, .int .i64 a] w fun e w' =>
      (0 ≤ a ∧ a < X.size ∧ ∃ c, (txt S X)[a.toNat]? = some c ∧ e = .returned (.tuple #[.int .u8 c.toNat, .int .i64 0]) ∧ Below w.heap.size w w') ∨ (¬ (0 ≤ a ∧ a < X.size) ∧ e = .returned (.tuple #[.int .u8 0, .int .i64 2]) ∧ Below w.heap.size w w') := by
  have hl := txt_length hg
  have hr := rread_any gs gb ga rb rf q S ks w t a 1 X hw ht hg h hks hS
  by_cases hin : 0 ≤ a ∧ a < X.size
  · have hs : spanV (txt S X).length a 1 = 0 := by unfold spanV; rw [if_neg (by omega)]
    have hlt : a.toNat < (txt S X).length := by omega
    have hv : readV (txt S X) a 1 = ([(txt S X)[a.toNat]], 0) := by
      unfold readV
      rw [if_neg (by omega), if_neg (by omega), List.drop_eq_getElem_cons hlt]
      rfl
    rw [hv] at hr
    exact (rbyte_ok w _ t a _ hr).mono fun e w' h => .inl ⟨hin.1, hin.2, _, List.getElem?_eq_getElem hlt, h.1, h.2⟩
  · have hs : spanV (txt S X).length a 1 = 2 := by unfold spanV; rw [if_pos (by omega)]
    have hv : readV (txt S X) a 1 = ([], 2) := by unfold readV; rw [hs]; rfl
    rw [hv] at hr
    exact (rbyte_err w _ t a 2 (by decide) hr).mono fun e w' h => .inr ⟨hin, h.1, h.2⟩
end
end Go.Proofs.Ytkcocdpmangcgaa.Rp
