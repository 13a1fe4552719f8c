/- Layer 23: Forward, Back. */ -/
import Derived.Test.YtkcocdpmangcgaaMgL
import Derived.Test.YtkcocdpmangcgaaMgA
import Derived.Test.YtkcocdpmangcgaaProg
import Derived.Lib.Hide
import Derived.WalkKit
import Derived.KernelRfl
import Derived.BigQuiet
import Derived.Deep.DeepCutAuto
import Derived.Test.YtkcocdpmangcgaaMgJ
import Derived.Test.YtkcocdpmangcgaaMgE
namespace Go.Proofs.Ytkcocdpmangcgaa.Wk
set_option linter.unusedSimpArgs false
set_option linter.unusedVariables false
open Go Go.RowKit Go.Proofs.Ytkcocdpmangcgaa.Rp
open Go.Proofs.Ytkcocdpmangcgaa.Ar (T Is Ext WF Knot getK getB getS Arena resAr small leafK T.cnt T.cnt_pos)
attribute [local go_sem] lt_add1 lt_self1 size_ne size_ne' size_ne1 size_ne1'
attribute [local irreducible] wpGrow wpThr

section

set_option maxHeartbeats 1000000 in
/-- of what is no rope nothing is gone over. -/
theorem Forward_err (w : World) (s : Option Addr) (t fr z c : Int) (fv : Value) (hc : c ≠ 0) (hsz : Calls Try.prog 40 #[.pointer s, .int .i64 t] w fun e w' => e = .returned (.tuple #[.int .i64 z, .int .i64 c]) ∧ Below w.heap.size w w') :
    Calls Try.prog 44 #[.pointer s, .int .i64 t, .int .i64 fr, fv] w fun e w' => e = .returned (.int .i64 0) ∧ Below w.heap.size w w' := by
  have HZ := Lib.hid hsz
  clear hsz
  go_enter Try.func44, Try.ntmps44
  go_wp2_with fail
  ((with_reducible refine HZ.out.mono ?_); rintro e w1 ⟨rfl, hb⟩)
  have HB := Lib.hid hb
  clear hb
  go_wp2
  go_ret
  exact ⟨rfl, HB.out⟩

def FwdL (S : ByteArray) (X : T) (fr : Int) : List UInt8 := if 0 ≤ fr ∧ fr ≤ X.size then (txt S X).drop fr.toNat else []

set_option maxHeartbeats 1000000 in
/-- of what is no rope nothing is gone over. -/
theorem Back_err (w : World) (s : Option Addr) (t fr z c : Int) (fv : Value) (hc : c ≠ 0) (hsz : Calls Try.prog 40 #[.pointer s, .int .i64 t] w fun e w' => e = .returned (.tuple #[.int .i64 z, .int .i64 c]) ∧ Below w.heap.size w w') :
    Calls Try.prog 46 #[.pointer s, .int .i64 t, .int .i64 fr, fv] w fun e w' => e = .returned (.int .i64 0) ∧ Below w.heap.size w w' := by
  have HZ := Lib.hid hsz
  clear hsz
  go_enter Try.func46, Try.ntmps46
  go_wp2_with fail
  ((with_reducible refine HZ.out.mono ?_); rintro e w1 ⟨rfl, hb⟩)
  have HB := Lib.hid hb
  clear hb
  go_wp2
  go_ret
  exact ⟨rfl, HB.out⟩

def BckL (S : ByteArray) (X : T) (fr : Int) : List UInt8 := if 0 ≤ fr ∧ fr ≤ X.size then ((txt S X).take fr.toNat).reverse else []

variable {σ : Type} (R : Res σ) (gs kf : Nat) (rc : Value) (gb ga : Nat) (rb rf q : Option Nat) (S : ByteArray) (ks : List Knot)
/-- who eats, and a store beside. -/
def resE : Res σ := R.with_ (stC gs gb ga rb rf q S ks) (fun h hf => stC_fr gs gb ga rb rf q S ks h hf)
variable (go : σ → UInt8 → σ × Bool) (sz : σ → Nat) (hkp : Keeps R) (hsz : ∀ s c, sz (go s c).1 ≤ sz s + 1) (eg : ∀ args w, (callFunc kf args).run Try.prog w = .ok (.enter kf args) w)
  (hdo : ∀ s c, sz s + 1 ≤ 1000000 → Does Try.prog R kf #[rc, .int .u8 (c : UInt8).toNat] s (fun v s' => v = .bool (go s c).2 ∧ s' = (go s c).1))
include hkp hsz eg hdo

set_option maxHeartbeats 2000000 in
theorem Forward_does (hw : WF ks) (hks : ks.length ≤ small) (hS : S.size ≤ 1000000) (X : T) (t fr : Int) (s : σ) (ht : Is ks t X) (hg : Rp.Good S X) (hz1 : (sz s : Int) + X.size ≤ 1000000) :
    Does Try.prog (resE R gs gb ga rb rf q S ks) 44 #[.pointer (some ⟨gs, 0, none⟩), .int .i64 t, .int .i64 fr, .func (.func kf) #[rc] #[]] s (fun v s' => v = .int .i64 (eat go s (FwdL S X fr)).2.2 ∧ s' = (eat go s (FwdL S X fr)).1) := by
  rintro w F ⟨hR, hC⟩
  have HZ := Lib.hid (rsize_is gs gb ga rb rf q S ks w t X ht hC.1 hks)
  have hX := T.bounds (ht.ok hw)
  have HRC := Lib.hid (And.intro hR hC)
  have hz0 : 0 ≤ X.size ∧ X.size ≤ 1000000 := by omega
  obtain ⟨hz0, hz2⟩ := hz0
  clear hR hC
  by_cases hin : 0 ≤ fr ∧ fr ≤ X.size
  · have hL : FwdL S X fr = (txt S X).drop fr.toNat := by unfold FwdL; rw [if_pos hin]
    rw [hL]
    obtain ⟨hf0, hf1⟩ := hin
    have HF := Lib.hid (fun bw => fwd_does R bw gs kf rc gb ga rb rf q S ks go sz hkp hsz eg hdo hw hks hS X.cnt X t fr s 0 (Nat.le_refl _) ht hg ⟨by omega, by omega⟩ hz1 (by simp; omega))
    clear hL ht hg hX hz1
    generalize (txt S X).drop fr.toNat = l at HF ⊢
    generalize X.size = z at HZ hf0 hf1 hz0 hz2
    go_enter Try.func44, Try.ntmps44
    go_wp2_with fail
    ((with_reducible refine HZ.out.mono ?_); rintro e w1 ⟨rfl, hb⟩)
    have hlt1 := hb.size
    have hW : (resW R w1.heap.size gs kf rc gb ga rb rf q S ks).at_ (w1.alloc (.cells #[.pointer (some ⟨gs, 0, none⟩), .func (.func kf) #[rc] #[], .int .i64 0] 137)) (fun b => F b ∨ b = w1.heap.size) (s, 0) := by
      have hb2 := hb.alloc hb.size (.cells #[.pointer (some ⟨gs, 0, none⟩), .func (.func kf) #[rc] #[], .int .i64 0] 137)
      refine resW_mk R w1.heap.size gs kf rc gb ga rb rf q S ks (fun b => Iff.rfl) (R.below HRC.out.1 hb2) (fun h => ?_) (heap_alloc_new _ _) ⟨HRC.out.2.1.below hb2, fun k hk h => ?_, fun h => ?_⟩
      · have := R.lt HRC.out.1 _ h; omega
      · rcases h with h | rfl
        · exact HRC.out.2.2.1 k hk h
        · have := HRC.out.2.1.foot_lt hk; omega
      · rcases h with h | e
        · exact HRC.out.2.2.2 h
        · have := HRC.out.2.1.lt; omega
    have hfr : Fr w F (w1.alloc (.cells #[.pointer (some ⟨gs, 0, none⟩), .func (.func kf) #[rc] #[], .int .i64 0] 137)) (fun b => F b ∨ b = w1.heap.size) := by
      have hb2 := hb.alloc hb.size (.cells #[.pointer (some ⟨gs, 0, none⟩), .func (.func kf) #[rc] #[], .int .i64 0] 137)
      have h0 : Fr w F (w1.alloc (.cells #[.pointer (some ⟨gs, 0, none⟩), .func (.func kf) #[rc] #[], .int .i64 0] 137)) F := Fr.of_below hb2
      exact ⟨h0.os, h0.tape, h0.output, h0.size, h0.keep, fun b hb => hb.elim .inl (fun e => .inr (by omega))⟩
    have HW := Lib.hid (And.intro ((HF.out w1.heap.size).run _ _ hW) hfr)
    clear hW hfr hb HF
    go_wp2_with fail
    ((with_reducible refine HW.out.1.mono ?_); rintro e w2 ⟨v, st, F2, rfl, hv, ha2, hf2⟩)
    obtain ⟨rfl, rfl⟩ := hv
    obtain ⟨F3, g1, g2, g3, g4, g5⟩ := resW_of R w1.heap.size gs kf rc gb ga rb rf q S ks ha2
    have c2 := cell_of_row w2 w1.heap.size 2 _ _ (0, 0) g4
    have hl2 := (Array.getElem?_eq_some_iff.1 g4).1
    have HE := Lib.hid (And.intro g1 (And.intro g2 (And.intro g5 (HW.out.2.trans hf2))))
    simp at c2
    clear ha2 hf2 g1 g2 g3 g4 g5
    go_wp2
    go_ret
    obtain ⟨g1, g2, g5, hff⟩ := HE.out
    refine ⟨_, _, F3, rfl, ⟨rfl, rfl⟩, ⟨g2, g5.1, fun k hk h => g5.2.1 k hk ((g1 k).2 (.inl h)), fun h => g5.2.2 ((g1 gs).2 (.inl h))⟩, hff.weaken (fun b h => h) (fun b h => .inl ((g1 b).2 (.inl h)))⟩
  · have hL : FwdL S X fr = [] := by unfold FwdL; rw [if_neg hin]
    rw [hL]
    clear hL ht hg hX hz1
    generalize X.size = z at HZ hin hz0 hz2
    have hend : ∀ w', Below w.heap.size w w' → (resE R gs gb ga rb rf q S ks).at_ w' F s ∧ Fr w F w' F := fun w' hb => ⟨(resE R gs gb ga rb rf q S ks).below HRC.out hb, Fr.of_below hb⟩
    have HE := Lib.hid hend
    clear hend
    rcases Int.lt_or_le fr 0 with h0 | h0
    · clear hin
      go_enter Try.func44, Try.ntmps44
      go_wp2_with fail
      ((with_reducible refine HZ.out.mono ?_); rintro e w1 ⟨rfl, hb⟩)
      have HB := Lib.hid (HE.out _ hb)
      clear hb
      go_wp2
      go_ret
      exact ⟨_, s, F, rfl, ⟨rfl, rfl⟩, HB.out.1, HB.out.2⟩
    · have h1 : z < fr := by omega
      have h0' : ¬ fr < 0 := by omega
      clear hin
      go_enter Try.func44, Try.ntmps44
      go_wp2_with fail
      ((with_reducible refine HZ.out.mono ?_); rintro e w1 ⟨rfl, hb⟩)
      have HB := Lib.hid (HE.out _ hb)
      clear hb
      go_wp2
      go_ret
      exact ⟨_, s, F, rfl, ⟨rfl, rfl⟩, HB.out.1, HB.out.2⟩

set_option maxHeartbeats 2000000 in
theorem Back_does (hw : WF ks) (hks : ks.length ≤ small) (hS : S.size ≤ 1000000) (X : T) (t fr : Int) (s : σ) (ht : Is ks t X) (hg : Rp.Good S X) (hz1 : (sz s : Int) + X.size ≤ 1000000) :
    Does Try.prog (resE R gs gb ga rb rf q S ks) 46 #[.pointer (some ⟨gs, 0, none⟩), .int .i64 t, .int .i64 fr, .func (.func kf) #[rc] #[]] s (fun v s' => v = .int .i64 (eat go s (BckL S X fr)).2.2 ∧ s' = (eat go s (BckL S X fr)).1) := by
  rintro w F ⟨hR, hC⟩
  have HZ := Lib.hid (rsize_is gs gb ga rb rf q S ks w t X ht hC.1 hks)
  have hX := T.bounds (ht.ok hw)
  have HRC := Lib.hid (And.intro hR hC)
  have hz0 : 0 ≤ X.size ∧ X.size ≤ 1000000 := by omega
  obtain ⟨hz0, hz2⟩ := hz0
  clear hR hC
  by_cases hin : 0 ≤ fr ∧ fr ≤ X.size
  · have hL : BckL S X fr = ((txt S X).take fr.toNat).reverse := by unfold BckL; rw [if_pos hin]
    rw [hL]
    obtain ⟨hf0, hf1⟩ := hin
    have HF := Lib.hid (fun bw => bck_does R bw gs kf rc gb ga rb rf q S ks go sz hkp hsz eg hdo hw hks hS X.cnt X t fr s 0 (Nat.le_refl _) ht hg ⟨by omega, by omega⟩ hz1 (by simp; omega))
    clear hL ht hg hX hz1
    generalize ((txt S X).take fr.toNat).reverse = l at HF ⊢
    generalize X.size = z at HZ hf0 hf1 hz0 hz2
    go_enter Try.func46, Try.ntmps46
    go_wp2_with fail
    ((with_reducible refine HZ.out.mono ?_); rintro e w1 ⟨rfl, hb⟩)
    have hlt1 := hb.size
    have hW : (resW R w1.heap.size gs kf rc gb ga rb rf q S ks).at_ (w1.alloc (.cells #[.pointer (some ⟨gs, 0, none⟩), .func (.func kf) #[rc] #[], .int .i64 0] 137)) (fun b => F b ∨ b = w1.heap.size) (s, 0) := by
      have hb2 := hb.alloc hb.size (.cells #[.pointer (some ⟨gs, 0, none⟩), .func (.func kf) #[rc] #[], .int .i64 0] 137)
      refine resW_mk R w1.heap.size gs kf rc gb ga rb rf q S ks (fun b => Iff.rfl) (R.below HRC.out.1 hb2) (fun h => ?_) (heap_alloc_new _ _) ⟨HRC.out.2.1.below hb2, fun k hk h => ?_, fun h => ?_⟩
      · have := R.lt HRC.out.1 _ h; omega
      · rcases h with h | rfl
        · exact HRC.out.2.2.1 k hk h
        · have := HRC.out.2.1.foot_lt hk; omega
      · rcases h with h | e
        · exact HRC.out.2.2.2 h
        · have := HRC.out.2.1.lt; omega
    have hfr : Fr w F (w1.alloc (.cells #[.pointer (some ⟨gs, 0, none⟩), .func (.func kf) #[rc] #[], .int .i64 0] 137)) (fun b => F b ∨ b = w1.heap.size) := by
      have hb2 := hb.alloc hb.size (.cells #[.pointer (some ⟨gs, 0, none⟩), .func (.func kf) #[rc] #[], .int .i64 0] 137)
      have h0 : Fr w F (w1.alloc (.cells #[.pointer (some ⟨gs, 0, none⟩), .func (.func kf) #[rc] #[], .int .i64 0] 137)) F := Fr.of_below hb2
      exact ⟨h0.os, h0.tape, h0.output, h0.size, h0.keep, fun b hb => hb.elim .inl (fun e => .inr (by omega))⟩
    have HW := Lib.hid (And.intro ((HF.out w1.heap.size).run _ _ hW) hfr)
    clear hW hfr hb HF
    go_wp2_with fail
    ((with_reducible refine HW.out.1.mono ?_); rintro e w2 ⟨v, st, F2, rfl, hv, ha2, hf2⟩)
    obtain ⟨rfl, rfl⟩ := hv
    obtain ⟨F3, g1, g2, g3, g4, g5⟩ := resW_of R w1.heap.size gs kf rc gb ga rb rf q S ks ha2
    have c2 := cell_of_row w2 w1.heap.size 2 _ _ (0, 0) g4
    have hl2 := (Array.getElem?_eq_some_iff.1 g4).1
    have HE := Lib.hid (And.intro g1 (And.intro g2 (And.intro g5 (HW.out.2.trans hf2))))
    simp at c2
    clear ha2 hf2 g1 g2 g3 g4 g5
    go_wp2
    go_ret
    obtain ⟨g1, g2, g5, hff⟩ := HE.out
    refine ⟨_, _, F3, rfl, ⟨rfl, rfl⟩, ⟨g2, g5.1, fun k hk h => g5.2.1 k hk ((g1 k).2 (.inl h)), fun h => g5.2.2 ((g1 gs).2 (.inl h))⟩, hff.weaken (fun b h => h) (fun b h => .inl ((g1 b).2 (.inl h)))⟩
  · have hL : BckL S X fr = [] := by unfold BckL; rw [if_neg hin]
    rw [hL]
    clear hL ht hg hX hz1
    generalize X.size = z at HZ hin hz0 hz2
    have hend : ∀ w', Below w.heap.size w w' → (resE R gs gb ga rb rf q S ks).at_ w' F s ∧ Fr w F w' F := fun w' hb => ⟨(resE R gs gb ga rb rf q S ks).below HRC.out hb, Fr.of_below hb⟩
    have HE := Lib.hid hend
    clear hend
    rcases Int.lt_or_le fr 0 with h0 | h0
    · clear hin
      go_enter Try.func46, Try.ntmps46
      go_wp2_with fail
      ((with_reducible refine HZ.out.mono ?_); rintro e w1 ⟨rfl, hb⟩)
      have HB := Lib.hid (HE.out _ hb)
      clear hb
      go_wp2
      go_ret
      exact ⟨_, s, F, rfl, ⟨rfl, rfl⟩, HB.out.1, HB.out.2⟩
    · have h1 : z < fr := by omega
      have h0' : ¬ fr < 0 := by omega
      clear hin
      go_enter Try.func46, Try.ntmps46
      go_wp2_with fail
      ((with_reducible refine HZ.out.mono ?_); rintro e w1 ⟨rfl, hb⟩)
      have HB := Lib.hid (HE.out _ hb)
      clear hb
      go_wp2
      go_ret
      exact ⟨_, s, F, rfl, ⟨rfl, rfl⟩, HB.out.1, HB.out.2⟩
end
end Go.Proofs.Ytkcocdpmangcgaa.Wk


/- Layer 23's document: how many bytes two texts begin, or end, with. */ -/
namespace Go.Proofs.Ytkcocdpmangcgaa.Wk
set_option linter.unusedSimpArgs false
set_option linter.unusedVariables false
open Go Go.RowKit
attribute [local go_sem] lt_add1 lt_self1 size_ne size_ne' size_ne1 size_ne1'

def cpl : List UInt8 → List UInt8 → Nat
  | x :: a, y :: b => if x = y then cpl a b + 1 else 0
  | _, _ => 0
theorem cpl_nil (a : List UInt8) : cpl a [] = 0 := by cases a <;> rfl
theorem drop_cons {l : List UInt8} {n : Nat} {x : UInt8} (h : l[n]? = some x) : l.drop n = x :: l.drop (n + 1) := by
  obtain ⟨hn, e⟩ := List.getElem?_eq_some_iff.1 h
  rw [← e]
  exact List.drop_eq_getElem_cons hn

set_option maxHeartbeats 2000000 in
theorem refCommon_any (a b : ByteArray) (ha : a.size ≤ 1000000) (hb : b.size ≤ 1000000) (w : World) : Calls Try.prog 50 #[.string a, .string b] w fun e w' => e = .returned (.int .i64 (cpl (a.data.toList) (b.data.toList) : Nat)) ∧ Below w.heap.size w w' := by
  have hla : (a.data.toList).length = a.size := by simp
  have hlb : (b.data.toList).length = b.size := by simp
  have hga : ∀ n, n < a.size → (a.data.toList)[n]? = some (a.data.toList.getD (n) 0) := by
    intro k hk
    have e : a.data.toList.length = a.size := rfl
    have e2 : a.data.size = a.size := rfl
    simp [List.getD, List.getElem?_reverse, e, e2, hk]
    try (rw [Array.getElem?_eq_getElem (by omega)]; rfl)
  have hgb : ∀ n, n < b.size → (b.data.toList)[n]? = some (b.data.toList.getD (n) 0) := by
    intro k hk
    have e : b.data.toList.length = b.size := rfl
    have e2 : b.data.size = b.size := rfl
    simp [List.getD, List.getElem?_reverse, e, e2, hk]
    try (rw [Array.getElem?_eq_getElem (by omega)]; rfl)
  have HL := Lib.hid (And.intro hla (And.intro hlb (And.intro hga hgb)))
  clear hla hlb hga hgb
  have ha' : (a.size : Int) ≤ 1000000 := by omega
  have hb' : (b.size : Int) ≤ 1000000 := by omega
  go_enter Try.func50, Try.ntmps50
  go_wp2_with fail
  go_loopw [5] (fun i wr => ∃ n : Nat, i = .int .i64 n ∧ n ≤ a.size ∧ n ≤ b.size ∧ Hid (cpl (a.data.toList) (b.data.toList) = n + cpl ((a.data.toList).drop n) ((b.data.toList).drop n) ∧ Below w.heap.size w wr)) (fun i _ => a.size - (intOf i).toNat)
  case atStart => exact ⟨0, rfl, Nat.zero_le _, Nat.zero_le _, Lib.hid ⟨by simp, Below.refl _ _⟩⟩
  case round =>
    obtain ⟨n, rfl, hna, hnb, HN⟩ := hrel
    have HEND := Lib.hid (fun (m : Nat) => HN.out.2.trans ((Below.drewN (Below.refl wr.heap.size wr) m).mono HN.out.2.size))
    by_cases h1 : n < a.size
    · have h1' : (n : Int) < a.size := by omega
      by_cases h2 : n < b.size
      · have h2' : (n : Int) < b.size := by omega
        have gA : ∀ (h : (n) < a.size), a[n] = a.data.toList.getD (n) 0 := by
          intro h
          have e : (n) < a.data.toList.length := h
          rw [List.getD, List.getElem?_eq_getElem e]
          rfl
        have gB : ∀ (h : (n) < b.size), b[n] = b.data.toList.getD (n) 0 := by
          intro h
          have e : (n) < b.data.toList.length := h
          rw [List.getD, List.getElem?_eq_getElem e]
          rfl
        have hA := HL.out.2.2.1 n h1
        have hB := HL.out.2.2.2 n h2
        have dA : (a.data.toList).drop n = a.data.toList.getD (n) 0 :: (a.data.toList).drop (n + 1) := drop_cons hA
        have dB : (b.data.toList).drop n = b.data.toList.getD (n) 0 :: (b.data.toList).drop (n + 1) := drop_cons hB
        have HD := Lib.hid (And.intro dA dB)
        clear hA hB dA dB
        generalize a.data.toList.getD (n) 0 = x at gA HD
        generalize b.data.toList.getD (n) 0 = y at gB HD
        by_cases hxy : x = y
        · subst hxy
          go_upto_region 2 with fail
          go_quiet (fail)
          go_wp2
          go_roundw
          case rel =>
            refine ⟨n + 1, by go_num, by omega, by omega, Lib.hid ⟨?_, HEND.out nq⟩⟩
            rw [HN.out.1, HD.out.1, HD.out.2]
            simp [cpl]
            omega
          case measure => simp [intOf]; omega
        · have hne : ((x.toNat : Int) == (y.toNat : Int)) = false := by
            simp
            intro e
            exact hxy (UInt8.toNat_inj.1 (by omega))
          go_upto_region 2 with fail
          go_quiet (fail)
          go_wp2
          go_ret
          refine ⟨?_, HEND.out nq⟩
          rw [HN.out.1, HD.out.1, HD.out.2]
          simp [cpl, hxy]
      · have h2' : decide ((n : Int) < b.size) = false := by simp; omega
        have h2'' : ¬ (n : Int) < b.size := by omega
        go_upto_region 2 with fail
        go_quiet (fail)
        go_wp2
        go_ret
        refine ⟨?_, HEND.out nq⟩
        rw [HN.out.1, (show (b.data.toList).drop n = [] from List.drop_eq_nil_of_le (by rw [HL.out.2.1]; omega))]
        simp [cpl_nil]
    · have h1' : decide ((n : Int) < a.size) = false := by simp; omega
      have h1'' : ¬ (n : Int) < a.size := by omega
      go_upto_region 2 with fail
      go_quiet (fail)
      go_wp2
      go_ret
      refine ⟨?_, HEND.out nq⟩
      rw [HN.out.1, (show (a.data.toList).drop n = [] from List.drop_eq_nil_of_le (by rw [HL.out.1]; omega))]
      simp [cpl]

set_option maxHeartbeats 2000000 in
theorem refCommonBack_any (a b : ByteArray) (ha : a.size ≤ 1000000) (hb : b.size ≤ 1000000) (w : World) : Calls Try.prog 52 #[.string a, .string b] w fun e w' => e = .returned (.int .i64 (cpl (a.data.toList.reverse) (b.data.toList.reverse) : Nat)) ∧ Below w.heap.size w w' := by
  have hla : (a.data.toList.reverse).length = a.size := by simp
  have hlb : (b.data.toList.reverse).length = b.size := by simp
  have hga : ∀ n, n < a.size → (a.data.toList.reverse)[n]? = some (a.data.toList.getD (a.size - 1 - n) 0) := by
    intro k hk
    have e : a.data.toList.length = a.size := rfl
    have e2 : a.data.size = a.size := rfl
    simp [List.getD, List.getElem?_reverse, e, e2, hk]
    try (rw [Array.getElem?_eq_getElem (by omega)]; rfl)
  have hgb : ∀ n, n < b.size → (b.data.toList.reverse)[n]? = some (b.data.toList.getD (b.size - 1 - n) 0) := by
    intro k hk
    have e : b.data.toList.length = b.size := rfl
    have e2 : b.data.size = b.size := rfl
    simp [List.getD, List.getElem?_reverse, e, e2, hk]
    try (rw [Array.getElem?_eq_getElem (by omega)]; rfl)
  have HL := Lib.hid (And.intro hla (And.intro hlb (And.intro hga hgb)))
  clear hla hlb hga hgb
  have ha' : (a.size : Int) ≤ 1000000 := by omega
  have hb' : (b.size : Int) ≤ 1000000 := by omega
  go_enter Try.func52, Try.ntmps52
  go_wp2_with fail
  go_loopw [5] (fun i wr => ∃ n : Nat, i = .int .i64 n ∧ n ≤ a.size ∧ n ≤ b.size ∧ Hid (cpl (a.data.toList.reverse) (b.data.toList.reverse) = n + cpl ((a.data.toList.reverse).drop n) ((b.data.toList.reverse).drop n) ∧ Below w.heap.size w wr)) (fun i _ => a.size - (intOf i).toNat)
  case atStart => exact ⟨0, rfl, Nat.zero_le _, Nat.zero_le _, Lib.hid ⟨by simp, Below.refl _ _⟩⟩
  case round =>
    obtain ⟨n, rfl, hna, hnb, HN⟩ := hrel
    have HEND := Lib.hid (fun (m : Nat) => HN.out.2.trans ((Below.drewN (Below.refl wr.heap.size wr) m).mono HN.out.2.size))
    by_cases h1 : n < a.size
    · have h1' : (n : Int) < a.size := by omega
      by_cases h2 : n < b.size
      · have h2' : (n : Int) < b.size := by omega
        have gA : ∀ (h : (a.size - 1 - n) < a.size), a[a.size - 1 - n] = a.data.toList.getD (a.size - 1 - n) 0 := by
          intro h
          have e : (a.size - 1 - n) < a.data.toList.length := h
          rw [List.getD, List.getElem?_eq_getElem e]
          rfl
        have gB : ∀ (h : (b.size - 1 - n) < b.size), b[b.size - 1 - n] = b.data.toList.getD (b.size - 1 - n) 0 := by
          intro h
          have e : (b.size - 1 - n) < b.data.toList.length := h
          rw [List.getD, List.getElem?_eq_getElem e]
          rfl
        have hA := HL.out.2.2.1 n h1
        have hB := HL.out.2.2.2 n h2
        have dA : (a.data.toList.reverse).drop n = a.data.toList.getD (a.size - 1 - n) 0 :: (a.data.toList.reverse).drop (n + 1) := drop_cons hA
        have dB : (b.data.toList.reverse).drop n = b.data.toList.getD (b.size - 1 - n) 0 :: (b.data.toList.reverse).drop (n + 1) := drop_cons hB
        have HD := Lib.hid (And.intro dA dB)
        clear hA hB dA dB
        generalize a.data.toList.getD (a.size - 1 - n) 0 = x at gA HD
        generalize b.data.toList.getD (b.size - 1 - n) 0 = y at gB HD
        by_cases hxy : x = y
        · subst hxy
          go_upto_region 2 with fail
          go_quiet (fail)
          go_wp2
          go_roundw
          case rel =>
            refine ⟨n + 1, by go_num, by omega, by omega, Lib.hid ⟨?_, HEND.out nq⟩⟩
            rw [HN.out.1, HD.out.1, HD.out.2]
            simp [cpl]
            omega
          case measure => simp [intOf]; omega
        · have hne : ((x.toNat : Int) == (y.toNat : Int)) = false := by
            simp
            intro e
            exact hxy (UInt8.toNat_inj.1 (by omega))
          go_upto_region 2 with fail
          go_quiet (fail)
          go_wp2
          go_ret
          refine ⟨?_, HEND.out nq⟩
          rw [HN.out.1, HD.out.1, HD.out.2]
          simp [cpl, hxy]
      · have h2' : decide ((n : Int) < b.size) = false := by simp; omega
        have h2'' : ¬ (n : Int) < b.size := by omega
        go_upto_region 2 with fail
        go_quiet (fail)
        go_wp2
        go_ret
        refine ⟨?_, HEND.out nq⟩
        rw [HN.out.1, (show (b.data.toList.reverse).drop n = [] from List.drop_eq_nil_of_le (by rw [HL.out.2.1]; omega))]
        simp [cpl_nil]
    · have h1' : decide ((n : Int) < a.size) = false := by simp; omega
      have h1'' : ¬ (n : Int) < a.size := by omega
      go_upto_region 2 with fail
      go_quiet (fail)
      go_wp2
      go_ret
      refine ⟨?_, HEND.out nq⟩
      rw [HN.out.1, (show (a.data.toList.reverse).drop n = [] from List.drop_eq_nil_of_le (by rw [HL.out.1]; omega))]
      simp [cpl]
end Go.Proofs.Ytkcocdpmangcgaa.Wk


/- Layer 23: how many bytes two ropes begin, or end, with. */ -/
namespace Go.Proofs.Ytkcocdpmangcgaa.Wk
set_option linter.unusedSimpArgs false
set_option linter.unusedVariables false
open Go Go.RowKit Go.Proofs.Ytkcocdpmangcgaa.Rp
open Go.Proofs.Ytkcocdpmangcgaa.Ar (T Is Ext WF Knot getK getB getS Arena resAr small leafK T.cnt T.cnt_pos)
attribute [local go_sem] lt_add1 lt_self1 size_ne size_ne' size_ne1 size_ne1'
attribute [local irreducible] wpGrow wpThr

/-- a rope's text; of what is no rope: nothing. -/
def Rd (S : ByteArray) (ks : List Knot) (t : Int) (l : List UInt8) : Prop := (∃ X, Is ks t X ∧ Rp.Good S X ∧ X.size ≤ 900 ∧ txt S X = l) ∨ ((t < 0 ∨ (ks.length : Int) < t) ∧ l = [])
theorem Rd.len {S : ByteArray} {ks : List Knot} {t : Int} {l : List UInt8} (h : Rd S ks t l) : l.length ≤ 900 := by
  rcases h with ⟨X, h1, h2, h3, rfl⟩ | ⟨_, rfl⟩
  · have := txt_length h2; omega
  · simp
theorem Rd.size {S : ByteArray} {ks : List Knot} {t : Int} {l : List UInt8} (h : Rd S ks t l) (gs gb ga : Nat) (rb rf q : Option Nat) (hks : ks.length ≤ small) : ∃ c : Int, ∀ w, St w gs gb ga rb rf q S ks →
    Calls Try.prog 40 #[.pointer (some ⟨gs, 0, none⟩), .int .i64 t] w fun e w' => e = .returned (.tuple #[.int .i64 l.length, .int .i64 c]) ∧ Below w.heap.size w w' := by
  rcases h with ⟨X, h1, h2, h3, rfl⟩ | ⟨h1, rfl⟩
  · exact ⟨0, fun w hw => by rw [txt_length h2]; exact rsize_is gs gb ga rb rf q S ks w t X h1 hw hks⟩
  · exact ⟨7, fun w hw => rsize_none gs gb ga rb rf q S ks w t h1 hw hks⟩
theorem eat_keep : ∀ (l a : List UInt8) (n : Nat), eat goKeep (a, n) l = ((a ++ l, n), true, l.length)
  | [], a, n => by simp [eat]
  | c :: l, a, n => by
    simp only [eat, goKeep, if_true]
    rw [eat_keep l (a ++ [c]) n]
    simp
theorem eat_like : ∀ (l a : List UInt8) (n : Nat), n ≤ a.length → (eat goLike (a, n) l).1 = (a, n + cpl (a.drop n) l)
  | [], a, n, _ => by simp [eat, cpl_nil]
  | c :: l, a, n, hn => by
    simp only [eat, goLike]
    by_cases h : n < a.length
    · rw [List.getElem?_eq_getElem h, List.drop_eq_getElem_cons h]
      by_cases e : a[n] = c
      · simp only [e, if_true]
        rw [eat_like l a (n + 1) (by omega)]
        simp [cpl]
        omega
      · simp [e, cpl]
    · rw [List.getElem?_eq_none (by omega), List.drop_eq_nil_of_le (by omega)]
      simp [cpl]
theorem keep_eg : ∀ args w, (callFunc 84 args).run Try.prog w = .ok (.enter 84 args) w := enters_of Try.func84 (by kernel_rfl) rfl
theorem like_eg : ∀ args w, (callFunc 85 args).run Try.prog w = .ok (.enter 85 args) w := enters_of Try.func85 (by kernel_rfl) rfl

section
variable {σ : Type} (R : Res σ) (gs kf : Nat) (rc : Value) (gb ga : Nat) (rb rf q : Option Nat) (S : ByteArray) (ks : List Knot)
variable (go : σ → UInt8 → σ × Bool) (sz : σ → Nat) (hkp : Keeps R) (hsz : ∀ s c, sz (go s c).1 ≤ sz s + 1) (eg : ∀ args w, (callFunc kf args).run Try.prog w = .ok (.enter kf args) w)
  (hdo : ∀ s c, sz s + 1 ≤ 1000000 → Does Try.prog R kf #[rc, .int .u8 (c : UInt8).toNat] s (fun v s' => v = .bool (go s c).2 ∧ s' = (go s c).1))
include hkp hsz eg hdo

theorem Rd_Forward (hw : WF ks) (hks : ks.length ≤ small) (hS : S.size ≤ 1000000) (t : Int) (l : List UInt8) (h : Rd S ks t l) (s : σ) (hz : sz s + l.length ≤ 1000000) :
    Does Try.prog (resE R gs gb ga rb rf q S ks) 44 #[.pointer (some ⟨gs, 0, none⟩), .int .i64 t, .int .i64 0, .func (.func kf) #[rc] #[]] s (fun v s' => v = .int .i64 (eat go s (l)).2.2 ∧ s' = (eat go s (l)).1) := by
  rcases h with ⟨X, h1, h2, h3, rfl⟩ | ⟨h1, rfl⟩
  · have hl := txt_length h2
    have hX := T.bounds (h1.ok hw)
    have := Forward_does R gs kf rc gb ga rb rf q S ks go sz hkp hsz eg hdo hw hks hS X t 0 s h1 h2 (by omega)
    have e : FwdL S X 0 = txt S X := by
      unfold FwdL
      rw [if_pos (by omega)]
      rfl
    rwa [e] at this
  · rintro w F ⟨hR, hC⟩
    refine (Forward_err w _ t 0 _ 7 _ (by decide) (rsize_none gs gb ga rb rf q S ks w t h1 hC.1 hks)).mono ?_
    rintro e w' ⟨rfl, hb⟩
    exact ⟨_, s, F, rfl, ⟨rfl, rfl⟩, (resE R gs gb ga rb rf q S ks).below ⟨hR, hC⟩ hb, Fr.of_below hb⟩

theorem Rd_Back (hw : WF ks) (hks : ks.length ≤ small) (hS : S.size ≤ 1000000) (t : Int) (l : List UInt8) (h : Rd S ks t l) (s : σ) (hz : sz s + l.length ≤ 1000000) :
    Does Try.prog (resE R gs gb ga rb rf q S ks) 46 #[.pointer (some ⟨gs, 0, none⟩), .int .i64 t, .int .i64 l.length, .func (.func kf) #[rc] #[]] s (fun v s' => v = .int .i64 (eat go s (l.reverse)).2.2 ∧ s' = (eat go s (l.reverse)).1) := by
  rcases h with ⟨X, h1, h2, h3, rfl⟩ | ⟨h1, rfl⟩
  · have hl := txt_length h2
    have hX := T.bounds (h1.ok hw)
    have := Back_does R gs kf rc gb ga rb rf q S ks go sz hkp hsz eg hdo hw hks hS X t (txt S X).length s h1 h2 (by omega)
    have e : BckL S X (txt S X).length = (txt S X).reverse := by
      unfold BckL
      rw [if_pos (by omega)]
      rw [List.take_of_length_le (by omega)]
    rwa [e] at this
  · rintro w F ⟨hR, hC⟩
    refine (Back_err w _ t _ _ 7 _ (by decide) (rsize_none gs gb ga rb rf q S ks w t h1 hC.1 hks)).mono ?_
    rintro e w' ⟨rfl, hb⟩
    exact ⟨_, s, F, rfl, ⟨rfl, rfl⟩, (resE R gs gb ga rb rf q S ks).below ⟨hR, hC⟩ hb, Fr.of_below hb⟩
end

section
variable (gs gb ga : Nat) (rb rf q : Option Nat) (S : ByteArray) (ks : List Knot)
theorem meter_start (w : World) (h : St w gs gb ga rb rf q S ks) : (resE (resSI 143 w.heap.size) gs gb ga rb rf q S ks).at_ (w.alloc (.cells #[.slice none 0 0, .int .i64 0] 143)) (fun b => b = w.heap.size) ([], 0) ∧ True := by
  have hb : Below w.heap.size w (w.alloc (.cells #[.slice none 0 0, .int .i64 0] 143)) := (Below.refl _ _).alloc (Nat.le_refl _) _
  refine ⟨⟨⟨.slice none 0 0, fun b => by simp [Value.ownBlock], by simp [Value.ownBlock], heap_alloc_new _ _, World.ownsRow_nil _ _ _ _⟩, h.below hb, fun k hk e => ?_, fun e => ?_⟩, trivial⟩
  · have := h.foot_lt hk; omega
  · have := h.lt; omega

set_option maxHeartbeats 2000000 in
theorem Common_any (t u : Int) (l1 l2 : List UInt8) (h1 : Rd S ks t l1) (h2 : Rd S ks u l2) (w : World) (h : St w gs gb ga rb rf q S ks) (hw : WF ks) (hks : ks.length ≤ small) (hS : S.size ≤ 1000000) :
    Calls Try.prog 49 #[.pointer (some ⟨gs, 0, none⟩), .int .i64 t, .int .i64 u] w fun e w' => e = .returned (.int .i64 (cpl (l1) (l2) : Nat)) ∧ Below w.heap.size w w' := by
  have hW := meter_start gs gb ga rb rf q S ks w h
  have hl1 := h1.len
  have hl2 := h2.len
  have hf1 : Does Try.prog (resE (resSI 143 w.heap.size) gs gb ga rb rf q S ks) 44 #[.pointer (some ⟨gs, 0, none⟩), .int .i64 t, .int .i64 0, .func (.func 84) #[.pointer (some ⟨w.heap.size, 0, none⟩)] #[]] ([], 0) (fun v s' => s' = (l1, 0)) :=
    (Rd_Forward (resSI 143 w.heap.size) gs 84 (.pointer (some ⟨w.heap.size, 0, none⟩)) gb ga rb rf q S ks goKeep (fun s => s.1.length) (keepsSI _ _) (fun s c => by simp [goKeep]) keep_eg (fun s c hs => keep_does w.heap.size s c hs) hw hks hS t l1 h1 ([], 0) (by simp; omega)).mono (fun v s' h => by rw [h.2, eat_keep]; simp)
  have hf2 : Does Try.prog (resE (resSI 143 w.heap.size) gs gb ga rb rf q S ks) 44 #[.pointer (some ⟨gs, 0, none⟩), .int .i64 u, .int .i64 0, .func (.func 85) #[.pointer (some ⟨w.heap.size, 0, none⟩)] #[]] (l1, 0) (fun v s' => s' = (l1, cpl (l1) (l2))) :=
    (Rd_Forward (resSI 143 w.heap.size) gs 85 (.pointer (some ⟨w.heap.size, 0, none⟩)) gb ga rb rf q S ks goLike (fun s => s.1.length) (keepsSI _ _) (fun s c => by unfold goLike; split <;> simp) like_eg (fun s c hs => like_does w.heap.size s c (by omega)) hw hks hS u l2 h2 (l1, 0) (by simp; omega)).mono (fun v s' h => by rw [h.2, eat_like _ _ _ (Nat.zero_le _)]; simp)
  have HF1 := Lib.hid hf1
  have HF2 := Lib.hid hf2
  obtain ⟨c1, hz1⟩ := h1.size gs gb ga rb rf q hks
  obtain ⟨c2, hz2⟩ := h2.size gs gb ga rb rf q hks
  have HSZ := Lib.hid (And.intro (fun w' (hb : Below (w.alloc (.cells #[.slice none 0 0, .int .i64 0] 143)).heap.size (w.alloc (.cells #[.slice none 0 0, .int .i64 0] 143)) w') => hz1 w' (hW.1.2.1.below hb)) (fun w' (hb : Below (w.alloc (.cells #[.slice none 0 0, .int .i64 0] 143)).heap.size (w.alloc (.cells #[.slice none 0 0, .int .i64 0] 143)) w') => hz2 w' (hW.1.2.1.below hb)))
  have HW := Lib.hid hW
  clear hW hf1 hf2 h h1 h2 hl1 hl2 hz1 hz2
  go_enter Try.func49, Try.ntmps49
  go_wp2_with fail
  have HB2 := Lib.hid (Below.refl (w.alloc (.cells #[.slice none 0 0, .int .i64 0] 143)).heap.size (w.alloc (.cells #[.slice none 0 0, .int .i64 0] 143)))
  have HW2 := Lib.hid HW.out.1
  ((with_reducible refine (HF1.out.run _ _ HW2.out).mono ?_); rintro e w3 ⟨v3, s3, F3, rfl, rfl, ha3, hf3⟩)
  have H3 := Lib.hid (And.intro ha3 ((Fr.of_below HB2.out : Fr _ (fun b => b = w.heap.size) _ _).trans hf3))
  clear ha3 hf3
  go_wp2_with fail
  ((with_reducible refine (HF2.out.run _ _ H3.out.1).mono ?_); rintro e w4 ⟨v4, s4, F4, rfl, rfl, ha4, hf4⟩)
  have hfin : Below w.heap.size w w4 := by
    have hf := H3.out.2.trans hf4
    refine hf.below ((Below.refl w.heap.size w).alloc (Nat.le_refl _) _) (fun b hb => by rw [hb]; exact Nat.le_refl _) (by simp)
  obtain ⟨v, _, _, g3, _⟩ := resSI_of ha4.1
  have c1 := cell_of_row w4 w.heap.size 1 _ _ (0, 0) g3
  have hl4 := (Array.getElem?_eq_some_iff.1 g3).1
  simp only [List.getElem?_toArray, List.getElem?_cons_zero, List.getElem?_cons_succ] at c1
  have HFI := Lib.hid hfin
  clear ha4 hf4 hfin g3
  go_wp2
  go_ret
  exact ⟨rfl, HFI.out⟩

set_option maxHeartbeats 2000000 in
theorem CommonBack_any (t u : Int) (l1 l2 : List UInt8) (h1 : Rd S ks t l1) (h2 : Rd S ks u l2) (w : World) (h : St w gs gb ga rb rf q S ks) (hw : WF ks) (hks : ks.length ≤ small) (hS : S.size ≤ 1000000) :
    Calls Try.prog 51 #[.pointer (some ⟨gs, 0, none⟩), .int .i64 t, .int .i64 u] w fun e w' => e = .returned (.int .i64 (cpl (l1.reverse) (l2.reverse) : Nat)) ∧ Below w.heap.size w w' := by
  have hW := meter_start gs gb ga rb rf q S ks w h
  have hl1 := h1.len
  have hl2 := h2.len
  have hf1 : Does Try.prog (resE (resSI 143 w.heap.size) gs gb ga rb rf q S ks) 46 #[.pointer (some ⟨gs, 0, none⟩), .int .i64 t, .int .i64 l1.length, .func (.func 84) #[.pointer (some ⟨w.heap.size, 0, none⟩)] #[]] ([], 0) (fun v s' => s' = (l1.reverse, 0)) :=
    (Rd_Back (resSI 143 w.heap.size) gs 84 (.pointer (some ⟨w.heap.size, 0, none⟩)) gb ga rb rf q S ks goKeep (fun s => s.1.length) (keepsSI _ _) (fun s c => by simp [goKeep]) keep_eg (fun s c hs => keep_does w.heap.size s c hs) hw hks hS t l1 h1 ([], 0) (by simp; omega)).mono (fun v s' h => by rw [h.2, eat_keep]; simp)
  have hf2 : Does Try.prog (resE (resSI 143 w.heap.size) gs gb ga rb rf q S ks) 46 #[.pointer (some ⟨gs, 0, none⟩), .int .i64 u, .int .i64 l2.length, .func (.func 85) #[.pointer (some ⟨w.heap.size, 0, none⟩)] #[]] (l1.reverse, 0) (fun v s' => s' = (l1.reverse, cpl (l1.reverse) (l2.reverse))) :=
    (Rd_Back (resSI 143 w.heap.size) gs 85 (.pointer (some ⟨w.heap.size, 0, none⟩)) gb ga rb rf q S ks goLike (fun s => s.1.length) (keepsSI _ _) (fun s c => by unfold goLike; split <;> simp) like_eg (fun s c hs => like_does w.heap.size s c (by omega)) hw hks hS u l2 h2 (l1.reverse, 0) (by simp; omega)).mono (fun v s' h => by rw [h.2, eat_like _ _ _ (Nat.zero_le _)]; simp)
  have HF1 := Lib.hid hf1
  have HF2 := Lib.hid hf2
  obtain ⟨c1, hz1⟩ := h1.size gs gb ga rb rf q hks
  obtain ⟨c2, hz2⟩ := h2.size gs gb ga rb rf q hks
  have HSZ := Lib.hid (And.intro (fun w' (hb : Below (w.alloc (.cells #[.slice none 0 0, .int .i64 0] 143)).heap.size (w.alloc (.cells #[.slice none 0 0, .int .i64 0] 143)) w') => hz1 w' (hW.1.2.1.below hb)) (fun w' (hb : Below (w.alloc (.cells #[.slice none 0 0, .int .i64 0] 143)).heap.size (w.alloc (.cells #[.slice none 0 0, .int .i64 0] 143)) w') => hz2 w' (hW.1.2.1.below hb)))
  have HW := Lib.hid hW
  clear hW hf1 hf2 h h1 h2 hl1 hl2 hz1 hz2
  go_enter Try.func51, Try.ntmps51
  go_wp2_with fail
  ((with_reducible refine (HSZ.out.1 _ (Below.refl _ _)).mono ?_); rintro e w1 ⟨rfl, hb1⟩)
  have HB1 := Lib.hid hb1
  clear hb1
  go_wp2_with fail
  ((with_reducible refine (HSZ.out.2 _ HB1.out).mono ?_); rintro e w2 ⟨rfl, hb2⟩)
  have HB2 := Lib.hid (HB1.out.trans (hb2.mono HB1.out.size))
  clear hb2
  have HW2 := Lib.hid ((resE (resSI 143 w.heap.size) gs gb ga rb rf q S ks).below HW.out.1 HB2.out)
  go_wp2_with fail
  ((with_reducible refine (HF1.out.run _ _ HW2.out).mono ?_); rintro e w3 ⟨v3, s3, F3, rfl, rfl, ha3, hf3⟩)
  have H3 := Lib.hid (And.intro ha3 ((Fr.of_below HB2.out : Fr _ (fun b => b = w.heap.size) _ _).trans hf3))
  clear ha3 hf3
  go_wp2_with fail
  ((with_reducible refine (HF2.out.run _ _ H3.out.1).mono ?_); rintro e w4 ⟨v4, s4, F4, rfl, rfl, ha4, hf4⟩)
  have hfin : Below w.heap.size w w4 := by
    have hf := H3.out.2.trans hf4
    refine hf.below ((Below.refl w.heap.size w).alloc (Nat.le_refl _) _) (fun b hb => by rw [hb]; exact Nat.le_refl _) (by simp)
  obtain ⟨v, _, _, g3, _⟩ := resSI_of ha4.1
  have c1 := cell_of_row w4 w.heap.size 1 _ _ (0, 0) g3
  have hl4 := (Array.getElem?_eq_some_iff.1 g3).1
  simp only [List.getElem?_toArray, List.getElem?_cons_zero, List.getElem?_cons_succ] at c1
  have HFI := Lib.hid hfin
  clear ha4 hf4 hfin g3
  go_wp2
  go_ret
  exact ⟨rfl, HFI.out⟩
end
end Go.Proofs.Ytkcocdpmangcgaa.Wk


/- Layer 23: the pieces of a rope. */ -/
namespace Go.Proofs.Ytkcocdpmangcgaa.Wk
set_option linter.unusedSimpArgs false
set_option linter.unusedVariables false
open Go Go.RowKit Go.Proofs.Ytkcocdpmangcgaa.Rp
open Go.Proofs.Ytkcocdpmangcgaa.Ar (T Is Ext WF Knot getK getB getS Arena resAr small leafK T.cnt T.cnt_pos Pc pcells pieces pieces_len pieces_node Owns stOwn stTwo stRead thr_append_next LeavesP)
attribute [local go_sem] lt_add1 lt_self1 size_ne size_ne' size_ne1 size_ne1'
attribute [local irreducible] wpGrow wpThr

theorem rpieces_nil (t : Int) (w : World) : Calls Try.prog 47 #[.pointer none, .int .i64 t] w fun e w' => e = .returned (.slice none 0 0) ∧ Below w.heap.size w w' := by
  have hk := rknot_nil w t
  unfold Knot.val at hk
  have HK := Lib.hid hk
  clear hk
  go_enter Try.func47, Try.ntmps47
  go_wp2_with fail
  ((with_reducible refine HK.out.mono ?_); rintro e w1 ⟨rfl, hb1⟩)
  have HB := Lib.hid (hb1.alloc hb1.size (.cells #[.int .i64 Knot.zero.left, .int .i64 Knot.zero.right, .int .i64 Knot.zero.off, .int .i64 Knot.zero.len, .int .i64 Knot.zero.high, .int .i64 Knot.zero.leaves, .int .i64 Knot.zero.feeds] 66))
  clear hb1
  go_wp2
  go_ret
  exact ⟨rfl, HB.out⟩

section
variable (gs gb ga : Nat) (rb rf q : Option Nat) (S : ByteArray) (ks : List Knot)
set_option maxHeartbeats 1000000 in
theorem rpieces_none (t : Int) (ht : getB ks t = false) (w : World) (h : St w gs gb ga rb rf q S ks) (hks : ks.length ≤ small) : Calls Try.prog 47 #[.pointer (some ⟨gs, 0, none⟩), .int .i64 t] w fun e w' => e = .returned (.slice none 0 0) ∧ Below w.heap.size w w' := by
  have G := Lib.hid (rknot_any gs gb ga rb rf q S ks w t h hks)
  rw [ht] at G
  unfold Knot.val at G
  generalize getK ks t = k at G
  clear h
  go_enter Try.func47, Try.ntmps47
  go_wp2_with fail
  ((with_reducible refine G.out.mono ?_); rintro e w1 ⟨rfl, hb1⟩)
  have HB := Lib.hid (hb1.alloc hb1.size (.cells #[.int .i64 k.left, .int .i64 k.right, .int .i64 k.off, .int .i64 k.len, .int .i64 k.high, .int .i64 k.leaves, .int .i64 k.feeds] 66))
  clear hb1
  go_wp2
  go_ret
  exact ⟨rfl, HB.out⟩

set_option maxRecDepth 100000 in
set_option maxHeartbeats 4000000 in
theorem rpieces_any (hw : WF ks) (hks : ks.length ≤ small) : ∀ (n : Nat) (X : T) (t : Int), X.cnt ≤ n → Is ks t X → X.many ≤ 1000000 → ∀ w, St w gs gb ga rb rf q S ks →
    Calls Try.prog 47 #[.pointer (some ⟨gs, 0, none⟩), .int .i64 t] w (LeavesP w (pieces X)) := by
  intro n
  induction n with
  | zero => intro X t hc; have := T.cnt_pos X; omega
  | succ n ih =>
  intro X t hc ht hma w h
  have G := Lib.hid (rknot_any gs gb ga rb rf q S ks w t h hks)
  unfold Knot.val at G
  have HH := Lib.hid (And.intro hc h)
  have IH := Lib.hid ih
  clear hc h ih
  cases X with
  | nil =>
    obtain rfl := ht.nil_
    exact (rpieces_none gs gb ga rb rf q S ks 0 (by simp [getB, getS]) w HH.out.2 hks).mono fun e w' ⟨h1, h2⟩ => ⟨_, h1, World.ownsRow_nil _ _ _ _, h2⟩
  | leaf o l f =>
    obtain ⟨gk, gbt, _⟩ := ht.leaf_
    rw [gk, gbt] at G
    unfold leafK at G
    simp only at G
    clear gk gbt ht
    go_enter Try.func47, Try.ntmps47
    go_wp2_with fail
    ((with_reducible refine G.out.mono ?_); rintro e w1 ⟨rfl, hb1⟩)
    have hb2 := hb1.alloc hb1.size (.cells #[.int .i64 0, .int .i64 0, .int .i64 o, .int .i64 l, .int .i64 1, .int .i64 1, .int .i64 f] 66)
    have HB := Lib.hid hb2
    clear hb1 hb2
    go_wp2
    go_ret
    refine ⟨.slice (some ⟨w1.heap.size + 1, 0, none⟩) 1 1, rfl, ?_, ?_⟩
    · have hz := HB.out.size
      simp only [World.size_alloc] at hz
      refine ⟨rfl, .inr ⟨w1.heap.size + 1, 1, #[.int .i64 o, .int .i64 l], rfl, by omega, ?_, by simp [pieces, T.lv], by unfold maxLen; omega, rfl, rfl⟩⟩
      have e : w1.heap.size + 1 = (w1.alloc (.cells #[.int .i64 0, .int .i64 0, .int .i64 o, .int .i64 l, .int .i64 1, .int .i64 1, .int .i64 f] 66)).heap.size := by simp
      rw [e]
      exact heap_alloc_new _ _
    · exact HB.out.alloc HB.out.size _
  | node A B =>
    obtain ⟨la, lb, e1, e2, hI1, hI2, gbt, _, _, _, gk⟩ := ht.node_
    have okN := ht.ok hw
    simp only [T.ok] at okN
    have bl := T.bounds okN.1
    have br := T.bounds okN.2.1
    have hcn := HH.out.1
    simp only [T.cnt] at hcn
    simp only [T.many] at hma
    rw [gk, gbt] at G
    simp only at G
    have hla0 : (la == 0) = false := by simp; omega
    have IL := Lib.hid (IH.out A la (by omega) hI1 (by omega))
    have IR := Lib.hid (IH.out B lb (by omega) hI2 (by omega))
    have hln : 0 < (pieces A).length ∧ (pieces A).length ≤ 1000000 := by rw [pieces_len]; have := Ar.T.many_lv A; have := okN.2.2.1; omega
    have hrn : 0 < (pieces B).length ∧ (pieces B).length ≤ 1000000 := by rw [pieces_len]; have := Ar.T.many_lv B; have := okN.2.2.2.1; omega
    have HLN := Lib.hid (And.intro hln hrn)
    generalize A.size + B.size = z1 at G
    generalize 1 + max A.high B.high = z2 at G
    generalize A.many + B.many = z3 at G
    generalize A.feeds + B.feeds = z4 at G
    clear ht IH okN hI1 hI2 bl br hln hrn gk gbt hcn hma
    rw [pieces_node]
    generalize pieces A = pL at IL HLN ⊢
    generalize pieces B = pR at IR HLN ⊢
    go_enter Try.func47, Try.ntmps47
    go_wp2_with fail
    ((with_reducible refine G.out.mono ?_); rintro e w1 ⟨rfl, hb1⟩)
    have hbk := hb1.alloc hb1.size (.cells #[.int .i64 la, .int .i64 lb, .int .i64 0, .int .i64 z1, .int .i64 z2, .int .i64 z3, .int .i64 z4] 66)
    have hk0 : (w1.alloc (.cells #[.int .i64 la, .int .i64 lb, .int .i64 0, .int .i64 z1, .int .i64 z2, .int .i64 z3, .int .i64 z4] 66)).heap[w1.heap.size]? = some (.cells #[.int .i64 la, .int .i64 lb, .int .i64 0, .int .i64 z1, .int .i64 z2, .int .i64 z3, .int .i64 z4] 66 (0, 0)) := heap_alloc_new _ _
    have HB := Lib.hid (And.intro hbk (And.intro hk0 (HH.out.2.below hbk)))
    go_upto_region 6 with fail
    clear hb1 hbk hk0
    generalize w1.alloc (.cells #[.int .i64 la, .int .i64 lb, .int .i64 0, .int .i64 z1, .int .i64 z2, .int .i64 z3, .int .i64 z4] 66) = W at HB ⊢
    generalize w1.heap.size = bk at HB ⊢
    have hbw : bk < W.heap.size := (Array.getElem?_eq_some_iff.1 HB.out.2.1).1
    have HR : Hid (∀ s bs w1, (resCls resAny W (fun _ => False)).In s bs w1 → w1.cell? ⟨bk, 0, none⟩ = some (.int .i64 la) ∧ w1.cell? ⟨bk, 1, none⟩ = some (.int .i64 lb)) := Lib.hid (fun s bs w1 hw1 =>
      ⟨(resCls_cell hw1 hbw id 0).trans (cell_of_row W bk 0 _ _ (0, 0) HB.out.2.1), (resCls_cell hw1 hbw id 1).trans (cell_of_row W bk 1 _ _ (0, 0) HB.out.2.1)⟩)
    refine wp_region_thr (resCls resAny W (fun _ => False)) (PSt.of (fun _ => True) (fun _ _ => trivial)) 10 [0, 1, 2, 4, 5, 6, 3, 7, 8, 9] _ (by kernel_rfl) (by kernel_rfl) (by kernel_rfl) rfl (resCls_start (R := resAny) (s := PSt.of (fun _ => True) (fun _ _ => trivial)) ⟨fun b h => h, trivial⟩) ?_
    (simp only [List.filterMap_cons, List.filterMap_nil, List.getElem?_cons_zero, List.getElem?_cons_succ, List.drop_succ_cons, List.drop_zero, List.drop_nil])
    iterate 6 ((refine wpThr_val rfl rfl rfl ?_; apply Exists.intro; refine ⟨fun s1 bs1 w1 hb1 hw1 => ?_, ?_⟩); (have hc1 := HR.out s1 bs1 w1 hw1; go_simp; exact growUpon_ok rfl); (refine wpThr_at (by (simp only [Act.put, List.setIfInBounds_toArray, List.set_cons_succ, List.set_cons_zero]) <;> exact rfl) ?_))
    refine wpThr_call (fun v s' => s' = stOwn W.heap.size v pL) rfl rfl rfl ?_ ?_
    · intro bs1 w1 hb1 hw1
      go_simp
      refine resCls_run hw1 fun F ha hf => ?_
      have hbel := resCls_below (fun _ h => h) hw1
      refine (IL.out w1 (HB.out.2.2.below hbel)).mono fun e w' ⟨v, he, ho, hb'⟩ => ⟨v, _, fun b => v.ownBlock = some b, he, rfl, ⟨fun b => Iff.rfl, ho.base hbel.size⟩, hb'.os, hb'.tape, hb'.output, hb'.size, fun b hb _ => hb'.block b hb, fun b h => .inr (ho.lt h).1⟩
    rintro v2 s2 rfl
    (refine wpThr_at (by (simp only [Act.put, List.setIfInBounds_toArray, List.set_cons_succ, List.set_cons_zero]) <;> exact rfl) ?_)
    refine wpThr_call (fun v s' => s' = stTwo W.heap.size v2 pL v pR) rfl rfl rfl ?_ ?_
    · intro bs1 w1 hb1 hw1
      go_simp
      have hbel : Below W.heap.size W w1 := resCls_below (fun _ h => h) hw1
      refine resCls_run hw1 fun F ha hf => ?_
      obtain ⟨hF, hv2⟩ := ha
      exact (IR.out w1 (HB.out.2.2.below hbel)).mono fun e w' ⟨v, he, ho, hb'⟩ => ⟨v, _, F, he, rfl, ⟨hF, hv2.below hb', ho.base hbel.size, fun c hc e => by
        have h1 := (hv2.lt e).2
        have h2 := (ho.lt hc).1
        omega⟩, Fr.of_below hb'⟩
    rintro v3 s3 rfl
    (refine wpThr_at (by (simp only [Act.put, List.setIfInBounds_toArray, List.set_cons_succ, List.set_cons_zero]) <;> exact rfl) ?_)
    refine wpThr_call (fun v s' => s' = stOwn W.heap.size v (pL ++ pR)) rfl rfl rfl ?_ ?_
    · intro bs1 w1 hb1 hw1
      exact thr_append_next hw1 HLN.out.2.1 (by have := HLN.out.1.2; have := HLN.out.2.2; omega) rfl rfl rfl
    rintro v4 s4 rfl
    (refine wpThr_at (by (simp only [Act.put, List.setIfInBounds_toArray, List.set_cons_succ, List.set_cons_zero]) <;> exact rfl) ?_)
    ((refine wpThr_val rfl rfl rfl ?_; apply Exists.intro; refine ⟨fun s1 bs1 w1 hb1 hw1 => ?_, ?_⟩); (have hc1 := HR.out s1 bs1 w1 hw1; go_simp; exact growUpon_ok rfl); (refine wpThr_at (by (simp only [Act.put, List.setIfInBounds_toArray, List.set_cons_succ, List.set_cons_zero]) <;> exact rfl) ?_))
    refine wpThr_nil ?_
    intro w5 hw5
    have hbel := resCls_below (fun _ h => h) hw5
    obtain ⟨F5, ⟨_, ho5⟩, _, _⟩ := hw5
    have HE := Lib.hid (And.intro ho5 hbel)
    clear ho5 hbel HR
    go_wp2
    go_ret
    exact ⟨_, rfl, HE.out.1.base HB.out.1.size, HB.out.1.trans (HE.out.2.mono HB.out.1.size)⟩
end
end Go.Proofs.Ytkcocdpmangcgaa.Wk
