
/- Layer 22's laws: RopeReads. */ -/
import Derived.Test.YtkcocdpmangcgaaRopJ
import Derived.Test.YtkcocdpmangcgaaQui2
namespace Go.Proofs.Ytkcocdpmangcgaa.Rp
set_option linter.unusedSimpArgs false
set_option linter.unusedVariables false
open Go Go.RowKit
open Go.Proofs.Ytkcocdpmangcgaa.Ar (T Is Ext WF Knot getK getB getS Arena resAr small lfs)
attribute [local go_sem] lt_add1 lt_self1 size_ne size_ne' size_ne1 size_ne1'
attribute [local irreducible] wpGrow wpThr

def byteV (l : List UInt8) (a : Int) : Int × Int := if 0 ≤ a ∧ a < l.length then (((l.getD a.toNat 0).toNat : Nat), 0) else (0, 2)
theorem rbyte_all (gs gb ga : Nat) (rb rf q : Option Nat) (S : ByteArray) (ks : List Knot) (w : World) (t a : Int) (X : T) (hw : WF ks) (ht : Is ks t X) (hg : Good S X) (h : St w gs gb ga rb rf q S ks) (hks : ks.length ≤ small) (hS : S.size ≤ 1000000) :
    Calls Try.prog 39 #[.pointer (some ⟨gs, 0, none⟩), .int .i64 t, .int .i64 a] w fun e w' => e = .returned (.tuple #[.int .u8 (byteV (txt S X) a).1, .int .i64 (byteV (txt S X) a).2]) ∧ Below w.heap.size w w' := by
  have hl := txt_length hg
  refine (rbyte_any gs gb ga rb rf q S ks w t a X hw ht hg h hks hS).mono ?_
  rintro e w' (⟨h0, h1, c, hc, rfl, hb⟩ | ⟨h0, rfl, hb⟩)
  · refine ⟨?_, hb⟩
    unfold byteV
    rw [if_pos ⟨h0, by omega⟩]
    simp [List.getD, hc]
  · refine ⟨?_, hb⟩
    unfold byteV
    rw [if_neg (by omega)]

/-- what a law's calls tell, as plain values: a rope that is there, or none. -/
structure Tell (s : Bst) (i x y : Int) (rs : ByteArray) (rc bv bc z zc c1 c2 : Int) : Prop where
  here : 0 ≤ i → zc = 0 ∧ z = (s.Ls.getD i.toNat ⟨#[]⟩).size ∧ z ≤ 800 ∧ rc = c1 ∧ bc = c2 ∧ (c1 ≠ 0 → c1 = 2 ∧ rs = ⟨#[]⟩) ∧ (c2 ≠ 0 → c2 = 2 ∧ bv = 0) ∧ (c1 = 0 → 0 ≤ x ∧ 0 ≤ y ∧ x + y ≤ z ∧ rs = (s.Ls.getD i.toNat ⟨#[]⟩).extract x.toNat (x + y).toNat) ∧
    (c2 = 0 → 0 ≤ x ∧ x < z ∧ bv = (((s.Ls.getD i.toNat ⟨#[]⟩).data.getD x.toNat 0).toNat : Nat))
  none_ : i < 0 → i = -1 ∧ zc = 7 ∧ z = 0 ∧ rc = 7 ∧ bc = 7 ∧ c1 = 7 ∧ c2 = 7 ∧ rs = ⟨#[]⟩ ∧ bv = 0

section
variable (W w0 : World) (b gs gb ga : Nat) (rb rf q : Option Nat) (Tv Lv : Value) (s : Bst)
theorem tells (h : BI w0 b gs gb ga rb rf q Tv Lv s W) (hI : Inv s 40) (i x y : Int) (hi : i = -1 ∨ (0 ≤ i ∧ i < s.Ts.length)) : ∃ rs rc bv bc z zc, Tell s i x y rs rc bv bc z zc (spanR s.Ls i x y) (spanR s.Ls i x 1) ∧
    (∀ w', Below W.heap.size W w' → Calls Try.prog 38 #[.pointer (some ⟨gs, 0, none⟩), .int .i64 (numV s.Ts i), .int .i64 x, .int .i64 y] w' fun e w'' => e = .returned (.tuple #[.string rs, .int .i64 rc]) ∧ Below w'.heap.size w' w'') ∧
    (∀ w', Below W.heap.size W w' → Calls Try.prog 39 #[.pointer (some ⟨gs, 0, none⟩), .int .i64 (numV s.Ts i), .int .i64 x] w' fun e w'' => e = .returned (.tuple #[.int .u8 bv, .int .i64 bc]) ∧ Below w'.heap.size w' w'') ∧
    (∀ w', Below W.heap.size W w' → Calls Try.prog 40 #[.pointer (some ⟨gs, 0, none⟩), .int .i64 (numV s.Ts i)] w' fun e w'' => e = .returned (.tuple #[.int .i64 z, .int .i64 zc]) ∧ Below w'.heap.size w' w'') := by
  have hks := hI.ks_small (by omega)
  have hS := hI.S_small (by omega)
  rcases hi with rfl | ⟨hi0, hi1⟩
  · refine ⟨⟨#[]⟩, 7, 0, 7, 0, 7, ⟨fun h => by omega, fun _ => ?_⟩, ?_, ?_, ?_⟩
    · have e : ∀ k, spanR s.Ls (-1) x k = 7 := fun k => by unfold spanR; rw [if_neg (by simp [hasB])]
      simp [e]
    · intro w' hb
      exact rread_none gs gb ga rb rf q s.S s.ks w' _ x y (.inl (by simp [numV])) (h.below hb).st hks
    · intro w' hb
      exact rbyte_err w' _ _ x 7 (by decide) (rread_none gs gb ga rb rf q s.S s.ks w' _ x 1 (.inl (by simp [numV])) (h.below hb).st hks)
    · intro w' hb
      exact rsize_none gs gb ga rb rf q s.S s.ks w' _ (.inl (by simp [numV])) (h.below hb).st hks
  · obtain ⟨X, hX⟩ := hI.ri (k := i.toNat) (by omega) W b gs gb ga rb rf q
    have hn : numV s.Ts i = s.Ts.getD i.toNat 0 := by unfold numV; rw [if_neg (by omega)]
    have hh : hasB s.Ls.length i = true := by simp [hasB, hi0, ← hI.len]; exact hi1
    have e1 : ∀ k, spanR s.Ls i x k = spanV X.size x k := fun k => by unfold spanR; rw [if_pos hh, hX.size]
    have hsz := hX.size
    have hle := hX.le
    have hlen : ((s.Ls.getD i.toNat ⟨#[]⟩).data.toList.length : Int) = X.size := by rw [hsz]; rfl
    rw [hn]
    refine ⟨_, _, _, _, _, _, ?_, fun w' hb => rread_any gs gb ga rb rf q s.S s.ks w' _ x y X hI.wf hX.is_ hX.good (h.below hb).st hks hS, fun w' hb => rbyte_all gs gb ga rb rf q s.S s.ks w' _ x X hI.wf hX.is_ hX.good (h.below hb).st hks hS, fun w' hb => rsize_is gs gb ga rb rf q s.S s.ks w' _ X hX.is_ (h.below hb).st hks⟩
    refine ⟨fun _ => ?_, fun h => by omega⟩
    rw [hX.txt, e1, e1]
    generalize hy : s.Ls.getD i.toNat ⟨#[]⟩ = yt at hlen hsz ⊢
    have hr : (readV yt.data.toList x y).2 = spanV X.size x y := by
      unfold readV
      rw [hlen]
      by_cases hc : spanV X.size x y = 0
      · rw [if_neg (by simp [hc]), if_neg (by unfold spanV at hc; split at hc <;> omega), hc]
      · rw [if_pos hc]
    refine ⟨rfl, hsz, by omega, hr, ?_, fun hc => ⟨?_, ?_⟩, fun hc => ⟨?_, ?_⟩, fun hc => ?_, fun hc => ?_⟩
    · unfold byteV spanV
      rw [hlen]
      by_cases hc : 0 ≤ x ∧ x < X.size
      · rw [if_pos hc, if_neg (by omega)]
      · rw [if_neg hc, if_pos (by omega)]
    · unfold spanV at hc ⊢; split at hc <;> simp_all
    · unfold readV
      rw [hlen, if_pos hc]
    · unfold spanV at hc ⊢; split at hc <;> simp_all
    · unfold byteV
      rw [hlen, if_neg (by unfold spanV at hc; split at hc <;> omega)]
    · have hin : 0 ≤ x ∧ 0 ≤ y ∧ x + y ≤ X.size := by unfold spanV at hc; split at hc <;> omega
      refine ⟨hin.1, hin.2.1, hin.2.2, ?_⟩
      unfold readV
      rw [hlen, if_neg (by simp [hc]), if_neg (by omega)]
      refine Go.Proofs.Ytkcocdpmangcgaa.Buf.bytes_ext ?_
      rw [extract_list]
      simp only
      rw [show (x + y).toNat - x.toNat = y.toNat by omega]
    · have hin : 0 ≤ x ∧ x < X.size := by unfold spanV at hc; split at hc <;> omega
      refine ⟨hin.1, hin.2, ?_⟩
      unfold byteV
      rw [hlen, if_pos hin]
      have hx : x.toNat < yt.data.size := by
        have e : yt.data.toList.length = yt.data.size := rfl
        omega
      simp [List.getD, Array.getD, Array.getElem?_eq_getElem hx]
      rw [dif_pos (show x.toNat < yt.size from hx)]
end

set_option maxRecDepth 100000 in
set_option maxHeartbeats 4000000 in
theorem reads_walk (l : List Dd) (t x y : Int) (A : Option Addr) (cap : Nat) (w : World) (hs : ddAt w A l) (hl : ∀ d ∈ l, d.text.size ≤ 2 ^ 63 - 1) :
    Calls Try.prog 7 #[.slice A l.length cap, .int .i64 t, .agg #[.int .i64 x, .int .i64 y]] w fun e w' => e = .returned (.bool true) ∧ Below w.heap.size w w' := by
  have hb0 : Below w.heap.size w (w.alloc (.cells #[.int .i64 x, .int .i64 y] 38)) := (Below.refl _ _).alloc (Nat.le_refl _) _
  have hk0 : (w.alloc (.cells #[.int .i64 x, .int .i64 y] 38)).heap[w.heap.size]? = some (.cells #[.int .i64 x, .int .i64 y] 38 (0, 0)) := heap_alloc_new _ _
  have hs0 : ddAt (w.alloc (.cells #[.int .i64 x, .int .i64 y] 38)) A l := (hs.below hb0).more hb0.size
  have HS := Lib.hid (And.intro hs0 (And.intro hb0 hk0))
  clear hs hs0 hb0 hk0
  go_enter Try.func7, Try.ntmps7
  go_wp2_with fail
  ((with_reducible refine (awake_any _).mono ?_); rintro e w1 ⟨rfl, hb1⟩)
  have HBL := Lib.hid (build_any l A cap w1 ((HS.out.1.below hb1).more hb1.size) hl)
  have H1 := Lib.hid (And.intro (HS.out.2.1.trans (hb1.mono HS.out.2.1.size)) ((hb1.block _ (Array.getElem?_eq_some_iff.1 HS.out.2.2).1).trans HS.out.2.2))
  clear hb1 HS
  go_wp2_with fail
  ((with_reducible refine HBL.out.mono ?_); rintro e W ⟨v, rfl, ⟨b, gs, gb, ga, rb, rf, q, Tv, Lv, s, rfl, hB, hI⟩⟩)
  obtain ⟨Al, cl, rfl, hL⟩ := hB.sl
  have HL := Lib.hid hL
  clear hL
  have hkd : W.heap[w.heap.size]? = _ := (hB.bl.block _ (Array.getElem?_eq_some_iff.1 H1.out.2).1).trans H1.out.2
  have f0 := Bw.cell (Array.getElem?_eq_some_iff.1 hkd).1 (cell_of_row W _ 0 _ _ (0, 0) hkd)
  have f1 := Bw.cell (Array.getElem?_eq_some_iff.1 hkd).1 (cell_of_row W _ 1 _ _ (0, 0) hkd)
  have hltd := Bw.lt (Array.getElem?_eq_some_iff.1 hkd).1
  simp at f0 f1
  have hlen := hI.len
  have hn41 := hI.le
  have hsh := Inv.short (k := 40) (by omega) hI
  have HB := Lib.hid (And.intro (H1.out.1.trans (hB.bl.mono H1.out.1.size)) (And.intro hB hI))
  have HHAS := Lib.hid (has_any _ s.Ls t W hB.sl (by omega))
  obtain ⟨i, hi⟩ : ∃ i, i = if hasB s.Ls.length t = true then t else -1 := ⟨_, rfl⟩
  have hir : i = -1 ∨ (0 ≤ i ∧ i < s.Ts.length) := by
    rw [hi]
    split
    · next h => simp [hasB] at h; omega
    · exact .inl rfl
  obtain ⟨rs, rc, bv, bc, z, zc, hT, hR, hBy, hZ⟩ := tells W w1 b gs gb ga rb rf q Tv _ s hB hI i x y hir
  have HT := Lib.hid hT
  have HR := Lib.hid hR
  have HBY := Lib.hid hBy
  have HZ := Lib.hid hZ
  have HNM := Lib.hid (fun w' (hb : Below W.heap.size W w') => number_any w' w1 b gs gb ga rb rf q Tv _ s i (hB.below hb) (by omega) (by omega))
  have HSP := Lib.hid (fun n w' (hb : Below W.heap.size W w') => span_any _ s.Ls i x n w' (hB.sl.below hb) (by omega) hsh)
  have HI := Lib.hid (And.intro hi hir)
  have c0 := Bw.cell hB.lt hB.c.1
  have c2 := Bw.cell hB.lt hB.c.2.2
  have hltb := Bw.lt hB.lt
  have hir1 : -1 ≤ i := by omega
  have hir2 : i < 1000 := by omega
  clear hT hR hBy hZ hB hI HBL H1 hkd hi hir hsh
  generalize numV s.Ts i = num at HNM HR HBY HZ
  generalize hs1 : spanR s.Ls i x y = s1 at HT
  generalize hs2 : spanR s.Ls i x 1 = s2 at HT
  have HS1 := Lib.hid (HSP.out y)
  have HS2 := Lib.hid (HSP.out 1)
  rw [hs2] at HS2
  rw [hs1] at HS1
  clear hs1 hs2 HSP
  generalize hasB s.Ls.length t = hv at HHAS HI
  have k0 : W.cell? ⟨b, 0, none⟩ = _ := c0 ⟨W, Below.refl _ _⟩
  have k2 : W.cell? ⟨b, 2, none⟩ = _ := c2 ⟨W, Below.refl _ _⟩
  have kb : b < W.heap.size := hltb ⟨W, Below.refl _ _⟩
  go_upto_if 32 with (go_at_call 36; ((with_reducible refine HHAS.out.mono ?_); rintro e w3 ⟨rfl, hb3⟩; have HB3 := Lib.hid hb3; clear hb3))
  go_cut [8] (fun v wx => v = .int .i64 i ∧ Below W.heap.size W wx)
  case first =>
    have e := HI.out.1
    clear HI
    cases hv
    · rw [if_neg (by decide)] at e
      subst e
      go_wp2_with fail
      go_meet
      exact ⟨rfl, HB3.out⟩
    · rw [if_pos rfl] at e
      subst e
      go_wp2_with fail
      go_meet
      exact ⟨rfl, HB3.out⟩
  case rest =>
  obtain ⟨rfl, hbx⟩ := hcut
  have HBX := Lib.hid hbx
  clear hbx k0 k2 kb HHAS HB3
  go_wp2_with fail
  ((with_reducible refine (HNM.out _ HBX.out).mono ?_); rintro e w4 ⟨rfl, rfl⟩)
  go_wp2_with fail
  refine wp_region_wd (fun w' => Below W.heap.size W w') (by kernel_rfl) (by kernel_rfl) HBX.out.drew ?_
  repeat (go_big_quiet_step (exact Bw.call (HR.out _ (Wd.h _))))
  refine wpQuiet_nil (wd_all ?_)
  intro w5 hb5
  have HB5 := Lib.hid hb5
  clear hb5
  go_wp2_with fail
  refine wp_region_wd (fun w' => Below W.heap.size W w') (by kernel_rfl) (by kernel_rfl) HB5.out.drew ?_
  repeat (go_big_quiet_step (exact Bw.call (HBY.out _ (Wd.h _))))
  refine wpQuiet_nil (wd_all ?_)
  intro w6 hb6
  have k0 : w6.cell? ⟨b, 0, none⟩ = _ := c0 ⟨w6, hb6⟩
  have kb : b < w6.heap.size := hltb ⟨w6, hb6⟩
  have HB6 := Lib.hid hb6
  clear hb6
  go_wp2_with fail
  ((with_reducible refine (HZ.out _ HB6.out).mono ?_); rintro e w7 ⟨rfl, hb7⟩)
  have HB7 := Lib.hid (HB6.out.trans (hb7.mono HB6.out.size))
  clear hb7 k0 kb
  go_wp2_with fail
  refine wp_region_wd (fun w' => Below W.heap.size W w') (by kernel_rfl) (by kernel_rfl) HB7.out.drew ?_
  repeat (go_big_quiet_step (first | (with_reducible exact Bw.call (HS1.out _ (Wd.h _))) | (with_reducible exact Bw.call (HS2.out _ (Wd.h _)))))
  refine wpQuiet_nil (wd_all ?_)
  intro w8 hb8
  have HB8 := Lib.hid hb8
  clear hb8
  have g0 : w8.cell? ⟨w.heap.size, 0, none⟩ = _ := f0 ⟨w8, HB8.out⟩
  have g1 : w8.cell? ⟨w.heap.size, 1, none⟩ = _ := f1 ⟨w8, HB8.out⟩
  have gd : w.heap.size < w8.heap.size := hltd ⟨w8, HB8.out⟩
  have k2 : w8.cell? ⟨b, 2, none⟩ = _ := c2 ⟨w8, HB8.out⟩
  have kb : b < w8.heap.size := hltb ⟨w8, HB8.out⟩
  clear c0 c2 hltb f0 f1 hltd HR HBY HZ HS1 HS2 HNM HBX HB5 HB6 HB7
  by_cases hi0 : 0 ≤ i
  · obtain ⟨k, rfl⟩ : ∃ k : Nat, i = k := ⟨i.toNat, by omega⟩
    obtain ⟨rfl, hz, hz8, rfl, rfl, t1, t2, t3, t4⟩ := HT.out.here hi0
    have hkn : k < s.Ls.length := by have := HI.out.2; omega
    obtain ⟨lb, loff, rfl, hll, hlc⟩ := HL.out (by omega)
    have d2 : w8.cell? ⟨lb, loff + k, none⟩ = _ := (HB8.out.cell (p := ⟨lb, _, none⟩) hll).trans (hlc k hkn)
    have dl : lb < w8.heap.size := Nat.lt_of_lt_of_le hll HB8.out.size
    rw [Int.toNat_natCast] at hz t3 t4
    have hkn' : (k : Int) < s.Ls.length := by omega
    clear hll hlc
    generalize s.Ls.getD k ⟨#[]⟩ = yt at hz t3 t4 d2
    subst hz
    by_cases h1 : rc = 0
    · subst h1
      obtain ⟨x0, y0, xy, rfl⟩ := t3 rfl
      have hsl := fun wx => run_slice_string (P := Try.prog) wx 9 yt .i64 .i64 x (x + y) Try.underlying9 x0 (by omega) xy
      by_cases h2 : bc = 0
      · subst h2
        obtain ⟨_, x1, rfl⟩ := t4 rfl
        go_wp2_with fail
        go_ret
        refine ⟨?_, HB.out.1.trans (HB8.out.mono HB.out.1.size)⟩
        first | rfl | (simp; rfl) | simp
      · obtain ⟨rfl, rfl⟩ := t2 h2
        go_wp2_with fail
        go_ret
        exact ⟨rfl, HB.out.1.trans (HB8.out.mono HB.out.1.size)⟩
    · obtain ⟨rfl, rfl⟩ := t1 h1
      by_cases h2 : bc = 0
      · subst h2
        obtain ⟨x0, x1, rfl⟩ := t4 rfl
        go_wp2_with fail
        go_ret
        refine ⟨?_, HB.out.1.trans (HB8.out.mono HB.out.1.size)⟩
        first | rfl | (simp; rfl) | simp
      · obtain ⟨rfl, rfl⟩ := t2 h2
        go_wp2_with fail
        go_ret
        exact ⟨rfl, HB.out.1.trans (HB8.out.mono HB.out.1.size)⟩
  · obtain ⟨rfl, rfl, rfl, rfl, rfl, rfl, rfl, rfl, rfl⟩ := HT.out.none_ (by omega)
    go_wp2_with fail
    go_ret
    exact ⟨rfl, HB.out.1.trans (HB8.out.mono HB.out.1.size)⟩
end Go.Proofs.Ytkcocdpmangcgaa.Rp
