
/- Layer 22's laws: RopeCosts. */ -/
import Derived.Test.YtkcocdpmangcgaaRopJ
import Derived.Test.YtkcocdpmangcgaaStoK
namespace Go.Proofs.Ytkcocdpmangcgaa.Rp
set_option linter.unusedSimpArgs false
set_option linter.unusedVariables false
open Go Go.RowKit
open Go.Proofs.Ytkcocdpmangcgaa.Ar (T Is Ext WF Knot getK getB getS Arena resAr small lfs)
attribute [local go_sem] lt_add1 lt_self1 size_ne size_ne' size_ne1 size_ne1'
attribute [local irreducible] wpGrow wpThr wpSto

theorem lfs_take {l : List Knot} {k : Nat} (h : k < l.length) : lfs (l.take (k + 1)) = lfs (l.take k) + (if (l.getD k Knot.zero).left = 0 then 1 else 0) := by
  rw [List.take_succ_eq_append_getElem h, Ar.lfs_append]
  congr 1
  simp only [lfs, List.getD, List.getElem?_eq_getElem h, Option.getD_some]
  by_cases h0 : (l[k]).left = 0 <;> simp [h0]
theorem lfs_le (l : List Knot) : lfs l ≤ l.length := by unfold lfs; exact List.length_filter_le _ _
theorem ext_at {ks ks' : List Knot} {N M : Nat} (h : Ext ks ks' N M) : ∃ new : List Knot, new.length = N ∧ lfs new = M ∧ ∀ k, k < N → getK ks' ((ks.length : Int) + 1 + k) = new.getD k Knot.zero ∧ getB ks' ((ks.length : Int) + 1 + k) = true := by
  obtain ⟨new, rfl, h1, h2⟩ := h
  refine ⟨new, h1, h2, fun k hk => ?_⟩
  have := Ar.getK_at (ks := ks ++ new) (i := (ks.length : Int) + 1 + k) (k := ks.length + k) (by omega) (by simp; omega)
  rw [this.1, this.2]
  refine ⟨?_, rfl⟩
  simp [List.getD, List.getElem?_append_right]
theorem getB_out {ks : List Knot} : getB ks ((ks.length : Int) + 1) = false := by simp only [getB, getS]; rw [if_neg (by omega)]

set_option maxRecDepth 100000 in
set_option maxHeartbeats 4000000 in
theorem costs_walk (l : List Dd) (d : Dd) (A : Option Addr) (cap : Nat) (w : World) (hs : ddAt w A l) (hl : ∀ d ∈ l, d.text.size ≤ 2 ^ 63 - 1) (hd : d.text.size ≤ 2 ^ 63 - 1) :
    Calls Try.prog 6 #[.slice A l.length cap, .agg #[.int .i64 d.of_, .int .i64 d.at_, .int .i64 d.del, .string d.text, .bool d.raw]] w fun e w' => e = .returned (.bool true) ∧ Below w.heap.size w w' := by
  have hb0 : Below w.heap.size w (w.alloc (.cells #[.int .i64 d.of_, .int .i64 d.at_, .int .i64 d.del, .string d.text, .bool d.raw] 54)) := (Below.refl _ _).alloc (Nat.le_refl _) _
  have hk0 : (w.alloc (.cells #[.int .i64 d.of_, .int .i64 d.at_, .int .i64 d.del, .string d.text, .bool d.raw] 54)).heap[w.heap.size]? = some (.cells #[.int .i64 d.of_, .int .i64 d.at_, .int .i64 d.del, .string d.text, .bool d.raw] 54 (0, 0)) := heap_alloc_new _ _
  have hs0 : ddAt (w.alloc (.cells #[.int .i64 d.of_, .int .i64 d.at_, .int .i64 d.del, .string d.text, .bool d.raw] 54)) A l := (hs.below hb0).more hb0.size
  have HS := Lib.hid (And.intro hs0 (And.intro hb0 hk0))
  clear hs hs0 hb0 hk0
  obtain ⟨dof, dat, ddel, dtext, draw⟩ := d
  simp only at HS hd ⊢
  go_enter Try.func6, Try.ntmps6
  go_wp2_with fail
  ((with_reducible refine (awake_any _).mono ?_); rintro e w1 ⟨rfl, hb1⟩)
  have HBL := Lib.hid (build_any l A cap w1 ((HS.out.1.below hb1).more hb1.size) hl)
  have H1 := Lib.hid (And.intro (HS.out.2.1.trans (hb1.mono HS.out.2.1.size)) ((hb1.block _ (Array.getElem?_eq_some_iff.1 HS.out.2.2).1).trans HS.out.2.2))
  clear hb1 HS
  go_wp2_with fail
  ((with_reducible refine HBL.out.mono ?_); rintro e W ⟨v, rfl, ⟨b, gs, gb, ga, rb, rf, q, Tv, Lv, s, rfl, hB, hI⟩⟩)
  have hkd : W.heap[w.heap.size]? = _ := (hB.bl.block _ (Array.getElem?_eq_some_iff.1 H1.out.2).1).trans H1.out.2
  have HDO := Lib.hid (do_any w1 b gs gb ga Tv Lv s rb rf q ⟨dof, dat, ddel, dtext, draw⟩ 40 (by omega) hI W hB hd)
  have f0 := cell_of_row W _ 0 _ _ (0, 0) hkd
  have f1 := cell_of_row W _ 1 _ _ (0, 0) hkd
  have f2 := cell_of_row W _ 2 _ _ (0, 0) hkd
  have f3 := cell_of_row W _ 3 _ _ (0, 0) hkd
  have f4 := cell_of_row W _ 4 _ _ (0, 0) hkd
  have hltd := (Array.getElem?_eq_some_iff.1 hkd).1
  have HB := Lib.hid (And.intro H1.out.1 (And.intro hB hI))
  have c0 := hB.c.1
  have hltb := hB.lt
  have HKN := Lib.hid (rknots_any gs gb ga rb rf q s.S s.ks W hB.st)
  have hks1 := hI.kn
  clear hB hI HBL H1 hkd
  go_wp2_with (go_at_call 33; ((with_reducible refine HKN.out.mono ?_); rintro e w4 ⟨rfl, rfl⟩))
  ((with_reducible refine HDO.out.mono ?_); rintro e W2 ⟨rfl, rb2, rf2, q2, Tv2, Lv2, s2, N, M, hB2, hI2, hX, hM⟩)
  obtain ⟨new, hN, hML, hK⟩ := ext_at hX
  have hlen := hX.len
  have hlle := lfs_le new
  have HH := Lib.hid (And.intro (HB.out.1.trans (hB2.bl.mono HB.out.1.size)) (And.intro hB2 hK))
  have hks2 := hI2.ks_small (by omega)
  have hks3 : s2.ks.length ≤ 1000000 := by have := hI2.kn; omega
  clear hB2 hI2 hX hK HB HDO HKN f0 f1 f2 f3 f4 c0 hltb hltd
  obtain ⟨n, hn⟩ : ∃ n, n = s.ks.length := ⟨_, rfl⟩
  rw [← hn] at hlen hks1
  have HN := Lib.hid hn
  clear hn
  generalize hz : lfs new = M' at hML hlle
  have HZ := Lib.hid hz
  clear hz
  subst hML
  have c0 := Bw.cell HH.out.2.1.lt HH.out.2.1.c.1
  have hltb := Bw.lt HH.out.2.1.lt
  have KNS := Lib.hid (fun w' (hb : Below W2.heap.size W2 w') => rknots_any gs gb ga rb2 rf2 q2 s2.S s2.ks w' (HH.out.2.1.below hb).st)
  have KNT := Lib.hid (fun t w' (hb : Below W2.heap.size W2 w') => rknot_any gs gb ga rb2 rf2 q2 s2.S s2.ks w' t (HH.out.2.1.below hb).st hks2)
  simp only [← HN.out] at *
  have hl3 : (s2.ks.length : Int) = n + N := by omega
  rw [hl3] at KNS
  have hnN : (n : Int) + N ≤ 1000000 := by omega
  have HL3 := Lib.hid (And.intro hl3 hlen)
  clear hlen hl3 hks3 hks2
  go_wp2_with fail
  go_loopw [7, 8] (fun c i wr => ∃ k : Nat, c = .int .i64 (lfs (new.take k) : Nat) ∧ i = .int .i64 (n + 1 + k) ∧ k ≤ new.length ∧ Below W2.heap.size W2 wr) (fun _ i _ => (n + 1 + new.length : Nat) - (intOf i).toNat)
  case atStart => exact ⟨0, rfl, by first | rfl | go_num | simp, by omega, Below.refl _ _⟩
  case round =>
    obtain ⟨k, rfl, rfl, hk, hbr⟩ := hrel
    have e0 : wr.cell? ⟨b, 0, none⟩ = _ := c0 ⟨wr, hbr⟩
    have eb : b < wr.heap.size := hltb ⟨wr, hbr⟩
    have HBR := Lib.hid hbr
    clear hbr
    by_cases hkn : k < new.length
    · have hkk := HH.out.2.2 k (by omega)
      have K1 := KNT.out ((n : Int) + 1 + k) wr HBR.out
      have hlt := lfs_take hkn
      have hle := lfs_le (new.take (k + 1))
      rw [List.length_take] at hle
      rw [hkk.1, hkk.2] at K1
      unfold Knot.val at K1
      have HK1 := Lib.hid K1
      have hc1 : (n : Int) + 1 + k ≤ n + N := by omega
      clear K1 hkk
      generalize new.getD k Knot.zero = kn at HK1 hlt
      generalize hg1 : lfs (new.take k) = c1 at hlt
      have HLT := Lib.hid hlt
      have hc2 : c1 ≤ 1000000 := by split at hlt <;> omega
      clear hlt hle
      by_cases hl0 : kn.left = 0
      · go_wp2_with (go_at_call 33; ((with_reducible refine (KNS.out _ HBR.out).mono ?_); rintro e w5 ⟨rfl, rfl⟩))
        ((with_reducible refine HK1.out.mono ?_); rintro e w6 ⟨rfl, hb6⟩)
        have HB6 := Lib.hid (HBR.out.trans (hb6.mono HBR.out.size))
        clear hb6
        go_wp2_with fail
        go_roundw
        case rel => exact ⟨k + 1, by rw [HLT.out, if_pos hl0]; go_num, by go_num, by omega, HB6.out.alloc HB6.out.size _⟩
        case measure => simp [intOf]; omega
      · have hl0' : (kn.left == 0) = false := by simp [hl0]
        go_wp2_with (go_at_call 33; ((with_reducible refine (KNS.out _ HBR.out).mono ?_); rintro e w5 ⟨rfl, rfl⟩))
        ((with_reducible refine HK1.out.mono ?_); rintro e w6 ⟨rfl, hb6⟩)
        have HB6 := Lib.hid (HBR.out.trans (hb6.mono HBR.out.size))
        clear hb6
        go_wp2_with fail
        go_roundw
        case rel => exact ⟨k + 1, by rw [HLT.out, if_neg hl0]; go_num, by go_num, by omega, HB6.out.alloc HB6.out.size _⟩
        case measure => simp [intOf]; omega
    · obtain rfl : k = new.length := by omega
      rw [List.take_of_length_le (Nat.le_refl _), HZ.out]
      have hc1 : ¬ ((n : Int) + 1 + new.length ≤ n + N) := by omega
      go_wp2_with (go_at_call 33; ((with_reducible refine (KNS.out _ HBR.out).mono ?_); rintro e w5 ⟨rfl, rfl⟩))
      have K1 := fun w' hb => KNT.out ((n : Int) + N + 1) w' hb
      have hgb : getB s2.ks ((n : Int) + N + 1) = false := by rw [← HL3.out.1]; exact getB_out
      rw [hgb] at K1
      unfold Knot.val at K1
      generalize getK s2.ks ((n : Int) + N + 1) = kz at K1
      have HK1 := Lib.hid K1
      clear K1
      have hwr : IntKind.i64.wrap ((n : Int) + N + 1) = (n : Int) + N + 1 := IntWalk.i64_in _ (by omega)
      have hbr := HBR.out
      refine wp_region_sto (by kernel_rfl) (by kernel_rfl) ?_
      iterate 8 ((refine wpSto_quiet rfl rfl rfl ?_; apply Exists.intro; refine ⟨fun w1 hw1 => ?_, ?_⟩); (have hc1 := below_cells hw1; go_simp; exact growUpon_ok rfl); (refine wpSto_at (by (simp only [Act.put, List.setIfInBounds_toArray, List.set_cons_succ, List.set_cons_zero]) <;> exact rfl) ?_))
      (refine wpSto_quiet rfl rfl rfl ?_; apply Exists.intro; refine ⟨fun w1 hw1 => ?_, ?_⟩)
      · go_simp
        exact growUpon_call ((KNS.out _ (hbr.trans (hw1.mono hbr.size))).mono fun _ _ h => ⟨h.1, h.2 ▸ Below.refl _ _⟩)
      (refine wpSto_at (by (simp only [Act.put, List.setIfInBounds_toArray, List.set_cons_succ, List.set_cons_zero]) <;> exact rfl) ?_)
      ((refine wpSto_quiet rfl rfl rfl ?_; apply Exists.intro; refine ⟨fun w1 hw1 => ?_, ?_⟩); (have hc1 := below_cells hw1; go_simp; exact growUpon_ok rfl); (refine wpSto_at (by (simp only [Act.put, List.setIfInBounds_toArray, List.set_cons_succ, List.set_cons_zero]) <;> exact rfl) ?_))
      (refine wpSto_quiet rfl rfl rfl ?_; apply Exists.intro; refine ⟨fun w1 hw1 => ?_, ?_⟩)
      · go_simp
        exact growUpon_call (HK1.out _ (hbr.trans (hw1.mono hbr.size)))
      (refine wpSto_at (by (simp only [Act.put, List.setIfInBounds_toArray, List.set_cons_succ, List.set_cons_zero]) <;> exact rfl) ?_)
      iterate 3 ((refine wpSto_quiet rfl rfl rfl ?_; apply Exists.intro; refine ⟨fun w1 hw1 => ?_, ?_⟩); (have hc1 := below_cells hw1; go_simp; exact growUpon_ok rfl); (refine wpSto_at (by (simp only [Act.put, List.setIfInBounds_toArray, List.set_cons_succ, List.set_cons_zero]) <;> exact rfl) ?_))
      refine Ar.wpSto_makeK rfl rfl (fun bk hbk hfr => ?_)
      (refine wpSto_at (by (simp only [Act.put, List.setIfInBounds_toArray, List.set_cons_succ, List.set_cons_zero]) <;> exact rfl) ?_)
      refine Ar.wpSto_storeK rfl rfl rfl rfl List.mem_cons_self ?_
      (refine wpSto_at (by (simp only [Act.put, List.setIfInBounds_toArray, List.set_cons_succ, List.set_cons_zero]) <;> exact rfl) ?_)
      ((refine wpSto_quiet rfl rfl rfl ?_; apply Exists.intro; refine ⟨fun w1 hw1 => ?_, ?_⟩); (have hc1 := below_cells hw1; go_simp; exact growUpon_ok rfl); (refine wpSto_at (by (simp only [Act.put, List.setIfInBounds_toArray, List.set_cons_succ, List.set_cons_zero]) <;> exact rfl) ?_))
      refine wpSto_nil ?_
      intro w7 hD
      have HBX := Lib.hid (hbr.trans (hD.below.mono hbr.size))
      clear hD hbr
      have hm5 : (M' : Int) ≤ 5 := by omega
      go_wp2_with fail
      go_ret
      exact ⟨rfl, HH.out.1.trans (HBX.out.mono HH.out.1.size)⟩
end Go.Proofs.Ytkcocdpmangcgaa.Rp
