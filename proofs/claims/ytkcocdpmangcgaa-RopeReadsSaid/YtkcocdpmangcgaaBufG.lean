
/- Feed of a buffer; the page's Feeds and Feed. -/
import Derived.Test.YtkcocdpmangcgaaBufF
namespace Go.Proofs.Ytkcocdpmangcgaa.Buf
set_option linter.unusedSimpArgs false
set_option linter.unusedVariables false
open Go Go.RowKit Go.Lib
open Go.Proofs.Ytkcocdpmangcgaa.Vec (SlI iv)
attribute [local go_sem] lt_add1 lt_self1 size_ne size_ne' size_ne1 size_ne1'
attribute [local irreducible] wpGrow

def feedB (S : ByteArray) (off m k : Int) : Bool := decide (0 ≤ k ∧ k < feedsV S off m)
def feedV (S : ByteArray) (off m k : Int) : Int := if 0 ≤ k ∧ k < feedsV S off m then (lfs 0 S.data.toList).getD (cnt S off + k.toNat) 0 else 0
set_option maxRecDepth 100000 in
set_option maxHeartbeats 1000000 in
theorem feed_any (g : Nat) (rb rf : Option Nat) (S : ByteArray) (off m k : Int) (w : World) (h : BufS w g rb rf S) (hS : S.size ≤ 1000000) :
    Calls Try.prog 88 #[.pointer (some ⟨g, 0, none⟩), .int .i64 off, .int .i64 m, .int .i64 k] w fun e w' => e = .returned (.tuple #[.int .i64 (feedV S off m k), .bool (feedB S off m k)]) ∧ Below w.heap.size w w' := by
  have H := Lib.hid h
  have HF := Lib.hid (feeds_any _ _ _ _ off m _ h hS)
  clear h
  by_cases h1 : k < 0
  · have hn : ¬ (0 ≤ k ∧ k < feedsV S off m) := by omega
    have e1 : feedV S off m k = 0 := by unfold feedV; rw [if_neg hn]
    have e2 : feedB S off m k = false := decide_eq_false hn
    rw [e1, e2]
    go_enter Try.func88, Try.ntmps88
    go_wp2
    go_ret2
    exact ⟨rfl, Below.refl _ _⟩
  · by_cases h2 : feedsV S off m ≤ k
    · have hn : ¬ (0 ≤ k ∧ k < feedsV S off m) := by omega
      have e1 : feedV S off m k = 0 := by unfold feedV; rw [if_neg hn]
      have e2 : feedB S off m k = false := decide_eq_false hn
      rw [e1, e2]
      generalize feedsV S off m = fv at HF h2
      clear hn e1 e2
      go_enter Try.func88, Try.ntmps88
      go_wp2_with (go_at_call 87; refine HF.out.mono ?_; rintro e w' ⟨rfl, hb⟩)
      go_ret2
      exact ⟨rfl, by assumption⟩
    · obtain ⟨j, rfl⟩ : ∃ j : Nat, k = j := ⟨k.toNat, by omega⟩
      have hy : 0 ≤ (j : Int) ∧ (j : Int) < feedsV S off m := by omega
      have e1 : feedV S off m j = (lfs 0 S.data.toList).getD (cnt S off + j) 0 := by unfold feedV; rw [if_pos hy]; rfl
      have e2 : feedB S off m j = true := decide_eq_true hy
      rw [e1, e2]
      have hlt : cnt S off + j < (lfs 0 S.data.toList).length := by
        have h3 : cnt S (off + m) ≤ (lfs 0 S.data.toList).length := List.countP_le_length
        unfold feedsV at hy
        split at hy <;> omega
      have hle := lfs_length 0 S.data.toList
      have hl2 : S.data.toList.length = S.size := rfl
      have HA := Lib.hid (fun (W : World) (x : Int) (hW : BufS W g rb rf S) => ahead_any g rb rf S x W hW hS)
      have HO := Lib.hid (fun (W : World) (hW : BufS W g rb rf S) => Buf.open_ hW)
      clear e1 e2 hy
      go_enter Try.func88, Try.ntmps88
      go_upto_region 3 with (go_at_call 87; refine HF.out.mono ?_; rintro e wq ⟨rfl, hb1⟩)
      have H1 := Lib.hid (And.intro (Buf.below H.out hb1) hb1)
      clear hb1
      obtain ⟨A, c, A', c', g1, g2, hc, hc', _, ho, _, _⟩ := HO.out _ H1.out.1
      obtain ⟨b, off', rfl, hb, hcs⟩ := own_iv ho (by omega)
      have f1 := hcs _ hlt
      unfold iv at f1
      have hgl := Buf.lt H1.out.1
      generalize hv : (lfs 0 S.data.toList).getD (cnt S off + j) 0 = v at f1
      have HV := Lib.hid hv
      clear hv
      generalize (lfs 0 S.data.toList).length = n at hlt hle g2
      generalize hcn : cnt S off = cn at f1 hlt
      have hw : IntKind.i64.wrap ((cn : Int) + j) = cn + j := IntWalk.i64_in _ (by omega)
      have hi0 : (0 : Int) ≤ (cn : Int) + j := by omega
      have hi1 : (cn : Int) + j < n := by omega
      have htn : ((cn : Int) + j).toNat = cn + j := by omega
      have HA2 := Lib.hid (fun (W : World) (hW : BufS W g rb rf S) => hcn ▸ HA.out W off hW)
      clear hcs hcn ho hc hc' g1
      refine wp_region_grow 13 (by kernel_rfl) (by kernel_rfl) ?_
      simp only [List.take_succ_cons, List.take_zero, List.drop_succ_cons, List.drop_zero, List.take_nil, List.drop_nil]
      iterate 6 ((refine wpGrow_val' rfl rfl ?_; apply Exists.intro; refine ⟨fun w1 hw1 => ?_, ?_⟩); (have hc1 := hw1.cell; go_simp; exact growUpon_ok rfl); (refine wpGrow_at (by (simp only [Act.put, List.setIfInBounds_toArray, List.set_cons_succ, List.set_cons_zero]) <;> exact rfl) ?_))
      (refine wpGrow_val' rfl rfl ?_; apply Exists.intro; refine ⟨fun w1 hw1 => ?_, ?_⟩)
      · go_simp
        exact growUpon_call (HA2.out w1 (Buf.below H1.out.1 hw1.below))
      (refine wpGrow_at (by (simp only [Act.put, List.setIfInBounds_toArray, List.set_cons_succ, List.set_cons_zero]) <;> exact rfl) ?_)
      iterate 6 ((refine wpGrow_val' rfl rfl ?_; apply Exists.intro; refine ⟨fun w1 hw1 => ?_, ?_⟩); (have hc1 := hw1.cell; go_simp; exact growUpon_ok rfl); (refine wpGrow_at (by (simp only [Act.put, List.setIfInBounds_toArray, List.set_cons_succ, List.set_cons_zero]) <;> exact rfl) ?_))
      refine wpGrow_nil ?_
      intro w3 hD
      go_wp2
      go_ret2
      refine ⟨?_, H1.out.2.trans (hD.below.mono H1.out.2.size)⟩
      rw [HV.out]
      rfl

/-! ### The page's answers -/
theorem lfs_split (n : Nat) (l : List UInt8) (i : Nat) (hi : i < l.length) : lfs n l = lfs n (l.take (i + 1)) ++ lfs (n + (i + 1)) (l.drop (i + 1)) := by
  conv => lhs; rw [← List.take_append_drop (i + 1) l]
  rw [lfs_append]
  congr 2
  simp; omega

end Go.Proofs.Ytkcocdpmangcgaa.Buf
