/- The page's knot. -/
import Derived.Test.YtloljnpnoohglaaMade
namespace Go.Proofs.Ytloljnpnoohglaa.Ar
set_option linter.unusedSimpArgs false
set_option linter.unusedVariables false
open Go Go.RowKit
attribute [local go_sem] lt_add1 lt_self1 size_ne size_ne' size_ne1 size_ne1'

set_option maxHeartbeats 1000000 in
theorem mknot_any (ks : List Knot) (hwf : WF ks) (hn : ks.length ≤ small) (A : Option Addr) (cap : Nat) (i : Nat) (hi : i < ks.length) (w : World) (hm : madeAt w A ks) (hoff : (ks.getD i Knot.zero).left = 0 ∨ (ks.getD i Knot.zero).off = 0) :
    Calls Try.prog 26 #[.slice A ks.length cap, .int .i64 ((i : Int) + 1)] w fun e w' => e = .returned (ks.getD i Knot.zero).val ∧ Below w.heap.size w w' := by
  have CL := Lib.hid (fun w1 hw1 => leaves_any ks hwf hn A cap i hi w1 (hm.below hw1))
  have CS := Lib.hid (fun w1 hw1 => size_any ks hwf hn A cap i hi w1 (hm.below hw1))
  have CF := Lib.hid (fun w1 hw1 => feeds_any ks hwf hn A cap i hi w1 (hm.below hw1))
  have CH := Lib.hid (fun w1 hw1 => high_any ks hwf hn A cap i hi w1 (hm.below hw1))
  unfold small at hn
  obtain ⟨b, off, rfl, hb, f0, f1, f2, f3, f4⟩ := hm.rows hi
  have hi1 : IntKind.i64.wrap (i : Int) = i := IntWalk.i64_in _ (by omega)
  have hi0 : (0 : Int) ≤ i := by omega
  have hi2 : (i : Int) < ks.length := by omega
  clear hm hwf hoff
  unfold Knot.val
  generalize ks.getD i Knot.zero = k at f0 f1 f2 f3 f4 CL CS CF CH ⊢
  generalize (if k.left = 0 then k.len else 0) = z1 at f3
  generalize (if k.left = 0 then k.feeds else 0) = z2 at f4
  go_enter Try.func26, Try.ntmps26
  go_wp2_with fail
  have hB : Below w.heap.size w ((w.alloc (.cells #[.int .i64 0, .int .i64 0, .int .i64 0, .int .i64 0, .int .i64 0, .int .i64 0, .int .i64 0] 42)).alloc (.cells #[.int .i64 k.left, .int .i64 k.right, .int .i64 k.off, .int .i64 z1, .int .i64 z2] 97)) := by (repeat (first | exact Below.refl _ _ | assumption | (refine Below.setCell ?_ (by first | (simp; done) | (simp; omega) | omega) _) | (refine Below.alloc ?_ (by first | (simp; done) | (simp; omega) | omega) _) | (refine Below.drew ?_) | (refine Below.drewN ?_ _) | (refine Below.trans ?_ (Below.mono (by assumption) (by first | (simp; done) | (simp; omega) | omega)))))
  have hsz : w.heap.size + 1 < ((w.alloc (.cells #[.int .i64 0, .int .i64 0, .int .i64 0, .int .i64 0, .int .i64 0, .int .i64 0, .int .i64 0] 42)).alloc (.cells #[.int .i64 k.left, .int .i64 k.right, .int .i64 k.off, .int .i64 z1, .int .i64 z2] 97)).heap.size := by simp
  have hsz0 : w.heap.size < ((w.alloc (.cells #[.int .i64 0, .int .i64 0, .int .i64 0, .int .i64 0, .int .i64 0, .int .i64 0, .int .i64 0] 42)).alloc (.cells #[.int .i64 k.left, .int .i64 k.right, .int .i64 k.off, .int .i64 z1, .int .i64 z2] 97)).heap.size := by simp only [World.alloc, Array.size_push]; omega
  have q : ∀ o, ((w.alloc (.cells #[.int .i64 0, .int .i64 0, .int .i64 0, .int .i64 0, .int .i64 0, .int .i64 0, .int .i64 0] 42)).alloc (.cells #[.int .i64 k.left, .int .i64 k.right, .int .i64 k.off, .int .i64 z1, .int .i64 z2] 97)).cell? ⟨w.heap.size + 1, o, none⟩ = #[Value.int .i64 k.left, .int .i64 k.right, .int .i64 k.off, .int .i64 z1, .int .i64 z2][o]? := fun o => by
    have := World.cell?_alloc_new (w.alloc (.cells #[.int .i64 0, .int .i64 0, .int .i64 0, .int .i64 0, .int .i64 0, .int .i64 0, .int .i64 0] 42)) #[Value.int .i64 k.left, .int .i64 k.right, .int .i64 k.off, .int .i64 z1, .int .i64 z2] 97 o
    have e : (w.alloc (.cells #[.int .i64 0, .int .i64 0, .int .i64 0, .int .i64 0, .int .i64 0, .int .i64 0, .int .i64 0] 42)).heap.size = w.heap.size + 1 := Array.size_push _
    rwa [e] at this
  have hz : ((w.alloc (.cells #[.int .i64 0, .int .i64 0, .int .i64 0, .int .i64 0, .int .i64 0, .int .i64 0, .int .i64 0] 42)).alloc (.cells #[.int .i64 k.left, .int .i64 k.right, .int .i64 k.off, .int .i64 z1, .int .i64 z2] 97)).heap[w.heap.size]? = some (.cells #[.int .i64 0, .int .i64 0, .int .i64 0, .int .i64 0, .int .i64 0, .int .i64 0, .int .i64 0] 42) := (Below.heap_alloc _ _ _ (by simp)).trans (heap_alloc_new w _)
  have q0 := q 0
  have q1 := q 1
  have q2 := q 2
  simp only [List.getElem?_toArray, List.getElem?_cons_zero, List.getElem?_cons_succ] at q0 q1 q2
  clear q f0 f1 f2 f3 f4
  generalize (w.alloc (.cells #[.int .i64 0, .int .i64 0, .int .i64 0, .int .i64 0, .int .i64 0, .int .i64 0, .int .i64 0] 42)).alloc (.cells #[.int .i64 k.left, .int .i64 k.right, .int .i64 k.off, .int .i64 z1, .int .i64 z2] 97) = W at hB hsz hsz0 hz q0 q1 q2 ⊢
  refine wp_region_grow 19 (by kernel_rfl) (by kernel_rfl) ?_
  simp only [List.take_succ_cons, List.take_zero, List.drop_succ_cons, List.drop_zero, List.take_nil, List.drop_nil]
  iterate 8 ((refine wpGrow_val' rfl rfl ?_; apply Exists.intro; refine ⟨fun w1 hw1 => ?_, ?_⟩); (have hc1 := hw1.cell; go_simp; exact growUpon_ok rfl); (refine wpGrow_at (by (simp only [Act.put, List.setIfInBounds_toArray, List.set_cons_succ, List.set_cons_zero]) <;> exact rfl) ?_))
  (refine wpGrow_val' rfl rfl ?_; apply Exists.intro; refine ⟨fun w1 hw1 => ?_, ?_⟩)
  · go_simp
    exact growUpon_call (CS.out _ (hB.trans (hw1.below.mono (by omega))))
  (refine wpGrow_at (by (simp only [Act.put, List.setIfInBounds_toArray, List.set_cons_succ, List.set_cons_zero]) <;> exact rfl) ?_)
  iterate 2 ((refine wpGrow_val' rfl rfl ?_; apply Exists.intro; refine ⟨fun w1 hw1 => ?_, ?_⟩); (have hc1 := hw1.cell; go_simp; exact growUpon_ok rfl); (refine wpGrow_at (by (simp only [Act.put, List.setIfInBounds_toArray, List.set_cons_succ, List.set_cons_zero]) <;> exact rfl) ?_))
  (refine wpGrow_val' rfl rfl ?_; apply Exists.intro; refine ⟨fun w1 hw1 => ?_, ?_⟩)
  · go_simp
    exact growUpon_call (CH.out _ (hB.trans (hw1.below.mono (by omega))))
  (refine wpGrow_at (by (simp only [Act.put, List.setIfInBounds_toArray, List.set_cons_succ, List.set_cons_zero]) <;> exact rfl) ?_)
  iterate 2 ((refine wpGrow_val' rfl rfl ?_; apply Exists.intro; refine ⟨fun w1 hw1 => ?_, ?_⟩); (have hc1 := hw1.cell; go_simp; exact growUpon_ok rfl); (refine wpGrow_at (by (simp only [Act.put, List.setIfInBounds_toArray, List.set_cons_succ, List.set_cons_zero]) <;> exact rfl) ?_))
  (refine wpGrow_val' rfl rfl ?_; apply Exists.intro; refine ⟨fun w1 hw1 => ?_, ?_⟩)
  · go_simp
    exact growUpon_call (CL.out _ (hB.trans (hw1.below.mono (by omega))))
  (refine wpGrow_at (by (simp only [Act.put, List.setIfInBounds_toArray, List.set_cons_succ, List.set_cons_zero]) <;> exact rfl) ?_)
  iterate 2 ((refine wpGrow_val' rfl rfl ?_; apply Exists.intro; refine ⟨fun w1 hw1 => ?_, ?_⟩); (have hc1 := hw1.cell; go_simp; exact growUpon_ok rfl); (refine wpGrow_at (by (simp only [Act.put, List.setIfInBounds_toArray, List.set_cons_succ, List.set_cons_zero]) <;> exact rfl) ?_))
  (refine wpGrow_val' rfl rfl ?_; apply Exists.intro; refine ⟨fun w1 hw1 => ?_, ?_⟩)
  · go_simp
    exact growUpon_call (CF.out _ (hB.trans (hw1.below.mono (by omega))))
  (refine wpGrow_at (by (simp only [Act.put, List.setIfInBounds_toArray, List.set_cons_succ, List.set_cons_zero]) <;> exact rfl) ?_)
  ((refine wpGrow_val' rfl rfl ?_; apply Exists.intro; refine ⟨fun w1 hw1 => ?_, ?_⟩); (have hc1 := hw1.cell; go_simp; exact growUpon_ok rfl); (refine wpGrow_at (by (simp only [Act.put, List.setIfInBounds_toArray, List.set_cons_succ, List.set_cons_zero]) <;> exact rfl) ?_))
  refine wpGrow_nil ?_
  intro w2 hD
  have hbl := Lib.hid (hB.trans (hD.below.mono (by omega)))
  have hz2 := (hD.below.block w.heap.size hsz0).trans hz
  have hsz2 : w.heap.size < w2.heap.size := by have := hD.below.size; omega
  have z := cell_of_row w2 w.heap.size
  have z0 := z 0 _ _ (0, 0) hz2
  have z1' := z 1 _ _ (0, 0) hz2
  have z2' := z 2 _ _ (0, 0) hz2
  have z3 := z 3 _ _ (0, 0) hz2
  have z4 := z 4 _ _ (0, 0) hz2
  have z5 := z 5 _ _ (0, 0) hz2
  have z6 := z 6 _ _ (0, 0) hz2
  simp only [List.getElem?_toArray, List.getElem?_cons_zero, List.getElem?_cons_succ] at z0 z1' z2' z3 z4 z5 z6
  have hf2 : ∀ o, w2.frozen? ⟨w.heap.size, o, none⟩ = false := fun o => by simp [World.frozen?, hz2]
  clear hD q0 q1 q2 z hB
  go_wp2
  refine bodyPost_ret (v := .agg #[.int .i64 k.left, .int .i64 k.right, .int .i64 k.off, .int .i64 k.len, .int .i64 k.high, .int .i64 k.leaves, .int .i64 k.feeds]) ?_ ?_ ⟨?_, ?_⟩
  · simp [results, Try.results26, go_sem, *]
  · rfl
  · rfl
  · have hbl := hbl.out
    iterate 7 (with_reducible refine Below.setCell ?_ ?_ _)
    all_goals first | exact hbl | exact Nat.le_refl _
end Go.Proofs.Ytloljnpnoohglaa.Ar
