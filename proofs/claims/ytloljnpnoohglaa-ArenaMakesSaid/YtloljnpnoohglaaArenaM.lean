/- The walk of ArenaMakes: over what Build hands back. -/
import Derived.Test.YtloljnpnoohglaaDeedD
namespace Go.Proofs.Ytloljnpnoohglaa.Ar
set_option linter.unusedSimpArgs false
set_option linter.unusedVariables false
open Go Go.RowKit
attribute [local go_sem] lt_add1 lt_self1 size_ne size_ne' size_ne1 size_ne1'
attribute [local irreducible] wpGrow

theorem WF.lower {ks : List Knot} (h : WF ks) {i : Nat} (hi : i < ks.length) : (ks.getD i Knot.zero).left < (i : Int) + 1 ∧ (ks.getD i Knot.zero).right < (i : Int) + 1 ∧ ((ks.getD i Knot.zero).left = 0 ∨ (ks.getD i Knot.zero).off = 0) := by
  rcases h i hi with hl | ⟨l, r, hp⟩
  · obtain ⟨h0, h1, _⟩ := hl
    exact ⟨by omega, by omega, .inl h0⟩
  · obtain ⟨h1, h2, hl, hr, h0, _⟩ := hp
    exact ⟨by omega, by omega, .inr h0⟩

set_option maxRecDepth 100000 in
set_option maxHeartbeats 2000000 in
theorem makes_walk (n : Nat) (A : Option Addr) (cap : Nat) (w : World)
    (hb : ∀ w1, Below w.heap.size w w1 → Calls Try.prog 23 #[.slice A n cap] w1 fun e w' => ∃ v, e = .returned v ∧ Built w1 w' v) :
    Calls Try.prog 6 #[.slice A n cap] w fun e w' => e = .returned (.bool true) ∧ Below w.heap.size w w' := by
  have HB := Lib.hid hb
  clear hb
  go_enter Try.func6, Try.ntmps6
  go_wp2_with fail
  refine (awake_any _).mono ?_
  rintro e w0 ⟨rfl, hb0⟩
  have HB0 := Lib.hid hb0
  clear hb0
  go_wp2_with fail
  refine (HB.out _ HB0.out).mono ?_
  rintro e w1 ⟨v, rfl, g, r, ks, B, c, rfl, hh, hwf, hks, hb1⟩
  have H1 := Lib.hid (And.intro hh (And.intro hwf (HB0.out.trans (hb1.mono HB0.out.size))))
  clear hh hwf hb1 HB HB0
  go_wp2_with (go_at_call 24; ((with_reducible refine (len_any _ _ _ _ H1.out.1.ar).mono ?_); rintro e w5 ⟨rfl, rfl⟩))
  go_loopw [6] (fun i wr => ∃ (j : Nat), j ≤ ks.length ∧ i = .int .i64 ((j : Int) + 1) ∧ Arena wr g r ks ∧ madeAt wr B ks ∧ Below w.heap.size w wr) (fun i _ => ks.length + 1 - (intOf i).toNat)
  case atStart => exact ⟨0, by omega, rfl, H1.out.1.ar, H1.out.1.made', H1.out.2.2⟩
  case round =>
    obtain ⟨j, hj, rfl, ha, hm, hbw⟩ := hrel
    have H := Lib.hid (And.intro ha (And.intro hm hbw))
    clear ha hm hbw
    by_cases hlt : (j : Int) + 1 ≤ ks.length
    · have hjl : j < ks.length := by omega
      obtain ⟨gk, gb⟩ := getK_at (ks := ks) (i := (j : Int) + 1) (k := j) rfl hjl
      have hget := get_any g r ks ((j : Int) + 1) wr H.out.1 (by unfold small; omega)
      rw [gk, gb] at hget
      have hkn : ∀ w2, madeAt w2 B ks → Calls Try.prog 26 #[.slice B ks.length c, .int .i64 ((j : Int) + 1)] w2 fun e w' => e = .returned (ks.getD j Knot.zero).val ∧ Below w2.heap.size w2 w' :=
        fun w2 hm2 => mknot_any ks H1.out.2.1 (by unfold small; omega) B c j hjl w2 hm2 (H1.out.2.1.lower hjl).2.2
      obtain ⟨hl1, hl2, _⟩ := H1.out.2.1.lower hjl
      generalize ks.getD j Knot.zero = k at hget hkn hl1 hl2
      unfold Knot.val at hget hkn
      have HG := Lib.hid hget
      have HK := Lib.hid hkn
      clear hget hkn gk gb
      go_wp2_with fail
      ((with_reducible refine HG.out.mono ?_); rintro e w4 ⟨rfl, hb4⟩)
      have HA := Lib.hid (And.intro (H.out.1.below hb4) (And.intro (H.out.2.1.below hb4) (H.out.2.2.trans (hb4.mono H.out.2.2.size))))
      clear hb4 HG
      go_wp2_with fail
      generalize hW : w4.alloc (.cells #[.int .i64 k.left, .int .i64 k.right, .int .i64 k.off, .int .i64 k.len, .int .i64 k.high, .int .i64 k.leaves, .int .i64 k.feeds] 42) = W
      have hb5 : Below w4.heap.size w4 W := by subst hW; (repeat (first | exact Below.refl _ _ | assumption | (refine Below.setCell ?_ (by first | (simp; done) | (simp; omega) | omega) _) | (refine Below.alloc ?_ (by first | (simp; done) | (simp; omega) | omega) _) | (refine Below.drew ?_) | (refine Below.drewN ?_ _) | (refine Below.trans ?_ (Below.mono (by assumption) (by first | (simp; done) | (simp; omega) | omega)))))
      have hs5 : w4.heap.size < W.heap.size := by subst hW; simp
      have q : ∀ o, W.cell? ⟨w4.heap.size, o, none⟩ = #[Value.int .i64 k.left, .int .i64 k.right, .int .i64 k.off, .int .i64 k.len, .int .i64 k.high, .int .i64 k.leaves, .int .i64 k.feeds][o]? := fun o => by subst hW; exact World.cell?_alloc_new w4 _ _ o
      have q0 := q 0
      have q1 := q 1
      have q2 := q 2
      have q3 := q 3
      have q4 := q 4
      have q5 := q 5
      have q6 := q 6
      simp only [List.getElem?_toArray, List.getElem?_cons_zero, List.getElem?_cons_succ] at q0 q1 q2 q3 q4 q5 q6
      have H5 := Lib.hid (And.intro (HA.out.1.below hb5) (And.intro (HA.out.2.1.below hb5) (HA.out.2.2.trans (hb5.mono HA.out.2.2.size))))
      clear hW q hb5 HA
      have n1 : decide ((j : Int) + 1 ≤ k.left) = false := by simp; omega
      have n2 : decide ((j : Int) + 1 ≤ k.right) = false := by simp; omega
      refine wp_region_grow 21 (by kernel_rfl) (by kernel_rfl) ?_
      simp only [List.take_succ_cons, List.take_zero, List.drop_succ_cons, List.drop_zero, List.take_nil, List.drop_nil]
      iterate 6 ((refine wpGrow_val' rfl rfl ?_; apply Exists.intro; refine ⟨fun w1 hw1 => ?_, ?_⟩); (have hc1 := hw1.cell; go_simp; exact growUpon_ok rfl); (refine wpGrow_at (by (simp only [Act.put, List.setIfInBounds_toArray, List.set_cons_succ, List.set_cons_zero]) <;> exact rfl) ?_))
      (refine wpGrow_val' rfl rfl ?_; apply Exists.intro; refine ⟨fun w1 hw1 => ?_, ?_⟩)
      · go_simp
        exact growUpon_call (HK.out _ (H5.out.2.1.below hw1.below))
      (refine wpGrow_at (by (simp only [Act.put, List.setIfInBounds_toArray, List.set_cons_succ, List.set_cons_zero]) <;> exact rfl) ?_)
      iterate 14 ((refine wpGrow_val' rfl rfl ?_; apply Exists.intro; refine ⟨fun w1 hw1 => ?_, ?_⟩); (have hc1 := hw1.cell; go_simp; exact growUpon_ok rfl); (refine wpGrow_at (by (simp only [Act.put, List.setIfInBounds_toArray, List.set_cons_succ, List.set_cons_zero]) <;> exact rfl) ?_))
      refine wpGrow_nil ?_
      intro w6 hD
      have H6 := Lib.hid (And.intro (H5.out.1.below hD.below) (And.intro (H5.out.2.1.below hD.below) (H5.out.2.2.trans (hD.below.mono H5.out.2.2.size))))
      clear hD q0 q1 q2 q3 q4 q5 q6 H5
      go_wp2
      go_roundw
      case rel => exact ⟨j + 1, by omega, by go_num, H6.out.1, H6.out.2.1, H6.out.2.2⟩
      case measure => simp [intOf]; omega
    · go_wp2
      go_ret
      exact ⟨rfl, H.out.2.2⟩
end Go.Proofs.Ytloljnpnoohglaa.Ar
