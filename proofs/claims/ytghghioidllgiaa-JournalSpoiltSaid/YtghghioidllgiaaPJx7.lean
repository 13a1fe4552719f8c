/- Printed for this claim by a program of this repo, over the print of the kit. -/
import Derived.Test.YtghghioidllgiaaPJx0
import Derived.Test.YtghghioidllgiaaPJx1
import Derived.Test.YtghghioidllgiaaPJx3
import Derived.Test.YtghghioidllgiaaPJx4
import Derived.Test.YtghghioidllgiaaPJx6
namespace Go.Proofs.Ytghghioidllgiaa.PJ
open Go.RowKit Go.Proofs.YtghghioidllgiaaW.PrintWords Go.Proofs.YtghghioidllgiaaW.PrintLast Go.Proofs.YtghghioidllgiaaW.PrintMore
attribute [local go_sem] max2_int min2_int max_two min_two max_three min_three max_four min_four   -- for this text's walks alone
set_option linter.unusedVariables false
set_option linter.unusedSimpArgs false

/-! ### tattinglaw44_JournalTorn: function 7 -/
mutual
def tattinglaw44_JournalTorn.j0 : Nat → List (S88) → Int → List Int → Int → Bool → Option (Bool)
  | 0, _, _, _, _, _ => none
  | k + 1, x0, x1, x5, x7, x38 => if x38 = true then (some (x7 == 0)) else (if 0 ≤ x1 then (if x1 ≤ (x5.length : Int) then ((journal_Get.f k (x5.take (x1 : Int).toNat)).bind fun bt228 => (if (bt228.1.length : Int) > (x0.length : Int) then (tattinglaw44_JournalTorn.j1 k x0 x1 bt228.1 bt228.2.1 bt228.2.2 true) else (if 0 ≤ (bt228.1.length : Int) then (if (bt228.1.length : Int) ≤ (x0.length : Int) then ((tattingref43_Same.f k bt228.1 (x0.take ((bt228.1.length : Int) : Int).toNat)).bind fun t238 => (if t238 = true then (tattinglaw44_JournalTorn.j1 k x0 x1 bt228.1 bt228.2.1 bt228.2.2 (decide (bt228.2.1 > x1))) else (tattinglaw44_JournalTorn.j1 k x0 x1 bt228.1 bt228.2.1 bt228.2.2 true))) else (none)) else (none)))) else (none)) else (none))
def tattinglaw44_JournalTorn.j1 : Nat → List (S88) → Int → List (S88) → Int → Int → Bool → Option (Bool)
  | 0, _, _, _, _, _, _ => none
  | k + 1, x0, x1, x8, x9, x10, x67 => if x67 = true then (some false) else ((journal_Put.f k x8).bind fun bt239 => (if (bt239.1.length : Int) = x9 then (if (x8.length : Int) < (x0.length : Int) then (if 0 ≤ (wrap64 ((x8.length : Int) + 1)) then (if (wrap64 ((x8.length : Int) + 1)) ≤ (x0.length : Int) then ((journal_Put.f k (x0.take ((wrap64 ((x8.length : Int) + 1)) : Int).toNat)).bind fun bt249 => (if (bt249.1.length : Int) ≤ x1 then (some false) else (if ((x10 == 0) == (x9 == x1)) = true then (if x10 = 0 then (some true) else (some (x10 == 10))) else (some false)))) else (none)) else (none)) else (if ((x10 == 0) == (x9 == x1)) = true then (if x10 = 0 then (some true) else (some (x10 == 10))) else (some false))) else (some false)))
end
def tattinglaw44_JournalTorn.f (k : Nat) (l0 : List (S88)) (a1 : Int) : Option (Bool) := (tattinglaw44_awake.f).bind fun t214 => (if t214 = true then ((tattinglaw44_few.f k l0).bind fun t215 => ((journal_Put.f k t215).bind fun bt218 => (if bt218.2.2 = 0 then (if a1 < 0 then (tattinglaw44_JournalTorn.j0 k t215 a1 bt218.1 bt218.2.2 true) else (tattinglaw44_JournalTorn.j0 k t215 a1 bt218.1 bt218.2.2 (decide (a1 > (bt218.1.length : Int))))) else (tattinglaw44_JournalTorn.j0 k t215 a1 bt218.1 bt218.2.2 true)))) else (some false))
theorem tattinglaw44_JournalTorn.mono_l : ∀ k, (∀ y0 y1 y2 y3 y4, LeO (tattinglaw44_JournalTorn.j0 k y0 y1 y2 y3 y4) (tattinglaw44_JournalTorn.j0 (k + 1) y0 y1 y2 y3 y4)) ∧ (∀ y0 y1 y2 y3 y4 y5, LeO (tattinglaw44_JournalTorn.j1 k y0 y1 y2 y3 y4 y5) (tattinglaw44_JournalTorn.j1 (k + 1) y0 y1 y2 y3 y4 y5))
  | 0 => ⟨fun _ _ _ _ _ r h => by simp [tattinglaw44_JournalTorn.j0] at h, fun _ _ _ _ _ _ r h => by simp [tattinglaw44_JournalTorn.j1] at h⟩
  | k + 1 => by
    obtain ⟨ih0, ih1⟩ := tattinglaw44_JournalTorn.mono_l k
    refine ⟨?_, ?_⟩
    · intro y0 y1 y2 y3 y4
      unfold tattinglaw44_JournalTorn.j0
      repeat' first
      | (with_reducible exact ih0 _ _ _ _ _)
      | (with_reducible exact ih1 _ _ _ _ _ _)
      | (with_reducible exact journal_Get.mono _ _)
      | (with_reducible exact journal_Put.mono _ _)
      | (with_reducible exact tattinglaw44_few.mono _ _)
      | (with_reducible exact tattingref43_Same.mono _ _ _)
      | (with_reducible exact LeO.refl _)
      | (with_reducible exact LeO.none _)
      | (with_reducible refine LeO.ite ?_ ?_)
      | (with_reducible refine LeO.bind ?_ (fun _ => ?_))
      | exact ih0 _ _ _ _ _
      | exact ih1 _ _ _ _ _ _
      | exact journal_Get.mono _ _
      | exact journal_Put.mono _ _
      | exact tattinglaw44_few.mono _ _
      | exact tattingref43_Same.mono _ _ _
      | exact LeO.none _
      | refine LeO.ite ?_ ?_
      | refine LeO.bind ?_ (fun _ => ?_)
    · intro y0 y1 y2 y3 y4 y5
      unfold tattinglaw44_JournalTorn.j1
      repeat' first
      | (with_reducible exact ih0 _ _ _ _ _)
      | (with_reducible exact ih1 _ _ _ _ _ _)
      | (with_reducible exact journal_Get.mono _ _)
      | (with_reducible exact journal_Put.mono _ _)
      | (with_reducible exact tattinglaw44_few.mono _ _)
      | (with_reducible exact tattingref43_Same.mono _ _ _)
      | (with_reducible exact LeO.refl _)
      | (with_reducible exact LeO.none _)
      | (with_reducible refine LeO.ite ?_ ?_)
      | (with_reducible refine LeO.bind ?_ (fun _ => ?_))
      | exact ih0 _ _ _ _ _
      | exact ih1 _ _ _ _ _ _
      | exact journal_Get.mono _ _
      | exact journal_Put.mono _ _
      | exact tattinglaw44_few.mono _ _
      | exact tattingref43_Same.mono _ _ _
      | exact LeO.none _
      | refine LeO.ite ?_ ?_
      | refine LeO.bind ?_ (fun _ => ?_)
theorem tattinglaw44_JournalTorn.mono : ∀ a0 a1 k, LeO (tattinglaw44_JournalTorn.f k a0 a1) (tattinglaw44_JournalTorn.f (k + 1) a0 a1) := by
  intro a0 a1 k
  obtain ⟨ih0, ih1⟩ := tattinglaw44_JournalTorn.mono_l k
  unfold tattinglaw44_JournalTorn.f
  repeat' first
      | (with_reducible exact ih0 _ _ _ _ _)
      | (with_reducible exact ih1 _ _ _ _ _ _)
      | (with_reducible exact journal_Get.mono _ _)
      | (with_reducible exact journal_Put.mono _ _)
      | (with_reducible exact tattinglaw44_few.mono _ _)
      | (with_reducible exact tattingref43_Same.mono _ _ _)
      | (with_reducible exact LeO.refl _)
      | (with_reducible exact LeO.none _)
      | (with_reducible refine LeO.ite ?_ ?_)
      | (with_reducible refine LeO.bind ?_ (fun _ => ?_))
      | exact ih0 _ _ _ _ _
      | exact ih1 _ _ _ _ _ _
      | exact journal_Get.mono _ _
      | exact journal_Put.mono _ _
      | exact tattinglaw44_few.mono _ _
      | exact tattingref43_Same.mono _ _ _
      | exact LeO.none _
      | refine LeO.ite ?_ ?_
      | refine LeO.bind ?_ (fun _ => ?_)
set_option maxHeartbeats 8000000 in
set_option maxRecDepth 100000 in
theorem tattinglaw44_JournalTorn.calls (k : Nat) (A0 : Option Addr) (c0 : Nat) (l0 : List (S88)) (a1 : Int) (r : Bool) (w : World) (hr0 : Kd.C k88 w A0 l0.length l0) (hc0 : l0.length ≤ c0) (h : tattinglaw44_JournalTorn.f k l0 a1 = some r) :
    Calls Try.prog 7 #[.slice A0 l0.length c0, .int .i64 a1] w fun e w' => e = .returned (.bool r) ∧ Below w.heap.size w w' := by
  have HR0 := Aside0.mk hr0
  have HC0 := Aside0.mk hc0
  clear hr0 hc0
  have HB := Aside0.mk (Below.refl w.heap.size w)
  have H : ((tattinglaw44_awake.f).bind fun t214 => (if t214 = true then ((tattinglaw44_few.f k l0).bind fun t215 => ((journal_Put.f k t215).bind fun bt218 => (if bt218.2.2 = 0 then (if a1 < 0 then (tattinglaw44_JournalTorn.j0 k t215 a1 bt218.1 bt218.2.2 true) else (tattinglaw44_JournalTorn.j0 k t215 a1 bt218.1 bt218.2.2 (decide (a1 > (bt218.1.length : Int))))) else (tattinglaw44_JournalTorn.j0 k t215 a1 bt218.1 bt218.2.2 true)))) else (some false))) = some r := h
  clear h
  replace H := Option.bind_eq_some_iff.mp H
  obtain ⟨t214, A30, H⟩ := H
  replace H : (if t214 = true then ((tattinglaw44_few.f k l0).bind fun t215 => ((journal_Put.f k t215).bind fun bt218 => (if bt218.2.2 = 0 then (if a1 < 0 then (tattinglaw44_JournalTorn.j0 k t215 a1 bt218.1 bt218.2.2 true) else (tattinglaw44_JournalTorn.j0 k t215 a1 bt218.1 bt218.2.2 (decide (a1 > (bt218.1.length : Int))))) else (tattinglaw44_JournalTorn.j0 k t215 a1 bt218.1 bt218.2.2 true)))) else (some false)) = some r := H
  have A3 := Aside0.mk A30
  clear A30
  by_cases c4 : t214 = true
  · subst c4
    have H1 : ((tattinglaw44_few.f k l0).bind fun t215 => ((journal_Put.f k t215).bind fun bt218 => (if bt218.2.2 = 0 then (if a1 < 0 then (tattinglaw44_JournalTorn.j0 k t215 a1 bt218.1 bt218.2.2 true) else (tattinglaw44_JournalTorn.j0 k t215 a1 bt218.1 bt218.2.2 (decide (a1 > (bt218.1.length : Int))))) else (tattinglaw44_JournalTorn.j0 k t215 a1 bt218.1 bt218.2.2 true)))) = some r := by rw [if_pos rfl] at H; exact H
    clear H
    have H := H1
    clear H1
    replace H := Option.bind_eq_some_iff.mp H
    obtain ⟨t215, A50, H⟩ := H
    replace H : ((journal_Put.f k t215).bind fun bt218 => (if bt218.2.2 = 0 then (if a1 < 0 then (tattinglaw44_JournalTorn.j0 k t215 a1 bt218.1 bt218.2.2 true) else (tattinglaw44_JournalTorn.j0 k t215 a1 bt218.1 bt218.2.2 (decide (a1 > (bt218.1.length : Int))))) else (tattinglaw44_JournalTorn.j0 k t215 a1 bt218.1 bt218.2.2 true))) = some r := H
    have A5 := Aside0.mk A50
    clear A50
    replace H := Option.bind_eq_some_iff.mp H
    obtain ⟨⟨t218, t219, t220⟩, A60, H⟩ := H
    replace H : (if t220 = 0 then (if a1 < 0 then (tattinglaw44_JournalTorn.j0 k t215 a1 t218 t220 true) else (tattinglaw44_JournalTorn.j0 k t215 a1 t218 t220 (decide (a1 > (t218.length : Int))))) else (tattinglaw44_JournalTorn.j0 k t215 a1 t218 t220 true)) = some r := H
    have A6 := Aside0.mk A60
    clear A60
    have HC7 := Aside0.mk H
    clear H
    go_enter Try.func7, Try.ntmps7
    go_upto_region 5 with (first | ((with_reducible refine gate_callee (f := 18) rfl ?_); refine goesL_ (some 17) rfl rfl Try.func18 (by kernel_rfl) rfl #[] rfl (by (try simp only [List.map_toArray, List.map_cons, List.map_nil]); first | done | rfl | (simp only [List.length_drop, List.length_take]; rfl) | (exact congrArg (fun n_ : Nat => (#[Value.slice _ n_ _] : Array Value)) (by simp only [List.length_take, List.length_drop]; omega))) ?_; (with_reducible refine (tattinglaw44_awake.calls  true _ A3.out).mono ?_); rintro e w8 ⟨rfl, hb⟩; refine ⟨_, rfl, ?_⟩; have n0_ := Aside0.mk (below_step (by repeat (first | (with_reducible first | exact HB.out | apply below_alloc | apply pw_below_drewN | apply below_drew1) | exact HB.out)) hb); clear HB; have HB := n0_; clear n0_; (try clear hb); (try clear hb2); (try clear hk); (try clear hi)) | ((with_reducible refine gate_callee (f := 19) rfl ?_); refine goesL_ (some 20) rfl rfl Try.func19 (by kernel_rfl) rfl #[.slice A0 l0.length c0] rfl (by (try simp only [List.map_toArray, List.map_cons, List.map_nil]); first | done | rfl | (simp only [List.length_drop, List.length_take]; rfl) | (exact congrArg (fun n_ : Nat => (#[Value.slice _ n_ _] : Array Value)) (by simp only [List.length_take, List.length_drop]; omega))) ?_; (with_reducible refine (tattinglaw44_few.calls k (fun k_ => k_ < w.heap.size) _ _ l0 t215 _ ?side1 A5.out).mono ?_); (case side1 => exact Kd.V_mk HC0.out (Kd.F_below (Kd.C_F k88_heap HR0.out) (by repeat (first | (with_reducible first | exact HB.out | apply below_alloc | apply pw_below_drewN | apply below_drew1) | exact HB.out)))); rintro e w9 ⟨v216, rfl, ho0, hb⟩; refine ⟨_, rfl, ?_⟩; have n0_ := Aside0.mk (Kd.N_lower (Kd.N_mono (ok' := fun k_ => True) ho0 (fun k_ hk_ => trivial)) (below_size (by repeat (first | (with_reducible first | exact HB.out | apply below_alloc | apply pw_below_drewN | apply below_drew1) | exact HB.out)))); have n1_ := Aside0.mk (below_step (by repeat (first | (with_reducible first | exact HB.out | apply below_alloc | apply pw_below_drewN | apply below_drew1) | exact HB.out)) hb); clear HB; have HO217 := n0_; have HB := n1_; clear n0_ n1_; (try clear hb); (try clear hb2); (try clear hk); (try clear hi); (try clear ho0); obtain ⟨Ao10, co10, eo10⟩ := Kd.N_slice HO217.out; subst eo10) | ((with_reducible refine gate_callee (f := 20) rfl ?_); refine goesL_ (some 23) rfl rfl Try.func20 (by kernel_rfl) rfl #[.slice Ao10 t215.length co10] rfl (by (try simp only [List.map_toArray, List.map_cons, List.map_nil]); first | done | rfl | (simp only [List.length_drop, List.length_take]; rfl) | (exact congrArg (fun n_ : Nat => (#[Value.slice _ n_ _] : Array Value)) (by simp only [List.length_take, List.length_drop]; omega))) ?_; (with_reducible refine (journal_Put.calls k _ _ t215 t218 t219 t220 _ ?side1 ?side2 A6.out).mono ?_); (case side1 => repeat (first | exact (Kd.N_reads' HO217.out).2.2 | (with_reducible refine Kd.C_alloc ?_ _) | (with_reducible refine Kd.C_drewN ?_ _) | (with_reducible refine Kd.C_drew ?_))); (case side2 => exact (Kd.N_reads' HO217.out).2.1); rintro e w11 ⟨v221, rfl, ho0, hb⟩; refine ⟨_, rfl, ?_⟩; have n0_ := Aside0.mk (Kd.N_elder' (by (with_reducible repeat (first | apply Kd.N_alloc | apply Kd.N_drewN | apply Kd.N_drew)); exact HO217.out) (Kd.R_base ho0) hb); have n1_ := Aside0.mk (Kd.R_lower ho0 (below_size (by repeat (first | (with_reducible first | exact HB.out | apply below_alloc | apply pw_below_drewN | apply below_drew1) | exact HB.out)))); have n2_ := Aside0.mk (below_step (by repeat (first | (with_reducible first | exact HB.out | apply below_alloc | apply pw_below_drewN | apply below_drew1) | exact HB.out)) hb); clear HO217; clear HB; have HO217 := n0_; have HO222 := n1_; have HB := n2_; clear n0_ n1_ n2_; (try clear hb); (try clear hb2); (try clear hk); (try clear hi); (try clear ho0)))
    (try simp only [Act.put, List.setIfInBounds_toArray, List.set_cons_zero, List.set_cons_succ])
    go_cut [38] (fun v38 wc => ∃ (kq : Nat) (x38_6 : Bool), v38 = .bool x38_6 ∧ Aside0 (tattinglaw44_JournalTorn.j0 kq t215 a1 t218 t220 x38_6 = some r) ∧ Aside0 (kq ≤ k) ∧ Aside0 (Kd.N k88 88 wc w.heap.size (fun k_ => some k_ ≠ (v221 : Value).ownBlock) (.slice Ao10 t215.length co10) t215) ∧ Aside0 (Kd.R (Kd.int .u8) 5 wc w.heap.size (fun _ => True) v221 t218) ∧ Aside0 (Below w.heap.size w wc))
    case first =>
      have H := HC7.out
      clear HC7
      by_cases c12 : t220 = 0
      · rw [if_pos c12] at H
        have c12b0 : (t220 == 0) = true := beq_iff_eq.mpr c12
        have c12b1 : (t220 != 0) = false := bne_eq_false_iff_eq.mpr c12
        clear c12
        (first | rw [c12b0] | (simp only [i64_w, i32_w]; rw [c12b0]) | skip)
        by_cases c13 : a1 < 0
        · rw [if_pos c13] at H
          have c13b0 : decide (a1 < 0) = true := decide_eq_true c13
          clear c13
          have H' := Aside0.mk H
          clear H
          go_wp2
          go_meet
          case rel => exact ⟨_, (true), (by first | rfl | (simp; done) | (simp [*]; done)), H', ⟨by first | omega | exact Nat.le_refl _⟩, ⟨by (with_reducible repeat (first | apply Kd.N_alloc | apply Kd.N_drewN | apply Kd.N_drew)); exact Kd.N_mono HO217.out (fun _ hk => hk.2)⟩, ⟨by (with_reducible repeat (first | apply Kd.R_alloc | apply Kd.R_drewN | apply Kd.R_drew)); exact HO222.out⟩, ⟨by repeat (first | (with_reducible first | exact HB.out | apply below_alloc | apply pw_below_drewN | apply below_drew1) | exact HB.out)⟩⟩
        · rw [if_neg c13] at H
          have c13b0 : decide (a1 < 0) = false := decide_eq_false c13
          clear c13
          have H' := Aside0.mk H
          clear H
          obtain ⟨Ao14, co14, eo14⟩ := Kd.R_slice HO222.out
          subst eo14
          go_wp2
          go_meet
          case rel => exact ⟨_, (decide (a1 > (t218.length : Int))), (by first | rfl | (simp; done) | (simp [*]; done)), H', ⟨by first | omega | exact Nat.le_refl _⟩, ⟨by (with_reducible repeat (first | apply Kd.N_alloc | apply Kd.N_drewN | apply Kd.N_drew)); exact Kd.N_mono HO217.out (fun _ hk => hk.2)⟩, ⟨by (with_reducible repeat (first | apply Kd.R_alloc | apply Kd.R_drewN | apply Kd.R_drew)); exact HO222.out⟩, ⟨by repeat (first | (with_reducible first | exact HB.out | apply below_alloc | apply pw_below_drewN | apply below_drew1) | exact HB.out)⟩⟩
      · rw [if_neg c12] at H
        have c12b0 : (t220 == 0) = false := beq_eq_false_iff_ne.mpr c12
        have c12b1 : (t220 != 0) = true := bne_iff_ne.mpr c12
        (first | rw [c12b0] | (simp only [i64_w, i32_w]; rw [c12b0]) | skip)
        have H' := Aside0.mk H
        clear H
        go_wp2
        go_meet
        case rel => exact ⟨_, (true), (by first | rfl | (simp; done) | (simp [*]; done)), H', ⟨by first | omega | exact Nat.le_refl _⟩, ⟨by (with_reducible repeat (first | apply Kd.N_alloc | apply Kd.N_drewN | apply Kd.N_drew)); exact Kd.N_mono HO217.out (fun _ hk => hk.2)⟩, ⟨by (with_reducible repeat (first | apply Kd.R_alloc | apply Kd.R_drewN | apply Kd.R_drew)); exact HO222.out⟩, ⟨by repeat (first | (with_reducible first | exact HB.out | apply below_alloc | apply pw_below_drewN | apply below_drew1) | exact HB.out)⟩⟩
    case rest =>
      clear HC7
      try clear c1
      try clear c2
      try clear p2
      try clear c4
      try clear c7
      try clear c12
      try clear c12b0
      try clear c12b1
      try clear c13
      try clear c13b0
      obtain ⟨kq, x38_6, rfl, HA, HJ6, HO_0, HO_5, HB⟩ := hcut
      cases kq with
      | zero => exact absurd HA.out (by simp [tattinglaw44_JournalTorn.j0])
      | succ kj6 =>
        have H := HA.out
        clear HA
        simp only [tattinglaw44_JournalTorn.j0] at H
        by_cases c15 : x38_6 = true
        · subst c15
          have H1 : (some (t220 == 0)) = some r := by rw [if_pos rfl] at H; exact H
          clear H
          have H := H1
          clear H1
          obtain rfl := Option.some.inj H
          go_wp2
          go_ret
          exact ⟨by first | rfl | (simp [errW_none, errW_some] <;> rfl) | (simp [*, errW_none, errW_some] <;> rfl), by repeat (first | (with_reducible first | exact HB.out | apply below_alloc | apply pw_below_drewN | apply below_drew1) | exact HB.out)⟩
        · replace c15 := Bool.eq_false_iff.mpr c15
          subst c15
          have H1 : (if 0 ≤ a1 then (if a1 ≤ (t218.length : Int) then ((journal_Get.f kj6 (t218.take (a1 : Int).toNat)).bind fun bt228 => (if (bt228.1.length : Int) > (t215.length : Int) then (tattinglaw44_JournalTorn.j1 kj6 t215 a1 bt228.1 bt228.2.1 bt228.2.2 true) else (if 0 ≤ (bt228.1.length : Int) then (if (bt228.1.length : Int) ≤ (t215.length : Int) then ((tattingref43_Same.f kj6 bt228.1 (t215.take ((bt228.1.length : Int) : Int).toNat)).bind fun t238 => (if t238 = true then (tattinglaw44_JournalTorn.j1 kj6 t215 a1 bt228.1 bt228.2.1 bt228.2.2 (decide (bt228.2.1 > a1))) else (tattinglaw44_JournalTorn.j1 kj6 t215 a1 bt228.1 bt228.2.1 bt228.2.2 true))) else (none)) else (none)))) else (none)) else (none)) = some r := by rw [if_neg (show ¬ (false = true) by decide)] at H; exact H
          clear H
          have H := H1
          clear H1
          by_cases c16 : 0 ≤ a1
          · rw [if_pos c16] at H
            have c16b0 := eq_true c16
            have c16b1 : decide (0 ≤ a1) = true := decide_eq_true c16
            clear c16
            by_cases c17 : a1 ≤ (t218.length : Int)
            · rw [if_pos c17] at H
              have c17b0 := eq_true c17
              have c17b1 : decide (a1 ≤ (t218.length : Int)) = true := decide_eq_true c17
              clear c17
              obtain ⟨y223, hy223⟩ : ∃ y_ : List Int, y_ = (t218.take (a1 : Int).toNat) := ⟨_, rfl⟩
              replace H : ((journal_Get.f kj6 y223).bind fun bt228 => (if (bt228.1.length : Int) > (t215.length : Int) then (tattinglaw44_JournalTorn.j1 kj6 t215 a1 bt228.1 bt228.2.1 bt228.2.2 true) else (if 0 ≤ (bt228.1.length : Int) then (if (bt228.1.length : Int) ≤ (t215.length : Int) then ((tattingref43_Same.f kj6 bt228.1 (t215.take ((bt228.1.length : Int) : Int).toNat)).bind fun t238 => (if t238 = true then (tattinglaw44_JournalTorn.j1 kj6 t215 a1 bt228.1 bt228.2.1 bt228.2.2 (decide (bt228.2.1 > a1))) else (tattinglaw44_JournalTorn.j1 kj6 t215 a1 bt228.1 bt228.2.1 bt228.2.2 true))) else (none)) else (none)))) = some r := by first | (rw [hy223]; with_reducible exact H) | (have H2_ := (Option.bind_some _ _).symm.trans H; rw [hy223]; with_reducible exact H2_) | (have H2_ := (Option.bind_some _ _).symm.trans H; with_reducible exact H2_) | with_reducible exact H | (rw [hy223]; exact H) | exact H
              have Ny223 := Aside0.mk hy223
              clear hy223
              replace H := Option.bind_eq_some_iff.mp H
              obtain ⟨⟨t228, t229, t230⟩, A180, H⟩ := H
              replace H : (if (t228.length : Int) > (t215.length : Int) then (tattinglaw44_JournalTorn.j1 kj6 t215 a1 t228 t229 t230 true) else (if 0 ≤ (t228.length : Int) then (if (t228.length : Int) ≤ (t215.length : Int) then ((tattingref43_Same.f kj6 t228 (t215.take ((t228.length : Int) : Int).toNat)).bind fun t238 => (if t238 = true then (tattinglaw44_JournalTorn.j1 kj6 t215 a1 t228 t229 t230 (decide (t229 > a1))) else (tattinglaw44_JournalTorn.j1 kj6 t215 a1 t228 t229 t230 true))) else (none)) else (none))) = some r := H
              have A18 := Aside0.mk A180
              clear A180
              have HC19 := Aside0.mk H
              clear H
              obtain ⟨Ao21, co21, eo21⟩ := Kd.R_slice HO_5.out
              subst eo21
              have q20 : (a1 : Int) ≤ ((t218.length : Int) : Int) := of_decide_eq_true (by first | (with_reducible assumption) | assumption)
              obtain ⟨i020, hi020, _, hsz20, _⟩ := info_parts info5
              have hroom20 : t218.length ≤ co21 := (Kd.R_reads' HO_5.out).2.1
              have hC20 : Kd.F (Kd.int .u8) _ _ Ao21 t218.length t218 := (Kd.V_at (base := w.heap.size) (Kd.R_V (Kd.R_apart' (HO_5.out) (Kd.N_typed HO_0.out) (by decide)))).2.2
              have hcut20 := cut_to (P := Try.prog) 22 5 .i64 Try.underlying22 hi020 Ao21 t218.length co21 a1 (of_decide_eq_true (by first | (with_reducible assumption) | assumption)) q20 hroom20
              have hr20 := Kd.F_take (m := (a1 : Int).toNat) hC20 (by omega)
              have hy20 : y223.length = (a1 : Int).toNat := (by rw [Ny223.out, List.length_take]; omega)
              rw [← Ny223.out] at hr20
              rw [← hy20] at hcut20
              have HO227 := Aside0.mk (show Kd.V (Kd.int .u8) 5 _ w.heap.size _ (.slice Ao21 y223.length co21) y223 from Kd.V_mk (by omega) hr20)
              have HC227 := Aside0.mk (show y223.length ≤ co21 from by omega)
              clear hr20 hC20 hroom20 hi020 hsz20
              have KY20 := Aside0.mk hy20
              clear hy20
              replace q20 := eq_true q20
              go_upto_region 8 with (first | ((with_reducible refine gate_callee (f := 21) rfl ?_); refine goesL_ (some 45) rfl rfl Try.func21 (by kernel_rfl) rfl #[.slice Ao21 y223.length co21] rfl (by (try simp only [List.map_toArray, List.map_cons, List.map_nil]); first | done | rfl | (simp only [List.length_drop, List.length_take]; rfl) | (exact congrArg (fun n_ : Nat => (#[Value.slice _ n_ _] : Array Value)) (by simp only [List.length_take, List.length_drop]; omega))) ?_; (with_reducible refine (journal_Get.calls kj6 _ _ y223 t228 t229 t230 _ ?side1 ?side2 A18.out).mono ?_); (case side1 => repeat (first | exact (Kd.V_reads' HO227.out).2.2 | (with_reducible refine Kd.C_alloc ?_ _) | (with_reducible refine Kd.C_drewN ?_ _) | (with_reducible refine Kd.C_drew ?_))); (case side2 => exact (Kd.V_reads' HO227.out).2.1); rintro e w22 ⟨v231, rfl, ho0, hb⟩; refine ⟨_, rfl, ?_⟩; have n0_ := Aside0.mk (Kd.N_elder' (by (with_reducible repeat (first | apply Kd.N_alloc | apply Kd.N_drewN | apply Kd.N_drew)); exact HO_0.out) (by first | exact Kd.N_base ho0 | exact Kd.S_base ho0 | exact Kd.R_base ho0) hb); have n1_ := Aside0.mk (Kd.R_below (by (with_reducible repeat (first | apply Kd.R_alloc | apply Kd.R_drewN | apply Kd.R_drew)); exact HO_5.out) hb); have n2_ := Aside0.mk (Kd.V_elder' (by (with_reducible repeat (first | apply Kd.V_alloc | apply Kd.V_drewN | apply Kd.V_drew)); exact HO227.out) (by first | exact Kd.N_base ho0 | exact Kd.S_base ho0 | exact Kd.R_base ho0) hb); have n3_ := Aside0.mk (Kd.N_lower (Kd.N_mono (ok' := fun k_ => some k_ ≠ (.slice Ao10 t215.length co10 : Value).ownBlock ∧ some k_ ≠ (.slice Ao21 t218.length co21 : Value).ownBlock) (Kd.S_N (Kd.S_bound ho0)) (fun k_ hk_ => ⟨(Kd.fresh' (Kd.N_lt (by (with_reducible repeat (first | apply Kd.N_alloc | apply Kd.N_drewN | apply Kd.N_drew)); exact HO_0.out)) k_ hk_.2.1), (Kd.fresh' (Kd.R_lt (by (with_reducible repeat (first | apply Kd.R_alloc | apply Kd.R_drewN | apply Kd.R_drew)); exact HO_5.out)) k_ hk_.2.1)⟩)) (below_size (by repeat (first | (with_reducible first | exact HB.out | apply below_alloc | apply pw_below_drewN | apply below_drew1) | exact HB.out)))); have n4_ := Aside0.mk (below_step (by repeat (first | (with_reducible first | exact HB.out | apply below_alloc | apply pw_below_drewN | apply below_drew1) | exact HB.out)) hb); clear HO_0; clear HO_5; clear HO227; clear HB; have HO_0 := n0_; have HO_5 := n1_; have HO227 := n2_; have HO232 := n3_; have HB := n4_; clear n0_ n1_ n2_ n3_ n4_; (try clear hb); (try clear hb2); (try clear hk); (try clear hi); (try clear ho0)))
              (try simp only [Act.put, List.setIfInBounds_toArray, List.set_cons_zero, List.set_cons_succ])
              go_cut [67] (fun v67 wc => ∃ (kq : Nat) (x67_18 : Bool), v67 = .bool x67_18 ∧ Aside0 (tattinglaw44_JournalTorn.j1 kq t215 a1 t228 t229 t230 x67_18 = some r) ∧ Aside0 (kq ≤ kj6) ∧ Aside0 (Kd.N k88 88 wc w.heap.size (fun k_ => some k_ ≠ (v231 : Value).ownBlock) (.slice Ao10 t215.length co10) t215) ∧ Aside0 (Kd.N k88 88 wc w.heap.size (fun k_ => some k_ ≠ ((.slice Ao10 t215.length co10) : Value).ownBlock) v231 t228) ∧ Aside0 (Below w.heap.size w wc))
              case first =>
                have H := HC19.out
                clear HC19
                by_cases c23 : (t228.length : Int) > (t215.length : Int)
                · rw [if_pos c23] at H
                  have c23b0 : decide ((t215.length : Int) < (t228.length : Int)) = true := decide_eq_true c23
                  have c23b1 : decide (t215.length < t228.length) = true := decide_eq_true (Int.ofNat_lt.mp c23)
                  clear c23
                  (first | rw [c23b0] | (simp only [i64_w, i32_w]; rw [c23b0]) | skip)
                  have H' := Aside0.mk H
                  clear H
                  obtain ⟨Ao24, co24, eo24⟩ := Kd.N_slice HO232.out
                  subst eo24
                  go_wp2
                  go_meet
                  case rel => exact ⟨_, (true), (by first | rfl | (simp; done) | (simp [*]; done)), H', ⟨by have := HJ6.out; first | omega | exact Nat.le_refl _⟩, ⟨by (with_reducible repeat (first | apply Kd.N_alloc | apply Kd.N_drewN | apply Kd.N_drew)); exact Kd.N_mono HO_0.out (fun _ hk => hk.2)⟩, ⟨by (with_reducible repeat (first | apply Kd.N_alloc | apply Kd.N_drewN | apply Kd.N_drew)); exact Kd.N_mono HO232.out (fun _ hk => hk.1)⟩, ⟨by repeat (first | (with_reducible first | exact HB.out | apply below_alloc | apply pw_below_drewN | apply below_drew1) | exact HB.out)⟩⟩
                · rw [if_neg c23] at H
                  have c23b0 : decide ((t215.length : Int) < (t228.length : Int)) = false := decide_eq_false c23
                  have c23b1 : decide (t215.length < t228.length) = false := decide_eq_false (fun h => c23 (Int.ofNat_lt.mpr h))
                  clear c23
                  (first | rw [c23b0] | (simp only [i64_w, i32_w]; rw [c23b0]) | skip)
                  by_cases c25 : 0 ≤ (t228.length : Int)
                  · rw [if_pos c25] at H
                    have c25b0 := eq_true c25
                    have c25b1 : decide (0 ≤ (t228.length : Int)) = true := decide_eq_true c25
                    clear c25
                    by_cases c26 : (t228.length : Int) ≤ (t215.length : Int)
                    · rw [if_pos c26] at H
                      have c26b0 := eq_true c26
                      have c26b1 : decide ((t228.length : Int) ≤ (t215.length : Int)) = true := decide_eq_true c26
                      clear c26
                      obtain ⟨y233, hy233⟩ : ∃ y_ : List (S88), y_ = (t215.take ((t228.length : Int) : Int).toNat) := ⟨_, rfl⟩
                      replace H : ((tattingref43_Same.f kj6 t228 y233).bind fun t238 => (if t238 = true then (tattinglaw44_JournalTorn.j1 kj6 t215 a1 t228 t229 t230 (decide (t229 > a1))) else (tattinglaw44_JournalTorn.j1 kj6 t215 a1 t228 t229 t230 true))) = some r := by first | (rw [hy233]; with_reducible exact H) | (have H2_ := (Option.bind_some _ _).symm.trans H; rw [hy233]; with_reducible exact H2_) | (have H2_ := (Option.bind_some _ _).symm.trans H; with_reducible exact H2_) | with_reducible exact H | (rw [hy233]; exact H) | exact H
                      have Ny233 := Aside0.mk hy233
                      clear hy233
                      replace H := Option.bind_eq_some_iff.mp H
                      obtain ⟨t238, A270, H⟩ := H
                      replace H : (if t238 = true then (tattinglaw44_JournalTorn.j1 kj6 t215 a1 t228 t229 t230 (decide (t229 > a1))) else (tattinglaw44_JournalTorn.j1 kj6 t215 a1 t228 t229 t230 true)) = some r := H
                      have A27 := Aside0.mk A270
                      clear A270
                      by_cases c28 : t238 = true
                      · subst c28
                        have H1 : (tattinglaw44_JournalTorn.j1 kj6 t215 a1 t228 t229 t230 (decide (t229 > a1))) = some r := by rw [if_pos rfl] at H; exact H
                        clear H
                        have H := H1
                        clear H1
                        have H' := Aside0.mk H
                        clear H
                        obtain ⟨Ao29, co29, eo29⟩ := Kd.N_slice HO232.out
                        subst eo29
                        have q30 : ((t228.length : Int) : Int) ≤ ((t215.length : Int) : Int) := of_decide_eq_true (by first | (with_reducible assumption) | assumption)
                        obtain ⟨i030, hi030, _, hsz30, _⟩ := info_parts info88
                        have hroom30 : t215.length ≤ co10 := (Kd.N_reads' HO_0.out).2.1
                        have hC30 : Kd.F k88 _ _ Ao10 t215.length t215 := (Kd.V_at (base := w.heap.size) (Kd.N_V HO_0.out)).2.2
                        have hcut30 := cut_to (P := Try.prog) 38 88 .i64 Try.underlying38 hi030 Ao10 t215.length co10 (t228.length : Int) (of_decide_eq_true (by first | (with_reducible assumption) | assumption)) q30 hroom30
                        have hr30 := Kd.F_take (m := ((t228.length : Int) : Int).toNat) hC30 (by omega)
                        have hy30 : y233.length = ((t228.length : Int) : Int).toNat := (by rw [Ny233.out, List.length_take]; omega)
                        rw [← Ny233.out] at hr30
                        rw [← hy30] at hcut30
                        have HO237 := Aside0.mk (show Kd.V k88 88 _ w.heap.size _ (.slice Ao10 y233.length co10) y233 from Kd.V_mk (by omega) hr30)
                        have HC237 := Aside0.mk (show y233.length ≤ co10 from by omega)
                        clear hr30 hC30 hroom30 hi030 hsz30
                        have KY30 := Aside0.mk hy30
                        clear hy30
                        replace q30 := eq_true q30
                        go_wp2_with (first | (go_at_call 23; (with_reducible refine (tattingref43_Same.calls kj6 _ _ t228 _ _ y233 true _ ?side1 ?side2 ?side3 ?side4 A27.out).mono ?_); (case side1 => repeat (first | exact (Kd.N_reads' HO232.out).2.2 | (with_reducible refine Kd.C_alloc ?_ _) | (with_reducible refine Kd.C_drewN ?_ _) | (with_reducible refine Kd.C_drew ?_))); (case side2 => exact (Kd.N_reads' HO232.out).2.1); (case side3 => repeat (first | exact (Kd.V_reads' HO237.out).2.2 | (with_reducible refine Kd.C_alloc ?_ _) | (with_reducible refine Kd.C_drewN ?_ _) | (with_reducible refine Kd.C_drew ?_))); (case side4 => exact (Kd.V_reads' HO237.out).2.1); rintro e w31 ⟨rfl, hb⟩; have n0_ := Aside0.mk (Kd.N_below (by (with_reducible repeat (first | apply Kd.N_alloc | apply Kd.N_drewN | apply Kd.N_drew)); exact HO_0.out) hb); have n1_ := Aside0.mk (Kd.R_below (by (with_reducible repeat (first | apply Kd.R_alloc | apply Kd.R_drewN | apply Kd.R_drew)); exact HO_5.out) hb); have n2_ := Aside0.mk (Kd.V_below (by (with_reducible repeat (first | apply Kd.V_alloc | apply Kd.V_drewN | apply Kd.V_drew)); exact HO227.out) hb); have n3_ := Aside0.mk (Kd.N_below (by (with_reducible repeat (first | apply Kd.N_alloc | apply Kd.N_drewN | apply Kd.N_drew)); exact HO232.out) hb); have n4_ := Aside0.mk (Kd.V_below (by (with_reducible repeat (first | apply Kd.V_alloc | apply Kd.V_drewN | apply Kd.V_drew)); exact HO237.out) hb); have n5_ := Aside0.mk (below_step (by repeat (first | (with_reducible first | exact HB.out | apply below_alloc | apply pw_below_drewN | apply below_drew1) | exact HB.out)) hb); clear HO_0; clear HO_5; clear HO227; clear HO232; clear HO237; clear HB; have HO_0 := n0_; have HO_5 := n1_; have HO227 := n2_; have HO232 := n3_; have HO237 := n4_; have HB := n5_; clear n0_ n1_ n2_ n3_ n4_ n5_; (try clear hb); (try clear hb2); (try clear hk); (try clear hi)))
                        go_meet
                        case rel => exact ⟨_, (decide (t229 > a1)), (by first | rfl | (simp; done) | (simp [*]; done)), H', ⟨by have := HJ6.out; first | omega | exact Nat.le_refl _⟩, ⟨by (with_reducible repeat (first | apply Kd.N_alloc | apply Kd.N_drewN | apply Kd.N_drew)); exact Kd.N_mono HO_0.out (fun _ hk => hk.2)⟩, ⟨by (with_reducible repeat (first | apply Kd.N_alloc | apply Kd.N_drewN | apply Kd.N_drew)); exact Kd.N_mono HO232.out (fun _ hk => hk.1)⟩, ⟨by repeat (first | (with_reducible first | exact HB.out | apply below_alloc | apply pw_below_drewN | apply below_drew1) | exact HB.out)⟩⟩
                      · replace c28 := Bool.eq_false_iff.mpr c28
                        subst c28
                        have H1 : (tattinglaw44_JournalTorn.j1 kj6 t215 a1 t228 t229 t230 true) = some r := by rw [if_neg (show ¬ (false = true) by decide)] at H; exact H
                        clear H
                        have H := H1
                        clear H1
                        have H' := Aside0.mk H
                        clear H
                        obtain ⟨Ao32, co32, eo32⟩ := Kd.N_slice HO232.out
                        subst eo32
                        have q33 : ((t228.length : Int) : Int) ≤ ((t215.length : Int) : Int) := of_decide_eq_true (by first | (with_reducible assumption) | assumption)
                        obtain ⟨i033, hi033, _, hsz33, _⟩ := info_parts info88
                        have hroom33 : t215.length ≤ co10 := (Kd.N_reads' HO_0.out).2.1
                        have hC33 : Kd.F k88 _ _ Ao10 t215.length t215 := (Kd.V_at (base := w.heap.size) (Kd.N_V HO_0.out)).2.2
                        have hcut33 := cut_to (P := Try.prog) 38 88 .i64 Try.underlying38 hi033 Ao10 t215.length co10 (t228.length : Int) (of_decide_eq_true (by first | (with_reducible assumption) | assumption)) q33 hroom33
                        have hr33 := Kd.F_take (m := ((t228.length : Int) : Int).toNat) hC33 (by omega)
                        have hy33 : y233.length = ((t228.length : Int) : Int).toNat := (by rw [Ny233.out, List.length_take]; omega)
                        rw [← Ny233.out] at hr33
                        rw [← hy33] at hcut33
                        have HO237 := Aside0.mk (show Kd.V k88 88 _ w.heap.size _ (.slice Ao10 y233.length co10) y233 from Kd.V_mk (by omega) hr33)
                        have HC237 := Aside0.mk (show y233.length ≤ co10 from by omega)
                        clear hr33 hC33 hroom33 hi033 hsz33
                        have KY33 := Aside0.mk hy33
                        clear hy33
                        replace q33 := eq_true q33
                        go_wp2_with (first | (go_at_call 23; (with_reducible refine (tattingref43_Same.calls kj6 _ _ t228 _ _ y233 false _ ?side1 ?side2 ?side3 ?side4 A27.out).mono ?_); (case side1 => repeat (first | exact (Kd.N_reads' HO232.out).2.2 | (with_reducible refine Kd.C_alloc ?_ _) | (with_reducible refine Kd.C_drewN ?_ _) | (with_reducible refine Kd.C_drew ?_))); (case side2 => exact (Kd.N_reads' HO232.out).2.1); (case side3 => repeat (first | exact (Kd.V_reads' HO237.out).2.2 | (with_reducible refine Kd.C_alloc ?_ _) | (with_reducible refine Kd.C_drewN ?_ _) | (with_reducible refine Kd.C_drew ?_))); (case side4 => exact (Kd.V_reads' HO237.out).2.1); rintro e w34 ⟨rfl, hb⟩; have n0_ := Aside0.mk (Kd.N_below (by (with_reducible repeat (first | apply Kd.N_alloc | apply Kd.N_drewN | apply Kd.N_drew)); exact HO_0.out) hb); have n1_ := Aside0.mk (Kd.R_below (by (with_reducible repeat (first | apply Kd.R_alloc | apply Kd.R_drewN | apply Kd.R_drew)); exact HO_5.out) hb); have n2_ := Aside0.mk (Kd.V_below (by (with_reducible repeat (first | apply Kd.V_alloc | apply Kd.V_drewN | apply Kd.V_drew)); exact HO227.out) hb); have n3_ := Aside0.mk (Kd.N_below (by (with_reducible repeat (first | apply Kd.N_alloc | apply Kd.N_drewN | apply Kd.N_drew)); exact HO232.out) hb); have n4_ := Aside0.mk (Kd.V_below (by (with_reducible repeat (first | apply Kd.V_alloc | apply Kd.V_drewN | apply Kd.V_drew)); exact HO237.out) hb); have n5_ := Aside0.mk (below_step (by repeat (first | (with_reducible first | exact HB.out | apply below_alloc | apply pw_below_drewN | apply below_drew1) | exact HB.out)) hb); clear HO_0; clear HO_5; clear HO227; clear HO232; clear HO237; clear HB; have HO_0 := n0_; have HO_5 := n1_; have HO227 := n2_; have HO232 := n3_; have HO237 := n4_; have HB := n5_; clear n0_ n1_ n2_ n3_ n4_ n5_; (try clear hb); (try clear hb2); (try clear hk); (try clear hi)))
                        go_meet
                        case rel => exact ⟨_, (true), (by first | rfl | (simp; done) | (simp [*]; done)), H', ⟨by have := HJ6.out; first | omega | exact Nat.le_refl _⟩, ⟨by (with_reducible repeat (first | apply Kd.N_alloc | apply Kd.N_drewN | apply Kd.N_drew)); exact Kd.N_mono HO_0.out (fun _ hk => hk.2)⟩, ⟨by (with_reducible repeat (first | apply Kd.N_alloc | apply Kd.N_drewN | apply Kd.N_drew)); exact Kd.N_mono HO232.out (fun _ hk => hk.1)⟩, ⟨by repeat (first | (with_reducible first | exact HB.out | apply below_alloc | apply pw_below_drewN | apply below_drew1) | exact HB.out)⟩⟩
                    · rw [if_neg c26] at H
                      exact absurd H (by simp)
                  · rw [if_neg c25] at H
                    exact absurd H (by simp)
              case rest =>
                clear HC19
                try clear c1
                try clear c2
                try clear p2
                try clear q2
                try clear q3
                try clear c4
                try clear c7
                try clear c12
                try clear c12b0
                try clear c12b1
                try clear c13
                try clear c13b0
                try clear c15
                try clear c16
                try clear c16b0
                try clear c16b1
                try clear c17
                try clear c17b0
                try clear c17b1
                try clear c18
                try clear c19
                try clear c20
                try clear q20
                try clear c21
                try clear c23
                try clear c23b0
                try clear c23b1
                try clear c25
                try clear c25b0
                try clear c25b1
                try clear c26
                try clear c26b0
                try clear c26b1
                try clear c28
                try clear q30
                try clear q33
                try clear p2
                try clear q20
                try clear q30
                try clear q33
                obtain ⟨kq, x67_18, rfl, HA, HJ18, HO_0, HO_8, HB⟩ := hcut
                cases kq with
                | zero => exact absurd HA.out (by simp [tattinglaw44_JournalTorn.j1])
                | succ kj18 =>
                  have H := HA.out
                  clear HA
                  simp only [tattinglaw44_JournalTorn.j1] at H
                  by_cases c35 : x67_18 = true
                  · subst c35
                    have H1 : (some false) = some r := by rw [if_pos rfl] at H; exact H
                    clear H
                    have H := H1
                    clear H1
                    obtain rfl := Option.some.inj H
                    go_wp2
                    go_ret
                    exact ⟨by first | rfl | (simp [errW_none, errW_some] <;> rfl) | (simp [*, errW_none, errW_some] <;> rfl), by repeat (first | (with_reducible first | exact HB.out | apply below_alloc | apply pw_below_drewN | apply below_drew1) | exact HB.out)⟩
                  · replace c35 := Bool.eq_false_iff.mpr c35
                    subst c35
                    have H1 : ((journal_Put.f kj18 t228).bind fun bt239 => (if (bt239.1.length : Int) = t229 then (if (t228.length : Int) < (t215.length : Int) then (if 0 ≤ (wrap64 ((t228.length : Int) + 1)) then (if (wrap64 ((t228.length : Int) + 1)) ≤ (t215.length : Int) then ((journal_Put.f kj18 (t215.take ((wrap64 ((t228.length : Int) + 1)) : Int).toNat)).bind fun bt249 => (if (bt249.1.length : Int) ≤ a1 then (some false) else (if ((t230 == 0) == (t229 == a1)) = true then (if t230 = 0 then (some true) else (some (t230 == 10))) else (some false)))) else (none)) else (none)) else (if ((t230 == 0) == (t229 == a1)) = true then (if t230 = 0 then (some true) else (some (t230 == 10))) else (some false))) else (some false))) = some r := by rw [if_neg (show ¬ (false = true) by decide)] at H; exact H
                    clear H
                    have H := H1
                    clear H1
                    replace H := Option.bind_eq_some_iff.mp H
                    obtain ⟨⟨t239, t240, t241⟩, A360, H⟩ := H
                    replace H : (if (t239.length : Int) = t229 then (if (t228.length : Int) < (t215.length : Int) then (if 0 ≤ (wrap64 ((t228.length : Int) + 1)) then (if (wrap64 ((t228.length : Int) + 1)) ≤ (t215.length : Int) then ((journal_Put.f kj18 (t215.take ((wrap64 ((t228.length : Int) + 1)) : Int).toNat)).bind fun bt249 => (if (bt249.1.length : Int) ≤ a1 then (some false) else (if ((t230 == 0) == (t229 == a1)) = true then (if t230 = 0 then (some true) else (some (t230 == 10))) else (some false)))) else (none)) else (none)) else (if ((t230 == 0) == (t229 == a1)) = true then (if t230 = 0 then (some true) else (some (t230 == 10))) else (some false))) else (some false)) = some r := H
                    have A36 := Aside0.mk A360
                    clear A360
                    by_cases c37 : (t239.length : Int) = t229
                    · rw [if_pos c37] at H
                      have c37b0 : ((t239.length : Int) == t229) = true := beq_iff_eq.mpr c37
                      have c37b1 : ((t239.length : Int) != t229) = false := bne_eq_false_iff_eq.mpr c37
                      clear c37
                      by_cases c38 : (t228.length : Int) < (t215.length : Int)
                      · rw [if_pos c38] at H
                        have c38b0 : decide ((t228.length : Int) < (t215.length : Int)) = true := decide_eq_true c38
                        have c38b1 : decide (t228.length < t215.length) = true := decide_eq_true (Int.ofNat_lt.mp c38)
                        clear c38
                        obtain ⟨ji39, hji39⟩ : ∃ j_ : Int, (wrap64 ((t228.length : Int) + 1)) = j_ := ⟨_, rfl⟩
                        replace H : (if 0 ≤ (ji39) then (if (ji39) ≤ (t215.length : Int) then ((journal_Put.f kj18 (t215.take ((ji39) : Int).toNat)).bind fun bt249 => (if (bt249.1.length : Int) ≤ a1 then (some false) else (if ((t230 == 0) == (t229 == a1)) = true then (if t230 = 0 then (some true) else (some (t230 == 10))) else (some false)))) else (none)) else (none)) = some r := by first | (rw [hji39] at H; exact H) | (simp only [hji39] at H ⊢; exact H)
                        (try rw [hji39] at A36)
                        have hji39w : (IntKind.i64.wrap ((t228.length : Int) + 1)) = ji39 := (i64_w _).trans hji39
                        by_cases c40 : 0 ≤ (ji39)
                        · rw [if_pos c40] at H
                          have c40b0 := eq_true c40
                          have c40b1 : decide (0 ≤ (ji39)) = true := decide_eq_true c40
                          clear c40
                          by_cases c41 : (ji39) ≤ (t215.length : Int)
                          · rw [if_pos c41] at H
                            have c41b0 := eq_true c41
                            have c41b1 : decide ((ji39) ≤ (t215.length : Int)) = true := decide_eq_true c41
                            clear c41
                            obtain ⟨y244, hy244⟩ : ∃ y_ : List (S88), y_ = (t215.take ((ji39) : Int).toNat) := ⟨_, rfl⟩
                            replace H : ((journal_Put.f kj18 y244).bind fun bt249 => (if (bt249.1.length : Int) ≤ a1 then (some false) else (if ((t230 == 0) == (t229 == a1)) = true then (if t230 = 0 then (some true) else (some (t230 == 10))) else (some false)))) = some r := by first | (rw [hy244]; with_reducible exact H) | (have H2_ := (Option.bind_some _ _).symm.trans H; rw [hy244]; with_reducible exact H2_) | (have H2_ := (Option.bind_some _ _).symm.trans H; with_reducible exact H2_) | with_reducible exact H | (rw [hy244]; exact H) | exact H
                            have Ny244 := Aside0.mk hy244
                            clear hy244
                            replace H := Option.bind_eq_some_iff.mp H
                            obtain ⟨⟨t249, t250, t251⟩, A420, H⟩ := H
                            replace H : (if (t249.length : Int) ≤ a1 then (some false) else (if ((t230 == 0) == (t229 == a1)) = true then (if t230 = 0 then (some true) else (some (t230 == 10))) else (some false))) = some r := H
                            have A42 := Aside0.mk A420
                            clear A420
                            by_cases c43 : (t249.length : Int) ≤ a1
                            · rw [if_pos c43] at H
                              have c43b0 : decide ((t249.length : Int) ≤ a1) = true := decide_eq_true c43
                              clear c43
                              obtain rfl := Option.some.inj H
                              obtain ⟨Ao44, co44, eo44⟩ := Kd.N_slice HO_8.out
                              subst eo44
                              go_wp2_with (first | ((with_reducible refine gate_callee (f := 20) rfl ?_); refine goesL_ (some 70) rfl rfl Try.func20 (by kernel_rfl) rfl #[.slice Ao44 t228.length co44] rfl (by (try simp only [List.map_toArray, List.map_cons, List.map_nil]); first | done | rfl | (simp only [List.length_drop, List.length_take]; rfl) | (exact congrArg (fun n_ : Nat => (#[Value.slice _ n_ _] : Array Value)) (by simp only [List.length_take, List.length_drop]; omega))) ?_; (with_reducible refine (journal_Put.calls kj18 _ _ t228 t239 t240 t241 _ ?side1 ?side2 A36.out).mono ?_); (case side1 => repeat (first | exact (Kd.N_reads' HO_8.out).2.2 | (with_reducible refine Kd.C_alloc ?_ _) | (with_reducible refine Kd.C_drewN ?_ _) | (with_reducible refine Kd.C_drew ?_))); (case side2 => exact (Kd.N_reads' HO_8.out).2.1); rintro e w45 ⟨v242, rfl, ho0, hb⟩; refine ⟨_, rfl, ?_⟩; have n0_ := Aside0.mk (Kd.N_elder' (by (with_reducible repeat (first | apply Kd.N_alloc | apply Kd.N_drewN | apply Kd.N_drew)); exact HO_0.out) (Kd.R_base ho0) hb); have n1_ := Aside0.mk (Kd.N_elder' (by (with_reducible repeat (first | apply Kd.N_alloc | apply Kd.N_drewN | apply Kd.N_drew)); exact HO_8.out) (Kd.R_base ho0) hb); have n2_ := Aside0.mk (Kd.R_lower ho0 (below_size (by repeat (first | (with_reducible first | exact HB.out | apply below_alloc | apply pw_below_drewN | apply below_drew1) | exact HB.out)))); have n3_ := Aside0.mk (below_step (by repeat (first | (with_reducible first | exact HB.out | apply below_alloc | apply pw_below_drewN | apply below_drew1) | exact HB.out)) hb); clear HO_0; clear HO_8; clear HB; have HO_0 := n0_; have HO_8 := n1_; have HO243 := n2_; have HB := n3_; clear n0_ n1_ n2_ n3_; (try clear hb); (try clear hb2); (try clear hk); (try clear hi); (try clear ho0); obtain ⟨Ao46, co46, eo46⟩ := Kd.R_slice HO243.out; subst eo46; have q47 : ((ji39) : Int) ≤ ((t215.length : Int) : Int) := of_decide_eq_true (by first | (with_reducible assumption) | assumption); obtain ⟨i047, hi047, _, hsz47, _⟩ := info_parts info88; have hroom47 : t215.length ≤ co10 := (Kd.N_reads' HO_0.out).2.1; have hC47 : Kd.F k88 _ _ Ao10 t215.length t215 := (Kd.V_at (base := w.heap.size) (Kd.N_V HO_0.out)).2.2; have hcut47 := cut_to (P := Try.prog) 38 88 .i64 Try.underlying38 hi047 Ao10 t215.length co10 (ji39) (of_decide_eq_true (by first | (with_reducible assumption) | assumption)) q47 hroom47; have hr47 := Kd.F_take (m := ((ji39) : Int).toNat) hC47 (by omega); have hy47 : y244.length = ((ji39) : Int).toNat := (by rw [Ny244.out, List.length_take]; omega); rw [← Ny244.out] at hr47; rw [← hy47] at hcut47; have HO248 := Aside0.mk (show Kd.V k88 88 _ w.heap.size _ (.slice Ao10 y244.length co10) y244 from Kd.V_mk (by omega) hr47); have HC248 := Aside0.mk (show y244.length ≤ co10 from by omega); clear hr47 hC47 hroom47 hi047 hsz47; have KY47 := Aside0.mk hy47; clear hy47; replace q47 := eq_true q47) | ((with_reducible refine gate_callee (f := 20) rfl ?_); refine goesL_ (some 89) rfl rfl Try.func20 (by kernel_rfl) rfl #[.slice Ao10 y244.length co10] rfl (by (try simp only [List.map_toArray, List.map_cons, List.map_nil]); first | done | rfl | (simp only [List.length_drop, List.length_take]; rfl) | (exact congrArg (fun n_ : Nat => (#[Value.slice _ n_ _] : Array Value)) (by simp only [List.length_take, List.length_drop]; omega))) ?_; (with_reducible refine (journal_Put.calls kj18 _ _ y244 t249 t250 t251 _ ?side1 ?side2 A42.out).mono ?_); (case side1 => repeat (first | exact (Kd.V_reads' HO248.out).2.2 | (with_reducible refine Kd.C_alloc ?_ _) | (with_reducible refine Kd.C_drewN ?_ _) | (with_reducible refine Kd.C_drew ?_))); (case side2 => exact (Kd.V_reads' HO248.out).2.1); rintro e w48 ⟨v252, rfl, ho0, hb⟩; refine ⟨_, rfl, ?_⟩; have n0_ := Aside0.mk (Kd.N_elder' (by (with_reducible repeat (first | apply Kd.N_alloc | apply Kd.N_drewN | apply Kd.N_drew)); exact HO_0.out) (Kd.R_base ho0) hb); have n1_ := Aside0.mk (Kd.N_elder' (by (with_reducible repeat (first | apply Kd.N_alloc | apply Kd.N_drewN | apply Kd.N_drew)); exact HO_8.out) (Kd.R_base ho0) hb); have n2_ := Aside0.mk (Kd.R_elder' (by (with_reducible repeat (first | apply Kd.R_alloc | apply Kd.R_drewN | apply Kd.R_drew)); exact HO243.out) (Kd.R_base ho0) hb); have n3_ := Aside0.mk (Kd.V_elder' (by (with_reducible repeat (first | apply Kd.V_alloc | apply Kd.V_drewN | apply Kd.V_drew)); exact HO248.out) (Kd.R_base ho0) hb); have n4_ := Aside0.mk (Kd.R_lower (Kd.R_new' ho0 (Kd.R_lt (by (with_reducible repeat (first | apply Kd.R_alloc | apply Kd.R_drewN | apply Kd.R_drew)); exact HO243.out))) (below_size (by repeat (first | (with_reducible first | exact HB.out | apply below_alloc | apply pw_below_drewN | apply below_drew1) | exact HB.out)))); have n5_ := Aside0.mk (below_step (by repeat (first | (with_reducible first | exact HB.out | apply below_alloc | apply pw_below_drewN | apply below_drew1) | exact HB.out)) hb); clear HO_0; clear HO_8; clear HO243; clear HO248; clear HB; have HO_0 := n0_; have HO_8 := n1_; have HO243 := n2_; have HO248 := n3_; have HO253 := n4_; have HB := n5_; clear n0_ n1_ n2_ n3_ n4_ n5_; (try clear hb); (try clear hb2); (try clear hk); (try clear hi); (try clear ho0); obtain ⟨Ao49, co49, eo49⟩ := Kd.R_slice HO253.out; subst eo49))
                              go_ret
                              exact ⟨by first | rfl | (simp [errW_none, errW_some] <;> rfl) | (simp only [← hji39]; first | rfl | (simp [errW_none, errW_some] <;> rfl)) | (simp [*, errW_none, errW_some] <;> rfl), by repeat (first | (with_reducible first | exact HB.out | apply below_alloc | apply pw_below_drewN | apply below_drew1) | exact HB.out)⟩
                            · rw [if_neg c43] at H
                              have c43b0 : decide ((t249.length : Int) ≤ a1) = false := decide_eq_false c43
                              clear c43
                              cases hq1_ : (t230 == 0)
                              · cases hq2_ : (t229 == a1)
                                · have c50 : ((t230 == 0) == (t229 == a1)) = true := by rw [hq1_, hq2_]; decide
                                  rw [if_pos c50] at H
                                  have c50b0 : ((t230 == 0) == (t229 == a1)) = true := c50
                                  (try (have c50b1 : decide ((t230 == 0) = (t229 == a1)) = true := by simpa using c50))
                                  (try (have c50b2 : ((t230 == 0) == (t229 == a1)) = true := by simpa using c50))
                                  clear c50
                                  by_cases c51 : t230 = 0
                                  · exact absurd hq1_ (by simp [c51])
                                  · rw [if_neg c51] at H
                                    have c51b0 : (t230 == 0) = false := beq_eq_false_iff_ne.mpr c51
                                    have c51b1 : (t230 != 0) = true := bne_iff_ne.mpr c51
                                    obtain rfl := Option.some.inj H
                                    obtain ⟨Ao58, co58, eo58⟩ := Kd.N_slice HO_8.out
                                    subst eo58
                                    go_wp2_with (first | ((with_reducible refine gate_callee (f := 20) rfl ?_); refine goesL_ (some 70) rfl rfl Try.func20 (by kernel_rfl) rfl #[.slice Ao58 t228.length co58] rfl (by (try simp only [List.map_toArray, List.map_cons, List.map_nil]); first | done | rfl | (simp only [List.length_drop, List.length_take]; rfl) | (exact congrArg (fun n_ : Nat => (#[Value.slice _ n_ _] : Array Value)) (by simp only [List.length_take, List.length_drop]; omega))) ?_; (with_reducible refine (journal_Put.calls kj18 _ _ t228 t239 t240 t241 _ ?side1 ?side2 A36.out).mono ?_); (case side1 => repeat (first | exact (Kd.N_reads' HO_8.out).2.2 | (with_reducible refine Kd.C_alloc ?_ _) | (with_reducible refine Kd.C_drewN ?_ _) | (with_reducible refine Kd.C_drew ?_))); (case side2 => exact (Kd.N_reads' HO_8.out).2.1); rintro e w59 ⟨v242, rfl, ho0, hb⟩; refine ⟨_, rfl, ?_⟩; have n0_ := Aside0.mk (Kd.N_elder' (by (with_reducible repeat (first | apply Kd.N_alloc | apply Kd.N_drewN | apply Kd.N_drew)); exact HO_0.out) (Kd.R_base ho0) hb); have n1_ := Aside0.mk (Kd.N_elder' (by (with_reducible repeat (first | apply Kd.N_alloc | apply Kd.N_drewN | apply Kd.N_drew)); exact HO_8.out) (Kd.R_base ho0) hb); have n2_ := Aside0.mk (Kd.R_lower ho0 (below_size (by repeat (first | (with_reducible first | exact HB.out | apply below_alloc | apply pw_below_drewN | apply below_drew1) | exact HB.out)))); have n3_ := Aside0.mk (below_step (by repeat (first | (with_reducible first | exact HB.out | apply below_alloc | apply pw_below_drewN | apply below_drew1) | exact HB.out)) hb); clear HO_0; clear HO_8; clear HB; have HO_0 := n0_; have HO_8 := n1_; have HO243 := n2_; have HB := n3_; clear n0_ n1_ n2_ n3_; (try clear hb); (try clear hb2); (try clear hk); (try clear hi); (try clear ho0); obtain ⟨Ao60, co60, eo60⟩ := Kd.R_slice HO243.out; subst eo60; have q61 : ((ji39) : Int) ≤ ((t215.length : Int) : Int) := of_decide_eq_true (by first | (with_reducible assumption) | assumption); obtain ⟨i061, hi061, _, hsz61, _⟩ := info_parts info88; have hroom61 : t215.length ≤ co10 := (Kd.N_reads' HO_0.out).2.1; have hC61 : Kd.F k88 _ _ Ao10 t215.length t215 := (Kd.V_at (base := w.heap.size) (Kd.N_V HO_0.out)).2.2; have hcut61 := cut_to (P := Try.prog) 38 88 .i64 Try.underlying38 hi061 Ao10 t215.length co10 (ji39) (of_decide_eq_true (by first | (with_reducible assumption) | assumption)) q61 hroom61; have hr61 := Kd.F_take (m := ((ji39) : Int).toNat) hC61 (by omega); have hy61 : y244.length = ((ji39) : Int).toNat := (by rw [Ny244.out, List.length_take]; omega); rw [← Ny244.out] at hr61; rw [← hy61] at hcut61; have HO248 := Aside0.mk (show Kd.V k88 88 _ w.heap.size _ (.slice Ao10 y244.length co10) y244 from Kd.V_mk (by omega) hr61); have HC248 := Aside0.mk (show y244.length ≤ co10 from by omega); clear hr61 hC61 hroom61 hi061 hsz61; have KY61 := Aside0.mk hy61; clear hy61; replace q61 := eq_true q61) | ((with_reducible refine gate_callee (f := 20) rfl ?_); refine goesL_ (some 89) rfl rfl Try.func20 (by kernel_rfl) rfl #[.slice Ao10 y244.length co10] rfl (by (try simp only [List.map_toArray, List.map_cons, List.map_nil]); first | done | rfl | (simp only [List.length_drop, List.length_take]; rfl) | (exact congrArg (fun n_ : Nat => (#[Value.slice _ n_ _] : Array Value)) (by simp only [List.length_take, List.length_drop]; omega))) ?_; (with_reducible refine (journal_Put.calls kj18 _ _ y244 t249 t250 t251 _ ?side1 ?side2 A42.out).mono ?_); (case side1 => repeat (first | exact (Kd.V_reads' HO248.out).2.2 | (with_reducible refine Kd.C_alloc ?_ _) | (with_reducible refine Kd.C_drewN ?_ _) | (with_reducible refine Kd.C_drew ?_))); (case side2 => exact (Kd.V_reads' HO248.out).2.1); rintro e w62 ⟨v252, rfl, ho0, hb⟩; refine ⟨_, rfl, ?_⟩; have n0_ := Aside0.mk (Kd.N_elder' (by (with_reducible repeat (first | apply Kd.N_alloc | apply Kd.N_drewN | apply Kd.N_drew)); exact HO_0.out) (Kd.R_base ho0) hb); have n1_ := Aside0.mk (Kd.N_elder' (by (with_reducible repeat (first | apply Kd.N_alloc | apply Kd.N_drewN | apply Kd.N_drew)); exact HO_8.out) (Kd.R_base ho0) hb); have n2_ := Aside0.mk (Kd.R_elder' (by (with_reducible repeat (first | apply Kd.R_alloc | apply Kd.R_drewN | apply Kd.R_drew)); exact HO243.out) (Kd.R_base ho0) hb); have n3_ := Aside0.mk (Kd.V_elder' (by (with_reducible repeat (first | apply Kd.V_alloc | apply Kd.V_drewN | apply Kd.V_drew)); exact HO248.out) (Kd.R_base ho0) hb); have n4_ := Aside0.mk (Kd.R_lower (Kd.R_new' ho0 (Kd.R_lt (by (with_reducible repeat (first | apply Kd.R_alloc | apply Kd.R_drewN | apply Kd.R_drew)); exact HO243.out))) (below_size (by repeat (first | (with_reducible first | exact HB.out | apply below_alloc | apply pw_below_drewN | apply below_drew1) | exact HB.out)))); have n5_ := Aside0.mk (below_step (by repeat (first | (with_reducible first | exact HB.out | apply below_alloc | apply pw_below_drewN | apply below_drew1) | exact HB.out)) hb); clear HO_0; clear HO_8; clear HO243; clear HO248; clear HB; have HO_0 := n0_; have HO_8 := n1_; have HO243 := n2_; have HO248 := n3_; have HO253 := n4_; have HB := n5_; clear n0_ n1_ n2_ n3_ n4_ n5_; (try clear hb); (try clear hb2); (try clear hk); (try clear hi); (try clear ho0); obtain ⟨Ao63, co63, eo63⟩ := Kd.R_slice HO253.out; subst eo63))
                                    go_ret
                                    exact ⟨by first | rfl | (simp [errW_none, errW_some] <;> rfl) | (simp only [← hji39]; first | rfl | (simp [errW_none, errW_some] <;> rfl)) | (simp [*, errW_none, errW_some] <;> rfl), by repeat (first | (with_reducible first | exact HB.out | apply below_alloc | apply pw_below_drewN | apply below_drew1) | exact HB.out)⟩
                                · have c50 : ¬ ((t230 == 0) == (t229 == a1)) = true := by rw [hq1_, hq2_]; decide
                                  rw [if_neg c50] at H
                                  have c50b0 : ((t230 == 0) == (t229 == a1)) = false := by simpa using c50
                                  (try (have c50b1 : decide ((t230 == 0) = (t229 == a1)) = false := by simpa using c50))
                                  (try (have c50b2 : ((t230 == 0) == (t229 == a1)) = false := by simpa using c50))
                                  (try (have c50b3 : ¬ ((t230 == 0) = (t229 == a1)) := by simpa using c50))
                                  clear c50
                                  obtain rfl := Option.some.inj H
                                  obtain ⟨Ao64, co64, eo64⟩ := Kd.N_slice HO_8.out
                                  subst eo64
                                  go_wp2_with (first | ((with_reducible refine gate_callee (f := 20) rfl ?_); refine goesL_ (some 70) rfl rfl Try.func20 (by kernel_rfl) rfl #[.slice Ao64 t228.length co64] rfl (by (try simp only [List.map_toArray, List.map_cons, List.map_nil]); first | done | rfl | (simp only [List.length_drop, List.length_take]; rfl) | (exact congrArg (fun n_ : Nat => (#[Value.slice _ n_ _] : Array Value)) (by simp only [List.length_take, List.length_drop]; omega))) ?_; (with_reducible refine (journal_Put.calls kj18 _ _ t228 t239 t240 t241 _ ?side1 ?side2 A36.out).mono ?_); (case side1 => repeat (first | exact (Kd.N_reads' HO_8.out).2.2 | (with_reducible refine Kd.C_alloc ?_ _) | (with_reducible refine Kd.C_drewN ?_ _) | (with_reducible refine Kd.C_drew ?_))); (case side2 => exact (Kd.N_reads' HO_8.out).2.1); rintro e w65 ⟨v242, rfl, ho0, hb⟩; refine ⟨_, rfl, ?_⟩; have n0_ := Aside0.mk (Kd.N_elder' (by (with_reducible repeat (first | apply Kd.N_alloc | apply Kd.N_drewN | apply Kd.N_drew)); exact HO_0.out) (Kd.R_base ho0) hb); have n1_ := Aside0.mk (Kd.N_elder' (by (with_reducible repeat (first | apply Kd.N_alloc | apply Kd.N_drewN | apply Kd.N_drew)); exact HO_8.out) (Kd.R_base ho0) hb); have n2_ := Aside0.mk (Kd.R_lower ho0 (below_size (by repeat (first | (with_reducible first | exact HB.out | apply below_alloc | apply pw_below_drewN | apply below_drew1) | exact HB.out)))); have n3_ := Aside0.mk (below_step (by repeat (first | (with_reducible first | exact HB.out | apply below_alloc | apply pw_below_drewN | apply below_drew1) | exact HB.out)) hb); clear HO_0; clear HO_8; clear HB; have HO_0 := n0_; have HO_8 := n1_; have HO243 := n2_; have HB := n3_; clear n0_ n1_ n2_ n3_; (try clear hb); (try clear hb2); (try clear hk); (try clear hi); (try clear ho0); obtain ⟨Ao66, co66, eo66⟩ := Kd.R_slice HO243.out; subst eo66; have q67 : ((ji39) : Int) ≤ ((t215.length : Int) : Int) := of_decide_eq_true (by first | (with_reducible assumption) | assumption); obtain ⟨i067, hi067, _, hsz67, _⟩ := info_parts info88; have hroom67 : t215.length ≤ co10 := (Kd.N_reads' HO_0.out).2.1; have hC67 : Kd.F k88 _ _ Ao10 t215.length t215 := (Kd.V_at (base := w.heap.size) (Kd.N_V HO_0.out)).2.2; have hcut67 := cut_to (P := Try.prog) 38 88 .i64 Try.underlying38 hi067 Ao10 t215.length co10 (ji39) (of_decide_eq_true (by first | (with_reducible assumption) | assumption)) q67 hroom67; have hr67 := Kd.F_take (m := ((ji39) : Int).toNat) hC67 (by omega); have hy67 : y244.length = ((ji39) : Int).toNat := (by rw [Ny244.out, List.length_take]; omega); rw [← Ny244.out] at hr67; rw [← hy67] at hcut67; have HO248 := Aside0.mk (show Kd.V k88 88 _ w.heap.size _ (.slice Ao10 y244.length co10) y244 from Kd.V_mk (by omega) hr67); have HC248 := Aside0.mk (show y244.length ≤ co10 from by omega); clear hr67 hC67 hroom67 hi067 hsz67; have KY67 := Aside0.mk hy67; clear hy67; replace q67 := eq_true q67) | ((with_reducible refine gate_callee (f := 20) rfl ?_); refine goesL_ (some 89) rfl rfl Try.func20 (by kernel_rfl) rfl #[.slice Ao10 y244.length co10] rfl (by (try simp only [List.map_toArray, List.map_cons, List.map_nil]); first | done | rfl | (simp only [List.length_drop, List.length_take]; rfl) | (exact congrArg (fun n_ : Nat => (#[Value.slice _ n_ _] : Array Value)) (by simp only [List.length_take, List.length_drop]; omega))) ?_; (with_reducible refine (journal_Put.calls kj18 _ _ y244 t249 t250 t251 _ ?side1 ?side2 A42.out).mono ?_); (case side1 => repeat (first | exact (Kd.V_reads' HO248.out).2.2 | (with_reducible refine Kd.C_alloc ?_ _) | (with_reducible refine Kd.C_drewN ?_ _) | (with_reducible refine Kd.C_drew ?_))); (case side2 => exact (Kd.V_reads' HO248.out).2.1); rintro e w68 ⟨v252, rfl, ho0, hb⟩; refine ⟨_, rfl, ?_⟩; have n0_ := Aside0.mk (Kd.N_elder' (by (with_reducible repeat (first | apply Kd.N_alloc | apply Kd.N_drewN | apply Kd.N_drew)); exact HO_0.out) (Kd.R_base ho0) hb); have n1_ := Aside0.mk (Kd.N_elder' (by (with_reducible repeat (first | apply Kd.N_alloc | apply Kd.N_drewN | apply Kd.N_drew)); exact HO_8.out) (Kd.R_base ho0) hb); have n2_ := Aside0.mk (Kd.R_elder' (by (with_reducible repeat (first | apply Kd.R_alloc | apply Kd.R_drewN | apply Kd.R_drew)); exact HO243.out) (Kd.R_base ho0) hb); have n3_ := Aside0.mk (Kd.V_elder' (by (with_reducible repeat (first | apply Kd.V_alloc | apply Kd.V_drewN | apply Kd.V_drew)); exact HO248.out) (Kd.R_base ho0) hb); have n4_ := Aside0.mk (Kd.R_lower (Kd.R_new' ho0 (Kd.R_lt (by (with_reducible repeat (first | apply Kd.R_alloc | apply Kd.R_drewN | apply Kd.R_drew)); exact HO243.out))) (below_size (by repeat (first | (with_reducible first | exact HB.out | apply below_alloc | apply pw_below_drewN | apply below_drew1) | exact HB.out)))); have n5_ := Aside0.mk (below_step (by repeat (first | (with_reducible first | exact HB.out | apply below_alloc | apply pw_below_drewN | apply below_drew1) | exact HB.out)) hb); clear HO_0; clear HO_8; clear HO243; clear HO248; clear HB; have HO_0 := n0_; have HO_8 := n1_; have HO243 := n2_; have HO248 := n3_; have HO253 := n4_; have HB := n5_; clear n0_ n1_ n2_ n3_ n4_ n5_; (try clear hb); (try clear hb2); (try clear hk); (try clear hi); (try clear ho0); obtain ⟨Ao69, co69, eo69⟩ := Kd.R_slice HO253.out; subst eo69))
                                  go_ret
                                  exact ⟨by first | rfl | (simp [errW_none, errW_some] <;> rfl) | (simp only [← hji39]; first | rfl | (simp [errW_none, errW_some] <;> rfl)) | (simp [*, errW_none, errW_some] <;> rfl), by repeat (first | (with_reducible first | exact HB.out | apply below_alloc | apply pw_below_drewN | apply below_drew1) | exact HB.out)⟩
                              · cases hq2_ : (t229 == a1)
                                · have c50 : ¬ ((t230 == 0) == (t229 == a1)) = true := by rw [hq1_, hq2_]; decide
                                  rw [if_neg c50] at H
                                  have c50b0 : ((t230 == 0) == (t229 == a1)) = false := by simpa using c50
                                  (try (have c50b1 : decide ((t230 == 0) = (t229 == a1)) = false := by simpa using c50))
                                  (try (have c50b2 : ((t230 == 0) == (t229 == a1)) = false := by simpa using c50))
                                  (try (have c50b3 : ¬ ((t230 == 0) = (t229 == a1)) := by simpa using c50))
                                  clear c50
                                  obtain rfl := Option.some.inj H
                                  obtain ⟨Ao64, co64, eo64⟩ := Kd.N_slice HO_8.out
                                  subst eo64
                                  go_wp2_with (first | ((with_reducible refine gate_callee (f := 20) rfl ?_); refine goesL_ (some 70) rfl rfl Try.func20 (by kernel_rfl) rfl #[.slice Ao64 t228.length co64] rfl (by (try simp only [List.map_toArray, List.map_cons, List.map_nil]); first | done | rfl | (simp only [List.length_drop, List.length_take]; rfl) | (exact congrArg (fun n_ : Nat => (#[Value.slice _ n_ _] : Array Value)) (by simp only [List.length_take, List.length_drop]; omega))) ?_; (with_reducible refine (journal_Put.calls kj18 _ _ t228 t239 t240 t241 _ ?side1 ?side2 A36.out).mono ?_); (case side1 => repeat (first | exact (Kd.N_reads' HO_8.out).2.2 | (with_reducible refine Kd.C_alloc ?_ _) | (with_reducible refine Kd.C_drewN ?_ _) | (with_reducible refine Kd.C_drew ?_))); (case side2 => exact (Kd.N_reads' HO_8.out).2.1); rintro e w65 ⟨v242, rfl, ho0, hb⟩; refine ⟨_, rfl, ?_⟩; have n0_ := Aside0.mk (Kd.N_elder' (by (with_reducible repeat (first | apply Kd.N_alloc | apply Kd.N_drewN | apply Kd.N_drew)); exact HO_0.out) (Kd.R_base ho0) hb); have n1_ := Aside0.mk (Kd.N_elder' (by (with_reducible repeat (first | apply Kd.N_alloc | apply Kd.N_drewN | apply Kd.N_drew)); exact HO_8.out) (Kd.R_base ho0) hb); have n2_ := Aside0.mk (Kd.R_lower ho0 (below_size (by repeat (first | (with_reducible first | exact HB.out | apply below_alloc | apply pw_below_drewN | apply below_drew1) | exact HB.out)))); have n3_ := Aside0.mk (below_step (by repeat (first | (with_reducible first | exact HB.out | apply below_alloc | apply pw_below_drewN | apply below_drew1) | exact HB.out)) hb); clear HO_0; clear HO_8; clear HB; have HO_0 := n0_; have HO_8 := n1_; have HO243 := n2_; have HB := n3_; clear n0_ n1_ n2_ n3_; (try clear hb); (try clear hb2); (try clear hk); (try clear hi); (try clear ho0); obtain ⟨Ao66, co66, eo66⟩ := Kd.R_slice HO243.out; subst eo66; have q67 : ((ji39) : Int) ≤ ((t215.length : Int) : Int) := of_decide_eq_true (by first | (with_reducible assumption) | assumption); obtain ⟨i067, hi067, _, hsz67, _⟩ := info_parts info88; have hroom67 : t215.length ≤ co10 := (Kd.N_reads' HO_0.out).2.1; have hC67 : Kd.F k88 _ _ Ao10 t215.length t215 := (Kd.V_at (base := w.heap.size) (Kd.N_V HO_0.out)).2.2; have hcut67 := cut_to (P := Try.prog) 38 88 .i64 Try.underlying38 hi067 Ao10 t215.length co10 (ji39) (of_decide_eq_true (by first | (with_reducible assumption) | assumption)) q67 hroom67; have hr67 := Kd.F_take (m := ((ji39) : Int).toNat) hC67 (by omega); have hy67 : y244.length = ((ji39) : Int).toNat := (by rw [Ny244.out, List.length_take]; omega); rw [← Ny244.out] at hr67; rw [← hy67] at hcut67; have HO248 := Aside0.mk (show Kd.V k88 88 _ w.heap.size _ (.slice Ao10 y244.length co10) y244 from Kd.V_mk (by omega) hr67); have HC248 := Aside0.mk (show y244.length ≤ co10 from by omega); clear hr67 hC67 hroom67 hi067 hsz67; have KY67 := Aside0.mk hy67; clear hy67; replace q67 := eq_true q67) | ((with_reducible refine gate_callee (f := 20) rfl ?_); refine goesL_ (some 89) rfl rfl Try.func20 (by kernel_rfl) rfl #[.slice Ao10 y244.length co10] rfl (by (try simp only [List.map_toArray, List.map_cons, List.map_nil]); first | done | rfl | (simp only [List.length_drop, List.length_take]; rfl) | (exact congrArg (fun n_ : Nat => (#[Value.slice _ n_ _] : Array Value)) (by simp only [List.length_take, List.length_drop]; omega))) ?_; (with_reducible refine (journal_Put.calls kj18 _ _ y244 t249 t250 t251 _ ?side1 ?side2 A42.out).mono ?_); (case side1 => repeat (first | exact (Kd.V_reads' HO248.out).2.2 | (with_reducible refine Kd.C_alloc ?_ _) | (with_reducible refine Kd.C_drewN ?_ _) | (with_reducible refine Kd.C_drew ?_))); (case side2 => exact (Kd.V_reads' HO248.out).2.1); rintro e w68 ⟨v252, rfl, ho0, hb⟩; refine ⟨_, rfl, ?_⟩; have n0_ := Aside0.mk (Kd.N_elder' (by (with_reducible repeat (first | apply Kd.N_alloc | apply Kd.N_drewN | apply Kd.N_drew)); exact HO_0.out) (Kd.R_base ho0) hb); have n1_ := Aside0.mk (Kd.N_elder' (by (with_reducible repeat (first | apply Kd.N_alloc | apply Kd.N_drewN | apply Kd.N_drew)); exact HO_8.out) (Kd.R_base ho0) hb); have n2_ := Aside0.mk (Kd.R_elder' (by (with_reducible repeat (first | apply Kd.R_alloc | apply Kd.R_drewN | apply Kd.R_drew)); exact HO243.out) (Kd.R_base ho0) hb); have n3_ := Aside0.mk (Kd.V_elder' (by (with_reducible repeat (first | apply Kd.V_alloc | apply Kd.V_drewN | apply Kd.V_drew)); exact HO248.out) (Kd.R_base ho0) hb); have n4_ := Aside0.mk (Kd.R_lower (Kd.R_new' ho0 (Kd.R_lt (by (with_reducible repeat (first | apply Kd.R_alloc | apply Kd.R_drewN | apply Kd.R_drew)); exact HO243.out))) (below_size (by repeat (first | (with_reducible first | exact HB.out | apply below_alloc | apply pw_below_drewN | apply below_drew1) | exact HB.out)))); have n5_ := Aside0.mk (below_step (by repeat (first | (with_reducible first | exact HB.out | apply below_alloc | apply pw_below_drewN | apply below_drew1) | exact HB.out)) hb); clear HO_0; clear HO_8; clear HO243; clear HO248; clear HB; have HO_0 := n0_; have HO_8 := n1_; have HO243 := n2_; have HO248 := n3_; have HO253 := n4_; have HB := n5_; clear n0_ n1_ n2_ n3_ n4_ n5_; (try clear hb); (try clear hb2); (try clear hk); (try clear hi); (try clear ho0); obtain ⟨Ao69, co69, eo69⟩ := Kd.R_slice HO253.out; subst eo69))
                                  go_ret
                                  exact ⟨by first | rfl | (simp [errW_none, errW_some] <;> rfl) | (simp only [← hji39]; first | rfl | (simp [errW_none, errW_some] <;> rfl)) | (simp [*, errW_none, errW_some] <;> rfl), by repeat (first | (with_reducible first | exact HB.out | apply below_alloc | apply pw_below_drewN | apply below_drew1) | exact HB.out)⟩
                                · have c50 : ((t230 == 0) == (t229 == a1)) = true := by rw [hq1_, hq2_]; decide
                                  rw [if_pos c50] at H
                                  have c50b0 : ((t230 == 0) == (t229 == a1)) = true := c50
                                  (try (have c50b1 : decide ((t230 == 0) = (t229 == a1)) = true := by simpa using c50))
                                  (try (have c50b2 : ((t230 == 0) == (t229 == a1)) = true := by simpa using c50))
                                  clear c50
                                  by_cases c51 : t230 = 0
                                  · rw [if_pos c51] at H
                                    have c51b0 : (t230 == 0) = true := beq_iff_eq.mpr c51
                                    have c51b1 : (t230 != 0) = false := bne_eq_false_iff_eq.mpr c51
                                    clear c51
                                    obtain rfl := Option.some.inj H
                                    obtain ⟨Ao52, co52, eo52⟩ := Kd.N_slice HO_8.out
                                    subst eo52
                                    go_wp2_with (first | ((with_reducible refine gate_callee (f := 20) rfl ?_); refine goesL_ (some 70) rfl rfl Try.func20 (by kernel_rfl) rfl #[.slice Ao52 t228.length co52] rfl (by (try simp only [List.map_toArray, List.map_cons, List.map_nil]); first | done | rfl | (simp only [List.length_drop, List.length_take]; rfl) | (exact congrArg (fun n_ : Nat => (#[Value.slice _ n_ _] : Array Value)) (by simp only [List.length_take, List.length_drop]; omega))) ?_; (with_reducible refine (journal_Put.calls kj18 _ _ t228 t239 t240 t241 _ ?side1 ?side2 A36.out).mono ?_); (case side1 => repeat (first | exact (Kd.N_reads' HO_8.out).2.2 | (with_reducible refine Kd.C_alloc ?_ _) | (with_reducible refine Kd.C_drewN ?_ _) | (with_reducible refine Kd.C_drew ?_))); (case side2 => exact (Kd.N_reads' HO_8.out).2.1); rintro e w53 ⟨v242, rfl, ho0, hb⟩; refine ⟨_, rfl, ?_⟩; have n0_ := Aside0.mk (Kd.N_elder' (by (with_reducible repeat (first | apply Kd.N_alloc | apply Kd.N_drewN | apply Kd.N_drew)); exact HO_0.out) (Kd.R_base ho0) hb); have n1_ := Aside0.mk (Kd.N_elder' (by (with_reducible repeat (first | apply Kd.N_alloc | apply Kd.N_drewN | apply Kd.N_drew)); exact HO_8.out) (Kd.R_base ho0) hb); have n2_ := Aside0.mk (Kd.R_lower ho0 (below_size (by repeat (first | (with_reducible first | exact HB.out | apply below_alloc | apply pw_below_drewN | apply below_drew1) | exact HB.out)))); have n3_ := Aside0.mk (below_step (by repeat (first | (with_reducible first | exact HB.out | apply below_alloc | apply pw_below_drewN | apply below_drew1) | exact HB.out)) hb); clear HO_0; clear HO_8; clear HB; have HO_0 := n0_; have HO_8 := n1_; have HO243 := n2_; have HB := n3_; clear n0_ n1_ n2_ n3_; (try clear hb); (try clear hb2); (try clear hk); (try clear hi); (try clear ho0); obtain ⟨Ao54, co54, eo54⟩ := Kd.R_slice HO243.out; subst eo54; have q55 : ((ji39) : Int) ≤ ((t215.length : Int) : Int) := of_decide_eq_true (by first | (with_reducible assumption) | assumption); obtain ⟨i055, hi055, _, hsz55, _⟩ := info_parts info88; have hroom55 : t215.length ≤ co10 := (Kd.N_reads' HO_0.out).2.1; have hC55 : Kd.F k88 _ _ Ao10 t215.length t215 := (Kd.V_at (base := w.heap.size) (Kd.N_V HO_0.out)).2.2; have hcut55 := cut_to (P := Try.prog) 38 88 .i64 Try.underlying38 hi055 Ao10 t215.length co10 (ji39) (of_decide_eq_true (by first | (with_reducible assumption) | assumption)) q55 hroom55; have hr55 := Kd.F_take (m := ((ji39) : Int).toNat) hC55 (by omega); have hy55 : y244.length = ((ji39) : Int).toNat := (by rw [Ny244.out, List.length_take]; omega); rw [← Ny244.out] at hr55; rw [← hy55] at hcut55; have HO248 := Aside0.mk (show Kd.V k88 88 _ w.heap.size _ (.slice Ao10 y244.length co10) y244 from Kd.V_mk (by omega) hr55); have HC248 := Aside0.mk (show y244.length ≤ co10 from by omega); clear hr55 hC55 hroom55 hi055 hsz55; have KY55 := Aside0.mk hy55; clear hy55; replace q55 := eq_true q55) | ((with_reducible refine gate_callee (f := 20) rfl ?_); refine goesL_ (some 89) rfl rfl Try.func20 (by kernel_rfl) rfl #[.slice Ao10 y244.length co10] rfl (by (try simp only [List.map_toArray, List.map_cons, List.map_nil]); first | done | rfl | (simp only [List.length_drop, List.length_take]; rfl) | (exact congrArg (fun n_ : Nat => (#[Value.slice _ n_ _] : Array Value)) (by simp only [List.length_take, List.length_drop]; omega))) ?_; (with_reducible refine (journal_Put.calls kj18 _ _ y244 t249 t250 t251 _ ?side1 ?side2 A42.out).mono ?_); (case side1 => repeat (first | exact (Kd.V_reads' HO248.out).2.2 | (with_reducible refine Kd.C_alloc ?_ _) | (with_reducible refine Kd.C_drewN ?_ _) | (with_reducible refine Kd.C_drew ?_))); (case side2 => exact (Kd.V_reads' HO248.out).2.1); rintro e w56 ⟨v252, rfl, ho0, hb⟩; refine ⟨_, rfl, ?_⟩; have n0_ := Aside0.mk (Kd.N_elder' (by (with_reducible repeat (first | apply Kd.N_alloc | apply Kd.N_drewN | apply Kd.N_drew)); exact HO_0.out) (Kd.R_base ho0) hb); have n1_ := Aside0.mk (Kd.N_elder' (by (with_reducible repeat (first | apply Kd.N_alloc | apply Kd.N_drewN | apply Kd.N_drew)); exact HO_8.out) (Kd.R_base ho0) hb); have n2_ := Aside0.mk (Kd.R_elder' (by (with_reducible repeat (first | apply Kd.R_alloc | apply Kd.R_drewN | apply Kd.R_drew)); exact HO243.out) (Kd.R_base ho0) hb); have n3_ := Aside0.mk (Kd.V_elder' (by (with_reducible repeat (first | apply Kd.V_alloc | apply Kd.V_drewN | apply Kd.V_drew)); exact HO248.out) (Kd.R_base ho0) hb); have n4_ := Aside0.mk (Kd.R_lower (Kd.R_new' ho0 (Kd.R_lt (by (with_reducible repeat (first | apply Kd.R_alloc | apply Kd.R_drewN | apply Kd.R_drew)); exact HO243.out))) (below_size (by repeat (first | (with_reducible first | exact HB.out | apply below_alloc | apply pw_below_drewN | apply below_drew1) | exact HB.out)))); have n5_ := Aside0.mk (below_step (by repeat (first | (with_reducible first | exact HB.out | apply below_alloc | apply pw_below_drewN | apply below_drew1) | exact HB.out)) hb); clear HO_0; clear HO_8; clear HO243; clear HO248; clear HB; have HO_0 := n0_; have HO_8 := n1_; have HO243 := n2_; have HO248 := n3_; have HO253 := n4_; have HB := n5_; clear n0_ n1_ n2_ n3_ n4_ n5_; (try clear hb); (try clear hb2); (try clear hk); (try clear hi); (try clear ho0); obtain ⟨Ao57, co57, eo57⟩ := Kd.R_slice HO253.out; subst eo57))
                                    go_ret
                                    exact ⟨by first | rfl | (simp [errW_none, errW_some] <;> rfl) | (simp only [← hji39]; first | rfl | (simp [errW_none, errW_some] <;> rfl)) | (simp [*, errW_none, errW_some] <;> rfl), by repeat (first | (with_reducible first | exact HB.out | apply below_alloc | apply pw_below_drewN | apply below_drew1) | exact HB.out)⟩
                                  · exact absurd hq1_ (by simp [c51])
                          · rw [if_neg c41] at H
                            exact absurd H (by simp)
                        · rw [if_neg c40] at H
                          exact absurd H (by simp)
                      · rw [if_neg c38] at H
                        have c38b0 : decide ((t228.length : Int) < (t215.length : Int)) = false := decide_eq_false c38
                        have c38b1 : decide (t228.length < t215.length) = false := decide_eq_false (fun h => c38 (Int.ofNat_lt.mpr h))
                        clear c38
                        cases hq1_ : (t230 == 0)
                        · cases hq2_ : (t229 == a1)
                          · have c70 : ((t230 == 0) == (t229 == a1)) = true := by rw [hq1_, hq2_]; decide
                            rw [if_pos c70] at H
                            have c70b0 : ((t230 == 0) == (t229 == a1)) = true := c70
                            (try (have c70b1 : decide ((t230 == 0) = (t229 == a1)) = true := by simpa using c70))
                            (try (have c70b2 : ((t230 == 0) == (t229 == a1)) = true := by simpa using c70))
                            clear c70
                            by_cases c71 : t230 = 0
                            · exact absurd hq1_ (by simp [c71])
                            · rw [if_neg c71] at H
                              have c71b0 : (t230 == 0) = false := beq_eq_false_iff_ne.mpr c71
                              have c71b1 : (t230 != 0) = true := bne_iff_ne.mpr c71
                              obtain rfl := Option.some.inj H
                              obtain ⟨Ao75, co75, eo75⟩ := Kd.N_slice HO_8.out
                              subst eo75
                              go_wp2_with (first | ((with_reducible refine gate_callee (f := 20) rfl ?_); refine goesL_ (some 70) rfl rfl Try.func20 (by kernel_rfl) rfl #[.slice Ao75 t228.length co75] rfl (by (try simp only [List.map_toArray, List.map_cons, List.map_nil]); first | done | rfl | (simp only [List.length_drop, List.length_take]; rfl) | (exact congrArg (fun n_ : Nat => (#[Value.slice _ n_ _] : Array Value)) (by simp only [List.length_take, List.length_drop]; omega))) ?_; (with_reducible refine (journal_Put.calls kj18 _ _ t228 t239 t240 t241 _ ?side1 ?side2 A36.out).mono ?_); (case side1 => repeat (first | exact (Kd.N_reads' HO_8.out).2.2 | (with_reducible refine Kd.C_alloc ?_ _) | (with_reducible refine Kd.C_drewN ?_ _) | (with_reducible refine Kd.C_drew ?_))); (case side2 => exact (Kd.N_reads' HO_8.out).2.1); rintro e w76 ⟨v242, rfl, ho0, hb⟩; refine ⟨_, rfl, ?_⟩; have n0_ := Aside0.mk (Kd.N_elder' (by (with_reducible repeat (first | apply Kd.N_alloc | apply Kd.N_drewN | apply Kd.N_drew)); exact HO_0.out) (Kd.R_base ho0) hb); have n1_ := Aside0.mk (Kd.N_elder' (by (with_reducible repeat (first | apply Kd.N_alloc | apply Kd.N_drewN | apply Kd.N_drew)); exact HO_8.out) (Kd.R_base ho0) hb); have n2_ := Aside0.mk (Kd.R_lower ho0 (below_size (by repeat (first | (with_reducible first | exact HB.out | apply below_alloc | apply pw_below_drewN | apply below_drew1) | exact HB.out)))); have n3_ := Aside0.mk (below_step (by repeat (first | (with_reducible first | exact HB.out | apply below_alloc | apply pw_below_drewN | apply below_drew1) | exact HB.out)) hb); clear HO_0; clear HO_8; clear HB; have HO_0 := n0_; have HO_8 := n1_; have HO243 := n2_; have HB := n3_; clear n0_ n1_ n2_ n3_; (try clear hb); (try clear hb2); (try clear hk); (try clear hi); (try clear ho0); obtain ⟨Ao77, co77, eo77⟩ := Kd.R_slice HO243.out; subst eo77))
                              go_ret
                              exact ⟨by first | rfl | (simp [errW_none, errW_some] <;> rfl) | (simp [*, errW_none, errW_some] <;> rfl), by repeat (first | (with_reducible first | exact HB.out | apply below_alloc | apply pw_below_drewN | apply below_drew1) | exact HB.out)⟩
                          · have c70 : ¬ ((t230 == 0) == (t229 == a1)) = true := by rw [hq1_, hq2_]; decide
                            rw [if_neg c70] at H
                            have c70b0 : ((t230 == 0) == (t229 == a1)) = false := by simpa using c70
                            (try (have c70b1 : decide ((t230 == 0) = (t229 == a1)) = false := by simpa using c70))
                            (try (have c70b2 : ((t230 == 0) == (t229 == a1)) = false := by simpa using c70))
                            (try (have c70b3 : ¬ ((t230 == 0) = (t229 == a1)) := by simpa using c70))
                            clear c70
                            obtain rfl := Option.some.inj H
                            obtain ⟨Ao78, co78, eo78⟩ := Kd.N_slice HO_8.out
                            subst eo78
                            go_wp2_with (first | ((with_reducible refine gate_callee (f := 20) rfl ?_); refine goesL_ (some 70) rfl rfl Try.func20 (by kernel_rfl) rfl #[.slice Ao78 t228.length co78] rfl (by (try simp only [List.map_toArray, List.map_cons, List.map_nil]); first | done | rfl | (simp only [List.length_drop, List.length_take]; rfl) | (exact congrArg (fun n_ : Nat => (#[Value.slice _ n_ _] : Array Value)) (by simp only [List.length_take, List.length_drop]; omega))) ?_; (with_reducible refine (journal_Put.calls kj18 _ _ t228 t239 t240 t241 _ ?side1 ?side2 A36.out).mono ?_); (case side1 => repeat (first | exact (Kd.N_reads' HO_8.out).2.2 | (with_reducible refine Kd.C_alloc ?_ _) | (with_reducible refine Kd.C_drewN ?_ _) | (with_reducible refine Kd.C_drew ?_))); (case side2 => exact (Kd.N_reads' HO_8.out).2.1); rintro e w79 ⟨v242, rfl, ho0, hb⟩; refine ⟨_, rfl, ?_⟩; have n0_ := Aside0.mk (Kd.N_elder' (by (with_reducible repeat (first | apply Kd.N_alloc | apply Kd.N_drewN | apply Kd.N_drew)); exact HO_0.out) (Kd.R_base ho0) hb); have n1_ := Aside0.mk (Kd.N_elder' (by (with_reducible repeat (first | apply Kd.N_alloc | apply Kd.N_drewN | apply Kd.N_drew)); exact HO_8.out) (Kd.R_base ho0) hb); have n2_ := Aside0.mk (Kd.R_lower ho0 (below_size (by repeat (first | (with_reducible first | exact HB.out | apply below_alloc | apply pw_below_drewN | apply below_drew1) | exact HB.out)))); have n3_ := Aside0.mk (below_step (by repeat (first | (with_reducible first | exact HB.out | apply below_alloc | apply pw_below_drewN | apply below_drew1) | exact HB.out)) hb); clear HO_0; clear HO_8; clear HB; have HO_0 := n0_; have HO_8 := n1_; have HO243 := n2_; have HB := n3_; clear n0_ n1_ n2_ n3_; (try clear hb); (try clear hb2); (try clear hk); (try clear hi); (try clear ho0); obtain ⟨Ao80, co80, eo80⟩ := Kd.R_slice HO243.out; subst eo80))
                            go_ret
                            exact ⟨by first | rfl | (simp [errW_none, errW_some] <;> rfl) | (simp [*, errW_none, errW_some] <;> rfl), by repeat (first | (with_reducible first | exact HB.out | apply below_alloc | apply pw_below_drewN | apply below_drew1) | exact HB.out)⟩
                        · cases hq2_ : (t229 == a1)
                          · have c70 : ¬ ((t230 == 0) == (t229 == a1)) = true := by rw [hq1_, hq2_]; decide
                            rw [if_neg c70] at H
                            have c70b0 : ((t230 == 0) == (t229 == a1)) = false := by simpa using c70
                            (try (have c70b1 : decide ((t230 == 0) = (t229 == a1)) = false := by simpa using c70))
                            (try (have c70b2 : ((t230 == 0) == (t229 == a1)) = false := by simpa using c70))
                            (try (have c70b3 : ¬ ((t230 == 0) = (t229 == a1)) := by simpa using c70))
                            clear c70
                            obtain rfl := Option.some.inj H
                            obtain ⟨Ao78, co78, eo78⟩ := Kd.N_slice HO_8.out
                            subst eo78
                            go_wp2_with (first | ((with_reducible refine gate_callee (f := 20) rfl ?_); refine goesL_ (some 70) rfl rfl Try.func20 (by kernel_rfl) rfl #[.slice Ao78 t228.length co78] rfl (by (try simp only [List.map_toArray, List.map_cons, List.map_nil]); first | done | rfl | (simp only [List.length_drop, List.length_take]; rfl) | (exact congrArg (fun n_ : Nat => (#[Value.slice _ n_ _] : Array Value)) (by simp only [List.length_take, List.length_drop]; omega))) ?_; (with_reducible refine (journal_Put.calls kj18 _ _ t228 t239 t240 t241 _ ?side1 ?side2 A36.out).mono ?_); (case side1 => repeat (first | exact (Kd.N_reads' HO_8.out).2.2 | (with_reducible refine Kd.C_alloc ?_ _) | (with_reducible refine Kd.C_drewN ?_ _) | (with_reducible refine Kd.C_drew ?_))); (case side2 => exact (Kd.N_reads' HO_8.out).2.1); rintro e w79 ⟨v242, rfl, ho0, hb⟩; refine ⟨_, rfl, ?_⟩; have n0_ := Aside0.mk (Kd.N_elder' (by (with_reducible repeat (first | apply Kd.N_alloc | apply Kd.N_drewN | apply Kd.N_drew)); exact HO_0.out) (Kd.R_base ho0) hb); have n1_ := Aside0.mk (Kd.N_elder' (by (with_reducible repeat (first | apply Kd.N_alloc | apply Kd.N_drewN | apply Kd.N_drew)); exact HO_8.out) (Kd.R_base ho0) hb); have n2_ := Aside0.mk (Kd.R_lower ho0 (below_size (by repeat (first | (with_reducible first | exact HB.out | apply below_alloc | apply pw_below_drewN | apply below_drew1) | exact HB.out)))); have n3_ := Aside0.mk (below_step (by repeat (first | (with_reducible first | exact HB.out | apply below_alloc | apply pw_below_drewN | apply below_drew1) | exact HB.out)) hb); clear HO_0; clear HO_8; clear HB; have HO_0 := n0_; have HO_8 := n1_; have HO243 := n2_; have HB := n3_; clear n0_ n1_ n2_ n3_; (try clear hb); (try clear hb2); (try clear hk); (try clear hi); (try clear ho0); obtain ⟨Ao80, co80, eo80⟩ := Kd.R_slice HO243.out; subst eo80))
                            go_ret
                            exact ⟨by first | rfl | (simp [errW_none, errW_some] <;> rfl) | (simp [*, errW_none, errW_some] <;> rfl), by repeat (first | (with_reducible first | exact HB.out | apply below_alloc | apply pw_below_drewN | apply below_drew1) | exact HB.out)⟩
                          · have c70 : ((t230 == 0) == (t229 == a1)) = true := by rw [hq1_, hq2_]; decide
                            rw [if_pos c70] at H
                            have c70b0 : ((t230 == 0) == (t229 == a1)) = true := c70
                            (try (have c70b1 : decide ((t230 == 0) = (t229 == a1)) = true := by simpa using c70))
                            (try (have c70b2 : ((t230 == 0) == (t229 == a1)) = true := by simpa using c70))
                            clear c70
                            by_cases c71 : t230 = 0
                            · rw [if_pos c71] at H
                              have c71b0 : (t230 == 0) = true := beq_iff_eq.mpr c71
                              have c71b1 : (t230 != 0) = false := bne_eq_false_iff_eq.mpr c71
                              clear c71
                              obtain rfl := Option.some.inj H
                              obtain ⟨Ao72, co72, eo72⟩ := Kd.N_slice HO_8.out
                              subst eo72
                              go_wp2_with (first | ((with_reducible refine gate_callee (f := 20) rfl ?_); refine goesL_ (some 70) rfl rfl Try.func20 (by kernel_rfl) rfl #[.slice Ao72 t228.length co72] rfl (by (try simp only [List.map_toArray, List.map_cons, List.map_nil]); first | done | rfl | (simp only [List.length_drop, List.length_take]; rfl) | (exact congrArg (fun n_ : Nat => (#[Value.slice _ n_ _] : Array Value)) (by simp only [List.length_take, List.length_drop]; omega))) ?_; (with_reducible refine (journal_Put.calls kj18 _ _ t228 t239 t240 t241 _ ?side1 ?side2 A36.out).mono ?_); (case side1 => repeat (first | exact (Kd.N_reads' HO_8.out).2.2 | (with_reducible refine Kd.C_alloc ?_ _) | (with_reducible refine Kd.C_drewN ?_ _) | (with_reducible refine Kd.C_drew ?_))); (case side2 => exact (Kd.N_reads' HO_8.out).2.1); rintro e w73 ⟨v242, rfl, ho0, hb⟩; refine ⟨_, rfl, ?_⟩; have n0_ := Aside0.mk (Kd.N_elder' (by (with_reducible repeat (first | apply Kd.N_alloc | apply Kd.N_drewN | apply Kd.N_drew)); exact HO_0.out) (Kd.R_base ho0) hb); have n1_ := Aside0.mk (Kd.N_elder' (by (with_reducible repeat (first | apply Kd.N_alloc | apply Kd.N_drewN | apply Kd.N_drew)); exact HO_8.out) (Kd.R_base ho0) hb); have n2_ := Aside0.mk (Kd.R_lower ho0 (below_size (by repeat (first | (with_reducible first | exact HB.out | apply below_alloc | apply pw_below_drewN | apply below_drew1) | exact HB.out)))); have n3_ := Aside0.mk (below_step (by repeat (first | (with_reducible first | exact HB.out | apply below_alloc | apply pw_below_drewN | apply below_drew1) | exact HB.out)) hb); clear HO_0; clear HO_8; clear HB; have HO_0 := n0_; have HO_8 := n1_; have HO243 := n2_; have HB := n3_; clear n0_ n1_ n2_ n3_; (try clear hb); (try clear hb2); (try clear hk); (try clear hi); (try clear ho0); obtain ⟨Ao74, co74, eo74⟩ := Kd.R_slice HO243.out; subst eo74))
                              go_ret
                              exact ⟨by first | rfl | (simp [errW_none, errW_some] <;> rfl) | (simp [*, errW_none, errW_some] <;> rfl), by repeat (first | (with_reducible first | exact HB.out | apply below_alloc | apply pw_below_drewN | apply below_drew1) | exact HB.out)⟩
                            · exact absurd hq1_ (by simp [c71])
                    · rw [if_neg c37] at H
                      have c37b0 : ((t239.length : Int) == t229) = false := beq_eq_false_iff_ne.mpr c37
                      have c37b1 : ((t239.length : Int) != t229) = true := bne_iff_ne.mpr c37
                      obtain rfl := Option.some.inj H
                      obtain ⟨Ao81, co81, eo81⟩ := Kd.N_slice HO_8.out
                      subst eo81
                      go_wp2_with (first | ((with_reducible refine gate_callee (f := 20) rfl ?_); refine goesL_ (some 70) rfl rfl Try.func20 (by kernel_rfl) rfl #[.slice Ao81 t228.length co81] rfl (by (try simp only [List.map_toArray, List.map_cons, List.map_nil]); first | done | rfl | (simp only [List.length_drop, List.length_take]; rfl) | (exact congrArg (fun n_ : Nat => (#[Value.slice _ n_ _] : Array Value)) (by simp only [List.length_take, List.length_drop]; omega))) ?_; (with_reducible refine (journal_Put.calls kj18 _ _ t228 t239 t240 t241 _ ?side1 ?side2 A36.out).mono ?_); (case side1 => repeat (first | exact (Kd.N_reads' HO_8.out).2.2 | (with_reducible refine Kd.C_alloc ?_ _) | (with_reducible refine Kd.C_drewN ?_ _) | (with_reducible refine Kd.C_drew ?_))); (case side2 => exact (Kd.N_reads' HO_8.out).2.1); rintro e w82 ⟨v242, rfl, ho0, hb⟩; refine ⟨_, rfl, ?_⟩; have n0_ := Aside0.mk (Kd.N_elder' (by (with_reducible repeat (first | apply Kd.N_alloc | apply Kd.N_drewN | apply Kd.N_drew)); exact HO_0.out) (Kd.R_base ho0) hb); have n1_ := Aside0.mk (Kd.N_elder' (by (with_reducible repeat (first | apply Kd.N_alloc | apply Kd.N_drewN | apply Kd.N_drew)); exact HO_8.out) (Kd.R_base ho0) hb); have n2_ := Aside0.mk (Kd.R_lower ho0 (below_size (by repeat (first | (with_reducible first | exact HB.out | apply below_alloc | apply pw_below_drewN | apply below_drew1) | exact HB.out)))); have n3_ := Aside0.mk (below_step (by repeat (first | (with_reducible first | exact HB.out | apply below_alloc | apply pw_below_drewN | apply below_drew1) | exact HB.out)) hb); clear HO_0; clear HO_8; clear HB; have HO_0 := n0_; have HO_8 := n1_; have HO243 := n2_; have HB := n3_; clear n0_ n1_ n2_ n3_; (try clear hb); (try clear hb2); (try clear hk); (try clear hi); (try clear ho0); obtain ⟨Ao83, co83, eo83⟩ := Kd.R_slice HO243.out; subst eo83))
                      go_ret
                      exact ⟨by first | rfl | (simp [errW_none, errW_some] <;> rfl) | (simp [*, errW_none, errW_some] <;> rfl), by repeat (first | (with_reducible first | exact HB.out | apply below_alloc | apply pw_below_drewN | apply below_drew1) | exact HB.out)⟩
            · rw [if_neg c17] at H
              exact absurd H (by simp)
          · rw [if_neg c16] at H
            exact absurd H (by simp)
  · replace c4 := Bool.eq_false_iff.mpr c4
    subst c4
    have H1 : (some false) = some r := by rw [if_neg (show ¬ (false = true) by decide)] at H; exact H
    clear H
    have H := H1
    clear H1
    obtain rfl := Option.some.inj H
    go_enter Try.func7, Try.ntmps7
    go_wp2_with (first | ((with_reducible refine gate_callee (f := 18) rfl ?_); refine goesL_ (some 17) rfl rfl Try.func18 (by kernel_rfl) rfl #[] rfl (by (try simp only [List.map_toArray, List.map_cons, List.map_nil]); first | done | rfl | (simp only [List.length_drop, List.length_take]; rfl) | (exact congrArg (fun n_ : Nat => (#[Value.slice _ n_ _] : Array Value)) (by simp only [List.length_take, List.length_drop]; omega))) ?_; (with_reducible refine (tattinglaw44_awake.calls  false _ A3.out).mono ?_); rintro e w84 ⟨rfl, hb⟩; refine ⟨_, rfl, ?_⟩; have n0_ := Aside0.mk (below_step (by repeat (first | (with_reducible first | exact HB.out | apply below_alloc | apply pw_below_drewN | apply below_drew1) | exact HB.out)) hb); clear HB; have HB := n0_; clear n0_; (try clear hb); (try clear hb2); (try clear hk); (try clear hi)))
    go_ret
    exact ⟨by first | rfl | (simp [errW_none, errW_some] <;> rfl) | (simp [*, errW_none, errW_some] <;> rfl), by repeat (first | (with_reducible first | exact HB.out | apply below_alloc | apply pw_below_drewN | apply below_drew1) | exact HB.out)⟩

/-! ### tattingref44_bytes: function 65 -/
def tattingref44_bytes.l0 : Nat → Int → List Int → Int → Option (List Int)
  | 0, _, _, _ => none
  | k + 1, x0, x5, x6 => if x6 ≥ 0 then (if 0 ≤ x6 then (if x6 < (x5.length : Int) then (tattingref44_bytes.l0 k (IntKind.u64.wrap (Int.tdiv x0 256)) (x5.set (x6 : Int).toNat ((Int.tmod x0 256) % 256)) (wrap64 (x6 - 1))) else (none)) else (none)) else (some x5)
def tattingref44_bytes.f (k : Nat) (a0 : Int) (a1 : Int) : Option (List Int) := if 0 ≤ a1 then (if (a1 : Int).toNat ≤ 281474976710656 then (tattingref44_bytes.l0 k a0 (List.replicate (a1 : Int).toNat 0) (wrap64 (a1 - 1))) else (none)) else (none)
theorem tattingref44_bytes.mono_l : ∀ k, (∀ y0 y1 y2, LeO (tattingref44_bytes.l0 k y0 y1 y2) (tattingref44_bytes.l0 (k + 1) y0 y1 y2))
  | 0 => fun _ _ _ r h => by simp [tattingref44_bytes.l0] at h
  | k + 1 => by
    have ih0 := tattingref44_bytes.mono_l k
    · intro y0 y1 y2
      unfold tattingref44_bytes.l0
      repeat' first
      | (with_reducible exact ih0 _ _ _)
      | (with_reducible exact LeO.refl _)
      | (with_reducible exact LeO.none _)
      | (with_reducible refine LeO.ite ?_ ?_)
      | (with_reducible refine LeO.bind ?_ (fun _ => ?_))
      | exact ih0 _ _ _
      | exact LeO.none _
      | refine LeO.ite ?_ ?_
      | refine LeO.bind ?_ (fun _ => ?_)
theorem tattingref44_bytes.mono : ∀ a0 a1 k, LeO (tattingref44_bytes.f k a0 a1) (tattingref44_bytes.f (k + 1) a0 a1) := by
  intro a0 a1 k
  have ih0 := tattingref44_bytes.mono_l k
  unfold tattingref44_bytes.f
  repeat' first
      | (with_reducible exact ih0 _ _ _)
      | (with_reducible exact LeO.refl _)
      | (with_reducible exact LeO.none _)
      | (with_reducible refine LeO.ite ?_ ?_)
      | (with_reducible refine LeO.bind ?_ (fun _ => ?_))
      | exact ih0 _ _ _
      | exact LeO.none _
      | refine LeO.ite ?_ ?_
      | refine LeO.bind ?_ (fun _ => ?_)
set_option maxHeartbeats 8000000 in
set_option maxRecDepth 100000 in
theorem tattingref44_bytes.calls (k : Nat) (a0 : Int) (a1 : Int) (r : List Int) (w : World) (h : tattingref44_bytes.f k a0 a1 = some r) :
    Calls Try.prog 65 #[.int .u64 a0, .int .i64 a1] w fun e w' => ∃ v0_ : Value, e = .returned (v0_) ∧ Kd.R (Kd.int .u8) 5 w' w.heap.size (fun _ => True) v0_ r ∧ Below w.heap.size w w' := by
  have HB := Aside0.mk (Below.refl w.heap.size w)
  have H : (if 0 ≤ a1 then (if (a1 : Int).toNat ≤ 281474976710656 then (tattingref44_bytes.l0 k a0 (List.replicate (a1 : Int).toNat 0) (wrap64 (a1 - 1))) else (none)) else (none)) = some r := h
  clear h
  by_cases c3 : 0 ≤ a1
  · rw [if_pos c3] at H
    have c3b0 := eq_true c3
    have c3b1 : decide (0 ≤ a1) = true := decide_eq_true c3
    clear c3
    by_cases c4 : (a1 : Int).toNat ≤ 281474976710656
    · rw [if_pos c4] at H
      have c4b0 := eq_true c4
      have c4b1 : decide ((a1 : Int).toNat ≤ 281474976710656) = true := decide_eq_true c4
      clear c4
      obtain ⟨y254, hy254⟩ : ∃ y_ : List Int, y_ = (List.replicate (a1 : Int).toNat 0) := ⟨_, rfl⟩
      replace H : (tattingref44_bytes.l0 k a0 y254 (wrap64 (a1 - 1))) = some r := by first | (rw [hy254]; with_reducible exact H) | (have H2_ := (Option.bind_some _ _).symm.trans H; rw [hy254]; with_reducible exact H2_) | (have H2_ := (Option.bind_some _ _).symm.trans H; with_reducible exact H2_) | with_reducible exact H | (rw [hy254]; exact H) | exact H
      have Ny254 := Aside0.mk hy254
      clear hy254
      have H' := Aside0.mk H
      clear H
      go_enter Try.func65, Try.ntmps65
      go_wp2_with (first | ((with_reducible refine gate_dst (N := 8) rfl ?_); refine Kd.R_make (Kd.int .u8) _ 5 rfl (N := 8) rfl 22 _ _ rfl a1 rfl rfl Try.underlying22 (.int .u8 0) 1 info5 rfl (by decide) (by omega) 0 (ok := fun _ => True) (okp := fun _ => True) rfl (fun _ hk => hk) trivial (of_decide_eq_true (by first | (with_reducible assumption) | assumption)) (Nat.le_trans (Nat.mul_le_mul_right _ (of_decide_eq_true (by first | (with_reducible assumption) | assumption) : a1.toNat ≤ 281474976710656)) (by omega)) (Below.refl _ _) (Nat.le_refl _) ?_; intro v255 w5 ho6 hb hg_ hnew_; clear hg_ hnew_; (first | rw [← Ny254.out] at ho6 | (simp only [Int.reduceToNat] at ho6; rw [← Ny254.out] at ho6)); have n0_ := Aside0.mk (Kd.R_lower ho6 (below_size (by repeat (first | (with_reducible first | exact HB.out | apply below_alloc | apply pw_below_drewN | apply below_drew1) | exact HB.out)))); have n1_ := Aside0.mk (below_step (by repeat (first | (with_reducible first | exact HB.out | apply below_alloc | apply pw_below_drewN | apply below_drew1) | exact HB.out)) hb); clear HB; have HO256 := n0_; have HB := n1_; clear n0_ n1_; clear hb ho6))
      go_loopg [0, 6] k (fun kq v0 v6 w' => ∃ (x0_1 : Int) (x5_1 : List Int) (x6_1 : Int), v0 = .int .u64 x0_1 ∧ v6 = .int .i64 x6_1 ∧ Aside0 (tattingref44_bytes.l0 kq x0_1 x5_1 x6_1 = some r) ∧ Aside0 (kq ≤ k) ∧ Aside0 (Kd.R (Kd.int .u8) 5 w' w.heap.size (fun _ => True) v255 x5_1) ∧ Aside0 (Below w.heap.size w w'))
      case atStart => exact ⟨(a0), (y254), (wrap64 (a1 - 1)), (by first | rfl | (simp; done) | (simp [*]; done)), (by first | rfl | (simp; done) | (simp [*]; done)), H', ⟨Nat.le_refl _⟩, ⟨by (with_reducible repeat (first | apply Kd.R_alloc | apply Kd.R_drewN | apply Kd.R_drew)); exact HO256.out⟩, ⟨by repeat (first | (with_reducible first | exact HB.out | apply below_alloc | apply pw_below_drewN | apply below_drew1) | exact HB.out)⟩⟩
      case round =>
        clear H'
        try clear p2
        try clear c3
        try clear c3b0
        try clear c3b1
        try clear c4
        try clear c4b0
        try clear c4b1
        try clear c6
        try clear p6
        obtain ⟨x0_1, x5_1, x6_1, rfl, rfl, HA, HK1, HO_5, HB⟩ := hrel
        cases gk with
        | zero => exact absurd HA.out (by simp [tattingref44_bytes.l0])
        | succ k1 =>
          have H := HA.out
          clear HA
          simp only [tattingref44_bytes.l0] at H
          by_cases c7 : x6_1 ≥ 0
          · rw [if_pos c7] at H
            have c7b0 : decide (0 ≤ x6_1) = true := decide_eq_true c7
            clear c7
            by_cases c8 : 0 ≤ x6_1
            · rw [if_pos c8] at H
              have c8b0 : decide (0 ≤ x6_1) = true := decide_eq_true c8
              clear c8
              by_cases c9 : x6_1 < (x5_1.length : Int)
              · rw [if_pos c9] at H
                have c9b0 : decide (x6_1 < (x5_1.length : Int)) = true := decide_eq_true c9
                clear c9
                obtain ⟨y257, hy257⟩ : ∃ y_ : List Int, y_ = (x5_1.set (x6_1 : Int).toNat ((Int.tmod x0_1 256) % 256)) := ⟨_, rfl⟩
                replace H : (tattingref44_bytes.l0 k1 (IntKind.u64.wrap (Int.tdiv x0_1 256)) y257 (wrap64 (x6_1 - 1))) = some r := by first | (rw [hy257]; with_reducible exact H) | (have H2_ := (Option.bind_some _ _).symm.trans H; rw [hy257]; with_reducible exact H2_) | (have H2_ := (Option.bind_some _ _).symm.trans H; with_reducible exact H2_) | with_reducible exact H | (rw [hy257]; exact H) | exact H
                have Ny257 := Aside0.mk hy257
                clear hy257
                have H' := Aside0.mk H
                clear H
                have p10 : 0 ≤ (x6_1 : Int) := of_decide_eq_true (by first | (with_reducible assumption) | assumption)
                have q10 : (x6_1 : Int) < ((x5_1.length : Int) : Int) := of_decide_eq_true (by first | (with_reducible assumption) | assumption)
                obtain ⟨go10, co10, eo10, gb10, gl10, cl10, HG10⟩ := Kd.R_form HO_5.out (by omega)
                (first | cases eo10 | (injection eo10 with ea_ en_ ec_; (first | subst ea_ | (injection ea_ with ea_; subst ea_)); subst ec_; clear en_))
                have GB10 := Aside0.mk gb10
                have GG10 := Aside0.mk HG10
                clear gb10 gl10 HG10
                obtain ⟨hx10_0, hf10_0⟩ := Kd.R_celln 0 HO_5.out (x6_1 : Int) p10 q10
                replace p10 := eq_true p10
                replace q10 := eq_true q10
                have HP11 := Kd.R_putg HO_5.out (x6_1 : Int) ((Int.tmod x0_1 256) % 256)
                go_wp2_with (first | ((with_reducible refine gate_store (t := 5) (p := 20) rfl ?_); refine store_event (t := 5) (p := 20) (v := ?vo_w12) (w1 := (wr.setCell ⟨go10, (x6_1 : Int).toNat, none⟩ (.int .u8 ((Int.tmod x0_1 256) % 256)))) ?hg ?ho ?hn ?hr ?_; (case ho => rfl); (case hg => rfl); (case hn => rfl); (case hr => first | (go_simp; done) | (go_simp; rfl)); intro w12 hw; have hg : wr.grownBy w12 (some go10) := (by rw [hw]; exact HP11.2); have hp_ : Kd.R (Kd.int .u8) 5 w12 w.heap.size (fun _ => True) (.slice (some ⟨go10, 0, none⟩) x5_1.length co10) y257 := (by rw [hw, Ny257.out]; exact HP11.1); clear HP11; have n0_ := Aside0.mk (hp_); have n1_ := Aside0.mk ((by rw [hw]; exact below_set (HB.out) GB10.out : Below w.heap.size w w12)); clear HO_5; clear HB; have HO_5 := n0_; have HB := n1_; clear n0_ n1_; clear hg hw hp_))
                go_roundg k1
                case measure => have := HK1.out; omega
                case rel => exact ⟨(IntKind.u64.wrap (Int.tdiv x0_1 256)), (y257), (wrap64 (x6_1 - 1)), (by first | rfl | (simp; done) | (simp [*]; done)), (by first | rfl | (simp; done) | (simp [*]; done)), H', ⟨by have := HK1.out; omega⟩, ⟨by (with_reducible repeat (first | apply Kd.R_alloc | apply Kd.R_drewN | apply Kd.R_drew)); exact HO_5.out⟩, ⟨by repeat (first | (with_reducible first | exact HB.out | apply below_alloc | apply pw_below_drewN | apply below_drew1) | exact HB.out)⟩⟩
              · rw [if_neg c9] at H
                exact absurd H (by simp)
            · rw [if_neg c8] at H
              exact absurd H (by simp)
          · rw [if_neg c7] at H
            have c7b0 : decide (0 ≤ x6_1) = false := decide_eq_false c7
            clear c7
            obtain rfl := Option.some.inj H
            go_wp2
            go_ret
            exact ⟨_, by first | rfl | (simp [errW_none, errW_some] <;> rfl) | (simp [*, errW_none, errW_some] <;> rfl), by (with_reducible repeat (first | apply Kd.R_alloc | apply Kd.R_drewN | apply Kd.R_drew)); exact HO_5.out, by repeat (first | (with_reducible first | exact HB.out | apply below_alloc | apply pw_below_drewN | apply below_drew1) | exact HB.out)⟩
    · rw [if_neg c4] at H
      exact absurd H (by simp)
  · rw [if_neg c3] at H
    exact absurd H (by simp)

end Go.Proofs.Ytghghioidllgiaa.PJ
