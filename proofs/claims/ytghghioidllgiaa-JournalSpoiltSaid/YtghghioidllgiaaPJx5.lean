/- Printed for this claim by a program of this repo, over the print of the kit. -/
import Derived.Test.YtghghioidllgiaaPJx0
import Derived.Test.YtghghioidllgiaaPJx4
namespace Go.Proofs.Ytghghioidllgiaa.PJ
open Go.RowKit Go.Proofs.YtghghioidllgiaaW.PrintWords Go.Proofs.YtghghioidllgiaaW.PrintLast Go.Proofs.YtghghioidllgiaaW.PrintMore
attribute [local go_sem] max2_int min2_int max_two min_two max_three min_three max_four min_four   -- for this text's walks alone
set_option linter.unusedVariables false
set_option linter.unusedSimpArgs false

/-! ### tattingref44_Get: function 26 -/
mutual
def tattingref44_Get.l0 : Nat → List Int → List (S88) → Int → Option ((List (S88)) × Int × Int)
  | 0, _, _, _ => none
  | k + 1, x0, x5, x6 => if x6 < (x0.length : Int) then (if (wrap64 ((x0.length : Int) - x6)) < 8 then (some (x5, x6, 10)) else (if 0 ≤ x6 then (if x6 ≤ (wrap64 (x6 + 4)) then (if (wrap64 (x6 + 4)) ≤ (x0.length : Int) then ((tattingref44_number.f k ((x0.take ((wrap64 (x6 + 4)) : Int).toNat).drop (x6 : Int).toNat)).bind fun t168 => (if (wrap64 (t168)) > 1572858 then (some (x5, x6, 4)) else (if (wrap64 ((wrap64 ((x0.length : Int) - x6)) - 8)) < (wrap64 (t168)) then (some (x5, x6, 10)) else (if 0 ≤ (wrap64 (x6 + 8)) then (if (wrap64 (x6 + 8)) ≤ (wrap64 ((wrap64 (x6 + 8)) + (wrap64 (t168)))) then (if (wrap64 ((wrap64 (x6 + 8)) + (wrap64 (t168)))) ≤ (x0.length : Int) then (if 0 ≤ (wrap64 (x6 + 4)) then (if (wrap64 (x6 + 4)) ≤ (wrap64 (x6 + 8)) then (if (wrap64 (x6 + 8)) ≤ (x0.length : Int) then ((tattingref44_number.f k ((x0.take ((wrap64 (x6 + 8)) : Int).toNat).drop ((wrap64 (x6 + 4)) : Int).toNat)).bind fun t171 => ((tattingref44_Sum.f k ((x0.take ((wrap64 ((wrap64 (x6 + 8)) + (wrap64 (t168)))) : Int).toNat).drop ((wrap64 (x6 + 8)) : Int).toNat)).bind fun t172 => (if t171 = (IntKind.u64.wrap (t172)) then (if (wrap64 (t168)) < 2 then (tattingref44_Get.j1 k x0 x5 x6 (wrap64 (t168)) ((x0.take ((wrap64 ((wrap64 (x6 + 8)) + (wrap64 (t168)))) : Int).toNat).drop ((wrap64 (x6 + 8)) : Int).toNat) true) else (if 2 ≤ (((x0.take ((wrap64 ((wrap64 (x6 + 8)) + (wrap64 (t168)))) : Int).toNat).drop ((wrap64 (x6 + 8)) : Int).toNat).length : Int) then ((tattingref44_number.f k (((x0.take ((wrap64 ((wrap64 (x6 + 8)) + (wrap64 (t168)))) : Int).toNat).drop ((wrap64 (x6 + 8)) : Int).toNat).take 2)).bind fun t174 => (if (wrap64 ((wrap64 (t168)) - 2)) < (wrap64 (8 * (wrap64 (t174)))) then (tattingref44_Get.j1 k x0 x5 x6 (wrap64 (t168)) ((x0.take ((wrap64 ((wrap64 (x6 + 8)) + (wrap64 (t168)))) : Int).toNat).drop ((wrap64 (x6 + 8)) : Int).toNat) true) else ((tattingref44_number.f k (((x0.take ((wrap64 ((wrap64 (x6 + 8)) + (wrap64 (t168)))) : Int).toNat).drop ((wrap64 (x6 + 8)) : Int).toNat).take 2)).bind fun t176 => (tattingref44_Get.j1 k x0 x5 x6 (wrap64 (t168)) ((x0.take ((wrap64 ((wrap64 (x6 + 8)) + (wrap64 (t168)))) : Int).toNat).drop ((wrap64 (x6 + 8)) : Int).toNat) (decide ((wrap64 ((wrap64 ((wrap64 (t168)) - 2)) - (wrap64 (8 * (wrap64 (t176)))))) > 1048576)))))) else (none))) else (some (x5, x6, 11))))) else (none)) else (none)) else (none)) else (none)) else (none)) else (none))))) else (none)) else (none)) else (none))) else (some (x5, x6, 0))
def tattingref44_Get.j1 : Nat → List Int → List (S88) → Int → Int → List Int → Bool → Option ((List (S88)) × Int × Int)
  | 0, _, _, _, _, _, _ => none
  | k + 1, x0, x5, x6, x7, x8, x86 => if x86 = true then (some (x5, x6, 3)) else (if 2 ≤ (x8.length : Int) then ((tattingref44_number.f k (x8.take 2)).bind fun t179 => (tattingref44_Get.l1 k x0 x5 x6 x7 x8 2 (wrap64 (t179)) ([] : List Int) (⟨#[]⟩ : ByteArray))) else (none))
def tattingref44_Get.l1 : Nat → List Int → List (S88) → Int → Int → List Int → Int → Int → List Int → ByteArray → Option ((List (S88)) × Int × Int)
  | 0, _, _, _, _, _, _, _, _, _ => none
  | k + 1, x0, x5, x6, x7, x8, x10, x11, x178000, x178001 => if x11 > 0 then (if 0 ≤ x10 then (if x10 ≤ (wrap64 (x10 + 8)) then (if (wrap64 (x10 + 8)) ≤ (x8.length : Int) then ((tattingref44_number.f k ((x8.take ((wrap64 (x10 + 8)) : Int).toNat).drop (x10 : Int).toNat)).bind fun t181 => (if x178000.length < 17592186044416 then (tattingref44_Get.l1 k x0 x5 x6 x7 x8 (wrap64 (x10 + 8)) (wrap64 (x11 - 1)) (x178000 ++ [wrap64 (t181)]) x178001) else (none))) else (none)) else (none)) else (none)) else (if 0 ≤ x10 then (if x10 ≤ (x8.length : Int) then (if x5.length < 3518437208883 then (tattingref44_Get.l0 k x0 (x5 ++ [(⟨x178000, strOfNums (x8.drop (x10 : Int).toNat)⟩ : S88)]) (wrap64 ((wrap64 (x6 + 8)) + x7))) else (none)) else (none)) else (none))
end
def tattingref44_Get.f (k : Nat) (l0 : List Int) : Option ((List (S88)) × Int × Int) := tattingref44_Get.l0 k l0 ([] : List (S88)) 0
theorem tattingref44_Get.mono_l : ∀ k, (∀ y0 y1 y2, LeO (tattingref44_Get.l0 k y0 y1 y2) (tattingref44_Get.l0 (k + 1) y0 y1 y2)) ∧ (∀ y0 y1 y2 y3 y4 y5, LeO (tattingref44_Get.j1 k y0 y1 y2 y3 y4 y5) (tattingref44_Get.j1 (k + 1) y0 y1 y2 y3 y4 y5)) ∧ (∀ y0 y1 y2 y3 y4 y5 y6 y7 y8, LeO (tattingref44_Get.l1 k y0 y1 y2 y3 y4 y5 y6 y7 y8) (tattingref44_Get.l1 (k + 1) y0 y1 y2 y3 y4 y5 y6 y7 y8))
  | 0 => ⟨fun _ _ _ r h => by simp [tattingref44_Get.l0] at h, fun _ _ _ _ _ _ r h => by simp [tattingref44_Get.j1] at h, fun _ _ _ _ _ _ _ _ _ r h => by simp [tattingref44_Get.l1] at h⟩
  | k + 1 => by
    obtain ⟨ih0, ih1, ih2⟩ := tattingref44_Get.mono_l k
    refine ⟨?_, ?_, ?_⟩
    · intro y0 y1 y2
      unfold tattingref44_Get.l0
      repeat' first
      | (with_reducible exact ih0 _ _ _)
      | (with_reducible exact ih1 _ _ _ _ _ _)
      | (with_reducible exact ih2 _ _ _ _ _ _ _ _ _)
      | (with_reducible exact tattingref44_Sum.mono _ _)
      | (with_reducible exact tattingref44_number.mono _ _)
      | (with_reducible exact LeO.refl _)
      | (with_reducible exact LeO.none _)
      | (with_reducible refine LeO.ite ?_ ?_)
      | (with_reducible refine LeO.bind ?_ (fun _ => ?_))
      | exact ih0 _ _ _
      | exact ih1 _ _ _ _ _ _
      | exact ih2 _ _ _ _ _ _ _ _ _
      | exact tattingref44_Sum.mono _ _
      | exact tattingref44_number.mono _ _
      | exact LeO.none _
      | refine LeO.ite ?_ ?_
      | refine LeO.bind ?_ (fun _ => ?_)
    · intro y0 y1 y2 y3 y4 y5
      unfold tattingref44_Get.j1
      repeat' first
      | (with_reducible exact ih0 _ _ _)
      | (with_reducible exact ih1 _ _ _ _ _ _)
      | (with_reducible exact ih2 _ _ _ _ _ _ _ _ _)
      | (with_reducible exact tattingref44_Sum.mono _ _)
      | (with_reducible exact tattingref44_number.mono _ _)
      | (with_reducible exact LeO.refl _)
      | (with_reducible exact LeO.none _)
      | (with_reducible refine LeO.ite ?_ ?_)
      | (with_reducible refine LeO.bind ?_ (fun _ => ?_))
      | exact ih0 _ _ _
      | exact ih1 _ _ _ _ _ _
      | exact ih2 _ _ _ _ _ _ _ _ _
      | exact tattingref44_Sum.mono _ _
      | exact tattingref44_number.mono _ _
      | exact LeO.none _
      | refine LeO.ite ?_ ?_
      | refine LeO.bind ?_ (fun _ => ?_)
    · intro y0 y1 y2 y3 y4 y5 y6 y7 y8
      unfold tattingref44_Get.l1
      repeat' first
      | (with_reducible exact ih0 _ _ _)
      | (with_reducible exact ih1 _ _ _ _ _ _)
      | (with_reducible exact ih2 _ _ _ _ _ _ _ _ _)
      | (with_reducible exact tattingref44_Sum.mono _ _)
      | (with_reducible exact tattingref44_number.mono _ _)
      | (with_reducible exact LeO.refl _)
      | (with_reducible exact LeO.none _)
      | (with_reducible refine LeO.ite ?_ ?_)
      | (with_reducible refine LeO.bind ?_ (fun _ => ?_))
      | exact ih0 _ _ _
      | exact ih1 _ _ _ _ _ _
      | exact ih2 _ _ _ _ _ _ _ _ _
      | exact tattingref44_Sum.mono _ _
      | exact tattingref44_number.mono _ _
      | exact LeO.none _
      | refine LeO.ite ?_ ?_
      | refine LeO.bind ?_ (fun _ => ?_)
theorem tattingref44_Get.mono : ∀ a0 k, LeO (tattingref44_Get.f k a0) (tattingref44_Get.f (k + 1) a0) := by
  intro a0 k
  obtain ⟨ih0, ih1, ih2⟩ := tattingref44_Get.mono_l k
  unfold tattingref44_Get.f
  repeat' first
      | (with_reducible exact ih0 _ _ _)
      | (with_reducible exact ih1 _ _ _ _ _ _)
      | (with_reducible exact ih2 _ _ _ _ _ _ _ _ _)
      | (with_reducible exact tattingref44_Sum.mono _ _)
      | (with_reducible exact tattingref44_number.mono _ _)
      | (with_reducible exact LeO.refl _)
      | (with_reducible exact LeO.none _)
      | (with_reducible refine LeO.ite ?_ ?_)
      | (with_reducible refine LeO.bind ?_ (fun _ => ?_))
      | exact ih0 _ _ _
      | exact ih1 _ _ _ _ _ _
      | exact ih2 _ _ _ _ _ _ _ _ _
      | exact tattingref44_Sum.mono _ _
      | exact tattingref44_number.mono _ _
      | exact LeO.none _
      | refine LeO.ite ?_ ?_
      | refine LeO.bind ?_ (fun _ => ?_)
def tattingref44_Get.T21 : Bool × List (List Nat × List Nat) := (true, [([], []), ([0], [0]), ([], []), ([], []), ([], []), ([4], [4]), ([2, 3, 5], [2, 3, 5]), ([6], [6]), ([7], [7]), ([8], [8]), ([1, 9, 7], [1, 9]), ([0, 1, 2, 3, 4, 5, 6, 7, 8, 9, 10], []), ([11, 10, 10, 0, 1, 2, 3, 4, 5, 6, 7, 8, 9, 10], [10, 11])])
def tattingref44_Get.B21 : List Nat := [0, 1, 0, 0, 0, 16, 60, 124, 252, 508, 1023, 2047, 4095]
theorem tattingref44_Get.tab21 : rtab .any (opsOf Try.f26 21) = tattingref44_Get.T21 := by kernel_rfl
theorem tattingref44_Get.bits21 : waitsOk tattingref44_Get.T21.2 tattingref44_Get.B21 = true := by kernel_rfl
set_option maxHeartbeats 8000000 in
set_option maxRecDepth 100000 in
theorem tattingref44_Get.calls (k : Nat) (A0 : Option Addr) (c0 : Nat) (l0 : List Int) (r1 : List (S88)) (r2 : Int) (r3 : Int) (w : World) (hr0 : Kd.C (Kd.int .u8) w A0 l0.length l0) (hc0 : l0.length ≤ c0) (h : tattingref44_Get.f k l0 = some (r1, r2, r3)) :
    Calls Try.prog 26 #[.slice A0 l0.length c0] w fun e w' => ∃ v0_ : Value, e = .returned (.tuple #[v0_, .int .i64 r2, .int .i64 r3]) ∧ Kd.S k88 88 w' w.heap.size (fun _ => True) v0_ r1 ∧ Below w.heap.size w w' := by
  have hu88 := Try.underlying88
  have HR0 := Aside0.mk hr0
  have HC0 := Aside0.mk hc0
  clear hr0 hc0
  have HB := Aside0.mk (Below.refl w.heap.size w)
  have H : (tattingref44_Get.l0 k l0 ([] : List (S88)) 0) = some (r1, r2, r3) := h
  clear h
  have H' := Aside0.mk H
  clear H
  go_enter Try.func26, Try.ntmps26
  go_wp2
  go_loopg [5, 6] k (fun kq v5 v6 w' => ∃ (x5_1 : List (S88)) (x6_1 : Int), v6 = .int .i64 x6_1 ∧ Aside0 (tattingref44_Get.l0 kq l0 x5_1 x6_1 = some (r1, r2, r3)) ∧ Aside0 (kq ≤ k) ∧ Aside0 (Kd.S k88 88 w' w.heap.size (fun _ => True) v5 x5_1) ∧ Aside0 (Below w.heap.size w w'))
  case atStart => exact ⟨(([] : List (S88))), (0), (by first | rfl | (simp; done) | (simp [*]; done)), H', ⟨Nat.le_refl _⟩, ⟨by first | exact Kd.S_nil _ _ _ _ _ | exact Kd.N_nil _ _ _ _ _ | exact Kd.V_nil _ _ _ _ _ | exact Kd.Q_nil _ _ _ _ _ | exact Kd.R_nil _ _ _ _ _⟩, ⟨by repeat (first | (with_reducible first | exact HB.out | apply below_alloc | apply pw_below_drewN | apply below_drew1) | exact HB.out)⟩⟩
  case round =>
    clear H'
    obtain ⟨x5_1, x6_1, rfl, HA, HK1, HO_5, HB⟩ := hrel
    cases gk with
    | zero => exact absurd HA.out (by simp [tattingref44_Get.l0])
    | succ k1 =>
      have H := HA.out
      clear HA
      simp only [tattingref44_Get.l0] at H
      by_cases c2 : x6_1 < (l0.length : Int)
      · rw [if_pos c2] at H
        have c2b0 : decide (x6_1 < (l0.length : Int)) = true := decide_eq_true c2
        clear c2
        by_cases c3 : (wrap64 ((l0.length : Int) - x6_1)) < 8
        · rw [if_pos c3] at H
          have c3b0 : decide ((wrap64 ((l0.length : Int) - x6_1)) < 8) = true := decide_eq_true c3
          clear c3
          simp only [Option.some.injEq, Prod.mk.injEq] at H
          obtain ⟨rfl, rfl, rfl⟩ := H
          go_wp2
          go_ret3
          exact ⟨_, by first | rfl | (simp [errW_none, errW_some] <;> rfl) | (simp [*, errW_none, errW_some] <;> rfl), by (with_reducible repeat (first | apply Kd.S_alloc | apply Kd.S_drewN | apply Kd.S_drew)); exact HO_5.out, by repeat (first | (with_reducible first | exact HB.out | apply below_alloc | apply pw_below_drewN | apply below_drew1) | exact HB.out)⟩
        · rw [if_neg c3] at H
          have c3b0 : decide ((wrap64 ((l0.length : Int) - x6_1)) < 8) = false := decide_eq_false c3
          clear c3
          by_cases c4 : 0 ≤ x6_1
          · rw [if_pos c4] at H
            have c4b0 := eq_true c4
            have c4b1 : decide (0 ≤ x6_1) = true := decide_eq_true c4
            clear c4
            by_cases c5 : x6_1 ≤ (wrap64 (x6_1 + 4))
            · rw [if_pos c5] at H
              have c5b0 := eq_true c5
              have c5b1 : decide (x6_1 ≤ (wrap64 (x6_1 + 4))) = true := decide_eq_true c5
              by_cases c6 : (wrap64 (x6_1 + 4)) ≤ (l0.length : Int)
              · rw [if_pos c6] at H
                have c6b0 := eq_true c6
                have c6b1 : decide ((wrap64 (x6_1 + 4)) ≤ (l0.length : Int)) = true := decide_eq_true c6
                replace H := Option.bind_eq_some_iff.mp H
                obtain ⟨t168, A70, H⟩ := H
                replace H : (if (wrap64 (t168)) > 1572858 then (some (x5_1, x6_1, 4)) else (if (wrap64 ((wrap64 ((l0.length : Int) - x6_1)) - 8)) < (wrap64 (t168)) then (some (x5_1, x6_1, 10)) else (if 0 ≤ (wrap64 (x6_1 + 8)) then (if (wrap64 (x6_1 + 8)) ≤ (wrap64 ((wrap64 (x6_1 + 8)) + (wrap64 (t168)))) then (if (wrap64 ((wrap64 (x6_1 + 8)) + (wrap64 (t168)))) ≤ (l0.length : Int) then (if 0 ≤ (wrap64 (x6_1 + 4)) then (if (wrap64 (x6_1 + 4)) ≤ (wrap64 (x6_1 + 8)) then (if (wrap64 (x6_1 + 8)) ≤ (l0.length : Int) then ((tattingref44_number.f k1 ((l0.take ((wrap64 (x6_1 + 8)) : Int).toNat).drop ((wrap64 (x6_1 + 4)) : Int).toNat)).bind fun t171 => ((tattingref44_Sum.f k1 ((l0.take ((wrap64 ((wrap64 (x6_1 + 8)) + (wrap64 (t168)))) : Int).toNat).drop ((wrap64 (x6_1 + 8)) : Int).toNat)).bind fun t172 => (if t171 = (IntKind.u64.wrap (t172)) then (if (wrap64 (t168)) < 2 then (tattingref44_Get.j1 k1 l0 x5_1 x6_1 (wrap64 (t168)) ((l0.take ((wrap64 ((wrap64 (x6_1 + 8)) + (wrap64 (t168)))) : Int).toNat).drop ((wrap64 (x6_1 + 8)) : Int).toNat) true) else (if 2 ≤ (((l0.take ((wrap64 ((wrap64 (x6_1 + 8)) + (wrap64 (t168)))) : Int).toNat).drop ((wrap64 (x6_1 + 8)) : Int).toNat).length : Int) then ((tattingref44_number.f k1 (((l0.take ((wrap64 ((wrap64 (x6_1 + 8)) + (wrap64 (t168)))) : Int).toNat).drop ((wrap64 (x6_1 + 8)) : Int).toNat).take 2)).bind fun t174 => (if (wrap64 ((wrap64 (t168)) - 2)) < (wrap64 (8 * (wrap64 (t174)))) then (tattingref44_Get.j1 k1 l0 x5_1 x6_1 (wrap64 (t168)) ((l0.take ((wrap64 ((wrap64 (x6_1 + 8)) + (wrap64 (t168)))) : Int).toNat).drop ((wrap64 (x6_1 + 8)) : Int).toNat) true) else ((tattingref44_number.f k1 (((l0.take ((wrap64 ((wrap64 (x6_1 + 8)) + (wrap64 (t168)))) : Int).toNat).drop ((wrap64 (x6_1 + 8)) : Int).toNat).take 2)).bind fun t176 => (tattingref44_Get.j1 k1 l0 x5_1 x6_1 (wrap64 (t168)) ((l0.take ((wrap64 ((wrap64 (x6_1 + 8)) + (wrap64 (t168)))) : Int).toNat).drop ((wrap64 (x6_1 + 8)) : Int).toNat) (decide ((wrap64 ((wrap64 ((wrap64 (t168)) - 2)) - (wrap64 (8 * (wrap64 (t176)))))) > 1048576)))))) else (none))) else (some (x5_1, x6_1, 11))))) else (none)) else (none)) else (none)) else (none)) else (none)) else (none)))) = some (r1, r2, r3) := H
                have A7 := Aside0.mk A70
                clear A70
                by_cases c8 : (wrap64 (t168)) > 1572858
                · rw [if_pos c8] at H
                  have c8b0 : decide (1572858 < (wrap64 (t168))) = true := decide_eq_true c8
                  clear c8
                  simp only [Option.some.injEq, Prod.mk.injEq] at H
                  obtain ⟨rfl, rfl, rfl⟩ := H
                  obtain ⟨i09, hi09, _, hsz9, _⟩ := info_parts info5
                  obtain ⟨A9, hcut9, hA9, hC9⟩ := print_mid_of (P := Try.prog) (Value.int .u8) 0 22 5 .i64 .i64 Try.underlying22 hi09 hsz9 A0 c0 l0 x6_1 (wrap64 (x6_1 + 4)) (of_decide_eq_true (by first | (with_reducible assumption) | assumption)) (by first | omega | exact of_decide_eq_true (by first | (with_reducible assumption) | assumption)) (of_decide_eq_true (by first | (with_reducible assumption) | assumption)) HC0.out
                  have HR167 := Aside0.mk (Kd.C_of_reads (h1 := fun _ => rfl) (hA9 _ (Kd.reads_of_C HR0.out)))
                  have HC167 := Aside0.mk hC9
                  have hcutb9 := hcut9
                  clear hA9 hC9 hi09 hsz9
                  have SL167 := Aside0.mk (show ((l0.take ((wrap64 (x6_1 + 4)) : Int).toNat).drop (x6_1 : Int).toNat).length = ((wrap64 (x6_1 + 4)).toNat - x6_1.toNat) from (by rw [List.length_drop, List.length_take]; have h_ : ((wrap64 (x6_1 + 4)) : Int) ≤ (l0.length : Int) := of_decide_eq_true (by first | (with_reducible assumption) | assumption); omega))
                  go_wp2_with (first | ((with_reducible refine gate_callee (f := 50) rfl ?_); refine goesL_ (some 28) rfl rfl Try.func50 (by kernel_rfl) rfl #[.slice A9 ((l0.take ((wrap64 (x6_1 + 4)) : Int).toNat).drop (x6_1 : Int).toNat).length (c0 - x6_1.toNat)] rfl (by (try simp only [List.map_toArray, List.map_cons, List.map_nil]); first | done | (rw [show ((l0.take ((wrap64 (x6_1 + 4)) : Int).toNat).drop (x6_1 : Int).toNat).length = ((wrap64 (x6_1 + 4)).toNat - x6_1.toNat) from SL167.out] <;> rfl) | rfl | (simp only [List.length_drop, List.length_take]; rfl) | (exact congrArg (fun n_ : Nat => (#[Value.slice _ n_ _] : Array Value)) (by simp only [List.length_take, List.length_drop]; omega))) ?_; (with_reducible refine (tattingref44_number.calls k1 _ _ ((l0.take ((wrap64 (x6_1 + 4)) : Int).toNat).drop (x6_1 : Int).toNat) t168 _ ?side1 ?side2 A7.out).mono ?_); (case side1 => repeat (first | exact (Kd.C_below HR167.out HB.out) | (with_reducible refine Kd.C_alloc ?_ _) | (with_reducible refine Kd.C_drewN ?_ _) | (with_reducible refine Kd.C_drew ?_))); (case side2 => exact HC167.out); rintro e w' ⟨rfl, ⟨nd, rfl⟩⟩; refine ⟨_, rfl, ?_⟩))
                  go_ret3
                  exact ⟨_, by first | rfl | (simp [errW_none, errW_some] <;> rfl) | (simp [*, errW_none, errW_some] <;> rfl), by (with_reducible repeat (first | apply Kd.S_alloc | apply Kd.S_drewN | apply Kd.S_drew)); exact HO_5.out, by repeat (first | (with_reducible first | exact HB.out | apply below_alloc | apply pw_below_drewN | apply below_drew1) | exact HB.out)⟩
                · rw [if_neg c8] at H
                  have c8b0 : decide (1572858 < (wrap64 (t168))) = false := decide_eq_false c8
                  clear c8
                  by_cases c10 : (wrap64 ((wrap64 ((l0.length : Int) - x6_1)) - 8)) < (wrap64 (t168))
                  · rw [if_pos c10] at H
                    have c10b0 : decide ((wrap64 ((wrap64 ((l0.length : Int) - x6_1)) - 8)) < (wrap64 (t168))) = true := decide_eq_true c10
                    clear c10
                    simp only [Option.some.injEq, Prod.mk.injEq] at H
                    obtain ⟨rfl, rfl, rfl⟩ := H
                    obtain ⟨i011, hi011, _, hsz11, _⟩ := info_parts info5
                    obtain ⟨A11, hcut11, hA11, hC11⟩ := print_mid_of (P := Try.prog) (Value.int .u8) 0 22 5 .i64 .i64 Try.underlying22 hi011 hsz11 A0 c0 l0 x6_1 (wrap64 (x6_1 + 4)) (of_decide_eq_true (by first | (with_reducible assumption) | assumption)) (by first | omega | exact of_decide_eq_true (by first | (with_reducible assumption) | assumption)) (of_decide_eq_true (by first | (with_reducible assumption) | assumption)) HC0.out
                    have HR167 := Aside0.mk (Kd.C_of_reads (h1 := fun _ => rfl) (hA11 _ (Kd.reads_of_C HR0.out)))
                    have HC167 := Aside0.mk hC11
                    have hcutb11 := hcut11
                    clear hA11 hC11 hi011 hsz11
                    have SL167 := Aside0.mk (show ((l0.take ((wrap64 (x6_1 + 4)) : Int).toNat).drop (x6_1 : Int).toNat).length = ((wrap64 (x6_1 + 4)).toNat - x6_1.toNat) from (by rw [List.length_drop, List.length_take]; have h_ : ((wrap64 (x6_1 + 4)) : Int) ≤ (l0.length : Int) := of_decide_eq_true (by first | (with_reducible assumption) | assumption); omega))
                    go_wp2_with (first | ((with_reducible refine gate_callee (f := 50) rfl ?_); refine goesL_ (some 28) rfl rfl Try.func50 (by kernel_rfl) rfl #[.slice A11 ((l0.take ((wrap64 (x6_1 + 4)) : Int).toNat).drop (x6_1 : Int).toNat).length (c0 - x6_1.toNat)] rfl (by (try simp only [List.map_toArray, List.map_cons, List.map_nil]); first | done | (rw [show ((l0.take ((wrap64 (x6_1 + 4)) : Int).toNat).drop (x6_1 : Int).toNat).length = ((wrap64 (x6_1 + 4)).toNat - x6_1.toNat) from SL167.out] <;> rfl) | rfl | (simp only [List.length_drop, List.length_take]; rfl) | (exact congrArg (fun n_ : Nat => (#[Value.slice _ n_ _] : Array Value)) (by simp only [List.length_take, List.length_drop]; omega))) ?_; (with_reducible refine (tattingref44_number.calls k1 _ _ ((l0.take ((wrap64 (x6_1 + 4)) : Int).toNat).drop (x6_1 : Int).toNat) t168 _ ?side1 ?side2 A7.out).mono ?_); (case side1 => repeat (first | exact (Kd.C_below HR167.out HB.out) | (with_reducible refine Kd.C_alloc ?_ _) | (with_reducible refine Kd.C_drewN ?_ _) | (with_reducible refine Kd.C_drew ?_))); (case side2 => exact HC167.out); rintro e w' ⟨rfl, ⟨nd, rfl⟩⟩; refine ⟨_, rfl, ?_⟩))
                    go_ret3
                    exact ⟨_, by first | rfl | (simp [errW_none, errW_some] <;> rfl) | (simp [*, errW_none, errW_some] <;> rfl), by (with_reducible repeat (first | apply Kd.S_alloc | apply Kd.S_drewN | apply Kd.S_drew)); exact HO_5.out, by repeat (first | (with_reducible first | exact HB.out | apply below_alloc | apply pw_below_drewN | apply below_drew1) | exact HB.out)⟩
                  · rw [if_neg c10] at H
                    have c10b0 : decide ((wrap64 ((wrap64 ((l0.length : Int) - x6_1)) - 8)) < (wrap64 (t168))) = false := decide_eq_false c10
                    clear c10
                    obtain ⟨ji12, hji12⟩ : ∃ j_ : Int, (wrap64 (x6_1 + 8)) = j_ := ⟨_, rfl⟩
                    replace H : (if 0 ≤ (ji12) then (if (ji12) ≤ (wrap64 ((ji12) + (wrap64 (t168)))) then (if (wrap64 ((ji12) + (wrap64 (t168)))) ≤ (l0.length : Int) then (if 0 ≤ (wrap64 (x6_1 + 4)) then (if (wrap64 (x6_1 + 4)) ≤ (ji12) then (if (ji12) ≤ (l0.length : Int) then ((tattingref44_number.f k1 ((l0.take ((ji12) : Int).toNat).drop ((wrap64 (x6_1 + 4)) : Int).toNat)).bind fun t171 => ((tattingref44_Sum.f k1 ((l0.take ((wrap64 ((ji12) + (wrap64 (t168)))) : Int).toNat).drop ((ji12) : Int).toNat)).bind fun t172 => (if t171 = (IntKind.u64.wrap (t172)) then (if (wrap64 (t168)) < 2 then (tattingref44_Get.j1 k1 l0 x5_1 x6_1 (wrap64 (t168)) ((l0.take ((wrap64 ((ji12) + (wrap64 (t168)))) : Int).toNat).drop ((ji12) : Int).toNat) true) else (if 2 ≤ (((l0.take ((wrap64 ((ji12) + (wrap64 (t168)))) : Int).toNat).drop ((ji12) : Int).toNat).length : Int) then ((tattingref44_number.f k1 (((l0.take ((wrap64 ((ji12) + (wrap64 (t168)))) : Int).toNat).drop ((ji12) : Int).toNat).take 2)).bind fun t174 => (if (wrap64 ((wrap64 (t168)) - 2)) < (wrap64 (8 * (wrap64 (t174)))) then (tattingref44_Get.j1 k1 l0 x5_1 x6_1 (wrap64 (t168)) ((l0.take ((wrap64 ((ji12) + (wrap64 (t168)))) : Int).toNat).drop ((ji12) : Int).toNat) true) else ((tattingref44_number.f k1 (((l0.take ((wrap64 ((ji12) + (wrap64 (t168)))) : Int).toNat).drop ((ji12) : Int).toNat).take 2)).bind fun t176 => (tattingref44_Get.j1 k1 l0 x5_1 x6_1 (wrap64 (t168)) ((l0.take ((wrap64 ((ji12) + (wrap64 (t168)))) : Int).toNat).drop ((ji12) : Int).toNat) (decide ((wrap64 ((wrap64 ((wrap64 (t168)) - 2)) - (wrap64 (8 * (wrap64 (t176)))))) > 1048576)))))) else (none))) else (some (x5_1, x6_1, 11))))) else (none)) else (none)) else (none)) else (none)) else (none)) else (none)) = some (r1, r2, r3) := by first | (rw [hji12] at H; exact H) | (simp only [hji12] at H ⊢; exact H)
                    (try rw [hji12] at A7)
                    have hji12w : (IntKind.i64.wrap (x6_1 + 8)) = ji12 := (i64_w _).trans hji12
                    by_cases c13 : 0 ≤ (ji12)
                    · rw [if_pos c13] at H
                      have c13b0 := eq_true c13
                      have c13b1 : decide (0 ≤ (ji12)) = true := decide_eq_true c13
                      clear c13
                      by_cases c14 : (ji12) ≤ (wrap64 ((ji12) + (wrap64 (t168))))
                      · rw [if_pos c14] at H
                        have c14b0 := eq_true c14
                        have c14b1 : decide ((ji12) ≤ (wrap64 ((ji12) + (wrap64 (t168))))) = true := decide_eq_true c14
                        by_cases c15 : (wrap64 ((ji12) + (wrap64 (t168)))) ≤ (l0.length : Int)
                        · rw [if_pos c15] at H
                          have c15b0 := eq_true c15
                          have c15b1 : decide ((wrap64 ((ji12) + (wrap64 (t168)))) ≤ (l0.length : Int)) = true := decide_eq_true c15
                          obtain ⟨ji16, hji16⟩ : ∃ j_ : Int, (wrap64 (x6_1 + 4)) = j_ := ⟨_, rfl⟩
                          replace H : (if 0 ≤ (ji16) then (if (ji16) ≤ (ji12) then (if (ji12) ≤ (l0.length : Int) then ((tattingref44_number.f k1 ((l0.take ((ji12) : Int).toNat).drop ((ji16) : Int).toNat)).bind fun t171 => ((tattingref44_Sum.f k1 ((l0.take ((wrap64 ((ji12) + (wrap64 (t168)))) : Int).toNat).drop ((ji12) : Int).toNat)).bind fun t172 => (if t171 = (IntKind.u64.wrap (t172)) then (if (wrap64 (t168)) < 2 then (tattingref44_Get.j1 k1 l0 x5_1 x6_1 (wrap64 (t168)) ((l0.take ((wrap64 ((ji12) + (wrap64 (t168)))) : Int).toNat).drop ((ji12) : Int).toNat) true) else (if 2 ≤ (((l0.take ((wrap64 ((ji12) + (wrap64 (t168)))) : Int).toNat).drop ((ji12) : Int).toNat).length : Int) then ((tattingref44_number.f k1 (((l0.take ((wrap64 ((ji12) + (wrap64 (t168)))) : Int).toNat).drop ((ji12) : Int).toNat).take 2)).bind fun t174 => (if (wrap64 ((wrap64 (t168)) - 2)) < (wrap64 (8 * (wrap64 (t174)))) then (tattingref44_Get.j1 k1 l0 x5_1 x6_1 (wrap64 (t168)) ((l0.take ((wrap64 ((ji12) + (wrap64 (t168)))) : Int).toNat).drop ((ji12) : Int).toNat) true) else ((tattingref44_number.f k1 (((l0.take ((wrap64 ((ji12) + (wrap64 (t168)))) : Int).toNat).drop ((ji12) : Int).toNat).take 2)).bind fun t176 => (tattingref44_Get.j1 k1 l0 x5_1 x6_1 (wrap64 (t168)) ((l0.take ((wrap64 ((ji12) + (wrap64 (t168)))) : Int).toNat).drop ((ji12) : Int).toNat) (decide ((wrap64 ((wrap64 ((wrap64 (t168)) - 2)) - (wrap64 (8 * (wrap64 (t176)))))) > 1048576)))))) else (none))) else (some (x5_1, x6_1, 11))))) else (none)) else (none)) else (none)) = some (r1, r2, r3) := by first | (rw [hji16] at H; exact H) | (simp only [hji16] at H ⊢; exact H)
                          (try rw [hji16] at c5b0)
                          (try rw [hji16] at c5b1)
                          (try rw [hji16] at c5)
                          (try rw [hji16] at c6b0)
                          (try rw [hji16] at c6b1)
                          (try rw [hji16] at c6)
                          (try rw [hji16] at A7)
                          have hji16w : (IntKind.i64.wrap (x6_1 + 4)) = ji16 := (i64_w _).trans hji16
                          by_cases c17 : 0 ≤ (ji16)
                          · rw [if_pos c17] at H
                            have c17b0 := eq_true c17
                            have c17b1 : decide (0 ≤ (ji16)) = true := decide_eq_true c17
                            clear c17
                            by_cases c18 : (ji16) ≤ (ji12)
                            · rw [if_pos c18] at H
                              have c18b0 := eq_true c18
                              have c18b1 : decide ((ji16) ≤ (ji12)) = true := decide_eq_true c18
                              clear c18
                              by_cases c19 : (ji12) ≤ (l0.length : Int)
                              · rw [if_pos c19] at H
                                have c19b0 := eq_true c19
                                have c19b1 : decide ((ji12) ≤ (l0.length : Int)) = true := decide_eq_true c19
                                clear c19
                                replace H := Option.bind_eq_some_iff.mp H
                                obtain ⟨t171, A200, H⟩ := H
                                replace H : ((tattingref44_Sum.f k1 ((l0.take ((wrap64 ((ji12) + (wrap64 (t168)))) : Int).toNat).drop ((ji12) : Int).toNat)).bind fun t172 => (if t171 = (IntKind.u64.wrap (t172)) then (if (wrap64 (t168)) < 2 then (tattingref44_Get.j1 k1 l0 x5_1 x6_1 (wrap64 (t168)) ((l0.take ((wrap64 ((ji12) + (wrap64 (t168)))) : Int).toNat).drop ((ji12) : Int).toNat) true) else (if 2 ≤ (((l0.take ((wrap64 ((ji12) + (wrap64 (t168)))) : Int).toNat).drop ((ji12) : Int).toNat).length : Int) then ((tattingref44_number.f k1 (((l0.take ((wrap64 ((ji12) + (wrap64 (t168)))) : Int).toNat).drop ((ji12) : Int).toNat).take 2)).bind fun t174 => (if (wrap64 ((wrap64 (t168)) - 2)) < (wrap64 (8 * (wrap64 (t174)))) then (tattingref44_Get.j1 k1 l0 x5_1 x6_1 (wrap64 (t168)) ((l0.take ((wrap64 ((ji12) + (wrap64 (t168)))) : Int).toNat).drop ((ji12) : Int).toNat) true) else ((tattingref44_number.f k1 (((l0.take ((wrap64 ((ji12) + (wrap64 (t168)))) : Int).toNat).drop ((ji12) : Int).toNat).take 2)).bind fun t176 => (tattingref44_Get.j1 k1 l0 x5_1 x6_1 (wrap64 (t168)) ((l0.take ((wrap64 ((ji12) + (wrap64 (t168)))) : Int).toNat).drop ((ji12) : Int).toNat) (decide ((wrap64 ((wrap64 ((wrap64 (t168)) - 2)) - (wrap64 (8 * (wrap64 (t176)))))) > 1048576)))))) else (none))) else (some (x5_1, x6_1, 11)))) = some (r1, r2, r3) := H
                                have A20 := Aside0.mk A200
                                clear A200
                                replace H := Option.bind_eq_some_iff.mp H
                                obtain ⟨t172, A210, H⟩ := H
                                replace H : (if t171 = (IntKind.u64.wrap (t172)) then (if (wrap64 (t168)) < 2 then (tattingref44_Get.j1 k1 l0 x5_1 x6_1 (wrap64 (t168)) ((l0.take ((wrap64 ((ji12) + (wrap64 (t168)))) : Int).toNat).drop ((ji12) : Int).toNat) true) else (if 2 ≤ (((l0.take ((wrap64 ((ji12) + (wrap64 (t168)))) : Int).toNat).drop ((ji12) : Int).toNat).length : Int) then ((tattingref44_number.f k1 (((l0.take ((wrap64 ((ji12) + (wrap64 (t168)))) : Int).toNat).drop ((ji12) : Int).toNat).take 2)).bind fun t174 => (if (wrap64 ((wrap64 (t168)) - 2)) < (wrap64 (8 * (wrap64 (t174)))) then (tattingref44_Get.j1 k1 l0 x5_1 x6_1 (wrap64 (t168)) ((l0.take ((wrap64 ((ji12) + (wrap64 (t168)))) : Int).toNat).drop ((ji12) : Int).toNat) true) else ((tattingref44_number.f k1 (((l0.take ((wrap64 ((ji12) + (wrap64 (t168)))) : Int).toNat).drop ((ji12) : Int).toNat).take 2)).bind fun t176 => (tattingref44_Get.j1 k1 l0 x5_1 x6_1 (wrap64 (t168)) ((l0.take ((wrap64 ((ji12) + (wrap64 (t168)))) : Int).toNat).drop ((ji12) : Int).toNat) (decide ((wrap64 ((wrap64 ((wrap64 (t168)) - 2)) - (wrap64 (8 * (wrap64 (t176)))))) > 1048576)))))) else (none))) else (some (x5_1, x6_1, 11))) = some (r1, r2, r3) := H
                                have A21 := Aside0.mk A210
                                clear A210
                                by_cases c22 : t171 = (IntKind.u64.wrap (t172))
                                · rw [if_pos c22] at H
                                  have c22b0 : (t171 == (IntKind.u64.wrap (t172))) = true := beq_iff_eq.mpr c22
                                  have c22b1 : (t171 != (IntKind.u64.wrap (t172))) = false := bne_eq_false_iff_eq.mpr c22
                                  clear c22
                                  have HC23 := Aside0.mk H
                                  clear H
                                  obtain ⟨i024, hi024, _, hsz24, _⟩ := info_parts info5
                                  obtain ⟨A24, hcut24, hA24, hC24⟩ := print_mid_of (P := Try.prog) (Value.int .u8) 0 22 5 .i64 .i64 Try.underlying22 hi024 hsz24 A0 c0 l0 x6_1 (ji16) (of_decide_eq_true (by first | (with_reducible assumption) | assumption)) (by first | omega | exact of_decide_eq_true (by first | (with_reducible assumption) | assumption)) (of_decide_eq_true (by first | (with_reducible assumption) | assumption)) HC0.out
                                  have HR167 := Aside0.mk (Kd.C_of_reads (h1 := fun _ => rfl) (hA24 _ (Kd.reads_of_C HR0.out)))
                                  have HC167 := Aside0.mk hC24
                                  have hcutb24 := hcut24
                                  clear hA24 hC24 hi024 hsz24
                                  have SL167 := Aside0.mk (show ((l0.take ((ji16) : Int).toNat).drop (x6_1 : Int).toNat).length = ((ji16).toNat - x6_1.toNat) from (by rw [List.length_drop, List.length_take]; have h_ : ((ji16) : Int) ≤ (l0.length : Int) := of_decide_eq_true (by first | (with_reducible assumption) | assumption); omega))
                                  go_upto_region 14 with (first | ((with_reducible refine gate_callee (f := 50) rfl ?_); refine goesL_ (some 28) rfl rfl Try.func50 (by kernel_rfl) rfl #[.slice A24 ((l0.take ((ji16) : Int).toNat).drop (x6_1 : Int).toNat).length (c0 - x6_1.toNat)] rfl (by (try simp only [List.map_toArray, List.map_cons, List.map_nil]); first | done | (rw [show ((l0.take ((ji16) : Int).toNat).drop (x6_1 : Int).toNat).length = ((ji16).toNat - x6_1.toNat) from SL167.out] <;> rfl) | (simp only [hji16]; rfl) | rfl | (simp only [List.length_drop, List.length_take]; rfl) | (exact congrArg (fun n_ : Nat => (#[Value.slice _ n_ _] : Array Value)) (by simp only [List.length_take, List.length_drop]; omega))) ?_; (with_reducible refine (tattingref44_number.calls k1 _ _ ((l0.take ((ji16) : Int).toNat).drop (x6_1 : Int).toNat) t168 _ ?side1 ?side2 A7.out).mono ?_); (case side1 => repeat (first | exact (Kd.C_below HR167.out HB.out) | (with_reducible refine Kd.C_alloc ?_ _) | (with_reducible refine Kd.C_drewN ?_ _) | (with_reducible refine Kd.C_drew ?_))); (case side2 => exact HC167.out); rintro e w' ⟨rfl, ⟨nd, rfl⟩⟩; refine ⟨_, rfl, ?_⟩; obtain ⟨i025, hi025, _, hsz25, _⟩ := info_parts info5; obtain ⟨A25, hcut25, hA25, hC25⟩ := print_mid_of (P := Try.prog) (Value.int .u8) 0 22 5 .i64 .i64 Try.underlying22 hi025 hsz25 A0 c0 l0 (ji12) (wrap64 ((ji12) + (wrap64 (t168)))) (of_decide_eq_true (by first | (with_reducible assumption) | assumption)) (by first | omega | exact of_decide_eq_true (by first | (with_reducible assumption) | assumption)) (of_decide_eq_true (by first | (with_reducible assumption) | assumption)) HC0.out; have HR169 := Aside0.mk (Kd.C_of_reads (h1 := fun _ => rfl) (hA25 _ (Kd.reads_of_C HR0.out))); have HC169 := Aside0.mk hC25; have hcutb25 := hcut25; clear hA25 hC25 hi025 hsz25; have SL169 := Aside0.mk (show ((l0.take ((wrap64 ((ji12) + (wrap64 (t168)))) : Int).toNat).drop ((ji12) : Int).toNat).length = ((wrap64 ((ji12) + (wrap64 (t168)))).toNat - (ji12).toNat) from (by rw [List.length_drop, List.length_take]; have h_ : ((wrap64 ((ji12) + (wrap64 (t168)))) : Int) ≤ (l0.length : Int) := of_decide_eq_true (by first | (with_reducible assumption) | assumption); omega)); obtain ⟨i026, hi026, _, hsz26, _⟩ := info_parts info5; obtain ⟨A26, hcut26, hA26, hC26⟩ := print_mid_of (P := Try.prog) (Value.int .u8) 0 22 5 .i64 .i64 Try.underlying22 hi026 hsz26 A0 c0 l0 (ji16) (ji12) (of_decide_eq_true (by first | (with_reducible assumption) | assumption)) (by first | omega | exact of_decide_eq_true (by first | (with_reducible assumption) | assumption)) (of_decide_eq_true (by first | (with_reducible assumption) | assumption)) HC0.out; have HR170 := Aside0.mk (Kd.C_of_reads (h1 := fun _ => rfl) (hA26 _ (Kd.reads_of_C HR0.out))); have HC170 := Aside0.mk hC26; have hcutb26 := hcut26; clear hA26 hC26 hi026 hsz26; have SL170 := Aside0.mk (show ((l0.take ((ji12) : Int).toNat).drop ((ji16) : Int).toNat).length = ((ji12).toNat - (ji16).toNat) from (by rw [List.length_drop, List.length_take]; have h_ : ((ji12) : Int) ≤ (l0.length : Int) := of_decide_eq_true (by first | (with_reducible assumption) | assumption); omega))) | ((with_reducible refine gate_callee (f := 50) rfl ?_); refine goesL_ (some 57) rfl rfl Try.func50 (by kernel_rfl) rfl #[.slice A26 ((l0.take ((ji12) : Int).toNat).drop ((ji16) : Int).toNat).length (c0 - (ji16).toNat)] rfl (by (try simp only [List.map_toArray, List.map_cons, List.map_nil]); first | done | (rw [show ((l0.take ((ji12) : Int).toNat).drop ((ji16) : Int).toNat).length = ((ji12).toNat - (ji16).toNat) from SL170.out] <;> rfl) | (simp only [hji12, hji16]; rfl) | rfl | (simp only [List.length_drop, List.length_take]; rfl) | (exact congrArg (fun n_ : Nat => (#[Value.slice _ n_ _] : Array Value)) (by simp only [List.length_take, List.length_drop]; omega))) ?_; (with_reducible refine (tattingref44_number.calls k1 _ _ ((l0.take ((ji12) : Int).toNat).drop ((ji16) : Int).toNat) t171 _ ?side1 ?side2 A20.out).mono ?_); (case side1 => repeat (first | exact (Kd.C_below HR170.out (by repeat (first | (with_reducible first | exact HB.out | apply below_alloc | apply pw_below_drewN | apply below_drew1) | exact HB.out))) | (with_reducible refine Kd.C_alloc ?_ _) | (with_reducible refine Kd.C_drewN ?_ _) | (with_reducible refine Kd.C_drew ?_))); (case side2 => exact HC170.out); rintro e w' ⟨rfl, ⟨nd, rfl⟩⟩; refine ⟨_, rfl, ?_⟩) | ((with_reducible refine gate_callee (f := 25) rfl ?_); refine goesL_ (some 59) rfl rfl Try.func25 (by kernel_rfl) rfl #[.slice A25 ((l0.take ((wrap64 ((ji12) + (wrap64 (t168)))) : Int).toNat).drop ((ji12) : Int).toNat).length (c0 - (ji12).toNat)] rfl (by (try simp only [List.map_toArray, List.map_cons, List.map_nil]); first | done | (rw [show ((l0.take ((wrap64 ((ji12) + (wrap64 (t168)))) : Int).toNat).drop ((ji12) : Int).toNat).length = ((wrap64 ((ji12) + (wrap64 (t168)))).toNat - (ji12).toNat) from SL169.out] <;> rfl) | (simp only [hji12]; rfl) | rfl | (simp only [List.length_drop, List.length_take]; rfl) | (exact congrArg (fun n_ : Nat => (#[Value.slice _ n_ _] : Array Value)) (by simp only [List.length_take, List.length_drop]; omega))) ?_; (with_reducible refine (tattingref44_Sum.calls k1 _ _ ((l0.take ((wrap64 ((ji12) + (wrap64 (t168)))) : Int).toNat).drop ((ji12) : Int).toNat) t172 _ ?side1 ?side2 A21.out).mono ?_); (case side1 => repeat (first | exact (Kd.C_below HR169.out (by repeat (first | (with_reducible first | exact HB.out | apply below_alloc | apply pw_below_drewN | apply below_drew1) | exact HB.out))) | (with_reducible refine Kd.C_alloc ?_ _) | (with_reducible refine Kd.C_drewN ?_ _) | (with_reducible refine Kd.C_drew ?_))); (case side2 => exact HC169.out); rintro e w' ⟨rfl, ⟨nd, rfl⟩⟩; refine ⟨_, rfl, ?_⟩))
                                  (try simp only [Act.put, List.setIfInBounds_toArray, List.set_cons_zero, List.set_cons_succ])
                                  go_cut [86] (fun v86 wc => ∃ (kq : Nat) (x86_22 : Bool), v86 = .bool x86_22 ∧ Aside0 (tattingref44_Get.j1 kq l0 x5_1 x6_1 (wrap64 (t168)) ((l0.take ((wrap64 ((ji12) + (wrap64 (t168)))) : Int).toNat).drop ((ji12) : Int).toNat) x86_22 = some (r1, r2, r3)) ∧ Aside0 (kq ≤ k1) ∧ Aside0 (Kd.S k88 88 wc w.heap.size (fun _ => True) u5 x5_1) ∧ Aside0 (Below w.heap.size w wc))
                                  case first =>
                                    have H := HC23.out
                                    clear HC23
                                    by_cases c27 : (wrap64 (t168)) < 2
                                    · rw [if_pos c27] at H
                                      have c27b0 : decide ((wrap64 (t168)) < 2) = true := decide_eq_true c27
                                      clear c27
                                      (first | rw [c27b0] | (simp only [i64_w, i32_w]; rw [c27b0]) | skip)
                                      have H' := Aside0.mk H
                                      clear H
                                      go_wp2
                                      go_meet
                                      case rel => exact ⟨_, (true), (by first | rfl | (simp; done) | (simp [*]; done)), H', ⟨by have := HK1.out; first | omega | exact Nat.le_refl _⟩, ⟨by (with_reducible repeat (first | apply Kd.S_alloc | apply Kd.S_drewN | apply Kd.S_drew)); exact HO_5.out⟩, ⟨by repeat (first | (with_reducible first | exact HB.out | apply below_alloc | apply pw_below_drewN | apply below_drew1) | exact HB.out)⟩⟩
                                    · rw [if_neg c27] at H
                                      have c27b0 : decide ((wrap64 (t168)) < 2) = false := decide_eq_false c27
                                      clear c27
                                      (first | rw [c27b0] | (simp only [i64_w, i32_w]; rw [c27b0]) | skip)
                                      by_cases c28 : 2 ≤ (((l0.take ((wrap64 ((ji12) + (wrap64 (t168)))) : Int).toNat).drop ((ji12) : Int).toNat).length : Int)
                                      · rw [if_pos c28] at H
                                        have c28b0 := eq_true c28
                                        have c28b1 : decide (2 ≤ (((l0.take ((wrap64 ((ji12) + (wrap64 (t168)))) : Int).toNat).drop ((ji12) : Int).toNat).length : Int)) = true := decide_eq_true c28
                                        replace H := Option.bind_eq_some_iff.mp H
                                        obtain ⟨t174, A290, H⟩ := H
                                        replace H : (if (wrap64 ((wrap64 (t168)) - 2)) < (wrap64 (8 * (wrap64 (t174)))) then (tattingref44_Get.j1 k1 l0 x5_1 x6_1 (wrap64 (t168)) ((l0.take ((wrap64 ((ji12) + (wrap64 (t168)))) : Int).toNat).drop ((ji12) : Int).toNat) true) else ((tattingref44_number.f k1 (((l0.take ((wrap64 ((ji12) + (wrap64 (t168)))) : Int).toNat).drop ((ji12) : Int).toNat).take 2)).bind fun t176 => (tattingref44_Get.j1 k1 l0 x5_1 x6_1 (wrap64 (t168)) ((l0.take ((wrap64 ((ji12) + (wrap64 (t168)))) : Int).toNat).drop ((ji12) : Int).toNat) (decide ((wrap64 ((wrap64 ((wrap64 (t168)) - 2)) - (wrap64 (8 * (wrap64 (t176)))))) > 1048576))))) = some (r1, r2, r3) := H
                                        have A29 := Aside0.mk A290
                                        clear A290
                                        by_cases c30 : (wrap64 ((wrap64 (t168)) - 2)) < (wrap64 (8 * (wrap64 (t174))))
                                        · rw [if_pos c30] at H
                                          have c30b0 : decide ((wrap64 ((wrap64 (t168)) - 2)) < (wrap64 (8 * (wrap64 (t174))))) = true := decide_eq_true c30
                                          clear c30
                                          have H' := Aside0.mk H
                                          clear H
                                          obtain ⟨i031, hi031, _, hsz31, _⟩ := info_parts info5
                                          obtain ⟨hcut31, hA31, hC31⟩ := print_take_of (P := Try.prog) (Value.int .u8) 0 22 5 .i64 Try.underlying22 hi031 hsz31 A25 (c0 - (ji12).toNat) ((l0.take ((wrap64 ((ji12) + (wrap64 (t168)))) : Int).toNat).drop ((ji12) : Int).toNat) 2 (by omega) (of_decide_eq_true (by first | (with_reducible assumption) | assumption)) HC169.out
                                          have HR173 := Aside0.mk (Kd.C_of_reads (h1 := fun _ => rfl) (hA31 _ (Kd.reads_of_C HR169.out)))
                                          have HC173 := Aside0.mk hC31
                                          have hcutb31 := hcut31
                                          (first | rw [show ((l0.take ((wrap64 ((ji12) + (wrap64 (t168)))) : Int).toNat).drop ((ji12) : Int).toNat).length = ((wrap64 ((ji12) + (wrap64 (t168)))).toNat - (ji12).toNat) from SL169.out] at hcutb31 | skip)
                                          clear hA31 hC31 hi031 hsz31
                                          have SL173 := Aside0.mk (show (((l0.take ((wrap64 ((ji12) + (wrap64 (t168)))) : Int).toNat).drop ((ji12) : Int).toNat).take 2).length = 2 from (by rw [List.length_take]; have h_ : (2 : Int) ≤ (((l0.take ((wrap64 ((ji12) + (wrap64 (t168)))) : Int).toNat).drop ((ji12) : Int).toNat).length : Int) := of_decide_eq_true (by first | (with_reducible assumption) | assumption); omega))
                                          go_wp2_with (first | (go_at_call 50; refine calls_of_args (args' := #[.slice A25 (((l0.take ((wrap64 ((ji12) + (wrap64 (t168)))) : Int).toNat).drop ((ji12) : Int).toNat).take 2).length (c0 - (ji12).toNat)]) (by first | (rw [show (((l0.take ((wrap64 ((ji12) + (wrap64 (t168)))) : Int).toNat).drop ((ji12) : Int).toNat).take 2).length = 2 from SL173.out] <;> rfl) | (exact congrArg (fun n_ : Nat => (#[Value.slice _ n_ _] : Array Value)) (by simp only [List.length_take, List.length_drop]; omega)) |  rfl) ?_; (with_reducible refine (tattingref44_number.calls k1 _ _ (((l0.take ((wrap64 ((ji12) + (wrap64 (t168)))) : Int).toNat).drop ((ji12) : Int).toNat).take 2) t174 _ ?side1 ?side2 A29.out).mono ?_); (case side1 => repeat (first | exact (Kd.C_below HR173.out HB.out) | (with_reducible refine Kd.C_alloc ?_ _) | (with_reducible refine Kd.C_drewN ?_ _) | (with_reducible refine Kd.C_drew ?_))); (case side2 => exact HC173.out); rintro e w' ⟨rfl, ⟨nd, rfl⟩⟩))
                                          go_meet
                                          case rel => exact ⟨_, (true), (by first | rfl | (simp; done) | (simp [*]; done)), H', ⟨by have := HK1.out; first | omega | exact Nat.le_refl _⟩, ⟨by (with_reducible repeat (first | apply Kd.S_alloc | apply Kd.S_drewN | apply Kd.S_drew)); exact HO_5.out⟩, ⟨by repeat (first | (with_reducible first | exact HB.out | apply below_alloc | apply pw_below_drewN | apply below_drew1) | exact HB.out)⟩⟩
                                        · rw [if_neg c30] at H
                                          have c30b0 : decide ((wrap64 ((wrap64 (t168)) - 2)) < (wrap64 (8 * (wrap64 (t174))))) = false := decide_eq_false c30
                                          clear c30
                                          have c32b0 := eq_true (of_decide_eq_true (by first | (with_reducible assumption) | assumption) : 2 ≤ (((l0.take ((wrap64 ((ji12) + (wrap64 (t168)))) : Int).toNat).drop ((ji12) : Int).toNat).length : Int))
                                          replace H := Option.bind_eq_some_iff.mp H
                                          obtain ⟨t176, A330, H⟩ := H
                                          replace H : (tattingref44_Get.j1 k1 l0 x5_1 x6_1 (wrap64 (t168)) ((l0.take ((wrap64 ((ji12) + (wrap64 (t168)))) : Int).toNat).drop ((ji12) : Int).toNat) (decide ((wrap64 ((wrap64 ((wrap64 (t168)) - 2)) - (wrap64 (8 * (wrap64 (t176)))))) > 1048576))) = some (r1, r2, r3) := H
                                          have A33 := Aside0.mk A330
                                          have ett_ : t176 = t174 := Option.some.inj (A33.out.symm.trans A29.out)
                                          clear A330
                                          have H' := Aside0.mk H
                                          clear H
                                          obtain ⟨i034, hi034, _, hsz34, _⟩ := info_parts info5
                                          obtain ⟨hcut34, hA34, hC34⟩ := print_take_of (P := Try.prog) (Value.int .u8) 0 22 5 .i64 Try.underlying22 hi034 hsz34 A25 (c0 - (ji12).toNat) ((l0.take ((wrap64 ((ji12) + (wrap64 (t168)))) : Int).toNat).drop ((ji12) : Int).toNat) 2 (by omega) (of_decide_eq_true (by first | (with_reducible assumption) | assumption)) HC169.out
                                          have HR173 := Aside0.mk (Kd.C_of_reads (h1 := fun _ => rfl) (hA34 _ (Kd.reads_of_C HR169.out)))
                                          have HC173 := Aside0.mk hC34
                                          have hcutb34 := hcut34
                                          (first | rw [show ((l0.take ((wrap64 ((ji12) + (wrap64 (t168)))) : Int).toNat).drop ((ji12) : Int).toNat).length = ((wrap64 ((ji12) + (wrap64 (t168)))).toNat - (ji12).toNat) from SL169.out] at hcutb34 | skip)
                                          clear hA34 hC34 hi034 hsz34
                                          have SL173 := Aside0.mk (show (((l0.take ((wrap64 ((ji12) + (wrap64 (t168)))) : Int).toNat).drop ((ji12) : Int).toNat).take 2).length = 2 from (by rw [List.length_take]; have h_ : (2 : Int) ≤ (((l0.take ((wrap64 ((ji12) + (wrap64 (t168)))) : Int).toNat).drop ((ji12) : Int).toNat).length : Int) := of_decide_eq_true (by first | (with_reducible assumption) | assumption); omega))
                                          go_wp2_with (first | (go_at_call 50; refine calls_of_args (args' := #[.slice A25 (((l0.take ((wrap64 ((ji12) + (wrap64 (t168)))) : Int).toNat).drop ((ji12) : Int).toNat).take 2).length (c0 - (ji12).toNat)]) (by first | (rw [show (((l0.take ((wrap64 ((ji12) + (wrap64 (t168)))) : Int).toNat).drop ((ji12) : Int).toNat).take 2).length = 2 from SL173.out] <;> rfl) | (exact congrArg (fun n_ : Nat => (#[Value.slice _ n_ _] : Array Value)) (by simp only [List.length_take, List.length_drop]; omega)) |  rfl) ?_; (with_reducible refine (tattingref44_number.calls k1 _ _ (((l0.take ((wrap64 ((ji12) + (wrap64 (t168)))) : Int).toNat).drop ((ji12) : Int).toNat).take 2) t174 _ ?side1 ?side2 A29.out).mono ?_); (case side1 => repeat (first | exact (Kd.C_below HR173.out HB.out) | (with_reducible refine Kd.C_alloc ?_ _) | (with_reducible refine Kd.C_drewN ?_ _) | (with_reducible refine Kd.C_drew ?_))); (case side2 => exact HC173.out); rintro e w' ⟨rfl, ⟨nd, rfl⟩⟩; obtain ⟨i035, hi035, _, hsz35, _⟩ := info_parts info5; obtain ⟨hcut35, hA35, hC35⟩ := print_take_of (P := Try.prog) (Value.int .u8) 0 22 5 .i64 Try.underlying22 hi035 hsz35 A25 (c0 - (ji12).toNat) ((l0.take ((wrap64 ((ji12) + (wrap64 (t168)))) : Int).toNat).drop ((ji12) : Int).toNat) 2 (by omega) (of_decide_eq_true (by first | (with_reducible assumption) | assumption)) HC169.out; have HR175 := Aside0.mk (Kd.C_of_reads (h1 := fun _ => rfl) (hA35 _ (Kd.reads_of_C HR169.out))); have HC175 := Aside0.mk hC35; have hcutb35 := hcut35; (first | rw [show ((l0.take ((wrap64 ((ji12) + (wrap64 (t168)))) : Int).toNat).drop ((ji12) : Int).toNat).length = ((wrap64 ((ji12) + (wrap64 (t168)))).toNat - (ji12).toNat) from SL169.out] at hcutb35 | skip); clear hA35 hC35 hi035 hsz35; have SL175 := Aside0.mk (show (((l0.take ((wrap64 ((ji12) + (wrap64 (t168)))) : Int).toNat).drop ((ji12) : Int).toNat).take 2).length = 2 from (by rw [List.length_take]; have h_ : (2 : Int) ≤ (((l0.take ((wrap64 ((ji12) + (wrap64 (t168)))) : Int).toNat).drop ((ji12) : Int).toNat).length : Int) := of_decide_eq_true (by first | (with_reducible assumption) | assumption); omega))) | (go_at_call 50; refine calls_of_args (args' := #[.slice A25 (((l0.take ((wrap64 ((ji12) + (wrap64 (t168)))) : Int).toNat).drop ((ji12) : Int).toNat).take 2).length (c0 - (ji12).toNat)]) (by first | (rw [show (((l0.take ((wrap64 ((ji12) + (wrap64 (t168)))) : Int).toNat).drop ((ji12) : Int).toNat).take 2).length = 2 from SL175.out] <;> rfl) | (exact congrArg (fun n_ : Nat => (#[Value.slice _ n_ _] : Array Value)) (by simp only [List.length_take, List.length_drop]; omega)) |  rfl) ?_; (with_reducible refine (tattingref44_number.calls k1 _ _ (((l0.take ((wrap64 ((ji12) + (wrap64 (t168)))) : Int).toNat).drop ((ji12) : Int).toNat).take 2) t176 _ ?side1 ?side2 A33.out).mono ?_); (case side1 => repeat (first | exact (Kd.C_below HR175.out (by repeat (first | (with_reducible first | exact HB.out | apply below_alloc | apply pw_below_drewN | apply below_drew1) | exact HB.out))) | (with_reducible refine Kd.C_alloc ?_ _) | (with_reducible refine Kd.C_drewN ?_ _) | (with_reducible refine Kd.C_drew ?_))); (case side2 => exact HC175.out); rintro e w' ⟨rfl, ⟨nd, rfl⟩⟩))
                                          go_meet
                                          case rel => exact ⟨_, (decide ((wrap64 ((wrap64 ((wrap64 (t168)) - 2)) - (wrap64 (8 * (wrap64 (t176)))))) > 1048576)), (by first | rfl | (simp; done) | (simp [*]; done)), H', ⟨by have := HK1.out; first | omega | exact Nat.le_refl _⟩, ⟨by (with_reducible repeat (first | apply Kd.S_alloc | apply Kd.S_drewN | apply Kd.S_drew)); exact HO_5.out⟩, ⟨by repeat (first | (with_reducible first | exact HB.out | apply below_alloc | apply pw_below_drewN | apply below_drew1) | exact HB.out)⟩⟩
                                      · rw [if_neg c28] at H
                                        exact absurd H (by simp)
                                  case rest =>
                                    clear HC23
                                    try clear c1
                                    try clear c2
                                    try clear c2b0
                                    try clear p2
                                    try clear c3
                                    try clear c3b0
                                    try clear c4
                                    try clear c4b0
                                    try clear c4b1
                                    try clear c5
                                    try clear c5b0
                                    try clear c5b1
                                    try clear c6
                                    try clear c6b0
                                    try clear c6b1
                                    try clear p6
                                    try clear c8
                                    try clear c8b0
                                    try clear c10
                                    try clear c10b0
                                    try clear c13
                                    try clear c13b0
                                    try clear c13b1
                                    try clear c14
                                    try clear c14b0
                                    try clear c14b1
                                    try clear c15
                                    try clear c15b0
                                    try clear c15b1
                                    try clear c17
                                    try clear c17b0
                                    try clear c17b1
                                    try clear c18
                                    try clear c18b0
                                    try clear c18b1
                                    try clear c19
                                    try clear c19b0
                                    try clear c19b1
                                    try clear c22
                                    try clear c22b0
                                    try clear c22b1
                                    try clear c25
                                    try clear c26
                                    try clear c27
                                    try clear c27b0
                                    try clear c28
                                    try clear c28b0
                                    try clear c28b1
                                    try clear c30
                                    try clear c30b0
                                    try clear c32
                                    try clear c32b0
                                    obtain ⟨kq, x86_22, rfl, HA, HJ22, HO_5, HB⟩ := hcut
                                    cases kq with
                                    | zero => exact absurd HA.out (by simp [tattingref44_Get.j1])
                                    | succ kj22 =>
                                      have H := HA.out
                                      clear HA
                                      simp only [tattingref44_Get.j1] at H
                                      by_cases c36 : x86_22 = true
                                      · subst c36
                                        have H1 : (some (x5_1, x6_1, 3)) = some (r1, r2, r3) := by rw [if_pos rfl] at H; exact H
                                        clear H
                                        have H := H1
                                        clear H1
                                        simp only [Option.some.injEq, Prod.mk.injEq] at H
                                        obtain ⟨rfl, rfl, rfl⟩ := H
                                        go_wp2
                                        go_ret3
                                        exact ⟨_, by first | rfl | (simp [errW_none, errW_some] <;> rfl) | (simp only [← hji12, ← hji16]; first | rfl | (simp [errW_none, errW_some] <;> rfl)) | (simp [*, errW_none, errW_some] <;> rfl), by (with_reducible repeat (first | apply Kd.S_alloc | apply Kd.S_drewN | apply Kd.S_drew)); exact HO_5.out, by repeat (first | (with_reducible first | exact HB.out | apply below_alloc | apply pw_below_drewN | apply below_drew1) | exact HB.out)⟩
                                      · replace c36 := Bool.eq_false_iff.mpr c36
                                        subst c36
                                        have H1 : (if 2 ≤ (((l0.take ((wrap64 ((ji12) + (wrap64 (t168)))) : Int).toNat).drop ((ji12) : Int).toNat).length : Int) then ((tattingref44_number.f kj22 (((l0.take ((wrap64 ((ji12) + (wrap64 (t168)))) : Int).toNat).drop ((ji12) : Int).toNat).take 2)).bind fun t179 => (tattingref44_Get.l1 kj22 l0 x5_1 x6_1 (wrap64 (t168)) ((l0.take ((wrap64 ((ji12) + (wrap64 (t168)))) : Int).toNat).drop ((ji12) : Int).toNat) 2 (wrap64 (t179)) ([] : List Int) (⟨#[]⟩ : ByteArray))) else (none)) = some (r1, r2, r3) := by rw [if_neg (show ¬ (false = true) by decide)] at H; exact H
                                        clear H
                                        have H := H1
                                        clear H1
                                        by_cases c37 : 2 ≤ (((l0.take ((wrap64 ((ji12) + (wrap64 (t168)))) : Int).toNat).drop ((ji12) : Int).toNat).length : Int)
                                        · rw [if_pos c37] at H
                                          have c37b0 := eq_true c37
                                          have c37b1 : decide (2 ≤ (((l0.take ((wrap64 ((ji12) + (wrap64 (t168)))) : Int).toNat).drop ((ji12) : Int).toNat).length : Int)) = true := decide_eq_true c37
                                          replace H := Option.bind_eq_some_iff.mp H
                                          obtain ⟨t179, A380, H⟩ := H
                                          replace H : (tattingref44_Get.l1 kj22 l0 x5_1 x6_1 (wrap64 (t168)) ((l0.take ((wrap64 ((ji12) + (wrap64 (t168)))) : Int).toNat).drop ((ji12) : Int).toNat) 2 (wrap64 (t179)) ([] : List Int) (⟨#[]⟩ : ByteArray)) = some (r1, r2, r3) := H
                                          have A38 := Aside0.mk A380
                                          clear A380
                                          have H' := Aside0.mk H
                                          clear H
                                          go_wp2_with (first | ((with_reducible refine gate_dst (N := 9) rfl ?_); refine box_event ?hg (N := 9) ?hd (cs := #[.slice none 0 0, .string (⟨#[]⟩ : ByteArray)]) (t := 88) ?hr ?_; (case hd => rfl); (case hg => rfl); (case hr => first | (go_simp; done) | (go_simp; rfl)); intro gb177 hg w39 hbox hb; have n0_ := Aside0.mk (Kd.S_below (Kd.S_elderB (by (with_reducible repeat (first | apply Kd.S_alloc | apply Kd.S_drewN | apply Kd.S_drew)); exact HO_5.out) gb177 (Nat.le_of_eq hg.symm)) hb); have n1_ := Aside0.mk (below_step (by repeat (first | (with_reducible first | exact HB.out | apply below_alloc | apply pw_below_drewN | apply below_drew1) | exact HB.out)) hb); have n2_ := Aside0.mk (hbox); have n3_ := Aside0.mk ((by rw [hg]; exact (below_size (by repeat (first | (with_reducible first | exact HB.out | apply below_alloc | apply pw_below_drewN | apply below_drew1) | exact HB.out))) : w.heap.size ≤ gb177)); have n4_ := Aside0.mk ((by rw [hg]; exact (below_size (by repeat (first | (with_reducible first | exact HB.out | apply below_alloc | apply pw_below_drewN | apply below_drew1) | exact HB.out))) : w.heap.size ≤ gb177)); clear HO_5; clear HB; have HO_5 := n0_; have HB := n1_; have BK177 := n2_; have GW177 := n3_; have GE177 := n4_; clear n0_ n1_ n2_ n3_ n4_; clear hb hbox hg; obtain ⟨i040, hi040, _, hsz40, _⟩ := info_parts info5; obtain ⟨hcut40, hA40, hC40⟩ := print_take_of (P := Try.prog) (Value.int .u8) 0 22 5 .i64 Try.underlying22 hi040 hsz40 A25 (c0 - (ji12).toNat) ((l0.take ((wrap64 ((ji12) + (wrap64 (t168)))) : Int).toNat).drop ((ji12) : Int).toNat) 2 (by omega) (of_decide_eq_true (by first | (with_reducible assumption) | assumption)) HC169.out; have HR178 := Aside0.mk (Kd.C_of_reads (h1 := fun _ => rfl) (hA40 _ (Kd.reads_of_C HR169.out))); have HC178 := Aside0.mk hC40; have hcutb40 := hcut40; (first | rw [show ((l0.take ((wrap64 ((ji12) + (wrap64 (t168)))) : Int).toNat).drop ((ji12) : Int).toNat).length = ((wrap64 ((ji12) + (wrap64 (t168)))).toNat - (ji12).toNat) from SL169.out] at hcutb40 | skip); clear hA40 hC40 hi040 hsz40; have SL178 := Aside0.mk (show (((l0.take ((wrap64 ((ji12) + (wrap64 (t168)))) : Int).toNat).drop ((ji12) : Int).toNat).take 2).length = 2 from (by rw [List.length_take]; have h_ : (2 : Int) ≤ (((l0.take ((wrap64 ((ji12) + (wrap64 (t168)))) : Int).toNat).drop ((ji12) : Int).toNat).length : Int) := of_decide_eq_true (by first | (with_reducible assumption) | assumption); omega))) | ((with_reducible refine gate_callee (f := 50) rfl ?_); refine goesL_ (some 91) rfl rfl Try.func50 (by kernel_rfl) rfl #[.slice A25 (((l0.take ((wrap64 ((ji12) + (wrap64 (t168)))) : Int).toNat).drop ((ji12) : Int).toNat).take 2).length (c0 - (ji12).toNat)] rfl (by (try simp only [List.map_toArray, List.map_cons, List.map_nil]); first | done | (rw [show (((l0.take ((wrap64 ((ji12) + (wrap64 (t168)))) : Int).toNat).drop ((ji12) : Int).toNat).take 2).length = 2 from SL178.out] <;> rfl) | (simp only [hji12]; rfl) | rfl | (simp only [List.length_drop, List.length_take]; rfl) | (exact congrArg (fun n_ : Nat => (#[Value.slice _ n_ _] : Array Value)) (by simp only [List.length_take, List.length_drop]; omega))) ?_; (with_reducible refine (tattingref44_number.calls kj22 _ _ (((l0.take ((wrap64 ((ji12) + (wrap64 (t168)))) : Int).toNat).drop ((ji12) : Int).toNat).take 2) t179 _ ?side1 ?side2 A38.out).mono ?_); (case side1 => repeat (first | exact (Kd.C_below HR178.out HB.out) | (with_reducible refine Kd.C_alloc ?_ _) | (with_reducible refine Kd.C_drewN ?_ _) | (with_reducible refine Kd.C_drew ?_))); (case side2 => exact HC178.out); rintro e w' ⟨rfl, ⟨nd, rfl⟩⟩; refine ⟨_, rfl, ?_⟩))
                                          go_loopg [10, 11] kj22 (fun kq v10 v11 w' => ∃ (x10_3 : Int) (x11_3 : Int) (x178000_3 : List Int) (u178000 : Value), v10 = .int .i64 x10_3 ∧ v11 = .int .i64 x11_3 ∧ Aside0 (tattingref44_Get.l1 kq l0 x5_1 x6_1 (wrap64 (t168)) ((l0.take ((wrap64 ((ji12) + (wrap64 (t168)))) : Int).toNat).drop ((ji12) : Int).toNat) x10_3 x11_3 x178000_3 (⟨#[]⟩ : ByteArray) = some (r1, r2, r3)) ∧ Aside0 (kq ≤ kj22) ∧ Aside0 (Kd.S k88 88 w' w.heap.size (fun k_ => some k_ ≠ (u178000 : Value).ownBlock ∧ k_ ≠ gb177) u5 x5_1) ∧ Aside0 (Kd.R (Kd.int .i64) 3 w' w.heap.size (fun _ => True) u178000 x178000_3) ∧ Aside0 (w'.heap[gb177]? = some (.cells #[u178000, .string (⟨#[]⟩ : ByteArray)] 88 (0, 0))) ∧ Aside0 (Below w.heap.size w w'))
                                          case atStart => exact ⟨(2), (wrap64 (t179)), (([] : List Int)), (.slice none 0 0), (by first | rfl | (simp; done) | (simp [*]; done)), (by first | rfl | (simp; done) | (simp [*]; done)), H', ⟨Nat.le_refl _⟩, ⟨by (with_reducible repeat (first | apply Kd.S_alloc | apply Kd.S_drewN | apply Kd.S_drew)); exact Kd.S_mono HO_5.out (fun _ hk => ⟨(by simp [Value.ownBlock]), hk.2⟩)⟩, ⟨by first | exact Kd.R_nil _ _ _ _ _ | exact Kd.N_nil _ _ _ _ _ | exact Kd.V_nil _ _ _ _ _ | exact Kd.Q_nil _ _ _ _ _ | exact Kd.S_nil _ _ _ _ _⟩, ⟨by (with_reducible repeat (first | refine blk_drewN ?_ _ | refine blk_drew ?_ | refine blk_alloc ?_ _)); exact BK177.out⟩, ⟨by repeat (first | (with_reducible first | exact HB.out | apply below_alloc | apply pw_below_drewN | apply below_drew1 | refine below_set ?_ GE177.out) | exact HB.out)⟩⟩
                                          case round =>
                                            clear H'
                                            try clear c1
                                            try clear c2
                                            try clear c2b0
                                            try clear p2
                                            try clear c3
                                            try clear c3b0
                                            try clear c4
                                            try clear c4b0
                                            try clear c4b1
                                            try clear c5
                                            try clear c5b0
                                            try clear c5b1
                                            try clear c6
                                            try clear c6b0
                                            try clear c6b1
                                            try clear p6
                                            try clear c8
                                            try clear c8b0
                                            try clear c10
                                            try clear c10b0
                                            try clear c13
                                            try clear c13b0
                                            try clear c13b1
                                            try clear c14
                                            try clear c14b0
                                            try clear c14b1
                                            try clear c15
                                            try clear c15b0
                                            try clear c15b1
                                            try clear c17
                                            try clear c17b0
                                            try clear c17b1
                                            try clear c18
                                            try clear c18b0
                                            try clear c18b1
                                            try clear c19
                                            try clear c19b0
                                            try clear c19b1
                                            try clear c22
                                            try clear c22b0
                                            try clear c22b1
                                            try clear c25
                                            try clear c26
                                            try clear c27
                                            try clear c27b0
                                            try clear c28
                                            try clear c28b0
                                            try clear c28b1
                                            try clear c30
                                            try clear c30b0
                                            try clear c32
                                            try clear c32b0
                                            try clear c36
                                            try clear c37
                                            try clear c37b0
                                            try clear c37b1
                                            try clear p2
                                            try clear p6
                                            obtain ⟨x10_3, x11_3, x178000_3, u178000, rfl, rfl, HA, HK3, HO_5, HO_178000, BK177, HB⟩ := hrel
                                            cases gk with
                                            | zero => exact absurd HA.out (by simp [tattingref44_Get.l1])
                                            | succ k3 =>
                                              have H := HA.out
                                              clear HA
                                              simp only [tattingref44_Get.l1] at H
                                              by_cases c41 : x11_3 > 0
                                              · rw [if_pos c41] at H
                                                have c41b0 : decide (0 < x11_3) = true := decide_eq_true c41
                                                clear c41
                                                by_cases c42 : 0 ≤ x10_3
                                                · rw [if_pos c42] at H
                                                  have c42b0 := eq_true c42
                                                  have c42b1 : decide (0 ≤ x10_3) = true := decide_eq_true c42
                                                  clear c42
                                                  by_cases c43 : x10_3 ≤ (wrap64 (x10_3 + 8))
                                                  · rw [if_pos c43] at H
                                                    have c43b0 := eq_true c43
                                                    have c43b1 : decide (x10_3 ≤ (wrap64 (x10_3 + 8))) = true := decide_eq_true c43
                                                    by_cases c44 : (wrap64 (x10_3 + 8)) ≤ (((l0.take ((wrap64 ((ji12) + (wrap64 (t168)))) : Int).toNat).drop ((ji12) : Int).toNat).length : Int)
                                                    · rw [if_pos c44] at H
                                                      have c44b0 := eq_true c44
                                                      have c44b1 : decide ((wrap64 (x10_3 + 8)) ≤ (((l0.take ((wrap64 ((ji12) + (wrap64 (t168)))) : Int).toNat).drop ((ji12) : Int).toNat).length : Int)) = true := decide_eq_true c44
                                                      replace H := Option.bind_eq_some_iff.mp H
                                                      obtain ⟨t181, A450, H⟩ := H
                                                      replace H : (if x178000_3.length < 17592186044416 then (tattingref44_Get.l1 k3 l0 x5_1 x6_1 (wrap64 (t168)) ((l0.take ((wrap64 ((ji12) + (wrap64 (t168)))) : Int).toNat).drop ((ji12) : Int).toNat) (wrap64 (x10_3 + 8)) (wrap64 (x11_3 - 1)) (x178000_3 ++ [wrap64 (t181)]) (⟨#[]⟩ : ByteArray)) else (none)) = some (r1, r2, r3) := H
                                                      have A45 := Aside0.mk A450
                                                      clear A450
                                                      by_cases c46 : x178000_3.length < 17592186044416
                                                      · rw [if_pos c46] at H
                                                        have LMc46 := Aside0.mk c46
                                                        clear c46
                                                        obtain ⟨y182, hy182⟩ : ∃ y_ : List Int, y_ = (x178000_3 ++ [wrap64 (t181)]) := ⟨_, rfl⟩
                                                        replace H : (tattingref44_Get.l1 k3 l0 x5_1 x6_1 (wrap64 (t168)) ((l0.take ((wrap64 ((ji12) + (wrap64 (t168)))) : Int).toNat).drop ((ji12) : Int).toNat) (wrap64 (x10_3 + 8)) (wrap64 (x11_3 - 1)) y182 (⟨#[]⟩ : ByteArray)) = some (r1, r2, r3) := by first | (rw [hy182]; with_reducible exact H) | (have H2_ := (Option.bind_some _ _).symm.trans H; rw [hy182]; with_reducible exact H2_) | (have H2_ := (Option.bind_some _ _).symm.trans H; with_reducible exact H2_) | with_reducible exact H | (rw [hy182]; exact H) | exact H
                                                        have Ny182 := Aside0.mk hy182
                                                        clear hy182
                                                        have H' := Aside0.mk H
                                                        clear H
                                                        try go_wp2
                                                        have n0_ := Aside0.mk (Kd.S_drew HO_5.out)
                                                        have n1_ := Aside0.mk (Kd.R_drew HO_178000.out)
                                                        have n2_ := Aside0.mk (blk_drew BK177.out)
                                                        have n3_ := Aside0.mk (below_drew1 HB.out)
                                                        clear HO_5
                                                        clear HO_178000
                                                        clear BK177
                                                        clear HB
                                                        have HO_5 := n0_
                                                        have HO_178000 := n1_
                                                        have BK177 := n2_
                                                        have HB := n3_
                                                        clear n0_ n1_ n2_ n3_
                                                        obtain ⟨i048, hi048, _, hsz48, _⟩ := info_parts info5
                                                        obtain ⟨A48, hcut48, hA48, hC48⟩ := print_mid_of (P := Try.prog) (Value.int .u8) 0 22 5 .i64 .i64 Try.underlying22 hi048 hsz48 A25 (c0 - (ji12).toNat) ((l0.take ((wrap64 ((ji12) + (wrap64 (t168)))) : Int).toNat).drop ((ji12) : Int).toNat) x10_3 (wrap64 (x10_3 + 8)) (of_decide_eq_true (by first | (with_reducible assumption) | assumption)) (by first | omega | exact of_decide_eq_true (by first | (with_reducible assumption) | assumption)) (of_decide_eq_true (by first | (with_reducible assumption) | assumption)) HC169.out
                                                        have HR180 := Aside0.mk (Kd.C_of_reads (h1 := fun _ => rfl) (hA48 _ (Kd.reads_of_C HR169.out)))
                                                        have HC180 := Aside0.mk hC48
                                                        have hcutb48 := hcut48
                                                        (first | rw [show ((l0.take ((wrap64 ((ji12) + (wrap64 (t168)))) : Int).toNat).drop ((ji12) : Int).toNat).length = ((wrap64 ((ji12) + (wrap64 (t168)))).toNat - (ji12).toNat) from SL169.out] at hcutb48 | skip)
                                                        clear hA48 hC48 hi048 hsz48
                                                        have SL180 := Aside0.mk (show ((((l0.take ((wrap64 ((ji12) + (wrap64 (t168)))) : Int).toNat).drop ((ji12) : Int).toNat).take ((wrap64 (x10_3 + 8)) : Int).toNat).drop (x10_3 : Int).toNat).length = ((wrap64 (x10_3 + 8)).toNat - x10_3.toNat) from (by rw [List.length_drop, List.length_take]; have h_ : ((wrap64 (x10_3 + 8)) : Int) ≤ (((l0.take ((wrap64 ((ji12) + (wrap64 (t168)))) : Int).toNat).drop ((ji12) : Int).toNat).length : Int) := of_decide_eq_true (by first | (with_reducible assumption) | assumption); omega))
                                                        refine start_ (n := 13) (S := fun w' => w'.cell? ⟨gb177, 0, none⟩ = some (u178000) ∧ w'.cell? ⟨gb177, 1, none⟩ = some (.string (⟨#[]⟩ : ByteArray))) (ds := [12]) #[false, false, false, false, false, false, false, false, false, false, false, false, false] (by kernel_rfl) rfl rfl ⟨(blk_cell BK177.out 0).trans rfl, (blk_cell BK177.out 1).trans rfl⟩ (fun hHeld => ?_); refine with_tabW tattingref44_Get.tab21 tattingref44_Get.bits21 (fun HT_ HW_ => ?_)
                                                        generalize wr.drew = w47 at HO_5 HO_178000 BK177 HB HR180 hHeld ⊢
                                                        refine pure_ (i := 0) (N := some 97) (v := ?_) (a' := ?_) #[true, false, false, false, false, false, false, false, false, false, false, false, false] rfl rfl (any_of HT_.out (by kernel_rfl)) (fun _ _ _ h => h) (Or.inl ⟨by rfl, ?_⟩) ?_ ?_
                                                        rotate_left
                                                        · intro w'
                                                          go_simp
                                                          with_reducible rfl
                                                        rotate_left
                                                        · simp only [Act.put, List.setIfInBounds_toArray, List.set_cons_zero, List.set_cons_succ, i64_w, i32_w]
                                                          rfl
                                                        refine pure_ (i := 2) (N := some 99) (v := ?_) (a' := ?_) #[true, false, true, false, false, false, false, false, false, false, false, false, false] rfl rfl (any_of HT_.out (by kernel_rfl)) (fun _ _ _ h => h) (Or.inl ⟨by rfl, ?_⟩) ?_ ?_
                                                        rotate_left
                                                        · intro w'
                                                          go_simp
                                                          with_reducible rfl
                                                        rotate_left
                                                        · simp only [Act.put, List.setIfInBounds_toArray, List.set_cons_zero, List.set_cons_succ, i64_w, i32_w]
                                                          rfl
                                                        refine pure_ (i := 3) (N := some 100) (v := ?_) (a' := ?_) #[true, false, true, true, false, false, false, false, false, false, false, false, false] rfl rfl (any_of HT_.out (by kernel_rfl)) (fun _ _ _ h => h) (Or.inl ⟨by rfl, ?_⟩) ?_ ?_
                                                        rotate_left
                                                        · intro w'
                                                          go_simp
                                                          with_reducible rfl
                                                        rotate_left
                                                        · simp only [Act.put, List.setIfInBounds_toArray, List.set_cons_zero, List.set_cons_succ, i64_w, i32_w]
                                                          rfl
                                                        refine pure_ (i := 4) (N := some 101) (v := ?_) (a' := ?_) #[true, false, true, true, true, false, false, false, false, false, false, false, false] rfl rfl (any_of HT_.out (by kernel_rfl)) (fun _ _ _ h => h) (Or.inl ⟨by rfl, ?_⟩) ?_ ?_
                                                        rotate_left
                                                        · intro w'
                                                          go_simp
                                                          with_reducible rfl
                                                        rotate_left
                                                        · simp only [Act.put, List.setIfInBounds_toArray, List.set_cons_zero, List.set_cons_succ, i64_w, i32_w]
                                                          rfl
                                                        refine pure_ (i := 5) (N := some 102) (v := ?_) (a' := ?_) #[true, false, true, true, true, true, false, false, false, false, false, false, false] rfl rfl (any_of HT_.out (by kernel_rfl)) (fun _ _ _ h => h) (Or.inl ⟨by rfl, ?_⟩) ?_ ?_
                                                        rotate_left
                                                        · intro w'
                                                          go_simp
                                                          with_reducible rfl
                                                        rotate_left
                                                        · simp only [Act.put, List.setIfInBounds_toArray, List.set_cons_zero, List.set_cons_succ, i64_w, i32_w]
                                                          rfl
                                                        refine pure_ (i := 6) (N := some 103) (v := ?_) (a' := ?_) #[true, false, true, true, true, true, true, false, false, false, false, false, false] rfl rfl (any_of HT_.out (by kernel_rfl)) (fun _ _ _ h => h) (Or.inl ⟨by rfl, ?_⟩) ?_ ?_
                                                        rotate_left
                                                        · intro w'
                                                          go_simp
                                                          with_reducible rfl
                                                        rotate_left
                                                        · simp only [Act.put, List.setIfInBounds_toArray, List.set_cons_zero, List.set_cons_succ, i64_w, i32_w]
                                                          rfl
                                                        refine take_ (i := 1) (N := some 98) (v := ?_) (a' := ?_) #[true, true, true, true, true, true, true, false, false, false, false, false, false] rfl rfl (take_ofW HT_.out HW_.out (by kernel_rfl)) (fun _ _ _ h => h) (Or.inl ⟨by rfl, ?_⟩) hHeld ?_ ?_
                                                        rotate_left
                                                        · rintro w' ⟨s0, s1⟩
                                                          go_simp
                                                          with_reducible rfl
                                                        rotate_left
                                                        · simp only [Act.put, List.setIfInBounds_toArray, List.set_cons_zero, List.set_cons_succ, i64_w, i32_w]
                                                          rfl
                                                        refine one_ (i := 7) (N := some 104) #[true, true, true, true, true, true, true, true, false, false, false, false, false] rfl rfl (one_of HT_.out (by kernel_rfl)) (by decide) (fun K hK => ?_)
                                                        refine goes_ Try.func50 (by kernel_rfl) rfl #[.slice A48 ((((l0.take ((wrap64 ((ji12) + (wrap64 (t168)))) : Int).toNat).drop ((ji12) : Int).toNat).take ((wrap64 (x10_3 + 8)) : Int).toNat).drop (x10_3 : Int).toNat).length ((c0 - (ji12).toNat) - x10_3.toNat)] (by rfl) rfl rfl (by (try simp only [List.map_toArray, List.map_cons, List.map_nil]); first | done | (rw [show ((((l0.take ((wrap64 ((ji12) + (wrap64 (t168)))) : Int).toNat).drop ((ji12) : Int).toNat).take ((wrap64 (x10_3 + 8)) : Int).toNat).drop (x10_3 : Int).toNat).length = ((wrap64 (x10_3 + 8)).toNat - x10_3.toNat) from SL180.out] <;> rfl) | (simp only [hji12]; rfl) | rfl | (simp only [List.length_drop, List.length_take]; rfl) | (exact congrArg (fun n_ : Nat => (#[Value.slice _ n_ _] : Array Value)) (by simp only [List.length_take, List.length_drop]; omega))) ?_
                                                        with_reducible refine (tattingref44_number.calls k3 _ _ ((((l0.take ((wrap64 ((ji12) + (wrap64 (t168)))) : Int).toNat).drop ((ji12) : Int).toNat).take ((wrap64 (x10_3 + 8)) : Int).toNat).drop (x10_3 : Int).toNat) t181 _ ?side1 ?side2 A45.out).mono ?_
                                                        (case side1 => repeat (first | exact (Kd.C_below HR180.out HB.out) | (with_reducible refine Kd.C_alloc ?_ _) | (with_reducible refine Kd.C_drewN ?_ _) | (with_reducible refine Kd.C_drew ?_)))
                                                        (case side2 => exact HC180.out)
                                                        rintro e w' ⟨rfl, ⟨nd, rfl⟩⟩
                                                        refine ⟨_, rfl, ?_⟩
                                                        refine hK.out _ _ ⟨(blk_cell BK177.out 0).trans rfl, (blk_cell BK177.out 1).trans rfl⟩ (fun hHeld => ?_)
                                                        clear hK K
                                                        refine norm_ (a' := ?_) ?_ ?_
                                                        rotate_left
                                                        · show Act.put _ (some 104) _ = _
                                                          simp only [Act.put, List.setIfInBounds_toArray, List.set_cons_zero, List.set_cons_succ, i64_w, i32_w]
                                                          rfl
                                                        refine pure_ (i := 8) (N := some 105) (v := ?_) (a' := ?_) #[true, true, true, true, true, true, true, true, true, false, false, false, false] rfl rfl (any_of HT_.out (by kernel_rfl)) (fun _ _ _ h => h) (Or.inl ⟨by rfl, ?_⟩) ?_ ?_
                                                        rotate_left
                                                        · intro w'
                                                          go_simp
                                                          with_reducible rfl
                                                        rotate_left
                                                        · simp only [Act.put, List.setIfInBounds_toArray, List.set_cons_zero, List.set_cons_succ, i64_w, i32_w]
                                                          rfl
                                                        refine one_ (i := 9) (N := some 106) #[true, true, true, true, true, true, true, true, true, true, false, false, false] rfl rfl (one_of HT_.out (by kernel_rfl)) (by decide) (fun K hK => ?_)
                                                        refine value_ (w1 := ?_) (v := ?_) (by rfl) rfl ?_ ?_
                                                        rotate_left 2
                                                        · go_simp
                                                          constructor
                                                          · rfl
                                                          · rfl
                                                        refine hK.out _ _ ⟨(blk_cell (blk_alloc BK177.out _) 0).trans rfl, (blk_cell (blk_alloc BK177.out _) 1).trans rfl⟩ (fun hHeld => ?_)
                                                        clear hK K
                                                        refine norm_ (a' := ?_) ?_ ?_
                                                        rotate_left
                                                        · show Act.put _ (some 106) _ = _
                                                          simp only [Act.put, List.setIfInBounds_toArray, List.set_cons_zero, List.set_cons_succ, i64_w, i32_w]
                                                          rfl
                                                        refine one_ (i := 10) (N := some 107) #[true, true, true, true, true, true, true, true, true, true, true, false, false] rfl rfl (one_of HT_.out (by kernel_rfl)) (by decide) (fun K hK => ?_)
                                                        refine Kd.R_append_step (Kd.int .i64) (w0 := w) w.heap.size (by rfl) (.tmp 98) (.tmp 106) 24 3 (.int .i64 0) 8 rfl Try.underlying24 info3 rfl (by decide) (by omega) u178000 x178000_3 (wrap64 (t181)) [.int .i64 (wrap64 (t181))] (fun _ => True) (fun _ => False) rfl rfl ?aP (fun _ hk => hk.elim) ?aF ?aO ?aB ?aS ?aL ?_
                                                        (case aP => exact rfl)
                                                        (case aB => exact (by repeat (first | (with_reducible first | exact HB.out | apply below_alloc | apply pw_below_drewN | apply below_drew1 | refine below_set ?_ GE177.out) | exact HB.out)))
                                                        (case aF => exact (fun _ _ => trivial))
                                                        (case aO => exact (by (with_reducible repeat (first | apply Kd.R_alloc | apply Kd.R_drewN | apply Kd.R_drew)); exact HO_178000.out))
                                                        (case aS => exact (below_size (by repeat (first | (with_reducible first | exact HB.out | apply below_alloc | apply pw_below_drewN | apply below_drew1 | refine below_set ?_ GE177.out) | exact HB.out))))
                                                        (case aL => have := LMc46.out; omega)
                                                        intro v183 w49 ho hb hg hat
                                                        rw [← Ny182.out] at ho
                                                        have n0_ := Aside0.mk (Kd.S_after (ok := (fun k_ => k_ ≠ gb177)) (by (with_reducible repeat (first | apply Kd.S_alloc | apply Kd.S_drewN | apply Kd.S_drew)); exact Kd.S_mono HO_5.out (fun _ hk => ⟨hk.2, hk.1⟩)) hg hat)
                                                        have n1_ := Aside0.mk (blk_grown (g := gb177) (o := .cells #[u178000, .string (⟨#[]⟩ : ByteArray)] 88 (0, 0)) (by (with_reducible repeat (first | refine blk_drewN ?_ _ | refine blk_drew ?_ | refine blk_alloc ?_ _)); exact BK177.out) hg (Kd.R_ne HO_178000.out BK177.out (by decide)))
                                                        have n2_ := Aside0.mk (hb)
                                                        have n3_ := Aside0.mk (ho)
                                                        clear HO_5
                                                        clear BK177
                                                        clear HB
                                                        clear HO_178000
                                                        have HO_5 := n0_
                                                        have BK177 := n1_
                                                        have HB := n2_
                                                        have HO184 := n3_
                                                        clear n0_ n1_ n2_ n3_
                                                        clear ho hb hg hat
                                                        obtain ⟨Ao50, co50, eo50⟩ := Kd.R_slice HO184.out
                                                        (first | subst eo50 | (injection eo50 with f1_ f2_ f3_; have f4_ := f1_.symm; have f5_ := f3_.symm; clear f1_ f2_ f3_; subst f4_; subst f5_))
                                                        refine hK.out _ _ ⟨(blk_cell BK177.out 0).trans rfl, (blk_cell BK177.out 1).trans rfl⟩ (fun hHeld => ?_)
                                                        clear hK K
                                                        refine norm_ (a' := ?_) ?_ ?_
                                                        rotate_left
                                                        · show Act.put _ (some 107) _ = _
                                                          simp only [Act.put, List.setIfInBounds_toArray, List.set_cons_zero, List.set_cons_succ, i64_w, i32_w]
                                                          rfl
                                                        refine pure_ (i := 11) (N := some 108) (v := ?_) (a' := ?_) #[true, true, true, true, true, true, true, true, true, true, true, true, false] rfl rfl (any_of HT_.out (by kernel_rfl)) (fun _ _ _ h => h) (Or.inl ⟨by rfl, ?_⟩) ?_ ?_
                                                        rotate_left
                                                        · intro w'
                                                          go_simp
                                                          with_reducible rfl
                                                        rotate_left
                                                        · simp only [Act.put, List.setIfInBounds_toArray, List.set_cons_zero, List.set_cons_succ, i64_w, i32_w]
                                                          rfl
                                                        refine last_ (i := 12) (N := none) #[true, true, true, true, true, true, true, true, true, true, true, true, true] rfl rfl (one_of HT_.out (by kernel_rfl)) (by decide) (fun K hK => ?_)
                                                        have hs51 : w49.cell? ⟨gb177, 0, none⟩ = some (u178000) := (blk_cell BK177.out 0).trans rfl
                                                        have hfs51 := blk_frozen BK177.out 0
                                                        refine skip_ (w1 := ?_) (by rfl) rfl ?_ ?_
                                                        rotate_left
                                                        · go_simp
                                                          rfl
                                                        refine hK.out _ _ ?_
                                                        clear hK K
                                                        refine done_ (done_of HT_.out (by kernel_rfl)) ?_
                                                        try go_wp2
                                                        go_roundg k3
                                                        case measure => have := HK1.out; have := HJ22.out; have := HK3.out; omega
                                                        case rel => exact ⟨(wrap64 (x10_3 + 8)), (wrap64 (x11_3 - 1)), (y182), (.slice Ao50 y182.length co50), (by first | rfl | (simp; done) | (simp [*]; done)), (by first | rfl | (simp; done) | (simp [*]; done)), H', ⟨by have := HK1.out; have := HJ22.out; have := HK3.out; omega⟩, ⟨by (with_reducible repeat (first | apply Kd.S_alloc | apply Kd.S_drewN | apply Kd.S_drew)); exact Kd.S_mono (Kd.S_far (p := ⟨gb177, 0, none⟩) (Kd.S_mono HO_5.out (fun k_ hk => (⟨hk, hk.1⟩ : _ ∧ k_ ≠ gb177))) (fun _ hk => hk.2) (.slice Ao50 y182.length co50)) (fun _ hk => ⟨hk.1.2, hk.1.1⟩)⟩, ⟨by (with_reducible repeat (first | apply Kd.R_alloc | apply Kd.R_drewN | apply Kd.R_drew)); exact Kd.R_mono (Kd.R_far (p := ⟨gb177, 0, none⟩) (Kd.R_types HO184.out BK177.out (by decide)) (fun _ hk => hk.2) (.slice Ao50 y182.length co50)) (fun _ hk => trivial)⟩, ⟨by (with_reducible repeat (first | refine blk_drewN ?_ _ | refine blk_drew ?_ | refine blk_alloc ?_ _)); refine blk_put (cs := #[u178000, .string (⟨#[]⟩ : ByteArray)]) ?_ 0 _ rfl; (with_reducible repeat (first | refine blk_drewN ?_ _ | refine blk_drew ?_ | refine blk_alloc ?_ _)); exact BK177.out⟩, ⟨by repeat (first | (with_reducible first | exact HB.out | apply below_alloc | apply pw_below_drewN | apply below_drew1 | refine below_set ?_ GE177.out) | exact HB.out)⟩⟩
                                                      · rw [if_neg c46] at H
                                                        exact absurd H (by simp)
                                                    · rw [if_neg c44] at H
                                                      exact absurd H (by simp)
                                                  · rw [if_neg c43] at H
                                                    exact absurd H (by simp)
                                                · rw [if_neg c42] at H
                                                  exact absurd H (by simp)
                                              · rw [if_neg c41] at H
                                                have c41b0 : decide (0 < x11_3) = false := decide_eq_false c41
                                                clear c41
                                                by_cases c52 : 0 ≤ x10_3
                                                · rw [if_pos c52] at H
                                                  have c52b0 := eq_true c52
                                                  have c52b1 : decide (0 ≤ x10_3) = true := decide_eq_true c52
                                                  clear c52
                                                  by_cases c53 : x10_3 ≤ (((l0.take ((wrap64 ((ji12) + (wrap64 (t168)))) : Int).toNat).drop ((ji12) : Int).toNat).length : Int)
                                                  · rw [if_pos c53] at H
                                                    have c53b0 := eq_true c53
                                                    have c53b1 : decide (x10_3 ≤ (((l0.take ((wrap64 ((ji12) + (wrap64 (t168)))) : Int).toNat).drop ((ji12) : Int).toNat).length : Int)) = true := decide_eq_true c53
                                                    by_cases c54 : x5_1.length < 3518437208883
                                                    · rw [if_pos c54] at H
                                                      have LMc54 := Aside0.mk c54
                                                      clear c54
                                                      obtain ⟨y186, hy186⟩ : ∃ y_ : List (S88), y_ = (x5_1 ++ [(⟨x178000_3, strOfNums (((l0.take ((wrap64 ((ji12) + (wrap64 (t168)))) : Int).toNat).drop ((ji12) : Int).toNat).drop (x10_3 : Int).toNat)⟩ : S88)]) := ⟨_, rfl⟩
                                                      replace H : (tattingref44_Get.l0 k3 l0 y186 (wrap64 ((wrap64 (x6_1 + 8)) + (wrap64 (t168))))) = some (r1, r2, r3) := by first | (rw [hy186]; with_reducible exact H) | (have H2_ := (Option.bind_some _ _).symm.trans H; rw [hy186]; with_reducible exact H2_) | (have H2_ := (Option.bind_some _ _).symm.trans H; with_reducible exact H2_) | with_reducible exact H | (rw [hy186]; exact H) | exact H
                                                      have Ny186 := Aside0.mk hy186
                                                      clear hy186
                                                      have H' := Aside0.mk H
                                                      clear H
                                                      obtain ⟨i055, hi055, _, hsz55, _⟩ := info_parts info5
                                                      obtain ⟨A55, hcut55, hA55, hC55⟩ := print_drop_of (P := Try.prog) (Value.int .u8) 0 22 5 .i64 Try.underlying22 hi055 hsz55 A25 (c0 - (ji12).toNat) ((l0.take ((wrap64 ((ji12) + (wrap64 (t168)))) : Int).toNat).drop ((ji12) : Int).toNat) x10_3 (of_decide_eq_true (by first | (with_reducible assumption) | assumption)) (of_decide_eq_true (by first | (with_reducible assumption) | assumption)) HC169.out
                                                      have HR185 := Aside0.mk (Kd.C_of_reads (h1 := fun _ => rfl) (hA55 _ (Kd.reads_of_C HR169.out)))
                                                      have HC185 := Aside0.mk hC55
                                                      have hcutb55 := hcut55
                                                      (first | rw [show ((l0.take ((wrap64 ((ji12) + (wrap64 (t168)))) : Int).toNat).drop ((ji12) : Int).toNat).length = ((wrap64 ((ji12) + (wrap64 (t168)))).toNat - (ji12).toNat) from SL169.out] at hcutb55 | skip)
                                                      clear hA55 hC55 hi055 hsz55
                                                      have SL185 := Aside0.mk (show (((l0.take ((wrap64 ((ji12) + (wrap64 (t168)))) : Int).toNat).drop ((ji12) : Int).toNat).drop (x10_3 : Int).toNat).length = (((wrap64 ((ji12) + (wrap64 (t168)))).toNat - (ji12).toNat) - x10_3.toNat) from (by rw [List.length_drop, SL169.out]))
                                                      have hcv56 := Kd.C_string (P := Try.prog) (A := A55) (c := ((c0 - (ji12).toNat) - x10_3.toNat)) Try.underlying22 Try.underlying5 Try.underlying9 (Kd.C_below HR185.out HB.out)
                                                      have hcvb56 := hcv56
                                                      (first | rw [show (((l0.take ((wrap64 ((ji12) + (wrap64 (t168)))) : Int).toNat).drop ((ji12) : Int).toNat).drop (x10_3 : Int).toNat).length = (((wrap64 ((ji12) + (wrap64 (t168)))).toNat - (ji12).toNat) - x10_3.toNat) from SL185.out] at hcvb56 | skip)
                                                      have hcvc56 := hcv56
                                                      (first | rw [show (((l0.take ((wrap64 ((ji12) + (wrap64 (t168)))) : Int).toNat).drop ((ji12) : Int).toNat).drop (x10_3 : Int).toNat).length = min (wrap64 ((ji12) + (wrap64 (t168)))).toNat l0.length - ((ji12).toNat + x10_3.toNat) from by simp only [List.length_drop, List.length_take]; omega] at hcvc56 | skip)
                                                      generalize hjs56 : strOfNums (((l0.take ((wrap64 ((ji12) + (wrap64 (t168)))) : Int).toNat).drop ((ji12) : Int).toNat).drop (x10_3 : Int).toNat) = js56 at *
                                                      have Njs56 := Aside0.mk hjs56
                                                      clear hjs56
                                                      have hcz57_0 : wr.cell? ⟨gb177, 0, none⟩ = some (u178000) := (blk_cell BK177.out 0).trans rfl
                                                      have hcz57_1 : wr.cell? ⟨gb177, 1, none⟩ = some (.string (⟨#[]⟩ : ByteArray)) := (blk_cell BK177.out 1).trans rfl
                                                      have hfz57_0 := blk_frozen BK177.out 0
                                                      have hfz57_1 := blk_frozen BK177.out 1
                                                      go_wp2_with (first | ((with_reducible refine gate_store (t := 9) (p := 115) rfl ?_); refine store_event (t := 9) (p := 115) (v := ?vo_w58) (w1 := (wr.setCell ⟨gb177, 1, none⟩ (.string js56))) ?hg ?ho ?hn ?hr ?_; (case ho => rfl); (case hg => rfl); (case hn => rfl); (case hr => first | (go_simp; done) | (go_simp; rfl)); intro w58 hw; have n0_ : Aside0 (Kd.S k88 88 w58 w.heap.size (fun k_ => some k_ ≠ (u178000 : Value).ownBlock ∧ k_ ≠ gb177) u5 x5_1) := ⟨(by rw [hw]; exact (by (with_reducible repeat (first | apply Kd.S_alloc | apply Kd.S_drewN | apply Kd.S_drew)); exact Kd.S_mono (Kd.S_far (p := ⟨gb177, 1, none⟩) (Kd.S_mono HO_5.out (fun k_ hk => (⟨hk, hk.2⟩ : _ ∧ k_ ≠ gb177))) (fun _ hk => hk.2) (.string js56)) (fun _ hk => ⟨hk.1.1, hk.1.2⟩)))⟩; have n1_ : Aside0 (Kd.R (Kd.int .i64) 3 w58 w.heap.size (fun _ => True) u178000 x178000_3) := ⟨(by rw [hw]; exact (by (with_reducible repeat (first | apply Kd.R_alloc | apply Kd.R_drewN | apply Kd.R_drew)); exact Kd.R_mono (Kd.R_far (p := ⟨gb177, 1, none⟩) (Kd.R_types HO_178000.out BK177.out (by decide)) (fun _ hk => hk.2) (.string js56)) (fun _ hk => trivial)))⟩; have n2_ : Aside0 (w58.heap[gb177]? = some (.cells #[u178000, .string js56] 88 (0, 0))) := ⟨(by rw [hw]; exact (by (with_reducible repeat (first | refine blk_drewN ?_ _ | refine blk_drew ?_ | refine blk_alloc ?_ _)); refine blk_put (cs := #[u178000, .string (⟨#[]⟩ : ByteArray)]) ?_ 1 _ rfl; (with_reducible repeat (first | refine blk_drewN ?_ _ | refine blk_drew ?_ | refine blk_alloc ?_ _)); exact BK177.out))⟩; have n3_ : Aside0 (Below w.heap.size w w58) := ⟨(by rw [hw]; exact (by repeat (first | (with_reducible first | exact HB.out | apply below_alloc | apply pw_below_drewN | apply below_drew1 | refine below_set ?_ GE177.out) | exact HB.out)))⟩; clear hw; clear HO_5; clear HO_178000; clear BK177; clear HB; have HO_5 := n0_; have HO_178000 := n1_; have BK177 := n2_; have HB := n3_; clear n0_ n1_ n2_ n3_; have hcz59_0 : w58.cell? ⟨gb177, 0, none⟩ = some (u178000) := (blk_cell BK177.out 0).trans rfl; have hcz59_1 : w58.cell? ⟨gb177, 1, none⟩ = some (.string js56) := (blk_cell BK177.out 1).trans rfl; have hfz59_0 := blk_frozen BK177.out 0; have hfz59_1 := blk_frozen BK177.out 1; obtain ⟨Ao61, co61, eo61⟩ := Kd.R_slice HO_178000.out; subst eo61) | ((with_reducible refine gate_builtin (b := .append) (xs := #[.tmp 116, .tmp 118]) rfl ?_); at_builtin; refine Kd.S_append k88 (w0 := w) w.heap.size rfl (.tmp 116) (.tmp 118) 38 88 (.agg #[(.slice none 0 0), (.string ⟨#[]⟩)]) 40 rfl Try.underlying38 info88 rfl (by decide) (by omega) u5 x5_1 (⟨x178000_3, js56⟩ : S88) [.slice Ao61 x178000_3.length co61, .string js56] (fun k_ => k_ ≠ gb177) (fun k_ => some k_ = (.slice Ao61 x178000_3.length co61 : Value).ownBlock) rfl rfl ?aP (fun k_ hk_ => ((Kd.R_mono (ok' := fun k_ => ((fun k_ => k_ ≠ gb177)) k_ ∧ some k_ ≠ (u5 : Value).ownBlock) (Kd.R_types (Kd.R_apart' (HO_178000.out) (Kd.S_typed HO_5.out) (by decide)) BK177.out (by decide)) (fun k_ hk => ⟨hk.2, hk.1.2⟩))).1 k_ hk_.symm) ?aF ?aO ?aB ?aS ?aL ?_; (case aP => exact k88_mkM _ _ _ (⟨x178000_3, js56⟩ : S88) (Kd.R_mono (Kd.R_tight rfl (Kd.R_mono (ok' := fun k_ => ((fun k_ => k_ ≠ gb177)) k_ ∧ some k_ ≠ (u5 : Value).ownBlock) (Kd.R_types (Kd.R_apart' (HO_178000.out) (Kd.S_typed HO_5.out) (by decide)) BK177.out (by decide)) (fun k_ hk => ⟨hk.2, hk.1.2⟩))) (fun _ h_ => h_))); (case aB => exact (by repeat (first | (with_reducible first | exact HB.out | apply below_alloc | apply pw_below_drewN | apply below_drew1 | refine below_set ?_ GE177.out) | exact HB.out))); (case aF => exact (fun k_ hk => Kd.freshB (g := gb177) (o := .cells #[.slice Ao61 x178000_3.length co61, .string js56] 88 (0, 0)) (by (with_reducible repeat (first | refine blk_drewN ?_ _ | refine blk_drew ?_ | refine blk_alloc ?_ _)); exact BK177.out) k_ hk)); (case aO => exact (by (with_reducible repeat (first | apply Kd.S_alloc | apply Kd.S_drewN | apply Kd.S_drew)); exact Kd.S_mono HO_5.out (fun k_ hk => ⟨hk.2, fun e_ => hk.1 e_⟩))); (case aS => exact (below_size (by repeat (first | (with_reducible first | exact HB.out | apply below_alloc | apply pw_below_drewN | apply below_drew1 | refine below_set ?_ GE177.out) | exact HB.out)))); (case aL => have := LMc54.out; omega); intro v187 w60 ho hb hg hat; rw [← Ny186.out] at ho; have n0_ := Aside0.mk (blk_grown (g := gb177) (o := .cells #[.slice Ao61 x178000_3.length co61, .string js56] 88 (0, 0)) (by (with_reducible repeat (first | refine blk_drewN ?_ _ | refine blk_drew ?_ | refine blk_alloc ?_ _)); exact BK177.out) hg (Kd.S_away HO_5.out (fun _ hk => hk.2))); have n1_ := Aside0.mk (hb); have n2_ := Aside0.mk (ho); clear BK177; clear HB; clear HO_5; clear HO_178000; have BK177 := n0_; have HB := n1_; have HO188 := n2_; clear n0_ n1_ n2_; clear ho hb hg hat))
                                                      have hjs56 := Njs56.out
                                                      subst hjs56
                                                      go_roundg k3
                                                      case measure => have := HK1.out; have := HJ22.out; have := HK3.out; omega
                                                      case rel => exact ⟨(y186), (wrap64 ((wrap64 (x6_1 + 8)) + (wrap64 (t168)))), (by first | rfl | (simp; done) | (simp [*]; done)), H', ⟨by have := HK1.out; have := HJ22.out; have := HK3.out; omega⟩, ⟨by (with_reducible repeat (first | apply Kd.S_alloc | apply Kd.S_drewN | apply Kd.S_drew)); exact Kd.S_mono HO188.out (fun _ hk => trivial)⟩, ⟨by repeat (first | (with_reducible first | exact HB.out | apply below_alloc | apply pw_below_drewN | apply below_drew1 | refine below_set ?_ GE177.out) | exact HB.out)⟩⟩
                                                    · rw [if_neg c54] at H
                                                      exact absurd H (by simp)
                                                  · rw [if_neg c53] at H
                                                    exact absurd H (by simp)
                                                · rw [if_neg c52] at H
                                                  exact absurd H (by simp)
                                        · rw [if_neg c37] at H
                                          exact absurd H (by simp)
                                · rw [if_neg c22] at H
                                  have c22b0 : (t171 == (IntKind.u64.wrap (t172))) = false := beq_eq_false_iff_ne.mpr c22
                                  have c22b1 : (t171 != (IntKind.u64.wrap (t172))) = true := bne_iff_ne.mpr c22
                                  simp only [Option.some.injEq, Prod.mk.injEq] at H
                                  obtain ⟨rfl, rfl, rfl⟩ := H
                                  obtain ⟨i062, hi062, _, hsz62, _⟩ := info_parts info5
                                  obtain ⟨A62, hcut62, hA62, hC62⟩ := print_mid_of (P := Try.prog) (Value.int .u8) 0 22 5 .i64 .i64 Try.underlying22 hi062 hsz62 A0 c0 l0 x6_1 (ji16) (of_decide_eq_true (by first | (with_reducible assumption) | assumption)) (by first | omega | exact of_decide_eq_true (by first | (with_reducible assumption) | assumption)) (of_decide_eq_true (by first | (with_reducible assumption) | assumption)) HC0.out
                                  have HR167 := Aside0.mk (Kd.C_of_reads (h1 := fun _ => rfl) (hA62 _ (Kd.reads_of_C HR0.out)))
                                  have HC167 := Aside0.mk hC62
                                  have hcutb62 := hcut62
                                  clear hA62 hC62 hi062 hsz62
                                  have SL167 := Aside0.mk (show ((l0.take ((ji16) : Int).toNat).drop (x6_1 : Int).toNat).length = ((ji16).toNat - x6_1.toNat) from (by rw [List.length_drop, List.length_take]; have h_ : ((ji16) : Int) ≤ (l0.length : Int) := of_decide_eq_true (by first | (with_reducible assumption) | assumption); omega))
                                  go_wp2_with (first | ((with_reducible refine gate_callee (f := 50) rfl ?_); refine goesL_ (some 28) rfl rfl Try.func50 (by kernel_rfl) rfl #[.slice A62 ((l0.take ((ji16) : Int).toNat).drop (x6_1 : Int).toNat).length (c0 - x6_1.toNat)] rfl (by (try simp only [List.map_toArray, List.map_cons, List.map_nil]); first | done | (rw [show ((l0.take ((ji16) : Int).toNat).drop (x6_1 : Int).toNat).length = ((ji16).toNat - x6_1.toNat) from SL167.out] <;> rfl) | (simp only [hji16]; rfl) | rfl | (simp only [List.length_drop, List.length_take]; rfl) | (exact congrArg (fun n_ : Nat => (#[Value.slice _ n_ _] : Array Value)) (by simp only [List.length_take, List.length_drop]; omega))) ?_; (with_reducible refine (tattingref44_number.calls k1 _ _ ((l0.take ((ji16) : Int).toNat).drop (x6_1 : Int).toNat) t168 _ ?side1 ?side2 A7.out).mono ?_); (case side1 => repeat (first | exact (Kd.C_below HR167.out HB.out) | (with_reducible refine Kd.C_alloc ?_ _) | (with_reducible refine Kd.C_drewN ?_ _) | (with_reducible refine Kd.C_drew ?_))); (case side2 => exact HC167.out); rintro e w' ⟨rfl, ⟨nd, rfl⟩⟩; refine ⟨_, rfl, ?_⟩; obtain ⟨i063, hi063, _, hsz63, _⟩ := info_parts info5; obtain ⟨A63, hcut63, hA63, hC63⟩ := print_mid_of (P := Try.prog) (Value.int .u8) 0 22 5 .i64 .i64 Try.underlying22 hi063 hsz63 A0 c0 l0 (ji12) (wrap64 ((ji12) + (wrap64 (t168)))) (of_decide_eq_true (by first | (with_reducible assumption) | assumption)) (by first | omega | exact of_decide_eq_true (by first | (with_reducible assumption) | assumption)) (of_decide_eq_true (by first | (with_reducible assumption) | assumption)) HC0.out; have HR169 := Aside0.mk (Kd.C_of_reads (h1 := fun _ => rfl) (hA63 _ (Kd.reads_of_C HR0.out))); have HC169 := Aside0.mk hC63; have hcutb63 := hcut63; clear hA63 hC63 hi063 hsz63; have SL169 := Aside0.mk (show ((l0.take ((wrap64 ((ji12) + (wrap64 (t168)))) : Int).toNat).drop ((ji12) : Int).toNat).length = ((wrap64 ((ji12) + (wrap64 (t168)))).toNat - (ji12).toNat) from (by rw [List.length_drop, List.length_take]; have h_ : ((wrap64 ((ji12) + (wrap64 (t168)))) : Int) ≤ (l0.length : Int) := of_decide_eq_true (by first | (with_reducible assumption) | assumption); omega)); obtain ⟨i064, hi064, _, hsz64, _⟩ := info_parts info5; obtain ⟨A64, hcut64, hA64, hC64⟩ := print_mid_of (P := Try.prog) (Value.int .u8) 0 22 5 .i64 .i64 Try.underlying22 hi064 hsz64 A0 c0 l0 (ji16) (ji12) (of_decide_eq_true (by first | (with_reducible assumption) | assumption)) (by first | omega | exact of_decide_eq_true (by first | (with_reducible assumption) | assumption)) (of_decide_eq_true (by first | (with_reducible assumption) | assumption)) HC0.out; have HR170 := Aside0.mk (Kd.C_of_reads (h1 := fun _ => rfl) (hA64 _ (Kd.reads_of_C HR0.out))); have HC170 := Aside0.mk hC64; have hcutb64 := hcut64; clear hA64 hC64 hi064 hsz64; have SL170 := Aside0.mk (show ((l0.take ((ji12) : Int).toNat).drop ((ji16) : Int).toNat).length = ((ji12).toNat - (ji16).toNat) from (by rw [List.length_drop, List.length_take]; have h_ : ((ji12) : Int) ≤ (l0.length : Int) := of_decide_eq_true (by first | (with_reducible assumption) | assumption); omega))) | ((with_reducible refine gate_callee (f := 50) rfl ?_); refine goesL_ (some 57) rfl rfl Try.func50 (by kernel_rfl) rfl #[.slice A64 ((l0.take ((ji12) : Int).toNat).drop ((ji16) : Int).toNat).length (c0 - (ji16).toNat)] rfl (by (try simp only [List.map_toArray, List.map_cons, List.map_nil]); first | done | (rw [show ((l0.take ((ji12) : Int).toNat).drop ((ji16) : Int).toNat).length = ((ji12).toNat - (ji16).toNat) from SL170.out] <;> rfl) | (simp only [hji12, hji16]; rfl) | rfl | (simp only [List.length_drop, List.length_take]; rfl) | (exact congrArg (fun n_ : Nat => (#[Value.slice _ n_ _] : Array Value)) (by simp only [List.length_take, List.length_drop]; omega))) ?_; (with_reducible refine (tattingref44_number.calls k1 _ _ ((l0.take ((ji12) : Int).toNat).drop ((ji16) : Int).toNat) t171 _ ?side1 ?side2 A20.out).mono ?_); (case side1 => repeat (first | exact (Kd.C_below HR170.out (by repeat (first | (with_reducible first | exact HB.out | apply below_alloc | apply pw_below_drewN | apply below_drew1) | exact HB.out))) | (with_reducible refine Kd.C_alloc ?_ _) | (with_reducible refine Kd.C_drewN ?_ _) | (with_reducible refine Kd.C_drew ?_))); (case side2 => exact HC170.out); rintro e w' ⟨rfl, ⟨nd, rfl⟩⟩; refine ⟨_, rfl, ?_⟩) | ((with_reducible refine gate_callee (f := 25) rfl ?_); refine goesL_ (some 59) rfl rfl Try.func25 (by kernel_rfl) rfl #[.slice A63 ((l0.take ((wrap64 ((ji12) + (wrap64 (t168)))) : Int).toNat).drop ((ji12) : Int).toNat).length (c0 - (ji12).toNat)] rfl (by (try simp only [List.map_toArray, List.map_cons, List.map_nil]); first | done | (rw [show ((l0.take ((wrap64 ((ji12) + (wrap64 (t168)))) : Int).toNat).drop ((ji12) : Int).toNat).length = ((wrap64 ((ji12) + (wrap64 (t168)))).toNat - (ji12).toNat) from SL169.out] <;> rfl) | (simp only [hji12]; rfl) | rfl | (simp only [List.length_drop, List.length_take]; rfl) | (exact congrArg (fun n_ : Nat => (#[Value.slice _ n_ _] : Array Value)) (by simp only [List.length_take, List.length_drop]; omega))) ?_; (with_reducible refine (tattingref44_Sum.calls k1 _ _ ((l0.take ((wrap64 ((ji12) + (wrap64 (t168)))) : Int).toNat).drop ((ji12) : Int).toNat) t172 _ ?side1 ?side2 A21.out).mono ?_); (case side1 => repeat (first | exact (Kd.C_below HR169.out (by repeat (first | (with_reducible first | exact HB.out | apply below_alloc | apply pw_below_drewN | apply below_drew1) | exact HB.out))) | (with_reducible refine Kd.C_alloc ?_ _) | (with_reducible refine Kd.C_drewN ?_ _) | (with_reducible refine Kd.C_drew ?_))); (case side2 => exact HC169.out); rintro e w' ⟨rfl, ⟨nd, rfl⟩⟩; refine ⟨_, rfl, ?_⟩))
                                  go_ret3
                                  exact ⟨_, by first | rfl | (simp [errW_none, errW_some] <;> rfl) | (simp only [← hji12, ← hji16]; first | rfl | (simp [errW_none, errW_some] <;> rfl)) | (simp [*, errW_none, errW_some] <;> rfl), by (with_reducible repeat (first | apply Kd.S_alloc | apply Kd.S_drewN | apply Kd.S_drew)); exact HO_5.out, by repeat (first | (with_reducible first | exact HB.out | apply below_alloc | apply pw_below_drewN | apply below_drew1) | exact HB.out)⟩
                              · rw [if_neg c19] at H
                                exact absurd H (by simp)
                            · rw [if_neg c18] at H
                              exact absurd H (by simp)
                          · rw [if_neg c17] at H
                            exact absurd H (by simp)
                        · rw [if_neg c15] at H
                          exact absurd H (by simp)
                      · rw [if_neg c14] at H
                        exact absurd H (by simp)
                    · rw [if_neg c13] at H
                      exact absurd H (by simp)
              · rw [if_neg c6] at H
                exact absurd H (by simp)
            · rw [if_neg c5] at H
              exact absurd H (by simp)
          · rw [if_neg c4] at H
            exact absurd H (by simp)
      · rw [if_neg c2] at H
        have c2b0 : decide (x6_1 < (l0.length : Int)) = false := decide_eq_false c2
        clear c2
        simp only [Option.some.injEq, Prod.mk.injEq] at H
        obtain ⟨rfl, rfl, rfl⟩ := H
        go_wp2
        go_ret3
        exact ⟨_, by first | rfl | (simp [errW_none, errW_some] <;> rfl) | (simp [*, errW_none, errW_some] <;> rfl), by (with_reducible repeat (first | apply Kd.S_alloc | apply Kd.S_drewN | apply Kd.S_drew)); exact HO_5.out, by repeat (first | (with_reducible first | exact HB.out | apply below_alloc | apply pw_below_drewN | apply below_drew1) | exact HB.out)⟩

end Go.Proofs.Ytghghioidllgiaa.PJ
