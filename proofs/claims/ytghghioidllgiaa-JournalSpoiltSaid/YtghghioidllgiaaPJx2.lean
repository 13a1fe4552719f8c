/- Printed for this claim by a program of this repo, over the print of the kit. -/
import Derived.Test.YtghghioidllgiaaPJx0
import Derived.Test.YtghghioidllgiaaPJx1
namespace Go.Proofs.Ytghghioidllgiaa.PJ
open Go.RowKit Go.Proofs.YtghghioidllgiaaW.PrintWords Go.Proofs.YtghghioidllgiaaW.PrintLast Go.Proofs.YtghghioidllgiaaW.PrintMore
attribute [local go_sem] max2_int min2_int max_two min_two max_three min_three max_four min_four   -- for this text's walks alone
set_option linter.unusedVariables false
set_option linter.unusedSimpArgs false

/-! ### journal_record: function 47 -/
mutual
def journal_record.j0 : Nat → Int → List Int → Bool → Option (List Int × ByteArray × Int × Int)
  | 0, _, _, _ => none
  | k + 1, x5, x6, x52 => if x52 = true then (some (([] : List Int), (⟨#[]⟩ : ByteArray), 0, 3)) else (if 2 ≤ (x6.length : Int) then ((journal_get.f k (x6.take 2)).bind fun t139 => (journal_record.l0 k x5 x6 (wrap64 (t139)) (wrap64 (t139)) 0 ([] : List Int) (⟨#[]⟩ : ByteArray))) else (none))
def journal_record.l0 : Nat → Int → List Int → Int → Int → Int → List Int → ByteArray → Option (List Int × ByteArray × Int × Int)
  | 0, _, _, _, _, _, _, _ => none
  | k + 1, x5, x6, x8, x58, x59, x138000, x138001 => if x59 < x58 then (if 0 ≤ (wrap64 (2 + (wrap64 (8 * x59)))) then (if (wrap64 (2 + (wrap64 (8 * x59)))) ≤ (wrap64 (10 + (wrap64 (8 * x59)))) then (if (wrap64 (10 + (wrap64 (8 * x59)))) ≤ (x6.length : Int) then ((journal_get.f k ((x6.take ((wrap64 (10 + (wrap64 (8 * x59)))) : Int).toNat).drop ((wrap64 (2 + (wrap64 (8 * x59)))) : Int).toNat)).bind fun t141 => (if x138000.length < 17592186044416 then (journal_record.l0 k x5 x6 x8 x58 (wrap64 (x59 + 1)) (x138000 ++ [wrap64 (t141)]) x138001) else (none))) else (none)) else (none)) else (none)) else (if 0 ≤ (wrap64 (2 + (wrap64 (8 * x8)))) then (if (wrap64 (2 + (wrap64 (8 * x8)))) ≤ (x6.length : Int) then (if ((strOfNums (x6.drop ((wrap64 (2 + (wrap64 (8 * x8)))) : Int).toNat)).size : Int) > 1048576 then (some (([] : List Int), (⟨#[]⟩ : ByteArray), 0, 3)) else (some (x138000, strOfNums (x6.drop ((wrap64 (2 + (wrap64 (8 * x8)))) : Int).toNat), wrap64 (8 + x5), 0))) else (none)) else (none))
end
def journal_record.f (k : Nat) (l0 : List Int) : Option (List Int × ByteArray × Int × Int) := if (l0.length : Int) < 8 then (some (([] : List Int), (⟨#[]⟩ : ByteArray), 0, 10)) else (if 4 ≤ (l0.length : Int) then ((journal_get.f k (l0.take 4)).bind fun t130 => (if (wrap64 (t130)) > 1572858 then (some (([] : List Int), (⟨#[]⟩ : ByteArray), 0, 4)) else (if (wrap64 (t130)) > (wrap64 ((l0.length : Int) - 8)) then (some (([] : List Int), (⟨#[]⟩ : ByteArray), 0, 10)) else (if 8 ≤ (wrap64 (8 + (wrap64 (t130)))) then (if (wrap64 (8 + (wrap64 (t130)))) ≤ (l0.length : Int) then ((journal_Sum.f k ((l0.take ((wrap64 (8 + (wrap64 (t130)))) : Int).toNat).drop 8)).bind fun t132 => (if 4 ≤ 8 then (if 8 ≤ (l0.length : Int) then ((journal_get.f k ((l0.take 8).drop 4)).bind fun t134 => (if (IntKind.u64.wrap (t132)) = t134 then (if (wrap64 (t130)) < 2 then (journal_record.j0 k (wrap64 (t130)) ((l0.take ((wrap64 (8 + (wrap64 (t130)))) : Int).toNat).drop 8) true) else (if 2 ≤ (((l0.take ((wrap64 (8 + (wrap64 (t130)))) : Int).toNat).drop 8).length : Int) then ((journal_get.f k (((l0.take ((wrap64 (8 + (wrap64 (t130)))) : Int).toNat).drop 8).take 2)).bind fun t136 => (journal_record.j0 k (wrap64 (t130)) ((l0.take ((wrap64 (8 + (wrap64 (t130)))) : Int).toNat).drop 8) (decide ((wrap64 (t130)) < (wrap64 (2 + (wrap64 (8 * (wrap64 (t136)))))))))) else (none))) else (some (([] : List Int), (⟨#[]⟩ : ByteArray), 0, 11)))) else (none)) else (none))) else (none)) else (none))))) else (none))
theorem journal_record.mono_l : ∀ k, (∀ y0 y1 y2, LeO (journal_record.j0 k y0 y1 y2) (journal_record.j0 (k + 1) y0 y1 y2)) ∧ (∀ y0 y1 y2 y3 y4 y5 y6, LeO (journal_record.l0 k y0 y1 y2 y3 y4 y5 y6) (journal_record.l0 (k + 1) y0 y1 y2 y3 y4 y5 y6))
  | 0 => ⟨fun _ _ _ r h => by simp [journal_record.j0] at h, fun _ _ _ _ _ _ _ r h => by simp [journal_record.l0] at h⟩
  | k + 1 => by
    obtain ⟨ih0, ih1⟩ := journal_record.mono_l k
    refine ⟨?_, ?_⟩
    · intro y0 y1 y2
      unfold journal_record.j0
      repeat' first
      | (with_reducible exact ih0 _ _ _)
      | (with_reducible exact ih1 _ _ _ _ _ _ _)
      | (with_reducible exact journal_Sum.mono _ _)
      | (with_reducible exact journal_get.mono _ _)
      | (with_reducible exact LeO.refl _)
      | (with_reducible exact LeO.none _)
      | (with_reducible refine LeO.ite ?_ ?_)
      | (with_reducible refine LeO.bind ?_ (fun _ => ?_))
      | exact ih0 _ _ _
      | exact ih1 _ _ _ _ _ _ _
      | exact journal_Sum.mono _ _
      | exact journal_get.mono _ _
      | exact LeO.none _
      | refine LeO.ite ?_ ?_
      | refine LeO.bind ?_ (fun _ => ?_)
    · intro y0 y1 y2 y3 y4 y5 y6
      unfold journal_record.l0
      repeat' first
      | (with_reducible exact ih0 _ _ _)
      | (with_reducible exact ih1 _ _ _ _ _ _ _)
      | (with_reducible exact journal_Sum.mono _ _)
      | (with_reducible exact journal_get.mono _ _)
      | (with_reducible exact LeO.refl _)
      | (with_reducible exact LeO.none _)
      | (with_reducible refine LeO.ite ?_ ?_)
      | (with_reducible refine LeO.bind ?_ (fun _ => ?_))
      | exact ih0 _ _ _
      | exact ih1 _ _ _ _ _ _ _
      | exact journal_Sum.mono _ _
      | exact journal_get.mono _ _
      | exact LeO.none _
      | refine LeO.ite ?_ ?_
      | refine LeO.bind ?_ (fun _ => ?_)
theorem journal_record.mono : ∀ a0 k, LeO (journal_record.f k a0) (journal_record.f (k + 1) a0) := by
  intro a0 k
  obtain ⟨ih0, ih1⟩ := journal_record.mono_l k
  unfold journal_record.f
  repeat' first
      | (with_reducible exact ih0 _ _ _)
      | (with_reducible exact ih1 _ _ _ _ _ _ _)
      | (with_reducible exact journal_Sum.mono _ _)
      | (with_reducible exact journal_get.mono _ _)
      | (with_reducible exact LeO.refl _)
      | (with_reducible exact LeO.none _)
      | (with_reducible refine LeO.ite ?_ ?_)
      | (with_reducible refine LeO.bind ?_ (fun _ => ?_))
      | exact ih0 _ _ _
      | exact ih1 _ _ _ _ _ _ _
      | exact journal_Sum.mono _ _
      | exact journal_get.mono _ _
      | exact LeO.none _
      | refine LeO.ite ?_ ?_
      | refine LeO.bind ?_ (fun _ => ?_)
def journal_record.T18 : Bool × List (List Nat × List Nat) := (true, [([], []), ([0], [0]), ([], []), ([], []), ([3], [3]), ([4], [4]), ([], []), ([6], [6]), ([7], [7]), ([2, 5, 8], [2, 5, 8]), ([9], [9]), ([10], [10]), ([11], [11]), ([1, 12, 10], [1, 12]), ([0, 1, 2, 3, 4, 5, 6, 7, 8, 9, 10, 11, 12, 13], []), ([14, 13, 13, 0, 1, 2, 3, 4, 5, 6, 7, 8, 9, 10, 11, 12, 13], [13, 14])])
def journal_record.B18 : List Nat := [0, 1, 0, 0, 8, 24, 0, 64, 192, 508, 1020, 2044, 4092, 8191, 16383, 32767]
theorem journal_record.tab18 : rtab .any (opsOf Try.f47 18) = journal_record.T18 := by kernel_rfl
theorem journal_record.bits18 : waitsOk journal_record.T18.2 journal_record.B18 = true := by kernel_rfl
set_option maxHeartbeats 8000000 in
set_option maxRecDepth 100000 in
theorem journal_record.calls (k : Nat) (A0 : Option Addr) (c0 : Nat) (l0 : List Int) (r1 : List Int) (r2 : ByteArray) (r3 : Int) (r4 : Int) (w : World) (hr0 : Kd.C (Kd.int .u8) w A0 l0.length l0) (hc0 : l0.length ≤ c0) (h : journal_record.f k l0 = some (r1, r2, r3, r4)) :
    Calls Try.prog 47 #[.slice A0 l0.length c0] w fun e w' => ∃ v0_ : Value, e = .returned (.tuple #[.agg #[v0_, .string r2], .int .i64 r3, .int .i64 r4]) ∧ Kd.R (Kd.int .i64) 3 w' w.heap.size (fun _ => True) v0_ r1 ∧ Below w.heap.size w w' := by
  have hu88 := Try.underlying88
  have HR0 := Aside0.mk hr0
  have HC0 := Aside0.mk hc0
  clear hr0 hc0
  have HB := Aside0.mk (Below.refl w.heap.size w)
  have H : (if (l0.length : Int) < 8 then (some (([] : List Int), (⟨#[]⟩ : ByteArray), 0, 10)) else (if 4 ≤ (l0.length : Int) then ((journal_get.f k (l0.take 4)).bind fun t130 => (if (wrap64 (t130)) > 1572858 then (some (([] : List Int), (⟨#[]⟩ : ByteArray), 0, 4)) else (if (wrap64 (t130)) > (wrap64 ((l0.length : Int) - 8)) then (some (([] : List Int), (⟨#[]⟩ : ByteArray), 0, 10)) else (if 8 ≤ (wrap64 (8 + (wrap64 (t130)))) then (if (wrap64 (8 + (wrap64 (t130)))) ≤ (l0.length : Int) then ((journal_Sum.f k ((l0.take ((wrap64 (8 + (wrap64 (t130)))) : Int).toNat).drop 8)).bind fun t132 => (if 4 ≤ 8 then (if 8 ≤ (l0.length : Int) then ((journal_get.f k ((l0.take 8).drop 4)).bind fun t134 => (if (IntKind.u64.wrap (t132)) = t134 then (if (wrap64 (t130)) < 2 then (journal_record.j0 k (wrap64 (t130)) ((l0.take ((wrap64 (8 + (wrap64 (t130)))) : Int).toNat).drop 8) true) else (if 2 ≤ (((l0.take ((wrap64 (8 + (wrap64 (t130)))) : Int).toNat).drop 8).length : Int) then ((journal_get.f k (((l0.take ((wrap64 (8 + (wrap64 (t130)))) : Int).toNat).drop 8).take 2)).bind fun t136 => (journal_record.j0 k (wrap64 (t130)) ((l0.take ((wrap64 (8 + (wrap64 (t130)))) : Int).toNat).drop 8) (decide ((wrap64 (t130)) < (wrap64 (2 + (wrap64 (8 * (wrap64 (t136)))))))))) else (none))) else (some (([] : List Int), (⟨#[]⟩ : ByteArray), 0, 11)))) else (none)) else (none))) else (none)) else (none))))) else (none))) = some (r1, r2, r3, r4) := h
  clear h
  by_cases c2 : (l0.length : Int) < 8
  · rw [if_pos c2] at H
    have c2b0 : decide ((l0.length : Int) < 8) = true := decide_eq_true c2
    have c2b1 : decide (l0.length < 8) = true := decide_eq_true (by omega)
    clear c2
    simp only [Option.some.injEq, Prod.mk.injEq] at H
    obtain ⟨rfl, rfl, rfl, rfl⟩ := H
    go_enter Try.func47, Try.ntmps47
    go_wp2_with (first | ((with_reducible refine gate_dst (N := 2) rfl ?_); refine box_event ?hg (N := 2) ?hd (cs := #[.slice none 0 0, .string (⟨#[]⟩ : ByteArray)]) (t := 88) ?hr ?_; (case hd => rfl); (case hg => rfl); (case hr => first | (go_simp; done) | (go_simp; rfl)); intro gb128 hg w3 hbox hb; have n0_ := Aside0.mk (below_step (by repeat (first | (with_reducible first | exact HB.out | apply below_alloc | apply pw_below_drewN | apply below_drew1) | exact HB.out)) hb); have n1_ := Aside0.mk (hbox); have n2_ := Aside0.mk ((by rw [hg]; exact (below_size (by repeat (first | (with_reducible first | exact HB.out | apply below_alloc | apply pw_below_drewN | apply below_drew1) | exact HB.out))) : w.heap.size ≤ gb128)); have n3_ := Aside0.mk ((by rw [hg]; exact (below_size (by repeat (first | (with_reducible first | exact HB.out | apply below_alloc | apply pw_below_drewN | apply below_drew1) | exact HB.out))) : w.heap.size ≤ gb128)); clear HB; have HB := n0_; have BK128 := n1_; have GW128 := n2_; have GE128 := n3_; clear n0_ n1_ n2_ n3_; clear hb hbox hg; have hcz4_0 : w3.cell? ⟨gb128, 0, none⟩ = some (.slice none 0 0) := (blk_cell BK128.out 0).trans rfl; have hcz4_1 : w3.cell? ⟨gb128, 1, none⟩ = some (.string (⟨#[]⟩ : ByteArray)) := (blk_cell BK128.out 1).trans rfl; have hfz4_0 := blk_frozen BK128.out 0; have hfz4_1 := blk_frozen BK128.out 1))
    refine bodyPost_ret (results_ctt rfl _ _ gb128 88 #[.slice none 0 0, .string (⟨#[]⟩ : ByteArray)] (0, 0) _ rfl (by (with_reducible repeat (first | refine blk_drewN ?_ _ | refine blk_drew ?_ | refine blk_alloc ?_ _)); refine blk_put (cs := #[.slice none 0 0, .string (⟨#[]⟩ : ByteArray)]) ?_ 1 _ rfl; (with_reducible repeat (first | refine blk_drewN ?_ _ | refine blk_drew ?_ | refine blk_alloc ?_ _)); refine blk_put (cs := #[.slice none 0 0, .string (⟨#[]⟩ : ByteArray)]) ?_ 0 _ rfl; (with_reducible repeat (first | refine blk_drewN ?_ _ | refine blk_drew ?_ | refine blk_alloc ?_ _)); exact BK128.out) Try.underlying88 rfl (by kernel_rfl)) rfl ?_
    exact ⟨_, by first | rfl | (simp [errW_none, errW_some] <;> rfl) | (simp [*, errW_none, errW_some] <;> rfl), by first | exact Kd.R_nil _ _ _ _ _ | exact Kd.N_nil _ _ _ _ _ | exact Kd.V_nil _ _ _ _ _ | exact Kd.Q_nil _ _ _ _ _ | exact Kd.S_nil _ _ _ _ _, by repeat (first | (with_reducible first | exact HB.out | apply below_alloc | apply pw_below_drewN | apply below_drew1 | refine below_set ?_ GE128.out) | exact HB.out)⟩
  · rw [if_neg c2] at H
    have c2b0 : decide ((l0.length : Int) < 8) = false := decide_eq_false c2
    have c2b1 : decide (l0.length < 8) = false := decide_eq_false (by omega)
    clear c2
    by_cases c5 : 4 ≤ (l0.length : Int)
    · rw [if_pos c5] at H
      have c5b0 := eq_true c5
      have c5b1 : decide (4 ≤ (l0.length : Int)) = true := decide_eq_true c5
      clear c5
      replace H := Option.bind_eq_some_iff.mp H
      obtain ⟨t130, A60, H⟩ := H
      replace H : (if (wrap64 (t130)) > 1572858 then (some (([] : List Int), (⟨#[]⟩ : ByteArray), 0, 4)) else (if (wrap64 (t130)) > (wrap64 ((l0.length : Int) - 8)) then (some (([] : List Int), (⟨#[]⟩ : ByteArray), 0, 10)) else (if 8 ≤ (wrap64 (8 + (wrap64 (t130)))) then (if (wrap64 (8 + (wrap64 (t130)))) ≤ (l0.length : Int) then ((journal_Sum.f k ((l0.take ((wrap64 (8 + (wrap64 (t130)))) : Int).toNat).drop 8)).bind fun t132 => (if 4 ≤ 8 then (if 8 ≤ (l0.length : Int) then ((journal_get.f k ((l0.take 8).drop 4)).bind fun t134 => (if (IntKind.u64.wrap (t132)) = t134 then (if (wrap64 (t130)) < 2 then (journal_record.j0 k (wrap64 (t130)) ((l0.take ((wrap64 (8 + (wrap64 (t130)))) : Int).toNat).drop 8) true) else (if 2 ≤ (((l0.take ((wrap64 (8 + (wrap64 (t130)))) : Int).toNat).drop 8).length : Int) then ((journal_get.f k (((l0.take ((wrap64 (8 + (wrap64 (t130)))) : Int).toNat).drop 8).take 2)).bind fun t136 => (journal_record.j0 k (wrap64 (t130)) ((l0.take ((wrap64 (8 + (wrap64 (t130)))) : Int).toNat).drop 8) (decide ((wrap64 (t130)) < (wrap64 (2 + (wrap64 (8 * (wrap64 (t136)))))))))) else (none))) else (some (([] : List Int), (⟨#[]⟩ : ByteArray), 0, 11)))) else (none)) else (none))) else (none)) else (none)))) = some (r1, r2, r3, r4) := H
      have A6 := Aside0.mk A60
      clear A60
      by_cases c7 : (wrap64 (t130)) > 1572858
      · rw [if_pos c7] at H
        have c7b0 : decide (1572858 < (wrap64 (t130))) = true := decide_eq_true c7
        clear c7
        simp only [Option.some.injEq, Prod.mk.injEq] at H
        obtain ⟨rfl, rfl, rfl, rfl⟩ := H
        go_enter Try.func47, Try.ntmps47
        go_wp2_with (first | ((with_reducible refine gate_dst (N := 2) rfl ?_); refine box_event ?hg (N := 2) ?hd (cs := #[.slice none 0 0, .string (⟨#[]⟩ : ByteArray)]) (t := 88) ?hr ?_; (case hd => rfl); (case hg => rfl); (case hr => first | (go_simp; done) | (go_simp; rfl)); intro gb128 hg w8 hbox hb; have n0_ := Aside0.mk (below_step (by repeat (first | (with_reducible first | exact HB.out | apply below_alloc | apply pw_below_drewN | apply below_drew1) | exact HB.out)) hb); have n1_ := Aside0.mk (hbox); have n2_ := Aside0.mk ((by rw [hg]; exact (below_size (by repeat (first | (with_reducible first | exact HB.out | apply below_alloc | apply pw_below_drewN | apply below_drew1) | exact HB.out))) : w.heap.size ≤ gb128)); have n3_ := Aside0.mk ((by rw [hg]; exact (below_size (by repeat (first | (with_reducible first | exact HB.out | apply below_alloc | apply pw_below_drewN | apply below_drew1) | exact HB.out))) : w.heap.size ≤ gb128)); clear HB; have HB := n0_; have BK128 := n1_; have GW128 := n2_; have GE128 := n3_; clear n0_ n1_ n2_ n3_; clear hb hbox hg; obtain ⟨i09, hi09, _, hsz9, _⟩ := info_parts info5; obtain ⟨hcut9, hA9, hC9⟩ := print_take_of (P := Try.prog) (Value.int .u8) 0 22 5 .i64 Try.underlying22 hi09 hsz9 A0 c0 l0 4 (by omega) (of_decide_eq_true (by first | (with_reducible assumption) | assumption)) HC0.out; have HR129 := Aside0.mk (Kd.C_of_reads (h1 := fun _ => rfl) (hA9 _ (Kd.reads_of_C HR0.out))); have HC129 := Aside0.mk hC9; have hcutb9 := hcut9; clear hA9 hC9 hi09 hsz9; have SL129 := Aside0.mk (show (l0.take 4).length = 4 from (by rw [List.length_take]; have h_ : (4 : Int) ≤ (l0.length : Int) := of_decide_eq_true (by first | (with_reducible assumption) | assumption); omega))) | ((with_reducible refine gate_callee (f := 64) rfl ?_); refine goesL_ (some 16) rfl rfl Try.func64 (by kernel_rfl) rfl #[.slice A0 (l0.take 4).length c0] rfl (by (try simp only [List.map_toArray, List.map_cons, List.map_nil]); first | done | (rw [show (l0.take 4).length = 4 from SL129.out] <;> rfl) | rfl | (simp only [List.length_drop, List.length_take]; rfl) | (exact congrArg (fun n_ : Nat => (#[Value.slice _ n_ _] : Array Value)) (by simp only [List.length_take, List.length_drop]; omega))) ?_; (with_reducible refine (journal_get.calls k _ _ (l0.take 4) t130 _ ?side1 ?side2 A6.out).mono ?_); (case side1 => repeat (first | exact (Kd.C_below HR129.out HB.out) | (with_reducible refine Kd.C_alloc ?_ _) | (with_reducible refine Kd.C_drewN ?_ _) | (with_reducible refine Kd.C_drew ?_))); (case side2 => exact HC129.out); rintro e w' ⟨rfl, ⟨nd, rfl⟩⟩; refine ⟨_, rfl, ?_⟩; (try (rw [drewN_self w8]; generalize hq_ : World.drewN w8 _ = w8; have n0_ : Aside0 (w8.heap[gb128]? = some (.cells #[.slice none 0 0, .string (⟨#[]⟩ : ByteArray)] 88 (0, 0))) := ⟨by rw [← hq_]; exact (by (with_reducible repeat (first | refine blk_drewN ?_ _ | refine blk_drew ?_ | refine blk_alloc ?_ _)); exact BK128.out)⟩; have n1_ : Aside0 (Below w.heap.size w w8) := ⟨by rw [← hq_]; exact (by repeat (first | (with_reducible first | exact HB.out | apply below_alloc | apply pw_below_drewN | apply below_drew1 | refine below_set ?_ GE128.out) | exact HB.out))⟩; clear BK128 HB hq_; have BK128 := n0_; have HB := n1_; clear n0_ n1_)); have hcz10_0 : w8.cell? ⟨gb128, 0, none⟩ = some (.slice none 0 0) := (blk_cell BK128.out 0).trans rfl; have hcz10_1 : w8.cell? ⟨gb128, 1, none⟩ = some (.string (⟨#[]⟩ : ByteArray)) := (blk_cell BK128.out 1).trans rfl; have hfz10_0 := blk_frozen BK128.out 0; have hfz10_1 := blk_frozen BK128.out 1))
        refine bodyPost_ret (results_ctt rfl _ _ gb128 88 #[.slice none 0 0, .string (⟨#[]⟩ : ByteArray)] (0, 0) _ rfl (by (with_reducible repeat (first | refine blk_drewN ?_ _ | refine blk_drew ?_ | refine blk_alloc ?_ _)); refine blk_put (cs := #[.slice none 0 0, .string (⟨#[]⟩ : ByteArray)]) ?_ 1 _ rfl; (with_reducible repeat (first | refine blk_drewN ?_ _ | refine blk_drew ?_ | refine blk_alloc ?_ _)); refine blk_put (cs := #[.slice none 0 0, .string (⟨#[]⟩ : ByteArray)]) ?_ 0 _ rfl; (with_reducible repeat (first | refine blk_drewN ?_ _ | refine blk_drew ?_ | refine blk_alloc ?_ _)); exact BK128.out) Try.underlying88 rfl (by kernel_rfl)) rfl ?_
        exact ⟨_, by first | rfl | (simp [errW_none, errW_some] <;> rfl) | (simp [*, errW_none, errW_some] <;> rfl), by first | exact Kd.R_nil _ _ _ _ _ | exact Kd.N_nil _ _ _ _ _ | exact Kd.V_nil _ _ _ _ _ | exact Kd.Q_nil _ _ _ _ _ | exact Kd.S_nil _ _ _ _ _, by repeat (first | (with_reducible first | exact HB.out | apply below_alloc | apply pw_below_drewN | apply below_drew1 | refine below_set ?_ GE128.out) | exact HB.out)⟩
      · rw [if_neg c7] at H
        have c7b0 : decide (1572858 < (wrap64 (t130))) = false := decide_eq_false c7
        clear c7
        by_cases c11 : (wrap64 (t130)) > (wrap64 ((l0.length : Int) - 8))
        · rw [if_pos c11] at H
          have c11b0 : decide ((wrap64 ((l0.length : Int) - 8)) < (wrap64 (t130))) = true := decide_eq_true c11
          clear c11
          simp only [Option.some.injEq, Prod.mk.injEq] at H
          obtain ⟨rfl, rfl, rfl, rfl⟩ := H
          go_enter Try.func47, Try.ntmps47
          go_wp2_with (first | ((with_reducible refine gate_dst (N := 2) rfl ?_); refine box_event ?hg (N := 2) ?hd (cs := #[.slice none 0 0, .string (⟨#[]⟩ : ByteArray)]) (t := 88) ?hr ?_; (case hd => rfl); (case hg => rfl); (case hr => first | (go_simp; done) | (go_simp; rfl)); intro gb128 hg w12 hbox hb; have n0_ := Aside0.mk (below_step (by repeat (first | (with_reducible first | exact HB.out | apply below_alloc | apply pw_below_drewN | apply below_drew1) | exact HB.out)) hb); have n1_ := Aside0.mk (hbox); have n2_ := Aside0.mk ((by rw [hg]; exact (below_size (by repeat (first | (with_reducible first | exact HB.out | apply below_alloc | apply pw_below_drewN | apply below_drew1) | exact HB.out))) : w.heap.size ≤ gb128)); have n3_ := Aside0.mk ((by rw [hg]; exact (below_size (by repeat (first | (with_reducible first | exact HB.out | apply below_alloc | apply pw_below_drewN | apply below_drew1) | exact HB.out))) : w.heap.size ≤ gb128)); clear HB; have HB := n0_; have BK128 := n1_; have GW128 := n2_; have GE128 := n3_; clear n0_ n1_ n2_ n3_; clear hb hbox hg; obtain ⟨i013, hi013, _, hsz13, _⟩ := info_parts info5; obtain ⟨hcut13, hA13, hC13⟩ := print_take_of (P := Try.prog) (Value.int .u8) 0 22 5 .i64 Try.underlying22 hi013 hsz13 A0 c0 l0 4 (by omega) (of_decide_eq_true (by first | (with_reducible assumption) | assumption)) HC0.out; have HR129 := Aside0.mk (Kd.C_of_reads (h1 := fun _ => rfl) (hA13 _ (Kd.reads_of_C HR0.out))); have HC129 := Aside0.mk hC13; have hcutb13 := hcut13; clear hA13 hC13 hi013 hsz13; have SL129 := Aside0.mk (show (l0.take 4).length = 4 from (by rw [List.length_take]; have h_ : (4 : Int) ≤ (l0.length : Int) := of_decide_eq_true (by first | (with_reducible assumption) | assumption); omega))) | ((with_reducible refine gate_callee (f := 64) rfl ?_); refine goesL_ (some 16) rfl rfl Try.func64 (by kernel_rfl) rfl #[.slice A0 (l0.take 4).length c0] rfl (by (try simp only [List.map_toArray, List.map_cons, List.map_nil]); first | done | (rw [show (l0.take 4).length = 4 from SL129.out] <;> rfl) | rfl | (simp only [List.length_drop, List.length_take]; rfl) | (exact congrArg (fun n_ : Nat => (#[Value.slice _ n_ _] : Array Value)) (by simp only [List.length_take, List.length_drop]; omega))) ?_; (with_reducible refine (journal_get.calls k _ _ (l0.take 4) t130 _ ?side1 ?side2 A6.out).mono ?_); (case side1 => repeat (first | exact (Kd.C_below HR129.out HB.out) | (with_reducible refine Kd.C_alloc ?_ _) | (with_reducible refine Kd.C_drewN ?_ _) | (with_reducible refine Kd.C_drew ?_))); (case side2 => exact HC129.out); rintro e w' ⟨rfl, ⟨nd, rfl⟩⟩; refine ⟨_, rfl, ?_⟩; (try (rw [drewN_self w12]; generalize hq_ : World.drewN w12 _ = w12; have n0_ : Aside0 (w12.heap[gb128]? = some (.cells #[.slice none 0 0, .string (⟨#[]⟩ : ByteArray)] 88 (0, 0))) := ⟨by rw [← hq_]; exact (by (with_reducible repeat (first | refine blk_drewN ?_ _ | refine blk_drew ?_ | refine blk_alloc ?_ _)); exact BK128.out)⟩; have n1_ : Aside0 (Below w.heap.size w w12) := ⟨by rw [← hq_]; exact (by repeat (first | (with_reducible first | exact HB.out | apply below_alloc | apply pw_below_drewN | apply below_drew1 | refine below_set ?_ GE128.out) | exact HB.out))⟩; clear BK128 HB hq_; have BK128 := n0_; have HB := n1_; clear n0_ n1_)); have hcz14_0 : w12.cell? ⟨gb128, 0, none⟩ = some (.slice none 0 0) := (blk_cell BK128.out 0).trans rfl; have hcz14_1 : w12.cell? ⟨gb128, 1, none⟩ = some (.string (⟨#[]⟩ : ByteArray)) := (blk_cell BK128.out 1).trans rfl; have hfz14_0 := blk_frozen BK128.out 0; have hfz14_1 := blk_frozen BK128.out 1))
          refine bodyPost_ret (results_ctt rfl _ _ gb128 88 #[.slice none 0 0, .string (⟨#[]⟩ : ByteArray)] (0, 0) _ rfl (by (with_reducible repeat (first | refine blk_drewN ?_ _ | refine blk_drew ?_ | refine blk_alloc ?_ _)); refine blk_put (cs := #[.slice none 0 0, .string (⟨#[]⟩ : ByteArray)]) ?_ 1 _ rfl; (with_reducible repeat (first | refine blk_drewN ?_ _ | refine blk_drew ?_ | refine blk_alloc ?_ _)); refine blk_put (cs := #[.slice none 0 0, .string (⟨#[]⟩ : ByteArray)]) ?_ 0 _ rfl; (with_reducible repeat (first | refine blk_drewN ?_ _ | refine blk_drew ?_ | refine blk_alloc ?_ _)); exact BK128.out) Try.underlying88 rfl (by kernel_rfl)) rfl ?_
          exact ⟨_, by first | rfl | (simp [errW_none, errW_some] <;> rfl) | (simp [*, errW_none, errW_some] <;> rfl), by first | exact Kd.R_nil _ _ _ _ _ | exact Kd.N_nil _ _ _ _ _ | exact Kd.V_nil _ _ _ _ _ | exact Kd.Q_nil _ _ _ _ _ | exact Kd.S_nil _ _ _ _ _, by repeat (first | (with_reducible first | exact HB.out | apply below_alloc | apply pw_below_drewN | apply below_drew1 | refine below_set ?_ GE128.out) | exact HB.out)⟩
        · rw [if_neg c11] at H
          have c11b0 : decide ((wrap64 ((l0.length : Int) - 8)) < (wrap64 (t130))) = false := decide_eq_false c11
          clear c11
          by_cases c15 : 8 ≤ (wrap64 (8 + (wrap64 (t130))))
          · rw [if_pos c15] at H
            have c15b0 := eq_true c15
            have c15b1 : decide (8 ≤ (wrap64 (8 + (wrap64 (t130))))) = true := decide_eq_true c15
            by_cases c16 : (wrap64 (8 + (wrap64 (t130)))) ≤ (l0.length : Int)
            · rw [if_pos c16] at H
              have c16b0 := eq_true c16
              have c16b1 : decide ((wrap64 (8 + (wrap64 (t130)))) ≤ (l0.length : Int)) = true := decide_eq_true c16
              replace H := Option.bind_eq_some_iff.mp H
              obtain ⟨t132, A170, H⟩ := H
              replace H : (if 4 ≤ 8 then (if 8 ≤ (l0.length : Int) then ((journal_get.f k ((l0.take 8).drop 4)).bind fun t134 => (if (IntKind.u64.wrap (t132)) = t134 then (if (wrap64 (t130)) < 2 then (journal_record.j0 k (wrap64 (t130)) ((l0.take ((wrap64 (8 + (wrap64 (t130)))) : Int).toNat).drop 8) true) else (if 2 ≤ (((l0.take ((wrap64 (8 + (wrap64 (t130)))) : Int).toNat).drop 8).length : Int) then ((journal_get.f k (((l0.take ((wrap64 (8 + (wrap64 (t130)))) : Int).toNat).drop 8).take 2)).bind fun t136 => (journal_record.j0 k (wrap64 (t130)) ((l0.take ((wrap64 (8 + (wrap64 (t130)))) : Int).toNat).drop 8) (decide ((wrap64 (t130)) < (wrap64 (2 + (wrap64 (8 * (wrap64 (t136)))))))))) else (none))) else (some (([] : List Int), (⟨#[]⟩ : ByteArray), 0, 11)))) else (none)) else (none)) = some (r1, r2, r3, r4) := H
              have A17 := Aside0.mk A170
              clear A170
              by_cases c18 : 4 ≤ 8
              · rw [if_pos c18] at H
                have c18b0 := eq_true c18
                have c18b1 : decide (4 ≤ 8) = true := decide_eq_true c18
                clear c18
                by_cases c19 : 8 ≤ (l0.length : Int)
                · rw [if_pos c19] at H
                  have c19b0 := eq_true c19
                  have c19b1 : decide (8 ≤ (l0.length : Int)) = true := decide_eq_true c19
                  clear c19
                  replace H := Option.bind_eq_some_iff.mp H
                  obtain ⟨t134, A200, H⟩ := H
                  replace H : (if (IntKind.u64.wrap (t132)) = t134 then (if (wrap64 (t130)) < 2 then (journal_record.j0 k (wrap64 (t130)) ((l0.take ((wrap64 (8 + (wrap64 (t130)))) : Int).toNat).drop 8) true) else (if 2 ≤ (((l0.take ((wrap64 (8 + (wrap64 (t130)))) : Int).toNat).drop 8).length : Int) then ((journal_get.f k (((l0.take ((wrap64 (8 + (wrap64 (t130)))) : Int).toNat).drop 8).take 2)).bind fun t136 => (journal_record.j0 k (wrap64 (t130)) ((l0.take ((wrap64 (8 + (wrap64 (t130)))) : Int).toNat).drop 8) (decide ((wrap64 (t130)) < (wrap64 (2 + (wrap64 (8 * (wrap64 (t136)))))))))) else (none))) else (some (([] : List Int), (⟨#[]⟩ : ByteArray), 0, 11))) = some (r1, r2, r3, r4) := H
                  have A20 := Aside0.mk A200
                  clear A200
                  by_cases c21 : (IntKind.u64.wrap (t132)) = t134
                  · rw [if_pos c21] at H
                    have c21b0 : ((IntKind.u64.wrap (t132)) == t134) = true := beq_iff_eq.mpr c21
                    have c21b1 : ((IntKind.u64.wrap (t132)) != t134) = false := bne_eq_false_iff_eq.mpr c21
                    clear c21
                    have HC22 := Aside0.mk H
                    clear H
                    go_enter Try.func47, Try.ntmps47
                    try go_wp2_with (first | ((with_reducible refine gate_dst (N := 2) rfl ?_); refine box_event ?hg (N := 2) ?hd (cs := #[.slice none 0 0, .string (⟨#[]⟩ : ByteArray)]) (t := 88) ?hr ?_; (case hd => rfl); (case hg => rfl); (case hr => first | (go_simp; done) | (go_simp; rfl)); intro gb128 hg w23 hbox hb; have n0_ := Aside0.mk (below_step (by repeat (first | (with_reducible first | exact HB.out | apply below_alloc | apply pw_below_drewN | apply below_drew1) | exact HB.out)) hb); have n1_ := Aside0.mk (hbox); have n2_ := Aside0.mk ((by rw [hg]; exact (below_size (by repeat (first | (with_reducible first | exact HB.out | apply below_alloc | apply pw_below_drewN | apply below_drew1) | exact HB.out))) : w.heap.size ≤ gb128)); have n3_ := Aside0.mk ((by rw [hg]; exact (below_size (by repeat (first | (with_reducible first | exact HB.out | apply below_alloc | apply pw_below_drewN | apply below_drew1) | exact HB.out))) : w.heap.size ≤ gb128)); clear HB; have HB := n0_; have BK128 := n1_; have GW128 := n2_; have GE128 := n3_; clear n0_ n1_ n2_ n3_; clear hb hbox hg; obtain ⟨i024, hi024, _, hsz24, _⟩ := info_parts info5; obtain ⟨hcut24, hA24, hC24⟩ := print_take_of (P := Try.prog) (Value.int .u8) 0 22 5 .i64 Try.underlying22 hi024 hsz24 A0 c0 l0 4 (by omega) (of_decide_eq_true (by first | (with_reducible assumption) | assumption)) HC0.out; have HR129 := Aside0.mk (Kd.C_of_reads (h1 := fun _ => rfl) (hA24 _ (Kd.reads_of_C HR0.out))); have HC129 := Aside0.mk hC24; have hcutb24 := hcut24; clear hA24 hC24 hi024 hsz24; have SL129 := Aside0.mk (show (l0.take 4).length = 4 from (by rw [List.length_take]; have h_ : (4 : Int) ≤ (l0.length : Int) := of_decide_eq_true (by first | (with_reducible assumption) | assumption); omega))) | ((with_reducible refine gate_callee (f := 64) rfl ?_); refine goesL_ (some 16) rfl rfl Try.func64 (by kernel_rfl) rfl #[.slice A0 (l0.take 4).length c0] rfl (by (try simp only [List.map_toArray, List.map_cons, List.map_nil]); first | done | (rw [show (l0.take 4).length = 4 from SL129.out] <;> rfl) | rfl | (simp only [List.length_drop, List.length_take]; rfl) | (exact congrArg (fun n_ : Nat => (#[Value.slice _ n_ _] : Array Value)) (by simp only [List.length_take, List.length_drop]; omega))) ?_; (with_reducible refine (journal_get.calls k _ _ (l0.take 4) t130 _ ?side1 ?side2 A6.out).mono ?_); (case side1 => repeat (first | exact (Kd.C_below HR129.out HB.out) | (with_reducible refine Kd.C_alloc ?_ _) | (with_reducible refine Kd.C_drewN ?_ _) | (with_reducible refine Kd.C_drew ?_))); (case side2 => exact HC129.out); rintro e w' ⟨rfl, ⟨nd, rfl⟩⟩; refine ⟨_, rfl, ?_⟩; obtain ⟨i025, hi025, _, hsz25, _⟩ := info_parts info5; obtain ⟨A25, hcut25, hA25, hC25⟩ := print_mid_of (P := Try.prog) (Value.int .u8) 0 22 5 .i64 .i64 Try.underlying22 hi025 hsz25 A0 c0 l0 8 (wrap64 (8 + (wrap64 (t130)))) (by omega) (by first | omega | exact of_decide_eq_true (by first | (with_reducible assumption) | assumption)) (of_decide_eq_true (by first | (with_reducible assumption) | assumption)) HC0.out; have HR131 := Aside0.mk (Kd.C_of_reads (h1 := fun _ => rfl) (hA25 _ (Kd.reads_of_C HR0.out))); have HC131 := Aside0.mk hC25; have hcutb25 := hcut25; clear hA25 hC25 hi025 hsz25; have SL131 := Aside0.mk (show ((l0.take ((wrap64 (8 + (wrap64 (t130)))) : Int).toNat).drop 8).length = ((wrap64 (8 + (wrap64 (t130)))).toNat - 8) from (by rw [List.length_drop, List.length_take]; have h_ : ((wrap64 (8 + (wrap64 (t130)))) : Int) ≤ (l0.length : Int) := of_decide_eq_true (by first | (with_reducible assumption) | assumption); omega))))
                    (try (rw [drewN_self w23]; generalize hq_ : World.drewN w23 _ = w23; have n0_ : Aside0 (w23.heap[gb128]? = some (.cells #[.slice none 0 0, .string (⟨#[]⟩ : ByteArray)] 88 (0, 0))) := ⟨by rw [← hq_]; exact (by (with_reducible repeat (first | refine blk_drewN ?_ _ | refine blk_drew ?_ | refine blk_alloc ?_ _)); exact BK128.out)⟩; have n1_ : Aside0 (Below w.heap.size w w23) := ⟨by rw [← hq_]; exact (by repeat (first | (with_reducible first | exact HB.out | apply below_alloc | apply pw_below_drewN | apply below_drew1 | refine below_set ?_ GE128.out) | exact HB.out))⟩; clear BK128 HB hq_; have BK128 := n0_; have HB := n1_; clear n0_ n1_))
                    have n0_ := Aside0.mk (blk_drew BK128.out)
                    have n1_ := Aside0.mk (below_drew1 HB.out)
                    clear BK128
                    clear HB
                    have BK128 := n0_
                    have HB := n1_
                    clear n0_ n1_
                    obtain ⟨i027, hi027, _, hsz27, _⟩ := info_parts info5
                    obtain ⟨A27, hcut27, hA27, hC27⟩ := print_mid_of (P := Try.prog) (Value.int .u8) 0 22 5 .i64 .i64 Try.underlying22 hi027 hsz27 A0 c0 l0 4 8 (by omega) (by first | omega | exact of_decide_eq_true (by first | (with_reducible assumption) | assumption)) (of_decide_eq_true (by first | (with_reducible assumption) | assumption)) HC0.out
                    have HR133 := Aside0.mk (Kd.C_of_reads (h1 := fun _ => rfl) (hA27 _ (Kd.reads_of_C HR0.out)))
                    have HC133 := Aside0.mk hC27
                    have hcutb27 := hcut27
                    clear hA27 hC27 hi027 hsz27
                    have SL133 := Aside0.mk (show ((l0.take 8).drop 4).length = (8 - 4) from (by rw [List.length_drop, List.length_take]; have h_ : (8 : Int) ≤ (l0.length : Int) := of_decide_eq_true (by first | (with_reducible assumption) | assumption); omega))
                    refine start_ (n := 7) (S := fun w' => True) (ds := []) #[false, false, false, false, false, false, false] (by kernel_rfl) rfl rfl trivial (fun hHeld => ?_)
                    generalize w23.drew = w26 at BK128 HB HR133 hHeld ⊢
                    refine pure_ (i := 0) (N := some 33) (v := ?_) (a' := ?_) #[true, false, false, false, false, false, false] rfl rfl (by kernel_rfl) (fun _ _ _ h => h) (Or.inl ⟨by rfl, ?_⟩) ?_ ?_
                    rotate_left
                    · intro w'
                      go_simp
                      with_reducible rfl
                    rotate_left
                    · simp only [Act.put, List.setIfInBounds_toArray, List.set_cons_zero, List.set_cons_succ, i64_w, i32_w]
                      rfl
                    refine pure_ (i := 3) (N := some 36) (v := ?_) (a' := ?_) #[true, false, false, true, false, false, false] rfl rfl (by kernel_rfl) (fun _ _ _ h => h) (Or.inl ⟨by rfl, ?_⟩) ?_ ?_
                    rotate_left
                    · intro w'
                      go_simp
                      with_reducible rfl
                    rotate_left
                    · simp only [Act.put, List.setIfInBounds_toArray, List.set_cons_zero, List.set_cons_succ, i64_w, i32_w]
                      rfl
                    refine pure_ (i := 4) (N := some 37) (v := ?_) (a' := ?_) #[true, false, false, true, true, false, false] rfl rfl (by kernel_rfl) (fun _ _ _ h => h) (Or.inl ⟨by rfl, ?_⟩) ?_ ?_
                    rotate_left
                    · intro w'
                      go_simp
                      with_reducible rfl
                    rotate_left
                    · simp only [Act.put, List.setIfInBounds_toArray, List.set_cons_zero, List.set_cons_succ, i64_w, i32_w]
                      rfl
                    refine one_ (i := 1) (N := some 34) #[true, true, false, true, true, false, false] rfl rfl (by kernel_rfl) (by decide) (fun K hK => ?_)
                    refine goes_ Try.func24 (by kernel_rfl) rfl #[.slice A25 ((l0.take ((wrap64 (8 + (wrap64 (t130)))) : Int).toNat).drop 8).length (c0 - 8)] (by rfl) rfl rfl (by (try simp only [List.map_toArray, List.map_cons, List.map_nil]); first | done | (rw [show ((l0.take ((wrap64 (8 + (wrap64 (t130)))) : Int).toNat).drop 8).length = ((wrap64 (8 + (wrap64 (t130)))).toNat - 8) from SL131.out] <;> rfl) | rfl | (simp only [List.length_drop, List.length_take]; rfl) | (exact congrArg (fun n_ : Nat => (#[Value.slice _ n_ _] : Array Value)) (by simp only [List.length_take, List.length_drop]; omega))) ?_
                    with_reducible refine (journal_Sum.calls k _ _ ((l0.take ((wrap64 (8 + (wrap64 (t130)))) : Int).toNat).drop 8) t132 _ ?side1 ?side2 A17.out).mono ?_
                    (case side1 => repeat (first | exact (Kd.C_below HR131.out HB.out) | (with_reducible refine Kd.C_alloc ?_ _) | (with_reducible refine Kd.C_drewN ?_ _) | (with_reducible refine Kd.C_drew ?_)))
                    (case side2 => exact HC131.out)
                    rintro e w' ⟨rfl, ⟨nd, rfl⟩⟩
                    refine ⟨_, rfl, ?_⟩
                    refine hK.out _ _ trivial (fun hHeld => ?_)
                    clear hK K
                    refine norm_ (a' := ?_) ?_ ?_
                    rotate_left
                    · show Act.put _ (some 34) _ = _
                      simp only [Act.put, List.setIfInBounds_toArray, List.set_cons_zero, List.set_cons_succ, i64_w, i32_w]
                      rfl
                    refine pure_ (i := 2) (N := some 35) (v := ?_) (a' := ?_) #[true, true, true, true, true, false, false] rfl rfl (by kernel_rfl) (fun _ _ _ h => h) (Or.inl ⟨by rfl, ?_⟩) ?_ ?_
                    rotate_left
                    · intro w'
                      go_simp
                      with_reducible rfl
                    rotate_left
                    · simp only [Act.put, List.setIfInBounds_toArray, List.set_cons_zero, List.set_cons_succ, i64_w, i32_w]
                      rfl
                    refine one_ (i := 5) (N := some 38) #[true, true, true, true, true, true, false] rfl rfl (by kernel_rfl) (by decide) (fun K hK => ?_)
                    refine goes_ Try.func64 (by kernel_rfl) rfl #[.slice A27 ((l0.take 8).drop 4).length (c0 - 4)] (by rfl) rfl rfl (by (try simp only [List.map_toArray, List.map_cons, List.map_nil]); first | done | (rw [show ((l0.take 8).drop 4).length = (8 - 4) from SL133.out] <;> rfl) | rfl | (simp only [List.length_drop, List.length_take]; rfl) | (exact congrArg (fun n_ : Nat => (#[Value.slice _ n_ _] : Array Value)) (by simp only [List.length_take, List.length_drop]; omega))) ?_
                    with_reducible refine (journal_get.calls k _ _ ((l0.take 8).drop 4) t134 _ ?side1 ?side2 A20.out).mono ?_
                    (case side1 => repeat (first | exact (Kd.C_below HR133.out (by repeat (first | (with_reducible first | exact HB.out | apply below_alloc | apply pw_below_drewN | apply below_drew1 | refine below_set ?_ GE128.out) | exact HB.out))) | (with_reducible refine Kd.C_alloc ?_ _) | (with_reducible refine Kd.C_drewN ?_ _) | (with_reducible refine Kd.C_drew ?_)))
                    (case side2 => exact HC133.out)
                    rintro e w' ⟨rfl, ⟨nd, rfl⟩⟩
                    refine ⟨_, rfl, ?_⟩
                    refine hK.out _ _ trivial (fun hHeld => ?_)
                    clear hK K
                    refine norm_ (a' := ?_) ?_ ?_
                    rotate_left
                    · show Act.put _ (some 38) _ = _
                      simp only [Act.put, List.setIfInBounds_toArray, List.set_cons_zero, List.set_cons_succ, i64_w, i32_w]
                      rfl
                    refine pure_ (i := 6) (N := some 39) (v := ?_) (a' := ?_) #[true, true, true, true, true, true, true] rfl rfl (by kernel_rfl) (fun _ _ _ h => h) (Or.inl ⟨by rfl, ?_⟩) ?_ ?_
                    rotate_left
                    · intro w'
                      go_simp
                      with_reducible rfl
                    rotate_left
                    · simp only [Act.put, List.setIfInBounds_toArray, List.set_cons_zero, List.set_cons_succ, i64_w, i32_w]
                      rfl
                    refine done_ (by kernel_rfl) ?_
                    go_upto_region 11 with (fail)
                    go_cut [52] (fun v52 wc => ∃ (kq : Nat) (x52_21 : Bool), v52 = .bool x52_21 ∧ Aside0 (journal_record.j0 kq (wrap64 (t130)) ((l0.take ((wrap64 (8 + (wrap64 (t130)))) : Int).toNat).drop 8) x52_21 = some (r1, r2, r3, r4)) ∧ Aside0 (kq ≤ k) ∧ Aside0 (wc.heap[gb128]? = some (.cells #[(.slice none 0 0), .string (⟨#[]⟩ : ByteArray)] 88 (0, 0))) ∧ Aside0 (Below w.heap.size w wc))
                    case first =>
                      have H := HC22.out
                      clear HC22
                      by_cases c28 : (wrap64 (t130)) < 2
                      · rw [if_pos c28] at H
                        have c28b0 : decide ((wrap64 (t130)) < 2) = true := decide_eq_true c28
                        clear c28
                        (first | rw [c28b0] | (simp only [i64_w, i32_w]; rw [c28b0]) | skip)
                        have H' := Aside0.mk H
                        clear H
                        go_wp2
                        go_meet
                        case rel => exact ⟨_, (true), (by first | rfl | (simp; done) | (simp [*]; done)), H', ⟨by first | omega | exact Nat.le_refl _⟩, ⟨by (with_reducible repeat (first | refine blk_drewN ?_ _ | refine blk_drew ?_ | refine blk_alloc ?_ _)); exact BK128.out⟩, ⟨by repeat (first | (with_reducible first | exact HB.out | apply below_alloc | apply pw_below_drewN | apply below_drew1 | refine below_set ?_ GE128.out) | exact HB.out)⟩⟩
                      · rw [if_neg c28] at H
                        have c28b0 : decide ((wrap64 (t130)) < 2) = false := decide_eq_false c28
                        clear c28
                        (first | rw [c28b0] | (simp only [i64_w, i32_w]; rw [c28b0]) | skip)
                        by_cases c29 : 2 ≤ (((l0.take ((wrap64 (8 + (wrap64 (t130)))) : Int).toNat).drop 8).length : Int)
                        · rw [if_pos c29] at H
                          have c29b0 := eq_true c29
                          have c29b1 : decide (2 ≤ (((l0.take ((wrap64 (8 + (wrap64 (t130)))) : Int).toNat).drop 8).length : Int)) = true := decide_eq_true c29
                          replace H := Option.bind_eq_some_iff.mp H
                          obtain ⟨t136, A300, H⟩ := H
                          replace H : (journal_record.j0 k (wrap64 (t130)) ((l0.take ((wrap64 (8 + (wrap64 (t130)))) : Int).toNat).drop 8) (decide ((wrap64 (t130)) < (wrap64 (2 + (wrap64 (8 * (wrap64 (t136))))))))) = some (r1, r2, r3, r4) := H
                          have A30 := Aside0.mk A300
                          clear A300
                          have H' := Aside0.mk H
                          clear H
                          obtain ⟨i031, hi031, _, hsz31, _⟩ := info_parts info5
                          obtain ⟨hcut31, hA31, hC31⟩ := print_take_of (P := Try.prog) (Value.int .u8) 0 22 5 .i64 Try.underlying22 hi031 hsz31 A25 (c0 - 8) ((l0.take ((wrap64 (8 + (wrap64 (t130)))) : Int).toNat).drop 8) 2 (by omega) (of_decide_eq_true (by first | (with_reducible assumption) | assumption)) HC131.out
                          have HR135 := Aside0.mk (Kd.C_of_reads (h1 := fun _ => rfl) (hA31 _ (Kd.reads_of_C HR131.out)))
                          have HC135 := Aside0.mk hC31
                          have hcutb31 := hcut31
                          (first | rw [show ((l0.take ((wrap64 (8 + (wrap64 (t130)))) : Int).toNat).drop 8).length = ((wrap64 (8 + (wrap64 (t130)))).toNat - 8) from SL131.out] at hcutb31 | skip)
                          clear hA31 hC31 hi031 hsz31
                          have SL135 := Aside0.mk (show (((l0.take ((wrap64 (8 + (wrap64 (t130)))) : Int).toNat).drop 8).take 2).length = 2 from (by rw [List.length_take]; have h_ : (2 : Int) ≤ (((l0.take ((wrap64 (8 + (wrap64 (t130)))) : Int).toNat).drop 8).length : Int) := of_decide_eq_true (by first | (with_reducible assumption) | assumption); omega))
                          go_wp2_with (first | (go_at_call 64; refine calls_of_args (args' := #[.slice A25 (((l0.take ((wrap64 (8 + (wrap64 (t130)))) : Int).toNat).drop 8).take 2).length (c0 - 8)]) (by first | (rw [show (((l0.take ((wrap64 (8 + (wrap64 (t130)))) : Int).toNat).drop 8).take 2).length = 2 from SL135.out] <;> rfl) | (exact congrArg (fun n_ : Nat => (#[Value.slice _ n_ _] : Array Value)) (by simp only [List.length_take, List.length_drop]; omega)) |  rfl) ?_; (with_reducible refine (journal_get.calls k _ _ (((l0.take ((wrap64 (8 + (wrap64 (t130)))) : Int).toNat).drop 8).take 2) t136 _ ?side1 ?side2 A30.out).mono ?_); (case side1 => repeat (first | exact (Kd.C_below HR135.out HB.out) | (with_reducible refine Kd.C_alloc ?_ _) | (with_reducible refine Kd.C_drewN ?_ _) | (with_reducible refine Kd.C_drew ?_))); (case side2 => exact HC135.out); rintro e w' ⟨rfl, ⟨nd, rfl⟩⟩))
                          go_meet
                          case rel => exact ⟨_, (decide ((wrap64 (t130)) < (wrap64 (2 + (wrap64 (8 * (wrap64 (t136)))))))), (by first | rfl | (simp; done) | (simp [*]; done)), H', ⟨by first | omega | exact Nat.le_refl _⟩, ⟨by (with_reducible repeat (first | refine blk_drewN ?_ _ | refine blk_drew ?_ | refine blk_alloc ?_ _)); exact BK128.out⟩, ⟨by repeat (first | (with_reducible first | exact HB.out | apply below_alloc | apply pw_below_drewN | apply below_drew1 | refine below_set ?_ GE128.out) | exact HB.out)⟩⟩
                        · rw [if_neg c29] at H
                          exact absurd H (by simp)
                    case rest =>
                      clear HC22
                      try clear c1
                      try clear c2
                      try clear c2b0
                      try clear c2b1
                      try clear p2
                      try clear c4
                      try clear c5
                      try clear c5b0
                      try clear c5b1
                      try clear c6
                      try clear p6
                      try clear c7
                      try clear c7b0
                      try clear c11
                      try clear c11b0
                      try clear c15
                      try clear c15b0
                      try clear c15b1
                      try clear c16
                      try clear c16b0
                      try clear c16b1
                      try clear c18
                      try clear c18b0
                      try clear c18b1
                      try clear c19
                      try clear c19b0
                      try clear c19b1
                      try clear c21
                      try clear c21b0
                      try clear c21b1
                      try clear c24
                      try clear c28
                      try clear c28b0
                      try clear c29
                      try clear c29b0
                      try clear c29b1
                      try clear hcz10_0
                      try clear hcz10_1
                      try clear hcz14_0
                      try clear hcz14_1
                      try clear hcz4_0
                      try clear hcz4_1
                      try clear hfz10_0
                      try clear hfz10_1
                      try clear hfz14_0
                      try clear hfz14_1
                      try clear hfz4_0
                      try clear hfz4_1
                      obtain ⟨kq, x52_21, rfl, HA, HJ21, BK128, HB⟩ := hcut
                      cases kq with
                      | zero => exact absurd HA.out (by simp [journal_record.j0])
                      | succ kj21 =>
                        have H := HA.out
                        clear HA
                        simp only [journal_record.j0] at H
                        by_cases c32 : x52_21 = true
                        · subst c32
                          have H1 : (some (([] : List Int), (⟨#[]⟩ : ByteArray), 0, 3)) = some (r1, r2, r3, r4) := by rw [if_pos rfl] at H; exact H
                          clear H
                          have H := H1
                          clear H1
                          simp only [Option.some.injEq, Prod.mk.injEq] at H
                          obtain ⟨rfl, rfl, rfl, rfl⟩ := H
                          have hcz33_0 : wc.cell? ⟨gb128, 0, none⟩ = some (.slice none 0 0) := (blk_cell BK128.out 0).trans rfl
                          have hcz33_1 : wc.cell? ⟨gb128, 1, none⟩ = some (.string (⟨#[]⟩ : ByteArray)) := (blk_cell BK128.out 1).trans rfl
                          have hfz33_0 := blk_frozen BK128.out 0
                          have hfz33_1 := blk_frozen BK128.out 1
                          go_wp2
                          refine bodyPost_ret (results_ctt rfl _ _ gb128 88 #[.slice none 0 0, .string (⟨#[]⟩ : ByteArray)] (0, 0) _ rfl (by (with_reducible repeat (first | refine blk_drewN ?_ _ | refine blk_drew ?_ | refine blk_alloc ?_ _)); refine blk_put (cs := #[.slice none 0 0, .string (⟨#[]⟩ : ByteArray)]) ?_ 1 _ rfl; (with_reducible repeat (first | refine blk_drewN ?_ _ | refine blk_drew ?_ | refine blk_alloc ?_ _)); refine blk_put (cs := #[.slice none 0 0, .string (⟨#[]⟩ : ByteArray)]) ?_ 0 _ rfl; (with_reducible repeat (first | refine blk_drewN ?_ _ | refine blk_drew ?_ | refine blk_alloc ?_ _)); exact BK128.out) Try.underlying88 rfl (by kernel_rfl)) rfl ?_
                          exact ⟨_, by first | rfl | (simp [errW_none, errW_some] <;> rfl) | (simp [*, errW_none, errW_some] <;> rfl), by first | exact Kd.R_nil _ _ _ _ _ | exact Kd.N_nil _ _ _ _ _ | exact Kd.V_nil _ _ _ _ _ | exact Kd.Q_nil _ _ _ _ _ | exact Kd.S_nil _ _ _ _ _, by repeat (first | (with_reducible first | exact HB.out | apply below_alloc | apply pw_below_drewN | apply below_drew1 | refine below_set ?_ GE128.out) | exact HB.out)⟩
                        · replace c32 := Bool.eq_false_iff.mpr c32
                          subst c32
                          have H1 : (if 2 ≤ (((l0.take ((wrap64 (8 + (wrap64 (t130)))) : Int).toNat).drop 8).length : Int) then ((journal_get.f kj21 (((l0.take ((wrap64 (8 + (wrap64 (t130)))) : Int).toNat).drop 8).take 2)).bind fun t139 => (journal_record.l0 kj21 (wrap64 (t130)) ((l0.take ((wrap64 (8 + (wrap64 (t130)))) : Int).toNat).drop 8) (wrap64 (t139)) (wrap64 (t139)) 0 ([] : List Int) (⟨#[]⟩ : ByteArray))) else (none)) = some (r1, r2, r3, r4) := by rw [if_neg (show ¬ (false = true) by decide)] at H; exact H
                          clear H
                          have H := H1
                          clear H1
                          by_cases c34 : 2 ≤ (((l0.take ((wrap64 (8 + (wrap64 (t130)))) : Int).toNat).drop 8).length : Int)
                          · rw [if_pos c34] at H
                            have c34b0 := eq_true c34
                            have c34b1 : decide (2 ≤ (((l0.take ((wrap64 (8 + (wrap64 (t130)))) : Int).toNat).drop 8).length : Int)) = true := decide_eq_true c34
                            replace H := Option.bind_eq_some_iff.mp H
                            obtain ⟨t139, A350, H⟩ := H
                            replace H : (journal_record.l0 kj21 (wrap64 (t130)) ((l0.take ((wrap64 (8 + (wrap64 (t130)))) : Int).toNat).drop 8) (wrap64 (t139)) (wrap64 (t139)) 0 ([] : List Int) (⟨#[]⟩ : ByteArray)) = some (r1, r2, r3, r4) := H
                            have A35 := Aside0.mk A350
                            clear A350
                            have H' := Aside0.mk H
                            clear H
                            go_wp2_with (first | ((with_reducible refine gate_dst (N := 7) rfl ?_); refine box_event ?hg (N := 7) ?hd (cs := #[.slice none 0 0, .string (⟨#[]⟩ : ByteArray)]) (t := 88) ?hr ?_; (case hd => rfl); (case hg => rfl); (case hr => first | (go_simp; done) | (go_simp; rfl)); intro gb137 hg w36 hbox hb; have n0_ := Aside0.mk (blk_below (g := gb128) (o := .cells #[.slice none 0 0, .string (⟨#[]⟩ : ByteArray)] 88 (0, 0)) (by (with_reducible repeat (first | refine blk_drewN ?_ _ | refine blk_drew ?_ | refine blk_alloc ?_ _)); exact BK128.out) hb); have n1_ := Aside0.mk (below_step (by repeat (first | (with_reducible first | exact HB.out | apply below_alloc | apply pw_below_drewN | apply below_drew1 | refine below_set ?_ GE128.out) | exact HB.out)) hb); have n2_ := Aside0.mk (hbox); have n3_ := Aside0.mk ((by rw [hg]; exact (below_size (by repeat (first | (with_reducible first | exact HB.out | apply below_alloc | apply pw_below_drewN | apply below_drew1 | refine below_set ?_ GE128.out) | exact HB.out))) : w.heap.size ≤ gb137)); have n4_ := Aside0.mk ((by rw [hg]; exact (below_size (by repeat (first | (with_reducible first | exact HB.out | apply below_alloc | apply pw_below_drewN | apply below_drew1 | refine below_set ?_ GE128.out) | exact HB.out))) : w.heap.size ≤ gb137)); have n5_ := Aside0.mk ((by rw [hg]; exact Nat.ne_of_lt (blk_lt (g := gb128) (o := .cells #[.slice none 0 0, .string (⟨#[]⟩ : ByteArray)] 88 (0, 0)) (by (with_reducible repeat (first | refine blk_drewN ?_ _ | refine blk_drew ?_ | refine blk_alloc ?_ _)); exact BK128.out)) : gb128 ≠ gb137)); have n6_ := Aside0.mk ((by rw [hg]; exact Nat.ne_of_gt (blk_lt (g := gb128) (o := .cells #[.slice none 0 0, .string (⟨#[]⟩ : ByteArray)] 88 (0, 0)) (by (with_reducible repeat (first | refine blk_drewN ?_ _ | refine blk_drew ?_ | refine blk_alloc ?_ _)); exact BK128.out)) : gb137 ≠ gb128)); clear BK128; clear HB; have BK128 := n0_; have HB := n1_; have BK137 := n2_; have GW137 := n3_; have GE137 := n4_; have NB128_137 := n5_; have NB137_128 := n6_; clear n0_ n1_ n2_ n3_ n4_ n5_ n6_; clear hb hbox hg; obtain ⟨i037, hi037, _, hsz37, _⟩ := info_parts info5; obtain ⟨hcut37, hA37, hC37⟩ := print_take_of (P := Try.prog) (Value.int .u8) 0 22 5 .i64 Try.underlying22 hi037 hsz37 A25 (c0 - 8) ((l0.take ((wrap64 (8 + (wrap64 (t130)))) : Int).toNat).drop 8) 2 (by omega) (of_decide_eq_true (by first | (with_reducible assumption) | assumption)) HC131.out; have HR138 := Aside0.mk (Kd.C_of_reads (h1 := fun _ => rfl) (hA37 _ (Kd.reads_of_C HR131.out))); have HC138 := Aside0.mk hC37; have hcutb37 := hcut37; (first | rw [show ((l0.take ((wrap64 (8 + (wrap64 (t130)))) : Int).toNat).drop 8).length = ((wrap64 (8 + (wrap64 (t130)))).toNat - 8) from SL131.out] at hcutb37 | skip); clear hA37 hC37 hi037 hsz37; have SL138 := Aside0.mk (show (((l0.take ((wrap64 (8 + (wrap64 (t130)))) : Int).toNat).drop 8).take 2).length = 2 from (by rw [List.length_take]; have h_ : (2 : Int) ≤ (((l0.take ((wrap64 (8 + (wrap64 (t130)))) : Int).toNat).drop 8).length : Int) := of_decide_eq_true (by first | (with_reducible assumption) | assumption); omega))) | ((with_reducible refine gate_callee (f := 64) rfl ?_); refine goesL_ (some 56) rfl rfl Try.func64 (by kernel_rfl) rfl #[.slice A25 (((l0.take ((wrap64 (8 + (wrap64 (t130)))) : Int).toNat).drop 8).take 2).length (c0 - 8)] rfl (by (try simp only [List.map_toArray, List.map_cons, List.map_nil]); first | done | (rw [show (((l0.take ((wrap64 (8 + (wrap64 (t130)))) : Int).toNat).drop 8).take 2).length = 2 from SL138.out] <;> rfl) | rfl | (simp only [List.length_drop, List.length_take]; rfl) | (exact congrArg (fun n_ : Nat => (#[Value.slice _ n_ _] : Array Value)) (by simp only [List.length_take, List.length_drop]; omega))) ?_; (with_reducible refine (journal_get.calls kj21 _ _ (((l0.take ((wrap64 (8 + (wrap64 (t130)))) : Int).toNat).drop 8).take 2) t139 _ ?side1 ?side2 A35.out).mono ?_); (case side1 => repeat (first | exact (Kd.C_below HR138.out HB.out) | (with_reducible refine Kd.C_alloc ?_ _) | (with_reducible refine Kd.C_drewN ?_ _) | (with_reducible refine Kd.C_drew ?_))); (case side2 => exact HC138.out); rintro e w' ⟨rfl, ⟨nd, rfl⟩⟩; refine ⟨_, rfl, ?_⟩))
                            go_loopg [59] kj21 (fun kq v59 w' => ∃ (x59_2 : Int) (x138000_2 : List Int) (u138000 : Value), v59 = .int .i64 x59_2 ∧ Aside0 (journal_record.l0 kq (wrap64 (t130)) ((l0.take ((wrap64 (8 + (wrap64 (t130)))) : Int).toNat).drop 8) (wrap64 (t139)) (wrap64 (t139)) x59_2 x138000_2 (⟨#[]⟩ : ByteArray) = some (r1, r2, r3, r4)) ∧ Aside0 (kq ≤ kj21) ∧ Aside0 (Kd.R (Kd.int .i64) 3 w' w.heap.size (fun _ => True) u138000 x138000_2) ∧ Aside0 (w'.heap[gb128]? = some (.cells #[(.slice none 0 0), .string (⟨#[]⟩ : ByteArray)] 88 (0, 0))) ∧ Aside0 (w'.heap[gb137]? = some (.cells #[u138000, .string (⟨#[]⟩ : ByteArray)] 88 (0, 0))) ∧ Aside0 (Below w.heap.size w w'))
                            case atStart => exact ⟨(0), (([] : List Int)), (.slice none 0 0), (by first | rfl | (simp; done) | (simp [*]; done)), H', ⟨Nat.le_refl _⟩, ⟨by first | exact Kd.R_nil _ _ _ _ _ | exact Kd.N_nil _ _ _ _ _ | exact Kd.V_nil _ _ _ _ _ | exact Kd.Q_nil _ _ _ _ _ | exact Kd.S_nil _ _ _ _ _⟩, ⟨by (with_reducible repeat (first | refine blk_drewN ?_ _ | refine blk_drew ?_ | refine blk_alloc ?_ _)); exact BK128.out⟩, ⟨by (with_reducible repeat (first | refine blk_drewN ?_ _ | refine blk_drew ?_ | refine blk_alloc ?_ _)); exact BK137.out⟩, ⟨by repeat (first | (with_reducible first | exact HB.out | apply below_alloc | apply pw_below_drewN | apply below_drew1 | refine below_set ?_ GE128.out | refine below_set ?_ GE137.out) | exact HB.out)⟩⟩
                            case round =>
                              clear H'
                              try clear c1
                              try clear c2
                              try clear c2b0
                              try clear c2b1
                              try clear p2
                              try clear c3
                              try clear c4
                              try clear c5
                              try clear c5b0
                              try clear c5b1
                              try clear c6
                              try clear p6
                              try clear c7
                              try clear c7b0
                              try clear c11
                              try clear c11b0
                              try clear c15
                              try clear c15b0
                              try clear c15b1
                              try clear c16
                              try clear c16b0
                              try clear c16b1
                              try clear c18
                              try clear c18b0
                              try clear c18b1
                              try clear c19
                              try clear c19b0
                              try clear c19b1
                              try clear c21
                              try clear c21b0
                              try clear c21b1
                              try clear c24
                              try clear c28
                              try clear c28b0
                              try clear c29
                              try clear c29b0
                              try clear c29b1
                              try clear c32
                              try clear c34
                              try clear c34b0
                              try clear c34b1
                              try clear hcz10_0
                              try clear hcz10_1
                              try clear hcz14_0
                              try clear hcz14_1
                              try clear hcz33_0
                              try clear hcz33_1
                              try clear hcz4_0
                              try clear hcz4_1
                              try clear hfz10_0
                              try clear hfz10_1
                              try clear hfz14_0
                              try clear hfz14_1
                              try clear hfz33_0
                              try clear hfz33_1
                              try clear hfz4_0
                              try clear hfz4_1
                              try clear p2
                              try clear p6
                              obtain ⟨x59_2, x138000_2, u138000, rfl, HA, HK2, HO_138000, BK128, BK137, HB⟩ := hrel
                              cases gk with
                              | zero => exact absurd HA.out (by simp [journal_record.l0])
                              | succ k2 =>
                                have H := HA.out
                                clear HA
                                simp only [journal_record.l0] at H
                                by_cases c38 : x59_2 < (wrap64 (t139))
                                · rw [if_pos c38] at H
                                  have c38b0 : decide (x59_2 < (wrap64 (t139))) = true := decide_eq_true c38
                                  clear c38
                                  obtain ⟨ji39, hji39⟩ : ∃ j_ : Int, (wrap64 (2 + (wrap64 (8 * x59_2)))) = j_ := ⟨_, rfl⟩
                                  replace H : (if 0 ≤ (ji39) then (if (ji39) ≤ (wrap64 (10 + (wrap64 (8 * x59_2)))) then (if (wrap64 (10 + (wrap64 (8 * x59_2)))) ≤ (((l0.take ((wrap64 (8 + (wrap64 (t130)))) : Int).toNat).drop 8).length : Int) then ((journal_get.f k2 ((((l0.take ((wrap64 (8 + (wrap64 (t130)))) : Int).toNat).drop 8).take ((wrap64 (10 + (wrap64 (8 * x59_2)))) : Int).toNat).drop ((ji39) : Int).toNat)).bind fun t141 => (if x138000_2.length < 17592186044416 then (journal_record.l0 k2 (wrap64 (t130)) ((l0.take ((wrap64 (8 + (wrap64 (t130)))) : Int).toNat).drop 8) (wrap64 (t139)) (wrap64 (t139)) (wrap64 (x59_2 + 1)) (x138000_2 ++ [wrap64 (t141)]) (⟨#[]⟩ : ByteArray)) else (none))) else (none)) else (none)) else (none)) = some (r1, r2, r3, r4) := by first | (rw [hji39] at H; exact H) | (simp only [hji39] at H ⊢; exact H)
                                  have hji39w : (IntKind.i64.wrap (2 + (wrap64 (8 * x59_2)))) = ji39 := (i64_w _).trans hji39
                                  by_cases c40 : 0 ≤ (ji39)
                                  · rw [if_pos c40] at H
                                    have c40b0 := eq_true c40
                                    have c40b1 : decide (0 ≤ (ji39)) = true := decide_eq_true c40
                                    clear c40
                                    by_cases c41 : (ji39) ≤ (wrap64 (10 + (wrap64 (8 * x59_2))))
                                    · rw [if_pos c41] at H
                                      have c41b0 := eq_true c41
                                      have c41b1 : decide ((ji39) ≤ (wrap64 (10 + (wrap64 (8 * x59_2))))) = true := decide_eq_true c41
                                      by_cases c42 : (wrap64 (10 + (wrap64 (8 * x59_2)))) ≤ (((l0.take ((wrap64 (8 + (wrap64 (t130)))) : Int).toNat).drop 8).length : Int)
                                      · rw [if_pos c42] at H
                                        have c42b0 := eq_true c42
                                        have c42b1 : decide ((wrap64 (10 + (wrap64 (8 * x59_2)))) ≤ (((l0.take ((wrap64 (8 + (wrap64 (t130)))) : Int).toNat).drop 8).length : Int)) = true := decide_eq_true c42
                                        replace H := Option.bind_eq_some_iff.mp H
                                        obtain ⟨t141, A430, H⟩ := H
                                        replace H : (if x138000_2.length < 17592186044416 then (journal_record.l0 k2 (wrap64 (t130)) ((l0.take ((wrap64 (8 + (wrap64 (t130)))) : Int).toNat).drop 8) (wrap64 (t139)) (wrap64 (t139)) (wrap64 (x59_2 + 1)) (x138000_2 ++ [wrap64 (t141)]) (⟨#[]⟩ : ByteArray)) else (none)) = some (r1, r2, r3, r4) := H
                                        have A43 := Aside0.mk A430
                                        clear A430
                                        by_cases c44 : x138000_2.length < 17592186044416
                                        · rw [if_pos c44] at H
                                          have LMc44 := Aside0.mk c44
                                          clear c44
                                          obtain ⟨y142, hy142⟩ : ∃ y_ : List Int, y_ = (x138000_2 ++ [wrap64 (t141)]) := ⟨_, rfl⟩
                                          replace H : (journal_record.l0 k2 (wrap64 (t130)) ((l0.take ((wrap64 (8 + (wrap64 (t130)))) : Int).toNat).drop 8) (wrap64 (t139)) (wrap64 (t139)) (wrap64 (x59_2 + 1)) y142 (⟨#[]⟩ : ByteArray)) = some (r1, r2, r3, r4) := by first | (rw [hy142]; with_reducible exact H) | (have H2_ := (Option.bind_some _ _).symm.trans H; rw [hy142]; with_reducible exact H2_) | (have H2_ := (Option.bind_some _ _).symm.trans H; with_reducible exact H2_) | with_reducible exact H | (rw [hy142]; exact H) | exact H
                                          have Ny142 := Aside0.mk hy142
                                          clear hy142
                                          have H' := Aside0.mk H
                                          clear H
                                          try go_wp2
                                          have n0_ := Aside0.mk (Kd.R_drew HO_138000.out)
                                          have n1_ := Aside0.mk (blk_drew BK128.out)
                                          have n2_ := Aside0.mk (blk_drew BK137.out)
                                          have n3_ := Aside0.mk (below_drew1 HB.out)
                                          clear HO_138000
                                          clear BK128
                                          clear BK137
                                          clear HB
                                          have HO_138000 := n0_
                                          have BK128 := n1_
                                          have BK137 := n2_
                                          have HB := n3_
                                          clear n0_ n1_ n2_ n3_
                                          obtain ⟨i046, hi046, _, hsz46, _⟩ := info_parts info5
                                          obtain ⟨A46, hcut46, hA46, hC46⟩ := print_mid_of (P := Try.prog) (Value.int .u8) 0 22 5 .i64 .i64 Try.underlying22 hi046 hsz46 A25 (c0 - 8) ((l0.take ((wrap64 (8 + (wrap64 (t130)))) : Int).toNat).drop 8) (ji39) (wrap64 (10 + (wrap64 (8 * x59_2)))) (of_decide_eq_true (by first | (with_reducible assumption) | assumption)) (by first | omega | exact of_decide_eq_true (by first | (with_reducible assumption) | assumption)) (of_decide_eq_true (by first | (with_reducible assumption) | assumption)) HC131.out
                                          have HR140 := Aside0.mk (Kd.C_of_reads (h1 := fun _ => rfl) (hA46 _ (Kd.reads_of_C HR131.out)))
                                          have HC140 := Aside0.mk hC46
                                          have hcutb46 := hcut46
                                          (first | rw [show ((l0.take ((wrap64 (8 + (wrap64 (t130)))) : Int).toNat).drop 8).length = ((wrap64 (8 + (wrap64 (t130)))).toNat - 8) from SL131.out] at hcutb46 | skip)
                                          clear hA46 hC46 hi046 hsz46
                                          have SL140 := Aside0.mk (show ((((l0.take ((wrap64 (8 + (wrap64 (t130)))) : Int).toNat).drop 8).take ((wrap64 (10 + (wrap64 (8 * x59_2)))) : Int).toNat).drop ((ji39) : Int).toNat).length = ((wrap64 (10 + (wrap64 (8 * x59_2)))).toNat - (ji39).toNat) from (by rw [List.length_drop, List.length_take]; have h_ : ((wrap64 (10 + (wrap64 (8 * x59_2)))) : Int) ≤ (((l0.take ((wrap64 (8 + (wrap64 (t130)))) : Int).toNat).drop 8).length : Int) := of_decide_eq_true (by first | (with_reducible assumption) | assumption); omega))
                                          refine start_ (n := 16) (S := fun w' => w'.cell? ⟨gb137, 0, none⟩ = some (u138000) ∧ w'.cell? ⟨gb137, 1, none⟩ = some (.string (⟨#[]⟩ : ByteArray))) (ds := [15]) #[false, false, false, false, false, false, false, false, false, false, false, false, false, false, false, false] (by kernel_rfl) rfl rfl ⟨(blk_cell BK137.out 0).trans rfl, (blk_cell BK137.out 1).trans rfl⟩ (fun hHeld => ?_); refine with_tabW journal_record.tab18 journal_record.bits18 (fun HT_ HW_ => ?_)
                                          generalize wr.drew = w45 at HO_138000 BK128 BK137 HB HR140 hHeld ⊢
                                          refine pure_ (i := 0) (N := some 62) (v := ?_) (a' := ?_) #[true, false, false, false, false, false, false, false, false, false, false, false, false, false, false, false] rfl rfl (any_of HT_.out (by kernel_rfl)) (fun _ _ _ h => h) (Or.inl ⟨by rfl, ?_⟩) ?_ ?_
                                          rotate_left
                                          · intro w'
                                            go_simp
                                            with_reducible rfl
                                          rotate_left
                                          · simp only [Act.put, List.setIfInBounds_toArray, List.set_cons_zero, List.set_cons_succ, i64_w, i32_w]
                                            rfl
                                          refine pure_ (i := 2) (N := some 64) (v := ?_) (a' := ?_) #[true, false, true, false, false, false, false, false, false, false, false, false, false, false, false, false] rfl rfl (any_of HT_.out (by kernel_rfl)) (fun _ _ _ h => h) (Or.inl ⟨by rfl, ?_⟩) ?_ ?_
                                          rotate_left
                                          · intro w'
                                            go_simp
                                            with_reducible rfl
                                          rotate_left
                                          · simp only [Act.put, List.setIfInBounds_toArray, List.set_cons_zero, List.set_cons_succ, i64_w, i32_w]
                                            rfl
                                          refine pure_ (i := 3) (N := some 65) (v := ?_) (a' := ?_) #[true, false, true, true, false, false, false, false, false, false, false, false, false, false, false, false] rfl rfl (any_of HT_.out (by kernel_rfl)) (fun _ _ _ h => h) (Or.inl ⟨by rfl, ?_⟩) ?_ ?_
                                          rotate_left
                                          · intro w'
                                            go_simp
                                            with_reducible rfl
                                          rotate_left
                                          · simp only [Act.put, List.setIfInBounds_toArray, List.set_cons_zero, List.set_cons_succ, i64_w, i32_w]
                                            rfl
                                          refine pure_ (i := 4) (N := some 66) (v := ?_) (a' := ?_) #[true, false, true, true, true, false, false, false, false, false, false, false, false, false, false, false] rfl rfl (any_of HT_.out (by kernel_rfl)) (fun _ _ _ h => h) (Or.inl ⟨by rfl, ?_⟩) ?_ ?_
                                          rotate_left
                                          · intro w'
                                            go_simp
                                            with_reducible rfl
                                          rotate_left
                                          · simp only [Act.put, List.setIfInBounds_toArray, List.set_cons_zero, List.set_cons_succ, i64_w, i32_w]
                                            rfl
                                          refine pure_ (i := 5) (N := some 67) (v := ?_) (a' := ?_) #[true, false, true, true, true, true, false, false, false, false, false, false, false, false, false, false] rfl rfl (any_of HT_.out (by kernel_rfl)) (fun _ _ _ h => h) (Or.inl ⟨by rfl, ?_⟩) ?_ ?_
                                          rotate_left
                                          · intro w'
                                            go_simp
                                            with_reducible rfl
                                          rotate_left
                                          · simp only [Act.put, List.setIfInBounds_toArray, List.set_cons_zero, List.set_cons_succ, i64_w, i32_w]
                                            rfl
                                          refine pure_ (i := 6) (N := some 68) (v := ?_) (a' := ?_) #[true, false, true, true, true, true, true, false, false, false, false, false, false, false, false, false] rfl rfl (any_of HT_.out (by kernel_rfl)) (fun _ _ _ h => h) (Or.inl ⟨by rfl, ?_⟩) ?_ ?_
                                          rotate_left
                                          · intro w'
                                            go_simp
                                            with_reducible rfl
                                          rotate_left
                                          · simp only [Act.put, List.setIfInBounds_toArray, List.set_cons_zero, List.set_cons_succ, i64_w, i32_w]
                                            rfl
                                          refine pure_ (i := 7) (N := some 69) (v := ?_) (a' := ?_) #[true, false, true, true, true, true, true, true, false, false, false, false, false, false, false, false] rfl rfl (any_of HT_.out (by kernel_rfl)) (fun _ _ _ h => h) (Or.inl ⟨by rfl, ?_⟩) ?_ ?_
                                          rotate_left
                                          · intro w'
                                            go_simp
                                            with_reducible rfl
                                          rotate_left
                                          · simp only [Act.put, List.setIfInBounds_toArray, List.set_cons_zero, List.set_cons_succ, i64_w, i32_w]
                                            rfl
                                          refine pure_ (i := 8) (N := some 70) (v := ?_) (a' := ?_) #[true, false, true, true, true, true, true, true, true, false, false, false, false, false, false, false] rfl rfl (any_of HT_.out (by kernel_rfl)) (fun _ _ _ h => h) (Or.inl ⟨by rfl, ?_⟩) ?_ ?_
                                          rotate_left
                                          · intro w'
                                            go_simp
                                            with_reducible rfl
                                          rotate_left
                                          · simp only [Act.put, List.setIfInBounds_toArray, List.set_cons_zero, List.set_cons_succ, i64_w, i32_w]
                                            rfl
                                          refine pure_ (i := 9) (N := some 71) (v := ?_) (a' := ?_) #[true, false, true, true, true, true, true, true, true, true, false, false, false, false, false, false] rfl rfl (any_of HT_.out (by kernel_rfl)) (fun _ _ _ h => h) (Or.inl ⟨by rfl, ?_⟩) ?_ ?_
                                          rotate_left
                                          · intro w'
                                            go_simp
                                            with_reducible rfl
                                          rotate_left
                                          · simp only [Act.put, List.setIfInBounds_toArray, List.set_cons_zero, List.set_cons_succ, i64_w, i32_w]
                                            rfl
                                          refine take_ (i := 1) (N := some 63) (v := ?_) (a' := ?_) #[true, true, true, true, true, true, true, true, true, true, false, false, false, false, false, false] rfl rfl (take_ofW HT_.out HW_.out (by kernel_rfl)) (fun _ _ _ h => h) (Or.inl ⟨by rfl, ?_⟩) hHeld ?_ ?_
                                          rotate_left
                                          · rintro w' ⟨s0, s1⟩
                                            go_simp
                                            with_reducible rfl
                                          rotate_left
                                          · simp only [Act.put, List.setIfInBounds_toArray, List.set_cons_zero, List.set_cons_succ, i64_w, i32_w]
                                            rfl
                                          refine one_ (i := 10) (N := some 72) #[true, true, true, true, true, true, true, true, true, true, true, false, false, false, false, false] rfl rfl (one_of HT_.out (by kernel_rfl)) (by decide) (fun K hK => ?_)
                                          refine goes_ Try.func64 (by kernel_rfl) rfl #[.slice A46 ((((l0.take ((wrap64 (8 + (wrap64 (t130)))) : Int).toNat).drop 8).take ((wrap64 (10 + (wrap64 (8 * x59_2)))) : Int).toNat).drop ((ji39) : Int).toNat).length ((c0 - 8) - (ji39).toNat)] (by rfl) rfl rfl (by (try simp only [List.map_toArray, List.map_cons, List.map_nil]); first | done | (rw [show ((((l0.take ((wrap64 (8 + (wrap64 (t130)))) : Int).toNat).drop 8).take ((wrap64 (10 + (wrap64 (8 * x59_2)))) : Int).toNat).drop ((ji39) : Int).toNat).length = ((wrap64 (10 + (wrap64 (8 * x59_2)))).toNat - (ji39).toNat) from SL140.out] <;> rfl) | (simp only [hji39]; rfl) | rfl | (simp only [List.length_drop, List.length_take]; rfl) | (exact congrArg (fun n_ : Nat => (#[Value.slice _ n_ _] : Array Value)) (by simp only [List.length_take, List.length_drop]; omega))) ?_
                                          with_reducible refine (journal_get.calls k2 _ _ ((((l0.take ((wrap64 (8 + (wrap64 (t130)))) : Int).toNat).drop 8).take ((wrap64 (10 + (wrap64 (8 * x59_2)))) : Int).toNat).drop ((ji39) : Int).toNat) t141 _ ?side1 ?side2 A43.out).mono ?_
                                          (case side1 => repeat (first | exact (Kd.C_below HR140.out HB.out) | (with_reducible refine Kd.C_alloc ?_ _) | (with_reducible refine Kd.C_drewN ?_ _) | (with_reducible refine Kd.C_drew ?_)))
                                          (case side2 => exact HC140.out)
                                          rintro e w' ⟨rfl, ⟨nd, rfl⟩⟩
                                          refine ⟨_, rfl, ?_⟩
                                          refine hK.out _ _ ⟨(blk_cell BK137.out 0).trans rfl, (blk_cell BK137.out 1).trans rfl⟩ (fun hHeld => ?_)
                                          clear hK K
                                          refine norm_ (a' := ?_) ?_ ?_
                                          rotate_left
                                          · show Act.put _ (some 72) _ = _
                                            simp only [Act.put, List.setIfInBounds_toArray, List.set_cons_zero, List.set_cons_succ, i64_w, i32_w]
                                            rfl
                                          refine pure_ (i := 11) (N := some 73) (v := ?_) (a' := ?_) #[true, true, true, true, true, true, true, true, true, true, true, true, false, false, false, false] rfl rfl (any_of HT_.out (by kernel_rfl)) (fun _ _ _ h => h) (Or.inl ⟨by rfl, ?_⟩) ?_ ?_
                                          rotate_left
                                          · intro w'
                                            go_simp
                                            with_reducible rfl
                                          rotate_left
                                          · simp only [Act.put, List.setIfInBounds_toArray, List.set_cons_zero, List.set_cons_succ, i64_w, i32_w]
                                            rfl
                                          refine one_ (i := 12) (N := some 74) #[true, true, true, true, true, true, true, true, true, true, true, true, true, false, false, false] rfl rfl (one_of HT_.out (by kernel_rfl)) (by decide) (fun K hK => ?_)
                                          refine value_ (w1 := ?_) (v := ?_) (by rfl) rfl ?_ ?_
                                          rotate_left 2
                                          · go_simp
                                            constructor
                                            · rfl
                                            · rfl
                                          refine hK.out _ _ ⟨(blk_cell (blk_alloc BK137.out _) 0).trans rfl, (blk_cell (blk_alloc BK137.out _) 1).trans rfl⟩ (fun hHeld => ?_)
                                          clear hK K
                                          refine norm_ (a' := ?_) ?_ ?_
                                          rotate_left
                                          · show Act.put _ (some 74) _ = _
                                            simp only [Act.put, List.setIfInBounds_toArray, List.set_cons_zero, List.set_cons_succ, i64_w, i32_w]
                                            rfl
                                          refine one_ (i := 13) (N := some 75) #[true, true, true, true, true, true, true, true, true, true, true, true, true, true, false, false] rfl rfl (one_of HT_.out (by kernel_rfl)) (by decide) (fun K hK => ?_)
                                          refine Kd.R_append_step (Kd.int .i64) (w0 := w) w.heap.size (by rfl) (.tmp 63) (.tmp 74) 24 3 (.int .i64 0) 8 rfl Try.underlying24 info3 rfl (by decide) (by omega) u138000 x138000_2 (wrap64 (t141)) [.int .i64 (wrap64 (t141))] (fun _ => True) (fun _ => False) rfl rfl ?aP (fun _ hk => hk.elim) ?aF ?aO ?aB ?aS ?aL ?_
                                          (case aP => exact rfl)
                                          (case aB => exact (by repeat (first | (with_reducible first | exact HB.out | apply below_alloc | apply pw_below_drewN | apply below_drew1 | refine below_set ?_ GE128.out | refine below_set ?_ GE137.out) | exact HB.out)))
                                          (case aF => exact (fun _ _ => trivial))
                                          (case aO => exact (by (with_reducible repeat (first | apply Kd.R_alloc | apply Kd.R_drewN | apply Kd.R_drew)); exact HO_138000.out))
                                          (case aS => exact (below_size (by repeat (first | (with_reducible first | exact HB.out | apply below_alloc | apply pw_below_drewN | apply below_drew1 | refine below_set ?_ GE128.out | refine below_set ?_ GE137.out) | exact HB.out))))
                                          (case aL => have := LMc44.out; omega)
                                          intro v143 w47 ho hb hg hat
                                          rw [← Ny142.out] at ho
                                          have n0_ := Aside0.mk (blk_grown (g := gb128) (o := .cells #[.slice none 0 0, .string (⟨#[]⟩ : ByteArray)] 88 (0, 0)) (by (with_reducible repeat (first | refine blk_drewN ?_ _ | refine blk_drew ?_ | refine blk_alloc ?_ _)); exact BK128.out) hg (Kd.R_ne HO_138000.out BK128.out (by decide)))
                                          have n1_ := Aside0.mk (blk_grown (g := gb137) (o := .cells #[u138000, .string (⟨#[]⟩ : ByteArray)] 88 (0, 0)) (by (with_reducible repeat (first | refine blk_drewN ?_ _ | refine blk_drew ?_ | refine blk_alloc ?_ _)); exact BK137.out) hg (Kd.R_ne HO_138000.out BK137.out (by decide)))
                                          have n2_ := Aside0.mk (hb)
                                          have n3_ := Aside0.mk (ho)
                                          clear BK128
                                          clear BK137
                                          clear HB
                                          clear HO_138000
                                          have BK128 := n0_
                                          have BK137 := n1_
                                          have HB := n2_
                                          have HO144 := n3_
                                          clear n0_ n1_ n2_ n3_
                                          clear ho hb hg hat
                                          obtain ⟨Ao48, co48, eo48⟩ := Kd.R_slice HO144.out
                                          (first | subst eo48 | (injection eo48 with f1_ f2_ f3_; have f4_ := f1_.symm; have f5_ := f3_.symm; clear f1_ f2_ f3_; subst f4_; subst f5_))
                                          refine hK.out _ _ ⟨(blk_cell BK137.out 0).trans rfl, (blk_cell BK137.out 1).trans rfl⟩ (fun hHeld => ?_)
                                          clear hK K
                                          refine norm_ (a' := ?_) ?_ ?_
                                          rotate_left
                                          · show Act.put _ (some 75) _ = _
                                            simp only [Act.put, List.setIfInBounds_toArray, List.set_cons_zero, List.set_cons_succ, i64_w, i32_w]
                                            rfl
                                          refine pure_ (i := 14) (N := some 76) (v := ?_) (a' := ?_) #[true, true, true, true, true, true, true, true, true, true, true, true, true, true, true, false] rfl rfl (any_of HT_.out (by kernel_rfl)) (fun _ _ _ h => h) (Or.inl ⟨by rfl, ?_⟩) ?_ ?_
                                          rotate_left
                                          · intro w'
                                            go_simp
                                            with_reducible rfl
                                          rotate_left
                                          · simp only [Act.put, List.setIfInBounds_toArray, List.set_cons_zero, List.set_cons_succ, i64_w, i32_w]
                                            rfl
                                          refine last_ (i := 15) (N := none) #[true, true, true, true, true, true, true, true, true, true, true, true, true, true, true, true] rfl rfl (one_of HT_.out (by kernel_rfl)) (by decide) (fun K hK => ?_)
                                          have hs49 : w47.cell? ⟨gb137, 0, none⟩ = some (u138000) := (blk_cell BK137.out 0).trans rfl
                                          have hfs49 := blk_frozen BK137.out 0
                                          have hns49_0 := NB128_137.out
                                          have hms49_0 := NB137_128.out
                                          refine skip_ (w1 := ?_) (by rfl) rfl ?_ ?_
                                          rotate_left
                                          · go_simp
                                            rfl
                                          refine hK.out _ _ ?_
                                          clear hK K
                                          refine done_ (done_of HT_.out (by kernel_rfl)) ?_
                                          try go_wp2
                                          go_roundg k2
                                          case measure => have := HJ21.out; have := HK2.out; omega
                                          case rel => exact ⟨(wrap64 (x59_2 + 1)), (y142), (.slice Ao48 y142.length co48), (by first | rfl | (simp; done) | (simp [*]; done)), H', ⟨by have := HJ21.out; have := HK2.out; omega⟩, ⟨by (with_reducible repeat (first | apply Kd.R_alloc | apply Kd.R_drewN | apply Kd.R_drew)); exact Kd.R_mono (Kd.R_far (p := ⟨gb137, 0, none⟩) (Kd.R_types HO144.out BK137.out (by decide)) (fun _ hk => hk.2) (.slice Ao48 y142.length co48)) (fun _ hk => trivial)⟩, ⟨by (with_reducible repeat (first | refine blk_drewN ?_ _ | refine blk_drew ?_ | refine blk_alloc ?_ _)); refine blk_far ?_ NB128_137.out _; (with_reducible repeat (first | refine blk_drewN ?_ _ | refine blk_drew ?_ | refine blk_alloc ?_ _)); exact BK128.out⟩, ⟨by (with_reducible repeat (first | refine blk_drewN ?_ _ | refine blk_drew ?_ | refine blk_alloc ?_ _)); refine blk_put (cs := #[u138000, .string (⟨#[]⟩ : ByteArray)]) ?_ 0 _ rfl; (with_reducible repeat (first | refine blk_drewN ?_ _ | refine blk_drew ?_ | refine blk_alloc ?_ _)); exact BK137.out⟩, ⟨by repeat (first | (with_reducible first | exact HB.out | apply below_alloc | apply pw_below_drewN | apply below_drew1 | refine below_set ?_ GE128.out | refine below_set ?_ GE137.out) | exact HB.out)⟩⟩
                                        · rw [if_neg c44] at H
                                          exact absurd H (by simp)
                                      · rw [if_neg c42] at H
                                        exact absurd H (by simp)
                                    · rw [if_neg c41] at H
                                      exact absurd H (by simp)
                                  · rw [if_neg c40] at H
                                    exact absurd H (by simp)
                                · rw [if_neg c38] at H
                                  have c38b0 : decide (x59_2 < (wrap64 (t139))) = false := decide_eq_false c38
                                  clear c38
                                  obtain ⟨ji50, hji50⟩ : ∃ j_ : Int, (wrap64 (2 + (wrap64 (8 * (wrap64 (t139)))))) = j_ := ⟨_, rfl⟩
                                  replace H : (if 0 ≤ (ji50) then (if (ji50) ≤ (((l0.take ((wrap64 (8 + (wrap64 (t130)))) : Int).toNat).drop 8).length : Int) then (if ((strOfNums (((l0.take ((wrap64 (8 + (wrap64 (t130)))) : Int).toNat).drop 8).drop ((ji50) : Int).toNat)).size : Int) > 1048576 then (some (([] : List Int), (⟨#[]⟩ : ByteArray), 0, 3)) else (some (x138000_2, strOfNums (((l0.take ((wrap64 (8 + (wrap64 (t130)))) : Int).toNat).drop 8).drop ((ji50) : Int).toNat), wrap64 (8 + (wrap64 (t130))), 0))) else (none)) else (none)) = some (r1, r2, r3, r4) := by first | (rw [hji50] at H; exact H) | (simp only [hji50] at H ⊢; exact H)
                                  have hji50w : (IntKind.i64.wrap (2 + (wrap64 (8 * (wrap64 (t139)))))) = ji50 := (i64_w _).trans hji50
                                  by_cases c51 : 0 ≤ (ji50)
                                  · rw [if_pos c51] at H
                                    have c51b0 := eq_true c51
                                    have c51b1 : decide (0 ≤ (ji50)) = true := decide_eq_true c51
                                    clear c51
                                    by_cases c52 : (ji50) ≤ (((l0.take ((wrap64 (8 + (wrap64 (t130)))) : Int).toNat).drop 8).length : Int)
                                    · rw [if_pos c52] at H
                                      have c52b0 := eq_true c52
                                      have c52b1 : decide ((ji50) ≤ (((l0.take ((wrap64 (8 + (wrap64 (t130)))) : Int).toNat).drop 8).length : Int)) = true := decide_eq_true c52
                                      by_cases c53 : ((strOfNums (((l0.take ((wrap64 (8 + (wrap64 (t130)))) : Int).toNat).drop 8).drop ((ji50) : Int).toNat)).size : Int) > 1048576
                                      · rw [if_pos c53] at H
                                        have c53b0 : decide (1048576 < ((strOfNums (((l0.take ((wrap64 (8 + (wrap64 (t130)))) : Int).toNat).drop 8).drop ((ji50) : Int).toNat)).size : Int)) = true := decide_eq_true c53
                                        have c53b1 : decide (1048576 < (strOfNums (((l0.take ((wrap64 (8 + (wrap64 (t130)))) : Int).toNat).drop 8).drop ((ji50) : Int).toNat)).size) = true := decide_eq_true (by omega)
                                        clear c53
                                        simp only [Option.some.injEq, Prod.mk.injEq] at H
                                        obtain ⟨rfl, rfl, rfl, rfl⟩ := H
                                        obtain ⟨i054, hi054, _, hsz54, _⟩ := info_parts info5
                                        obtain ⟨A54, hcut54, hA54, hC54⟩ := print_drop_of (P := Try.prog) (Value.int .u8) 0 22 5 .i64 Try.underlying22 hi054 hsz54 A25 (c0 - 8) ((l0.take ((wrap64 (8 + (wrap64 (t130)))) : Int).toNat).drop 8) (ji50) (of_decide_eq_true (by first | (with_reducible assumption) | assumption)) (of_decide_eq_true (by first | (with_reducible assumption) | assumption)) HC131.out
                                        have HR145 := Aside0.mk (Kd.C_of_reads (h1 := fun _ => rfl) (hA54 _ (Kd.reads_of_C HR131.out)))
                                        have HC145 := Aside0.mk hC54
                                        have hcutb54 := hcut54
                                        (first | rw [show ((l0.take ((wrap64 (8 + (wrap64 (t130)))) : Int).toNat).drop 8).length = ((wrap64 (8 + (wrap64 (t130)))).toNat - 8) from SL131.out] at hcutb54 | skip)
                                        clear hA54 hC54 hi054 hsz54
                                        have SL145 := Aside0.mk (show (((l0.take ((wrap64 (8 + (wrap64 (t130)))) : Int).toNat).drop 8).drop ((ji50) : Int).toNat).length = (((wrap64 (8 + (wrap64 (t130)))).toNat - 8) - (ji50).toNat) from (by rw [List.length_drop, SL131.out]))
                                        have hcv55 := Kd.C_string (P := Try.prog) (A := A54) (c := ((c0 - 8) - (ji50).toNat)) Try.underlying22 Try.underlying5 Try.underlying9 (Kd.C_below HR145.out HB.out)
                                        have hcvb55 := hcv55
                                        (first | rw [show (((l0.take ((wrap64 (8 + (wrap64 (t130)))) : Int).toNat).drop 8).drop ((ji50) : Int).toNat).length = (((wrap64 (8 + (wrap64 (t130)))).toNat - 8) - (ji50).toNat) from SL145.out] at hcvb55 | skip)
                                        have hcvc55 := hcv55
                                        (first | rw [show (((l0.take ((wrap64 (8 + (wrap64 (t130)))) : Int).toNat).drop 8).drop ((ji50) : Int).toNat).length = min (wrap64 (8 + (wrap64 (t130)))).toNat l0.length - (8 + (ji50).toNat) from by simp only [List.length_drop, List.length_take]; omega] at hcvc55 | skip)
                                        generalize hjs55 : strOfNums (((l0.take ((wrap64 (8 + (wrap64 (t130)))) : Int).toNat).drop 8).drop ((ji50) : Int).toNat) = js55 at *
                                        have Njs55 := Aside0.mk hjs55
                                        clear hjs55
                                        have hnb56 := NB137_128.out
                                        have hnc56 := NB128_137.out
                                        have hcz57_0 : wr.cell? ⟨gb137, 0, none⟩ = some (u138000) := (blk_cell BK137.out 0).trans rfl
                                        have hcz57_1 : wr.cell? ⟨gb137, 1, none⟩ = some (.string (⟨#[]⟩ : ByteArray)) := (blk_cell BK137.out 1).trans rfl
                                        have hfz57_0 := blk_frozen BK137.out 0
                                        have hfz57_1 := blk_frozen BK137.out 1
                                        have hcz58_0 : wr.cell? ⟨gb128, 0, none⟩ = some (.slice none 0 0) := (blk_cell BK128.out 0).trans rfl
                                        have hcz58_1 : wr.cell? ⟨gb128, 1, none⟩ = some (.string (⟨#[]⟩ : ByteArray)) := (blk_cell BK128.out 1).trans rfl
                                        have hfz58_0 := blk_frozen BK128.out 0
                                        have hfz58_1 := blk_frozen BK128.out 1
                                        go_wp2
                                        have hjs55 := Njs55.out
                                        subst hjs55
                                        refine bodyPost_ret (results_ctt rfl _ _ gb128 88 #[.slice none 0 0, .string (⟨#[]⟩ : ByteArray)] (0, 0) _ rfl (by (with_reducible repeat (first | refine blk_drewN ?_ _ | refine blk_drew ?_ | refine blk_alloc ?_ _)); refine blk_put (cs := #[.slice none 0 0, .string (⟨#[]⟩ : ByteArray)]) ?_ 1 _ rfl; (with_reducible repeat (first | refine blk_drewN ?_ _ | refine blk_drew ?_ | refine blk_alloc ?_ _)); refine blk_put (cs := #[.slice none 0 0, .string (⟨#[]⟩ : ByteArray)]) ?_ 0 _ rfl; (with_reducible repeat (first | refine blk_drewN ?_ _ | refine blk_drew ?_ | refine blk_alloc ?_ _)); refine blk_far ?_ NB128_137.out _; (with_reducible repeat (first | refine blk_drewN ?_ _ | refine blk_drew ?_ | refine blk_alloc ?_ _)); exact BK128.out) Try.underlying88 rfl (by kernel_rfl)) rfl ?_
                                        exact ⟨_, by first | rfl | (simp [errW_none, errW_some] <;> rfl) | (simp only [← hji50]; first | rfl | (simp [errW_none, errW_some] <;> rfl)) | (simp [*, errW_none, errW_some] <;> rfl), by first | exact Kd.R_nil _ _ _ _ _ | exact Kd.N_nil _ _ _ _ _ | exact Kd.V_nil _ _ _ _ _ | exact Kd.Q_nil _ _ _ _ _ | exact Kd.S_nil _ _ _ _ _, by repeat (first | (with_reducible first | exact HB.out | apply below_alloc | apply pw_below_drewN | apply below_drew1 | refine below_set ?_ GE128.out | refine below_set ?_ GE137.out) | exact HB.out)⟩
                                      · rw [if_neg c53] at H
                                        have c53b0 : decide (1048576 < ((strOfNums (((l0.take ((wrap64 (8 + (wrap64 (t130)))) : Int).toNat).drop 8).drop ((ji50) : Int).toNat)).size : Int)) = false := decide_eq_false c53
                                        have c53b1 : decide (1048576 < (strOfNums (((l0.take ((wrap64 (8 + (wrap64 (t130)))) : Int).toNat).drop 8).drop ((ji50) : Int).toNat)).size) = false := decide_eq_false (by omega)
                                        clear c53
                                        simp only [Option.some.injEq, Prod.mk.injEq] at H
                                        obtain ⟨rfl, rfl, rfl, rfl⟩ := H
                                        obtain ⟨i059, hi059, _, hsz59, _⟩ := info_parts info5
                                        obtain ⟨A59, hcut59, hA59, hC59⟩ := print_drop_of (P := Try.prog) (Value.int .u8) 0 22 5 .i64 Try.underlying22 hi059 hsz59 A25 (c0 - 8) ((l0.take ((wrap64 (8 + (wrap64 (t130)))) : Int).toNat).drop 8) (ji50) (of_decide_eq_true (by first | (with_reducible assumption) | assumption)) (of_decide_eq_true (by first | (with_reducible assumption) | assumption)) HC131.out
                                        have HR145 := Aside0.mk (Kd.C_of_reads (h1 := fun _ => rfl) (hA59 _ (Kd.reads_of_C HR131.out)))
                                        have HC145 := Aside0.mk hC59
                                        have hcutb59 := hcut59
                                        (first | rw [show ((l0.take ((wrap64 (8 + (wrap64 (t130)))) : Int).toNat).drop 8).length = ((wrap64 (8 + (wrap64 (t130)))).toNat - 8) from SL131.out] at hcutb59 | skip)
                                        clear hA59 hC59 hi059 hsz59
                                        have SL145 := Aside0.mk (show (((l0.take ((wrap64 (8 + (wrap64 (t130)))) : Int).toNat).drop 8).drop ((ji50) : Int).toNat).length = (((wrap64 (8 + (wrap64 (t130)))).toNat - 8) - (ji50).toNat) from (by rw [List.length_drop, SL131.out]))
                                        have hcv60 := Kd.C_string (P := Try.prog) (A := A59) (c := ((c0 - 8) - (ji50).toNat)) Try.underlying22 Try.underlying5 Try.underlying9 (Kd.C_below HR145.out HB.out)
                                        have hcvb60 := hcv60
                                        (first | rw [show (((l0.take ((wrap64 (8 + (wrap64 (t130)))) : Int).toNat).drop 8).drop ((ji50) : Int).toNat).length = (((wrap64 (8 + (wrap64 (t130)))).toNat - 8) - (ji50).toNat) from SL145.out] at hcvb60 | skip)
                                        have hcvc60 := hcv60
                                        (first | rw [show (((l0.take ((wrap64 (8 + (wrap64 (t130)))) : Int).toNat).drop 8).drop ((ji50) : Int).toNat).length = min (wrap64 (8 + (wrap64 (t130)))).toNat l0.length - (8 + (ji50).toNat) from by simp only [List.length_drop, List.length_take]; omega] at hcvc60 | skip)
                                        generalize hjs60 : strOfNums (((l0.take ((wrap64 (8 + (wrap64 (t130)))) : Int).toNat).drop 8).drop ((ji50) : Int).toNat) = js60 at *
                                        have Njs60 := Aside0.mk hjs60
                                        clear hjs60
                                        have hnb61 := NB137_128.out
                                        have hnc61 := NB128_137.out
                                        have hcz62_0 : wr.cell? ⟨gb137, 0, none⟩ = some (u138000) := (blk_cell BK137.out 0).trans rfl
                                        have hcz62_1 : wr.cell? ⟨gb137, 1, none⟩ = some (.string (⟨#[]⟩ : ByteArray)) := (blk_cell BK137.out 1).trans rfl
                                        have hfz62_0 := blk_frozen BK137.out 0
                                        have hfz62_1 := blk_frozen BK137.out 1
                                        obtain ⟨Ao63, co63, eo63⟩ := Kd.R_slice HO_138000.out
                                        subst eo63
                                        have hcz64_0 : wr.cell? ⟨gb128, 0, none⟩ = some (.slice none 0 0) := (blk_cell BK128.out 0).trans rfl
                                        have hcz64_1 : wr.cell? ⟨gb128, 1, none⟩ = some (.string (⟨#[]⟩ : ByteArray)) := (blk_cell BK128.out 1).trans rfl
                                        have hfz64_0 := blk_frozen BK128.out 0
                                        have hfz64_1 := blk_frozen BK128.out 1
                                        go_wp2
                                        have hjs60 := Njs60.out
                                        subst hjs60
                                        refine bodyPost_ret (results_ctt rfl _ _ gb128 88 #[.slice Ao63 x138000_2.length co63, .string (strOfNums (((l0.take ((wrap64 (8 + (wrap64 (t130)))) : Int).toNat).drop 8).drop ((ji50) : Int).toNat))] (0, 0) _ rfl (by (with_reducible repeat (first | refine blk_drewN ?_ _ | refine blk_drew ?_ | refine blk_alloc ?_ _)); refine blk_put (cs := #[.slice Ao63 x138000_2.length co63, .string (⟨#[]⟩ : ByteArray)]) ?_ 1 _ rfl; (with_reducible repeat (first | refine blk_drewN ?_ _ | refine blk_drew ?_ | refine blk_alloc ?_ _)); refine blk_put (cs := #[.slice none 0 0, .string (⟨#[]⟩ : ByteArray)]) ?_ 0 _ rfl; (with_reducible repeat (first | refine blk_drewN ?_ _ | refine blk_drew ?_ | refine blk_alloc ?_ _)); refine blk_far ?_ NB128_137.out _; (with_reducible repeat (first | refine blk_drewN ?_ _ | refine blk_drew ?_ | refine blk_alloc ?_ _)); exact BK128.out) Try.underlying88 rfl (by kernel_rfl)) rfl ?_
                                        exact ⟨_, by first | rfl | (simp [errW_none, errW_some] <;> rfl) | (simp only [← hji50]; first | rfl | (simp [errW_none, errW_some] <;> rfl)) | (simp [*, errW_none, errW_some] <;> rfl), by (with_reducible repeat (first | apply Kd.R_alloc | apply Kd.R_drewN | apply Kd.R_drew)); exact Kd.R_mono (Kd.R_far (p := ⟨gb128, 1, none⟩) (Kd.R_far (p := ⟨gb128, 0, none⟩) (Kd.R_far (p := ⟨gb137, 1, none⟩) (Kd.R_types (Kd.R_types HO_138000.out BK137.out (by decide)) BK128.out (by decide)) (fun _ hk => hk.1.2) (.string (strOfNums (((l0.take ((wrap64 (8 + (wrap64 (t130)))) : Int).toNat).drop 8).drop ((ji50) : Int).toNat)))) (fun _ hk => hk.2) (.slice Ao63 x138000_2.length co63)) (fun _ hk => hk.2) (.string (strOfNums (((l0.take ((wrap64 (8 + (wrap64 (t130)))) : Int).toNat).drop 8).drop ((ji50) : Int).toNat)))) (fun _ hk => trivial), by repeat (first | (with_reducible first | exact HB.out | apply below_alloc | apply pw_below_drewN | apply below_drew1 | refine below_set ?_ GE128.out | refine below_set ?_ GE137.out) | exact HB.out)⟩
                                    · rw [if_neg c52] at H
                                      exact absurd H (by simp)
                                  · rw [if_neg c51] at H
                                    exact absurd H (by simp)
                          · rw [if_neg c34] at H
                            exact absurd H (by simp)
                  · rw [if_neg c21] at H
                    have c21b0 : ((IntKind.u64.wrap (t132)) == t134) = false := beq_eq_false_iff_ne.mpr c21
                    have c21b1 : ((IntKind.u64.wrap (t132)) != t134) = true := bne_iff_ne.mpr c21
                    simp only [Option.some.injEq, Prod.mk.injEq] at H
                    obtain ⟨rfl, rfl, rfl, rfl⟩ := H
                    go_enter Try.func47, Try.ntmps47
                    try go_wp2_with (first | ((with_reducible refine gate_dst (N := 2) rfl ?_); refine box_event ?hg (N := 2) ?hd (cs := #[.slice none 0 0, .string (⟨#[]⟩ : ByteArray)]) (t := 88) ?hr ?_; (case hd => rfl); (case hg => rfl); (case hr => first | (go_simp; done) | (go_simp; rfl)); intro gb128 hg w65 hbox hb; have n0_ := Aside0.mk (below_step (by repeat (first | (with_reducible first | exact HB.out | apply below_alloc | apply pw_below_drewN | apply below_drew1) | exact HB.out)) hb); have n1_ := Aside0.mk (hbox); have n2_ := Aside0.mk ((by rw [hg]; exact (below_size (by repeat (first | (with_reducible first | exact HB.out | apply below_alloc | apply pw_below_drewN | apply below_drew1) | exact HB.out))) : w.heap.size ≤ gb128)); have n3_ := Aside0.mk ((by rw [hg]; exact (below_size (by repeat (first | (with_reducible first | exact HB.out | apply below_alloc | apply pw_below_drewN | apply below_drew1) | exact HB.out))) : w.heap.size ≤ gb128)); clear HB; have HB := n0_; have BK128 := n1_; have GW128 := n2_; have GE128 := n3_; clear n0_ n1_ n2_ n3_; clear hb hbox hg; obtain ⟨i066, hi066, _, hsz66, _⟩ := info_parts info5; obtain ⟨hcut66, hA66, hC66⟩ := print_take_of (P := Try.prog) (Value.int .u8) 0 22 5 .i64 Try.underlying22 hi066 hsz66 A0 c0 l0 4 (by omega) (of_decide_eq_true (by first | (with_reducible assumption) | assumption)) HC0.out; have HR129 := Aside0.mk (Kd.C_of_reads (h1 := fun _ => rfl) (hA66 _ (Kd.reads_of_C HR0.out))); have HC129 := Aside0.mk hC66; have hcutb66 := hcut66; clear hA66 hC66 hi066 hsz66; have SL129 := Aside0.mk (show (l0.take 4).length = 4 from (by rw [List.length_take]; have h_ : (4 : Int) ≤ (l0.length : Int) := of_decide_eq_true (by first | (with_reducible assumption) | assumption); omega))) | ((with_reducible refine gate_callee (f := 64) rfl ?_); refine goesL_ (some 16) rfl rfl Try.func64 (by kernel_rfl) rfl #[.slice A0 (l0.take 4).length c0] rfl (by (try simp only [List.map_toArray, List.map_cons, List.map_nil]); first | done | (rw [show (l0.take 4).length = 4 from SL129.out] <;> rfl) | rfl | (simp only [List.length_drop, List.length_take]; rfl) | (exact congrArg (fun n_ : Nat => (#[Value.slice _ n_ _] : Array Value)) (by simp only [List.length_take, List.length_drop]; omega))) ?_; (with_reducible refine (journal_get.calls k _ _ (l0.take 4) t130 _ ?side1 ?side2 A6.out).mono ?_); (case side1 => repeat (first | exact (Kd.C_below HR129.out HB.out) | (with_reducible refine Kd.C_alloc ?_ _) | (with_reducible refine Kd.C_drewN ?_ _) | (with_reducible refine Kd.C_drew ?_))); (case side2 => exact HC129.out); rintro e w' ⟨rfl, ⟨nd, rfl⟩⟩; refine ⟨_, rfl, ?_⟩; (try (rw [drewN_self w65]; generalize hq_ : World.drewN w65 _ = w65; have n0_ : Aside0 (w65.heap[gb128]? = some (.cells #[.slice none 0 0, .string (⟨#[]⟩ : ByteArray)] 88 (0, 0))) := ⟨by rw [← hq_]; exact (by (with_reducible repeat (first | refine blk_drewN ?_ _ | refine blk_drew ?_ | refine blk_alloc ?_ _)); exact BK128.out)⟩; have n1_ : Aside0 (Below w.heap.size w w65) := ⟨by rw [← hq_]; exact (by repeat (first | (with_reducible first | exact HB.out | apply below_alloc | apply pw_below_drewN | apply below_drew1 | refine below_set ?_ GE128.out) | exact HB.out))⟩; clear BK128 HB hq_; have BK128 := n0_; have HB := n1_; clear n0_ n1_)); obtain ⟨i067, hi067, _, hsz67, _⟩ := info_parts info5; obtain ⟨A67, hcut67, hA67, hC67⟩ := print_mid_of (P := Try.prog) (Value.int .u8) 0 22 5 .i64 .i64 Try.underlying22 hi067 hsz67 A0 c0 l0 8 (wrap64 (8 + (wrap64 (t130)))) (by omega) (by first | omega | exact of_decide_eq_true (by first | (with_reducible assumption) | assumption)) (of_decide_eq_true (by first | (with_reducible assumption) | assumption)) HC0.out; have HR131 := Aside0.mk (Kd.C_of_reads (h1 := fun _ => rfl) (hA67 _ (Kd.reads_of_C HR0.out))); have HC131 := Aside0.mk hC67; have hcutb67 := hcut67; clear hA67 hC67 hi067 hsz67; have SL131 := Aside0.mk (show ((l0.take ((wrap64 (8 + (wrap64 (t130)))) : Int).toNat).drop 8).length = ((wrap64 (8 + (wrap64 (t130)))).toNat - 8) from (by rw [List.length_drop, List.length_take]; have h_ : ((wrap64 (8 + (wrap64 (t130)))) : Int) ≤ (l0.length : Int) := of_decide_eq_true (by first | (with_reducible assumption) | assumption); omega))))
                    have n0_ := Aside0.mk (blk_drew BK128.out)
                    have n1_ := Aside0.mk (below_drew1 HB.out)
                    clear BK128
                    clear HB
                    have BK128 := n0_
                    have HB := n1_
                    clear n0_ n1_
                    obtain ⟨i069, hi069, _, hsz69, _⟩ := info_parts info5
                    obtain ⟨A69, hcut69, hA69, hC69⟩ := print_mid_of (P := Try.prog) (Value.int .u8) 0 22 5 .i64 .i64 Try.underlying22 hi069 hsz69 A0 c0 l0 4 8 (by omega) (by first | omega | exact of_decide_eq_true (by first | (with_reducible assumption) | assumption)) (of_decide_eq_true (by first | (with_reducible assumption) | assumption)) HC0.out
                    have HR133 := Aside0.mk (Kd.C_of_reads (h1 := fun _ => rfl) (hA69 _ (Kd.reads_of_C HR0.out)))
                    have HC133 := Aside0.mk hC69
                    have hcutb69 := hcut69
                    clear hA69 hC69 hi069 hsz69
                    have SL133 := Aside0.mk (show ((l0.take 8).drop 4).length = (8 - 4) from (by rw [List.length_drop, List.length_take]; have h_ : (8 : Int) ≤ (l0.length : Int) := of_decide_eq_true (by first | (with_reducible assumption) | assumption); omega))
                    refine start_ (n := 7) (S := fun w' => True) (ds := []) #[false, false, false, false, false, false, false] (by kernel_rfl) rfl rfl trivial (fun hHeld => ?_)
                    generalize w65.drew = w68 at BK128 HB HR133 hHeld ⊢
                    refine pure_ (i := 0) (N := some 33) (v := ?_) (a' := ?_) #[true, false, false, false, false, false, false] rfl rfl (by kernel_rfl) (fun _ _ _ h => h) (Or.inl ⟨by rfl, ?_⟩) ?_ ?_
                    rotate_left
                    · intro w'
                      go_simp
                      with_reducible rfl
                    rotate_left
                    · simp only [Act.put, List.setIfInBounds_toArray, List.set_cons_zero, List.set_cons_succ, i64_w, i32_w]
                      rfl
                    refine pure_ (i := 3) (N := some 36) (v := ?_) (a' := ?_) #[true, false, false, true, false, false, false] rfl rfl (by kernel_rfl) (fun _ _ _ h => h) (Or.inl ⟨by rfl, ?_⟩) ?_ ?_
                    rotate_left
                    · intro w'
                      go_simp
                      with_reducible rfl
                    rotate_left
                    · simp only [Act.put, List.setIfInBounds_toArray, List.set_cons_zero, List.set_cons_succ, i64_w, i32_w]
                      rfl
                    refine pure_ (i := 4) (N := some 37) (v := ?_) (a' := ?_) #[true, false, false, true, true, false, false] rfl rfl (by kernel_rfl) (fun _ _ _ h => h) (Or.inl ⟨by rfl, ?_⟩) ?_ ?_
                    rotate_left
                    · intro w'
                      go_simp
                      with_reducible rfl
                    rotate_left
                    · simp only [Act.put, List.setIfInBounds_toArray, List.set_cons_zero, List.set_cons_succ, i64_w, i32_w]
                      rfl
                    refine one_ (i := 1) (N := some 34) #[true, true, false, true, true, false, false] rfl rfl (by kernel_rfl) (by decide) (fun K hK => ?_)
                    refine goes_ Try.func24 (by kernel_rfl) rfl #[.slice A67 ((l0.take ((wrap64 (8 + (wrap64 (t130)))) : Int).toNat).drop 8).length (c0 - 8)] (by rfl) rfl rfl (by (try simp only [List.map_toArray, List.map_cons, List.map_nil]); first | done | (rw [show ((l0.take ((wrap64 (8 + (wrap64 (t130)))) : Int).toNat).drop 8).length = ((wrap64 (8 + (wrap64 (t130)))).toNat - 8) from SL131.out] <;> rfl) | rfl | (simp only [List.length_drop, List.length_take]; rfl) | (exact congrArg (fun n_ : Nat => (#[Value.slice _ n_ _] : Array Value)) (by simp only [List.length_take, List.length_drop]; omega))) ?_
                    with_reducible refine (journal_Sum.calls k _ _ ((l0.take ((wrap64 (8 + (wrap64 (t130)))) : Int).toNat).drop 8) t132 _ ?side1 ?side2 A17.out).mono ?_
                    (case side1 => repeat (first | exact (Kd.C_below HR131.out HB.out) | (with_reducible refine Kd.C_alloc ?_ _) | (with_reducible refine Kd.C_drewN ?_ _) | (with_reducible refine Kd.C_drew ?_)))
                    (case side2 => exact HC131.out)
                    rintro e w' ⟨rfl, ⟨nd, rfl⟩⟩
                    refine ⟨_, rfl, ?_⟩
                    refine hK.out _ _ trivial (fun hHeld => ?_)
                    clear hK K
                    refine norm_ (a' := ?_) ?_ ?_
                    rotate_left
                    · show Act.put _ (some 34) _ = _
                      simp only [Act.put, List.setIfInBounds_toArray, List.set_cons_zero, List.set_cons_succ, i64_w, i32_w]
                      rfl
                    refine pure_ (i := 2) (N := some 35) (v := ?_) (a' := ?_) #[true, true, true, true, true, false, false] rfl rfl (by kernel_rfl) (fun _ _ _ h => h) (Or.inl ⟨by rfl, ?_⟩) ?_ ?_
                    rotate_left
                    · intro w'
                      go_simp
                      with_reducible rfl
                    rotate_left
                    · simp only [Act.put, List.setIfInBounds_toArray, List.set_cons_zero, List.set_cons_succ, i64_w, i32_w]
                      rfl
                    refine one_ (i := 5) (N := some 38) #[true, true, true, true, true, true, false] rfl rfl (by kernel_rfl) (by decide) (fun K hK => ?_)
                    refine goes_ Try.func64 (by kernel_rfl) rfl #[.slice A69 ((l0.take 8).drop 4).length (c0 - 4)] (by rfl) rfl rfl (by (try simp only [List.map_toArray, List.map_cons, List.map_nil]); first | done | (rw [show ((l0.take 8).drop 4).length = (8 - 4) from SL133.out] <;> rfl) | rfl | (simp only [List.length_drop, List.length_take]; rfl) | (exact congrArg (fun n_ : Nat => (#[Value.slice _ n_ _] : Array Value)) (by simp only [List.length_take, List.length_drop]; omega))) ?_
                    with_reducible refine (journal_get.calls k _ _ ((l0.take 8).drop 4) t134 _ ?side1 ?side2 A20.out).mono ?_
                    (case side1 => repeat (first | exact (Kd.C_below HR133.out (by repeat (first | (with_reducible first | exact HB.out | apply below_alloc | apply pw_below_drewN | apply below_drew1 | refine below_set ?_ GE128.out) | exact HB.out))) | (with_reducible refine Kd.C_alloc ?_ _) | (with_reducible refine Kd.C_drewN ?_ _) | (with_reducible refine Kd.C_drew ?_)))
                    (case side2 => exact HC133.out)
                    rintro e w' ⟨rfl, ⟨nd, rfl⟩⟩
                    refine ⟨_, rfl, ?_⟩
                    refine hK.out _ _ trivial (fun hHeld => ?_)
                    clear hK K
                    refine norm_ (a' := ?_) ?_ ?_
                    rotate_left
                    · show Act.put _ (some 38) _ = _
                      simp only [Act.put, List.setIfInBounds_toArray, List.set_cons_zero, List.set_cons_succ, i64_w, i32_w]
                      rfl
                    refine pure_ (i := 6) (N := some 39) (v := ?_) (a' := ?_) #[true, true, true, true, true, true, true] rfl rfl (by kernel_rfl) (fun _ _ _ h => h) (Or.inl ⟨by rfl, ?_⟩) ?_ ?_
                    rotate_left
                    · intro w'
                      go_simp
                      with_reducible rfl
                    rotate_left
                    · simp only [Act.put, List.setIfInBounds_toArray, List.set_cons_zero, List.set_cons_succ, i64_w, i32_w]
                      rfl
                    refine done_ (by kernel_rfl) ?_
                    have hcz70_0 : w68.cell? ⟨gb128, 0, none⟩ = some (.slice none 0 0) := (blk_cell BK128.out 0).trans rfl
                    have hcz70_1 : w68.cell? ⟨gb128, 1, none⟩ = some (.string (⟨#[]⟩ : ByteArray)) := (blk_cell BK128.out 1).trans rfl
                    have hfz70_0 := blk_frozen BK128.out 0
                    have hfz70_1 := blk_frozen BK128.out 1
                    try go_wp2
                    refine bodyPost_ret (results_ctt rfl _ _ gb128 88 #[.slice none 0 0, .string (⟨#[]⟩ : ByteArray)] (0, 0) _ rfl (by (with_reducible repeat (first | refine blk_drewN ?_ _ | refine blk_drew ?_ | refine blk_alloc ?_ _)); refine blk_put (cs := #[.slice none 0 0, .string (⟨#[]⟩ : ByteArray)]) ?_ 1 _ rfl; (with_reducible repeat (first | refine blk_drewN ?_ _ | refine blk_drew ?_ | refine blk_alloc ?_ _)); refine blk_put (cs := #[.slice none 0 0, .string (⟨#[]⟩ : ByteArray)]) ?_ 0 _ rfl; (with_reducible repeat (first | refine blk_drewN ?_ _ | refine blk_drew ?_ | refine blk_alloc ?_ _)); exact BK128.out) Try.underlying88 rfl (by kernel_rfl)) rfl ?_
                    exact ⟨_, by first | rfl | (simp [errW_none, errW_some] <;> rfl) | (simp [*, errW_none, errW_some] <;> rfl), by first | exact Kd.R_nil _ _ _ _ _ | exact Kd.N_nil _ _ _ _ _ | exact Kd.V_nil _ _ _ _ _ | exact Kd.Q_nil _ _ _ _ _ | exact Kd.S_nil _ _ _ _ _, by repeat (first | (with_reducible first | exact HB.out | apply below_alloc | apply pw_below_drewN | apply below_drew1 | refine below_set ?_ GE128.out) | exact HB.out)⟩
                · rw [if_neg c19] at H
                  exact absurd H (by simp)
              · rw [if_neg c18] at H
                exact absurd H (by simp)
            · rw [if_neg c16] at H
              exact absurd H (by simp)
          · rw [if_neg c15] at H
            exact absurd H (by simp)
    · rw [if_neg c5] at H
      exact absurd H (by simp)

end Go.Proofs.Ytghghioidllgiaa.PJ
