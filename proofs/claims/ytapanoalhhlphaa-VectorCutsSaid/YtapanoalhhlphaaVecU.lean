
/- VectorCuts: the walk of the statement itself. -/
import Derived.Test.YtapanoalhhlphaaVecQ
import Derived.Test.YtapanoalhhlphaaMem
import Derived.Test.YtapanoalhhlphaaQui2
namespace Go.Proofs.Ytapanoalhhlphaa.VPure
set_option linter.unusedSimpArgs false
set_option linter.unusedVariables false
open Go.RowKit Go.Proofs.Ytapanoalhhlphaa.PV Go.Proofs.YtapanoalhhlphaaW.PrintWords Go.Proofs.YtapanoalhhlphaaW.PrintLast Go.Proofs.YtapanoalhhlphaaW.PrintMore Go.Proofs.Ytapanoalhhlphaa.EvK Go.Proofs.Ytapanoalhhlphaa.Vec
set_option linter.unusedVariables false
attribute [local go_sem] lt_add1 lt_self1 size_ne size_ne' size_ne1 size_ne1'

/-- the boxes of the automaton and of the three texts. -/
structure CB (B : Nat) (a0 w : World) (V1 V2 : Array Value) : Prop where
  v1 : w.heap[B]? = some (.cells V1 25 (0, 0))
  v2 : w.heap[B + 1]? = some (.cells V2 34 (0, 0))
  bel : Below B a0 w
  lt : B + 1 < w.heap.size
section
variable {B : Nat} {a0 w w' : World} {V1 V2 : Array Value}
theorem CB.below (h : CB B a0 w V1 V2) (hb : Below w.heap.size w w') : CB B a0 w' V1 V2 := by
  have hl := h.lt
  exact ⟨(hb.block _ (by omega)).trans h.v1, (hb.block _ hl).trans h.v2, h.bel.trans (hb.mono (by omega)), Nat.lt_of_lt_of_le hl hb.size⟩
theorem CB.set (h : CB B a0 w V1 V2) (i : Nat) (v : Value) : CB B a0 (w.setCell ⟨B + 1, i, none⟩ v) V1 (V2.setIfInBounds i v) :=
  ⟨by rw [heap_setCell_other _ _ _ _ (by show B ≠ B + 1; omega)]; exact h.v1, heap_setCell_same _ _ _ _ _ _ h.v2, h.bel.setCell (by show B ≤ B + 1; omega) _, by have := h.lt; simpa using this⟩
theorem CB.drew (h : CB B a0 w V1 V2) : CB B a0 w.drew V1 V2 := ⟨h.v1, h.v2, h.bel.drew, h.lt⟩
end
/-- functions that are known. -/
def stF (A1 : Option Addr) (c1 : Nat) (A2 : Option Addr) (c2 : Nat) (A3 : Option Addr) (c3 : Nat) (C N : List Int) (Ac : List Bool) (l : List (Value × List Int × List Bool)) : PSt := PSt.of (fun w => DfaC w A1 c1 A2 c2 A3 c3 C N Ac ∧ ∀ x ∈ l, FunV w x.1 x.2.1 x.2.2) (fun h hb => ⟨h.1.below hb, fun x hx => (h.2 x hx).next hb⟩)
theorem stF_more {A1 : Option Addr} {c1 : Nat} {A2 : Option Addr} {c2 : Nat} {A3 : Option Addr} {c3 : Nat} {C N : List Int} {Ac : List Bool} {l : List (Value × List Int × List Bool)} {w w' : World} {F : Nat → Prop} {v : Value} {T : List Int} {H : List Bool}
    (h : (stF A1 c1 A2 c2 A3 c3 C N Ac l).at_ w F) (hb : Below w.heap.size w w') (hv : FunV w' v T H) : (stF A1 c1 A2 c2 A3 c3 C N Ac ((v, T, H) :: l)).at_ w' F :=
  ⟨h.1, h.2.1.below hb, fun x hx => by
    rcases List.mem_cons.1 hx with rfl | hx
    · exact hv
    · exact (h.2.2 x hx).next hb⟩

/-- what stands behind the last function. -/
structure FinZ (W wx : World) (x : Nat) (T : List Int) (H : List Bool) : Prop where
  ex : ∃ A c B d, wx.heap[x]? = some (.cells #[.slice A T.length c, .slice B H.length d] 29 (0, 0)) ∧ FunV wx (.agg #[.slice A T.length c, .slice B H.length d]) T H
  bel : Below W.heap.size W wx
theorem finzA {W wT : World} {A B : Option Addr} {c d : Nat} {T : List Int} {H : List Bool} (h : FunV wT (.agg #[.slice A T.length c, .slice B H.length d]) T H) (hb : Below W.heap.size W wT) :
    FinZ W (wT.alloc (.cells #[.slice A T.length c, .slice B H.length d] 29)) wT.heap.size T H :=
  ⟨⟨A, c, B, d, heap_alloc_new _ _, h.next ((Below.refl _ _).alloc (Nat.le_refl _) _)⟩, hb.alloc hb.size _⟩
theorem finzB {W wT : World} {A B : Option Addr} {c d x : Nat} {T : List Int} {H : List Bool} (h : FunV wT (.agg #[.slice A T.length c, .slice B H.length d]) T H) (hb : Below W.heap.size W wT) (hx : W.heap.size ≤ x) (hr : wT.heap[x]? = some (.cells #[.slice none 0 0, .slice none 0 0] 29 (0, 0))) :
    FinZ W ((wT.setCell ⟨x, 0, none⟩ (.slice A T.length c)).setCell ⟨x, 1, none⟩ (.slice B H.length d)) x T H :=
  ⟨⟨A, c, B, d, setF_blk hr _ _, h.setF hr⟩, setF_below hb hx _ _⟩

set_option maxHeartbeats 4000000 in
set_option maxRecDepth 100000 in
theorem cuts_calls (C N : List Int) (Ac : List Bool) (wd st : Int) (A1 A2 A3 : Option Addr) (c1 c2 c3 : Nat) (s0 s1 s2 : ByteArray) (w : World) (hd : DfaC w A1 c1 A2 c2 A3 c3 C N Ac) :
    Calls Try.prog 4 #[.agg #[.slice A1 C.length c1, .int .i64 wd, .int .i64 st, .slice A2 N.length c2, .slice A3 Ac.length c3], .agg #[.string s0, .string s1, .string s2]] w fun e w' => e = .returned (.bool true) ∧ Below w.heap.size w w' := by
  have HD := Lib.hid hd
  clear hd
  have hcb : CB w.heap.size w ((w.alloc (.cells #[.slice A1 C.length c1, .int .i64 wd, .int .i64 st, .slice A2 N.length c2, .slice A3 Ac.length c3] 25)).alloc (.cells #[.string s0, .string s1, .string s2] 34)) #[.slice A1 C.length c1, .int .i64 wd, .int .i64 st, .slice A2 N.length c2, .slice A3 Ac.length c3] #[.string s0, .string s1, .string s2] := by
    constructor
    all_goals first | (simp; done) | (simp; omega) | ((repeat (first | exact at_alloc (by first | rfl | (simp; done) | (simp; omega)) | refine at_old ?_ (by first | (simp; done) | (simp; omega)))); done) | ((repeat (first | exact Below.refl _ _ | assumption | (refine Below.setCell ?_ (by first | (simp; done) | (simp; omega) | omega) _) | (refine Below.alloc ?_ (by first | (simp; done) | (simp; omega) | omega) _) | (refine Below.drew ?_) | (refine Below.drewN ?_ _) | (refine Below.trans ?_ (Below.mono (by assumption) (by first | (simp; done) | (simp; omega) | omega))))); done)
  go_enter Try.func4, Try.ntmps4
  go_wp2_with fail
  generalize ((w.alloc (.cells #[.slice A1 C.length c1, .int .i64 wd, .int .i64 st, .slice A2 N.length c2, .slice A3 Ac.length c3] 25)).alloc (.cells #[.string s0, .string s1, .string s2] 34)) = W at hcb ⊢
  refine (Vec.awake_any _).mono ?_
  rintro e w1 ⟨rfl, hb⟩
  have HB := Lib.hid (hcb.below hb)
  clear hcb hb
  have y0 := cell_of_row w1 w.heap.size 0 _ _ (0, 0) HB.out.v1
  have y1 := cell_of_row w1 w.heap.size 1 _ _ (0, 0) HB.out.v1
  have y2 := cell_of_row w1 w.heap.size 2 _ _ (0, 0) HB.out.v1
  have y3 := cell_of_row w1 w.heap.size 3 _ _ (0, 0) HB.out.v1
  have y4 := cell_of_row w1 w.heap.size 4 _ _ (0, 0) HB.out.v1
  simp only [List.getElem?_toArray, List.getElem?_cons_zero, List.getElem?_cons_succ] at y0 y1 y2 y3 y4
  go_wp2_with fail
  refine (tattinglaw16_small.calls A1 c1 C wd st A2 c2 N A3 c3 Ac _ _ (HD.out.below HB.out.bel).1.1 HD.out.1.2 (HD.out.below HB.out.bel).2.1.1 HD.out.2.1.2 (HD.out.below HB.out.bel).2.2.1 HD.out.2.2.2 (small_f C N Ac wd st)).mono ?_
  rintro e w2 ⟨rfl, hb⟩
  have HB := Lib.hid (HB.out.below hb)
  clear hb y0 y1 y2 y3 y4
  by_cases hsm : Ac.length ≤ 12 ∧ N.length ≤ 4000 ∧ C.length ≤ 300
  rotate_left
  · rw [decide_eq_false hsm]
    go_wp2_with fail
    go_ret
    exact ⟨rfl, HB.out.bel⟩
  rw [decide_eq_true hsm]
  have HS := Lib.hid hsm
  clear hsm
  have hcut : ∀ s : ByteArray, ∃ t : ByteArray, ∃ Q : Nat, Q ≤ s.size ∧ t.size ≤ 20 ∧ min (s.size : Int) 20 = (Q : Int) ∧ s.extract 0 Q = t := fun s => ⟨s.extract 0 (min s.size 20), min s.size 20, by omega, by simp; omega, by omega, rfl⟩
  obtain ⟨t0, Q0, q01, q02, q03, q04⟩ := hcut s0
  obtain ⟨t1, Q1, q11, q12, q13, q14⟩ := hcut s1
  obtain ⟨t2, Q2, q21, q22, q23, q24⟩ := hcut s2
  clear hcut
  have r01 : (Q0 : Int) ≤ s0.size := by omega
  have r11 : (Q1 : Int) ≤ s1.size := by omega
  have r21 : (Q2 : Int) ≤ s2.size := by omega
  have r00 : (0 : Int) ≤ Q0 := by omega
  have r10 : (0 : Int) ≤ Q1 := by omega
  have r20 : (0 : Int) ≤ Q2 := by omega
  go_wp2_with fail
  go_loopw [5] (fun i wr => ∃ k : Nat, k ≤ 3 ∧ i = .int .i64 k ∧ CB w.heap.size w wr #[.slice A1 C.length c1, .int .i64 wd, .int .i64 st, .slice A2 N.length c2, .slice A3 Ac.length c3] #[.string (if 0 < k then t0 else s0), .string (if 1 < k then t1 else s1), .string (if 2 < k then t2 else s2)]) (fun i _ => 3 - (intOf i).toNat)
  case atStart => exact ⟨0, by omega, rfl, HB.out⟩
  case round =>
    obtain ⟨k, hk, rfl, hcb⟩ := hrel
    have z0 := cell_of_row wr (w.heap.size + 1) 0 _ _ (0, 0) hcb.v2
    have z1 := cell_of_row wr (w.heap.size + 1) 1 _ _ (0, 0) hcb.v2
    have z2 := cell_of_row wr (w.heap.size + 1) 2 _ _ (0, 0) hcb.v2
    simp only [List.getElem?_toArray, List.getElem?_cons_zero, List.getElem?_cons_succ] at z0 z1 z2
    have zf : ∀ o, wr.frozen? ⟨w.heap.size + 1, o, none⟩ = false := fun o => by simp [World.frozen?, hcb.v2]
    have hk4 : k = 0 ∨ k = 1 ∨ k = 2 ∨ k = 3 := by omega
    rcases hk4 with rfl | rfl | rfl | rfl
    · have s := hcb.set 0 (.string t0)
      have S := Lib.hid s
      have ci : ((0 : Nat) : Int) < 3 := by omega
      clear s hcb
      go_upto_region 8 with fail
      go_region
      have SX := Lib.hid S.out.drew
      clear z0 z1 z2 zf
      go_wp2
      go_roundw
      case rel => exact ⟨1, by omega, by go_num, SX.out⟩
      case measure => simp [intOf]
    · have s := hcb.set 1 (.string t1)
      have S := Lib.hid s
      clear s hcb
      go_upto_region 8 with fail
      go_region
      have SX := Lib.hid S.out.drew
      clear z0 z1 z2 zf
      go_wp2
      go_roundw
      case rel => exact ⟨2, by omega, by go_num, SX.out⟩
      case measure => simp [intOf]
    · have s := hcb.set 2 (.string t2)
      have S := Lib.hid s
      clear s hcb
      go_upto_region 8 with fail
      go_region
      have SX := Lib.hid S.out.drew
      clear z0 z1 z2 zf
      go_wp2
      go_roundw
      case rel => exact ⟨3, by omega, by go_num, SX.out⟩
      case measure => simp [intOf]
    · have HB := Lib.hid hcb
      clear hcb z0 z1 z2 zf
      have hcb := HB.out
      simp only [show (0 : Nat) < 3 from by decide, show (1 : Nat) < 3 from by decide, show (2 : Nat) < 3 from by decide, if_true] at hcb
      have HB := Lib.hid hcb
      clear hcb
      have r1 := HB.out.v1
      have r2 := HB.out.v2
      have hB0 := HB.out.lt
      generalize hBw : w.heap.size = B at HB r1 r2 hB0
      have HBW := Lib.hid hBw
      clear hBw
      have y0 := cell_of_row wr B 0 _ _ (0, 0) r1
      have y1 := cell_of_row wr B 1 _ _ (0, 0) r1
      have y2 := cell_of_row wr B 2 _ _ (0, 0) r1
      have y3 := cell_of_row wr B 3 _ _ (0, 0) r1
      have y4 := cell_of_row wr B 4 _ _ (0, 0) r1
      have z0 := cell_of_row wr (B + 1) 0 _ _ (0, 0) r2
      have z1 := cell_of_row wr (B + 1) 1 _ _ (0, 0) r2
      have z2 := cell_of_row wr (B + 1) 2 _ _ (0, 0) r2
      simp only [List.getElem?_toArray, List.getElem?_cons_zero, List.getElem?_cons_succ] at y0 y1 y2 y3 y4 z0 z1 z2
      have hB1 : B < wr.heap.size := by omega
      have HCL := Lib.hid (show ∀ w', Below wr.heap.size wr w' → (w'.cell? ⟨B, 0, none⟩ = some (.slice A1 C.length c1) ∧ w'.cell? ⟨B, 1, none⟩ = some (.int .i64 wd) ∧ w'.cell? ⟨B, 2, none⟩ = some (.int .i64 st) ∧ w'.cell? ⟨B, 3, none⟩ = some (.slice A2 N.length c2) ∧ w'.cell? ⟨B, 4, none⟩ = some (.slice A3 Ac.length c3)) ∧
          (w'.cell? ⟨B + 1, 0, none⟩ = some (.string t0) ∧ w'.cell? ⟨B + 1, 1, none⟩ = some (.string t1) ∧ w'.cell? ⟨B + 1, 2, none⟩ = some (.string t2)) ∧ B < w'.heap.size ∧ B + 1 < w'.heap.size from fun w' hb =>
        ⟨⟨(hb.cell (p := ⟨B, 0, none⟩) hB1).trans y0, (hb.cell (p := ⟨B, 1, none⟩) hB1).trans y1, (hb.cell (p := ⟨B, 2, none⟩) hB1).trans y2, (hb.cell (p := ⟨B, 3, none⟩) hB1).trans y3, (hb.cell (p := ⟨B, 4, none⟩) hB1).trans y4⟩,
          ⟨(hb.cell (p := ⟨B + 1, 0, none⟩) hB0).trans z0, (hb.cell (p := ⟨B + 1, 1, none⟩) hB0).trans z1, (hb.cell (p := ⟨B + 1, 2, none⟩) hB0).trans z2⟩, Nat.lt_of_lt_of_le hB1 hb.size, Nat.lt_of_lt_of_le hB0 hb.size⟩)
      have hst : (stF A1 c1 A2 c2 A3 c3 C N Ac []).at_ wr (fun _ => False) := ⟨fun _ h => h, HD.out.below (by rw [HBW.out]; exact HB.out.bel), fun x hx => by cases hx⟩
      have HST := Lib.hid hst
      have HR : Hid (∀ s bs w1, (resCls resAny wr (fun _ => False)).In s bs w1 → _) := Lib.hid (fun s bs w1 hw1 => HCL.out w1 (resCls_below (fun _ h => h) hw1))
      have HTX := Lib.hid (fun (s : ByteArray) (hs : s.size ≤ 1000) (l : List (Value × List Int × List Bool)) (w' : World) (F : Nat → Prop) (ha : (stF A1 c1 A2 c2 A3 c3 C N Ac l).at_ w' F) => text2 C N wd st Ac A1 A2 A3 c1 c2 c3 (by have := HS.out; omega) (by have := HS.out; omega) (by have := HS.out; omega) s hs w' ha.2.1.at_)
      clear hst y0 y1 y2 y3 y4 z0 z1 z2 r1 r2
      go_wp2_with fail
      refine wp_region_thr (resCls resAny wr (fun _ => False)) (stF A1 c1 A2 c2 A3 c3 C N Ac []) 15 [0, 1, 2, 4, 5, 6, 8, 9, 10, 3, 7, 11, 12, 13, 14] _ (by kernel_rfl) (by kernel_rfl) (by kernel_rfl) rfl (resCls_start (R := resAny) HST.out) ?_
      (simp only [List.filterMap_cons, List.filterMap_nil, List.getElem?_cons_zero, List.getElem?_cons_succ, List.drop_succ_cons, List.drop_zero, List.drop_nil])
      iterate 9 ((refine wpThr_val rfl rfl rfl ?_; apply Exists.intro; refine ⟨fun s1 bs1 w1 hb1 hw1 => ?_, ?_⟩); (have hc1 := HR.out s1 bs1 w1 hw1; go_simp; exact growUpon_ok rfl); (refine wpThr_at (by (simp only [Act.put, List.setIfInBounds_toArray, List.set_cons_succ, List.set_cons_zero]) <;> exact rfl) ?_))
      refine wpThr_call (fun v s' => s' = stF A1 c1 A2 c2 A3 c3 C N Ac [(v, tvT C N wd st Ac t0, tvH C N wd st Ac t0)]) rfl rfl rfl ?_ ?_
      · intro bs1 w1 hb1 hw1
        go_simp
        exact resCls_run hw1 (fun F ha hf => (HTX.out t0 (by omega) _ w1 F ha).mono fun e w' ⟨v, he, hfv, hb⟩ => ⟨v, _, F, he, rfl, stF_more ha hb hfv, Fr.of_below hb⟩)
      rintro va st1 rfl
      (refine wpThr_at (by (simp only [Act.put, List.setIfInBounds_toArray, List.set_cons_succ, List.set_cons_zero]) <;> exact rfl) ?_)
      refine wpThr_call (fun v s' => s' = stF A1 c1 A2 c2 A3 c3 C N Ac [(v, tvT C N wd st Ac t1, tvH C N wd st Ac t1), (va, tvT C N wd st Ac t0, tvH C N wd st Ac t0)]) rfl rfl rfl ?_ ?_
      · intro bs1 w1 hb1 hw1
        go_simp
        exact resCls_run hw1 (fun F ha hf => (HTX.out t1 (by omega) _ w1 F ha).mono fun e w' ⟨v, he, hfv, hb⟩ => ⟨v, _, F, he, rfl, stF_more ha hb hfv, Fr.of_below hb⟩)
      rintro vb st1 rfl
      (refine wpThr_at (by (simp only [Act.put, List.setIfInBounds_toArray, List.set_cons_succ, List.set_cons_zero]) <;> exact rfl) ?_)
      refine wpThr_call (fun v s' => s' = stF A1 c1 A2 c2 A3 c3 C N Ac [(v, tvT C N wd st Ac t2, tvH C N wd st Ac t2), (vb, tvT C N wd st Ac t1, tvH C N wd st Ac t1), (va, tvT C N wd st Ac t0, tvH C N wd st Ac t0)]) rfl rfl rfl ?_ ?_
      · intro bs1 w1 hb1 hw1
        go_simp
        exact resCls_run hw1 (fun F ha hf => (HTX.out t2 (by omega) _ w1 F ha).mono fun e w' ⟨v, he, hfv, hb⟩ => ⟨v, _, F, he, rfl, stF_more ha hb hfv, Fr.of_below hb⟩)
      rintro vc st1 rfl
      (refine wpThr_at (by (simp only [Act.put, List.setIfInBounds_toArray, List.set_cons_succ, List.set_cons_zero]) <;> exact rfl) ?_)
      refine wpThr_make rfl rfl (O := .cells #[.slice none 0 0, .slice none 0 0] 29 (0, 0)) (by kernel_rfl) (fun b6 hb6 hf6 => ?_)
      (refine wpThr_at (by (simp only [Act.put, List.setIfInBounds_toArray, List.set_cons_succ, List.set_cons_zero]) <;> exact rfl) ?_)
      refine wpThr_make rfl rfl (O := .cells #[.slice none 0 0, .slice none 0 0] 29 (0, 0)) (by kernel_rfl) (fun b7 hb7 hf7 => ?_)
      (refine wpThr_at (by (simp only [Act.put, List.setIfInBounds_toArray, List.set_cons_succ, List.set_cons_zero]) <;> exact rfl) ?_)
      refine wpThr_make rfl rfl (O := .cells #[.slice none 0 0, .slice none 0 0] 29 (0, 0)) (by kernel_rfl) (fun b8 hb8 hf8 => ?_)
      (refine wpThr_at (by (simp only [Act.put, List.setIfInBounds_toArray, List.set_cons_succ, List.set_cons_zero]) <;> exact rfl) ?_)
      refine wpThr_nil ?_
      intro w2 hw2
      have hbel := resCls_below (fun _ h => h) hw2
      obtain ⟨F2, ha2, _, hbs⟩ := hw2
      have p6 := (hbs (b6, .cells #[.slice none 0 0, .slice none 0 0] 29 (0, 0)) (by simp)).2.1
      have p7 := (hbs (b7, .cells #[.slice none 0 0, .slice none 0 0] 29 (0, 0)) (by simp)).2.1
      have p8 := (hbs (b8, .cells #[.slice none 0 0, .slice none 0 0] 29 (0, 0)) (by simp)).2.1
      have fv0 : FunV w2 va (tvT C N wd st Ac t0) (tvH C N wd st Ac t0) := ha2.2.2 (va, tvT C N wd st Ac t0, tvH C N wd st Ac t0) (by simp)
      have fv1 : FunV w2 vb (tvT C N wd st Ac t1) (tvH C N wd st Ac t1) := ha2.2.2 (vb, tvT C N wd st Ac t1, tvH C N wd st Ac t1) (by simp)
      have fv2 : FunV w2 vc (tvT C N wd st Ac t2) (tvH C N wd st Ac t2) := ha2.2.2 (vc, tvT C N wd st Ac t2, tvH C N wd st Ac t2) (by simp)
      have hdf := ha2.2.1
      clear ha2 hbs HTX HR
      generalize hTa : tvT C N wd st Ac t0 = Ta at fv0
      generalize hHa : tvH C N wd st Ac t0 = Ha at fv0
      generalize hTb : tvT C N wd st Ac t1 = Tb at fv1
      generalize hHb : tvH C N wd st Ac t1 = Hb at fv1
      generalize hTc : tvT C N wd st Ac t2 = Tc at fv2
      generalize hHc : tvH C N wd st Ac t2 = Hc at fv2
      have HEQ := Lib.hid (And.intro hTa (And.intro hHa (And.intro hTb (And.intro hHb (And.intro hTc hHc)))))
      clear hTa hHa hTb hHb hTc hHc
      obtain ⟨A0, k0, B0, d0, rfl, _⟩ := id fv0
      obtain ⟨A7, k7, B7, d7, rfl, _⟩ := id fv1
      obtain ⟨A8, k8, B8, d8, rfl, _⟩ := id fv2
      have n67 : b6 ≠ b7 := hf7 (b6, .cells #[.slice none 0 0, .slice none 0 0] 29 (0, 0)) (by simp)
      have n68 : b6 ≠ b8 := hf8 (b6, .cells #[.slice none 0 0, .slice none 0 0] 29 (0, 0)) (by simp)
      have n78 : b7 ≠ b8 := hf8 (b7, .cells #[.slice none 0 0, .slice none 0 0] 29 (0, 0)) (by simp)
      have s7 := (setF_other (fun e => n67 e.symm) (.slice A0 Ta.length k0) (.slice B0 Ha.length d0)).trans p7
      have s8 := (setF_other (fun e => n68 e.symm) (.slice A0 Ta.length k0) (.slice B0 Ha.length d0)).trans p8
      have s6 := setF_blk p6 (.slice A0 Ta.length k0) (.slice B0 Ha.length d0)
      have hbelS : Below wr.heap.size wr (setF w2 b6 (.slice A0 Ta.length k0) (.slice B0 Ha.length d0)) := setF_below hbel hb6 _ _
      have i0 := fv0.setF (v0 := .slice A0 Ta.length k0) (v1 := .slice B0 Ha.length d0) p6
      have i1 := fv1.setF (v0 := .slice A0 Ta.length k0) (v1 := .slice B0 Ha.length d0) p6
      have i2 := fv2.setF (v0 := .slice A0 Ta.length k0) (v1 := .slice B0 Ha.length d0) p6
      refine wpList_storeF rfl rfl rfl rfl rfl p6 ?_
      -- the second, the third
      have e8 := (setF_other (fun e => n78 e.symm) (.slice A7 Tb.length k7) (.slice B7 Hb.length d7)).trans s8
      have e6 := (setF_other n67 (.slice A7 Tb.length k7) (.slice B7 Hb.length d7)).trans s6
      have e7 := setF_blk s7 (.slice A7 Tb.length k7) (.slice B7 Hb.length d7)
      have hbelT := setF_below hbelS hb7 (.slice A7 Tb.length k7) (.slice B7 Hb.length d7)
      have j0 := i0.setF (v0 := .slice A7 Tb.length k7) (v1 := .slice B7 Hb.length d7) s7
      have j1 := i1.setF (v0 := .slice A7 Tb.length k7) (v1 := .slice B7 Hb.length d7) s7
      have j2 := i2.setF (v0 := .slice A7 Tb.length k7) (v1 := .slice B7 Hb.length d7) s7
      refine wpList_storeF rfl rfl rfl rfl rfl s7 ?_
      have g6 := (setF_other n68 (.slice A8 Tc.length k8) (.slice B8 Hc.length d8)).trans e6
      have g7 := (setF_other n78 (.slice A8 Tc.length k8) (.slice B8 Hc.length d8)).trans e7
      have g8 := setF_blk e8 (.slice A8 Tc.length k8) (.slice B8 Hc.length d8)
      have hbelU := setF_below hbelT hb8 (.slice A8 Tc.length k8) (.slice B8 Hc.length d8)
      have h0 := j0.setF (v0 := .slice A8 Tc.length k8) (v1 := .slice B8 Hc.length d8) e8
      have h1 := j1.setF (v0 := .slice A8 Tc.length k8) (v1 := .slice B8 Hc.length d8) e8
      have h2 := j2.setF (v0 := .slice A8 Tc.length k8) (v1 := .slice B8 Hc.length d8) e8
      refine wpList_storeF rfl rfl rfl rfl rfl e8 ?_
      have HU := Lib.hid (And.intro hbelU (And.intro h0 (And.intro h1 h2)))
      have HG := Lib.hid (And.intro g6 (And.intro g7 g8))
      clear fv0 fv1 fv2 hdf i0 i1 i2 j0 j1 j2 h0 h1 h2 p6 p7 p8 s6 s7 s8 e6 e7 e8 g6 g7 g8 hbel hbelS hbelT hbelU
      generalize setF (setF (setF w2 b6 (.slice A0 Ta.length k0) (.slice B0 Ha.length d0)) b7 (.slice A7 Tb.length k7) (.slice B7 Hb.length d7)) b8 (.slice A8 Tc.length k8) (.slice B8 Hc.length d8) = W3 at HU HG ⊢
      have HDF := Lib.hid (show ∀ w', Below wr.heap.size wr w' → DfaC w' A1 c1 A2 c2 A3 c3 C N Ac from fun w' hb => (HD.out.below (by rw [HBW.out]; exact HB.out.bel)).below hb)
      have hsz1 : ¬ (9223372036854775807 < t0.size + t1.size) := by omega
      have hsz2 : ¬ (9223372036854775807 < (t0 ++ t1 : ByteArray).size + t2.size) := by rw [ByteArray.size_append]; omega
      have hsz3 : ¬ (9223372036854775807 < t0.size + t1.size + t2.size) := by omega
      have hs3 : (t0 ++ t1 ++ t2 : ByteArray).size ≤ 1000 := by rw [ByteArray.size_append, ByteArray.size_append]; omega
      obtain ⟨⟨y0, y1, y2, y3, y4⟩, ⟨z0, z1, z2⟩, hl0, hl1⟩ := HCL.out W3 HU.out.1
      have HT := Lib.hid (text2 C N wd st Ac A1 A2 A3 c1 c2 c3 (by have := HS.out; omega) (by have := HS.out; omega) (by have := HS.out; omega) (t0 ++ t1 ++ t2) hs3 W3 (HDF.out W3 HU.out.1).at_)
      go_wp2_with fail
      ((with_reducible refine HT.out.mono ?_); rintro e w4 ⟨vd, rfl, fd, hb4⟩)
      generalize hTd : tvT C N wd st Ac (t0 ++ t1 ++ t2) = Td at fd
      generalize hHd : tvH C N wd st Ac (t0 ++ t1 ++ t2) = Hd at fd
      have HEQd := Lib.hid (And.intro hTd hHd)
      obtain ⟨A9, k9, B9, d9, rfl, _⟩ := id fd
      have hbA4 := hb4.alloc hb4.size (.cells #[.slice A9 Td.length k9, .slice B9 Hd.length d9] 29)
      have hnw4 := heap_alloc_new w4 (.cells #[.slice A9 Td.length k9, .slice B9 Hd.length d9] 29)
      have fd4 := fd.next ((Below.refl w4.heap.size w4).alloc (Nat.le_refl _) (.cells #[.slice A9 Td.length k9, .slice B9 Hd.length d9] 29))
      have nx : ∀ {b : Nat} {O : Obj}, W3.heap[b]? = some O → (w4.alloc (.cells #[.slice A9 Td.length k9, .slice B9 Hd.length d9] 29)).heap[b]? = some O := fun h => (hbA4.block _ (Array.getElem?_eq_some_iff.1 h).1).trans h
      have HU4 := Lib.hid (And.intro (HU.out.1.trans (hbA4.mono HU.out.1.size)) (And.intro (HU.out.2.1.next hbA4) (And.intro (HU.out.2.2.1.next hbA4) (And.intro (HU.out.2.2.2.next hbA4) fd4))))
      have HG4 := Lib.hid (And.intro (nx HG.out.1) (And.intro (nx HG.out.2.1) (And.intro (nx HG.out.2.2) hnw4)))
      clear hTd hHd fd fd4 hb4 hbA4 hnw4 nx y0 y1 y2 y3 y4 z0 z1 z2 hl0 hl1 HU HG HT
      go_upto_region 11 with fail
      generalize w4.alloc (.cells #[.slice A9 Td.length k9, .slice B9 Hd.length d9] 29) = W4 at HU4 HG4 ⊢
      generalize w4.heap.size = b9 at HG4 ⊢
      have rb6 := HG4.out.1
      have b60 := cell_of_row W4 b6 0 _ _ (0, 0) rb6
      have b61 := cell_of_row W4 b6 1 _ _ (0, 0) rb6
      have b6l := (Array.getElem?_eq_some_iff.1 rb6).1
      simp only [List.getElem?_toArray, List.getElem?_cons_zero, List.getElem?_cons_succ] at b60 b61
      have rb7 := HG4.out.2.1
      have b70 := cell_of_row W4 b7 0 _ _ (0, 0) rb7
      have b71 := cell_of_row W4 b7 1 _ _ (0, 0) rb7
      have b7l := (Array.getElem?_eq_some_iff.1 rb7).1
      simp only [List.getElem?_toArray, List.getElem?_cons_zero, List.getElem?_cons_succ] at b70 b71
      have HT := Lib.hid (then2 (HU4.out.2.1) (HU4.out.2.2.1))
      obtain ⟨tvab, htvab⟩ : ∃ tv, thenV Ta Ha Tb Hb = tv := ⟨_, rfl⟩
      rw [htvab] at HT
      have HTVab := Lib.hid htvab
      clear htvab rb6 rb7
      obtain ⟨eab, Tab, Hab⟩ := tvab
      simp only at HT
      go_wp2_with fail
      ((with_reducible refine HT.out.mono ?_); rintro e w11 ⟨vab, rfl, fab, hbx⟩)
      obtain ⟨Aab, kab, Bab, dab, rfl, _⟩ := id fab
      have hbA := hbx.alloc hbx.size (.cells #[.slice Aab Tab.length kab, .slice Bab Hab.length dab] 29)
      have hnw := heap_alloc_new w11 (.cells #[.slice Aab Tab.length kab, .slice Bab Hab.length dab] 29)
      have fnw := fab.next ((Below.refl w11.heap.size w11).alloc (Nat.le_refl _) (.cells #[.slice Aab Tab.length kab, .slice Bab Hab.length dab] 29))
      have nx : ∀ {b : Nat} {O : Obj}, W4.heap[b]? = some O → (w11.alloc (.cells #[.slice Aab Tab.length kab, .slice Bab Hab.length dab] 29)).heap[b]? = some O := fun h => (hbA.block _ (Array.getElem?_eq_some_iff.1 h).1).trans h
      have HU11 := Lib.hid (And.intro (HU4.out.1.trans (hbA.mono HU4.out.1.size)) (And.intro (HU4.out.2.1.next hbA) (And.intro (HU4.out.2.2.1.next hbA) (And.intro (HU4.out.2.2.2.1.next hbA) (And.intro (HU4.out.2.2.2.2.next hbA) fnw)))))
      have HG11 := Lib.hid (And.intro (nx HG4.out.1) (And.intro (nx HG4.out.2.1) (And.intro (nx HG4.out.2.2.1) (And.intro (nx HG4.out.2.2.2) hnw))))
      clear fab fnw hbx hbA hnw nx HU4 HG4 HT b60 b61 b6l b70 b71 b7l
      go_upto_region 12 with fail
      generalize w11.alloc (.cells #[.slice Aab Tab.length kab, .slice Bab Hab.length dab] 29) = W11 at HU11 HG11 ⊢
      generalize w11.heap.size = b10 at HG11 ⊢
      have rb7 := HG11.out.2.1
      have b70 := cell_of_row W11 b7 0 _ _ (0, 0) rb7
      have b71 := cell_of_row W11 b7 1 _ _ (0, 0) rb7
      have b7l := (Array.getElem?_eq_some_iff.1 rb7).1
      simp only [List.getElem?_toArray, List.getElem?_cons_zero, List.getElem?_cons_succ] at b70 b71
      have rb8 := HG11.out.2.2.1
      have b80 := cell_of_row W11 b8 0 _ _ (0, 0) rb8
      have b81 := cell_of_row W11 b8 1 _ _ (0, 0) rb8
      have b8l := (Array.getElem?_eq_some_iff.1 rb8).1
      simp only [List.getElem?_toArray, List.getElem?_cons_zero, List.getElem?_cons_succ] at b80 b81
      have HT := Lib.hid (then2 (HU11.out.2.2.1) (HU11.out.2.2.2.1))
      obtain ⟨tvbc, htvbc⟩ : ∃ tv, thenV Tb Hb Tc Hc = tv := ⟨_, rfl⟩
      rw [htvbc] at HT
      have HTVbc := Lib.hid htvbc
      clear htvbc rb7 rb8
      obtain ⟨ebc, Tbc, Hbc⟩ := tvbc
      simp only at HT
      go_wp2_with fail
      ((with_reducible refine HT.out.mono ?_); rintro e w12 ⟨vbc, rfl, fbc, hbx⟩)
      obtain ⟨Abc, kbc, Bbc, dbc, rfl, _⟩ := id fbc
      have hbA := hbx.alloc hbx.size (.cells #[.slice Abc Tbc.length kbc, .slice Bbc Hbc.length dbc] 29)
      have hnw := heap_alloc_new w12 (.cells #[.slice Abc Tbc.length kbc, .slice Bbc Hbc.length dbc] 29)
      have fnw := fbc.next ((Below.refl w12.heap.size w12).alloc (Nat.le_refl _) (.cells #[.slice Abc Tbc.length kbc, .slice Bbc Hbc.length dbc] 29))
      have nx : ∀ {b : Nat} {O : Obj}, W11.heap[b]? = some O → (w12.alloc (.cells #[.slice Abc Tbc.length kbc, .slice Bbc Hbc.length dbc] 29)).heap[b]? = some O := fun h => (hbA.block _ (Array.getElem?_eq_some_iff.1 h).1).trans h
      have HU12 := Lib.hid (And.intro (HU11.out.1.trans (hbA.mono HU11.out.1.size)) (And.intro (HU11.out.2.1.next hbA) (And.intro (HU11.out.2.2.1.next hbA) (And.intro (HU11.out.2.2.2.1.next hbA) (And.intro (HU11.out.2.2.2.2.1.next hbA) (And.intro (HU11.out.2.2.2.2.2.next hbA) fnw))))))
      have HG12 := Lib.hid (And.intro (nx HG11.out.1) (And.intro (nx HG11.out.2.1) (And.intro (nx HG11.out.2.2.1) (And.intro (nx HG11.out.2.2.2.1) (And.intro (nx HG11.out.2.2.2.2) hnw)))))
      clear fbc fnw hbx hbA hnw nx HU11 HG11 HT b70 b71 b7l b80 b81 b8l
      go_upto_region 13 with fail
      generalize w12.alloc (.cells #[.slice Abc Tbc.length kbc, .slice Bbc Hbc.length dbc] 29) = W12 at HU12 HG12 ⊢
      generalize w12.heap.size = b12 at HG12 ⊢
      have rb10 := HG12.out.2.2.2.2.1
      have b100 := cell_of_row W12 b10 0 _ _ (0, 0) rb10
      have b101 := cell_of_row W12 b10 1 _ _ (0, 0) rb10
      have b10l := (Array.getElem?_eq_some_iff.1 rb10).1
      simp only [List.getElem?_toArray, List.getElem?_cons_zero, List.getElem?_cons_succ] at b100 b101
      have rb8 := HG12.out.2.2.1
      have b80 := cell_of_row W12 b8 0 _ _ (0, 0) rb8
      have b81 := cell_of_row W12 b8 1 _ _ (0, 0) rb8
      have b8l := (Array.getElem?_eq_some_iff.1 rb8).1
      simp only [List.getElem?_toArray, List.getElem?_cons_zero, List.getElem?_cons_succ] at b80 b81
      have HT := Lib.hid (then2 (HU12.out.2.2.2.2.2.1) (HU12.out.2.2.2.1))
      obtain ⟨tvx, htvx⟩ : ∃ tv, thenV Tab Hab Tc Hc = tv := ⟨_, rfl⟩
      rw [htvx] at HT
      have HTVx := Lib.hid htvx
      clear htvx rb10 rb8
      obtain ⟨ex, Tx, Hx⟩ := tvx
      simp only at HT
      go_wp2_with fail
      ((with_reducible refine HT.out.mono ?_); rintro e w13 ⟨vx, rfl, fx, hbx⟩)
      obtain ⟨Ax, kx, Bx, dx, rfl, _⟩ := id fx
      have hbA := hbx.alloc hbx.size (.cells #[.slice Ax Tx.length kx, .slice Bx Hx.length dx] 29)
      have hnw := heap_alloc_new w13 (.cells #[.slice Ax Tx.length kx, .slice Bx Hx.length dx] 29)
      have fnw := fx.next ((Below.refl w13.heap.size w13).alloc (Nat.le_refl _) (.cells #[.slice Ax Tx.length kx, .slice Bx Hx.length dx] 29))
      have nx : ∀ {b : Nat} {O : Obj}, W12.heap[b]? = some O → (w13.alloc (.cells #[.slice Ax Tx.length kx, .slice Bx Hx.length dx] 29)).heap[b]? = some O := fun h => (hbA.block _ (Array.getElem?_eq_some_iff.1 h).1).trans h
      have HU13 := Lib.hid (And.intro (HU12.out.1.trans (hbA.mono HU12.out.1.size)) (And.intro (HU12.out.2.1.next hbA) (And.intro (HU12.out.2.2.1.next hbA) (And.intro (HU12.out.2.2.2.1.next hbA) (And.intro (HU12.out.2.2.2.2.1.next hbA) (And.intro (HU12.out.2.2.2.2.2.1.next hbA) (And.intro (HU12.out.2.2.2.2.2.2.next hbA) fnw)))))))
      have HG13 := Lib.hid (And.intro (nx HG12.out.1) (And.intro (nx HG12.out.2.1) (And.intro (nx HG12.out.2.2.1) (And.intro (nx HG12.out.2.2.2.1) (And.intro (nx HG12.out.2.2.2.2.1) (And.intro (nx HG12.out.2.2.2.2.2) hnw))))))
      clear fx fnw hbx hbA hnw nx HU12 HG12 HT b100 b101 b10l b80 b81 b8l
      go_upto_region 14 with fail
      generalize w13.alloc (.cells #[.slice Ax Tx.length kx, .slice Bx Hx.length dx] 29) = W13 at HU13 HG13 ⊢
      generalize w13.heap.size = b14 at HG13 ⊢
      have rb6 := HG13.out.1
      have b60 := cell_of_row W13 b6 0 _ _ (0, 0) rb6
      have b61 := cell_of_row W13 b6 1 _ _ (0, 0) rb6
      have b6l := (Array.getElem?_eq_some_iff.1 rb6).1
      simp only [List.getElem?_toArray, List.getElem?_cons_zero, List.getElem?_cons_succ] at b60 b61
      have rb12 := HG13.out.2.2.2.2.2.1
      have b120 := cell_of_row W13 b12 0 _ _ (0, 0) rb12
      have b121 := cell_of_row W13 b12 1 _ _ (0, 0) rb12
      have b12l := (Array.getElem?_eq_some_iff.1 rb12).1
      simp only [List.getElem?_toArray, List.getElem?_cons_zero, List.getElem?_cons_succ] at b120 b121
      have HT := Lib.hid (then2 (HU13.out.2.1) (HU13.out.2.2.2.2.2.2.1))
      obtain ⟨tvy, htvy⟩ : ∃ tv, thenV Ta Ha Tbc Hbc = tv := ⟨_, rfl⟩
      rw [htvy] at HT
      have HTVy := Lib.hid htvy
      clear htvy rb6 rb12
      obtain ⟨ey, Ty, Hy⟩ := tvy
      simp only at HT
      go_wp2_with fail
      ((with_reducible refine HT.out.mono ?_); rintro e w14 ⟨vy, rfl, fy, hbx⟩)
      obtain ⟨Ay, ky, By, dy, rfl, _⟩ := id fy
      have hbA := hbx.alloc hbx.size (.cells #[.slice Ay Ty.length ky, .slice By Hy.length dy] 29)
      have hnw := heap_alloc_new w14 (.cells #[.slice Ay Ty.length ky, .slice By Hy.length dy] 29)
      have fnw := fy.next ((Below.refl w14.heap.size w14).alloc (Nat.le_refl _) (.cells #[.slice Ay Ty.length ky, .slice By Hy.length dy] 29))
      have nx : ∀ {b : Nat} {O : Obj}, W13.heap[b]? = some O → (w14.alloc (.cells #[.slice Ay Ty.length ky, .slice By Hy.length dy] 29)).heap[b]? = some O := fun h => (hbA.block _ (Array.getElem?_eq_some_iff.1 h).1).trans h
      have HU14 := Lib.hid (And.intro (HU13.out.1.trans (hbA.mono HU13.out.1.size)) (And.intro (HU13.out.2.1.next hbA) (And.intro (HU13.out.2.2.1.next hbA) (And.intro (HU13.out.2.2.2.1.next hbA) (And.intro (HU13.out.2.2.2.2.1.next hbA) (And.intro (HU13.out.2.2.2.2.2.1.next hbA) (And.intro (HU13.out.2.2.2.2.2.2.1.next hbA) (And.intro (HU13.out.2.2.2.2.2.2.2.next hbA) fnw))))))))
      have HG14 := Lib.hid (And.intro (nx HG13.out.1) (And.intro (nx HG13.out.2.1) (And.intro (nx HG13.out.2.2.1) (And.intro (nx HG13.out.2.2.2.1) (And.intro (nx HG13.out.2.2.2.2.1) (And.intro (nx HG13.out.2.2.2.2.2.1) (And.intro (nx HG13.out.2.2.2.2.2.2) hnw)))))))
      clear fy fnw hbx hbA hnw nx HU13 HG13 HT b60 b61 b6l b120 b121 b12l
      go_upto_region 15 with fail
      generalize w14.alloc (.cells #[.slice Ay Ty.length ky, .slice By Hy.length dy] 29) = W14 at HU14 HG14 ⊢
      generalize w14.heap.size = b16 at HG14 ⊢
      obtain ⟨⟨_, _, _, _, y4⟩, _, hl0, _⟩ := HCL.out W14 HU14.out.1
      have r9 := HG14.out.2.2.2.1
      have x0 := cell_of_row W14 b9 0 _ _ (0, 0) r9
      have x1 := cell_of_row W14 b9 1 _ _ (0, 0) r9
      have hw9 := (Array.getElem?_eq_some_iff.1 r9).1
      simp only [List.getElem?_toArray, List.getElem?_cons_zero, List.getElem?_cons_succ] at x0 x1
      have HI := Lib.hid (fun V => ident2 Ac.length (by have := HS.out; omega) V)
      have HTH := Lib.hid (fun V va (h1 : FunV V va (idT Ac.length) (idH Ac.length)) (hb : Below W14.heap.size W14 V) => then2 h1 (HU14.out.2.2.2.2.1.next hb))
      obtain ⟨tvz, htvz⟩ : ∃ tv, thenV (idT Ac.length) (idH Ac.length) Td Hd = tv := ⟨_, rfl⟩
      rw [htvz] at HTH
      have HTVz := Lib.hid htvz
      clear htvz r9
      obtain ⟨ez, Tz, Hz⟩ := tvz
      simp only at HTH
      go_cut [18, 19] (fun v2 v3 wx => ∃ x, v2 = .pointer (some ⟨x, 0, none⟩) ∧ v3 = .int .i64 ez ∧ FinZ W14 wx x Tz Hz)
      case first =>
        go_region_with (first
          | (go_at_call 13; (with_reducible refine (HI.out _).mono ?_); rintro e wI ⟨vi, rfl, hfI, hbI⟩; obtain ⟨c1_, c2_, c3_⟩ := bcell3 hbI; have k0 : wI.cell? ⟨b9, 0, none⟩ = some (.slice A9 Td.length k9) := (c1_ _ 0 (by first | exact hw9 | (simp; omega))).trans (by first | exact x0 | simp [go_sem, hw9, x0]); have k1 : wI.cell? ⟨b9, 1, none⟩ = some (.slice B9 Hd.length d9) := (c1_ _ 1 (by first | exact hw9 | (simp; omega))).trans (by first | exact x1 | simp [go_sem, hw9, x1]); have hwI : b9 < wI.heap.size := c3_ _ (by first | exact hw9 | (simp; omega)); have hWI : Below W14.heap.size W14 wI := (show Below W14.heap.size W14 _ from (by (repeat (first | exact Below.refl _ _ | assumption | (refine Below.setCell ?_ (by first | (simp; done) | (simp; omega) | omega) _) | (refine Below.alloc ?_ (by first | (simp; done) | (simp; omega) | omega) _) | (refine Below.drew ?_) | (refine Below.drewN ?_ _) | (refine Below.trans ?_ (Below.mono (by assumption) (by first | (simp; done) | (simp; omega) | omega))))))).trans (hbI.mono (by first | exact Nat.le_refl _ | (simp; done) | (simp; omega))); have HG := Lib.hid (And.intro hfI hWI); have HBI := Lib.hid hbI; clear hfI hbI hWI)
          | (go_at_call 12; (with_reducible refine (HTH.out _ _ (HG.out.1.next (by (repeat (first | exact Below.refl _ _ | assumption | (refine Below.setCell ?_ (by first | (simp; done) | (simp; omega) | omega) _) | (refine Below.alloc ?_ (by first | (simp; done) | (simp; omega) | omega) _) | (refine Below.drew ?_) | (refine Below.drewN ?_ _) | (refine Below.trans ?_ (Below.mono (by assumption) (by first | (simp; done) | (simp; omega) | omega))))))) (by first | exact HG.out.2 | exact HG.out.2.alloc HG.out.2.size _)).mono ?_); rintro e wT ⟨vz, rfl, hfT, hbT⟩; obtain ⟨d1_, d2_, d3_⟩ := bcell3 hbT; have hWT : Below W14.heap.size W14 wT := (show Below W14.heap.size W14 _ from (by first | exact HG.out.2 | exact HG.out.2.alloc HG.out.2.size _)).trans (hbT.mono (by have := HG.out.2.size; first | exact this | (simp; omega))); have HX := Lib.hid (And.intro hfT hWT); have HBT := Lib.hid hbT; obtain ⟨Az, kz, Bz, dz, rfl, _⟩ := id hfT; clear hfT hbT hWT))
        all_goals
          go_wp2_with fail
          go_meet
          first
            | exact ⟨_, rfl, rfl, finzA HX.out.1 HX.out.2⟩
            | exact ⟨_, rfl, rfl, finzB HX.out.1 HX.out.2 (by first | exact Nat.le_refl _ | exact HG.out.2.size | (simp; done) | (simp; omega)) (by first | exact (HBT.out.block _ (by first | (simp; done) | (simp; omega))).trans (heap_alloc_new _ _) | exact (HBT.out.block _ (by first | exact Nat.lt_of_lt_of_le (by first | (simp; done) | (simp; omega)) HBI.out.size | (simp; done))).trans ((HBI.out.block _ (by first | (simp; done) | (simp; omega))).trans (heap_alloc_new _ _)))⟩
      case rest =>
      obtain ⟨x18, rfl, rfl, hf⟩ := hcut
      have HF := Lib.hid hf
      obtain ⟨Az, kz, Bz, dz, hz1, hz2⟩ := hf.ex
      have HZ := Lib.hid (And.intro hz1 hz2)
      have nz : ∀ {b : Nat} {O : Obj}, W14.heap[b]? = some O → wc.heap[b]? = some O := fun h => (HF.out.bel.block _ (Array.getElem?_eq_some_iff.1 h).1).trans h
      have q9 := nz HG14.out.2.2.2.1
      have q14 := nz HG14.out.2.2.2.2.2.2.1
      have q16 := nz HG14.out.2.2.2.2.2.2.2
      have HBC := Lib.hid (HU14.out.1.trans (HF.out.bel.mono HU14.out.1.size))
      have HW := Lib.hid (show ∀ w', Below wc.heap.size wc w' → Below w.heap.size w w' from fun w' hb => by
        have h1 : Below w.heap.size w wr := by rw [HBW.out]; exact HB.out.bel
        exact (h1.trans (HBC.out.mono h1.size)).trans (hb.mono (Nat.le_trans h1.size HBC.out.size)))
      clear hf hz1 hz2 nz y4 hl0 x0 x1 hw9 HI HTH
      by_cases hR : DRight C.length N.length Ac.length wd st C N
      · have e1 := thenV_text (Ac := Ac) hR t0 t1
        have e2 := thenV_text (Ac := Ac) hR t1 t2
        have e3 := thenV_text (Ac := Ac) hR (t0 ++ t1) t2
        have e4 := thenV_text (Ac := Ac) hR t0 (t1 ++ t2)
        have e5 := thenV_id (Ac := Ac) hR (t0 ++ t1 ++ t2)
        have has : t0 ++ (t1 ++ t2) = t0 ++ t1 ++ t2 := by rw [ByteArray.append_assoc]
        rw [has] at e4
        obtain ⟨g1, g2, g3, g4, g5, g6⟩ := HEQ.out
        rw [g1, g2, g3, g4, HTVab.out] at e1
        obtain ⟨rfl, d1⟩ : eab = 0 ∧ (Tab = tvT C N wd st Ac (t0 ++ t1) ∧ Hab = tvH C N wd st Ac (t0 ++ t1)) := by simpa using e1
        rw [g3, g4, g5, g6, HTVbc.out] at e2
        obtain ⟨rfl, d2⟩ : ebc = 0 ∧ (Tbc = tvT C N wd st Ac (t1 ++ t2) ∧ Hbc = tvH C N wd st Ac (t1 ++ t2)) := by simpa using e2
        rw [← d1.1, ← d1.2, g5, g6, HTVx.out, HEQd.out.1, HEQd.out.2] at e3
        obtain ⟨rfl, rfl, rfl⟩ : ex = 0 ∧ Tx = Td ∧ Hx = Hd := by simpa using e3
        rw [← d2.1, ← d2.2, g1, g2, HTVy.out, HEQd.out.1, HEQd.out.2] at e4
        obtain ⟨rfl, rfl, rfl⟩ : ey = 0 ∧ Ty = Tx ∧ Hy = Hx := by simpa using e4
        rw [HEQd.out.1, HEQd.out.2, HTVz.out] at e5
        obtain ⟨rfl, rfl, rfl⟩ : ez = 0 ∧ Tz = Ty ∧ Hz = Hy := by simpa using e5
        have hln := tv_len (C := C) (N := N) (wd := wd) (st := st) (Ac := Ac) (t0 ++ t1 ++ t2) (by have := HS.out; omega)
        rw [HEQd.out.1, HEQd.out.2] at hln
        have hd1 := HU14.out.2.2.2.2.1.next HF.out.bel
        have hx1 := HU14.out.2.2.2.2.2.2.2.1.next HF.out.bel
        have hy1 := HU14.out.2.2.2.2.2.2.2.2.next HF.out.bel
        have HS1 := Lib.hid (fun w' (hb : Below wc.heap.size wc w') => same2 (hx1.next hb) (hd1.next hb) hln.1 hln.2 hln.1 hln.2)
        have HS2 := Lib.hid (fun w' (hb : Below wc.heap.size wc w') => same2 (hy1.next hb) (hd1.next hb) hln.1 hln.2 hln.1 hln.2)
        have HS3 := Lib.hid (fun w' (hb : Below wc.heap.size wc w') => same2 (HZ.out.2.next hb) (hd1.next hb) hln.1 hln.2 hln.1 hln.2)
        simp only [and_self, decide_true] at HS1 HS2 HS3
        have a90 := cell_of_row wc b9 0 _ _ (0, 0) q9
        have a91 := cell_of_row wc b9 1 _ _ (0, 0) q9
        have a140 := cell_of_row wc b14 0 _ _ (0, 0) q14
        have a141 := cell_of_row wc b14 1 _ _ (0, 0) q14
        have a160 := cell_of_row wc b16 0 _ _ (0, 0) q16
        have a161 := cell_of_row wc b16 1 _ _ (0, 0) q16
        have a180 := cell_of_row wc x18 0 _ _ (0, 0) HZ.out.1
        have a181 := cell_of_row wc x18 1 _ _ (0, 0) HZ.out.1
        simp only [List.getElem?_toArray, List.getElem?_cons_zero, List.getElem?_cons_succ] at a90 a91 a140 a141 a160 a161 a180 a181
        have l9 := (Array.getElem?_eq_some_iff.1 q9).1
        have l14 := (Array.getElem?_eq_some_iff.1 q14).1
        have l16 := (Array.getElem?_eq_some_iff.1 q16).1
        have l18 := (Array.getElem?_eq_some_iff.1 HZ.out.1).1
        have HCE := Lib.hid (And.intro (And.intro a90 a91) (And.intro (And.intro a160 a161) (And.intro (And.intro a180 a181) (And.intro l9 (And.intro l16 l18)))))
        clear d1 d2 e1 e2 g1 g2 g3 g4 g5 g6 has hln hd1 hx1 hy1 q9 q14 q16 e3 e4 e5
        go_wp2_with fail
        ((with_reducible refine (HS1.out _ (Below.refl _ _)).mono ?_); rintro e w5 ⟨rfl, hb5⟩)
        have HB5 := Lib.hid hb5
        have b90 := (hb5.cell (p := ⟨b9, 0, none⟩) l9).trans HCE.out.1.1
        have b91 := (hb5.cell (p := ⟨b9, 1, none⟩) l9).trans HCE.out.1.2
        have b160 := (hb5.cell (p := ⟨b16, 0, none⟩) l16).trans HCE.out.2.1.1
        have b161 := (hb5.cell (p := ⟨b16, 1, none⟩) l16).trans HCE.out.2.1.2
        have m9 := Nat.lt_of_lt_of_le l9 hb5.size
        have m16 := Nat.lt_of_lt_of_le l16 hb5.size
        clear hb5 a90 a91 a140 a141 a160 a161 a180 a181
        go_wp2_with fail
        ((with_reducible refine (HS2.out _ HB5.out).mono ?_); rintro e w6 ⟨rfl, hb6⟩)
        have hb6 := HB5.out.trans (hb6.mono HB5.out.size)
        have HB6 := Lib.hid hb6
        have f90 := (hb6.cell (p := ⟨b9, 0, none⟩) l9).trans HCE.out.1.1
        have f91 := (hb6.cell (p := ⟨b9, 1, none⟩) l9).trans HCE.out.1.2
        have f180 := (hb6.cell (p := ⟨x18, 0, none⟩) l18).trans HCE.out.2.2.1.1
        have f181 := (hb6.cell (p := ⟨x18, 1, none⟩) l18).trans HCE.out.2.2.1.2
        have n9 := Nat.lt_of_lt_of_le l9 hb6.size
        have n18 := Nat.lt_of_lt_of_le l18 hb6.size
        clear hb6 b90 b91 b160 b161 m9 m16
        go_wp2_with fail
        ((with_reducible refine (HS3.out _ HB6.out).mono ?_); rintro e w7 ⟨rfl, hb7⟩)
        have HB7 := Lib.hid (HB6.out.trans (hb7.mono HB6.out.size))
        clear hb7 f90 f91 f180 f181 n9 n18
        go_wp2_with fail
        go_ret
        exact ⟨rfl, HW.out _ HB7.out⟩
      · have e1 : thenV Ta Ha Tb Hb = (3, [], []) := by
          have g := HEQ.out
          rw [← g.2.2.1, ← g.2.2.2.1, (cuts_bad hR t1).1, (cuts_bad hR t1).2]
          exact (thenV_bad Ta Ha).1
        rw [HTVab.out] at e1
        obtain ⟨rfl, _⟩ : eab = 3 ∧ _ := by simpa using e1
        obtain ⟨k12, e12⟩ := Ev.rounds (right12 wd st C N Ac HS.out.2.1 HS.out.2.2 HS.out.1)
        rw [decide_eq_false hR] at e12
        have E12 := Lib.hid e12
        have hdc := HDF.out wc HBC.out
        have HRI := Lib.hid (tattingref12_Right.calls k12 A1 c1 C wd st A2 c2 N A3 c3 Ac _ wc hdc.1.1 hdc.1.2 hdc.2.1.1 hdc.2.1.2 hdc.2.2.1 hdc.2.2.2 E12.out)
        obtain ⟨⟨y0, y1, y2, y3, y4⟩, _, hl0, _⟩ := HCL.out wc HBC.out
        clear e1 e12 hdc q9 q14 q16
        go_wp2_with fail
        ((with_reducible refine HRI.out.mono ?_); rintro e w5 ⟨rfl, hb5⟩)
        have HB5 := Lib.hid hb5
        clear hb5 y0 y1 y2 y3 y4 hl0
        go_wp2_with fail
        go_ret
        exact ⟨rfl, HW.out _ HB5.out⟩
end Go.Proofs.Ytapanoalhhlphaa.VPure
