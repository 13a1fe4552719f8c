
/- VectorTexts: the walk of the statement itself. -/
import Derived.Test.YtapanoalhhlphaaPVx2
import Derived.Test.YtapanoalhhlphaaVecE
import Derived.Test.YtapanoalhhlphaaVecS
import Derived.Test.YtapanoalhhlphaaVecW
import Derived.Test.YtapanoalhhlphaaKd
import Derived.Deep.RegionWith
import Derived.Deep.DeepCutAuto
namespace Go.Proofs.Ytapanoalhhlphaa.VPure
set_option linter.unusedSimpArgs false
set_option linter.unusedVariables false
open Go.RowKit Go.Proofs.Ytapanoalhhlphaa.PV Go.Proofs.YtapanoalhhlphaaW.PrintWords Go.Proofs.YtapanoalhhlphaaW.PrintLast Go.Proofs.YtapanoalhhlphaaW.PrintMore Go.Proofs.Ytapanoalhhlphaa.EvK Go.Proofs.Ytapanoalhhlphaa.Vec
set_option linter.unusedVariables false

/-- an automaton that came in. -/
def DfaC (w : World) (A1 : Option Addr) (c1 : Nat) (A2 : Option Addr) (c2 : Nat) (A3 : Option Addr) (c3 : Nat) (C N : List Int) (Ac : List Bool) : Prop :=
  ((Kd.int .i64).C w A1 C.length C ∧ C.length ≤ c1) ∧ ((Kd.int .i64).C w A2 N.length N ∧ N.length ≤ c2) ∧ (Kd.bool.C w A3 Ac.length Ac ∧ Ac.length ≤ c3)
theorem DfaC.below {w w1 : World} {A1 A2 A3 : Option Addr} {c1 c2 c3 : Nat} {C N : List Int} {Ac : List Bool} (h : DfaC w A1 c1 A2 c2 A3 c3 C N Ac) (hb : Below w.heap.size w w1) : DfaC w1 A1 c1 A2 c2 A3 c3 C N Ac :=
  ⟨⟨Kd.C_below h.1.1 hb, h.1.2⟩, ⟨Kd.C_below h.2.1.1 hb, h.2.1.2⟩, ⟨Kd.C_below h.2.2.1 hb, h.2.2.2⟩⟩
theorem DfaC.at_ {w : World} {A1 A2 A3 : Option Addr} {c1 c2 c3 : Nat} {C N : List Int} {Ac : List Bool} (h : DfaC w A1 c1 A2 c2 A3 c3 C N Ac) : DfaAt w A1 A2 A3 C.length N.length Ac.length C N Ac :=
  ⟨rfl, rfl, rfl, sl_of_C (0 : Int) h.1.1, sl_of_C (0 : Int) h.2.1.1, sl_of_C false h.2.2.1⟩
theorem small_f (C N : List Int) (Ac : List Bool) (wd st : Int) : tattinglaw16_small.f C wd st N Ac = some (decide (Ac.length ≤ 12 ∧ N.length ≤ 4000 ∧ C.length ≤ 300)) := by
  unfold tattinglaw16_small.f
  by_cases a : (Ac.length : Int) ≤ 12
  · by_cases b : (N.length : Int) ≤ 4000
    · rw [if_pos a, if_pos b]
      congr 1
      exact decide_eq_decide.2 ⟨fun h => ⟨by omega, by omega, by omega⟩, fun h => by have := h.2.2; omega⟩
    · rw [if_pos a, if_neg b, decide_eq_false (fun h => b (by have := h.2.1; omega))]
  · rw [if_neg a, decide_eq_false (fun h => a (by have := h.1; omega))]

set_option maxHeartbeats 4000000 in
set_option maxRecDepth 100000 in
theorem texts_calls (C N : List Int) (Ac : List Bool) (wd st : Int) (A1 A2 A3 : Option Addr) (c1 c2 c3 : Nat) (s : ByteArray) (w : World) (hd : DfaC w A1 c1 A2 c2 A3 c3 C N Ac) :
    Calls Try.prog 3 #[.agg #[.slice A1 C.length c1, .int .i64 wd, .int .i64 st, .slice A2 N.length c2, .slice A3 Ac.length c3], .string s] w fun e w' => e = .returned (.bool true) ∧ Below w.heap.size w w' := by
  have HD := Lib.hid hd
  clear hd
  obtain ⟨Q, hQ, hQ40, hQm⟩ : ∃ Q : Nat, Q ≤ s.size ∧ Q ≤ 40 ∧ min (s.size : Int) 40 = (Q : Int) := ⟨min s.size 40, by omega, by omega, by omega⟩
  have hq0 : (0 : Int) ≤ Q := by omega
  have hq1 : (Q : Int) ≤ s.size := by omega
  go_enter Try.func3, Try.ntmps3
  go_wp2_with fail
  have y0 : (w.alloc (.cells #[.slice A1 C.length c1, .int .i64 wd, .int .i64 st, .slice A2 N.length c2, .slice A3 Ac.length c3] 25)).cell? ⟨w.heap.size, 0, none⟩ = some (.slice A1 C.length c1) := World.cell?_alloc_new w _ _ 0
  have y1 : (w.alloc (.cells #[.slice A1 C.length c1, .int .i64 wd, .int .i64 st, .slice A2 N.length c2, .slice A3 Ac.length c3] 25)).cell? ⟨w.heap.size, 1, none⟩ = some (.int .i64 wd) := World.cell?_alloc_new w _ _ 1
  have y2 : (w.alloc (.cells #[.slice A1 C.length c1, .int .i64 wd, .int .i64 st, .slice A2 N.length c2, .slice A3 Ac.length c3] 25)).cell? ⟨w.heap.size, 2, none⟩ = some (.int .i64 st) := World.cell?_alloc_new w _ _ 2
  have y3 : (w.alloc (.cells #[.slice A1 C.length c1, .int .i64 wd, .int .i64 st, .slice A2 N.length c2, .slice A3 Ac.length c3] 25)).cell? ⟨w.heap.size, 3, none⟩ = some (.slice A2 N.length c2) := World.cell?_alloc_new w _ _ 3
  have y4 : (w.alloc (.cells #[.slice A1 C.length c1, .int .i64 wd, .int .i64 st, .slice A2 N.length c2, .slice A3 Ac.length c3] 25)).cell? ⟨w.heap.size, 4, none⟩ = some (.slice A3 Ac.length c3) := World.cell?_alloc_new w _ _ 4
  have hz : w.heap.size < (w.alloc (.cells #[.slice A1 C.length c1, .int .i64 wd, .int .i64 st, .slice A2 N.length c2, .slice A3 Ac.length c3] 25)).heap.size := by simp
  have HB := Lib.hid (show Below w.heap.size w (w.alloc (.cells #[.slice A1 C.length c1, .int .i64 wd, .int .i64 st, .slice A2 N.length c2, .slice A3 Ac.length c3] 25)) from (Below.refl _ _).alloc (Nat.le_refl _) _)
  generalize w.alloc (.cells #[.slice A1 C.length c1, .int .i64 wd, .int .i64 st, .slice A2 N.length c2, .slice A3 Ac.length c3] 25) = W at y0 y1 y2 y3 y4 hz HB ⊢
  refine (Vec.awake_any _).mono ?_
  rintro e w1 ⟨rfl, hb⟩
  have y0 := (hb.cell (p := ⟨w.heap.size, 0, none⟩) hz).trans y0
  have y1 := (hb.cell (p := ⟨w.heap.size, 1, none⟩) hz).trans y1
  have y2 := (hb.cell (p := ⟨w.heap.size, 2, none⟩) hz).trans y2
  have y3 := (hb.cell (p := ⟨w.heap.size, 3, none⟩) hz).trans y3
  have y4 := (hb.cell (p := ⟨w.heap.size, 4, none⟩) hz).trans y4
  have hz := Nat.lt_of_lt_of_le hz hb.size
  have HB := Lib.hid (HB.out.trans (hb.mono HB.out.size))
  clear hb
  go_wp2_with fail
  refine (tattinglaw16_small.calls A1 c1 C wd st A2 c2 N A3 c3 Ac _ _ (HD.out.below HB.out).1.1 HD.out.1.2 (HD.out.below HB.out).2.1.1 HD.out.2.1.2 (HD.out.below HB.out).2.2.1 HD.out.2.2.2 (small_f C N Ac wd st)).mono ?_
  rintro e w2 ⟨rfl, hb⟩
  have y0 := (hb.cell (p := ⟨w.heap.size, 0, none⟩) hz).trans y0
  have y1 := (hb.cell (p := ⟨w.heap.size, 1, none⟩) hz).trans y1
  have y2 := (hb.cell (p := ⟨w.heap.size, 2, none⟩) hz).trans y2
  have y3 := (hb.cell (p := ⟨w.heap.size, 3, none⟩) hz).trans y3
  have y4 := (hb.cell (p := ⟨w.heap.size, 4, none⟩) hz).trans y4
  have hz := Nat.lt_of_lt_of_le hz hb.size
  have HB := Lib.hid (HB.out.trans (hb.mono HB.out.size))
  clear hb
  by_cases hsm : Ac.length ≤ 12 ∧ N.length ≤ 4000 ∧ C.length ≤ 300
  rotate_left
  · rw [decide_eq_false hsm]
    go_wp2_with fail
    go_ret
    exact ⟨rfl, HB.out⟩
  rw [decide_eq_true hsm]
  have HS := Lib.hid hsm
  clear hsm
  have ht : (s.extract 0 Q).size ≤ 40 := by simp; omega
  obtain ⟨k12, e12⟩ := Ev.rounds (right12 wd st C N Ac HS.out.2.1 HS.out.2.2 HS.out.1)
  have E12 := Lib.hid e12
  clear e12
  go_upto_region 6 with fail
  generalize s.extract 0 Q = t at ht ⊢
  go_wp2_with fail
  refine (text_any C.length N.length Ac.length wd st C N Ac A1 A2 A3 c1 c2 c3 (by have := HS.out; omega) (by have := HS.out; omega) (by have := HS.out; omega) t (by omega) _ (HD.out.below HB.out).at_).mono ?_
  rintro e w3 (⟨hR, rfl, hb⟩ | ⟨hR, a, b, rfl, hfun, hb⟩)
  · rw [decide_eq_false hR] at E12
    have y0 := (hb.cell (p := ⟨w.heap.size, 0, none⟩) hz).trans y0
    have y1 := (hb.cell (p := ⟨w.heap.size, 1, none⟩) hz).trans y1
    have y2 := (hb.cell (p := ⟨w.heap.size, 2, none⟩) hz).trans y2
    have y3 := (hb.cell (p := ⟨w.heap.size, 3, none⟩) hz).trans y3
    have y4 := (hb.cell (p := ⟨w.heap.size, 4, none⟩) hz).trans y4
    have hz := Nat.lt_of_lt_of_le hz hb.size
    have HB := Lib.hid (HB.out.trans (hb.mono HB.out.size))
    clear hb
    have hb2 := (Below.refl w3.heap.size w3).alloc (Nat.le_refl _) (.cells #[.slice none 0 0, .slice none 0 0] 29)
    have x0 : (w3.alloc (.cells #[.slice none 0 0, .slice none 0 0] 29)).cell? ⟨w3.heap.size, 0, none⟩ = some (.slice none 0 0) := World.cell?_alloc_new w3 _ _ 0
    have x1 : (w3.alloc (.cells #[.slice none 0 0, .slice none 0 0] 29)).cell? ⟨w3.heap.size, 1, none⟩ = some (.slice none 0 0) := World.cell?_alloc_new w3 _ _ 1
    have hzx : w3.heap.size < (w3.alloc (.cells #[.slice none 0 0, .slice none 0 0] 29)).heap.size := by simp
    have y0 := (hb2.cell (p := ⟨w.heap.size, 0, none⟩) hz).trans y0
    have y1 := (hb2.cell (p := ⟨w.heap.size, 1, none⟩) hz).trans y1
    have y2 := (hb2.cell (p := ⟨w.heap.size, 2, none⟩) hz).trans y2
    have y3 := (hb2.cell (p := ⟨w.heap.size, 3, none⟩) hz).trans y3
    have y4 := (hb2.cell (p := ⟨w.heap.size, 4, none⟩) hz).trans y4
    have hz := Nat.lt_of_lt_of_le hz hb2.size
    have HB := Lib.hid (HB.out.trans (hb2.mono HB.out.size))
    clear hb2
    go_upto_region 7 with fail
    generalize w3.alloc (.cells #[.slice none 0 0, .slice none 0 0] 29) = w4 at x0 x1 hzx y0 y1 y2 y3 y4 hz HB  ⊢
    generalize w3.heap.size = x at x0 x1 hzx ⊢
    go_wp2_with fail
    refine (tattingref12_Right.calls k12 A1 c1 C wd st A2 c2 N A3 c3 Ac _ _ (HD.out.below HB.out).1.1 HD.out.1.2 (HD.out.below HB.out).2.1.1 HD.out.2.1.2 (HD.out.below HB.out).2.2.1 HD.out.2.2.2 E12.out).mono ?_
    rintro e w5 ⟨rfl, hb⟩
    have x0 := (hb.cell (p := ⟨x, 0, none⟩) hzx).trans x0
    have x1 := (hb.cell (p := ⟨x, 1, none⟩) hzx).trans x1
    have hzx := Nat.lt_of_lt_of_le hzx hb.size
    have y0 := (hb.cell (p := ⟨w.heap.size, 0, none⟩) hz).trans y0
    have y1 := (hb.cell (p := ⟨w.heap.size, 1, none⟩) hz).trans y1
    have y2 := (hb.cell (p := ⟨w.heap.size, 2, none⟩) hz).trans y2
    have y3 := (hb.cell (p := ⟨w.heap.size, 3, none⟩) hz).trans y3
    have y4 := (hb.cell (p := ⟨w.heap.size, 4, none⟩) hz).trans y4
    have hz := Nat.lt_of_lt_of_le hz hb.size
    have HB := Lib.hid (HB.out.trans (hb.mono HB.out.size))
    clear hb
    go_wp2_with fail
    go_ret
    exact ⟨rfl, HB.out⟩
  · have HR := Lib.hid hR
    rw [decide_eq_true hR] at E12
    obtain ⟨k16, e16⟩ := Ev.rounds (text16 wd st C N Ac t (by omega) HS.out.1 hR)
    have E16 := Lib.hid e16
    have HFU := Lib.hid hfun
    have y0 := (hb.cell (p := ⟨w.heap.size, 0, none⟩) hz).trans y0
    have y1 := (hb.cell (p := ⟨w.heap.size, 1, none⟩) hz).trans y1
    have y2 := (hb.cell (p := ⟨w.heap.size, 2, none⟩) hz).trans y2
    have y3 := (hb.cell (p := ⟨w.heap.size, 3, none⟩) hz).trans y3
    have y4 := (hb.cell (p := ⟨w.heap.size, 4, none⟩) hz).trans y4
    have hz := Nat.lt_of_lt_of_le hz hb.size
    have HB := Lib.hid (HB.out.trans (hb.mono HB.out.size))
    clear hb e16 hR hfun
    have hb2 := (Below.refl w3.heap.size w3).alloc (Nat.le_refl _) (.cells #[.slice (some ⟨a, 0, none⟩) Ac.length Ac.length, .slice (some ⟨b, 0, none⟩) Ac.length Ac.length] 29)
    have x0 : (w3.alloc (.cells #[.slice (some ⟨a, 0, none⟩) Ac.length Ac.length, .slice (some ⟨b, 0, none⟩) Ac.length Ac.length] 29)).cell? ⟨w3.heap.size, 0, none⟩ = some (.slice (some ⟨a, 0, none⟩) Ac.length Ac.length) := World.cell?_alloc_new w3 _ _ 0
    have x1 : (w3.alloc (.cells #[.slice (some ⟨a, 0, none⟩) Ac.length Ac.length, .slice (some ⟨b, 0, none⟩) Ac.length Ac.length] 29)).cell? ⟨w3.heap.size, 1, none⟩ = some (.slice (some ⟨b, 0, none⟩) Ac.length Ac.length) := World.cell?_alloc_new w3 _ _ 1
    have hzx : w3.heap.size < (w3.alloc (.cells #[.slice (some ⟨a, 0, none⟩) Ac.length Ac.length, .slice (some ⟨b, 0, none⟩) Ac.length Ac.length] 29)).heap.size := by simp
    have y0 := (hb2.cell (p := ⟨w.heap.size, 0, none⟩) hz).trans y0
    have y1 := (hb2.cell (p := ⟨w.heap.size, 1, none⟩) hz).trans y1
    have y2 := (hb2.cell (p := ⟨w.heap.size, 2, none⟩) hz).trans y2
    have y3 := (hb2.cell (p := ⟨w.heap.size, 3, none⟩) hz).trans y3
    have y4 := (hb2.cell (p := ⟨w.heap.size, 4, none⟩) hz).trans y4
    have hz := Nat.lt_of_lt_of_le hz hb2.size
    have HB := Lib.hid (HB.out.trans (hb2.mono HB.out.size))
    have HFU := Lib.hid (HFU.out.next hb2)
    clear hb2
    go_upto_region 7 with fail
    generalize w3.alloc (.cells #[.slice (some ⟨a, 0, none⟩) Ac.length Ac.length, .slice (some ⟨b, 0, none⟩) Ac.length Ac.length] 29) = w4 at x0 x1 hzx y0 y1 y2 y3 y4 hz HB HFU ⊢
    generalize w3.heap.size = x at x0 x1 hzx ⊢
    go_wp2_with fail
    refine (tattingref12_Right.calls k12 A1 c1 C wd st A2 c2 N A3 c3 Ac _ _ (HD.out.below HB.out).1.1 HD.out.1.2 (HD.out.below HB.out).2.1.1 HD.out.2.1.2 (HD.out.below HB.out).2.2.1 HD.out.2.2.2 E12.out).mono ?_
    rintro e w5 ⟨rfl, hb⟩
    have x0 := (hb.cell (p := ⟨x, 0, none⟩) hzx).trans x0
    have x1 := (hb.cell (p := ⟨x, 1, none⟩) hzx).trans x1
    have hzx := Nat.lt_of_lt_of_le hzx hb.size
    have y0 := (hb.cell (p := ⟨w.heap.size, 0, none⟩) hz).trans y0
    have y1 := (hb.cell (p := ⟨w.heap.size, 1, none⟩) hz).trans y1
    have y2 := (hb.cell (p := ⟨w.heap.size, 2, none⟩) hz).trans y2
    have y3 := (hb.cell (p := ⟨w.heap.size, 3, none⟩) hz).trans y3
    have y4 := (hb.cell (p := ⟨w.heap.size, 4, none⟩) hz).trans y4
    have hz := Nat.lt_of_lt_of_le hz hb.size
    have HB := Lib.hid (HB.out.trans (hb.mono HB.out.size))
    have HFU := Lib.hid (HFU.out.next hb)
    clear hb
    have hTl : (textT C N wd Ac t Ac.length).length = Ac.length := by simp [textT]
    have hHl : (textH C N wd Ac t Ac.length).length = Ac.length := by simp [textH]
    have hRt : Vec.Right Ac.length Ac.length (textT C N wd Ac t Ac.length) := by
      refine ⟨HR.out.2.2.2.1, HR.out.2.2.2.2.1, rfl, fun v hv => ?_⟩
      obtain ⟨j, hj, rfl⟩ := List.mem_map.1 hv
      have := rn_rng (C := C) (wd := wd) (Ac := Ac) HR.out.2.2.2.2.2.2.2.2.2 j (List.mem_range.1 hj) (tb t) (tb t).length
      rwa [List.take_length] at this
    have HT := Lib.hid (fun (V : World) (hV : Below w5.heap.size w5 V) =>
      show Calls Try.prog 10 #[.agg #[.slice A1 C.length c1, .int .i64 wd, .int .i64 st, .slice A2 N.length c2, .slice A3 Ac.length c3], .string t] V fun e w' => ∃ P cp Q cq, e = .returned (.agg #[.slice P Ac.length cp, .slice Q Ac.length cq]) ∧ FunAt w' P Ac.length Q Ac.length (textT C N wd Ac t Ac.length) (textH C N wd Ac t Ac.length) ∧ Below V.heap.size V w' from by
        have hD := HD.out.below (HB.out.trans (hV.mono HB.out.size))
        refine (tattingref16_Text.calls k16 A1 c1 C wd st A2 c2 N A3 c3 Ac t _ _ V hD.1.1 hD.1.2 hD.2.1.1 hD.2.1.2 hD.2.2.1 hD.2.2.2 E16.out).mono ?_
        rintro e w' ⟨v0, v1, rfl, r0, r1, hb⟩
        obtain ⟨P, cp, rfl, _, hP⟩ := Kd.R_reads r0
        obtain ⟨Q, cq, rfl, _, hQ⟩ := Kd.R_reads r1
        rw [hTl] at hP ⊢
        rw [hHl] at hQ ⊢
        exact ⟨P, cp, Q, cq, rfl, ⟨hTl, hHl, sl_of_C (0 : Int) hP, sl_of_C false hQ⟩, hb⟩)
    have HS2 := Lib.hid (fun (V : World) (P' Q' : Option Addr) (cp' cq' : Nat) (h1 : FunAt V (some ⟨a, 0, none⟩) Ac.length (some ⟨b, 0, none⟩) Ac.length (textT C N wd Ac t Ac.length) (textH C N wd Ac t Ac.length)) (h2 : FunAt V P' Ac.length Q' Ac.length (textT C N wd Ac t Ac.length) (textH C N wd Ac t Ac.length)) =>
      show Calls Try.prog 9 #[.agg #[.slice (some ⟨a, 0, none⟩) Ac.length Ac.length, .slice (some ⟨b, 0, none⟩) Ac.length Ac.length], .agg #[.slice P' Ac.length cp', .slice Q' Ac.length cq']] V fun e w' => e = .returned (.bool true) ∧ Below V.heap.size V w' from
      (rsame_any Ac.length Ac.length Ac.length Ac.length _ _ _ _ (some ⟨a, 0, none⟩) (some ⟨b, 0, none⟩) P' Q' Ac.length Ac.length cp' cq' V h1 h2 (by have := HS.out; omega) (by have := HS.out; omega) (by have := HS.out; omega) (by have := HS.out; omega)).mono fun e w' ⟨he, hb⟩ => ⟨by rw [he, decide_eq_true ⟨rfl, rfl⟩], hb⟩)
    have HRT := Lib.hid (fun (V : World) (hV : Below w5.heap.size w5 V) =>
      show Calls Try.prog 11 #[.agg #[.slice (some ⟨a, 0, none⟩) Ac.length Ac.length, .slice (some ⟨b, 0, none⟩) Ac.length Ac.length]] V fun e w' => e = .returned (.bool true) ∧ Below V.heap.size V w' from
      (right_any Ac.length Ac.length _ _ (some ⟨a, 0, none⟩) (some ⟨b, 0, none⟩) Ac.length Ac.length V (HFU.out.next hV)).mono fun e w' ⟨he, hb⟩ => ⟨by rw [he, decide_eq_true hRt], hb⟩)
    clear hTl hHl
    go_upto_region 9 with fail
    go_region_with (first
      | (go_at_call 10; refine (HT.out _ (by (repeat (first | exact Below.refl _ _ | assumption | (refine Below.setCell ?_ (by first | (simp; done) | (simp; omega) | omega) _) | (refine Below.alloc ?_ (by first | (simp; done) | (simp; omega) | omega) _) | (refine Below.drew ?_) | (refine Below.drewN ?_ _) | (refine Below.trans ?_ (Below.mono (by assumption) (by first | (simp; done) | (simp; omega) | omega))))))).mono ?_; rintro e wI ⟨P', cp', Q', cq', rfl, hfI, hbI⟩; obtain ⟨k1_, k2_, k3_⟩ := bcell3 hbI; have k0 : wI.cell? ⟨x, 0, none⟩ = some (.slice (some ⟨a, 0, none⟩) Ac.length Ac.length) := (k1_ _ 0 (by first | exact hzx | (simp; omega))).trans (by first | exact x0 | simp [go_sem, x0]); have k1 : wI.cell? ⟨x, 1, none⟩ = some (.slice (some ⟨b, 0, none⟩) Ac.length Ac.length) := (k1_ _ 1 (by first | exact hzx | (simp; omega))).trans (by first | exact x1 | simp [go_sem, x1]); have hzI : x < wI.heap.size := k3_ _ (by first | exact hzx | (simp; omega)); have hWI : Below w5.heap.size w5 wI := (show Below w5.heap.size w5 _ from (by (repeat (first | exact Below.refl _ _ | assumption | (refine Below.setCell ?_ (by first | (simp; done) | (simp; omega) | omega) _) | (refine Below.alloc ?_ (by first | (simp; done) | (simp; omega) | omega) _) | (refine Below.drew ?_) | (refine Below.drewN ?_ _) | (refine Below.trans ?_ (Below.mono (by assumption) (by first | (simp; done) | (simp; omega) | omega))))))).trans (hbI.mono (by first | exact Nat.le_refl _ | (simp; done) | (simp; omega))); have HG := Lib.hid (And.intro hfI hWI); clear hfI hbI hWI k1_ k2_ k3_)
      | (go_at_call 9; refine (HS2.out _ _ _ _ _ (HFU.out.next HG.out.2) HG.out.1).mono ?_; rintro e wS ⟨rfl, hbS⟩; have m0 := (hbS.cell (p := ⟨x, 0, none⟩) hzI).trans k0; have m1 := (hbS.cell (p := ⟨x, 1, none⟩) hzI).trans k1; have HX := Lib.hid (HG.out.2.trans (hbS.mono HG.out.2.size)); clear hbS)
      | (go_at_call 11; refine (HRT.out _ HX.out).mono ?_; rintro e wR ⟨rfl, hbR⟩; have HY := Lib.hid (HX.out.trans (hbR.mono HX.out.size)); clear hbR))
    all_goals
      go_wp2
      go_ret
      exact ⟨rfl, HB.out.trans (HY.out.mono HB.out.size)⟩
end Go.Proofs.Ytapanoalhhlphaa.VPure
