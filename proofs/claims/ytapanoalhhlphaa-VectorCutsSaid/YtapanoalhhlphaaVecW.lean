
/- The example of vectors. -/
import Derived.Test.YtapanoalhhlphaaVecH
import Derived.Test.YtapanoalhhlphaaVecT
import Derived.BigRegion
import Derived.Deep.RegionWith
import Derived.Deep.DeepCutAuto
namespace Go.Proofs.Ytapanoalhhlphaa.Vec
set_option linter.unusedSimpArgs false
set_option linter.unusedVariables false
open Go Go.RowKit
attribute [local go_sem] lt_add1 lt_self1 size_ne size_ne' size_ne1 size_ne1'

theorem FunAt.of_rows {w : World} {a b n : Nat} {R1 R2 : Array Value} {T : List Int} {H : List Bool} (ha : w.heap[a]? = some (.cells R1 3 (0, 0))) (hb : w.heap[b]? = some (.cells R2 4 (0, 0))) (hT : T.length = n) (hH : H.length = n)
    (h1 : ∀ i, i < n → R1[i]? = some (iv T i)) (h2 : ∀ i, i < n → R2[i]? = some (bv H i)) : FunAt w (some ⟨a, 0, none⟩) n (some ⟨b, 0, none⟩) n T H :=
  ⟨hT, hH, fun _ => ⟨a, 0, rfl, (Array.getElem?_eq_some_iff.1 ha).1, fun i hi => by rw [Nat.zero_add, cell_of_row w a i _ _ (0, 0) ha]; exact h1 i hi⟩,
    fun _ => ⟨b, 0, rfl, (Array.getElem?_eq_some_iff.1 hb).1, fun i hi => by rw [Nat.zero_add, cell_of_row w b i _ _ (0, 0) hb]; exact h2 i hi⟩⟩

theorem two_cases {P : Nat → Prop} (h0 : P 0) (h1 : P 1) : ∀ i, i < 2 → P i := fun i hi => by
  match i, hi with
  | 0, _ => exact h0
  | 1, _ => exact h1

/-- what stands behind the example's second line. -/
structure Fin (W wx : World) (x P Q : Nat) : Prop where
  c0 : wx.cell? ⟨x, 0, none⟩ = some (.slice (some ⟨P, 0, none⟩) 2 2)
  c1 : wx.cell? ⟨x, 1, none⟩ = some (.slice (some ⟨Q, 0, none⟩) 2 2)
  lt : x < wx.heap.size
  fn : FunAt wx (some ⟨P, 0, none⟩) 2 (some ⟨Q, 0, none⟩) 2 [1, 1] [true, false]
  bel : Below W.heap.size W wx
theorem finA {W wT : World} {P Q : Nat} (h : FunAt wT (some ⟨P, 0, none⟩) 2 (some ⟨Q, 0, none⟩) 2 [1, 1] [true, false]) (hb : Below W.heap.size W wT) :
    Fin W (wT.alloc (.cells #[.slice (some ⟨P, 0, none⟩) 2 2, .slice (some ⟨Q, 0, none⟩) 2 2] 29)) wT.heap.size P Q :=
  ⟨World.cell?_alloc_new wT _ _ 0, World.cell?_alloc_new wT _ _ 1, by simp, h.next ((Below.refl _ _).alloc (Nat.le_refl _) _), hb.alloc hb.size _⟩
theorem finB {W wT : World} {P Q x : Nat} (h : FunAt wT (some ⟨P, 0, none⟩) 2 (some ⟨Q, 0, none⟩) 2 [1, 1] [true, false]) (hb : Below W.heap.size W wT) (hx : W.heap.size ≤ x) (h0 : wT.cell? ⟨x, 0, none⟩ = some (.slice none 0 0)) (h1 : wT.cell? ⟨x, 1, none⟩ = some (.slice none 0 0)) :
    Fin W ((wT.setCell ⟨x, 0, none⟩ (.slice (some ⟨P, 0, none⟩) 2 2)).setCell ⟨x, 1, none⟩ (.slice (some ⟨Q, 0, none⟩) 2 2)) x P Q := by
  have hlt : x < wT.heap.size := by have := World.block_lt_of_cell? wT _ h0; simpa using this
  have a0 : wT.cell? ⟨P, 0, none⟩ = some (.int .i64 1) := by
    obtain ⟨b, o, e, _, hc⟩ := h.2.2.1 (by omega)
    cases e
    exact hc 0 (by omega)
  have b0 : wT.cell? ⟨Q, 0, none⟩ = some (.bool true) := by
    obtain ⟨b, o, e, _, hc⟩ := h.2.2.2 (by omega)
    cases e
    exact hc 0 (by omega)
  have hP : P ≠ x := fun e => by rw [e, h0] at a0; cases a0
  have hQ : Q ≠ x := fun e => by rw [e, h0] at b0; cases b0
  have far : ∀ y o, y ≠ x → ((wT.setCell ⟨x, 0, none⟩ (.slice (some ⟨P, 0, none⟩) 2 2)).setCell ⟨x, 1, none⟩ (.slice (some ⟨Q, 0, none⟩) 2 2)).cell? ⟨y, o, none⟩ = wT.cell? ⟨y, o, none⟩ := fun y o hy => by
    rw [World.cell?_of_block (a := ⟨y, o, none⟩) (heap_setCell_other _ _ _ _ hy), World.cell?_of_block (a := ⟨y, o, none⟩) (heap_setCell_other _ _ _ _ hy)]
  refine ⟨?_, ?_, by simp; exact hlt, ⟨h.1, h.2.1, fun hn => ?_, fun hn => ?_⟩, (hb.setCell (by show W.heap.size ≤ x; exact hx) _).setCell (by show W.heap.size ≤ x; exact hx) _⟩
  · rw [World.cell?_setCell_other _ _ _ _ (by simp)]
    exact World.cell?_setCell_same' _ _ _ (by rw [h0]; rfl)
  · exact World.cell?_setCell_same' _ _ _ (by rw [World.cell?_setCell_other _ _ _ _ (by simp), h1]; rfl)
  · obtain ⟨b, o, e, hb', hc⟩ := h.2.2.1 hn
    cases e
    exact ⟨P, 0, rfl, by simpa using hb', fun i hi => (far P _ hP).trans (hc i hi)⟩
  · obtain ⟨b, o, e, hb', hc⟩ := h.2.2.2 hn
    cases e
    exact ⟨Q, 0, rfl, by simpa using hb', fun i hi => (far Q _ hQ).trans (hc i hi)⟩

set_option maxRecDepth 100000 in
set_option maxHeartbeats 4000000 in
theorem awake_any (w : World) : Calls Try.prog 5 #[] w fun e w' => e = .returned (.bool true) ∧ Below w.heap.size w w' := by
  go_enter Try.func5, Try.ntmps5
  go_upto_region 2 with fail
  generalize hW : ((w.alloc (.cells #[.int .i64 1, .int .i64 1] 3)).alloc (.cells #[.bool true, .bool false] 4)).alloc (.cells #[.slice (some ⟨w.heap.size, 0, none⟩) 2 2, .slice (some ⟨w.heap.size + 1, 0, none⟩) 2 2] 29) = W
  have ha : W.heap[w.heap.size]? = some (.cells #[.int .i64 1, .int .i64 1] 3 (0, 0)) := by
    subst hW; (repeat (first | exact at_alloc (by first | rfl | (simp; done) | (simp; omega)) | refine at_old ?_ (by first | (simp; done) | (simp; omega))))
  have hb : W.heap[w.heap.size + 1]? = some (.cells #[.bool true, .bool false] 4 (0, 0)) := by
    subst hW; (repeat (first | exact at_alloc (by first | rfl | (simp; done) | (simp; omega)) | refine at_old ?_ (by first | (simp; done) | (simp; omega))))
  have hx : W.heap[w.heap.size + 1 + 1]? = some (.cells #[.slice (some ⟨w.heap.size, 0, none⟩) 2 2, .slice (some ⟨w.heap.size + 1, 0, none⟩) 2 2] 29 (0, 0)) := by
    subst hW; exact at_alloc (by simp)
  have hbel : Below w.heap.size w W := by subst hW; (repeat (first | exact Below.refl _ _ | assumption | (refine Below.setCell ?_ (by first | (simp; done) | (simp; omega) | omega) _) | (refine Below.alloc ?_ (by first | (simp; done) | (simp; omega) | omega) _) | (refine Below.drew ?_) | (refine Below.drewN ?_ _) | (refine Below.trans ?_ (Below.mono (by assumption) (by first | (simp; done) | (simp; omega) | omega)))))
  have hz : w.heap.size + 2 < W.heap.size := by subst hW; simp
  have hA : FunAt W (some ⟨w.heap.size, 0, none⟩) 2 (some ⟨w.heap.size + 1, 0, none⟩) 2 [1, 1] [true, false] := FunAt.of_rows ha hb rfl rfl (two_cases rfl rfl) (two_cases rfl rfl)
  have y0 := cell_of_row W (w.heap.size + 1 + 1) 0 _ _ (0, 0) hx
  have y1 := cell_of_row W (w.heap.size + 1 + 1) 1 _ _ (0, 0) hx
  simp only [List.getElem?_toArray, List.getElem?_cons_zero, List.getElem?_cons_succ] at y0 y1
  have HA := Lib.hid (And.intro hA hbel)
  clear hW ha hb hx hA hbel
  have HI := Lib.hid (fun (V : World) => show Calls Try.prog 13 #[.int .i64 2] V fun e w' => ∃ a b, e = .returned (.agg #[.slice (some ⟨a, 0, none⟩) 2 2, .slice (some ⟨b, 0, none⟩) 2 2]) ∧ FunAt w' (some ⟨a, 0, none⟩) 2 (some ⟨b, 0, none⟩) 2 [0, 1] [false, false] ∧ Below V.heap.size V w' from
    (ident_any 2 (by omega) (by omega) V).mono fun e w' ⟨a, b, he, _, _, _, hra, hrb, hb⟩ => ⟨a, b, he, FunAt.of_rows hra hrb rfl rfl (two_cases rfl rfl) (two_cases rfl rfl), hb⟩)
  have HTh := Lib.hid (fun (V : World) (a b : Nat) (h1 : FunAt V (some ⟨a, 0, none⟩) 2 (some ⟨b, 0, none⟩) 2 [0, 1] [false, false]) (h2 : FunAt V (some ⟨w.heap.size, 0, none⟩) 2 (some ⟨w.heap.size + 1, 0, none⟩) 2 [1, 1] [true, false]) =>
    show Calls Try.prog 12 #[.agg #[.slice (some ⟨a, 0, none⟩) 2 2, .slice (some ⟨b, 0, none⟩) 2 2], .agg #[.slice (some ⟨w.heap.size, 0, none⟩) 2 2, .slice (some ⟨w.heap.size + 1, 0, none⟩) 2 2]] V
      fun e w' => ∃ a' b', e = .returned (.tuple #[.agg #[.slice (some ⟨a', 0, none⟩) 2 2, .slice (some ⟨b', 0, none⟩) 2 2], .int .i64 0]) ∧ FunAt w' (some ⟨a', 0, none⟩) 2 (some ⟨b', 0, none⟩) 2 [1, 1] [true, false] ∧ Below V.heap.size V w' from
    (then_any 2 2 2 2 [0, 1] [1, 1] [false, false] [true, false] _ _ _ _ 2 2 2 2 V h1 h2).mono fun e w' h => by
      have hr : Right 2 2 [0, 1] ∧ Right 2 2 [1, 1] := by decide
      rcases h with ⟨h, _⟩ | ⟨_, h, _⟩ | ⟨_, _, a', b', rfl, h, hb⟩
      · exact absurd hr h
      · exact absurd rfl h
      · exact ⟨a', b', rfl, h, hb⟩)
  have hw2 : w.heap.size + 1 + 1 < W.heap.size := hz
  go_cut [2, 3] (fun v2 v3 wx => ∃ x P Q, v2 = .pointer (some ⟨x, 0, none⟩) ∧ v3 = .int .i64 0 ∧ Fin W wx x P Q)
  case first =>
    go_region_with (first
      | (go_at_call 13; refine (HI.out _).mono ?_; rintro e wI ⟨a, b, rfl, hfI, hbI⟩; obtain ⟨c1, c2, c3⟩ := bcell3 hbI; have k0 : wI.cell? ⟨w.heap.size + 1 + 1, 0, none⟩ = some (.slice (some ⟨w.heap.size, 0, none⟩) 2 2) := (c1 _ 0 (by first | exact hw2 | (simp; omega))).trans (by first | exact y0 | simp [go_sem, hw2, y0]); have k1 : wI.cell? ⟨w.heap.size + 1 + 1, 1, none⟩ = some (.slice (some ⟨w.heap.size + 1, 0, none⟩) 2 2) := (c1 _ 1 (by first | exact hw2 | (simp; omega))).trans (by first | exact y1 | simp [go_sem, hw2, y1]); have hwI : w.heap.size + 1 + 1 < wI.heap.size := c3 _ (by first | exact hw2 | (simp; omega)); have hWI : Below W.heap.size W wI := (show Below W.heap.size W _ from (by (repeat (first | exact Below.refl _ _ | assumption | (refine Below.setCell ?_ (by first | (simp; done) | (simp; omega) | omega) _) | (refine Below.alloc ?_ (by first | (simp; done) | (simp; omega) | omega) _) | (refine Below.drew ?_) | (refine Below.drewN ?_ _) | (refine Below.trans ?_ (Below.mono (by assumption) (by first | (simp; done) | (simp; omega) | omega))))))).trans (hbI.mono (by first | exact Nat.le_refl _ | (simp; done) | (simp; omega))); have HG := Lib.hid (And.intro hfI hWI); clear hfI hbI hWI)
      | (go_at_call 12; refine (HTh.out _ _ _ (HG.out.1.next (by (repeat (first | exact Below.refl _ _ | assumption | (refine Below.setCell ?_ (by first | (simp; done) | (simp; omega) | omega) _) | (refine Below.alloc ?_ (by first | (simp; done) | (simp; omega) | omega) _) | (refine Below.drew ?_) | (refine Below.drewN ?_ _) | (refine Below.trans ?_ (Below.mono (by assumption) (by first | (simp; done) | (simp; omega) | omega))))))) (HA.out.1.next (by first | exact HG.out.2 | exact HG.out.2.alloc HG.out.2.size _))).mono ?_; rintro e wT ⟨a', b', rfl, hfT, hbT⟩; obtain ⟨d1, d2, d3⟩ := bcell3 hbT; have hWT : Below W.heap.size W wT := (show Below W.heap.size W _ from (by first | exact HG.out.2 | exact HG.out.2.alloc HG.out.2.size _)).trans (hbT.mono (by have := HG.out.2.size; first | exact this | (simp; omega))); have HX := Lib.hid (And.intro hfT hWT); clear hfT hbT hWT))
    all_goals
      go_wp2_with fail
      go_meet
      first
        | exact ⟨_, _, _, rfl, rfl, finA HX.out.1 HX.out.2⟩
        | exact ⟨_, _, _, rfl, rfl, finB HX.out.1 HX.out.2 (by first | exact Nat.le_refl _ | exact HG.out.2.size | (simp; done) | (simp; omega)) (by simp [go_sem, *]) (by simp [go_sem, *])⟩
  case rest =>
  obtain ⟨x, P, Q, rfl, rfl, hf⟩ := hcut
  have x0 := hf.c0
  have x1 := hf.c1
  have y0 := (hf.bel.cell (p := ⟨w.heap.size + 1 + 1, 0, none⟩) hw2).trans y0
  have y1 := (hf.bel.cell (p := ⟨w.heap.size + 1 + 1, 1, none⟩) hw2).trans y1
  have hx0 := hf.lt
  have hy0 := Nat.lt_of_lt_of_le hw2 hf.bel.size
  have HF := Lib.hid (And.intro hf.fn (HA.out.1.next hf.bel))
  have HB0 := Lib.hid (show Below wc.heap.size wc wc from Below.refl _ _)
  have HBW := Lib.hid (HA.out.2.trans (hf.bel.mono (by omega)))
  clear hf HI HTh
  have e1 : constT 2 2 [1, 1] = 1 := by decide
  have e2 : constB 2 2 [1, 1] = true := by decide
  have e3 : applyT 2 2 [1, 1] 0 = 1 := by decide
  have e4 : applyH 2 2 [1, 1] [true, false] 0 = true := by decide
  have e5 : decide (Right 2 2 [1, 1]) = true := by decide
  have e6 : decide (([1, 1] : List Int) = [1, 1] ∧ ([true, false] : List Bool) = [true, false]) = true := by decide
  have HC := Lib.hid (const_any 2 2 [1, 1] [true, false] (some ⟨P, 0, none⟩) (some ⟨Q, 0, none⟩) 2 2 wc HF.out.1)
  rw [e1, e2] at HC
  have HAp := Lib.hid (fun (V : World) (hV : Below wc.heap.size wc V) => apply_any 2 2 [1, 1] [true, false] (some ⟨P, 0, none⟩) (some ⟨Q, 0, none⟩) 2 2 0 V (HF.out.1.next hV))
  rw [e3, e4] at HAp
  have HRi := Lib.hid (fun (V : World) (hV : Below wc.heap.size wc V) => right_any 2 2 [1, 1] [true, false] (some ⟨P, 0, none⟩) (some ⟨Q, 0, none⟩) 2 2 V (HF.out.1.next hV))
  rw [e5] at HRi
  have HSa := Lib.hid (fun (V : World) (hV : Below wc.heap.size wc V) => same_any 2 2 2 2 [1, 1] [1, 1] [true, false] [true, false] (some ⟨P, 0, none⟩) (some ⟨Q, 0, none⟩) (some ⟨w.heap.size, 0, none⟩) (some ⟨w.heap.size + 1, 0, none⟩) 2 2 2 2 V (HF.out.1.next hV) (HF.out.2.next hV) (by omega) (by omega) (by omega) (by omega))
  rw [e6] at HSa
  clear e1 e2 e3 e4 e5 e6
  go_wp2_with fail
  refine (HC.out).mono ?_
  rintro e w1 ⟨rfl, hb⟩
  have x0 := (hb.cell (p := ⟨x, 0, none⟩) hx0).trans x0
  have x1 := (hb.cell (p := ⟨x, 1, none⟩) hx0).trans x1
  have y0 := (hb.cell (p := ⟨w.heap.size + 1 + 1, 0, none⟩) hy0).trans y0
  have y1 := (hb.cell (p := ⟨w.heap.size + 1 + 1, 1, none⟩) hy0).trans y1
  have hx1 := Nat.lt_of_lt_of_le hx0 hb.size
  have hy1 := Nat.lt_of_lt_of_le hy0 hb.size
  have HB1 := Lib.hid (HB0.out.trans (hb.mono HB0.out.size))
  clear hb
  go_wp2_with fail
  refine (HAp.out _ HB1.out).mono ?_
  rintro e w2 ⟨rfl, hb⟩
  have x0 := (hb.cell (p := ⟨x, 0, none⟩) hx1).trans x0
  have x1 := (hb.cell (p := ⟨x, 1, none⟩) hx1).trans x1
  have y0 := (hb.cell (p := ⟨w.heap.size + 1 + 1, 0, none⟩) hy1).trans y0
  have y1 := (hb.cell (p := ⟨w.heap.size + 1 + 1, 1, none⟩) hy1).trans y1
  have hx2 := Nat.lt_of_lt_of_le hx1 hb.size
  have hy2 := Nat.lt_of_lt_of_le hy1 hb.size
  have HB2 := Lib.hid (HB1.out.trans (hb.mono HB1.out.size))
  clear hb
  go_wp2_with fail
  refine (HRi.out _ HB2.out).mono ?_
  rintro e w3 ⟨rfl, hb⟩
  have x0 := (hb.cell (p := ⟨x, 0, none⟩) hx2).trans x0
  have x1 := (hb.cell (p := ⟨x, 1, none⟩) hx2).trans x1
  have y0 := (hb.cell (p := ⟨w.heap.size + 1 + 1, 0, none⟩) hy2).trans y0
  have y1 := (hb.cell (p := ⟨w.heap.size + 1 + 1, 1, none⟩) hy2).trans y1
  have hx3 := Nat.lt_of_lt_of_le hx2 hb.size
  have hy3 := Nat.lt_of_lt_of_le hy2 hb.size
  have HB3 := Lib.hid (HB2.out.trans (hb.mono HB2.out.size))
  clear hb
  go_wp2_with fail
  refine (HSa.out _ HB3.out).mono ?_
  rintro e w4 ⟨rfl, hb⟩
  have x0 := (hb.cell (p := ⟨x, 0, none⟩) hx3).trans x0
  have x1 := (hb.cell (p := ⟨x, 1, none⟩) hx3).trans x1
  have y0 := (hb.cell (p := ⟨w.heap.size + 1 + 1, 0, none⟩) hy3).trans y0
  have y1 := (hb.cell (p := ⟨w.heap.size + 1 + 1, 1, none⟩) hy3).trans y1
  have hx4 := Nat.lt_of_lt_of_le hx3 hb.size
  have hy4 := Nat.lt_of_lt_of_le hy3 hb.size
  have HB4 := Lib.hid (HB3.out.trans (hb.mono HB3.out.size))
  clear hb
  go_wp2
  go_ret
  exact ⟨rfl, HBW.out.trans (HB4.out.mono HBW.out.size)⟩
end Go.Proofs.Ytapanoalhhlphaa.Vec
