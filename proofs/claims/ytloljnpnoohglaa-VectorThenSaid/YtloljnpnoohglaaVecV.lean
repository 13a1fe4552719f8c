/- The walk of VectorThen. -/
import Derived.Test.YtloljnpnoohglaaVecW
import Derived.Test.YtloljnpnoohglaaVecP
import Derived.Test.YtloljnpnoohglaaVecS
namespace Go.Proofs.Ytloljnpnoohglaa.Vec
set_option linter.unusedSimpArgs false
set_option linter.unusedVariables false
open Go Go.RowKit
attribute [local go_sem] lt_add1 lt_self1 size_ne size_ne' size_ne1 size_ne1'
attribute [local irreducible] wpGrow

/-- what Then hands back, and why. -/
def TP (n m n' m' : Nat) (Ta Tb : List Int) (Ha Hb : List Bool) (w' : World) (P : Option Addr) (np : Nat) (Q : Option Addr) (nq : Nat) (ev : Int) : Prop :=
  (¬ (Right n m Ta ∧ Right n' m' Tb) ∧ ev = 3 ∧ np = 0 ∧ nq = 0) ∨
  ((Right n m Ta ∧ Right n' m' Tb) ∧ n ≠ n' ∧ ev = 1 ∧ np = 0 ∧ nq = 0) ∨
  ((Right n m Ta ∧ Right n' m' Tb) ∧ n = n' ∧ ev = 0 ∧ np = n ∧ nq = n ∧ FunAt w' P np Q nq (thenTs n Ta Tb) (thenHs n Ta Ha Hb))
theorem TP.next {n m n' m' : Nat} {Ta Tb : List Int} {Ha Hb : List Bool} {w w' : World} {P Q : Option Addr} {np nq : Nat} {ev : Int} (h : TP n m n' m' Ta Tb Ha Hb w P np Q nq ev) (hb : Below w.heap.size w w') : TP n m n' m' Ta Tb Ha Hb w' P np Q nq ev :=
  h.imp id (fun h => h.imp id (fun ⟨h1, h2, h3, h4, h5, h6⟩ => ⟨h1, h2, h3, h4, h5, h6.next hb⟩))
theorem then_tp (n m n' m' : Nat) (Ta Tb : List Int) (Ha Hb : List Bool) (A B A' B' : Option Addr) (c d c' d' : Nat) (w : World) (h : FunAt w A n B m Ta Ha) (h' : FunAt w A' n' B' m' Tb Hb) :
    Calls Try.prog 31 #[.agg #[.slice A n c, .slice B m d], .agg #[.slice A' n' c', .slice B' m' d']] w fun e w' => ∃ P np cp Q nq cq ev, e = .returned (.tuple #[.agg #[.slice P np cp, .slice Q nq cq], .int .i64 ev]) ∧ TP n m n' m' Ta Tb Ha Hb w' P np Q nq ev ∧ Below w.heap.size w w' := by
  refine (then_any n m n' m' Ta Tb Ha Hb A B A' B' c d c' d' w h h').mono ?_
  rintro e w' (⟨hr, rfl, hb⟩ | ⟨hr, hn, rfl, hb⟩ | ⟨hr, hn, a, b, rfl, hf, hb⟩)
  · exact ⟨none, 0, 0, none, 0, 0, 3, rfl, .inl ⟨hr, rfl, rfl, rfl⟩, hb⟩
  · exact ⟨none, 0, 0, none, 0, 0, 1, rfl, .inr (.inl ⟨hr, hn, rfl, rfl, rfl⟩), hb⟩
  · exact ⟨some ⟨a, 0, none⟩, n, n, some ⟨b, 0, none⟩, n, n, 0, rfl, .inr (.inr ⟨hr, hn, rfl, rfl, rfl, hf⟩), hb⟩

/-- the law's boxes. -/
structure LS (B : Nat) (a0 w : World) (V1 V2 : Array Value) : Prop where
  v1 : w.heap[B]? = some (.cells V1 60 (0, 0))
  v2 : w.heap[B + 1]? = some (.cells V2 60 (0, 0))
  bel : Below B a0 w
  lt : B + 1 < w.heap.size
theorem LS.below {B : Nat} {a0 w w' : World} {V1 V2 : Array Value} (h : LS B a0 w V1 V2) (hb : Below w.heap.size w w') : LS B a0 w' V1 V2 := by
  have hl := h.lt
  exact ⟨(hb.block _ (by omega)).trans h.v1, (hb.block _ hl).trans h.v2, h.bel.trans (hb.mono (by omega)), Nat.lt_of_lt_of_le hl hb.size⟩
theorem LS.cells {B : Nat} {a0 w : World} {u0 u1 t0 t1 : Value} (h : LS B a0 w #[u0, u1] #[t0, t1]) : w.cell? ⟨B, 0, none⟩ = some u0 ∧ w.cell? ⟨B, 1, none⟩ = some u1 ∧ w.cell? ⟨B + 1, 0, none⟩ = some t0 ∧ w.cell? ⟨B + 1, 1, none⟩ = some t1 :=
  ⟨cell_of_row w B 0 _ _ (0, 0) h.v1, cell_of_row w B 1 _ _ (0, 0) h.v1, cell_of_row w (B + 1) 0 _ _ (0, 0) h.v2, cell_of_row w (B + 1) 1 _ _ (0, 0) h.v2⟩

set_option maxRecDepth 100000 in
set_option maxHeartbeats 4000000 in
theorem then_walk (n m n' m' : Nat) (Ta Tb : List Int) (Ha Hb : List Bool) (A B A' B' : Option Addr) (c d c' d' : Nat) (s : Int) (w : World) (h : FunAt w A n B m Ta Ha) (h' : FunAt w A' n' B' m' Tb Hb) :
    Calls Try.prog 9 #[.agg #[.slice A n c, .slice B m d], .agg #[.slice A' n' c', .slice B' m' d'], .int .i64 s] w fun e w' => e = .returned (.bool true) ∧ Below w.heap.size w w' := by
  have HH := Lib.hid (And.intro h h')
  clear h h'
  have hls : LS w.heap.size w ((w.alloc (.cells #[.slice A n c, .slice B m d] 60)).alloc (.cells #[.slice A' n' c', .slice B' m' d'] 60)) #[.slice A n c, .slice B m d] #[.slice A' n' c', .slice B' m' d'] := by
    constructor
    all_goals first | (simp; done) | (simp; omega) | ((repeat (first | exact at_alloc (by first | rfl | (simp; done) | (simp; omega)) | refine at_old ?_ (by first | (simp; done) | (simp; omega)))); done) | ((repeat (first | exact Below.refl _ _ | assumption | (refine Below.setCell ?_ (by first | (simp; done) | (simp; omega) | omega) _) | (refine Below.alloc ?_ (by first | (simp; done) | (simp; omega) | omega) _) | (refine Below.drew ?_) | (refine Below.drewN ?_ _) | (refine Below.trans ?_ (Below.mono (by assumption) (by first | (simp; done) | (simp; omega) | omega))))); done)
  go_enter Try.func9, Try.ntmps9
  go_wp2_with fail
  generalize (w.alloc (.cells #[.slice A n c, .slice B m d] 60)).alloc (.cells #[.slice A' n' c', .slice B' m' d'] 60) = W at hls ⊢
  refine (awake_any _).mono ?_
  rintro e w1 ⟨rfl, hb⟩
  have H1 := Lib.hid (hls.below hb)
  clear hb hls
  obtain ⟨z0, z1, y0, y1⟩ := H1.out.cells
  by_cases hbig : n ≤ 200 ∧ n' ≤ 200 ∧ m ≤ 200 ∧ m' ≤ 200
  · obtain ⟨hn, hn', hm, hm'⟩ := hbig
    go_wp2_with fail
    refine (then_tp n m n' m' Ta Tb Ha Hb A B A' B' c d c' d' _ (HH.out.1.next H1.out.bel) (HH.out.2.next H1.out.bel)).mono ?_
    rintro e w2 ⟨P, np, cp, Q, nq, cq, ev, rfl, htp, hb⟩
    have hb2 : Below w2.heap.size w2 (w2.alloc (.cells #[.slice P np cp, .slice Q nq cq] 60)) := (Below.refl _ _).alloc (Nat.le_refl _) _
    have H2 := Lib.hid (And.intro ((H1.out.below hb).below hb2) (And.intro (htp.next hb2) (at_alloc (O := .cells #[.slice P np cp, .slice Q nq cq] 60) (w := w2) rfl)))
    have hx2 : w2.heap.size < (w2.alloc (.cells #[.slice P np cp, .slice Q nq cq] 60)).heap.size := by simp
    clear hb htp hb2 z0 z1 y0 y1
    obtain ⟨z0, z1, y0, y1⟩ := H2.out.1.cells
    go_wp2_with fail
    generalize w2.alloc (.cells #[.slice P np cp, .slice Q nq cq] 60) = W2 at H2 z0 z1 y0 y1 hx2 ⊢
    generalize w2.heap.size = x at H2 hx2 ⊢
    refine (apply_any n m Ta Ha A B c d s _ (HH.out.1.next H2.out.1.bel)).mono ?_
    rintro e w3 ⟨rfl, hb⟩
    have H3 := Lib.hid (And.intro (H2.out.1.below hb) (And.intro (H2.out.2.1.next hb) ((hb.block x hx2).trans H2.out.2.2)))
    have hx3 := Nat.lt_of_lt_of_le hx2 hb.size
    clear hb z0 z1 y0 y1 H2 hx2
    obtain ⟨z0, z1, y0, y1⟩ := H3.out.1.cells
    go_wp2_with fail
    refine (const_any n m Ta Ha A B c d _ (HH.out.1.next H3.out.1.bel)).mono ?_
    rintro e w4 ⟨rfl, hb⟩
    have H4 := Lib.hid (And.intro (H3.out.1.below hb) (And.intro (H3.out.2.1.next hb) ((hb.block x hx3).trans H3.out.2.2)))
    have hx4 := Nat.lt_of_lt_of_le hx3 hb.size
    clear hb z0 z1 y0 y1 H3 hx3
    obtain ⟨z0, z1, y0, y1⟩ := H4.out.1.cells
    go_wp2_with fail
    refine (rright_any n m Ta Ha A B c d _ (HH.out.1.next H4.out.1.bel)).mono ?_
    rintro e w5 ⟨rfl, hb⟩
    have H5 := Lib.hid (And.intro (H4.out.1.below hb) (And.intro (H4.out.2.1.next hb) ((hb.block x hx4).trans H4.out.2.2)))
    have hx5 := Nat.lt_of_lt_of_le hx4 hb.size
    clear hb z0 z1 y0 y1 H4 hx4
    obtain ⟨z0, z1, y0, y1⟩ := H5.out.1.cells
    have hwl := H5.out.1.lt
    have hwl0 : w.heap.size < w5.heap.size := by omega
    have HRA := Lib.hid (fun (V : World) (hV : Below w5.heap.size w5 V) => right_any n m Ta Ha A B c d V ((HH.out.1.next H5.out.1.bel).next hV))
    have HSA := Lib.hid (fun (V : World) (hV : Below w5.heap.size w5 V) => same_any n m n' m' Ta Tb Ha Hb A B A' B' c d c' d' V ((HH.out.1.next H5.out.1.bel).next hV) ((HH.out.2.next H5.out.1.bel).next hV) (by omega) (by omega) (by omega) (by omega))
    have HSR := Lib.hid (fun (V : World) (hV : Below w5.heap.size w5 V) => rsame_any n m n' m' Ta Tb Ha Hb A B A' B' c d c' d' V ((HH.out.1.next H5.out.1.bel).next hV) ((HH.out.2.next H5.out.1.bel).next hV) (by omega) (by omega) (by omega) (by omega))
    have hbr : ∃ br, br = decide (Right n m Ta) := ⟨_, rfl⟩
    obtain ⟨br, hbr⟩ := hbr
    rw [← hbr] at HRA ⊢
    have HBR := Lib.hid hbr
    generalize decide (Ta = Tb ∧ Ha = Hb) = bs at HSA HSR
    clear hbr
    go_upto_region 9 with fail
    refine wp_region_grow 13 (by kernel_rfl) (by kernel_rfl) ?_
    simp only [List.take_succ_cons, List.take_zero, List.drop_succ_cons, List.drop_zero, List.take_nil, List.drop_nil]
    ((refine wpGrow_val' rfl rfl ?_; apply Exists.intro; refine ⟨fun w1 hw1 => ?_, ?_⟩); (have hc1 := hw1.cell; go_simp; exact growUpon_ok rfl); (refine wpGrow_at (by (simp only [Act.put, List.setIfInBounds_toArray, List.set_cons_succ, List.set_cons_zero]) <;> exact rfl) ?_))
    (refine wpGrow_val' rfl rfl ?_; apply Exists.intro; refine ⟨fun w1 hw1 => ?_, ?_⟩)
    · go_simp
      exact growUpon_call (HRA.out _ hw1.below)
    (refine wpGrow_at (by (simp only [Act.put, List.setIfInBounds_toArray, List.set_cons_succ, List.set_cons_zero]) <;> exact rfl) ?_)
    iterate 3 ((refine wpGrow_val' rfl rfl ?_; apply Exists.intro; refine ⟨fun w1 hw1 => ?_, ?_⟩); (have hc1 := hw1.cell; go_simp; exact growUpon_ok rfl); (refine wpGrow_at (by (simp only [Act.put, List.setIfInBounds_toArray, List.set_cons_succ, List.set_cons_zero]) <;> exact rfl) ?_))
    iterate 2 ((refine wpGrow_val' rfl rfl ?_; apply Exists.intro; refine ⟨fun w1 hw1 => ?_, ?_⟩); (have hc1 := hw1.cell; go_simp; exact growUpon_ok rfl); (refine wpGrow_at (by (simp only [Act.put, List.setIfInBounds_toArray, List.set_cons_succ, List.set_cons_zero]) <;> exact rfl) ?_))
    (refine wpGrow_val' rfl rfl ?_; apply Exists.intro; refine ⟨fun w1 hw1 => ?_, ?_⟩)
    · go_simp
      exact growUpon_call (HSA.out _ hw1.below)
    (refine wpGrow_at (by (simp only [Act.put, List.setIfInBounds_toArray, List.set_cons_succ, List.set_cons_zero]) <;> exact rfl) ?_)
    iterate 2 ((refine wpGrow_val' rfl rfl ?_; apply Exists.intro; refine ⟨fun w1 hw1 => ?_, ?_⟩); (have hc1 := hw1.cell; go_simp; exact growUpon_ok rfl); (refine wpGrow_at (by (simp only [Act.put, List.setIfInBounds_toArray, List.set_cons_succ, List.set_cons_zero]) <;> exact rfl) ?_))
    (refine wpGrow_val' rfl rfl ?_; apply Exists.intro; refine ⟨fun w1 hw1 => ?_, ?_⟩)
    · go_simp
      exact growUpon_call (HSR.out _ hw1.below)
    (refine wpGrow_at (by (simp only [Act.put, List.setIfInBounds_toArray, List.set_cons_succ, List.set_cons_zero]) <;> exact rfl) ?_)
    iterate 2 ((refine wpGrow_val' rfl rfl ?_; apply Exists.intro; refine ⟨fun w1 hw1 => ?_, ?_⟩); (have hc1 := hw1.cell; go_simp; exact growUpon_ok rfl); (refine wpGrow_at (by (simp only [Act.put, List.setIfInBounds_toArray, List.set_cons_succ, List.set_cons_zero]) <;> exact rfl) ?_))
    refine wpGrow_nil ?_
    intro w6 hD
    have H6 := Lib.hid (And.intro (H5.out.1.below hD.below) (And.intro (H5.out.2.1.next hD.below) ((hD.below.block x hx5).trans H5.out.2.2)))
    have hx6 := Nat.lt_of_lt_of_le hx5 hD.below.size
    clear hD z0 z1 y0 y1 H5 hx5 HRA HSA HSR hwl hwl0
    obtain ⟨z0, z1, y0, y1⟩ := H6.out.1.cells
    have hr1 : br = true → Right n m Ta := fun h => by have := HBR.out; rw [h] at this; exact of_decide_eq_true this.symm
    have hr0 : br = false → ¬ Right n m Ta := fun h => by have := HBR.out; rw [h] at this; exact of_decide_eq_false this.symm
    have HR := Lib.hid (And.intro hr1 hr0)
    clear hr1 hr0
    go_upto_region 11 with fail
    go_cut [81] (fun v wx => v = .bool (br && decide (0 ≤ s) && decide (s < n)) ∧ w6 = wx)
    case first =>
      cases br
      · go_wp2_with fail
        go_meet
        exact ⟨rfl, rfl⟩
      · by_cases s0 : 0 ≤ s
        · go_wp2_with fail
          go_meet
          exact ⟨by first | rfl | (simp [s0]; done) | (simp; omega), rfl⟩
        · go_wp2_with fail
          go_meet
          exact ⟨by first | rfl | (simp [s0]; done) | (simp; omega), rfl⟩
    case rest =>
    obtain ⟨rfl, hw9⟩ := hcut
    subst hw9
    have hap : (∃ q : Nat, br = true ∧ s = q ∧ q < n ∧ applyT n m Ta s = Ta.getD q 0 ∧ applyH n m Ta Ha s = Ha.getD q false) ∨ ((br && decide (0 ≤ s) && decide (s < n)) = false ∧ applyT n m Ta s = -1 ∧ applyH n m Ta Ha s = false) := by
      by_cases hc : Right n m Ta ∧ 0 ≤ s ∧ s < n
      · refine .inl ⟨s.toNat, ?_, by omega, by omega, by unfold applyT; rw [if_pos hc], by unfold applyH; rw [if_pos hc]⟩
        rw [HBR.out]; exact decide_eq_true hc.1
      · refine .inr ⟨?_, by unfold applyT; rw [if_neg hc], by unfold applyH; rw [if_neg hc]⟩
        rw [HBR.out, ← Bool.decide_and, ← Bool.decide_and]
        exact decide_eq_false fun h => hc ⟨h.1.1, h.1.2, h.2⟩
    generalize applyT n m Ta s = av at hap ⊢
    generalize applyH n m Ta Ha s = ah at hap ⊢
    have HAP := Lib.hid hap
    clear hap
    go_upto_if 81 with fail
    go_cut [] (fun wx => w6 = wx)
    case first =>
      rcases HAP.out with ⟨q, rfl, rfl, hq, e1, e2⟩ | ⟨hf, rfl, rfl⟩
      · have hR := HR.out.1 rfl
        have hmn : m = n := hR.2.2.1
        obtain ⟨b1, o1, rfl, hbl1, hc1⟩ := HH.out.1.2.2.1 (by omega)
        obtain ⟨b2, o2, rfl, hbl2, hc2⟩ := HH.out.1.2.2.2 (by omega)
        have f1 : w6.cell? ⟨b1, o1 + q, none⟩ = some (.int .i64 (Ta.getD q 0)) := (H6.out.1.bel.cell (p := ⟨b1, _, none⟩) hbl1).trans (hc1 q hq)
        have f2 : w6.cell? ⟨b2, o2 + q, none⟩ = some (.bool (Ha.getD q false)) := (H6.out.1.bel.cell (p := ⟨b2, _, none⟩) hbl2).trans (hc2 q (by omega))
        have hq0 : (0 : Int) ≤ q := by omega
        have hq1 : (q : Int) < n := by omega
        have hq2 : (q : Int) < m := by omega
        have ec : (true && decide (0 ≤ (q : Int)) && decide ((q : Int) < n)) = true := by simp; omega
        rw [ec]
        rw [← e1] at f1
        rw [← e2] at f2
        clear hc1 hc2 hR hmn ec e1 e2
        go_wp2_with fail
        go_meet
        trivial
      · rw [hf]
        go_wp2_with fail
        go_meet
        trivial
    case rest =>
    subst hcut
    have hkc : (br = true ∧ constT n m Ta = (if AllOne Ta then Ta.getD 0 0 else -1) ∧ constB n m Ta = decide (0 ≤ constT n m Ta)) ∨ (br = false ∧ constT n m Ta = -1 ∧ constB n m Ta = false) := by
      cases hb : br
      · refine .inr ⟨rfl, ?_⟩
        have hn := HR.out.2 hb
        exact ⟨by unfold constT; rw [if_neg (fun h => hn h.1)], decide_eq_false (fun h => hn h.1)⟩
      · refine .inl ⟨rfl, ?_⟩
        have hR := HR.out.1 hb
        by_cases hA : AllOne Ta
        · have e : constT n m Ta = Ta.getD 0 0 := by unfold constT; rw [if_pos ⟨hR, hA⟩]
          have hl : 0 < Ta.length := by have := HH.out.1.1; have := hR.1; omega
          have hmem : Ta.getD 0 0 ∈ Ta := by simp only [List.getD, List.getElem?_eq_getElem hl, Option.getD_some]; exact List.getElem_mem hl
          have hge := (hR.2.2.2 _ hmem).1
          exact ⟨by rw [e, if_pos hA], by rw [e, decide_eq_true hge]; exact decide_eq_true ⟨hR, hA⟩⟩
        · have e : constT n m Ta = -1 := by unfold constT; rw [if_neg (fun h => hA h.2)]
          exact ⟨by rw [e, if_neg hA], by rw [e]; exact decide_eq_false (fun h => hA h.2)⟩
    generalize constT n m Ta = kv at hkc ⊢
    generalize constB n m Ta = kb at hkc ⊢
    have HKC := Lib.hid hkc
    clear hkc
    go_upto_if 103 with fail
    go_cut [] (fun wx => Below w6.heap.size w6 wx)
    case first =>
      rcases HKC.out with ⟨rfl, hkv, rfl⟩ | ⟨rfl, rfl, rfl⟩
      · have hR := HR.out.1 rfl
        have HRC := Lib.hid (rconst_any n m hR.1 (by omega) Ta Ha A B c d w6 (HH.out.1.next H6.out.1.bel))
        rw [← hkv] at HRC
        clear hR hkv
        go_wp2_with (go_at_call 38; refine HRC.out.mono ?_; rintro e w7 ⟨rfl, hb7⟩)
        go_meet
        assumption
      · go_wp2_with fail
        go_meet
        exact Below.refl _ _
    case rest =>
    have H7 := Lib.hid (And.intro (H6.out.1.below hcut) (And.intro (H6.out.2.1.next hcut) ((hcut.block x hx6).trans H6.out.2.2)))
    have hx7 := Nat.lt_of_lt_of_le hx6 hcut.size
    clear hcut z0 z1 y0 y1 H6 hx6 HKC HAP
    obtain ⟨z0, z1, y0, y1⟩ := H7.out.1.cells
    have x0 := cell_of_row wc x 0 _ _ (0, 0) H7.out.2.2
    have x1 := cell_of_row wc x 1 _ _ (0, 0) H7.out.2.2
    simp only [List.getElem?_toArray, List.getElem?_cons_zero, List.getElem?_cons_succ] at x0 x1
    cases br
    · have hR := HR.out.2 rfl
      rcases H7.out.2.1 with ⟨_, rfl, rfl, rfl⟩ | ⟨⟨h, _⟩, _⟩ | ⟨⟨h, _⟩, _⟩
      · go_wp2
        go_ret
        exact ⟨rfl, H7.out.1.bel⟩
      · exact absurd h hR
      · exact absurd h hR
    · have hR := HR.out.1 rfl
      have HRR := Lib.hid hR
      have HQ := Lib.hid (rright_any n' m' Tb Hb A' B' c' d' wc (HH.out.2.next H7.out.1.bel))
      clear hR
      go_wp2_with fail
      refine HQ.out.mono ?_
      rintro e w8 ⟨rfl, hb⟩
      have H8 := Lib.hid (And.intro (H7.out.1.below hb) (And.intro (H7.out.2.1.next hb) ((hb.block x hx7).trans H7.out.2.2)))
      have hx8 := Nat.lt_of_lt_of_le hx7 hb.size
      clear hb z0 z1 y0 y1 x0 x1 H7 hx7 HQ
      obtain ⟨z0, z1, y0, y1⟩ := H8.out.1.cells
      have x0 := cell_of_row w8 x 0 _ _ (0, 0) H8.out.2.2
      have x1 := cell_of_row w8 x 1 _ _ (0, 0) H8.out.2.2
      simp only [List.getElem?_toArray, List.getElem?_cons_zero, List.getElem?_cons_succ] at x0 x1
      rcases H8.out.2.1 with ⟨hno, rfl, rfl, rfl⟩ | ⟨⟨_, hR2⟩, hnn, rfl, rfl, rfl⟩ | ⟨⟨_, hR2⟩, rfl, rfl, rfl, rfl, hfun⟩
      · have hR2 : ¬ Right n' m' Tb := fun h => hno ⟨HRR.out, h⟩
        rw [decide_eq_false hR2]
        clear hR2 hno
        go_wp2
        go_ret
        exact ⟨rfl, H8.out.1.bel⟩
      · rw [decide_eq_true hR2]
        have hnn' : ¬ (n : Int) = n' := by omega
        clear hR2
        go_wp2
        go_ret
        exact ⟨rfl, H8.out.1.bel⟩
      · rw [decide_eq_true hR2]
        have HF := Lib.hid (And.intro hfun hR2)
        have hwl := H8.out.1.lt
        have hwl0 : w.heap.size < w8.heap.size := by omega
        clear hR2 hfun
        have HT := Lib.hid (fun (V : World) (hV : Below w8.heap.size w8 V) => rthen_any nq m m' Ta Tb Ha Hb A B A' B' c d c' d' V ((HH.out.1.next H8.out.1.bel).next hV) ((HH.out.2.next H8.out.1.bel).next hV) HRR.out HF.out.2)
        have HS := Lib.hid (fun (V : World) (P' Q' : Option Addr) (cp' cq' : Nat) (h1 : FunAt V P nq Q nq (thenTs nq Ta Tb) (thenHs nq Ta Ha Hb)) (h2 : FunAt V P' nq Q' nq (thenTs nq Ta Tb) (thenHs nq Ta Ha Hb)) =>
          show Calls Try.prog 37 #[.agg #[.slice P nq cp, .slice Q nq cq], .agg #[.slice P' nq cp', .slice Q' nq cq']] V fun e w' => e = .returned (.bool true) ∧ Below V.heap.size V w' from
          (rsame_any nq nq nq nq _ _ _ _ P Q P' Q' cp cq cp' cq' V h1 h2 (by omega) (by omega) (by omega) (by omega)).mono fun e w' ⟨he, hb⟩ => ⟨by rw [he, decide_eq_true ⟨rfl, rfl⟩], hb⟩)
        go_upto_region 25 with fail
        go_region_with (first
          | (go_at_call 39; refine (HT.out _ (by (repeat (first | exact Below.refl _ _ | assumption | (refine Below.setCell ?_ (by first | (simp; done) | (simp; omega) | omega) _) | (refine Below.alloc ?_ (by first | (simp; done) | (simp; omega) | omega) _) | (refine Below.drew ?_) | (refine Below.drewN ?_ _) | (refine Below.trans ?_ (Below.mono (by assumption) (by first | (simp; done) | (simp; omega) | omega))))))).mono ?_; rintro e wI ⟨P', Q', cp', cq', rfl, hfI, hbI⟩; obtain ⟨c1, c2, c3⟩ := bcell3 hbI; have k0 : wI.cell? ⟨x, 0, none⟩ = some (.slice P nq cp) := (c1 _ 0 (by first | exact hx8 | (simp; omega))).trans (by first | exact x0 | simp [go_sem, hx8, x0]); have k1 : wI.cell? ⟨x, 1, none⟩ = some (.slice Q nq cq) := (c1 _ 1 (by first | exact hx8 | (simp; omega))).trans (by first | exact x1 | simp [go_sem, hx8, x1]); have hWI : Below w8.heap.size w8 wI := (show Below w8.heap.size w8 _ from (by (repeat (first | exact Below.refl _ _ | assumption | (refine Below.setCell ?_ (by first | (simp; done) | (simp; omega) | omega) _) | (refine Below.alloc ?_ (by first | (simp; done) | (simp; omega) | omega) _) | (refine Below.drew ?_) | (refine Below.drewN ?_ _) | (refine Below.trans ?_ (Below.mono (by assumption) (by first | (simp; done) | (simp; omega) | omega))))))).trans (hbI.mono (by first | exact Nat.le_refl _ | (simp; done) | (simp; omega))); have HG := Lib.hid (And.intro hfI hWI); clear hfI hbI hWI)
          | (go_at_call 37; refine (HS.out _ _ _ _ _ (HF.out.1.next HG.out.2) HG.out.1).mono ?_; rintro e wS ⟨rfl, hbS⟩; have HX := Lib.hid (HG.out.2.trans (hbS.mono HG.out.2.size)); clear hbS))
        all_goals
          go_wp2
          go_ret
          exact ⟨rfl, H8.out.1.bel.trans (HX.out.mono H8.out.1.bel.size)⟩
  · have HB := Lib.hid H1.out.bel
    by_cases n1 : (200 : Int) < n
    · go_wp2
      go_ret
      exact ⟨rfl, HB.out⟩
    · by_cases n2 : (200 : Int) < n'
      · go_wp2
        go_ret
        exact ⟨rfl, HB.out⟩
      · by_cases n3 : (200 : Int) < m
        · go_wp2
          go_ret
          exact ⟨rfl, HB.out⟩
        · have n4 : (200 : Int) < m' := by omega
          go_wp2
          go_ret
          exact ⟨rfl, HB.out⟩
end Go.Proofs.Ytloljnpnoohglaa.Vec
