/- The walk of BalanceJoins. -/
import Derived.Test.YtkcocdpmangcgaaBalM
import Derived.Deep.AppendSrc
import Derived.Deep.Upon
namespace Go.Proofs.Ytkcocdpmangcgaa.Ar
set_option linter.unusedSimpArgs false
set_option linter.unusedVariables false
open Go Go.RowKit
attribute [local go_sem] lt_add1 lt_self1 size_ne size_ne' size_ne1 size_ne1'
attribute [local irreducible] wpGrow wpThr

/-- pieces behind pieces of one's own. -/
theorem run_append_pc {w : World} {B : Nat} {v v2 : Value} {l l2 : List Pc} (ty : TypeId) (hv : Owns w B v l) (hx : Owns w B v2 l2) (hB : B ≤ w.heap.size) (hlen : l.length + l2.length ≤ 1073741824) :
    ∃ v' w', (Builtin.append_ #[30, 30] ty #[v, v2]).run Try.prog w = .ok v' w' ∧ Owns w' B v' (l ++ l2) ∧ w.grownBy w' v.ownBlock ∧ (∀ b, v'.ownBlock = some b → v.ownBlock = some b ∨ w.heap.size ≤ b) := by
  obtain ⟨i0, hi, hz0, hz1, hz2⟩ := info_parts piece_info
  rcases hx.2 with ⟨rfl, h0⟩ | ⟨g, cap, cur, rfl, _⟩
  · obtain rfl : l2 = [] := List.length_eq_zero_iff.1 h0
    obtain ⟨A, c, rfl, hc, _⟩ := SlAt.of_own hv
    refine ⟨_, w, run_append_nothing w _ _ ty 90 i0 Try.underlying30 hi A l.length c hc _ (Src.ofNil w Try.underlying30 0), by simpa using hv, ⟨rfl, rfl, rfl, Nat.le_refl _, fun _ _ _ => rfl⟩, fun b hb => .inl hb⟩
  · obtain ⟨v', w', hr, h1, h2, _, h3⟩ := run_append_own_at (P := Try.prog) w B 30 ty 90 i0 (.agg #[.int .i64 0, .int .i64 0]) 2 16 Try.underlying30 hi hz0 hz1 hz2 rfl (by decide) v l.length (l.flatMap pcells) hv
      ⟨g, 0, none⟩ l2.length cap (l2.flatMap pcells) (pcells_len l2) (World.ownsRow.cells hx rfl) pieces_cells (by unfold maxLen; omega) (by omega) hB
    rw [← List.length_append, ← List.flatMap_append] at h1
    refine ⟨v', w', hr, h1, h2, fun b hb => ?_⟩
    rcases h3 with h3 | h3
    · exact .inl (h3.symm.trans hb)
    · rw [h3] at hb; cases hb; exact .inr (Nat.le_refl _)
theorem wpList_append_pc {ops : Array Oper} {rest : List Oper} {o : Oper} {a : Act} {Q : Exit → Act → World → Prop} {w : World} (s x : Operand)
    (ho : o.op = .call { callee := .builtin .append, args := #[s, x], argTypes := #[30, 30] }) (hw : Region.wanted o (yielded ops a.tmps) = true) (B : Nat) (v v2 : Value) (l l2 : List Pc) (hs : a.eval s = v) (hx : a.eval x = v2)
    (hv : Owns w B v l) (hx2 : Owns w B v2 l2) (hB : B ≤ w.heap.size) (hlen : l.length + l2.length ≤ 1073741824)
    (h : ∀ v' w', Owns w' B v' (l ++ l2) → w.grownBy w' v.ownBlock → (∀ b, v'.ownBlock = some b → v.ownBlock = some b ∨ w.heap.size ≤ b) → wpList Try.prog ops Q rest (a.put o.dst v') w') : wpList Try.prog ops Q (o :: rest) a w := by
  refine BigFrame.wpList_want hw fun K hK => ?_
  obtain ⟨v', w', hr, h1, h2, h3⟩ := run_append_pc o.type hv hx2 hB hlen
  unfold Oper.wp
  rw [run_exec_append ho hs hx hr]
  exact hK _ _ (h v' w' h1 h2 h3)
theorem below_grown2 {B : Nat} {a w w' : World} {v : Value} {l : List Pc} (hb : Below B a w) (hg : w.grownBy w' v.ownBlock) (hv : Owns w B v l) (hB : B ≤ w.heap.size) : Below B a w' := grow_below hb hg hv (Nat.le_refl _) hB

theorem empty_own (w : World) (B : Nat) (hB : B ≤ w.heap.size) : Owns (w.alloc (.cells #[] 90)) B (.slice (some ⟨w.heap.size, 0, none⟩) 0 0) [] := World.ownsRow_made w #[] 0 hB (by unfold maxLen; omega) rfl

theorem reads_two (b : Nat) (x y : Int) (w : World) (h : w.heap[b]? = some (.cells #[.int .i64 x, .int .i64 y] 38 (0, 0))) : w.cell? ⟨b, 0, none⟩ = some (.int .i64 x) ∧ w.cell? ⟨b, 1, none⟩ = some (.int .i64 y) := ⟨cell_of_row w b 0 _ _ (0, 0) h, cell_of_row w b 1 _ _ (0, 0) h⟩

/-- what the tests at the end ask. -/
theorem joins_end {L R X : T} {n : Nat} (h : JoinOk L R X n) (h1 : L.bal) (h2 : R.bal) : X.bal ∧ X.high ≤ max L.high R.high + 1 ∧ (n : Int) ≤ 1 + 3 * max (L.high - R.high) (R.high - L.high) := by
  obtain ⟨e1, e2, e3, e4, e5⟩ := h.even h1 h2
  refine ⟨e1, ?_, ?_⟩ <;> omega

theorem T.long : ∀ {X : T}, X.ok → X.size ≤ 1048576 * X.many
  | .nil, _ => by simp [T.size, T.many]
  | .leaf o n f, h => by simp only [T.ok] at h; simp only [T.size, T.many]; omega
  | .node l r, h => by
    have := T.long h.1
    have := T.long h.2.1
    simp only [T.size, T.many]
    omega

/-- a list that grows, beside an arena and lists that are read. -/
structure JEnd (w0 w : World) (g : Nat) (q : Option Nat) (ks : List Knot) (rs : List (Value × List Pc)) (v : Value) (l : List Pc) : Prop where
  ar : Arena w g q ks
  bl : Below w0.heap.size w0 w
  rd : ∀ p ∈ rs, Owns w w0.heap.size p.1 p.2 ∧ ∀ b, p.1.ownBlock = some b → v.ownBlock ≠ some b
  own : Owns w w0.heap.size v l
  apart : ∀ b, foot g q b → v.ownBlock ≠ some b
theorem JEnd.app {w0 w w' : World} {g : Nat} {q : Option Nat} {ks : List Knot} {rs : List (Value × List Pc)} {v v' : Value} {l l' : List Pc} (h : JEnd w0 w g q ks rs v l) (ho : Owns w' w0.heap.size v' l') (hg : w.grownBy w' v.ownBlock) (hat : ∀ b, v'.ownBlock = some b → v.ownBlock = some b ∨ w.heap.size ≤ b) : JEnd w0 w' g q ks rs v' l' := by
  have hfr := fr_of_grown hg hat
  refine ⟨h.ar.keep hfr (fun b hb e => h.apart b hb e), grow_below h.bl hg h.own (Nat.le_refl _) h.bl.size, fun p hp => ⟨hfr.own (h.rd p hp).1 (fun b hb => (h.rd p hp).2 b hb), fun b hb e => ?_⟩, ho, fun b hb e => ?_⟩
  · rcases hat b e with e2 | e2
    · exact (h.rd p hp).2 b hb e2
    · have := ((h.rd p hp).1.lt hb).2; omega
  · rcases hat b e with e2 | e2
    · exact h.apart b hb e2
    · rcases hb with rfl | hb
      · have := h.ar.lt; omega
      · have := h.ar.row_lt hb; omega
theorem JEnd.start {w0 w : World} {g : Nat} {q : Option Nat} {ks : List Knot} {rs : List (Value × List Pc)} (ha : Arena w g q ks) (hb : Below w0.heap.size w0 w) (hr : ∀ p ∈ rs, Owns w w0.heap.size p.1 p.2) : JEnd w0 (w.alloc (.cells #[] 90)) g q ks rs (.slice (some ⟨w.heap.size, 0, none⟩) 0 0) [] := by
  have hb2 : Below w.heap.size w (w.alloc (.cells #[] 90)) := (Below.refl _ _).alloc (Nat.le_refl _) _
  refine ⟨ha.below hb2, hb.trans (hb2.mono hb.size), fun p hp => ⟨(hr p hp).below hb2, fun b h1 h2 => ?_⟩, empty_own w _ hb.size, fun b h1 h2 => ?_⟩
  · simp [Value.ownBlock] at h2
    have := ((hr p hp).lt h1).2; omega
  · simp [Value.ownBlock] at h2
    rcases h1 with rfl | h1
    · have := ha.lt; omega
    · have := ha.row_lt h1; omega

set_option maxRecDepth 100000 in
set_option maxHeartbeats 8000000 in
theorem joins_walk (l : List Deed) (A : Option Addr) (cap : Nat) (n0 n1 : Int) (raw : Bool) (w : World) (hs : SlAt w w.heap.size 4 l.length A (fun i j => (dcells (l.getD i Deed.zero)).getD j undef)) :
    Calls Try.prog 4 #[.slice A l.length cap, .agg #[.int .i64 n0, .int .i64 n1], .bool raw] w fun e w' => e = .returned (.bool true) ∧ Below w.heap.size w w' := by
  have HS := Lib.hid hs
  clear hs
  go_enter Try.func4, Try.ntmps4
  go_wp2_with fail
  have hb0 : Below w.heap.size w (w.alloc (.cells #[.int .i64 n0, .int .i64 n1] 38)) := (Below.refl _ _).alloc (Nat.le_refl _) _
  have hk0 : (w.alloc (.cells #[.int .i64 n0, .int .i64 n1] 38)).heap[w.heap.size]? = some (.cells #[.int .i64 n0, .int .i64 n1] 38 (0, 0)) := heap_alloc_new _ _
  refine (awake21 _).mono ?_
  rintro e w1 ⟨rfl, hb1⟩
  have hk1 := (hb1.block _ (Array.getElem?_eq_some_iff.1 hk0).1).trans hk0
  have hb01 := hb0.trans (hb1.mono hb0.size)
  have HBL := Lib.hid (build_any5 l A cap w1 ((HS.out.below hb01).more hb01.size))
  have H1 := Lib.hid (And.intro hb01 hk1)
  clear hb0 hk0 hb1 hk1 hb01 HS
  go_wp2_with fail
  ((with_reducible refine HBL.out.mono ?_); rintro e w2 ⟨v, rfl, g, q, ks, B, c, rfl, hh, h5, hn, hb2⟩)
  have hks : ks.length ≤ small := by unfold small; omega
  have hbk1 := (Array.getElem?_eq_some_iff.1 H1.out.2).1
  have hk2 := (hb2.block _ hbk1).trans H1.out.2
  have hb02 := H1.out.1.trans (hb2.mono H1.out.1.size)
  have hgl : g < w2.heap.size := hh.ar.lt
  have H2 := Lib.hid (And.intro hb02 (And.intro hh h5))
  have hbk2 : w.heap.size < w2.heap.size := by have := hb2.size; omega
  obtain ⟨c0, c1⟩ := reads_two _ _ _ _ hk2
  clear hb2 hh h5 H1 HBL hk2 hb02
  go_wp2_with fail
  have HRP := Lib.hid (fun (k : Int) w' => rope_any k ks.length raw w' (by omega))
  refine wp_region_grow 14 (by kernel_rfl) (by kernel_rfl) ?_
  simp only [List.take_succ_cons, List.take_zero, List.drop_succ_cons, List.drop_zero, List.take_nil, List.drop_nil]
  iterate 5 ((refine wpGrow_val' rfl rfl ?_; apply Exists.intro; refine ⟨fun w1 hw1 => ?_, ?_⟩); (have hc1 := hw1.cell; go_simp; exact growUpon_ok rfl); (refine wpGrow_at (by (simp only [Act.put, List.setIfInBounds_toArray, List.set_cons_succ, List.set_cons_zero]) <;> exact rfl) ?_))
  (refine wpGrow_val' rfl rfl ?_; apply Exists.intro; refine ⟨fun w1 hw1 => ?_, ?_⟩)
  · go_simp
    exact growUpon_call ((HRP.out n0 _).mono fun e w' ⟨h1, h2⟩ => ⟨h1, h2 ▸ Below.refl _ _⟩)
  (refine wpGrow_at (by (simp only [Act.put, List.setIfInBounds_toArray, List.set_cons_succ, List.set_cons_zero]) <;> exact rfl) ?_)
  iterate 5 ((refine wpGrow_val' rfl rfl ?_; apply Exists.intro; refine ⟨fun w1 hw1 => ?_, ?_⟩); (have hc1 := hw1.cell; go_simp; exact growUpon_ok rfl); (refine wpGrow_at (by (simp only [Act.put, List.setIfInBounds_toArray, List.set_cons_succ, List.set_cons_zero]) <;> exact rfl) ?_))
  (refine wpGrow_val' rfl rfl ?_; apply Exists.intro; refine ⟨fun w1 hw1 => ?_, ?_⟩)
  · go_simp
    exact growUpon_call ((HRP.out n1 _).mono fun e w' ⟨h1, h2⟩ => ⟨h1, h2 ▸ Below.refl _ _⟩)
  (refine wpGrow_at (by (simp only [Act.put, List.setIfInBounds_toArray, List.set_cons_succ, List.set_cons_zero]) <;> exact rfl) ?_)
  iterate 2 ((refine wpGrow_val' rfl rfl ?_; apply Exists.intro; refine ⟨fun w1 hw1 => ?_, ?_⟩); (have hc1 := hw1.cell; go_simp; exact growUpon_ok rfl); (refine wpGrow_at (by (simp only [Act.put, List.setIfInBounds_toArray, List.set_cons_succ, List.set_cons_zero]) <;> exact rfl) ?_))
  refine wpGrow_nil ?_
  intro w3 hD
  have H3 := Lib.hid (And.intro (H2.out.1.trans (hD.below.mono H2.out.1.size)) (And.intro (H2.out.2.1.below hD.below) H2.out.2.2))
  have hgl3 : g < w3.heap.size := H3.out.2.1.ar.lt
  have hrl : 0 ≤ ropeOf n0 ks.length false ∧ ropeOf n0 ks.length false ≤ ks.length := ropeOf_in n0 ks.length
  clear hD c0 c1 hbk2 hgl H2 hrl HRP
  generalize ropeOf n0 ks.length raw = x
  generalize ropeOf n1 ks.length raw = y
  have hTx : ∃ pl bb, Tells g q ks B c x pl bb ∧ ((0 ≤ x ∧ x ≤ ks.length) → ∃ X, Is ks x X ∧ pl = pieces X ∧ bb = balB X) := by
    by_cases h : x < 0 ∨ (ks.length : Int) < x
    · exact ⟨_, _, tells_none g q ks B c x hks h, fun h' => by omega⟩
    · obtain ⟨X, hX⟩ := is_of H3.out.2.2.1 (t := x) (by omega) (by omega)
      exact ⟨_, _, tells_any g q ks B c x X H3.out.2.2 hks hX, fun _ => ⟨X, hX, rfl, rfl⟩⟩
  have hTy : ∃ pl bb, Tells g q ks B c y pl bb ∧ ((0 ≤ y ∧ y ≤ ks.length) → ∃ X, Is ks y X ∧ pl = pieces X ∧ bb = balB X) := by
    by_cases h : y < 0 ∨ (ks.length : Int) < y
    · exact ⟨_, _, tells_none g q ks B c y hks h, fun h' => by omega⟩
    · obtain ⟨X, hX⟩ := is_of H3.out.2.2.1 (t := y) (by omega) (by omega)
      exact ⟨_, _, tells_any g q ks B c y X H3.out.2.2 hks hX, fun _ => ⟨X, hX, rfl, rfl⟩⟩
  obtain ⟨px, bx, hTx, hVx⟩ := hTx
  obtain ⟨py, by_, hTy, hVy⟩ := hTy
  have HTX := Lib.hid (And.intro hTx hVx)
  have HTY := Lib.hid (And.intro hTy hVy)
  clear hTx hVx hTy hVy
  have hfin : ∀ w4 : World, Below w3.heap.size w3 w4 → Half w4 w1.heap.size g q ks (.slice B ks.length c) ks ∧ Below w.heap.size w w4 := fun w4 hb => ⟨H3.out.2.1.below hb, H3.out.1.trans (hb.mono H3.out.1.size)⟩
  have HF := Lib.hid hfin
  clear hfin
  go_wp2_with fail
  ((with_reducible refine (HTX.out.1.rleaves _ H3.out.2.1.made').mono ?_); rintro e w4 ⟨vp, rfl, ho4, hb4⟩)
  have HB4 := Lib.hid (And.intro hb4 ho4)
  clear hb4 ho4
  go_wp2_with fail
  ((with_reducible refine (HTY.out.1.rleaves _ (HF.out _ HB4.out.1).1.made').mono ?_); rintro e w5 ⟨vq, rfl, ho5, hb5⟩)
  have HB5 := Lib.hid (And.intro (HB4.out.1.trans (hb5.mono HB4.out.1.size)) (And.intro (HB4.out.2.below hb5) (ho5.base HB4.out.1.size)))
  clear hb5 ho5 HB4
  go_upto_region 8 with fail
  go_cut [14] (fun v wx => v = .bool (bx && by_) ∧ Hid (Below w5.heap.size w5 wx))
  case first =>
    go_wp2_with fail
    ((with_reducible refine (HTX.out.1.rbal _ (HF.out _ HB5.out.1).1.made').mono ?_); rintro e w6 ⟨rfl, hb6⟩)
    have HB6 := Lib.hid hb6
    clear hb6
    cases bx
    · go_wp2_with fail
      go_meet
      exact ⟨rfl, HB6⟩
    · go_wp2_with fail
      ((with_reducible refine (HTY.out.1.rbal _ (HF.out _ (HB5.out.1.trans (HB6.out.mono HB5.out.1.size))).1.made').mono ?_); rintro e w7 ⟨rfl, hb7⟩)
      have HB7 := Lib.hid (HB6.out.trans (hb7.mono HB6.out.size))
      clear hb7
      cases by_
      · go_wp2_with fail
        go_meet
        exact ⟨rfl, HB7⟩
      · go_wp2_with fail
        go_meet
        exact ⟨rfl, HB7⟩
  case rest =>
  obtain ⟨rfl, hwx⟩ := hcut
  have HB6 := Lib.hid (And.intro (HB5.out.1.trans (hwx.out.mono HB5.out.1.size)) (And.intro (HB5.out.2.1.below hwx.out) (HB5.out.2.2.below hwx.out)))
  clear hwx HB5
  have hgc : g < wc.heap.size := (HF.out _ HB6.out.1).1.ar.lt
  by_cases hv : (0 ≤ x ∧ x ≤ (ks.length : Int)) ∧ (0 ≤ y ∧ y ≤ (ks.length : Int))
  · obtain ⟨⟨hx0, hx1⟩, hy0, hy1⟩ := hv
    obtain ⟨L, hL, epx, ebx⟩ := HTX.out.2 ⟨hx0, hx1⟩
    obtain ⟨R, hR, epy, eby⟩ := HTY.out.2 ⟨hy0, hy1⟩
    have h5 := H3.out.2.2
    have mL := many_le h5 hL
    have mR := many_le h5 hR
    have okL := hL.ok h5.1
    have okR := hR.ok h5.1
    have bL := T.bounds okL
    have bR := T.bounds okR
    have lL := T.long okL
    have lR := T.long okR
    have HJ := Lib.hid ((Join_any g ks x y L R h5.1 hL hR (by omega) (by omega)).run wc _ ⟨q, rfl, (HF.out _ HB6.out.1).1.ar⟩)
    have HI := Lib.hid (And.intro hL (And.intro hR (And.intro epx (And.intro epy (And.intro ebx (And.intro eby (And.intro bL (And.intro bR (And.intro mL mR)))))))))
    have hLh : 0 ≤ L.high ∧ L.high ≤ 500 := by omega
    have hRh : 0 ≤ R.high ∧ R.high ≤ 500 := by omega
    obtain ⟨hL0, hL1⟩ := hLh
    obtain ⟨hR0, hR1⟩ := hRh
    clear h5 mL mR okL okR bL bR lL lR hL hR epx epy ebx eby
    go_wp2_with fail
    ((with_reducible refine HJ.out.mono ?_); rintro e w7 ⟨v, ks', F7, rfl, ⟨t, X, n, rfl, p1, p2, p3, p4, p5, p6⟩, ⟨q7, rfl, ha7⟩, hf7⟩)
    have hb7 := hf7.below (HF.out _ HB6.out.1).2 (fun b hb => Nat.le_trans (by have := H3.out.1.size; omega) ((HF.out _ HB6.out.1).1.ge b hb)) (HF.out _ HB6.out.1).2.size
    have hfoot : ∀ b, foot g q b → b < w3.heap.size := fun b hb => hb.elim (fun e => e ▸ H3.out.2.1.ar.lt) (fun e => H3.out.2.1.ar.row_lt e)
    have hop : Owns w7 w.heap.size vp px := own_base (hf7.own HB6.out.2.1 (fun b hb hf => by have := (HB6.out.2.1.lt hb).1; have := hfoot b hf; omega)) H3.out.1.size
    have hoq : Owns w7 w.heap.size vq py := own_base (hf7.own HB6.out.2.2 (fun b hb hf => by have := (HB6.out.2.2.lt hb).1; have := hfoot b hf; omega)) H3.out.1.size
    have hlen := p3.len
    have hcost := p4.cost
    have hmX := p4.many
    have hks7 : ks'.length ≤ small := by unfold small; omega
    have hlv := leaves_any_b g q7 ks' t X p2 p1 hks7 (by have := HI.out.2.2.2.2.2.2.2.2; omega) w7 ha7
    have hpc : pieces X = px ++ py := by rw [HI.out.2.2.1, HI.out.2.2.2.1]; unfold pieces; rw [p4.lv, List.map_append]
    rw [hpc] at hlv
    have HLV := Lib.hid hlv
    have H7 := Lib.hid (And.intro ha7 (And.intro hb7 (And.intro hop hoq)))
    have HP := Lib.hid (And.intro p1 (And.intro p2 (And.intro p3 (And.intro p4 (And.intro p5 (And.intro p6 hks7))))))
    have hgl7 : g < w7.heap.size := ha7.lt
    have hsh : px.length ≤ 500 ∧ py.length ≤ 500 := by rw [HI.out.2.2.1, HI.out.2.2.2.1, pieces_len, pieces_len]; have := T.many_lv L; have := T.many_lv R; have := HI.out.2.2.2.2.2.2.2.2; omega
    obtain ⟨hs1, hs2⟩ := hsh
    have hnI : (ks'.length : Int) = ks.length + n := by omega
    clear ha7 hb7 hf7 hop hoq hlv hpc p1 p2 p3 p4 p5 p6 hmX HB6 HJ hfoot hlen
    go_wp2_with fail
    ((with_reducible refine HLV.out.mono ?_); rintro e w8 ⟨v8, rfl, ho8, hb8⟩)
    have HJ8 := Lib.hid (JEnd.start (w0 := w) (w := w8) (g := g) (q := q7) (ks := ks') (rs := [(v8, px ++ py), (vp, px), (vq, py)]) (H7.out.1.below hb8) (H7.out.2.1.trans (hb8.mono H7.out.2.1.size)) (fun p hp => by
      simp at hp
      rcases hp with rfl | rfl | rfl
      · exact own_base ho8 H7.out.2.1.size
      · exact H7.out.2.2.1.below hb8
      · exact H7.out.2.2.2.below hb8))
    have hsz8 : w.heap.size ≤ w8.heap.size := by have := H7.out.2.1.size; have := hb8.size; omega
    clear ho8 hb8
    go_wp2_with (first | (at_builtin; refine wpList_append_pc (.tmp 99) (.tmp 100) rfl (by rfl) w.heap.size (.slice (some ⟨w8.heap.size, 0, none⟩) 0 0) vp [] px (by rfl) (by rfl) HJ8.out.own (HJ8.out.rd (vp, px) (by simp)).1 (by simp; omega) (by simp; omega) ?_; intro v9 w9 ho9 hg9 hat9; have HJ9 := Lib.hid (JEnd.app HJ8.out ho9 hg9 hat9); clear ho9 hg9 hat9) | (at_builtin; refine wpList_append_pc (.tmp 101) (.tmp 102) rfl (by rfl) w.heap.size v9 vq ([] ++ px) py (by rfl) (by rfl) HJ9.out.own (HJ9.out.rd (vq, py) (by simp)).1 HJ9.out.bl.size (by simp; omega) ?_; intro v10 w10 ho10 hg10 hat10; have HJ10 := Lib.hid (JEnd.app HJ9.out ho10 hg10 hat10); clear ho10 hg10 hat10))
    simp only [List.nil_append] at HJ10
    ((with_reducible refine (same_eq (px ++ py) _ _ _ (HJ10.out.rd (v8, px ++ py) (by simp)).1.rd HJ10.out.own.rd (by unfold small; simp; omega)).mono ?_); rintro e w11 ⟨rfl, hb11⟩)
    have H11 := Lib.hid (And.intro (HJ10.out.ar.below hb11) (HJ10.out.bl.trans (hb11.mono HJ10.out.bl.size)))
    have hgl11 : g < w11.heap.size := H11.out.1.lt
    have HHX := Lib.hid (fun w' (ha : Arena w' g q7 ks') => lhigh_any g q7 ks' x w' ha hks7)
    rw [((HI.out.1).ext HP.out.2.2.1).knot.2.1] at HHX
    have HHY := Lib.hid (fun w' (ha : Arena w' g q7 ks') => lhigh_any g q7 ks' y w' ha hks7)
    rw [((HI.out.2.1).ext HP.out.2.2.1).knot.2.1] at HHY
    have HHT := Lib.hid (fun w' (ha : Arena w' g q7 ks') => lhigh_any g q7 ks' t w' ha hks7)
    rw [HP.out.1.knot.2.1] at HHT
    have HBT := Lib.hid (fun w' (ha : Arena w' g q7 ks') => balanced_any g q7 ks' t X HP.out.2.1 HP.out.1 hks7 w' ha)
    have hXh : 0 ≤ X.high ∧ X.high ≤ 1099511627776 := by have := T.bounds (HP.out.2.2.2.1.ok); omega
    have hend : (bx && by_) = true → balB X = true ∧ X.high ≤ max L.high R.high + 1 ∧ (n : Int) ≤ 1 + 3 * max (L.high - R.high) (R.high - L.high) := fun h => by
      rw [HI.out.2.2.2.2.1, HI.out.2.2.2.2.2.1, Bool.and_eq_true] at h
      obtain ⟨e1, e2, e3⟩ := joins_end HP.out.2.2.2.1 ((balB_iff L).1 h.1) ((balB_iff R).1 h.2)
      exact ⟨(balB_iff X).2 e1, e2, e3⟩
    have HEND := Lib.hid hend
    have hxt : x = 0 → t = y := HP.out.2.2.2.2.1
    have hyt : y = 0 → t = x := HP.out.2.2.2.2.2.1
    obtain ⟨hX0, hX1⟩ := hXh
    clear hb11 hend HJ8 HJ9 HJ10
    generalize L.high = hL at HHX HEND hL0 hL1 hcost
    generalize R.high = hR at HHY HEND hR0 hR1 hcost
    generalize X.high = hX at HHT HEND hX0 hX1
    generalize balB X = bX at HBT HEND
    generalize (bx && by_) = ev at HEND ⊢
    by_cases hx : x = 0
    all_goals by_cases hy : y = 0
    all_goals
      (first | (have hbx : (x == 0) = true := by simpa using hx) | (have hbx : (x == 0) = false := by simpa using hx))
      (first | (have hby : (y == 0) = true := by simpa using hy) | (have hby : (y == 0) = false := by simpa using hy))
      (try have htx : (t != y) = false := by (have := hxt hx; simpa using this))
      (try have hty : (t != x) = false := by (have := hyt hy; simpa using this))
      clear hx hy hxt hyt
      go_upto_region 14 with fail
      clear hbx hby
      go_wp2_with fail
      ((with_reducible refine (HHX.out _ H11.out.1).mono ?_); rintro e w12 ⟨rfl, hb12⟩)
      have H12 := Lib.hid (And.intro (H11.out.1.below hb12) (H11.out.2.trans (hb12.mono H11.out.2.size)))
      clear hb12
      go_wp2_with fail
      ((with_reducible refine (HHY.out _ H12.out.1).mono ?_); rintro e w13 ⟨rfl, hb13⟩)
      have H13 := Lib.hid (And.intro (H12.out.1.below hb13) (H12.out.2.trans (hb13.mono H12.out.2.size)))
      clear hb13
      cases ev
      · go_wp2
        go_ret
        exact ⟨rfl, H13.out.2⟩
      · obtain ⟨rfl, e2, e3⟩ := HEND.out rfl
        have e4 : (ks'.length : Int) - ks.length ≤ 1 + 3 * max (hL - hR) (hR - hL) := by omega
        clear e3 HEND hnI
        go_wp2_with fail
        ((with_reducible refine (HBT.out _ H13.out.1).mono ?_); rintro e w14 ⟨rfl, hb14⟩)
        have H14 := Lib.hid (And.intro (H13.out.1.below hb14) (H13.out.2.trans (hb14.mono H13.out.2.size)))
        clear hb14
        go_wp2_with fail
        ((with_reducible refine (HHT.out _ H14.out.1).mono ?_); rintro e w15 ⟨rfl, hb15⟩)
        have H15 := Lib.hid (And.intro (H14.out.1.below hb15) (H14.out.2.trans (hb15.mono H14.out.2.size)))
        clear hb15
        go_wp2_with (go_at_call 26; ((with_reducible refine (len_any g q7 ks' _ H15.out.1).mono ?_); rintro e w16 ⟨rfl, rfl⟩))
        go_ret
        exact ⟨rfl, H15.out.2⟩
  · have hbad : ((getB ks x || x == 0) && (getB ks y || y == 0)) = false := by
      by_cases h : x < 0 ∨ (ks.length : Int) < x
      · obtain ⟨h1, _, h3⟩ := none_of h
        rw [h1, h3]; rfl
      · obtain ⟨h1, _, h3⟩ := none_of (ks := ks) (t := y) (by omega)
        rw [h1, h3]; simp
    have HJ := Lib.hid (join_bad g q ks x y wc (HF.out _ HB6.out.1).1.ar hks hbad)
    have hv' : x < 0 ∨ (¬ x < 0 ∧ (ks.length : Int) < x) ∨ (¬ x < 0 ∧ ¬ (ks.length : Int) < x ∧ y < 0) ∨ (¬ x < 0 ∧ ¬ (ks.length : Int) < x ∧ ¬ y < 0 ∧ (ks.length : Int) < y) := by omega
    clear hv hbad
    rcases hv' with hv1 | ⟨hv1, hv2⟩ | ⟨hv1, hv2, hv3⟩ | ⟨hv1, hv2, hv3, hv4⟩
    all_goals
      go_wp2_with fail
      ((with_reducible refine HJ.out.mono ?_); rintro e w7 ⟨rfl, hb7⟩)
      have HB7 := Lib.hid (HB6.out.1.trans (hb7.mono HB6.out.1.size))
      clear hb7
      go_wp2_with (go_at_call 26; ((with_reducible refine (len_any g q ks _ (HF.out _ HB7.out).1.ar).mono ?_); rintro e w8 ⟨rfl, rfl⟩))
      go_ret
      exact ⟨rfl, (HF.out _ HB7.out).2⟩
end Go.Proofs.Ytkcocdpmangcgaa.Ar
