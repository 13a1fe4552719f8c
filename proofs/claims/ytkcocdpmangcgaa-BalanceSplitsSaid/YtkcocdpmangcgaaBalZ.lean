/- The walk of BalanceSplits. -/
import Derived.Test.YtkcocdpmangcgaaBalC
namespace Go.Proofs.Ytkcocdpmangcgaa.Ar
set_option linter.unusedSimpArgs false
set_option linter.unusedVariables false
open Go Go.RowKit
attribute [local go_sem] lt_add1 lt_self1 size_ne size_ne' size_ne1 size_ne1'
attribute [local irreducible] wpGrow wpThr

theorem pieces_bd {X : T} (h : X.ok) : ∀ p ∈ pieces X, 1 ≤ p.2 ∧ p.2 ≤ 1099511627776 ∧ 0 ≤ p.1 ∧ p.1 ≤ 1099511627776 := by
  induction X with
  | nil => simp [pieces, T.lv]
  | leaf o n f => simp only [T.ok] at h; intro p hp; simp [pieces, T.lv] at hp; subst hp; simp only; omega
  | node l r hl hr =>
    intro p hp
    rw [pieces_node] at hp
    rcases List.mem_append.1 hp with hp | hp
    · exact hl h.1 p hp
    · exact hr h.2.1 p hp

set_option maxRecDepth 100000 in
set_option maxHeartbeats 8000000 in
theorem splits_walk (l : List Deed) (A : Option Addr) (cap : Nat) (t0 a : Int) (w : World) (hs : SlAt w w.heap.size 4 l.length A (fun i j => (dcells (l.getD i Deed.zero)).getD j undef)) :
    Calls Try.prog 5 #[.slice A l.length cap, .int .i64 t0, .int .i64 a] w fun e w' => e = .returned (.bool true) ∧ Below w.heap.size w w' := by
  have HS := Lib.hid hs
  clear hs
  go_enter Try.func5, Try.ntmps5
  go_wp2_with fail
  refine (awake21 _).mono ?_
  rintro e w1 ⟨rfl, hb1⟩
  have HBL := Lib.hid (build_any5 l A cap w1 ((HS.out.below hb1).more hb1.size))
  have H1 := Lib.hid hb1
  clear hb1 HS
  go_wp2_with fail
  ((with_reducible refine HBL.out.mono ?_); rintro e w2 ⟨v, rfl, g, q, ks, B, c, rfl, hh, h5, hn, hb2⟩)
  have hks : ks.length ≤ small := by unfold small; omega
  have hb02 := H1.out.trans (hb2.mono H1.out.size)
  have hgl : g < w2.heap.size := hh.ar.lt
  have h12 : w.heap.size ≤ w1.heap.size := H1.out.size
  have H2 := Lib.hid (And.intro hb02 (And.intro hh h5))
  clear hb2 hh h5 H1 HBL hb02
  obtain ⟨t, htt⟩ : ∃ t, t = if 0 < ks.length then ropeOf t0 ks.length false else t0 := ⟨_, rfl⟩
  have HTT := Lib.hid htt
  clear htt
  go_upto_if 29 with fail
  go_cut [1] (fun v wx => v = .int .i64 t ∧ w2 = wx)
  case first =>
    by_cases h0 : 0 < ks.length
    · go_wp2_with (go_at_call 24; ((with_reducible refine (rope_any t0 ks.length false _ (by omega)).mono ?_); rintro e w3 ⟨rfl, rfl⟩))
      go_meet
      exact ⟨by rw [HTT.out, if_pos h0], rfl⟩
    · go_wp2_with fail
      go_meet
      exact ⟨by rw [HTT.out, if_neg h0], rfl⟩
  case rest =>
  obtain ⟨rfl, hw2⟩ := hcut
  subst hw2
  clear HTT
  have hT : ∃ pl bb, Tells g q ks B c t pl bb ∧ ((0 ≤ t ∧ t ≤ ks.length) → ∃ X, Is ks t X ∧ pl = pieces X ∧ bb = balB X) := by
    by_cases h : t < 0 ∨ (ks.length : Int) < t
    · exact ⟨_, _, tells_none g q ks B c t hks h, fun h' => by omega⟩
    · obtain ⟨X, hX⟩ := is_of H2.out.2.2.1 (t := t) (by omega) (by omega)
      exact ⟨_, _, tells_any g q ks B c t X H2.out.2.2 hks hX, fun _ => ⟨X, hX, rfl, rfl⟩⟩
  obtain ⟨pl, bb, hT, hV⟩ := hT
  have HT := Lib.hid (And.intro hT hV)
  clear hT hV
  have hfin : ∀ w4 : World, Below w2.heap.size w2 w4 → Half w4 w1.heap.size g q ks (.slice B ks.length c) ks ∧ Below w.heap.size w w4 := fun w4 hb => ⟨H2.out.2.1.below hb, H2.out.1.trans (hb.mono H2.out.1.size)⟩
  have HF := Lib.hid hfin
  clear hfin
  go_wp2_with fail
  ((with_reducible refine (HT.out.1.rleaves _ H2.out.2.1.made').mono ?_); rintro e w3 ⟨vp, rfl, ho3, hb3⟩)
  have H3 := Lib.hid (And.intro hb3 ho3)
  have hgl3 : g < w3.heap.size := by have := hb3.size; omega
  have hbyt : ∀ w' v, RdP w' v pl → Calls Try.prog 19 #[v] w' fun e w'' => e = .returned (.int .i64 (sumP pl)) ∧ w' = w'' := fun w' v h => bytes_any pl v w' h HT.out.1.short HT.out.1.pos HT.out.1.whole
  have HBY := Lib.hid hbyt
  have hsp : 0 ≤ sumP pl ∧ sumP pl ≤ 1099511627776 := ⟨sumP_nonneg HT.out.1.pos, HT.out.1.whole⟩
  obtain ⟨hsp0, hsp1⟩ := hsp
  clear ho3 hb3 hbyt
  by_cases hv : (0 ≤ t ∧ t ≤ (ks.length : Int)) ∧ (0 ≤ a ∧ a ≤ sumP pl)
  · obtain ⟨⟨ht0, ht1⟩, ha0, ha1⟩ := hv
    obtain ⟨X, hX, epl, ebb⟩ := HT.out.2 ⟨ht0, ht1⟩
    have h5 := H2.out.2.2
    have mX := many_le h5 hX
    have okX := hX.ok h5.1
    have bX := T.bounds okX
    have hsz : sumP pl = X.size := by rw [epl, sum_pieces]
    have HSP := Lib.hid ((split_no g ks t a X h5.1 hX ha0 (by omega) (by omega) (by omega)).run w3 _ (resNo_at (HF.out _ H3.out.1).1.ar))
    have HI := Lib.hid (And.intro hX (And.intro epl (And.intro ebb (And.intro bX (And.intro mX okX)))))
    have hXh : 0 ≤ X.high ∧ X.high ≤ 500 := by omega
    obtain ⟨hX0, hX1⟩ := hXh
    clear h5 mX okX bX hX epl ebb hsz
    go_wp2_with fail
    ((with_reducible refine HSP.out.mono ?_); rintro e w4 ⟨v, ks', F4, rfl, ⟨x, y, P, Q, n, m, rfl, p1, p2, p3, p4, p5⟩, ⟨⟨q4, rfl, ha4⟩, _⟩, hf4⟩)
    have hh4 := (HF.out _ H3.out.1).1.step (by have := H2.out.2.1.ar.lt; have := (HF.out _ H3.out.1).1.row; have := H3.out.1.size; have h := H2.out.1.size; have := hgl3; exact Nat.le_trans (Nat.le_trans (H2.out.2.1.ge g (.inl rfl)) (Nat.le_of_lt H2.out.2.1.ar.lt)) H3.out.1.size) ha4 hf4
    have hb4 := hf4.below (HF.out _ H3.out.1).2 (fun b hb => Nat.le_trans h12 ((HF.out _ H3.out.1).1.ge b hb)) (HF.out _ H3.out.1).2.size
    have hfoot : ∀ b, foot g q b → b < w2.heap.size := fun b hb => hb.elim (fun e => e ▸ H2.out.2.1.ar.lt) (fun e => H2.out.2.1.ar.row_lt e)
    have hop : Owns w4 w2.heap.size vp pl := hf4.own H3.out.2 (fun b hb hf => by have := (H3.out.2.lt hb).1; have := hfoot b hf; omega)
    have hlen := p4.len
    have hmn := p5.many
    have hcost := p5.cost (by have := HI.out.2.2.2.2.1; omega)
    have hks4 : ks'.length ≤ small := by unfold small; omega
    have hgl4 : g < w4.heap.size := ha4.lt
    have H4 := Lib.hid (And.intro hb4 (And.intro hh4 hop))
    have HPP := Lib.hid (And.intro p1 (And.intro p2 (And.intro p3 (And.intro p4 p5))))
    have hcp : cutP pl a = (pieces P, pieces Q) := by rw [HI.out.2.1]; exact cut_pieces p5
    have hpl : pl.length ≤ 1000000 := by rw [HI.out.2.1, pieces_len]; have := T.many_lv X; have := HI.out.2.2.2.2.1; omega
    have hcw := fun w' (h : RdP w' vp pl) => cut_walk pl vp a w' h hpl (by rw [HI.out.2.1]; exact pieces_bd HI.out.2.2.2.2.2) ha0 (by omega)
    rw [hcp] at hcw
    have HCW := Lib.hid hcw
    have hmP : P.many ≤ 1000 ∧ Q.many ≤ 1000 := by have := HI.out.2.2.2.2.1; have := (T.bounds p5.oka).2.1; have := (T.bounds p5.okb).2.1; omega
    have HL1 := Lib.hid (fun w' (ha : Arena w' g q4 ks') => leaves_any_b g q4 ks' x P p3 p1 hks4 (by omega) w' ha)
    have HL2 := Lib.hid (fun w' (ha : Arena w' g q4 ks') => leaves_any_b g q4 ks' y Q p3 p2 hks4 (by omega) w' ha)
    have hpq : (pieces P).length ≤ small ∧ (pieces Q).length ≤ small := by rw [pieces_len, pieces_len]; have := T.many_lv P; have := T.many_lv Q; unfold small; omega
    have HPQ := Lib.hid hpq
    clear ha4 hf4 hh4 hb4 hfoot hop hlen hmn p1 p2 p3 p4 p5 hcp hcw hmP hpq HSP
    generalize pieces P = lP at HCW HL1 HPQ
    generalize pieces Q = lQ at HCW HL2 HPQ
    generalize hsq : sumP pl = sq at HBY ha1 hsp0 hsp1
    clear hsq
    go_wp2_with fail
    ((with_reducible refine (HBY.out _ _ H4.out.2.2.rd).mono ?_); rintro e w5 ⟨rfl, rfl⟩)
    go_wp2_with fail
    have HF4 := Lib.hid (fun (w9 : World) (hb : Below w4.heap.size w4 w9) => (show Half w9 w1.heap.size g q4 ks' (.slice B ks.length c) ks ∧ Below w.heap.size w w9 from ⟨H4.out.2.1.below hb, H4.out.1.trans (hb.mono H4.out.1.size)⟩))
    ((with_reducible refine (HCW.out _ H4.out.2.2.rd).mono ?_); rintro e w5 ⟨vq, vr, rfl, hoq, hor, hb5⟩)
    have H5 := Lib.hid (And.intro hb5 (And.intro hoq.rd hor.rd))
    have hgl5 : g < w5.heap.size := by have := hb5.size; omega
    clear hoq hor hb5
    go_wp2_with fail
    ((with_reducible refine (HL1.out _ (HF4.out _ H5.out.1).1.ar).mono ?_); rintro e w6 ⟨v6, rfl, ho6, hb6⟩)
    have H6 := Lib.hid (And.intro (H5.out.1.trans (hb6.mono H5.out.1.size)) (And.intro (H5.out.2.1.below hb6) (And.intro (H5.out.2.2.below hb6) (Owns.rd ho6))))
    clear ho6 hb6
    go_wp2_with fail
    ((with_reducible refine (same_eq lP _ _ _ H6.out.2.2.2 H6.out.2.1 HPQ.out.1).mono ?_); rintro e w7 ⟨rfl, hb7⟩)
    have H7 := Lib.hid (And.intro (H6.out.1.trans (hb7.mono H6.out.1.size)) (H6.out.2.2.1.below hb7))
    clear hb7
    go_wp2_with fail
    ((with_reducible refine (HL2.out _ (HF4.out _ H7.out.1).1.ar).mono ?_); rintro e w8 ⟨v8, rfl, ho8, hb8⟩)
    have H8 := Lib.hid (And.intro (H7.out.1.trans (hb8.mono H7.out.1.size)) (And.intro (H7.out.2.below hb8) (Owns.rd ho8)))
    clear ho8 hb8
    go_wp2_with fail
    ((with_reducible refine (same_eq lQ _ _ _ H8.out.2.2 H8.out.2.1 HPQ.out.2).mono ?_); rintro e w9 ⟨rfl, hb9⟩)
    have H9 := Lib.hid (H8.out.1.trans (hb9.mono H8.out.1.size))
    clear hb9
    go_wp2_with fail
    ((with_reducible refine (HT.out.1.rbal _ (HF4.out _ H9.out).1.made').mono ?_); rintro e w10 ⟨rfl, hb10⟩)
    have H10 := Lib.hid (H9.out.trans (hb10.mono H9.out.size))
    have hgl10 : g < w10.heap.size := by have := H10.out.size; omega
    have HHX := Lib.hid (fun w' (ha : Arena w' g q4 ks') => lhigh_any g q4 ks' t w' ha hks4)
    rw [((HI.out.1).ext HPP.out.2.2.2.1).knot.2.1] at HHX
    have HHP := Lib.hid (fun w' (ha : Arena w' g q4 ks') => lhigh_any g q4 ks' x w' ha hks4)
    rw [HPP.out.1.knot.2.1] at HHP
    have HHQ := Lib.hid (fun w' (ha : Arena w' g q4 ks') => lhigh_any g q4 ks' y w' ha hks4)
    rw [HPP.out.2.1.knot.2.1] at HHQ
    have HBP := Lib.hid (fun w' (ha : Arena w' g q4 ks') => balanced_any g q4 ks' x P HPP.out.2.2.1 HPP.out.1 hks4 w' ha)
    have HBQ := Lib.hid (fun w' (ha : Arena w' g q4 ks') => balanced_any g q4 ks' y Q HPP.out.2.2.1 HPP.out.2.1 hks4 w' ha)
    have hend : bb = true → balB P = true ∧ balB Q = true ∧ P.high ≤ X.high ∧ Q.high ≤ X.high ∧ (ks'.length : Int) - ks.length ≤ 10 * X.high := fun h => by
      rw [HI.out.2.2.1] at h
      obtain ⟨e1, e2, e3, e4, e5⟩ := HPP.out.2.2.2.2.even ((balB_iff X).1 h)
      have := HPP.out.2.2.2.1.len
      exact ⟨(balB_iff P).2 e1, (balB_iff Q).2 e2, e3, e4, by omega⟩
    have HEND := Lib.hid hend
    have hPh : 0 ≤ P.high ∧ 0 ≤ Q.high := by have := T.bounds HPP.out.2.2.2.2.oka; have := T.bounds HPP.out.2.2.2.2.okb; omega
    obtain ⟨hP0, hQ0⟩ := hPh
    clear hb10 hend HPP
    generalize X.high = hX at HHX HEND hX0 hX1 hcost
    generalize P.high = hP at HHP HEND hP0
    generalize Q.high = hQ at HHQ HEND hQ0
    generalize balB P = bP at HBP HEND
    generalize balB Q = bQ at HBQ HEND
    cases bb
    · go_wp2
      go_ret
      exact ⟨rfl, (HF4.out _ H10.out).2⟩
    · obtain ⟨rfl, rfl, e1, e2, e3⟩ := HEND.out rfl
      have hwm : IntKind.i64.wrap (10 * hX) = 10 * hX := IntWalk.i64_in _ (by omega)
      clear HEND
      go_wp2_with fail
      ((with_reducible refine (HHX.out _ (HF4.out _ H10.out).1.ar).mono ?_); rintro e w11 ⟨rfl, hb11⟩)
      have H11 := Lib.hid (H10.out.trans (hb11.mono H10.out.size))
      clear hb11
      go_wp2_with fail
      ((with_reducible refine (HBP.out _ (HF4.out _ H11.out).1.ar).mono ?_); rintro e w12 ⟨rfl, hb12⟩)
      have H12 := Lib.hid (H11.out.trans (hb12.mono H11.out.size))
      clear hb12
      go_wp2_with fail
      ((with_reducible refine (HBQ.out _ (HF4.out _ H12.out).1.ar).mono ?_); rintro e w13 ⟨rfl, hb13⟩)
      have H13 := Lib.hid (H12.out.trans (hb13.mono H12.out.size))
      clear hb13
      go_wp2_with fail
      ((with_reducible refine (HHP.out _ (HF4.out _ H13.out).1.ar).mono ?_); rintro e w14 ⟨rfl, hb14⟩)
      have H14 := Lib.hid (H13.out.trans (hb14.mono H13.out.size))
      clear hb14
      go_wp2_with fail
      ((with_reducible refine (HHQ.out _ (HF4.out _ H14.out).1.ar).mono ?_); rintro e w15 ⟨rfl, hb15⟩)
      have H15 := Lib.hid (H14.out.trans (hb15.mono H14.out.size))
      clear hb15
      go_wp2_with (go_at_call 26; ((with_reducible refine (len_any g q4 ks' _ (HF4.out _ H15.out).1.ar).mono ?_); rintro e w16 ⟨rfl, rfl⟩))
      go_ret
      exact ⟨rfl, (HF4.out _ H15.out).2⟩
  · have hbad : (getB ks t || t == 0) = false ∨ a < 0 ∨ (getK ks t).len < a := by
      by_cases h : t < 0 ∨ (ks.length : Int) < t
      · obtain ⟨h1, _, h3⟩ := none_of h
        exact .inl (by rw [h1, h3]; rfl)
      · obtain ⟨X, hX, epl, _⟩ := HT.out.2 ⟨by omega, by omega⟩
        have hsz : sumP pl = X.size := by rw [epl, sum_pieces]
        rw [hX.knot.1]
        omega
    have HSB := Lib.hid (split_bad g q ks t a (.func (.func 29) #[] #[]) w3 (HF.out _ H3.out.1).1.ar hks hbad)
    have hv' : t < 0 ∨ (¬ t < 0 ∧ (ks.length : Int) < t) ∨ (¬ t < 0 ∧ ¬ (ks.length : Int) < t ∧ a < 0) ∨ (¬ t < 0 ∧ ¬ (ks.length : Int) < t ∧ ¬ a < 0 ∧ sumP pl < a) := by omega
    clear hv hbad
    rcases hv' with hv1 | ⟨hv1, hv2⟩ | ⟨hv1, hv2, hv3⟩ | ⟨hv1, hv2, hv3, hv4⟩
    all_goals
      go_wp2_with fail
      ((with_reducible refine HSB.out.mono ?_); rintro e w7 ⟨rfl, hb7⟩)
      have HB7 := Lib.hid (And.intro (H3.out.1.trans (hb7.mono H3.out.1.size)) (H3.out.2.below hb7))
      clear hb7
      go_wp2_with (first | (go_at_call 19; ((with_reducible refine (HBY.out _ _ HB7.out.2.rd).mono ?_); rintro e w8 ⟨rfl, rfl⟩)) | (go_at_call 26; ((with_reducible refine (len_any g q ks _ (HF.out _ HB7.out.1).1.ar).mono ?_); rintro e w8 ⟨rfl, rfl⟩)))
      go_ret
      exact ⟨rfl, (HF.out _ HB7.out.1).2⟩
end Go.Proofs.Ytkcocdpmangcgaa.Ar
