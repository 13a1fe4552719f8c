/- The walk of BalanceTells. -/
import Derived.Test.YtkcocdpmangcgaaBalK
namespace Go.Proofs.Ytkcocdpmangcgaa.Ar
set_option linter.unusedSimpArgs false
set_option linter.unusedVariables false
open Go Go.RowKit
attribute [local go_sem] lt_add1 lt_self1 size_ne size_ne' size_ne1 size_ne1'
attribute [local irreducible] wpGrow wpThr

theorem many_le {ks : List Knot} {t : Int} {X : T} (h : WF5 ks) (ht : Is ks t X) : X.many ≤ 500 := by
  have hk := ht.knot.2.2.1
  have hr := ht.range
  by_cases h0 : t = 0
  · subst h0
    have := ht.zero
    subst this
    simp [T.many]
  · have e := (getK_at (ks := ks) (i := t) (k := (t - 1).toNat) (by omega) (by omega)).1
    rw [← hk, e]
    exact h.2 _ (by omega)
theorem is_of {ks : List Knot} (h : WF ks) {t : Int} (h0 : 0 ≤ t) (h1 : t ≤ ks.length) : ∃ X, Is ks t X := by
  obtain ⟨X, hX⟩ := Is.ex h t.toNat (by omega)
  rw [show ((t.toNat : Nat) : Int) = t by omega] at hX
  exact ⟨X, hX⟩
theorem none_of {ks : List Knot} {t : Int} (h : t < 0 ∨ (ks.length : Int) < t) : getB ks t = false ∧ getK ks t = Knot.zero ∧ (t == 0) = false := by
  have : getS ks t = (Knot.zero, false) := by unfold getS; rw [if_neg (by omega)]
  refine ⟨by rw [getB, this], by rw [getK, this], by simp; omega⟩
theorem pos_pieces {X : T} (h : X.ok) : ∀ p ∈ pieces X, 0 ≤ p.2 := by
  intro p hp
  obtain ⟨q, hq, rfl⟩ := List.mem_map.1 hp
  have := T.pos h q hq
  simp only
  omega

/-- what both tell of a number. -/
structure Tells (g : Nat) (q : Option Nat) (ks : List Knot) (A : Option Addr) (cap : Nat) (t : Int) (l : List Pc) (bb : Bool) : Prop where
  size : ∀ w, Arena w g q ks → Calls Try.prog 17 #[.pointer (some ⟨g, 0, none⟩), .int .i64 t] w fun e w' => e = .returned (.tuple #[.int .i64 (sumP l), .bool (decide (0 ≤ t) && decide (t ≤ ks.length))]) ∧ Below w.heap.size w w'
  leaves : ∀ w, Arena w g q ks → Calls Try.prog 21 #[.pointer (some ⟨g, 0, none⟩), .int .i64 t] w (LeavesP w l)
  bal : ∀ w, Arena w g q ks → Calls Try.prog 22 #[.pointer (some ⟨g, 0, none⟩), .int .i64 t] w fun e w' => e = .returned (.bool bb) ∧ Below w.heap.size w w'
  rleaves : ∀ w, madeAt w A ks → Calls Try.prog 18 #[.slice A ks.length cap, .int .i64 t] w (LeavesP w l)
  rbal : ∀ w, madeAt w A ks → Calls Try.prog 23 #[.slice A ks.length cap, .int .i64 t] w fun e w' => e = .returned (.bool bb) ∧ Below w.heap.size w w'
  short : l.length ≤ small
  pos : ∀ p ∈ l, 0 ≤ p.2
  whole : sumP l ≤ 1099511627776

theorem tells_any (g : Nat) (q : Option Nat) (ks : List Knot) (A : Option Addr) (cap : Nat) (t : Int) (X : T) (h5 : WF5 ks) (hn : ks.length ≤ small) (ht : Is ks t X) : Tells g q ks A cap t (pieces X) (balB X) := by
  have hr := ht.range
  have hm := many_le h5 ht
  have hok := ht.ok h5.1
  have hb := T.bounds hok
  have hml := T.many_lv X
  refine ⟨fun w ha => ?_, fun w ha => ?_, fun w ha => ?_, fun w hw => ?_, fun w hw => ?_, ?_, pos_pieces hok, ?_⟩
  · have := size_any g q ks t w ha hn
    rw [is_there ht, ht.knot.1] at this
    rw [sum_pieces, show (decide (0 ≤ t) && decide (t ≤ ks.length)) = true by simp; omega]
    exact this
  · exact (leaves_any_b g q ks t X h5.1 ht hn (by omega) w ha).mono fun e w' ⟨v, h1, h2, h3⟩ => ⟨v, h1, h2, h3⟩
  · exact balanced_any g q ks t X h5.1 ht hn w ha
  · exact rleaves_any ks h5.1 hn A cap X.cnt t X (Nat.le_refl _) ht (by omega) w hw
  · exact rbal_any ks h5.1 hn A cap X.cnt t X (Nat.le_refl _) ht w hw
  · rw [pieces_len]; unfold small; omega
  · rw [sum_pieces]; omega
theorem tells_none (g : Nat) (q : Option Nat) (ks : List Knot) (A : Option Addr) (cap : Nat) (t : Int) (hn : ks.length ≤ small) (ht : t < 0 ∨ (ks.length : Int) < t) : Tells g q ks A cap t [] false := by
  obtain ⟨h1, h2, h3⟩ := none_of ht
  refine ⟨fun w ha => ?_, fun w ha => ?_, fun w ha => ?_, fun w hw => ?_, fun w hw => ?_, by simp, by simp, by simp [sumP]⟩
  · have := size_any g q ks t w ha hn
    rw [h1, h2, h3] at this
    rw [show (decide (0 ≤ t) && decide (t ≤ ks.length)) = false by simp; omega]
    exact this
  · exact (leaves_none g q ks t h1 hn w ha).mono fun e w' ⟨h1, h2⟩ => ⟨_, h1, World.ownsRow_nil _ _ _ _, h2⟩
  · exact balanced_none g q ks t (by rw [h1, h3]; rfl) hn w ha
  · exact (rleaves_none ks.length cap A t w (by omega) hn).mono fun e w' ⟨h1, h2⟩ => ⟨_, h1, World.ownsRow_nil _ _ _ _, h2 ▸ Below.refl _ _⟩
  · exact (rbal_none ks.length cap A t w ht hn).mono fun e w' ⟨h1, h2⟩ => ⟨h1, h2 ▸ Below.refl _ _⟩

set_option maxRecDepth 100000 in
set_option maxHeartbeats 2000000 in
theorem tells_walk (l : List Deed) (A : Option Addr) (cap : Nat) (t : Int) (w : World) (hs : SlAt w w.heap.size 4 l.length A (fun i j => (dcells (l.getD i Deed.zero)).getD j undef)) :
    Calls Try.prog 3 #[.slice A l.length cap, .int .i64 t] w fun e w' => e = .returned (.bool true) ∧ Below w.heap.size w w' := by
  have HS := Lib.hid hs
  clear hs
  go_enter Try.func3, Try.ntmps3
  go_wp2_with fail
  refine (awake21 _).mono ?_
  rintro e w1 ⟨rfl, hb1⟩
  have HBL := Lib.hid (build_any5 l A cap w1 ((HS.out.below hb1).more hb1.size))
  have H1 := Lib.hid hb1
  clear hb1 HS
  go_wp2_with fail
  ((with_reducible refine HBL.out.mono ?_); rintro e w2 ⟨v, rfl, g, q, ks, B, c, rfl, hh, h5, hn, hb2⟩)
  have hks : ks.length ≤ small := by unfold small; omega
  have hT : ∃ pl bb, Tells g q ks B c t pl bb := by
    by_cases h : t < 0 ∨ (ks.length : Int) < t
    · exact ⟨_, _, tells_none g q ks B c t hks h⟩
    · obtain ⟨X, hX⟩ := is_of h5.1 (t := t) (by omega) (by omega)
      exact ⟨_, _, tells_any g q ks B c t X h5 hks hX⟩
  obtain ⟨pl, bb, hT⟩ := hT
  have HT := Lib.hid hT
  have H2 := Lib.hid (And.intro (H1.out.trans (hb2.mono H1.out.size)) hh)
  have hbyt : ∀ w' v, RdP w' v pl → Calls Try.prog 19 #[v] w' fun e w'' => e = .returned (.int .i64 (sumP pl)) ∧ w' = w'' := fun w' v h => bytes_any pl v w' h hT.short hT.pos hT.whole
  have HBY := Lib.hid hbyt
  have HSZ := Lib.hid hT.size
  clear hT hb2 hh h5 H1 HBL hbyt
  generalize sumP pl = sp at HSZ HBY
  have hfin : ∀ w3 : World, Below w2.heap.size w2 w3 → Half w3 w1.heap.size g q ks (.slice B ks.length c) ks ∧ Below w.heap.size w w3 := fun w3 hb => ⟨H2.out.2.below hb, H2.out.1.trans (hb.mono H2.out.1.size)⟩
  have HF := Lib.hid hfin
  clear hfin
  have hgl : g < w2.heap.size := H2.out.2.ar.lt
  by_cases hv : 0 ≤ t ∧ t ≤ ks.length
  · obtain ⟨hv1, hv2⟩ := hv
    have e : (decide (0 ≤ t) && decide (t ≤ (ks.length : Int))) = true := by simp [hv1, hv2]
    have hsz := HSZ.out
    simp only [e] at hsz
    have HSZ2 := Lib.hid hsz
    clear hsz e HSZ
    go_wp2_with fail
    ((with_reducible refine (HSZ2.out _ H2.out.2.ar).mono ?_); rintro e w3 ⟨rfl, hb3⟩)
    have HB3 := Lib.hid hb3
    clear hb3
    go_wp2_with fail
    ((with_reducible refine (HT.out.rleaves _ (HF.out _ HB3.out).1.made').mono ?_); rintro e w4 ⟨v, rfl, ho4, hb4⟩)
    have HB4 := Lib.hid (And.intro (HB3.out.trans (hb4.mono HB3.out.size)) ho4.rd)
    clear hb4 ho4
    go_wp2_with fail
    ((with_reducible refine (HBY.out _ _ HB4.out.2).mono ?_); rintro e w5 ⟨rfl, rfl⟩)
    go_wp2_with fail
    ((with_reducible refine (HT.out.leaves _ (HF.out _ HB4.out.1).1.ar).mono ?_); rintro e w6 ⟨v6, rfl, ho6, hb6⟩)
    have HB6 := Lib.hid (And.intro (HB4.out.1.trans (hb6.mono HB4.out.1.size)) (And.intro ho6.rd (HB4.out.2.below hb6)))
    clear hb6 ho6
    go_wp2_with fail
    ((with_reducible refine (same_eq pl _ _ _ HB6.out.2.1 HB6.out.2.2 HT.out.short).mono ?_); rintro e w7 ⟨rfl, hb7⟩)
    have HB7 := Lib.hid (HB6.out.1.trans (hb7.mono HB6.out.1.size))
    clear hb7
    go_wp2_with fail
    ((with_reducible refine (HT.out.bal _ (HF.out _ HB7.out).1.ar).mono ?_); rintro e w8 ⟨rfl, hb8⟩)
    have HB8 := Lib.hid (HB7.out.trans (hb8.mono HB7.out.size))
    clear hb8
    go_wp2_with fail
    ((with_reducible refine (HT.out.rbal _ (HF.out _ HB8.out).1.made').mono ?_); rintro e w9 ⟨rfl, hb9⟩)
    have HB9 := Lib.hid (HB8.out.trans (hb9.mono HB8.out.size))
    clear hb9
    cases bb
    · go_wp2
      go_ret
      exact ⟨rfl, (HF.out _ HB9.out).2⟩
    · go_wp2
      go_ret
      exact ⟨rfl, (HF.out _ HB9.out).2⟩
  · have e : (decide (0 ≤ t) && decide (t ≤ (ks.length : Int))) = false := by simp; omega
    have hsz := HSZ.out
    simp only [e] at hsz
    have HSZ2 := Lib.hid hsz
    clear hsz e HSZ
    have hv' : t < 0 ∨ (ks.length : Int) < t := by omega
    clear hv
    rcases hv' with hv1 | hv1
    all_goals
      (try have hq : decide (t ≤ (ks.length : Int)) = false := by (simp; omega))
      go_wp2_with fail
      ((with_reducible refine (HSZ2.out _ H2.out.2.ar).mono ?_); rintro e w3 ⟨rfl, hb3⟩)
      have HB3 := Lib.hid hb3
      clear hb3
      go_wp2_with fail
      ((with_reducible refine (HT.out.rleaves _ (HF.out _ HB3.out).1.made').mono ?_); rintro e w4 ⟨v, rfl, ho4, hb4⟩)
      have HB4 := Lib.hid (And.intro (HB3.out.trans (hb4.mono HB3.out.size)) ho4.rd)
      clear hb4 ho4
      go_wp2_with fail
      ((with_reducible refine (HBY.out _ _ HB4.out.2).mono ?_); rintro e w5 ⟨rfl, rfl⟩)
      go_wp2_with fail
      ((with_reducible refine (HT.out.leaves _ (HF.out _ HB4.out.1).1.ar).mono ?_); rintro e w6 ⟨v6, rfl, ho6, hb6⟩)
      have HB6 := Lib.hid (And.intro (HB4.out.1.trans (hb6.mono HB4.out.1.size)) (And.intro ho6.rd (HB4.out.2.below hb6)))
      clear hb6 ho6
      go_wp2_with fail
      ((with_reducible refine (same_eq pl _ _ _ HB6.out.2.1 HB6.out.2.2 HT.out.short).mono ?_); rintro e w7 ⟨rfl, hb7⟩)
      have HB7 := Lib.hid (HB6.out.1.trans (hb7.mono HB6.out.1.size))
      clear hb7
      go_wp2_with fail
      ((with_reducible refine (HT.out.bal _ (HF.out _ HB7.out).1.ar).mono ?_); rintro e w8 ⟨rfl, hb8⟩)
      have HB8 := Lib.hid (HB7.out.trans (hb8.mono HB7.out.size))
      clear hb8
      go_wp2_with fail
      ((with_reducible refine (HT.out.rbal _ (HF.out _ HB8.out).1.made').mono ?_); rintro e w9 ⟨rfl, hb9⟩)
      have HB9 := Lib.hid (HB8.out.trans (hb9.mono HB8.out.size))
      clear hb9
      cases bb
      · go_wp2
        go_ret
        exact ⟨rfl, (HF.out _ HB9.out).2⟩
      · go_wp2
        go_ret
        exact ⟨rfl, (HF.out _ HB9.out).2⟩
end Go.Proofs.Ytkcocdpmangcgaa.Ar
