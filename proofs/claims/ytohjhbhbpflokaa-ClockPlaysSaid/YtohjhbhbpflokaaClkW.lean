
/- The clock's search, walked. -/
import Derived.Test.YtohjhbhbpflokaaClkV
namespace Go.Proofs.Ytohjhbhbpflokaa.Ck
set_option linter.unusedSimpArgs false
set_option linter.unusedVariables false
open Go Go.RowKit
set_option linter.unusedVariables false
attribute [local go_sem] lt_add1 lt_self1 size_ne size_ne' size_ne1 size_ne1'

theorem CkAt.good {c : Nat} {w : World} {F : Nat → Prop} {x : CS × Nat} (h : CkAt c w F x) : Good x.1 x.2 := by
  obtain ⟨v, m, h1, h2, h3, h4, h5, h6, h7, h8⟩ := h
  exact h8
/-- what a walk reads of a clock. -/
theorem ckCells {c g cp n i : Nat} {w : World} {F : Nat → Prop} {s : CS} {e : CE} (h : CkAt c w F (s, n)) (hc : w.cell? ⟨c, 0, none⟩ = some (.slice (some ⟨g, 0, none⟩) s.row.length cp)) (he : s.row[i]? = some e) :
    w.cell? ⟨c, 2, none⟩ = some (.int .i64 s.hand) ∧ c < w.heap.size ∧ g < w.heap.size ∧ (∀ o, w.frozen? ⟨g, o, none⟩ = false) ∧ w.cell? ⟨g, i * 3 + 2, none⟩ = some (.bool e.used) ∧ F g ∧ F c ∧ g ≠ c ∧ usedW g s.row.length w = usedN s.row := by
  obtain ⟨v, m, h1, h2, h3, h4, h5, h6, h7, h8⟩ := h
  have c0 := cell_of_row w c 0 _ _ (0, 0) h5
  have c2 := cell_of_row w c 2 _ _ (0, 0) h5
  simp only [List.getElem?_toArray, List.getElem?_cons_zero, List.getElem?_cons_succ] at c0 c2
  obtain rfl : .slice (some ⟨g, 0, none⟩) s.row.length cp = v := by simpa using hc.symm.trans c0
  have hl := (List.getElem?_eq_some_iff.1 he).1
  have hb := h6.lt g rfl
  have hx := own_at h6 (j := i * 3 + 2) (show i * 3 + 2 < s.row.length * 3 by omega)
  rw [flat_at _ i hl] at hx
  refine ⟨c2, (Array.getElem?_eq_some_iff.1 h5).1, hb.2, fun o => ?_, ?_, (h1 g).2 (.inr (.inr rfl)), (h1 c).2 (.inl rfl), fun e => h3 (by simp [Value.ownBlock, e]), usedW_eq h6⟩
  · rcases h6.2 with ⟨e1, _⟩ | ⟨g', cap', cur, e1, e2, e3, _⟩
    · simp at e1
    · obtain ⟨rfl, rfl⟩ : g = g' ∧ cp = cap' := by simpa using e1
      simp [World.frozen?, e3]
  · rw [hx, (List.getElem?_eq_some_iff.1 he).2]
theorem cell_other {w : World} {b o b' o' : Nat} {u : Value} (h : ¬ (b = b' ∧ o = o')) : (w.setCell ⟨b, o, none⟩ u).cell? ⟨b', o', none⟩ = w.cell? ⟨b', o', none⟩ := by
  exact World.cell?_setCell_other _ _ _ _ (fun e => h (by simp at e; exact ⟨e.1, e.2⟩))
/-- the loop's invariant. -/
def VI (c g cp : Nat) (s : CS) (n : Nat) (w : World) (F : Nat → Prop) (wr : World) : Prop :=
  ∃ s1 F1, CkAt c wr F1 (s1, n) ∧ Fr w F wr F1 ∧ victim s1.row s1.hand = victim s.row s.hand ∧ s1.row.length = s.row.length ∧ s1.most = s.most ∧ wr.cell? ⟨c, 0, none⟩ = some (.slice (some ⟨g, 0, none⟩) s.row.length cp)

set_option maxHeartbeats 2000000 in
theorem victim_any (c : Nat) (s : CS) (n : Nat) (hp : 0 < s.row.length) : Does Try.prog (resCk c) 17 #[.pointer (some ⟨c, 0, none⟩)] (s, n)
    (fun v s' => v = .int .i64 ((victim s.row s.hand).2 : Nat) ∧ s' = ({ s with row := (victim s.row s.hand).1, hand := (victim s.row s.hand).2 }, n)) := by
  rintro w F h
  have hc := resCk_of h
  obtain ⟨v, m, h1, h2, h3, h4, h5, h6, h7, h8⟩ := id hc
  obtain ⟨A, cp, rfl, _, _⟩ := SlAt.of_own h6
  have c0 := cell_of_row w c 0 _ _ (0, 0) h5
  simp only [List.getElem?_toArray, List.getElem?_cons_zero] at c0
  obtain ⟨e0, he0⟩ : ∃ e0, s.row[0]? = some e0 := ⟨s.row[0], List.getElem?_eq_getElem hp⟩
  obtain ⟨g, rfl, _, _⟩ := setUsed hc he0 true c0
  have HV0 := Lib.hid (show VI c g cp s n w F w from ⟨s, F, hc, Fr.refl _ _, rfl, rfl, rfl, c0⟩)
  clear h hc h1 h2 h3 h4 h5 h6 h7 h8 c0 he0
  go_enter Try.func17, Try.ntmps17
  go_wp2_with fail
  go_loopw [] (fun wr => Hid (VI c g cp s n w F wr)) (fun wr => usedW g s.row.length wr)
  case atStart => exact HV0
  case round =>
    obtain ⟨s1, F1, hk, hf, hv, hln, hms, hc0⟩ := hrel.out
    have hg := hk.good
    have hh : s1.hand < s1.row.length := ok_pos hg.ok (show 0 < s1.row.length by omega)
    obtain ⟨e, he⟩ : ∃ e, s1.row[s1.hand]? = some e := ⟨_, List.getElem?_eq_getElem hh⟩
    rw [← hln] at hc0
    obtain ⟨d2, dc, dg, dfz, du, hFg, hFc, hgc, hus⟩ := ckCells hk hc0 he
    have hsm : s1.row.length ≤ 1000 := Nat.le_trans hg.le hg.small
    have HX := Lib.hid (And.intro hk (And.intro hf (And.intro hv (And.intro hln (And.intro hms (And.intro hus (And.intro he hg)))))))
    clear hk hf hv hln hms hus he hg hrel HV0
    by_cases hu : e.used = true
    · rw [hu] at du
      go_wp2_with fail
      go_region
      go_wp2_with fail
      go_region
      have hset := setUsed HX.out.1 HX.out.2.2.2.2.2.2.1 false hc0
      obtain ⟨g', hg', _, hset⟩ := hset
      obtain rfl : g = g' := by simpa using hg'
      have hb2 : Below (wr.setCell ⟨g, s1.hand * 3 + 2, none⟩ (.bool false)).heap.size (wr.setCell ⟨g, s1.hand * 3 + 2, none⟩ (.bool false)) (wr.setCell ⟨g, s1.hand * 3 + 2, none⟩ (.bool false)).drew.drew := ((Below.refl _ _).drew).drew
      have hset := (resCk c).below hset hb2
      have hfW : Fr wr F1 (wr.setCell ⟨g, s1.hand * 3 + 2, none⟩ (.bool false)).drew.drew F1 := (fr_cell hFg).trans (Fr.of_below hb2)
      have HCE : Hid ((wr.setCell ⟨g, s1.hand * 3 + 2, none⟩ (.bool false)).drew.drew.cell? ⟨c, 0, none⟩ = some (.slice (some ⟨g, 0, none⟩) s1.row.length cp)) := Lib.hid ((hb2.cell (p := ⟨c, 0, none⟩) (by simpa using dc)).trans ((cell_other (fun h => hgc h.1)).trans hc0))
      generalize (wr.setCell ⟨g, s1.hand * 3 + 2, none⟩ (.bool false)).drew.drew = W at hset hfW HCE ⊢
      have hc1 : W.cell? ⟨c, 0, none⟩ = some (.slice (some ⟨g, 0, none⟩) s1.row.length cp) := HCE.out
      have hp2 : 0 < ({ s1 with row := s1.row.set s1.hand (e.mk1 false) } : CS).row.length := by show 0 < (s1.row.set s1.hand (e.mk1 false)).length; rw [List.length_set]; omega
      have HO := Lib.hid (on_raw c { s1 with row := s1.row.set s1.hand (e.mk1 false) } n hp2 W F1 hset)
      have HA := Lib.hid (And.intro (on_at hp2 hset hFc) (And.intro hfW hc1))
      clear hset hfW hb2 d2 dc dg dfz du hFg hFc hgc hg' hc1 hc0
      go_wp2_with fail
      ((with_reducible refine HO.out.mono ?_); rintro _ w2 ⟨⟨v, rfl⟩, rfl⟩)
      go_wp2_with fail
      have hE : ((s1.hand : Int) + 1) % (s1.row.length : Int) = (((s1.hand + 1) % (s1.row.set s1.hand (e.mk1 false)).length : Nat) : Int) := by rw [List.length_set, Int.natCast_emod, Int.natCast_add]; rfl
      rw [hE]
      obtain ⟨⟨hA1, hA2⟩, hA3, hA4⟩ := HA.out
      obtain ⟨hk, hf, hv, hln, hms, hus, he, hg⟩ := HX.out
      have hstep := victim_step he hu
      have hdec := usedN_set (e' := e.mk1 false) he hu rfl
      have hl2 : (s1.row.set s1.hand (e.mk1 false)).length = s1.row.length := List.length_set
      have hc2 := (cell_other (w := W) (b := c) (o := 2) (b' := c) (o' := 0) (u := .int .i64 ((s1.hand + 1) % (s1.row.set s1.hand (e.mk1 false)).length : Nat)) (fun h => by simp at h)).trans hA4
      obtain ⟨e1, he1⟩ : ∃ e1, (s1.row.set s1.hand (e.mk1 false))[s1.hand]? = some e1 := ⟨_, List.getElem?_eq_getElem (by rw [hl2]; exact hh)⟩
      have hck := (ckCells hA1 (cp := cp) (g := g) (i := s1.hand) (hc2.trans (congrArg (fun l => some (Value.slice (some ⟨g, 0, none⟩) l cp)) hl2.symm)) he1).2.2.2.2.2.2.2.2
      rw [hl2] at hck
      refine ⟨Lib.hid ⟨_, F1, hA1, (hf.trans hA3).trans hA2, ?_, hl2.trans hln, hms, by rw [← hln]; exact hc2⟩, ?_⟩
      · rw [← hv, hstep, hl2]
      · rw [← hln, hl2, hck, hus]
        show usedN (s1.row.set s1.hand (e.mk1 false)) < usedN s1.row
        omega
    · have hu' : e.used = false := by simpa using hu
      rw [hu'] at du
      go_wp2_with fail
      go_region
      go_wp2_with fail
      go_ret
      obtain ⟨hk, hf, hv, hln, hms, hus, he, hg⟩ := HX.out
      have hst := victim_stop he hu'
      rw [hst] at hv
      have hb2 : Below wr.heap.size wr wr.drew := (Below.refl _ _).drew
      refine ⟨_, (s1, n), F1, rfl, ⟨by rw [← hv]; rfl, ?_⟩, (resCk c).below hk hb2, hf.trans (Fr.of_below hb2)⟩
      rw [← hv, ← hms]
end Go.Proofs.Ytohjhbhbpflokaa.Ck
