
/- The page's clock: victim. -/
import Derived.Test.YtohjhbhbpflokaaClkA
namespace Go.Proofs.Ytohjhbhbpflokaa.Ck
set_option linter.unusedSimpArgs false
set_option linter.unusedVariables false
open Go Go.RowKit Go.Shelf
set_option linter.unusedVariables false
attribute [local go_sem] lt_add1 lt_self1 size_ne size_ne' size_ne1 size_ne1'
/-- what stands in the page's loop. -/
structure RV (w : World) (B g cap y z : Nat) (mo : Int) (row : List CE) (hand : Nat) (row' : List CE) (h : Nat) (wr : World) : Prop where
  own : OwnE wr B (.slice (some ⟨g, 0, none⟩) row.length cap) row'
  len : row'.length = row.length
  blk : wr.heap[z]? = some (.cells #[.slice (some ⟨g, 0, none⟩) row.length cap, .int .i64 h, .int .i64 mo] 40 (0, 0))
  res : wr.heap[y]? = some (.cells #[.slice none 0 0, .int .i64 0, .int .i64 0] 40 (0, 0))
  vic : victim row' h = victim row hand
  lt : h < row.length
  bel : Below w.heap.size w wr
theorem RV.mark {w : World} {B g cap y z : Nat} {mo : Int} {row row' : List CE} {hand h : Nat} {wr : World} {e : CE} (hr : RV w B g cap y z mo row hand row' h wr) (he : row'[h]? = some e) (hu : e.used = true) (hB : w.heap.size ≤ B) (hyz : y ≠ z) (hy : w.heap.size ≤ y) (hz : w.heap.size ≤ z) (hgz : g ≠ z) (hgy : g ≠ y) (hg : B ≤ g) :
    RV w B g cap y z mo row hand (row'.set h (e.mk1 false)) ((h + 1) % row.length) ((wr.setCell ⟨g, h * 3 + 2, none⟩ (.bool false)).setCell ⟨z, 1, none⟩ (.int .i64 ((h + 1) % row.length : Nat))) := by
  have hl := hr.len
  have hlt := hr.lt
  refine ⟨?_, by rw [List.length_set]; exact hl, ?_, ?_, ?_, Nat.mod_lt _ (by omega), ?_⟩
  · unfold OwnE
    rw [List.length_set, ← flat_set false he]
    have ho := hr.own
    unfold OwnE at ho
    rw [hl] at ho ⊢
    refine own_setCell (p := ⟨z, 1, none⟩) ?_ (fun e => hgz (by simpa [Value.ownBlock] using e)) _
    have h1 := own_set (own_base ho (Nat.zero_le B)) (j := h * 3 + 2) (by omega) (.bool false)
    refine ⟨h1.1, ?_⟩
    rcases h1.2 with ⟨q, _⟩ | ⟨g', cap', cur, q1, q2, q3⟩
    · simp at q
    · refine .inr ⟨g', cap', cur, q1, ?_, q3⟩
      have : g = g' := by simp at q1; exact q1.1
      omega
  · have h1 : (wr.setCell ⟨g, h * 3 + 2, none⟩ (.bool false)).heap[z]? = _ := (heap_setCell_other _ _ _ _ hgz.symm).trans hr.blk
    have h2 := heap_setCell_same _ z 1 _ _ (.int .i64 ((h + 1) % row.length : Nat)) h1
    rw [h2]
    rfl
  · exact (heap_setCell_other _ _ _ _ hyz).trans ((heap_setCell_other _ _ _ _ hgy.symm).trans hr.res)
  · have h1 := victim_step he hu
    rw [hl] at h1
    rw [← h1]
    exact hr.vic
  · exact (hr.bel.setCell (by show w.heap.size ≤ g; omega) _).setCell hz _
theorem RV.used {w : World} {B g cap y z : Nat} {mo : Int} {row row' : List CE} {hand h : Nat} {wr : World} (hr : RV w B g cap y z mo row hand row' h wr) : usedW g row.length wr = usedN row' := by
  have ho := hr.own
  unfold OwnE at ho
  have hl := hr.len
  rw [← hl] at ho ⊢
  exact usedW_eq (own_base ho (Nat.zero_le _))
set_option maxHeartbeats 4000000 in
theorem refvict_any (r : Value) (hand : Nat) (mo : Int) (row : List CE) (w : World) (hs : row.length ≤ 1000) (hh : hand < row.length) (h : OwnE w 0 r row) : Calls Try.prog 27 #[refV r hand mo] w fun e w' => ∃ r', e = .returned (refV r' (victim row hand).2 mo) ∧ OwnE w' w.heap.size r' (victim row hand).1 ∧ Below w.heap.size w w' := by
  obtain ⟨A, cp, rfl⟩ := h.form
  have HO := Lib.hid h
  clear h
  unfold refV
  go_enter Try.func27, Try.ntmps27
  go_upto_region 1 with fail
  have hb1 : Below w.heap.size w ((w.alloc (.cells #[.slice A row.length cp, .int .i64 hand, .int .i64 mo] 40)).alloc (.cells #[.slice none 0 0, .int .i64 0, .int .i64 0] 40)) := ((Below.refl _ _).alloc (Nat.le_refl _) _).alloc (by simp) _
  have hx : ((w.alloc (.cells #[.slice A row.length cp, .int .i64 hand, .int .i64 mo] 40)).alloc (.cells #[.slice none 0 0, .int .i64 0, .int .i64 0] 40)).heap[w.heap.size]? = some (.cells #[.slice A row.length cp, .int .i64 hand, .int .i64 mo] 40 (0, 0)) := (Below.heap_alloc _ _ _ (by simp)).trans (heap_alloc_new _ _)
  have hy := alloc2_at w (.cells #[.slice A row.length cp, .int .i64 hand, .int .i64 mo] 40) (.cells #[.slice none 0 0, .int .i64 0, .int .i64 0] 40)
  have H1 := Lib.hid (And.intro (HO.out.below hb1) hb1)
  clear hb1
  generalize (w.alloc (.cells #[.slice A row.length cp, .int .i64 hand, .int .i64 mo] 40)).alloc (.cells #[.slice none 0 0, .int .i64 0, .int .i64 0] 40) = w1 at hx hy H1 ⊢
  generalize hX : w.heap.size = x at hx hy ⊢
  have c0 := cell_of_row w1 x 0 _ _ (0, 0) hx
  have c1 := cell_of_row w1 x 1 _ _ (0, 0) hx
  have c2 := cell_of_row w1 x 2 _ _ (0, 0) hx
  have hxl := (Array.getElem?_eq_some_iff.1 hx).1
  have hyl := (Array.getElem?_eq_some_iff.1 hy).1
  simp only [List.getElem?_toArray, List.getElem?_cons_zero, List.getElem?_cons_succ] at c0 c1 c2
  have HX := Lib.hid (And.intro hx (And.intro hy hX))
  have HCP := Lib.hid (copied_any (.slice A row.length cp) hand mo row w1 hs H1.out.1)
  unfold refV at HCP
  clear hx hy hX
  go_wp2_with fail
  ((with_reducible refine HCP.out.mono ?_); rintro _ w2 ⟨r2, rfl, ho2, hb2⟩)
  obtain ⟨g, cap, rfl, hg1, hg2⟩ := World.ownsRow.form ho2 (by omega)
  have hX := HX.out.2.2
  have hle : w.heap.size ≤ w1.heap.size := H1.out.2.size
  have hle2 := hb2.size
  have hR0 : RV w w1.heap.size g cap (x + 1) w2.heap.size mo row hand row hand (w2.alloc (.cells #[.slice (some ⟨g, 0, none⟩) row.length cap, .int .i64 hand, .int .i64 mo] 40)) := by
    have hba : Below w2.heap.size w2 (w2.alloc (.cells #[.slice (some ⟨g, 0, none⟩) row.length cap, .int .i64 hand, .int .i64 mo] 40)) := (Below.refl _ _).alloc (Nat.le_refl _) _
    exact ⟨ho2.below hba, rfl, heap_alloc_new _ _, (hba.block (x + 1) (by omega)).trans ((hb2.block (x + 1) hyl).trans HX.out.2.1), rfl, hh, (H1.out.2.trans (hb2.mono hle)).trans (hba.mono (by omega))⟩
  have HR0 := Lib.hid hR0
  have hgz : g ≠ w2.heap.size := by omega
  have hgy : g ≠ x + 1 := by omega
  have hyz : x + 1 ≠ w2.heap.size := by omega
  have hz0 : w.heap.size ≤ w2.heap.size := by omega
  have hy0 : w.heap.size ≤ x + 1 := by omega
  go_upto_region 2 with fail
  clear hR0 hb2 ho2 c0 c1 c2 hX
  generalize w2.alloc (.cells #[.slice (some ⟨g, 0, none⟩) row.length cap, .int .i64 hand, .int .i64 mo] 40) = w3 at HR0 ⊢
  generalize w2.heap.size = z at HR0 hgz hyz hz0 hg2 hle2 ⊢
  generalize x + 1 = y at HR0 hgy hyz hy0 hyl ⊢
  go_wp2_with fail
  go_loopw [] (fun wr => Hid (∃ row' h, RV w w1.heap.size g cap y z mo row hand row' h wr)) (fun wr => usedW g row.length wr)
  case atStart => exact Lib.hid ⟨_, _, HR0.out⟩
  case round =>
    obtain ⟨row', h, hr⟩ := hrel.out
    have hl := hr.len
    have hlt := hr.lt
    obtain ⟨e, he⟩ : ∃ e, row'[h]? = some e := ⟨_, List.getElem?_eq_getElem (by omega)⟩
    obtain ⟨g', cap', e1, _, hgl, d0, d1, d2, hfg⟩ := hr.own.cells he
    obtain ⟨rfl, rfl⟩ : g = g' ∧ cap = cap' := by simp at e1; exact ⟨e1.1, e1.2.2⟩
    have k0 := cell_of_row wr z 0 _ _ (0, 0) hr.blk
    have k1 := cell_of_row wr z 1 _ _ (0, 0) hr.blk
    have k2 := cell_of_row wr z 2 _ _ (0, 0) hr.blk
    have zl := (Array.getElem?_eq_some_iff.1 hr.blk).1
    have zf : ∀ o, wr.frozen? ⟨z, o, none⟩ = false := fun o => by have := hr.blk; simp [World.frozen?, this]
    have y0 := cell_of_row wr y 0 _ _ (0, 0) hr.res
    have y1 := cell_of_row wr y 1 _ _ (0, 0) hr.res
    have y2 := cell_of_row wr y 2 _ _ (0, 0) hr.res
    have yl := (Array.getElem?_eq_some_iff.1 hr.res).1
    have yf : ∀ o, wr.frozen? ⟨y, o, none⟩ = false := fun o => by have := hr.res; simp [World.frozen?, this]
    simp only [List.getElem?_toArray, List.getElem?_cons_zero, List.getElem?_cons_succ] at k0 k1 k2 y0 y1 y2
    have hus := hr.used
    have HH := Lib.hid (And.intro hr (And.intro he hus))
    have hv : ((h : Int) + 1) % (row.length : Int) = (((h + 1) % row.length : Nat) : Int) := by rw [Int.natCast_emod, Int.natCast_add]; rfl
    have HV := Lib.hid hv
    have hne : ¬ ((row.length : Int) = 0) := by omega
    have hlt' : (h : Int) < row.length := by omega
    clear hr he hus hrel HR0 e1 hv hl
    by_cases hu : e.used = true
    · rw [hu] at d2
      go_wp2_with fail
      rw [HV.out]
      have hm := HH.out.1.mark HH.out.2.1 hu hle hyz hy0 hz0 hgz hgy hg1
      have hdec := usedN_set (e' := e.mk1 false) HH.out.2.1 hu rfl
      go_roundw
      case rel => exact Lib.hid ⟨_, _, hm⟩
      case measure =>
        rw [hm.used, HH.out.2.2]
        omega
    · have hu' : e.used = false := by simpa using hu
      rw [hu'] at d2
      have hst := victim_stop HH.out.2.1 hu'
      have hv9 := HH.out.1.vic
      rw [hst] at hv9
      have H9 := Lib.hid hv9
      clear hst hv9
      go_wp2_with fail
      rw [← H9.out]
      refine bodyPost_ret (v := .agg #[.slice (some ⟨g, 0, none⟩) row.length cap, .int .i64 h, .int .i64 mo]) (by simp [results, Try.results27, go_sem, *]) rfl ⟨_, rfl, ?_, ?_⟩
      · have n1 : (Value.slice (some ⟨g, 0, none⟩) row.length cap).ownBlock ≠ some y := fun e => hgy (by simpa [Value.ownBlock] using e)
        exact own_base (own_setCell (own_setCell (own_setCell HH.out.1.own n1 _) n1 _) n1 _) hle
      · exact ((HH.out.1.bel.setCell hy0 _).setCell hy0 _).setCell hy0 _
end Go.Proofs.Ytohjhbhbpflokaa.Ck
