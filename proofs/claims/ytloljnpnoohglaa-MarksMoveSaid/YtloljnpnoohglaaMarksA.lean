/- The walk of MarksOrder, and of the page's examples. -/
import Derived.Test.YtloljnpnoohglaaMarksW
import Derived.Test.YtloljnpnoohglaaGrow
import Derived.Deep.DeepCutAuto
namespace Go.Proofs.Ytloljnpnoohglaa.Marks
set_option linter.unusedSimpArgs false
set_option linter.unusedVariables false
open Go.RowKit
attribute [local go_sem] lt_add1 lt_self1 size_ne size_ne' size_ne1 size_ne1'

set_option maxHeartbeats 400000 in
theorem awake_any (w : World) :
    Calls Try.prog 15 #[] w fun e w' => e = .returned (.bool true) ∧ Below w.heap.size w w' := by
  have m1 : mv 5 false 3 1 3 = 7 := by decide +kernel
  have m2 : mv 3 true 3 0 1 = 4 := by decide +kernel
  have M1 := Lib.hid m1
  have M2 := Lib.hid m2
  clear m1 m2
  go_enter Try.func15, Try.ntmps15
  go_wp2_with fail
  refine (move_any _ _ _ _ _ _).mono ?_
  rintro e w1 ⟨rfl, hb⟩
  simp only [show ((ByteArray.mk #[120, 121, 122]).size : Int) = 3 from rfl, M1.out]
  have hz := hb.size

  go_wp2_with fail
  refine (move_any _ _ _ _ _ _).mono ?_
  rintro e w2 ⟨rfl, hb2⟩
  simp only [show ((ByteArray.mk #[120]).size : Int) = 1 from rfl, M2.out]
  obtain ⟨hc, hf⟩ := bcell hb2
  have hz2 := hb2.size
  simp at hz2
  have hlt : w1.heap.size < w2.heap.size := by omega
  go_wp2
  go_ret
  exact ⟨rfl, (((hb.alloc hz _).trans (hb2.mono (by simp; omega))).alloc (by omega) _)⟩


theorem mv_order {m1 m2 a o n : Int} {r1 r2 : Bool} (h1 : 0 ≤ m1 ∧ m1 < 1152921504606846976) (h2 : 0 ≤ m2 ∧ m2 < 1152921504606846976) (h3 : 0 ≤ a ∧ a < 1152921504606846976) (h4 : 0 ≤ o ∧ o < 1152921504606846976)
    (hn : 0 ≤ n ∧ n ≤ 60) (h : m1 < m2 ∨ (m1 = m2 ∧ ¬ (r1 = true ∧ r2 = false))) : mv m1 r1 a o n ≤ mv m2 r2 a o n := by
  unfold mv wrap64
  cases r1 <;> cases r2 <;> simp at h ⊢ <;> (repeat' split) <;> omega

/-- the law's way out ahead of its marks. -/
def outB (m1 : Int) (r1 : Bool) (m2 : Int) (r2 : Bool) (a o : Int) : Bool := !nearB [m1, m2, a, o] || decide (m2 < m1) || (m1 == m2 && r1 && !r2)

set_option maxHeartbeats 1000000 in
theorem order_walk (m1 : Int) (r1 : Bool) (m2 : Int) (r2 : Bool) (a o : Int) (s : ByteArray) (hs : s.size ≤ 9223372036854775807) (w : World) :
    Calls Try.prog 3 #[.agg #[.int .i64 m1, .bool r1], .agg #[.int .i64 m2, .bool r2], .agg #[.int .i64 a, .int .i64 o, .string s]] w fun e w' => e = .returned (.bool true) ∧ Below w.heap.size w w' := by
  go_enter Try.func3, Try.ntmps3
  go_wp2_with fail
  refine (awake_any _).mono ?_
  rintro e w1 ⟨rfl, hb⟩
  obtain ⟨hc, hf⟩ := bcell hb
  have hz := hb.size
  simp at hz
  have hz0 : w.heap.size < w1.heap.size := by omega
  have hz1 : w.heap.size + 1 < w1.heap.size := by omega
  have hz2 : w.heap.size + 1 + 1 < w1.heap.size := by omega
  have hs1 : s.size ≤ 9223372036854775807 := by omega
  have hb' : Below w.heap.size w w1 := (((Below.refl _ _).alloc (Nat.le_refl _) _).alloc (by simp) _ |>.alloc (by simp; omega) _).trans (hb.mono (by simp; omega))
  have Hb := Lib.hid hb'
  clear hb hb'
  go_upto_region 3 with fail
  go_cut [] (fun wx => ∃ t : ByteArray, t.size ≤ 60 ∧ Below w.heap.size w wx ∧ wx.heap.size = w1.heap.size ∧ wx.cell? ⟨w.heap.size, 0, none⟩ = some (.int .i64 m1) ∧ wx.cell? ⟨w.heap.size, 1, none⟩ = some (.bool r1) ∧
    wx.cell? ⟨w.heap.size + 1, 0, none⟩ = some (.int .i64 m2) ∧ wx.cell? ⟨w.heap.size + 1, 1, none⟩ = some (.bool r2) ∧
    wx.cell? ⟨w.heap.size + 1 + 1, 0, none⟩ = some (.int .i64 a) ∧ wx.cell? ⟨w.heap.size + 1 + 1, 1, none⟩ = some (.int .i64 o) ∧ wx.cell? ⟨w.heap.size + 1 + 1, 2, none⟩ = some (.string t))
  case first =>
    by_cases h60 : s.size ≤ 60
    · go_wp2_with fail
      go_meet
      refine ⟨s, h60, (Hb.out.setCell (by simp; omega) _), by simp [World.setCell], ?_⟩
      refine ⟨?_, ?_, ?_, ?_, ?_, ?_, ?_⟩ <;> simp [go_sem, hc]
    · go_wp2_with fail
      go_meet
      refine ⟨s.extract 0 60, by simp; omega, (Hb.out.setCell (by simp; omega) _), by simp [World.setCell], ?_⟩
      refine ⟨?_, ?_, ?_, ?_, ?_, ?_, ?_⟩ <;> simp [go_sem, hc]
  case rest =>
    obtain ⟨t, ht, hbx, hsz, c0, c1, c2, c3, c4, c5, c6⟩ := hcut
    clear hc hf Hb hs1
    have hlt0 : w.heap.size < wc.heap.size := by omega
    have hlt1 : w.heap.size + 1 < wc.heap.size := by omega
    have hlt2 : w.heap.size + 1 + 1 < wc.heap.size := by omega
    have hle0 : w.heap.size ≤ wc.heap.size := by omega
    have HS := Lib.hid hsz
    clear hsz hz hz0 hz1 hz2
    have HB := Lib.hid hbx
    clear hbx
    obtain ⟨wb, rfl⟩ : ∃ wb, wb = wc := ⟨_, rfl⟩
    go_upto_region 4 with fail
    go_cut [52] (fun s52 wx => s52 = .bool (outB m1 r1 m2 r2 a o) ∧ Below wb.heap.size wb wx)
    case first =>
      go_wp2_with fail
      refine (near_any _ [m1, m2, a, o] _ (by simp) (by intro j hj; simp at hj; match j, hj with | 0, _ => simp [go_sem] | 1, _ => simp [go_sem] | 2, _ => simp [go_sem] | 3, _ => simp [go_sem])).mono ?_
      rintro e w2 ⟨rfl, rfl⟩
      cases hn : nearB [m1, m2, a, o]
      · go_wp2_with fail
        go_meet
        exact ⟨by simp [outB, hn], by (repeat (first | exact Below.refl _ _ | assumption | (refine Below.setCell ?_ (by first | (simp; done) | (simp; omega) | omega) _) | (refine Below.alloc ?_ (by first | (simp; done) | (simp; omega) | omega) _) | (refine Below.drew ?_) | (refine Below.drewN ?_ _) | (refine Below.trans ?_ (Below.mono (by assumption) (by first | (simp; done) | (simp; omega) | omega)))))⟩
      · by_cases h1 : m2 < m1
        · go_wp2_with fail
          go_meet
          exact ⟨by simp [outB, h1], by (repeat (first | exact Below.refl _ _ | assumption | (refine Below.setCell ?_ (by first | (simp; done) | (simp; omega) | omega) _) | (refine Below.alloc ?_ (by first | (simp; done) | (simp; omega) | omega) _) | (refine Below.drew ?_) | (refine Below.drewN ?_ _) | (refine Below.trans ?_ (Below.mono (by assumption) (by first | (simp; done) | (simp; omega) | omega)))))⟩
        · cases h2 : m1 == m2
          · go_wp2_with fail
            go_meet
            exact ⟨by simp [outB, hn, h2], by (repeat (first | exact Below.refl _ _ | assumption | (refine Below.setCell ?_ (by first | (simp; done) | (simp; omega) | omega) _) | (refine Below.alloc ?_ (by first | (simp; done) | (simp; omega) | omega) _) | (refine Below.drew ?_) | (refine Below.drewN ?_ _) | (refine Below.trans ?_ (Below.mono (by assumption) (by first | (simp; done) | (simp; omega) | omega)))))⟩
          · cases r1
            · go_wp2_with fail
              go_meet
              exact ⟨by simp [outB, hn], by (repeat (first | exact Below.refl _ _ | assumption | (refine Below.setCell ?_ (by first | (simp; done) | (simp; omega) | omega) _) | (refine Below.alloc ?_ (by first | (simp; done) | (simp; omega) | omega) _) | (refine Below.drew ?_) | (refine Below.drewN ?_ _) | (refine Below.trans ?_ (Below.mono (by assumption) (by first | (simp; done) | (simp; omega) | omega)))))⟩
            · cases r2
              · go_wp2_with fail
                go_meet
                exact ⟨by simp [outB, h2], by (repeat (first | exact Below.refl _ _ | assumption | (refine Below.setCell ?_ (by first | (simp; done) | (simp; omega) | omega) _) | (refine Below.alloc ?_ (by first | (simp; done) | (simp; omega) | omega) _) | (refine Below.drew ?_) | (refine Below.drewN ?_ _) | (refine Below.trans ?_ (Below.mono (by assumption) (by first | (simp; done) | (simp; omega) | omega)))))⟩
              · go_wp2_with fail
                go_meet
                exact ⟨by simp [outB, hn], by (repeat (first | exact Below.refl _ _ | assumption | (refine Below.setCell ?_ (by first | (simp; done) | (simp; omega) | omega) _) | (refine Below.alloc ?_ (by first | (simp; done) | (simp; omega) | omega) _) | (refine Below.drew ?_) | (refine Below.drewN ?_ _) | (refine Below.trans ?_ (Below.mono (by assumption) (by first | (simp; done) | (simp; omega) | omega)))))⟩
    case rest =>
      obtain ⟨rfl, hb4⟩ := hcut
      obtain ⟨hc4, hf4, hs4⟩ := bcell3 hb4
      have d0 := (hc4 _ 0 hlt0).trans c0
      have d1 := (hc4 _ 1 hlt0).trans c1
      have d2 := (hc4 _ 0 hlt1).trans c2
      have d3 := (hc4 _ 1 hlt1).trans c3
      have d4 := (hc4 _ 0 hlt2).trans c4
      have d5 := (hc4 _ 1 hlt2).trans c5
      have d6 := (hc4 _ 2 hlt2).trans c6
      clear c0 c1 c2 c3 c4 c5 c6 hc4 hf4
      have hlt0 := hs4 _ hlt0
      have hlt1 := hs4 _ hlt1
      have hlt2 := hs4 _ hlt2
      have HB4 := Lib.hid (Below.trans HB.out (hb4.mono (by omega)))
      clear hb4 hs4 HB HS hle0
      have hle0 : w.heap.size ≤ wc.heap.size := by omega
      obtain ⟨wd, rfl⟩ : ∃ wd, wd = wc := ⟨_, rfl⟩
      cases ho : outB m1 r1 m2 r2 a o
      · have hmv : mv m1 r1 a o t.size ≤ mv m2 r2 a o t.size := by
          simp [outB, nearB] at ho
          refine mv_order (by omega) (by omega) (by omega) (by omega) ⟨by omega, by omega⟩ ?_
          by_cases e : m1 = m2
          · exact .inr ⟨e, fun h => by have := ho.2 e h.1; simp [h.2] at this⟩
          · exact .inl (by omega)
        go_upto_region 6 with fail
        go_cut [7, 8] (fun s7 s8 wx => ∃ b7 b8 : Nat, s7 = .pointer (some ⟨b7, 0, none⟩) ∧ s8 = .pointer (some ⟨b8, 0, none⟩) ∧ Below wd.heap.size wd wx ∧
              wx.cell? ⟨b7, 0, none⟩ = some (.int .i64 (mv m1 r1 a o t.size)) ∧ wx.cell? ⟨b7, 1, none⟩ = some (.bool r1) ∧ wx.cell? ⟨b8, 0, none⟩ = some (.int .i64 (mv m2 r2 a o t.size)) ∧ wx.cell? ⟨b8, 1, none⟩ = some (.bool r2))
        case first =>
          refine wp_region_grow 8 (by kernel_rfl) (by kernel_rfl) ?_
          simp only [List.take_succ_cons, List.take_zero, List.drop_succ_cons, List.drop_zero]
          ((refine wpGrow_val' rfl rfl ?_; apply Exists.intro; refine ⟨fun w1 hw1 => ?_, ?_⟩); (have hc1 := hw1.cell; go_simp; exact growUpon_ok rfl); (refine wpGrow_at (by (simp only [Act.put, List.setIfInBounds_toArray, List.set_cons_succ, List.set_cons_zero]) <;> exact rfl) ?_))
          ((refine wpGrow_val' rfl rfl ?_; apply Exists.intro; refine ⟨fun w1 hw1 => ?_, ?_⟩); (have hc1 := hw1.cell; go_simp; exact growUpon_ok rfl); (refine wpGrow_at (by (simp only [Act.put, List.setIfInBounds_toArray, List.set_cons_succ, List.set_cons_zero]) <;> exact rfl) ?_))
          (refine wpGrow_val' rfl rfl ?_; apply Exists.intro; refine ⟨fun w1 hw1 => ?_, ?_⟩)
          · go_simp
            exact growUpon_call (move_any _ _ _ _ _ _)
          (refine wpGrow_at (by (simp only [Act.put, List.setIfInBounds_toArray, List.set_cons_succ, List.set_cons_zero]) <;> exact rfl) ?_)
          ((refine wpGrow_val' rfl rfl ?_; apply Exists.intro; refine ⟨fun w1 hw1 => ?_, ?_⟩); (have hc1 := hw1.cell; go_simp; exact growUpon_ok rfl); (refine wpGrow_at (by (simp only [Act.put, List.setIfInBounds_toArray, List.set_cons_succ, List.set_cons_zero]) <;> exact rfl) ?_))
          ((refine wpGrow_val' rfl rfl ?_; apply Exists.intro; refine ⟨fun w1 hw1 => ?_, ?_⟩); (have hc1 := hw1.cell; go_simp; exact growUpon_ok rfl); (refine wpGrow_at (by (simp only [Act.put, List.setIfInBounds_toArray, List.set_cons_succ, List.set_cons_zero]) <;> exact rfl) ?_))
          (refine wpGrow_val' rfl rfl ?_; apply Exists.intro; refine ⟨fun w1 hw1 => ?_, ?_⟩)
          · go_simp
            exact growUpon_call (move_any _ _ _ _ _ _)
          (refine wpGrow_at (by (simp only [Act.put, List.setIfInBounds_toArray, List.set_cons_succ, List.set_cons_zero]) <;> exact rfl) ?_)
          refine wpGrow_make (O := .cells #[.int .i64 0, .bool false] 23) rfl (by kernel_rfl) (fun b7 hb7 hf7 => ?_)
          (refine wpGrow_at (by (simp only [Act.put, List.setIfInBounds_toArray, List.set_cons_succ, List.set_cons_zero]) <;> exact rfl) ?_)
          refine wpGrow_make (O := .cells #[.int .i64 0, .bool false] 23) rfl (by kernel_rfl) (fun b8 hb8 hf8 => ?_)
          (refine wpGrow_at (by (simp only [Act.put, List.setIfInBounds_toArray, List.set_cons_succ, List.set_cons_zero]) <;> exact rfl) ?_)
          refine wpGrow_nil ?_
          intro w2 hD
          obtain ⟨n8, f8, g8, l8⟩ := hD.new List.mem_cons_self
          obtain ⟨n7, f7, g7, l7⟩ := hD.new (List.mem_cons_of_mem _ List.mem_cons_self)
          have hne : b7 ≠ b8 := hf8 _ List.mem_cons_self
          have hne' : b8 ≠ b7 := Ne.symm hne
          have hbl := Lib.hid hD.below
          clear hD hf7 hf8
          go_wp2_with fail
          go_meet
          refine ⟨_, _, rfl, rfl, ((((hbl.out.setCell g7 _).setCell g7 _).setCell g8 _).setCell g8 _), ?_⟩
          refine ⟨?_, ?_, ?_, ?_⟩ <;> simp [go_sem, n7, n8, hne, hne']
        case rest =>
          obtain ⟨b7, b8, rfl, rfl, hb6, e0, e1, e2, e3⟩ := hcut
          obtain ⟨hc6, _, _⟩ := bcell3 hb6
          have f1 := (hc6 _ 1 hlt0).trans d1
          have f3 := (hc6 _ 1 hlt1).trans d3
          have HB6 := Lib.hid (Below.trans HB4.out (hb6.mono hle0))
          clear hb6 hc6 d0 d1 d2 d3 d4 d5 d6 HB4
          go_wp2
          go_ret
          exact ⟨rfl, HB6.out⟩
      · go_wp2
        go_ret
        exact ⟨rfl, HB4.out⟩
end Go.Proofs.Ytloljnpnoohglaa.Marks
