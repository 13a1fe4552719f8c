/- The walk of MarksMove. -/
import Derived.Test.YtloljnpnoohglaaMarksA
import Derived.Test.YtloljnpnoohglaaMarksV
namespace Go.Proofs.Ytloljnpnoohglaa.Marks
set_option linter.unusedSimpArgs false
set_option linter.unusedVariables false
open Go.RowKit
attribute [local go_sem] lt_add1 lt_self1 size_ne size_ne' size_ne1 size_ne1'

set_option maxRecDepth 100000 in
set_option maxHeartbeats 1000000 in
theorem move_walk (l0 : List (Int × Bool)) (A : Option Addr) (cap : Nat) (a o : Int) (s0 : ByteArray) (hs : s0.size ≤ 9223372036854775807) (hl0 : l0.length ≤ cap) (hcap : cap ≤ 9223372036854775807)
    (hw : ∀ x ∈ l0, -9223372036854775808 ≤ x.1 ∧ x.1 ≤ 9223372036854775807) (w : World) (hsl : SlAt w w.heap.size 2 l0.length A (mcell l0)) :
    Calls Try.prog 5 #[.slice A l0.length cap, .agg #[.int .i64 a, .int .i64 o, .string s0]] w fun e w' => e = .returned (.bool true) ∧ Below w.heap.size w w' := by
  have HSL := Lib.hid hsl
  have HW := Lib.hid hw
  clear hsl hw
  go_enter Try.func5, Try.ntmps5
  go_wp2_with fail
  refine (awake_any _).mono ?_
  rintro e w1 ⟨rfl, hb⟩
  obtain ⟨hc, hf, hs'⟩ := bcell3 hb
  have hz := hb.size
  simp at hz
  have hz0 : w.heap.size < w1.heap.size := by omega
  have hb' : Below w.heap.size w w1 := by (repeat (first | exact Below.refl _ _ | assumption | (refine Below.setCell ?_ (by first | (simp; done) | (simp; omega) | omega) _) | (refine Below.alloc ?_ (by first | (simp; done) | (simp; omega) | omega) _) | (refine Below.drew ?_) | (refine Below.drewN ?_ _) | (refine Below.trans ?_ (Below.mono (by assumption) (by first | (simp; done) | (simp; omega) | omega)))))
  have Hb := Lib.hid hb'
  clear hb hb' hs'
  go_upto_region 3 with fail
  go_cut [0] (fun v0 wx => ∃ l : List (Int × Bool), l.length ≤ 30 ∧ v0 = .slice A l.length cap ∧ l.length ≤ cap ∧ SlAt w w.heap.size 2 l.length A (mcell l) ∧ (∀ x ∈ l, -9223372036854775808 ≤ x.1 ∧ x.1 ≤ 9223372036854775807) ∧ w1 = wx)
  case first =>
    by_cases h30 : l0.length ≤ 30
    · go_wp2_with fail
      go_meet
      exact ⟨l0, h30, rfl, hl0, HSL.out, HW.out, rfl⟩
    · go_wp2_with fail
      go_meet
      have e : (l0.take 30).length = 30 := by simp; omega
      refine ⟨l0.take 30, by omega, by rw [e], by omega, ?_, fun x hx => HW.out x (List.mem_of_mem_take hx), rfl⟩
      rw [e]
      refine (HSL.out.less (by omega)).congr fun i j hi hj => ?_
      unfold mcell
      rw [show (l0.take 30).getD i (0, false) = l0.getD i (0, false) by simp [List.getD, List.getElem?_take, hi]]
  case rest =>
  obtain ⟨l, hl, rfl, hlc, hsl, hw, rfl⟩ := hcut
  have HSL2 := Lib.hid hsl
  have HW2 := Lib.hid hw
  clear HSL HW hsl hw
  go_upto_region 4 with fail
  go_cut [] (fun wx => ∃ s : ByteArray, s.size ≤ 60 ∧ Below w.heap.size w wx ∧ wx.heap.size = w1.heap.size ∧ 
    wx.cell? ⟨w.heap.size, 0, none⟩ = some (.int .i64 a) ∧ wx.cell? ⟨w.heap.size, 1, none⟩ = some (.int .i64 o) ∧ wx.cell? ⟨w.heap.size, 2, none⟩ = some (.string s))
  case first =>
    by_cases h60 : s0.size ≤ 60
    · go_wp2_with fail
      go_meet
      refine ⟨s0, h60, (Hb.out.setCell (by first | (simp; done) | (simp; omega) | omega) _), by simp [World.setCell], ?_⟩
      refine ⟨?_, ?_, ?_⟩ <;> simp [go_sem, hc]
    · go_wp2_with fail
      go_meet
      refine ⟨s0.extract 0 60, by simp; omega, (Hb.out.setCell (by first | (simp; done) | (simp; omega) | omega) _), by simp [World.setCell], ?_⟩
      refine ⟨?_, ?_, ?_⟩ <;> simp [go_sem, hc]
  case rest =>
  obtain ⟨s, hs, hbx, hsz, c2, c3, c4⟩ := hcut
  clear hc hf Hb
  have hlt0 : w.heap.size < wc.heap.size := by omega
  have HB := Lib.hid hbx
  clear hbx hsz hz hz0
  obtain ⟨wb, rfl⟩ : ∃ wb, wb = wc := ⟨_, rfl⟩
  have hslb : SlAt wb wb.heap.size 2 l.length A (mcell l) := (HSL2.out.below HB.out).more (by omega)
  go_wp2_with fail
  refine (all_any l A cap a o s _ (by omega) hslb).mono ?_
  rintro e w2 ⟨v, rfl, hown, hb2⟩
  obtain ⟨A2, cap2, rfl, hc2, hsl2⟩ := SlAt.of_own hown
  obtain ⟨hc, _, hs2⟩ := bcell3 hb2
  have d2 := (hc _ 0 hlt0).trans c2
  have d3 := (hc _ 1 hlt0).trans c3
  have d4 := (hc _ 2 hlt0).trans c4
  have hlt0 := hs2 _ hlt0
  have HSL3 := Lib.hid (SlAt.congr (g := fun i j => (moved l a o s.size i).getD j undef) hsl2 fun i j hi hj => flat_getD (size := 2) (f := moved l a o s.size) _ i j (fun _ _ => rfl) hi hj)
  have HSL4 := Lib.hid ((hslb.below hb2).more hb2.size)
  have HB2 := Lib.hid (HB.out.trans (hb2.mono HB.out.size))
  clear hsl2 hslb hc hs2 hb2 hown HB HSL2 c2 c3 c4
  go_wp2_with fail
  go_loopw [6] (fun i wr => ∃ k : Nat, k ≤ l.length ∧ i = .int .i64 k ∧ Below w2.heap.size w2 wr) (fun i _ => l.length - (intOf i).toNat)
  case atStart => exact ⟨0, Nat.zero_le _, rfl, Below.refl _ _⟩
  case round =>
    obtain ⟨k, hk, rfl, hbel⟩ := hrel
    obtain ⟨hc, _, hs3⟩ := bcell3 hbel
    have e2 := (hc _ 0 hlt0).trans d2
    have e3 := (hc _ 1 hlt0).trans d3
    have e4 := (hc _ 2 hlt0).trans d4
    have hlt1 := hs3 _ hlt0
    have HBL := Lib.hid hbel
    by_cases hlt : k < l.length
    · obtain ⟨b, off, rfl, hb, hcs⟩ := HSL4.out (by omega)
      obtain ⟨b2, off2, rfl, hb2, hcs2⟩ := HSL3.out (by omega)
      have f0 : wr.cell? ⟨b, off + k * 2, none⟩ = some (.int .i64 (l.getD k (0, false)).1) := (hc _ _ hb).trans (hcs k 0 hlt (by omega))
      have f1 : wr.cell? ⟨b, off + k * 2 + 1, none⟩ = some (.bool (l.getD k (0, false)).2) := (hc _ _ hb).trans (hcs k 1 hlt (by omega))
      have g0 : wr.cell? ⟨b2, off2 + k * 2, none⟩ = some (.int .i64 (mv (l.getD k (0, false)).1 (l.getD k (0, false)).2 a o s.size)) := (hc _ _ hb2).trans (hcs2 k 0 hlt (by omega))
      have g1 : wr.cell? ⟨b2, off2 + k * 2 + 1, none⟩ = some (.bool (l.getD k (0, false)).2) := (hc _ _ hb2).trans (hcs2 k 1 hlt (by omega))
      have hwf := HW2.out (l.getD k (0, false)) (by simp [List.getD, hlt])
      generalize hx : l.getD k (0, false) = x at f0 f1 g0 g1 hwf
      obtain ⟨x, r⟩ := x
      simp only at f0 f1 g0 g1 hwf
      have hbw : b < wr.heap.size := hs3 _ hb
      have hbw2 : b2 < wr.heap.size := hs3 _ hb2
      have HWF := Lib.hid hwf
      clear hx hcs hcs2 hc hs3 hbel hwf d2 d3 d4 hlt0 hb hb2
      go_upto_region 11 with fail
      refine wp_region_grow 13 (by kernel_rfl) (by kernel_rfl) ?_
      simp only [List.take_succ_cons, List.take_zero, List.drop_succ_cons, List.drop_zero]
      iterate 11 ((refine wpGrow_val' rfl rfl ?_; apply Exists.intro; refine ⟨fun w1 hw1 => ?_, ?_⟩); (have hc1 := hw1.cell; go_simp; exact growUpon_ok rfl); (refine wpGrow_at (by (simp only [Act.put, List.setIfInBounds_toArray, List.set_cons_succ, List.set_cons_zero]) <;> exact rfl) ?_))
      (refine wpGrow_val' rfl rfl ?_; apply Exists.intro; refine ⟨fun w1 hw1 => ?_, ?_⟩)
      · go_simp
        exact growUpon_call (ref_any x r a o s.size HWF.out _)
      (refine wpGrow_at (by (simp only [Act.put, List.setIfInBounds_toArray, List.set_cons_succ, List.set_cons_zero]) <;> exact rfl) ?_)
      refine wpGrow_make (O := .cells #[.int .i64 0, .bool false] 23) rfl (by kernel_rfl) (fun b7 hb7 hf7 => ?_)
      (refine wpGrow_at (by (simp only [Act.put, List.setIfInBounds_toArray, List.set_cons_succ, List.set_cons_zero]) <;> exact rfl) ?_)
      refine wpGrow_nil ?_
      intro w3 hD
      obtain ⟨n7, f7, g7, l7⟩ := hD.new List.mem_cons_self
      have hb3 := hD.below
      clear hD hf7
      go_wp2_with fail
      have hBy : Below wr.heap.size wr ((w3.setCell ⟨b7, 0, none⟩ (.int .i64 (mv x r a o s.size))).setCell ⟨b7, 1, none⟩ (.bool r)) := (hb3.setCell g7 _).setCell g7 _
      have y0 : ((w3.setCell ⟨b7, 0, none⟩ (.int .i64 (mv x r a o s.size))).setCell ⟨b7, 1, none⟩ (.bool r)).cell? ⟨b7, 0, none⟩ = some (.int .i64 (mv x r a o s.size)) := by simp [go_sem, n7]
      have y1 : ((w3.setCell ⟨b7, 0, none⟩ (.int .i64 (mv x r a o s.size))).setCell ⟨b7, 1, none⟩ (.bool r)).cell? ⟨b7, 1, none⟩ = some (.bool r) := by simp [go_sem, n7]
      have hl7 : b7 < ((w3.setCell ⟨b7, 0, none⟩ (.int .i64 (mv x r a o s.size))).setCell ⟨b7, 1, none⟩ (.bool r)).heap.size := by simpa [World.setCell] using l7
      generalize (w3.setCell ⟨b7, 0, none⟩ (.int .i64 (mv x r a o s.size))).setCell ⟨b7, 1, none⟩ (.bool r) = wy at hBy y0 y1 hl7 ⊢
      clear n7 f7 hb3 l7
      obtain ⟨hc, _, hs3⟩ := bcell3 hBy
      have e2 := (hc _ 0 hlt1).trans e2
      have e3 := (hc _ 1 hlt1).trans e3
      have e4 := (hc _ 2 hlt1).trans e4
      have f0 := (hc _ _ hbw).trans f0
      have f1 := (hc _ _ hbw).trans f1
      have g0 := (hc _ _ hbw2).trans g0
      have g1 := (hc _ _ hbw2).trans g1
      have hlt1 := hs3 _ hlt1
      have hbw := hs3 _ hbw
      have hbw2 := hs3 _ hbw2
      have HBY := Lib.hid (HBL.out.trans (hBy.mono HBL.out.size))
      clear hc hs3 hBy HBL g7
      refine wp_region_grow 53 (by kernel_rfl) (by kernel_rfl) ?_
      simp only [List.take_succ_cons, List.take_zero, List.drop_succ_cons, List.drop_zero, List.take_nil, List.drop_nil]
      iterate 12 ((refine wpGrow_val' rfl rfl ?_; apply Exists.intro; refine ⟨fun w1 hw1 => ?_, ?_⟩); (have hc1 := hw1.cell; go_simp; exact growUpon_ok rfl); (refine wpGrow_at (by (simp only [Act.put, List.setIfInBounds_toArray, List.set_cons_succ, List.set_cons_zero]) <;> exact rfl) ?_))
      (refine wpGrow_val' rfl rfl ?_; apply Exists.intro; refine ⟨fun w1 hw1 => ?_, ?_⟩)
      · go_simp
        exact growUpon_call (move_any x r a o s _)
      (refine wpGrow_at (by (simp only [Act.put, List.setIfInBounds_toArray, List.set_cons_succ, List.set_cons_zero]) <;> exact rfl) ?_)
      iterate 15 ((refine wpGrow_val' rfl rfl ?_; apply Exists.intro; refine ⟨fun w1 hw1 => ?_, ?_⟩); (have hc1 := hw1.cell; go_simp; exact growUpon_ok rfl); (refine wpGrow_at (by (simp only [Act.put, List.setIfInBounds_toArray, List.set_cons_succ, List.set_cons_zero]) <;> exact rfl) ?_))
      (refine wpGrow_val' rfl rfl ?_; apply Exists.intro; refine ⟨fun w1 hw1 => ?_, ?_⟩)
      · go_simp
        exact growUpon_call (shift_any x r a o s.size _)
      (refine wpGrow_at (by (simp only [Act.put, List.setIfInBounds_toArray, List.set_cons_succ, List.set_cons_zero]) <;> exact rfl) ?_)
      iterate 9 ((refine wpGrow_val' rfl rfl ?_; apply Exists.intro; refine ⟨fun w1 hw1 => ?_, ?_⟩); (have hc1 := hw1.cell; go_simp; exact growUpon_ok rfl); (refine wpGrow_at (by (simp only [Act.put, List.setIfInBounds_toArray, List.set_cons_succ, List.set_cons_zero]) <;> exact rfl) ?_))
      (refine wpGrow_val' rfl rfl ?_; apply Exists.intro; refine ⟨fun w1 hw1 => ?_, ?_⟩)
      · go_simp
        exact growUpon_call (back_any x r a o s _)
      (refine wpGrow_at (by (simp only [Act.put, List.setIfInBounds_toArray, List.set_cons_succ, List.set_cons_zero]) <;> exact rfl) ?_)
      iterate 11 ((refine wpGrow_val' rfl rfl ?_; apply Exists.intro; refine ⟨fun w1 hw1 => ?_, ?_⟩); (have hc1 := hw1.cell; go_simp; exact growUpon_ok rfl); (refine wpGrow_at (by (simp only [Act.put, List.setIfInBounds_toArray, List.set_cons_succ, List.set_cons_zero]) <;> exact rfl) ?_))
      (refine wpGrow_val' rfl rfl ?_; apply Exists.intro; refine ⟨fun w1 hw1 => ?_, ?_⟩)
      · go_simp
        exact growUpon_call (ref_any x r a s.size o HWF.out _)
      (refine wpGrow_at (by (simp only [Act.put, List.setIfInBounds_toArray, List.set_cons_succ, List.set_cons_zero]) <;> exact rfl) ?_)
      iterate 2 ((refine wpGrow_val' rfl rfl ?_; apply Exists.intro; refine ⟨fun w1 hw1 => ?_, ?_⟩); (have hc1 := hw1.cell; go_simp; exact growUpon_ok rfl); (refine wpGrow_at (by (simp only [Act.put, List.setIfInBounds_toArray, List.set_cons_succ, List.set_cons_zero]) <;> exact rfl) ?_))
      refine wpGrow_nil ?_
      intro w4 hD
      have HB4 := Lib.hid (HBY.out.trans (hD.below.mono HBY.out.size))
      clear hD
      go_wp2
      go_roundw
      case rel => exact ⟨k + 1, by omega, by go_num, HB4.out⟩
      case measure => simp [intOf]; omega
    · go_wp2
      go_ret
      exact ⟨rfl, HB2.out.trans (HBL.out.mono (by have := HB2.out.size; omega))⟩
end Go.Proofs.Ytloljnpnoohglaa.Marks
