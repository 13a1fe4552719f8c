/- The walk of MarksText. -/
import Derived.Test.YtloljnpnoohglaaMarksA
namespace Go.Proofs.Ytloljnpnoohglaa.Marks
set_option linter.unusedSimpArgs false
set_option linter.unusedVariables false
open Go.RowKit
attribute [local go_sem] lt_add1 lt_self1 size_ne size_ne' size_ne1 size_ne1'

/-- may the law's inputs be? -/
def badB (n : Nat) (m a d : Int) : Bool := decide (m < 0) || decide ((n : Int) < m) || decide (a < 0) || decide ((n : Int) < a) || decide (d < 0) || decide ((n : Int) - a < d)

theorem mv_cases (m a d n t : Nat) (r : Bool) (h1 : m ≤ t) (h2 : a + d ≤ t) (h3 : t ≤ 60) (h4 : n ≤ 60) :
    ∃ X : Nat, mv m r a d n = X ∧ X ≤ a + n + (t - (a + d)) ∧ (m < a → X = m ∧ mv X r a n d = m) ∧ (a + d < m → X + d = m + n ∧ mv X r a n d = m) ∧ (a ≤ m → m ≤ a + d → X = a ∨ X = a + n) := by
  unfold mv wrap64
  by_cases c1 : m < a
  · refine ⟨m, by rw [if_pos (by omega)], by omega, fun _ => ⟨rfl, by rw [if_pos (by omega)]⟩, fun _ => by omega, fun _ _ => by omega⟩
  · by_cases c2 : m = a ∧ r = false
    · refine ⟨m, by rw [if_neg (by omega), if_pos ⟨by omega, c2.2⟩], by omega, fun _ => by omega, fun _ => by omega, fun _ _ => .inl c2.1⟩
    · by_cases c3 : a + d ≤ m
      · refine ⟨m + n - d, ?_, by omega, fun _ => by omega, fun _ => ⟨by omega, ?_⟩, fun _ _ => .inr (by omega)⟩
        · rw [if_neg (by omega), if_neg (fun h => c2 ⟨by omega, h.2⟩), if_pos (by omega)]; omega
        · rw [if_neg (by omega), if_neg (fun h => by omega), if_pos (by omega)]; omega
      · refine ⟨a, ?_, by omega, fun _ => by omega, fun _ => by omega, fun _ _ => .inl rfl⟩
        rw [if_neg (by omega), if_neg (fun h => c2 ⟨by omega, h.2⟩), if_neg (by omega)]

theorem ext_data (x : ByteArray) (i j : Nat) : (x.extract i j).data.toList = (x.data.toList.take j).drop i := by
  simp [ByteArray.data_extract, List.drop_take]
theorem bytes_ext {x y : ByteArray} (h : x.data.toList = y.data.toList) : x = y := by
  cases x; cases y; simp at h; simp [h]

theorem now_front (t s : ByteArray) (a b m : Nat) (h1 : m ≤ a) (h2 : a ≤ t.size) : (t.extract 0 a ++ s ++ t.extract b t.size).extract 0 m = t.extract 0 m := by
  apply bytes_ext
  have hl : m ≤ (t.data.toList.take a).length := by simp; have : t.data.toList.length = t.size := rfl; omega
  simp only [ext_data, ByteArray.data_append, Array.toList_append, List.drop_zero, List.append_assoc]
  rw [List.take_append_of_le_length (by simpa using hl), List.take_take]
  congr 1
  omega
theorem now_back (t s : ByteArray) (a d m X n : Nat) (h1 : a + d ≤ m) (h2 : m ≤ t.size) (hX : X + d = m + s.size) (hn : n = (t.extract 0 a ++ s ++ t.extract (a + d) t.size).size) : (t.extract 0 a ++ s ++ t.extract (a + d) t.size).extract X n = t.extract m t.size := by
  subst hn
  apply bytes_ext
  have ht : t.data.toList.length = t.size := rfl
  have hs : s.data.toList.length = s.size := rfl
  rw [ext_data]
  have e : ((t.extract 0 a ++ s ++ t.extract (a + d) t.size).data.toList.take (t.extract 0 a ++ s ++ t.extract (a + d) t.size).size) = (t.extract 0 a ++ s ++ t.extract (a + d) t.size).data.toList := List.take_of_length_le (Nat.le_refl _)
  rw [e]
  simp only [ext_data, ByteArray.data_append, Array.toList_append, List.drop_zero]
  have hA : (t.data.toList.take a ++ s.data.toList).length = a + s.size := by simp [ht, hs]; omega
  rw [List.drop_append, List.drop_eq_nil_of_le (by rw [hA]; omega), List.nil_append, List.drop_drop, hA]
  congr 1
  omega

set_option maxRecDepth 100000 in
set_option maxHeartbeats 1000000 in
theorem text_walk (t0 : ByteArray) (m : Int) (r : Bool) (a d : Int) (s0 : ByteArray) (ht0 : t0.size ≤ 9223372036854775807) (hs : s0.size ≤ 9223372036854775807) (w : World) :
    Calls Try.prog 4 #[.string t0, .agg #[.int .i64 m, .bool r], .agg #[.int .i64 a, .int .i64 d, .string s0]] w fun e w' => e = .returned (.bool true) ∧ Below w.heap.size w w' := by
  go_enter Try.func4, Try.ntmps4
  go_wp2_with fail
  refine (awake_any _).mono ?_
  rintro e w1 ⟨rfl, hb⟩
  obtain ⟨hc, hf, hs'⟩ := bcell3 hb
  have hz := hb.size
  simp at hz
  have hz0 : w.heap.size < w1.heap.size := by omega
  have hz1 : w.heap.size + 1 < w1.heap.size := by omega
  have hb' : Below w.heap.size w w1 := by (repeat (first | exact Below.refl _ _ | assumption | (refine Below.setCell ?_ (by first | (simp; done) | (simp; omega) | omega) _) | (refine Below.alloc ?_ (by first | (simp; done) | (simp; omega) | omega) _) | (refine Below.drew ?_) | (refine Below.drewN ?_ _) | (refine Below.trans ?_ (Below.mono (by assumption) (by first | (simp; done) | (simp; omega) | omega)))))
  have Hb := Lib.hid hb'
  clear hb hb' hs'
  go_upto_region 3 with fail
  go_cut [0] (fun v0 wx => ∃ t : ByteArray, t.size ≤ 60 ∧ v0 = .string t ∧ w1 = wx)
  case first =>
    by_cases h60 : t0.size ≤ 60
    · go_wp2_with fail
      go_meet
      exact ⟨t0, h60, rfl, rfl⟩
    · go_wp2_with fail
      go_meet
      exact ⟨t0.extract 0 60, by simp; omega, rfl, rfl⟩
  case rest =>
  obtain ⟨t, ht, rfl, rfl⟩ := hcut
  go_upto_region 4 with fail
  go_cut [] (fun wx => ∃ s : ByteArray, s.size ≤ 60 ∧ Below w.heap.size w wx ∧ wx.heap.size = w1.heap.size ∧ wx.cell? ⟨w.heap.size, 0, none⟩ = some (.int .i64 m) ∧ wx.cell? ⟨w.heap.size, 1, none⟩ = some (.bool r) ∧
    wx.cell? ⟨w.heap.size + 1, 0, none⟩ = some (.int .i64 a) ∧ wx.cell? ⟨w.heap.size + 1, 1, none⟩ = some (.int .i64 d) ∧ wx.cell? ⟨w.heap.size + 1, 2, none⟩ = some (.string s))
  case first =>
    by_cases h60 : s0.size ≤ 60
    · go_wp2_with fail
      go_meet
      refine ⟨s0, h60, (Hb.out.setCell (by first | (simp; done) | (simp; omega) | omega) _), by simp [World.setCell], ?_⟩
      refine ⟨?_, ?_, ?_, ?_, ?_⟩ <;> simp [go_sem, hc]
    · go_wp2_with fail
      go_meet
      refine ⟨s0.extract 0 60, by simp; omega, (Hb.out.setCell (by first | (simp; done) | (simp; omega) | omega) _), by simp [World.setCell], ?_⟩
      refine ⟨?_, ?_, ?_, ?_, ?_⟩ <;> simp [go_sem, hc]
  case rest =>
  obtain ⟨s, hs, hbx, hsz, c0, c1, c2, c3, c4⟩ := hcut
  clear hc hf Hb ht0
  have hlt0 : w.heap.size < wc.heap.size := by omega
  have hlt1 : w.heap.size + 1 < wc.heap.size := by omega
  have hle0 : w.heap.size ≤ wc.heap.size := by omega
  have HB := Lib.hid hbx
  clear hbx hsz hz hz0 hz1
  obtain ⟨wb, rfl⟩ : ∃ wb, wb = wc := ⟨_, rfl⟩
  go_upto_region 6 with fail
  go_cut [60] (fun v wx => v = .bool (badB t.size m a d) ∧ wb = wx)
  case first =>
    by_cases h1 : m < 0
    · go_wp2_with fail
      go_meet
      exact ⟨by simp [badB, h1], rfl⟩
    · by_cases h2 : (t.size : Int) < m
      · go_wp2_with fail
        go_meet
        exact ⟨by simp [badB, h2], rfl⟩
      · by_cases h3 : a < 0
        · go_wp2_with fail
          go_meet
          exact ⟨by simp [badB, h3], rfl⟩
        · by_cases h4 : (t.size : Int) < a
          · go_wp2_with fail
            go_meet
            exact ⟨by simp [badB, h4], rfl⟩
          · by_cases h5 : d < 0
            · go_wp2_with fail
              go_meet
              exact ⟨by simp [badB, h5], rfl⟩
            · by_cases h6 : (t.size : Int) - a < d
              · go_wp2_with fail
                go_meet
                exact ⟨by simp [badB, h6], rfl⟩
              · go_wp2_with fail
                go_meet
                refine ⟨by simp [badB]; omega, rfl⟩
  case rest =>
  obtain ⟨rfl, rfl⟩ := hcut
  cases hbad : badB t.size m a d
  · obtain ⟨h1, h2, h3, h4, h5, h6⟩ : 0 ≤ m ∧ m ≤ t.size ∧ 0 ≤ a ∧ a ≤ t.size ∧ 0 ≤ d ∧ d ≤ t.size - a := by simp [badB] at hbad; omega
    obtain ⟨m, rfl⟩ := Int.eq_ofNat_of_zero_le h1
    obtain ⟨a, rfl⟩ := Int.eq_ofNat_of_zero_le h3
    obtain ⟨d, rfl⟩ := Int.eq_ofNat_of_zero_le h5
    have q1 : m ≤ t.size := by omega
    have q2 : a ≤ t.size := by omega
    have q3 : a + d ≤ t.size := by omega
    have q4 : ¬ 9223372036854775807 < a + s.size := by omega
    have q5 : ¬ 9223372036854775807 < a + s.size + (t.size - (a + d)) := by omega
    clear h1 h2 h3 h4 h5 h6 hbad
    have q6 : (0 : Int) ≤ (a : Int) + (d : Int) := by omega
    have q7 : (a : Int) + (d : Int) ≤ (t.size : Int) := by omega
    have q8 : ((a : Int) + (d : Int)).toNat = a + d := by omega
    have q9 : IntKind.i64.wrap ((a : Int) + (d : Int)) = (a : Int) + (d : Int) := IntWalk.i64_in _ (by omega)
    go_upto_region 8 with fail
    go_cut [8] (fun v wx => v = .string (t.extract 0 a ++ s ++ t.extract (a + d) t.size) ∧ Below wb.heap.size wb wx)
    case first =>
      refine wp_region_grow 16 (by kernel_rfl) (by kernel_rfl) ?_
      simp only [List.take_succ_cons, List.take_zero, List.drop_succ_cons, List.drop_zero, List.drop_nil, List.take_nil]
      iterate 16 ((refine wpGrow_val' rfl rfl ?_; apply Exists.intro; refine ⟨fun w1 hw1 => ?_, ?_⟩); (have hc1 := hw1.cell; go_simp; exact growUpon_ok rfl); (refine wpGrow_at (by (simp only [Act.put, List.setIfInBounds_toArray, List.set_cons_succ, List.set_cons_zero]) <;> exact rfl) ?_))
      refine wpGrow_nil ?_
      intro w2 hD
      have hbl := Lib.hid hD.below
      clear hD
      go_wp2_with fail
      go_meet
      exact ⟨rfl, hbl.out⟩
    case rest =>
    clear q4 q5 q6 q7 q8 q9
    obtain ⟨rfl, hb8⟩ := hcut
    obtain ⟨hc8, _, hs8⟩ := bcell3 hb8
    have d0 := (hc8 _ 0 hlt0).trans c0
    have d1 := (hc8 _ 1 hlt0).trans c1
    have d2 := (hc8 _ 0 hlt1).trans c2
    have d3 := (hc8 _ 1 hlt1).trans c3
    have d4 := (hc8 _ 2 hlt1).trans c4
    have hlt0 := hs8 _ hlt0
    have hlt1 := hs8 _ hlt1
    have HB8 := Lib.hid (Below.trans HB.out (hb8.mono hle0))
    clear c0 c1 c2 c3 c4 hc8 hs8 hb8 HB hle0
    obtain ⟨wd, rfl⟩ : ∃ wd, wd = wc := ⟨_, rfl⟩
    go_upto_region 9 with fail
    go_cut [9] (fun v wx => ∃ b : Nat, v = .pointer (some ⟨b, 0, none⟩) ∧ b < wx.heap.size ∧ Below wd.heap.size wd wx ∧ wx.cell? ⟨b, 0, none⟩ = some (.int .i64 (mv m r a d s.size)) ∧ wx.cell? ⟨b, 1, none⟩ = some (.bool r))
    case first =>
      go_wp2_with (go_at_call 17; refine (move_any _ _ _ _ _ _).mono ?_; rintro e w' ⟨rfl, hb⟩; obtain ⟨hc, hf, hs⟩ := bcell3 hb; have hz := hb.size; (try simp at hz))
      go_meet
      refine ⟨_, rfl, by simp, by (repeat (first | exact Below.refl _ _ | assumption | (refine Below.setCell ?_ (by first | (simp; done) | (simp; omega) | omega) _) | (refine Below.alloc ?_ (by first | (simp; done) | (simp; omega) | omega) _) | (refine Below.drew ?_) | (refine Below.drewN ?_ _) | (refine Below.trans ?_ (Below.mono (by assumption) (by first | (simp; done) | (simp; omega) | omega))))), ?_⟩
      refine ⟨?_, ?_⟩ <;> simp [go_sem]
    case rest =>
    obtain ⟨b, rfl, hlb, hb9, e0, e1⟩ := hcut
    obtain ⟨hc9, _, hs9⟩ := bcell3 hb9
    have d0 := (hc9 _ 0 hlt0).trans d0
    have d1 := (hc9 _ 1 hlt0).trans d1
    have d2 := (hc9 _ 0 hlt1).trans d2
    have d3 := (hc9 _ 1 hlt1).trans d3
    have d4 := (hc9 _ 2 hlt1).trans d4
    have hlt0 := hs9 _ hlt0
    have hlt1 := hs9 _ hlt1
    have HB9 := Lib.hid (Below.trans HB8.out (hb9.mono (by omega)))
    clear hc9 hs9 hb9 HB8
    obtain ⟨X, hX, hXs, hX1, hX2, hX3⟩ := mv_cases m a d s.size t.size r q1 q3 ht hs
    rw [hX] at e0
    have hf1 := now_front t s a (a + d) m
    have hf2 := now_back t s a d m X (t.extract 0 a ++ s ++ t.extract (a + d) t.size).size
    have hN : (t.extract 0 a ++ s ++ t.extract (a + d) t.size).size = a + s.size + (t.size - (a + d)) := by simp; omega
    generalize t.extract 0 a ++ s ++ t.extract (a + d) t.size = nw at hf1 hf2 hN ⊢
    have hXs : X ≤ nw.size := by omega
    have hNs : nw.size ≤ 9223372036854775807 := by omega
    have F1 := Lib.hid hf1
    have F2 := Lib.hid hf2
    have X1 := Lib.hid hX1
    have X2 := Lib.hid hX2
    have X3 := Lib.hid hX3
    clear hX hf1 hf2 hX1 hX2 hX3 hN
    by_cases g1 : m < a
    · obtain ⟨rfl, hback⟩ := X1.out g1
      have hbk : ∀ w, Calls Try.prog 18 _ w _ := fun w => back_any X r a d s w
      rw [hback] at hbk
      have hfr := F1.out (by omega) q2
      clear X1 X2 X3 F1 F2
      go_upto_region 13 with fail
      refine wp_region_grow 22 (by kernel_rfl) (by kernel_rfl) ?_
      simp only [List.take_succ_cons, List.drop_succ_cons, List.drop_nil, List.take_nil]
      iterate 17 ((refine wpGrow_val' rfl rfl ?_; apply Exists.intro; refine ⟨fun w1 hw1 => ?_, ?_⟩); (have hc1 := hw1.cell; go_simp; exact growUpon_ok rfl); (refine wpGrow_at (by (simp only [Act.put, List.setIfInBounds_toArray, List.set_cons_succ, List.set_cons_zero]) <;> exact rfl) ?_))
      (refine wpGrow_val' rfl rfl ?_; apply Exists.intro; refine ⟨fun w1 hw1 => ?_, ?_⟩)
      · go_simp
        exact growUpon_call (hbk _)
      (refine wpGrow_at (by (simp only [Act.put, List.setIfInBounds_toArray, List.set_cons_succ, List.set_cons_zero]) <;> exact rfl) ?_)
      iterate 4 ((refine wpGrow_val' rfl rfl ?_; apply Exists.intro; refine ⟨fun w1 hw1 => ?_, ?_⟩); (have hc1 := hw1.cell; go_simp; exact growUpon_ok rfl); (refine wpGrow_at (by (simp only [Act.put, List.setIfInBounds_toArray, List.set_cons_succ, List.set_cons_zero]) <;> exact rfl) ?_))
      refine wpGrow_nil ?_
      intro w2 hD
      have hbl := Lib.hid (HB9.out.trans (hD.below.mono (by omega)))
      clear hD
      go_wp2
      go_ret
      exact ⟨rfl, hbl.out⟩
    · by_cases g2 : a + d < m
      · obtain ⟨hXd, hback⟩ := X2.out g2
        have hbk : ∀ w, Calls Try.prog 18 _ w _ := fun w => back_any X r a d s w
        rw [hback] at hbk
        have hfr := F2.out (by omega) q1 hXd rfl
        have HXd := Lib.hid hXd
        have g3 : ¬ m ≤ a + d := by omega
        have q7 : (a : Int) + (d : Int) < (m : Int) := by omega
        clear hXd X1 X2 X3 F1 F2
        go_upto_region 15 with fail
        refine wp_region_grow 17 (by kernel_rfl) (by kernel_rfl) ?_
        simp only [List.take_succ_cons, List.drop_succ_cons, List.drop_nil, List.take_nil]
        iterate 12 ((refine wpGrow_val' rfl rfl ?_; apply Exists.intro; refine ⟨fun w1 hw1 => ?_, ?_⟩); (have hc1 := hw1.cell; go_simp; exact growUpon_ok rfl); (refine wpGrow_at (by (simp only [Act.put, List.setIfInBounds_toArray, List.set_cons_succ, List.set_cons_zero]) <;> exact rfl) ?_))
        (refine wpGrow_val' rfl rfl ?_; apply Exists.intro; refine ⟨fun w1 hw1 => ?_, ?_⟩)
        · go_simp
          exact growUpon_call (hbk _)
        (refine wpGrow_at (by (simp only [Act.put, List.setIfInBounds_toArray, List.set_cons_succ, List.set_cons_zero]) <;> exact rfl) ?_)
        iterate 4 ((refine wpGrow_val' rfl rfl ?_; apply Exists.intro; refine ⟨fun w1 hw1 => ?_, ?_⟩); (have hc1 := hw1.cell; go_simp; exact growUpon_ok rfl); (refine wpGrow_at (by (simp only [Act.put, List.setIfInBounds_toArray, List.set_cons_succ, List.set_cons_zero]) <;> exact rfl) ?_))
        refine wpGrow_nil ?_
        intro w2 hD
        have hbl := Lib.hid (HB9.out.trans (hD.below.mono (by omega)))
        clear hD
        go_wp2
        go_ret
        exact ⟨rfl, hbl.out⟩
      · have hx := X3.out (by omega) (by omega)
        have q7 : ¬ (a : Int) + (d : Int) < (m : Int) := by omega
        clear X1 X2 X3 F1 F2
        rcases hx with rfl | rfl
        · go_wp2
          go_ret
          exact ⟨rfl, HB9.out⟩
        · by_cases hs0 : a + s.size = a
          · rw [hs0] at e0
            have hXs : a ≤ nw.size := by omega
            clear hs0
            go_wp2
            go_ret
            exact ⟨rfl, HB9.out⟩
          · have hs1 : (((a + s.size : Nat) : Int) == (a : Int)) = false := by simp; omega
            go_wp2
            go_ret
            exact ⟨rfl, HB9.out⟩
  · go_wp2
    go_ret
    exact ⟨rfl, HB.out⟩
end Go.Proofs.Ytloljnpnoohglaa.Marks
