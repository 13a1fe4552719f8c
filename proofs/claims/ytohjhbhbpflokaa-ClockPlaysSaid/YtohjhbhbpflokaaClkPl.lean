
/- Both clocks are alike; ClockPlays. -/
import Derived.Test.YtohjhbhbpflokaaClkC
import Derived.BigRegion
import Derived.Deep.RegionWith
namespace Go.Proofs.Ytohjhbhbpflokaa.Ck
set_option linter.unusedSimpArgs false
set_option linter.unusedVariables false
open Go Go.RowKit Go.Shelf
set_option linter.unusedVariables false
attribute [local go_sem] lt_add1 lt_self1 size_ne size_ne' size_ne1 size_ne1'
set_option maxHeartbeats 4000000 in
theorem same_any (w0 : World) (c : Nat) (mo : Int) (s : CS) (n : Nat) (r : Value) (w : World) (F : Nat → Prop) (h : Two w0 c mo s n r w F) :
    Calls Try.prog 14 #[.pointer (some ⟨c, 0, none⟩), refV r s.hand mo] w fun e w' => e = .returned (.bool true) ∧ Below w.heap.size w w' := by
  obtain ⟨A, cp, rfl⟩ := h.row.form
  have hsm : s.row.length ≤ 1000 := Nat.le_trans h.law.ck.good.le h.law.ck.good.small
  have HT := Lib.hid h
  clear h
  unfold refV
  go_enter Try.func14, Try.ntmps14
  go_upto_region 1 with fail
  have hb : Below w.heap.size w (w.alloc (.cells #[.slice A s.row.length cp, .int .i64 s.hand, .int .i64 mo] 40)) := (Below.refl _ _).alloc (Nat.le_refl _) _
  have hx := VarAt.new w (.slice A s.row.length cp) s.hand mo
  have H1 := Lib.hid (And.intro (HT.out.law.below hb) (And.intro (HT.out.row.below hb) hb))
  clear hb
  obtain ⟨x, hxe⟩ : ∃ x, w.heap.size = x := ⟨_, rfl⟩
  rw [hxe] at hx
  rw [hxe]
  clear hxe
  generalize w.alloc (.cells #[.slice A s.row.length cp, .int .i64 s.hand, .int .i64 mo] 40) = w1 at H1 hx ⊢
  have HX := Lib.hid hx
  clear hx
  go_wp2_with fail
  ((with_reducible refine (keys_any c s n w1 F H1.out.1.ck).mono ?_); rintro _ w2 ⟨v2, rfl, hv2, hb2⟩)
  obtain ⟨A2, cp2, rfl⟩ := hv2.form
  have hkl : (keys s.row).length = s.row.length := by simp [keys]
  rw [hkl] at hv2 ⊢
  have H2 := Lib.hid (And.intro (H1.out.1.below hb2) (And.intro (H1.out.2.1.below hb2) (And.intro (H1.out.2.2.trans (hb2.mono H1.out.2.2.size)) (And.intro (HX.out.below hb2) hv2))))
  clear hb2 hv2
  obtain ⟨a0, _, _, al, _⟩ := H2.out.2.2.2.1.cells
  go_wp2_with fail
  ((with_reducible refine (len_raw H2.out.1.ck).mono ?_); rintro _ w3 ⟨rfl, hb3⟩)
  have hv3 : OwnN w3 w1.heap.size (.slice A2 s.row.length cp2) (keys s.row) := own_below H2.out.2.2.2.2 hb3
  have H3 := Lib.hid (And.intro (H2.out.2.1.below hb3) (And.intro (H2.out.2.2.1.trans (hb3.mono H2.out.2.2.1.size)) (And.intro (H2.out.2.2.2.1.below hb3) hv3)))
  clear hb3 hv3 a0 al
  obtain ⟨a0, _, _, al, _⟩ := H3.out.2.2.1.cells
  go_wp2_with fail
  go_loopw [6] (fun i wr => ∃ j : Nat, j ≤ s.row.length ∧ i = .int .i64 j ∧ Hid (Below w3.heap.size w3 wr)) (fun i _ => s.row.length - (intOf i).toNat)
  case atStart => exact ⟨0, Nat.zero_le _, rfl, Lib.hid (Below.refl _ _)⟩
  case round =>
    obtain ⟨j, hj, rfl, HB⟩ := hrel
    by_cases hjl : j < s.row.length
    · obtain ⟨e, he⟩ : ∃ e, s.row[j]? = some e := ⟨_, List.getElem?_eq_getElem hjl⟩
      have hjl' : (j : Int) < s.row.length := by omega
      obtain ⟨g, cap, e1, _, hgl, d0, _, _, _⟩ := (H3.out.1.below HB.out).cells he
      obtain ⟨rfl, rfl⟩ : A = some ⟨g, 0, none⟩ ∧ cp = cap := by simpa using e1
      have hkne : keys s.row ≠ [] := by intro h; rw [h] at hkl; simp at hkl; omega
      obtain ⟨g2, cap2, e2, _, hgl2, hc2⟩ := OwnN.cells (own_below H3.out.2.2.2 HB.out : OwnN wr _ _ _) hkne
      obtain ⟨rfl, rfl⟩ : A2 = some ⟨g2, 0, none⟩ ∧ cp2 = cap2 := by simp at e2; exact e2
      have k0 := hc2 j (by omega)
      have hkj : (keys s.row).getD j 0 = e.key := by simp [keys, List.getD, he]
      rw [hkj] at k0
      have b0 := (HB.out.cell (p := ⟨x, 0, none⟩) al).trans a0
      have bl : x < wr.heap.size := Nat.lt_of_lt_of_le al HB.out.size
      clear e1 e2 he hkne hc2 hkj
      go_wp2_with fail
      go_region
      have HB2 := Lib.hid (HB.out.trans ((Below.refl _ _).drew.mono HB.out.size))
      go_wp2_with fail
      go_roundw
      case rel => exact ⟨j + 1, by omega, by go_num, HB2⟩
      case measure => simp [intOf]; omega
    · have hjl' : ¬ ((j : Int) < s.row.length) := by omega
      go_wp2_with fail
      go_ret
      exact ⟨rfl, H3.out.2.1.trans (HB.out.mono H3.out.2.1.size)⟩
set_option maxHeartbeats 8000000 in
set_option maxRecDepth 100000 in
theorem plays_walk (w : World) (most : Int) (hm : i64ok most) (A : Option Addr) (cap : Nat) (l : List CD) (hl : l.length ≤ cap) (hcap : cap ≤ 9223372036854775807) (hg : ∀ d ∈ l, d.Ok) (hs : SlAt w w.heap.size 3 l.length A (fun i j => (cdc (l.getD i default)).getD j undef)) :
    Calls Try.prog 4 #[.int .i64 most, .slice A l.length cap] w fun e w' => e = .returned (.bool true) ∧ Below w.heap.size w w' := by
  have HA := Lib.hid awake_any
  have HS := Lib.hid (And.intro hs hg)
  clear hs hg
  go_enter Try.func4, Try.ntmps4
  go_wp2_with fail
  ((with_reducible refine (HA.out w).mono ?_); rintro _ w1 ⟨rfl, hb1⟩)
  have HB1 := Lib.hid hb1
  clear hb1
  go_wp2_with fail
  ((with_reducible refine (new_any most _ (i64_hi hm).1).mono ?_); rintro _ w2 ⟨c, F2, rfl, ha, hF, hb⟩)
  have H2 := Lib.hid (Law.new ha hF hb)
  clear ha hF hb
  go_upto_region 5 with fail
  have hba : Below w2.heap.size w2 (w2.alloc (.cells #[.slice none 0 0, .int .i64 0, .int .i64 most] 40)) := (Below.refl _ _).alloc (Nat.le_refl _) _
  have H3 := Lib.hid (show Two w1 c most (newS most) 0 (.slice none 0 0) (w2.alloc (.cells #[.slice none 0 0, .int .i64 0, .int .i64 most] 40)) F2 from ⟨H2.out.below hba, World.ownsRow_nil _ _ _ 3, fun b e => by simp [Value.ownBlock] at e, rfl⟩)
  have HV := Lib.hid (VarAt.new w2 (.slice none 0 0) 0 most)
  have hxF : ¬ F2 w2.heap.size := fun h => Nat.lt_irrefl _ ((resCk c).lt H2.out.ck _ h)
  have hx1 : w1.heap.size ≤ w2.heap.size := H2.out.bel.size
  clear hba
  generalize w2.alloc (.cells #[.slice none 0 0, .int .i64 0, .int .i64 most] 40) = w3 at H3 HV ⊢
  generalize w2.heap.size = x at HV hxF hx1 ⊢
  go_wp2_with fail
  go_loopw [7] (fun i wr => ∃ (k n : Nat) (s : CS) (F : Nat → Prop) (r : Value), k ≤ l.length ∧ k ≤ 80 ∧ n ≤ k ∧ i = .int .i64 k ∧ Hid (Two w1 c most s n r wr F ∧ VarAt wr x r s.hand most ∧ ¬ F x ∧ r.ownBlock ≠ some x)) (fun i _ => l.length - (intOf i).toNat)
  case atStart => exact ⟨0, 0, newS most, F2, .slice none 0 0, Nat.zero_le _, Nat.zero_le _, Nat.zero_le _, rfl, Lib.hid ⟨H3.out, HV.out, hxF, by simp [Value.ownBlock]⟩⟩
  case round =>
    obtain ⟨k, n, s, F, r, hk, hk80, hn, rfl, HB⟩ := hrel
    obtain ⟨A3, cp3, rfl⟩ := HB.out.1.row.form
    obtain ⟨a0, a1, a2, al, af⟩ := HB.out.2.1.cells
    by_cases hks : k < l.length ∧ k < 80
    · obtain ⟨hkl, hk8⟩ := hks
      have hks' : (k : Int) < l.length := by omega
      have hk8' : (k : Int) < 80 := by omega
      obtain ⟨b, off, rfl, hb, hc⟩ := HS.out.1 (by omega)
      have hbel := HB1.out.trans (HB.out.1.law.bel.mono HB1.out.size)
      have d0 := (hbel.cell (p := ⟨b, off + (k * 3 + 0), none⟩) hb).trans (hc k 0 hkl (by omega))
      have d1 := (hbel.cell (p := ⟨b, off + (k * 3 + 1), none⟩) hb).trans (hc k 1 hkl (by omega))
      have d2 := (hbel.cell (p := ⟨b, off + (k * 3 + 2), none⟩) hb).trans (hc k 2 hkl (by omega))
      have hbl : b < wr.heap.size := Nat.lt_of_lt_of_le hb hbel.size
      have hok : (l.getD k default).Ok := HS.out.2 _ (by simp [List.getD, hkl])
      simp only [cdc, List.getD_cons_zero, List.getD_cons_succ, Nat.add_zero] at d0 d1 d2
      rw [← Nat.add_assoc] at d1 d2
      generalize l.getD k default = d at d0 d1 d2 hok
      have hT2 : Two w1 c most s n (.slice A3 s.row.length cp3) wr.drew F := by
        have h := HB.out.1
        exact ⟨h.law.below ((Below.refl _ _).drew), h.row.below ((Below.refl _ _).drew), h.far, h.most⟩
      have HDO := Lib.hid (do_any w1 c most s n (.slice A3 s.row.length cp3) d wr.drew F hT2 hok (by omega))
      unfold refV at HDO
      clear hc hbel hok hT2
      go_upto_region 9 with fail
      go_region_with ((with_reducible refine HDO.out.mono ?_); rintro _ w5 ⟨r5, s5, n5, F5, rfl, ht5, hn5, hf5, hr5⟩; obtain ⟨A5, cp5, rfl⟩ := ht5.row.form; obtain ⟨p0, p1, p2, pl, pf⟩ := (show VarAt w5 x (.slice A3 s.row.length cp3) s.hand most from hf5.block (HB.out.2.1.below ((Below.refl _ _).drew)) HB.out.2.2.1).cells)
      all_goals
        have hx5 : ¬ F5 x := hf5.out (by simpa using al) HB.out.2.2.1
        have hr5x : (Value.slice A5 s5.row.length cp5).ownBlock ≠ some x := fun e => (hr5 x e).elim (fun e => HB.out.2.2.2 e) (fun hge => by have : wr.heap.size ≤ x := hge; omega)
        have hv5 : VarAt w5 x (.slice A3 s.row.length cp3) s.hand most := hf5.block (HB.out.2.1.below ((Below.refl _ _).drew)) HB.out.2.2.1
        have H6 := Lib.hid (show Two w1 c most s5 n5 (.slice A5 s5.row.length cp5) (((w5.setCell ⟨x, 0, none⟩ (.slice A5 s5.row.length cp5)).setCell ⟨x, 1, none⟩ (.int .i64 s5.hand)).setCell ⟨x, 2, none⟩ (.int .i64 most)) F5 ∧ VarAt (((w5.setCell ⟨x, 0, none⟩ (.slice A5 s5.row.length cp5)).setCell ⟨x, 1, none⟩ (.int .i64 s5.hand)).setCell ⟨x, 2, none⟩ (.int .i64 most)) x (.slice A5 s5.row.length cp5) s5.hand most from
          ⟨⟨((ht5.law.store hx1 hx5).store hx1 hx5).store hx1 hx5, ((ht5.row.other hr5x).other hr5x).other hr5x, ht5.far, ht5.most⟩, hv5.all⟩)
        have HX := Lib.hid (And.intro hx5 hr5x)
        clear hx5 hr5x hv5 ht5 hf5 hr5 p0 p1 p2 pl pf a0 a1 a2 al af d0 d1 d2
        generalize ((w5.setCell ⟨x, 0, none⟩ (.slice A5 s5.row.length cp5)).setCell ⟨x, 1, none⟩ (.int .i64 s5.hand)).setCell ⟨x, 2, none⟩ (.int .i64 most) = w6 at H6 ⊢
        obtain ⟨a0, a1, a2, al, af⟩ := H6.out.2.cells
        have HSM := Lib.hid (same_any w1 c most s5 n5 (.slice A5 s5.row.length cp5) w6 F5 H6.out.1)
        unfold refV at HSM
        go_wp2_with fail
        ((with_reducible refine HSM.out.mono ?_); rintro _ w7 ⟨rfl, hb7⟩)
        have H7 := Lib.hid (show Two w1 c most s5 n5 (.slice A5 s5.row.length cp5) w7 F5 ∧ VarAt w7 x (.slice A5 s5.row.length cp5) s5.hand most from
          ⟨⟨H6.out.1.law.below hb7, H6.out.1.row.below hb7, H6.out.1.far, H6.out.1.most⟩, H6.out.2.below hb7⟩)
        clear hb7 a0 a1 a2 al af
        go_wp2_with fail
        go_roundw
        case rel => exact ⟨k + 1, n5, s5, F5, .slice A5 s5.row.length cp5, by omega, by omega, by omega, by go_num, Lib.hid ⟨H7.out.1, H7.out.2, HX.out.1, HX.out.2⟩⟩
        case measure => simp [intOf]; omega
    · have HSM := Lib.hid (same_any w1 c most s n (.slice A3 s.row.length cp3) wr F HB.out.1)
      unfold refV at HSM
      have hks' : ¬ ((k : Int) < l.length) ∨ ((k : Int) < l.length ∧ ¬ (k : Int) < 80) := by omega
      rcases hks' with hks' | ⟨hks', hk8'⟩
      all_goals
        go_wp2_with fail
        ((with_reducible refine HSM.out.mono ?_); rintro _ w7 ⟨rfl, hb7⟩)
        have HB7 := Lib.hid (HB1.out.trans ((HB.out.1.law.bel.trans (hb7.mono HB.out.1.law.bel.size)).mono HB1.out.size))
        clear hb7
        go_wp2_with fail
        go_ret
        exact ⟨rfl, HB7.out⟩
end Go.Proofs.Ytohjhbhbpflokaa.Ck
