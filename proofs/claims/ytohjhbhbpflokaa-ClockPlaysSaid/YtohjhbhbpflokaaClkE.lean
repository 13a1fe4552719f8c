
/- Evict. -/
import Derived.Test.YtohjhbhbpflokaaClkD
namespace Go.Proofs.Ytohjhbhbpflokaa.Ck
set_option linter.unusedSimpArgs false
set_option linter.unusedVariables false
open Go Go.RowKit
set_option linter.unusedVariables false
attribute [local go_sem] lt_add1 lt_self1 size_ne size_ne' size_ne1 size_ne1'
theorem evict_nil (z : Int) (w : World) : Calls Try.prog 10 #[.pointer none, .int .i64 z] w fun e w' => e = .returned (.int .i64 0) ∧ Below w.heap.size w w' := by
  go_enter Try.func10, Try.ntmps10
  go_wp2_with fail
  go_loopw [5] (fun many wr => many = .int .i64 0 ∧ Hid (Below w.heap.size w wr)) (fun _ _ => 0)
  case atStart => exact ⟨rfl, Lib.hid (Below.refl _ _)⟩
  case round =>
    obtain ⟨rfl, HB⟩ := hrel
    by_cases hz : 0 < z
    · go_wp2_with fail
      ((with_reducible refine (len_nil _).mono ?_); rintro _ w2 ⟨rfl, hb⟩)
      have HB2 := Lib.hid (HB.out.trans (hb.mono HB.out.size))
      clear hb
      go_wp2_with fail
      go_ret
      exact ⟨rfl, HB2.out⟩
    · go_wp2_with fail
      go_ret
      exact ⟨rfl, HB.out⟩
theorem resCk_to {c : Nat} {w : World} {F : Nat → Prop} {x : CS × Nat} (h : CkAt c w F x) : (resCk c).at_ w F x := h
/-- one is taken out. -/
theorem ck_ev1 {c m g cap n : Nat} {F : Nat → Prop} {w3 w4 : World} {t : CS} (hF : ∀ b, F b ↔ (b = c ∨ b = m ∨ (Value.slice (some ⟨g, 0, none⟩) t.row.length cap).ownBlock = some b)) (hcm : c ≠ m) (hgc : g ≠ c) (hgm : g ≠ m) (hgood : Good t n) (hp : 0 < t.row.length)
    (ho : w3.ownsRow 0 55 3 (.slice (some ⟨g, 0, none⟩) (t.row.length - 1) cap) (t.row.length - 1) (((victim t.row t.hand).1.eraseIdx (victim t.row t.hand).2).flatMap ec))
    (hB : CkBlk w4 c m (.slice (some ⟨g, 0, none⟩) (t.row.length - 1) cap) (if t.row.length - 1 ≤ (victim t.row t.hand).2 then 0 else (victim t.row t.hand).2) t.most)
    (hM : MapI w4 m (t.row.length - 1) (kF (keys ((victim t.row t.hand).1.eraseIdx (victim t.row t.hand).2)))) (hf : Fr w3 (fun b => b = c ∨ b = m) w4 (fun b => b = c ∨ b = m)) :
    CkAt c w4 F (ev1 t, t.row.length - 1) ∧ t.row.length - 1 ≤ n := by
  have hpos := ok_pos hgood.ok hp
  have g1 := victim_vd hpos
  have hl : ((victim t.row t.hand).1.eraseIdx (victim t.row t.hand).2).length = t.row.length - 1 := by rw [List.length_eraseIdx, g1.len, if_pos g1.hand]
  obtain ⟨o1, o2, o3⟩ := ev1_ok hgood.ok hp
  have hle := hgood.le
  refine ⟨⟨.slice (some ⟨g, 0, none⟩) (t.row.length - 1) cap, m, fun b => by simpa [Value.ownBlock] using hF b, hcm, by simpa [Value.ownBlock] using hgc, by simpa [Value.ownBlock] using hgm, ?_, ?_, hM, ⟨o1, ?_, ?_, ?_, ?_⟩⟩, by omega⟩
  · have e : (ev1 t).hand = if t.row.length - 1 ≤ (victim t.row t.hand).2 then 0 else (victim t.row t.hand).2 := by
      show (if ((victim t.row t.hand).1.eraseIdx (victim t.row t.hand).2).length ≤ (victim t.row t.hand).2 then 0 else _) = _
      rw [hl]
    rw [e]
    exact hB
  · have e : (ev1 t).row = (victim t.row t.hand).1.eraseIdx (victim t.row t.hand).2 := rfl
    rw [e, hl]
    exact hf.own ho (fun b hb e => by
      have hb : g = b := by simpa [Value.ownBlock] using hb
      subst hb
      rcases e with e | e
      · exact hgc e
      · exact hgm e)
  · show (ev1 t).row.length ≤ t.row.length - 1
    omega
  · exact Nat.le_trans (by omega) hgood.small
  · intro k hk
    have e : keys (ev1 t).row = (keys t.row).eraseIdx (victim t.row t.hand).2 := by
      rw [← g1.keys]
      exact map_eraseIdx' _ _
    rw [e] at hk
    exact hgood.keys k (List.mem_of_mem_eraseIdx hk)
  · rw [o3]; exact hgood.most
set_option maxHeartbeats 4000000 in
theorem evict_any (c : Nat) (s : CS) (n : Nat) (z : Int) : Does Try.prog (resCk c) 10 #[.pointer (some ⟨c, 0, none⟩), .int .i64 z] (s, n)
    (fun v s' => v = .int .i64 ((evictS s z).2 : Nat) ∧ ∃ n', n' ≤ n ∧ s' = ((evictS s z).1, n')) := by
  rintro w F h
  have hc := resCk_of h
  have hgood : Good s n := hc.good
  have HV0 := Lib.hid hc
  have hsm : s.row.length ≤ 1000 := Nat.le_trans hgood.le hgood.small
  have HG := Lib.hid hgood
  clear h hc hgood
  go_enter Try.func10, Try.ntmps10
  go_wp2_with fail
  go_loopw [5] (fun many wr => ∃ (j n1 : Nat) (F1 : Nat → Prop), many = .int .i64 j ∧ j ≤ s.row.length ∧ j ≤ z.toNat ∧ Hid (CkAt c wr F1 (evN j s, n1) ∧ n1 ≤ n ∧ Fr w F wr F1)) (fun m _ => s.row.length - (intOf m).toNat)
  case atStart => exact ⟨0, n, F, rfl, Nat.zero_le _, Nat.zero_le _, Lib.hid ⟨HV0.out, Nat.le_refl _, Fr.refl _ _⟩⟩
  case round =>
    obtain ⟨j, n1, F1, rfl, hj, hjz, HB⟩ := hrel
    obtain ⟨o1, o2, o3⟩ := evN_ok j HG.out.ok hj
    have hsucc := evN_succ j s
    have HE := Lib.hid hsucc
    clear hsucc
    by_cases hz : (j : Int) < z
    · generalize ht : evN j s = t at HB HE o1 o2 o3
      have HT := Lib.hid ht
      clear ht
      go_wp2_with fail
      ((with_reducible refine ((len_any c t n1).run _ _ (resCk_to HB.out.1)).mono ?_); rintro _ w2 ⟨_, _, F2, rfl, ⟨rfl, rfl⟩, hat2, hf2⟩)
      have H2 := Lib.hid (show CkAt c w2 F2 (t, n1) ∧ Fr w F w2 F2 from ⟨resCk_of hat2, HB.out.2.2.trans hf2⟩)
      clear hat2 hf2
      by_cases hl : 0 < t.row.length
      · have hl' : (0 : Int) < t.row.length := by omega
        go_wp2_with fail
        ((with_reducible refine ((victim_any c t n1 hl).run _ _ (resCk_to H2.out.1)).mono ?_); rintro _ w3 ⟨_, _, F3, rfl, ⟨rfl, rfl⟩, hat3, hf3⟩)
        have hgt : Good t n1 := H2.out.1.good
        have hpos := ok_pos o1 hl
        have gv := victim_vd hpos
        obtain ⟨v, m, h1, h2, h3, h4, h5, h6, h7, h8⟩ := resCk_of hat3
        simp only [gv.len] at h1 h3 h4 h5 h6 h7
        obtain ⟨g, cap, rfl, _, hgl⟩ := h6.form (by omega)
        have c0 := cell_of_row w3 c 0 _ _ (0, 0) h5
        have hlt := (Array.getElem?_eq_some_iff.1 h5).1
        simp only [List.getElem?_toArray, List.getElem?_cons_zero] at c0
        have hgc : g ≠ c := fun e => h3 (by simp [Value.ownBlock, e])
        have hgm : g ≠ m := fun e => h4 (by simp [Value.ownBlock, e])
        have hvi := gv.hand
        have hlen3 : t.row.length ≤ 1000 := by omega
        have hd := delete_any g cap (victim t.row t.hand).2 (victim t.row t.hand).1 w3 (by rw [gv.len]; exact hvi) (by rw [gv.len]; exact hlen3) (by rw [gv.len]; exact h6)
        rw [gv.len, Int.natCast_add, Int.natCast_one] at hd
        have HD := Lib.hid hd
        have hB3 : CkBlk w3 c m (.slice (some ⟨g, 0, none⟩) t.row.length cap) (victim t.row t.hand).2 t.most := h5
        have HK := Lib.hid (And.intro hB3 (And.intro h7 (And.intro hf3 (And.intro h1 (And.intro hgt gv)))))
        obtain ⟨ke1, ke2, ke3⟩ := ev1_ok o1 hl
        have HEV := Lib.hid (And.intro ke1 (And.intro ke2 ke3))
        clear hat3 hf3 hgt gv h1 h3 h4 h5 h6 h7 h8 hd hB3 hpos ke1 ke2 ke3
        go_wp2_with fail
        ((with_reducible refine HD.out.mono ?_); rintro _ w4 ⟨rfl, hown4, hf4⟩)
        have hl9 : ((victim t.row t.hand).1.eraseIdx (victim t.row t.hand).2).length = t.row.length - 1 := by rw [List.length_eraseIdx, HK.out.2.2.2.2.2.len, if_pos hvi]
        have hky : keys ((victim t.row t.hand).1.eraseIdx (victim t.row t.hand).2) = (keys t.row).eraseIdx (victim t.row t.hand).2 := by
          rw [← HK.out.2.2.2.2.2.keys]
          exact map_eraseIdx' _ _
        have hlay := lay_any c m (.slice (some ⟨g, 0, none⟩) t.row.length cap) (.slice (some ⟨g, 0, none⟩) (t.row.length - 1) cap) (victim t.row t.hand).2 t.most n1 (victim t.row t.hand).2 _ ((victim t.row t.hand).1.eraseIdx (victim t.row t.hand).2) w4
          (hf4.block HK.out.1 (fun e => hgc e.symm)) (HK.out.2.1.fr hf4 (fun e => hgm e.symm)) h2 (by rw [hl9]; exact hown4) (by simpa [Value.ownBlock] using hgc) (by simpa [Value.ownBlock] using hgm) (by rw [hl9]; omega)
          (by rw [hky]; intro k hk; exact HK.out.2.2.2.2.1.keys k (List.mem_of_mem_eraseIdx hk)) (by rw [hky]; exact o1.nodup.sublist (List.eraseIdx_sublist _ _))
        rw [hl9] at hlay
        have HL := Lib.hid hlay
        have HF4 := Lib.hid (And.intro hown4 hf4)
        clear hlay hl9 hky hown4 hf4
        go_wp2_with fail
        ((with_reducible refine HL.out.mono ?_); rintro _ w5 ⟨⟨u, rfl⟩, hB5, hM5, hf5⟩)
        obtain ⟨k1, k2⟩ := ck_ev1 HK.out.2.2.2.1 h2 hgc hgm HK.out.2.2.2.2.1 hl HF4.out.1 hB5 hM5 hf5
        have H5 := Lib.hid (show CkAt c w5 F3 (ev1 t, t.row.length - 1) ∧ t.row.length - 1 ≤ n1 ∧ Fr w F w5 F3 from ⟨k1, k2, by
          have a1 : Fr w3 F3 w4 F3 := HF4.out.2.weaken (fun b hb => (HK.out.2.2.2.1 b).2 (.inr (.inr (by rw [hb]; rfl)))) (fun b hb => .inr hb)
          have a2 : Fr w4 F3 w5 F3 := hf5.weaken (fun b hb => (HK.out.2.2.2.1 b).2 (hb.elim .inl (fun e => .inr (.inl e)))) (fun b hb => .inr hb)
          exact ((H2.out.2.trans HK.out.2.2.1).trans a1).trans a2⟩)
        clear hB5 hM5 hf5 k1 k2
        have hwk : IntKind.i64.wrap ((j : Int) + 1) = (j : Int) + 1 := IntWalk.i64_in _ (by omega)
        go_wp2_with fail
        go_roundw
        case rel =>
          refine ⟨j + 1, t.row.length - 1, F3, by go_num, by omega, by omega, Lib.hid ⟨?_, Nat.le_trans H5.out.2.1 HB.out.2.1, H5.out.2.2⟩⟩
          rw [HE.out]; exact H5.out.1
        case measure => simp [intOf]; omega
      · have hl' : ¬ ((0 : Int) < t.row.length) := by omega
        have hj0 : min z.toNat s.row.length = j := by omega
        go_wp2_with fail
        go_ret
        refine ⟨_, (t, n1), F2, rfl, ?_, H2.out.1, H2.out.2⟩
        unfold evictS
        rw [hj0, HT.out]
        exact ⟨rfl, n1, HB.out.2.1, rfl⟩
    · have hj0 : min z.toNat s.row.length = j := by omega
      go_wp2_with fail
      go_ret
      refine ⟨_, rfl, evN j s, n1, ?_, F1, HB.out.1, HB.out.2.2⟩
      unfold evictS
      rw [hj0]
      exact ⟨rfl, HB.out.2.1, rfl⟩
end Go.Proofs.Ytohjhbhbpflokaa.Ck
