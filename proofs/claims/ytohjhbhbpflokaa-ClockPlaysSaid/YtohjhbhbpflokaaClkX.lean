
/- The page's clock: Evict. -/
import Derived.Test.YtohjhbhbpflokaaClkS
namespace Go.Proofs.Ytohjhbhbpflokaa.Ck
set_option linter.unusedSimpArgs false
set_option linter.unusedVariables false
open Go Go.RowKit Go.Shelf
set_option linter.unusedVariables false
attribute [local go_sem] lt_add1 lt_self1 size_ne size_ne' size_ne1 size_ne1'
attribute [local irreducible] wpThx
set_option maxHeartbeats 8000000 in
set_option maxRecDepth 100000 in
theorem refevict_any (r : Value) (s : CS) (mo z : Int) (w : World) (hok : s.Ok) (hs : s.row.length ≤ 900) (h : OwnE w 0 r s.row) : Calls Try.prog 23 #[refV r s.hand mo, .int .i64 z] w fun e w' => ∃ r', e = .returned (.tuple #[refV r' (evictS s z).1.hand mo, .int .i64 ((evictS s z).2 : Nat)]) ∧ OwnE w' 0 r' (evictS s z).1.row ∧ Below w.heap.size w w' ∧ (∀ b, r'.ownBlock = some b → r.ownBlock = some b ∨ w.heap.size ≤ b) := by
  obtain ⟨A, cp, rfl⟩ := h.form
  have HO := Lib.hid h
  clear h
  unfold refV
  go_enter Try.func23, Try.ntmps23
  go_upto_region 1 with fail
  have HB := Lib.hid (Beg.mk0 (hand := s.hand) (mo := mo) HO.out)
  generalize (w.alloc (.cells #[.slice A s.row.length cp, .int .i64 s.hand, .int .i64 mo] 40)).alloc (.cells #[.slice none 0 0, .int .i64 0, .int .i64 0] 40) = w1 at HB ⊢
  obtain ⟨x, hx⟩ : ∃ x, w.heap.size = x := ⟨_, rfl⟩
  rw [hx] at HB
  rw [hx]
  clear hx
  obtain ⟨c0, c1, c2, hxl, hxf⟩ := HB.out.vx.cells
  have HCP := Lib.hid (copied_any (.slice A s.row.length cp) s.hand mo s.row w1 (by omega) HB.out.own)
  unfold refV at HCP
  clear hxf
  go_wp2_with fail
  ((with_reducible refine HCP.out.mono ?_); rintro _ w2 ⟨r2, rfl, ho2, hb2⟩)
  have HC := Lib.hid (HB.out.copy ho2 hb2)
  obtain ⟨A2, cp2, rfl⟩ := ho2.form
  clear ho2 hb2 c0 c1 c2 hxl HCP
  go_upto_region 2 with fail
  generalize w2.alloc (.cells #[.slice A2 s.row.length cp2, .int .i64 s.hand, .int .i64 mo] 40) = w3 at HC ⊢
  generalize hzz : w2.heap.size = zz at HC ⊢
  have hx0 : w.heap.size ≤ x + 1 := by have := HC.out.eq; omega
  have hz0 : w.heap.size ≤ zz := by have := HC.out.eq; have := HC.out.lt; omega
  have hyz : x + 1 ≠ zz := by have := HC.out.lt; omega
  clear hzz
  go_wp2_with fail
  go_loopw [7] (fun many wr => ∃ (j : Nat) (r' : Value), many = .int .i64 j ∧ j ≤ s.row.length ∧ j ≤ z.toNat ∧ Hid (VarAt wr zz r' (evN j s).hand mo ∧ VarAt wr (x + 1) (.slice none 0 0) 0 0 ∧ OwnE wr (x + 2) r' (evN j s).row ∧ r'.ownBlock ≠ some zz ∧ Below w.heap.size w wr)) (fun m _ => s.row.length - (intOf m).toNat)
  case atStart => exact ⟨0, _, rfl, Nat.zero_le _, Nat.zero_le _, Lib.hid ⟨HC.out.vz, HC.out.vy, HC.out.own, HC.out.ne, HC.out.bel⟩⟩
  case round =>
    obtain ⟨j, r', rfl, hj, hjz, HH⟩ := hrel
    obtain ⟨o1, o2, o3⟩ := evN_ok j hok hj
    have hsucc := evN_succ j s
    have HE := Lib.hid hsucc
    clear hsucc
    generalize ht : evN j s = t at HH HE o1 o2 o3
    have HT := Lib.hid ht
    clear ht
    obtain ⟨A', cp', rfl⟩ := HH.out.2.2.1.form
    obtain ⟨c0, c1, c2, hzl, hzf⟩ := HH.out.1.cells
    by_cases hz : (j : Int) < z
    · by_cases hl : 0 < t.row.length
      · have hl' : (0 : Int) < t.row.length := by omega
        have hh := ok_pos o1 hl
        have HV := Lib.hid (refvict_any (.slice A' t.row.length cp') t.hand mo t.row wr (by omega) hh (HH.out.2.2.1.base (Nat.zero_le _)))
        unfold refV at HV
        go_wp2_with fail
        ((with_reducible refine HV.out.mono ?_); rintro _ w6 ⟨r6, rfl, ho6, hb6⟩)
        obtain ⟨_, hl6, _, hi6⟩ := victim_vd hh
        have hev : ev1 t = layS t ((victim t.row t.hand).1.eraseIdx (victim t.row t.hand).2) (victim t.row t.hand).2 := rfl
        generalize (victim t.row t.hand).1 = row6 at ho6 hl6 hev ⊢
        generalize (victim t.row t.hand).2 = i6 at hi6 hev ⊢
        obtain ⟨g, cap, rfl, hg1, hg2⟩ := World.ownsRow.form ho6 (by omega)
        rw [hl6]
        have HY6 := Lib.hid (HH.out.2.1.below hb6)
        have HZ6 := Lib.hid (HH.out.1.below hb6)
        have HB6 := Lib.hid (HH.out.2.2.2.2.trans (hb6.mono HH.out.2.2.2.2.size))
        have H6 := Lib.hid (And.intro ho6 hev)
        have hgz : g ≠ zz := by omega
        have hyl0 : x + 1 < wr.heap.size := HH.out.2.1.cells.2.2.2.1
        have hgx : g ≠ x + 1 := by omega
        have hg0 : w.heap.size ≤ g := Nat.le_trans HH.out.2.2.2.2.size hg1
        clear c0 c1 c2 hzl hzf hb6 HV hev ho6
        obtain ⟨c0, c1, c2, hzl, hzf⟩ := HZ6.out.cells
        go_upto_region 5 with fail
        have hw7 : Hid (VarAt (((w6.setCell ⟨zz, 0, none⟩ (.slice (some ⟨g, 0, none⟩) t.row.length cap)).setCell ⟨zz, 1, none⟩ (.int .i64 i6)).setCell ⟨zz, 2, none⟩ (.int .i64 mo)) zz (.slice (some ⟨g, 0, none⟩) t.row.length cap) i6 mo ∧
            VarAt (((w6.setCell ⟨zz, 0, none⟩ (.slice (some ⟨g, 0, none⟩) t.row.length cap)).setCell ⟨zz, 1, none⟩ (.int .i64 i6)).setCell ⟨zz, 2, none⟩ (.int .i64 mo)) (x + 1) (.slice none 0 0) 0 0 ∧
            OwnE (((w6.setCell ⟨zz, 0, none⟩ (.slice (some ⟨g, 0, none⟩) t.row.length cap)).setCell ⟨zz, 1, none⟩ (.int .i64 i6)).setCell ⟨zz, 2, none⟩ (.int .i64 mo)) (x + 2) (.slice (some ⟨g, 0, none⟩) row6.length cap) row6 ∧
            Below w.heap.size w (((w6.setCell ⟨zz, 0, none⟩ (.slice (some ⟨g, 0, none⟩) t.row.length cap)).setCell ⟨zz, 1, none⟩ (.int .i64 i6)).setCell ⟨zz, 2, none⟩ (.int .i64 mo))) := by
          have ngz : (Value.slice (some ⟨g, 0, none⟩) row6.length cap).ownBlock ≠ some zz := fun e => hgz (by simpa [Value.ownBlock] using e)
          exact Lib.hid ⟨HZ6.out.all, ((HY6.out.other hyz).other hyz).other hyz, (((H6.out.1.other ngz).other ngz).other ngz).base (by omega), ((HB6.out.setCell hz0 _).setCell hz0 _).setCell hz0 _⟩
        clear c0 c1 c2 hzl hzf HY6 HZ6 HB6
        generalize ((w6.setCell ⟨zz, 0, none⟩ (.slice (some ⟨g, 0, none⟩) t.row.length cap)).setCell ⟨zz, 1, none⟩ (.int .i64 i6)).setCell ⟨zz, 2, none⟩ (.int .i64 mo) = w7 at hw7 ⊢
        obtain ⟨c0, c1, c2, hzl, hzf⟩ := hw7.out.1.cells
        have hgl := (World.ownsRow.lt hw7.out.2.2.1 g rfl).2
        have hcp : row6.length ≤ cap := by
          rcases hw7.out.2.2.1.2 with ⟨q, _⟩ | ⟨g', cap', cur, q1, q2, q3, q4, _⟩
          · simp at q
          · obtain ⟨rfl, rfl⟩ : g = g' ∧ cap = cap' := by simp at q1; exact q1
            exact q4
        have hi64 : IntKind.i64.wrap ((i6 : Int) + 1) = (i6 : Int) + 1 := IntWalk.i64_in _ (by omega)
        have hic : i6 ≤ cap := by omega
        have hjc : i6 + 1 ≤ cap := by omega
        have hb1 : (0 : Int) ≤ (i6 : Int) + 1 := by omega
        have hb2 : (i6 : Int) + 1 ≤ t.row.length := by omega
        have hb3 : (i6 : Int) ≤ cap := by omega
        have hb4 : i6 + 1 ≤ t.row.length := by omega
        obtain ⟨AA, hA, hsrc⟩ : ∃ AA : Addr, (if cap = i6 + 1 then some (⟨g, 0, none⟩ : Addr) else some ⟨g, (i6 + 1) * 3, none⟩) = some AA ∧ Hid (∀ w9 : World, OwnE w9 0 (.slice (some ⟨g, 0, none⟩) row6.length cap) row6 → ∀ t u, ((row6.drop (i6 + 1)).flatMap ec)[t]? = some u → w9.cell? (AA.add t) = some u) := by
          by_cases h : cap = i6 + 1
          · refine ⟨⟨g, 0, none⟩, by simp [h], fun w9 _ t u hu => ?_⟩
            have := (List.getElem?_eq_some_iff.1 hu).1
            rw [ec_flat_length, List.length_drop] at this
            omega
          · refine ⟨⟨g, (i6 + 1) * 3, none⟩, by simp [h], fun w9 ho t u hu => ?_⟩
            rw [Addr.add_lit]
            exact ho.part (j := 0) (ys := row6.drop (i6 + 1)) (m := row6.length - (i6 + 1)) (fun q hq => by rw [List.getElem?_drop]) (by simp) (by omega) t u hu
        have HS1 : Hid (∀ w9 : World, OwnE w9 0 (.slice (some ⟨g, 0, none⟩) row6.length cap) row6 → ∀ t u, ((row6.take i6).flatMap ec)[t]? = some u → w9.cell? ((⟨g, 0, none⟩ : Addr).add t) = some u) := fun w9 ho t u hu => by
          rw [Addr.add_lit]
          have := ho.part (i := 0) (j := 0) (ys := row6.take i6) (m := i6) (fun q hq => by rw [List.getElem?_take_of_lt hq, Nat.zero_add]) (by simp; omega) (by omega) t u hu
          simpa using this
        have HR : Hid (∀ (s1 : Value × Value × List CE) bs (w1 : World), s1.1 = .slice (some ⟨g, 0, none⟩) t.row.length cap → (eCls w7 zz hzl i6 mo).In s1 bs w1 → w1.cell? ⟨zz, 0, none⟩ = some (.slice (some ⟨g, 0, none⟩) t.row.length cap) ∧ w1.cell? ⟨zz, 1, none⟩ = some (.int .i64 i6) ∧ zz < w1.heap.size) := Lib.hid (fun s1 bs w1 e h => by
          obtain ⟨q0, q1, _, q3, _⟩ := h.var.cells
          rw [e] at q0
          exact ⟨q0, q1, q3⟩)
        refine wp_region_thx' (eCls w7 zz hzl i6 mo) (fun s1 => s1.1 = .slice (some ⟨g, 0, none⟩) t.row.length cap) (.slice (some ⟨g, 0, none⟩) t.row.length cap, .slice none 0 0, []) [(1, []), (2, []), (3, []), (4, []), (5, []), (7, []), (8, []), (9, []), (10, []), (11, []), (12, []), (0, []), (6, []), (13, []), (14, []), (15, [])] _ (by kernel_rfl) (by kernel_rfl) (by kernel_rfl) (by kernel_rfl) rfl (eCls_start hw7.out.1) ?_
        (simp only [List.filterMap_cons, List.filterMap_nil, List.getElem?_cons_zero, List.getElem?_cons_succ, Option.map_some])
        iterate 11 ((refine wpThx_val rfl rfl rfl rfl rfl ?_; apply Exists.intro; refine ⟨fun s1 bs1 w1 hp1 hb1 hw1 => ?_, ?_⟩); (have hc1 := HR.out s1 bs1 w1 hp1 hw1; go_simp; exact growUpon_ok rfl); (refine wpThx_at (by (simp only [Act.put, mval, List.setIfInBounds_toArray, List.set_cons_succ, List.set_cons_zero]) <;> exact rfl) ?_))
        have her : row6.take i6 ++ row6.drop (i6 + 1) = row6.eraseIdx i6 := (List.eraseIdx_eq_take_drop_succ _ _).symm
        have hlen9 : (row6.eraseIdx i6).length = t.row.length - 1 := by rw [List.length_eraseIdx, if_pos (by omega), hl6]
        have HER := Lib.hid (And.intro her hlen9)
        clear her hlen9
        refine wpThx_mk rfl (mkA_none rfl rfl) (fun b0 hb0 hf0 => ?_)
        (refine wpThx_at (by (simp only [Act.put, mval, List.setIfInBounds_toArray, List.set_cons_succ, List.set_cons_zero]) <;> exact rfl) ?_)
        refine wpThx_call (fun v' s' => ∃ A cp, v' = .slice A (row6.take i6).length cp ∧ v' ≠ .slice none 0 0 ∧ s' = (.slice (some ⟨g, 0, none⟩) t.row.length cap, v', row6.take i6)) rfl rfl rfl (fun bs1 w1 hb1 hw1 => eCls_first (b0 := b0) (m := i6) (c := cap) (ad := ⟨g, 0, none⟩) hw1 (hb1 _ (by simp)) rfl rfl rfl (by simp; omega) (HS1.out w1 (eCls_row hw1 hgz hw7.out.2.2.1)) (by simp; omega)) (fun _ v' s' ⟨_, _, _, _, e⟩ => by rw [e]) ?_
        rintro _ _ ⟨A8, cp8, rfl, hn8, rfl⟩
        (refine wpThx_at (by (simp only [Act.put, mval, List.setIfInBounds_toArray, List.set_cons_succ, List.set_cons_zero]) <;> exact rfl) ?_)
        refine wpThx_call (fun v' s' => ∃ A cp, v' = .slice A (t.row.length - 1) cp ∧ v' ≠ .slice none 0 0 ∧ s' = (.slice (some ⟨g, 0, none⟩) t.row.length cap, v', row6.eraseIdx i6)) rfl rfl rfl (fun bs1 w1 hb1 hw1 => by
          rw [← HER.out.2, ← HER.out.1]
          exact eCls_core (m := t.row.length - (i6 + 1)) (c := cap - (i6 + 1)) (ad := AA) (u := .slice A8 (row6.take i6).length cp8) (ys := row6.drop (i6 + 1)) hw1 hw1.own hn8 rfl rfl rfl (by simp; omega) (hsrc.out w1 (eCls_row hw1 hgz hw7.out.2.2.1)) (by simp; omega)) (fun _ v' s' ⟨_, _, _, _, e⟩ => by rw [e]) ?_
        rintro _ _ ⟨A9, cp9, rfl, hn9, rfl⟩
        (refine wpThx_at (by (simp only [Act.put, mval, List.setIfInBounds_toArray, List.set_cons_succ, List.set_cons_zero]) <;> exact rfl) ?_)
        ((refine wpThx_val rfl rfl rfl rfl rfl ?_; apply Exists.intro; refine ⟨fun s1 bs1 w1 hp1 hb1 hw1 => ?_, ?_⟩); (have hc1 := HR.out s1 bs1 w1 hp1 hw1; go_simp; exact growUpon_ok rfl); (refine wpThx_at (by (simp only [Act.put, mval, List.setIfInBounds_toArray, List.set_cons_succ, List.set_cons_zero]) <;> exact rfl) ?_))
        refine wpThx_call (fun v' s' => s' = (.slice A9 (t.row.length - 1) cp9, .slice A9 (t.row.length - 1) cp9, row6.eraseIdx i6)) rfl rfl rfl (fun bs1 w1 hb1 hw1 => by
          obtain ⟨q0, _, _, q3, q4⟩ := hw1.var.cells
          have hst := eCls_store hw1 (fun b e => by have := (World.ownsRow.lt hw1.own b e).1; omega) hn9
          go_simp
          exact ⟨_, rfl, hst⟩) (fun h => by cases h) ?_
        rintro _ _ rfl
        (refine wpThx_at (by (simp only [Act.put, mval, List.setIfInBounds_toArray, List.set_cons_succ, List.set_cons_zero]) <;> exact rfl) ?_)
        refine wpThx_nil ?_
        intro w8 hw8
        have hlen9 := HER.out.2
        have hyl7 : x + 1 < w7.heap.size := hw7.out.2.1.cells.2.2.2.1
        have hle7 : w.heap.size ≤ w7.heap.size := hw7.out.2.2.2.size
        have H8 := Lib.hid (show VarAt w8 zz (.slice A9 (t.row.length - 1) cp9) i6 mo ∧ VarAt w8 (x + 1) (.slice none 0 0) 0 0 ∧ OwnE w8 (x + 2) (.slice A9 (t.row.length - 1) cp9) (row6.eraseIdx i6) ∧ (Value.slice A9 (t.row.length - 1) cp9).ownBlock ≠ some zz ∧ Below w.heap.size w w8 from
          ⟨hw8.var, (hw8.old (x + 1) hyl7 hyz).trans hw7.out.2.1, hw8.own.base (by omega), fun e => by have := (World.ownsRow.lt hw8.own _ e).1; omega, ⟨hw8.os.trans hw7.out.2.2.2.os, hw8.tape.trans hw7.out.2.2.2.tape, hw8.output.trans hw7.out.2.2.2.output, Nat.le_trans hle7 hw8.size, fun b hb => (hw8.old b (by omega) (by omega)).trans (hw7.out.2.2.2.block b hb)⟩⟩)
        have hev := H6.out.2
        unfold layS at hev
        rw [hlen9] at hev
        have HEV := Lib.hid (And.intro hev HE.out)
        clear hw8 hn9 hw7 HR HS1 hsrc hev HE c0 c1 c2 hzf H6 hA hgl
        obtain ⟨c0, c1, c2, hzl8, hzf⟩ := H8.out.1.cells
        have hwk : IntKind.i64.wrap ((j : Int) + 1) = (j : Int) + 1 := IntWalk.i64_in _ (by omega)
        by_cases hie : i6 = t.row.length - 1
        · have hie' : ((i6 : Int) == ((t.row.length - 1 : Nat) : Int)) = true := by simp only [beq_iff_eq]; omega
          have hset := Lib.hid (And.intro (H8.out.1.set1 (z := 0)) (And.intro (H8.out.2.1.other (o := 1) (u := .int .i64 0) hyz) (And.intro (H8.out.2.2.1.other (o := 1) (u := .int .i64 0) H8.out.2.2.2.1) (H8.out.2.2.2.2.setCell (p := ⟨zz, 1, none⟩) hz0 (.int .i64 0)))))
          have H0 : Hid (ev1 t = { t with row := row6.eraseIdx i6, hand := 0 }) := Lib.hid (by rw [HEV.out.1, if_pos (by omega)])
          go_wp2_with fail
          go_roundw
          case rel =>
            refine ⟨j + 1, .slice A9 (t.row.length - 1) cp9, by go_num, by omega, by omega, Lib.hid ?_⟩
            rw [HEV.out.2, H0.out]
            exact ⟨hset.out.1, hset.out.2.1, hset.out.2.2.1, H8.out.2.2.2.1, hset.out.2.2.2⟩
          case measure => simp [intOf]; omega
        · have hie' : ((i6 : Int) == ((t.row.length - 1 : Nat) : Int)) = false := by simp; omega
          have H0 : Hid (ev1 t = { t with row := row6.eraseIdx i6, hand := i6 }) := Lib.hid (by rw [HEV.out.1, if_neg (by omega)])
          go_wp2_with fail
          go_roundw
          case rel =>
            refine ⟨j + 1, .slice A9 (t.row.length - 1) cp9, by go_num, by omega, by omega, Lib.hid ?_⟩
            rw [HEV.out.2, H0.out]
            exact H8.out
          case measure => simp [intOf]; omega
      · have hl' : ¬ ((0 : Int) < t.row.length) := by omega
        have hj0 : min z.toNat s.row.length = j := by omega
        obtain ⟨y0, y1, y2, hyl, hyf⟩ := HH.out.2.1.cells
        have HEV : Hid (evictS s z = (t, j)) := Lib.hid (by unfold evictS; rw [hj0, HT.out])
        go_wp2_with fail
        rw [HEV.out]
        refine bodyPost_ret (v := .tuple #[.agg #[.slice A' t.row.length cp', .int .i64 t.hand, .int .i64 mo], .int .i64 j]) (by simp [results, Try.results23, go_sem, *]) rfl ⟨_, rfl, ?_, ?_, ?_⟩
        · have n1 : (Value.slice A' t.row.length cp').ownBlock ≠ some (x + 1) := fun e => by have := (World.ownsRow.lt HH.out.2.2.1 _ e).1; omega
          exact (((HH.out.2.2.1.other n1).other n1).other n1).base (Nat.zero_le _)
        · exact ((HH.out.2.2.2.2.setCell hx0 _).setCell hx0 _).setCell hx0 _
        · exact fun b e => .inr (by have := (World.ownsRow.lt HH.out.2.2.1 b e).1; omega)
    · have hj0 : min z.toNat s.row.length = j := by omega
      obtain ⟨y0, y1, y2, hyl, hyf⟩ := HH.out.2.1.cells
      have HEV : Hid (evictS s z = (t, j)) := Lib.hid (by unfold evictS; rw [hj0, HT.out])
      go_wp2_with fail
      rw [HEV.out]
      refine bodyPost_ret (v := .tuple #[.agg #[.slice A' t.row.length cp', .int .i64 t.hand, .int .i64 mo], .int .i64 j]) (by simp [results, Try.results23, go_sem, *]) rfl ⟨_, rfl, ?_, ?_, ?_⟩
      · have n1 : (Value.slice A' t.row.length cp').ownBlock ≠ some (x + 1) := fun e => by have := (World.ownsRow.lt HH.out.2.2.1 _ e).1; omega
        exact (((HH.out.2.2.1.other n1).other n1).other n1).base (Nat.zero_le _)
      · exact ((HH.out.2.2.2.2.setCell hx0 _).setCell hx0 _).setCell hx0 _
      · exact fun b e => .inr (by have := (World.ownsRow.lt HH.out.2.2.1 b e).1; omega)
end Go.Proofs.Ytohjhbhbpflokaa.Ck
