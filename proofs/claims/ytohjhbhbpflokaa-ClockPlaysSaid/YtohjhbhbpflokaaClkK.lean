
/- The page's clock: Put. -/
import Derived.Test.YtohjhbhbpflokaaClkJ
namespace Go.Proofs.Ytohjhbhbpflokaa.Ck
set_option linter.unusedSimpArgs false
set_option linter.unusedVariables false
open Go Go.RowKit Go.Shelf
set_option linter.unusedVariables false
attribute [local go_sem] lt_add1 lt_self1 size_ne size_ne' size_ne1 size_ne1'
/-- behind an append onto the page's own row. -/
theorem grown_keep {w w' : World} {O : Obj} {v : Value} (h : (w.alloc O).grownBy w' v.ownBlock) {b : Nat} (hb : b < w.heap.size) (hn : v.ownBlock ≠ some b) : w'.heap[b]? = w.heap[b]? :=
  (h.block b (by simp; omega) (fun e => hn e.symm)).trans (Below.heap_alloc _ _ b hb)
theorem grown_bel {W w w' : World} {O : Obj} {v : Value} (h : (w.alloc O).grownBy w' v.ownBlock) (hb : Below W.heap.size W w) (hge : ∀ b, v.ownBlock = some b → W.heap.size ≤ b) : Below W.heap.size W w' :=
  ⟨h.os.trans hb.os, h.tape.trans hb.tape, h.output.trans hb.output, by have := h.size; have := hb.size; simp at *; omega, fun b hl => (grown_keep h (Nat.lt_of_lt_of_le hl hb.size) (fun e => by have := hge b e; omega)).trans (hb.block b hl)⟩
theorem VarAt.grown {w w' : World} {O : Obj} {v r : Value} {x : Nat} {hand mo : Int} (h : VarAt w x r hand mo) (hg : (w.alloc O).grownBy w' v.ownBlock) (hn : v.ownBlock ≠ some x) : VarAt w' x r hand mo := (grown_keep hg (Array.getElem?_eq_some_iff.1 h).1 hn).trans h
set_option maxHeartbeats 8000000 in
set_option maxRecDepth 100000 in
theorem refput_any (r : Value) (s : CS) (mo k : Int) (v : ByteArray) (w : World) (hok : s.Ok) (hmo : s.most = (max mo 0).toNat) (hs : s.row.length ≤ 900) (h : OwnE w 0 r s.row) : Calls Try.prog 21 #[refV r s.hand mo, .int .i64 k, .string v] w fun e w' => ∃ r', e = .returned (refV r' (putS s k v).hand mo) ∧ OwnE w' 0 r' (putS s k v).row ∧ Below w.heap.size w w' ∧ (∀ b, r'.ownBlock = some b → r.ownBlock = some b ∨ w.heap.size ≤ b) := by
  obtain ⟨A, cp, rfl⟩ := h.form
  have HO := Lib.hid h
  clear h
  unfold refV
  go_enter Try.func21, Try.ntmps21
  go_upto_region 1 with fail
  have HB := Lib.hid (Beg.mk0 (hand := s.hand) (mo := mo) HO.out)
  generalize (w.alloc (.cells #[.slice A s.row.length cp, .int .i64 s.hand, .int .i64 mo] 40)).alloc (.cells #[.slice none 0 0, .int .i64 0, .int .i64 0] 40) = w1 at HB ⊢
  obtain ⟨x, hx⟩ : ∃ x, w.heap.size = x := ⟨_, rfl⟩
  rw [hx] at HB
  rw [hx]
  clear hx
  obtain ⟨c0, c1, c2, hxl, hxf⟩ := HB.out.vx.cells
  by_cases hm1 : mo < 1
  · obtain ⟨y0, y1, y2, hyl, hyf⟩ := HB.out.vy.cells
    have hps : putS s k v = s := put_none (by omega) k v
    have HPS := Lib.hid hps
    have hx0 : w.heap.size ≤ x + 1 := by have := HB.out.eq; omega
    clear hps
    go_wp2_with fail
    rw [HPS.out]
    refine bodyPost_ret (v := .agg #[.slice A s.row.length cp, .int .i64 s.hand, .int .i64 mo]) (by simp [results, Try.results21, go_sem, *]) rfl ⟨_, rfl, ?_, ?_, ?_⟩
    · have n1 : (Value.slice A s.row.length cp).ownBlock ≠ some (x + 1) := fun e => by have := (World.ownsRow.lt HO.out _ e).2; omega
      exact ((HB.out.own.other n1).other n1).other n1
    · exact ((HB.out.bel.setCell hx0 _).setCell hx0 _).setCell hx0 _
    · exact fun b e => .inl e
  · have hmge : ¬ mo < 1 := hm1
    have HCP := Lib.hid (copied_any (.slice A s.row.length cp) s.hand mo s.row w1 (by omega) HB.out.own)
    unfold refV at HCP
    clear hxf
    go_wp2_with fail
    ((with_reducible refine HCP.out.mono ?_); rintro _ w2 ⟨r2, rfl, ho2, hb2⟩)
    have HC := Lib.hid (HB.out.copy ho2 hb2)
    obtain ⟨A2, cp2, rfl⟩ := ho2.form
    clear ho2 hb2 c0 c1 c2 hxl HCP
    go_upto_region 4 with fail
    generalize w2.alloc (.cells #[.slice A2 s.row.length cp2, .int .i64 s.hand, .int .i64 mo] 40) = w3 at HC ⊢
    generalize w2.heap.size = z at HC ⊢
    go_upto_region 5 with fail
    have ha4 : Below w3.heap.size w3 (w3.alloc (.cells #[.int .i64 k, .string v, .bool true] 65)) := (Below.refl _ _).alloc (Nat.le_refl _) _
    have hq := heap_alloc_new w3 (.cells #[.int .i64 k, .string v, .bool true] 65)
    have HY4 := Lib.hid (HC.out.vy.below ha4)
    have HZ4 := Lib.hid (HC.out.vz.below ha4)
    have HO4 := Lib.hid (HC.out.own.below ha4)
    have HB4 := Lib.hid (HC.out.bel.trans (ha4.mono HC.out.bel.size))
    have hqo : ∀ b, (Value.slice A2 s.row.length cp2).ownBlock = some b → b ≠ w3.heap.size := fun b e => by have := (World.ownsRow.lt HC.out.own b e).2; omega
    have hzq : z ≠ w3.heap.size := by obtain ⟨_, _, _, hl, _⟩ := HC.out.vz.cells; omega
    have hyq : x + 1 ≠ w3.heap.size := by obtain ⟨_, _, _, hl, _⟩ := HC.out.vy.cells; omega
    clear ha4
    generalize w3.alloc (.cells #[.int .i64 k, .string v, .bool true] 65) = w4 at hq HY4 HZ4 HO4 HB4 ⊢
    generalize w3.heap.size = q at hq hqo hzq hyq ⊢
    have HQO := Lib.hid (And.intro hq hqo)
    obtain ⟨c0, c1, c2, hzl, _⟩ := HZ4.out.cells
    have HFN := Lib.hid (find_any (.slice A2 s.row.length cp2) s.hand mo k s.row w4 (by omega) (HO4.out.base (Nat.zero_le _)))
    unfold refV at HFN
    clear hq hqo
    go_wp2_with fail
    ((with_reducible refine HFN.out.mono ?_); rintro _ w5 ⟨rfl, hb5⟩)
    have HY := Lib.hid (HY4.out.below hb5)
    have HZ := Lib.hid (HZ4.out.below hb5)
    have HOO := Lib.hid (HO4.out.below hb5)
    have HBB := Lib.hid (HB4.out.trans (hb5.mono HB4.out.size))
    have hq5 := (hb5.block q (Array.getElem?_eq_some_iff.1 HQO.out.1).1).trans HQO.out.1
    have q0 := cell_of_row w5 q 0 _ _ (0, 0) hq5
    have q1 := cell_of_row w5 q 1 _ _ (0, 0) hq5
    have q2 := cell_of_row w5 q 2 _ _ (0, 0) hq5
    have hql := (Array.getElem?_eq_some_iff.1 hq5).1
    simp only [List.getElem?_toArray, List.getElem?_cons_zero, List.getElem?_cons_succ] at q0 q1 q2
    clear hb5 c0 c1 c2 hzl HFN HY4 HZ4 HO4 HB4
    obtain ⟨c0, c1, c2, hzl, hzf⟩ := HZ.out.cells
    obtain ⟨y0, y1, y2, hyl, hyf⟩ := HY.out.cells
    have hx0 : w.heap.size ≤ x + 1 := by have := HC.out.eq; omega
    have hz0 : w.heap.size ≤ z := by have := HC.out.eq; have := HC.out.lt; omega
    have hyz : x + 1 ≠ z := by have := HC.out.lt; omega
    cases hk : kx (keys s.row) k with
    | some i =>
      have hi : i < s.row.length := by simpa [keys] using kx_lt hk
      obtain ⟨e, he⟩ : ∃ e, s.row[i]? = some e := ⟨_, List.getElem?_eq_getElem hi⟩
      have hps : putS s k v = { s with row := s.row.set i ⟨k, v, true⟩ } := by
        unfold putS
        rw [if_neg (by omega), hk]
      have HPS := Lib.hid hps
      rw [findZ_some hk]
      obtain ⟨g, cap, e1, hg1, hgl, d0, d1, d2, hfg⟩ := HOO.out.cells he
      obtain ⟨rfl, rfl⟩ : A2 = some ⟨g, 0, none⟩ ∧ cp2 = cap := by simpa using e1
      have hgz : g ≠ z := fun e => HC.out.ne (by simp [Value.ownBlock, e])
      have hgx : g ≠ x + 1 := by omega
      have hgq : g ≠ q := HQO.out.2 g rfl
      have hi' : (i : Int) < s.row.length := by omega
      clear hk he e1 hps
      go_wp2_with fail
      rw [HPS.out]
      refine bodyPost_ret (v := .agg #[.slice (some ⟨g, 0, none⟩) s.row.length cp2, .int .i64 s.hand, .int .i64 mo]) (by simp [results, Try.results21, go_sem, *]) rfl ⟨_, rfl, ?_, ?_, ?_⟩
      · have n1 : (Value.slice (some ⟨g, 0, none⟩) s.row.length cp2).ownBlock ≠ some (x + 1) := fun e => hgx (by simpa [Value.ownBlock] using e)
        exact ((((HOO.out.setE hi ⟨k, v, true⟩).other n1).other n1).other n1).base (Nat.zero_le _)
      · have hg0 : w.heap.size ≤ g := by omega
        exact (((((HBB.out.setCell hg0 _).setCell hg0 _).setCell hg0 _).setCell hx0 _).setCell hx0 _).setCell hx0 _
      · exact fun b e => .inr (by have e : g = b := by simpa [Value.ownBlock] using e
                                  omega)
    | none =>
      rw [findZ_none hk]
      by_cases hrm : s.row.length < s.most
      · have hps : putS s k v = { s with row := s.row ++ [⟨k, v, true⟩] } := by
          unfold putS
          rw [if_neg (by omega), hk]
          simp only
          rw [if_pos hrm]
        have HPS := Lib.hid hps
        have hrm' : (s.row.length : Int) < mo := by omega
        clear hk hps
        have hbx : Below w5.heap.size w5 (w5.alloc (.cells #[.int .i64 k, .string v, .bool true] 65)) := (Below.refl _ _).alloc (Nat.le_refl _) _
        have hone : OwnE (w5.alloc (.cells #[.int .i64 k, .string v, .bool true] 65)) 0 (.slice (some ⟨w5.heap.size, 0, none⟩) 1 1) [⟨k, v, true⟩] := ⟨rfl, .inr ⟨w5.heap.size, 1, _, rfl, Nat.zero_le _, heap_alloc_new _ _, Nat.le_refl _, (by unfold maxLen; omega), rfl, rfl⟩⟩
        go_wp2_with (at_builtin; refine wpList_app rfl _ _ rfl (xs := s.row) (ys := [⟨k, v, true⟩]) (B := x + 2) (v := .slice A2 s.row.length cp2) (r := .slice (some ⟨w5.heap.size, 0, none⟩) 1 1) rfl rfl (HOO.out.below hbx) hone (by simp; omega) (by simp; omega) ?_)
        intro r9 w9 ho9 hg9 hat9
        obtain ⟨A9, cp9, rfl⟩ := ho9.form
        have n0 : ∀ b, (Value.slice A2 s.row.length cp2).ownBlock = some b → x + 2 ≤ b := fun b e => (World.ownsRow.lt HOO.out b e).1
        have HY9 := Lib.hid (HY.out.grown hg9 (fun e => by have := n0 _ e; omega))
        have HZ9 := Lib.hid (HZ.out.grown hg9 HC.out.ne)
        have HB9 := Lib.hid (grown_bel hg9 HBB.out (fun b e => by have := n0 b e; omega))
        have hln : (s.row ++ [(⟨k, v, true⟩ : CE)]).length = s.row.length + 1 := by simp
        have hnz : ∀ b, (Value.slice A9 (s.row ++ [(⟨k, v, true⟩ : CE)]).length cp9).ownBlock = some b → b ≠ z ∧ b ≠ x + 1 := fun b e => by
          rcases hat9 with e9 | e9
          · rw [e] at e9
            exact ⟨fun h => HC.out.ne (by rw [← h]; exact e9.symm), fun h => by have := n0 b e9.symm; omega⟩
          · rw [e] at e9
            have : b = w5.heap.size + 1 := by simpa using e9
            exact ⟨by omega, by omega⟩
        rw [hln] at ho9 hnz
        rw [hln]
        have H9 := Lib.hid (And.intro ho9 hnz)
        clear c0 c1 c2 hzl hzf y0 y1 y2 hyl hyf q0 q1 q2 hql hq5 hbx hone hg9 hat9 ho9 hnz hln
        obtain ⟨c0, c1, c2, hzl, hzf⟩ := HZ9.out.cells
        obtain ⟨y0, y1, y2, hyl, hyf⟩ := HY9.out.cells
        go_wp2_with fail
        rw [HPS.out]
        refine bodyPost_ret (v := .agg #[.slice A9 (s.row.length + 1) cp9, .int .i64 s.hand, .int .i64 mo]) (by simp [results, Try.results21, go_sem, *]) rfl ⟨_, rfl, ?_, ?_, ?_⟩
        · have nz : (Value.slice A9 (s.row.length + 1) cp9).ownBlock ≠ some z := fun e => (H9.out.2 _ e).1 rfl
          have n1 : (Value.slice A9 (s.row.length + 1) cp9).ownBlock ≠ some (x + 1) := fun e => (H9.out.2 _ e).2 rfl
          exact ((((H9.out.1.other nz).other n1).other n1).other n1).base (Nat.zero_le _)
        · exact (((HB9.out.setCell hz0 _).setCell hx0 _).setCell hx0 _).setCell hx0 _
        · exact fun b e => .inr (by have := (World.ownsRow.lt H9.out.1 b e).1; omega)
      · have hpos : 0 < s.row.length := by omega
        have hh := ok_pos hok hpos
        have hps : putS s k v = { s with row := (victim s.row s.hand).1.set (victim s.row s.hand).2 ⟨k, v, true⟩, hand := ((victim s.row s.hand).2 + 1) % s.row.length } := by
          unfold putS
          rw [if_neg (by omega), hk]
          simp only
          rw [if_neg hrm]
        have HPS := Lib.hid hps
        have hrm' : ¬ ((s.row.length : Int) < mo) := by omega
        have HV := Lib.hid (refvict_any (.slice A2 s.row.length cp2) s.hand mo s.row w5 (by omega) hh (HOO.out.base (Nat.zero_le _)))
        unfold refV at HV
        clear hk hps
        go_wp2_with fail
        ((with_reducible refine HV.out.mono ?_); rintro _ w6 ⟨r6, rfl, ho6, hb6⟩)
        obtain ⟨_, hl6, _, hi6⟩ := victim_vd hh
        have hps := HPS.out
        generalize (victim s.row s.hand).1 = row6 at ho6 hl6 hps ⊢
        generalize (victim s.row s.hand).2 = i6 at hi6 hps ⊢
        obtain ⟨g, cap, rfl, hg1, hg2⟩ := World.ownsRow.form ho6 (by omega)
        have HY6 := Lib.hid (HY.out.below hb6)
        have HZ6 := Lib.hid (HZ.out.below hb6)
        have HB6 := Lib.hid (HBB.out.trans (hb6.mono HBB.out.size))
        have hq6 := (hb6.block q hql).trans hq5
        have H6 := Lib.hid (And.intro ho6 hps)
        have hgz : g ≠ z := by omega
        have hgx : g ≠ x + 1 := by omega
        have hgq : g ≠ q := by omega
        have hg0 : w.heap.size ≤ g := Nat.le_trans HBB.out.size hg1
        clear c0 c1 c2 hzl hzf y0 y1 y2 hyl hyf q0 q1 q2 hq5 hb6 HV HPS hps
        obtain ⟨c0, c1, c2, hzl, hzf⟩ := HZ6.out.cells
        obtain ⟨y0, y1, y2, hyl, hyf⟩ := HY6.out.cells
        have q0 := cell_of_row w6 q 0 _ _ (0, 0) hq6
        have q1 := cell_of_row w6 q 1 _ _ (0, 0) hq6
        have q2 := cell_of_row w6 q 2 _ _ (0, 0) hq6
        have hql6 := (Array.getElem?_eq_some_iff.1 hq6).1
        simp only [List.getElem?_toArray, List.getElem?_cons_zero, List.getElem?_cons_succ] at q0 q1 q2
        obtain ⟨e, he⟩ : ∃ e, row6[i6]? = some e := ⟨_, List.getElem?_eq_getElem (by omega)⟩
        obtain ⟨g', cap', e1, _, hgl, d0, d1, d2, hfg⟩ := H6.out.1.cells he
        obtain ⟨rfl, rfl⟩ : g = g' ∧ cap = cap' := by simp at e1; exact e1
        have hv : ((i6 : Int) + 1) % (s.row.length : Int) = (((i6 + 1) % s.row.length : Nat) : Int) := by rw [Int.natCast_emod, Int.natCast_add]; rfl
        have HVV := Lib.hid hv
        have hne : ¬ ((s.row.length : Int) = 0) := by omega
        have hi' : (i6 : Int) < s.row.length := by omega
        rw [hl6]
        have HE6 := Lib.hid he
        clear he e1 hv ho6 hg2
        go_upto_region 13 with fail
        have ngz : (Value.slice (some ⟨g, 0, none⟩) s.row.length cap).ownBlock ≠ some z := fun e => hgz (by simpa [Value.ownBlock] using e)
        have ngx : (Value.slice (some ⟨g, 0, none⟩) s.row.length cap).ownBlock ≠ some (x + 1) := fun e => hgx (by simpa [Value.ownBlock] using e)
        have NG := Lib.hid (And.intro ngz ngx)
        have hw7 : Hid (VarAt (((w6.setCell ⟨z, 0, none⟩ (.slice (some ⟨g, 0, none⟩) s.row.length cap)).setCell ⟨z, 1, none⟩ (.int .i64 i6)).setCell ⟨z, 2, none⟩ (.int .i64 mo)) z (.slice (some ⟨g, 0, none⟩) s.row.length cap) i6 mo ∧
            VarAt (((w6.setCell ⟨z, 0, none⟩ (.slice (some ⟨g, 0, none⟩) s.row.length cap)).setCell ⟨z, 1, none⟩ (.int .i64 i6)).setCell ⟨z, 2, none⟩ (.int .i64 mo)) (x + 1) (.slice none 0 0) 0 0 ∧
            OwnE (((w6.setCell ⟨z, 0, none⟩ (.slice (some ⟨g, 0, none⟩) s.row.length cap)).setCell ⟨z, 1, none⟩ (.int .i64 i6)).setCell ⟨z, 2, none⟩ (.int .i64 mo)) 0 (.slice (some ⟨g, 0, none⟩) row6.length cap) row6 ∧
            Below w.heap.size w (((w6.setCell ⟨z, 0, none⟩ (.slice (some ⟨g, 0, none⟩) s.row.length cap)).setCell ⟨z, 1, none⟩ (.int .i64 i6)).setCell ⟨z, 2, none⟩ (.int .i64 mo)) ∧
            (((w6.setCell ⟨z, 0, none⟩ (.slice (some ⟨g, 0, none⟩) s.row.length cap)).setCell ⟨z, 1, none⟩ (.int .i64 i6)).setCell ⟨z, 2, none⟩ (.int .i64 mo)).heap[q]? = some (.cells #[.int .i64 k, .string v, .bool true] 65 (0, 0))) := by
          refine Lib.hid ⟨?_, ((HY6.out.other hyz).other hyz).other hyz, ?_, ((HB6.out.setCell hz0 _).setCell hz0 _).setCell hz0 _, ?_⟩
          · have h1 := (HZ6.out.set0 (u := .slice (some ⟨g, 0, none⟩) s.row.length cap)).set1 (z := i6)
            have := heap_setCell_same _ z 2 _ _ (.int .i64 mo) h1
            exact this
          · exact (((H6.out.1.base (Nat.zero_le _)).other NG.out.1).other NG.out.1).other NG.out.1
          · exact (heap_setCell_other _ _ _ _ hzq.symm).trans ((heap_setCell_other _ _ _ _ hzq.symm).trans ((heap_setCell_other _ _ _ _ hzq.symm).trans hq6))
        clear ngz ngx c0 c1 c2 hzl hzf y0 y1 y2 hyl hyf q0 q1 q2 hql6 d0 d1 d2 hfg hgl hq6 HY6 HZ6 HB6
        generalize ((w6.setCell ⟨z, 0, none⟩ (.slice (some ⟨g, 0, none⟩) s.row.length cap)).setCell ⟨z, 1, none⟩ (.int .i64 i6)).setCell ⟨z, 2, none⟩ (.int .i64 mo) = w7 at hw7 ⊢
        obtain ⟨c0, c1, c2, hzl, hzf⟩ := hw7.out.1.cells
        have q0 := cell_of_row w7 q 0 _ _ (0, 0) hw7.out.2.2.2.2
        have q1 := cell_of_row w7 q 1 _ _ (0, 0) hw7.out.2.2.2.2
        have q2 := cell_of_row w7 q 2 _ _ (0, 0) hw7.out.2.2.2.2
        have hql7 := (Array.getElem?_eq_some_iff.1 hw7.out.2.2.2.2).1
        simp only [List.getElem?_toArray, List.getElem?_cons_zero, List.getElem?_cons_succ] at q0 q1 q2
        obtain ⟨g7, cap7, e7, _, hgl, d0, d1, d2, hfg⟩ := hw7.out.2.2.1.cells HE6.out
        obtain ⟨rfl, rfl⟩ : g = g7 ∧ cap = cap7 := by simp at e7; exact e7
        clear e7
        go_upto_region 14 with fail
        have hw8 : Hid (VarAt (Ck.setE w7 g i6 ⟨k, v, true⟩) z (.slice (some ⟨g, 0, none⟩) s.row.length cap) i6 mo ∧ VarAt (Ck.setE w7 g i6 ⟨k, v, true⟩) (x + 1) (.slice none 0 0) 0 0 ∧
            OwnE (Ck.setE w7 g i6 ⟨k, v, true⟩) 0 (.slice (some ⟨g, 0, none⟩) s.row.length cap) (row6.set i6 ⟨k, v, true⟩) ∧ Below w.heap.size w (Ck.setE w7 g i6 ⟨k, v, true⟩)) := by
          refine Lib.hid ⟨((hw7.out.1.other hgz.symm).other hgz.symm).other hgz.symm, ((hw7.out.2.1.other hgx.symm).other hgx.symm).other hgx.symm, ?_, ((hw7.out.2.2.2.1.setCell (by show _ ≤ g; omega) _).setCell (by show _ ≤ g; omega) _).setCell (by show _ ≤ g; omega) _⟩
          have := hw7.out.2.2.1.setE (by omega : i6 < row6.length) ⟨k, v, true⟩
          rw [hl6] at this
          exact this
        unfold Ck.setE at hw8
        clear c0 c1 c2 hzl hzf q0 q1 q2 hql7 d0 d1 d2 hfg hgl
        simp only at hw8
        generalize ((w7.setCell ⟨g, i6 * 3, none⟩ (.int .i64 k)).setCell ⟨g, i6 * 3 + 1, none⟩ (.string v)).setCell ⟨g, i6 * 3 + 2, none⟩ (.bool true) = w8 at hw8 ⊢
        obtain ⟨c0, c1, c2, hzl, hzf⟩ := hw8.out.1.cells
        obtain ⟨y0, y1, y2, hyl, hyf⟩ := hw8.out.2.1.cells
        go_upto_region 15 with fail
        rw [HVV.out]
        have hw9 : Hid (VarAt (w8.setCell ⟨z, 1, none⟩ (.int .i64 ((i6 + 1) % s.row.length : Nat))) z (.slice (some ⟨g, 0, none⟩) s.row.length cap) ((i6 + 1) % s.row.length : Nat) mo ∧ VarAt (w8.setCell ⟨z, 1, none⟩ (.int .i64 ((i6 + 1) % s.row.length : Nat))) (x + 1) (.slice none 0 0) 0 0 ∧
            OwnE (w8.setCell ⟨z, 1, none⟩ (.int .i64 ((i6 + 1) % s.row.length : Nat))) 0 (.slice (some ⟨g, 0, none⟩) s.row.length cap) (row6.set i6 ⟨k, v, true⟩) ∧ Below w.heap.size w (w8.setCell ⟨z, 1, none⟩ (.int .i64 ((i6 + 1) % s.row.length : Nat)))) :=
          Lib.hid ⟨hw8.out.1.set1, hw8.out.2.1.other hyz, hw8.out.2.2.1.other NG.out.1, hw8.out.2.2.2.setCell hz0 _⟩
        clear c0 c1 c2 hzl hzf y0 y1 y2 hyl hyf
        generalize w8.setCell ⟨z, 1, none⟩ (.int .i64 ((i6 + 1) % s.row.length : Nat)) = w9 at hw9 ⊢
        have HP := Lib.hid H6.out.2
        generalize (i6 + 1) % s.row.length = i9 at hw9 HP ⊢
        obtain ⟨c0, c1, c2, hzl, hzf⟩ := hw9.out.1.cells
        obtain ⟨y0, y1, y2, hyl, hyf⟩ := hw9.out.2.1.cells
        go_wp2_with fail
        rw [HP.out]
        refine bodyPost_ret (v := .agg #[.slice (some ⟨g, 0, none⟩) s.row.length cap, .int .i64 i9, .int .i64 mo]) (by simp [results, Try.results21, go_sem, *]) rfl ⟨_, rfl, ?_, ?_, ?_⟩
        · exact ((hw9.out.2.2.1.other NG.out.2).other NG.out.2).other NG.out.2
        · exact ((hw9.out.2.2.2.setCell hx0 _).setCell hx0 _).setCell hx0 _
        · exact fun b e => .inr (by have e : g = b := by simpa [Value.ownBlock] using e
                                    omega)
end Go.Proofs.Ytohjhbhbpflokaa.Ck
