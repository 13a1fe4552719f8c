/- Layer 23's laws: WalkPieces. */ -/
import Derived.Test.YtkcocdpmangcgaaMgP
import Derived.Test.YtkcocdpmangcgaaMgD
namespace Go.Proofs.Ytkcocdpmangcgaa.Wk
set_option linter.unusedSimpArgs false
set_option linter.unusedVariables false
open Go Go.RowKit Go.Proofs.Ytkcocdpmangcgaa.Rp
open Go.Proofs.Ytkcocdpmangcgaa.Ar (T Is Ext WF Knot getK getB getS Arena resAr small leafK T.cnt T.cnt_pos Pc pcells pieces Owns LeavesP stOwn pieces_len)
open Go.Proofs.Ytkcocdpmangcgaa.Buf (sliceV)
attribute [local go_sem] lt_add1 lt_self1 size_ne size_ne' size_ne1 size_ne1'
attribute [local irreducible] wpGrow wpThr wpSto

def txtP (S : ByteArray) (l : List Pc) : List UInt8 := l.flatMap fun p => cutS S p.1 p.2
theorem txtP_pieces (S : ByteArray) (X : T) : txtP S (pieces X) = txt S X := by
  unfold txtP pieces txt
  generalize X.lv = l
  induction l with
  | nil => rfl
  | cons p l ih => simp only [List.map_cons, List.flatMap_cons, ih, txtL]
theorem txtP_take (S : ByteArray) (l : List Pc) {k : Nat} (hk : k < l.length) : txtP S (l.take (k + 1)) = txtP S (l.take k) ++ cutS S (l.getD k (0, 0)).1 (l.getD k (0, 0)).2 := by
  unfold txtP
  rw [List.take_succ_eq_append_getElem hk, List.flatMap_append]
  congr 1
  simp [List.getD, hk]
theorem txtP_le (S : ByteArray) (l : List Pc) (k : Nat) : (txtP S (l.take k)).length ≤ (txtP S l).length := by
  have h : txtP S l = txtP S (l.take k) ++ txtP S (l.drop k) := by
    unfold txtP
    rw [← List.flatMap_append, List.take_append_drop]
  rw [h, List.length_append]
  omega
theorem pieces_good {S : ByteArray} {X : T} (h : Rp.Good S X) {k : Nat} (hk : k < (pieces X).length) : 0 ≤ ((pieces X).getD k (0, 0)).1 ∧ 1 ≤ ((pieces X).getD k (0, 0)).2 ∧ ((pieces X).getD k (0, 0)).1 + ((pieces X).getD k (0, 0)).2 ≤ S.size := by
  rw [pieces_len] at hk
  have hm := h (X.lv[k]) (List.getElem_mem hk)
  have e : (pieces X).getD k (0, 0) = (X.lv[k].1, X.lv[k].2.1) := by
    unfold pieces
    simp [List.getD, hk]
  rw [e]
  exact ⟨hm.1, hm.2.1, hm.2.2.1⟩

set_option maxRecDepth 100000 in
set_option maxHeartbeats 4000000 in
theorem pieces_walk (l : List Dd) (A : Option Addr) (cap : Nat) (w : World) (hs : ddAt w A l) (hl : ∀ d ∈ l, d.text.size ≤ 2 ^ 63 - 1) :
    Calls Try.prog 10 #[.slice A l.length cap] w fun e w' => e = .returned (.bool true) ∧ Below w.heap.size w w' := by
  have HS := Lib.hid hs
  clear hs
  go_enter Try.func10, Try.ntmps10
  go_wp2_with fail
  ((with_reducible refine (awake23 _).mono ?_); rintro e w1 ⟨rfl, hb1⟩)
  have HBL := Lib.hid (build_any l A cap w1 ((HS.out.below hb1).more hb1.size) hl)
  have H1 := Lib.hid hb1
  clear hb1 HS
  go_wp2_with fail
  ((with_reducible refine HBL.out.mono ?_); rintro e W ⟨v, rfl, ⟨b, gs, gb, ga, rb, rf, q, Tv, Lv, s, rfl, hB, hI⟩⟩)
  have HB := Lib.hid (And.intro (H1.out.trans (hB.bl.mono H1.out.size)) (And.intro hB hI))
  clear hB hI HBL H1
  obtain ⟨At, ct, hTv, hT⟩ := HB.out.2.1.sn
  obtain ⟨Al, cl, hLv, hL⟩ := HB.out.2.1.sl
  have hc := HB.out.2.1.c
  rw [hTv, hLv] at hc
  have c0 := Bw.cell HB.out.2.1.lt hc.1
  have c1 := Bw.cell HB.out.2.1.lt hc.2.1
  have c2 := Bw.cell HB.out.2.1.lt hc.2.2
  have hltb := Bw.lt HB.out.2.1.lt
  have hlen := HB.out.2.2.len
  have hn41 := HB.out.2.2.le
  have hn1 := HB.out.2.2.pos
  obtain ⟨tb, toff, rfl, htl, htc⟩ := hT (by omega)
  obtain ⟨lb, loff, rfl, hll, hlc⟩ := hL (by omega)
  have dl1 := Bw.lt htl
  have dl2 := Bw.lt hll
  have HT := Lib.hid (And.intro (fun k hk => Bw.cell htl (htc k hk)) (fun k hk => Bw.cell hll (hlc k hk)))
  have HLEN := Lib.hid hlen
  rw [← hlen] at c2
  have hks := HB.out.2.2.ks_small (by omega)
  have hS := HB.out.2.2.S_small (by omega)
  clear hTv hLv hT hL hc hlen htc hlc htl hll
  obtain ⟨n, hn⟩ : ∃ n, n = s.Ts.length := ⟨_, rfl⟩
  rw [← hn] at c1 c2 hn41 hn1
  have HN := Lib.hid hn
  clear hn
  have hnn : (n : Int) ≤ 41 := by omega
  go_wp2_with fail
  go_loopw [4] (fun i wr => ∃ k : Nat, i = .int .i64 k ∧ k ≤ n ∧ Below W.heap.size W wr) (fun i _ => n - (intOf i).toNat)
  case atStart => exact ⟨0, rfl, by omega, Below.refl _ _⟩
  case round =>
    obtain ⟨k, rfl, hk, hbr⟩ := hrel
    have e0 : wr.cell? ⟨b, 0, none⟩ = _ := c0 ⟨wr, hbr⟩
    have e1 : wr.cell? ⟨b, 1, none⟩ = _ := c1 ⟨wr, hbr⟩
    have eb : b < wr.heap.size := hltb ⟨wr, hbr⟩
    have HBR := Lib.hid hbr
    clear hbr
    by_cases hkn : k < n
    · have hkn' : (k : Int) < n := by omega
      obtain ⟨X, hX⟩ := HB.out.2.2.ri (k := k) (by rw [← HN.out]; exact hkn) W b gs gb ga rb rf q
      have HX := Lib.hid hX
      have dk1 := HT.out.1 k (by rw [← HN.out]; exact hkn)
      have dk2 := HT.out.2 k (by rw [← HLEN.out, ← HN.out]; exact hkn)
      have hXb := T.bounds (hX.is_.ok HB.out.2.2.wf)
      have hXle := hX.le
      have HPC := Lib.hid (fun w' (hb : Below W.heap.size W w') => rpieces_any gs gb ga rb rf q s.S s.ks HB.out.2.2.wf hks _ X (s.Ts.getD k 0) (Nat.le_refl _) hX.is_ (by omega) w' (HB.out.2.1.below hb).st)
      have hkk := fun w' (hb : Below W.heap.size W w') => rknot_any gs gb ga rb rf q s.S s.ks w' (s.Ts.getD k 0) (HB.out.2.1.below hb).st hks
      have hlv : (getK s.ks (s.Ts.getD k 0)).leaves = ((pieces X).length : Int) := by rw [hX.is_.knot.2.2.1, T.many_lv, pieces_len]
      unfold Knot.val at hkk
      have HPG := Lib.hid (fun j hj => pieces_good hX.good (k := j) hj)
      have HTX := Lib.hid (show txtP s.S (pieces X) = (s.Ls.getD k ⟨#[]⟩).data.toList by rw [txtP_pieces]; exact hX.txt)
      have hpn : (pieces X).length ≤ 1000 := by rw [pieces_len]; have := T.many_lv X; omega
      have htn : (s.Ls.getD k ⟨#[]⟩).size ≤ 800 := by have := hX.size; omega
      have HKK := Lib.hid hkk
      clear hX hkk hXb hXle
      generalize s.Ts.getD k 0 = t at dk1 HPC HKK hlv
      generalize getK s.ks t = kn at HKK hlv
      generalize s.Ls.getD k ⟨#[]⟩ = y at dk2 HTX htn
      generalize pieces X = pl at HPC HPG HTX hlv hpn
      have HLV := Lib.hid hlv
      clear hlv
      go_wp2_with fail
      have HR : Hid (∀ s' bs w', (resCls resAny wr (fun _ => False)).In s' bs w' → w'.cell? ⟨b, 0, none⟩ = some (.pointer (some ⟨gs, 0, none⟩)) ∧ w'.cell? ⟨b, 1, none⟩ = some (.slice (some ⟨tb, toff, none⟩) n ct) ∧ w'.cell? ⟨tb, toff + k, none⟩ = some (.int .i64 t)) := Lib.hid (fun s' bs w' hw' => by
        have hb' := HBR.out.trans ((resCls_below (fun _ h => h) hw').mono HBR.out.size)
        exact ⟨c0 ⟨w', hb'⟩, c1 ⟨w', hb'⟩, dk1 ⟨w', hb'⟩⟩)
      refine wp_region_thr (resCls resAny wr (fun _ => False)) (PSt.of (fun _ => True) (fun _ _ => trivial)) 13 [0, 1, 2, 3, 4, 5, 6, 7, 8, 9, 10, 11, 12] _ (by kernel_rfl) (by kernel_rfl) (by kernel_rfl) rfl (resCls_start (R := resAny) (s := PSt.of (fun _ => True) (fun _ _ => trivial)) ⟨fun b h => h, trivial⟩) ?_
      (simp only [List.filterMap_cons, List.filterMap_nil, List.getElem?_cons_zero, List.getElem?_cons_succ, List.drop_succ_cons, List.drop_zero, List.drop_nil])
      iterate 11 ((refine wpThr_val rfl rfl rfl ?_; apply Exists.intro; refine ⟨fun s1 bs1 w1 hb1 hw1 => ?_, ?_⟩); (have hc1 := HR.out s1 bs1 w1 hw1; go_simp; exact growUpon_ok rfl); (refine wpThr_at (by (simp only [Act.put, List.setIfInBounds_toArray, List.set_cons_succ, List.set_cons_zero]) <;> exact rfl) ?_))
      refine wpThr_call (fun v s' => s' = stOwn wr.heap.size v pl) rfl rfl rfl ?_ ?_
      · intro bs1 w1 hb1 hw1
        go_simp
        refine resCls_run hw1 fun F ha hf => ?_
        have hbel : Below wr.heap.size wr w1 := resCls_below (fun _ h => h) hw1
        refine (HPC.out w1 (HBR.out.trans (hbel.mono HBR.out.size))).mono fun e w' ⟨v, he, ho, hb'⟩ => ⟨v, _, fun b => v.ownBlock = some b, he, rfl, ⟨fun b => Iff.rfl, ho.base hbel.size⟩, hb'.os, hb'.tape, hb'.output, hb'.size, fun b hb _ => hb'.block b hb, fun b h => .inr (ho.lt h).1⟩
      rintro v2 s2 rfl
      (refine wpThr_at (by (simp only [Act.put, List.setIfInBounds_toArray, List.set_cons_succ, List.set_cons_zero]) <;> exact rfl) ?_)
      ((refine wpThr_val rfl rfl rfl ?_; apply Exists.intro; refine ⟨fun s1 bs1 w1 hb1 hw1 => ?_, ?_⟩); (have hc1 := HR.out s1 bs1 w1 hw1; go_simp; exact growUpon_ok rfl); (refine wpThr_at (by (simp only [Act.put, List.setIfInBounds_toArray, List.set_cons_succ, List.set_cons_zero]) <;> exact rfl) ?_))
      refine wpThr_nil ?_
      intro w5 hw5
      have hbel := resCls_below (fun _ h => h) hw5
      obtain ⟨F5, ⟨_, ho5⟩, _, _⟩ := hw5
      obtain ⟨A5, c5, rfl, _, hsl⟩ := SlAt.of_own ho5
      have H5 := Lib.hid (And.intro (HBR.out.trans (hbel.mono HBR.out.size)) hsl)
      clear ho5 hbel HR hsl e0 e1 eb
      go_wp2_with fail
      have hpn' : (pl.length : Int) ≤ 1000 := by omega
      go_loopw [6, 7] (fun z i wx => ∃ (j : Nat) (x : ByteArray), z = .string x ∧ i = .int .i64 j ∧ j ≤ pl.length ∧ Hid (x.data.toList = txtP s.S (pl.take j)) ∧ Below w5.heap.size w5 wx) (fun _ i _ => pl.length - (intOf i).toNat)
      case atStart => exact ⟨0, ⟨#[]⟩, rfl, rfl, Nat.zero_le _, Lib.hid rfl, Below.refl _ _⟩
      case round =>
        obtain ⟨j, x, rfl, rfl, hj, HXJ, hbx⟩ := hrel
        have HBX := Lib.hid hbx
        clear hbx
        by_cases hjn : j < pl.length
        · have hjn' : (j : Int) < pl.length := by omega
          obtain ⟨pb, poff, rfl, hpl, hpc⟩ := H5.out.2 (by omega)
          have p0 : w5.cell? ⟨pb, poff + (j * 2 + 0), none⟩ = some ((pl.flatMap pcells).getD (j * 2 + 0) undef) := hpc j 0 hjn (by omega)
          have p1 : w5.cell? ⟨pb, poff + (j * 2 + 1), none⟩ = some ((pl.flatMap pcells).getD (j * 2 + 1) undef) := hpc j 1 hjn (by omega)
          rw [rows_getD pcells (0, 0) Ar.pcells_length pl j 0 hjn (by omega)] at p0
          rw [rows_getD pcells (0, 0) Ar.pcells_length pl j 1 hjn (by omega)] at p1
          obtain ⟨g1, g2, g3⟩ := HPG.out j hjn
          have hnext := txtP_take s.S pl hjn
          have hle := txtP_le s.S pl (j + 1)
          have hlx := txtP_le s.S pl j
          rw [HTX.out] at hle hlx
          rw [← HXJ.out] at hlx hnext
          have ey : y.data.toList.length = y.size := rfl
          have ex : x.data.toList.length = x.size := rfl
          have hxs : x.size ≤ 800 := by omega
          generalize pl.getD j (0, 0) = pp at p0 p1 g1 g2 g3 hnext
          obtain ⟨o, m⟩ := pp
          simp only at g1 g2 g3 hnext
          have q0 := Bw.cell hpl p0
          have q1 := Bw.cell hpl p1
          have ql := Bw.lt hpl
          simp only [pcells, List.getD_cons_zero, List.getD_cons_succ, Nat.add_zero, ← Nat.add_assoc] at q0 q1
          have HSL := Lib.hid (fun w' (hb : Below w5.heap.size w5 w') => rbytes_any gs gb ga rb rf q s.S s.ks w' o m (HB.out.2.1.below (H5.out.1.trans (hb.mono H5.out.1.size))).st hS)
          have hsl := sliceV_cut (S := s.S) (o := o) (n := m) g1 (by omega) g3
          have hslz : (sliceV s.S o m).size ≤ 800 := by
            have e : (sliceV s.S o m).data.toList.length = (sliceV s.S o m).size := rfl
            have e2 := congrArg List.length hnext
            rw [List.length_append, ← hsl] at e2
            omega
          have HNX : Hid ((x ++ sliceV s.S o m).data.toList = txtP s.S (pl.take (j + 1))) := Lib.hid (by rw [hnext, ByteArray.data_append, Array.toList_append, hsl])
          clear hnext hle hlx ey ex p0 p1 hpl hpc hsl g1 g3
          generalize sliceV s.S o m = u at HSL hslz HNX
          have f0 : wr.cell? ⟨pb, poff + j * 2, none⟩ = _ := q0 ⟨wr, HBX.out⟩
          have f1 : wr.cell? ⟨pb, poff + j * 2 + 1, none⟩ = _ := q1 ⟨wr, HBX.out⟩
          have fl : pb < wr.heap.size := ql ⟨wr, HBX.out⟩
          have hm1 : ¬ m < 1 := by omega
          have b0 : ∀ x : Bw w5, x.w.cell? ⟨b, 0, none⟩ = some (.pointer (some ⟨gs, 0, none⟩)) := fun x => c0 ⟨x.w, H5.out.1.trans (x.h.mono H5.out.1.size)⟩
          have bl : ∀ x : Bw w5, b < x.w.heap.size := fun x => hltb ⟨x.w, H5.out.1.trans (x.h.mono H5.out.1.size)⟩
          go_wp2_with fail
          clear f0 f1 fl
          refine wp_region_wd (fun w' => Below w5.heap.size w5 w') (by kernel_rfl) (by kernel_rfl) HBX.out.drew ?_
          repeat (go_big_quiet_step (with_reducible exact Bw.call (HSL.out _ (Wd.h _))))
          refine wpQuiet_nil (wd_all ?_)
          intro w6 hb6
          have HB6 := Lib.hid hb6
          clear hb6
          go_wp2_with fail
          go_roundw
          case rel => exact ⟨j + 1, x ++ u, rfl, by go_num, by omega, HNX, HB6.out⟩
          case measure => simp [intOf]; omega
        · obtain rfl : j = pl.length := by omega
          have hjn' : ¬ ((pl.length : Int) < pl.length) := by omega
          have hxy : x = y := by
            refine Buf.bytes_ext ?_
            rw [HXJ.out, List.take_of_length_le (Nat.le_refl _), HTX.out]
          subst hxy
          have hxn := htn
          go_wp2_with fail
          have hW5 := Lib.hid (H5.out.1.trans (HBX.out.mono H5.out.1.size))
          have r0 : wr.cell? ⟨b, 0, none⟩ = _ := c0 ⟨wr, hW5.out⟩
          have r1 : wr.cell? ⟨b, 1, none⟩ = _ := c1 ⟨wr, hW5.out⟩
          have r2 : wr.cell? ⟨b, 2, none⟩ = _ := c2 ⟨wr, hW5.out⟩
          have rt : wr.cell? ⟨tb, toff + k, none⟩ = _ := dk1 ⟨wr, hW5.out⟩
          have rl : wr.cell? ⟨lb, loff + k, none⟩ = _ := dk2 ⟨wr, hW5.out⟩
          have rb' : b < wr.heap.size := hltb ⟨wr, hW5.out⟩
          have rtl : tb < wr.heap.size := dl1 ⟨wr, hW5.out⟩
          have rll : lb < wr.heap.size := dl2 ⟨wr, hW5.out⟩
          refine wp_region_sto (by kernel_rfl) (by kernel_rfl) ?_
          iterate 11 ((refine wpSto_quiet rfl rfl rfl ?_; apply Exists.intro; refine ⟨fun w1 hw1 => ?_, ?_⟩); (have hc1 := below_cells hw1; go_simp; exact growUpon_ok rfl); (refine wpSto_at (by (simp only [Act.put, List.setIfInBounds_toArray, List.set_cons_succ, List.set_cons_zero]) <;> exact rfl) ?_))
          (refine wpSto_quiet rfl rfl rfl ?_; apply Exists.intro; refine ⟨fun w1 hw1 => ?_, ?_⟩)
          · go_simp
            exact growUpon_call (HKK.out _ (hW5.out.trans (hw1.mono hW5.out.size)))
          (refine wpSto_at (by (simp only [Act.put, List.setIfInBounds_toArray, List.set_cons_succ, List.set_cons_zero]) <;> exact rfl) ?_)
          iterate 3 ((refine wpSto_quiet rfl rfl rfl ?_; apply Exists.intro; refine ⟨fun w1 hw1 => ?_, ?_⟩); (have hc1 := below_cells hw1; go_simp; exact growUpon_ok rfl); (refine wpSto_at (by (simp only [Act.put, List.setIfInBounds_toArray, List.set_cons_succ, List.set_cons_zero]) <;> exact rfl) ?_))
          refine Ar.wpSto_makeK rfl rfl (fun bk hbk hfr => ?_)
          (refine wpSto_at (by (simp only [Act.put, List.setIfInBounds_toArray, List.set_cons_succ, List.set_cons_zero]) <;> exact rfl) ?_)
          refine Ar.wpSto_storeK rfl rfl rfl rfl List.mem_cons_self ?_
          (refine wpSto_at (by (simp only [Act.put, List.setIfInBounds_toArray, List.set_cons_succ, List.set_cons_zero]) <;> exact rfl) ?_)
          ((refine wpSto_quiet rfl rfl rfl ?_; apply Exists.intro; refine ⟨fun w1 hw1 => ?_, ?_⟩); (have hc1 := below_cells hw1; go_simp; exact growUpon_ok rfl); (refine wpSto_at (by (simp only [Act.put, List.setIfInBounds_toArray, List.set_cons_succ, List.set_cons_zero]) <;> exact rfl) ?_))
          refine wpSto_nil ?_
          intro w7 hD
          have hkb := (hD.at_ (bk, .cells #[.int .i64 kn.left, .int .i64 kn.right, .int .i64 kn.off, .int .i64 kn.len, .int .i64 kn.high, .int .i64 kn.leaves, .int .i64 kn.feeds] 66 (0, 0)) (by simp [updB])).2
          simp only at hkb
          have t5 := cell_of_row w7 bk 5 _ _ (0, 0) hkb
          have tl := (Array.getElem?_eq_some_iff.1 hkb).1
          have u2 : w7.cell? ⟨b, 2, none⟩ = _ := c2 ⟨w7, hW5.out.trans (hD.below.mono hW5.out.size)⟩
          have ul : w7.cell? ⟨lb, loff + k, none⟩ = _ := dk2 ⟨w7, hW5.out.trans (hD.below.mono hW5.out.size)⟩
          have ub : b < w7.heap.size := hltb ⟨w7, hW5.out.trans (hD.below.mono hW5.out.size)⟩
          have ull : lb < w7.heap.size := dl2 ⟨w7, hW5.out.trans (hD.below.mono hW5.out.size)⟩
          have H7 := Lib.hid (hW5.out.trans (hD.below.mono hW5.out.size))
          simp only [List.getElem?_toArray, List.getElem?_cons_zero, List.getElem?_cons_succ, HLV.out] at t5
          clear hD hkb r0 r1 r2 rt rl rb' rtl rll
          go_wp2_with fail
          go_roundw
          case rel => exact ⟨k + 1, by go_num, by omega, H7.out⟩
          case measure => simp [intOf]; omega
    · have hkn' : ¬ ((k : Int) < n) := by omega
      have HP1 := Lib.hid (fun w' (hb : Below W.heap.size W w') => rpieces_none gs gb ga rb rf q s.S s.ks (-1) (by simp only [getB, getS]; rw [if_neg (by omega)]) w' (HB.out.2.1.below hb).st hks)
      have HP2 := Lib.hid (fun w' => rpieces_nil 1 w')
      go_wp2_with fail
      ((with_reducible refine (HP1.out _ HBR.out).mono ?_); rintro e w4 ⟨rfl, hb4⟩)
      have H4 := Lib.hid (HBR.out.trans (hb4.mono HBR.out.size))
      clear hb4
      go_wp2_with fail
      ((with_reducible refine (HP2.out _).mono ?_); rintro e w5 ⟨rfl, hb5⟩)
      have H5 := Lib.hid (H4.out.trans (hb5.mono H4.out.size))
      clear hb5
      go_wp2
      go_ret
      exact ⟨rfl, HB.out.1.trans (H5.out.mono HB.out.1.size)⟩
end Go.Proofs.Ytkcocdpmangcgaa.Wk
