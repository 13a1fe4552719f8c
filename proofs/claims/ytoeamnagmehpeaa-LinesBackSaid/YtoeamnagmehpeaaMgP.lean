/- Layer 26's laws: KeepTexts. */ -/
import Derived.Test.YtoeamnagmehpeaaMgO
import Derived.Test.YtoeamnagmehpeaaMgM
import Derived.Test.YtoeamnagmehpeaaMgD
namespace Go.Proofs.Ytoeamnagmehpeaa.Kp
set_option linter.unusedSimpArgs false
set_option linter.unusedVariables false
open Go Go.RowKit Go.Proofs.Ytoeamnagmehpeaa.Rp Go.Proofs.Ytoeamnagmehpeaa.Wk
open Go.Proofs.Ytoeamnagmehpeaa.Ar (T Is Ext WF Knot getK getB getS Arena resAr small leafK pairK)
attribute [local go_sem] lt_add1 lt_self1 size_ne size_ne' size_ne1 size_ne1'
attribute [local irreducible] wpGrow wpThr wpThx wpSto

theorem places_len (n : Nat) (l : List Int) : (places n l).length ≤ 8 := by unfold places; rw [List.length_map, List.length_take]; omega
theorem rootsL_len (Ts l : List Int) : (rootsL Ts l).length = (places Ts.length l).length := by unfold rootsL; rw [List.length_map]
theorem roots_at {s : Bst} (hI : Inv s 40) (pick : List Int) {j : Nat} (hj : j < (places s.Ts.length pick).length) : ∃ k : Nat, k < s.Ts.length ∧ (places s.Ts.length pick).getD j 0 = k ∧ (rootsL s.Ts pick).getD j 0 = s.Ts.getD k 0 := by
  have hm : (places s.Ts.length pick).getD j 0 ∈ places s.Ts.length pick := by simp [List.getD, hj]
  obtain ⟨p, _, hp⟩ := List.mem_map.1 (show (places s.Ts.length pick).getD j 0 ∈ (pick.take 8).map (place s.Ts.length) from hm)
  have hr := place_range (n := s.Ts.length) p hI.pos
  rw [hp] at hr
  refine ⟨((places s.Ts.length pick).getD j 0).toNat, by omega, by omega, ?_⟩
  unfold rootsL
  simp [List.getD, hj]
theorem roots_ok {s : Bst} (hI : Inv s 40) (pick : List Int) : ∀ t ∈ rootsL s.Ts pick, ∃ X, Is s.ks t X ∧ Rp.Good s.S X ∧ X.size ≤ 900 := by
  intro t ht
  obtain ⟨j, hj, rfl⟩ := idx ht
  rw [rootsL_len] at hj
  obtain ⟨k, k1, k2, k3⟩ := roots_at hI pick hj
  obtain ⟨X, h1, h2, h3, h4, h5⟩ := hI.ropes k k1
  exact ⟨X, by rw [k3]; exact h1, h2, by omega⟩
/-- what the law asks of one root. -/
structure KT (s : Bst) (pick : List Int) (sm : Vs Sst) (j k : Nat) (X Y : T) : Prop where
  lt : k < s.Ts.length
  place : (places s.Ts.length pick).getD j 0 = k
  root : (rootsL s.Ts pick).getD j 0 = s.Ts.getD k 0
  is_ : Is s.ks (s.Ts.getD k 0) X
  good : Rp.Good s.S X
  bal : X.bal
  txt : Rp.txt s.S X = (s.Ls.getD k ⟨#[]⟩).data.toList
  size : X.size = (s.Ls.getD k ⟨#[]⟩).size
  le : X.size ≤ 800
  new : ((rootsL s.Ts pick).map (gM sm)).getD j 0 = gM sm (s.Ts.getD k 0)
  isN : Is sm.2.2 (gM sm (s.Ts.getD k 0)) Y
  like : Like s.S sm.2.1 X Y
theorem kt_at {s : Bst} (hI : Inv s 40) {pick : List Int} {done : List Int} {sm : Vs Sst} (hk : Kept s.S s.ks (rootsL s.Ts pick) done sm) {j : Nat} (hj : j < (places s.Ts.length pick).length) : ∃ k X Y, KT s pick sm j k X Y := by
  obtain ⟨k, k1, k2, k3⟩ := roots_at hI pick hj
  obtain ⟨X, h1, h2, h3, h4, h5⟩ := hI.ropes k k1
  have hj' : j < (rootsL s.Ts pick).length := by rw [rootsL_len]; exact hj
  have hm : s.Ts.getD k 0 ∈ rootsL s.Ts pick := by rw [← k3]; simp [List.getD, hj']
  obtain ⟨Y, y1, y2⟩ := hk.rope hm h1
  have := txt_length h2
  rw [h4] at this
  refine ⟨k, X, Y, k1, k2, k3, h1, h2, h3, h4, this.symm, by omega, ?_, y1, y2⟩
  rw [← k3]
  simp [List.getD, hj']

set_option maxRecDepth 100000 in
set_option maxHeartbeats 4000000 in
theorem keepT_walk (l : List Dd) (pick : List Int) (A : Option Addr) (cap : Nat) (A2 : Option Addr) (cap2 : Nat) (w : World) (hs : ddAt w A l) (hl : ∀ d ∈ l, d.text.size ≤ 2 ^ 63 - 1) (hp : SlN w (.slice A2 pick.length cap2) pick) (hpk : pick.length ≤ 9223372036854775807) :
    Calls Try.prog 4 #[.slice A l.length cap, .slice A2 pick.length cap2] w fun e w' => e = .returned (.bool true) ∧ Below w.heap.size w w' := by
  have HS := Lib.hid (And.intro hs hp)
  clear hs hp
  go_enter Try.func4, Try.ntmps4
  go_wp2_with fail
  ((with_reducible refine (awake26 _).mono ?_); rintro e w1 ⟨rfl, hb1⟩)
  have HBL := Lib.hid (build_any l A cap w1 ((HS.out.1.below hb1).more hb1.size) hl)
  have H1 := Lib.hid (And.intro hb1 (SlN.below HS.out.2 hb1))
  clear hb1 HS
  go_wp2_with fail
  ((with_reducible refine HBL.out.mono ?_); rintro e W ⟨v, rfl, ⟨b, gs, gb, ga, rb, rf, q, Tv, Lv, s, rfl, hB, hI⟩⟩)
  have HRO := Lib.hid (roots_any W b _ _ _ _ s.Ts pick hB.blk hB.sn (by have := hI.le; omega) hI.pos (SlN.below H1.out.2 hB.bl) hpk)
  have HB := Lib.hid (And.intro (H1.out.1.trans (hB.bl.mono H1.out.1.size)) (And.intro hB hI))
  clear hB hI HBL H1
  go_wp2_with fail
  ((with_reducible refine HRO.out.mono ?_); rintro e W1 ⟨v1, v2, rfl, ho1, ho2, hne, hb1⟩)
  have hB1 := HB.out.2.1.below hb1
  have hI := HB.out.2.2
  have hks : s.ks.length ≤ 840000 := by have := hI.kn; omega
  have hS := hI.S_small (by omega)
  have hR8 : (rootsL s.Ts pick).length ≤ 100 := by rw [rootsL_len]; have := places_len s.Ts.length pick; omega
  have HP := Lib.hid (OwnI.sn ho1)
  have HR := Lib.hid (OwnI.sn ho2)
  have HKN := Lib.hid (rknots_any gs gb ga rb rf q s.S s.ks W1 hB1.st)
  have HCO := Lib.hid (compact_any gs gb ga rb rf q s.S s.ks W1 v2 (rootsL s.Ts pick) hB1.st hI.wf hks hS HR.out (roots_ok hI pick) hR8)
  have HND := Lib.hid (fun w' (hb : Below W1.heap.size W1 w') => needed_any gs gb ga rb rf q s.S s.ks w' v2 (rootsL s.Ts pick) (hB1.st.below hb) hI.wf hks (SlN.below HR.out hb) (fun t ht => by obtain ⟨X, h, _⟩ := roots_ok hI pick t ht; exact ⟨X, h⟩) (by omega))
  have HB1 := Lib.hid (And.intro (HB.out.1.trans (hb1.mono HB.out.1.size)) (And.intro hB1 hI))
  have c0 := hB1.c.1
  have hltb := hB1.lt
  clear hB1 hb1 ho1 ho2 hne HRO HB hI
  go_wp2_with fail
  ((with_reducible refine HKN.out.mono ?_); rintro e w2 ⟨rfl, rfl⟩)
  go_wp2_with fail
  ((with_reducible refine HCO.out.mono ?_); rintro e W2 ⟨⟨ts, tb, ta, rb', rf', q', ov, done, sm, rfl, hk, st, hov, f1, f2, f3, hb2⟩⟩)
  have HO := Lib.hid (And.intro hk (And.intro st (And.intro (OwnI.sn hov) hb2)))
  have c0' : W2.cell? ⟨b, 0, none⟩ = some (.pointer (some ⟨gs, 0, none⟩)) := (hb2.cell (p := ⟨b, _, none⟩) hltb).trans c0
  have hltb' : b < W2.heap.size := Nat.lt_of_lt_of_le hltb hb2.size
  clear hk st hov f1 f2 f3 hb2 c0 hltb HCO HKN
  have hND := HND.out _ HO.out.2.2.2
  have hnd : (neededB s.ks (rootsL s.Ts pick)).1 = (sm.2.2.length : Nat) := by rw [HO.out.1.need, HO.out.1.mv.len]
  rw [hnd] at hND
  have HND2 := Lib.hid hND
  clear hND hnd HND
  generalize (neededB s.ks (rootsL s.Ts pick)).2 = nb at HND2
  go_wp2_with fail
  ((with_reducible refine HND2.out.mono ?_); rintro e W3 ⟨rfl, hb3⟩)
  have hb13 := HO.out.2.2.2.trans (hb3.mono HO.out.2.2.2.size)
  have hB3 := HB1.out.2.1.below hb13
  obtain ⟨A3, c3, rfl, hP⟩ := SlN.below HP.out hb13
  obtain ⟨A4, c4, rfl, hR⟩ := SlN.below HR.out hb13
  obtain ⟨A5, c5, rfl, hU⟩ := SlN.below HO.out.2.2.1 hb3
  simp only [List.length_map] at hU ⊢
  rw [rootsL_len] at hU hR ⊢
  have hc := hB3.c
  obtain ⟨At, ct, hTv, hT⟩ := hB3.sn
  obtain ⟨Al, cl, hLv, hL⟩ := hB3.sl
  rw [hTv, hLv] at hc
  have H3 := Lib.hid (And.intro (HB1.out.1.trans (hb13.mono HB1.out.1.size)) (And.intro hB3 (And.intro (HO.out.2.1.below hb3) (And.intro HB1.out.2.2 HO.out.1))))
  have HPC := Lib.hid (And.intro hP (And.intro hR (And.intro hU hL)))
  have b0 := Bw.cell hB3.lt hc.1
  have b2 := Bw.cell hB3.lt hc.2.2
  have hltb := Bw.lt hB3.lt
  have HLEN := Lib.hid H3.out.2.2.2.1.len
  have KNN := Lib.hid (fun w' (hb : Below W3.heap.size W3 w') => rknots_any ts tb ta rb' rf' q' sm.2.1 sm.2.2 w' (H3.out.2.2.1.below hb))
  have KNS := Lib.hid (fun w' (hb : Below W3.heap.size W3 w') => rknots_any gs gb ga rb rf q s.S s.ks w' (H3.out.2.1.below hb).st)
  have hN8 := places_len s.Ts.length pick
  have c0 : W3.cell? ⟨b, 0, none⟩ = some (.pointer (some ⟨gs, 0, none⟩)) := hc.1
  have hltb3 := hB3.lt
  clear hP hR hU hL hT hc hTv hLv hB3 hb3 hb13 HO HP HR HB1 c0' hltb' HND2
  generalize hN : (places s.Ts.length pick).length = N8 at HPC hN8 ⊢
  have HN := Lib.hid hN
  clear hN
  obtain ⟨m, hm⟩ : ∃ m, sm.2.2.length = m := ⟨_, rfl⟩
  simp only [hm] at KNN ⊢
  have HM := Lib.hid hm
  clear hm
  have hbr0 : Below W3.heap.size W3 W3 := Below.refl _ _
  go_wp2_with fail
  ((with_reducible refine (KNN.out _ hbr0).mono ?_); rintro e w4 ⟨rfl, rfl⟩)
  go_wp2_with fail
  ((with_reducible refine (KNS.out _ hbr0).mono ?_); rintro e w4 ⟨rfl, rfl⟩)
  go_wp2_with fail
  go_loopw [15] (fun i wr => ∃ j : Nat, i = .int .i64 j ∧ j ≤ N8 ∧ Below W3.heap.size W3 wr) (fun i _ => N8 - (intOf i).toNat)
  case atStart => exact ⟨0, rfl, by omega, Below.refl _ _⟩
  case round =>
    obtain ⟨j, rfl, hj, hbr⟩ := hrel
    have HBR := Lib.hid hbr
    clear hbr
    by_cases hjn : j < N8
    · have hjn' : (j : Int) < N8 := by omega
      obtain ⟨k, X, Y, hKT⟩ := kt_at H3.out.2.2.2.1 H3.out.2.2.2.2 (pick := pick) (j := j) (by rw [HN.out]; exact hjn)
      obtain ⟨pb, po, rfl, hpl, hpc⟩ := HPC.out.1 (by omega)
      obtain ⟨qb, qo, rfl, hql, hqc⟩ := HPC.out.2.1 (by omega)
      obtain ⟨ub, uo, rfl, hul, huc⟩ := HPC.out.2.2.1 (by omega)
      obtain ⟨lb, lo, rfl, hll, hlc⟩ := HPC.out.2.2.2 (by have := hKT.lt; rw [← HLEN.out]; omega)
      have hkl : k < s.Ls.length := by have := hKT.lt; rw [← HLEN.out]; omega
      have hkl' : (k : Int) < s.Ls.length := by omega
      have p1 := Bw.cell hpl (hpc j hjn)
      have q1 := Bw.cell hql (hqc j hjn)
      have u1 := Bw.cell hul (huc j hjn)
      have l1 := Bw.cell hll (hlc k hkl)
      have pl := Bw.lt hpl
      have ql := Bw.lt hql
      have ul := Bw.lt hul
      have ll := Bw.lt hll
      rw [hKT.place] at p1
      rw [hKT.root] at q1
      rw [hKT.new] at u1
      have hks := H3.out.2.2.2.1.ks_small (by omega)
      have hkm : sm.2.2.length ≤ small := by have h1 := H3.out.2.2.2.2.mv.len; have h2 := H3.out.2.2.2.2.cnt; have h3 := rootsL_len s.Ts pick; rw [HN.out] at h3; unfold small; omega
      have hSm : sm.2.1.size ≤ 1000000 := by have h1 := H3.out.2.2.2.2.mv.sz; have h2 := H3.out.2.2.2.2.bytes; have h3 := rootsL_len s.Ts pick; rw [HN.out] at h3; omega
      have hYn := hKT.like.nums
      have HRD := Lib.hid (fun w' (hb : Below W3.heap.size W3 w') => rread_any ts tb ta rb' rf' q' sm.2.1 sm.2.2 w' (gM sm (s.Ts.getD k 0)) 0 (s.Ls.getD k ⟨#[]⟩).size Y H3.out.2.2.2.2.mv.wf hKT.isN hKT.like.good (H3.out.2.2.1.below hb) hkm hSm)
      have HSZ := Lib.hid (fun w' (hb : Below W3.heap.size W3 w') => rsize_is ts tb ta rb' rf' q' sm.2.1 sm.2.2 w' (gM sm (s.Ts.getD k 0)) Y hKT.isN (H3.out.2.2.1.below hb) hkm)
      have HBA := Lib.hid (fun w' (hb : Below W3.heap.size W3 w') => rbal_any ts tb ta rb' rf' q' sm.2.1 sm.2.2 w' (gM sm (s.Ts.getD k 0)) Y H3.out.2.2.2.2.mv.wf hKT.isN (H3.out.2.2.1.below hb) hkm)
      have HK1 := Lib.hid (fun w' (hb : Below W3.heap.size W3 w') => rknot_any ts tb ta rb' rf' q' sm.2.1 sm.2.2 w' (gM sm (s.Ts.getD k 0)) (H3.out.2.2.1.below hb) hkm)
      have HK2 := Lib.hid (fun w' (hb : Below W3.heap.size W3 w') => rknot_any gs gb ga rb rf q s.S s.ks w' (s.Ts.getD k 0) (H3.out.2.1.below hb).st hks)
      have hy8 : (s.Ls.getD k ⟨#[]⟩).size ≤ 800 := by have := hKT.size; have := hKT.le; omega
      rw [hKT.like.txt, hKT.txt] at HRD
      rw [hYn.1, hKT.size] at HSZ
      rw [balB_of (hYn.2.2.2.2.2 hKT.bal)] at HBA
      simp only [(read_all (x := s.Ls.getD k ⟨#[]⟩) hy8).1, (read_all (x := s.Ls.getD k ⟨#[]⟩) hy8).2] at HRD
      have hk1 := hKT.isN.knot
      have hk2 := hKT.is_.knot
      have e1 : (getK sm.2.2 (gM sm (s.Ts.getD k 0))).high = (getK s.ks (s.Ts.getD k 0)).high := by rw [hk1.2.1, hk2.2.1, hYn.2.1]
      have e2 : (getK sm.2.2 (gM sm (s.Ts.getD k 0))).leaves = (getK s.ks (s.Ts.getD k 0)).leaves := by rw [hk1.2.2.1, hk2.2.2.1, hYn.2.2.1]
      have e3 : (getK sm.2.2 (gM sm (s.Ts.getD k 0))).feeds = (getK s.ks (s.Ts.getD k 0)).feeds := by rw [hk1.2.2.2.1, hk2.2.2.2.1, hYn.2.2.2.1]
      generalize getK sm.2.2 (gM sm (s.Ts.getD k 0)) = ka at HK1 e1 e2 e3
      generalize getK s.ks (s.Ts.getD k 0) = kb at HK2 e1 e2 e3
      generalize getB sm.2.2 (gM sm (s.Ts.getD k 0)) = ga1 at HK1
      generalize getB s.ks (s.Ts.getD k 0) = gb1 at HK2
      obtain ⟨x1, x2, x3, x4, x5, x6, x7⟩ := ka
      obtain ⟨z1, z2, z3, z4, z5, z6, z7⟩ := kb
      simp only at e1 e2 e3
      subst e1 e2 e3
      unfold Knot.val at HK1 HK2
      simp only at HK1 HK2
      have hqc2 : ∀ h, h < j → ∃ t', W3.cell? ⟨qb, qo + h, none⟩ = some (.int .i64 t') ∧ W3.cell? ⟨ub, uo + h, none⟩ = some (.int .i64 (gM sm t')) ∧ (gM sm (s.Ts.getD k 0) = gM sm t' ↔ s.Ts.getD k 0 = t') := fun h hh => by
        obtain ⟨k', X', Y', hKT'⟩ := kt_at H3.out.2.2.2.1 H3.out.2.2.2.2 (pick := pick) (j := h) (by rw [HN.out]; omega)
        have g1 := hqc h (by omega)
        have g2 := huc h (by omega)
        rw [hKT'.root] at g1
        rw [hKT'.new] at g2
        have m1 : s.Ts.getD k 0 ∈ rootsL s.Ts pick := by
          rw [← hKT.root]
          have : j < (rootsL s.Ts pick).length := by rw [rootsL_len, HN.out]; exact hjn
          simp [List.getD, this]
        have m2 : s.Ts.getD k' 0 ∈ rootsL s.Ts pick := by
          rw [← hKT'.root]
          have : h < (rootsL s.Ts pick).length := by rw [rootsL_len, HN.out]; omega
          simp [List.getD, this]
        exact ⟨_, g1, g2, H3.out.2.2.2.2.same m1 m2⟩
      have HQ2 := Lib.hid hqc2
      clear hKT hYn hk1 hk2 hqc2 hpc hqc huc hlc hks hkm hSm hpl hll
      generalize s.Ls.getD k ⟨#[]⟩ = y at HRD HSZ l1 hy8
      generalize gM sm (s.Ts.getD k 0) = u at HRD HSZ HBA HK1 u1 HQ2
      generalize s.Ts.getD k 0 = t at HK2 q1 HQ2
      have b0' : ∀ x : Bw W3, x.w.cell? ⟨b, 2, none⟩ = some (.slice (some ⟨lb, lo, none⟩) s.Ls.length cl) := b2
      go_wp2_with fail
      refine wp_region_wd (fun w' => Below W3.heap.size W3 w') (by kernel_rfl) (by kernel_rfl) HBR.out.drew ?_
      repeat (go_big_quiet_step (fail))
      refine wpQuiet_nil (wd_all ?_)
      intro w5 hb5
      have HB5 := Lib.hid hb5
      have u2 := u1 ⟨w5, hb5⟩
      have ul2 := ul ⟨w5, hb5⟩
      simp only at u2 ul2
      clear hb5
      go_wp2_with fail
      ((with_reducible refine (HRD.out _ HB5.out).mono ?_); rintro e w6 ⟨rfl, hb6⟩)
      have HB6 := Lib.hid (HB5.out.trans (hb6.mono HB5.out.size))
      have u2 := u1 ⟨w6, HB6.out⟩
      have ul2 := ul ⟨w6, HB6.out⟩
      simp only at u2 ul2
      clear hb6
      go_wp2_with fail
      ((with_reducible refine (HSZ.out _ HB6.out).mono ?_); rintro e w7 ⟨rfl, hb7⟩)
      have HB7 := Lib.hid (HB6.out.trans (hb7.mono HB6.out.size))
      have u2 := u1 ⟨w7, HB7.out⟩
      have ul2 := ul ⟨w7, HB7.out⟩
      simp only at u2 ul2
      clear hb7
      go_wp2_with fail
      ((with_reducible refine (HK1.out _ HB7.out).mono ?_); rintro e w8 ⟨rfl, hb8⟩)
      go_wp2_with fail
      have hb8a := hb8.alloc hb8.size (.cells #[.int .i64 x1, .int .i64 x2, .int .i64 x3, .int .i64 x4, .int .i64 x5, .int .i64 x6, .int .i64 x7] 50)
      have hkn8 : (w8.alloc (.cells #[.int .i64 x1, .int .i64 x2, .int .i64 x3, .int .i64 x4, .int .i64 x5, .int .i64 x6, .int .i64 x7] 50)).heap[w8.heap.size]? = some (.cells #[.int .i64 x1, .int .i64 x2, .int .i64 x3, .int .i64 x4, .int .i64 x5, .int .i64 x6, .int .i64 x7] 50 (0, 0)) := heap_alloc_new _ _
      have HB8 := Lib.hid (And.intro (HB7.out.trans (hb8a.mono HB7.out.size)) hkn8)
      clear hb8 hb8a hkn8
      generalize w8.alloc (.cells #[.int .i64 x1, .int .i64 x2, .int .i64 x3, .int .i64 x4, .int .i64 x5, .int .i64 x6, .int .i64 x7] 50) = W8 at HB8 ⊢
      generalize w8.heap.size = k8 at HB8 ⊢
      have g0 : W8.cell? ⟨b, 0, none⟩ = some (.pointer (some ⟨gs, 0, none⟩)) := b0 ⟨W8, HB8.out.1⟩
      have g1 := q1 ⟨W8, HB8.out.1⟩
      have g2 : b < W8.heap.size := hltb ⟨W8, HB8.out.1⟩
      have g3 := ql ⟨W8, HB8.out.1⟩
      simp only at g1 g3
      clear u2 ul2
      refine wp_region_sto (by kernel_rfl) (by kernel_rfl) ?_
      iterate 8 ((refine wpSto_quiet rfl rfl rfl ?_; apply Exists.intro; refine ⟨fun w1 hw1 => ?_, ?_⟩); (have hc1 := below_cells hw1; go_simp; exact growUpon_ok rfl); (refine wpSto_at (by (simp only [Act.put, List.setIfInBounds_toArray, List.set_cons_succ, List.set_cons_zero]) <;> exact rfl) ?_))
      (refine wpSto_quiet rfl rfl rfl ?_; apply Exists.intro; refine ⟨fun w1 hw1 => ?_, ?_⟩)
      · go_simp
        exact growUpon_call (HK2.out _ (HB8.out.1.trans (hw1.mono HB8.out.1.size)))
      (refine wpSto_at (by (simp only [Act.put, List.setIfInBounds_toArray, List.set_cons_succ, List.set_cons_zero]) <;> exact rfl) ?_)
      iterate 3 ((refine wpSto_quiet rfl rfl rfl ?_; apply Exists.intro; refine ⟨fun w1 hw1 => ?_, ?_⟩); (have hc1 := below_cells hw1; go_simp; exact growUpon_ok rfl); (refine wpSto_at (by (simp only [Act.put, List.setIfInBounds_toArray, List.set_cons_succ, List.set_cons_zero]) <;> exact rfl) ?_))
      refine Ar.wpSto_makeK rfl rfl (fun bk hbk hfr => ?_)
      (refine wpSto_at (by (simp only [Act.put, List.setIfInBounds_toArray, List.set_cons_succ, List.set_cons_zero]) <;> exact rfl) ?_)
      refine Ar.wpSto_storeK (k := ⟨z1, z2, z3, z4, x5, x6, x7⟩) rfl rfl rfl rfl List.mem_cons_self ?_
      (refine wpSto_at (by (simp only [Act.put, List.setIfInBounds_toArray, List.set_cons_succ, List.set_cons_zero]) <;> exact rfl) ?_)
      ((refine wpSto_quiet rfl rfl rfl ?_; apply Exists.intro; refine ⟨fun w1 hw1 => ?_, ?_⟩); (have hc1 := below_cells hw1; go_simp; exact growUpon_ok rfl); (refine wpSto_at (by (simp only [Act.put, List.setIfInBounds_toArray, List.set_cons_succ, List.set_cons_zero]) <;> exact rfl) ?_))
      refine wpSto_nil ?_
      intro w9 hD
      have hk9 := (hD.at_ (bk, .cells #[.int .i64 z1, .int .i64 z2, .int .i64 z3, .int .i64 z4, .int .i64 x5, .int .i64 x6, .int .i64 x7] 50 (0, 0)) (by simp [updB])).2
      simp only at hk9
      have hk8 := (hD.below.block k8 (Array.getElem?_eq_some_iff.1 HB8.out.2).1).trans HB8.out.2
      have HB9 := Lib.hid (HB8.out.1.trans (hD.below.mono HB8.out.1.size))
      have r4 := cell_of_row w9 k8 4 _ _ (0, 0) hk8
      have r5 := cell_of_row w9 k8 5 _ _ (0, 0) hk8
      have r6 := cell_of_row w9 k8 6 _ _ (0, 0) hk8
      have t4 := cell_of_row w9 bk 4 _ _ (0, 0) hk9
      have t5 := cell_of_row w9 bk 5 _ _ (0, 0) hk9
      have t6 := cell_of_row w9 bk 6 _ _ (0, 0) hk9
      have rl := (Array.getElem?_eq_some_iff.1 hk8).1
      have tl := (Array.getElem?_eq_some_iff.1 hk9).1
      simp only [List.getElem?_toArray, List.getElem?_cons_zero, List.getElem?_cons_succ] at r4 r5 r6 t4 t5 t6
      have u2 := u1 ⟨w9, HB9.out⟩
      have ul2 := ul ⟨w9, HB9.out⟩
      simp only at u2 ul2
      clear hD hk9 hk8 g0 g1 g2 g3
      go_wp2_with fail
      ((with_reducible refine (HBA.out _ HB9.out).mono ?_); rintro e w10 ⟨rfl, hb10⟩)
      have HB10 := Lib.hid (HB9.out.trans (hb10.mono HB9.out.size))
      clear hb10 r4 r5 r6 t4 t5 t6 rl tl u2 ul2
      go_wp2_with fail
      go_loopw [25] (fun i wr => ∃ h : Nat, i = .int .i64 h ∧ h ≤ j ∧ Below W3.heap.size W3 wr) (fun i _ => j - (intOf i).toNat)
      case atStart => exact ⟨0, rfl, by omega, HB10.out⟩
      case round =>
        obtain ⟨h, rfl, hh, hbr⟩ := hrel
        have HBI := Lib.hid hbr
        clear hbr
        by_cases hhn : h < j
        · have hhn' : (h : Int) < j := by omega
          have hhN : (h : Int) < N8 := by omega
          obtain ⟨t', f1, f2, f3⟩ := HQ2.out h hhn
          have q2 := Bw.cell hql f1
          have u2 := Bw.cell hul f2
          generalize gM sm t' = u' at u2 f3
          clear f1 f2
          by_cases ht : t = t'
          · have hu := f3.2 ht
            subst ht hu
            clear f3
            go_wp2_with fail
            refine wp_region_wd (fun w' => Below W3.heap.size W3 w') (by kernel_rfl) (by kernel_rfl) HBI.out.drew ?_
            repeat (go_big_quiet_step (fail))
            refine wpQuiet_nil (wd_all ?_)
            intro w11 hb11
            have HB11 := Lib.hid hb11
            clear hb11
            go_wp2_with fail
            go_roundw
            case rel => exact ⟨h + 1, by go_num, by omega, HB11.out⟩
            case measure => simp [intOf]; omega
          · have hu : ¬ u = u' := fun e => ht (f3.1 e)
            have ht1 : (t == t') = false := by simp [ht]
            have hu1 : (u == u') = false := by simp [hu]
            clear f3
            go_wp2_with fail
            refine wp_region_wd (fun w' => Below W3.heap.size W3 w') (by kernel_rfl) (by kernel_rfl) HBI.out.drew ?_
            repeat (go_big_quiet_step (fail))
            refine wpQuiet_nil (wd_all ?_)
            intro w11 hb11
            have HB11 := Lib.hid hb11
            clear hb11
            go_wp2_with fail
            go_roundw
            case rel => exact ⟨h + 1, by go_num, by omega, HB11.out⟩
            case measure => simp [intOf]; omega
        · obtain rfl : h = j := by omega
          have hhn' : ¬ ((h : Int) < h) := by omega
          go_wp2_with fail
          go_roundw
          case rel => exact ⟨h + 1, by go_num, by omega, HBI.out⟩
          case measure => simp [intOf]; omega
    · obtain rfl : j = N8 := by omega
      have hjn' : ¬ ((j : Int) < j) := by omega
      go_wp2_with fail
      go_ret
      exact ⟨rfl, H3.out.1.trans (HBR.out.mono H3.out.1.size)⟩
end Go.Proofs.Ytoeamnagmehpeaa.Kp
