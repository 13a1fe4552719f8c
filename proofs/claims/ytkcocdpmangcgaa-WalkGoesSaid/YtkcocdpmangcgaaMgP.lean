/- Layer 23's laws: the page's example; WalkCommon. */ -/
import Derived.Test.YtkcocdpmangcgaaMgN
namespace Go.Proofs.Ytkcocdpmangcgaa.Wk
set_option linter.unusedSimpArgs false
set_option linter.unusedVariables false
open Go Go.RowKit Go.Proofs.Ytkcocdpmangcgaa.Rp
open Go.Proofs.Ytkcocdpmangcgaa.Ar (T Is Ext WF Knot getK getB getS Arena resAr small leafK T.cnt T.cnt_pos Pc pcells pieces Owns LeavesP)
attribute [local go_sem] lt_add1 lt_self1 size_ne size_ne' size_ne1 size_ne1'
attribute [local irreducible] wpGrow wpThr

def abcab : ByteArray := ⟨#[97, 98, 99, 97, 98]⟩
def abca : ByteArray := ⟨#[97, 98, 99, 97]⟩

set_option maxRecDepth 100000 in
set_option maxHeartbeats 2000000 in
theorem awake23 (w : World) : Calls Try.prog 43 #[] w fun e w' => e = .returned (.bool true) ∧ Below w.heap.size w w' := by
  go_enter Try.func43, Try.ntmps43
  go_wp2_with fail
  ((with_reducible refine (rnew_any _).mono ?_); rintro e w1 ⟨gs, gb, ga, rfl, h1, hb1, g1, g2, g3⟩)
  have hF1 : ∀ b, sfoot gb ga none none none b → w.heap.size ≤ b := by
    intro b hb
    rcases hb with (rfl | e | e) | (rfl | e)
    · exact g2
    · cases e
    · cases e
    · exact g3
    · cases e
  have H1 := Lib.hid (And.intro h1 (And.intro hb1 hF1))
  clear h1 hb1 g1 g2 g3 hF1
  have HM := Lib.hid ((rmake_any gs gb ga ⟨#[]⟩ [] abcab wf_nil (by simp [small]) (by decide)).run w1 _ (resSt_at H1.out.1))
  unfold abcab at HM
  go_wp2_with fail
  ((with_reducible refine HM.out.mono ?_); rintro e w2 ⟨v, ⟨S2, ks2⟩, F2, rfl, ⟨hS2, rfl, m1, m2, n2, m3, m4⟩, ha2, hf2⟩)
  simp only at hS2 m1 m2 m4
  have hB2 := hf2.below H1.out.2.1 H1.out.2.2 H1.out.2.1.size
  have hF2 := hf2.ge H1.out.2.2 H1.out.2.1.size
  have hl2 := m4.len
  simp only [List.length_nil] at hl2
  have hn2 : ks2.length ≤ 100 := by omega
  have hz2 : S2.size = 5 := by rw [hS2]; rfl
  have HN := Lib.hid ((rmake_any gs gb ga S2 ks2 abca m1 (by unfold small; omega) (by rw [hz2]; decide)).run w2 _ ha2)
  have HT := Lib.hid (And.intro hS2 (And.intro m1 (And.intro m2 (And.intro m3 (And.intro hB2 hF2)))))
  clear hB2 hF2 m1 m2 m3 m4 ha2 hf2 HM
  unfold abca at HN
  generalize mkN [] ⟨#[97, 98, 99, 97, 98]⟩ = t at HT ⊢
  go_wp2_with fail
  ((with_reducible refine HN.out.mono ?_); rintro e w3 ⟨v, ⟨S3, ks3⟩, F3, rfl, ⟨hS3, rfl, k1, k2, o2, k3, k4⟩, ha3, hf3⟩)
  simp only at hS3 k1 k2 k4
  obtain ⟨rb3, rf3, q3, rfl, st3⟩ := st_of ha3
  simp only at st3
  obtain ⟨q1, q2, q3', q4, q5, q6⟩ := HT.out
  have q1' : S2 = ⟨#[]⟩ ++ abcab := q1
  have hg1 := mkT_good ⟨#[]⟩ abcab
  have hg2 := mkT_good S2 abca
  have gd1 : Rp.Good S2 (mkT ⟨#[]⟩ abcab) := by rw [q1']; exact hg1.1
  have hl3 := k4.len
  have hk3 : ks3.length ≤ small := by unfold small; omega
  have z3 : S3.size ≤ 1000000 := by rw [hS3, ByteArray.size_append, hz2]; decide
  have R1 : Rd S3 ks3 t [97, 98, 99, 97, 98] := .inl ⟨mkT ⟨#[]⟩ abcab, Is.ext q3' k4, by rw [hS3]; exact gd1.grow, by rw [hg1.2.2.1]; decide, by rw [hS3, txt_grow gd1, q1', hg1.2.1]; rfl⟩
  have R2 : Rd S3 ks3 (mkN ks2 ⟨#[97, 98, 99, 97]⟩) [97, 98, 99, 97] := .inl ⟨mkT S2 abca, k2, by rw [hS3]; exact hg2.1, by rw [hg2.2.2.1]; decide, by rw [hS3]; exact hg2.2.1⟩
  have hB3 := hf3.below q5 q6 q5.size
  have HC1 := Lib.hid (fun w' (h : St w' gs gb ga rb3 rf3 q3 S3 ks3) => Common_any gs gb ga rb3 rf3 q3 S3 ks3 t _ _ _ R1 R2 w' h k1 hk3 z3)
  have HC2 := Lib.hid (fun w' (h : St w' gs gb ga rb3 rf3 q3 S3 ks3) => CommonBack_any gs gb ga rb3 rf3 q3 S3 ks3 t _ _ _ R1 R2 w' h k1 hk3 z3)
  have HP := Lib.hid (fun w' (h : St w' gs gb ga rb3 rf3 q3 S3 ks3) => rpieces_any gs gb ga rb3 rf3 q3 S3 ks3 k1 hk3 _ (mkT ⟨#[]⟩ abcab) t (Nat.le_refl _) (Is.ext q3' k4) (by have := (mkT_high ⟨#[]⟩ abcab).2.2.2.1; omega) w' h)
  rw [show cpl [97, 98, 99, 97, 98] [97, 98, 99, 97] = 4 by decide] at HC1
  rw [show cpl ([97, 98, 99, 97, 98] : List UInt8).reverse ([97, 98, 99, 97] : List UInt8).reverse = 0 by decide] at HC2
  have hpl : (pieces (mkT ⟨#[]⟩ abcab)).length = 1 := by decide
  have H3 := Lib.hid (And.intro st3 hB3)
  clear hS3 k1 k2 k3 k4 ha3 hf3 q1 q2 q3' q4 q5 q6 q1' hg1 hg2 gd1 hl3 hk3 z3 R1 R2 st3 hB3 HN HT hS2 hl2 hn2 hz2 n2
  generalize pieces (mkT ⟨#[]⟩ abcab) = pl at HP hpl
  generalize mkN ks2 ⟨#[97, 98, 99, 97]⟩ = u at HC1 HC2 ⊢
  go_wp2_with fail
  ((with_reducible refine (HC1.out _ H3.out.1).mono ?_); rintro e w4 ⟨rfl, hb4⟩)
  have H4 := Lib.hid (And.intro (H3.out.1.below hb4) (H3.out.2.trans (hb4.mono H3.out.2.size)))
  clear hb4
  go_wp2_with fail
  ((with_reducible refine (HC2.out _ H4.out.1).mono ?_); rintro e w5 ⟨rfl, hb5⟩)
  have H5 := Lib.hid (And.intro (H4.out.1.below hb5) (H4.out.2.trans (hb5.mono H4.out.2.size)))
  clear hb5
  go_wp2_with fail
  ((with_reducible refine (HP.out _ H5.out.1).mono ?_); rintro e w6 ⟨v6, rfl, ho6, hb6⟩)
  have H6 := Lib.hid (H5.out.2.trans (hb6.mono H5.out.2.size))
  obtain ⟨A6, c6, rfl, _, _⟩ := SlAt.of_own ho6
  clear ho6 hb6
  rw [hpl]
  go_wp2
  go_ret
  exact ⟨rfl, H6.out⟩

theorem Inv.rd {s : Bst} (h : Inv s 40) {k : Nat} (hk : k < s.Ts.length) : Rd s.S s.ks (s.Ts.getD k 0) (s.Ls.getD k ⟨#[]⟩).data.toList ∧ (s.Ls.getD k ⟨#[]⟩).size ≤ 800 := by
  obtain ⟨X, h1, h2, h3, h4, h5⟩ := h.ropes k hk
  have := txt_length h2
  rw [h4] at this
  have e : (s.Ls.getD k ⟨#[]⟩).data.toList.length = (s.Ls.getD k ⟨#[]⟩).size := rfl
  exact ⟨.inl ⟨X, h1, h2, by omega, h4⟩, by omega⟩
theorem cpl_none (a : List UInt8) : cpl [] a = 0 := rfl

set_option maxRecDepth 100000 in
set_option maxHeartbeats 4000000 in
theorem common_walk (l : List Dd) (A : Option Addr) (cap : Nat) (w : World) (hs : ddAt w A l) (hl : ∀ d ∈ l, d.text.size ≤ 2 ^ 63 - 1) :
    Calls Try.prog 11 #[.slice A l.length cap] w fun e w' => e = .returned (.bool true) ∧ Below w.heap.size w w' := by
  have HS := Lib.hid hs
  clear hs
  go_enter Try.func11, Try.ntmps11
  go_wp2_with fail
  ((with_reducible refine (awake23 _).mono ?_); rintro e w1 ⟨rfl, hb1⟩)
  have HBL := Lib.hid (build_any l A cap w1 ((HS.out.below hb1).more hb1.size) hl)
  have H1 := Lib.hid hb1
  clear hb1 HS
  go_wp2_with fail
  ((with_reducible refine HBL.out.mono ?_); rintro e W ⟨v, rfl, ⟨b, gs, gb, ga, rb, rf, q, Tv, Lv, s, rfl, hB, hI⟩⟩)
  have HB := Lib.hid (And.intro (H1.out.trans (hB.bl.mono H1.out.size)) (And.intro hB hI))
  clear hB hI HBL H1
  obtain ⟨At, ct, hTv, hT⟩ := HB.out.2.1.sn
  obtain ⟨Al, cl, hLv, hL⟩ := HB.out.2.1.sl
  have hc := HB.out.2.1.c
  rw [hTv, hLv] at hc
  have c0 := Bw.cell HB.out.2.1.lt hc.1
  have c1 := Bw.cell HB.out.2.1.lt hc.2.1
  have c2 := Bw.cell HB.out.2.1.lt hc.2.2
  have hltb := Bw.lt HB.out.2.1.lt
  have hlen := HB.out.2.2.len
  have hn41 := HB.out.2.2.le
  have hn1 := HB.out.2.2.pos
  obtain ⟨tb, toff, rfl, htl, htc⟩ := hT (by omega)
  obtain ⟨lb, loff, rfl, hll, hlc⟩ := hL (by omega)
  have dl1 := Bw.lt htl
  have dl2 := Bw.lt hll
  have HT := Lib.hid (And.intro (fun k hk => Bw.cell htl (htc k hk)) (fun k hk => Bw.cell hll (hlc k hk)))
  have HLEN := Lib.hid hlen
  rw [← hlen] at c2
  have hks := HB.out.2.2.ks_small (by omega)
  have hS := HB.out.2.2.S_small (by omega)
  have HC := Lib.hid (fun t u l1 l2 h1 h2 w' (hb : Below W.heap.size W w') => Common_any gs gb ga rb rf q s.S s.ks t u l1 l2 h1 h2 w' (HB.out.2.1.below hb).st HB.out.2.2.wf hks hS)
  have HCB := Lib.hid (fun t u l1 l2 h1 h2 w' (hb : Below W.heap.size W w') => CommonBack_any gs gb ga rb rf q s.S s.ks t u l1 l2 h1 h2 w' (HB.out.2.1.below hb).st HB.out.2.2.wf hks hS)
  clear hTv hLv hT hL hc hlen htc hlc htl hll
  obtain ⟨n, hn⟩ : ∃ n, n = s.Ts.length := ⟨_, rfl⟩
  rw [← hn] at c1 c2 hn41 hn1
  have HN := Lib.hid hn
  clear hn
  have k0 : W.cell? ⟨b, 0, none⟩ = _ := c0 ⟨W, Below.refl _ _⟩
  have k1 : W.cell? ⟨b, 1, none⟩ = _ := c1 ⟨W, Below.refl _ _⟩
  have kb : b < W.heap.size := hltb ⟨W, Below.refl _ _⟩
  have hnn : (n : Int) ≤ 41 := by omega
  obtain ⟨m, hm⟩ : ∃ m : Nat, max 0 ((n : Int) - 5) = (m : Int) := ⟨n - 5, by omega⟩
  go_wp2_with fail
  go_loopw [5] (fun i wr => ∃ k : Nat, i = .int .i64 k ∧ k ≤ n ∧ Below W.heap.size W wr) (fun i _ => n - (intOf i).toNat)
  case atStart => exact ⟨m, by first | rfl | (rw [hm]) | (congr 1), by omega, Below.refl _ _⟩
  case round =>
    obtain ⟨k, rfl, hk, hbr⟩ := hrel
    have e1 : wr.cell? ⟨b, 1, none⟩ = _ := c1 ⟨wr, hbr⟩
    have eb : b < wr.heap.size := hltb ⟨wr, hbr⟩
    have HBR := Lib.hid hbr
    clear hbr
    by_cases hkn : k < n
    · have hkn' : (k : Int) < n := by omega
      have dk1 := HT.out.1 k (by rw [← HN.out]; exact hkn)
      have dk2 := HT.out.2 k (by rw [← HLEN.out, ← HN.out]; exact hkn)
      obtain ⟨rk, zk⟩ := Inv.rd HB.out.2.2 (k := k) (by rw [← HN.out]; exact hkn)
      have HRK := Lib.hid rk
      clear rk e1 eb k0 k1 kb
      generalize s.Ts.getD k 0 = tk at dk1 HRK
      generalize s.Ls.getD k ⟨#[]⟩ = yk at dk2 HRK zk
      go_wp2_with fail
      go_loopw [6] (fun i wr => ∃ k : Nat, i = .int .i64 k ∧ k ≤ n ∧ Below W.heap.size W wr) (fun i _ => n - (intOf i).toNat)
      case atStart => exact ⟨m, by first | rfl | (rw [hm]) | (congr 1), by omega, HBR.out⟩
      case round =>
        obtain ⟨j, rfl, hj, hbr⟩ := hrel
        have HBJ := Lib.hid hbr
        clear hbr
        by_cases hjn : j < n
        · have hjn' : (j : Int) < n := by omega
          have dj1 := HT.out.1 j (by rw [← HN.out]; exact hjn)
          have dj2 := HT.out.2 j (by rw [← HLEN.out, ← HN.out]; exact hjn)
          obtain ⟨rj, zj⟩ := Inv.rd HB.out.2.2 (k := j) (by rw [← HN.out]; exact hjn)
          have HRJ := Lib.hid rj
          clear rj
          generalize s.Ts.getD j 0 = tj at dj1 HRJ
          generalize s.Ls.getD j ⟨#[]⟩ = yj at dj2 HRJ zj
          have HA1 := Lib.hid (HC.out tk tj _ _ HRK.out HRJ.out)
          have HA2 := Lib.hid (HCB.out tk tj _ _ HRK.out HRJ.out)
          have HR1 := Lib.hid (fun w' => refCommon_any yk yj (by omega) (by omega) w')
          have HR2 := Lib.hid (fun w' => refCommonBack_any yk yj (by omega) (by omega) w')
          generalize cpl yk.data.toList yj.data.toList = p1 at HA1 HR1
          generalize cpl yk.data.toList.reverse yj.data.toList.reverse = p2 at HA2 HR2
          go_wp2_with fail
          refine wp_region_wd (fun w' => Below W.heap.size W w') (by kernel_rfl) (by kernel_rfl) HBJ.out.drew ?_
          simp only [List.append_eq, List.cons_append, List.nil_append]
          repeat (go_big_quiet_step (first | (with_reducible exact Bw.call (HA1.out _ (Wd.h _))) | (with_reducible exact Bw.call (HA2.out _ (Wd.h _))) | (with_reducible exact Bw.call (HR1.out _)) | (with_reducible exact Bw.call (HR2.out _))))
          refine wpQuiet_nil ?_; refine wd_all ?_
          intro w5 hb5
          have HB5 := Lib.hid hb5
          clear hb5
          go_wp2_with fail
          go_roundw
          case rel => exact ⟨j + 1, by go_num, by omega, HB5.out⟩
          case measure => simp [intOf]; omega
        · have hjn' : ¬ ((j : Int) < n) := by omega
          go_wp2_with fail
          go_roundw
          case rel => exact ⟨k + 1, by go_num, by omega, HBJ.out⟩
          case measure => simp [intOf]; omega
    · have hkn' : ¬ ((k : Int) < n) := by omega
      have d0 := HT.out.1 0 (by rw [← HN.out]; omega)
      have dn := HT.out.1 (n - 1) (by rw [← HN.out]; omega)
      obtain ⟨r0, _⟩ := Inv.rd HB.out.2.2 (k := 0) (by rw [← HN.out]; omega)
      obtain ⟨rn, _⟩ := Inv.rd HB.out.2.2 (k := n - 1) (by rw [← HN.out]; omega)
      have HA1 := Lib.hid (HC.out (-1) _ _ _ (.inr ⟨.inl (by decide), rfl⟩) r0)
      have HA2 := Lib.hid (HCB.out _ (-1) _ _ rn (.inr ⟨.inl (by decide), rfl⟩))
      simp only [List.reverse_nil, cpl_none, cpl_nil] at HA1 HA2
      have hn0 : (0 : Int) < n := by omega
      have hn2 : (n : Int) - 1 < n := by omega
      have hn3 : (0 : Int) ≤ (n : Int) - 1 := by omega
      have hn4 : ((n : Int) - 1).toNat = n - 1 := by omega
      generalize s.Ts.getD 0 0 = t0 at d0 HA1
      generalize s.Ts.getD (n - 1) 0 = tn at dn HA2
      clear r0 rn e1 eb k0 k1 kb
      simp only [Nat.add_zero] at d0
      go_wp2_with fail
      refine wp_region_wd (fun w' => Below W.heap.size W w') (by kernel_rfl) (by kernel_rfl) HBR.out.drew ?_
      repeat (go_big_quiet_step (first | (with_reducible exact Bw.call (HA1.out _ (Wd.h _))) | (with_reducible exact Bw.call (HA2.out _ (Wd.h _)))))
      refine wpQuiet_nil ?_; refine wd_all ?_
      intro w5 hb5
      have HB5 := Lib.hid hb5
      clear hb5
      go_wp2_with fail
      go_ret
      exact ⟨rfl, HB.out.1.trans (HB5.out.mono HB.out.1.size)⟩
end Go.Proofs.Ytkcocdpmangcgaa.Wk
