/- Layer 24's laws: LinesTexts. */ -/
import Derived.Test.YtoeamnagmehpeaaMgT
namespace Go.Proofs.Ytoeamnagmehpeaa.Ln
set_option linter.unusedSimpArgs false
set_option linter.unusedVariables false
open Go Go.RowKit Go.Proofs.Ytoeamnagmehpeaa.Rp
open Go.Proofs.Ytoeamnagmehpeaa.Ar (T Is Ext WF Knot getK getB getS Arena resAr small leafK pairK)
attribute [local go_sem] lt_add1 lt_self1 size_ne size_ne' size_ne1 size_ne1'
attribute [local irreducible] wpGrow wpThr

theorem lineB_eq (s : ByteArray) {c : Int} (h0 : 0 ≤ c) (h1 : c ≤ feedsL s.data.toList) : (⟨(lineL s.data.toList c).toArray⟩ : ByteArray) = lineB s c := Buf.bytes_ext (by rw [lineB_list s h0 h1])
theorem OwnS.sl {w : World} {B : Nat} {v : Value} {l : List ByteArray} (h : OwnS w B v l) : SlS w v l := SlS.of_own h

set_option maxRecDepth 100000 in
set_option maxHeartbeats 4000000 in
theorem texts_walk (l : List Dd) (line : Int) (A : Option Addr) (cap : Nat) (w : World) (hs : ddAt w A l) (hl : ∀ d ∈ l, d.text.size ≤ 2 ^ 63 - 1) :
    Calls Try.prog 6 #[.slice A l.length cap, .int .i64 line] w fun e w' => e = .returned (.bool true) ∧ Below w.heap.size w w' := by
  have HS := Lib.hid hs
  clear hs
  go_enter Try.func6, Try.ntmps6
  go_wp2_with fail
  ((with_reducible refine (awake24 _).mono ?_); rintro e w1 ⟨rfl, hb1⟩)
  have HBL := Lib.hid (build_any l A cap w1 ((HS.out.below hb1).more hb1.size) hl)
  have H1 := Lib.hid hb1
  clear hb1 HS
  go_wp2_with fail
  ((with_reducible refine HBL.out.mono ?_); rintro e W ⟨v, rfl, ⟨b, gs, gb, ga, rb, rf, q, Tv, Lv, s, rfl, hB, hI⟩⟩)
  have HB := Lib.hid (And.intro (H1.out.trans (hB.bl.mono H1.out.size)) (And.intro hB hI))
  clear hB hI HBL H1
  obtain ⟨At, ct, hTv, hT⟩ := HB.out.2.1.sn
  obtain ⟨Al, cl, hLv, hL⟩ := HB.out.2.1.sl
  have hc := HB.out.2.1.c
  rw [hTv, hLv] at hc
  have c0 := Bw.cell HB.out.2.1.lt hc.1
  have c1 := Bw.cell HB.out.2.1.lt hc.2.1
  have c2 := Bw.cell HB.out.2.1.lt hc.2.2
  have hltb := Bw.lt HB.out.2.1.lt
  have HT := Lib.hid (And.intro hT hL)
  have hlen := HB.out.2.2.len
  have hn41 := HB.out.2.2.le
  have HLEN := Lib.hid hlen
  rw [← hlen] at c2
  clear hTv hLv hT hL hc hlen
  obtain ⟨n, hn⟩ : ∃ n, n = s.Ts.length := ⟨_, rfl⟩
  rw [← hn] at c1 c2 hn41
  have HN := Lib.hid hn
  clear hn
  go_wp2_with fail
  go_loopw [6] (fun i wr => ∃ k : Nat, i = .int .i64 k ∧ k ≤ n ∧ Below W.heap.size W wr) (fun i _ => n - (intOf i).toNat)
  case atStart => exact ⟨0, rfl, by omega, Below.refl _ _⟩
  case round =>
    obtain ⟨k, rfl, hk, hbr⟩ := hrel
    have e0 : wr.cell? ⟨b, 0, none⟩ = _ := c0 ⟨wr, hbr⟩
    have e1 : wr.cell? ⟨b, 1, none⟩ = _ := c1 ⟨wr, hbr⟩
    have e2 : wr.cell? ⟨b, 2, none⟩ = _ := c2 ⟨wr, hbr⟩
    have eb : b < wr.heap.size := hltb ⟨wr, hbr⟩
    have HBR := Lib.hid hbr
    clear hbr
    by_cases hkn : k < n
    · have hkn2 : k < s.Ts.length := by rw [← HN.out]; exact hkn
      obtain ⟨tb, toff, rfl, htl, htc⟩ := HT.out.1 (by omega)
      obtain ⟨lb, loff, rfl, hll, hlc⟩ := HT.out.2 (by rw [← HLEN.out]; omega)
      have d1 := Bw.cell htl (htc k hkn2)
      have d2 := Bw.cell hll (hlc k (by rw [← HLEN.out]; exact hkn2))
      have dl1 := Bw.lt htl
      have dl2 := Bw.lt hll
      have HRP := Lib.hid (fun w' (hb : Below W.heap.size W w') => (Inv.rop HB.out.2.2 hkn2 (HB.out.2.1.below hb).st).1)
      have hy8 := (Inv.rop HB.out.2.2 hkn2 HB.out.2.1.st).2
      have e4 := d2 ⟨wr, HBR.out⟩
      have el4 := dl2 ⟨wr, HBR.out⟩
      simp only at e4 el4
      clear htc hlc htl hll
      generalize s.Ts.getD k 0 = t at d1 HRP
      generalize s.Ls.getD k ⟨#[]⟩ = y at d2 HRP hy8 e4
      have hyl : y.data.toList.length = y.size := rfl
      have hkn' : (k : Int) < n := by omega
      have hfl := feedsL_le y.data.toList
      obtain ⟨m, hm⟩ : ∃ m : Nat, feedsL y.data.toList + 1 = m := ⟨(feedsL y.data.toList + 1).toNat, by omega⟩
      have hm8 : m ≤ 801 := by omega
      have HRF := Lib.hid (reflines_any y wr (by omega))
      rw [hm] at HRF
      simp only [Int.toNat_natCast] at HRF
      have HCT := Lib.hid (fun w' (hb : Below W.heap.size W w') => count_any (HRP.out w' hb))
      rw [hm] at HCT
      have HTX := Lib.hid (show ∀ (j : Nat), j < m → ∀ w', Below W.heap.size W w' → Calls Try.prog 32 #[.pointer (some ⟨gs, 0, none⟩), .int .i64 t, .int .i64 ((j : Int) + 1)] w' fun e w'' => e = .returned (.tuple #[.string (lineB y j), .int .i64 0]) ∧ Below w'.heap.size w' w'' from fun j hj w' hb => by
        have h1 := text_any (j : Int) (HRP.out w' hb) (by omega) (by omega) (by omega)
        rw [lineB_eq y (by omega) (by omega)] at h1
        exact h1)
      have HLI := Lib.hid (show ∃ (x : ByteArray) (z : Int), (∀ w', Below W.heap.size W w' → Calls Try.prog 32 #[.pointer (some ⟨gs, 0, none⟩), .int .i64 t, .int .i64 line] w' fun e w'' => e = .returned (.tuple #[.string x, .int .i64 z]) ∧ Below w'.heap.size w' w'') ∧ ((line < 1 ∧ x = ⟨#[]⟩ ∧ z = 2) ∨ (¬ line < 1 ∧ line > m ∧ x = ⟨#[]⟩ ∧ z = 2) ∨ (¬ line < 1 ∧ ¬ line > m)) from by
        by_cases hc : line < 1 ∨ feedsL y.data.toList + 1 < line
        · refine ⟨⟨#[]⟩, 2, fun w' hb => text_out line (HRP.out w' hb) hc, ?_⟩
          by_cases hc1 : line < 1
          · exact .inl ⟨hc1, rfl, rfl⟩
          · exact .inr (.inl ⟨hc1, by omega, rfl, rfl⟩)
        · refine ⟨⟨(lineL y.data.toList (line - 1)).toArray⟩, 0, fun w' hb => ?_, .inr (.inr ⟨by omega, by omega⟩)⟩
          have h1 := text_any (line - 1) (HRP.out w' hb) (by omega) (by omega) (by omega)
          rw [show line - 1 + 1 = line by omega] at h1
          exact h1)
      obtain ⟨x, z, hLT, hcs⟩ := HLI.out
      have HLT := Lib.hid hLT
      have HCS := Lib.hid hcs
      clear hLT hcs hm hfl
      go_wp2_with fail
      ((with_reducible refine HRF.out.mono ?_); rintro e w3 ⟨v3, rfl, ho3, hb3⟩)
      have HB3 := Lib.hid (HBR.out.trans (hb3.mono HBR.out.size))
      obtain ⟨A5, c5, rfl, h5⟩ := OwnS.sl ho3
      rw [linesB_len] at h5 ⊢
      have H5 := Lib.hid h5
      have up : ∀ x : Bw w3, Below W.heap.size W x.w := fun x => HB3.out.trans (x.h.mono HB3.out.size)
      have b0 : ∀ x : Bw w3, x.w.cell? ⟨b, 0, none⟩ = _ := fun x => c0 ⟨x.w, up x⟩
      have b1 : ∀ x : Bw w3, x.w.cell? ⟨b, 1, none⟩ = _ := fun x => c1 ⟨x.w, up x⟩
      have bl : ∀ x : Bw w3, b < x.w.heap.size := fun x => hltb ⟨x.w, up x⟩
      have g1 : ∀ x : Bw w3, x.w.cell? ⟨tb, toff + k, none⟩ = _ := fun x => d1 ⟨x.w, up x⟩
      have gl : ∀ x : Bw w3, tb < x.w.heap.size := fun x => dl1 ⟨x.w, up x⟩
      have HCT3 := Lib.hid (fun w' (hb : Below w3.heap.size w3 w') => HCT.out w' (HB3.out.trans (hb.mono HB3.out.size)))
      have HLT3 := Lib.hid (fun w' (hb : Below w3.heap.size w3 w') => HLT.out w' (HB3.out.trans (hb.mono HB3.out.size)))
      have HTX3 := Lib.hid (fun (j : Nat) (hj : j < m) w' (hb : Below w3.heap.size w3 w') => HTX.out j hj w' (HB3.out.trans (hb.mono HB3.out.size)))
      clear hb3 ho3 h5 up e0 e1 e2 eb e4 el4
      go_wp2_with fail
      refine wp_region_wd (fun w' => Below w3.heap.size w3 w') (by kernel_rfl) (by kernel_rfl) ((Below.refl _ _).drew) ?_
      repeat (go_big_quiet_step (with_reducible exact Bw.call (HCT3.out _ (Wd.h _))))
      refine wpQuiet_nil (wd_all ?_)
      intro w4 hb4
      have HB4 := Lib.hid hb4
      clear hb4
      go_wp2_with fail
      go_loopw [10] (fun i wr => ∃ j : Nat, i = .int .i64 j ∧ j ≤ m ∧ Below w3.heap.size w3 wr) (fun i _ => m - (intOf i).toNat)
      case atStart => exact ⟨0, rfl, by omega, HB4.out⟩
      case round =>
        obtain ⟨j, rfl, hj, hbr⟩ := hrel
        have HBJ := Lib.hid hbr
        clear hbr
        by_cases hjm : j < m
        · have hjm' : (j : Int) < m := by omega
          obtain ⟨vb, vo, rfl, hvl, hvc⟩ := H5.out (by omega)
          have v1 := Bw.cell hvl (hvc j hjm)
          have vl := Bw.lt hvl
          rw [show (linesB y m).getD j ⟨#[]⟩ = lineB y j from by unfold linesB; simp [List.getD, hjm]] at v1
          have HTJ := Lib.hid (fun w' (hb : Below w3.heap.size w3 w') => HTX3.out j hjm w' hb)
          generalize lineB y (j : Int) = ln at v1 HTJ
          have hwj : IntKind.i64.wrap ((j : Int) + 1) = (j : Int) + 1 := IntWalk.i64_in _ (by omega)
          clear hvl hvc
          go_wp2_with fail
          refine wp_region_wd (fun w' => Below w3.heap.size w3 w') (by kernel_rfl) (by kernel_rfl) HBJ.out.drew ?_
          repeat (go_big_quiet_step (with_reducible exact Bw.call (HTJ.out _ (Wd.h _))))
          refine wpQuiet_nil (wd_all ?_)
          intro w5 hb5
          have HB5 := Lib.hid hb5
          have f1 := v1 ⟨w5, hb5⟩
          have fl := vl ⟨w5, hb5⟩
          simp only at f1 fl
          clear hb5
          go_wp2_with fail
          go_roundw
          case rel => exact ⟨j + 1, by go_num, by omega, HB5.out⟩
          case measure => simp [intOf]; omega
        · obtain rfl : j = m := by omega
          have hjm' : ¬ ((j : Int) < j) := by omega
          go_wp2_with fail
          refine wp_region_wd (fun w' => Below w3.heap.size w3 w') (by kernel_rfl) (by kernel_rfl) HBJ.out.drew ?_
          repeat (go_big_quiet_step (with_reducible exact Bw.call (HLT3.out _ (Wd.h _))))
          refine wpQuiet_nil (wd_all ?_)
          intro w6 hb6
          have HB6 := Lib.hid (HB3.out.trans (hb6.mono HB3.out.size))
          clear hb6
          rcases HCS.out with ⟨g1, g2, g3⟩ | ⟨g1, g2, g3, g4⟩ | ⟨g1, g2⟩
          · subst g2 g3
            go_wp2_with fail
            go_roundw
            case rel => exact ⟨k + 1, by go_num, by omega, HB6.out⟩
            case measure => simp [intOf]; omega
          · subst g3 g4
            go_wp2_with fail
            go_roundw
            case rel => exact ⟨k + 1, by go_num, by omega, HB6.out⟩
            case measure => simp [intOf]; omega
          · go_wp2_with fail
            go_roundw
            case rel => exact ⟨k + 1, by go_num, by omega, HB6.out⟩
            case measure => simp [intOf]; omega
    · have hkn' : ¬ ((k : Int) < n) := by omega
      have hks := HB.out.2.2.ks_small (by omega)
      have HSN := Lib.hid (fun t (ht : t < 0 ∨ (s.ks.length : Int) < t) w' (hb : Below W.heap.size W w') => rsize_none gs gb ga rb rf q s.S s.ks w' t ht (HB.out.2.1.below hb).st hks)
      have HC1 := Lib.hid (count_none _ _ _ (HSN.out (-1) (.inl (by omega)) wr HBR.out))
      have HKN := Lib.hid (fun w' (hb : Below W.heap.size W w') => rknots_any gs gb ga rb rf q s.S s.ks w' (HB.out.2.1.below hb).st)
      have HPN := Lib.hid (fun w' (hb : Below W.heap.size W w') => place_no _ _ 1 1 _ (HSN.out ((s.ks.length : Int) + 1) (.inr (by omega)) w' hb))
      have hkl : (s.ks.length : Int) ≤ 1073741824 := by unfold small at hks; omega
      have hwk : IntKind.i64.wrap ((s.ks.length : Int) + 1) = (s.ks.length : Int) + 1 := IntWalk.i64_in _ (by omega)
      go_wp2_with fail
      ((with_reducible refine HC1.out.mono ?_); rintro e w2 ⟨rfl, hb2⟩)
      have HB2 := Lib.hid (HBR.out.trans (hb2.mono HBR.out.size))
      have HA1 := Lib.hid (at_none _ _ 0 _ (HSN.out (-1) (.inl (by omega)) w2 HB2.out))
      have e0 : w2.cell? ⟨b, 0, none⟩ = _ := c0 ⟨w2, HB2.out⟩
      have eb : b < w2.heap.size := hltb ⟨w2, HB2.out⟩
      clear hb2
      go_wp2_with fail
      ((with_reducible refine HA1.out.mono ?_); rintro e w3 ⟨rfl, hb3⟩)
      have HB3 := Lib.hid (HB2.out.trans (hb3.mono HB2.out.size))
      clear hb3 e0 eb
      go_wp2_with fail
      refine wp_region_wd (fun w' => Below W.heap.size W w') (by kernel_rfl) (by kernel_rfl) HB3.out.drew ?_
      repeat (go_big_quiet_step (first | with_reducible exact Bw.call (HPN.out _ (Wd.h _)) | with_reducible exact Bw.call ((HKN.out _ (Wd.h _)).mono fun _ _ h => ⟨h.1, below_of_eq h.2⟩)))
      refine wpQuiet_nil (wd_all ?_)
      intro w4 hb4
      have HB4 := Lib.hid hb4
      clear hb4
      have HT1 := Lib.hid (text_none none 0 1 w4 (rsize_nilB w4 0))
      go_wp2_with fail
      ((with_reducible refine HT1.out.mono ?_); rintro e w5 ⟨rfl, hb5⟩)
      have HB5 := Lib.hid (HB4.out.trans (hb5.mono HB4.out.size))
      clear hb5
      go_wp2_with fail
      go_ret
      exact ⟨rfl, HB.out.1.trans (HB5.out.mono HB.out.1.size)⟩
end Go.Proofs.Ytoeamnagmehpeaa.Ln
