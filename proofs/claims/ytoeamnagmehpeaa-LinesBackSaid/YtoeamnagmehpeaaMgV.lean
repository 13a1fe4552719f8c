/- Layer 24's laws: LinesBack. */ -/
import Derived.Test.YtoeamnagmehpeaaMgU
import Derived.Test.YtoeamnagmehpeaaMgQ
namespace Go.Proofs.Ytoeamnagmehpeaa.Ln
set_option linter.unusedSimpArgs false
set_option linter.unusedVariables false
open Go Go.RowKit Go.Proofs.Ytoeamnagmehpeaa.Rp
open Go.Proofs.Ytoeamnagmehpeaa.Ar (T Is Ext WF Knot getK getB getS Arena resAr small leafK pairK)
attribute [local go_sem] lt_add1 lt_self1 size_ne size_ne' size_ne1 size_ne1'
attribute [local irreducible] wpGrow wpThr

theorem lfs_ten : ∀ (n : Nat) (l : List UInt8) (f : Int), f ∈ Buf.lfs n l → l.getD (f - n).toNat 0 = 10
  | n, [], f, h => by simp [Buf.lfs] at h
  | n, c :: l, f, h => by
    have ih := lfs_ten (n + 1) l f
    have hb := Buf.lfs_bounds (n + 1) l f
    simp only [Buf.lfs] at h
    have key : f ∈ Buf.lfs (n + 1) l → (c :: l).getD (f - n).toNat 0 = 10 := fun hm => by
      have h1 := hb hm
      have h2 := ih hm
      rw [show (f - (n : Int)).toNat = (f - ((n + 1 : Nat) : Int)).toNat + 1 by omega]
      simpa using h2
    split at h
    · next hc =>
      rcases List.mem_cons.1 h with rfl | h
      · simp only [Int.sub_self, Int.toNat_zero, List.getD_cons_zero]
        exact hc
      · exact key h
    · exact key h
theorem pos_ten {y : List UInt8} {n : Int} (h0 : 0 ≤ n) (h1 : n < feedsL y) : y.getD (posL y n).toNat 0 = 10 := by
  unfold posL feedsL at *
  have hlt : n.toNat < (Buf.lfs 0 y).length := by omega
  have := lfs_ten 0 y ((Buf.lfs 0 y).getD n.toNat 0) (by simp [List.getD, hlt])
  simpa using this
theorem take_join {y : List UInt8} {p q : Nat} (h1 : p < q) (h2 : q ≤ y.length) (h3 : y.getD p 0 = 10) : y.take p ++ [10] ++ (y.drop (p + 1)).take (q - (p + 1)) = y.take q := by
  have hp : p < y.length := by omega
  have e1 : y.drop p = y.getD p 0 :: y.drop (p + 1) := by
    rw [List.drop_eq_getElem_cons hp]
    simp [List.getD, hp]
  have e2 : y.take q = y.take p ++ (y.drop p).take (q - p) := by
    conv => lhs; rw [show q = p + (q - p) by omega, List.take_add]
  rw [e2, e1, h3, show q - p = (q - (p + 1)) + 1 by omega, List.take_succ_cons, List.append_assoc]
  rfl
/-- what is put together behind so many lines. -/
def preB (s : ByteArray) : Nat → ByteArray
  | 0 => ⟨#[]⟩
  | c + 1 => s.extract 0 (toL s.data.toList c).toNat
theorem preB_first (s : ByteArray) : preB s 0 ++ lineB s 0 = preB s 1 := by
  refine Buf.bytes_ext ?_
  unfold preB lineB fromL
  rw [ByteArray.data_append, Array.toList_append]
  simp
theorem preB_next (s : ByteArray) {c : Nat} (h0 : 0 < c) (h1 : (c : Int) ≤ feedsL s.data.toList) : (preB s c ++ ⟨#[10]⟩) ++ lineB s c = preB s (c + 1) := by
  refine Buf.bytes_ext ?_
  obtain ⟨d, rfl⟩ : ∃ d, c = d + 1 := ⟨c - 1, by omega⟩
  have hb := span_bd (y := s.data.toList) (c := ((d + 1 : Nat) : Int)) (by omega) h1
  have hto : toL s.data.toList (d : Int) = posL s.data.toList d := by unfold toL; rw [if_pos (by omega)]
  have hfr : fromL s.data.toList ((d + 1 : Nat) : Int) = posL s.data.toList d + 1 := by unfold fromL; rw [if_neg (by omega), show ((d + 1 : Nat) : Int) - 1 = d by omega]
  have hten := pos_ten (y := s.data.toList) (n := d) (by omega) (by omega)
  have hm := posL_mem (y := s.data.toList) (n := d) (by omega) (by omega)
  unfold preB lineB
  rw [ByteArray.data_append, ByteArray.data_append, Array.toList_append, Array.toList_append, extract_list, extract_list, extract_list, hto, hfr]
  rw [hfr] at hb
  generalize posL s.data.toList (d : Int) = p at *
  generalize toL s.data.toList ((d + 1 : Nat) : Int) = q at *
  have hj := take_join (y := s.data.toList) (p := p.toNat) (q := q.toNat) (by omega) (by omega) hten
  rw [show (p + 1).toNat = p.toNat + 1 by omega]
  simpa using hj
theorem preB_size (s : ByteArray) (c : Nat) : (preB s c).size ≤ s.size := by
  cases c with
  | zero => exact Nat.zero_le _
  | succ c => unfold preB; rw [ByteArray.size_extract]; omega
theorem preB_all (s : ByteArray) {c : Nat} (h : feedsL s.data.toList = c) : preB s (c + 1) = s := by
  refine Buf.bytes_ext ?_
  unfold preB
  rw [extract_list]
  have e : toL s.data.toList c = s.data.toList.length := by unfold toL; rw [if_neg (by omega)]
  rw [e]
  simp only [List.drop_zero, Int.toNat_natCast, Nat.sub_zero]
  exact List.take_of_length_le (Nat.le_refl _)

set_option maxRecDepth 100000 in
set_option maxHeartbeats 4000000 in
theorem back_walk (l : List Dd) (A : Option Addr) (cap : Nat) (w : World) (hs : ddAt w A l) (hl : ∀ d ∈ l, d.text.size ≤ 2 ^ 63 - 1) :
    Calls Try.prog 7 #[.slice A l.length cap] w fun e w' => e = .returned (.bool true) ∧ Below w.heap.size w w' := by
  have HS := Lib.hid hs
  clear hs
  go_enter Try.func7, Try.ntmps7
  go_wp2_with fail
  ((with_reducible refine (awake24 _).mono ?_); rintro e w1 ⟨rfl, hb1⟩)
  have HBL := Lib.hid (build_any l A cap w1 ((HS.out.below hb1).more hb1.size) hl)
  have H1 := Lib.hid hb1
  clear hb1 HS
  go_wp2_with fail
  ((with_reducible refine HBL.out.mono ?_); rintro e W ⟨v, rfl, ⟨b, gs, gb, ga, rb, rf, q, Tv, Lv, s, rfl, hB, hI⟩⟩)
  have HB := Lib.hid (And.intro (H1.out.trans (hB.bl.mono H1.out.size)) (And.intro hB hI))
  clear hB hI HBL H1
  obtain ⟨At, ct, hTv, hT⟩ := HB.out.2.1.sn
  have hc := HB.out.2.1.c
  rw [hTv] at hc
  have c0 := Bw.cell HB.out.2.1.lt hc.1
  have c1 := Bw.cell HB.out.2.1.lt hc.2.1
  have hltb := Bw.lt HB.out.2.1.lt
  have hn41 := HB.out.2.2.le
  have hpos := HB.out.2.2.pos
  obtain ⟨k, hk⟩ : ∃ k, s.Ts.length = k + 1 := ⟨s.Ts.length - 1, by omega⟩
  have hkn2 : k < s.Ts.length := by omega
  obtain ⟨tb, toff, rfl, htl, htc⟩ := hT (by omega)
  have d1 := Bw.cell htl (htc k hkn2)
  have dl1 := Bw.lt htl
  have HRP := Lib.hid (fun w' (hb : Below W.heap.size W w') => (Inv.rop HB.out.2.2 hkn2 (HB.out.2.1.below hb).st).1)
  have hy8 := (Inv.rop HB.out.2.2 hkn2 HB.out.2.1.st).2
  rw [hk] at c1
  clear htc htl hTv hT hc
  have hk41 : (k : Int) ≤ 41 := by omega
  clear hn41 hpos hk hkn2
  generalize s.Ts.getD k 0 = t at d1 HRP
  generalize s.Ls.getD k ⟨#[]⟩ = y at HRP hy8
  have hyl : y.data.toList.length = y.size := rfl
  have hfl := feedsL_le y.data.toList
  have HSZ := Lib.hid (fun w' (hb : Below W.heap.size W w') => (HRP.out w' hb).size)
  rw [hyl] at HSZ
  have HAT := Lib.hid (fun (j : Nat) (hj : j ≤ y.size) w' (hb : Below W.heap.size W w') => at_any (j : Int) (HRP.out w' hb) (by omega) (by omega))
  have HPL := Lib.hid (show ∀ (j : Nat), j ≤ y.size → ∀ w', Below W.heap.size W w' → Calls Try.prog 27 #[.pointer (some ⟨gs, 0, none⟩), .int .i64 t, .int .i64 (aheadL y.data.toList j + 1), .int .i64 ((j : Int) - fromL y.data.toList (aheadL y.data.toList j) + 1)] w' fun e w'' => e = .returned (.tuple #[.int .i64 j, .int .i64 0]) ∧ Below w'.heap.size w' w'' from fun j hj w' hb => by
    have hsp := at_span (y := y.data.toList) (a := j) (by omega) (by omega)
    have h1 := place_any (aheadL y.data.toList j + 1) ((j : Int) - fromL y.data.toList (aheadL y.data.toList j) + 1) (HRP.out w' hb) (by omega)
    have h2 := place_back (y := y.data.toList) (a := j) (by omega) (by omega)
    rw [(placeV_eq _ _ _).2 (by rw [h2]; omega), h2] at h1
    exact h1)
  have HMO := Lib.hid (show ∀ (j : Nat), j ≤ y.size → aheadL y.data.toList ((j : Int) - 1) ≤ aheadL y.data.toList j ∧ aheadL y.data.toList j ≤ aheadL y.data.toList ((j : Int) - 1) + 1 ∧ 0 ≤ aheadL y.data.toList ((j : Int) - 1) ∧ aheadL y.data.toList j ≤ 800 from fun j hj => by
    have hbj := aheadL_bd y.data.toList j
    cases j with
    | zero =>
      have e1 : aheadL y.data.toList ((0 : Nat) : Int) = 0 := aheadL_low (by simp)
      have e2 : aheadL y.data.toList (((0 : Nat) : Int) - 1) = 0 := aheadL_low (by simp)
      rw [e1, e2]
      omega
    | succ i =>
      have h1 := (ahead_succ (y := y.data.toList) (i := i) (by omega)).1
      have h2 := aheadL_bd y.data.toList i
      rw [show ((i + 1 : Nat) : Int) - 1 = i by omega]
      split at h1 <;> omega)
  obtain ⟨m, hm⟩ : ∃ m : Nat, feedsL y.data.toList = m := ⟨(feedsL y.data.toList).toNat, by omega⟩
  have HCT := Lib.hid (fun w' (hb : Below W.heap.size W w') => count_any (HRP.out w' hb))
  rw [hm] at HCT
  have HTX := Lib.hid (show ∀ (c : Nat), c ≤ m → ∀ w', Below W.heap.size W w' → Calls Try.prog 32 #[.pointer (some ⟨gs, 0, none⟩), .int .i64 t, .int .i64 ((c : Int) + 1)] w' fun e w'' => e = .returned (.tuple #[.string (lineB y c), .int .i64 0]) ∧ Below w'.heap.size w' w'' from fun c hc w' hb => by
    have h1 := text_any (c : Int) (HRP.out w' hb) (by omega) (by omega) (by omega)
    rw [lineB_eq y (by omega) (by omega)] at h1
    exact h1)
  have HRD := Lib.hid (fun w' (hb : Below W.heap.size W w') => (HRP.out w' hb).read 0 y.size)
  simp only [(Kp.read_all9 (x := y) (by omega)).1, (Kp.read_all9 (x := y) (by omega)).2] at HRD
  have HLA := Lib.hid (And.intro (show aheadL y.data.toList ((y.size : Nat) : Int) = m by rw [← hm]; exact aheadL_all (by rw [hyl]; exact Int.le_refl _)) (And.intro hm (preB_all y hm)))
  have hm8 : m ≤ 800 := by omega
  have hwk : IntKind.i64.wrap ((k : Int) + 1 - 1) = k := by rw [IntWalk.i64_in _ (by omega)]; omega
  have hbr0 : Below W.heap.size W W := Below.refl _ _
  have e0 : W.cell? ⟨b, 0, none⟩ = _ := c0 ⟨W, hbr0⟩
  have e1 : W.cell? ⟨b, 1, none⟩ = _ := c1 ⟨W, hbr0⟩
  have eb : b < W.heap.size := hltb ⟨W, hbr0⟩
  clear hfl hm hyl
  go_wp2_with fail
  have hkk : (k : Int) < (k : Int) + 1 := by omega
  have hkk2 : (k : Int) < ((k + 1 : Nat) : Int) := by omega
  refine wp_region_wd (fun w' => Below W.heap.size W w') (by kernel_rfl) (by kernel_rfl) ((Below.refl _ _).drew) ?_
  repeat (go_big_quiet_step (with_reducible exact Bw.call (HSZ.out _ (Wd.h _))))
  refine wpQuiet_nil (wd_all ?_)
  intro w2 hb2
  have HB2 := Lib.hid hb2
  clear hb2 e0 e1 eb
  go_wp2_with fail
  go_loopw [7, 8] (fun la i wr => ∃ j : Nat, i = .int .i64 j ∧ j ≤ y.size + 1 ∧ la = .int .i64 (aheadL y.data.toList ((j : Int) - 1) + 1) ∧ Below W.heap.size W wr) (fun _ i _ => y.size + 1 - (intOf i).toNat)
  case atStart => exact ⟨0, rfl, by omega, by rw [aheadL_low (by simp)]; rfl, HB2.out⟩
  case round =>
    obtain ⟨j, rfl, hj, rfl, hbr⟩ := hrel
    have HBJ := Lib.hid hbr
    clear hbr
    by_cases hjn : j ≤ y.size
    · have hjn' : (j : Int) ≤ y.size := by omega
      have HA := Lib.hid (HAT.out j hjn)
      have HP := Lib.hid (HPL.out j hjn)
      have hmo := HMO.out j hjn
      obtain ⟨a0, ha0⟩ : ∃ a0, aheadL y.data.toList ((j : Int) - 1) = a0 := ⟨_, rfl⟩
      obtain ⟨a1, ha1⟩ : ∃ a1, aheadL y.data.toList j = a1 := ⟨_, rfl⟩
      rw [ha0, ha1] at hmo
      rw [ha1] at HA HP
      rw [ha0]
      have HAA := Lib.hid ha1
      clear ha0 ha1
      generalize (j : Int) - fromL y.data.toList a1 + 1 = cc at HA HP
      have hw1 : IntKind.i64.wrap (a0 + 1 + 1) = a0 + 1 + 1 := IntWalk.i64_in _ (by omega)
      have hc1 : ¬ (a1 + 1 < a0 + 1) := by omega
      have hc2 : ¬ (a1 + 1 > a0 + 1 + 1) := by omega
      go_wp2_with fail
      refine wp_region_wd (fun w' => Below W.heap.size W w') (by kernel_rfl) (by kernel_rfl) HBJ.out.drew ?_
      repeat (go_big_quiet_step (with_reducible exact Bw.call (HA.out _ (Wd.h _))))
      refine wpQuiet_nil (wd_all ?_)
      intro w3 hb3
      have HB3 := Lib.hid hb3
      clear hb3
      go_wp2_with fail
      refine wp_region_wd (fun w' => Below W.heap.size W w') (by kernel_rfl) (by kernel_rfl) HB3.out.drew ?_
      repeat (go_big_quiet_step (with_reducible exact Bw.call (HP.out _ (Wd.h _))))
      refine wpQuiet_nil (wd_all ?_)
      intro w4 hb4
      have HB4 := Lib.hid hb4
      clear hb4
      go_wp2_with fail
      go_roundw
      case rel => exact ⟨j + 1, by go_num, by omega, by rw [show ((j + 1 : Nat) : Int) - 1 = j by omega, HAA.out], HB4.out⟩
      case measure => simp [intOf]; omega
    · obtain rfl : j = y.size + 1 := by omega
      have hjn' : ¬ ((y.size : Int) + 1 ≤ y.size) := by omega
      have hjn2 : ¬ (((y.size + 1 : Nat) : Int) ≤ y.size) := by omega
      rw [show ((y.size + 1 : Nat) : Int) - 1 = (y.size : Nat) by omega, HLA.out.1]
      go_wp2_with fail
      refine wp_region_wd (fun w' => Below W.heap.size W w') (by kernel_rfl) (by kernel_rfl) HBJ.out.drew ?_
      repeat (go_big_quiet_step (with_reducible exact Bw.call (HCT.out _ (Wd.h _))))
      refine wpQuiet_nil (wd_all ?_)
      intro w3 hb3
      have HB3 := Lib.hid hb3
      clear hb3
      go_wp2_with fail
      go_loopw [16, 17] (fun all i wr => ∃ c : Nat, i = .int .i64 ((c : Int) + 1) ∧ c ≤ m + 1 ∧ all = .string (preB y c) ∧ Below W.heap.size W wr) (fun _ i _ => m + 2 - (intOf i).toNat)
      case atStart => exact ⟨0, rfl, by omega, rfl, HB3.out⟩
      case round =>
        obtain ⟨c, rfl, hc, rfl, hbr⟩ := hrel
        have HBC := Lib.hid hbr
        clear hbr
        by_cases hcm : c ≤ m
        · have hcm' : (c : Int) + 1 ≤ (m : Int) + 1 := by omega
          have HT := Lib.hid (HTX.out c hcm)
          have hwc : IntKind.i64.wrap ((c : Int) + 1 + 1) = (c : Int) + 1 + 1 := IntWalk.i64_in _ (by omega)
          by_cases hc0 : c = 0
          · subst hc0
            have hpf := Lib.hid (preB_first y)
            have HT0 := Lib.hid (show ∀ w', Below W.heap.size W w' → Calls Try.prog 32 #[.pointer (some ⟨gs, 0, none⟩), .int .i64 t, .int .i64 1] w' fun e w'' => e = .returned (.tuple #[.string (lineB y 0), .int .i64 0]) ∧ Below w'.heap.size w' w'' from HT.out)
            have hsz := congrArg ByteArray.size (preB_first y)
            have hsz1 := preB_size y 1
            rw [ByteArray.size_append] at hsz
            generalize hp1 : preB y 1 = p1 at hsz hsz1 hpf
            have HP1 := Lib.hid hp1
            generalize lineB y 0 = ln at HT0 hpf hsz
            generalize preB y 0 = p0 at hpf hsz ⊢
            have hlt : ¬ (9223372036854775807 < p0.size + ln.size) := by omega
            clear hsz hsz1 hp1
            go_wp2_with fail
            refine wp_region_wd (fun w' => Below W.heap.size W w') (by kernel_rfl) (by kernel_rfl) HBC.out.drew ?_
            repeat (go_big_quiet_step (with_reducible exact Bw.call (HT0.out _ (Wd.h _))))
            refine wpQuiet_nil (wd_all ?_)
            intro w5 hb5
            have HB5 := Lib.hid hb5
            clear hb5
            go_wp2_with fail
            go_roundw
            case rel => exact ⟨1, by first | rfl | go_num, by omega, by first | (rw [HP1.out, ← hpf.out]; done) | (rw [HP1.out, ← hpf.out]; rfl), HB5.out⟩
            case measure => first | (simp [intOf]; done) | (simp [intOf]; omega)
          · have hpn := Lib.hid (preB_next y (c := c) (by omega) (by rw [HLA.out.2.1]; omega))
            have hc1 : (c : Int) + 1 > 1 := by omega
            have hsz := congrArg ByteArray.size hpn.out
            have hsz1 := preB_size y (c + 1)
            rw [ByteArray.size_append, ByteArray.size_append, show ByteArray.size ⟨#[10]⟩ = 1 from rfl] at hsz
            generalize hp1 : preB y (c + 1) = p1 at hsz hsz1 hpn
            have HP1 := Lib.hid hp1
            generalize lineB y (c : Int) = ln at HT hpn hsz
            generalize preB y c = p0 at hpn hsz ⊢
            have hlt : ¬ (9223372036854775807 < p0.size + 1) := by omega
            have hlt2 : ¬ (9223372036854775807 < p0.size + 1 + ln.size) := by omega
            have hlt3 : ¬ (9223372036854775807 < (p0 ++ ⟨#[10]⟩ : ByteArray).size + ln.size) := by rw [ByteArray.size_append, show ByteArray.size ⟨#[10]⟩ = 1 from rfl]; omega
            clear hsz hsz1 hp1
            go_wp2_with fail
            refine wp_region_wd (fun w' => Below W.heap.size W w') (by kernel_rfl) (by kernel_rfl) HBC.out.drew ?_
            repeat (go_big_quiet_step (with_reducible exact Bw.call (HT.out _ (Wd.h _))))
            refine wpQuiet_nil (wd_all ?_)
            intro w5 hb5
            have HB5 := Lib.hid hb5
            clear hb5
            go_wp2_with fail
            go_roundw
            case rel => exact ⟨c + 1, by go_num, by omega, by rw [HP1.out, ← hpn.out], HB5.out⟩
            case measure => simp [intOf]; omega
        · obtain rfl : c = m + 1 := by omega
          have hcm' : ¬ (((m + 1 : Nat) : Int) + 1 ≤ (m : Int) + 1) := by omega
          have hcm2 : ¬ ((m : Int) + 1 + 1 ≤ (m : Int) + 1) := by omega
          rw [HLA.out.2.2]
          go_wp2_with fail
          refine wp_region_wd (fun w' => Below W.heap.size W w') (by kernel_rfl) (by kernel_rfl) HBC.out.drew ?_
          repeat (go_big_quiet_step (with_reducible exact Bw.call (HRD.out _ (Wd.h _))))
          refine wpQuiet_nil (wd_all ?_)
          intro w6 hb6
          have HB6 := Lib.hid hb6
          clear hb6
          go_wp2_with fail
          go_ret
          exact ⟨rfl, HB.out.1.trans (HB6.out.mono HB.out.1.size)⟩
end Go.Proofs.Ytoeamnagmehpeaa.Ln
