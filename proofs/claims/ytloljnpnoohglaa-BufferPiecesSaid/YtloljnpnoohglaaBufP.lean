/- The walk of BufferPieces. -/
import Derived.Test.YtloljnpnoohglaaBufW
namespace Go.Proofs.Ytloljnpnoohglaa.Buf
set_option linter.unusedSimpArgs false
set_option linter.unusedVariables false
open Go Go.RowKit Go.Lib
open Go.Proofs.Ytloljnpnoohglaa.Vec (SlI iv)
attribute [local go_sem] lt_add1 lt_self1 size_ne size_ne' size_ne1 size_ne1'
attribute [local irreducible] wpGrow

theorem piece_size (S : ByteArray) (o m : Nat) (h : o + m ≤ S.size) : (S.extract o (o + m)).size = m := by
  rw [ByteArray.size_extract]; omega
theorem at_out (S : ByteArray) (i : Int) (h : ¬ (0 ≤ i ∧ i < S.size)) : atV S i = 0 ∧ atB S i = false := ⟨by unfold atV; rw [if_neg h], decide_eq_false h⟩
theorem not_there (S : ByteArray) (off k : Int) (h : thereB S.size off k = false) : sliceV S off k = ⟨#[]⟩ ∧ feedsV S off k = -1 ∧ ∀ j, feedV S off k j = 0 ∧ feedB S off k j = false := by
  have e : feedsV S off k = -1 := by simp [feedsV, h]
  refine ⟨by simp [sliceV, h], e, fun j => ?_⟩
  have hn : ¬ (0 ≤ j ∧ j < feedsV S off k) := by rw [e]; omega
  exact ⟨by unfold feedV; rw [if_neg hn], decide_eq_false hn⟩
theorem there_nat (S : ByteArray) (o m : Nat) (h : o + m ≤ S.size) : thereB S.size o m = true ∧ sliceV S o m = S.extract o (o + m) ∧ feedsV S o m = (lfs 0 (S.extract o (o + m)).data.toList).length := by
  have e : thereB S.size o m = true := by simp [thereB]; omega
  refine ⟨e, by simp [sliceV, e], ?_⟩
  unfold feedsV
  rw [if_pos e, cnt_piece S o m h]
  omega
/-- a line feed of a piece, as the page says. -/
theorem feed_want (S : ByteArray) (o m k : Nat) (h : o + m ≤ S.size) :
    (feedB S o m k = false ∧ feedV S o m k = 0 ∧ ((lfs 0 (S.extract o (o + m)).data.toList)[k]?).getD (-1) = -1) ∨
    (feedB S o m k = true ∧ ∃ v : Nat, ((lfs 0 (S.extract o (o + m)).data.toList)[k]?).getD (-1) = v ∧ v ≤ 1000000 + S.size ∧ feedV S o m k = o + v) := by
  have e := (there_nat S o m h).2.2
  by_cases hk : k < (lfs 0 (S.extract o (o + m)).data.toList).length
  · right
    have hy : 0 ≤ (k : Int) ∧ (k : Int) < feedsV S o m := by rw [e]; omega
    refine ⟨decide_eq_true hy, ?_⟩
    have hfp := feed_piece S o m k h hk
    have hb := lfs_bounds 0 (S.extract o (o + m)).data.toList _ (List.getElem_mem hk)
    have hz : (S.extract o (o + m)).data.toList.length = m := piece_size S o m h
    rw [hz] at hb
    refine ⟨((lfs 0 (S.extract o (o + m)).data.toList)[k]).toNat, ?_, by omega, ?_⟩
    · rw [List.getElem?_eq_getElem hk, Option.getD_some]; omega
    · unfold feedV
      rw [if_pos hy]
      have e1 : (k : Int).toNat = k := rfl
      rw [e1, hfp]
      simp only [List.getD, List.getElem?_eq_getElem hk, Option.getD_some]
      omega
  · left
    have hn : ¬ (0 ≤ (k : Int) ∧ (k : Int) < feedsV S o m) := by rw [e]; omega
    exact ⟨decide_eq_false hn, by unfold feedV; rw [if_neg hn], by rw [List.getElem?_eq_none (by omega)]; rfl⟩

set_option maxRecDepth 100000 in
set_option maxHeartbeats 4000000 in
theorem pieces_walk (l0 : List ByteArray) (A0 : Option Addr) (cap0 : Nat) (off n kk : Int) (hkk : kk ≤ 9223372036854775807) (w : World) (hs : SlI w w.heap.size l0.length A0 (sv l0)) :
    Calls Try.prog 11 #[.slice A0 l0.length cap0, .agg #[.int .i64 off, .int .i64 n], .int .i64 kk] w fun e w' => e = .returned (.bool true) ∧ Below w.heap.size w w' := by
  have HS := Lib.hid hs
  clear hs
  go_enter Try.func11, Try.ntmps11
  go_wp2_with fail
  have hbW : Below w.heap.size w (w.alloc (.cells #[.int .i64 off, .int .i64 n] 81)) := by (repeat (first | exact Below.refl _ _ | assumption | (refine Below.setCell ?_ (by first | (simp; done) | (simp; omega) | omega) _) | (refine Below.alloc ?_ (by first | (simp; done) | (simp; omega) | omega) _) | (refine Below.drew ?_) | (refine Below.drewN ?_ _) | (refine Below.trans ?_ (Below.mono (by assumption) (by first | (simp; done) | (simp; omega) | omega)))))
  have hsW : w.heap.size < (w.alloc (.cells #[.int .i64 off, .int .i64 n] 81)).heap.size := by simp
  have q0 : (w.alloc (.cells #[.int .i64 off, .int .i64 n] 81)).cell? ⟨w.heap.size, 0, none⟩ = some (.int .i64 off) := World.cell?_alloc_new w _ _ 0
  have q1 : (w.alloc (.cells #[.int .i64 off, .int .i64 n] 81)).cell? ⟨w.heap.size, 1, none⟩ = some (.int .i64 n) := World.cell?_alloc_new w _ _ 1
  generalize w.alloc (.cells #[.int .i64 off, .int .i64 n] 81) = W at hbW hsW q0 q1 ⊢
  refine (awake_any _).mono ?_
  rintro e w0 ⟨rfl, hb0⟩
  have f0 := (hb0.cell (p := ⟨w.heap.size, 0, none⟩) hsW).trans q0
  have f1 := (hb0.cell (p := ⟨w.heap.size, 1, none⟩) hsW).trans q1
  have hs0 : w.heap.size < w0.heap.size := Nat.lt_of_lt_of_le hsW hb0.size
  have HB0 := Lib.hid (hbW.trans (hb0.mono (by omega)))
  clear hbW q0 q1 hb0
  go_wp2_with fail
  refine (few_any l0 A0 cap0 _ (HS.out.next HB0.out)).mono ?_
  rintro e w1 ⟨Q, c, rfl, hq, hb1⟩
  have f0 := (hb1.cell (p := ⟨w.heap.size, 0, none⟩) hs0).trans f0
  have f1 := (hb1.cell (p := ⟨w.heap.size, 1, none⟩) hs0).trans f1
  have hs1 : w.heap.size < w1.heap.size := Nat.lt_of_lt_of_le hs0 hb1.size
  have hfl := few_len l0
  have hfs := few_size l0
  have HQ := Lib.hid (And.intro hq (And.intro (HB0.out.trans (hb1.mono HB0.out.size)) hfs))
  clear hq hb1 HB0 HS hfs
  generalize fewL l0 = l at HQ hfl ⊢
  go_wp2_with fail
  refine (new_any _).mono ?_
  rintro e w2 ⟨rfl, hb, hbel, hz⟩
  have H2 := Lib.hid (Own.new hb HQ.out.2.1 HQ.out.2.1.size hbel)
  have HQ2 := Lib.hid (HQ.out.1.below hbel)
  have hBw : w1.heap.size ≤ w2.heap.size := by omega
  have hge : ∀ b, foot w1.heap.size none none b → w1.heap.size ≤ b := foot_ge (Nat.le_refl _) (fun _ h => by cases h) (fun _ h => by cases h)
  have f0 := (hbel.cell (p := ⟨w.heap.size, 0, none⟩) hs1).trans f0
  have f1 := (hbel.cell (p := ⟨w.heap.size, 1, none⟩) hs1).trans f1
  have HG2 := Lib.hid (And.intro hge (And.intro f0 f1))
  generalize hgg : w1.heap.size = g at H2 HQ2 HG2 hBw hs1 ⊢
  clear hb hbel hz hge f0 f1
  go_wp2_with fail
  go_loopw [8, 9] (fun v i wr => ∃ (k : Nat) (rb rf : Option Nat), k ≤ l.length ∧ i = .int .i64 k ∧ v = .string (cat (l.take k)) ∧ (cat (l.take k)).size ≤ 60 * k ∧ Own w.heap.size w wr g rb rf (cat (l.take k)) ∧ SlI wr g l.length Q (sv l) ∧ g ≤ wr.heap.size ∧ (∀ b, foot g rb rf b → g ≤ b) ∧ wr.cell? ⟨w.heap.size, 0, none⟩ = some (.int .i64 off) ∧ wr.cell? ⟨w.heap.size, 1, none⟩ = some (.int .i64 n)) (fun _ i _ => l.length - (intOf i).toNat)
  case atStart => exact ⟨0, none, none, by omega, rfl, rfl, (by rw [List.take_zero]; decide), H2.out, HQ2.out, hBw, HG2.out.1, HG2.out.2.1, HG2.out.2.2⟩
  case round =>
    obtain ⟨k, rb, rf, hk, rfl, rfl, hsz, ho, hsl, hgz, hfg, f0, f1⟩ := hrel
    have H := Lib.hid (And.intro ho (And.intro hsl hfg))
    clear ho hsl H2 HQ2 hfg HG2
    by_cases hks : k < l.length
    · obtain ⟨b, off', rfl, hbl, hcs⟩ := H.out.2.1 (by omega)
      have f3 : wr.cell? ⟨b, off' + k, none⟩ = some (.string (l.getD k ⟨#[]⟩)) := hcs k hks
      have hct := cat_take l k hks
      have hss := HQ.out.2.2 k hks
      have hk0 : (0 : Int) ≤ k := by omega
      have hk1 : (k : Int) < l.length := by omega
      have HC := Lib.hid hct
      generalize l.getD k ⟨#[]⟩ = s at f3 HC hss
      generalize hS : cat (l.take k) = S at HC H hsz
      clear hcs hct
      go_wp2_with fail
      refine (add_any _ _ _ S s _ H.out.1.buf (by omega)).mono ?_
      rintro e w4 ⟨rb4, rf4, rfl, hb4, hf4⟩
      have f3 : w4.cell? ⟨b, off' + k, none⟩ = some (.string s) := (hf4.cell (by omega) (fun hf => by have := H.out.2.2 b hf; omega) _).trans f3
      have f0 := (hf4.cell (b := w.heap.size) (by omega) (fun hf => by have := H.out.2.2 _ hf; omega) 0).trans f0
      have f1 := (hf4.cell (b := w.heap.size) (by omega) (fun hf => by have := H.out.2.2 _ hf; omega) 1).trans f1
      have hbw4 : b < w4.heap.size := hf4.lt (by omega)
      have hgz4 : g ≤ w4.heap.size := Nat.le_trans hgz hf4.size
      have hfg4 := hf4.ge H.out.2.2 hgz
      have hsl4 : SlI w4 g l.length (some ⟨b, off', none⟩) (sv l) := fun hn => by
        obtain ⟨b', off', e, hl', hc'⟩ := H.out.2.1 hn
        exact ⟨b', off', e, hl', fun i hi => (hf4.cell (by omega) (fun hf => by have := H.out.2.2 b' hf; omega) _).trans (hc' i hi)⟩
      have hsum : (S ++ s).size = S.size + s.size := append_size S s
      have H4 := Lib.hid (And.intro (H.out.1.step hb4 hf4) (And.intro hsl4 (And.intro hfg4 (And.intro f0 f1))))
      have HSS := Lib.hid hsum
      clear hb4 hf4 H hsum hsl4 hfg4 f0 f1
      go_wp2
      go_roundw
      case rel => exact ⟨k + 1, rb4, rf4, by omega, by go_num, by rw [HC.out], by rw [HC.out, HSS.out]; omega, by rw [HC.out]; exact H4.out.1, H4.out.2.1, hgz4, H4.out.2.2.1, H4.out.2.2.2.1, H4.out.2.2.2.2⟩
      case measure => simp [intOf]; omega
    · obtain rfl : k = l.length := by omega
      generalize hS : cat (l.take l.length) = S at H hsz
      have hS1 : S.size ≤ 1200 := by omega
      have hgw : w.heap.size < wr.heap.size := by omega
      go_upto_region 11 with fail
      go_quiet (fail)
      have H3 := Lib.hid (H.out.1.below (w' := wr.drewN nq) (Below.drewN (Below.refl _ _) _))
      have hgw : w.heap.size ≤ wr.heap.size := by omega
      clear f0 f1 H HQ hgz hs1 hsW hs0 hBw
      generalize wr.drewN nq = W3 at H3 ⊢
      have HA1 := Lib.hid (fun (V : World) (h : BufS V g rb rf S) => slice_any g rb rf S _ off n V h (by omega))
      have HA2 := Lib.hid (fun (V : World) (h : BufS V g rb rf S) => feed_any g rb rf S off n kk V h (by omega))
      have HA3 := Lib.hid (fun (V : World) (h : BufS V g rb rf S) => at_any g rb rf S _ off V h (by omega))
      have HA4 := Lib.hid (fun (V : World) (h : BufS V g rb rf S) => feeds_any g rb rf S off n V h (by omega))
      go_wp2_with fail
      refine (HA1.out _ H3.out.buf).mono ?_
      rintro e w4 ⟨rfl, rfl⟩
      go_wp2_with fail
      refine (HA2.out _ H3.out.buf).mono ?_
      rintro e w5 ⟨rfl, hb5⟩
      have H5 := Lib.hid (H3.out.below hb5)
      clear hb5 H3
      go_wp2_with fail
      refine (HA3.out _ H5.out.buf).mono ?_
      rintro e w6 ⟨rfl, rfl⟩
      have hat : (∃ o : Nat, ∃ h : o < S.size, off = o ∧ atV S off = (S[o].toNat : Int) ∧ atB S off = true) ∨ (¬ (0 ≤ off ∧ off < S.size) ∧ atV S off = 0 ∧ atB S off = false) := by
        by_cases hin : 0 ≤ off ∧ off < S.size
        · have e : off = (off.toNat : Int) := by omega
          refine .inl ⟨off.toNat, by omega, e, ?_⟩
          have := at_in S off.toNat (by omega)
          rwa [← e] at this
        · exact .inr ⟨hin, (at_out S off hin).1, (at_out S off hin).2⟩
      generalize atV S off = av at hat ⊢
      generalize atB S off = ab at hat ⊢
      have HAT := Lib.hid hat
      clear hat
      go_upto_region 15 with fail
      go_cut [95] (fun v wx => v = .bool false ∧ w5 = wx)
      case first =>
        rcases HAT.out with ⟨o, hos, rfl, rfl, rfl⟩ | ⟨hin, rfl, rfl⟩
        · have ho0 : (0 : Int) ≤ o := by omega
          have ho1 : (o : Int) < S.size := by omega
          go_wp2_with fail
          go_meet
          exact ⟨by first | rfl | (simp; done) | (simp; omega), rfl⟩
        · by_cases h1 : 0 ≤ off
          · have h2 : decide (off < (S.size : Int)) = false := decide_eq_false (fun h => hin ⟨h1, h⟩)
            go_wp2_with fail
            go_meet
            exact ⟨by first | rfl | (simp; done) | (simp; omega), rfl⟩
          · go_wp2_with fail
            go_meet
            exact ⟨by first | rfl | (simp; done) | (simp; omega), rfl⟩
      case rest =>
      obtain ⟨rfl, hw9⟩ := hcut
      subst hw9
      cases hth : thereB S.size off n
      · obtain ⟨e1, e2, e3⟩ := not_there S off n hth
        rw [e1, (e3 kk).1, (e3 kk).2]
        have HT := Lib.hid (rthere_any S.size off n (by omega) (by omega) w5)
        have HF := Lib.hid (HA4.out _ H5.out.buf)
        rw [hth] at HT
        rw [e2] at HF
        clear e1 e2 e3 hth
        go_wp2_with fail
        refine HT.out.mono ?_
        rintro e w7 ⟨rfl, rfl⟩
        go_wp2_with (go_at_call 49; refine HF.out.mono ?_; rintro e w8 ⟨rfl, hb8⟩)
        go_ret
        exact ⟨rfl, (H5.out.below (by assumption)).bel⟩
      · have hr : 0 ≤ off ∧ 0 ≤ n ∧ off ≤ S.size ∧ n ≤ S.size - off := by simp [thereB] at hth; omega
        obtain ⟨o, rfl⟩ : ∃ o : Nat, off = o := ⟨off.toNat, by omega⟩
        obtain ⟨m, rfl⟩ : ∃ m : Nat, n = m := ⟨n.toNat, by omega⟩
        have hom : o + m ≤ S.size := by omega
        have hw : IntKind.i64.wrap ((o : Int) + m) = o + m := IntWalk.i64_in _ (by omega)
        obtain ⟨_, e2, e3⟩ := there_nat S o m hom
        have hpz := piece_size S o m hom
        have HT := Lib.hid (rthere_any S.size o m (by omega) (by omega) w5)
        have HF := Lib.hid (fun (V : World) (h : BufS V g rb rf S) => by have := HA4.out V h; rwa [e3] at this)
        rw [hth] at HT
        rw [e2]
        have HRF := Lib.hid (fun (V : World) => rfeeds_any (S.extract o (o + m)) (by omega) V)
        have HFW := Lib.hid (fun (K : Nat) => feed_want S o m K hom)
        have HRG := Lib.hid (fun (K : Nat) (hK : K ≤ 9223372036854775807) (V : World) => rfeed_any (S.extract o (o + m)) (by omega) K hK V)
        have ho0 : (0 : Int) ≤ o := by omega
        have ho1 : (o : Int) ≤ o + m := by omega
        have ho2 : (o : Int) + m ≤ S.size := by omega
        have hto : ((o : Int) + m).toNat = o + m := by omega
        clear hth e2 e3 hr hpz
        by_cases hk0 : 0 ≤ kk
        · obtain ⟨K, rfl⟩ : ∃ K : Nat, kk = K := ⟨kk.toNat, by omega⟩
          have HG := Lib.hid (fun V => HRG.out K (by omega) V)
          rcases HFW.out K with ⟨e1, e2, e3⟩ | ⟨e1, v, e2, e3, e4⟩
          · rw [e1, e2]
            rw [e3] at HG
            clear e1 e2 e3
            go_wp2_with fail
            refine HT.out.mono ?_
            rintro e w7 ⟨rfl, rfl⟩
            go_wp2_with fail
            refine (HG.out _).mono ?_
            rintro e w8 ⟨rfl, hb8⟩
            have H8 := Lib.hid (H5.out.below hb8)
            clear hb8
            go_wp2_with fail
            refine (HF.out _ H8.out.buf).mono ?_
            rintro e w9 ⟨rfl, hb9⟩
            have H9 := Lib.hid (H8.out.below hb9)
            clear hb9
            go_wp2_with fail
            refine (HRF.out _).mono ?_
            rintro e wz ⟨rfl, hbz⟩
            have HZ := Lib.hid (H9.out.below hbz)
            clear hbz
            go_wp2
            go_ret
            exact ⟨rfl, HZ.out.bel⟩
          · rw [e1, e4]
            rw [e2] at HG
            have hw2 : IntKind.i64.wrap ((o : Int) + v) = o + v := IntWalk.i64_in _ (by omega)
            have hv0 : ¬ (v : Int) < 0 := by omega
            clear e1 e2 e4
            go_wp2_with fail
            refine HT.out.mono ?_
            rintro e w7 ⟨rfl, rfl⟩
            go_wp2_with fail
            refine (HG.out _).mono ?_
            rintro e w8 ⟨rfl, hb8⟩
            have H8 := Lib.hid (H5.out.below hb8)
            clear hb8
            go_wp2_with fail
            refine (HF.out _ H8.out.buf).mono ?_
            rintro e w9 ⟨rfl, hb9⟩
            have H9 := Lib.hid (H8.out.below hb9)
            clear hb9
            go_wp2_with fail
            refine (HRF.out _).mono ?_
            rintro e wz ⟨rfl, hbz⟩
            have HZ := Lib.hid (H9.out.below hbz)
            clear hbz
            go_wp2
            go_ret
            exact ⟨rfl, HZ.out.bel⟩
        · have hn : ¬ (0 ≤ kk ∧ kk < feedsV S o m) := by omega
          have e1 : feedV S o m kk = 0 := by unfold feedV; rw [if_neg hn]
          have e2 : feedB S o m kk = false := decide_eq_false hn
          rw [e1, e2]
          have H8 := H5
          clear hn e1 e2
          go_wp2_with fail
          refine HT.out.mono ?_
          rintro e w7 ⟨rfl, rfl⟩
          go_wp2_with fail
          refine (HF.out _ H8.out.buf).mono ?_
          rintro e w9 ⟨rfl, hb9⟩
          have H9 := Lib.hid (H8.out.below hb9)
          clear hb9
          go_wp2_with fail
          refine (HRF.out _).mono ?_
          rintro e wz ⟨rfl, hbz⟩
          have HZ := Lib.hid (H9.out.below hbz)
          clear hbz
          go_wp2
          go_ret
          exact ⟨rfl, HZ.out.bel⟩
end Go.Proofs.Ytloljnpnoohglaa.Buf
