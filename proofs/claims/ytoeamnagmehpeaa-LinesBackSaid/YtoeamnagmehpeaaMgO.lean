/- Layer 26: Compact. */ -/
import Derived.Test.YtoeamnagmehpeaaMgN
import Derived.Deep.DeepCutAuto
namespace Go.Proofs.Ytoeamnagmehpeaa.Kp
set_option linter.unusedSimpArgs false
set_option linter.unusedVariables false
open Go Go.RowKit Go.Proofs.Ytoeamnagmehpeaa.Rp Go.Proofs.Ytoeamnagmehpeaa.Wk
open Go.Proofs.Ytoeamnagmehpeaa.Ar (T Is Ext WF Knot getK getB getS Arena resAr small leafK pairK)
attribute [local go_sem] lt_add1 lt_self1 size_ne size_ne' size_ne1 size_ne1'
attribute [local irreducible] wpGrow wpThr wpThx

theorem mover_eg : ∀ args w, (callFunc 65 args).run Try.prog w = .ok (.enter 65 args) w := enters_of Try.func65 (by kernel_rfl) rfl
section
variable (gs gb ga : Nat) (rb rf q : Option Nat) (S : ByteArray) (ks : List Knot)
/-- the mover at its beginning. -/
theorem mv_start {w W : World} {bv bt ts tb ta : Nat} (h : St w gs gb ga rb rf q S ks) (hb : Below w.heap.size w W) (h1 : St W ts tb ta none none none ⟨#[]⟩ []) (h2 : MapI W bt 0 (fun _ => none)) (h3 : W.heap[bv]? = some (mvO gs ts bt))
    (l1 : w.heap.size ≤ ts) (l2 : w.heap.size ≤ tb) (l3 : w.heap.size ≤ ta) (l4 : w.heap.size ≤ bt) (n1 : bt ≠ ts) (n2 : bt ≠ tb) (n3 : bt ≠ ta) (n4 : bv ≠ ts) (n5 : bv ≠ tb) (n6 : bv ≠ ta) (n7 : bv ≠ bt) :
    (resMv bv (mvO gs ts bt) bt ts tb ta gs gb ga rb rf q S ks).at_ W (fun b => (sfoot tb ta none none none b ∨ b = ts) ∨ b = bt) ((fun _ => none, 0), (⟨#[]⟩, [])) ∧ Fr w (fun _ => False) W (fun b => (sfoot tb ta none none none b ∨ b = ts) ∨ b = bt) := by
  have hf : ∀ b, sfoot tb ta none none none b ↔ (b = tb ∨ b = ta) := fun b => by
    unfold sfoot Buf.foot Ar.foot
    simp
  have hge : ∀ b, ((sfoot tb ta none none none b ∨ b = ts) ∨ b = bt) → w.heap.size ≤ b := fun b hb => by
    rw [hf] at hb
    omega
  refine ⟨⟨resV_mk _ _ gs gb ga rb rf q S ks (F1 := fun b => sfoot tb ta none none none b ∨ b = ts) (fun b => Iff.rfl) ⟨sfoot tb ta none none none, fun b => Iff.rfl, resSt_at h1⟩ (by rw [hf]; omega) h2 ⟨h.below hb, fun k hk e => ?_, fun e => ?_⟩, h3, by show ¬ ((sfoot tb ta none none none bv ∨ bv = ts) ∨ bv = bt); rw [hf]; omega⟩, ⟨hb.os, hb.tape, hb.output, hb.size, fun b hb' _ => hb.block b hb', fun b hb' => .inr (hge b hb')⟩⟩
  · have := h.foot_lt hk; have := hge k e; omega
  · have := h.lt; have := hge gs e; omega

/-- the mover, and what is seen. -/
abbrev resC (bm bv bt ts tb ta : Nat) := resV (resMv bv (mvO gs ts bt) bt ts tb ta gs gb ga rb rf q S ks) bm gs gb ga rb rf q S ks
/-- blocks that are nobody's. -/
theorem resC_keep {bm bv bt ts tb ta : Nat} {w w' : World} {F G G' : Nat → Prop} {s : Vs (Vs Sst)} (h : (resC gs gb ga rb rf q S ks bm bv bt ts tb ta).at_ w F s) (hf : Fr w G w' G') (hd : ∀ b, F b → ¬ G b) (hs : ∀ k, sfoot gb ga rb rf q k → ¬ G k) (hg : ¬ G gs) (hv : ¬ G bv) :
    (resC gs gb ga rb rf q S ks bm bv bt ts tb ta).at_ w' F s := by
  obtain ⟨F1, h1, h2, h3, h4, h5⟩ := resV_of _ _ _ _ _ _ _ _ _ _ h
  obtain ⟨g0, gb1, gb2⟩ := h2
  obtain ⟨F2, g1, g2, g3, g4, g5⟩ := resV_of _ _ _ _ _ _ _ _ _ _ g0
  have d1 : ∀ b, F1 b → ¬ G b := fun b hb => hd b ((h1 b).2 (.inl hb))
  refine resV_mk _ _ _ _ _ _ _ _ _ _ h1 ⟨resV_mk _ _ _ _ _ _ _ _ _ _ g1 (keepsTo ts tb ta g2 hf fun b hb => d1 b ((g1 b).2 (.inl hb))) g3 (g4.fr hf (d1 bt ((g1 bt).2 (.inr rfl)))) ⟨Rp.St.keep g5.1 hf hs hg, g5.2⟩, hf.block gb1 hv, gb2⟩ h3 (h4.fr hf (hd bm ((h1 bm).2 (.inr rfl)))) ⟨Rp.St.keep h5.1 hf hs hg, h5.2⟩
abbrev visD (l : List Int) : List Int := (visL ks (ks.length + 1) l (fun _ => none)).2
abbrev visS (l : List Int) : Vs Sst := (visD ks l).foldl (stepM S ks) ((fun _ => none, 0), (⟨#[]⟩, []))

/-- behind Compact. -/
structure CompactP (l : List Int) (w : World) (e : Ending) (w' : World) : Prop where
  ex : ∃ ts tb ta rb' rf' q' ov done s, e = .returned (.tuple #[.pointer (some ⟨ts, 0, none⟩), ov, .int .i64 0]) ∧ Kept S ks l done s ∧ St w' ts tb ta rb' rf' q' s.2.1 s.2.2 ∧
      OwnI w' w.heap.size ov (l.map (gM s)) ∧ (∀ k, sfoot tb ta rb' rf' q' k → w.heap.size ≤ k) ∧ w.heap.size ≤ ts ∧ (∀ k, ov.ownBlock = some k → ¬ sfoot tb ta rb' rf' q' k ∧ k ≠ ts) ∧ Below w.heap.size w w'
set_option maxRecDepth 100000 in
set_option maxHeartbeats 4000000 in
theorem compact_any (w : World) (v : Value) (l : List Int) (h : St w gs gb ga rb rf q S ks) (hw : WF ks) (hks : ks.length ≤ 840000) (hS : S.size ≤ 1000000) (hv : SlN w v l) (hl : ∀ t ∈ l, ∃ X, Is ks t X ∧ Rp.Good S X ∧ X.size ≤ 900) (hn : l.length ≤ 100) :
    Calls Try.prog 18 #[.pointer (some ⟨gs, 0, none⟩), v] w (CompactP S ks l w) := by
  have hsm : ks.length ≤ small := by unfold small; omega
  have HT := Lib.hid (there_any gs gb ga rb rf q S ks _ v l h hsm hv (fun t ht => by obtain ⟨X, hX, _⟩ := hl t ht; exact ⟨X, hX⟩) (by omega))
  have HH := Lib.hid (And.intro h (And.intro hv (And.intro hw hS)))
  obtain ⟨A, c, rfl, hc⟩ := hv
  have hmm := @run_makeMap Try.prog
  have hn' : (l.length : Int) ≤ 1000 := by omega
  clear h hc
  go_enter Try.func18, Try.ntmps18
  go_wp2_with fail
  ((with_reducible refine HT.out.mono ?_); rintro e w1 ⟨rfl, hb1⟩)
  have H1 := Lib.hid hb1
  clear hb1 HT
  go_wp2_with fail
  ((with_reducible refine (rnew_any _).mono ?_); rintro e w2 ⟨ts, tb, ta, rfl, h1, hb2, l1, l2, l3⟩)
  have H2 := Lib.hid (And.intro h1 (And.intro (H1.out.trans (hb2.mono H1.out.size)) (And.intro l1 (And.intro l2 l3))))
  clear h1 hb2 l1 l2 l3
  go_upto_region 4 with fail
  have hz1 := H1.out.size
  have hz2 := H2.out.1.lt
  have hz3 := H2.out.1.foot_lt (show sfoot tb ta none none none tb by simp [sfoot, Buf.foot])
  have hz4 := H2.out.1.foot_lt (show sfoot tb ta none none none ta by simp [sfoot, Ar.foot])
  obtain ⟨l1, l2, l3⟩ := H2.out.2.2
  have hb3 : Below w2.heap.size w2 ((w2.alloc (.map #[] 0)).alloc (.cells #[.pointer (some ⟨gs, 0, none⟩), .pointer (some ⟨ts, 0, none⟩), .map (some w2.heap.size)] 119)) := ((Below.refl _ _).alloc (Nat.le_refl _) _).alloc (by simp) _
  have hkv : ((w2.alloc (.map #[] 0)).alloc (.cells #[.pointer (some ⟨gs, 0, none⟩), .pointer (some ⟨ts, 0, none⟩), .map (some w2.heap.size)] 119)).heap[w2.heap.size + 1]? = some (mvO gs ts w2.heap.size) := by
    have e : w2.heap.size + 1 = (w2.alloc (.map #[] 0)).heap.size := by simp
    rw [e]
    exact heap_alloc_new _ _
  have hm3 : MapI ((w2.alloc (.map #[] 0)).alloc (.cells #[.pointer (some ⟨gs, 0, none⟩), .pointer (some ⟨ts, 0, none⟩), .map (some w2.heap.size)] 119)) w2.heap.size 0 (fun _ => none) := (MapI.made w2).below ((Below.refl _ _).alloc (Nat.le_refl _) _)
  have hms := mv_start gs gb ga rb rf q S ks HH.out.1 (H2.out.2.1.trans (hb3.mono H2.out.2.1.size)) (H2.out.1.below hb3) hm3 hkv (by omega) (by omega) (by omega) H2.out.2.1.size (by omega) (by omega) (by omega) (by omega) (by omega) (by omega) (by omega)
  have HB3 := Lib.hid (H2.out.2.1.trans (hb3.mono H2.out.2.1.size))
  have hge3 : ∀ b, ((sfoot tb ta none none none b ∨ b = ts) ∨ b = w2.heap.size) → w.heap.size ≤ b := fun b hb => by
    have hsz := H2.out.2.1.size
    rcases hb with (hb | rfl) | rfl
    · rcases hb with hb | hb
      · rcases hb with rfl | hb | hb
        · omega
        · cases hb
        · cases hb
      · rcases hb with rfl | hb
        · omega
        · cases hb
    · omega
    · omega
  have HM3 := Lib.hid (And.intro hms.1 (And.intro hge3 (show w.heap.size ≤ w2.heap.size + 1 by have := H2.out.2.1.size; omega)))
  have HHV := Lib.hid HH.out.2.1
  have hlt3 : w2.heap.size + 1 < ((w2.alloc (.map #[] 0)).alloc (.cells #[.pointer (some ⟨gs, 0, none⟩), .pointer (some ⟨ts, 0, none⟩), .map (some w2.heap.size)] 119)).heap.size := by simp
  clear hb3 hkv hm3 hms hge3 hz1 hz2 hz3 hz4 l1 l2 l3 H2
  generalize (w2.alloc (.map #[] 0)).alloc (.cells #[.pointer (some ⟨gs, 0, none⟩), .pointer (some ⟨ts, 0, none⟩), .map (some w2.heap.size)] 119) = W3 at HB3 HM3 hlt3 ⊢
  generalize w2.heap.size + 1 = bv at HM3 hlt3 ⊢
  generalize w2.heap.size = bt at HM3 ⊢
  generalize hF0 : (fun b => (sfoot tb ta none none none b ∨ b = ts) ∨ b = bt) = F0 at HM3
  have hge0 : ∀ b, F0 b → w.heap.size ≤ b := fun b hb => HM3.out.2.1 b (by rw [← hF0] at hb; exact hb)
  have hb4 : Below W3.heap.size W3 (W3.alloc (.map #[] 0)) := (Below.refl _ _).alloc (Nat.le_refl _) _
  obtain ⟨F4, hF4⟩ : ∃ F4 : Nat → Prop, ∀ b, F4 b ↔ (F0 b ∨ b = W3.heap.size) := ⟨_, fun b => Iff.rfl⟩
  have hC : (resC gs gb ga rb rf q S ks W3.heap.size bv bt ts tb ta).at_ (W3.alloc (.map #[] 0)) F4 ((fun _ => none, 0), ((fun _ => none, 0), (⟨#[]⟩, []))) := by
    have hR := (resMv bv (mvO gs ts bt) bt ts tb ta gs gb ga rb rf q S ks).below HM3.out.1 hb4
    have hlt := (resMv bv (mvO gs ts bt) bt ts tb ta gs gb ga rb rf q S ks).lt HM3.out.1
    have hst := (HH.out.1.below HB3.out)
    refine resV_mk _ _ gs gb ga rb rf q S ks (F1 := F0) hF4 hR (fun e => Nat.lt_irrefl _ (hlt _ e)) (MapI.made W3) ⟨hst.below hb4, fun k hk e => ?_, fun e => ?_⟩
    · have h1 := HH.out.1.foot_lt hk
      have h2 := HB3.out.size
      rcases (hF4 k).1 e with e | e
      · have := hge0 k e; omega
      · omega
    · have h1 := HH.out.1.lt
      have h2 := HB3.out.size
      rcases (hF4 gs).1 e with e | e
      · have := hge0 gs e; omega
      · omega
  have HC0 := Lib.hid (And.intro hC (And.intro (HB3.out.trans (hb4.mono HB3.out.size)) (show ∀ b, F4 b → w.heap.size ≤ b from fun b hb => ((hF4 b).1 hb).elim (hge0 b) (fun e => by have := HB3.out.size; omega))))
  have HV := Lib.hid HM3.out.2.2
  have HBV := Lib.hid (And.intro hlt3 (show bv ≠ W3.heap.size by omega))
  clear hb4 hC hF0 hge0 HM3 HB3 hlt3 hF4
  go_upto_region 5 with fail
  generalize W3.alloc (.map #[] 0) = W4 at HC0 ⊢
  generalize W3.heap.size = bm at HC0 HBV ⊢
  go_wp2_with fail
  go_loopw [9, 28] (fun out i wr => ∃ (k : Nat) (F : Nat → Prop), i = .int .i64 k ∧ k ≤ l.length ∧ Hid ((resC gs gb ga rb rf q S ks bm bv bt ts tb ta).at_ wr F (((visL ks (ks.length + 1) (l.take k) (fun _ => none)).1, (visD ks (l.take k)).length), visS S ks (l.take k)) ∧ Below w.heap.size w wr ∧ (∀ b, F b → w.heap.size ≤ b) ∧
    OwnI wr w.heap.size out ((l.take k).map (gM (visS S ks (l.take k)))) ∧ (∀ b, out.ownBlock = some b → ¬ F b ∧ b ≠ bv))) (fun _ i _ => l.length - (intOf i).toNat)
  case atStart => exact ⟨0, F4, rfl, Nat.zero_le _, Lib.hid ⟨by simpa [visL, visS, visD] using HC0.out.1, HC0.out.2.1, HC0.out.2.2, World.ownsRow_nil _ _ _ 1, fun b e => by simp [Value.ownBlock] at e⟩⟩
  case round =>
    obtain ⟨k, F, rfl, hk, HK⟩ := hrel
    by_cases hkn : k < l.length
    · have hkn' : (k : Int) < l.length := by omega
      obtain ⟨A', c', e', hcs'⟩ := HHV.out
      obtain ⟨rfl, rfl⟩ : A = A' ∧ c = c' := by simpa using e'
      obtain ⟨b, off, rfl, hb, hcs⟩ := hcs' (by omega)
      have f0 : wr.cell? ⟨b, off + k, none⟩ = some (.int .i64 (l.getD k 0)) := (HK.out.2.1.cell (p := ⟨b, _, none⟩) hb).trans (hcs k hkn)
      have fl : b < wr.heap.size := Nat.lt_of_lt_of_le hb HK.out.2.1.size
      have htk : l.take (k + 1) = l.take k ++ [l.getD k 0] := by
        rw [List.take_succ_eq_append_getElem hkn]
        simp [List.getD, hkn]
      have hmem : l.getD k 0 ∈ l := by simp [List.getD, hkn]
      obtain ⟨X, hX, hXg, hXz⟩ := hl _ hmem
      have htr := hX.range
      have hlk : ∀ t ∈ l.take k, ∃ X, Is ks t X ∧ Rp.Good S X ∧ X.size ≤ 900 := fun t ht => hl t (List.mem_of_mem_take ht)
      have hlk1 : ∀ t ∈ l.take (k + 1), ∃ X, Is ks t X ∧ Rp.Good S X ∧ X.size ≤ 900 := fun t ht => hl t (List.mem_of_mem_take ht)
      have hlen : (l.take k).length ≤ 100 := by rw [List.length_take]; omega
      have hlen1 : (l.take (k + 1)).length ≤ 100 := by rw [List.length_take]; omega
      have htl : ∀ t ∈ l.take k, t < ((ks.length + 1 : Nat) : Int) := fun t ht => by
        obtain ⟨X, hX, _⟩ := hlk t ht
        have := hX.range
        omega
      obtain ⟨m1, m2, m3, m4, m5⟩ := visL_mv hw hS hsm (ks.length + 1) (l.take k) (fun _ => none) [] ((fun _ => none, 0), (⟨#[]⟩, [])) htl hlk (fun j => by simp) (MvI.nil S ks) (by simp; omega) (by simp [bytesK]; omega)
      simp only [List.nil_append] at m1 m2
      obtain ⟨p1, p2, p3, p4, p5, p6⟩ := vis_mv hw hS hsm (ks.length + 1) (l.getD k 0) (visL ks (ks.length + 1) (l.take k) (fun _ => none)).1 (visD ks (l.take k)) (visS S ks (l.take k)) X (by omega) hX hXg (fun j _ => m2 j) m1 (by unfold visD; omega) (by unfold visD; omega)
      have hD1 : visD ks (l.take (k + 1)) = visD ks (l.take k) ++ (vis ks (ks.length + 1) (l.getD k 0) (visL ks (ks.length + 1) (l.take k) (fun _ => none)).1).2 := by unfold visD; rw [htk, visL_snoc]
      have hF1 : (visL ks (ks.length + 1) (l.take (k + 1)) (fun _ => none)).1 = (vis ks (ks.length + 1) (l.getD k 0) (visL ks (ks.length + 1) (l.take k) (fun _ => none)).1).1 := by rw [htk, visL_snoc]
      have hS1 : visS S ks (l.take (k + 1)) = (vis ks (ks.length + 1) (l.getD k 0) (visL ks (ks.length + 1) (l.take k) (fun _ => none)).1).2.foldl (stepM S ks) (visS S ks (l.take k)) := by unfold visS; rw [hD1, List.foldl_append]
      have hK1 := kept_of hw hS hsm (l.take (k + 1)) hlk1 hlen1
      have hK0 := kept_of hw hS hsm (l.take k) hlk hlen
      have hsame : (l.take k).map (gM (visS S ks (l.take (k + 1)))) = (l.take k).map (gM (visS S ks (l.take k))) := by
        refine List.map_congr_left fun t ht => ?_
        rcases hK0.roots t ht with rfl | hd
        · have a1 : gM (visS S ks (l.take (k + 1))) 0 = 0 := hK1.mv.zero
          have a2 : gM (visS S ks (l.take k)) 0 = 0 := hK0.mv.zero
          rw [a1, a2]
        · have hmv1 := hK1.mv
          have e : (visS S ks (l.take (k + 1))).1.1 t = (visS S ks (l.take k)).1.1 t := hK0.mv.same (out := (vis ks (ks.length + 1) (l.getD k 0) (visL ks (ks.length + 1) (l.take k) (fun _ => none)).1).2) (by rw [← hD1]; exact hmv1) hd
          unfold gM
          rw [e]
      have hmap : (l.take (k + 1)).map (gM (visS S ks (l.take (k + 1)))) = (l.take k).map (gM (visS S ks (l.take k))) ++ [gM (visS S ks (l.take (k + 1))) (l.getD k 0)] := by
        rw [← hsame, htk, List.map_append]
        rfl
      have hcnt : (visD ks (l.take k)).length + (vis ks (ks.length + 1) (l.getD k 0) (visL ks (ks.length + 1) (l.take k) (fun _ => none)).1).2.length ≤ 900000 := by unfold visD; omega
      have HVI := Lib.hid (visit_does (resMv bv (mvO gs ts bt) bt ts tb ta gs gb ga rb rf q S ks) bm gs 65 #[.pointer (some ⟨bv, 0, none⟩)] #[] gb ga rb rf q S ks (stepM S ks) (PreM S ks) (keepsMv bv (mvO gs ts bt) bt ts tb ta gs gb ga rb rf q S ks HBV.out.2) hw hsm mover_eg
        (fun t s _ hp => move_does bv bt ts tb ta gs gb ga rb rf q S ks t s hp) (ks.length + 1) (l.getD k 0) (visL ks (ks.length + 1) (l.take k) (fun _ => none)).1 (visD ks (l.take k)).length (visS S ks (l.take k)) (by omega) (i64ok_of (by omega) (by omega)) hcnt p1)
      have hi64 : i64ok (l.getD k 0) := i64ok_of (by omega) (by omega)
      have HPL := Lib.hid (And.intro hD1 (And.intro hF1 (And.intro hS1 (And.intro hmap hi64))))
      have HRG := Lib.hid (gM_le hK1.mv (hK1.roots (l.getD k 0) (by rw [htk]; simp)))
      have HLN := Lib.hid hK1.mv.len
      clear htk hmem hX hXg hXz htr hlk hlk1 htl m1 m2 m3 m4 m5 p1 p2 p3 p4 p5 p6 hD1 hF1 hS1 hK1 hK0 hsame hmap hcnt hcs hcs' e' hi64
      generalize l.getD k 0 = t at f0 HVI HPL HRG
      go_wp2_with fail
      ((with_reducible refine (HVI.out.run _ _ HK.out.1).mono ?_); rintro e w4 ⟨v4, s4, F4, rfl, hv4, ha4, hf4⟩)
      unfold visP at hv4
      obtain ⟨rfl, rfl⟩ := hv4
      have ha5 : (resC gs gb ga rb rf q S ks bm bv bt ts tb ta).at_ w4 F4 (((visL ks (ks.length + 1) (l.take (k + 1)) (fun _ => none)).1, (visD ks (l.take (k + 1))).length), visS S ks (l.take (k + 1))) := by
        rw [HPL.out.2.2.1, HPL.out.2.1, HPL.out.1, List.length_append]
        exact ha4
      have hsz4 := HK.out.2.1.size
      have hnb : ∀ b, u9.ownBlock = some b → ¬ F4 b ∧ b ≠ bv := fun b e => by
        obtain ⟨e1, e2⟩ := HK.out.2.2.2.2 b e
        exact ⟨hf4.out (World.ownsRow.lt HK.out.2.2.2.1 b e).2 e1, e2⟩
      have H4 := Lib.hid (And.intro ha5 (And.intro (hf4.below HK.out.2.1 HK.out.2.2.1 hsz4) (And.intro (hf4.ge HK.out.2.2.1 hsz4) (And.intro (hf4.own HK.out.2.2.2.1 (fun b e => (HK.out.2.2.2.2 b e).1)) hnb))))
      have HMAP := Lib.hid HPL.out.2.2.2.1
      have hi64 := HPL.out.2.2.2.2
      have hxr := HRG.out
      have hl1 : ((l.take k).map (gM (visS S ks (l.take k)))).length ≤ 100000 := by rw [List.length_map]; omega
      clear ha4 ha5 hf4 hsz4 hnb HK HVI HPL HRG HLN f0 fl
      generalize hSF : (visL ks (ks.length + 1) (l.take (k + 1)) (fun _ => none)).1 = SF at H4
      generalize hSN : (visD ks (l.take (k + 1))).length = SN at H4
      have HSFN := Lib.hid (And.intro hSF hSN)
      clear hSF hSN
      generalize hSK : visS S ks (l.take (k + 1)) = SK at H4 HMAP
      generalize (l.take k).map (gM (visS S ks (l.take k))) = L1 at H4 HMAP hl1
      obtain ⟨x, hx⟩ : ∃ x, gM SK t = x := ⟨_, rfl⟩
      have HX := Lib.hid hx
      clear hx
      have hbx := H4.out.1
      obtain ⟨F1, h1, ⟨g0, g1, g2⟩, h3, h4, h5⟩ := resV_of _ _ _ _ _ _ _ _ _ _ hbx
      obtain ⟨F2, q1, q2, q3, q4, q5⟩ := resV_of _ _ _ _ _ _ _ _ _ _ g0
      have hbv4 := (Array.getElem?_eq_some_iff.1 g1).1
      have hc4 : w4.cell? ⟨bv, 2, none⟩ = some (.map (some bt)) := cell_of_row w4 bv 2 _ _ (0, 0) g1
      have hmp := q4.look hi64
      have hx2 : (SK.1.1 t).getD 0 = x := HX.out
      rw [hx2] at hmp
      have hlen2 : L1.length ≤ 100000 := hl1
      have hz4 := H4.out.2.1.size
      obtain ⟨i0, hi, hz0, hz1, hz2⟩ := info_parts intq_info
      clear hbx h1 g0 g1 g2 h3 h4 h5 q1 q2 q3 q4 q5 hx2
      go_wp2_with (at_builtin; refine wpList_append_lies _ rfl _ _ 23 rfl w.heap.size 3 i0 (.int .i64 0) 1 8 Try.underlying23 hi hz0 hz1 hz2 rfl (by decide) u9 L1.length (L1.map (Value.int .i64)) rfl (World.ownsRow.alloc H4.out.2.2.2.1 _) ⟨w4.heap.size, 0, none⟩ 1 1 [.int .i64 x] rfl rfl ?c1 ?c2 (by omega) ?c3 ?c4 ?c5 _ rfl ?_)
      case c1 => exact World.news_of_block (fr := (0, 0)) (heap_alloc_new w4 _)
      case c2 => intro u hu; simp at hu; rcases hu with rfl; rfl
      case c3 => unfold maxLen; omega
      case c4 => omega
      case c5 => simp; omega
      intro g cap w7 hown hgrow hat hlt7
      have hal : ∀ b, b < w4.heap.size → (w4.alloc (.cells #[.int .i64 x] 3)).heap[b]? = w4.heap[b]? := fun b hb => Below.heap_alloc _ _ b hb
      have hf7 : Fr w4 (fun b => u9.ownBlock = some b) w7 (fun b => b = g) := ⟨hgrow.os, hgrow.tape, hgrow.output, by have := hgrow.size; simp at this; omega, fun b hb hn => (hgrow.block b (by simp; omega) (fun e => hn e.symm)).trans (hal b hb), fun b e => by
        subst e
        rcases hat with e | e
        · exact .inl e
        · right; rw [e]; simp⟩
      have hlt4 := (resC gs gb ga rb rf q S ks bm bv bt ts tb ta).lt H4.out.1
      have hkp := resC_keep gs gb ga rb rf q S ks H4.out.1 hf7 (fun b hb e => (H4.out.2.2.2.2 b e).1 hb) (fun k hk e => by
          have e1 := (World.ownsRow.lt H4.out.2.2.2.1 k e).1
          have e2 := HH.out.1.foot_lt hk
          omega) (fun e => by
          have e1 := (World.ownsRow.lt H4.out.2.2.2.1 gs e).1
          have e2 := HH.out.1.lt
          omega) (fun e => (H4.out.2.2.2.2 bv e).2 rfl)
      have hnb7 : ∀ b, (Value.slice (some ⟨g, 0, none⟩) (L1.length + 1) cap).ownBlock = some b → ¬ F4 b ∧ b ≠ bv := fun b e => by
        have e : g = b := by simpa [Value.ownBlock] using e
        rcases hf7.new b e.symm with e1 | e1
        · exact H4.out.2.2.2.2 b e1
        · exact ⟨fun e2 => by have := hlt4 b e2; omega, by omega⟩
      have hown7 : OwnI w7 w.heap.size (.slice (some ⟨g, 0, none⟩) (L1.length + 1) cap) (L1 ++ [x]) := by
        unfold OwnI
        rw [List.length_append, List.map_append]
        exact hown
      have H7 := Lib.hid (And.intro hkp (And.intro (hf7.below H4.out.2.1 (fun b e => (World.ownsRow.lt H4.out.2.2.2.1 b e).1) hz4) (And.intro H4.out.2.2.1 (And.intro hown7 hnb7))))
      clear hlt4 hkp hnb7 hown7 hf7 hal hown hgrow hat hlt7 H4
      have HSK := Lib.hid hSK
      clear hSK hc4 hmp
      go_wp2_with fail
      go_roundw
      case rel =>
        refine ⟨k + 1, F4, by go_num, by omega, ?_⟩
        refine Lib.hid ?_
        rw [HSFN.out.1, HSFN.out.2, HSK.out, HMAP.out, HX.out]
        exact H7.out
      case measure => simp [intOf]; omega
    · obtain rfl : k = l.length := by omega
      have hkn' : ¬ ((l.length : Int) < l.length) := by omega
      rw [List.take_of_length_le (Nat.le_refl _)] at HK
      obtain ⟨F1, h1, ⟨g0, g1, g2⟩, h3, h4, h5⟩ := resV_of _ _ _ _ _ _ _ _ _ _ HK.out.1
      obtain ⟨F2, q1, ⟨F3, q2, rb', rf', q', e3, hst⟩, q3, q4, q5⟩ := resV_of _ _ _ _ _ _ _ _ _ _ g0
      have hbv4 := (Array.getElem?_eq_some_iff.1 g1).1
      have hc4 : wr.cell? ⟨bv, 1, none⟩ = some (.pointer (some ⟨ts, 0, none⟩)) := cell_of_row wr bv 1 _ _ (0, 0) g1
      have hFF : ∀ b, (sfoot tb ta rb' rf' q' b ∨ b = ts) → F b := fun b hb => (h1 b).2 (.inl ((q1 b).2 (.inl ((q2 b).2 (by rw [e3]; exact hb)))))
      have HG := Lib.hid (And.intro hst hFF)
      have hK1 := kept_of hw hS hsm l hl hn
      have HKE := Lib.hid hK1
      clear h1 g0 g1 g2 h3 h4 h5 q1 q2 q3 q4 q5 hst hFF hK1
      go_wp2_with fail
      refine bodyPost_ret (v := .tuple #[.pointer (some ⟨ts, 0, none⟩), u9, .int .i64 0]) (by simp [results, Try.results18, go_sem]) rfl ?_
      refine ⟨⟨ts, tb, ta, rb', rf', q', u9, visD ks l, visS S ks l, rfl, HKE.out, HG.out.1, HK.out.2.2.2.1, fun k hk => HK.out.2.2.1 k (HG.out.2 k (.inl hk)), HK.out.2.2.1 ts (HG.out.2 ts (.inr rfl)), fun b e => ⟨fun hf => (HK.out.2.2.2.2 b e).1 (HG.out.2 b (.inl hf)), fun hf => (HK.out.2.2.2.2 b e).1 (HG.out.2 b (.inr hf))⟩, HK.out.2.1⟩⟩
end
end Go.Proofs.Ytoeamnagmehpeaa.Kp


/- Layer 26's laws: the page's example. */ -/
namespace Go.Proofs.Ytoeamnagmehpeaa.Kp
set_option linter.unusedSimpArgs false
set_option linter.unusedVariables false
open Go Go.RowKit Go.Proofs.Ytoeamnagmehpeaa.Rp Go.Proofs.Ytoeamnagmehpeaa.Wk
open Go.Proofs.Ytoeamnagmehpeaa.Ar (T Is Ext WF Knot getK getB getS Arena resAr small leafK pairK)
attribute [local go_sem] lt_add1 lt_self1 size_ne size_ne' size_ne1 size_ne1'
attribute [local irreducible] wpGrow wpThr wpThx

def abcde : ByteArray := ⟨#[97, 98, 99, 100, 101]⟩
def ksA : List Knot := [leafK 0 3 0, leafK 3 2 0]
theorem wfA : WF ksA := fun i hi => by
  left
  have hi : i < 2 := hi
  rcases (show i = 0 ∨ i = 1 by omega) with rfl | rfl
  · exact ⟨rfl, rfl, by decide, by decide, by decide, by decide, rfl, rfl, by decide, by decide⟩
  · exact ⟨rfl, rfl, by decide, by decide, by decide, by decide, rfl, rfl, by decide, by decide⟩
theorem wfA1 : WF [leafK 0 3 0] := fun i hi => by
  left
  have hi : i < 1 := hi
  obtain rfl : i = 0 := by omega
  exact ⟨rfl, rfl, by decide, by decide, by decide, by decide, rfl, rfl, by decide, by decide⟩
theorem eqA1 : ((⟨#[]⟩ ++ ⟨#[97, 98, 99]⟩ : ByteArray), [] ++ [leafK (ByteArray.size ⟨#[]⟩) (ByteArray.size ⟨#[97, 98, 99]⟩) (Buf.feedsV (⟨#[]⟩ ++ ⟨#[97, 98, 99]⟩) (ByteArray.size ⟨#[]⟩) (ByteArray.size ⟨#[97, 98, 99]⟩))]) = ((⟨#[97, 98, 99]⟩ : ByteArray), [leafK 0 3 0]) := by kernel_rfl
theorem eqA2 : ((⟨#[97, 98, 99]⟩ ++ ⟨#[100, 101]⟩ : ByteArray), [leafK 0 3 0] ++ [leafK (ByteArray.size ⟨#[97, 98, 99]⟩) (ByteArray.size ⟨#[100, 101]⟩) (Buf.feedsV (⟨#[97, 98, 99]⟩ ++ ⟨#[100, 101]⟩) (ByteArray.size ⟨#[97, 98, 99]⟩) (ByteArray.size ⟨#[100, 101]⟩))]) = (abcde, ksA) := by kernel_rfl
theorem isA : Is ksA 2 (.leaf 3 2 0) := .leaf 1 (by decide) (by decide) ⟨rfl, rfl, by decide, by decide, by decide, by decide, rfl, rfl, by decide, by decide⟩ rfl rfl rfl
theorem goodA : Rp.Good abcde (.leaf 3 2 0) := good_leaf.2 ⟨by decide, by decide, by decide, by decide⟩
theorem needA : neededB ksA [2, 0, 2] = (1, 2) := by decide
theorem rootsA : ∀ t ∈ ([2, 0, 2] : List Int), ∃ X, Is ksA t X ∧ Rp.Good abcde X ∧ X.size ≤ 900 := by
  intro t ht
  have h2 : t = 0 ∨ t = 2 := by simp at ht; omega
  rcases h2 with h2 | h2
  · rw [h2]; exact ⟨.nil, .nil rfl, Rp.Good.nil _, by decide⟩
  · rw [h2]; exact ⟨_, isA, goodA, by decide⟩
theorem sl3 {w : World} {b : Nat} {x y z : Int} (h : w.heap[b]? = some (.cells #[.int .i64 x, .int .i64 y, .int .i64 z] 3 (0, 0))) : SlN w (.slice (some ⟨b, 0, none⟩) 3 3) [x, y, z] := by
  refine ⟨_, 3, rfl, fun _ => ⟨b, 0, rfl, (Array.getElem?_eq_some_iff.1 h).1, fun i hi => ?_⟩⟩
  have hi : i < 3 := hi
  have := cell_of_row w b i _ _ (0, 0) h
  rw [Nat.zero_add]
  rw [this]
  rcases (show i = 0 ∨ i = 1 ∨ i = 2 by omega) with rfl | rfl | rfl <;> rfl

theorem OwnI.sn {w : World} {B : Nat} {v : Value} {l : List Int} (h : OwnI w B v l) : SlN w v l := by
  obtain ⟨A, c, rfl, _, hs⟩ := SlAt.of_own h
  refine ⟨A, c, rfl, fun h0 => ?_⟩
  obtain ⟨b, off, e, hb, hc⟩ := hs h0
  refine ⟨b, off, e, hb, fun i hi => ?_⟩
  have := hc i 0 hi (by decide)
  simp only [Nat.mul_one, Nat.add_zero] at this
  rw [this]
  simp [List.getD, hi]
theorem SlN.below {w w' : World} {v : Value} {l : List Int} (h : SlN w v l) (hb : Below w.heap.size w w') : SlN w' v l := by
  obtain ⟨A, c, rfl, hc⟩ := h
  refine ⟨A, c, rfl, fun h0 => ?_⟩
  obtain ⟨b, off, e, h1, h2⟩ := hc h0
  exact ⟨b, off, e, Nat.lt_of_lt_of_le h1 hb.size, fun i hi => (hb.cell (p := ⟨b, _, none⟩) h1).trans (h2 i hi)⟩

set_option maxRecDepth 100000 in
set_option maxHeartbeats 2000000 in
theorem awake26 (w : World) : Calls Try.prog 14 #[] w fun e w' => e = .returned (.bool true) ∧ Below w.heap.size w w' := by
  go_enter Try.func14, Try.ntmps14
  go_wp2_with fail
  ((with_reducible refine (rnew_any _).mono ?_); rintro e w1 ⟨gs, gb, ga, rfl, h1, hb1, g1, g2, g3⟩)
  have hF1 : ∀ b, sfoot gb ga none none none b → w.heap.size ≤ b := by
    intro b hb
    rcases hb with (rfl | e | e) | (rfl | e)
    · exact g2
    · cases e
    · cases e
    · exact g3
    · cases e
  have H1 := Lib.hid (And.intro h1 (And.intro hb1 hF1))
  clear h1 hb1 g1 g2 g3 hF1
  have HM := Lib.hid ((rmake_det gs gb ga ⟨#[]⟩ [] ⟨#[97, 98, 99]⟩ (by decide) wf_nil (by simp [small]) (by decide)).run w1 _ (resSt_at H1.out.1))
  go_wp2_with fail
  ((with_reducible refine HM.out.mono ?_); rintro e w2 ⟨v, s2, F2, rfl, ⟨rfl, rfl⟩, ha2, hf2⟩)
  have hB2 := hf2.below H1.out.2.1 H1.out.2.2 H1.out.2.1.size
  have hF2 := hf2.ge H1.out.2.2 H1.out.2.1.size
  rw [eqA1] at ha2
  have HN := Lib.hid ((rmake_det gs gb ga ⟨#[97, 98, 99]⟩ [leafK 0 3 0] ⟨#[100, 101]⟩ (by decide) wfA1 (by simp [small]) (by decide)).run w2 _ ha2)
  have HT := Lib.hid (And.intro hB2 hF2)
  clear hB2 hF2 ha2 hf2 HM
  go_wp2_with fail
  ((with_reducible refine HN.out.mono ?_); rintro e w3 ⟨v, s3, F3, rfl, ⟨rfl, rfl⟩, ha3, hf3⟩)
  have hB3 := hf3.below HT.out.1 HT.out.2 HT.out.1.size
  have hF3 := hf3.ge HT.out.2 HT.out.1.size
  rw [eqA2] at ha3
  obtain ⟨rb, rf, q, rfl, st3⟩ := st_of ha3
  simp only at st3
  have H3 := Lib.hid (And.intro st3 (And.intro hB3 hF3))
  clear hB3 hF3 ha3 hf3 HN HT st3
  go_wp2_with fail
  have hb4 : Below w3.heap.size w3 (w3.alloc (.cells #[.int .i64 2, .int .i64 0, .int .i64 2] 3)) := (Below.refl _ _).alloc (Nat.le_refl _) _
  have HND := Lib.hid (needed_any gs gb ga rb rf q abcde ksA _ _ [2, 0, 2] (H3.out.1.below hb4) wfA (by decide) (sl3 (heap_alloc_new w3 _)) (fun t ht => by obtain ⟨X, h, _⟩ := rootsA t ht; exact ⟨X, h⟩) (by decide))
  rw [needA] at HND
  ((with_reducible refine HND.out.mono ?_); rintro e w4 ⟨rfl, hb5⟩)
  have hB4 := H3.out.2.1.trans ((hb4.trans (hb5.mono hb4.size)).mono H3.out.2.1.size)
  have H4 := Lib.hid (And.intro ((H3.out.1.below hb4).below hb5) hB4)
  clear hB4 hb4 hb5 HND
  go_wp2_with fail
  have hb6 : Below w4.heap.size w4 (w4.alloc (.cells #[.int .i64 2, .int .i64 0, .int .i64 2] 3)) := (Below.refl _ _).alloc (Nat.le_refl _) _
  have HCO := Lib.hid (compact_any gs gb ga rb rf q abcde ksA _ _ [2, 0, 2] (H4.out.1.below hb6) wfA (by decide) (by decide) (sl3 (heap_alloc_new w4 _)) rootsA (by decide))
  ((with_reducible refine HCO.out.mono ?_); rintro e w5 ⟨⟨ts, tb, ta, rb', rf', q', ov, done, sm, rfl, hk, st, hov, f1, f2, f3, hb7⟩⟩)
  obtain ⟨A5, c5, rfl, hs5⟩ := OwnI.sn hov
  simp only [List.map_cons, List.map_nil, List.length_cons, List.length_nil] at hs5 ⊢
  obtain ⟨b5, o5, rfl, hl5, hc5⟩ := hs5 (by decide)
  have c0 := hc5 0 (by decide)
  have c1 := hc5 1 (by decide)
  have c2 := hc5 2 (by decide)
  have hz0 : gM sm 0 = 0 := hk.mv.zero
  simp only [List.getD_cons_zero, List.getD_cons_succ, Nat.add_zero, hz0] at c0 c1 c2
  obtain ⟨Y, y1, y2⟩ := hk.rope (t := 2) (by simp) isA
  have hlen : sm.2.2.length = 1 := by
    have h1 := hk.need
    have h2 := hk.mv.len
    rw [needA] at h1
    simp only at h1
    omega
  have hsz : sm.2.1.size ≤ 1000000 := by
    have h1 := hk.mv.sz
    have h2 := hk.bytes
    simp only [List.length_cons, List.length_nil] at h2
    omega
  have hB5 := H4.out.2.trans ((hb6.trans (hb7.mono hb6.size)).mono H4.out.2.size)
  have HRD := Lib.hid (fun w' (hb : Below w5.heap.size w5 w') => rread_any ts tb ta rb' rf' q' sm.2.1 sm.2.2 w' (gM sm 2) 0 2 Y hk.mv.wf y1 y2.good (st.below hb) (by rw [hlen]; simp [small]) hsz)
  rw [y2.txt, show readV (txt abcde (.leaf 3 2 0)) 0 2 = ([100, 101], 0) from by decide] at HRD
  have HKN := Lib.hid (fun w' (hb : Below w5.heap.size w5 w') => rknots_any ts tb ta rb' rf' q' sm.2.1 sm.2.2 w' (st.below hb))
  rw [hlen] at HKN
  have H5 := Lib.hid hB5
  clear hk st hov f1 f2 f3 hb7 hs5 hc5 hz0 hlen hsz hB5 y1 y2 hb6 HCO
  generalize gM sm 2 = x2 at c0 c2 HRD
  have d0 : ∀ x : Bw w5, x.w.cell? ⟨b5, o5, none⟩ = some (.int .i64 x2) := fun x => (x.h.cell (p := ⟨b5, _, none⟩) hl5).trans c0
  have d1 : ∀ x : Bw w5, x.w.cell? ⟨b5, o5 + 1, none⟩ = some (.int .i64 0) := fun x => (x.h.cell (p := ⟨b5, _, none⟩) hl5).trans c1
  have d2 : ∀ x : Bw w5, x.w.cell? ⟨b5, o5 + 2, none⟩ = some (.int .i64 x2) := fun x => (x.h.cell (p := ⟨b5, _, none⟩) hl5).trans c2
  have dl : ∀ x : Bw w5, b5 < x.w.heap.size := fun x => Nat.lt_of_lt_of_le hl5 x.h.size
  clear c1 c2
  go_wp2_with fail
  refine wp_region_wd (fun w' => Below w5.heap.size w5 w') (by kernel_rfl) (by kernel_rfl) ((Below.refl _ _).drew) ?_
  repeat (go_big_quiet_step (fail))
  refine wpQuiet_nil (wd_all ?_)
  intro w6 hb6
  have HB6 := Lib.hid hb6
  have e0 := d0 ⟨w6, hb6⟩
  have el := dl ⟨w6, hb6⟩
  simp only at e0 el
  clear hb6 d0 d1 d2 dl c0
  go_wp2_with fail
  ((with_reducible refine (HRD.out _ HB6.out).mono ?_); rintro e w7 ⟨rfl, hb7⟩)
  have HB7 := Lib.hid (HB6.out.trans (hb7.mono HB6.out.size))
  clear hb7 e0 el
  go_wp2_with fail
  ((with_reducible refine (HKN.out _ HB7.out).mono ?_); rintro e w8 ⟨rfl, rfl⟩)
  go_wp2_with fail
  go_ret
  exact ⟨rfl, H5.out.trans (HB7.out.mono H5.out.size)⟩
end Go.Proofs.Ytoeamnagmehpeaa.Kp
