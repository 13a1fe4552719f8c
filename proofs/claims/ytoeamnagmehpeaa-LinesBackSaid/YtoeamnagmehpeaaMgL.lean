/- Layer 26: knots are visited, each once, its parts ahead of it. */ -/
import Derived.Test.YtoeamnagmehpeaaMgK
import Derived.Test.YtoeamnagmehpeaaMgA
namespace Go.Proofs.Ytoeamnagmehpeaa.Kp
set_option linter.unusedSimpArgs false
set_option linter.unusedVariables false
open Go Go.RowKit Go.Proofs.Ytoeamnagmehpeaa.Rp Go.Proofs.Ytoeamnagmehpeaa.Wk
open Go.Proofs.Ytoeamnagmehpeaa.Ar (T Is Ext WF Knot getK getB getS Arena resAr small)
attribute [local go_sem] lt_add1 lt_self1 size_ne size_ne' size_ne1 size_ne1'
attribute [local irreducible] wpGrow wpThr

/-- which knots are visited, and in which order. -/
def vis (ks : List Knot) : Nat → Int → (Int → Option Int) → (Int → Option Int) × List Int
  | 0, _, sf => (sf, [])
  | n + 1, t, sf => if (sf t).isSome = true ∨ getB ks t = false then (sf, []) else
      if 0 < (getK ks t).left then
        ((vis ks n (getK ks t).right (vis ks n (getK ks t).left (putF sf t 1)).1).1, (vis ks n (getK ks t).left (putF sf t 1)).2 ++ (vis ks n (getK ks t).right (vis ks n (getK ks t).left (putF sf t 1)).1).2 ++ [t])
      else (putF sf t 1, [t])
theorem wf_parts {ks : List Knot} (hw : WF ks) {t : Int} (h : getB ks t = true) : (1 ≤ t ∧ t ≤ ks.length) ∧ (0 < (getK ks t).left → 1 ≤ (getK ks t).left ∧ (getK ks t).left < t ∧ 1 ≤ (getK ks t).right ∧ (getK ks t).right < t) := by
  have hr : 1 ≤ t ∧ t ≤ ks.length := by
    unfold getB getS at h
    split at h
    · assumption
    · simp at h
  obtain ⟨k, hk⟩ : ∃ k : Nat, t = (k : Int) + 1 := ⟨(t - 1).toNat, by omega⟩
  have hkl : k < ks.length := by omega
  have hg := (Ar.getK_at hk hkl).1
  refine ⟨hr, fun hl => ?_⟩
  rw [hg] at hl ⊢
  rcases hw k hkl with ⟨h1, _⟩ | ⟨l, r, h1, h2, h3, h4, _⟩
  · omega
  · omega

/-- what a resource tells is not touched by a block that is neither its own nor a store's. -/
def KeepsB {σ : Type} (R : Res σ) (bm gs gb ga : Nat) (rb rf q : Option Nat) : Prop := ∀ {w w' : World} {F : Nat → Prop} {s : σ}, R.at_ w F s → Fr w (fun b => b = bm) w' (fun b => b = bm) → ¬ F bm → (∀ k, sfoot gb ga rb rf q k → k ≠ bm) → gs ≠ bm → R.at_ w' F s
theorem keepsB {σ : Type} {R : Res σ} (h : Keeps R) (bm gs gb ga : Nat) (rb rf q : Option Nat) : KeepsB R bm gs gb ga rb rf q := fun ha hf hn _ _ => h ha hf (fun _ hb e => hn (e ▸ hb))
section
variable {σ : Type} (R : Res σ) (bm gs kf : Nat) (pre caps : Array Value) (gb ga : Nat) (rb rf q : Option Nat) (S : ByteArray) (ks : List Knot)
abbrev Vs (σ : Type) := ((Int → Option Int) × Nat) × σ
/-- what is seen, beside what is done. -/
def resVk : Res (Vs σ) where
  at_ := fun w F s => ∃ F1, (∀ b, F b ↔ (F1 b ∨ b = bm)) ∧ R.at_ w F1 s.2 ∧ ¬ F1 bm ∧ MapI w bm s.1.2 s.1.1
  below := fun {w w' F s} h hb => by
    obtain ⟨F1, h1, h2, h3, h4⟩ := h
    exact ⟨F1, h1, R.below h2 hb, h3, h4.below hb⟩
  lt := fun {w F s} h b hb => by
    obtain ⟨F1, h1, h2, h3, h4⟩ := h
    rcases (h1 b).1 hb with h | rfl
    · exact R.lt h2 b h
    · exact h4.lt
def resV : Res (Vs σ) := (resVk R bm).with_ (stC gs gb ga rb rf q S ks) (fun h hf => stC_fr gs gb ga rb rf q S ks h hf)
theorem resV_of {w : World} {F : Nat → Prop} {s : Vs σ} (h : (resV R bm gs gb ga rb rf q S ks).at_ w F s) : ∃ F1, (∀ b, F b ↔ (F1 b ∨ b = bm)) ∧ R.at_ w F1 s.2 ∧ ¬ F1 bm ∧ MapI w bm s.1.2 s.1.1 ∧ stC gs gb ga rb rf q S ks w F := by
  obtain ⟨⟨F1, h1, h2, h3, h4⟩, h5⟩ := h
  exact ⟨F1, h1, h2, h3, h4, h5⟩
theorem resV_mk {w : World} {F F1 : Nat → Prop} {s : Vs σ} (h1 : ∀ b, F b ↔ (F1 b ∨ b = bm)) (h2 : R.at_ w F1 s.2) (h3 : ¬ F1 bm) (h4 : MapI w bm s.1.2 s.1.1) (h5 : stC gs gb ga rb rf q S ks w F) : (resV R bm gs gb ga rb rf q S ks).at_ w F s := ⟨⟨F1, h1, h2, h3, h4⟩, h5⟩
/-- one seen more. -/
theorem resV_put (hk : KeepsB R bm gs gb ga rb rf q) {w w' : World} {F : Nat → Prop} {f f' : Int → Option Int} {n : Nat} {s : σ} (h : (resV R bm gs gb ga rb rf q S ks).at_ w F ((f, n), s)) (hm : MapI w' bm (n + 1) f') (hg : w.grownBy w' (some bm)) : (resV R bm gs gb ga rb rf q S ks).at_ w' F ((f', n + 1), s) ∧ Fr w F w' F := by
  obtain ⟨F1, h1, h2, h3, h4, h5⟩ := resV_of R bm gs gb ga rb rf q S ks h
  have hset : Fr w (fun b => b = bm) w' (fun b => b = bm) := ⟨hg.os, hg.tape, hg.output, hg.size, fun b hb hn => hg.block b hb (fun e => hn (by simpa using e)), fun b hb => .inl hb⟩
  have hf : Fr w F w' F := hset.weaken (fun b e => (h1 b).2 (.inr e)) (fun b hb => .inr hb)
  exact ⟨resV_mk R bm gs gb ga rb rf q S ks h1 (hk h2 hset h3 (fun k hk e => h5.2.1 k hk ((h1 k).2 (.inr e))) (fun e => h5.2.2 ((h1 gs).2 (.inr e)))) h3 hm (stC_fr gs gb ga rb rf q S ks h5 hf), hf⟩
/-- what is done to what is done. -/
theorem does_V {f : Nat} {args : Array Value} {s : σ} {m : (Int → Option Int) × Nat} {Post : Value → σ → Prop} (h : Does Try.prog R f args s Post) : Does Try.prog (resV R bm gs gb ga rb rf q S ks) f args (m, s) (fun v s' => Post v s'.2 ∧ s'.1 = m) := by
  rintro w F hh
  obtain ⟨F1, h1, h2, h3, h4, h5⟩ := resV_of R bm gs gb ga rb rf q S ks hh
  refine (h.run w F1 h2).mono ?_
  rintro e w' ⟨v, s', F1', he, hp, ha, hf⟩
  have hff : Fr w F w' (fun b => F1' b ∨ b = bm) := hf.weaken (fun b hb => (h1 b).2 (.inl hb)) (fun b hb => hb.elim .inl (fun e => .inr ((h1 b).2 (.inr e))))
  exact ⟨v, (m, s'), _, he, ⟨hp, rfl⟩, resV_mk R bm gs gb ga rb rf q S ks (fun b => Iff.rfl) ha (hf.out h4.lt h3) (h4.fr hf h3) (stC_fr gs gb ga rb rf q S ks h5 hff), hff⟩

variable (step : σ → Int → σ) (Pre : σ → Int → Prop)
/-- all may be done, one behind the other. -/
def Runs : σ → List Int → Prop
  | _, [] => True
  | s, t :: l => Pre s t ∧ Runs (step s t) l
theorem Runs_append : ∀ (a b : List Int) (s : σ), Runs step Pre s (a ++ b) ↔ Runs step Pre s a ∧ Runs step Pre (a.foldl step s) b
  | [], b, s => by simp [Runs]
  | t :: a, b, s => by simp [Runs, Runs_append a b, and_assoc]
/-- what a visit leaves. -/
def visP (n : Nat) (t : Int) (sf : Int → Option Int) (m : Nat) (s : σ) (v : Value) (s' : Vs σ) : Prop := v = .tuple #[] ∧ s' = (((vis ks n t sf).1, m + (vis ks n t sf).2.length), (vis ks n t sf).2.foldl step s)

set_option maxHeartbeats 2000000 in
/-- what is seen, or is no knot, is passed by. -/
theorem visit_skip (hks : ks.length ≤ small) (n : Nat) (t : Int) (sf : Int → Option Int) (m : Nat) (s : σ) (hi : i64ok t) (hskip : (sf t).isSome = true ∨ getB ks t = false) (hv : vis ks n t sf = (sf, [])) :
    Does Try.prog (resV R bm gs gb ga rb rf q S ks) 63 #[.pointer (some ⟨gs, 0, none⟩), .int .i64 t, .map (some bm), .func (.func kf) pre caps] ((sf, m), s) (visP ks step n t sf m s) := by
  rintro w F h
  have HH := Lib.hid h
  obtain ⟨F1, h1, h2, h3, h4, h5⟩ := resV_of R bm gs gb ga rb rf q S ks h
  have G := Lib.hid (rknot_any gs gb ga rb rf q S ks w t h5.1 hks)
  unfold Knot.val at G
  have HLK := Lib.hid (fun w' (hb : Below w.heap.size w w') => (h4.below hb).look_ok hi)
  have HV := Lib.hid hv
  clear h h1 h2 h3 h4 h5 hv
  generalize getK ks t = kn at G
  generalize (sf t).getD 0 = old at HLK
  have HE : Hid (∀ w', Below w.heap.size w w' → ∃ v s' F', Ending.returned (.tuple #[]) = .returned v ∧ visP ks step n t sf m s v s' ∧ (resV R bm gs gb ga rb rf q S ks).at_ w' F' s' ∧ Fr w F w' F') := Lib.hid (fun w' hb =>
    ⟨_, ((sf, m), s), F, rfl, by unfold visP; rw [HV.out]; exact ⟨rfl, rfl⟩, (resV R bm gs gb ga rb rf q S ks).below HH.out hb, Fr.of_below hb⟩)
  cases hs : (sf t).isSome
  · have hgb : getB ks t = false := by
      rcases hskip with h | h
      · rw [hs] at h; cases h
      · exact h
    rw [hgb] at G
    rw [hs] at HLK
    clear hskip hs hgb
    go_enter Try.func63, Try.ntmps63
    go_wp2_with fail
    ((with_reducible refine G.out.mono ?_); rintro e w1 ⟨rfl, hb1⟩)
    have hbk := hb1.alloc hb1.size (.cells #[.int .i64 kn.left, .int .i64 kn.right, .int .i64 kn.off, .int .i64 kn.len, .int .i64 kn.high, .int .i64 kn.leaves, .int .i64 kn.feeds] 50)
    have hlk := HLK.out _ hbk
    have HB := Lib.hid (HE.out _ hbk)
    clear hb1 hbk
    go_wp2
    (first | go_end0 | refine bodyPost_ret (v := .tuple #[]) (by simp [results, Try.results63, go_sem]) rfl ?_)
    exact HB.out
  · rw [hs] at HLK
    clear hskip hs
    generalize getB ks t = gk at G
    go_enter Try.func63, Try.ntmps63
    go_wp2_with fail
    ((with_reducible refine G.out.mono ?_); rintro e w1 ⟨rfl, hb1⟩)
    have hbk := hb1.alloc hb1.size (.cells #[.int .i64 kn.left, .int .i64 kn.right, .int .i64 kn.off, .int .i64 kn.len, .int .i64 kn.high, .int .i64 kn.leaves, .int .i64 kn.feeds] 50)
    have hlk := HLK.out _ hbk
    have HB := Lib.hid (HE.out _ hbk)
    clear hb1 hbk
    go_wp2
    (first | go_end0 | refine bodyPost_ret (v := .tuple #[]) (by simp [results, Try.results63, go_sem]) rfl ?_)
    exact HB.out

set_option maxRecDepth 100000 in
set_option maxHeartbeats 4000000 in
theorem visit_does (hkp : KeepsB R bm gs gb ga rb rf q) (hw : WF ks) (hks : ks.length ≤ small) (eg : ∀ args w, (callFunc kf args).run Try.prog w = .ok (.enter kf args) w)
    (hdo : ∀ t s, getB ks t = true → Pre s t → Does Try.prog R kf (pre ++ (#[.int .i64 t, (getK ks t).val] ++ caps)) s (fun v s' => v = .tuple #[] ∧ s' = step s t)) :
    ∀ (n : Nat) (t : Int) (sf : Int → Option Int) (m : Nat) (s : σ), t < n → i64ok t → m + (vis ks n t sf).2.length ≤ 900000 → Runs step Pre s (vis ks n t sf).2 →
    Does Try.prog (resV R bm gs gb ga rb rf q S ks) 63 #[.pointer (some ⟨gs, 0, none⟩), .int .i64 t, .map (some bm), .func (.func kf) pre caps] ((sf, m), s) (visP ks step n t sf m s) := by
  intro n
  induction n with
  | zero =>
    intro t sf m s ht hi hm hr
    have hsk : (sf t).isSome = true ∨ getB ks t = false := by
      right
      cases hg : getB ks t with
      | false => rfl
      | true => have := (wf_parts hw hg).1; omega
    exact visit_skip R bm gs kf pre caps gb ga rb rf q S ks step hks 0 t sf m s hi hsk rfl
  | succ n ih =>
  rintro t sf m s ht hi hm hr
  by_cases hskip : (sf t).isSome = true ∨ getB ks t = false
  · exact visit_skip R bm gs kf pre caps gb ga rb rf q S ks step hks (n + 1) t sf m s hi hskip (by simp only [vis]; rw [if_pos hskip])
  have hns : (sf t).isSome = false := by
    cases h : (sf t).isSome with
    | false => rfl
    | true => exact absurd (.inl h) hskip
  have hgb : getB ks t = true := by
    cases h : getB ks t with
    | true => rfl
    | false => exact absurd (.inr h) hskip
  rintro w F h
  have HH := Lib.hid h
  have IH := Lib.hid ih
  obtain ⟨F1, h1, h2, h3, h4, h5⟩ := resV_of R bm gs gb ga rb rf q S ks h
  have G := Lib.hid (rknot_any gs gb ga rb rf q S ks w t h5.1 hks)
  rw [hgb] at G
  unfold Knot.val at G
  have hlk : ∀ w', Below w.heap.size w w' → (Instr.lookup 114 (.map (some bm)) (.int .i64 t) true).run Try.prog w' = .ok (.tuple #[.int .i64 ((sf t).getD 0), .bool false]) w' := fun w' hb => by rw [← hns]; exact (h4.below hb).look_ok hi
  have HLK := Lib.hid hlk
  have HW := Lib.hid (wf_parts hw hgb)
  have HDO := Lib.hid (fun s hp => hdo t s hgb hp)
  have HVI := Lib.hid (show vis ks (n + 1) t sf = _ by simp only [vis]; rw [if_neg hskip])
  have HRM := Lib.hid (And.intro hm hr)
  unfold Knot.val at HDO
  clear h ih hdo h1 h2 h3 h4 h5 hlk hm hr hskip hns
  have hmz : m < 1000000 := by have := HRM.out.1; omega
  generalize (sf t).getD 0 = old at HLK
  generalize hkn : getK ks t = kn at G HW HDO HVI
  have HKN := Lib.hid hkn
  clear hkn
  go_enter Try.func63, Try.ntmps63
  go_wp2_with fail
  ((with_reducible refine G.out.mono ?_); rintro e w1 ⟨rfl, hb1⟩)
  have hbk := hb1.alloc hb1.size (.cells #[.int .i64 kn.left, .int .i64 kn.right, .int .i64 kn.off, .int .i64 kn.len, .int .i64 kn.high, .int .i64 kn.leaves, .int .i64 kn.feeds] 50)
  have hk0 : (w1.alloc (.cells #[.int .i64 kn.left, .int .i64 kn.right, .int .i64 kn.off, .int .i64 kn.len, .int .i64 kn.high, .int .i64 kn.leaves, .int .i64 kn.feeds] 50)).heap[w1.heap.size]? = some (.cells #[.int .i64 kn.left, .int .i64 kn.right, .int .i64 kn.off, .int .i64 kn.len, .int .i64 kn.high, .int .i64 kn.leaves, .int .i64 kn.feeds] 50 (0, 0)) := heap_alloc_new _ _
  have hnF : ¬ F w1.heap.size := fun hf => by
    have h1 := (resV R bm gs gb ga rb rf q S ks).lt HH.out _ hf
    have h2 := hb1.size
    omega
  go_upto_region 1 with fail
  have HA := Lib.hid ((resV R bm gs gb ga rb rf q S ks).below HH.out hbk)
  have hlk := HLK.out _ hbk
  have HB := Lib.hid (And.intro hk0 (And.intro hnF (Fr.of_below hbk : Fr w F _ F)))
  clear hb1 hbk hk0 hnF
  generalize w1.alloc (.cells #[.int .i64 kn.left, .int .i64 kn.right, .int .i64 kn.off, .int .i64 kn.len, .int .i64 kn.high, .int .i64 kn.leaves, .int .i64 kn.feeds] 50) = W at HA HB hlk ⊢
  generalize w1.heap.size = bk at HB ⊢
  have hmW : MapI W bm m sf := by
    obtain ⟨_, _, _, _, h4, _⟩ := resV_of R bm gs gb ga rb rf q S ks HA.out
    exact h4
  have HM := Lib.hid hmW
  clear hmW
  go_wp2_with (at_mapUpdate; refine wpList_putI rfl _ _ _ rfl (k := t) (z := 1) rfl HM.out hmz rfl rfl hi (by decide) ?_)
  intro w2 hm2 hg2
  obtain ⟨hA2, hf2⟩ := resV_put R bm gs gb ga rb rf q S ks hkp HA.out hm2 hg2
  have hk2 := hf2.block HB.out.1 HB.out.2.1
  have H2 := Lib.hid (And.intro hA2 (And.intro hk2 (And.intro (hf2.out (Array.getElem?_eq_some_iff.1 HB.out.1).1 HB.out.2.1) (HB.out.2.2.trans hf2))))
  have f0 := cell_of_row w2 bk 0 _ _ (0, 0) hk2
  have hlt2 := (Array.getElem?_eq_some_iff.1 hk2).1
  simp only [List.getElem?_toArray, List.getElem?_cons_zero] at f0
  clear hm2 hg2 hA2 hf2 hk2 hlk
  have HBD := Lib.hid (HW.out.2)
  by_cases hl : 0 < kn.left
  · rw [if_pos hl] at HVI
    obtain ⟨hl1, hl2, hr1, hr2⟩ := HBD.out hl
    have hlt3 := HW.out.1
    have hsm : (ks.length : Int) ≤ 1073741824 := by unfold small at hks; omega
    have hrun := HRM.out.2
    have hcnt := HRM.out.1
    rw [HVI.out] at hrun hcnt
    simp only at hrun hcnt
    rw [Runs_append, Runs_append] at hrun
    obtain ⟨⟨hrl, hrr⟩, hrt⟩ := hrun
    simp only [List.length_append, List.length_cons, List.length_nil] at hcnt
    have hI1 := IH.out kn.left (putF sf t 1) (m + 1) s (by omega) (i64ok_of (by omega) (by omega)) (by omega) hrl
    have hI2 := IH.out kn.right (vis ks n kn.left (putF sf t 1)).1 (m + 1 + (vis ks n kn.left (putF sf t 1)).2.length) ((vis ks n kn.left (putF sf t 1)).2.foldl step s) (by omega) (i64ok_of (by omega) (by omega)) (by omega) hrr
    have hD := HDO.out _ hrt.1
    have HI1 := Lib.hid hI1
    have HI2 := Lib.hid hI2
    have HD := Lib.hid hD
    clear hI1 hI2 hD hrl hrr hrt hcnt hr1 hr2 hl1 hl2 hlt3
    have hl' : kn.left > 0 := hl
    have heg := eg
    go_wp2_with fail
    ((with_reducible refine (HI1.out.run _ _ H2.out.1).mono ?_); rintro e w3 ⟨v3, s3, F3, rfl, hv3, ha3, hf3⟩)
    unfold visP at hv3
    obtain ⟨rfl, rfl⟩ := hv3
    have hk3 := hf3.block H2.out.2.1 H2.out.2.2.1
    have H3 := Lib.hid (And.intro ha3 (And.intro hk3 (And.intro (hf3.out (Array.getElem?_eq_some_iff.1 H2.out.2.1).1 H2.out.2.2.1) (H2.out.2.2.2.trans hf3))))
    have g1 := cell_of_row w3 bk 1 _ _ (0, 0) hk3
    have gl := (Array.getElem?_eq_some_iff.1 hk3).1
    simp only [List.getElem?_toArray, List.getElem?_cons_zero, List.getElem?_cons_succ] at g1
    clear ha3 hf3 hk3 f0 hlt2
    go_wp2_with fail
    ((with_reducible refine (HI2.out.run _ _ H3.out.1).mono ?_); rintro e w4 ⟨v4, s4, F4, rfl, hv4, ha4, hf4⟩)
    unfold visP at hv4
    obtain ⟨rfl, rfl⟩ := hv4
    have hk4 := hf4.block H3.out.2.1 H3.out.2.2.1
    have H4 := Lib.hid (And.intro ha4 (And.intro hk4 (And.intro (hf4.out (Array.getElem?_eq_some_iff.1 H3.out.2.1).1 H3.out.2.2.1) (H3.out.2.2.2.trans hf4))))
    have f0 := cell_of_row w4 bk 0 _ _ (0, 0) hk4
    have f1 := cell_of_row w4 bk 1 _ _ (0, 0) hk4
    have f2 := cell_of_row w4 bk 2 _ _ (0, 0) hk4
    have f3 := cell_of_row w4 bk 3 _ _ (0, 0) hk4
    have f4 := cell_of_row w4 bk 4 _ _ (0, 0) hk4
    have f5 := cell_of_row w4 bk 5 _ _ (0, 0) hk4
    have f6 := cell_of_row w4 bk 6 _ _ (0, 0) hk4
    simp only [List.getElem?_toArray, List.getElem?_cons_zero, List.getElem?_cons_succ] at f1 f2 f3 f4 f5 f6
    have gl4 := (Array.getElem?_eq_some_iff.1 hk4).1
    simp only [List.getElem?_toArray, List.getElem?_cons_zero] at f0
    clear ha4 hf4 hk4 g1 gl
    rw [List.foldl_append] at HD
    have HV := Lib.hid (does_V R bm gs gb ga rb rf q S ks (m := ((vis ks n kn.right (vis ks n kn.left (putF sf t 1)).1).1, m + 1 + (vis ks n kn.left (putF sf t 1)).2.length + (vis ks n kn.right (vis ks n kn.left (putF sf t 1)).1).2.length)) HD.out)
    go_wp2_with fail
    ((with_reducible refine (HV.out.run _ _ H4.out.1).mono ?_); rintro e w5 ⟨v5, ⟨m5, s5⟩, F5, rfl, ⟨⟨rfl, hs5⟩, hm5⟩, ha5, hf5⟩)
    have HE := Lib.hid (And.intro ha5 (And.intro (H4.out.2.2.2.trans hf5) (And.intro hs5 hm5)))
    clear ha5 hf5 hs5 hm5
    go_wp2
    (first | go_end0 | refine bodyPost_ret (v := .tuple #[]) (by simp [results, Try.results63, go_sem]) rfl ?_)
    obtain ⟨ha5, hf5, hs5, hm5⟩ := HE.out
    try simp only at hs5 hm5
    subst hs5 hm5
    refine ⟨_, _, F5, rfl, ⟨rfl, ?_⟩, ha5, hf5⟩
    rw [HVI.out]
    simp only [List.length_append, List.length_cons, List.length_nil, List.foldl_append, List.foldl_cons, List.foldl_nil]
    refine Prod.ext (Prod.ext rfl ?_) rfl
    simp only
    omega
  · have hl' : ¬ kn.left > 0 := hl
    rw [if_neg hl] at HVI
    have HR1 := Lib.hid (HDO.out s (by have := HRM.out.2; rw [HVI.out] at this; exact this.1))
    have HV := Lib.hid (does_V R bm gs gb ga rb rf q S ks (m := (putF sf t 1, m + 1)) HR1.out)
    have f1 := cell_of_row w2 bk 1 _ _ (0, 0) H2.out.2.1
    have f2 := cell_of_row w2 bk 2 _ _ (0, 0) H2.out.2.1
    have f3 := cell_of_row w2 bk 3 _ _ (0, 0) H2.out.2.1
    have f4 := cell_of_row w2 bk 4 _ _ (0, 0) H2.out.2.1
    have f5 := cell_of_row w2 bk 5 _ _ (0, 0) H2.out.2.1
    have f6 := cell_of_row w2 bk 6 _ _ (0, 0) H2.out.2.1
    simp only [List.getElem?_toArray, List.getElem?_cons_zero, List.getElem?_cons_succ] at f1 f2 f3 f4 f5 f6
    have heg := eg
    go_wp2_with fail
    ((with_reducible refine (HV.out.run _ _ H2.out.1).mono ?_); rintro e w5 ⟨v5, ⟨m5, s5⟩, F5, rfl, ⟨⟨rfl, hs5⟩, hm5⟩, ha5, hf5⟩)
    have HE := Lib.hid (And.intro ha5 (And.intro (H2.out.2.2.2.trans hf5) (And.intro hs5 hm5)))
    clear ha5 hf5 hs5 hm5
    go_wp2
    (first | go_end0 | refine bodyPost_ret (v := .tuple #[]) (by simp [results, Try.results63, go_sem]) rfl ?_)
    obtain ⟨ha5, hf5, hs5, hm5⟩ := HE.out
    try simp only at hs5 hm5
    subst hs5 hm5
    refine ⟨_, _, F5, rfl, ⟨rfl, ?_⟩, ha5, hf5⟩
    rw [HVI.out]
    rfl
end
end Go.Proofs.Ytoeamnagmehpeaa.Kp


/- Layer 26: what roots need: the counting of knots and bytes. */ -/
namespace Go.Proofs.Ytoeamnagmehpeaa.Kp
set_option linter.unusedSimpArgs false
set_option linter.unusedVariables false
open Go Go.RowKit Go.Proofs.Ytoeamnagmehpeaa.Rp Go.Proofs.Ytoeamnagmehpeaa.Wk
open Go.Proofs.Ytoeamnagmehpeaa.Ar (T Is Ext WF Knot getK getB getS Arena resAr small)
attribute [local go_sem] lt_add1 lt_self1 size_ne size_ne' size_ne1 size_ne1'
attribute [local irreducible] wpGrow wpThr

/-- two counters. -/
def resN (p4 p5 : Nat) : Res (Int × Int) where
  at_ := fun w F s => (∀ b, F b ↔ (b = p4 ∨ b = p5)) ∧ p4 ≠ p5 ∧ w.heap[p4]? = some (.cells #[.int .i64 s.1] 3 (0, 0)) ∧ w.heap[p5]? = some (.cells #[.int .i64 s.2] 3 (0, 0))
  below := fun {w w' F s} h hb => by
    obtain ⟨h1, h2, h3, h4⟩ := h
    exact ⟨h1, h2, (hb.block _ (Array.getElem?_eq_some_iff.1 h3).1).trans h3, (hb.block _ (Array.getElem?_eq_some_iff.1 h4).1).trans h4⟩
  lt := fun {w F s} h b hb => by
    obtain ⟨h1, h2, h3, h4⟩ := h
    rcases (h1 b).1 hb with rfl | rfl
    · exact (Array.getElem?_eq_some_iff.1 h3).1
    · exact (Array.getElem?_eq_some_iff.1 h4).1
theorem keepsN (p4 p5 : Nat) : Keeps (resN p4 p5) := by
  intro w w' F G G' s h hf hd
  obtain ⟨h1, h2, h3, h4⟩ := h
  exact ⟨h1, h2, hf.block h3 (hd _ ((h1 _).2 (.inl rfl))), hf.block h4 (hd _ ((h1 _).2 (.inr rfl)))⟩
def stepN (ks : List Knot) (s : Int × Int) (t : Int) : Int × Int := (s.1 + 1, s.2 + (if (getK ks t).left = 0 then (getK ks t).len else 0))
def PreN (ks : List Knot) (s : Int × Int) (t : Int) : Prop := 0 ≤ s.1 ∧ s.1 ≤ 1000000000 ∧ 0 ≤ s.2 ∧ s.2 ≤ 1000000000000000000 ∧ 0 ≤ (getK ks t).len ∧ (getK ks t).len ≤ 1099511627776

section
variable {w : World} {F : Nat → Prop} {p4 p5 : Nat} {u v x y : Value} {e : TypeId}
theorem set_one (h1 : ∀ b, F b ↔ (b = p4 ∨ b = p5)) (h2 : p4 ≠ p5) (h3 : w.heap[p4]? = some (.cells #[u] e (0, 0))) (h4 : w.heap[p5]? = some (.cells #[v] e (0, 0))) :
    (w.setCell ⟨p4, 0, none⟩ x).heap[p4]? = some (.cells #[x] e (0, 0)) ∧ (w.setCell ⟨p4, 0, none⟩ x).heap[p5]? = some (.cells #[v] e (0, 0)) ∧ Fr w F (w.setCell ⟨p4, 0, none⟩ x) F :=
  ⟨by simp [World.setCell, Array.getElem?_modify, h3], (set_block (fun e => h2 e.symm)).trans h4, ⟨rfl, rfl, rfl, by rw [World.size_setCell]; exact Nat.le_refl _, fun b _ hn => set_block (fun e => hn ((h1 b).2 (.inl e))), fun b hb => .inl hb⟩⟩
theorem set_snd (h1 : ∀ b, F b ↔ (b = p4 ∨ b = p5)) (h2 : p4 ≠ p5) (h3 : w.heap[p4]? = some (.cells #[u] e (0, 0))) (h4 : w.heap[p5]? = some (.cells #[v] e (0, 0))) :
    (w.setCell ⟨p5, 0, none⟩ y).heap[p4]? = some (.cells #[u] e (0, 0)) ∧ (w.setCell ⟨p5, 0, none⟩ y).heap[p5]? = some (.cells #[y] e (0, 0)) ∧ Fr w F (w.setCell ⟨p5, 0, none⟩ y) F :=
  ⟨(set_block h2).trans h3, by simp [World.setCell, Array.getElem?_modify, h4], ⟨rfl, rfl, rfl, by rw [World.size_setCell]; exact Nat.le_refl _, fun b _ hn => set_block (fun e => hn ((h1 b).2 (.inr e))), fun b hb => .inl hb⟩⟩
theorem set_two (h1 : ∀ b, F b ↔ (b = p4 ∨ b = p5)) (h2 : p4 ≠ p5) (h3 : w.heap[p4]? = some (.cells #[u] e (0, 0))) (h4 : w.heap[p5]? = some (.cells #[v] e (0, 0))) :
    ((w.setCell ⟨p4, 0, none⟩ x).setCell ⟨p5, 0, none⟩ y).heap[p4]? = some (.cells #[x] e (0, 0)) ∧ ((w.setCell ⟨p4, 0, none⟩ x).setCell ⟨p5, 0, none⟩ y).heap[p5]? = some (.cells #[y] e (0, 0)) ∧ Fr w F ((w.setCell ⟨p4, 0, none⟩ x).setCell ⟨p5, 0, none⟩ y) F := by
  obtain ⟨a1, a2, a3⟩ := set_one (x := x) h1 h2 h3 h4
  obtain ⟨b1, b2, b3⟩ := set_snd (y := y) h1 h2 a1 a2
  exact ⟨b1, b2, a3.trans b3⟩
end

set_option maxHeartbeats 1000000 in
theorem count_does (p4 p5 : Nat) (ks : List Knot) (t : Int) (s : Int × Int) (hp : PreN ks s t) : Does Try.prog (resN p4 p5) 64 (#[] ++ (#[.int .i64 t, (getK ks t).val] ++ #[.pointer (some ⟨p4, 0, none⟩), .pointer (some ⟨p5, 0, none⟩)])) s (fun v s' => v = .tuple #[] ∧ s' = stepN ks s t) := by
  rintro w F ⟨h1, h2, h3, h4⟩
  obtain ⟨a, c⟩ := s
  obtain ⟨q1, q2, q3, q4, q5, q6⟩ := hp
  simp only at q1 q2 q3 q4 h3 h4
  unfold stepN
  unfold Knot.val
  simp only
  generalize getK ks t = k at q5 q6 ⊢
  have hlt4 := (Array.getElem?_eq_some_iff.1 h3).1
  have hlt5 := (Array.getElem?_eq_some_iff.1 h4).1
  have c4 := cell_of_row w p4 0 _ _ (0, 0) h3
  have c5 := cell_of_row w p5 0 _ _ (0, 0) h4
  have f4 : w.frozen? ⟨p4, 0, none⟩ = false := by simp [World.frozen?, h3]
  have f5 : w.frozen? ⟨p5, 0, none⟩ = false := by simp [World.frozen?, h4]
  have hne := h2
  have hne' : p5 ≠ p4 := fun e => h2 e.symm
  have HH := Lib.hid (And.intro h1 (And.intro h2 (And.intro h3 h4)))
  clear h1 h3 h4 h2
  simp only [List.getElem?_toArray, List.getElem?_cons_zero] at c4 c5
  by_cases hl : k.left = 0
  · rw [if_pos hl]
    go_enter Try.func64, Try.ntmps64
    go_wp2
    (first | go_end0 | refine bodyPost_ret (v := .tuple #[]) (by simp [results, Try.results64, go_sem]) rfl ?_)
    obtain ⟨h1, h2, h3, h4⟩ := HH.out
    obtain ⟨g3, g4, gf⟩ := set_two (x := .int .i64 (a + 1)) (y := .int .i64 (c + k.len)) h1 h2 h3 h4
    have hb : Below ((w.setCell ⟨p4, 0, none⟩ (.int .i64 (a + 1))).setCell ⟨p5, 0, none⟩ (.int .i64 (c + k.len))).heap.size ((w.setCell ⟨p4, 0, none⟩ (.int .i64 (a + 1))).setCell ⟨p5, 0, none⟩ (.int .i64 (c + k.len))) (((w.setCell ⟨p4, 0, none⟩ (.int .i64 (a + 1))).setCell ⟨p5, 0, none⟩ (.int .i64 (c + k.len))).alloc (.cells #[.int .i64 0, .int .i64 k.right, .int .i64 k.off, .int .i64 k.len, .int .i64 k.high, .int .i64 k.leaves, .int .i64 k.feeds] 50)) := (Below.refl _ _).alloc (Nat.le_refl _) _
    exact ⟨_, (a + 1, c + k.len), F, rfl, ⟨rfl, rfl⟩, (resN p4 p5).below ⟨h1, h2, g3, g4⟩ hb, gf.trans (Fr.of_below hb)⟩
  · rw [if_neg hl]
    have hl' : (k.left == 0) = false := by simp [hl]
    go_enter Try.func64, Try.ntmps64
    go_wp2
    (first | go_end0 | refine bodyPost_ret (v := .tuple #[]) (by simp [results, Try.results64, go_sem]) rfl ?_)
    obtain ⟨h1, h2, h3, h4⟩ := HH.out
    obtain ⟨g3, g4, gf⟩ := set_one (x := .int .i64 (a + 1)) h1 h2 h3 h4
    have hb : Below (w.setCell ⟨p4, 0, none⟩ (.int .i64 (a + 1))).heap.size (w.setCell ⟨p4, 0, none⟩ (.int .i64 (a + 1))) ((w.setCell ⟨p4, 0, none⟩ (.int .i64 (a + 1))).alloc (.cells #[.int .i64 k.left, .int .i64 k.right, .int .i64 k.off, .int .i64 k.len, .int .i64 k.high, .int .i64 k.leaves, .int .i64 k.feeds] 50)) := (Below.refl _ _).alloc (Nat.le_refl _) _
    exact ⟨_, (a + 1, c), F, rfl, ⟨rfl, by simp⟩, (resN p4 p5).below ⟨h1, h2, g3, g4⟩ hb, gf.trans (Fr.of_below hb)⟩
end Go.Proofs.Ytoeamnagmehpeaa.Kp


/- Layer 26: which knots are visited: each once, all that are there; plain. */ -/
namespace Go.Proofs.Ytoeamnagmehpeaa.Kp
set_option linter.unusedSimpArgs false
set_option linter.unusedVariables false
open Go Go.RowKit Go.Proofs.Ytoeamnagmehpeaa.Rp Go.Proofs.Ytoeamnagmehpeaa.Wk
open Go.Proofs.Ytoeamnagmehpeaa.Ar (T Is Ext WF Knot getK getB getS Arena resAr small)

/-- numbers, each once, from 1 to n: no more than n. -/
theorem nodup_le : ∀ (n : Nat) (l : List Int), l.Nodup → (∀ x ∈ l, 1 ≤ x ∧ x ≤ n) → l.length ≤ n
  | 0, l, _, h => by
    cases l with
    | nil => simp
    | cons x l => have := h x (by simp); omega
  | n + 1, l, hn, h => by
    have h1 : (l.filter (fun x => decide (x ≠ ((n : Int) + 1)))).length ≤ n := by
      refine nodup_le n _ (hn.sublist List.filter_sublist) (fun x hx => ?_)
      rw [List.mem_filter] at hx
      have := h x hx.1
      have h2 : x ≠ (n : Int) + 1 := by simpa using hx.2
      omega
    have h2 : ∀ m : List Int, m.Nodup → m.length ≤ (m.filter (fun x => decide (x ≠ ((n : Int) + 1)))).length + 1 := by
      intro m
      induction m with
      | nil => intro _; simp
      | cons x m ih =>
        intro hm
        rw [List.nodup_cons] at hm
        by_cases e : x = (n : Int) + 1
        · subst e
          have hf : m.filter (fun x => decide (x ≠ ((n : Int) + 1))) = m := by
            rw [List.filter_eq_self]
            intro y hy
            simp
            rintro rfl
            exact hm.1 hy
          rw [List.filter_cons]
          simp only [ne_eq, not_true_eq_false, decide_false, Bool.false_eq_true, if_false, List.length_cons]
          have hf' : m.filter (fun x => decide (¬ x = ((n : Int) + 1))) = m := hf
          rw [hf']
          exact Nat.le_refl _
        · rw [List.filter_cons]
          have ih' := ih hm.2
          simp only [ne_eq, e, not_false_eq_true, decide_true, if_true, List.length_cons] at ih' ⊢
          omega
    have := h2 l hn
    omega

/-- what a visit visits. -/
structure VisOk (ks : List Knot) (sf sf' : Int → Option Int) (out : List Int) : Prop where
  nodup : out.Nodup
  new : ∀ j ∈ out, (sf j).isSome = false ∧ 1 ≤ j ∧ j ≤ ks.length
  seen : ∀ j, (sf' j).isSome = true ↔ ((sf j).isSome = true ∨ j ∈ out)
theorem VisOk.nil (ks : List Knot) (sf : Int → Option Int) : VisOk ks sf sf [] := ⟨List.nodup_nil, fun j hj => by simp at hj, fun j => by simp⟩
theorem VisOk.append {ks : List Knot} {a b c : Int → Option Int} {x y : List Int} (h : VisOk ks a b x) (h' : VisOk ks b c y) : VisOk ks a c (x ++ y) := by
  refine ⟨List.nodup_append.2 ⟨h.nodup, h'.nodup, fun u hu v hv e => ?_⟩, fun j hj => ?_, fun j => ?_⟩
  · subst e
    have h1 := (h.seen u).2 (.inr hu)
    have h2 := (h'.new u hv).1
    rw [h1] at h2
    cases h2
  · rcases List.mem_append.1 hj with hj | hj
    · exact h.new j hj
    · have h2 := h'.new j hj
      refine ⟨?_, h2.2⟩
      cases ha : (a j).isSome with
      | false => rfl
      | true =>
        have := (h.seen j).2 (.inl ha)
        rw [this] at h2
        cases h2.1
  · rw [h'.seen, h.seen, List.mem_append, or_assoc]
theorem vis_ok {ks : List Knot} (hw : WF ks) : ∀ (n : Nat) (t : Int) (sf : Int → Option Int), t < n → VisOk ks sf (vis ks n t sf).1 (vis ks n t sf).2
  | 0, t, sf, _ => VisOk.nil ks sf
  | n + 1, t, sf, ht => by
    simp only [vis]
    by_cases hs : (sf t).isSome = true ∨ getB ks t = false
    · rw [if_pos hs]; exact VisOk.nil ks sf
    · rw [if_neg hs]
      have hns : (sf t).isSome = false := by
        cases h : (sf t).isSome with
        | false => rfl
        | true => exact absurd (.inl h) hs
      have hgb : getB ks t = true := by
        cases h : getB ks t with
        | true => rfl
        | false => exact absurd (.inr h) hs
      obtain ⟨hr, hc⟩ := wf_parts hw hgb
      have hp : ∀ j, ((putF sf t 1) j).isSome = true ↔ (j = t ∨ (sf j).isSome = true) := by
        intro j
        unfold putF
        by_cases e : j = t
        · simp [e]
        · simp [e]
      have fin : ∀ (sf' : Int → Option Int) (out : List Int), VisOk ks (putF sf t 1) sf' out → VisOk ks sf sf' (out ++ [t]) := by
        intro sf' out h
        refine ⟨List.nodup_append.2 ⟨h.nodup, by simp, fun u hu v hv e => ?_⟩, fun j hj => ?_, fun j => ?_⟩
        · simp only [List.mem_singleton] at hv
          subst e
          subst hv
          have := (h.new u hu).1
          rw [(hp u).2 (.inl rfl)] at this
          cases this
        · rcases List.mem_append.1 hj with hj | hj
          · have h2 := h.new j hj
            refine ⟨?_, h2.2⟩
            cases ha : (sf j).isSome with
            | false => rfl
            | true =>
              rw [(hp j).2 (.inr ha)] at h2
              cases h2.1
          · simp only [List.mem_singleton] at hj
            subst hj
            exact ⟨hns, hr⟩
        · rw [h.seen, hp, List.mem_append, List.mem_singleton]
          constructor
          · rintro ((h | h) | h)
            · exact .inr (.inr h)
            · exact .inl h
            · exact .inr (.inl h)
          · rintro (h | h | h)
            · exact .inl (.inr h)
            · exact .inr h
            · exact .inl (.inl h)
      by_cases hl : 0 < (getK ks t).left
      · rw [if_pos hl]
        obtain ⟨h1, h2, h3, h4⟩ := hc hl
        exact fin _ _ ((vis_ok hw n _ _ (by omega)).append (vis_ok hw n _ _ (by omega)))
      · rw [if_neg hl]
        exact fin _ _ (VisOk.nil ks _)
theorem VisOk.count {ks : List Knot} {sf' : Int → Option Int} {out : List Int} (h : VisOk ks (fun _ => none) sf' out) : out.length ≤ ks.length := nodup_le _ _ h.nodup fun x hx => (h.new x hx).2

/-- some roots, one behind the other. -/
def visL (ks : List Knot) (n : Nat) : List Int → (Int → Option Int) → (Int → Option Int) × List Int
  | [], sf => (sf, [])
  | t :: l, sf => ((visL ks n l (vis ks n t sf).1).1, (vis ks n t sf).2 ++ (visL ks n l (vis ks n t sf).1).2)
theorem visL_snoc (ks : List Knot) (n : Nat) : ∀ (l : List Int) (t : Int) (sf : Int → Option Int), visL ks n (l ++ [t]) sf = ((vis ks n t (visL ks n l sf).1).1, (visL ks n l sf).2 ++ (vis ks n t (visL ks n l sf).1).2)
  | [], t, sf => by simp [visL]
  | u :: l, t, sf => by
    simp only [List.cons_append, visL]
    rw [visL_snoc ks n l t]
    simp
theorem visL_ok {ks : List Knot} (hw : WF ks) (n : Nat) : ∀ (l : List Int) (sf : Int → Option Int), (∀ t ∈ l, t < n) → VisOk ks sf (visL ks n l sf).1 (visL ks n l sf).2
  | [], sf, _ => VisOk.nil ks sf
  | t :: l, sf, h => (vis_ok hw n t sf (h t (by simp))).append (visL_ok hw n l _ (fun u hu => h u (by simp [hu])))

/-- counting: it may be done. -/
theorem runsN {ks : List Knot} (hw : WF ks) : ∀ (l : List Int) (s : Int × Int), (∀ j ∈ l, 1 ≤ j ∧ j ≤ ks.length) → 0 ≤ s.1 → s.1 + l.length ≤ 900000 → 0 ≤ s.2 → s.2 ≤ s.1 * 1099511627776 → Runs (stepN ks) (PreN ks) s l
  | [], s, _, _, _, _, _ => trivial
  | t :: l, s, h, h1, h2, h3, h4 => by
    have ht := h t (by simp)
    obtain ⟨k, hk⟩ : ∃ k : Nat, t = (k : Int) + 1 := ⟨(t - 1).toNat, by omega⟩
    have hg := (Ar.getK_at hk (show k < ks.length by omega)).1
    have hb := hw.bounds k (by omega)
    simp only [List.length_cons] at h2
    have hlen : 0 ≤ (getK ks t).len ∧ (getK ks t).len ≤ 1099511627776 := by rw [hg]; omega
    refine ⟨⟨h1, by omega, h3, by omega, hlen.1, hlen.2⟩, runsN hw l _ (fun j hj => h j (by simp [hj])) ?_ ?_ ?_ ?_⟩
    · simp only [stepN]; omega
    · simp only [stepN]; omega
    · simp only [stepN]; split <;> omega
    · simp only [stepN]; split <;> omega
theorem foldN (ks : List Knot) : ∀ (l : List Int) (s : Int × Int), (l.foldl (stepN ks) s).1 = s.1 + l.length
  | [], s => by simp
  | t :: l, s => by
    simp only [List.foldl_cons]
    rw [foldN ks l]
    simp only [stepN, List.length_cons]
    omega
end Go.Proofs.Ytoeamnagmehpeaa.Kp


/- Layer 26: there; Needed. */ -/
namespace Go.Proofs.Ytoeamnagmehpeaa.Kp
set_option linter.unusedSimpArgs false
set_option linter.unusedVariables false
open Go Go.RowKit Go.Proofs.Ytoeamnagmehpeaa.Rp Go.Proofs.Ytoeamnagmehpeaa.Wk
open Go.Proofs.Ytoeamnagmehpeaa.Ar (T Is Ext WF Knot getK getB getS Arena resAr small)
attribute [local go_sem] lt_add1 lt_self1 size_ne size_ne' size_ne1 size_ne1'
attribute [local irreducible] wpGrow wpThr

section
variable (gs gb ga : Nat) (rb rf q : Option Nat) (S : ByteArray) (ks : List Knot)
set_option maxHeartbeats 1000000 in
theorem there_any (w : World) (v : Value) (l : List Int) (h : St w gs gb ga rb rf q S ks) (hks : ks.length ≤ small) (hv : SlN w v l) (hl : ∀ t ∈ l, ∃ X, Is ks t X) (hn : l.length ≤ 1000) :
    Calls Try.prog 62 #[.pointer (some ⟨gs, 0, none⟩), v] w fun e w' => e = .returned (.bool true) ∧ Below w.heap.size w w' := by
  obtain ⟨A, c, rfl, hc⟩ := hv
  have HC := Lib.hid hc
  have HS := Lib.hid (fun t (ht : t ∈ l) w' (hb : Below w.heap.size w w') => by
    obtain ⟨X, hX⟩ := hl t ht
    exact (⟨X.size, rsize_is gs gb ga rb rf q S ks w' t X hX (h.below hb) hks⟩ : ∃ z, Calls Try.prog 20 #[.pointer (some ⟨gs, 0, none⟩), .int .i64 t] w' fun e w'' => e = .returned (.tuple #[.int .i64 z, .int .i64 0]) ∧ Below w'.heap.size w' w''))
  have hn' : (l.length : Int) ≤ 1000 := by omega
  clear h hc hl
  go_enter Try.func62, Try.ntmps62
  go_wp2_with fail
  go_loopw [11] (fun i wr => ∃ k : Nat, i = .int .i64 k ∧ k ≤ l.length ∧ Below w.heap.size w wr) (fun i _ => l.length - (intOf i).toNat)
  case atStart => exact ⟨0, rfl, Nat.zero_le _, Below.refl _ _⟩
  case round =>
    obtain ⟨k, rfl, hk, hbr⟩ := hrel
    have HBR := Lib.hid hbr
    by_cases hkn : k < l.length
    · have hkn' : (k : Int) < l.length := by omega
      obtain ⟨b, off, rfl, hb, hcs⟩ := HC.out (by omega)
      have f0 : wr.cell? ⟨b, off + k, none⟩ = some (.int .i64 (l.getD k 0)) := (hbr.cell (p := ⟨b, _, none⟩) hb).trans (hcs k hkn)
      have fl : b < wr.heap.size := Nat.lt_of_lt_of_le hb hbr.size
      obtain ⟨z, hz⟩ := HS.out (l.getD k 0) (by simp [List.getD, hkn]) wr hbr
      have HZ := Lib.hid hz
      clear hbr hcs hz
      generalize l.getD k 0 = t at f0 HZ
      go_wp2_with fail
      ((with_reducible refine HZ.out.mono ?_); rintro e w1 ⟨rfl, hb1⟩)
      have H1 := Lib.hid (HBR.out.trans (hb1.mono HBR.out.size))
      clear hb1
      go_wp2_with fail
      go_roundw
      case rel => exact ⟨k + 1, by go_num, by omega, H1.out⟩
      case measure => simp [intOf]; omega
    · have hkn' : ¬ ((k : Int) < l.length) := by omega
      go_wp2_with fail
      go_ret
      exact ⟨rfl, HBR.out⟩

theorem needed_eg : ∀ args w, (callFunc 64 args).run Try.prog w = .ok (.enter 64 args) w := enters_of Try.func64 (by kernel_rfl) rfl
def neededB (ks : List Knot) (l : List Int) : Int × Int := (visL ks (ks.length + 1) l (fun _ => none)).2.foldl (stepN ks) (0, 0)

set_option maxRecDepth 100000 in
set_option maxHeartbeats 4000000 in
theorem needed_any (w : World) (v : Value) (l : List Int) (h : St w gs gb ga rb rf q S ks) (hw : WF ks) (hks : ks.length ≤ 840000) (hv : SlN w v l) (hl : ∀ t ∈ l, ∃ X, Is ks t X) (hn : l.length ≤ 1000) :
    Calls Try.prog 17 #[.pointer (some ⟨gs, 0, none⟩), v] w fun e w' => e = .returned (.tuple #[.int .i64 (neededB ks l).1, .int .i64 (neededB ks l).2, .int .i64 0]) ∧ Below w.heap.size w w' := by
  have hb0 : Below w.heap.size w ((w.alloc (.cells #[.int .i64 0] 3)).alloc (.cells #[.int .i64 0] 3)) := ((Below.refl _ _).alloc (Nat.le_refl _) _).alloc (by simp) _
  have hk4 : ((w.alloc (.cells #[.int .i64 0] 3)).alloc (.cells #[.int .i64 0] 3)).heap[w.heap.size]? = some (.cells #[.int .i64 0] 3 (0, 0)) := (Below.heap_alloc _ _ w.heap.size (by simp)).trans (heap_alloc_new _ _)
  have hk5 : ((w.alloc (.cells #[.int .i64 0] 3)).alloc (.cells #[.int .i64 0] 3)).heap[w.heap.size + 1]? = some (.cells #[.int .i64 0] 3 (0, 0)) := by
    have e : w.heap.size + 1 = (w.alloc (.cells #[.int .i64 0] 3)).heap.size := by simp
    rw [e]
    exact heap_alloc_new _ _
  have hv2 : SlN ((w.alloc (.cells #[.int .i64 0] 3)).alloc (.cells #[.int .i64 0] 3)) v l := by
    obtain ⟨A, c, rfl, hc⟩ := hv
    refine ⟨A, c, rfl, fun h0 => ?_⟩
    obtain ⟨b, off, e, hb, hcs⟩ := hc h0
    exact ⟨b, off, e, Nat.lt_of_lt_of_le hb hb0.size, fun i hi => (hb0.cell (p := ⟨b, _, none⟩) hb).trans (hcs i hi)⟩
  have hsm : ks.length ≤ small := by unfold small; omega
  have HT := Lib.hid (there_any gs gb ga rb rf q S ks _ v l (h.below hb0) hsm hv2 hl hn)
  have HH := Lib.hid (And.intro h (And.intro hb0 (And.intro hk4 (And.intro hk5 hv))))
  obtain ⟨A, c, rfl, hc⟩ := hv
  have hmm := @run_makeMap Try.prog
  have hn' : (l.length : Int) ≤ 1000 := by omega
  clear h hb0 hk4 hk5 hv2 hc
  go_enter Try.func17, Try.ntmps17
  go_wp2_with fail
  ((with_reducible refine HT.out.mono ?_); rintro e w1 ⟨rfl, hb1⟩)
  have H1 := Lib.hid hb1
  clear hb1 HT
  go_upto_region 4 with fail
  have hz1 := H1.out.size
  simp only [World.size_alloc] at hz1
  have hW : (resV (resN w.heap.size (w.heap.size + 1)) w1.heap.size gs gb ga rb rf q S ks).at_ (w1.alloc (.map #[] 0)) (fun b => (b = w.heap.size ∨ b = w.heap.size + 1) ∨ b = w1.heap.size) ((fun _ => none, 0), (0, 0)) := by
    have hb3 : Below w1.heap.size w1 (w1.alloc (.map #[] 0)) := (Below.refl _ _).alloc (Nat.le_refl _) _
    have hst := ((HH.out.1.below HH.out.2.1).below H1.out).below hb3
    refine resV_mk _ _ gs gb ga rb rf q S ks (F1 := fun b => b = w.heap.size ∨ b = w.heap.size + 1) (fun b => Iff.rfl) ((resN w.heap.size (w.heap.size + 1)).below ((resN w.heap.size (w.heap.size + 1)).below ⟨fun b => Iff.rfl, by omega, HH.out.2.2.1, HH.out.2.2.2.1⟩ H1.out) hb3) (by omega) (MapI.made w1) ⟨hst, fun k hk e => ?_, fun e => ?_⟩
    · have := HH.out.1.foot_lt hk; omega
    · have := HH.out.1.lt; omega
  have hfr : Fr w (fun _ => False) (w1.alloc (.map #[] 0)) (fun b => (b = w.heap.size ∨ b = w.heap.size + 1) ∨ b = w1.heap.size) := by
    have hb : Below w.heap.size w (w1.alloc (.map #[] 0)) := (HH.out.2.1.trans (H1.out.mono HH.out.2.1.size)).alloc (by omega) _
    exact ⟨hb.os, hb.tape, hb.output, hb.size, fun b hb' _ => hb.block b hb', fun b hb' => .inr (by omega)⟩
  have HW := Lib.hid (And.intro hW hfr)
  have HHV := Lib.hid HH.out.2.2.2.2
  clear hW hfr H1
  generalize hp4 : w.heap.size = p4 at *
  generalize p4 + 1 = p5 at *
  generalize w1.heap.size = bm at *
  generalize w1.alloc (.map #[] 0) = W3 at HW ⊢
  generalize hF0 : (fun b => (b = p4 ∨ b = p5) ∨ b = bm) = F0 at HW
  clear hz1 hF0 HH
  go_wp2_with fail
  go_loopw [21] (fun i wr => ∃ (k : Nat) (F : Nat → Prop), i = .int .i64 k ∧ k ≤ l.length ∧ Hid ((resV (resN p4 p5) bm gs gb ga rb rf q S ks).at_ wr F (((visL ks (ks.length + 1) (l.take k) (fun _ => none)).1, (visL ks (ks.length + 1) (l.take k) (fun _ => none)).2.length), (visL ks (ks.length + 1) (l.take k) (fun _ => none)).2.foldl (stepN ks) (0, 0)) ∧ Fr w (fun _ => False) wr F)) (fun i _ => l.length - (intOf i).toNat)
  case atStart => exact ⟨0, F0, rfl, Nat.zero_le _, Lib.hid ⟨by simpa [visL] using HW.out.1, HW.out.2⟩⟩
  case round =>
    obtain ⟨k, F, rfl, hk, HK⟩ := hrel
    by_cases hkn : k < l.length
    · have hkn' : (k : Int) < l.length := by omega
      obtain ⟨A', c', e', hcs'⟩ := HHV.out
      obtain ⟨rfl, rfl⟩ : A = A' ∧ c = c' := by simpa using e'
      obtain ⟨b, off, rfl, hb, hcs⟩ := hcs' (by omega)
      have f0 : wr.cell? ⟨b, off + k, none⟩ = some (.int .i64 (l.getD k 0)) := (HK.out.2.cell hb id (off + k)).trans (hcs k hkn)
      have fl : b < wr.heap.size := HK.out.2.lt hb
      have htk : l.take (k + 1) = l.take k ++ [l.getD k 0] := by
        rw [List.take_succ_eq_append_getElem hkn]
        simp [List.getD, hkn]
      have hmem : l.getD k 0 ∈ l := by simp [List.getD, hkn]
      have htl : ∀ t ∈ l, t < ((ks.length + 1 : Nat) : Int) := fun t ht => by
        obtain ⟨X, hX⟩ := hl t ht
        have := hX.range
        omega
      have hokA := visL_ok hw (ks.length + 1) (l.take k) (fun _ => none) (fun t ht => htl t (List.mem_of_mem_take ht))
      have hokB := vis_ok hw (ks.length + 1) (l.getD k 0) (visL ks (ks.length + 1) (l.take k) (fun _ => none)).1 (htl _ hmem)
      have hcnt := (hokA.append hokB).count
      rw [List.length_append] at hcnt
      have hcnt2 : (visL ks (ks.length + 1) (l.take k) (fun _ => none)).2.length + (vis ks (ks.length + 1) (l.getD k 0) (visL ks (ks.length + 1) (l.take k) (fun _ => none)).1).2.length ≤ 900000 := Nat.le_trans hcnt (by omega)
      have hrun := runsN hw ((visL ks (ks.length + 1) (l.take k) (fun _ => none)).2 ++ (vis ks (ks.length + 1) (l.getD k 0) (visL ks (ks.length + 1) (l.take k) (fun _ => none)).1).2) (0, 0) (fun j hj => ((hokA.append hokB).new j hj).2) (by decide) (by rw [List.length_append]; show (0 : Int) + ((_ + _ : Nat) : Int) ≤ 900000; omega) (by decide) (by decide)
      rw [Runs_append] at hrun
      obtain ⟨X, hX⟩ := hl _ hmem
      have htr := hX.range
      have HVI := Lib.hid (visit_does (resN p4 p5) bm gs 64 #[] #[.pointer (some ⟨p4, 0, none⟩), .pointer (some ⟨p5, 0, none⟩)] gb ga rb rf q S ks (stepN ks) (PreN ks) (keepsB (keepsN p4 p5) _ _ _ _ _ _ _) hw hsm needed_eg (fun t s _ hp => count_does p4 p5 ks t s hp) (ks.length + 1) (l.getD k 0)
        (visL ks (ks.length + 1) (l.take k) (fun _ => none)).1 (visL ks (ks.length + 1) (l.take k) (fun _ => none)).2.length ((visL ks (ks.length + 1) (l.take k) (fun _ => none)).2.foldl (stepN ks) (0, 0)) (htl _ hmem) (i64ok_of (by omega) (by omega)) hcnt2 hrun.2)
      have HTK := Lib.hid htk
      clear htk hmem htl hokA hokB hcnt hcnt2 hrun hX htr hcs hcs' e'
      generalize l.getD k 0 = t at f0 HVI HTK
      go_wp2_with fail
      ((with_reducible refine (HVI.out.run _ _ HK.out.1).mono ?_); rintro e w4 ⟨v4, s4, F4, rfl, hv4, ha4, hf4⟩)
      unfold visP at hv4
      obtain ⟨rfl, rfl⟩ := hv4
      have H4 := Lib.hid (And.intro ha4 (HK.out.2.trans hf4))
      clear ha4 hf4
      go_wp2_with fail
      go_roundw
      case rel =>
        refine ⟨k + 1, F4, by go_num, by omega, Lib.hid ⟨?_, H4.out.2⟩⟩
        rw [HTK.out, visL_snoc]
        simp only [List.length_append, List.foldl_append]
        exact H4.out.1
      case measure => simp [intOf]; omega
    · obtain rfl : k = l.length := by omega
      have hkn' : ¬ ((l.length : Int) < l.length) := by omega
      rw [List.take_of_length_le (Nat.le_refl _)] at HK
      have hB : (visL ks (ks.length + 1) l (fun _ => none)).2.foldl (stepN ks) (0, 0) = neededB ks l := rfl
      rw [hB] at HK
      obtain ⟨F1, g1, ⟨g2, g3, g4, g5⟩, g6, g7, g8⟩ := resV_of _ _ gs gb ga rb rf q S ks HK.out.1
      have HG := Lib.hid (And.intro g1 (And.intro g2 (And.intro g3 (And.intro g4 g5))))
      have c4 := cell_of_row wr p4 0 _ _ (0, 0) g4
      have c5 := cell_of_row wr p5 0 _ _ (0, 0) g5
      have l4 := (Array.getElem?_eq_some_iff.1 g4).1
      have l5 := (Array.getElem?_eq_some_iff.1 g5).1
      have z4 : wr.frozen? ⟨p4, 0, none⟩ = false := by simp [World.frozen?, g4]
      have z5 : wr.frozen? ⟨p5, 0, none⟩ = false := by simp [World.frozen?, g5]
      simp only [List.getElem?_toArray, List.getElem?_cons_zero] at c4 c5
      have hne : p4 ≠ p5 := g3
      have hne' : p5 ≠ p4 := fun e => g3 e.symm
      clear g1 g2 g3 g4 g5 g6 g7 g8
      go_wp2_with fail
      go_region
      all_goals go_wp2
      all_goals
        obtain ⟨g1, g2, g3, g4, g5⟩ := HG.out
        have gp := set_two (x := .int .i64 (neededB ks l).1) (y := .int .i64 (neededB ks l).2) g2 g3 g4 g5
        have d4 := cell_of_row _ p4 0 _ _ (0, 0) gp.1
        have d5 := cell_of_row _ p5 0 _ _ (0, 0) gp.2.1
        simp only [List.getElem?_toArray, List.getElem?_cons_zero] at d4 d5
        have HFI := Lib.hid (And.intro gp.2.2 g1)
        clear gp g1 g2 g4 g5 c4 c5
        generalize (wr.setCell ⟨p4, 0, none⟩ (.int .i64 (neededB ks l).1)).setCell ⟨p5, 0, none⟩ (.int .i64 (neededB ks l).2) = WE at d4 d5 HFI ⊢
        refine bodyPost_ret (v := .tuple #[.int .i64 (neededB ks l).1, .int .i64 (neededB ks l).2, .int .i64 0]) (by simp [results, Try.results17, go_sem, d4, d5]) rfl ?_
        refine ⟨rfl, ?_⟩
        have hfe : Fr w (fun _ => False) WE F := HK.out.2.trans (HFI.out.1.weaken (fun b hb => (HFI.out.2 b).2 (.inl hb)) (fun b hb => .inr hb))
        have hbe : Below w.heap.size w WE := hfe.below (Below.refl _ _) (fun b hb => hb.elim) (Nat.le_refl _)
        first | exact hbe | exact hbe.drew
end
end Go.Proofs.Ytoeamnagmehpeaa.Kp
