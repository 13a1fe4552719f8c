/- Layer 26's laws: two stores side by side; what is made of a rope that is kept. -/
import Derived.Test.YtoeamnagmehpeaaMgP
namespace Go.Proofs.Ytoeamnagmehpeaa.Kp
set_option linter.unusedSimpArgs false
set_option linter.unusedVariables false
open Go Go.RowKit Go.Proofs.Ytoeamnagmehpeaa.Rp Go.Proofs.Ytoeamnagmehpeaa.Wk
open Go.Proofs.Ytoeamnagmehpeaa.Ar (T Is Ext WF Knot getK getB getS Arena resAr small leafK pairK)

section
variable (gs gb ga ts tb ta : Nat)
/-- two stores side by side. -/
def resSS : Res (Sst × Sst) where
  at_ := fun w F s => ∃ F1 F2, (∀ b, F b ↔ (F1 b ∨ F2 b)) ∧ (resSt gs gb ga).at_ w F1 s.1 ∧ (resSt ts tb ta).at_ w F2 s.2 ∧ (∀ b, F1 b → ¬ F2 b) ∧ ¬ F2 gs ∧ ¬ F1 ts
  below := fun {w w' F s} h hb => by
    obtain ⟨F1, F2, h1, h2, h3, h4⟩ := h
    exact ⟨F1, F2, h1, (resSt gs gb ga).below h2 hb, (resSt ts tb ta).below h3 hb, h4⟩
  lt := fun {w F s} h b hb => by
    obtain ⟨F1, F2, h1, h2, h3, _⟩ := h
    exact ((h1 b).1 hb).elim ((resSt gs gb ga).lt h2 b) ((resSt ts tb ta).lt h3 b)
theorem does_S1 {f : FuncId} {args : Array Value} {s1 s2 : Sst} {Post : Value → Sst → Prop} (h : Does Try.prog (resSt gs gb ga) f args s1 Post) : Does Try.prog (resSS gs gb ga ts tb ta) f args (s1, s2) (fun v s' => Post v s'.1 ∧ s'.2 = s2) := by
  rintro w F ⟨F1, F2, h1, h2, h3, h4, h5, h6⟩
  have hlt2 := (resSt ts tb ta).lt h3
  obtain ⟨rb2, rf2, q2, e2, st2⟩ := id h3
  refine (h.run w F1 h2).mono ?_
  rintro e w' ⟨v, s', F1', he, hp, ha, hf⟩
  have hd : ∀ b, F1' b → ¬ F2 b := fun b hb hb2 => (hf.new b hb).elim (fun e => h4 b e hb2) (fun e => by have := hlt2 b hb2; omega)
  exact ⟨v, (s', s2), fun b => F1' b ∨ F2 b, he, ⟨hp, rfl⟩, ⟨F1', F2, fun b => Iff.rfl, ha, ⟨rb2, rf2, q2, e2, Rp.St.keep st2 hf (fun k hk hk1 => h4 k hk1 (by rw [e2]; exact hk)) h6⟩, hd, h5, hf.out st2.lt h6⟩,
    hf.weaken (fun b hb => (h1 b).2 (.inl hb)) (fun b hb => hb.elim .inl (fun e => .inr ((h1 b).2 (.inr e))))⟩
theorem does_S2 {f : FuncId} {args : Array Value} {s1 s2 : Sst} {Post : Value → Sst → Prop} (h : Does Try.prog (resSt ts tb ta) f args s2 Post) : Does Try.prog (resSS gs gb ga ts tb ta) f args (s1, s2) (fun v s' => Post v s'.2 ∧ s'.1 = s1) := by
  rintro w F ⟨F1, F2, h1, h2, h3, h4, h5, h6⟩
  have hlt1 := (resSt gs gb ga).lt h2
  obtain ⟨rb1, rf1, q1, e1, st1⟩ := id h2
  refine (h.run w F2 h3).mono ?_
  rintro e w' ⟨v, s', F2', he, hp, ha, hf⟩
  have hd : ∀ b, F1 b → ¬ F2' b := fun b hb hb2 => (hf.new b hb2).elim (fun e => h4 b hb e) (fun e => by have := hlt1 b hb; omega)
  exact ⟨v, (s1, s'), fun b => F1 b ∨ F2' b, he, ⟨hp, rfl⟩, ⟨F1, F2', fun b => Iff.rfl, ⟨rb1, rf1, q1, e1, Rp.St.keep st1 hf (fun k hk hk1 => h4 k (by rw [e1]; exact hk) hk1) h5⟩, ha, hd, hf.out st1.lt h5, h6⟩,
    hf.weaken (fun b hb => (h1 b).2 (.inr hb)) (fun b hb => hb.elim (fun e => .inr ((h1 b).2 (.inl e))) .inl)⟩
end
theorem ss_st {gs gb ga ts tb ta : Nat} {w : World} {F : Nat → Prop} {s : Sst × Sst} (h : (resSS gs gb ga ts tb ta).at_ w F s) : (∃ rb rf q, St w gs gb ga rb rf q s.1.1 s.1.2) ∧ ∃ rb rf q, St w ts tb ta rb rf q s.2.1 s.2.2 := by
  obtain ⟨F1, F2, h1, ⟨rb1, rf1, q1, e1, st1⟩, ⟨rb2, rf2, q2, e2, st2⟩, _⟩ := h
  exact ⟨⟨rb1, rf1, q1, st1⟩, ⟨rb2, rf2, q2, st2⟩⟩
theorem rrep_bad (gs gb ga : Nat) (S : ByteArray) (ks : List Knot) (t a n : Int) (X : T) (x : ByteArray) (hw : WF ks) (ht : Is ks t X) (hks : ks.length ≤ small) (hc : spanV X.size a n ≠ 0) :
    Does Try.prog (resSt gs gb ga) 19 #[.pointer (some ⟨gs, 0, none⟩), .int .i64 t, .int .i64 a, .int .i64 n, .string x] (S, ks) (fun v s' => v = .tuple #[.int .i64 0, .int .i64 (spanV X.size a n)] ∧ s' = (S, ks)) := by
  have hz := T.bounds (ht.ok hw)
  exact Does.of_below fun w F ⟨rb, rf, q, _, hb⟩ => rrep_err w _ _ a n _ x hc (rspan_any gs w _ a n X.size (by omega) hz.1 (rsize_is gs gb ga rb rf q S ks w _ X ht hb hks))

/-- a store behind some more. -/
structure Grown (S : ByteArray) (ks : List Knot) (s : Sst) (j : Nat) : Prop where
  ex : ∃ x new, s.1 = S ++ x ∧ s.2 = ks ++ new ∧ x.size ≤ 20 * j ∧ new.length ≤ 20000 * j
  wf : WF s.2
theorem app_empty (S : ByteArray) : S ++ (⟨#[]⟩ : ByteArray) = S := append_empty S
theorem app_assoc (a b c : ByteArray) : a ++ b ++ c = a ++ (b ++ c) := Buf.bytes_ext (by simp only [ByteArray.data_append, Array.toList_append, List.append_assoc])
theorem Grown.start {S : ByteArray} {ks : List Knot} (hw : WF ks) : Grown S ks (S, ks) 0 := ⟨⟨⟨#[]⟩, [], (app_empty S).symm, by simp, by decide, by simp⟩, hw⟩
theorem Grown.more {S : ByteArray} {ks : List Knot} {s : Sst} {j : Nat} (h : Grown S ks s j) : Grown S ks s (j + 1) := by
  obtain ⟨x, new, e1, e2, e3, e4⟩ := h.ex
  exact ⟨⟨x, new, e1, e2, by omega, by omega⟩, h.wf⟩
section
variable {S : ByteArray} {ks : List Knot} {s s' : Sst} {j : Nat} {t a n : Int} {X : T} {x : ByteArray} {v : Value}
theorem Grown.is_ (h : Grown S ks s j) (hi : Is ks t X) : Is s.2 t X := by
  obtain ⟨y, new, _, e2, _, _⟩ := h.ex
  rw [e2]; exact hi.app new
theorem Grown.good (h : Grown S ks s j) (hg : Rp.Good S X) : Rp.Good s.1 X := by
  obtain ⟨y, new, e1, _, _, _⟩ := h.ex
  rw [e1]; exact hg.grow
theorem Grown.txt (h : Grown S ks s j) (hg : Rp.Good S X) : Rp.txt s.1 X = Rp.txt S X := by
  obtain ⟨y, new, e1, _, _, _⟩ := h.ex
  rw [e1]; exact txt_grow hg
theorem Grown.sizes (h : Grown S ks s j) : s.1.size ≤ S.size + 20 * j ∧ s.2.length ≤ ks.length + 20000 * j := by
  obtain ⟨y, new, e1, e2, e3, e4⟩ := h.ex
  rw [e1, e2, ByteArray.size_append, List.length_append]
  omega
theorem Grown.step (h : Grown S ks s j) (hX : X.ok) (hx9 : X.size ≤ 900) (hx : x.size ≤ 20) (hr : RepC s.1 s.2 t X a n x v s') : Grown S ks s' (j + 1) := by
  obtain ⟨y, new, e1, e2, e3, e4⟩ := h.ex
  obtain ⟨t2, Y, N, M, _, r1, r2, r3, ⟨new2, r4, r5, _⟩, _, _, _, _, r9, _⟩ := hr
  have hb := T.bounds hX
  refine ⟨⟨y ++ x, new ++ new2, by rw [r1, e1, app_assoc], by rw [r4, e2, List.append_assoc], by rw [ByteArray.size_append]; omega, by rw [List.length_append]; omega⟩, r2⟩
/-- the text of what is made. -/
theorem rep_made (hg : Rp.Good s.1 X) (hc : spanV X.size a n = 0) {y : ByteArray} (hy : Rp.txt s.1 X = y.data.toList) (hr : RepC s.1 s.2 t X a n x v s') :
    ∃ t2 Z, v = .tuple #[.int .i64 t2, .int .i64 0] ∧ Is s'.2 t2 Z ∧ Rp.Good s'.1 Z ∧ Rp.txt s'.1 Z = (repS y a n x).data.toList ∧ Z.size = (repS y a n x).size ∧ ((repS y a n x).size : Int) = y.size - n + x.size := by
  obtain ⟨t2, Z, N, M, rfl, r1, r2, r3, r4, r5, r6, r7, r8, r9, _⟩ := hr
  have hl := txt_length hg
  rw [hy] at hl
  have hl2 : (y.data.toList.length : Int) = y.size := rfl
  have hsp : 0 ≤ a ∧ 0 ≤ n ∧ a + n ≤ X.size := by unfold spanV at hc; split at hc <;> omega
  have e := repS_list y x hsp.1 hsp.2.1 (by omega)
  rw [hy] at r7
  have hz := txt_length r6
  rw [r7, ← e] at hz
  have hz2 : ((repS y a n x).data.toList.length : Int) = (repS y a n x).size := rfl
  have hx2 : x.data.toList.length = x.size := rfl
  refine ⟨t2, Z, rfl, r3, r6, by rw [r7, e], by omega, ?_⟩
  rw [← hz2, e]
  simp only [List.length_append, List.length_take, List.length_drop]
  omega
end
theorem read_all9 {x : ByteArray} (h : x.size ≤ 2000) : (⟨(readV x.data.toList 0 x.size).1.toArray⟩ : ByteArray) = x ∧ (readV x.data.toList 0 x.size).2 = 0 := by
  have e : x.data.toList.length = x.size := rfl
  have hs : spanV x.data.toList.length 0 x.size = 0 := by unfold spanV; rw [if_neg (by omega)]
  unfold readV
  rw [hs, if_neg (by decide), if_neg (by omega)]
  refine ⟨Go.Proofs.Ytoeamnagmehpeaa.Buf.bytes_ext ?_, rfl⟩
  simp
  exact List.take_of_length_le (by omega)
end Go.Proofs.Ytoeamnagmehpeaa.Kp


/- Layer 26's laws: KeepOnce. */ -/
namespace Go.Proofs.Ytoeamnagmehpeaa.Kp
set_option linter.unusedSimpArgs false
set_option linter.unusedVariables false
open Go Go.RowKit Go.Proofs.Ytoeamnagmehpeaa.Rp Go.Proofs.Ytoeamnagmehpeaa.Wk
open Go.Proofs.Ytoeamnagmehpeaa.Ar (T Is Ext WF Knot getK getB getS Arena resAr small leafK pairK)
attribute [local go_sem] lt_add1 lt_self1 size_ne size_ne' size_ne1 size_ne1'
attribute [local irreducible] wpGrow wpThr wpThx wpSto

theorem OwnI.at_ {w : World} {B : Nat} {v : Value} {l : List Int} (h : OwnI w B v l) : ∃ A c, v = .slice A l.length c ∧ (0 < l.length → ∃ b off, A = some ⟨b, off, none⟩ ∧ v.ownBlock = some b ∧ b < w.heap.size ∧ ∀ i, i < l.length → w.cell? ⟨b, off + i, none⟩ = some (.int .i64 (l.getD i 0))) := by
  obtain ⟨A, c, rfl, hc⟩ := OwnI.sn h
  refine ⟨A, c, rfl, fun h0 => ?_⟩
  obtain ⟨b, off, rfl, h1, h2⟩ := hc h0
  exact ⟨b, off, rfl, rfl, h1, h2⟩

/-- what holds at each round: both stores behind some more, all else as it was. -/
structure OI (W : World) (F0 : Nat → Prop) (gs gb ga ts tb ta : Nat) (s : Bst) (sm : Vs Sst) (j : Nat) (wr : World) : Prop where
  ex : ∃ F s1 s2, (resSS gs gb ga ts tb ta).at_ wr F (s1, s2) ∧ Fr W F0 wr F ∧ Grown s.S s.ks s1 j ∧ Grown sm.2.1 sm.2.2 s2 j
theorem cst {W wr : World} {F0 F : Nat → Prop} {c : Nat} (hf : Fr W F0 wr F) (h : c < W.heap.size ∧ ¬ F0 c) : (c < wr.heap.size ∧ ¬ F c) ∧ ∀ o, wr.cell? ⟨c, o, none⟩ = W.cell? ⟨c, o, none⟩ := ⟨⟨hf.lt h.1, hf.out h.1 h.2⟩, fun o => hf.cell h.1 h.2 o⟩

set_option maxRecDepth 100000 in
set_option maxHeartbeats 4000000 in
theorem keepO_walk (l : List Dd) (pick : List Int) (d : Dd) (A : Option Addr) (cap : Nat) (A2 : Option Addr) (cap2 : Nat) (w : World) (hs : ddAt w A l) (hl : ∀ d ∈ l, d.text.size ≤ 2 ^ 63 - 1) (hp : SlN w (.slice A2 pick.length cap2) pick) (hpk : pick.length ≤ 9223372036854775807) (hd : d.text.size ≤ 2 ^ 63 - 1) :
    Calls Try.prog 3 #[.slice A l.length cap, .slice A2 pick.length cap2, .agg #[.int .i64 d.of_, .int .i64 d.at_, .int .i64 d.del, .string d.text, .bool d.raw]] w fun e w' => e = .returned (.bool true) ∧ Below w.heap.size w w' := by
  have hb0 : Below w.heap.size w (w.alloc (.cells #[.int .i64 d.of_, .int .i64 d.at_, .int .i64 d.del, .string d.text, .bool d.raw] 25)) := (Below.refl _ _).alloc (Nat.le_refl _) _
  have hk0 : (w.alloc (.cells #[.int .i64 d.of_, .int .i64 d.at_, .int .i64 d.del, .string d.text, .bool d.raw] 25)).heap[w.heap.size]? = some (.cells #[.int .i64 d.of_, .int .i64 d.at_, .int .i64 d.del, .string d.text, .bool d.raw] 25 (0, 0)) := heap_alloc_new _ _
  have hs0 : ddAt (w.alloc (.cells #[.int .i64 d.of_, .int .i64 d.at_, .int .i64 d.del, .string d.text, .bool d.raw] 25)) A l := (hs.below hb0).more hb0.size
  have HS := Lib.hid (And.intro hs0 (And.intro hb0 (And.intro hk0 (SlN.below hp hb0))))
  clear hs hs0 hb0 hk0 hp
  obtain ⟨dof, dat, ddel, dtext, draw⟩ := d
  simp only at HS hd ⊢
  go_enter Try.func3, Try.ntmps3
  go_wp2_with fail
  ((with_reducible refine (awake26 _).mono ?_); rintro e w1 ⟨rfl, hb1⟩)
  have HBL := Lib.hid (build_any l A cap w1 ((HS.out.1.below hb1).more hb1.size) hl)
  have H1 := Lib.hid (And.intro (HS.out.2.1.trans (hb1.mono HS.out.2.1.size)) (And.intro (SlN.below HS.out.2.2.2 hb1) ((hb1.block _ (Array.getElem?_eq_some_iff.1 HS.out.2.2.1).1).trans HS.out.2.2.1)))
  clear hb1 HS
  go_wp2_with fail
  ((with_reducible refine HBL.out.mono ?_); rintro e W ⟨v, rfl, ⟨b, gs, gb, ga, rb, rf, q, Tv, Lv, s, rfl, hB, hI⟩⟩)
  have HRO := Lib.hid (roots_any W b _ _ _ _ s.Ts pick hB.blk hB.sn (by have := hI.le; omega) hI.pos (SlN.below H1.out.2.1 hB.bl) hpk)
  have hkd : W.heap[w.heap.size]? = some (.cells #[.int .i64 dof, .int .i64 dat, .int .i64 ddel, .string dtext, .bool draw] 25 (0, 0)) := (hB.bl.block _ (Array.getElem?_eq_some_iff.1 H1.out.2.2).1).trans H1.out.2.2
  have hdl := (Array.getElem?_eq_some_iff.1 H1.out.2.2).1
  have HB := Lib.hid (And.intro (H1.out.1.trans (hB.bl.mono H1.out.1.size)) (And.intro hB (And.intro hI (And.intro hkd hdl))))
  clear hB hI HBL H1 hkd hdl
  go_wp2_with fail
  ((with_reducible refine HRO.out.mono ?_); rintro e W1 ⟨v1, v2, rfl, ho1, ho2, hne, hb1⟩)
  have hB1 := HB.out.2.1.below hb1
  have hI := HB.out.2.2.1
  have hkd : W1.heap[w.heap.size]? = some (.cells #[.int .i64 dof, .int .i64 dat, .int .i64 ddel, .string dtext, .bool draw] 25 (0, 0)) := (hb1.block _ (Array.getElem?_eq_some_iff.1 HB.out.2.2.2.1).1).trans HB.out.2.2.2.1
  have hks : s.ks.length ≤ 840000 := by have := hI.kn; omega
  have hS := hI.S_small (by omega)
  have hR8 : (rootsL s.Ts pick).length ≤ 100 := by rw [rootsL_len]; have := places_len s.Ts.length pick; omega
  -- what nobody changes
  have hn1 : ∀ k, v1.ownBlock = some k → ¬ sfoot gb ga rb rf q k ∧ k < W1.heap.size := fun k e => ⟨fun hf => by have a := (World.ownsRow.lt ho1 k e).1; have := HB.out.2.1.st.foot_lt hf; omega, (World.ownsRow.lt ho1 k e).2⟩
  have hn2 : ∀ k, v2.ownBlock = some k → ¬ sfoot gb ga rb rf q k ∧ k < W1.heap.size := fun k e => ⟨fun hf => by have a := (World.ownsRow.lt ho2 k e).1; have := HB.out.2.1.st.foot_lt hf; omega, (World.ownsRow.lt ho2 k e).2⟩
  have hnd : ¬ sfoot gb ga rb rf q w.heap.size := fun hf => by have a := HB.out.2.1.gef _ hf; have := HB.out.2.2.2.2; omega
  have HNO := Lib.hid (And.intro hn1 (And.intro hn2 (And.intro hnd HB.out.2.2.2.2)))
  have HP := Lib.hid ho1
  have HR := Lib.hid ho2
  have HCO := Lib.hid (fun w' (hb : Below W1.heap.size W1 w') => compact_any gs gb ga rb rf q s.S s.ks w' v2 (rootsL s.Ts pick) (hB1.st.below hb) hI.wf hks hS (SlN.below (OwnI.sn ho2) hb) (roots_ok hI pick) hR8)
  have HND := Lib.hid (needed_any gs gb ga rb rf q s.S s.ks W1 v2 (rootsL s.Ts pick) hB1.st hI.wf hks (OwnI.sn ho2) (fun t ht => by obtain ⟨X, h, _⟩ := roots_ok hI pick t ht; exact ⟨X, h⟩) (by omega))
  have HB1 := Lib.hid (And.intro (HB.out.1.trans (hb1.mono HB.out.1.size)) (And.intro hB1 (And.intro hI hkd)))
  have c0 := hB1.c.1
  have hltb := hB1.lt
  clear hB1 hb1 ho1 ho2 hne HRO HB hI hn1 hn2 hnd hkd
  obtain ⟨nn, hnn⟩ : ∃ nn, neededB s.ks (rootsL s.Ts pick) = nn := ⟨_, rfl⟩
  rw [hnn] at HND
  have HNN := Lib.hid hnn
  clear hnn
  go_wp2_with fail
  ((with_reducible refine HND.out.mono ?_); rintro e W2 ⟨rfl, hb2⟩)
  have c0' : W2.cell? ⟨b, 0, none⟩ = some (.pointer (some ⟨gs, 0, none⟩)) := (hb2.cell (p := ⟨b, _, none⟩) hltb).trans c0
  have hltb' : b < W2.heap.size := Nat.lt_of_lt_of_le hltb hb2.size
  have H2 := Lib.hid hb2
  clear hb2 c0 hltb HND
  go_wp2_with fail
  ((with_reducible refine (HCO.out _ H2.out).mono ?_); rintro e W3 ⟨⟨ts, tb, ta, rb', rf', q', ov, done, sm, rfl, hk, st, hov, f1, f2, f3, hb3⟩⟩)
  have HND2 := Lib.hid (needed_any ts tb ta rb' rf' q' sm.2.1 sm.2.2 W3 ov ((rootsL s.Ts pick).map (gM sm)) st hk.mv.wf (by have h1 := hk.mv.len; have h2 := hk.cnt; omega) (OwnI.sn hov) (fun u hu => by
    obtain ⟨t, ht, rfl⟩ := List.mem_map.1 hu
    obtain ⟨X, h, _⟩ := roots_ok HB1.out.2.2.1 pick t ht
    obtain ⟨Y, y1, _⟩ := hk.rope ht h
    exact ⟨Y, y1⟩) (by rw [List.length_map]; omega))
  rw [neededB_new hk.mv HB1.out.2.2.1.wf _ hk.roots, HNN.out] at HND2
  have HO := Lib.hid (And.intro hk (And.intro st (And.intro hov (And.intro f1 (And.intro f2 (And.intro f3 hb3))))))
  clear hk st hov f1 f2 f3 hb3 c0' hltb' HCO
  obtain ⟨A3, c3, rfl, hP⟩ := OwnI.at_ HP.out
  obtain ⟨A4, c4, rfl, hR⟩ := OwnI.at_ HR.out
  obtain ⟨A5, c5, rfl, hU⟩ := OwnI.at_ HO.out.2.2.1
  simp only [List.length_map] at hU HND2 ⊢
  rw [rootsL_len] at hU hR
  have hN8 := places_len s.Ts.length pick
  have HPC := Lib.hid (And.intro hP (And.intro hR hU))
  have HRL := Lib.hid (rootsL_len s.Ts pick)
  clear hP hR hU
  simp only [rootsL_len, List.length_map] at HND2 HNO HP HR HO ⊢
  generalize hN : (places s.Ts.length pick).length = N8 at HPC hN8 HND2 HNO HRL HO ⊢
  have HN := Lib.hid hN
  clear hN
  have hnb : ¬ (nn.2 > nn.2) := by omega
  go_wp2_with fail
  ((with_reducible refine HND2.out.mono ?_); rintro e W4 ⟨rfl, hb4⟩)
  have hb23 := HO.out.2.2.2.2.2.2
  have hb14 : Below W1.heap.size W1 W4 := H2.out.trans ((hb23.trans (hb4.mono hb23.size)).mono H2.out.size)
  have hB4 := HB1.out.2.1.below hb14
  have hc := hB4.c
  obtain ⟨Al, cl, hLv, hL⟩ := hB4.sl
  have hz12 := H2.out.size
  have hz34 := hb4.size
  have hz14 := hb14.size
  obtain ⟨F0, hF0⟩ : ∃ F0 : Nat → Prop, ∀ k, F0 k ↔ (sfoot gb ga rb rf q k ∨ sfoot tb ta rb' rf' q' k) := ⟨_, fun _ => Iff.rfl⟩
  have hf1 := HO.out.2.2.2.1
  have hf2 := HO.out.2.2.2.2.1
  have hf3 := HO.out.2.2.2.2.2.1
  have hss : (resSS gs gb ga ts tb ta).at_ W4 F0 ((s.S, s.ks), (sm.2.1, sm.2.2)) := ⟨_, _, hF0, resSt_at hB4.st, resSt_at (HO.out.2.1.below hb4), fun k h1 h2 => by
      have a1 := HB1.out.2.1.st.foot_lt h1
      have a2 := hf1 k h2
      omega, fun e => by
      have a1 := HB1.out.2.1.st.lt
      have a2 := hf1 gs e
      omega, fun e => by
      have a1 := HB1.out.2.1.st.foot_lt e
      omega⟩
  have low : ∀ k, k < W1.heap.size → ¬ sfoot gb ga rb rf q k → k < W4.heap.size ∧ ¬ F0 k := fun k h1 h2 => ⟨by omega, fun e => by
    rcases (hF0 k).1 e with e | e
    · exact h2 e
    · have := hf1 k e; omega⟩
  have kb := low b HB1.out.2.1.lt HB1.out.2.1.nb
  have kd := low w.heap.size (Array.getElem?_eq_some_iff.1 HB1.out.2.2.2).1 HNO.out.2.2.1
  have k1 : ∀ k, (Value.slice A3 N8 c3).ownBlock = some k → k < W4.heap.size ∧ ¬ F0 k := fun k e => low k (HNO.out.1 k e).2 (HNO.out.1 k e).1
  have k2 : ∀ k, (Value.slice A4 N8 c4).ownBlock = some k → k < W4.heap.size ∧ ¬ F0 k := fun k e => low k (HNO.out.2.1 k e).2 (HNO.out.2.1 k e).1
  have k3 : ∀ k, (Value.slice A5 N8 c5).ownBlock = some k → k < W4.heap.size ∧ ¬ F0 k := fun k e => ⟨Nat.lt_of_lt_of_le (World.ownsRow.lt HO.out.2.2.1 k e).2 hz34, fun e2 => by
    have a1 := (World.ownsRow.lt HO.out.2.2.1 k e).1
    rcases (hF0 k).1 e2 with e2 | e2
    · have := HB1.out.2.1.st.foot_lt e2; omega
    · exact (hf3 k e).1 e2⟩
  have k4 : ∀ k, Lv.ownBlock = some k → k < W4.heap.size ∧ ¬ F0 k := fun k e => low k (World.ownsRow.lt HB1.out.2.1.lr k e).2 (HB1.out.2.1.nl k e)
  rw [hLv] at k4 hc
  have hkd := (hb14.block _ (Array.getElem?_eq_some_iff.1 HB1.out.2.2.2).1).trans HB1.out.2.2.2
  -- the slices' cells
  have q1 : ∀ j, j < N8 → ∃ pb po, A3 = some ⟨pb, po, none⟩ ∧ (pb < W4.heap.size ∧ ¬ F0 pb) ∧ ∀ i, i < N8 → W4.cell? ⟨pb, po + i, none⟩ = some (.int .i64 ((places s.Ts.length pick).getD i 0)) := fun j hj => by
    obtain ⟨pb, po, e, ho, hlt, hcs⟩ := HPC.out.1 (by omega)
    exact ⟨pb, po, e, k1 pb ho, fun i hi => (hb14.cell (p := ⟨pb, _, none⟩) hlt).trans (hcs i hi)⟩
  have q2 : ∀ j, j < N8 → ∃ pb po, A4 = some ⟨pb, po, none⟩ ∧ (pb < W4.heap.size ∧ ¬ F0 pb) ∧ ∀ i, i < N8 → W4.cell? ⟨pb, po + i, none⟩ = some (.int .i64 ((rootsL s.Ts pick).getD i 0)) := fun j hj => by
    obtain ⟨pb, po, e, ho, hlt, hcs⟩ := HPC.out.2.1 (by omega)
    exact ⟨pb, po, e, k2 pb ho, fun i hi => (hb14.cell (p := ⟨pb, _, none⟩) hlt).trans (hcs i hi)⟩
  have q3 : ∀ j, j < N8 → ∃ pb po, A5 = some ⟨pb, po, none⟩ ∧ (pb < W4.heap.size ∧ ¬ F0 pb) ∧ ∀ i, i < N8 → W4.cell? ⟨pb, po + i, none⟩ = some (.int .i64 (((rootsL s.Ts pick).map (gM sm)).getD i 0)) := fun j hj => by
    obtain ⟨pb, po, e, ho, hlt, hcs⟩ := HPC.out.2.2 (by omega)
    exact ⟨pb, po, e, k3 pb ho, fun i hi => (hb4.cell (p := ⟨pb, _, none⟩) hlt).trans (hcs i hi)⟩
  have q4 : 0 < s.Ls.length → ∃ pb po, Al = some ⟨pb, po, none⟩ ∧ (pb < W4.heap.size ∧ ¬ F0 pb) ∧ ∀ i, i < s.Ls.length → W4.cell? ⟨pb, po + i, none⟩ = some (.string (s.Ls.getD i ⟨#[]⟩)) := fun h0 => by
    obtain ⟨pb, po, e, hlt, hcs⟩ := hL h0
    exact ⟨pb, po, e, k4 pb (by rw [e]; rfl), hcs⟩
  have HQ := Lib.hid (And.intro q1 (And.intro q2 (And.intro q3 q4)))
  have hge0 : ∀ k, F0 k → w.heap.size ≤ k := fun k e => by
    rcases (hF0 k).1 e with e | e
    · have a := HB1.out.2.1.gef k e; have := HNO.out.2.2.2; omega
    · have a := hf1 k e; have := HB1.out.1.size; omega
  have HW := Lib.hid (And.intro (HB1.out.1.trans (hb14.mono HB1.out.1.size)) (And.intro hge0 (And.intro HB1.out.2.2.1 HO.out.1)))
  have HOI := Lib.hid (⟨F0, (s.S, s.ks), (sm.2.1, sm.2.2), hss, Fr.refl _ _, Grown.start HB1.out.2.2.1.wf, Grown.start HO.out.1.mv.wf⟩ : OI W4 F0 gs gb ga ts tb ta s sm 0 W4)
  have HCB := Lib.hid (And.intro hc.1 (And.intro hc.2.2 (And.intro kb (And.intro kd hkd))))
  have hlen := HB1.out.2.2.1.len
  clear hb23 hb14 hB4 hc hLv hL hz12 hz34 hz14 hf1 hf2 hf3 hss low kb kd k1 k2 k3 k4 hkd q1 q2 q3 q4 hge0 hb4 hF0 H2 HO HB1 HPC HNO HP HR HND2 HNN
  go_wp2_with fail
  go_loopw [19] (fun i wr => ∃ j : Nat, i = .int .i64 j ∧ j ≤ N8 ∧ OI W4 F0 gs gb ga ts tb ta s sm j wr) (fun i _ => N8 - (intOf i).toNat)
  case atStart => exact ⟨0, rfl, by omega, HOI.out⟩
  case round =>
    obtain ⟨j, rfl, hj, hoi⟩ := hrel
    have HOJ := Lib.hid hoi
    clear hoi
    by_cases hjn : j < N8
    · have hjn' : (j : Int) < N8 := by omega
      obtain ⟨F, s1, s2, hat, hfr, hg1, hg2⟩ := HOJ.out.ex
      obtain ⟨k, X, Y, hKT⟩ := kt_at HW.out.2.2.1 HW.out.2.2.2 (pick := pick) (j := j) (by rw [HN.out]; exact hjn)
      obtain ⟨pb, po, rfl, hpl, hpc⟩ := HQ.out.1 j hjn
      obtain ⟨qb, qo, rfl, hql, hqc⟩ := HQ.out.2.1 j hjn
      obtain ⟨ub, uo, rfl, hul, huc⟩ := HQ.out.2.2.1 j hjn
      obtain ⟨lb, lo, rfl, hll, hlc⟩ := HQ.out.2.2.2 (by have := hKT.lt; rw [← hlen]; omega)
      have hkl : k < s.Ls.length := by have := hKT.lt; rw [← hlen]; omega
      have p1 := hpc j hjn
      have q1 := hqc j hjn
      have u1 := huc j hjn
      have l1 := hlc k hkl
      rw [hKT.place] at p1
      rw [hKT.root] at q1
      rw [hKT.new] at u1
      have hcc : W4.cell? ⟨w.heap.size, 1, none⟩ = some (.int .i64 dat) ∧ W4.cell? ⟨w.heap.size, 2, none⟩ = some (.int .i64 ddel) ∧ W4.cell? ⟨w.heap.size, 3, none⟩ = some (.string dtext) := ⟨cell_of_row W4 _ 1 _ _ (0, 0) HCB.out.2.2.2.2, cell_of_row W4 _ 2 _ _ (0, 0) HCB.out.2.2.2.2, cell_of_row W4 _ 3 _ _ (0, 0) HCB.out.2.2.2.2⟩
      have hYn := hKT.like.nums
      have hzy : ((s.Ls.getD k ⟨#[]⟩).size : Int) = X.size := hKT.size.symm
      have hs1 := hg1.sizes
      have hs2 := hg2.sizes
      have hbd1 : s.ks.length ≤ 800000 ∧ s.S.size ≤ 800 := ⟨by have := HW.out.2.2.1.kn; omega, by have := HW.out.2.2.1.sz; omega⟩
      have hbd2 : sm.2.2.length ≤ 14400 ∧ (sm.2.1.size : Int) ≤ 7200 := by
        have h1 := HW.out.2.2.2.mv.len
        have h2 := HW.out.2.2.2.cnt
        have h3 := HW.out.2.2.2.mv.sz
        have h4 := HW.out.2.2.2.bytes
        rw [HRL.out] at h2 h4
        omega
      -- what the regions read, in every world where no other block was changed
      have hrd : ∀ (wq : World) (G : Nat → Prop), Fr W4 F0 wq G → (wq.cell? ⟨b, 0, none⟩ = some (.pointer (some ⟨gs, 0, none⟩)) ∧ wq.cell? ⟨b, 2, none⟩ = some (.slice (some ⟨lb, lo, none⟩) s.Ls.length cl)) ∧
          (wq.cell? ⟨qb, qo + j, none⟩ = some (.int .i64 (s.Ts.getD k 0)) ∧ wq.cell? ⟨ub, uo + j, none⟩ = some (.int .i64 (gM sm (s.Ts.getD k 0))) ∧ wq.cell? ⟨pb, po + j, none⟩ = some (.int .i64 k) ∧ wq.cell? ⟨lb, lo + k, none⟩ = some (.string (s.Ls.getD k ⟨#[]⟩))) ∧
          (wq.cell? ⟨w.heap.size, 1, none⟩ = some (.int .i64 dat) ∧ wq.cell? ⟨w.heap.size, 2, none⟩ = some (.int .i64 ddel) ∧ wq.cell? ⟨w.heap.size, 3, none⟩ = some (.string dtext)) ∧
          (b < wq.heap.size ∧ qb < wq.heap.size ∧ ub < wq.heap.size ∧ pb < wq.heap.size ∧ lb < wq.heap.size ∧ w.heap.size < wq.heap.size) := fun wq G hG =>
        ⟨⟨((cst hG HCB.out.2.2.1).2 0).trans HCB.out.1, ((cst hG HCB.out.2.2.1).2 2).trans HCB.out.2.1⟩, ⟨((cst hG hql).2 _).trans q1, ((cst hG hul).2 _).trans u1, ((cst hG hpl).2 _).trans p1, ((cst hG hll).2 _).trans l1⟩,
          ⟨((cst hG HCB.out.2.2.2.1).2 1).trans hcc.1, ((cst hG HCB.out.2.2.2.1).2 2).trans hcc.2.1, ((cst hG HCB.out.2.2.2.1).2 3).trans hcc.2.2⟩, (cst hG HCB.out.2.2.1).1.1, (cst hG hql).1.1, (cst hG hul).1.1, (cst hG hpl).1.1, (cst hG hll).1.1, (cst hG HCB.out.2.2.2.1).1.1⟩
      have HRD := Lib.hid hrd
      have HST := Lib.hid (And.intro hat (And.intro hfr (And.intro hg1 hg2)))
      have HKT := Lib.hid (And.intro hKT (And.intro hYn (And.intro hs1 (And.intro hs2 (And.intro hbd1 hbd2)))))
      have hx20 : (dtext.extract 0 (min (dtext.size : Int) 20).toNat).size ≤ 20 := by rw [ByteArray.size_extract]; omega
      have hxm : ((dtext.extract 0 (min (dtext.size : Int) 20).toNat).size : Int) = min (dtext.size : Int) 20 := by rw [ByteArray.size_extract]; omega
      have HXM := Lib.hid hxm
      have hdt : (dtext.size : Int) ≤ 9223372036854775807 := by omega
      have hmin0 : (0 : Int) ≤ min (dtext.size : Int) 20 := by omega
      have hmin1 : min (dtext.size : Int) 20 ≤ (dtext.size : Int) := by omega
      have hjk : (k : Int) < s.Ls.length := by omega
      clear hrd hat hfr hg1 hg2 hYn hs1 hs2 hbd1 hbd2 p1 q1 u1 l1 hcc hpc hqc huc hlc hpl hql hul hll hxm hzy hkl
      go_wp2_with fail
      have HR : Hid (∀ s bs w1, (resCls (resSS gs gb ga ts tb ta) wr F).In s bs w1 → _) := Lib.hid (fun s bs w1 hw1 => by
        obtain ⟨F', _, hf', _⟩ := hw1
        exact HRD.out w1 F' (HST.out.2.1.trans hf'))
      have hN25 : (List.range 25) = [0, 1, 2, 3, 4, 5, 6, 7, 8, 9, 10, 11, 12, 13, 14, 15, 16, 17, 18, 19, 20, 21, 22, 23, 24] := rfl
      by_cases hc : spanV X.size dat ddel = 0
      · have HC := Lib.hid hc
        clear hc
        have HREP := Lib.hid (does_S1 gs gb ga ts tb ta (s2 := s2) (rrepC gs gb ga s1.1 s1.2 (s.Ts.getD k 0) dat ddel X (dtext.extract 0 (min (dtext.size : Int) 20).toNat) HST.out.2.2.1.wf (HST.out.2.2.1.is_ HKT.out.1.is_) (HST.out.2.2.1.good HKT.out.1.good) HKT.out.1.bal
          (by have := HKT.out.2.2.1; have := HKT.out.2.2.2.2.1; omega) (by have := HKT.out.2.2.1; have := HKT.out.2.2.2.2.1; omega) (by have := HKT.out.1.le; omega) HC.out))
        have HKT2 := Lib.hid HKT.out.1
        refine wp_region_thr (resCls (resSS gs gb ga ts tb ta) wr F) (s1, s2) 25 [0, 1, 2, 3, 4, 5, 6, 7, 8, 9, 10, 11, 12, 13, 14, 15, 16, 17, 18, 19, 20, 21, 22, 23, 24] _ (by kernel_rfl) (by kernel_rfl) (by kernel_rfl) rfl (resCls_start HST.out.1) ?_
        (simp only [List.filterMap_cons, List.filterMap_nil, List.getElem?_cons_zero, List.getElem?_cons_succ, List.drop_succ_cons, List.drop_zero, List.drop_nil])
        iterate 19 ((refine wpThr_val rfl rfl rfl ?_; apply Exists.intro; refine ⟨fun s1 bs1 w1 hb1 hw1 => ?_, ?_⟩); (have hc1 := HR.out s1 bs1 w1 hw1; go_simp; exact growUpon_ok rfl); (refine wpThr_at (by (simp only [Act.put, List.setIfInBounds_toArray, List.set_cons_succ, List.set_cons_zero]) <;> exact rfl) ?_))
        refine wpThr_call (fun v s' => RepC s1.1 s1.2 (s.Ts.getD k 0) X dat ddel (dtext.extract 0 (min (dtext.size : Int) 20).toNat) v s'.1 ∧ s'.2 = s2) rfl rfl rfl ?_ ?_
        · intro bs1 w1 hb1 hw1
          go_simp
          exact resCls_upon HREP.out hw1
        rintro v ⟨s1', s2'⟩ ⟨hr1, he⟩
        simp only at hr1 he
        subst he
        obtain ⟨t2, Z, rfl, z1, z2, z3, z4, z5⟩ := rep_made (HST.out.2.2.1.good HKT.out.1.good) HC.out (HST.out.2.2.1.txt HKT.out.1.good |>.trans HKT.out.1.txt) hr1
        (refine wpThr_at (by (simp only [Act.put, List.setIfInBounds_toArray, List.set_cons_succ, List.set_cons_zero]) <;> exact rfl) ?_)
        iterate 5 ((refine wpThr_val rfl rfl rfl ?_; apply Exists.intro; refine ⟨fun s1 bs1 w1 hb1 hw1 => ?_, ?_⟩); (have hc1 := HR.out s1 bs1 w1 hw1; go_simp; exact growUpon_ok rfl); (refine wpThr_at (by (simp only [Act.put, List.setIfInBounds_toArray, List.set_cons_succ, List.set_cons_zero]) <;> exact rfl) ?_))
        refine wpThr_nil ?_
        rintro w2 ⟨F2, ha2, hf2, _⟩
        have HST2 := Lib.hid (And.intro ha2 (And.intro (HST.out.2.1.trans hf2) (And.intro (HST.out.2.2.1.step (HKT.out.1.is_.ok HW.out.2.2.1.wf) (by have := HKT.out.1.le; omega) hx20 hr1) HST.out.2.2.2)))
        have HZ1 := Lib.hid (And.intro z1 (And.intro z2 (And.intro z3 (And.intro z4 z5))))
        have HREP2 := Lib.hid (does_S2 gs gb ga ts tb ta (s1 := s1') (rrepC ts tb ta s2'.1 s2'.2 (gM sm (s.Ts.getD k 0)) dat ddel Y (dtext.extract 0 (min (dtext.size : Int) 20).toNat) HST.out.2.2.2.wf (HST.out.2.2.2.is_ HKT.out.1.isN) (HST.out.2.2.2.good HKT.out.1.like.good) (HKT.out.2.1.2.2.2.2.2 HKT.out.1.bal)
          (by have := HKT.out.2.2.2.1; have := HKT.out.2.2.2.2.2; omega) (by have := HKT.out.2.2.2.1; have := HKT.out.2.2.2.2.2; omega) (by have := HKT.out.1.le; rw [HKT.out.2.1.1]; omega) (by rw [HKT.out.2.1.1]; exact HC.out)))
        clear ha2 hf2 z1 z2 z3 z4 z5 hr1 HR HREP
        go_wp2_with fail
        have HR : Hid (∀ s bs w1, (resCls (resSS gs gb ga ts tb ta) w2 F2).In s bs w1 → _) := Lib.hid (fun s bs w1 hw1 => by
          obtain ⟨F', _, hf', _⟩ := hw1
          exact HRD.out w1 F' (HST2.out.2.1.trans hf'))
        refine wp_region_thr (resCls (resSS gs gb ga ts tb ta) w2 F2) (s1', s2') 22 [0, 1, 2, 3, 4, 5, 6, 7, 8, 9, 10, 11, 12, 13, 14, 15, 16, 17, 18, 19, 20, 21] _ (by kernel_rfl) (by kernel_rfl) (by kernel_rfl) rfl (resCls_start HST2.out.1) ?_
        (simp only [List.filterMap_cons, List.filterMap_nil, List.getElem?_cons_zero, List.getElem?_cons_succ, List.drop_succ_cons, List.drop_zero, List.drop_nil])
        iterate 16 ((refine wpThr_val rfl rfl rfl ?_; apply Exists.intro; refine ⟨fun s1 bs1 w1 hb1 hw1 => ?_, ?_⟩); (have hc1 := HR.out s1 bs1 w1 hw1; go_simp; exact growUpon_ok rfl); (refine wpThr_at (by (simp only [Act.put, List.setIfInBounds_toArray, List.set_cons_succ, List.set_cons_zero]) <;> exact rfl) ?_))
        refine wpThr_call (fun v s' => RepC s2'.1 s2'.2 (gM sm (s.Ts.getD k 0)) Y dat ddel (dtext.extract 0 (min (dtext.size : Int) 20).toNat) v s'.2 ∧ s'.1 = s1') rfl rfl rfl ?_ ?_
        · intro bs1 w1 hb1 hw1
          go_simp
          exact resCls_upon HREP2.out hw1
        rintro v ⟨s1'', s2''⟩ ⟨hr2, he⟩
        simp only at hr2 he
        subst he
        obtain ⟨u2, Z2, rfl, y1, y2, y3, y4, y5⟩ := rep_made (HST.out.2.2.2.good HKT.out.1.like.good) (by rw [HKT.out.2.1.1]; exact HC.out) ((HST.out.2.2.2.txt HKT.out.1.like.good).trans (HKT.out.1.like.txt.trans HKT.out.1.txt)) hr2
        (refine wpThr_at (by (simp only [Act.put, List.setIfInBounds_toArray, List.set_cons_succ, List.set_cons_zero]) <;> exact rfl) ?_)
        iterate 5 ((refine wpThr_val rfl rfl rfl ?_; apply Exists.intro; refine ⟨fun s1 bs1 w1 hb1 hw1 => ?_, ?_⟩); (have hc1 := HR.out s1 bs1 w1 hw1; go_simp; exact growUpon_ok rfl); (refine wpThr_at (by (simp only [Act.put, List.setIfInBounds_toArray, List.set_cons_succ, List.set_cons_zero]) <;> exact rfl) ?_))
        refine wpThr_nil ?_
        rintro w3 ⟨F3, ha3, hf3, _⟩
        have HST3 := Lib.hid (And.intro ha3 (And.intro (HST2.out.2.1.trans hf3) (And.intro HST2.out.2.2.1 (HST2.out.2.2.2.step (HKT.out.1.isN.ok HW.out.2.2.2.mv.wf) (by have := HKT.out.1.le; rw [HKT.out.2.1.1]; omega) hx20 hr2))))
        obtain ⟨⟨rb1, rf1, qq1, st1⟩, ⟨rb2, rf2, qq2, st2⟩⟩ := ss_st ha3
        simp only at st1 st2
        have hz1 := HST3.out.2.2.1.sizes
        have hz2 := HST3.out.2.2.2.sizes
        have hk1 : s1''.2.length ≤ small := by have := HKT.out.2.2.2.2.1; unfold small; omega
        have hk2 : s2''.2.length ≤ small := by have := HKT.out.2.2.2.2.2; unfold small; omega
        have hS1 : s1''.1.size ≤ 1000000 := by have := HKT.out.2.2.2.2.1; omega
        have hS2 : s2''.1.size ≤ 1000000 := by have := HKT.out.2.2.2.2.2; omega
        have HSZ := Lib.hid (fun w' (hb : Below w3.heap.size w3 w') => rsize_is gs gb ga rb1 rf1 qq1 s1''.1 s1''.2 w' t2 Z HZ1.out.1 (st1.below hb) hk1)
        have HRD1 := Lib.hid (fun w' (hb : Below w3.heap.size w3 w') => rread_any gs gb ga rb1 rf1 qq1 s1''.1 s1''.2 w' t2 0 (repS (s.Ls.getD k ⟨#[]⟩) dat ddel (dtext.extract 0 (min (dtext.size : Int) 20).toNat)).size Z HST3.out.2.2.1.wf HZ1.out.1 HZ1.out.2.1 (st1.below hb) hk1 hS1)
        have HRD2 := Lib.hid (fun w' (hb : Below w3.heap.size w3 w') => rread_any ts tb ta rb2 rf2 qq2 s2''.1 s2''.2 w' u2 0 (repS (s.Ls.getD k ⟨#[]⟩) dat ddel (dtext.extract 0 (min (dtext.size : Int) 20).toNat)).size Z2 HST3.out.2.2.2.wf y1 y2 (st2.below hb) hk2 hS2)
        have hzz := HZ1.out.2.2.2.2
        have hdd : 0 ≤ ddel ∧ ddel ≤ X.size := by have := HC.out; unfold spanV at this; split at this <;> omega
        have hyz := HKT.out.1.size
        have hy8 := HKT.out.1.le
        rw [hyz] at hdd hy8
        have hra := read_all9 (x := repS (s.Ls.getD k ⟨#[]⟩) dat ddel (dtext.extract 0 (min (dtext.size : Int) 20).toNat)) (by omega)
        rw [HZ1.out.2.2.2.1] at HSZ
        simp only [HZ1.out.2.2.1, y3, hra.1, hra.2] at HRD1 HRD2
        have hfin : (((repS (s.Ls.getD k ⟨#[]⟩) dat ddel (dtext.extract 0 (min (dtext.size : Int) 20).toNat)).size : Nat) : Int) = (s.Ls.getD k ⟨#[]⟩).size - ddel + min (dtext.size : Int) 20 := by have h1 := HXM.out; omega
        generalize repS (s.Ls.getD k ⟨#[]⟩) dat ddel (dtext.extract 0 (min (dtext.size : Int) 20).toNat) = zt at HSZ HRD1 HRD2 hfin
        have HFIN := Lib.hid hfin
        have hzb : (zt.size : Int) ≤ 2000 := by omega
        have hw1 : IntKind.i64.wrap (((s.Ls.getD k ⟨#[]⟩).size : Int) - ddel) = ((s.Ls.getD k ⟨#[]⟩).size : Int) - ddel := IntWalk.i64_in _ (by omega)
        have hw2 : IntKind.i64.wrap (((s.Ls.getD k ⟨#[]⟩).size : Int) - ddel + min (dtext.size : Int) 20) = zt.size := by rw [← hfin]; exact IntWalk.i64_in _ (by omega)
        have hyb : ((s.Ls.getD k ⟨#[]⟩).size : Int) ≤ 800 := by omega
        generalize s.Ls.getD k ⟨#[]⟩ = y at HRD hw1 hw2 hyb
        have hrd3 := HRD.out w3 F3 HST3.out.2.1
        obtain ⟨⟨r0, r2⟩, ⟨r3, r4, r5, r6⟩, ⟨r7, r8, r9⟩, ⟨m1, m2, m3, m4, m5, m6⟩⟩ := hrd3
        have x0 := Bw.cell m1 r0
        have x1 := Bw.lt m1
        clear ha3 hf3 y1 y2 y3 y4 y5 hr2 HR HREP2 hz1 hz2 hk1 hk2 hS1 hS2 hra hzz hfin st1 st2 hdd hyz hy8
        go_wp2_with fail
        ((with_reducible refine (HSZ.out _ (Below.refl _ _)).mono ?_); rintro e w4 ⟨rfl, hb4⟩)
        have HB4 := Lib.hid hb4
        have e0 := x0 ⟨w4, hb4⟩
        have e1 := x1 ⟨w4, hb4⟩
        simp only at e0 e1
        clear hb4
        go_wp2_with fail
        ((with_reducible refine (HRD1.out _ HB4.out).mono ?_); rintro e w5 ⟨rfl, hb5⟩)
        have HB5 := Lib.hid (HB4.out.trans (hb5.mono HB4.out.size))
        clear hb5
        go_wp2_with fail
        ((with_reducible refine (HRD2.out _ HB5.out).mono ?_); rintro e w6 ⟨rfl, hb6⟩)
        have HB6 := Lib.hid (HB5.out.trans (hb6.mono HB5.out.size))
        clear hb6
        go_wp2_with fail
        have hat6 := (resSS gs gb ga ts tb ta).below HST3.out.1 HB6.out
        have hfr6 : Fr W4 F0 w6 F3 := HST3.out.2.1.trans (Fr.of_below HB6.out)
        have HST6 := Lib.hid (And.intro hat6 (And.intro hfr6 HST3.out.2.2))
        clear hat6 hfr6 e0 e1 x0 x1 r0 r2 r3 r4 r5 r6 r7 r8 r9 m1 m2 m3 m4 m5 m6
        have HR : Hid (∀ s bs w1, (resCls (resSS gs gb ga ts tb ta) w6 F3).In s bs w1 → _) := Lib.hid (fun s bs w1 hw1 => by
          obtain ⟨F', _, hf', _⟩ := hw1
          exact HRD.out w1 F' (HST6.out.2.1.trans hf'))
        refine wp_region_thr (resCls (resSS gs gb ga ts tb ta) w6 F3) (s1'', s2'') 27 [0, 1, 2, 3, 4, 5, 6, 7, 8, 9, 10, 11, 12, 13, 14, 15, 16, 17, 18, 19, 20, 21, 22, 23, 24, 25, 26] _ (by kernel_rfl) (by kernel_rfl) (by kernel_rfl) rfl (resCls_start HST6.out.1) ?_
        (simp only [List.filterMap_cons, List.filterMap_nil, List.getElem?_cons_zero, List.getElem?_cons_succ, List.drop_succ_cons, List.drop_zero, List.drop_nil])
        iterate 27 ((refine wpThr_val rfl rfl rfl ?_; apply Exists.intro; refine ⟨fun s1 bs1 w1 hb1 hw1 => ?_, ?_⟩); (have hc1 := HR.out s1 bs1 w1 hw1; go_simp; exact growUpon_ok rfl); (refine wpThr_at (by (simp only [Act.put, List.setIfInBounds_toArray, List.set_cons_succ, List.set_cons_zero]) <;> exact rfl) ?_))
        refine wpThr_nil ?_
        rintro w7 ⟨F7, ha7, hf7, _⟩
        have H7 := Lib.hid (And.intro ha7 (HST6.out.2.1.trans hf7))
        clear ha7 hf7 HR
        go_wp2_with fail
        go_roundw
        case rel => exact ⟨j + 1, by go_num, by omega, ⟨F7, s1'', s2'', H7.out.1, H7.out.2, HST6.out.2.2.1, HST6.out.2.2.2⟩⟩
        case measure => simp [intOf]; omega
      · have hcn : (spanV X.size dat ddel == 0) = false := by simp [hc]
        have HC := Lib.hid hc
        have HREP := Lib.hid (does_S1 gs gb ga ts tb ta (s2 := s2) (rrep_bad gs gb ga s1.1 s1.2 (s.Ts.getD k 0) dat ddel X (dtext.extract 0 (min (dtext.size : Int) 20).toNat) HST.out.2.2.1.wf (HST.out.2.2.1.is_ HKT.out.1.is_)
          (by have := HKT.out.2.2.1; have := HKT.out.2.2.2.2.1; unfold small; omega) hc))
        have hc2 : spanV Y.size dat ddel ≠ 0 := by rw [HKT.out.2.1.1]; exact hc
        have HREP2 := Lib.hid (does_S2 gs gb ga ts tb ta (s1 := s1) (rrep_bad ts tb ta s2.1 s2.2 (gM sm (s.Ts.getD k 0)) dat ddel Y (dtext.extract 0 (min (dtext.size : Int) 20).toNat) HST.out.2.2.2.wf (HST.out.2.2.2.is_ HKT.out.1.isN)
          (by have := HKT.out.2.2.2.1; have := HKT.out.2.2.2.2.2; unfold small; omega) hc2))
        rw [HKT.out.2.1.1] at HREP2
        clear hc2
        generalize spanV X.size dat ddel = c at hc hcn HREP HREP2
        refine wp_region_thr (resCls (resSS gs gb ga ts tb ta) wr F) (s1, s2) 25 [0, 1, 2, 3, 4, 5, 6, 7, 8, 9, 10, 11, 12, 13, 14, 15, 16, 17, 18, 19, 20, 21, 22, 23, 24] _ (by kernel_rfl) (by kernel_rfl) (by kernel_rfl) rfl (resCls_start HST.out.1) ?_
        (simp only [List.filterMap_cons, List.filterMap_nil, List.getElem?_cons_zero, List.getElem?_cons_succ, List.drop_succ_cons, List.drop_zero, List.drop_nil])
        iterate 19 ((refine wpThr_val rfl rfl rfl ?_; apply Exists.intro; refine ⟨fun s1 bs1 w1 hb1 hw1 => ?_, ?_⟩); (have hc1 := HR.out s1 bs1 w1 hw1; go_simp; exact growUpon_ok rfl); (refine wpThr_at (by (simp only [Act.put, List.setIfInBounds_toArray, List.set_cons_succ, List.set_cons_zero]) <;> exact rfl) ?_))
        refine wpThr_call (fun v s' => v = .tuple #[.int .i64 0, .int .i64 c] ∧ s' = (s1, s2)) rfl rfl rfl ?_ ?_
        · intro bs1 w1 hb1 hw1
          go_simp
          exact resCls_upon (HREP.out.mono fun v s' h => ⟨h.1.1, Prod.ext h.1.2 h.2⟩) hw1
        rintro v st ⟨rfl, rfl⟩
        (refine wpThr_at (by (simp only [Act.put, List.setIfInBounds_toArray, List.set_cons_succ, List.set_cons_zero]) <;> exact rfl) ?_)
        iterate 5 ((refine wpThr_val rfl rfl rfl ?_; apply Exists.intro; refine ⟨fun s1 bs1 w1 hb1 hw1 => ?_, ?_⟩); (have hc1 := HR.out s1 bs1 w1 hw1; go_simp; exact growUpon_ok rfl); (refine wpThr_at (by (simp only [Act.put, List.setIfInBounds_toArray, List.set_cons_succ, List.set_cons_zero]) <;> exact rfl) ?_))
        refine wpThr_nil ?_
        rintro w2 ⟨F2, ha2, hf2, _⟩
        have HST2 := Lib.hid (And.intro ha2 (HST.out.2.1.trans hf2))
        clear ha2 hf2 HR HREP
        go_wp2_with fail
        have HR : Hid (∀ s bs w1, (resCls (resSS gs gb ga ts tb ta) w2 F2).In s bs w1 → _) := Lib.hid (fun s bs w1 hw1 => by
          obtain ⟨F', _, hf', _⟩ := hw1
          exact HRD.out w1 F' (HST2.out.2.trans hf'))
        refine wp_region_thr (resCls (resSS gs gb ga ts tb ta) w2 F2) (s1, s2) 22 [0, 1, 2, 3, 4, 5, 6, 7, 8, 9, 10, 11, 12, 13, 14, 15, 16, 17, 18, 19, 20, 21] _ (by kernel_rfl) (by kernel_rfl) (by kernel_rfl) rfl (resCls_start HST2.out.1) ?_
        (simp only [List.filterMap_cons, List.filterMap_nil, List.getElem?_cons_zero, List.getElem?_cons_succ, List.drop_succ_cons, List.drop_zero, List.drop_nil])
        iterate 16 ((refine wpThr_val rfl rfl rfl ?_; apply Exists.intro; refine ⟨fun s1 bs1 w1 hb1 hw1 => ?_, ?_⟩); (have hc1 := HR.out s1 bs1 w1 hw1; go_simp; exact growUpon_ok rfl); (refine wpThr_at (by (simp only [Act.put, List.setIfInBounds_toArray, List.set_cons_succ, List.set_cons_zero]) <;> exact rfl) ?_))
        refine wpThr_call (fun v s' => v = .tuple #[.int .i64 0, .int .i64 c] ∧ s' = (s1, s2)) rfl rfl rfl ?_ ?_
        · intro bs1 w1 hb1 hw1
          go_simp
          exact resCls_upon (HREP2.out.mono fun v s' h => ⟨h.1.1, Prod.ext h.2 h.1.2⟩) hw1
        rintro v st ⟨rfl, rfl⟩
        (refine wpThr_at (by (simp only [Act.put, List.setIfInBounds_toArray, List.set_cons_succ, List.set_cons_zero]) <;> exact rfl) ?_)
        iterate 5 ((refine wpThr_val rfl rfl rfl ?_; apply Exists.intro; refine ⟨fun s1 bs1 w1 hb1 hw1 => ?_, ?_⟩); (have hc1 := HR.out s1 bs1 w1 hw1; go_simp; exact growUpon_ok rfl); (refine wpThr_at (by (simp only [Act.put, List.setIfInBounds_toArray, List.set_cons_succ, List.set_cons_zero]) <;> exact rfl) ?_))
        refine wpThr_nil ?_
        rintro w3 ⟨F3, ha3, hf3, _⟩
        have H3 := Lib.hid (And.intro ha3 (HST2.out.2.trans hf3))
        clear ha3 hf3 HR HREP2
        go_wp2_with fail
        go_roundw
        case rel => exact ⟨j + 1, by go_num, by omega, ⟨F3, s1, s2, H3.out.1, H3.out.2, HST.out.2.2.1.more, HST.out.2.2.2.more⟩⟩
        case measure => simp [intOf]; omega
    · obtain rfl : j = N8 := by omega
      have hjn' : ¬ ((j : Int) < j) := by omega
      go_wp2_with fail
      go_ret
      obtain ⟨F, s1, s2, hat, hfr, hg1, hg2⟩ := HOJ.out.ex
      exact ⟨rfl, hfr.below HW.out.1 HW.out.2.1 HW.out.1.size⟩
end Go.Proofs.Ytoeamnagmehpeaa.Kp
