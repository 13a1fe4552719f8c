/- Layer 22's law: a deed on both. */ -/
import Derived.Test.YtoeamnagmehpeaaMgH
import Derived.Test.YtoeamnagmehpeaaMgA
import Derived.Deep.AppendLies
namespace Go.Proofs.Ytoeamnagmehpeaa.Rp
set_option linter.unusedSimpArgs false
set_option linter.unusedVariables false
open Go Go.RowKit
open Go.Proofs.Ytoeamnagmehpeaa.Ar (T Is Ext WF Knot getK getB Arena resAr small wpList_storeK blkK setK_blk setK_below)
attribute [local go_sem] lt_add1 lt_self1 size_ne size_ne' size_ne1 size_ne1'
attribute [local irreducible] wpGrow wpThr

section
variable (w0 : World) (b gs gb ga : Nat) (Tv Lv : Value) (s : Bst)
theorem does_num (i : Int) (hn : s.Ts.length ≤ 1000000) (hi : i < s.Ts.length) : Does Try.prog (resBS w0 b gs gb ga Tv Lv s.Ts s.Ls) 96 #[.pointer (some ⟨b, 0, none⟩), .int .i64 i] (s.S, s.ks) (fun v s' => v = .int .i64 (numV s.Ts i) ∧ s' = (s.S, s.ks)) :=
  Does.of_below fun w F ⟨rb, rf, q, _, h⟩ => (number_any w w0 b gs gb ga rb rf q Tv Lv s i h hn hi).mono fun _ _ h => ⟨h.1, h.2 ▸ Below.refl _ _⟩
theorem does_knot (t : Int) (hn : s.ks.length ≤ small) : Does Try.prog (resBS w0 b gs gb ga Tv Lv s.Ts s.Ls) 23 #[.pointer (some ⟨gs, 0, none⟩), .int .i64 t] (s.S, s.ks) (fun v s' => v = .tuple #[(getK s.ks t).val, .bool (getB s.ks t)] ∧ s' = (s.S, s.ks)) :=
  Does.of_below fun w F ⟨rb, rf, q, _, h⟩ => rknot_any gs gb ga rb rf q s.S s.ks w t h.st hn
theorem does_knots : Does Try.prog (resBS w0 b gs gb ga Tv Lv s.Ts s.Ls) 22 #[.pointer (some ⟨gs, 0, none⟩)] (s.S, s.ks) (fun v s' => v = .int .i64 s.ks.length ∧ s' = (s.S, s.ks)) :=
  Does.of_below fun w F ⟨rb, rf, q, _, h⟩ => (rknots_any gs gb ga rb rf q s.S s.ks w h.st).mono fun _ _ h => ⟨h.1, h.2 ▸ Below.refl _ _⟩

theorem digits_le : ∀ k n, digits k n ≤ k
  | 0, n => by simp [digits]
  | k + 1, n => by
    have := digits_le k (n / 2)
    simp only [digits]
    split <;> omega
theorem eq_below {f : FuncId} {args : Array Value} {w : World} {v : Ending} (h : Calls Try.prog f args w fun e w' => e = v ∧ w = w') : Calls Try.prog f args w fun e w' => e = v ∧ Below w.heap.size w w' := h.mono fun _ _ h => ⟨h.1, h.2 ▸ Below.refl _ _⟩
theorem Inv.short {s : Bst} {k : Nat} (hk : k ≤ 42) (h : Inv s k) : ∀ x ∈ s.Ls, x.size ≤ 1000000 := by
  intro x hx
  obtain ⟨i, hi, rfl⟩ := List.getElem_of_mem hx
  obtain ⟨X, _, h2, _, h4, h5⟩ := h.ropes i (by rw [h.len]; exact hi)
  have := txt_length h2
  rw [h4] at this
  have e : (s.Ls.getD i ⟨#[]⟩) = s.Ls[i] := by simp [List.getD, hi]
  rw [e] at this
  have e2 : s.Ls[i].data.toList.length = s.Ls[i].size := rfl
  omega
/-- the rope of a number. -/
theorem Inv.rope {s : Bst} {k : Nat} (h : Inv s k) {i : Int} (h0 : 0 ≤ i) (h1 : i < s.Ts.length) : ∃ X, Is s.ks (numV s.Ts i) X ∧ Good s.S X ∧ X.bal ∧ txt s.S X = (s.Ls.getD i.toNat ⟨#[]⟩).data.toList ∧ X.size ≤ 20 * k ∧ X.size = (s.Ls.getD i.toNat ⟨#[]⟩).size := by
  obtain ⟨X, g1, g2, g3, g4, g5⟩ := h.ropes i.toNat (by omega)
  have := txt_length g2
  rw [g4] at this
  exact ⟨X, by unfold numV; rw [if_neg (by omega)]; exact g1, g2, g3, g4, g5, this.symm⟩
theorem bad_does (k : Nat) (i a n : Int) (x : ByteArray) (hk : k ≤ 42) (h : Inv s k) (h0 : -1 ≤ i) (h1 : i < s.Ts.length) (hc : spanR s.Ls i a n ≠ 0) :
    Does Try.prog (resBS w0 b gs gb ga Tv Lv s.Ts s.Ls) 19 #[.pointer (some ⟨gs, 0, none⟩), .int .i64 (numV s.Ts i), .int .i64 a, .int .i64 n, .string x] (s.S, s.ks) (fun v s' => v = .tuple #[.int .i64 0, .int .i64 (spanR s.Ls i a n)] ∧ s' = (s.S, s.ks)) := by
  have hks : s.ks.length ≤ small := by have := h.kn; unfold small; omega
  refine Does.of_below fun w F ⟨rb, rf, q, _, hb⟩ => rrep_err w _ _ a n _ x hc ?_
  by_cases hi : 0 ≤ i
  · obtain ⟨X, g1, g2, g3, g4, g5, g6⟩ := h.rope hi h1
    have hz := T.bounds (g1.ok h.wf)
    have e : spanR s.Ls i a n = spanV X.size a n := by unfold spanR; rw [if_pos (by simp [hasB, hi]; rw [← h.len]; exact h1), g6]
    rw [e]
    exact rspan_any gs w _ a n X.size (by rw [g6]; omega) hz.1 (rsize_is gs gb ga rb rf q s.S s.ks w _ X g1 hb.st hks)
  · have e : spanR s.Ls i a n = 7 := by unfold spanR; rw [if_neg (by simp [hasB, hi])]
    have e2 : numV s.Ts i = -1 := by unfold numV; rw [if_pos (by omega)]
    rw [e, e2]
    exact rspan_none w _ _ a n (rsize_none gs gb ga rb rf q s.S s.ks w (-1) (.inl (by omega)) hb.st hks)

def DoP (k : Nat) (w' : World) : Prop := ∃ rb rf q Tv' Lv' s' N M, BI w0 b gs gb ga rb rf q Tv' Lv' s' w' ∧ Inv s' (k + 1) ∧ Ext s.ks s'.ks N M ∧ M ≤ 5

set_option maxRecDepth 100000 in
set_option maxHeartbeats 4000000 in
theorem do_any (rb rf q : Option Nat) (d : Dd) (k : Nat) (hk : k ≤ 42) (hI : Inv s k) (w : World) (h : BI w0 b gs gb ga rb rf q Tv Lv s w) (hd : d.text.size ≤ 2 ^ 63 - 1) :
    Calls Try.prog 61 #[.pointer (some ⟨b, 0, none⟩), .agg #[.int .i64 d.of_, .int .i64 d.at_, .int .i64 d.del, .string d.text, .bool d.raw]] w fun e w' => e = .returned (.int .i64 0) ∧ DoP w0 b gs gb ga s k w' := by
  have hlen : s.Ts.length ≤ 1000000 := by have := hI.le; omega
  have hks : s.ks.length ≤ 1000000 := by have := hI.kn; omega
  have hrg := ofV_range d hI.pos
  have hb0 : Below w.heap.size w (w.alloc (.cells #[.int .i64 d.of_, .int .i64 d.at_, .int .i64 d.del, .string d.text, .bool d.raw] 25)) := (Below.refl _ _).alloc (Nat.le_refl _) _
  have hk0 : (w.alloc (.cells #[.int .i64 d.of_, .int .i64 d.at_, .int .i64 d.del, .string d.text, .bool d.raw] 25)).heap[w.heap.size]? = some (.cells #[.int .i64 d.of_, .int .i64 d.at_, .int .i64 d.del, .string d.text, .bool d.raw] 25 (0, 0)) := heap_alloc_new _ _
  have HOF := Lib.hid (of_any _ w0 b gs gb ga rb rf q Tv Lv s d (h.below hb0) hlen hI.pos)
  have HH := Lib.hid (And.intro h (And.intro hI (And.intro hb0 hk0)))
  have hbd1 : ¬ sfoot gb ga rb rf q w.heap.size := fun e => Nat.lt_irrefl _ (h.st.foot_lt e)
  have hbd2 : w.heap.size ≠ b := by have := h.lt; omega
  have HBD := Lib.hid (And.intro hbd1 hbd2)
  clear h hI hb0 hk0 hbd1 hbd2
  generalize ofV s.Ts.length d = i at HOF hrg
  obtain ⟨hr0, hr1⟩ := hrg
  obtain ⟨o, at_, del, text, raw⟩ := d
  simp only at HOF HH hd ⊢
  go_enter Try.func61, Try.ntmps61
  go_wp2_with fail
  ((with_reducible refine HOF.out.mono ?_); rintro e w1 ⟨rfl, hb1⟩)
  have hk1 : w1.heap[w.heap.size]? = _ := (hb1.block _ (Array.getElem?_eq_some_iff.1 HH.out.2.2.2).1).trans HH.out.2.2.2
  have hlt1 := (Array.getElem?_eq_some_iff.1 hk1).1
  have c3 : w1.cell? ⟨w.heap.size, 3, none⟩ = some (.string text) := cell_of_row w1 _ 3 _ _ (0, 0) hk1
  have f3 : w1.frozen? ⟨w.heap.size, 3, none⟩ = false := by simp [World.frozen?, hk1]
  have hbw1 := HH.out.2.2.1.trans (hb1.mono HH.out.2.2.1.size)
  have H1 := Lib.hid (And.intro hbw1 hk1)
  have hd' : (text.size : Int) ≤ 9223372036854775807 := by omega
  clear hb1 hk1 hbw1 HOF
  go_upto_region 3 with fail
  have hx20 : (text.extract 0 (min (text.size : Int) 20).toNat).size ≤ 20 := by rw [ByteArray.size_extract]; omega
  generalize text.extract 0 (min (text.size : Int) 20).toNat = x at hx20 ⊢
  have hW : Hid (BI w0 b gs gb ga rb rf q Tv Lv s (w1.setCell ⟨w.heap.size, 3, none⟩ (.string x)) ∧ (w1.setCell ⟨w.heap.size, 3, none⟩ (.string x)).heap[w.heap.size]? = some (.cells #[.int .i64 o, .int .i64 at_, .int .i64 del, .string x, .bool raw] 25 (0, 0))) :=
    Lib.hid ⟨HH.out.1.below (H1.out.1.setCell (p := ⟨_, 3, none⟩) (Nat.le_refl _) _), by simp [World.setCell, Array.getElem?_modify, H1.out.2]⟩
  clear c3 f3 H1 hlt1 hd'
  generalize w1.setCell ⟨w.heap.size, 3, none⟩ (.string x) = W at hW ⊢
  generalize w.heap.size = bd at HBD hW ⊢
  have HIV := Lib.hid HH.out.2.1
  clear HH
  have HN := Lib.hid (fun w' (hb : Below W.heap.size W w') => number_any w' w0 b gs gb ga rb rf q Tv Lv s i (hW.out.1.below hb) hlen hr1)
  generalize htq : numV s.Ts i = t at HN
  have HT := Lib.hid htq
  clear htq
  have HK := Lib.hid (fun w' (hb : Below W.heap.size W w') => rknot_any gs gb ga rb rf q s.S s.ks w' t (hW.out.1.below hb).st (by unfold small; omega))
  unfold Knot.val at HK
  generalize hkq : getK s.ks t = kn at HK
  have HKN := Lib.hid hkq
  clear hkq
  generalize hgq : getB s.ks t = gk at HK
  have HGK := Lib.hid hgq
  clear hgq
  obtain ⟨c0, c1, c2⟩ := hW.out.1.c
  have hltb := hW.out.1.lt
  go_cut [6, 7] (fun p v wx => ∃ bk, p = .pointer (some ⟨bk, 0, none⟩) ∧ v = .bool gk ∧ W.heap.size ≤ bk ∧ Below W.heap.size W wx ∧ blkK wx bk kn)
  case first =>
    go_region_with (first | (go_at_call 96; (with_reducible refine (HN.out _ (by (repeat (first | exact Below.refl _ _ | assumption | (refine Below.setCell ?_ (by first | (simp; done) | (simp; omega) | omega) _) | (refine Below.alloc ?_ (by first | (simp; done) | (simp; omega) | omega) _) | (refine Below.drew ?_) | (refine Below.drewN ?_ _) | (refine Below.trans ?_ (Below.mono (by assumption) (by first | (simp; done) | (simp; omega) | omega))))))).mono ?_); rintro e w3 ⟨rfl, rfl⟩) | (go_at_call 23; (with_reducible refine (HK.out _ (by (repeat (first | exact Below.refl _ _ | assumption | (refine Below.setCell ?_ (by first | (simp; done) | (simp; omega) | omega) _) | (refine Below.alloc ?_ (by first | (simp; done) | (simp; omega) | omega) _) | (refine Below.drew ?_) | (refine Below.drewN ?_ _) | (refine Below.trans ?_ (Below.mono (by assumption) (by first | (simp; done) | (simp; omega) | omega))))))).mono ?_); rintro e w3 ⟨rfl, hb3⟩; have hz3 := hb3.size; have hc3 := fun (p : Addr) hp => hb3.cell (p := p) hp; have hq3 := fun (p : Addr) hp => hb3.frozen (p := p) hp; try simp at hz3))
    all_goals first
      | (have hB3 : Below W.drew.heap.size W.drew w3 := by with_reducible exact hb3
         have hQ : W.heap.size ≤ w3.heap.size ∧ Below W.heap.size W (w3.alloc (.cells #[.int .i64 kn.left, .int .i64 kn.right, .int .i64 kn.off, .int .i64 kn.len, .int .i64 kn.high, .int .i64 kn.leaves, .int .i64 kn.feeds] 50)) ∧ blkK (w3.alloc (.cells #[.int .i64 kn.left, .int .i64 kn.right, .int .i64 kn.off, .int .i64 kn.len, .int .i64 kn.high, .int .i64 kn.leaves, .int .i64 kn.feeds] 50)) w3.heap.size kn :=
           ⟨hz3, (((Below.refl _ W).drew).trans hB3).alloc hz3 _, heap_alloc_new _ _⟩
         generalize w3.alloc (.cells #[.int .i64 kn.left, .int .i64 kn.right, .int .i64 kn.off, .int .i64 kn.len, .int .i64 kn.high, .int .i64 kn.leaves, .int .i64 kn.feeds] 50) = W3 at hQ ⊢
         generalize w3.heap.size = bk at hQ ⊢
         have HQ := Lib.hid hQ
         clear hQ hB3 hb3 hz3 hc3 hq3
         go_wp2_with fail
         go_meet
         exact ⟨_, rfl, rfl, HQ.out⟩)
      | (have hQ : W.heap.size ≤ W.heap.size ∧ Below W.heap.size W (((((((w3.setCell ⟨W.heap.size, 0, none⟩ (.int .i64 kn.left)).setCell ⟨W.heap.size, 1, none⟩ (.int .i64 kn.right)).setCell ⟨W.heap.size, 2, none⟩ (.int .i64 kn.off)).setCell ⟨W.heap.size, 3, none⟩ (.int .i64 kn.len)).setCell ⟨W.heap.size, 4, none⟩ (.int .i64 kn.high)).setCell ⟨W.heap.size, 5, none⟩ (.int .i64 kn.leaves)).setCell ⟨W.heap.size, 6, none⟩ (.int .i64 kn.feeds)) ∧ blkK (((((((w3.setCell ⟨W.heap.size, 0, none⟩ (.int .i64 kn.left)).setCell ⟨W.heap.size, 1, none⟩ (.int .i64 kn.right)).setCell ⟨W.heap.size, 2, none⟩ (.int .i64 kn.off)).setCell ⟨W.heap.size, 3, none⟩ (.int .i64 kn.len)).setCell ⟨W.heap.size, 4, none⟩ (.int .i64 kn.high)).setCell ⟨W.heap.size, 5, none⟩ (.int .i64 kn.leaves)).setCell ⟨W.heap.size, 6, none⟩ (.int .i64 kn.feeds)) W.heap.size kn := by
           have h1 : Below W.heap.size W (W.drew.alloc (.cells #[.int .i64 0, .int .i64 0, .int .i64 0, .int .i64 0, .int .i64 0, .int .i64 0, .int .i64 0] 50)) := ((Below.refl _ W).drew).alloc (Nat.le_refl _) _
           have h2 : Below W.heap.size W w3 := h1.trans (hb3.mono (by simp))
           have h3 : w3.heap[W.heap.size]? = some (.cells #[.int .i64 0, .int .i64 0, .int .i64 0, .int .i64 0, .int .i64 0, .int .i64 0, .int .i64 0] 50) := (hb3.block _ (by simp)).trans (heap_alloc_new W.drew _)
           exact ⟨Nat.le_refl _, setK_below h2 (Nat.le_refl _) kn, setK_blk h3 kn⟩
         have HQ := Lib.hid hQ
         clear hQ hb3 hz3 hc3 hq3
         generalize (((((((w3.setCell ⟨W.heap.size, 0, none⟩ (.int .i64 kn.left)).setCell ⟨W.heap.size, 1, none⟩ (.int .i64 kn.right)).setCell ⟨W.heap.size, 2, none⟩ (.int .i64 kn.off)).setCell ⟨W.heap.size, 3, none⟩ (.int .i64 kn.len)).setCell ⟨W.heap.size, 4, none⟩ (.int .i64 kn.high)).setCell ⟨W.heap.size, 5, none⟩ (.int .i64 kn.leaves)).setCell ⟨W.heap.size, 6, none⟩ (.int .i64 kn.feeds)) = W3 at HQ ⊢
         go_wp2_with fail
         go_meet
         exact ⟨_, rfl, rfl, HQ.out⟩)
  case rest =>
  obtain ⟨bk, rfl, rfl, hbk, hbw, hbx⟩ := hcut
  have HBK : Hid (¬ sfoot gb ga rb rf q bk) := Lib.hid (fun e => by have := hW.out.1.st.foot_lt e; omega)
  have H4 := Lib.hid (And.intro (hW.out.1.below hbw) (And.intro ((hbw.block bd (Array.getElem?_eq_some_iff.1 hW.out.2).1).trans hW.out.2) hbx))
  clear hbw hbx hbk c0 c1 c2 hltb hW HN HK
  obtain ⟨c0, c1, c2⟩ := H4.out.1.c
  have hltb := H4.out.1.lt
  go_wp2_with (go_at_call 22; ((with_reducible refine (rknots_any gs gb ga rb rf q s.S s.ks _ H4.out.1.st).mono ?_); rintro e w4 ⟨rfl, rfl⟩))
  have hnum := does_num w0 b gs gb ga Tv Lv s i hlen hr1
  rw [HT.out] at hnum
  have HNUM := Lib.hid hnum
  clear hnum c1 c2
  have HR : Hid (∀ s' bs w', (resCls (resBS w0 b gs gb ga Tv Lv s.Ts s.Ls) wc (sfoot gb ga rb rf q)).In s' bs w' → w'.cell? ⟨b, 0, none⟩ = some (.pointer (some ⟨gs, 0, none⟩)) ∧ w'.cell? ⟨bd, 1, none⟩ = some (.int .i64 at_) ∧ w'.cell? ⟨bd, 2, none⟩ = some (.int .i64 del) ∧ w'.cell? ⟨bd, 3, none⟩ = some (.string x)) := Lib.hid (fun s' bs w' hw' =>
    ⟨(resCls_cell hw' H4.out.1.lt H4.out.1.nb 0).trans H4.out.1.c.1, (resCls_cell hw' (Array.getElem?_eq_some_iff.1 H4.out.2.1).1 HBD.out.1 1).trans (cell_of_row wc bd 1 _ _ (0, 0) H4.out.2.1),
      (resCls_cell hw' (Array.getElem?_eq_some_iff.1 H4.out.2.1).1 HBD.out.1 2).trans (cell_of_row wc bd 2 _ _ (0, 0) H4.out.2.1), (resCls_cell hw' (Array.getElem?_eq_some_iff.1 H4.out.2.1).1 HBD.out.1 3).trans (cell_of_row wc bd 3 _ _ (0, 0) H4.out.2.1)⟩)
  clear c0
  by_cases hc : spanR s.Ls i at_ del = 0
  case neg =>
    have HREP := Lib.hid (bad_does w0 b gs gb ga Tv Lv s k i at_ del x hk HIV.out hr0 hr1 hc)
    rw [HT.out] at HREP
    have HREF := Lib.hid (fun w' (hw' : SlS w' Lv s.Ls) => refrep_any Lv s.Ls i at_ del x w' hw' (by have := HIV.out.len; omega) (Inv.short hk HIV.out) (by omega))
    rw [if_neg hc] at HREF
    generalize spanR s.Ls i at_ del = c at hc HREP HREF
    refine wp_region_thr (resCls (resBS w0 b gs gb ga Tv Lv s.Ts s.Ls) wc (sfoot gb ga rb rf q)) (s.S, s.ks) 19 [0, 1, 2, 3, 4, 5, 7, 8, 9, 10, 11, 12, 6, 13, 14, 15, 16, 17, 18] _ (by kernel_rfl) (by kernel_rfl) (by kernel_rfl) rfl (resCls_start ⟨rb, rf, q, rfl, H4.out.1⟩) ?_
    (simp only [List.filterMap_cons, List.filterMap_nil, List.getElem?_cons_zero, List.getElem?_cons_succ, List.drop_succ_cons, List.drop_zero, List.drop_nil])
    iterate 12 ((refine wpThr_val rfl rfl rfl ?_; apply Exists.intro; refine ⟨fun s1 bs1 w1 hb1 hw1 => ?_, ?_⟩); (have hc1 := HR.out s1 bs1 w1 hw1; go_simp; exact growUpon_ok rfl); (refine wpThr_at (by (simp only [Act.put, List.setIfInBounds_toArray, List.set_cons_succ, List.set_cons_zero]) <;> exact rfl) ?_))
    refine wpThr_call (fun v s' => v = .int .i64 t ∧ s' = (s.S, s.ks)) rfl rfl rfl ?_ ?_
    · intro bs1 w1 hb1 hw1
      go_simp
      exact resCls_upon HNUM.out hw1
    rintro v st ⟨rfl, rfl⟩
    (refine wpThr_at (by (simp only [Act.put, List.setIfInBounds_toArray, List.set_cons_succ, List.set_cons_zero]) <;> exact rfl) ?_)
    refine wpThr_call (fun v s' => v = .tuple #[.int .i64 0, .int .i64 c] ∧ s' = (s.S, s.ks)) rfl rfl rfl ?_ ?_
    · intro bs1 w1 hb1 hw1
      go_simp
      exact resCls_upon HREP.out hw1
    rintro v st ⟨rfl, rfl⟩
    (refine wpThr_at (by (simp only [Act.put, List.setIfInBounds_toArray, List.set_cons_succ, List.set_cons_zero]) <;> exact rfl) ?_)
    iterate 5 ((refine wpThr_val rfl rfl rfl ?_; apply Exists.intro; refine ⟨fun s1 bs1 w1 hb1 hw1 => ?_, ?_⟩); (have hc1 := HR.out s1 bs1 w1 hw1; go_simp; exact growUpon_ok rfl); (refine wpThr_at (by (simp only [Act.put, List.setIfInBounds_toArray, List.set_cons_succ, List.set_cons_zero]) <;> exact rfl) ?_))
    refine wpThr_nil ?_
    rintro w5 ⟨F5, ha5, hf5, _⟩
    obtain ⟨rb5, rf5, q5, rfl, hb5⟩ := bs_of ha5
    have hk5 := hf5.block H4.out.2.1 HBD.out.1
    have hbd5 := hf5.out (Array.getElem?_eq_some_iff.1 H4.out.2.1).1 HBD.out.1
    have H5 := Lib.hid (And.intro hb5 (And.intro hk5 hbd5))
    clear ha5 hf5 hb5 hk5 hbd5 HR HREP HNUM hltb
    have hlt5 := H5.out.1.lt
    have HR : Hid (∀ s' bs w', (resCls (resBS w0 b gs gb ga Tv Lv s.Ts s.Ls) w5 (sfoot gb ga rb5 rf5 q5)).In s' bs w' → w'.cell? ⟨b, 2, none⟩ = some Lv ∧ w'.cell? ⟨bd, 1, none⟩ = some (.int .i64 at_) ∧ w'.cell? ⟨bd, 2, none⟩ = some (.int .i64 del) ∧ w'.cell? ⟨bd, 3, none⟩ = some (.string x)) := Lib.hid (fun s' bs w' hw' =>
      ⟨(resCls_cell hw' H5.out.1.lt H5.out.1.nb 2).trans H5.out.1.c.2.2, (resCls_cell hw' (Array.getElem?_eq_some_iff.1 H5.out.2.1).1 H5.out.2.2 1).trans (cell_of_row w5 bd 1 _ _ (0, 0) H5.out.2.1),
        (resCls_cell hw' (Array.getElem?_eq_some_iff.1 H5.out.2.1).1 H5.out.2.2 2).trans (cell_of_row w5 bd 2 _ _ (0, 0) H5.out.2.1), (resCls_cell hw' (Array.getElem?_eq_some_iff.1 H5.out.2.1).1 H5.out.2.2 3).trans (cell_of_row w5 bd 3 _ _ (0, 0) H5.out.2.1)⟩)
    have HREFD := Lib.hid (Does.of_below (R := resBS w0 b gs gb ga Tv Lv s.Ts s.Ls) (s := (s.S, s.ks)) fun w' F ⟨_, _, _, _, hb'⟩ => HREF.out w' hb'.sl)
    go_wp2_with fail
    refine wp_region_thr (resCls (resBS w0 b gs gb ga Tv Lv s.Ts s.Ls) w5 (sfoot gb ga rb5 rf5 q5)) (s.S, s.ks) 17 [0, 1, 2, 3, 4, 5, 6, 7, 8, 9, 10, 11, 12, 13, 14, 15, 16] _ (by kernel_rfl) (by kernel_rfl) (by kernel_rfl) rfl (resCls_start ⟨rb5, rf5, q5, rfl, H5.out.1⟩) ?_
    (simp only [List.filterMap_cons, List.filterMap_nil, List.getElem?_cons_zero, List.getElem?_cons_succ, List.drop_succ_cons, List.drop_zero, List.drop_nil])
    iterate 11 ((refine wpThr_val rfl rfl rfl ?_; apply Exists.intro; refine ⟨fun s1 bs1 w1 hb1 hw1 => ?_, ?_⟩); (have hc1 := HR.out s1 bs1 w1 hw1; go_simp; exact growUpon_ok rfl); (refine wpThr_at (by (simp only [Act.put, List.setIfInBounds_toArray, List.set_cons_succ, List.set_cons_zero]) <;> exact rfl) ?_))
    refine wpThr_call (fun v s' => v = .tuple #[.string ⟨#[]⟩, .int .i64 c] ∧ s' = (s.S, s.ks)) rfl rfl rfl ?_ ?_
    · intro bs1 w1 hb1 hw1
      go_simp
      exact resCls_upon HREFD.out hw1
    rintro v st ⟨rfl, rfl⟩
    (refine wpThr_at (by (simp only [Act.put, List.setIfInBounds_toArray, List.set_cons_succ, List.set_cons_zero]) <;> exact rfl) ?_)
    iterate 5 ((refine wpThr_val rfl rfl rfl ?_; apply Exists.intro; refine ⟨fun s1 bs1 w1 hb1 hw1 => ?_, ?_⟩); (have hc1 := HR.out s1 bs1 w1 hw1; go_simp; exact growUpon_ok rfl); (refine wpThr_at (by (simp only [Act.put, List.setIfInBounds_toArray, List.set_cons_succ, List.set_cons_zero]) <;> exact rfl) ?_))
    refine wpThr_nil ?_
    rintro w6 ⟨F6, ha6, hf6, _⟩
    obtain ⟨rb6, rf6, q6, rfl, hb6⟩ := bs_of ha6
    have H6 := Lib.hid hb6
    clear ha6 hf6 hb6 HR HREFD HREF hlt5 H5 H4
    have c0 := H6.out.c.1
    have hltb := H6.out.lt
    have hcb : (c == 0) = false := by simp [hc]
    have hcb2 : (c != 0) = true := by simp [hc]
    go_wp2_with (go_at_call 22; ((with_reducible refine (rknots_any gs gb ga rb6 rf6 q6 s.S s.ks _ H6.out.st).mono ?_); rintro e w4 ⟨rfl, rfl⟩))
    go_ret
    exact ⟨rfl, rb6, rf6, q6, Tv, Lv, s, 0, 0, H6.out, HIV.out.more (by omega), Ext.refl _, by omega⟩
  case pos =>
    have hi0 : 0 ≤ i := by
      rcases Int.lt_or_le i 0 with h | h
      · unfold spanR at hc
        rw [if_neg (by simp [hasB]; omega)] at hc
        omega
      · exact h
    obtain ⟨X, g1, g2, g3, g4, g5, g6⟩ := HIV.out.rope hi0 hr1
    have hsv : spanV X.size at_ del = 0 := by
      unfold spanR at hc
      rwa [if_pos (by simp [hasB, hi0]; rw [← HIV.out.len]; exact hr1), ← g6] at hc
    rw [HT.out] at g1
    have HREP := Lib.hid (does_bs (w0 := w0) (b := b) (Tv := Tv) (Lv := Lv) (Ts := s.Ts) (Ls := s.Ls) (rrepC gs gb ga s.S s.ks t at_ del X x HIV.out.wf g1 g2 g3 hks (by have := HIV.out.sz; omega) (by omega) hsv))
    have HREF := Lib.hid (fun w' (hw' : SlS w' Lv s.Ls) => refrep_any Lv s.Ls i at_ del x w' hw' (by have := HIV.out.len; omega) (Inv.short hk HIV.out) (by omega))
    rw [if_pos hc] at HREF
    have HG := Lib.hid (And.intro hc (And.intro g1 (And.intro g2 (And.intro g3 (And.intro g4 (And.intro g5 (And.intro g6 hsv)))))))
    clear hc g1 g2 g3 g4 g5 g6 hsv
    generalize hyq : repS (s.Ls.getD i.toNat ⟨#[]⟩) at_ del x = y at HREF
    have HY := Lib.hid hyq
    clear hyq
    refine wp_region_thr (resCls (resBS w0 b gs gb ga Tv Lv s.Ts s.Ls) wc (sfoot gb ga rb rf q)) (s.S, s.ks) 19 [0, 1, 2, 3, 4, 5, 7, 8, 9, 10, 11, 12, 6, 13, 14, 15, 16, 17, 18] _ (by kernel_rfl) (by kernel_rfl) (by kernel_rfl) rfl (resCls_start ⟨rb, rf, q, rfl, H4.out.1⟩) ?_
    (simp only [List.filterMap_cons, List.filterMap_nil, List.getElem?_cons_zero, List.getElem?_cons_succ, List.drop_succ_cons, List.drop_zero, List.drop_nil])
    iterate 12 ((refine wpThr_val rfl rfl rfl ?_; apply Exists.intro; refine ⟨fun s1 bs1 w1 hb1 hw1 => ?_, ?_⟩); (have hc1 := HR.out s1 bs1 w1 hw1; go_simp; exact growUpon_ok rfl); (refine wpThr_at (by (simp only [Act.put, List.setIfInBounds_toArray, List.set_cons_succ, List.set_cons_zero]) <;> exact rfl) ?_))
    refine wpThr_call (fun v s' => v = .int .i64 t ∧ s' = (s.S, s.ks)) rfl rfl rfl ?_ ?_
    · intro bs1 w1 hb1 hw1
      go_simp
      exact resCls_upon HNUM.out hw1
    rintro v st ⟨rfl, rfl⟩
    (refine wpThr_at (by (simp only [Act.put, List.setIfInBounds_toArray, List.set_cons_succ, List.set_cons_zero]) <;> exact rfl) ?_)
    refine wpThr_call (RepC s.S s.ks t X at_ del x) rfl rfl rfl ?_ ?_
    · intro bs1 w1 hb1 hw1
      go_simp
      exact resCls_upon HREP.out hw1
    rintro v ⟨S2, ks2⟩ hrep
    have hrep' := hrep
    obtain ⟨t2, Y, N, M, rfl, r1, r2, r3, r4, r5, r6, r7, r8, r9, r10⟩ := hrep'
    simp only at r1 r2 r3 r4 r6 r7
    have HRP := Lib.hid (And.intro hrep (And.intro r4 (And.intro r5 (And.intro r9 r10))))
    have hlk := r4.len
    clear hrep r1 r2 r3 r4 r5 r6 r7 r8 r9 r10
    (refine wpThr_at (by (simp only [Act.put, List.setIfInBounds_toArray, List.set_cons_succ, List.set_cons_zero]) <;> exact rfl) ?_)
    iterate 5 ((refine wpThr_val rfl rfl rfl ?_; apply Exists.intro; refine ⟨fun s1 bs1 w1 hb1 hw1 => ?_, ?_⟩); (have hc1 := HR.out s1 bs1 w1 hw1; go_simp; exact growUpon_ok rfl); (refine wpThr_at (by (simp only [Act.put, List.setIfInBounds_toArray, List.set_cons_succ, List.set_cons_zero]) <;> exact rfl) ?_))
    refine wpThr_nil ?_
    rintro w5 ⟨F5, ha5, hf5, _⟩
    obtain ⟨rb5, rf5, q5, rfl, hb5⟩ := bs_of ha5
    simp only at hb5
    have hk5 := hf5.block H4.out.2.1 HBD.out.1
    have hbd5 := hf5.out (Array.getElem?_eq_some_iff.1 H4.out.2.1).1 HBD.out.1
    have H5 := Lib.hid (And.intro hb5 (And.intro hk5 hbd5))
    have HX5 := Lib.hid (H4.out.2.2.fr hf5 HBK.out)
    have HBK5 := Lib.hid (hf5.out H4.out.2.2.lt HBK.out)
    clear ha5 hf5 hb5 hk5 hbd5 HR HREP hltb
    have hlt5 := H5.out.1.lt
    have HR : Hid (∀ s' bs w', (resCls (resBS w0 b gs gb ga Tv Lv s.Ts s.Ls) w5 (sfoot gb ga rb5 rf5 q5)).In s' bs w' → w'.cell? ⟨b, 2, none⟩ = some Lv ∧ w'.cell? ⟨bd, 1, none⟩ = some (.int .i64 at_) ∧ w'.cell? ⟨bd, 2, none⟩ = some (.int .i64 del) ∧ w'.cell? ⟨bd, 3, none⟩ = some (.string x)) := Lib.hid (fun s' bs w' hw' =>
      ⟨(resCls_cell hw' H5.out.1.lt H5.out.1.nb 2).trans H5.out.1.c.2.2, (resCls_cell hw' (Array.getElem?_eq_some_iff.1 H5.out.2.1).1 H5.out.2.2 1).trans (cell_of_row w5 bd 1 _ _ (0, 0) H5.out.2.1),
        (resCls_cell hw' (Array.getElem?_eq_some_iff.1 H5.out.2.1).1 H5.out.2.2 2).trans (cell_of_row w5 bd 2 _ _ (0, 0) H5.out.2.1), (resCls_cell hw' (Array.getElem?_eq_some_iff.1 H5.out.2.1).1 H5.out.2.2 3).trans (cell_of_row w5 bd 3 _ _ (0, 0) H5.out.2.1)⟩)
    have HREFD := Lib.hid (Does.of_below (R := resBS w0 b gs gb ga Tv Lv s.Ts s.Ls) (s := (S2, ks2)) fun w' F ⟨_, _, _, _, hb'⟩ => HREF.out w' hb'.sl)
    go_wp2_with fail
    refine wp_region_thr (resCls (resBS w0 b gs gb ga Tv Lv s.Ts s.Ls) w5 (sfoot gb ga rb5 rf5 q5)) (S2, ks2) 17 [0, 1, 2, 3, 4, 5, 6, 7, 8, 9, 10, 11, 12, 13, 14, 15, 16] _ (by kernel_rfl) (by kernel_rfl) (by kernel_rfl) rfl (resCls_start ⟨rb5, rf5, q5, rfl, H5.out.1⟩) ?_
    (simp only [List.filterMap_cons, List.filterMap_nil, List.getElem?_cons_zero, List.getElem?_cons_succ, List.drop_succ_cons, List.drop_zero, List.drop_nil])
    iterate 11 ((refine wpThr_val rfl rfl rfl ?_; apply Exists.intro; refine ⟨fun s1 bs1 w1 hb1 hw1 => ?_, ?_⟩); (have hc1 := HR.out s1 bs1 w1 hw1; go_simp; exact growUpon_ok rfl); (refine wpThr_at (by (simp only [Act.put, List.setIfInBounds_toArray, List.set_cons_succ, List.set_cons_zero]) <;> exact rfl) ?_))
    refine wpThr_call (fun v s' => v = .tuple #[.string y, .int .i64 0] ∧ s' = (S2, ks2)) rfl rfl rfl ?_ ?_
    · intro bs1 w1 hb1 hw1
      go_simp
      exact resCls_upon HREFD.out hw1
    rintro v st ⟨rfl, rfl⟩
    (refine wpThr_at (by (simp only [Act.put, List.setIfInBounds_toArray, List.set_cons_succ, List.set_cons_zero]) <;> exact rfl) ?_)
    iterate 5 ((refine wpThr_val rfl rfl rfl ?_; apply Exists.intro; refine ⟨fun s1 bs1 w1 hb1 hw1 => ?_, ?_⟩); (have hc1 := HR.out s1 bs1 w1 hw1; go_simp; exact growUpon_ok rfl); (refine wpThr_at (by (simp only [Act.put, List.setIfInBounds_toArray, List.set_cons_succ, List.set_cons_zero]) <;> exact rfl) ?_))
    refine wpThr_nil ?_
    rintro w6 ⟨F6, ha6, hf6, _⟩
    obtain ⟨rb6, rf6, q6, rfl, hb6⟩ := bs_of ha6
    simp only at hb6
    have hbk6 := HX5.out.fr hf6 (HBK5.out)
    have H6 := Lib.hid (And.intro hb6 (And.intro (hf6.block H5.out.2.1 H5.out.2.2) (And.intro (hf6.out (Array.getElem?_eq_some_iff.1 H5.out.2.1).1 H5.out.2.2) (And.intro hbk6 (hf6.out HX5.out.lt HBK5.out)))))
    clear ha6 hf6 hb6 HR HREFD HREF hlt5 H5 H4 hbk6
    go_upto_region 11 with fail
    have hkm : kn.leaves = X.many := by rw [← HKN.out]; exact HG.out.2.1.knot.2.2.1
    have hok := HG.out.2.1.ok HIV.out.wf
    have hbd := T.bounds hok
    have hmz : X.many ≤ 1000 := by have := HG.out.2.2.2.2.2.1; omega
    have hcost := cost_ok hok HG.out.2.2.2.1 HRP.out.2.2.2.1 (by omega)
    obtain ⟨mm, hmm⟩ : ∃ mm : Nat, X.many = mm := ⟨X.many.toNat, by omega⟩
    have hdg : digits 64 (X.many + 2).toNat = digits 64 (mm + 2) := by rw [hmm]; rfl
    have hle := digits_le 64 (mm + 2)
    have HDG := Lib.hid (fun w' => eq_below (digits_any (mm + 2) (by omega) w'))
    rw [hdg] at hcost
    generalize digits 64 (mm + 2) = dg at HDG hcost hle
    push_cast at HDG
    have HKNS := Lib.hid (fun w' (hb : Below w6.heap.size w6 w') => eq_below (rknots_any gs gb ga rb6 rf6 q6 S2 ks2 w' (H6.out.1.below hb).st))
    have HNM := Lib.hid (fun w' (hb : Below w6.heap.size w6 w') => eq_below (number_any w' w0 b gs gb ga rb6 rf6 q6 Tv Lv ⟨S2, ks2, s.Ts, s.Ls⟩ i (H6.out.1.below hb) hlen hr1))
    simp only [HT.out] at HNM
    have c0 := Bw.cell H6.out.1.lt H6.out.1.c.1
    have hltb := Bw.lt H6.out.1.lt
    have d2 := Bw.cell (o := 2) (Array.getElem?_eq_some_iff.1 H6.out.2.1).1 (cell_of_row w6 bd 2 _ _ (0, 0) H6.out.2.1)
    have d3 := Bw.cell (o := 3) (Array.getElem?_eq_some_iff.1 H6.out.2.1).1 (cell_of_row w6 bd 3 _ _ (0, 0) H6.out.2.1)
    have hltd := Bw.lt (Array.getElem?_eq_some_iff.1 H6.out.2.1).1
    have k5 := Bw.cell (v := some (.int .i64 mm)) H6.out.2.2.2.1.lt (by rw [H6.out.2.2.2.1.c5, hkm, hmm])
    have hltk := Bw.lt H6.out.2.2.2.1.lt
    simp at d2 d3
    have hk2 : ks2.length ≤ 2000000 := by
      have := HRP.out.2.2.2.1
      omega
    have hmm' : (mm : Int) ≤ 1000 := by omega
    have hle' : (dg : Int) ≤ 64 := by omega
    have hk2' : (ks2.length : Int) ≤ 2000000 := by omega
    have hks' : (s.ks.length : Int) ≤ 1000000 := by omega
    have hcs : (ks2.length : Int) - s.ks.length ≤ 64 * dg := by omega
    clear hkm hok hbd hmz hcost hdg hmm
    go_cut [132] (fun v wx => v = .bool false ∧ Below w6.heap.size w6 wx)
    case first =>
     by_cases hdel : del = 0
     · subst hdel
       by_cases hx0 : x.size = 0
       · obtain ⟨rfl, hN0⟩ := HRP.out.2.2.2.2 ⟨rfl, hx0⟩
         have hlq : ks2.length = s.ks.length := by omega
         obtain rfl : x = ⟨#[]⟩ := empty_of_size hx0
         rw [hlq] at HKNS
         refine wp_region_wd (fun w' => Below w6.heap.size w6 w') (by kernel_rfl) (by kernel_rfl) (Bw.start w6) ?_
         repeat (go_big_quiet_step (first | exact Bw.call (HKNS.out _ (Wd.h _)) | exact Bw.call (HNM.out _ (Wd.h _)) | exact Bw.call (HDG.out _)))
         refine wpQuiet_nil ?_
         rintro _ ⟨⟨w7, hb7⟩, rfl⟩
         have HB7 := Lib.hid hb7
         clear hb7
         go_wp2_with fail
         go_meet
         exact ⟨by first | rfl | (simp; omega), HB7.out⟩
       · have hemp : x.toList.isEmpty = false := by
           rw [Lib.toList_data, List.isEmpty_eq_false_iff]
           exact fun e => hx0 (by rw [show x.size = x.data.toList.length from rfl, e]; rfl)
         refine wp_region_wd (fun w' => Below w6.heap.size w6 w') (by kernel_rfl) (by kernel_rfl) (Bw.start w6) ?_
         repeat (go_big_quiet_step (first | exact Bw.call (HKNS.out _ (Wd.h _)) | exact Bw.call (HNM.out _ (Wd.h _)) | exact Bw.call (HDG.out _)))
         refine wpQuiet_nil ?_
         rintro _ ⟨⟨w7, hb7⟩, rfl⟩
         have HB7 := Lib.hid hb7
         clear hb7
         go_wp2_with fail
         go_meet
         exact ⟨by first | rfl | (simp; omega), HB7.out⟩
     · have hd0 : (del == 0) = false := by simp [hdel]
       refine wp_region_wd (fun w' => Below w6.heap.size w6 w') (by kernel_rfl) (by kernel_rfl) (Bw.start w6) ?_
       repeat (go_big_quiet_step (first | exact Bw.call (HKNS.out _ (Wd.h _)) | exact Bw.call (HNM.out _ (Wd.h _)) | exact Bw.call (HDG.out _)))
       refine wpQuiet_nil ?_
       rintro _ ⟨⟨w7, hb7⟩, rfl⟩
       have HB7 := Lib.hid hb7
       clear hb7
       go_wp2_with fail
       go_meet
       exact ⟨by first | rfl | (simp; omega), HB7.out⟩
    case rest =>
    obtain ⟨rfl, hbw7⟩ := hcut
    have H7 := Lib.hid (H6.out.1.below hbw7)
    clear hbw7 H6 HX5 HBK5 HBK HDG HKNS HNM d2 d3 k5 hltd hltk hcs hle' hmm' hle
    obtain ⟨c0, c1, c2⟩ := H7.out.c
    have hltb := H7.out.lt
    have f1 : wc.frozen? ⟨b, 1, none⟩ = false := by simp [World.frozen?, H7.out.blk]
    have hb0 : w0.heap.size ≤ wc.heap.size := H7.out.bl.size
    obtain ⟨i0, hi, hz0, hz1, hz2⟩ := info_parts int_info
    obtain ⟨A7, k7, rfl, _, _⟩ := SlAt.of_own H7.out.tr
    go_wp2_with (at_builtin; refine wpList_append_lies _ rfl _ _ 23 rfl w0.heap.size 3 i0 (.int .i64 0) 1 8 Try.underlying23 hi hz0 hz1 hz2 rfl (by decide) (.slice A7 s.Ts.length k7) s.Ts.length (s.Ts.map (Value.int .i64)) rfl (World.ownsRow.alloc H7.out.tr _) ⟨wc.heap.size, 0, none⟩ 1 1 [.int .i64 t2] rfl rfl (World.news_of_block (fr := (0, 0)) (heap_alloc_new wc _)) (by intro u hu; simp at hu; subst hu; rfl) (by omega) (by unfold maxLen; omega) (by omega) (by simp; omega) _ rfl ?_)
    intro g8 cap8 w9 hown8 hgrow8 hat8 hlt8
    have hb8 : Below wc.heap.size wc (wc.alloc (.cells #[.int .i64 t2] 3)) := (Below.refl _ _).alloc (Nat.le_refl _) _
    have HB8 := H7.out.below hb8
    have hk9 : w9.heap[b]? = _ := (hgrow8.block b HB8.lt (fun e => HB8.nbt e.symm)).trans HB8.blk
    have H9 := Lib.hid (BI.pushT (t := t2) H7.out hb8 rfl hown8 hgrow8 (by simpa using hat8))
    have e1 := cell_of_row w9 b 1 _ _ (0, 0) hk9
    have f9 : w9.frozen? ⟨b, 1, none⟩ = false := by simp [World.frozen?, hk9]
    have hl9 := (Array.getElem?_eq_some_iff.1 hk9).1
    clear hb8 HB8 hk9 hown8 hgrow8 hat8 hlt8 H7 c0 c1 c2 hltb f1 hi hz0 hz1 hz2
    go_upto_region 14 with fail
    generalize w9.setCell ⟨b, 1, none⟩ (.slice (some ⟨g8, 0, none⟩) (s.Ts.length + 1) cap8) = W9 at H9 ⊢
    clear e1 f9 hl9
    obtain ⟨c0, c1, c2⟩ := H9.out.c
    have hltb := H9.out.lt
    have hlL : s.Ls.length ≤ 1000000 := by have := HIV.out.len; omega
    obtain ⟨i1, ki, kz0, kz1, kz2⟩ := info_parts str_info
    obtain ⟨A9, k9, rfl, _, _⟩ := SlAt.of_own H9.out.lr
    have hb0' : w0.heap.size ≤ W9.heap.size := H9.out.bl.size
    go_wp2_with (at_builtin; refine wpList_append_lies _ rfl _ _ 35 rfl w0.heap.size 9 i1 (.string ⟨#[]⟩) 1 16 Try.underlying35 ki kz0 kz1 kz2 rfl (by decide) (.slice A9 s.Ls.length k9) s.Ls.length (s.Ls.map Value.string) rfl (World.ownsRow.alloc H9.out.lr _) ⟨W9.heap.size, 0, none⟩ 1 1 [.string y] rfl rfl (World.news_of_block (fr := (0, 0)) (heap_alloc_new W9 _)) (by intro u hu; simp at hu; subst hu; rfl) (by omega) (by unfold maxLen; omega) (by omega) (by simp; omega) _ rfl ?_)
    intro g10 cap10 w11 hown8 hgrow8 hat8 hlt8
    have hb8 : Below W9.heap.size W9 (W9.alloc (.cells #[.string y] 9)) := (Below.refl _ _).alloc (Nat.le_refl _) _
    have HB8 := H9.out.below hb8
    have hk9 : w11.heap[b]? = _ := (hgrow8.block b HB8.lt (fun e => HB8.nbl e.symm)).trans HB8.blk
    have H11 := Lib.hid (BI.pushL (t := y) H9.out hb8 rfl hown8 hgrow8 (by simpa using hat8))
    have e1 := cell_of_row w11 b 2 _ _ (0, 0) hk9
    have f9 : w11.frozen? ⟨b, 2, none⟩ = false := by simp [World.frozen?, hk9]
    have hl9 := (Array.getElem?_eq_some_iff.1 hk9).1
    clear hb8 HB8 hk9 hown8 hgrow8 hat8 hlt8 H9 c0 c1 c2 hltb ki kz0 kz1 kz2
    go_wp2_with fail
    go_ret
    have hnv : numV s.Ts i = s.Ts.getD i.toNat 0 := by unfold numV; rw [if_neg (by omega)]
    have htt : t = s.Ts.getD i.toNat 0 := by rw [← HT.out, hnv]
    have hsv := HG.out.2.2.2.2.2.2.2
    have hin : 0 ≤ at_ ∧ 0 ≤ del ∧ at_ + del ≤ X.size := by
      unfold spanV at hsv
      split at hsv <;> omega
    have hok := HG.out.2.1.ok HIV.out.wf
    have hX := HG.out.2.1
    have hrp := HRP.out.1
    rw [htt] at hX hrp
    have hi1 : i.toNat < s.Ts.length := by omega
    have hk45 : k ≤ 45 := by omega
    have hnew := Inv.deed (v := .int .i64 0) HIV.out hk45 hi1 hX HG.out.2.2.2.2.1 HG.out.2.2.2.2.2.1 HG.out.2.2.1 hok hin.1 hin.2.1 hin.2.2 hx20 hrp HY.out.symm
    exact ⟨rfl, _, _, _, _, _, _, N, M, H11.out, hnew, HRP.out.2.1, HRP.out.2.2.1⟩
end
end Go.Proofs.Ytoeamnagmehpeaa.Rp
