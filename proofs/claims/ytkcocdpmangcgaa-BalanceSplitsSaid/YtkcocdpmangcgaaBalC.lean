/- Balance: the page's Cut. -/
import Derived.Test.YtkcocdpmangcgaaBalN
namespace Go.Proofs.Ytkcocdpmangcgaa.Ar
set_option linter.unusedSimpArgs false
set_option linter.unusedVariables false
open Go Go.RowKit
attribute [local go_sem] lt_add1 lt_self1 size_ne size_ne' size_ne1 size_ne1'
attribute [local irreducible] wpGrow wpThr

def cutP : List Pc → Int → List Pc × List Pc
  | [], _ => ([], [])
  | p :: ps, at_ =>
    if p.2 ≤ at_ then (p :: (cutP ps (at_ - p.2)).1, (cutP ps (at_ - p.2)).2)
    else if 0 < at_ then ([(p.1, at_)], (p.1 + at_, p.2 - at_) :: ps)
    else ([], p :: ps)
theorem cutP_cons (p : Pc) (ps : List Pc) (at_ : Int) : cutP (p :: ps) at_ = if p.2 ≤ at_ then (p :: (cutP ps (at_ - p.2)).1, (cutP ps (at_ - p.2)).2)
    else if 0 < at_ then ([(p.1, at_)], (p.1 + at_, p.2 - at_) :: ps) else ([], p :: ps) := rfl
theorem cutP_zero : ∀ {l : List Pc}, (∀ p ∈ l, 1 ≤ p.2) → cutP l 0 = ([], l)
  | [], _ => rfl
  | p :: l, h => by
    have := h p (by simp)
    rw [cutP_cons, if_neg (by omega), if_neg (by omega)]
theorem cutP_lv (f : Int → Int → Int) : ∀ (l : List Lf) (n : Int), cutP (l.map fun p => (p.1, p.2.1)) n = ((cutL f l n).1.map (fun p => (p.1, p.2.1)), (cutL f l n).2.map (fun p => (p.1, p.2.1)))
  | [], _ => rfl
  | p :: l, n => by
    rw [List.map_cons, cutP_cons, cutL_cons]
    by_cases h1 : p.2.1 ≤ n
    · simp only [if_pos h1, cutP_lv f l (n - p.2.1), List.map_cons]
    · simp only [if_neg h1]
      by_cases h2 : 0 < n
      · simp only [if_pos h2, List.map_cons, List.map_nil]
      · simp only [if_neg h2, List.map_cons, List.map_nil]
theorem cut_pieces {f : Int → Int → Int} {X A B : T} {a : Int} {n m : Nat} (h : SplitOk f X A B a n m) : cutP (pieces X) a = (pieces A, pieces B) := by
  unfold pieces
  rw [cutP_lv f]
  have e1 : A.lv = (cutL f X.lv a).1 := congrArg Prod.fst h.cut
  have e2 : B.lv = (cutL f X.lv a).2 := congrArg Prod.snd h.cut
  rw [e1, e2]
theorem drop_consP {l : List Pc} {k : Nat} (h : k < l.length) : l.drop k = l.getD k (0, 0) :: l.drop (k + 1) := by
  rw [List.drop_eq_getElem_cons h]
  simp [List.getD, h]

/-- two lists of one's own. -/
structure TwoOwn (w : World) (B : Nat) (va : Value) (la : List Pc) (vb : Value) (lb : List Pc) : Prop where
  a : Owns w B va la
  b : Owns w B vb lb
  ne : ∀ b, va.ownBlock = some b → vb.ownBlock ≠ some b
section
variable {w w' : World} {B : Nat} {va vb v' : Value} {la lb l : List Pc}
theorem TwoOwn.below (h : TwoOwn w B va la vb lb) (hb : Below w.heap.size w w') : TwoOwn w' B va la vb lb := ⟨h.a.below hb, h.b.below hb, h.ne⟩
theorem TwoOwn.swap (h : TwoOwn w B va la vb lb) : TwoOwn w B vb lb va la := ⟨h.b, h.a, fun b hb e => h.ne b e hb⟩
theorem TwoOwn.app (h : TwoOwn w B va la vb lb) (ho : Owns w' B v' l) (hg : w.grownBy w' va.ownBlock) (hat : ∀ b, v'.ownBlock = some b → va.ownBlock = some b ∨ w.heap.size ≤ b) : TwoOwn w' B v' l vb lb := by
  refine ⟨ho, World.ownsRow.kept h.b hg ?_, fun b hb e => ?_⟩
  · cases hv : vb.ownBlock with
    | none => exact .inl rfl
    | some b => exact .inr fun e => h.ne b e.symm hv
  · rcases hat b hb with e2 | e2
    · exact h.ne b e2 e
    · have := (h.b.lt e).2; omega
theorem one_own (w : World) (B : Nat) (x y : Int) (hB : B ≤ w.heap.size) : Owns (w.alloc (.cells #[.int .i64 x, .int .i64 y] 90)) B (.slice (some ⟨w.heap.size, 0, none⟩) 1 1) [(x, y)] :=
  ⟨rfl, .inr ⟨w.heap.size, 1, _, rfl, hB, heap_alloc_new w _, Nat.le_refl _, by unfold maxLen; omega, rfl, rfl⟩⟩
end

/-- what Cut hands back. -/
def CutP (w : World) (r : List Pc × List Pc) (e : Ending) (w' : World) : Prop := ∃ va vb, e = .returned (.tuple #[va, vb]) ∧ Owns w' w.heap.size va r.1 ∧ Owns w' w.heap.size vb r.2 ∧ Below w.heap.size w w'

/-- a boxed piece beside two lists. -/
structure CutAt (w0 w : World) (bp : Nat) (p : Pc) (va : Value) (la : List Pc) (vb : Value) (lb : List Pc) : Prop where
  tw : TwoOwn w w0.heap.size va la vb lb
  bl : Below w0.heap.size w0 w
  bx : w.heap[bp]? = some (.cells #[.int .i64 p.1, .int .i64 p.2] 90 (0, 0))
  na : ∀ b, va.ownBlock = some b → b ≠ bp
  nb : ∀ b, vb.ownBlock = some b → b ≠ bp
  ge : w0.heap.size ≤ bp
section
variable {w0 w w' : World} {bp : Nat} {p : Pc} {va vb v' : Value} {la lb l : List Pc}
theorem CutAt.lt (h : CutAt w0 w bp p va la vb lb) : bp < w.heap.size := (Array.getElem?_eq_some_iff.1 h.bx).1
theorem CutAt.below (h : CutAt w0 w bp p va la vb lb) (hb : Below w.heap.size w w') : CutAt w0 w' bp p va la vb lb := ⟨h.tw.below hb, h.bl.trans (hb.mono h.bl.size), (hb.block bp h.lt).trans h.bx, h.na, h.nb, h.ge⟩
theorem CutAt.start (ht : TwoOwn w w0.heap.size va la vb lb) (hb : Below w0.heap.size w0 w) (p : Pc) : CutAt w0 (w.alloc (.cells #[.int .i64 p.1, .int .i64 p.2] 90)) w.heap.size p va la vb lb := by
  have hb2 : Below w.heap.size w (w.alloc (.cells #[.int .i64 p.1, .int .i64 p.2] 90)) := (Below.refl _ _).alloc (Nat.le_refl _) _
  exact ⟨ht.below hb2, hb.trans (hb2.mono hb.size), heap_alloc_new _ _, fun b h e => by have := (ht.a.lt h).2; omega, fun b h e => by have := (ht.b.lt h).2; omega, hb.size⟩
theorem CutAt.appA (h : CutAt w0 w bp p va la vb lb) (ho : Owns w' w0.heap.size v' l) (hg : w.grownBy w' va.ownBlock) (hat : ∀ b, v'.ownBlock = some b → va.ownBlock = some b ∨ w.heap.size ≤ b) : CutAt w0 w' bp p v' l vb lb :=
  ⟨h.tw.app ho hg hat, grow_below h.bl hg h.tw.a (Nat.le_refl _) h.bl.size, (hg.block bp h.lt (fun e => h.na bp e.symm rfl)).trans h.bx, fun b hb e => (hat b hb).elim (fun e2 => h.na b e2 e) (fun e2 => by have := h.lt; omega), h.nb, h.ge⟩
theorem CutAt.swap (h : CutAt w0 w bp p va la vb lb) : CutAt w0 w bp p vb lb va la := ⟨h.tw.swap, h.bl, h.bx, h.nb, h.na, h.ge⟩
theorem CutAt.cells (h : CutAt w0 w bp p va la vb lb) : w.cell? ⟨bp, 0, none⟩ = some (.int .i64 p.1) ∧ w.cell? ⟨bp, 1, none⟩ = some (.int .i64 p.2) ∧ w.frozen? ⟨bp, 0, none⟩ = false ∧ w.frozen? ⟨bp, 1, none⟩ = false :=
  ⟨cell_of_row w bp 0 _ _ (0, 0) h.bx, cell_of_row w bp 1 _ _ (0, 0) h.bx, by simp [World.frozen?, h.bx], by simp [World.frozen?, h.bx]⟩
theorem CutAt.set (h : CutAt w0 w bp p va la vb lb) (x y : Int) : CutAt w0 ((w.setCell ⟨bp, 0, none⟩ (.int .i64 x)).setCell ⟨bp, 1, none⟩ (.int .i64 y)) bp (x, y) va la vb lb := by
  refine ⟨⟨own_setCell (own_setCell h.tw.a ?_ _) ?_ _, own_setCell (own_setCell h.tw.b ?_ _) ?_ _, h.tw.ne⟩, (h.bl.setCell h.ge _).setCell h.ge _, ?_, h.na, h.nb, h.ge⟩
  · exact fun e => h.na bp e rfl
  · exact fun e => h.na bp e rfl
  · exact fun e => h.nb bp e rfl
  · exact fun e => h.nb bp e rfl
  · simp [World.setCell, Array.getElem?_modify, h.bx]
end

set_option maxHeartbeats 8000000 in
theorem cut_walk (l : List Pc) (v : Value) (a0 : Int) (w : World) (hr : RdP w v l) (hn : l.length ≤ 1000000) (hp : ∀ p ∈ l, 1 ≤ p.2 ∧ p.2 ≤ 1099511627776 ∧ 0 ≤ p.1 ∧ p.1 ≤ 1099511627776) (ha0 : 0 ≤ a0) (ha1 : a0 ≤ 1099511627776) :
    Calls Try.prog 30 #[v, .int .i64 a0] w (CutP w (cutP l a0)) := by
  obtain ⟨A, c, rfl, hc⟩ := hr
  have HC := Lib.hid hc
  have HP := Lib.hid hp
  clear hc hp
  go_enter Try.func30, Try.ntmps30
  go_wp2
  go_loopw [1, 6, 7, 8] (fun at_ va vb i wr => ∃ (k : Nat) (x : Int) (la lb : List Pc), k ≤ l.length ∧ i = .int .i64 k ∧ at_ = .int .i64 x ∧ 0 ≤ x ∧ x ≤ 1099511627776 ∧ la.length ≤ k ∧ lb.length ≤ k ∧ TwoOwn wr w.heap.size va la vb lb ∧ Below w.heap.size w wr ∧
      cutP l a0 = (la ++ (cutP (l.drop k) x).1, lb ++ (cutP (l.drop k) x).2)) (fun _ _ _ i _ => l.length - (intOf i).toNat)
  case atStart => exact ⟨0, a0, [], [], by omega, rfl, rfl, ha0, ha1, by simp, by simp, ⟨World.ownsRow_nil _ _ _ _, World.ownsRow_nil _ _ _ _, fun b h => by simp [Value.ownBlock] at h⟩, Below.refl _ _, by simp⟩
  case round =>
    obtain ⟨k, x, la, lb, hk, rfl, rfl, hx0, hx1, hla, hlb, htw, hb, hcut⟩ := hrel
    have HT := Lib.hid (And.intro htw (And.intro hb hcut))
    clear htw hb hcut
    by_cases hlt : k < l.length
    · obtain ⟨b, off, rfl, hbb, hcs⟩ := HC.out (by omega)
      have hbr := HT.out.2.1.size
      have f0 : wr.cell? ⟨b, off + k * 2, none⟩ = some (.int .i64 (l.getD k (0, 0)).1) := (HT.out.2.1.cell (p := ⟨b, _, none⟩) hbb).trans (hcs k 0 hlt (by omega))
      have f1 : wr.cell? ⟨b, off + k * 2 + 1, none⟩ = some (.int .i64 (l.getD k (0, 0)).2) := (HT.out.2.1.cell (p := ⟨b, _, none⟩) hbb).trans (hcs k 1 hlt (by omega))
      have hpk := HP.out (l.getD k (0, 0)) (by simp [List.getD, hlt])
      have hd := drop_consP hlt
      have hpos : ∀ p ∈ l.drop (k + 1), 1 ≤ p.2 := fun p hp => (HP.out p (List.mem_of_mem_drop hp)).1
      have HD := Lib.hid (And.intro hd hpos)
      clear hcs hd hpos
      generalize hge : l.getD k (0, 0) = p at f0 f1 hpk HD
      obtain ⟨po, pn⟩ := p
      simp only at f0 f1 hpk
      obtain ⟨q1, q2, q3, q4⟩ := hpk
      clear hge
      have hk1 : (k : Int) < l.length := by omega
      have hk0 : (0 : Int) ≤ k := by omega
      have HW := Lib.hid (CutAt.start HT.out.1 HT.out.2.1 (po, pn))
      simp only at HW
      by_cases hc1 : pn ≤ x
      · go_upto_region 7 with fail
        generalize wr.alloc (.cells #[.int .i64 po, .int .i64 pn] 90) = W at HW ⊢
        generalize wr.heap.size = bp at HW ⊢
        obtain ⟨c0, c1, c2, c3⟩ := HW.out.cells
        simp only at c0 c1
        have hbw : bp < W.heap.size := HW.out.lt
        have hb2 : Below W.heap.size W (W.alloc (.cells #[.int .i64 po, .int .i64 pn] 90)) := (Below.refl _ _).alloc (Nat.le_refl _) _
        have HB2 := Lib.hid (HW.out.below hb2)
        have hsz2 : w.heap.size ≤ W.heap.size := HW.out.bl.size
        clear hb2 f0 f1
        go_wp2_with (at_builtin; refine wpList_append_pc (.tmp 24) (.tmp 26) rfl (by rfl) w.heap.size u6 (.slice (some ⟨W.heap.size, 0, none⟩) 1 1) la [(po, pn)] (by rfl) (by rfl) HB2.out.tw.a (one_own W w.heap.size po pn hsz2) HB2.out.bl.size (by simp; omega) ?_; intro v3 w3 ho3 hg3 hat3; have HB3 := Lib.hid (CutAt.appA HB2.out ho3 hg3 hat3); clear ho3 hg3 hat3; obtain ⟨d0, d1, d2, d3⟩ := HB3.out.cells; simp only at d0 d1)
        go_roundw
        case rel =>
          refine ⟨k + 1, x - pn, la ++ [(po, pn)], lb, by omega, by go_num, rfl, by omega, by omega, by simp; omega, by omega, HB3.out.tw, HB3.out.bl, ?_⟩
          have h3 := HT.out.2.2
          rw [HD.out.1, cutP_cons, if_pos hc1] at h3
          rw [h3, List.append_assoc]
          rfl
        case measure => simp [intOf]; omega
      · have hc1' : x < pn := by omega
        by_cases hx : 0 < x
        · have hs1 : IntKind.i64.wrap (po + x) = po + x := IntWalk.i64_in _ (by omega)
          have hs2 : IntKind.i64.wrap (pn - x) = pn - x := IntWalk.i64_in _ (by omega)
          go_upto_region 10 with fail
          generalize wr.alloc (.cells #[.int .i64 po, .int .i64 pn] 90) = W at HW ⊢
          generalize wr.heap.size = bp at HW ⊢
          obtain ⟨c0, c1, c2, c3⟩ := HW.out.cells
          simp only at c0 c1
          have hbw : bp < W.heap.size := HW.out.lt
          have hb2 : Below W.heap.size W (W.alloc (.cells #[.int .i64 po, .int .i64 x] 90)) := (Below.refl _ _).alloc (Nat.le_refl _) _
          have HB2 := Lib.hid (HW.out.below hb2)
          have hsz2 : w.heap.size ≤ W.heap.size := HW.out.bl.size
          clear hb2 f0 f1
          go_upto_region 11 with (at_builtin; refine wpList_append_pc (.tmp 34) (.tmp 39) rfl (by rfl) w.heap.size u6 (.slice (some ⟨W.heap.size, 0, none⟩) 1 1) la [(po, x)] (by rfl) (by rfl) HB2.out.tw.a (one_own W w.heap.size po x hsz2) HB2.out.bl.size (by simp; omega) ?_; intro v3 w3 ho3 hg3 hat3; have HB3 := Lib.hid (CutAt.appA HB2.out ho3 hg3 hat3); clear ho3 hg3 hat3; obtain ⟨d0, d1, d2, d3⟩ := HB3.out.cells; simp only at d0 d1)
          clear c0 c1 c2 c3
          have hbw3 : bp < w3.heap.size := HB3.out.lt
          go_upto_region 12 with fail
          have HB4 := Lib.hid (HB3.out.set (po + x) (pn - x))
          clear d0 d1 d2 d3 HB2 HW
          generalize (w3.setCell ⟨bp, 0, none⟩ (.int .i64 (po + x))).setCell ⟨bp, 1, none⟩ (.int .i64 (pn - x)) = w4 at HB4 ⊢
          obtain ⟨c0, c1, c2, c3⟩ := HB4.out.cells
          simp only at c0 c1
          have hb5 : Below w4.heap.size w4 (w4.alloc (.cells #[.int .i64 (po + x), .int .i64 (pn - x)] 90)) := (Below.refl _ _).alloc (Nat.le_refl _) _
          have HB5 := Lib.hid (HB4.out.swap.below hb5)
          have hsz5 : w.heap.size ≤ w4.heap.size := HB4.out.bl.size
          clear hb5
          go_wp2_with (at_builtin; refine wpList_append_pc (.tmp 50) (.tmp 52) rfl (by rfl) w.heap.size u7 (.slice (some ⟨w4.heap.size, 0, none⟩) 1 1) lb [(po + x, pn - x)] (by rfl) (by rfl) HB5.out.tw.a (one_own w4 w.heap.size (po + x) (pn - x) hsz5) HB5.out.bl.size (by simp; omega) ?_; intro v6 w6 ho6 hg6 hat6; have HB6 := Lib.hid (CutAt.appA HB5.out ho6 hg6 hat6); clear ho6 hg6 hat6)
          go_roundw
          case rel =>
            refine ⟨k + 1, 0, la ++ [(po, x)], lb ++ [(po + x, pn - x)], by omega, by go_num, rfl, by omega, by omega, by simp; omega, by simp; omega, HB6.out.tw.swap, HB6.out.bl, ?_⟩
            have h3 := HT.out.2.2
            rw [HD.out.1, cutP_cons, if_neg hc1, if_pos hx] at h3
            rw [h3, cutP_zero HD.out.2]
            simp
          case measure => simp [intOf]; omega
        · obtain rfl : x = 0 := by omega
          go_upto_region 13 with fail
          generalize wr.alloc (.cells #[.int .i64 po, .int .i64 pn] 90) = W at HW ⊢
          generalize wr.heap.size = bp at HW ⊢
          obtain ⟨c0, c1, c2, c3⟩ := HW.out.cells
          simp only at c0 c1
          have hb2 : Below W.heap.size W (W.alloc (.cells #[.int .i64 po, .int .i64 pn] 90)) := (Below.refl _ _).alloc (Nat.le_refl _) _
          have HB2 := Lib.hid (HW.out.swap.below hb2)
          have hsz2 : w.heap.size ≤ W.heap.size := HW.out.bl.size
          clear hb2 f0 f1
          go_wp2_with (at_builtin; refine wpList_append_pc (.tmp 50) (.tmp 52) rfl (by rfl) w.heap.size u7 (.slice (some ⟨W.heap.size, 0, none⟩) 1 1) lb [(po, pn)] (by rfl) (by rfl) HB2.out.tw.a (one_own W w.heap.size po pn hsz2) HB2.out.bl.size (by simp; omega) ?_; intro v6 w6 ho6 hg6 hat6; have HB6 := Lib.hid (CutAt.appA HB2.out ho6 hg6 hat6); clear ho6 hg6 hat6)
          go_roundw
          case rel =>
            refine ⟨k + 1, 0, la, lb ++ [(po, pn)], by omega, by go_num, rfl, by omega, by omega, by omega, by simp; omega, HB6.out.tw.swap, HB6.out.bl, ?_⟩
            have h3 := HT.out.2.2
            rw [HD.out.1, cutP_cons, if_neg hc1, if_neg hx] at h3
            rw [h3, cutP_zero HD.out.2]
            simp
          case measure => simp [intOf]; omega
    · go_wp2
      go_ret2
      have e : l.drop k = [] := List.drop_eq_nil_of_le (by omega)
      have h3 := HT.out.2.2
      rw [e] at h3
      simp only [cutP, List.append_nil] at h3
      exact ⟨_, _, rfl, by rw [h3]; exact HT.out.1.a, by rw [h3]; exact HT.out.1.b, HT.out.2.1⟩
end Go.Proofs.Ytkcocdpmangcgaa.Ar
