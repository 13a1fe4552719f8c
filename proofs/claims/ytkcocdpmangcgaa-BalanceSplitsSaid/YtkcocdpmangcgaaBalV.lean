/- Balance: the page's own leaves of a rope. -/
import Derived.Test.YtkcocdpmangcgaaBalX
import Derived.Test.YtkcocdpmangcgaaMem
import Derived.Test.YtkcocdpmangcgaaDeedD
namespace Go.Proofs.Ytkcocdpmangcgaa.Ar
set_option linter.unusedSimpArgs false
set_option linter.unusedVariables false
open Go Go.RowKit
attribute [local go_sem] lt_add1 lt_self1 size_ne size_ne' size_ne1 size_ne1'
attribute [local irreducible] wpGrow wpThr

theorem made_leaf {ks : List Knot} {w : World} {A : Option Addr} {t o n f : Int} (hm : madeAt w A ks) (ht : Is ks t (.leaf o n f)) : ∃ i b off : Nat, t = (i : Int) + 1 ∧ i < ks.length ∧ A = some ⟨b, off, none⟩ ∧ b < w.heap.size ∧
    w.cell? ⟨b, off + i * 5, none⟩ = some (.int .i64 0) ∧ w.cell? ⟨b, off + i * 5 + 1, none⟩ = some (.int .i64 0) ∧ w.cell? ⟨b, off + i * 5 + 2, none⟩ = some (.int .i64 o) ∧ w.cell? ⟨b, off + i * 5 + 3, none⟩ = some (.int .i64 n) ∧ w.cell? ⟨b, off + i * 5 + 4, none⟩ = some (.int .i64 f) := by
  cases ht with
  | leaf i ht hi hl ho hn hf =>
    obtain ⟨b, off, e, hb, f0, f1, f2, f3, f4⟩ := hm.rows hi
    obtain ⟨h1, h2, _⟩ := hl
    rw [h1] at f0
    rw [h2] at f1
    rw [ho] at f2
    rw [if_pos h1, hn] at f3
    rw [if_pos h1, hf] at f4
    exact ⟨i, b, off, ht, hi, e, hb, f0, f1, f2, f3, f4⟩
theorem made_node {ks : List Knot} {w : World} {A : Option Addr} {t : Int} {L R : T} (hm : madeAt w A ks) (ht : Is ks t (.node L R)) : ∃ i b off l r : Nat, t = (i : Int) + 1 ∧ i < ks.length ∧ A = some ⟨b, off, none⟩ ∧ b < w.heap.size ∧ Is ks ((l : Int) + 1) L ∧ Is ks ((r : Int) + 1) R ∧ l < i ∧ r < i ∧
    w.cell? ⟨b, off + i * 5, none⟩ = some (.int .i64 ((l : Int) + 1)) ∧ w.cell? ⟨b, off + i * 5 + 1, none⟩ = some (.int .i64 ((r : Int) + 1)) ∧ w.cell? ⟨b, off + i * 5 + 2, none⟩ = some (.int .i64 0) ∧ w.cell? ⟨b, off + i * 5 + 3, none⟩ = some (.int .i64 0) ∧ w.cell? ⟨b, off + i * 5 + 4, none⟩ = some (.int .i64 0) := by
  cases ht with
  | node i l r ht hi hp hL hR =>
    obtain ⟨b, off, e, hb, f0, f1, f2, f3, f4⟩ := hm.rows hi
    obtain ⟨h1, h2, hl, hr, h3, _⟩ := hp
    have hz : ¬ (ks.getD i Knot.zero).left = 0 := by omega
    rw [h1] at f0
    rw [h2] at f1
    rw [h3] at f2
    rw [if_neg hz] at f3
    rw [if_neg hz] at f4
    exact ⟨i, b, off, l, r, ht, hi, e, hb, hL, hR, hl, hr, f0, f1, f2, f3, f4⟩

theorem pieces_cells {l : List Pc} : ∀ u ∈ l.flatMap pcells, u.oneCell' = true := by
  intro u hu
  obtain ⟨p, _, hp⟩ := List.mem_flatMap.1 hu
  simp [pcells] at hp
  rcases hp with rfl | rfl <;> rfl
theorem pieces_len (X : T) : (pieces X).length = X.lv.length := by simp [pieces]
theorem pieces_node (L R : T) : pieces (.node L R) = pieces L ++ pieces R := by simp [pieces, T.lv]
theorem pcells_len (l : List Pc) : (l.flatMap pcells).length = l.length * 2 := rows_length pcells pcells_length l

set_option maxHeartbeats 400000 in
theorem rleaves_none (n cap : Nat) (A : Option Addr) (t : Int) (w : World) (h : t < 1 ∨ (n : Int) < t) (hn : n ≤ small) : Calls Try.prog 18 #[.slice A n cap, .int .i64 t] w fun e w' => e = .returned (.slice none 0 0) ∧ w = w' := by
  by_cases h1 : t < 1
  · go_enter Try.func18, Try.ntmps18
    clear h
    go_wp2
    go_ret
    exact ⟨rfl, rfl⟩
  · have h2 : (n : Int) < t := by omega
    clear h
    go_enter Try.func18, Try.ntmps18
    go_wp2
    go_ret
    exact ⟨rfl, rfl⟩

/-- a slice of pieces of one's own. -/
def Owns (w : World) (B : Nat) (v : Value) (l : List Pc) : Prop := w.ownsRow B 90 2 v l.length (l.flatMap pcells)
theorem Owns.below {w w' : World} {B : Nat} {v : Value} {l : List Pc} (h : Owns w B v l) (hb : Below w.heap.size w w') : Owns w' B v l := own_below h hb
theorem Owns.base {w : World} {B B' : Nat} {v : Value} {l : List Pc} (h : Owns w B v l) (hb : B' ≤ B) : Owns w B' v l := own_base h hb
theorem Owns.lt {w : World} {B : Nat} {v : Value} {l : List Pc} (h : Owns w B v l) {b : Nat} (hb : v.ownBlock = some b) : B ≤ b ∧ b < w.heap.size := World.ownsRow.lt h b hb
/-- one's own row as it is. -/
def stOwn (B : Nat) (v : Value) (l : List Pc) : PSt := PSt.own v (fun w => Owns w B v l) (fun h hb => h.below hb) (fun h b hb => (h.lt hb).2)
/-- two, of which the first is still to be appended to. -/
def stTwo (B : Nat) (v : Value) (l : List Pc) (v2 : Value) (l2 : List Pc) : PSt := PSt.own v (fun w => Owns w B v l ∧ Owns w B v2 l2 ∧ ∀ b, v2.ownBlock = some b → v.ownBlock ≠ some b) (fun h hb => ⟨h.1.below hb, h.2.1.below hb, h.2.2⟩) (fun h b hb => (h.1.lt hb).2)
/-- one that is only read. -/
def stRead (B : Nat) (v : Value) (l : List Pc) : PSt := PSt.of (fun w => Owns w B v l) (fun h hb => h.below hb)

theorem thr_append_first {W w : World} {bs : Made} {o : Oper} {a : Act} {b : Nat} {l : List Pc} {v : Value} {s x : Operand} (hw : (resCls resAny W (fun _ => False)).In (stRead W.heap.size v l) bs w) (hl : 0 < l.length) (hl2 : l.length ≤ 1073741824)
    (ho : o.op = .call { callee := .builtin .append, args := #[s, x], argTypes := #[30, 30] }) (hs : a.eval s = .slice (some ⟨b, 0, none⟩) 0 0) (hx : a.eval x = v) :
    thrUpon Try.prog (resCls resAny W (fun _ => False)) bs (fun u s' => s' = stOwn W.heap.size u l) w ((execOp a.eval o).run Try.prog w) := by
  refine resCls_ok hw fun F ha hf _ => ?_
  obtain ⟨hF, hv⟩ := ha
  obtain ⟨i0, hi, hz0, hz1, hz2⟩ := info_parts piece_info
  obtain ⟨g, cap, rfl, hg1, hg2⟩ := World.ownsRow.form hv hl
  obtain ⟨v', w', hr, h1, h2⟩ := run_append_arg_grows (P := Try.prog) w 30 o.type 90 i0 (.agg #[.int .i64 0, .int .i64 0]) 2 16 Try.underlying30 hi hz0 hz1 hz2 rfl (by decide) ⟨b, 0, none⟩ 0 0 [] rfl (fun j u hj => by simp at hj)
    ⟨g, 0, none⟩ l.length cap (l.flatMap pcells) (pcells_len l) (World.ownsRow.cells hv rfl) (by omega) (by unfold maxLen; omega) (by omega)
  rw [Nat.zero_add, List.nil_append] at h1
  have hsz := hf.size
  refine ⟨v', w', _, fun b => v'.ownBlock = some b, run_exec_append ho hs hx hr, rfl, ⟨fun b => Iff.rfl, own_base h1 hsz⟩, ?_⟩
  exact ⟨h2.os, h2.tape, h2.output, h2.size, fun b hb _ => h2.block b hb (by simp), fun b hb => .inr (World.ownsRow.lt h1 b hb).1⟩

theorem thr_append_next {W w : World} {bs : Made} {o : Oper} {a : Act} {l l2 : List Pc} {v v2 : Value} {s x : Operand} (hw : (resCls resAny W (fun _ => False)).In (stTwo W.heap.size v l v2 l2) bs w) (hl : 0 < l2.length) (hl2 : l.length + l2.length ≤ 1073741824)
    (ho : o.op = .call { callee := .builtin .append, args := #[s, x], argTypes := #[30, 30] }) (hs : a.eval s = v) (hx : a.eval x = v2) :
    thrUpon Try.prog (resCls resAny W (fun _ => False)) bs (fun u s' => s' = stOwn W.heap.size u (l ++ l2)) w ((execOp a.eval o).run Try.prog w) := by
  refine resCls_ok hw fun F ha hf _ => ?_
  obtain ⟨hF, hv, hv2, hne⟩ := ha
  obtain ⟨i0, hi, hz0, hz1, hz2⟩ := info_parts piece_info
  obtain ⟨g, cap, rfl, hg1, hg2⟩ := World.ownsRow.form hv2 hl
  have hsz := hf.size
  obtain ⟨q, cap2, w', hr, h1, h2, h3, h4⟩ := run_append_lies (P := Try.prog) w 30 o.type W.heap.size 90 i0 (.agg #[.int .i64 0, .int .i64 0]) 2 16 Try.underlying30 hi hz0 hz1 hz2 rfl (by decide) v l.length (l.flatMap pcells) hv
    ⟨g, 0, none⟩ l2.length cap (l2.flatMap pcells) (pcells_len l2) (World.ownsRow.cells hv2 rfl) pieces_cells hl (by unfold maxLen; omega) (by omega) hsz w.heap.size rfl
  rw [← List.length_append, ← List.flatMap_append] at h1
  refine ⟨.slice (some ⟨q, 0, none⟩) (l.length + l2.length) cap2, w', _, fun b => (Value.slice (some ⟨q, 0, none⟩) (l.length + l2.length) cap2).ownBlock = some b, run_exec_append ho hs hx hr, rfl, ⟨fun b => Iff.rfl, by rw [List.length_append] at h1; unfold Owns; rw [List.length_append]; exact h1⟩, ?_⟩
  have hfr := fr_of_grown (v' := .slice (some ⟨q, 0, none⟩) (l.length + l2.length) cap2) h2 (fun b hb => by
    simp [Value.ownBlock] at hb
    subst hb
    rcases h3 with e | e
    · exact .inl e
    · exact .inr (by omega))
  exact ⟨hfr.os, hfr.tape, hfr.output, hfr.size, fun b hb hn => hfr.keep b hb (fun e => hn ((hF b).2 e)), fun b hb => (hfr.new b hb).imp (hF b).2 id⟩

/-- what a call of Leaves leaves. -/
def LeavesP (w : World) (l : List Pc) (e : Ending) (w' : World) : Prop := ∃ v, e = .returned v ∧ Owns w' w.heap.size v l ∧ Below w.heap.size w w'

set_option maxHeartbeats 4000000 in
theorem rleaves_any (ks : List Knot) (hwf : WF ks) (hks : ks.length ≤ small) (A : Option Addr) (cap : Nat) : ∀ (m : Nat) (t : Int) (X : T), X.cnt ≤ m → Is ks t X → X.many ≤ 1000000 → ∀ w, madeAt w A ks →
    Calls Try.prog 18 #[.slice A ks.length cap, .int .i64 t] w (LeavesP w (pieces X)) := by
  intro m
  induction m with
  | zero => intro t X hm; have := T.cnt_pos X; omega
  | succ m ih =>
  intro t X hm ht hma w hw
  cases X with
  | nil =>
    have := ht.nil_
    exact (rleaves_none ks.length cap A t w (by omega) hks).mono fun e w' ⟨h1, h2⟩ => ⟨_, h1, World.ownsRow_nil _ _ _ _, h2 ▸ Below.refl _ _⟩
  | leaf o n f =>
    obtain ⟨i, b, off, rfl, hi, rfl, hb, f0, f1, f2, f3, f4⟩ := made_leaf hw ht
    unfold small at hks
    have hi1 : IntKind.i64.wrap (i : Int) = i := IntWalk.i64_in _ (by omega)
    have hi0 : (0 : Int) ≤ i := by omega
    have hi2 : (i : Int) < ks.length := by omega
    clear ht hm ih hw
    go_enter Try.func18, Try.ntmps18
    go_wp2
    go_ret
    refine ⟨.slice (some ⟨w.heap.size + 1, 0, none⟩) 1 1, rfl, ?_, by (repeat (first | exact Below.refl _ _ | assumption | (refine Below.setCell ?_ (by first | (simp; done) | (simp; omega) | omega) _) | (refine Below.alloc ?_ (by first | (simp; done) | (simp; omega) | omega) _) | (refine Below.drew ?_) | (refine Below.drewN ?_ _) | (refine Below.trans ?_ (Below.mono (by assumption) (by first | (simp; done) | (simp; omega) | omega)))))⟩
    refine ⟨rfl, .inr ⟨w.heap.size + 1, 1, #[.int .i64 o, .int .i64 n], rfl, by omega, ?_, by simp [pieces, T.lv], by unfold maxLen; omega, rfl, rfl⟩⟩
    have e : w.heap.size + 1 = (w.alloc (.cells #[.int .i64 0, .int .i64 0, .int .i64 o, .int .i64 n, .int .i64 f] 112)).heap.size := by simp
    rw [e]
    exact heap_alloc_new _ _
  | node L R =>
    have HM := Lib.hid hw
    have okX := ht.ok hwf
    obtain ⟨i, b, off, l, r, rfl, hi, rfl, hb, hI1, hI2, _, _, f0, f1, f2, f3, f4⟩ := made_node hw ht
    simp only [T.cnt] at hm
    simp only [T.many] at hma
    have bl := T.bounds okX.1
    have br := T.bounds okX.2.1
    have hil := fun w (hw : madeAt w (some ⟨b, off, none⟩) ks) => ih _ L (by omega) hI1 (by omega) w hw
    have hir := fun w (hw : madeAt w (some ⟨b, off, none⟩) ks) => ih _ R (by omega) hI2 (by omega) w hw
    have IL := Lib.hid hil
    have IR := Lib.hid hir
    have hln : 0 < (pieces L).length ∧ (pieces L).length ≤ 1000000 := by rw [pieces_len]; have := T.many_lv L; have := okX.2.2.1; omega
    have hrn : 0 < (pieces R).length ∧ (pieces R).length ≤ 1000000 := by rw [pieces_len]; have := T.many_lv R; have := okX.2.2.2.1; omega
    have HLN := Lib.hid (And.intro hln hrn)
    unfold small at hks
    have hi1 : IntKind.i64.wrap (i : Int) = i := IntWalk.i64_in _ (by omega)
    have hi0 : (0 : Int) ≤ i := by omega
    have hi2 : (i : Int) < ks.length := by omega
    have hz : ((l : Int) + 1 == 0) = false := by simp; omega
    clear ht hm ih hw hil hir okX hI1 hI2 bl br hln hrn
    rw [pieces_node]
    generalize pieces L = pL at IL HLN ⊢
    generalize pieces R = pR at IR HLN ⊢
    go_enter Try.func18, Try.ntmps18
    go_wp2_with fail
    have hb0 : Below w.heap.size w (w.alloc (.cells #[.int .i64 ((l : Int) + 1), .int .i64 ((r : Int) + 1), .int .i64 0, .int .i64 0, .int .i64 0] 112)) := (Below.refl _ _).alloc (Nat.le_refl _) _
    have hk : (w.alloc (.cells #[.int .i64 ((l : Int) + 1), .int .i64 ((r : Int) + 1), .int .i64 0, .int .i64 0, .int .i64 0] 112)).heap[w.heap.size]? = some (.cells #[.int .i64 ((l : Int) + 1), .int .i64 ((r : Int) + 1), .int .i64 0, .int .i64 0, .int .i64 0] 112 (0, 0)) := heap_alloc_new _ _
    have HB := Lib.hid (And.intro hb0 (And.intro hk (HM.out.below hb0)))
    clear hb0 hk f0 f1 f2 f3 f4 HM
    generalize w.alloc (.cells #[.int .i64 ((l : Int) + 1), .int .i64 ((r : Int) + 1), .int .i64 0, .int .i64 0, .int .i64 0] 112) = W at HB ⊢
    have hbw : w.heap.size < W.heap.size := (Array.getElem?_eq_some_iff.1 HB.out.2.1).1
    generalize hbk : w.heap.size = bk at HB hbw ⊢
    have HR : Hid (∀ s bs w1, (resCls resAny W (fun _ => False)).In s bs w1 → w1.cell? ⟨bk, 0, none⟩ = some (.int .i64 ((l : Int) + 1)) ∧ w1.cell? ⟨bk, 1, none⟩ = some (.int .i64 ((r : Int) + 1))) := Lib.hid (fun s bs w1 hw1 =>
      ⟨(resCls_cell hw1 hbw id 0).trans (cell_of_row W bk 0 _ _ (0, 0) HB.out.2.1), (resCls_cell hw1 hbw id 1).trans (cell_of_row W bk 1 _ _ (0, 0) HB.out.2.1)⟩)
    refine wp_region_thr (resCls resAny W (fun _ => False)) (PSt.of (fun _ => True) (fun _ _ => trivial)) 12 [1, 2, 3, 6, 7, 8, 4, 0, 5, 9, 10, 11] _ (by kernel_rfl) (by kernel_rfl) (by kernel_rfl) rfl (resCls_start (R := resAny) (s := PSt.of (fun _ => True) (fun _ _ => trivial)) ⟨fun b h => h, trivial⟩) ?_
    (simp only [List.filterMap_cons, List.filterMap_nil, List.getElem?_cons_zero, List.getElem?_cons_succ, List.drop_succ_cons, List.drop_zero, List.drop_nil])
    iterate 6 ((refine wpThr_val rfl rfl rfl ?_; apply Exists.intro; refine ⟨fun s1 bs1 w1 hb1 hw1 => ?_, ?_⟩); (have hc1 := HR.out s1 bs1 w1 hw1; go_simp; exact growUpon_ok rfl); (refine wpThr_at (by (simp only [Act.put, List.setIfInBounds_toArray, List.set_cons_succ, List.set_cons_zero]) <;> exact rfl) ?_))
    refine wpThr_call (fun v s' => s' = stRead W.heap.size v pL) rfl rfl rfl ?_ ?_
    · intro bs1 w1 hb1 hw1
      go_simp
      refine resCls_run hw1 fun F ha hf => ?_
      have hbel := resCls_below (fun _ h => h) hw1
      exact (IL.out w1 (HB.out.2.2.below hbel)).mono fun e w' ⟨v, he, ho, hb'⟩ => ⟨v, _, fun _ => False, he, rfl, ⟨fun _ h => h, ho.base hbel.size⟩, hb'.os, hb'.tape, hb'.output, hb'.size, fun b hb _ => hb'.block b hb, fun b h => h.elim⟩
    rintro v1 s1 rfl
    (refine wpThr_at (by (simp only [Act.put, List.setIfInBounds_toArray, List.set_cons_succ, List.set_cons_zero]) <;> exact rfl) ?_)
    obtain ⟨i0, hi0', _, _, _⟩ := info_parts piece_info
    refine wpThr_empty (e := 90) (i := i0) rfl rfl rfl Try.underlying30 hi0' (fun b0 hb0 hf0 => ?_)
    (refine wpThr_at (by (simp only [Act.put, List.setIfInBounds_toArray, List.set_cons_succ, List.set_cons_zero]) <;> exact rfl) ?_)
    refine wpThr_call (fun v s' => s' = stOwn W.heap.size v pL) rfl rfl rfl ?_ ?_
    · intro bs1 w1 hb1 hw1
      exact thr_append_first hw1 HLN.out.1.1 (by have := HLN.out.1.2; omega) rfl rfl rfl
    rintro v2 s2 rfl
    (refine wpThr_at (by (simp only [Act.put, List.setIfInBounds_toArray, List.set_cons_succ, List.set_cons_zero]) <;> exact rfl) ?_)
    refine wpThr_call (fun v s' => s' = stTwo W.heap.size v2 pL v pR) rfl rfl rfl ?_ ?_
    · intro bs1 w1 hb1 hw1
      go_simp
      have hbel := resCls_below (fun _ h => h) hw1
      refine resCls_run hw1 fun F ha hf => ?_
      obtain ⟨hF, hv2⟩ := ha
      exact (IR.out w1 (HB.out.2.2.below hbel)).mono fun e w' ⟨v, he, ho, hb'⟩ => ⟨v, _, F, he, rfl, ⟨hF, hv2.below hb', ho.base hbel.size, fun c hc e => by
        have h1 := (hv2.lt e).2
        have h2 := (ho.lt hc).1
        omega⟩, Fr.of_below hb'⟩
    rintro v3 s3 rfl
    (refine wpThr_at (by (simp only [Act.put, List.setIfInBounds_toArray, List.set_cons_succ, List.set_cons_zero]) <;> exact rfl) ?_)
    refine wpThr_call (fun v s' => s' = stOwn W.heap.size v (pL ++ pR)) rfl rfl rfl ?_ ?_
    · intro bs1 w1 hb1 hw1
      exact thr_append_next hw1 HLN.out.2.1 (by have := HLN.out.1.2; have := HLN.out.2.2; omega) rfl rfl rfl
    rintro v4 s4 rfl
    (refine wpThr_at (by (simp only [Act.put, List.setIfInBounds_toArray, List.set_cons_succ, List.set_cons_zero]) <;> exact rfl) ?_)
    ((refine wpThr_val rfl rfl rfl ?_; apply Exists.intro; refine ⟨fun s1 bs1 w1 hb1 hw1 => ?_, ?_⟩); (have hc1 := HR.out s1 bs1 w1 hw1; go_simp; exact growUpon_ok rfl); (refine wpThr_at (by (simp only [Act.put, List.setIfInBounds_toArray, List.set_cons_succ, List.set_cons_zero]) <;> exact rfl) ?_))
    refine wpThr_nil ?_
    intro w5 hw5
    have hbel := resCls_below (fun _ h => h) hw5
    obtain ⟨F5, ⟨_, ho5⟩, _, _⟩ := hw5
    have HE := Lib.hid (And.intro ho5 hbel)
    clear ho5 hbel HR
    go_wp2
    go_ret
    subst hbk
    exact ⟨_, rfl, HE.out.1.base HB.out.1.size, HB.out.1.trans (HE.out.2.mono HB.out.1.size)⟩
end Go.Proofs.Ytkcocdpmangcgaa.Ar
