
/- Balance: Leaves and Balanced. -/
import Derived.Test.YtkcocdpmangcgaaBalW
namespace Go.Proofs.Ytkcocdpmangcgaa.Ar
set_option linter.unusedSimpArgs false
set_option linter.unusedVariables false
open Go Go.RowKit
attribute [local go_sem] lt_add1 lt_self1 size_ne size_ne' size_ne1 size_ne1'
attribute [local irreducible] wpGrow wpThr

abbrev Pc := Int × Int
def pcells (p : Pc) : List Value := [.int .i64 p.1, .int .i64 p.2]
theorem pcells_length (p : Pc) : (pcells p).length = 2 := rfl
theorem piece_info : (Try.prog.info? 90).map (fun i => (i.zero, i.size, i.bytes)) = some (some (.agg #[.int .i64 0, .int .i64 0]), 2, 16) := by kernel_rfl

/-- a captured slice of pieces, of the call's own, beside an arena. -/
structure OutAt (B g : Nat) (q : Option Nat) (ks : List Knot) (bo : Nat) (v : Value) (w : World) (s : List Pc) : Prop where
  blk : w.heap[bo]? = some (.cells #[v] 30 (0, 0))
  own : w.ownsRow B 90 2 v s.length (s.flatMap pcells)
  ne : v.ownBlock ≠ some bo
  ar : Arena w g q ks
  apart : ∀ b, foot g q b → b ≠ bo ∧ v.ownBlock ≠ some b
  lo : B ≤ bo
section
variable {B g : Nat} {q : Option Nat} {ks : List Knot} {bo : Nat} {v : Value} {w w' : World} {s : List Pc}
theorem OutAt.below (h : OutAt B g q ks bo v w s) (hb : Below w.heap.size w w') : OutAt B g q ks bo v w' s :=
  ⟨(hb.block bo (Array.getElem?_eq_some_iff.1 h.blk).1).trans h.blk, own_below h.own hb, h.ne, h.ar.below hb, h.apart, h.lo⟩
theorem OutAt.app {w3 : World} {O : Obj} {q2 cap : Nat} {p : Pc} (h : OutAt B g q ks bo v w s) (hg : (w.alloc O).grownBy w3 v.ownBlock) (hown : w3.ownsRow B 90 2 (.slice (some ⟨q2, 0, none⟩) (s.length + 1) cap) (s.length + 1) (s.flatMap pcells ++ pcells p)) (hat : v.ownBlock = some q2 ∨ q2 = w.heap.size + 1) :
    OutAt B g q ks bo (.slice (some ⟨q2, 0, none⟩) (s.length + 1) cap) (w3.setCell ⟨bo, 0, none⟩ (.slice (some ⟨q2, 0, none⟩) (s.length + 1) cap)) (s ++ [p]) ∧
    Fr w (fun b => b = bo ∨ v.ownBlock = some b) (w3.setCell ⟨bo, 0, none⟩ (.slice (some ⟨q2, 0, none⟩) (s.length + 1) cap)) (fun b => b = bo ∨ (Value.slice (some ⟨q2, 0, none⟩) (s.length + 1) cap).ownBlock = some b) := by
  have hbo := (Array.getElem?_eq_some_iff.1 h.blk).1
  have hXs : (w.alloc O).heap.size = w.heap.size + 1 := by show (w.heap.push O).size = _; simp
  have old : ∀ b, b < w.heap.size → v.ownBlock ≠ some b → w3.heap[b]? = w.heap[b]? := fun b hb hn => (hg.block b (by omega) (fun e => hn e.symm)).trans (Below.heap_alloc w O b hb)
  have hq : q2 ≠ bo := fun e => by
    subst e
    rcases hat with e | e
    · exact h.ne e
    · omega
  have hlt : ∀ b, foot g q b → b < w.heap.size := fun b hb => hb.elim (fun e => e ▸ h.ar.lt) (fun e => h.ar.row_lt e)
  have hfr : Fr w (fun b => b = bo ∨ v.ownBlock = some b) (w3.setCell ⟨bo, 0, none⟩ (.slice (some ⟨q2, 0, none⟩) (s.length + 1) cap)) (fun b => b = bo ∨ (Value.slice (some ⟨q2, 0, none⟩) (s.length + 1) cap).ownBlock = some b) := by
    refine ⟨hg.os, hg.tape, hg.output, ?_, fun b hb hn => ?_, fun b hb => ?_⟩
    · have := hg.size; simp only [World.setCell, Array.size_modify]; omega
    · rw [Below.heap_setCell _ _ _ _ (fun e => hn (.inl e))]
      exact old b hb (fun e => hn (.inr e))
    · rcases hb with rfl | hb
      · exact .inl (.inl rfl)
      · simp [Value.ownBlock] at hb
        subst hb
        rcases hat with e | e
        · exact .inl (.inr e)
        · exact .inr (by omega)
  refine ⟨⟨?_, ?_, ?_, h.ar.keep hfr (fun b hb hf => ?_), fun b hb => ⟨(h.apart b hb).1, fun e => ?_⟩, h.lo⟩, hfr⟩
  · have h1 := (old bo hbo h.ne).trans h.blk
    simp [World.setCell, Array.getElem?_modify, h1]
  · rw [List.length_append, List.flatMap_append, List.flatMap_cons, List.flatMap_nil, List.append_nil]
    exact own_setCell hown (by simp [Value.ownBlock]; exact hq) _
  · simp [Value.ownBlock]; exact hq
  · rcases hf with e | e
    · exact (h.apart b hb).1 e
    · exact (h.apart b hb).2 e
  · simp [Value.ownBlock] at e
    subst e
    rcases hat with e | e
    · exact (h.apart _ hb).2 e
    · have := hlt _ hb; omega
end
def resOut (B g : Nat) (q : Option Nat) (ks : List Knot) (bo : Nat) : Res (List Pc) where
  at_ := fun w F s => ∃ v, F = (fun b => b = bo ∨ v.ownBlock = some b) ∧ OutAt B g q ks bo v w s
  below := fun h hb => by obtain ⟨v, e, h⟩ := h; exact ⟨v, e, h.below hb⟩
  lt := fun ⟨v, e, h⟩ b hb => by
    subst e
    rcases hb with rfl | e
    · exact (Array.getElem?_eq_some_iff.1 h.blk).1
    · exact (h.own.lt b e).2

theorem resOut_at {B g : Nat} {q : Option Nat} {ks : List Knot} {bo : Nat} {v : Value} {w : World} {s : List Pc} (h : OutAt B g q ks bo v w s) : (resOut B g q ks bo).at_ w (fun b => b = bo ∨ v.ownBlock = some b) s := ⟨v, rfl, h⟩

def stepL (s : List Pc) (X : T) : List Pc := match X with | .leaf o n _ => s ++ [(o, n)] | _ => s
theorem fold_stepL (X : T) : ∀ s, X.fold stepL s = s ++ X.lv.map (fun p => (p.1, p.2.1)) := by
  induction X with
  | nil => intro s; simp [T.fold, T.lv]
  | leaf o n f => intro s; simp [T.fold, T.lv, stepL]
  | node l r hl hr => intro s; simp [T.fold, T.lv, hl, hr, stepL]
def preL (s : List Pc) (_ : T) : Prop := s.length + 1 ≤ small
theorem pre_stepL (X : T) : ∀ s : List Pc, (s.length : Int) + X.many + 1 ≤ 1073741824 → X.ok → X.pre stepL preL s := by
  induction X with
  | nil => intro s _ _; trivial
  | leaf o n f => intro s h _; simp only [T.many] at h; show s.length + 1 ≤ small; unfold small; omega
  | node l r hl hr =>
    intro s h hok
    have bl := T.bounds hok.1
    have br := T.bounds hok.2.1
    simp only [T.many] at h
    have e1 : (l.fold stepL s).length = s.length + l.lv.length := by rw [fold_stepL]; simp
    have e2 : (r.fold stepL (l.fold stepL s)).length = s.length + l.lv.length + r.lv.length := by rw [fold_stepL, List.length_append, e1]; simp
    have m1 := T.many_lv l
    have m2 := T.many_lv r
    refine ⟨hl s (by omega) hok.1, hr _ (by rw [e1]; omega) hok.2.1, ?_⟩
    show (r.fold stepL (l.fold stepL s)).length + 1 ≤ small
    unfold small
    omega

set_option maxHeartbeats 1000000 in
theorem leaves_clo (B g : Nat) (q : Option Nat) (ks : List Knot) (bo : Nat) (t : Int) (X : T) (s : List Pc) (ht : Is ks t X) (h0 : 0 < X.size) (hp : preL s X) :
    Does Try.prog (resOut B g q ks bo) 67 (#[(getK ks t).val] ++ #[.pointer (some ⟨bo, 0, none⟩)]) s (fun v s' => v = .tuple #[] ∧ s' = stepL s X) := by
  rintro w F ⟨v, rfl, ha⟩
  obtain ⟨i0, hi, hz0, hz1, hz2⟩ := info_parts piece_info
  have hbo := (Array.getElem?_eq_some_iff.1 ha.blk).1
  have HA := Lib.hid ha
  cases X with
  | nil => simp [T.size] at h0
  | leaf o n f =>
    rw [ht.leaf_.1]
    unfold Knot.val leafK
    simp only
    clear ht h0 ha
    obtain ⟨A, c, rfl, hc, _⟩ := SlAt.of_own HA.out.own
    have hb0 : Below w.heap.size w (w.alloc (.cells #[.int .i64 0, .int .i64 0, .int .i64 o, .int .i64 n, .int .i64 1, .int .i64 1, .int .i64 f] 66)) := (Below.refl _ _).alloc (Nat.le_refl _) _
    have hk0 : blkK (w.alloc (.cells #[.int .i64 0, .int .i64 0, .int .i64 o, .int .i64 n, .int .i64 1, .int .i64 1, .int .i64 f] 66)) w.heap.size (leafK o n f) := heap_alloc_new _ _
    have hp0 : s.length ≤ 1073741824 := by unfold preL small at hp; omega
    have hsz : w.heap.size < (w.alloc (.cells #[.int .i64 0, .int .i64 0, .int .i64 o, .int .i64 n, .int .i64 1, .int .i64 1, .int .i64 f] 66)).heap.size := by simp
    have HW := Lib.hid (And.intro (HA.out.below hb0) (And.intro hk0 hb0))
    have hBw : B ≤ w.heap.size := by have := HA.out.lo; omega
    clear hb0 hk0 hp
    go_enter Try.func67, Try.ntmps67
    go_upto_region 2 with fail
    generalize w.alloc (.cells #[.int .i64 0, .int .i64 0, .int .i64 o, .int .i64 n, .int .i64 1, .int .i64 1, .int .i64 f] 66) = W at HW hsz ⊢
    have hboW : bo < W.heap.size := by omega
    have c0 : W.cell? ⟨bo, 0, none⟩ = some (.slice A s.length c) := cell_of_row W bo 0 _ _ (0, 0) HW.out.1.blk
    have f0 : W.frozen? ⟨bo, 0, none⟩ = false := by simp [World.frozen?, HW.out.1.blk]
    have k2 := HW.out.2.1.c2
    have k3 := HW.out.2.1.c3
    simp only [leafK] at k2 k3
    go_wp2_with (at_builtin; refine wpList_append_lies _ rfl _ _ 30 rfl B 90 i0 (.agg #[.int .i64 0, .int .i64 0]) 2 16 Try.underlying30 hi hz0 hz1 hz2 rfl (by decide) (.slice A s.length c) s.length (s.flatMap pcells) rfl (HW.out.1.own.alloc _) ⟨W.heap.size, 0, none⟩ 1 1 (pcells (o, n)) rfl rfl (World.news_of_block (fr := (0, 0)) (heap_alloc_new W _)) (by intro u hu; simp [pcells] at hu; rcases hu with rfl | rfl <;> rfl) (by omega) (by unfold maxLen; omega) (by omega) (by simp; omega) _ rfl ?_; intro q2 cap2 w3 hown3 hgrow hat hlt3; have hcg : w3.cell? ⟨bo, 0, none⟩ = some (.slice A s.length c) := hgrow.cell (a := ⟨bo, 0, none⟩) (by simp [go_sem, hboW, c0]) (fun e => HW.out.1.ne e.symm); have hfg : w3.frozen? ⟨bo, 0, none⟩ = false := (World.frozen?_of_block (a := ⟨bo, 0, none⟩) (hgrow.block bo (by simp; omega) (fun e => HW.out.1.ne e.symm))).trans (by simp [go_sem, hboW, f0]))
    obtain ⟨h5, h6⟩ := OutAt.app (p := (o, n)) HW.out.1 hgrow hown3 (by simpa using hat)
    have HE := Lib.hid (And.intro h5 h6)
    clear h5 h6 hgrow hown3 hat hcg hfg
    go_end0
    exact ⟨_, s ++ [(o, n)], _, rfl, ⟨rfl, rfl⟩, ⟨_, rfl, HE.out.1⟩, (Fr.of_below HW.out.2.2).trans HE.out.2⟩
  | node L R =>
    obtain ⟨l', r', e1, e2, _, _, _, _, _, _, gk⟩ := ht.node_
    rw [gk]
    unfold Knot.val
    simp only
    have hz : (l' == 0) = false := by simp; omega
    clear ht h0 ha gk
    go_enter Try.func67, Try.ntmps67
    go_wp2
    go_end0
    exact ⟨_, s, _, rfl, ⟨rfl, rfl⟩, (resOut B g q ks bo).below ⟨v, rfl, HA.out⟩ (by (repeat (first | exact Below.refl _ _ | assumption | (refine Below.setCell ?_ (by first | (simp; done) | (simp; omega) | omega) _) | (refine Below.alloc ?_ (by first | (simp; done) | (simp; omega) | omega) _) | (refine Below.drew ?_) | (refine Below.drewN ?_ _) | (refine Below.trans ?_ (Below.mono (by assumption) (by first | (simp; done) | (simp; omega) | omega)))))), Fr.of_below (by (repeat (first | exact Below.refl _ _ | assumption | (refine Below.setCell ?_ (by first | (simp; done) | (simp; omega) | omega) _) | (refine Below.alloc ?_ (by first | (simp; done) | (simp; omega) | omega) _) | (refine Below.drew ?_) | (refine Below.drewN ?_ _) | (refine Below.trans ?_ (Below.mono (by assumption) (by first | (simp; done) | (simp; omega) | omega))))))⟩

def pieces (X : T) : List Pc := X.lv.map fun p => (p.1, p.2.1)

set_option maxHeartbeats 1000000 in
theorem leaves_any_b (g : Nat) (q : Option Nat) (ks : List Knot) (t : Int) (X : T) (hw : WF ks) (ht : Is ks t X) (hks : ks.length ≤ small) (hm : X.many + 1 ≤ 1073741824) (w : World) (ha : Arena w g q ks) :
    Calls Try.prog 21 #[.pointer (some ⟨g, 0, none⟩), .int .i64 t] w fun e w' => ∃ v, e = .returned v ∧ w'.ownsRow w.heap.size 90 2 v (pieces X).length ((pieces X).flatMap pcells) ∧ Below w.heap.size w w' := by
  have hg := ha.lt
  have eg : ∀ args w, (callFunc 67 args).run Try.prog w = .ok (.enter 67 args) w := enters_of Try.func67 (by kernel_rfl) rfl
  have hb0 : Below w.heap.size w (w.alloc (.cells #[.slice none 0 0] 30)) := (Below.refl _ _).alloc (Nat.le_refl _) _
  have ho : OutAt w.heap.size g q ks w.heap.size (.slice none 0 0) (w.alloc (.cells #[.slice none 0 0] 30)) [] := by
    refine ⟨heap_alloc_new _ _, World.ownsRow_nil _ _ _ _, by simp [Value.ownBlock], ha.below hb0, fun b hb => ⟨fun e => ?_, by simp [Value.ownBlock]⟩, Nat.le_refl _⟩
    subst e
    rcases hb with e | e
    · omega
    · have := ha.row_lt e; omega
  have HB0 := Lib.hid (And.intro hb0 ho)
  have HP := Lib.hid (bwalk_any (resOut w.heap.size g q ks w.heap.size) g ks hw hks (fun h => by obtain ⟨v, _, h⟩ := h; exact ⟨q, h.ar⟩) 67 #[.pointer (some ⟨w.heap.size, 0, none⟩)] stepL preL eg
    (fun t X s h1 h2 h3 => leaves_clo w.heap.size g q ks w.heap.size t X s h1 h2 h3) X.cnt t X [] (Nat.le_refl _) ht (pre_stepL X [] (by simp; omega) (ht.ok hw)))
  clear hb0 ho eg ha hw ht hm
  go_enter Try.func21, Try.ntmps21
  go_wp2_with fail
  ((with_reducible refine (HP.out.run _ _ (resOut_at HB0.out.2)).mono ?_); rintro e w2 ⟨v, s2, F2, rfl, ⟨rfl, rfl⟩, ⟨v2, rfl, ho⟩, hf⟩)
  have HF : Hid (Below w.heap.size w w2) := Lib.hid (hf.below HB0.out.1 (fun b hb => by
    rcases hb with e | e
    · omega
    · simp [Value.ownBlock] at e) (HB0.out.1.size))
  have hs : T.fold stepL X [] = pieces X := by rw [fold_stepL]; rfl
  rw [hs] at ho
  have HO := Lib.hid ho
  have c0 : w2.cell? ⟨w.heap.size, 0, none⟩ = some v2 := cell_of_row w2 w.heap.size 0 _ _ (0, 0) ho.blk
  clear ho hf hs
  go_wp2
  go_ret
  exact ⟨_, rfl, HO.out.own, HF.out⟩

/-! ### Balanced -/
def stepB (s : Bool) (X : T) : Bool := match X with | .node L R => s && (decide (L.high ≤ R.high + 1) && decide (R.high ≤ L.high + 1)) | _ => s
def balB : T → Bool
  | .nil => true
  | .leaf _ _ _ => true
  | .node l r => balB l && balB r && (decide (l.high ≤ r.high + 1) && decide (r.high ≤ l.high + 1))
theorem balB_iff (X : T) : balB X = true ↔ X.bal := by
  induction X with
  | nil => simp [balB, T.bal]
  | leaf o n f => simp [balB, T.bal]
  | node l r hl hr => simp [balB, T.bal, hl, hr, and_assoc]
theorem fold_stepB (X : T) : ∀ s, X.fold stepB s = (s && balB X) := by
  induction X with
  | nil => intro s; simp [T.fold, balB]
  | leaf o n f => intro s; simp [T.fold, balB, stepB]
  | node l r hl hr => intro s; simp only [T.fold, hl, hr, stepB, balB]; simp only [Bool.and_assoc]
def preB (_ : Bool) (_ : T) : Prop := True
theorem pre_stepB (X : T) : ∀ s : Bool, X.pre stepB preB s := by
  induction X with
  | nil => intro s; trivial
  | leaf o n f => intro s; trivial
  | node l r hl hr => intro s; exact ⟨hl s, hr _, trivial⟩

structure AllAt (g : Nat) (q : Option Nat) (ks : List Knot) (bp ba : Nat) (w : World) (s : Bool) : Prop where
  all : w.heap[ba]? = some (.cells #[.bool s] 4 (0, 0))
  p : w.heap[bp]? = some (.cells #[.pointer (some ⟨g, 0, none⟩)] 24 (0, 0))
  ar : Arena w g q ks
  ne : bp ≠ ba
  apart : ¬ foot g q ba
theorem AllAt.below {g : Nat} {q : Option Nat} {ks : List Knot} {bp ba : Nat} {w w' : World} {s : Bool} (h : AllAt g q ks bp ba w s) (hb : Below w.heap.size w w') : AllAt g q ks bp ba w' s :=
  ⟨(hb.block ba (Array.getElem?_eq_some_iff.1 h.all).1).trans h.all, (hb.block bp (Array.getElem?_eq_some_iff.1 h.p).1).trans h.p, h.ar.below hb, h.ne, h.apart⟩
def resAll (g : Nat) (q : Option Nat) (ks : List Knot) (bp ba : Nat) : Res Bool where
  at_ := fun w F s => F = (fun b => b = ba) ∧ AllAt g q ks bp ba w s
  below := fun h hb => ⟨h.1, h.2.below hb⟩
  lt := fun h b hb => by
    rw [h.1] at hb
    subst hb
    exact (Array.getElem?_eq_some_iff.1 h.2.all).1
theorem AllAt.set {g : Nat} {q : Option Nat} {ks : List Knot} {bp ba : Nat} {w : World} {s : Bool} (h : AllAt g q ks bp ba w s) (s' : Bool) : AllAt g q ks bp ba (w.setCell ⟨ba, 0, none⟩ (.bool s')) s' ∧ Fr w (fun b => b = ba) (w.setCell ⟨ba, 0, none⟩ (.bool s')) (fun b => b = ba) := by
  have hfr : Fr w (fun b => b = ba) (w.setCell ⟨ba, 0, none⟩ (.bool s')) (fun b => b = ba) := ⟨rfl, rfl, rfl, by simp [World.setCell], fun b _ hn => Below.heap_setCell _ _ _ _ hn, fun b hb => .inl hb⟩
  refine ⟨⟨?_, ?_, h.ar.keep hfr (fun b hb e => h.apart (e ▸ hb)), h.ne, h.apart⟩, hfr⟩
  · simp [World.setCell, Array.getElem?_modify, h.all]
  · rw [Below.heap_setCell _ _ _ _ h.ne]; exact h.p

def allPost (w : World) (g : Nat) (q : Option Nat) (ks : List Knot) (bp ba : Nat) (r : Bool) (e : Ending) (w' : World) : Prop := ∃ v s' F', e = .returned v ∧ (v = .tuple #[] ∧ s' = r) ∧ (resAll g q ks bp ba).at_ w' F' s' ∧ Fr w (fun b => b = ba) w' F'

set_option maxHeartbeats 2000000 in
theorem balanced_clo (g : Nat) (q : Option Nat) (ks : List Knot) (bp ba : Nat) (hw : WF ks) (hks : ks.length ≤ small) (t : Int) (X : T) (s : Bool) (ht : Is ks t X) (h0 : 0 < X.size) :
    Does Try.prog (resAll g q ks bp ba) 68 (#[(getK ks t).val] ++ #[.pointer (some ⟨bp, 0, none⟩), .pointer (some ⟨ba, 0, none⟩)]) s (fun v s' => v = .tuple #[] ∧ s' = stepB s X) := by
  rintro w F ⟨rfl, ha⟩
  have HA := Lib.hid ha
  have HH := Lib.hid (fun (t : Int) w' (ha : Arena w' g q ks) => bhigh_any g q ks t w' ha hks)
  have hba := (Array.getElem?_eq_some_iff.1 ha.all).1
  have hbp := (Array.getElem?_eq_some_iff.1 ha.p).1
  -- a knot of whatever numbers
  have main : ∀ (k : Knot) (x y : Int) (d : Bool), (getK ks k.left).high = x → (getK ks k.right).high = y → 0 ≤ x → x ≤ 1099511627776 → 0 ≤ y → y ≤ 1099511627776 → d = (k.left == 0 || (decide (-1 ≤ x - y) && decide (x - y ≤ 1))) →
      Calls Try.prog 68 (#[k.val] ++ #[.pointer (some ⟨bp, 0, none⟩), .pointer (some ⟨ba, 0, none⟩)]) w (allPost w g q ks bp ba (s && d)) := by
    intro k x y d hx hy hx0 hx1 hy0 hy1 hd
    have HX := Lib.hid (And.intro hx (And.intro hy hd))
    have hb0 : Below w.heap.size w (w.alloc (.cells #[.int .i64 k.left, .int .i64 k.right, .int .i64 k.off, .int .i64 k.len, .int .i64 k.high, .int .i64 k.leaves, .int .i64 k.feeds] 66)) := (Below.refl _ _).alloc (Nat.le_refl _) _
    have hk0 : blkK (w.alloc (.cells #[.int .i64 k.left, .int .i64 k.right, .int .i64 k.off, .int .i64 k.len, .int .i64 k.high, .int .i64 k.leaves, .int .i64 k.feeds] 66)) w.heap.size k := heap_alloc_new _ _
    have HW := Lib.hid (And.intro (HA.out.below hb0) (And.intro hk0 hb0))
    have hwr : IntKind.i64.wrap (x - y) = x - y := IntWalk.i64_in _ (by omega)
    clear hx hy hd hb0 hk0 ha
    unfold Knot.val
    go_enter Try.func68, Try.ntmps68
    go_wp2_with fail
    generalize w.alloc (.cells #[.int .i64 k.left, .int .i64 k.right, .int .i64 k.off, .int .i64 k.len, .int .i64 k.high, .int .i64 k.leaves, .int .i64 k.feeds] 66) = W at HW ⊢
    have HBW := Lib.hid (Fr.of_below (F := fun b => b = ba) HW.out.2.2)
    have hbaW : ba < W.heap.size := by have := HW.out.2.2.size; omega
    have hbpW : bp < W.heap.size := by have := HW.out.2.2.size; omega
    generalize w.heap.size = bk at HW hba hbp ⊢
    have k0 := HW.out.2.1.c0
    have k1 := HW.out.2.1.c1
    have hbk := HW.out.2.1.lt
    have p0 : W.cell? ⟨bp, 0, none⟩ = some (.pointer (some ⟨g, 0, none⟩)) := cell_of_row W bp 0 _ _ (0, 0) HW.out.1.p
    refine wp_region_grow 10 (by kernel_rfl) (by kernel_rfl) ?_
    simp only [List.take_succ_cons, List.take_zero, List.drop_succ_cons, List.drop_zero, List.take_nil, List.drop_nil]
    iterate 3 ((refine wpGrow_val' rfl rfl ?_; apply Exists.intro; refine ⟨fun w1 hw1 => ?_, ?_⟩); (have hc1 := hw1.cell; go_simp; exact growUpon_ok rfl); (refine wpGrow_at (by (simp only [Act.put, List.setIfInBounds_toArray, List.set_cons_succ, List.set_cons_zero]) <;> exact rfl) ?_))
    (refine wpGrow_val' rfl rfl ?_; apply Exists.intro; refine ⟨fun w1 hw1 => ?_, ?_⟩)
    · go_simp
      have := HH.out k.left _ (HW.out.1.ar.below hw1.below)
      rw [HX.out.1] at this
      exact growUpon_call this
    (refine wpGrow_at (by (simp only [Act.put, List.setIfInBounds_toArray, List.set_cons_succ, List.set_cons_zero]) <;> exact rfl) ?_)
    iterate 3 ((refine wpGrow_val' rfl rfl ?_; apply Exists.intro; refine ⟨fun w1 hw1 => ?_, ?_⟩); (have hc1 := hw1.cell; go_simp; exact growUpon_ok rfl); (refine wpGrow_at (by (simp only [Act.put, List.setIfInBounds_toArray, List.set_cons_succ, List.set_cons_zero]) <;> exact rfl) ?_))
    (refine wpGrow_val' rfl rfl ?_; apply Exists.intro; refine ⟨fun w1 hw1 => ?_, ?_⟩)
    · go_simp
      have := HH.out k.right _ (HW.out.1.ar.below hw1.below)
      rw [HX.out.2.1] at this
      exact growUpon_call this
    (refine wpGrow_at (by (simp only [Act.put, List.setIfInBounds_toArray, List.set_cons_succ, List.set_cons_zero]) <;> exact rfl) ?_)
    iterate 2 ((refine wpGrow_val' rfl rfl ?_; apply Exists.intro; refine ⟨fun w1 hw1 => ?_, ?_⟩); (have hc1 := hw1.cell; go_simp; exact growUpon_ok rfl); (refine wpGrow_at (by (simp only [Act.put, List.setIfInBounds_toArray, List.set_cons_succ, List.set_cons_zero]) <;> exact rfl) ?_))
    refine wpGrow_nil ?_
    intro w2 hD
    have HA2 := Lib.hid (And.intro (HW.out.1.below hD.below) (And.intro (HW.out.2.1.below hD.below) (HBW.out.trans (Fr.of_below hD.below))))
    clear hD k0 k1 p0
    have hba2 := (Array.getElem?_eq_some_iff.1 HA2.out.1.all).1
    have k0 := HA2.out.2.1.c0
    have hbk2 := HA2.out.2.1.lt
    have a0 : w2.cell? ⟨ba, 0, none⟩ = some (.bool s) := cell_of_row w2 ba 0 _ _ (0, 0) HA2.out.1.all
    have af : w2.frozen? ⟨ba, 0, none⟩ = false := by simp [World.frozen?, HA2.out.1.all]
    have fin : ∀ s' : Bool, s' = (s && d) → allPost w g q ks bp ba (s && d) (Ending.returned (.tuple #[])) (w2.setCell ⟨ba, 0, none⟩ (.bool s')) := fun s' e => by
      obtain ⟨h1, h2⟩ := HA2.out.1.set s'
      exact ⟨_, s', _, rfl, ⟨rfl, e⟩, ⟨rfl, h1⟩, HA2.out.2.2.trans h2⟩
    have FIN := Lib.hid fin
    clear fin
    cases s with
    | false =>
      go_wp2
      go_end0
      exact FIN.out false (by simp)
    | true =>
      by_cases hl : k.left = 0
      · rw [hl] at k0
        have hd : d = true := by rw [HX.out.2.2]; simp [hl]
        clear hl
        go_wp2
        go_end0
        exact FIN.out true (by rw [hd]; rfl)
      · have hz : (k.left == 0) = false := by simpa using hl
        by_cases h1 : -1 ≤ x - y
        · by_cases h2 : x - y ≤ 1
          · have hd : d = true := by rw [HX.out.2.2]; simp [h1, h2]
            clear hl
            go_wp2
            go_end0
            first | exact FIN.out true (by rw [hd]; rfl) | (simp only [decide_eq_true h1, decide_eq_true h2, Bool.and_true, Bool.true_and]; exact FIN.out true (by rw [hd]; rfl))
          · have hd : d = false := by rw [HX.out.2.2]; simp [h2, hz]
            have h2' : decide (x - y ≤ 1) = false := by simpa using h2
            have HD := Lib.hid hd
            clear hl hd
            go_wp2
            go_end0
            exact FIN.out false (by rw [HD.out]; rfl)
        · have hd : d = false := by rw [HX.out.2.2]; simp [h1, hz]
          have h1' : decide (-1 ≤ x - y) = false := by simpa using h1
          have HD := Lib.hid hd
          clear hl hd
          go_wp2
          go_end0
          exact FIN.out false (by rw [HD.out]; rfl)
  have bX := T.bounds (ht.ok hw)
  cases X with
  | nil => simp [T.size] at h0
  | leaf o n f =>
    rw [ht.leaf_.1]
    have e0 : (getK ks 0).high = 0 := by simp [getK, getS, Knot.zero]
    refine (main (leafK o n f) 0 0 true e0 e0 (by omega) (by omega) (by omega) (by omega) rfl).mono ?_
    rintro e w' ⟨v, s', F', he, ⟨h1, h2⟩, h3⟩
    exact ⟨v, s', F', he, ⟨h1, by rw [h2]; simp [stepB]⟩, h3⟩
  | node L R =>
    obtain ⟨l', r', e1, e2, i1, i2, _, _, _, _, gk⟩ := ht.node_
    have okN := ht.ok hw
    have bl := T.bounds okN.1
    have br := T.bounds okN.2.1
    rw [gk]
    refine (main ⟨l', r', 0, L.size + R.size, 1 + max L.high R.high, L.many + R.many, L.feeds + R.feeds⟩ L.high R.high (decide (L.high ≤ R.high + 1) && decide (R.high ≤ L.high + 1)) i1.knot.2.1 i2.knot.2.1 (by omega) (by omega) (by omega) (by omega) ?_).mono ?_
    · have : (l' == 0) = false := by simp; omega
      simp only [this, Bool.false_or]
      rw [Bool.eq_iff_iff]
      simp only [Bool.and_eq_true, decide_eq_true_eq]
      omega
    · rintro e w' ⟨v, s', F', he, ⟨h1, h2⟩, h3⟩
      exact ⟨v, s', F', he, ⟨h1, h2⟩, h3⟩

set_option maxHeartbeats 1000000 in
theorem balanced_any (g : Nat) (q : Option Nat) (ks : List Knot) (t : Int) (X : T) (hw : WF ks) (ht : Is ks t X) (hks : ks.length ≤ small) (w : World) (ha : Arena w g q ks) :
    Calls Try.prog 22 #[.pointer (some ⟨g, 0, none⟩), .int .i64 t] w fun e w' => e = .returned (.bool (balB X)) ∧ Below w.heap.size w w' := by
  have hg := ha.lt
  have eg : ∀ args w, (callFunc 68 args).run Try.prog w = .ok (.enter 68 args) w := enters_of Try.func68 (by kernel_rfl) rfl
  have s1 := fun w' (ha : Arena w' g q ks) => size_any g q ks t w' ha hks
  rw [is_there ht] at s1
  have S1 := Lib.hid s1
  have HA := Lib.hid ha
  have HP := Lib.hid (fun bp ba => bwalk_any (resAll g q ks bp ba) g ks hw hks (fun h => ⟨q, h.2.ar⟩) 68 #[.pointer (some ⟨bp, 0, none⟩), .pointer (some ⟨ba, 0, none⟩)] stepB preB eg
    (fun t X s h1 h2 _ => balanced_clo g q ks bp ba hw hks t X s h1 h2) X.cnt t X true (Nat.le_refl _) ht (pre_stepB X true))
  generalize (getK ks t).len = z at S1
  clear eg ha hw ht s1
  go_enter Try.func22, Try.ntmps22
  go_wp2_with fail
  have hb0 : Below w.heap.size w (w.alloc (.cells #[.pointer (some ⟨g, 0, none⟩)] 24)) := (Below.refl _ _).alloc (Nat.le_refl _) _
  ((with_reducible refine (S1.out _ (HA.out.below hb0)).mono ?_); rintro e w1 ⟨rfl, hb1⟩)
  have hz1 := hb1.size
  simp at hz1
  have hp1 : w1.heap[w.heap.size]? = some (.cells #[.pointer (some ⟨g, 0, none⟩)] 24 (0, 0)) := (hb1.block _ (by simp)).trans (heap_alloc_new _ _)
  have c1 : w1.cell? ⟨w.heap.size, 0, none⟩ = some (.pointer (some ⟨g, 0, none⟩)) := cell_of_row w1 _ 0 _ _ (0, 0) hp1
  have HB1 := Lib.hid (And.intro (hb0.trans (hb1.mono hb0.size)) (And.intro hp1 ((HA.out.below hb0).below hb1)))
  clear hb0 hb1 hp1
  have hz2 : w.heap.size < w1.heap.size := by omega
  go_wp2_with fail
  have ho : AllAt g q ks w.heap.size w1.heap.size (w1.alloc (.cells #[.bool true] 4)) true := by
    have hb2 : Below w1.heap.size w1 (w1.alloc (.cells #[.bool true] 4)) := (Below.refl _ _).alloc (Nat.le_refl _) _
    refine ⟨heap_alloc_new _ _, (hb2.block _ hz2).trans HB1.out.2.1, HB1.out.2.2.below hb2, by omega, fun hf => ?_⟩
    rcases hf with e | e
    · omega
    · have := HA.out.row_lt e; omega
  have HR := Lib.hid ((HP.out w.heap.size w1.heap.size).run _ _ ⟨rfl, ho⟩)
  have HF1 := Lib.hid (HB1.out.1.alloc HB1.out.1.size (.cells #[.bool true] 4))
  clear ho
  ((with_reducible refine HR.out.mono ?_); rintro e w3 ⟨v, s3, F3, rfl, ⟨rfl, rfl⟩, ⟨rfl, h3⟩, hf3⟩)
  rw [fold_stepB, Bool.true_and] at h3
  have c3 : w3.cell? ⟨w1.heap.size, 0, none⟩ = some (.bool (balB X)) := cell_of_row w3 _ 0 _ _ (0, 0) h3.all
  have HE := Lib.hid (hf3.below HF1.out (fun b hb => by have := HB1.out.1.size; omega) HF1.out.size)
  clear h3 hf3 c1
  go_wp2
  go_ret
  exact ⟨rfl, HE.out⟩

set_option maxHeartbeats 400000 in
theorem balanced_none (g : Nat) (q : Option Nat) (ks : List Knot) (t : Int) (hb : (getB ks t || t == 0) = false) (hks : ks.length ≤ small) (w : World) (ha : Arena w g q ks) :
    Calls Try.prog 22 #[.pointer (some ⟨g, 0, none⟩), .int .i64 t] w fun e w' => e = .returned (.bool false) ∧ Below w.heap.size w w' := by
  have hg := ha.lt
  have s1 := fun w' (ha : Arena w' g q ks) => size_any g q ks t w' ha hks
  rw [hb] at s1
  have S1 := Lib.hid s1
  have HA := Lib.hid ha
  generalize (getK ks t).len = z at S1
  clear ha hb s1
  go_enter Try.func22, Try.ntmps22
  go_wp2_with fail
  have hb0 : Below w.heap.size w (w.alloc (.cells #[.pointer (some ⟨g, 0, none⟩)] 24)) := (Below.refl _ _).alloc (Nat.le_refl _) _
  ((with_reducible refine (S1.out _ (HA.out.below hb0)).mono ?_); rintro e w1 ⟨rfl, hb1⟩)
  have HB1 := Lib.hid (hb0.trans (hb1.mono hb0.size))
  clear hb0 hb1
  go_wp2
  go_ret
  exact ⟨rfl, HB1.out⟩

set_option maxHeartbeats 1000000 in
theorem leaves_none (g : Nat) (q : Option Nat) (ks : List Knot) (t : Int) (hb : getB ks t = false) (hks : ks.length ≤ small) (w : World) (ha : Arena w g q ks) :
    Calls Try.prog 21 #[.pointer (some ⟨g, 0, none⟩), .int .i64 t] w fun e w' => e = .returned (.slice none 0 0) ∧ Below w.heap.size w w' := by
  have hg := ha.lt
  have hb0 : Below w.heap.size w (w.alloc (.cells #[.slice none 0 0] 30)) := (Below.refl _ _).alloc (Nat.le_refl _) _
  have s1 := fun (fv : Value) => (show Calls Try.prog 66 #[.pointer (some ⟨g, 0, none⟩), .int .i64 t, fv] (w.alloc (.cells #[.slice none 0 0] 30)) fun e w' => e = .returned (.tuple #[]) ∧ Below (w.alloc (.cells #[.slice none 0 0] 30)).heap.size (w.alloc (.cells #[.slice none 0 0] 30)) w' from by
    have G := get_any g q ks t (w.alloc (.cells #[.slice none 0 0] 30)) (ha.below hb0) hks
    unfold Knot.val at G
    rw [hb] at G
    have G := Lib.hid G
    generalize getK ks t = k at G
    generalize w.alloc (.cells #[.slice none 0 0] 30) = W at G
    clear ha hb0 hb
    go_enter Try.func66, Try.ntmps66
    go_wp2_with fail
    ((with_reducible refine G.out.mono ?_); rintro e w1 ⟨rfl, hb1⟩)
    have HB := Lib.hid hb1
    clear hb1
    go_wp2
    refine bodyPost_ret (v := .tuple #[]) (by simp [results, Try.results66, go_sem]) rfl ?_
    exact ⟨rfl, HB.out.alloc HB.out.size _⟩)
  have S1 := Lib.hid s1
  have HB0 := Lib.hid hb0
  clear ha hb s1 hb0
  go_enter Try.func21, Try.ntmps21
  go_wp2_with fail
  ((with_reducible refine (S1.out _).mono ?_); rintro e w1 ⟨rfl, hb1⟩)
  have c1 : w1.cell? ⟨w.heap.size, 0, none⟩ = some (.slice none 0 0) := (hb1.cell (p := ⟨w.heap.size, 0, none⟩) (by simp)).trans (World.cell?_alloc_new w _ _ 0)
  have HB1 := Lib.hid (HB0.out.trans (hb1.mono HB0.out.size))
  clear hb1
  go_wp2
  go_ret
  exact ⟨rfl, HB1.out⟩
end Go.Proofs.Ytkcocdpmangcgaa.Ar
