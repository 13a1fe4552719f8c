/- The arena in memory, and what its methods do: New, Len, Get, put, Leaf, Pair. -/
import Derived.Test.YtoeamnagmehpeaaProg
import Derived.Test.YtoeamnagmehpeaaMgA
import Derived.Deep.RegionHeld3
import Derived.Deep.AppendLies
import Derived.Deep.RegionLaw
import Derived.Deep.DeepCutAuto
import Derived.KernelRfl
import Derived.BigQuiet
namespace Go.Proofs.Ytoeamnagmehpeaa.Ar
set_option linter.unusedSimpArgs false
set_option linter.unusedVariables false
open Go Go.RowKit
attribute [local go_sem] lt_add1 lt_self1 size_ne size_ne' size_ne1 size_ne1'

structure Knot where
  left : Int
  right : Int
  off : Int
  len : Int
  high : Int
  leaves : Int
  feeds : Int
def Knot.zero : Knot := ⟨0, 0, 0, 0, 0, 0, 0⟩
def kcells (k : Knot) : List Value := [.int .i64 k.left, .int .i64 k.right, .int .i64 k.off, .int .i64 k.len, .int .i64 k.high, .int .i64 k.leaves, .int .i64 k.feeds]
def Knot.val (k : Knot) : Value := .agg #[.int .i64 k.left, .int .i64 k.right, .int .i64 k.off, .int .i64 k.len, .int .i64 k.high, .int .i64 k.leaves, .int .i64 k.feeds]
theorem kcells_length (k : Knot) : (kcells k).length = 7 := rfl

theorem knot_info : (Try.prog.info? 50).map (fun i => (i.zero, i.size, i.bytes)) = some (some (Knot.zero.val), 7, 56) := by kernel_rfl

/-- An arena: a struct with one field, a slice of knots of its own; r: the block in which they lie. -/
def Arena (w : World) (g : Nat) (r : Option Nat) (ks : List Knot) : Prop :=
  ∃ v, w.heap[g]? = some (.cells #[v] 186 (0, 0)) ∧ w.ownsRow 0 50 7 v ks.length (ks.flatMap kcells) ∧ v.ownBlock = r
/-- its footprint. -/
def foot (g : Nat) (r : Option Nat) (b : Nat) : Prop := b = g ∨ r = some b

section
variable {w w' : World} {g : Nat} {r : Option Nat} {ks : List Knot}
theorem Arena.lt (h : Arena w g r ks) : g < w.heap.size := by obtain ⟨v, hb, _⟩ := h; exact (Array.getElem?_eq_some_iff.1 hb).1
theorem Arena.row_lt (h : Arena w g r ks) {b : Nat} (hr : r = some b) : b < w.heap.size := by
  obtain ⟨v, _, ho, hv⟩ := h
  exact (ho.lt b (hv.trans hr)).2
theorem Arena.row_ne (h : Arena w g r ks) : r ≠ some g := by
  obtain ⟨v, hb, ho, hv⟩ := h
  rintro rfl
  rcases ho.2 with ⟨rfl, _⟩ | ⟨q, cap, cur, rfl, _, hq, _⟩
  · simp [Value.ownBlock] at hv
  · simp [Value.ownBlock] at hv
    subst hv
    rw [hq] at hb
    simp at hb
theorem Arena.keep {F F' : Nat → Prop} (h : Arena w g r ks) (hf : Fr w F w' F') (hn : ∀ b, foot g r b → ¬ F b) : Arena w' g r ks := by
  obtain ⟨v, hb, ho, hv⟩ := h
  exact ⟨v, hf.block hb (hn g (.inl rfl)), hf.own ho (fun b hb => hn b (.inr (hv.symm.trans hb))), hv⟩
theorem Arena.below (h : Arena w g r ks) (hb : Below w.heap.size w w') : Arena w' g r ks := h.keep (F := fun _ => False) (F' := fun _ => False) (Fr.of_below hb) (fun _ _ h => h)
/-- its slice, as a walk reads it. -/
theorem Arena.open_ (h : Arena w g r ks) : ∃ A c, w.cell? ⟨g, 0, none⟩ = some (.slice A ks.length c) ∧ ks.length ≤ c ∧ SlAt w w.heap.size 7 ks.length A (fun i j => (kcells (ks.getD i Knot.zero)).getD j undef) ∧ w.frozen? ⟨g, 0, none⟩ = false ∧ w.ownsRow 0 50 7 (.slice A ks.length c) ks.length (ks.flatMap kcells) ∧ (Value.slice A ks.length c).ownBlock = r := by
  obtain ⟨v, hb, ho, hv⟩ := h
  obtain ⟨A, c, rfl, hc, hs⟩ := SlAt.of_own ho
  refine ⟨A, c, cell_of_row w g 0 _ _ (0, 0) hb, hc, hs.congr fun i j hi hj => rows_getD kcells Knot.zero kcells_length ks i j hi hj, ?_, ho, hv⟩
  simp [World.frozen?, hb]
end

def small : Nat := 1073741824

set_option maxHeartbeats 400000 in
theorem new_any (w : World) : Calls Try.prog 89 #[] w fun e w' => e = .returned (.pointer (some ⟨w.heap.size, 0, none⟩)) ∧ Arena w' w.heap.size none [] ∧ Below w.heap.size w w' ∧ w'.heap.size = w.heap.size + 1 := by
  go_enter Try.func89, Try.ntmps89
  go_wp2
  go_ret
  refine ⟨rfl, ⟨.slice none 0 0, by show (w.heap.push _)[w.heap.size]? = _; simp, World.ownsRow_nil _ _ _ _, rfl⟩, by (repeat (first | exact Below.refl _ _ | assumption | (refine Below.setCell ?_ (by first | (simp; done) | (simp; omega) | omega) _) | (refine Below.alloc ?_ (by first | (simp; done) | (simp; omega) | omega) _) | (refine Below.drew ?_) | (refine Below.drewN ?_ _) | (refine Below.trans ?_ (Below.mono (by assumption) (by first | (simp; done) | (simp; omega) | omega))))), by simp⟩

set_option maxHeartbeats 400000 in
theorem len_nil (w : World) : Calls Try.prog 73 #[.pointer none] w fun e w' => e = .returned (.int .i64 0) ∧ w = w' := by
  go_enter Try.func73, Try.ntmps73
  go_wp2
  go_ret
  exact ⟨rfl, rfl⟩
set_option maxHeartbeats 400000 in
theorem len_any (g : Nat) (r : Option Nat) (ks : List Knot) (w : World) (h : Arena w g r ks) : Calls Try.prog 73 #[.pointer (some ⟨g, 0, none⟩)] w fun e w' => e = .returned (.int .i64 ks.length) ∧ w = w' := by
  obtain ⟨A, c, hc, hlc, _, _, _, _⟩ := h.open_
  go_enter Try.func73, Try.ntmps73
  go_wp2
  go_ret
  exact ⟨rfl, rfl⟩

/-- what Get tells. -/
def getS (ks : List Knot) (i : Int) : Knot × Bool := if 1 ≤ i ∧ i ≤ ks.length then (ks.getD (i - 1).toNat Knot.zero, true) else (Knot.zero, false)
def getK (ks : List Knot) (i : Int) : Knot := (getS ks i).1
def getB (ks : List Knot) (i : Int) : Bool := (getS ks i).2

set_option maxHeartbeats 400000 in
theorem get_nil (i : Int) (w : World) : Calls Try.prog 74 #[.pointer none, .int .i64 i] w fun e w' => e = .returned (.tuple #[Knot.zero.val, .bool false]) ∧ Below w.heap.size w w' := by
  go_enter Try.func74, Try.ntmps74
  by_cases h1 : i < 1
  · go_wp2
    exact bodyPost_ret (v := .tuple #[Knot.zero.val, .bool false]) (by simp [results, Try.results74, go_sem, Knot.val, Knot.zero]) rfl ⟨rfl, by (repeat (first | exact Below.refl _ _ | assumption | (refine Below.setCell ?_ (by first | (simp; done) | (simp; omega) | omega) _) | (refine Below.alloc ?_ (by first | (simp; done) | (simp; omega) | omega) _) | (refine Below.drew ?_) | (refine Below.drewN ?_ _) | (refine Below.trans ?_ (Below.mono (by assumption) (by first | (simp; done) | (simp; omega) | omega)))))⟩
  · go_wp2_with (go_at_call 73; refine (len_nil _).mono ?_; rintro e w' ⟨rfl, rfl⟩)
    exact bodyPost_ret (v := .tuple #[Knot.zero.val, .bool false]) (by simp [results, Try.results74, go_sem, Knot.val, Knot.zero]) rfl ⟨rfl, by (repeat (first | exact Below.refl _ _ | assumption | (refine Below.setCell ?_ (by first | (simp; done) | (simp; omega) | omega) _) | (refine Below.alloc ?_ (by first | (simp; done) | (simp; omega) | omega) _) | (refine Below.drew ?_) | (refine Below.drewN ?_ _) | (refine Below.trans ?_ (Below.mono (by assumption) (by first | (simp; done) | (simp; omega) | omega)))))⟩

set_option maxHeartbeats 400000 in
theorem get_any (g : Nat) (r : Option Nat) (ks : List Knot) (i : Int) (w : World) (h : Arena w g r ks) (hn : ks.length ≤ small) :
    Calls Try.prog 74 #[.pointer (some ⟨g, 0, none⟩), .int .i64 i] w fun e w' => e = .returned (.tuple #[(getK ks i).val, .bool (getB ks i)]) ∧ Below w.heap.size w w' := by
  unfold small at hn
  have hlt := h.lt
  obtain ⟨A, c, hc, hlc, hs, _, _, _⟩ := h.open_
  have HS := Lib.hid hs
  have HA := Lib.hid h
  clear h hs
  by_cases h1 : i < 1
  · have e : getS ks i = (Knot.zero, false) := by unfold getS; rw [if_neg (by omega)]
    rw [getK, getB, e]
    go_enter Try.func74, Try.ntmps74
    go_wp2
    exact bodyPost_ret (v := .tuple #[Knot.zero.val, .bool false]) (by simp [results, Try.results74, go_sem, Knot.val, Knot.zero]) rfl ⟨rfl, by (repeat (first | exact Below.refl _ _ | assumption | (refine Below.setCell ?_ (by first | (simp; done) | (simp; omega) | omega) _) | (refine Below.alloc ?_ (by first | (simp; done) | (simp; omega) | omega) _) | (refine Below.drew ?_) | (refine Below.drewN ?_ _) | (refine Below.trans ?_ (Below.mono (by assumption) (by first | (simp; done) | (simp; omega) | omega)))))⟩
  · by_cases h2 : i ≤ ks.length
    · obtain ⟨j, rfl⟩ : ∃ j : Nat, i = (j : Int) + 1 := ⟨(i - 1).toNat, by omega⟩
      have e : getS ks ((j : Int) + 1) = (ks.getD j Knot.zero, true) := by unfold getS; rw [if_pos (by omega)]; congr 2; omega
      rw [getK, getB, e]
      obtain ⟨b, off, rfl, hb, hcs⟩ := HS.out (by omega)
      have f0 : w.cell? ⟨b, off + j * 7, none⟩ = some (.int .i64 (ks.getD j Knot.zero).left) := hcs j 0 (by omega) (by omega)
      have f1 : w.cell? ⟨b, off + j * 7 + 1, none⟩ = some (.int .i64 (ks.getD j Knot.zero).right) := hcs j 1 (by omega) (by omega)
      have f2 : w.cell? ⟨b, off + j * 7 + 2, none⟩ = some (.int .i64 (ks.getD j Knot.zero).off) := hcs j 2 (by omega) (by omega)
      have f3 : w.cell? ⟨b, off + j * 7 + 3, none⟩ = some (.int .i64 (ks.getD j Knot.zero).len) := hcs j 3 (by omega) (by omega)
      have f4 : w.cell? ⟨b, off + j * 7 + 4, none⟩ = some (.int .i64 (ks.getD j Knot.zero).high) := hcs j 4 (by omega) (by omega)
      have f5 : w.cell? ⟨b, off + j * 7 + 5, none⟩ = some (.int .i64 (ks.getD j Knot.zero).leaves) := hcs j 5 (by omega) (by omega)
      have f6 : w.cell? ⟨b, off + j * 7 + 6, none⟩ = some (.int .i64 (ks.getD j Knot.zero).feeds) := hcs j 6 (by omega) (by omega)
      generalize ks.getD j Knot.zero = k at f0 f1 f2 f3 f4 f5 f6 ⊢
      have hj : j < ks.length := by omega
      clear hcs h1 e
      go_enter Try.func74, Try.ntmps74
      go_wp2_with (go_at_call 73; refine (len_any g r ks _ (HA.out.below (by (repeat (first | exact Below.refl _ _ | assumption | (refine Below.setCell ?_ (by first | (simp; done) | (simp; omega) | omega) _) | (refine Below.alloc ?_ (by first | (simp; done) | (simp; omega) | omega) _) | (refine Below.drew ?_) | (refine Below.drewN ?_ _) | (refine Below.trans ?_ (Below.mono (by assumption) (by first | (simp; done) | (simp; omega) | omega)))))))).mono ?_; rintro e w' ⟨rfl, rfl⟩)
      exact bodyPost_ret (v := .tuple #[k.val, .bool true]) (by simp [results, Try.results74, go_sem, Knot.val]) rfl ⟨rfl, by (repeat (first | exact Below.refl _ _ | assumption | (refine Below.setCell ?_ (by first | (simp; done) | (simp; omega) | omega) _) | (refine Below.alloc ?_ (by first | (simp; done) | (simp; omega) | omega) _) | (refine Below.drew ?_) | (refine Below.drewN ?_ _) | (refine Below.trans ?_ (Below.mono (by assumption) (by first | (simp; done) | (simp; omega) | omega)))))⟩
    · have e : getS ks i = (Knot.zero, false) := by unfold getS; rw [if_neg (by omega)]
      rw [getK, getB, e]
      go_enter Try.func74, Try.ntmps74
      go_wp2_with (go_at_call 73; refine (len_any g r ks _ (HA.out.below (by (repeat (first | exact Below.refl _ _ | assumption | (refine Below.setCell ?_ (by first | (simp; done) | (simp; omega) | omega) _) | (refine Below.alloc ?_ (by first | (simp; done) | (simp; omega) | omega) _) | (refine Below.drew ?_) | (refine Below.drewN ?_ _) | (refine Below.trans ?_ (Below.mono (by assumption) (by first | (simp; done) | (simp; omega) | omega)))))))).mono ?_; rintro e w' ⟨rfl, rfl⟩)
      exact bodyPost_ret (v := .tuple #[Knot.zero.val, .bool false]) (by simp [results, Try.results74, go_sem, Knot.val, Knot.zero]) rfl ⟨rfl, by (repeat (first | exact Below.refl _ _ | assumption | (refine Below.setCell ?_ (by first | (simp; done) | (simp; omega) | omega) _) | (refine Below.alloc ?_ (by first | (simp; done) | (simp; omega) | omega) _) | (refine Below.drew ?_) | (refine Below.drewN ?_ _) | (refine Below.trans ?_ (Below.mono (by assumption) (by first | (simp; done) | (simp; omega) | omega)))))⟩

theorem Knot.news (k : Knot) (w : World) (b : Nat) (fr : Nat × Nat) (h : w.heap[b]? = some (.cells #[.int .i64 k.left, .int .i64 k.right, .int .i64 k.off, .int .i64 k.len, .int .i64 k.high, .int .i64 k.leaves, .int .i64 k.feeds] 50 fr)) :
    ∀ j u, (kcells k)[j]? = some u → w.cell? ((⟨b, 0, none⟩ : Addr).add j) = some u := World.news_of_block h

theorem put_post {w W w1 : World} {g q2 n c cap : Nat} {r : Option Nat} {A : Option Addr} {ks : List Knot} {k : Knot} {O : Obj} (h : Arena w g r ks) (hB : Below w.heap.size w W) (hr : (Value.slice A n c).ownBlock = r)
    (hg : ((W.alloc O).drew).grownBy w1 (Value.slice A n c).ownBlock) (hown : w1.ownsRow 0 50 7 (.slice (some ⟨q2, 0, none⟩) (ks.length + 1) cap) (ks.length + 1) (ks.flatMap kcells ++ kcells k))
    (hat : (Value.slice A n c).ownBlock = some q2 ∨ q2 = W.heap.size + 1) :
    ∃ r', Arena (w1.setCell ⟨g, 0, none⟩ (.slice (some ⟨q2, 0, none⟩) (ks.length + 1) cap)) g r' (ks ++ [k]) ∧ Fr w (foot g r) (w1.setCell ⟨g, 0, none⟩ (.slice (some ⟨q2, 0, none⟩) (ks.length + 1) cap)) (foot g r') := by
  have hlt := h.lt
  have hne := h.row_ne
  have hsz := hB.size
  rw [hr] at hg hat
  have hW : ∀ b, b < w.heap.size → ((W.alloc O).drew).heap[b]? = w.heap[b]? := fun b hb => (Below.heap_alloc W O b (by omega)).trans (hB.block b hb)
  have hXs : ((W.alloc O).drew).heap.size = W.heap.size + 1 := by show (W.heap.push O).size = _; simp
  have hq : q2 ≠ g := by
    intro e2
    subst e2
    rcases hat with e | e
    · exact hne e
    · omega
  have old : ∀ b, b < w.heap.size → some b ≠ r → w1.heap[b]? = w.heap[b]? := fun b hb hn => (hg.block b (by omega) hn).trans (hW b hb)
  refine ⟨some q2, ⟨.slice (some ⟨q2, 0, none⟩) (ks.length + 1) cap, ?_, ?_, rfl⟩, ?_⟩
  · obtain ⟨v, hb, _, _⟩ := h
    have h1 := (old g hlt (fun e => hne e.symm)).trans hb
    simp [World.setCell, Array.getElem?_modify, h1]
  · rw [List.length_append, List.flatMap_append, List.flatMap_cons, List.flatMap_nil, List.append_nil]
    exact own_setCell hown (by simp [Value.ownBlock]; exact hq) _
  · refine ⟨hg.os.trans hB.os, hg.tape.trans hB.tape, hg.output.trans hB.output, ?_, fun b hb hn => ?_, fun b hb => ?_⟩
    · have := hg.size; simp only [World.setCell, Array.size_modify]; omega
    · rw [Below.heap_setCell _ _ _ _ (fun e => hn (.inl e))]
      exact old b hb (fun e => hn (.inr e.symm))
    · rcases hb with rfl | hb
      · exact .inl (.inl rfl)
      · rcases hat with e | e
        · exact .inl (.inr (by rw [e]; exact hb))
        · simp at hb; omega

set_option maxHeartbeats 1000000 in
theorem put_any (g : Nat) (r : Option Nat) (ks : List Knot) (k : Knot) (w : World) (h : Arena w g r ks) (hn : ks.length ≤ small) :
    Calls Try.prog 121 #[.pointer (some ⟨g, 0, none⟩), k.val] w fun e w' => ∃ r', e = .returned (.tuple #[.int .i64 (ks.length + 1 : Nat), .int .i64 0]) ∧ Arena w' g r' (ks ++ [k]) ∧ Fr w (foot g r) w' (foot g r') := by
  unfold small at hn
  obtain ⟨i0, hi, hz0, hz1, hz2⟩ := info_parts knot_info
  have hlt := h.lt
  have hrne := h.row_ne
  obtain ⟨A, c, hc, hlc, _, hf, hown, hr⟩ := h.open_
  have hown2 := (hown.alloc (.cells #[.int .i64 k.left, .int .i64 k.right, .int .i64 k.off, .int .i64 k.len, .int .i64 k.high, .int .i64 k.leaves, .int .i64 k.feeds] 50))
  have HA := Lib.hid h
  have HO := Lib.hid hown
  have HR := Lib.hid hr
  clear h hown hr
  unfold Knot.val
  go_enter Try.func121, Try.ntmps121
  go_wp2_with fail
  have hc1 : (w.alloc (.cells #[.int .i64 k.left, .int .i64 k.right, .int .i64 k.off, .int .i64 k.len, .int .i64 k.high, .int .i64 k.leaves, .int .i64 k.feeds] 50)).cell? ⟨g, 0, none⟩ = some (.slice A ks.length c) := by simp [go_sem, hlt, hc]
  have hf1 : (w.alloc (.cells #[.int .i64 k.left, .int .i64 k.right, .int .i64 k.off, .int .i64 k.len, .int .i64 k.high, .int .i64 k.leaves, .int .i64 k.feeds] 50)).frozen? ⟨g, 0, none⟩ = false := by simp [go_sem, hlt, hf]
  have hB : Below w.heap.size w (w.alloc (.cells #[.int .i64 k.left, .int .i64 k.right, .int .i64 k.off, .int .i64 k.len, .int .i64 k.high, .int .i64 k.leaves, .int .i64 k.feeds] 50)) := by (repeat (first | exact Below.refl _ _ | assumption | (refine Below.setCell ?_ (by first | (simp; done) | (simp; omega) | omega) _) | (refine Below.alloc ?_ (by first | (simp; done) | (simp; omega) | omega) _) | (refine Below.drew ?_) | (refine Below.drewN ?_ _) | (refine Below.trans ?_ (Below.mono (by assumption) (by first | (simp; done) | (simp; omega) | omega)))))
  have q0 : ∀ o, (w.alloc (.cells #[.int .i64 k.left, .int .i64 k.right, .int .i64 k.off, .int .i64 k.len, .int .i64 k.high, .int .i64 k.leaves, .int .i64 k.feeds] 50)).cell? ⟨w.heap.size, o, none⟩ = #[Value.int .i64 k.left, .int .i64 k.right, .int .i64 k.off, .int .i64 k.len, .int .i64 k.high, .int .i64 k.leaves, .int .i64 k.feeds][o]? := fun o => World.cell?_alloc_new w _ _ o
  have hq : w.heap.size < (w.alloc (.cells #[.int .i64 k.left, .int .i64 k.right, .int .i64 k.off, .int .i64 k.len, .int .i64 k.high, .int .i64 k.leaves, .int .i64 k.feeds] 50)).heap.size := by simp
  have hlt' : g < (w.alloc (.cells #[.int .i64 k.left, .int .i64 k.right, .int .i64 k.off, .int .i64 k.len, .int .i64 k.high, .int .i64 k.leaves, .int .i64 k.feeds] 50)).heap.size := by simp; omega
  generalize w.alloc (.cells #[.int .i64 k.left, .int .i64 k.right, .int .i64 k.off, .int .i64 k.len, .int .i64 k.high, .int .i64 k.leaves, .int .i64 k.feeds] 50) = W at hc1 hf1 hB q0 hq hlt' hown2 ⊢
  have p0 := q0 0
  have p1 := q0 1
  have p2 := q0 2
  have p3 := q0 3
  have p4 := q0 4
  have p5 := q0 5
  have p6 := q0 6
  simp only [List.getElem?_toArray, List.getElem?_cons_zero, List.getElem?_cons_succ] at p0 p1 p2 p3 p4 p5 p6
  have HOW := Lib.hid hown2
  have HQ := Lib.hid q0
  have HBB := Lib.hid hB
  clear hown2 q0 hc hf hB
  have hne : some g ≠ (Value.slice A ks.length c).ownBlock := by rw [HR.out]; exact fun e => hrne e.symm
  have HNE := Lib.hid hne
  clear hne
  go_region_law ((refine step_append_lies _ (by rfl) _ _ _ (by rfl) 0 50 i0 _ 7 56 Try.underlying184 hi hz0 hz1 hz2 rfl (by omega) (.slice A ks.length c) ks.length (ks.flatMap kcells) (by rfl) ((HOW.out.alloc _).drew) ⟨W.heap.size, 0, none⟩ 1 1 (kcells k) (by rfl) (by rfl) (World.news_of_block (fr := (0, 0)) (heap_alloc_new W _)) (by intro u hu; simp [kcells] at hu; rcases hu with rfl | rfl | rfl | rfl | rfl | rfl | rfl <;> rfl) (by omega) (by unfold maxLen; omega) (by omega) (by omega) (W.heap.size + 1) (by simp) ?_; intro q2 cap w1 hown1 hgrow hat hlt2; have hcg : w1.cell? ⟨g, 0, none⟩ = some (.slice A ks.length c) := hgrow.cell (a := ⟨g, 0, none⟩) (by simp [go_sem, hlt', hc1]) HNE.out; have hfg : w1.frozen? ⟨g, 0, none⟩ = false := (World.frozen?_of_block (a := ⟨g, 0, none⟩) (hgrow.block g (by simp; omega) HNE.out)).trans (by simp [go_sem, hlt', hf1])))
  all_goals
    obtain ⟨r', ha, hfr⟩ := put_post HA.out HBB.out HR.out hgrow hown1 hat
    have hc9 : (w1.setCell ⟨g, 0, none⟩ (.slice (some ⟨q2, 0, none⟩) (ks.length + 1) cap)).cell? ⟨g, 0, none⟩ = some (.slice (some ⟨q2, 0, none⟩) (ks.length + 1) cap) := by simp [go_sem, hcg]
    have HF := Lib.hid hfr
    have HA9 := Lib.hid ha
    generalize w1.setCell ⟨g, 0, none⟩ (.slice (some ⟨q2, 0, none⟩) (ks.length + 1) cap) = w9 at hc9 HF HA9 ⊢
    clear hgrow hown1 hat hcg hfg p0 p1 p2 p3 p4 p5 p6 hc1 hf1
    go_wp2
    go_ret2
    exact ⟨r', rfl, HA9.out, HF.out⟩

/-- may a leaf not be? -/
def leafBad (off n f : Int) : Bool := decide (off < 0) || decide (n < 1) || decide (1048576 < n) || decide (1099511627776 - n < off) || decide (f < 0) || decide (n < f)
def leafK (off n f : Int) : Knot := ⟨0, 0, off, n, 1, 1, f⟩

set_option maxHeartbeats 1000000 in
theorem leaf_nil (off n f : Int) (w : World) : Calls Try.prog 91 #[.pointer none, .int .i64 off, .int .i64 n, .int .i64 f] w fun e w' => e = .returned (.tuple #[.int .i64 0, .int .i64 7]) ∧ w = w' := by
  go_enter Try.func91, Try.ntmps91
  go_wp2
  go_ret2
  exact ⟨rfl, rfl⟩

set_option maxHeartbeats 1000000 in
theorem leaf_any (g : Nat) (r : Option Nat) (ks : List Knot) (off n f : Int) (w : World) (h : Arena w g r ks) (hn : ks.length ≤ small) :
    Calls Try.prog 91 #[.pointer (some ⟨g, 0, none⟩), .int .i64 off, .int .i64 n, .int .i64 f] w fun e w' =>
      (leafBad off n f = true ∧ e = .returned (.tuple #[.int .i64 0, .int .i64 1]) ∧ w = w') ∨
      (leafBad off n f = false ∧ ∃ r', e = .returned (.tuple #[.int .i64 (ks.length + 1 : Nat), .int .i64 0]) ∧ Arena w' g r' (ks ++ [leafK off n f]) ∧ Fr w (foot g r) w' (foot g r')) := by
  have HA := Lib.hid h
  have HN := Lib.hid hn
  clear h hn
  go_enter Try.func91, Try.ntmps91
  go_upto_region 3 with fail
  go_cut [13] (fun v wx => v = .bool (leafBad off n f) ∧ w = wx)
  case first =>
    by_cases h1 : off < 0
    · go_wp2_with fail
      go_meet
      exact ⟨by simp [leafBad, h1], rfl⟩
    · by_cases h2 : n < 1
      · go_wp2_with fail
        go_meet
        exact ⟨by simp [leafBad, h2], rfl⟩
      · by_cases h3 : 1048576 < n
        · go_wp2_with fail
          go_meet
          exact ⟨by simp [leafBad, h3], rfl⟩
        · by_cases h4 : 1099511627776 - n < off
          · go_wp2_with fail
            go_meet
            exact ⟨by simp [leafBad, h4], rfl⟩
          · by_cases h5 : f < 0
            · go_wp2_with fail
              go_meet
              exact ⟨by simp [leafBad, h5], rfl⟩
            · by_cases h6 : n < f
              · go_wp2_with fail
                go_meet
                exact ⟨by simp [leafBad, h6], rfl⟩
              · go_wp2_with fail
                go_meet
                exact ⟨by simp [leafBad]; omega, rfl⟩
  case rest =>
  obtain ⟨rfl, rfl⟩ := hcut
  cases hb : leafBad off n f
  · go_wp2_with (go_at_call 121; refine (put_any g r ks (leafK off n f) w HA.out HN.out).mono ?_; rintro e w' ⟨r', rfl, ha, hf⟩; (have HA2 := Lib.hid ha); (have HF := Lib.hid hf); clear ha hf)
    go_ret2
    exact .inr ⟨hb, r', rfl, HA2.out, HF.out⟩
  · go_wp2
    go_ret2
    exact .inl ⟨hb, rfl, rfl⟩

/-- two knots, one behind the other. -/
def pairK (ks : List Knot) (l r : Int) : Knot :=
  ⟨l, r, 0, wrap64 ((getK ks l).len + (getK ks r).len), wrap64 (1 + max (getK ks l).high (getK ks r).high), wrap64 ((getK ks l).leaves + (getK ks r).leaves), wrap64 ((getK ks l).feeds + (getK ks r).feeds)⟩

set_option maxHeartbeats 1000000 in
theorem pair_nil (l r : Int) (w : World) : Calls Try.prog 130 #[.pointer none, .int .i64 l, .int .i64 r] w fun e w' => e = .returned (.tuple #[.int .i64 0, .int .i64 7]) ∧ w = w' := by
  go_enter Try.func130, Try.ntmps130
  go_wp2
  go_ret2
  exact ⟨rfl, rfl⟩

theorem bx {w : World} {b : Nat} {cs : Array Value} {t : TypeId} (h : w.heap[b]? = some (.cells cs t (0, 0))) (i : Nat) : w.cell? ⟨b, i, none⟩ = cs[i]? := cell_of_row w b i cs t (0, 0) h

set_option maxRecDepth 100000 in
set_option maxHeartbeats 2000000 in
theorem pair_any (g : Nat) (q : Option Nat) (ks : List Knot) (l r : Int) (w : World) (h : Arena w g q ks) (hn : ks.length ≤ small) :
    Calls Try.prog 130 #[.pointer (some ⟨g, 0, none⟩), .int .i64 l, .int .i64 r] w fun e w' =>
      ((getB ks l && getB ks r) = false ∧ e = .returned (.tuple #[.int .i64 0, .int .i64 2]) ∧ Below w.heap.size w w') ∨
      ((getB ks l && getB ks r) = true ∧ 1099511627776 < wrap64 ((getK ks l).len + (getK ks r).len) ∧ e = .returned (.tuple #[.int .i64 0, .int .i64 4]) ∧ Below w.heap.size w w') ∨
      ((getB ks l && getB ks r) = true ∧ wrap64 ((getK ks l).len + (getK ks r).len) ≤ 1099511627776 ∧ ∃ q', e = .returned (.tuple #[.int .i64 (ks.length + 1 : Nat), .int .i64 0]) ∧ Arena w' g q' (ks ++ [pairK ks l r]) ∧ Fr w (foot g q) w' (foot g q')) := by
  have HA := Lib.hid h
  have HN := Lib.hid hn
  clear h hn
  have hpk : (pairK ks l r).val = .agg #[.int .i64 l, .int .i64 r, .int .i64 0, .int .i64 (wrap64 ((getK ks l).len + (getK ks r).len)), .int .i64 (wrap64 (1 + max (getK ks l).high (getK ks r).high)), .int .i64 (wrap64 ((getK ks l).leaves + (getK ks r).leaves)), .int .i64 (wrap64 ((getK ks l).feeds + (getK ks r).feeds))] := rfl
  have hput := fun w' (ha : Arena w' g q ks) => put_any g q ks (pairK ks l r) w' ha HN.out
  rw [hpk] at hput
  have HP := Lib.hid hput
  clear hput hpk
  have hg1 := fun w' (ha : Arena w' g q ks) => get_any g q ks l w' ha HN.out
  have hg2 := fun w' (ha : Arena w' g q ks) => get_any g q ks r w' ha HN.out
  unfold Knot.val at hg1 hg2
  generalize getK ks l = x at hg1 HP ⊢
  generalize getK ks r = y at hg2 HP ⊢
  generalize getB ks l = okl at hg1 ⊢
  generalize getB ks r = okr at hg2 ⊢
  have G1 := Lib.hid hg1
  have G2 := Lib.hid hg2
  clear hg1 hg2
  go_enter Try.func130, Try.ntmps130
  go_wp2_with fail
  refine (G1.out w HA.out).mono ?_
  rintro e w1 ⟨rfl, hb1⟩
  have HA1 := Lib.hid (HA.out.below hb1)
  go_wp2_with fail
  refine (G2.out _ (HA1.out.below (by (repeat (first | exact Below.refl _ _ | assumption | (refine Below.setCell ?_ (by first | (simp; done) | (simp; omega) | omega) _) | (refine Below.alloc ?_ (by first | (simp; done) | (simp; omega) | omega) _) | (refine Below.drew ?_) | (refine Below.drewN ?_ _) | (refine Below.trans ?_ (Below.mono (by assumption) (by first | (simp; done) | (simp; omega) | omega)))))))).mono ?_
  rintro e w2 ⟨rfl, hb2⟩
  have HA2 := Lib.hid ((HA1.out.below (by (repeat (first | exact Below.refl _ _ | assumption | (refine Below.setCell ?_ (by first | (simp; done) | (simp; omega) | omega) _) | (refine Below.alloc ?_ (by first | (simp; done) | (simp; omega) | omega) _) | (refine Below.drew ?_) | (refine Below.drewN ?_ _) | (refine Below.trans ?_ (Below.mono (by assumption) (by first | (simp; done) | (simp; omega) | omega))))))).below hb2)
  have n8 : ∀ i, w2.cell? ⟨w1.heap.size, i, none⟩ = #[Value.int .i64 x.left, .int .i64 x.right, .int .i64 x.off, .int .i64 x.len, .int .i64 x.high, .int .i64 x.leaves, .int .i64 x.feeds][i]? := fun i =>
    (hb2.cell (p := ⟨w1.heap.size, i, none⟩) (by simp)).trans (World.cell?_alloc_new w1 _ _ i)
  have hl8 : w1.heap.size < w2.heap.size := by have := hb2.size; simp at this; omega
  have HB := Lib.hid ((hb1.alloc hb1.size (.cells #[.int .i64 x.left, .int .i64 x.right, .int .i64 x.off, .int .i64 x.len, .int .i64 x.high, .int .i64 x.leaves, .int .i64 x.feeds] 50)).trans (hb2.mono (by have := hb1.size; simp; omega)))
  have hbs := HB.out.size
  clear hb1 hb2
  cases okl
  · go_wp2
    go_ret2
    exact .inl ⟨rfl, rfl, HB.out.alloc hbs _⟩
  · cases okr
    · go_wp2
      go_ret2
      exact .inl ⟨rfl, rfl, HB.out.alloc hbs _⟩
    · by_cases hlong : 1099511627776 < wrap64 (x.len + y.len)
      · go_wp2
        go_ret2
        exact .inr (.inl ⟨rfl, hlong, rfl, HB.out.alloc hbs _⟩)
      · have hp := HP.out
        clear HP G1 G2
        by_cases hm : y.high ≤ x.high
        all_goals
          first | rw [Int.max_eq_left hm] at hp | rw [Int.max_eq_right (by omega)] at hp
          have HP := Lib.hid hp
          clear hp
          go_wp2_with (go_at_call 121; ((with_reducible refine (HP.out _ (HA2.out.below (by (repeat (first | exact Below.refl _ _ | assumption | (refine Below.setCell ?_ (by first | (simp; done) | (simp; omega) | omega) _) | (refine Below.alloc ?_ (by first | (simp; done) | (simp; omega) | omega) _) | (refine Below.drew ?_) | (refine Below.drewN ?_ _) | (refine Below.trans ?_ (Below.mono (by assumption) (by first | (simp; done) | (simp; omega) | omega)))))))).mono ?_); rintro e w3 ⟨q', rfl, ha, hf⟩; (have HA3 := Lib.hid ha); (have HF := Lib.hid hf); clear ha hf))
          go_ret2
          exact .inr (.inr ⟨rfl, by omega, q', rfl, HA3.out, (Fr.of_below (HB.out.alloc hbs _)).trans HF.out⟩)
end Go.Proofs.Ytoeamnagmehpeaa.Ar


/- Small words on arenas. -/
namespace Go.Proofs.Ytoeamnagmehpeaa.Ar
set_option linter.unusedSimpArgs false
set_option linter.unusedVariables false
open Go Go.RowKit
attribute [local go_sem] lt_add1 lt_self1 size_ne size_ne' size_ne1 size_ne1'

theorem foot_ge {B g : Nat} {r : Option Nat} (hg : B ≤ g) (hr : ∀ b, r = some b → B ≤ b) : ∀ b, foot g r b → B ≤ b := fun b h => h.elim (fun e => e ▸ hg) (hr b)

theorem getK_at {ks : List Knot} {i : Int} {k : Nat} (hi : i = (k : Int) + 1) (hk : k < ks.length) : getK ks i = ks.getD k Knot.zero ∧ getB ks i = true := by
  subst hi
  have : getS ks ((k : Int) + 1) = (ks.getD k Knot.zero, true) := by unfold getS; rw [if_pos (by omega)]; congr 2; omega
  rw [getK, getB, this]
  exact ⟨rfl, rfl⟩

end Go.Proofs.Ytoeamnagmehpeaa.Ar


/- What is made of an arena by deeds; the page's own numbers of a knot. -/
namespace Go.Proofs.Ytoeamnagmehpeaa.Ar
set_option linter.unusedSimpArgs false
set_option linter.unusedVariables false
open Go Go.RowKit
attribute [local go_sem] lt_add1 lt_self1 size_ne size_ne' size_ne1 size_ne1'

/-- A knot as it may be: a leaf, or a pair of two that lie ahead of it. -/
def isLeaf (k : Knot) : Prop := k.left = 0 ∧ k.right = 0 ∧ 0 ≤ k.off ∧ 1 ≤ k.len ∧ k.len ≤ 1048576 ∧ k.off + k.len ≤ 1099511627776 ∧ k.high = 1 ∧ k.leaves = 1 ∧ 0 ≤ k.feeds ∧ k.feeds ≤ k.len
def isPair (ks : List Knot) (i : Nat) (k : Knot) (l r : Nat) : Prop := k.left = (l : Int) + 1 ∧ k.right = (r : Int) + 1 ∧ l < i ∧ r < i ∧ k.off = 0 ∧ k.len = (ks.getD l Knot.zero).len + (ks.getD r Knot.zero).len ∧ k.len ≤ 1099511627776 ∧
  k.high = 1 + max (ks.getD l Knot.zero).high (ks.getD r Knot.zero).high ∧ k.leaves = (ks.getD l Knot.zero).leaves + (ks.getD r Knot.zero).leaves ∧ k.feeds = (ks.getD l Knot.zero).feeds + (ks.getD r Knot.zero).feeds
def WF (ks : List Knot) : Prop := ∀ i, i < ks.length → isLeaf (ks.getD i Knot.zero) ∨ ∃ l r, isPair ks i (ks.getD i Knot.zero) l r

theorem WF.bounds {ks : List Knot} (h : WF ks) : ∀ i, i < ks.length → 1 ≤ (ks.getD i Knot.zero).len ∧ (ks.getD i Knot.zero).len ≤ 1099511627776 ∧ 1 ≤ (ks.getD i Knot.zero).leaves ∧ (ks.getD i Knot.zero).leaves ≤ (ks.getD i Knot.zero).len ∧
    1 ≤ (ks.getD i Knot.zero).high ∧ (ks.getD i Knot.zero).high ≤ (ks.getD i Knot.zero).leaves ∧ 0 ≤ (ks.getD i Knot.zero).feeds ∧ (ks.getD i Knot.zero).feeds ≤ (ks.getD i Knot.zero).len := by
  intro i
  induction i using Nat.strongRecOn with
  | _ i ih =>
    intro hi
    rcases h i hi with hl | ⟨l, r, hp⟩
    · obtain ⟨_, _, _, h1, h2, _, h3, h4, h5, h6⟩ := hl
      omega
    · obtain ⟨_, _, hl, hr, _, h1, h2, h3, h4, h5⟩ := hp
      have a := ih l hl (by omega)
      have b := ih r hr (by omega)
      omega

theorem getD_append_left {ks : List Knot} {k : Knot} {i : Nat} (h : i < ks.length) : (ks ++ [k]).getD i Knot.zero = ks.getD i Knot.zero := by
  simp [List.getD, List.getElem?_append_left h]
theorem getD_append_last {ks : List Knot} {k : Knot} : (ks ++ [k]).getD ks.length Knot.zero = k := by simp [List.getD]
theorem WF.leaf {ks : List Knot} (h : WF ks) {off n f : Int} (hb : leafBad off n f = false) : WF (ks ++ [leafK off n f]) := by
  intro i hi
  by_cases e : i < ks.length
  · rw [getD_append_left e]
    rcases h i e with hl | ⟨l, r, hp⟩
    · exact .inl hl
    · refine .inr ⟨l, r, ?_⟩
      unfold isPair at hp ⊢
      rwa [getD_append_left (by omega), getD_append_left (by omega)]
  · obtain rfl : i = ks.length := by simp at hi; omega
    rw [getD_append_last]
    simp [leafBad] at hb
    exact .inl ⟨rfl, rfl, by simp only [leafK]; omega, by simp only [leafK]; omega, by simp only [leafK]; omega, by simp only [leafK]; omega, rfl, rfl, by simp only [leafK]; omega, by simp only [leafK]; omega⟩
theorem WF.pair {ks : List Knot} (h : WF ks) {l r : Int} (hl : getB ks l = true) (hr : getB ks r = true) (hlen : wrap64 ((getK ks l).len + (getK ks r).len) ≤ 1099511627776) :
    WF (ks ++ [pairK ks l r]) ∧ ∃ a b : Nat, l = (a : Int) + 1 ∧ r = (b : Int) + 1 ∧ a < ks.length ∧ b < ks.length ∧ isPair ks ks.length (pairK ks l r) a b := by
  have open_ : ∀ i : Int, getB ks i = true → ∃ a : Nat, i = (a : Int) + 1 ∧ a < ks.length := fun i hi => by
    unfold getB getS at hi
    split at hi
    · exact ⟨(i - 1).toNat, by omega, by omega⟩
    · cases hi
  obtain ⟨a, rfl, ha⟩ := open_ l hl
  obtain ⟨b, rfl, hb⟩ := open_ r hr
  have ga := (getK_at (ks := ks) rfl ha).1
  have gb := (getK_at (ks := ks) rfl hb).1
  have ba := h.bounds a ha
  have bb := h.bounds b hb
  have hp : isPair ks ks.length (pairK ks ((a : Int) + 1) ((b : Int) + 1)) a b := by
    rw [ga, gb] at hlen
    unfold isPair pairK
    simp only [ga, gb]
    unfold wrap64 at hlen ⊢
    refine ⟨trivial, trivial, ha, hb, trivial, ?_, ?_, ?_, ?_, ?_⟩ <;> omega
  refine ⟨?_, a, b, rfl, rfl, ha, hb, hp⟩
  intro i hi
  by_cases e : i < ks.length
  · rw [getD_append_left e]
    rcases h i e with hl | ⟨l, r, hp⟩
    · exact .inl hl
    · refine .inr ⟨l, r, ?_⟩
      unfold isPair at hp ⊢
      rwa [getD_append_left (by omega), getD_append_left (by omega)]
  · obtain rfl : i = ks.length := by simp at hi; omega
    rw [getD_append_last]
    refine .inr ⟨a, b, ?_⟩
    unfold isPair at hp ⊢
    rwa [getD_append_left ha, getD_append_left hb]

/-- how a knot was made. -/
def mcells (k : Knot) : List Value := [.int .i64 k.left, .int .i64 k.right, .int .i64 k.off, .int .i64 (if k.left = 0 then k.len else 0), .int .i64 (if k.left = 0 then k.feeds else 0)]
def madeAt (w : World) (A : Option Addr) (ks : List Knot) : Prop := SlAt w w.heap.size 5 ks.length A (fun i j => (mcells (ks.getD i Knot.zero)).getD j undef)
theorem madeAt.below {w w' : World} {A : Option Addr} {ks : List Knot} (h : madeAt w A ks) (hb : Below w.heap.size w w') : madeAt w' A ks := (SlAt.below h hb).more hb.size
theorem madeAt.rows {w : World} {A : Option Addr} {ks : List Knot} (h : madeAt w A ks) {i : Nat} (hi : i < ks.length) : ∃ b off, A = some ⟨b, off, none⟩ ∧ b < w.heap.size ∧
    w.cell? ⟨b, off + i * 5, none⟩ = some (.int .i64 (ks.getD i Knot.zero).left) ∧ w.cell? ⟨b, off + i * 5 + 1, none⟩ = some (.int .i64 (ks.getD i Knot.zero).right) ∧ w.cell? ⟨b, off + i * 5 + 2, none⟩ = some (.int .i64 (ks.getD i Knot.zero).off) ∧
    w.cell? ⟨b, off + i * 5 + 3, none⟩ = some (.int .i64 (if (ks.getD i Knot.zero).left = 0 then (ks.getD i Knot.zero).len else 0)) ∧ w.cell? ⟨b, off + i * 5 + 4, none⟩ = some (.int .i64 (if (ks.getD i Knot.zero).left = 0 then (ks.getD i Knot.zero).feeds else 0)) := by
  obtain ⟨b, off, e, hb, hc⟩ := h (by omega)
  exact ⟨b, off, e, hb, hc i 0 hi (by omega), hc i 1 hi (by omega), hc i 2 hi (by omega), hc i 3 hi (by omega), hc i 4 hi (by omega)⟩

end Go.Proofs.Ytoeamnagmehpeaa.Ar
