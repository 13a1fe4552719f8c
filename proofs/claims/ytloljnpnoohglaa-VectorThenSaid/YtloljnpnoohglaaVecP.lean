/- The page's Then. -/
import Derived.Test.YtloljnpnoohglaaVecN
import Derived.Deep.RegionLaw
import Derived.Test.YtloljnpnoohglaaMaker
namespace Go.Proofs.Ytloljnpnoohglaa.Vec
set_option linter.unusedSimpArgs false
set_option linter.unusedVariables false
open Go Go.RowKit
attribute [local go_sem] lt_add1 lt_self1 size_ne size_ne' size_ne1 size_ne1'
attribute [local irreducible] wpGrowM

/-- two rows that grow, in a variable; beside it the arguments' boxes and the result's. -/
structure Two (B : Nat) (a0 w : World) (V1 V2 : Array Value) (x : Nat) (v1 v2 : Value) (X1 X2 : List Value) : Prop where
  b3 : B3 B a0 w V1 V2
  lx : B + 2 < x
  bx : w.heap[x]? = some (.cells #[v1, v2] 60 (0, 0))
  o1 : w.ownsRow (B + 3) 3 1 v1 X1.length X1
  o2 : w.ownsRow (B + 3) 4 1 v2 X2.length X2

theorem own_ty {w : World} {base : Nat} {e : TypeId} {size : Nat} {v : Value} {n : Nat} {xs : List Value} (h : w.ownsRow base e size v n xs) {b : Nat} (hb : v.ownBlock = some b) : ∃ cs, w.heap[b]? = some (.cells cs e (0, 0)) := by
  rcases h.2 with ⟨rfl, _⟩ | ⟨q, cap, cur, rfl, _, hq, _⟩
  · cases hb
  · cases hb; exact ⟨_, hq⟩
theorem own_block {w w' : World} {base : Nat} {e : TypeId} {size : Nat} {v : Value} {n : Nat} {xs : List Value} (h : w.ownsRow base e size v n xs) (hk : ∀ b, v.ownBlock = some b → b < w.heap.size → w'.heap[b]? = w.heap[b]?) : w'.ownsRow base e size v n xs := by
  rcases h.2 with h2 | ⟨q, cap, cur, h1, h2, h3, rest⟩
  · exact ⟨h.1, .inl h2⟩
  · refine ⟨h.1, .inr ⟨q, cap, cur, h1, h2, ?_, rest⟩⟩
    rw [hk q (by rw [h1]; rfl) (Array.getElem?_eq_some_iff.1 h3).1]
    exact h3

section
variable {B : Nat} {a0 w w1 : World} {V1 V2 : Array Value} {x q n c cap : Nat} {v1 v2 : Value} {X1 X2 : List Value} {O : Obj} {y : Value}
theorem Two.ne1 (h : Two B a0 w V1 V2 x v1 v2 X1 X2) : v1.ownBlock ≠ some x := fun e => by
  obtain ⟨cs, hc⟩ := own_ty h.o1 e
  rw [h.bx] at hc; cases hc
theorem Two.ne2 (h : Two B a0 w V1 V2 x v1 v2 X1 X2) : v2.ownBlock ≠ some x := fun e => by
  obtain ⟨cs, hc⟩ := own_ty h.o2 e
  rw [h.bx] at hc; cases hc
theorem Two.apart (h : Two B a0 w V1 V2 x v1 v2 X1 X2) {b : Nat} (e1 : v1.ownBlock = some b) : v2.ownBlock ≠ some b := fun e2 => by
  obtain ⟨cs, hc⟩ := own_ty h.o1 e1
  obtain ⟨cs', hc'⟩ := own_ty h.o2 e2
  rw [hc] at hc'; cases hc'
theorem Two.pre (h : Two B a0 w V1 V2 x v1 v2 X1 X2) {v : Value} (hv : v = v1 ∨ v = v2) (hg : ((w.alloc O).drew).grownBy w1 v.ownBlock) : (∀ o, w1.cell? ⟨x, o, none⟩ = w.cell? ⟨x, o, none⟩) ∧ (∀ o, w1.frozen? ⟨x, o, none⟩ = false) := by
  have hlt : x < w.heap.size := (Array.getElem?_eq_some_iff.1 h.bx).1
  have hne : v.ownBlock ≠ some x := by rcases hv with rfl | rfl; exact h.ne1; exact h.ne2
  have hb : w1.heap[x]? = w.heap[x]? := by
    rw [hg.block x (by show x < (w.alloc O).heap.size; simp; omega) (fun e => hne e.symm)]
    exact at_old rfl hlt
  exact ⟨fun o => World.cell?_of_block (a := ⟨x, o, none⟩) hb, fun o => by rw [World.frozen?_of_block (a := ⟨x, o, none⟩) hb]; simp [World.frozen?, h.bx]⟩
theorem Two.b3step (h : Two B a0 w V1 V2 x v1 v2 X1 X2) {v : Value} (hv : v = v1 ∨ v = v2) (hg : ((w.alloc O).drew).grownBy w1 v.ownBlock) (i : Nat) (u : Value) : B3 B a0 (w1.setCell ⟨x, i, none⟩ u) V1 V2 := by
  have hl := h.b3.lt
  have hlx := h.lx
  have hsz : w.heap.size + 1 ≤ w1.heap.size := by have := hg.size; simpa using this
  have hbl : ∀ b, v.ownBlock = some b → B + 3 ≤ b := fun b hb => by
    rcases hv with rfl | rfl
    · exact (h.o1.lt b hb).1
    · exact (h.o2.lt b hb).1
  have hk : ∀ b, b ≤ B + 2 → (w1.setCell ⟨x, i, none⟩ u).heap[b]? = w.heap[b]? := fun b hb => by
    rw [heap_setCell_other _ _ _ _ (by show b ≠ x; omega), hg.block b (by show b < (w.alloc O).heap.size; simp; omega) (fun e => by have := hbl b e.symm; omega)]
    exact at_old rfl (by omega)
  refine ⟨(hk _ (by omega)).trans h.b3.v1, (hk _ (by omega)).trans h.b3.v2, (hk _ (by omega)).trans h.b3.vr, ?_, by rw [World.size_setCell]; omega⟩
  refine Below.setCell ?_ (by show B ≤ x; omega) _
  exact ((h.b3.bel.alloc (by omega) O).drew).grown hg (by show B ≤ (w.alloc O).heap.size; simp; omega) (fun k hk => by have := hbl k hk; omega)
theorem Two.add1 (h : Two B a0 w V1 V2 x v1 v2 X1 X2) (hg : ((w.alloc O).drew).grownBy w1 v1.ownBlock) (hown : w1.ownsRow (B + 3) 3 1 (.slice (some ⟨q, 0, none⟩) (X1.length + 1) cap) (X1.length + 1) (X1 ++ [y]))
    (hat : v1.ownBlock = some q ∨ q = w.heap.size + 1) : Two B a0 (w1.setCell ⟨x, 0, none⟩ (.slice (some ⟨q, 0, none⟩) (X1.length + 1) cap)) V1 V2 x (.slice (some ⟨q, 0, none⟩) (X1.length + 1) cap) v2 (X1 ++ [y]) X2 := by
  have hlt : x < w.heap.size := (Array.getElem?_eq_some_iff.1 h.bx).1
  have hqx : q ≠ x := by
    rcases hat with e | e
    · intro e2; exact h.ne1 (by rw [e, e2])
    · omega
  have hk : ∀ b, b < w.heap.size → v1.ownBlock ≠ some b → w1.heap[b]? = w.heap[b]? := fun b hb hn => by
    rw [hg.block b (by show b < (w.alloc O).heap.size; simp; omega) (fun e => hn e.symm)]
    exact at_old rfl hb
  refine ⟨h.b3step (.inl rfl) hg _ _, h.lx, ?_, ?_, ?_⟩
  · rw [heap_setCell_same _ _ _ _ _ _ ((hk x hlt h.ne1).trans h.bx)]; rfl
  · rw [List.length_append]
    exact own_setCell hown (fun e => hqx (by simpa [Value.ownBlock] using e)) _
  · refine own_setCell (own_block h.o2 fun b hb hbl => hk b hbl fun e => h.apart e hb) (fun e => h.ne2 e) _
theorem Two.add2 (h : Two B a0 w V1 V2 x v1 v2 X1 X2) (hg : ((w.alloc O).drew).grownBy w1 v2.ownBlock) (hown : w1.ownsRow (B + 3) 4 1 (.slice (some ⟨q, 0, none⟩) (X2.length + 1) cap) (X2.length + 1) (X2 ++ [y]))
    (hat : v2.ownBlock = some q ∨ q = w.heap.size + 1) : Two B a0 (w1.setCell ⟨x, 1, none⟩ (.slice (some ⟨q, 0, none⟩) (X2.length + 1) cap)) V1 V2 x v1 (.slice (some ⟨q, 0, none⟩) (X2.length + 1) cap) X1 (X2 ++ [y]) := by
  have hlt : x < w.heap.size := (Array.getElem?_eq_some_iff.1 h.bx).1
  have hqx : q ≠ x := by
    rcases hat with e | e
    · intro e2; exact h.ne2 (by rw [e, e2])
    · omega
  have hk : ∀ b, b < w.heap.size → v2.ownBlock ≠ some b → w1.heap[b]? = w.heap[b]? := fun b hb hn => by
    rw [hg.block b (by show b < (w.alloc O).heap.size; simp; omega) (fun e => hn e.symm)]
    exact at_old rfl hb
  refine ⟨h.b3step (.inr rfl) hg _ _, h.lx, ?_, ?_, ?_⟩
  · rw [heap_setCell_same _ _ _ _ _ _ ((hk x hlt h.ne2).trans h.bx)]; rfl
  · refine own_setCell (own_block h.o1 fun b hb hbl => hk b hbl fun e => h.apart hb e) (fun e => h.ne1 e) _
  · rw [List.length_append]
    exact own_setCell hown (fun e => hqx (by simpa [Value.ownBlock] using e)) _
end

theorem Two.below {B : Nat} {a0 w w' : World} {V1 V2 : Array Value} {x : Nat} {v1 v2 : Value} {X1 X2 : List Value} (h : Two B a0 w V1 V2 x v1 v2 X1 X2) (hb : Below w.heap.size w w') : Two B a0 w' V1 V2 x v1 v2 X1 X2 :=
  ⟨h.b3.below hb, h.lx, (hb.block x (Array.getElem?_eq_some_iff.1 h.bx).1).trans h.bx, own_block h.o1 fun b _ hl => hb.block b hl, own_block h.o2 fun b _ hl => hb.block b hl⟩
theorem Two.add2g {B : Nat} {a0 w w1 : World} {V1 V2 : Array Value} {x q cap : Nat} {v1 v2 : Value} {X1 X2 : List Value} {y : Value} (h : Two B a0 w V1 V2 x v1 v2 X1 X2) (hg : w.grownBy w1 v2.ownBlock) (hown : w1.ownsRow (B + 3) 4 1 (.slice (some ⟨q, 0, none⟩) (X2.length + 1) cap) (X2.length + 1) (X2 ++ [y]))
    (hat : v2.ownBlock = some q ∨ q = w.heap.size) : Two B a0 (w1.setCell ⟨x, 1, none⟩ (.slice (some ⟨q, 0, none⟩) (X2.length + 1) cap)) V1 V2 x v1 (.slice (some ⟨q, 0, none⟩) (X2.length + 1) cap) X1 (X2 ++ [y]) := by
  have hlt : x < w.heap.size := (Array.getElem?_eq_some_iff.1 h.bx).1
  have hl := h.b3.lt
  have hlx := h.lx
  have hbl : ∀ b, v2.ownBlock = some b → B + 3 ≤ b := fun b hb => (h.o2.lt b hb).1
  have hqx : q ≠ x := by
    rcases hat with e | e
    · intro e2; exact h.ne2 (by rw [e, e2])
    · omega
  have hk : ∀ b, b < w.heap.size → v2.ownBlock ≠ some b → w1.heap[b]? = w.heap[b]? := fun b hb hn => hg.block b hb (fun e => hn e.symm)
  have hk3 : ∀ b, b ≤ B + 2 → (w1.setCell ⟨x, 1, none⟩ (.slice (some ⟨q, 0, none⟩) (X2.length + 1) cap)).heap[b]? = w.heap[b]? := fun b hb => by
    rw [heap_setCell_other _ _ _ _ (by show b ≠ x; omega)]
    exact hk b (by omega) (fun e => by have := hbl b e; omega)
  refine ⟨⟨(hk3 _ (by omega)).trans h.b3.v1, (hk3 _ (by omega)).trans h.b3.v2, (hk3 _ (by omega)).trans h.b3.vr, ?_, by rw [World.size_setCell]; have := hg.size; omega⟩, h.lx, ?_, ?_, ?_⟩
  · exact Below.setCell (h.b3.bel.grown hg (by omega) (fun k hk => by have := hbl k hk; omega)) (by show B ≤ x; omega) _
  · rw [heap_setCell_same _ _ _ _ _ _ ((hk x hlt h.ne2).trans h.bx)]; rfl
  · refine own_setCell (own_block h.o1 fun b hb hbl => hk b hbl fun e => h.apart hb e) (fun e => h.ne1 e) _
  · rw [List.length_append]
    exact own_setCell hown (fun e => hqx (by simpa [Value.ownBlock] using e)) _
theorem Two.preg {B : Nat} {a0 w w1 : World} {V1 V2 : Array Value} {x : Nat} {v1 v2 : Value} {X1 X2 : List Value} (h : Two B a0 w V1 V2 x v1 v2 X1 X2) (hg : w.grownBy w1 v2.ownBlock) : (∀ o, w1.cell? ⟨x, o, none⟩ = w.cell? ⟨x, o, none⟩) ∧ (∀ o, w1.frozen? ⟨x, o, none⟩ = false) := by
  have hlt : x < w.heap.size := (Array.getElem?_eq_some_iff.1 h.bx).1
  have hb : w1.heap[x]? = w.heap[x]? := hg.block x hlt (fun e => h.ne2 e.symm)
  exact ⟨fun o => World.cell?_of_block (a := ⟨x, o, none⟩) hb, fun o => by rw [World.frozen?_of_block (a := ⟨x, o, none⟩) hb]; simp [World.frozen?, h.bx]⟩

theorem one_bool (v : Bool) : ∀ u ∈ [Value.bool v], u.oneCell' = true := by intro u hu; simp at hu; rcases hu with rfl; rfl
theorem map_range_succ (f : Nat → Value) (k : Nat) : (List.range (k + 1)).map f = (List.range k).map f ++ [f k] := by simp [List.range_succ]

set_option maxRecDepth 100000 in
set_option maxHeartbeats 4000000 in
theorem rthen_any (n m m' : Nat) (Ta Tb : List Int) (Ha Hb : List Bool) (A B A' B' : Option Addr) (c d c' d' : Nat) (w : World) (h : FunAt w A n B m Ta Ha) (h' : FunAt w A' n B' m' Tb Hb) (hr1 : Right n m Ta) (hr2 : Right n m' Tb) :
    Calls Try.prog 39 #[.agg #[.slice A n c, .slice B m d], .agg #[.slice A' n c', .slice B' m' d']] w fun e w' => ∃ P Q cp cq, e = .returned (.agg #[.slice P n cp, .slice Q n cq]) ∧ FunAt w' P n Q n (thenTs n Ta Tb) (thenHs n Ta Ha Hb) ∧ Below w.heap.size w w' := by
  obtain ⟨ii, hii, hj0, hj1, hj2⟩ := info_parts int_info
  obtain ⟨ib, hib, hk0', hk1', hk2'⟩ := info_parts bool_info
  have HH := Lib.hid (And.intro h h')
  have HR1 := Lib.hid hr1
  have HR2 := Lib.hid hr2
  have hn1 := hr1.1
  have hn2 := hr1.2.1
  obtain rfl : m = n := hr1.2.2.1
  obtain rfl : m' = m := hr2.2.2.1
  clear h h' hr1 hr2
  have hb3 : B3 w.heap.size w (((w.alloc (.cells #[.slice A m' c, .slice B m' d] 60)).alloc (.cells #[.slice A' m' c', .slice B' m' d'] 60)).alloc (.cells #[.slice none 0 0, .slice none 0 0] 60)) #[.slice A m' c, .slice B m' d] #[.slice A' m' c', .slice B' m' d'] := by
    constructor
    all_goals first | (simp; done) | (simp; omega) | ((repeat (first | exact at_alloc (by first | rfl | (simp; done) | (simp; omega)) | refine at_old ?_ (by first | (simp; done) | (simp; omega)))); done) | ((repeat (first | exact Below.refl _ _ | assumption | (refine Below.setCell ?_ (by first | (simp; done) | (simp; omega) | omega) _) | (refine Below.alloc ?_ (by first | (simp; done) | (simp; omega) | omega) _) | (refine Below.drew ?_) | (refine Below.drewN ?_ _) | (refine Below.trans ?_ (Below.mono (by assumption) (by first | (simp; done) | (simp; omega) | omega))))); done)
  go_enter Try.func39, Try.ntmps39
  go_wp2_with fail
  have hsz3 : (((w.alloc (.cells #[.slice A m' c, .slice B m' d] 60)).alloc (.cells #[.slice A' m' c', .slice B' m' d'] 60)).alloc (.cells #[.slice none 0 0, .slice none 0 0] 60)).heap.size = w.heap.size + 3 := by simp
  have h2 : Two w.heap.size w ((((w.alloc (.cells #[.slice A m' c, .slice B m' d] 60)).alloc (.cells #[.slice A' m' c', .slice B' m' d'] 60)).alloc (.cells #[.slice none 0 0, .slice none 0 0] 60)).alloc (.cells #[.slice none 0 0, .slice none 0 0] 60)) #[.slice A m' c, .slice B m' d] #[.slice A' m' c', .slice B' m' d'] (w.heap.size + 3) (.slice none 0 0) (.slice none 0 0) ((List.range 0).map fun j => .int .i64 (thenT Ta Tb j)) ((List.range 0).map fun j => .bool (thenH Ta Ha Hb j)) :=
    ⟨hb3.below (by (repeat (first | exact Below.refl _ _ | assumption | (refine Below.setCell ?_ (by first | (simp; done) | (simp; omega) | omega) _) | (refine Below.alloc ?_ (by first | (simp; done) | (simp; omega) | omega) _) | (refine Below.drew ?_) | (refine Below.drewN ?_ _) | (refine Below.trans ?_ (Below.mono (by assumption) (by first | (simp; done) | (simp; omega) | omega)))))), by omega, at_alloc hsz3.symm, World.ownsRow_nil _ _ _ _, World.ownsRow_nil _ _ _ _⟩
  generalize (((w.alloc (.cells #[.slice A m' c, .slice B m' d] 60)).alloc (.cells #[.slice A' m' c', .slice B' m' d'] 60)).alloc (.cells #[.slice none 0 0, .slice none 0 0] 60)).alloc (.cells #[.slice none 0 0, .slice none 0 0] 60) = W4 at h2 ⊢
  have hxx : w.heap.size + 1 + 1 + 1 = w.heap.size + 3 := rfl
  rw [hxx]
  generalize w.heap.size + 3 = x at h2 ⊢
  have H2 := Lib.hid h2
  clear h2 hb3 hsz3 hxx
  trace_state
  go_loopw [6] (fun i wr => ∃ (k : Nat) (v1 v2 : Value), k ≤ m' ∧ i = .int .i64 k ∧ Two w.heap.size w wr #[.slice A m' c, .slice B m' d] #[.slice A' m' c', .slice B' m' d'] x v1 v2 ((List.range k).map fun j => .int .i64 (thenT Ta Tb j)) ((List.range k).map fun j => .bool (thenH Ta Ha Hb j))) (fun i _ => m' - (intOf i).toNat)
  case atStart => exact ⟨0, _, _, by omega, rfl, H2.out⟩
  case round =>
    obtain ⟨k, v1, v2, hk, rfl, hts⟩ := hrel
    obtain ⟨A1, c1, rfl, _, _⟩ := SlAt.of_own hts.o1
    obtain ⟨A2, c2, rfl, _, _⟩ := SlAt.of_own hts.o2
    simp only [List.length_map, List.length_range] at hts
    have HT := Lib.hid hts
    have x0 := cell_of_row wr x 0 _ _ (0, 0) hts.bx
    have x1 := cell_of_row wr x 1 _ _ (0, 0) hts.bx
    have z0 := cell_of_row wr w.heap.size 0 _ _ (0, 0) hts.b3.v1
    have z1 := cell_of_row wr w.heap.size 1 _ _ (0, 0) hts.b3.v1
    have y0 := cell_of_row wr (w.heap.size + 1) 0 _ _ (0, 0) hts.b3.v2
    have y1 := cell_of_row wr (w.heap.size + 1) 1 _ _ (0, 0) hts.b3.v2
    simp only [List.getElem?_toArray, List.getElem?_cons_zero, List.getElem?_cons_succ] at x0 x1 z0 z1 y0 y1
    have hl3 := hts.b3.lt
    have hlx := hts.lx
    have hxl : x < wr.heap.size := (Array.getElem?_eq_some_iff.1 hts.bx).1
    by_cases hlt : k < m'
    · have hlen : k < Ta.length := by have := HH.out.1.1; omega
      have hmem : Ta.getD k 0 ∈ Ta := by simp only [List.getD, List.getElem?_eq_getElem hlen, Option.getD_some]; exact List.getElem_mem hlen
      have hrg := HR1.out.2.2.2 _ hmem
      obtain ⟨b1, o1, rfl, hbl1, hc1⟩ := HH.out.1.2.2.1 (by omega)
      obtain ⟨b2, o2, rfl, hbl2, hc2⟩ := HH.out.1.2.2.2 (by omega)
      obtain ⟨b3, o3, rfl, hbl3, hc3⟩ := HH.out.2.2.2.1 (by omega)
      obtain ⟨b4, o4, rfl, hbl4, hc4⟩ := HH.out.2.2.2.2 (by omega)
      have f1 : wr.cell? ⟨b1, o1 + k, none⟩ = some (.int .i64 (Ta.getD k 0)) := (hts.b3.bel.cell (p := ⟨b1, _, none⟩) hbl1).trans (hc1 k hlt)
      have f2 : w.cell? ⟨b2, o2 + k, none⟩ = some (.bool (Ha.getD k false)) := hc2 k hlt
      have hv1 : thenT Ta Tb k = Tb.getD (Ta.getD k 0).toNat 0 := rfl
      have hv2 : thenH Ta Ha Hb k = (Ha.getD k false || Hb.getD (Ta.getD k 0).toNat false) := rfl
      obtain ⟨q, hq⟩ : ∃ q : Nat, Ta.getD k 0 = q := ⟨(Ta.getD k 0).toNat, by omega⟩
      have hqn : q < m' := by omega
      have f3 : wr.cell? ⟨b3, o3 + q, none⟩ = some (.int .i64 (Tb.getD q 0)) := (hts.b3.bel.cell (p := ⟨b3, _, none⟩) hbl3).trans (hc3 q hqn)
      have f4 : w.cell? ⟨b4, o4 + q, none⟩ = some (.bool (Hb.getD q false)) := hc4 q hqn
      have f5 : w.cell? ⟨b1, o1 + k, none⟩ = some (.int .i64 (Ta.getD k 0)) := hc1 k hlt
      rw [hq] at f1 f5 hv1 hv2
      simp only [Int.toNat_natCast] at hv1 hv2
      have hk0 : (0 : Int) ≤ k := by omega
      have hk1 : (k : Int) < m' := by omega
      have hq0 : (0 : Int) ≤ q := by omega
      have hq1 : (q : Int) < m' := by omega
      have hs1 : b1 < wr.heap.size := by omega
      have hs3 : b3 < wr.heap.size := by omega
      generalize Tb.getD q 0 = t at f3 hv1
      generalize Hb.getD q false = hh at f4 hv2
      generalize Ha.getD k false = ha at f2 hv2
      have HV := Lib.hid (And.intro hv1 hv2)
      have HF := Lib.hid (And.intro f2 (And.intro f4 f5))
      have ho1 := hts.o1
      have ho2 := hts.o2
      simp only [List.length_map, List.length_range] at ho1 ho2
      have HO := Lib.hid (And.intro ho1 ho2)
      have hX1 : ((List.range k).map fun j => Value.int .i64 (thenT Ta Tb j)).length = k := by simp
      have HX1 := Lib.hid hX1
      clear hc1 hc2 hc3 hc4 hv1 hv2 hq hrg hmem hts f2 f4 f5 ho1 ho2 hX1
      go_upto_region 5 with fail
      go_cut [] (fun wx => ∃ v1', Two w.heap.size w wx #[.slice (some ⟨b1, o1, none⟩) m' c, .slice (some ⟨b2, o2, none⟩) m' d] #[.slice (some ⟨b3, o3, none⟩) m' c', .slice (some ⟨b4, o4, none⟩) m' d'] x v1' (.slice A2 k c2) ((List.range (k + 1)).map fun j => .int .i64 (thenT Ta Tb j)) ((List.range k).map fun j => .bool (thenH Ta Ha Hb j)))
      case first =>
        go_region_law ((refine step_append_lies _ (by rfl) _ _ _ (by rfl) (w.heap.size + 3) 3 ii _ 1 8 Try.underlying57 hii hj0 hj1 hj2 rfl (by omega) (.slice A1 k c1) k ((List.range k).map fun j => .int .i64 (thenT Ta Tb j)) (by rfl) ((HO.out.1.alloc _).drew) ⟨wr.heap.size, 0, none⟩ 1 1 [.int .i64 t] (by rfl) (by rfl) (World.news_of_block (fr := (0, 0)) (heap_alloc_new wr _)) (by intro u hu; simp at hu; rcases hu with rfl; rfl) (by omega) (by unfold maxLen; omega) (by omega) (by simp; omega) (wr.heap.size + 1) (by simp) ?_; intro q2 cap w1 hown1 hgrow hat hlt2; have hcg : w1.cell? ⟨x, 0, none⟩ = some (.slice A1 k c1) := ((HT.out.pre (.inl rfl) hgrow).1 0).trans x0; have hfg : w1.frozen? ⟨x, 0, none⟩ = false := (HT.out.pre (.inl rfl) hgrow).2 0))
        all_goals
          have hadd := HT.out.add1 hgrow (by rw [HX1.out]; exact hown1) hat
          rw [HX1.out, ← HV.out.1, ← map_range_succ] at hadd
          have HD := Lib.hid hadd
          clear hadd hown1 hgrow hat
          go_wp2_with fail
          go_meet
          exact ⟨_, HD.out⟩
      case rest =>
      obtain ⟨v1', hts⟩ := hcut
      have HT2 := Lib.hid hts
      clear x0 x1 z0 z1 y0 y1 f1 f3 hxl hs1 hs3 HO HT HX1
      have x1 := cell_of_row wc x 1 _ _ (0, 0) hts.bx
      have z0 := cell_of_row wc w.heap.size 0 _ _ (0, 0) hts.b3.v1
      have z1 := cell_of_row wc w.heap.size 1 _ _ (0, 0) hts.b3.v1
      have y1 := cell_of_row wc (w.heap.size + 1) 1 _ _ (0, 0) hts.b3.v2
      simp only [List.getElem?_toArray, List.getElem?_cons_zero, List.getElem?_cons_succ] at x1 z0 z1 y1
      have hl3 := hts.b3.lt
      have hxl : x < wc.heap.size := (Array.getElem?_eq_some_iff.1 hts.bx).1
      have f2 := (hts.b3.bel.cell (p := ⟨b2, _, none⟩) hbl2).trans HF.out.1
      have f4 := (hts.b3.bel.cell (p := ⟨b4, _, none⟩) hbl4).trans HF.out.2.1
      have f5 := (hts.b3.bel.cell (p := ⟨b1, _, none⟩) hbl1).trans HF.out.2.2
      have hs1 : b1 < wc.heap.size := by omega
      have hs2 : b2 < wc.heap.size := by omega
      have hs4 : b4 < wc.heap.size := by omega
      have hwz0 : w.heap.size < wc.heap.size := by omega
      have hwz1 : w.heap.size + 1 < wc.heap.size := by omega
      have ho2 := hts.o2
      simp only [List.length_map, List.length_range] at ho2
      have HO2 := Lib.hid ho2
      have hX2 : ((List.range k).map fun j => Value.bool (thenH Ta Ha Hb j)).length = k := by simp
      have HX2 := Lib.hid hX2
      clear hts ho2 hX2
      cases ha
      · have hvv : [Value.bool hh] = [Value.bool (thenH Ta Ha Hb k)] := by rw [HV.out.2]; rfl
        have HVV := Lib.hid hvv
        clear hvv
        go_upto_region 6 with fail
        refine wp_region_growM 19 (by kernel_rfl) (by kernel_rfl) ?_
        simp only [List.take_succ_cons, List.take_zero, List.drop_succ_cons, List.drop_zero, List.take_nil, List.drop_nil]
        iterate 8 ((refine wpGrow_val'M rfl rfl ?_; apply Exists.intro; refine ⟨fun w1 hw1 => ?_, ?_⟩); (have hc1 := hw1.cell; go_simp; exact growUpon_ok rfl); (refine wpGrow_atM (by (simp only [Act.put, mval, List.setIfInBounds_toArray, List.set_cons_succ, List.set_cons_zero]) <;> exact rfl) ?_))
        iterate 9 ((refine wpGrow_val'M rfl rfl ?_; apply Exists.intro; refine ⟨fun w1 hw1 => ?_, ?_⟩); (have hc1 := hw1.cell; go_simp; exact growUpon_ok rfl); (refine wpGrow_atM (by (simp only [Act.put, mval, List.setIfInBounds_toArray, List.set_cons_succ, List.set_cons_zero]) <;> exact rfl) ?_))
        ((refine wpGrow_val'M rfl rfl ?_; apply Exists.intro; refine ⟨fun w1 hw1 => ?_, ?_⟩); (have hc1 := hw1.cell; go_simp; exact growUpon_ok rfl); (refine wpGrow_atM (by (simp only [Act.put, mval, List.setIfInBounds_toArray, List.set_cons_succ, List.set_cons_zero]) <;> exact rfl) ?_))
        refine wpGrow_makeM (O := .cells #[.bool hh] 4) (some 1) rfl rfl (fun wm => ?_) (fun b hb hfr => ?_)
        · go_simp
          rfl
        (refine wpGrow_atM (by (simp only [Act.put, mval, List.setIfInBounds_toArray, List.set_cons_succ, List.set_cons_zero]) <;> exact rfl) ?_)
        refine wpGrow_nilM ?_
        intro w5 hD
        have HT5 := Lib.hid (HT2.out.below hD.below)
        have hnb := (hD.at_ _ (List.mem_cons_self ..)).2
        have ho5 := HT5.out.o2
        rw [HX2.out] at ho5
        have HO5 := Lib.hid ho5
        have x1 := cell_of_row w5 x 1 _ _ (0, 0) HT5.out.bx
        simp only [List.getElem?_toArray, List.getElem?_cons_zero, List.getElem?_cons_succ] at x1
        have hsz5 : w.heap.size + 3 ≤ w5.heap.size := by have := HT5.out.b3.lt; omega
        have HNB := Lib.hid hnb
        clear hD ho5 hnb z0 z1 y1 f2 f4 f5
        go_wp2_with (at_builtin; refine wpList_append_lies _ rfl _ _ 58 rfl (w.heap.size + 3) 4 ib (.bool false) 1 1 Try.underlying58 hib hk0' hk1' hk2' rfl (by decide) _ _ _ rfl HO5.out ⟨b, 0, none⟩ 1 1 [.bool hh] rfl rfl (World.news_of_block (fr := (0, 0)) HNB.out) (one_bool _) (by omega) (by unfold maxLen; omega) (by omega) (by omega) _ rfl ?_; intro q2 cap w6 hown hgrow hat hlt6; have hcg := ((HT5.out.preg hgrow).1 1).trans x1; have hfg := (HT5.out.preg hgrow).2 1)
        have hadd := HT5.out.add2g hgrow (by rw [HX2.out]; exact hown) hat
        rw [HX2.out, HVV.out, ← map_range_succ] at hadd
        have HD := Lib.hid hadd
        clear hadd hown hgrow hat x1
        (try go_wp2)
        go_roundw
        case rel => exact ⟨k + 1, _, _, by omega, by go_num, HD.out⟩
        case measure => simp [intOf]; omega
      · have hvv : [Value.bool true] = [Value.bool (thenH Ta Ha Hb k)] := by rw [HV.out.2]; rfl
        have HVV := Lib.hid hvv
        clear hvv
        go_upto_region 6 with fail
        refine wp_region_growM 19 (by kernel_rfl) (by kernel_rfl) ?_
        simp only [List.take_succ_cons, List.take_zero, List.drop_succ_cons, List.drop_zero, List.take_nil, List.drop_nil]
        iterate 8 ((refine wpGrow_val'M rfl rfl ?_; apply Exists.intro; refine ⟨fun w1 hw1 => ?_, ?_⟩); (have hc1 := hw1.cell; go_simp; exact growUpon_ok rfl); (refine wpGrow_atM (by (simp only [Act.put, mval, List.setIfInBounds_toArray, List.set_cons_succ, List.set_cons_zero]) <;> exact rfl) ?_))
        iterate 9 (refine wpGrow_passM rfl ?_; (refine wpGrow_atM (by (simp only [Act.put, mval, List.setIfInBounds_toArray, List.set_cons_succ, List.set_cons_zero]) <;> exact rfl) ?_))
        ((refine wpGrow_val'M rfl rfl ?_; apply Exists.intro; refine ⟨fun w1 hw1 => ?_, ?_⟩); (have hc1 := hw1.cell; go_simp; exact growUpon_ok rfl); (refine wpGrow_atM (by (simp only [Act.put, mval, List.setIfInBounds_toArray, List.set_cons_succ, List.set_cons_zero]) <;> exact rfl) ?_))
        refine wpGrow_makeM (O := .cells #[.bool true] 4) (some 1) rfl rfl (fun wm => ?_) (fun b hb hfr => ?_)
        · go_simp
          rfl
        (refine wpGrow_atM (by (simp only [Act.put, mval, List.setIfInBounds_toArray, List.set_cons_succ, List.set_cons_zero]) <;> exact rfl) ?_)
        refine wpGrow_nilM ?_
        intro w5 hD
        have HT5 := Lib.hid (HT2.out.below hD.below)
        have hnb := (hD.at_ _ (List.mem_cons_self ..)).2
        have ho5 := HT5.out.o2
        rw [HX2.out] at ho5
        have HO5 := Lib.hid ho5
        have x1 := cell_of_row w5 x 1 _ _ (0, 0) HT5.out.bx
        simp only [List.getElem?_toArray, List.getElem?_cons_zero, List.getElem?_cons_succ] at x1
        have hsz5 : w.heap.size + 3 ≤ w5.heap.size := by have := HT5.out.b3.lt; omega
        have HNB := Lib.hid hnb
        clear hD ho5 hnb z0 z1 y1 f2 f4 f5
        go_wp2_with (at_builtin; refine wpList_append_lies _ rfl _ _ 58 rfl (w.heap.size + 3) 4 ib (.bool false) 1 1 Try.underlying58 hib hk0' hk1' hk2' rfl (by decide) _ _ _ rfl HO5.out ⟨b, 0, none⟩ 1 1 [.bool true] rfl rfl (World.news_of_block (fr := (0, 0)) HNB.out) (one_bool _) (by omega) (by unfold maxLen; omega) (by omega) (by omega) _ rfl ?_; intro q2 cap w6 hown hgrow hat hlt6; have hcg := ((HT5.out.preg hgrow).1 1).trans x1; have hfg := (HT5.out.preg hgrow).2 1)
        have hadd := HT5.out.add2g hgrow (by rw [HX2.out]; exact hown) hat
        rw [HX2.out, HVV.out, ← map_range_succ] at hadd
        have HD := Lib.hid hadd
        clear hadd hown hgrow hat x1
        (try go_wp2)
        go_roundw
        case rel => exact ⟨k + 1, _, _, by omega, by go_num, HD.out⟩
        case measure => simp [intOf]; omega
    · have e : k = m' := by omega
      subst e
      have r0 := cell_of_row wr (w.heap.size + 2) 0 _ _ (0, 0) hts.b3.vr
      have r1 := cell_of_row wr (w.heap.size + 2) 1 _ _ (0, 0) hts.b3.vr
      simp only [List.getElem?_toArray, List.getElem?_cons_zero, List.getElem?_cons_succ] at r0 r1
      have rf : ∀ o, wr.frozen? ⟨w.heap.size + 2, o, none⟩ = false := fun o => by simp [World.frozen?, hts.b3.vr]
      have hbe : Below w.heap.size w ((wr.setCell ⟨w.heap.size + 2, 0, none⟩ (.slice A1 k c1)).setCell ⟨w.heap.size + 2, 1, none⟩ (.slice A2 k c2)) := (hts.b3.bel.setCell (by show w.heap.size ≤ w.heap.size + 2; omega) _).setCell (by show w.heap.size ≤ w.heap.size + 2; omega) _
      have ho1 := hts.o1
      have ho2 := hts.o2
      simp only [List.length_map, List.length_range] at ho1 ho2
      have hc : ∀ y o, y ≠ w.heap.size + 2 → ((wr.setCell ⟨w.heap.size + 2, 0, none⟩ (.slice A1 k c1)).setCell ⟨w.heap.size + 2, 1, none⟩ (.slice A2 k c2)).cell? ⟨y, o, none⟩ = wr.cell? ⟨y, o, none⟩ := fun y o hy => by
        rw [World.cell?_of_block (a := ⟨y, o, none⟩) (heap_setCell_other _ _ _ _ hy), World.cell?_of_block (a := ⟨y, o, none⟩) (heap_setCell_other _ _ _ _ hy)]
      have hfun : FunAt ((wr.setCell ⟨w.heap.size + 2, 0, none⟩ (.slice A1 k c1)).setCell ⟨w.heap.size + 2, 1, none⟩ (.slice A2 k c2)) A1 k A2 k (thenTs k Ta Tb) (thenHs k Ta Ha Hb) := by
        refine ⟨by simp [thenTs], by simp [thenHs], fun hn => ?_, fun hn => ?_⟩
        · obtain ⟨A', c', e, _, hs⟩ := SlAt.of_own ho1
          cases e
          obtain ⟨b', off', rfl, hb', hc'⟩ := hs hn
          have hge : w.heap.size + 3 ≤ b' := (ho1.lt b' rfl).1
          refine ⟨b', off', rfl, by simpa using hb', fun i hi => ?_⟩
          rw [hc b' _ (by omega)]
          have := hc' i 0 hi (by omega)
          rw [Nat.mul_one, Nat.add_zero] at this
          rw [this]
          simp [iv, thenTs, hi]
        · obtain ⟨A', c', e, _, hs⟩ := SlAt.of_own ho2
          cases e
          obtain ⟨b', off', rfl, hb', hc'⟩ := hs hn
          have hge : w.heap.size + 3 ≤ b' := (ho2.lt b' rfl).1
          refine ⟨b', off', rfl, by simpa using hb', fun i hi => ?_⟩
          rw [hc b' _ (by omega)]
          have := hc' i 0 hi (by omega)
          rw [Nat.mul_one, Nat.add_zero] at this
          rw [this]
          simp [bv, thenHs, hi]
      have HX := Lib.hid (And.intro hbe hfun)
      clear hbe hfun hts ho1 ho2 hc
      go_wp2
      refine bodyPost_ret (v := .agg #[.slice A1 k c1, .slice A2 k c2]) ?_ rfl ⟨A1, A2, c1, c2, rfl, HX.out.2, HX.out.1⟩
      simp [results, Try.results39, go_sem, *]
end Go.Proofs.Ytloljnpnoohglaa.Vec
