/- Two rows that grow in a variable; bytes as a text. -/
import Derived.Test.YtghghioidllgiaaPkR
import Derived.Test.YtghghioidllgiaaPkH
import Derived.Test.YtghghioidllgiaaPkB
import Derived.Laws.BytesArg
namespace Go.Proofs.Ytghghioidllgiaa.Pk
set_option linter.unusedSimpArgs false
set_option linter.unusedVariables false
open Go Go.RowKit
open Go.Proofs.Ytghghioidllgiaa.Vec (SlI iv bv FunAt Right right_any)
attribute [local go_sem] lt_add1 lt_self1 size_ne size_ne' size_ne1 size_ne1'

/-- bytes as a text. -/
def str (xs : List Nat) : ByteArray := strOfNums (xs.map fun x : Nat => (x : Int))
theorem str_inj {xs ys : List Nat} (hx : ∀ x ∈ xs, x < 256) (hy : ∀ y ∈ ys, y < 256) (h : str xs = str ys) : xs = ys := by
  have e : (str xs).data.toList = (str ys).data.toList := by rw [h]
  unfold str at e
  rw [strOfNums_data, strOfNums_data, List.map_map, List.map_map] at e
  have back : ∀ l : List Nat, (∀ x ∈ l, x < 256) → (l.map ((fun n : Int => UInt8.ofNat n.toNat) ∘ fun x : Nat => (x : Int))).map UInt8.toNat = l := by
    intro l hl
    rw [List.map_map]
    conv => rhs; rw [← List.map_id l]
    refine List.map_congr_left fun x hm => ?_
    have := hl x hm
    simp
    omega
  rw [← back xs hx, ← back ys hy, e]
theorem conv_bytes (w : World) (b o m c : Nat) (xs : List Nat) (hl : xs.length = m) (hcs : ∀ i, i < m → w.cell? ⟨b, o + i, none⟩ = some (yv xs i)) :
    (convert 22 9 (.slice (some ⟨b, o, none⟩) m c)).run Try.prog w = .ok (.string (str xs)) w :=
  run_convert_bytes_arg (P := Try.prog) w 22 5 Try.underlying22 Try.underlying5 b o m c (xs.map fun x : Nat => (x : Int)) (by simpa using hl) (fun i hi => by
    rw [hcs i hi]
    have : i < xs.length := by omega
    simp [yv, List.getD, this]) 9 Try.underlying9
theorem own_bytes {w : World} {base g n c : Nat} {xs : List Nat} (h : w.ownsRow base 5 1 (.slice (some ⟨g, 0, none⟩) n c) n (yb xs)) : xs.length = n ∧ ∀ i, i < n → w.cell? ⟨g, 0 + i, none⟩ = some (yv xs i) := by
  have hl : xs.length = n := by have := h.1; rw [yb_length] at this; omega
  refine ⟨hl, fun i hi => ?_⟩
  rw [Nat.zero_add, h.cellAt i (by omega)]
  have : i < xs.length := by omega
  simp [yb, yv, List.getD, this]
theorem conv_own {w : World} {base g n c : Nat} {xs : List Nat} (h : w.ownsRow base 5 1 (.slice (some ⟨g, 0, none⟩) n c) n (yb xs)) : (convert 22 9 (.slice (some ⟨g, 0, none⟩) n c)).run Try.prog w = .ok (.string (str xs)) w :=
  conv_bytes w g 0 n c xs (own_bytes h).1 (own_bytes h).2
theorem own_sl {w : World} {base g n c : Nat} {xs : List Nat} (h : w.ownsRow base 5 1 (.slice (some ⟨g, 0, none⟩) n c) n (yb xs)) : SlI w w.heap.size n (some ⟨g, 0, none⟩) (yv xs) := fun hn =>
  ⟨g, 0, rfl, (h.lt g rfl).2, (own_bytes h).2⟩
theorem pack_byte (n : Nat) (T : List Int) (H : List Bool) (hn : n ≤ 4096) (hT : ∀ s ∈ T, 0 ≤ s ∧ s < n) : ∀ x ∈ pack n T H, x < 256 := by
  intro x hx
  unfold pack at hx
  rcases List.mem_append.1 hx with hx | hx
  · rcases List.mem_append.1 hx with hx | hx
    · simp at hx; omega
    · unfold ents at hx
      obtain ⟨s, hs, hxs⟩ := List.mem_flatMap.1 hx
      have := hT s (List.mem_of_mem_take hs)
      unfold ent at hxs
      split at hxs
      · simp at hxs; omega
      · simp at hxs; omega
  · obtain ⟨j, _, rfl⟩ := List.mem_map.1 hx
    exact hitb_lt _ _ _

/-- two rows that grow, in a variable; and the result's box. -/
structure Two (B : Nat) (a0 w : World) (x : Nat) (v1 v2 : Value) (X1 X2 : List Value) : Prop where
  box : w.heap[B]? = some (.cells #[.slice none 0 0, .slice none 0 0] 27 (0, 0))
  lx : B < x
  bx : w.heap[x]? = some (.cells #[v1, v2] 27 (0, 0))
  o1 : w.ownsRow (B + 1) 3 1 v1 X1.length X1
  o2 : w.ownsRow (B + 1) 4 1 v2 X2.length X2
  bel : Below B a0 w
theorem own_ty {w : World} {base : Nat} {e : TypeId} {size : Nat} {v : Value} {n : Nat} {xs : List Value} (h : w.ownsRow base e size v n xs) {b : Nat} (hb : v.ownBlock = some b) : ∃ cs, w.heap[b]? = some (.cells cs e (0, 0)) := by
  rcases h.2 with ⟨rfl, _⟩ | ⟨q, cap, cur, rfl, _, hq, _⟩
  · cases hb
  · cases hb; exact ⟨_, hq⟩
theorem own_block {w w' : World} {base : Nat} {e : TypeId} {size : Nat} {v : Value} {n : Nat} {xs : List Value} (h : w.ownsRow base e size v n xs) (hk : ∀ b, v.ownBlock = some b → b < w.heap.size → w'.heap[b]? = w.heap[b]?) : w'.ownsRow base e size v n xs := by
  rcases h.2 with h2 | ⟨q, cap, cur, h1, h2, h3, rest⟩
  · exact ⟨h.1, .inl h2⟩
  · refine ⟨h.1, .inr ⟨q, cap, cur, h1, h2, ?_, rest⟩⟩
    rw [hk q (by rw [h1]; rfl) (Array.getElem?_eq_some_iff.1 h3).1]
    exact h3
section
variable {B : Nat} {a0 w w1 : World} {x q n c cap : Nat} {v1 v2 : Value} {X1 X2 : List Value} {O : Obj} {y : Value}
theorem Two.ne1 (h : Two B a0 w x v1 v2 X1 X2) : v1.ownBlock ≠ some x := fun e => by
  obtain ⟨cs, hc⟩ := own_ty h.o1 e
  rw [h.bx] at hc; cases hc
theorem Two.ne2 (h : Two B a0 w x v1 v2 X1 X2) : v2.ownBlock ≠ some x := fun e => by
  obtain ⟨cs, hc⟩ := own_ty h.o2 e
  rw [h.bx] at hc; cases hc
theorem Two.apart (h : Two B a0 w x v1 v2 X1 X2) {b : Nat} (e1 : v1.ownBlock = some b) : v2.ownBlock ≠ some b := fun e2 => by
  obtain ⟨cs, hc⟩ := own_ty h.o1 e1
  obtain ⟨cs', hc'⟩ := own_ty h.o2 e2
  rw [hc] at hc'; cases hc'
theorem Two.ltx (h : Two B a0 w x v1 v2 X1 X2) : x < w.heap.size := (Array.getElem?_eq_some_iff.1 h.bx).1
theorem Two.below (h : Two B a0 w x v1 v2 X1 X2) (hb : Below w.heap.size w w1) : Two B a0 w1 x v1 v2 X1 X2 :=
  ⟨(hb.block B (Array.getElem?_eq_some_iff.1 h.box).1).trans h.box, h.lx, (hb.block x h.ltx).trans h.bx, own_block h.o1 fun b _ hl => hb.block b hl, own_block h.o2 fun b _ hl => hb.block b hl, h.bel.trans (hb.mono (by have := h.ltx; have := h.lx; omega))⟩
theorem Two.alloc (h : Two B a0 w x v1 v2 X1 X2) (O : Obj) : Two B a0 (w.alloc O) x v1 v2 X1 X2 := h.below ((Below.refl _ _).alloc (Nat.le_refl _) _)
theorem Two.grow (h : Two B a0 w x v1 v2 X1 X2) (i : Nat) {v v' : Value} (hv : v = v1 ∨ v = v2) (hg : w.grownBy w1 v.ownBlock) (u : Value) :
    (∀ o, w1.cell? ⟨x, o, none⟩ = w.cell? ⟨x, o, none⟩) ∧ (∀ o, w1.frozen? ⟨x, o, none⟩ = false) ∧ Below B a0 (w1.setCell ⟨x, i, none⟩ u) ∧ (w1.setCell ⟨x, i, none⟩ u).heap[B]? = some (.cells #[.slice none 0 0, .slice none 0 0] 27 (0, 0)) := by
  have hlx := h.lx
  have hlt := h.ltx
  have hne : v.ownBlock ≠ some x := by rcases hv with rfl | rfl; exact h.ne1; exact h.ne2
  have hge : ∀ b, v.ownBlock = some b → B + 1 ≤ b := fun b hb => by
    rcases hv with rfl | rfl
    · exact (h.o1.lt b hb).1
    · exact (h.o2.lt b hb).1
  have hb : w1.heap[x]? = w.heap[x]? := hg.block x hlt (fun e => hne e.symm)
  refine ⟨fun o => World.cell?_of_block (a := ⟨x, o, none⟩) hb, fun o => by rw [World.frozen?_of_block (a := ⟨x, o, none⟩) hb]; simp [World.frozen?, h.bx], ?_, ?_⟩
  · exact Below.setCell (h.bel.grown hg (by omega) (fun k hk => by have := hge k hk; omega)) (by show B ≤ x; omega) _
  · rw [heap_setCell_other _ _ _ _ (by show B ≠ x; omega)]
    exact (hg.block B (by omega) (fun e => by have := hge B e.symm; omega)).trans h.box
theorem Two.add1 (h : Two B a0 w x v1 v2 X1 X2) (hg : w.grownBy w1 v1.ownBlock) (hown : w1.ownsRow (B + 1) 3 1 (.slice (some ⟨q, 0, none⟩) (X1.length + 1) cap) (X1.length + 1) (X1 ++ [y]))
    (hat : v1.ownBlock = some q ∨ q = w.heap.size) : Two B a0 (w1.setCell ⟨x, 0, none⟩ (.slice (some ⟨q, 0, none⟩) (X1.length + 1) cap)) x (.slice (some ⟨q, 0, none⟩) (X1.length + 1) cap) v2 (X1 ++ [y]) X2 := by
  have hlt := h.ltx
  have hqx : q ≠ x := by
    rcases hat with e | e
    · intro e2; exact h.ne1 (by rw [e, e2])
    · omega
  have hk : ∀ b, b < w.heap.size → v1.ownBlock ≠ some b → w1.heap[b]? = w.heap[b]? := fun b hb hn => hg.block b hb (fun e => hn e.symm)
  obtain ⟨_, _, hbe, hbx⟩ := h.grow 0 (v' := v1) (.inl rfl) hg (.slice (some ⟨q, 0, none⟩) (X1.length + 1) cap)
  refine ⟨hbx, h.lx, ?_, ?_, ?_, hbe⟩
  · rw [heap_setCell_same _ _ _ _ _ _ ((hk x hlt h.ne1).trans h.bx)]; rfl
  · rw [List.length_append]
    exact own_setCell hown (fun e => hqx (by simpa [Value.ownBlock] using e)) _
  · exact own_setCell (own_block h.o2 fun b hb hbl => hk b hbl fun e => h.apart e hb) (fun e => h.ne2 e) _
theorem Two.add2 (h : Two B a0 w x v1 v2 X1 X2) (hg : w.grownBy w1 v2.ownBlock) (hown : w1.ownsRow (B + 1) 4 1 (.slice (some ⟨q, 0, none⟩) (X2.length + 1) cap) (X2.length + 1) (X2 ++ [y]))
    (hat : v2.ownBlock = some q ∨ q = w.heap.size) : Two B a0 (w1.setCell ⟨x, 1, none⟩ (.slice (some ⟨q, 0, none⟩) (X2.length + 1) cap)) x v1 (.slice (some ⟨q, 0, none⟩) (X2.length + 1) cap) X1 (X2 ++ [y]) := by
  have hlt := h.ltx
  have hqx : q ≠ x := by
    rcases hat with e | e
    · intro e2; exact h.ne2 (by rw [e, e2])
    · omega
  have hk : ∀ b, b < w.heap.size → v2.ownBlock ≠ some b → w1.heap[b]? = w.heap[b]? := fun b hb hn => hg.block b hb (fun e => hn e.symm)
  obtain ⟨_, _, hbe, hbx⟩ := h.grow 1 (v' := v2) (.inr rfl) hg (.slice (some ⟨q, 0, none⟩) (X2.length + 1) cap)
  refine ⟨hbx, h.lx, ?_, ?_, ?_, hbe⟩
  · rw [heap_setCell_same _ _ _ _ _ _ ((hk x hlt h.ne2).trans h.bx)]; rfl
  · exact own_setCell (own_block h.o1 fun b hb hbl => hk b hbl fun e => h.apart hb e) (fun e => h.ne1 e) _
  · rw [List.length_append]
    exact own_setCell hown (fun e => hqx (by simpa [Value.ownBlock] using e)) _
end
/-- one number is appended. -/
theorem wp_app1 {ops : Array Oper} {rest : List Oper} {o : Oper} {a : Act} {Q : Exit → Act → World → Prop} (hgd : o.guard = none) (s xo : Operand)
    (ho : o.op = .call { callee := .builtin .append, args := #[s, xo], argTypes := #[24, 24] })
    {B x : Nat} {a0 W : World} {v1 v2 : Value} {X1 X2 : List Value} {N : Nat} (h : Two B a0 W x v1 v2 X1 X2) (hN : X1.length = N) (hb : N ≤ 1000000) (hs : a.eval s = v1) (y : Value) (z : Int) (hy : y = .int .i64 z) (hx : a.eval xo = .slice (some ⟨W.heap.size, 0, none⟩) 1 1)
    (K : ∀ g cap w1, (∀ o, w1.cell? ⟨x, o, none⟩ = W.cell? ⟨x, o, none⟩) → (∀ o, w1.frozen? ⟨x, o, none⟩ = false) → Two B a0 (w1.setCell ⟨x, 0, none⟩ (.slice (some ⟨g, 0, none⟩) (N + 1) cap)) x (.slice (some ⟨g, 0, none⟩) (N + 1) cap) v2 (X1 ++ [.int .i64 z]) X2 → x < w1.heap.size →
      wpList Try.prog ops Q rest (a.put o.dst (.slice (some ⟨g, 0, none⟩) (N + 1) cap)) w1) : wpList Try.prog ops Q (o :: rest) a (W.alloc (.cells #[y] 3)) := by
  obtain ⟨iu, hiu, hu0, hu1, hu2⟩ := info_parts int_info
  subst hN hy
  have hA := h.alloc (.cells #[.int .i64 z] 3)
  have hlx := h.lx
  have hlt := h.ltx
  refine wpList_append_lies _ hgd s xo 24 ho (B + 1) 3 iu (.int .i64 0) 1 8 Try.underlying24 hiu hu0 hu1 hu2 rfl (by decide) v1 X1.length X1 hs hA.o1 ⟨W.heap.size, 0, none⟩ 1 1 [.int .i64 z] hx rfl
    (World.news_of_block (fr := (0, 0)) (heap_alloc_new W _)) (by intro u hu; simp at hu; rcases hu with rfl; rfl) (by omega) (by unfold maxLen; omega) (by omega) (by simp; omega) _ rfl ?_
  intro g cap w1 hown hgrow hat _
  obtain ⟨k1, k2, _, _⟩ := hA.grow 0 (v' := v1) (.inl rfl) hgrow (.slice (some ⟨g, 0, none⟩) (X1.length + 1) cap)
  refine K g cap w1 (fun o => (k1 o).trans ?_) k2 (hA.add1 hgrow hown hat) (by have := hgrow.size; have := hA.ltx; omega)
  exact World.cell?_of_block (a := ⟨x, o, none⟩) (by show (W.heap.push _)[x]? = _; rw [Array.getElem?_push, if_neg (by omega)])
/-- one truth is appended. -/
theorem wp_app2 {ops : Array Oper} {rest : List Oper} {o : Oper} {a : Act} {Q : Exit → Act → World → Prop} (hgd : o.guard = none) (s xo : Operand)
    (ho : o.op = .call { callee := .builtin .append, args := #[s, xo], argTypes := #[25, 25] })
    {B x : Nat} {a0 W : World} {v1 v2 : Value} {X1 X2 : List Value} {N : Nat} (h : Two B a0 W x v1 v2 X1 X2) (hN : X2.length = N) (hb : N ≤ 1000000) (hs : a.eval s = v2) (y : Value) (z : Bool) (hy : y = .bool z) (hx : a.eval xo = .slice (some ⟨W.heap.size, 0, none⟩) 1 1)
    (K : ∀ g cap w1, (∀ o, w1.cell? ⟨x, o, none⟩ = W.cell? ⟨x, o, none⟩) → (∀ o, w1.frozen? ⟨x, o, none⟩ = false) → Two B a0 (w1.setCell ⟨x, 1, none⟩ (.slice (some ⟨g, 0, none⟩) (N + 1) cap)) x v1 (.slice (some ⟨g, 0, none⟩) (N + 1) cap) X1 (X2 ++ [.bool z]) → x < w1.heap.size →
      wpList Try.prog ops Q rest (a.put o.dst (.slice (some ⟨g, 0, none⟩) (N + 1) cap)) w1) : wpList Try.prog ops Q (o :: rest) a (W.alloc (.cells #[y] 4)) := by
  obtain ⟨iu, hiu, hu0, hu1, hu2⟩ := info_parts bool_info
  subst hN hy
  have hA := h.alloc (.cells #[.bool z] 4)
  have hlx := h.lx
  have hlt := h.ltx
  refine wpList_append_lies _ hgd s xo 25 ho (B + 1) 4 iu (.bool false) 1 1 Try.underlying25 hiu hu0 hu1 hu2 rfl (by decide) v2 X2.length X2 hs hA.o2 ⟨W.heap.size, 0, none⟩ 1 1 [.bool z] hx rfl
    (World.news_of_block (fr := (0, 0)) (heap_alloc_new W _)) (by intro u hu; simp at hu; rcases hu with rfl; rfl) (by omega) (by unfold maxLen; omega) (by omega) (by simp; omega) _ rfl ?_
  intro g cap w1 hown hgrow hat _
  obtain ⟨k1, k2, _, _⟩ := hA.grow 1 (v' := v2) (.inr rfl) hgrow (.slice (some ⟨g, 0, none⟩) (X2.length + 1) cap)
  refine K g cap w1 (fun o => (k1 o).trans ?_) k2 (hA.add2 hgrow hown hat) (by have := hgrow.size; have := hA.ltx; omega)
  exact World.cell?_of_block (a := ⟨x, o, none⟩) (by show (W.heap.push _)[x]? = _; rw [Array.getElem?_push, if_neg (by omega)])
end Go.Proofs.Ytghghioidllgiaa.Pk
