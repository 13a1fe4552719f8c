
/- A knot stored into its own variable, inside a region that draws. -/
import Derived.Test.YtkcocdpmangcgaaSto
import Derived.Test.YtkcocdpmangcgaaBalJ
namespace Go.Proofs.Ytkcocdpmangcgaa.Ar
set_option linter.unusedSimpArgs false
set_option linter.unusedVariables false
open Go Go.RowKit
attribute [local go_sem] lt_add1 lt_self1 size_ne size_ne' size_ne1 size_ne1'
attribute [local irreducible] wpGrow wpThr wpSto

theorem storeK_run {a : Act} {w : World} {o : Oper} {b : Nat} {k : Knot} {p x : Operand} {v0 v1 v2 v3 v4 v5 v6 : Value} (hop : o.op = .store 66 p x)
    (hp : a.eval p = .pointer (some ⟨b, 0, none⟩)) (hx : a.eval x = .agg #[.int .i64 k.left, .int .i64 k.right, .int .i64 k.off, .int .i64 k.len, .int .i64 k.high, .int .i64 k.leaves, .int .i64 k.feeds])
    (h : w.heap[b]? = some (.cells #[v0, v1, v2, v3, v4, v5, v6] 66 (0, 0))) : (execOp a.eval o).run Try.prog w = .ok .skip (setK w b k) := by
  obtain ⟨dst, op, type, pos, after, guard⟩ := o
  simp only at hop
  subst hop
  have hf : ∀ o, w.frozen? ⟨b, o, none⟩ = false := fun o => by simp [World.frozen?, h]
  have z := fun i => cell_of_row w b i _ _ (0, 0) h
  have z0 := z 0
  have z1 := z 1
  have z2 := z 2
  have z3 := z 3
  have z4 := z 4
  have z5 := z 5
  have z6 := z 6
  simp only [List.getElem?_toArray, List.getElem?_cons_zero, List.getElem?_cons_succ] at z0 z1 z2 z3 z4 z5 z6
  clear z h
  unfold execOp
  simp only [hp, hx]
  clear hp hx
  unfold setK
  go_simp
theorem setAt_K {w : World} {b : Nat} {k : Knot} {v0 v1 v2 v3 v4 v5 v6 : Value} (h : w.heap[b]? = some (.cells #[v0, v1, v2, v3, v4, v5, v6] 66 (0, 0))) : SetAt w b (.cells #[.int .i64 k.left, .int .i64 k.right, .int .i64 k.off, .int .i64 k.len, .int .i64 k.high, .int .i64 k.leaves, .int .i64 k.feeds] 66 (0, 0)) (setK w b k) := by
  have hb0 : Below 0 w (setK w b k) := setK_below (Below.refl 0 w) (Nat.zero_le _) k
  exact ⟨hb0.os, hb0.tape, hb0.output, setK_size w b k, fun j hj => setK_other hj k, setK_blk h k⟩
theorem wpSto_storeK {ops : Array Oper} {W : World} {Q : Act → List (Nat × Obj) → Prop} {o : Oper} {rest : List Oper} {a : Act} {bs : List (Nat × Obj)} {b : Nat} {k : Knot} {p x : Operand} {v0 v1 v2 v3 v4 v5 v6 : Value} (hop : o.op = .store 66 p x) (hg : o.guard = none)
    (hp : a.eval p = .pointer (some ⟨b, 0, none⟩)) (hx : a.eval x = .agg #[.int .i64 k.left, .int .i64 k.right, .int .i64 k.off, .int .i64 k.len, .int .i64 k.high, .int .i64 k.leaves, .int .i64 k.feeds])
    (hb : (b, Obj.cells #[v0, v1, v2, v3, v4, v5, v6] 66 (0, 0)) ∈ bs)
    (h : wpSto Try.prog ops W Q rest (a.put o.dst undef) (updB bs b (.cells #[.int .i64 k.left, .int .i64 k.right, .int .i64 k.off, .int .i64 k.len, .int .i64 k.high, .int .i64 k.leaves, .int .i64 k.feeds] 66 (0, 0)))) : wpSto Try.prog ops W Q (o :: rest) a bs :=
  wpSto_store (by unfold isStore; rw [hop]) hg hb (fun w hD => ⟨_, storeK_run hop hp hx (hD.at_ _ hb).2, setAt_K (hD.at_ _ hb).2⟩) h
theorem makes_knot {o : Oper} (h : o.op = .alloc 66) : makes Try.prog o = some (.cells #[.int .i64 0, .int .i64 0, .int .i64 0, .int .i64 0, .int .i64 0, .int .i64 0, .int .i64 0] 66 (0, 0)) := by
  have e : makes Try.prog { o with op := .alloc 66 } = some (.cells #[.int .i64 0, .int .i64 0, .int .i64 0, .int .i64 0, .int .i64 0, .int .i64 0, .int .i64 0] 66 (0, 0)) := by kernel_rfl
  rw [← h] at e
  exact e
theorem wpSto_makeK {ops : Array Oper} {W : World} {Q : Act → List (Nat × Obj) → Prop} {o : Oper} {rest : List Oper} {a : Act} {bs : List (Nat × Obj)} (hg : o.guard = none) (ho : o.op = .alloc 66)
    (h : ∀ b, W.heap.size ≤ b → (∀ x ∈ bs, x.1 ≠ b) → wpSto Try.prog ops W Q rest (a.put o.dst (.pointer (some ⟨b, 0, none⟩))) ((b, .cells #[.int .i64 0, .int .i64 0, .int .i64 0, .int .i64 0, .int .i64 0, .int .i64 0, .int .i64 0] 66 (0, 0)) :: bs)) : wpSto Try.prog ops W Q (o :: rest) a bs :=
  wpSto_make hg (makes_knot ho) h
end Go.Proofs.Ytkcocdpmangcgaa.Ar
