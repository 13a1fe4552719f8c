/- What deeds make: the words of Build's contract. -/
import Derived.Test.YtkcocdpmangcgaaMade
namespace Go.Proofs.Ytkcocdpmangcgaa.Ar
set_option linter.unusedSimpArgs false
set_option linter.unusedVariables false
open Go Go.RowKit
attribute [local go_sem] lt_add1 lt_self1 size_ne size_ne' size_ne1 size_ne1'

structure Deed where
  leaf : Bool
  a : Int
  b : Int
  c : Int
def Deed.zero : Deed := ⟨false, 0, 0, 0⟩
instance : Inhabited Deed := ⟨Deed.zero⟩
def dcells (d : Deed) : List Value := [.bool d.leaf, .int .i64 d.a, .int .i64 d.b, .int .i64 d.c]
theorem mcells_length (k : Knot) : (mcells k).length = 5 := rfl
theorem made_info : (Try.prog.info? 112).map (fun i => (i.zero, i.size, i.bytes)) = some (some (.agg #[.int .i64 0, .int .i64 0, .int .i64 0, .int .i64 0, .int .i64 0]), 5, 40) := by kernel_rfl

/-- an arena, and beside it the row of what was made. -/
structure Half (w : World) (B g : Nat) (r : Option Nat) (ks' : List Knot) (v : Value) (ks : List Knot) : Prop where
  ar : Arena w g r ks'
  row : w.ownsRow B 112 5 v ks.length (ks.flatMap mcells)
  apart : ∀ b, v.ownBlock = some b → ¬ foot g r b
  ge : ∀ b, foot g r b → B ≤ b
section
variable {w w' : World} {B g : Nat} {r r' : Option Nat} {ks ks' ks'' : List Knot} {v : Value}
theorem Half.below (h : Half w B g r ks' v ks) (hb : Below w.heap.size w w') : Half w' B g r ks' v ks := ⟨h.ar.below hb, own_below h.row hb, h.apart, h.ge⟩
theorem Half.step (h : Half w B g r ks' v ks) (hB : B ≤ w.heap.size) (ha : Arena w' g r' ks'') (hf : Fr w (foot g r) w' (foot g r')) : Half w' B g r' ks'' v ks :=
  ⟨ha, hf.own h.row h.apart, fun b hb => hf.out (h.row.lt b hb).2 (h.apart b hb), hf.ge h.ge hB⟩
theorem Half.app {q cap : Nat} {k : Knot} (h : Half w B g r ks' v ks) (hr : w'.ownsRow B 112 5 (.slice (some ⟨q, 0, none⟩) (ks.length + 1) cap) (ks.length + 1) (ks.flatMap mcells ++ mcells k)) (hg : w.grownBy w' v.ownBlock) (hat : v.ownBlock = some q ∨ q = w.heap.size) :
    Half w' B g r ks' (.slice (some ⟨q, 0, none⟩) (ks.length + 1) cap) (ks ++ [k]) := by
  have hfl : ∀ b, foot g r b → b < w.heap.size := fun b hb => hb.elim (fun e => e ▸ h.ar.lt) (fun e => h.ar.row_lt e)
  have hfn : ∀ b, foot g r b → ¬ v.ownBlock = some b := fun b hb e => h.apart b e hb
  refine ⟨?_, ?_, fun b hb hf => ?_, h.ge⟩
  · exact h.ar.keep (F := fun b => v.ownBlock = some b) (F' := fun _ => False) ⟨hg.os, hg.tape, hg.output, hg.size, fun b hl hn => hg.block b hl (fun e => hn e.symm), fun _ h => h.elim⟩ hfn
  · rw [List.length_append, List.flatMap_append, List.flatMap_cons, List.flatMap_nil, List.append_nil]; exact hr
  · simp [Value.ownBlock] at hb
    subst hb
    rcases hat with e | e
    · exact h.apart _ e hf
    · have := hfl _ hf; omega
theorem Half.made (h : Half w B g r ks' v ks) : ∃ A c, v = .slice A ks.length c ∧ madeAt w A ks := by
  obtain ⟨A, c, rfl, _, hs⟩ := SlAt.of_own h.row
  exact ⟨A, c, rfl, hs.congr fun i j hi hj => rows_getD mcells Knot.zero mcells_length ks i j hi hj⟩
theorem Half.made' {A : Option Addr} {n c : Nat} (h : Half w B g r ks' (.slice A n c) ks) : madeAt w A ks := by
  obtain ⟨A', c', e, hm⟩ := h.made
  cases e
  exact hm
theorem Half.fresh (h : Half w B g r ks' v ks) {b : Nat} (hb : w.heap.size ≤ b) : ¬ foot g r b := fun hf => by
  rcases hf with rfl | e
  · have := h.ar.lt; omega
  · have := h.ar.row_lt e; omega
end

theorem WF.long {ks : List Knot} (h : WF ks) : ∀ i, i < ks.length → (ks.getD i Knot.zero).len ≤ 1048576 * (ks.getD i Knot.zero).leaves := by
  intro i
  induction i using Nat.strongRecOn with
  | _ i ih =>
    intro hi
    rcases h i hi with hl | ⟨l, r, hp⟩
    · obtain ⟨_, _, _, h1, h2, _, h3, h4, h5, h6⟩ := hl
      omega
    · obtain ⟨_, _, hl, hr, _, h1, h2, h3, h4, h5⟩ := hp
      have a := ih l hl (by omega)
      have b := ih r hr (by omega)
      omega

/-- what Build hands back. -/
def Built (w w' : World) (v : Value) : Prop := ∃ g r ks B c, v = .tuple #[.pointer (some ⟨g, 0, none⟩), .slice B ks.length c, .int .i64 0] ∧ Half w' w.heap.size g r ks (.slice B ks.length c) ks ∧ WF ks ∧ ks.length ≤ 60 ∧ Below w.heap.size w w'
end Go.Proofs.Ytkcocdpmangcgaa.Ar
