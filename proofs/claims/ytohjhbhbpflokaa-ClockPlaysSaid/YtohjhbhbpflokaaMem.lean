
/- States that are whatever holds of a world and a footprint; appends inside a drawn region. -/
import Derived.Test.YtohjhbhbpflokaaRes
import Derived.Deep.AppendLies
import Derived.ArgAppend
namespace Go.Proofs.Ytohjhbhbpflokaa
set_option linter.unusedSimpArgs false
set_option linter.unusedVariables false
open Go Go.RowKit

/-- what holds of a world and a footprint, and stays where memory is only added. -/
structure PSt where
  at_ : World → (Nat → Prop) → Prop
  below : ∀ {w w' F}, at_ w F → Below w.heap.size w w' → at_ w' F
  lt : ∀ {w F}, at_ w F → ∀ b, F b → b < w.heap.size
def resAny : Res PSt := ⟨fun w F s => s.at_ w F, fun {w w' F s} h hb => s.below h hb, fun {w F s} h => s.lt h⟩
/-- no footprint: what holds of a world. -/
def PSt.of (I : World → Prop) (h : ∀ {w w'}, I w → Below w.heap.size w w' → I w') : PSt := ⟨fun w F => (∀ b, ¬ F b) ∧ I w, fun ⟨h1, h2⟩ hb => ⟨h1, h h2 hb⟩, fun ⟨h1, _⟩ b hb => absurd hb (h1 b)⟩
/-- the footprint is a slice's own row. -/
def PSt.own (v : Value) (I : World → Prop) (h : ∀ {w w'}, I w → Below w.heap.size w w' → I w') (hl : ∀ {w}, I w → ∀ b, v.ownBlock = some b → b < w.heap.size) : PSt :=
  ⟨fun w F => (∀ b, F b ↔ v.ownBlock = some b) ∧ I w, fun ⟨h1, h2⟩ hb => ⟨h1, h h2 hb⟩, fun ⟨h1, h2⟩ b hb => hl h2 b ((h1 b).1 hb)⟩

section
variable {σ : Type} {P : Program} {R : Res σ} {w W : World} {F0 : Nat → Prop} {s : σ} {bs : Made} {Post : Value → σ → Prop}
theorem resCls_run {f : FuncId} {args : Array Value} (hw : (resCls R W F0).In s bs w) (h : ∀ F, R.at_ w F s → Fr W F0 w F → Calls P f args w fun e w' => ∃ v s' F', e = .returned v ∧ Post v s' ∧ R.at_ w' F' s' ∧ Fr w F w' F') :
    thrUpon P (resCls R W F0) bs Post w (.ok (.enter f args) w) := by
  obtain ⟨F, h1, h2, h3⟩ := hw
  refine ⟨rfl, (h F h1 h2).mono fun e w' ⟨v, s', F', he, hp, ha, hf⟩ => ⟨v, s', he, hp, F', ha, h2.trans hf, fun x hx => ?_⟩⟩
  obtain ⟨g1, g2, g3⟩ := h3 x hx
  have hlt := (Array.getElem?_eq_some_iff.1 g2).1
  exact ⟨g1, (hf.keep _ hlt g3).trans g2, hf.out hlt g3⟩
theorem resCls_ok {r : Result Next} (hw : (resCls R W F0).In s bs w) (h : ∀ F, R.at_ w F s → Fr W F0 w F → (∀ x ∈ bs, ¬ F x.1 ∧ w.heap[x.1]? = some x.2) → ∃ u w' s' F', r = .ok (.value u) w' ∧ Post u s' ∧ R.at_ w' F' s' ∧ Fr w F w' F') :
    thrUpon P (resCls R W F0) bs Post w r := by
  obtain ⟨F, h1, h2, h3⟩ := hw
  obtain ⟨u, w', s', F', rfl, hp, ha, hf⟩ := h F h1 h2 (fun x hx => ⟨(h3 x hx).2.2, (h3 x hx).2.1⟩)
  refine ⟨s', hp, F', ha, h2.trans hf, fun x hx => ?_⟩
  obtain ⟨g1, g2, g3⟩ := h3 x hx
  have hlt := (Array.getElem?_eq_some_iff.1 g2).1
  exact ⟨g1, (hf.keep _ hlt g3).trans g2, hf.out hlt g3⟩
/-- where the region began without a footprint: nothing that stood is changed. -/
theorem resCls_below {bs : Made} (h0 : ∀ b, ¬ F0 b) (hw : (resCls R W F0).In s bs w) : Below W.heap.size W w := by
  obtain ⟨F, _, h2, _⟩ := hw
  exact h2.below (Below.refl _ _) (fun b hb => absurd hb (h0 b)) (Nat.le_refl _)
theorem run_exec_append {o : Oper} {a : Act} {s x : Operand} {t : TypeId} {v v2 v' : Value} {w' : World} (ho : o.op = .call { callee := .builtin .append, args := #[s, x], argTypes := #[t, t] }) (hs : a.eval s = v) (hx : a.eval x = v2)
    (hr : (Builtin.append_ #[t, t] o.type #[v, v2]).run P w = .ok v' w') : (execOp a.eval o).run P w = .ok (.value v') w' := by
  unfold execOp
  simp only [ho, resolve, invoke, builtin, Sem.run_bind, Sem.run_pure, Result.andThen_ok, List.map_toArray, List.map_cons, List.map_nil, hs, hx, hr]
end

theorem below_of_grown {w w' : World} (h : w.grownBy w' none) : Below w.heap.size w w' := ⟨h.os, h.tape, h.output, h.size, fun b hb => h.block b hb (by simp)⟩
theorem fr_of_grown {w w' : World} {v v' : Value} (h : w.grownBy w' v.ownBlock) (hat : ∀ b, v'.ownBlock = some b → v.ownBlock = some b ∨ w.heap.size ≤ b) : Fr w (fun b => v.ownBlock = some b) w' (fun b => v'.ownBlock = some b) :=
  ⟨h.os, h.tape, h.output, h.size, fun b hb hn => h.block b hb (fun e => hn e.symm), fun b hb => hat b hb⟩
end Go.Proofs.Ytohjhbhbpflokaa
