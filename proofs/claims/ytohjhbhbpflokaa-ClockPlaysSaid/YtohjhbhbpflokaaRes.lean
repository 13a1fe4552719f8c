
/- What lies in memory with a footprint and a state; calls that take a state to another; the class of worlds that a drawn region goes through. -/
import Derived.Test.YtohjhbhbpflokaaFr
import Derived.Test.YtohjhbhbpflokaaThr
namespace Go.Proofs.Ytohjhbhbpflokaa
set_option linter.unusedSimpArgs false
set_option linter.unusedVariables false
open Go Go.RowKit

structure Res (σ : Type) where
  at_ : World → (Nat → Prop) → σ → Prop
  below : ∀ {w w' F s}, at_ w F s → Below w.heap.size w w' → at_ w' F s
  lt : ∀ {w F s}, at_ w F s → ∀ b, F b → b < w.heap.size

section
variable {σ : Type} {P : Program} {R : Res σ} {w w' W : World} {F F' F0 : Nat → Prop} {s s' : σ}
/-- A call takes a state to another, and leaves what is not the resource's as it was. -/
def Does (P : Program) (R : Res σ) (f : FuncId) (args : Array Value) (s : σ) (Post : Value → σ → Prop) : Prop :=
  ∀ w F, R.at_ w F s → Calls P f args w fun e w' => ∃ v s' F', e = .returned v ∧ Post v s' ∧ R.at_ w' F' s' ∧ Fr w F w' F'
theorem Does.run {f : FuncId} {args : Array Value} {Post : Value → σ → Prop} (h : Does P R f args s Post) (w : World) (F : Nat → Prop) (ha : R.at_ w F s) : Calls P f args w fun e w' => ∃ v s' F', e = .returned v ∧ Post v s' ∧ R.at_ w' F' s' ∧ Fr w F w' F' := h w F ha
theorem Does.mono {f : FuncId} {args : Array Value} {Post Post' : Value → σ → Prop} (h : Does P R f args s Post) (hp : ∀ v s', Post v s' → Post' v s') : Does P R f args s Post' := fun w F ha =>
  (h w F ha).mono fun _ _ ⟨v, s', F', he, h1, h2, h3⟩ => ⟨v, s', F', he, hp v s' h1, h2, h3⟩
/-- a call that only reads, and may leave garbage. -/
theorem Does.of_below {f : FuncId} {args : Array Value} {v : Value} (h : ∀ w F, R.at_ w F s → Calls P f args w fun e w' => e = .returned v ∧ Below w.heap.size w w') : Does P R f args s (fun u s' => u = v ∧ s' = s) := fun w F ha =>
  (h w F ha).mono fun _ _ ⟨he, hb⟩ => ⟨v, s, F, he, ⟨rfl, rfl⟩, R.below ha hb, Fr.of_below hb⟩

/-- the worlds of a region that begins in W. -/
def resCls (R : Res σ) (W : World) (F0 : Nat → Prop) : Cls σ W where
  In := fun s bs w => ∃ F, R.at_ w F s ∧ Fr W F0 w F ∧ ∀ x ∈ bs, W.heap.size ≤ x.1 ∧ w.heap[x.1]? = some x.2 ∧ ¬ F x.1
  below := fun {s bs w w'} ⟨F, h1, h2, h3⟩ hb => ⟨F, R.below h1 hb, h2.trans (Fr.of_below hb), fun x hx => ⟨(h3 x hx).1, (hb.block x.1 (Array.getElem?_eq_some_iff.1 (h3 x hx).2.1).1).trans (h3 x hx).2.1, (h3 x hx).2.2⟩⟩
  alloc := fun {s bs w} O ⟨F, h1, h2, h3⟩ => by
    have hb : Below w.heap.size w (w.alloc O) := (Below.refl _ _).alloc (Nat.le_refl _) O
    refine ⟨F, R.below h1 hb, h2.trans (Fr.of_below hb), fun x hx => ?_⟩
    rcases List.mem_cons.1 hx with rfl | hx
    · exact ⟨h2.size, by show (w.heap.push O)[w.heap.size]? = _; simp, fun hf => absurd (R.lt h1 _ hf) (Nat.lt_irrefl _)⟩
    · exact ⟨(h3 x hx).1, (Below.heap_alloc w O x.1 (Array.getElem?_eq_some_iff.1 (h3 x hx).2.1).1).trans (h3 x hx).2.1, (h3 x hx).2.2⟩
  fresh := fun {s bs w} ⟨F, h1, h2, h3⟩ => ⟨h2.size, fun x hx => (Array.getElem?_eq_some_iff.1 (h3 x hx).2.1).1⟩
  fewer := fun {s bs bs' w} ⟨F, h1, h2, h3⟩ hs => ⟨F, h1, h2, fun x hx => h3 x (hs x hx)⟩

theorem resCls_start (h : R.at_ W F0 s) : (resCls R W F0).In s [] W.drew := by
  have hb : Below W.heap.size W W.drew := (Below.refl _ _).drew
  exact ⟨F0, R.below h hb, Fr.of_below hb, fun x hx => by cases hx⟩
theorem resCls_upon {f : FuncId} {args : Array Value} {Post : Value → σ → Prop} (h : Does P R f args s Post) {bs : Made} (hw : (resCls R W F0).In s bs w) : thrUpon P (resCls R W F0) bs Post w (.ok (.enter f args) w) := by
  obtain ⟨F, h1, h2, h3⟩ := hw
  refine ⟨rfl, (h w F h1).mono fun e w' ⟨v, s', F', he, hp, ha, hf⟩ => ⟨v, s', he, hp, F', ha, h2.trans hf, fun x hx => ?_⟩⟩
  obtain ⟨g1, g2, g3⟩ := h3 x hx
  have hlt := (Array.getElem?_eq_some_iff.1 g2).1
  exact ⟨g1, (hf.keep _ hlt g3).trans g2, hf.out hlt g3⟩
/-- cells that are not the resource's. -/
theorem resCls_cell {bs : Made} (hw : (resCls R W F0).In s bs w) {b : Nat} (hb : b < W.heap.size) (hn : ¬ F0 b) (o : Nat) : w.cell? ⟨b, o, none⟩ = W.cell? ⟨b, o, none⟩ := by
  obtain ⟨F, _, h2, _⟩ := hw
  exact h2.cell hb hn o

/-- a resource, and what holds as long as nothing but the resource changes. -/
def Res.with_ (R : Res σ) (C : World → (Nat → Prop) → Prop) (hC : ∀ {w F w' F'}, C w F → Fr w F w' F' → C w' F') : Res σ where
  at_ := fun w F s => R.at_ w F s ∧ C w F
  below := fun h hb => ⟨R.below h.1 hb, hC h.2 (Fr.of_below hb)⟩
  lt := fun h => R.lt h.1
theorem Does.with_ {C : World → (Nat → Prop) → Prop} {hC : ∀ {w F w' F'}, C w F → Fr w F w' F' → C w' F'} {f : FuncId} {args : Array Value} {Post : Value → σ → Prop} (h : Does P R f args s Post) : Does P (R.with_ C hC) f args s Post := fun w F ha =>
  (h w F ha.1).mono fun _ _ ⟨v, s', F', he, hp, h1, h2⟩ => ⟨v, s', F', he, hp, ⟨h1, hC ha.2 h2⟩, h2⟩
end
end Go.Proofs.Ytohjhbhbpflokaa
