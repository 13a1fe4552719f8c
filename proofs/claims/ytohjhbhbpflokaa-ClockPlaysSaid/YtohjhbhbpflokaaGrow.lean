
/- A region that draws its order, whose operations read, call functions that leave what was there as it was, and make variables; stores at its end: one walk in the order of the text serves every order. -/
import Derived.Test.YtohjhbhbpflokaaKit
import Derived.Orders
import Derived.Still
import Derived.Deep.QuietTactic
namespace Go.Proofs.Ytohjhbhbpflokaa
set_option linter.unusedSimpArgs false
set_option linter.unusedVariables false
open Go Go.RowKit

section
variable {P : Program} {ops : Array Oper} {md : Region.Mode} {W : World}

/-- The worlds that the region may come to: what stood in W is as it was; the new variables stand there, each with its first value. -/
structure InD (W : World) (bs : List (Nat × Obj)) (w : World) : Prop where
  below : Below W.heap.size W w
  at_ : ∀ x ∈ bs, W.heap.size ≤ x.1 ∧ w.heap[x.1]? = some x.2

theorem InD.lt {bs : List (Nat × Obj)} {w : World} (h : InD W bs w) {x : Nat × Obj} (hx : x ∈ bs) : x.1 < w.heap.size := (Array.getElem?_eq_some_iff.1 (h.at_ x hx).2).1
theorem InD.grow {bs : List (Nat × Obj)} {w w' : World} (h : InD W bs w) (hb : Below w.heap.size w w') : InD W bs w' :=
  ⟨h.below.trans (hb.mono h.below.size), fun x hx => ⟨(h.at_ x hx).1, (hb.block x.1 (h.lt hx)).trans (h.at_ x hx).2⟩⟩
theorem InD.add {bs : List (Nat × Obj)} {w : World} (h : InD W bs w) (O : Obj) : InD W ((w.heap.size, O) :: bs) (w.alloc O) := by
  refine ⟨h.below.alloc h.below.size O, fun x hx => ?_⟩
  rcases List.mem_cons.1 hx with rfl | hx
  · exact ⟨h.below.size, by show (w.heap.push O)[w.heap.size]? = _; simp⟩
  · exact ⟨(h.at_ x hx).1, (Below.heap_alloc w O x.1 (h.lt hx)).trans (h.at_ x hx).2⟩
theorem InD.fewer {bs bs' : List (Nat × Obj)} {w : World} (h : InD W bs w) (hs : ∀ x ∈ bs', x ∈ bs) : InD W bs' w := ⟨h.below, fun x hx => h.at_ x (hs x hx)⟩

/-- Does an operation make a variable? Does it store? -/
def isMaker (o : Oper) : Bool := match o.op with | .alloc _ => true | _ => false
def isStore (o : Oper) : Bool := match o.op with | .store .. => true | _ => false
/-- What it makes. -/
def makes (P : Program) (o : Oper) : Option Obj := match o.op with | .alloc T => (P.info? T).bind fun i => i.zero.map fun z => .cells z.cells T | _ => none

theorem run_maker {o : Oper} {O : Obj} (h : makes P o = some O) (ρ : Operand → Value) (w : World) : (execOp ρ o).run P w = .ok (.value (.pointer (some ⟨w.heap.size, 0, none⟩))) (w.alloc O) := by
  obtain ⟨dst, op, type, pos, after, guard⟩ := o
  cases op <;> simp only [makes] at h <;> try cases h
  case alloc T =>
    cases hi : P.info? T with
    | none => rw [hi] at h; cases h
    | some i =>
      rw [hi] at h
      cases hz : i.zero with
      | none => simp [hz] at h
      | some z =>
        simp [hz] at h
        subst h
        simp [execOp, Instr.alloc, zeroValue, typeInfo, hi, hz, newVar, go_sem]

/-- What is asked of an operation that yields the value v in the world w. -/
def growUpon (P : Program) (w : World) (v : Value) : Result Next → Prop
  | .ok (.value u) w' => u = v ∧ Below w.heap.size w w'
  | .ok .skip w' => v = undef ∧ Below w.heap.size w w'
  | .ok (.enter f args) w' => w' = w ∧ Calls P f args w (fun e w'' => e = .returned v ∧ Below w.heap.size w w'')
  | _ => False

/-- ONE VALUE IN EVERY WORLD OF THE CLASS; or a new variable, wherever it comes to lie. -/
def growOp (P : Program) (W : World) (o : Oper) (a : Act) (bs : List (Nat × Obj)) (K : Act → List (Nat × Obj) → Prop) : Prop :=
  if isMaker o then ∃ O, makes P o = some O ∧ ∀ b, W.heap.size ≤ b → (∀ x ∈ bs, x.1 ≠ b) → K (a.put o.dst (.pointer (some ⟨b, 0, none⟩))) ((b, O) :: bs)
  else ∃ v, (∀ w, InD W bs w → growUpon P w v ((execOp a.eval o).run P w)) ∧ K (a.put o.dst v) bs

def gOp (P : Program) (ops : Array Oper) (W : World) (j : Nat) (K : Act → List (Nat × Obj) → Prop) (a : Act) (bs : List (Nat × Obj)) : Prop :=
  match ops[j]? with
  | none => K a bs
  | some o => if Region.wanted o (yielded ops a.tmps) then growOp P W o a bs K else K (a.put o.dst undef) bs

theorem growOp_mono {o : Oper} {a : Act} {bs : List (Nat × Obj)} {K K' : Act → List (Nat × Obj) → Prop} (h : ∀ a bs, K a bs → K' a bs) (hh : growOp P W o a bs K) : growOp P W o a bs K' := by
  unfold growOp at *
  split
  · rename_i hm; simp only [hm, if_true] at hh; obtain ⟨O, h1, h2⟩ := hh; exact ⟨O, h1, fun b hb hf => h _ _ (h2 b hb hf)⟩
  · rename_i hm; simp only [hm] at hh; obtain ⟨v, h1, h2⟩ := hh; exact ⟨v, h1, h _ _ h2⟩

theorem gOp_mono {j : Nat} {a : Act} {bs : List (Nat × Obj)} {K K' : Act → List (Nat × Obj) → Prop} (h : ∀ a bs, K a bs → K' a bs) (hh : gOp P ops W j K a bs) : gOp P ops W j K' a bs := by
  unfold gOp at *
  split
  · rename_i ho; simp only [ho] at hh; exact h _ _ hh
  · rename_i o ho
    simp only [ho] at hh
    split
    · rename_i hw; simp only [hw, if_true] at hh; exact growOp_mono h hh
    · rename_i hw; simp only [hw] at hh; exact h _ _ hh

/-- The walk in the order of the text. -/
def wpGrow (P : Program) (ops : Array Oper) (W : World) (Q : Act → List (Nat × Obj) → Prop) : List Oper → Act → List (Nat × Obj) → Prop
  | [], a, bs => Q a bs
  | o :: rest, a, bs => if Region.wanted o (yielded ops a.tmps) then growOp P W o a bs (wpGrow P ops W Q rest) else wpGrow P ops W Q rest (a.put o.dst undef) bs

/-- Whatever order is picked, up to the stores. -/
def anyG (P : Program) (md : Region.Mode) (ops : Array Oper) (W : World) (Q : Array Bool → Act → List (Nat × Obj) → Prop) : Nat → Array Bool → Act → List (Nat × Obj) → Prop
  | 0, listed, a, bs => (∀ j ∈ Region.ready md ops listed, ((ops[j]?).map isStore).getD false = true) ∧ Q listed a bs
  | fuel + 1, listed, a, bs => Region.ready md ops listed ≠ [] ∧ ∀ j ∈ Region.ready md ops listed, gOp P ops W j (anyG P md ops W Q fuel (listed.setIfInBounds j true)) a bs

theorem wpOp_of_gOp {j : Nat} {a : Act} {bs : List (Nat × Obj)} {w : World} {K : Act → List (Nat × Obj) → Prop} {K' : Act → World → Prop} {Q' : Exit → Act → World → Prop} (hD : InD W bs w)
    (h : ∀ a' bs' w', InD W bs' w' → K a' bs' → K' a' w') (hh : gOp P ops W j K a bs) : wpOp P ops Q' j K' a w := by
  unfold gOp at hh
  unfold wpOp
  split
  · rename_i ho; simp only [ho] at hh; exact h _ _ _ hD hh
  · rename_i o ho
    simp only [ho] at hh
    split
    · rename_i hw
      simp only [hw, if_true] at hh
      refine .inl ?_
      unfold growOp at hh
      split at hh
      · obtain ⟨O, h1, h2⟩ := hh
        unfold Oper.wp
        rw [run_maker h1]
        exact h _ _ _ (hD.add O) (h2 _ hD.below.size fun x hx => Nat.ne_of_lt (hD.lt hx))
      · obtain ⟨v, h1, h2⟩ := hh
        have h3 := h1 w hD
        unfold Oper.wp
        generalize (execOp a.eval o).run P w = r at *
        cases r with
        | ok n w' =>
          cases n <;> simp only [growUpon] at h3 <;> simp only [Oper.upon]
          case value u => obtain ⟨rfl, hb⟩ := h3; exact h _ _ _ (hD.grow hb) h2
          case skip => obtain ⟨e, hb⟩ := h3; rw [← e]; exact h _ _ _ (hD.grow hb) h2
          case enter f args =>
            obtain ⟨rfl, hc⟩ := h3
            exact hc.mono fun e w'' ⟨he, hb⟩ => by subst he; exact h _ _ _ (hD.grow hb) h2
        | halt x w' => simp only [growUpon] at h3
    · rename_i hw; simp only [hw] at hh; exact h _ _ _ hD hh

theorem wpAny_of_anyG {Q : Array Bool → Act → List (Nat × Obj) → Prop} {Q' : Exit → Act → World → Prop} {nB : Nat} (hQ : ∀ listed a bs w, InD W bs w → Q listed a bs → wpAny P md ops Q' nB listed a w) :
    ∀ (fuel : Nat) (listed : Array Bool) (a : Act) (bs : List (Nat × Obj)) (w : World), InD W bs w → anyG P md ops W Q fuel listed a bs → wpAny P md ops Q' (fuel + nB) listed a w
  | 0, listed, a, bs, w, hD, h => by rw [Nat.zero_add]; exact hQ _ _ _ _ hD h.2
  | fuel + 1, listed, a, bs, w, hD, h => by
    rw [show fuel + 1 + nB = (fuel + nB) + 1 from by omega]
    exact ⟨fun h0 => absurd h0 h.1, fun i hi => wpOp_of_gOp hD (fun a' bs' w' hD' => wpAny_of_anyG hQ fuel _ a' bs' w' hD') (h.2 i hi)⟩

/-- Which operations come behind number i in every order. -/
def waitsOn (md : Region.Mode) (ops : Array Oper) (i : Nat) : Nat → List Nat
  | 0 => []
  | n + 1 => let l := waitsOn md ops i n; match ops[n]? with
    | some o => if o.after.any (fun e => Region.binds md e && (e.on == i || (l.contains e.on && decide (e.on < n)))) then n :: l else l
    | none => l

/-- What is listed has all listed that it waits for. -/
def Closed (md : Region.Mode) (ops : Array Oper) (listed : Array Bool) : Prop :=
  ∀ (j : Nat) (o : Oper), ops[j]? = some o → listed.getD j false = true → ∀ e ∈ o.after, Region.binds md e = true → listed.getD e.on false = true

theorem Closed.set {listed : Array Bool} (h : Closed md ops listed) {i : Nat} (hi : i ∈ Region.ready md ops listed) : Closed md ops (listed.setIfInBounds i true) := by
  intro j o ho hj e he hb
  obtain ⟨_, oi, hoi, hall⟩ := mem_ready.1 hi
  by_cases hji : j = i
  · subst hji
    rw [hoi] at ho
    cases ho
    exact getD_set_true (hall e he hb)
  · rw [getD_set_ne false (Ne.symm hji)] at hj
    exact getD_set_true (h j o ho hj e he hb)

theorem getD_ne_of_true {listed : Array Bool} {i : Nat} (h : listed.getD i true = false) : listed.getD i false = false := by
  rcases Nat.lt_or_ge i listed.size with h' | h'
  · simp [h'] at h ⊢; exact h
  · simp [Array.getElem?_eq_none h'] at h

theorem waitsOn_spec {i : Nat} {listed : Array Bool} (hc : Closed md ops listed) (hi : listed.getD i false = false) : ∀ (n : Nat) (j : Nat), j ∈ waitsOn md ops i n → listed.getD j false = false ∧ j ∉ Region.ready md ops listed
  | 0, j, h => by simp [waitsOn] at h
  | n + 1, j, h => by
    have ih := waitsOn_spec hc hi n
    unfold waitsOn at h
    cases ho : ops[n]? with
    | none => simp only [ho] at h; exact ih j h
    | some o =>
      simp only [ho] at h
      split at h
      · rename_i hany
        rcases List.mem_cons.1 h with rfl | h
        · obtain ⟨e, he, hb⟩ := Array.any_eq_true'.1 hany
          simp only [Bool.and_eq_true, Bool.or_eq_true, beq_iff_eq, List.contains_iff_mem] at hb
          have hun : listed.getD e.on false = false := by
            rcases hb.2 with h1 | h1
            · rw [h1]; exact hi
            · exact (ih e.on h1.1).1
          constructor
          · cases hl : listed.getD j false with
            | false => rfl
            | true => rw [hc j o ho hl e he hb.1] at hun; cases hun
          · intro hr
            obtain ⟨_, o', ho', hall⟩ := mem_ready.1 hr
            rw [ho] at ho'
            cases ho'
            rw [hall e he hb.1] at hun
            cases hun
        · exact ih j h
      · exact ih j h

/-- In state a an operation yields v in every world of the class. -/
def YieldsG (P : Program) (ops : Array Oper) (W : World) (o : Oper) (v : Value) (a : Act) (bs : List (Nat × Obj)) : Prop :=
  (Region.wanted o (yielded ops a.tmps) = true ∧ isMaker o = false ∧ ∀ w, InD W bs w → growUpon P w v ((execOp a.eval o).run P w)) ∨
  (Region.wanted o (yielded ops a.tmps) = false ∧ v = undef)

theorem YieldsG.gOp {i : Nat} {o : Oper} {v : Value} {a : Act} {bs : List (Nat × Obj)} (hi : ops[i]? = some o) (hy : YieldsG P ops W o v a bs) {K : Act → List (Nat × Obj) → Prop} (h : K (a.put o.dst v) bs) : gOp P ops W i K a bs := by
  unfold Proofs.Ytohjhbhbpflokaa.gOp
  simp only [hi]
  rcases hy with ⟨hw, hm, hv⟩ | ⟨hw, rfl⟩
  · simp only [hw, if_true, growOp, hm, Bool.false_eq_true, if_false]; exact ⟨v, hv, h⟩
  · simp only [hw, Bool.false_eq_true, if_false]; exact h

theorem YieldsG.of_same {o : Oper} {v : Value} {a a' : Act} {bs bs' : List (Nat × Obj)} (hy : YieldsG P ops W o v a bs) (he : execOp a'.eval o = execOp a.eval o)
    (hw : Region.wanted o (yielded ops a'.tmps) = Region.wanted o (yielded ops a.tmps)) (hs : ∀ x ∈ bs, x ∈ bs') : YieldsG P ops W o v a' bs' := by
  unfold YieldsG at *
  rw [he, hw]
  exact hy.imp (fun ⟨h1, h2, h3⟩ => ⟨h1, h2, fun w hD => h3 w (hD.fewer hs)⟩) id

theorem gOp_put {j : Nat} {oi oj : Oper} {v : Value} (hj : ops[j]? = some oj) (hap : oi.apart ops oj = true)
    (hsi : ∀ cs b, oi.op ≠ .select cs b) (hsj : ∀ cs b, oj.op ≠ .select cs b) {K : Act → List (Nat × Obj) → Prop} {a : Act} {bs : List (Nat × Obj)}
    (hy : YieldsG P ops W oi v a bs) (h : gOp P ops W j K (a.put oi.dst v) bs) :
    gOp P ops W j (fun a' bs' => YieldsG P ops W oi v a' bs' ∧ K (a'.put oi.dst v) bs') a bs := by
  obtain ⟨h1, h2, h3⟩ := Oper.apart_spec hap
  have keep : ∀ (u : Value) (bs' : List (Nat × Obj)), (∀ x ∈ bs, x ∈ bs') → YieldsG P ops W oi v (a.put oj.dst u) bs' := fun u bs' hs =>
    hy.of_same (execOp_put oi hsi a oj.dst u h3) (wanted_put oi a oj.dst u h3) hs
  unfold gOp at *
  simp only [hj] at *
  rw [wanted_put oj a oi.dst v h1] at h
  split
  · rename_i hw
    simp only [hw, if_true] at h
    unfold growOp at *
    split
    · rename_i hm
      simp only [hm, if_true] at h
      obtain ⟨O, hO, hn⟩ := h
      refine ⟨O, hO, fun b hb hf => ⟨keep _ _ fun x hx => List.mem_cons_of_mem _ hx, ?_⟩⟩
      rw [← Act.put_comm a v _ h2]
      exact hn b hb hf
    · rename_i hm
      simp only [hm] at h
      obtain ⟨u, hu, hn⟩ := h
      refine ⟨u, fun w hD => ?_, keep u bs fun _ hx => hx, by rw [← Act.put_comm a v u h2]; exact hn⟩
      have := hu w hD
      rwa [execOp_put oj hsj a oi.dst v h1] at this
  · rename_i hw
    simp only [hw] at h
    exact ⟨keep undef bs fun _ hx => hx, by rw [← Act.put_comm a v undef h2]; exact h⟩

/-- An operation that yields one value may be taken first. -/
theorem anyG_first {Q : Array Bool → Act → List (Nat × Obj) → Prop} {i : Nat} {oi : Oper} {v : Value} (hi : ops[i]? = some oi) (hsel : ∀ (j : Nat) (o : Oper) cs b, ops[j]? = some o → o.op ≠ .select cs b)
    (hst : ∀ j o, ops[j]? = some o → isStore o = true → j ≠ i → j ∈ waitsOn md ops i ops.size) :
    ∀ (fuel : Nat) (listed : Array Bool) (a : Act) (bs : List (Nat × Obj)), Closed md ops listed →
      (∀ j oj, ops[j]? = some oj → j ≠ i → listed.getD j true = false → (∀ e ∈ oj.after, Region.binds md e = true → e.on ≠ i) → oi.apart ops oj = true) →
      i ∈ Region.ready md ops listed → YieldsG P ops W oi v a bs →
      anyG P md ops W Q fuel (listed.setIfInBounds i true) (a.put oi.dst v) bs → anyG P md ops W Q (fuel + 1) listed a bs := by
  intro fuel
  induction fuel with
  | zero =>
    intro listed a bs hc _ hr hy H
    refine ⟨fun h => (by rw [h] at hr; cases hr), fun j hj => ?_⟩
    by_cases hji : j = i
    · subst hji; exact hy.gOp hi H
    · have hs := H.1 j (ready_mono hj hji)
      obtain ⟨_, oj, hoj, _⟩ := mem_ready.1 hj
      rw [hoj] at hs
      exact absurd hj (waitsOn_spec hc (getD_ne_of_true (mem_ready.1 hr).1) _ j (hst j oj hoj (by simpa using hs) hji)).2
  | succ fuel ih =>
    intro listed a bs hc hfree hr hy H
    refine ⟨fun h => (by rw [h] at hr; cases hr), fun j hj => ?_⟩
    by_cases hji : j = i
    · subst hji; exact hy.gOp hi H
    · have h1 := H.2 j (ready_mono hj hji)
      obtain ⟨hjun, oj, hoj, hall⟩ := mem_ready.1 hj
      have hnot : ∀ e ∈ oj.after, Region.binds md e = true → e.on ≠ i := fun e he hb heq => by
        have h1 := hall e he hb
        have h0 := (mem_ready.1 hr).1
        rw [heq] at h1
        rw [getD_ne_of_true h0] at h1
        cases h1
      have h2 := gOp_put hoj (hfree j oj hoj hji hjun hnot) (fun cs b => hsel i oi cs b hi) (fun cs b => hsel j oj cs b hoj) hy h1
      have hfree' : ∀ k ok, ops[k]? = some ok → k ≠ i → (listed.setIfInBounds j true).getD k true = false →
          (∀ e ∈ ok.after, Region.binds md e = true → e.on ≠ i) → oi.apart ops ok = true := fun k ok hk hki hun hno => by
        refine hfree k ok hk hki ?_ hno
        by_cases hjk : j = k
        · subst hjk; exact hjun
        · rw [getD_set_ne true hjk] at hun; exact hun
      refine gOp_mono (fun a' bs' h3 => ih (listed.setIfInBounds j true) a' bs' (hc.set hj) hfree' (ready_mono hr (Ne.symm hji)) h3.1 ?_) h2
      rw [Array.setIfInBounds_comm _ _ hji]
      exact h3.2

/-- The same members: the same. -/
theorem anyG_perm {Q : Array Bool → Act → List (Nat × Obj) → Prop} (hQ : ∀ listed a bs bs', (∀ x, x ∈ bs ↔ x ∈ bs') → Q listed a bs → Q listed a bs') :
    ∀ (fuel : Nat) (listed : Array Bool) (a : Act) (bs bs' : List (Nat × Obj)), (∀ x, x ∈ bs ↔ x ∈ bs') → anyG P md ops W Q fuel listed a bs → anyG P md ops W Q fuel listed a bs'
  | 0, _, _, _, _, hp, h => ⟨h.1, hQ _ _ _ _ hp h.2⟩
  | fuel + 1, listed, a, bs, bs', hp, h => by
    refine ⟨h.1, fun j hj => ?_⟩
    have h1 := h.2 j hj
    unfold gOp at *
    split
    · rename_i ho; simp only [ho] at h1; exact anyG_perm hQ fuel _ _ _ _ hp h1
    · rename_i o ho
      simp only [ho] at h1
      split
      · rename_i hw
        simp only [hw, if_true] at h1
        unfold growOp at *
        split
        · rename_i hm
          simp only [hm, if_true] at h1
          obtain ⟨O, hO, hn⟩ := h1
          exact ⟨O, hO, fun b hb hf => anyG_perm hQ fuel _ _ _ _ (fun x => by simp only [List.mem_cons, hp]) (hn b hb fun x hx => hf x ((hp x).1 hx))⟩
        · rename_i hm
          simp only [hm] at h1
          obtain ⟨v, hv, hn⟩ := h1
          exact ⟨v, fun w hD => hv w (hD.fewer fun x hx => (hp x).1 hx), anyG_perm hQ fuel _ _ _ _ hp hn⟩
      · rename_i hw; simp only [hw] at h1; exact anyG_perm hQ fuel _ _ _ _ hp h1

theorem exists_fresh (n : Nat) : ∀ bs : List (Nat × Obj), ∃ b, n ≤ b ∧ ∀ x ∈ bs, x.1 < b
  | [] => ⟨n, Nat.le_refl _, fun x hx => by cases hx⟩
  | y :: bs => by
    obtain ⟨b, hb, hf⟩ := exists_fresh n bs
    refine ⟨max b (y.1 + 1), by omega, fun x hx => ?_⟩
    rcases List.mem_cons.1 hx with rfl | hx
    · omega
    · have := hf x hx; omega

/-- A variable may be made first, where nothing but other variables can come ahead of it. -/
theorem anyG_make {Q : Array Bool → Act → List (Nat × Obj) → Prop} (hQ : ∀ listed a bs bs', (∀ x, x ∈ bs ↔ x ∈ bs') → Q listed a bs → Q listed a bs') {i : Nat} {oi : Oper} {O : Obj}
    (hi : ops[i]? = some oi) (hO : makes P oi = some O) (hm : isMaker oi = true) (hg : ∀ (j : Nat) o, ops[j]? = some o → isMaker o = true → o.guard = none) :
    ∀ (fuel : Nat) (listed : Array Bool) (a : Act) (bs : List (Nat × Obj)), Closed md ops listed →
      (∀ j oj, ops[j]? = some oj → j ≠ i → listed.getD j true = false → (∀ e ∈ oj.after, Region.binds md e = true → e.on ≠ i) → oi.apart ops oj = true) →
      (∀ j oj, ops[j]? = some oj → listed.getD j true = false → isMaker oj = false → j ∈ waitsOn md ops i ops.size) →
      i ∈ Region.ready md ops listed →
      (∀ b, W.heap.size ≤ b → (∀ x ∈ bs, x.1 ≠ b) → anyG P md ops W Q fuel (listed.setIfInBounds i true) (a.put oi.dst (.pointer (some ⟨b, 0, none⟩))) ((b, O) :: bs)) →
      anyG P md ops W Q (fuel + 1) listed a bs := by
  have wanted : ∀ (j : Nat) o, ops[j]? = some o → isMaker o = true → ∀ y, Region.wanted o y = true := fun j o ho h y => by simp [Region.wanted, hg j o ho h]
  intro fuel
  induction fuel with
  | zero =>
    intro listed a bs hc _ hoth hr H
    refine ⟨fun h => (by rw [h] at hr; cases hr), fun j hj => ?_⟩
    by_cases hji : j = i
    · subst hji
      unfold gOp
      simp only [hi, wanted j oi hi hm, if_true, growOp, hm]
      exact ⟨O, hO, H⟩
    · exfalso
      obtain ⟨hjun, oj, hoj, _⟩ := mem_ready.1 hj
      obtain ⟨b, hb, hf⟩ := exists_fresh W.heap.size bs
      have hs := (H b hb fun x hx => Nat.ne_of_lt (hf x hx)).1 j (ready_mono hj hji)
      rw [hoj] at hs
      cases hmj : isMaker oj with
      | true =>
        unfold isMaker at hmj
        unfold isStore at hs
        simp only [Option.map_some, Option.getD_some] at hs
        split at hmj
        · rename_i hop; rw [hop] at hs; cases hs
        · cases hmj
      | false => exact (waitsOn_spec hc (getD_ne_of_true (mem_ready.1 hr).1) _ j (hoth j oj hoj hjun hmj)).2 hj
  | succ fuel ih =>
    intro listed a bs hc hfree hoth hr H
    refine ⟨fun h => (by rw [h] at hr; cases hr), fun j hj => ?_⟩
    by_cases hji : j = i
    · subst hji
      unfold gOp
      simp only [hi, wanted j oi hi hm, if_true, growOp, hm]
      exact ⟨O, hO, H⟩
    · obtain ⟨hjun, oj, hoj, hall⟩ := mem_ready.1 hj
      cases hmj : isMaker oj with
      | false => exact absurd hj (waitsOn_spec hc (getD_ne_of_true (mem_ready.1 hr).1) _ j (hoth j oj hoj hjun hmj)).2
      | true =>
        have hnot : ∀ e ∈ oj.after, Region.binds md e = true → e.on ≠ i := fun e he hb heq => by
          have h1 := hall e he hb
          have h0 := (mem_ready.1 hr).1
          rw [heq] at h1
          rw [getD_ne_of_true h0] at h1
          cases h1
        obtain ⟨_, hap2, _⟩ := Oper.apart_spec (hfree j oj hoj hji hjun hnot)
        have hfree' : ∀ k ok, ops[k]? = some ok → k ≠ i → (listed.setIfInBounds j true).getD k true = false →
            (∀ e ∈ ok.after, Region.binds md e = true → e.on ≠ i) → oi.apart ops ok = true := fun k ok hk hki hun hno => by
          refine hfree k ok hk hki ?_ hno
          by_cases hjk : j = k
          · subst hjk; exact hjun
          · rw [getD_set_ne true hjk] at hun; exact hun
        have hoth' : ∀ k ok, ops[k]? = some ok → (listed.setIfInBounds j true).getD k true = false → isMaker ok = false → k ∈ waitsOn md ops i ops.size := fun k ok hk hun hmk => by
          refine hoth k ok hk ?_ hmk
          by_cases hjk : j = k
          · subst hjk; exact hjun
          · rw [getD_set_ne true hjk] at hun; exact hun
        -- what is made at j
        have first : ∀ b, W.heap.size ≤ b → (∀ x ∈ bs, x.1 ≠ b) → ∃ Oj, makes P oj = some Oj ∧ ∀ c, W.heap.size ≤ c → (∀ x ∈ (b, O) :: bs, x.1 ≠ c) →
            anyG P md ops W Q fuel ((listed.setIfInBounds i true).setIfInBounds j true) ((a.put oi.dst (.pointer (some ⟨b, 0, none⟩))).put oj.dst (.pointer (some ⟨c, 0, none⟩))) ((c, Oj) :: (b, O) :: bs) := fun b hb hf => by
          have h1 := (H b hb hf).2 j (ready_mono hj hji)
          unfold gOp at h1
          simpa only [hoj, wanted j oj hoj hmj, if_true, growOp, hmj] using h1
        obtain ⟨b0, hb0, hf0⟩ := exists_fresh W.heap.size bs
        obtain ⟨Oj, hOj, _⟩ := first b0 hb0 fun x hx => Nat.ne_of_lt (hf0 x hx)
        unfold gOp
        simp only [hoj, wanted j oj hoj hmj, if_true, growOp, hmj]
        refine ⟨Oj, hOj, fun c hcb hcf => ih (listed.setIfInBounds j true) _ _ (hc.set hj) hfree' hoth' (ready_mono hr (Ne.symm hji)) fun b hb hf => ?_⟩
        obtain ⟨Oj', hOj', hn⟩ := first b hb fun x hx => hf x (List.mem_cons_of_mem _ hx)
        rw [hOj] at hOj'
        cases hOj'
        have hbc : b ≠ c := fun e => hf (c, Oj) List.mem_cons_self e.symm
        have h2 := hn c hcb fun x hx => by
          rcases List.mem_cons.1 hx with rfl | hx
          · exact hbc
          · exact hcf x hx
        rw [Array.setIfInBounds_comm _ _ hji, ← Act.put_comm a _ _ hap2]
        exact anyG_perm hQ _ _ _ _ _ (fun x => by simp only [List.mem_cons]; constructor <;> (rintro (h | h | h) <;> simp [h])) h2

/-! ### The order of the text, and the stores at the end -/

def growFrom (md : Region.Mode) (ops : Array Oper) : Nat → Nat → Array Bool → Bool
  | 0, _, listed => (Region.ready md ops listed).all fun j => ((ops[j]?).map isStore).getD false
  | fuel + 1, k, listed => (Region.ready md ops listed).contains k && Region.free md ops listed k &&
      (match ops[k]? with
       | some o => !isMaker o || (List.range ops.size).all fun j => listed.getD j true || ((ops[j]?).map isMaker).getD true || (waitsOn md ops k ops.size).contains j
       | none => false) && growFrom md ops fuel (k + 1) (listed.setIfInBounds k true)
def seqFrom (md : Region.Mode) (ops : Array Oper) : Nat → Nat → Array Bool → Bool
  | 0, _, listed => (Region.ready md ops listed).isEmpty
  | fuel + 1, k, listed => (Region.ready md ops listed == [k]) && seqFrom md ops fuel (k + 1) (listed.setIfInBounds k true)
def listedTo : Nat → Nat → Array Bool → Array Bool
  | 0, _, listed => listed
  | n + 1, k, listed => listedTo n (k + 1) (listed.setIfInBounds k true)
def growB (md : Region.Mode) (ops : Array Oper) (nA : Nat) : Bool :=
  Region.noSelect ops && ((List.range ops.size).all fun j => ((ops[j]?).map fun o => !isMaker o || o.guard.isNone).getD true) &&
  ((List.range nA).all fun i => (List.range ops.size).all fun j => !((ops[j]?).map isStore).getD false || (j == i || (waitsOn md ops i ops.size).contains j)) &&
  growFrom md ops nA 0 (Array.replicate ops.size false) && seqFrom md ops (ops.size - nA) nA (listedTo nA 0 (Array.replicate ops.size false))

theorem anyG_lex {R : Array Bool → Act → List (Nat × Obj) → Prop} (hR : ∀ listed a bs bs', (∀ x, x ∈ bs ↔ x ∈ bs') → R listed a bs → R listed a bs')
    (hsel : Region.noSelect ops = true) (hg : ∀ (j : Nat) o, ops[j]? = some o → isMaker o = true → o.guard = none) (nA : Nat)
    (hst : ∀ i, i < nA → ∀ j o, ops[j]? = some o → isStore o = true → j ≠ i → j ∈ waitsOn md ops i ops.size) :
    ∀ (l : List Oper) (k : Nat) (listed : Array Bool) (a : Act) (bs : List (Nat × Obj)), (∀ j, j < l.length → l[j]? = ops[k + j]?) → k + l.length ≤ nA → Closed md ops listed →
      growFrom md ops l.length k listed = true → wpGrow P ops W (R (listedTo l.length k listed)) l a bs → anyG P md ops W R l.length listed a bs
  | [], k, listed, a, bs, _, _, _, hB, h => by
    refine ⟨?_, h⟩
    simpa [growFrom] using hB
  | o :: l, k, listed, a, bs, hl, hk, hc, hB, h => by
    have h0 : ops[k]? = some o := by simpa using (hl 0 (by simp)).symm
    simp only [List.length_cons, growFrom, h0, Bool.and_eq_true] at hB
    obtain ⟨⟨⟨hr, hf⟩, hmk⟩, hB'⟩ := hB
    have hr' : k ∈ Region.ready md ops listed := by simpa using hr
    simp only [List.length_cons] at hk
    have next : ∀ a' bs', wpGrow P ops W (R (listedTo l.length (k + 1) (listed.setIfInBounds k true))) l a' bs' → anyG P md ops W R l.length (listed.setIfInBounds k true) a' bs' := fun a' bs' hh =>
      anyG_lex hR hsel hg nA hst l (k + 1) _ a' bs' (fun j hj => by have := hl (j + 1) (by simp; omega); simpa [Nat.add_assoc, Nat.add_comm 1 j] using this) (by omega) (hc.set hr') hB' hh
    have hh : if Region.wanted o (yielded ops a.tmps) then growOp P W o a bs (wpGrow P ops W (R (listedTo l.length (k + 1) (listed.setIfInBounds k true))) l)
        else wpGrow P ops W (R (listedTo l.length (k + 1) (listed.setIfInBounds k true))) l (a.put o.dst undef) bs := h
    by_cases hm : isMaker o = true
    · have hw : Region.wanted o (yielded ops a.tmps) = true := by simp [Region.wanted, hg k o h0 hm]
      simp only [hw, if_true, growOp, hm] at hh
      obtain ⟨O, hO, hn⟩ := hh
      refine anyG_make hR h0 hO hm hg l.length listed a bs hc (Region.free_spec h0 hf) (fun j oj hj hun hmj => ?_) hr' fun b hb hfr => next _ _ (hn b hb hfr)
      simp only [hm, Bool.not_true, Bool.false_or, List.all_eq_true, List.mem_range] at hmk
      have := hmk j (Array.getElem?_eq_some_iff.1 hj).1
      simpa [hj, hun, hmj] using this
    · have hy : ∃ v, YieldsG P ops W o v a bs ∧ wpGrow P ops W (R (listedTo l.length (k + 1) (listed.setIfInBounds k true))) l (a.put o.dst v) bs := by
        by_cases hw : Region.wanted o (yielded ops a.tmps) = true
        · simp only [hw, if_true, growOp, hm] at hh
          obtain ⟨v, h1, h2⟩ := hh
          exact ⟨v, .inl ⟨hw, by simpa using hm, h1⟩, h2⟩
        · simp only [hw] at hh
          exact ⟨undef, .inr ⟨by simpa using hw, rfl⟩, hh⟩
      obtain ⟨v, hy, hn⟩ := hy
      exact anyG_first h0 (Region.noSelect_spec hsel) (hst k (by omega)) l.length listed a bs hc (Region.free_spec h0 hf) hr' hy (next _ _ hn)

theorem wpAny_seq {Q : Exit → Act → World → Prop} : ∀ (l : List Oper) (k : Nat) (listed : Array Bool) (a : Act) (w : World), (∀ j, j < l.length → l[j]? = ops[k + j]?) →
    seqFrom md ops l.length k listed = true → wpList P ops Q l a w → wpAny P md ops Q l.length listed a w
  | [], _, _, _, _, _, hB, h => ⟨by simpa [seqFrom] using hB, by simpa [wpList] using h⟩
  | o :: l, k, listed, a, w, hl, hB, h => by
    have h0 : ops[k]? = some o := by simpa using (hl 0 (by simp)).symm
    simp only [List.length_cons, seqFrom, Bool.and_eq_true, beq_iff_eq] at hB
    refine ⟨fun e => (by rw [hB.1] at e; cases e), fun i hi => ?_⟩
    rw [hB.1] at hi
    obtain rfl : i = k := by simpa using hi
    have hs : wpOp P ops Q i (wpList P ops Q l) a w := by unfold wpOp; simp only [h0]; exact h
    exact wpOp_mono (fun a' w' h' => wpAny_seq l (i + 1) _ a' w' (fun j hj => by have := hl (j + 1) (by simp; omega); simpa [Nat.add_assoc, Nat.add_comm 1 j] using this) hB.2 h') hs

/-- **ONE WALK OF THE ORDER OF THE TEXT SERVES EVERY ORDER**: the first nA operations read, call functions that only add to memory, or make variables; the others are stores, one behind the other. -/
theorem wp_region_grow {id : Nat} {Q : Exit → Act → World → Prop} {a : Act} {w : World} {l : List Oper} (nA : Nat) (hm : P.follows .mixedOrders = true) (hB : growB .any l.toArray nA = true)
    (h : wpGrow P l.toArray w (fun a' bs => ∀ w', InD w bs w' → wpList P l.toArray Q (l.drop nA) a' w') (l.take nA) a []) : (Code.region id l.toArray true).wp P Q a w := by
  unfold growB at hB
  simp only [Bool.and_eq_true, List.all_eq_true, List.mem_range] at hB
  obtain ⟨⟨⟨⟨hsel, hgd⟩, hst⟩, hG⟩, hS⟩ := hB
  have hle : nA ≤ l.length := by
    rcases Nat.lt_or_ge l.length nA with hlt | hge
    · exfalso
      have bad : ∀ n k (listed : Array Bool), listed.size = l.length → l.length < k + n → k ≤ l.length → growFrom .any l.toArray n k listed = true → False := by
        intro n
        induction n with
        | zero => intro k listed _ h1 h2 _; omega
        | succ n ih =>
          intro k listed hsz h1 h2 h3
          simp only [growFrom, Bool.and_eq_true] at h3
          obtain ⟨⟨⟨hr, _⟩, _⟩, h4⟩ := h3
          have hk : k < l.length := by
            have := (mem_ready.1 (show k ∈ Region.ready .any l.toArray listed by simpa using hr)).1
            rcases Nat.lt_or_ge k listed.size with h' | h'
            · omega
            · simp [Array.getElem?_eq_none h'] at this
          exact ih (k + 1) _ (by simpa using hsz) (by omega) (by omega) h4
      exact bad nA 0 _ (by simp) (by omega) (by omega) hG
    · exact hge
  have hsz : (l.take nA).length = nA := by simp; omega
  have hsd : (l.drop nA).length = l.length - nA := by simp
  let R : Array Bool → Act → List (Nat × Obj) → Prop := fun listed a bs => ∀ w', InD w bs w' → wpAny P .any l.toArray Q (l.length - nA) listed a w'
  refine wp_region_any hm ?_
  have hcl : Closed .any l.toArray (Array.replicate l.toArray.size false) := fun j o ho hj => by
    exfalso
    rcases Nat.lt_or_ge j l.length with h' | h' <;> simp [h'] at hj
  have hany : anyG P .any l.toArray w R (l.take nA).length (Array.replicate l.toArray.size false) a [] := by
    refine anyG_lex (fun _ _ bs bs' hp hh w' hD => hh w' (hD.fewer fun x hx => (hp x).1 hx)) hsel (fun j o ho hmk => ?_) nA (fun i hi j o ho hs hne => ?_) (l.take nA) 0 _ a [] (fun j hj => ?_) (by omega) hcl (by rw [hsz]; exact hG) ?_
    · have := hgd j (Array.getElem?_eq_some_iff.1 ho).1
      rw [ho] at this
      simp only [Option.map_some, Option.getD_some, hmk, Bool.not_true, Bool.false_or] at this
      simpa using this
    · have := hst i hi j (Array.getElem?_eq_some_iff.1 ho).1
      rw [ho] at this
      simpa [hs, hne] using this
    · simp only [List.length_take] at hj
      rw [List.getElem?_take_of_lt (by omega)]
      simp
    · have mono : ∀ (l' : List Oper) (a' : Act) (bs' : List (Nat × Obj)), wpGrow P l.toArray w (fun a' bs => ∀ w', InD w bs w' → wpList P l.toArray Q (l.drop nA) a' w') l' a' bs' →
          wpGrow P l.toArray w (R (listedTo (l.take nA).length 0 (Array.replicate l.toArray.size false))) l' a' bs' := by
        intro l'
        induction l' with
        | nil =>
          intro a' bs' hh w' hD
          rw [hsz]
          have := wpAny_seq (md := .any) (l.drop nA) nA (listedTo nA 0 (Array.replicate l.toArray.size false)) a' w' (fun j hj => by simp) (by rw [hsd]; simpa using hS) (hh w' hD)
          rwa [hsd] at this
        | cons o l' ih =>
          intro a' bs' hh
          have hh' : if Region.wanted o (yielded l.toArray a'.tmps) then growOp P w o a' bs' (wpGrow P l.toArray w (fun a' bs => ∀ w', InD w bs w' → wpList P l.toArray Q (l.drop nA) a' w') l')
              else wpGrow P l.toArray w (fun a' bs => ∀ w', InD w bs w' → wpList P l.toArray Q (l.drop nA) a' w') l' (a'.put o.dst undef) bs' := hh
          show if _ then _ else _
          split
          · rename_i hw; simp only [hw, if_true] at hh'; exact growOp_mono ih hh'
          · rename_i hw; simp only [hw] at hh'; exact ih _ _ hh'
      exact mono _ _ _ h
  have hfin := wpAny_of_anyG (W := w) (Q := R) (nB := l.length - nA) (Q' := Q) (fun listed a bs w' hD hh => hh w' hD) (l.take nA).length (Array.replicate l.toArray.size false) a [] ({ w with drawn := w.drawn + 1 } : World) ⟨⟨rfl, rfl, rfl, Nat.le_refl _, fun _ _ => rfl⟩, fun x hx => by cases hx⟩ hany
  rw [hsz] at hfin
  have e : nA + (l.length - nA) = l.toArray.size := by simp; omega
  rwa [e] at hfin

/-! ### Steps of the walk -/
theorem wpGrow_val {Q : Act → List (Nat × Obj) → Prop} {o : Oper} {rest : List Oper} {a : Act} {bs : List (Nat × Obj)} (hm : isMaker o = false) (v : Value)
    (hw : Region.wanted o (yielded ops a.tmps) = true) (hv : ∀ w, InD W bs w → growUpon P w v ((execOp a.eval o).run P w)) (h : wpGrow P ops W Q rest (a.put o.dst v) bs) : wpGrow P ops W Q (o :: rest) a bs := by
  show if _ then _ else _
  simp only [hw, if_true, growOp, hm]
  exact ⟨v, hv, h⟩
theorem wpGrow_pass {Q : Act → List (Nat × Obj) → Prop} {o : Oper} {rest : List Oper} {a : Act} {bs : List (Nat × Obj)}
    (hw : Region.wanted o (yielded ops a.tmps) = false) (h : wpGrow P ops W Q rest (a.put o.dst undef) bs) : wpGrow P ops W Q (o :: rest) a bs := by
  show if _ then _ else _
  simp only [hw]
  exact h
theorem wpGrow_make {Q : Act → List (Nat × Obj) → Prop} {o : Oper} {rest : List Oper} {a : Act} {bs : List (Nat × Obj)} {O : Obj} (hg : o.guard = none) (hO : makes P o = some O)
    (h : ∀ b, W.heap.size ≤ b → (∀ x ∈ bs, x.1 ≠ b) → wpGrow P ops W Q rest (a.put o.dst (.pointer (some ⟨b, 0, none⟩))) ((b, O) :: bs)) : wpGrow P ops W Q (o :: rest) a bs := by
  have hm : isMaker o = true := by
    unfold makes at hO
    unfold isMaker
    split at hO
    · rfl
    · cases hO
  show if _ then _ else _
  simp only [show Region.wanted o (yielded ops a.tmps) = true by simp [Region.wanted, hg], if_true, growOp, hm]
  exact ⟨O, hO, h⟩
theorem wpGrow_nil {Q : Act → List (Nat × Obj) → Prop} {a : Act} {bs : List (Nat × Obj)} (h : Q a bs) : wpGrow P ops W Q [] a bs := h
theorem growUpon_ok {w : World} {u v : Value} (h : u = v) : growUpon P w v (.ok (.value u) w) := ⟨h, Below.refl _ _⟩
theorem growUpon_skip {w : World} : growUpon P w undef (.ok .skip w) := ⟨rfl, Below.refl _ _⟩
theorem growUpon_call {w : World} {f : FuncId} {args : Array Value} {v : Value} (h : Calls P f args w (fun e w'' => e = .returned v ∧ Below w.heap.size w w'')) : growUpon P w v (.ok (.enter f args) w) := ⟨rfl, h⟩
theorem InD.cell {bs : List (Nat × Obj)} {w : World} (h : InD W bs w) : ∀ b o, b < W.heap.size → w.cell? ⟨b, o, none⟩ = W.cell? ⟨b, o, none⟩ := fun b o hb => h.below.cell (p := ⟨b, o, none⟩) hb

theorem wpGrow_val' {Q : Act → List (Nat × Obj) → Prop} {o : Oper} {rest : List Oper} {a : Act} {bs : List (Nat × Obj)} (hm : isMaker o = false)
    (hw : Region.wanted o (yielded ops a.tmps) = true) (h : ∃ v, (∀ w, InD W bs w → growUpon P w v ((execOp a.eval o).run P w)) ∧ wpGrow P ops W Q rest (a.put o.dst v) bs) : wpGrow P ops W Q (o :: rest) a bs := by
  obtain ⟨v, h1, h2⟩ := h
  exact wpGrow_val hm v hw h1 h2
theorem wpGrow_at {Q : Act → List (Nat × Obj) → Prop} {l : List Oper} {a a' : Act} {bs : List (Nat × Obj)} (e : a = a') (h : wpGrow P ops W Q l a' bs) : wpGrow P ops W Q l a bs := e ▸ h
/-- A new variable, behind all. -/
theorem InD.new {bs : List (Nat × Obj)} {w : World} (h : InD W bs w) {b : Nat} {cs : Array Value} {t : TypeId} (hx : (b, Obj.cells cs t) ∈ bs) :
    (∀ i, w.cell? ⟨b, i, none⟩ = cs[i]?) ∧ (∀ i, w.frozen? ⟨b, i, none⟩ = false) ∧ W.heap.size ≤ b ∧ b < w.heap.size := by
  have hh := (h.at_ _ hx).2
  refine ⟨fun i => cell_of_row w b i cs t (0, 0) hh, fun i => ?_, (h.at_ _ hx).1, h.lt hx⟩
  simp only at hh
  simp [World.frozen?, hh]

end
end Go.Proofs.Ytohjhbhbpflokaa
