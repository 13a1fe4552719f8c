
/- A region that draws its order, with a chain of calls that write: reads that hold in every state, calls one behind the other (each leaves a value and a state), new variables, stores at the end: one walk serves every order. -/
import Derived.Test.YtohjhbhbpflokaaGrow
namespace Go.Proofs.Ytohjhbhbpflokaa
set_option linter.unusedSimpArgs false
set_option linter.unusedVariables false
open Go Go.RowKit

/-- The worlds of a state: closed under what only adds to memory, under new variables, under fewer told ones. -/
structure Cls (σ : Type) (W : World) where
  In : σ → List (Nat × Obj) → World → Prop
  below : ∀ {s bs w w'}, In s bs w → Below w.heap.size w w' → In s bs w'
  alloc : ∀ {s bs w} (O : Obj), In s bs w → In s ((w.heap.size, O) :: bs) (w.alloc O)
  fresh : ∀ {s bs w}, In s bs w → W.heap.size ≤ w.heap.size ∧ ∀ x ∈ bs, x.1 < w.heap.size
  fewer : ∀ {s bs bs' w}, In s bs w → (∀ x ∈ bs', x ∈ bs) → In s bs' w

/-- Is an operation of the chain: a call, an append or a copy, a slice written out? -/
def isFnCall (o : Oper) : Bool := match o.op with
  | .call c => (match c.callee with | .builtin b => (match b with | .append => true | .copy => true | .delete => true | .clear => true | _ => false) | _ => true)
  | .buildSlice _ n _ => n != 0
  | _ => false
/-- Does it make a variable, or an empty slice? -/
def isMk (o : Oper) : Bool := match o.op with | .alloc _ => true | .buildSlice _ n _ => n == 0 | _ => false
def mval : Option Nat → Nat → Value
  | none, b => .pointer (some ⟨b, 0, none⟩)
  | some n, b => .slice (some ⟨b, 0, none⟩) n n
/-- What it makes, whatever the operands. -/
def Mk (P : Program) (o : Oper) (O : Obj) (sh : Option Nat) : Prop := o.guard = none ∧ ∀ (ρ : Operand → Value) (w : World), (execOp ρ o).run P w = .ok (.value (mval sh w.heap.size)) (w.alloc O)
theorem Mk.one {P : Program} {o : Oper} {O O' : Obj} {sh sh' : Option Nat} (w : World) (h : Mk P o O sh) (h' : Mk P o O' sh') : O = O' ∧ sh = sh' := by
  have e := (h.2 (fun _ => undef) w).symm.trans (h'.2 (fun _ => undef) w)
  have e1 : mval sh w.heap.size = mval sh' w.heap.size ∧ w.alloc O = w.alloc O' := by
    injection e with e1 e2
    injection e1 with e1
    exact ⟨e1, e2⟩
  refine ⟨?_, ?_⟩
  · have h2 : (w.alloc O).heap[w.heap.size]? = (w.alloc O').heap[w.heap.size]? := by rw [e1.2]
    rw [heap_alloc_new, heap_alloc_new] at h2
    cases h2; rfl
  · cases sh with
    | none => cases sh' with
      | none => rfl
      | some n => exact absurd e1.1 (by simp [mval])
    | some n => cases sh' with
      | none => exact absurd e1.1 (by simp [mval])
      | some m => have := e1.1; simp [mval] at this; rw [this]
/-- A test by the kernel. -/
def mkB (P : Program) (o : Oper) : Bool := o.guard.isNone && match o.op with
  | .alloc _ => (makes P o).isSome
  | .buildSlice t 0 ps => ps.isEmpty && (match P.underlying t with | some (.slice e) => (P.info? e).isSome | _ => false)
  | _ => false
theorem Mk.alloc {P : Program} {o : Oper} {O : Obj} (hg : o.guard = none) (h : makes P o = some O) : Mk P o O none := ⟨hg, fun ρ w => run_maker h ρ w⟩
theorem Mk.empty {P : Program} {o : Oper} {t e : TypeId} {i : TypeInfo} (hg : o.guard = none) (ho : o.op = .buildSlice t 0 #[]) (ht : P.underlying t = some (.slice e)) (hi : P.info? e = some i) : Mk P o (.cells #[] e) (some 0) := by
  refine ⟨hg, fun ρ w => ?_⟩
  obtain ⟨dst, op, type, pos, after, guard⟩ := o
  simp only at ho
  subst ho
  simp [execOp, Instr.buildSlice, Go.underlying, Go.sizeOf, typeInfo, ht, hi, newRow, Instr.fill, mval, go_sem]
theorem Mk.of_test {P : Program} {o : Oper} (h : mkB P o = true) : ∃ O sh, Mk P o O sh := by
  unfold mkB at h
  simp only [Bool.and_eq_true, Option.isNone_iff_eq_none] at h
  obtain ⟨hg, h⟩ := h
  split at h
  · obtain ⟨O, hO⟩ := Option.isSome_iff_exists.1 h
    exact ⟨O, none, Mk.alloc hg hO⟩
  · rename_i t ps ho
    simp only [Bool.and_eq_true, Array.isEmpty_iff] at h
    obtain ⟨rfl, h⟩ := h
    split at h
    · rename_i e ht
      obtain ⟨i, hi⟩ := Option.isSome_iff_exists.1 h
      exact ⟨_, _, Mk.empty hg ho ht hi⟩
    · cases h
  · cases h

section
variable {σ : Type} {P : Program} {ops : Array Oper} {md : Region.Mode} {W : World} {C : Cls σ W}
abbrev Made := List (Nat × Obj)

/-- What is asked of a call of the chain. -/
def thrUpon (P : Program) (C : Cls σ W) (bs : Made) (Post : Value → σ → Prop) (w : World) : Result Next → Prop
  | .ok (.enter f args) w' => w' = w ∧ Calls P f args w (fun e w'' => ∃ v s', e = .returned v ∧ Post v s' ∧ C.In s' bs w'')
  | .ok (.value u) w' => ∃ s', Post u s' ∧ C.In s' bs w'
  | _ => False

def thrOp (P : Program) (C : Cls σ W) (o : Oper) (a : Act) (s : σ) (bs : Made) (K : Act → σ → Made → Prop) : Prop :=
  if isMk o then ∃ O sh, Mk P o O sh ∧ ∀ b, W.heap.size ≤ b → (∀ x ∈ bs, x.1 ≠ b) → K (a.put o.dst (mval sh b)) s ((b, O) :: bs)
  else if isFnCall o then ∃ Post : Value → σ → Prop, (∀ bs' w, (∀ x ∈ bs, x ∈ bs') → C.In s bs' w → thrUpon P C bs' Post w ((execOp a.eval o).run P w)) ∧ ∀ v s', Post v s' → K (a.put o.dst v) s' bs
  else ∃ v, (∀ s' bs' w, (∀ x ∈ bs, x ∈ bs') → C.In s' bs' w → growUpon P w v ((execOp a.eval o).run P w)) ∧ K (a.put o.dst v) s bs

def gOpT (P : Program) (ops : Array Oper) (C : Cls σ W) (j : Nat) (K : Act → σ → Made → Prop) (a : Act) (s : σ) (bs : Made) : Prop :=
  match ops[j]? with
  | none => K a s bs
  | some o => if Region.wanted o (yielded ops a.tmps) then thrOp P C o a s bs K else K (a.put o.dst undef) s bs

theorem thrOp_mono {o : Oper} {a : Act} {s : σ} {bs : Made} {K K' : Act → σ → Made → Prop} (h : ∀ a s bs, K a s bs → K' a s bs) (hh : thrOp P C o a s bs K) : thrOp P C o a s bs K' := by
  unfold thrOp at *
  split
  · rename_i hm; simp only [hm, if_true] at hh; obtain ⟨O, sh, h1, h2⟩ := hh; exact ⟨O, sh, h1, fun b hb hf => h _ _ _ (h2 b hb hf)⟩
  · rename_i hm
    simp only [hm, Bool.false_eq_true, if_false] at hh
    split
    · rename_i hc; simp only [hc, if_true] at hh; obtain ⟨Post, h1, h2⟩ := hh; exact ⟨Post, h1, fun v s' hp => h _ _ _ (h2 v s' hp)⟩
    · rename_i hc; simp only [hc, Bool.false_eq_true, if_false] at hh; obtain ⟨v, h1, h2⟩ := hh; exact ⟨v, h1, h _ _ _ h2⟩
theorem gOpT_mono {j : Nat} {a : Act} {s : σ} {bs : Made} {K K' : Act → σ → Made → Prop} (h : ∀ a s bs, K a s bs → K' a s bs) (hh : gOpT P ops C j K a s bs) : gOpT P ops C j K' a s bs := by
  unfold gOpT at *
  split
  · rename_i ho; simp only [ho] at hh; exact h _ _ _ hh
  · rename_i o ho
    simp only [ho] at hh
    split
    · rename_i hw; simp only [hw, if_true] at hh; exact thrOp_mono h hh
    · rename_i hw; simp only [hw, Bool.false_eq_true, if_false] at hh; exact h _ _ _ hh

/-- Whatever order is picked. -/
def anyT (P : Program) (md : Region.Mode) (ops : Array Oper) (C : Cls σ W) (Q : Array Bool → Act → σ → Made → Prop) : Nat → Array Bool → Act → σ → Made → Prop
  | 0, listed, a, s, bs => Q listed a s bs
  | fuel + 1, listed, a, s, bs => ∀ j ∈ Region.ready md ops listed, gOpT P ops C j (anyT P md ops C Q fuel (listed.setIfInBounds j true)) a s bs
/-- Up to the stores there is always an operation that is ready. -/
def StrT (md : Region.Mode) (ops : Array Oper) : Nat → Array Bool → Prop
  | 0, listed => ∀ j ∈ Region.ready md ops listed, ((ops[j]?).map isStore).getD false = true
  | fuel + 1, listed => Region.ready md ops listed ≠ [] ∧ ∀ j ∈ Region.ready md ops listed, StrT md ops fuel (listed.setIfInBounds j true)

theorem wpOp_of_gOpT {j : Nat} {a : Act} {s : σ} {bs : Made} {w : World} {K : Act → σ → Made → Prop} {K' : Act → World → Prop} {Q' : Exit → Act → World → Prop} (hD : C.In s bs w)
    (h : ∀ a' s' bs' w', C.In s' bs' w' → K a' s' bs' → K' a' w') (hh : gOpT P ops C j K a s bs) : wpOp P ops Q' j K' a w := by
  unfold gOpT at hh
  unfold wpOp
  split
  · rename_i ho; simp only [ho] at hh; exact h _ _ _ _ hD hh
  · rename_i o ho
    simp only [ho] at hh
    split
    · rename_i hw
      simp only [hw, if_true] at hh
      refine .inl ?_
      unfold thrOp at hh
      split at hh
      · obtain ⟨O, sh, h1, h2⟩ := hh
        unfold Oper.wp
        rw [h1.2]
        have hf := C.fresh hD
        exact h _ _ _ _ (C.alloc O hD) (h2 _ hf.1 fun x hx => Nat.ne_of_lt (hf.2 x hx))
      · split at hh
        · obtain ⟨Post, h1, h2⟩ := hh
          have h3 := h1 bs w (fun _ hx => hx) hD
          unfold Oper.wp
          generalize (execOp a.eval o).run P w = r at *
          cases r with
          | ok n w' =>
            cases n <;> simp only [thrUpon] at h3 <;> simp only [Oper.upon]
            case value u => obtain ⟨s', hp, hb⟩ := h3; exact h _ _ _ _ hb (h2 u s' hp)
            case enter f args =>
              obtain ⟨rfl, hc⟩ := h3
              exact hc.mono fun e w'' ⟨v, s', he, hp, hb⟩ => by subst he; exact h _ _ _ _ hb (h2 v s' hp)
          | halt x w' => simp only [thrUpon] at h3
        · obtain ⟨v, h1, h2⟩ := hh
          have h3 := h1 s bs w (fun _ hx => hx) hD
          unfold Oper.wp
          generalize (execOp a.eval o).run P w = r at *
          cases r with
          | ok n w' =>
            cases n <;> simp only [growUpon] at h3 <;> simp only [Oper.upon]
            case value u => obtain ⟨rfl, hb⟩ := h3; exact h _ _ _ _ (C.below hD hb) h2
            case skip => obtain ⟨e, hb⟩ := h3; rw [← e]; exact h _ _ _ _ (C.below hD hb) h2
            case enter f args =>
              obtain ⟨rfl, hc⟩ := h3
              exact hc.mono fun e w'' ⟨he, hb⟩ => by subst he; exact h _ _ _ _ (C.below hD hb) h2
          | halt x w' => simp only [growUpon] at h3
    · rename_i hw; simp only [hw, Bool.false_eq_true, if_false] at hh; exact h _ _ _ _ hD hh

theorem wpAny_of_anyT {Q : Array Bool → Act → σ → Made → Prop} {Q' : Exit → Act → World → Prop} {nB : Nat} (hQ : ∀ listed a s bs w, C.In s bs w → Q listed a s bs → wpAny P md ops Q' nB listed a w) :
    ∀ (fuel : Nat) (listed : Array Bool) (a : Act) (s : σ) (bs : Made) (w : World), C.In s bs w → StrT md ops fuel listed → anyT P md ops C Q fuel listed a s bs → wpAny P md ops Q' (fuel + nB) listed a w
  | 0, listed, a, s, bs, w, hD, _, h => by rw [Nat.zero_add]; exact hQ _ _ _ _ _ hD h
  | fuel + 1, listed, a, s, bs, w, hD, hS, h => by
    rw [show fuel + 1 + nB = (fuel + nB) + 1 from by omega]
    exact ⟨fun h0 => absurd h0 hS.1, fun i hi => wpOp_of_gOpT hD (fun a' s' bs' w' hD' => wpAny_of_anyT hQ fuel _ a' s' bs' w' hD' (hS.2 i hi)) (h i hi)⟩

theorem StrT_first {i : Nat} (hst : ∀ j o, ops[j]? = some o → isStore o = true → j ≠ i → j ∈ waitsOn md ops i ops.size) :
    ∀ (fuel : Nat) (listed : Array Bool), Closed md ops listed → i ∈ Region.ready md ops listed → StrT md ops fuel (listed.setIfInBounds i true) → StrT md ops (fuel + 1) listed := by
  intro fuel
  induction fuel with
  | zero =>
    intro listed hc hr H
    refine ⟨fun h => (by rw [h] at hr; cases hr), fun j hj => ?_⟩
    by_cases hji : j = i
    · subst hji; exact H
    · have hs := H j (ready_mono hj hji)
      obtain ⟨_, oj, hoj, _⟩ := mem_ready.1 hj
      rw [hoj] at hs
      exact absurd hj (waitsOn_spec hc (getD_ne_of_true (mem_ready.1 hr).1) _ j (hst j oj hoj (by simpa using hs) hji)).2
  | succ fuel ih =>
    intro listed hc hr H
    refine ⟨fun h => (by rw [h] at hr; cases hr), fun j hj => ?_⟩
    by_cases hji : j = i
    · subst hji; exact H
    · have h1 := H.2 j (ready_mono hj hji)
      refine ih _ (hc.set hj) (ready_mono hr (Ne.symm hji)) ?_
      rwa [Array.setIfInBounds_comm _ _ hji]

/-- In state a an operation yields v in every world of every state. -/
def YieldsT (P : Program) (ops : Array Oper) (C : Cls σ W) (o : Oper) (v : Value) (a : Act) (bs : Made) : Prop :=
  (Region.wanted o (yielded ops a.tmps) = true ∧ isMk o = false ∧ isFnCall o = false ∧ ∀ s' bs' w, (∀ x ∈ bs, x ∈ bs') → C.In s' bs' w → growUpon P w v ((execOp a.eval o).run P w)) ∨
  (Region.wanted o (yielded ops a.tmps) = false ∧ v = undef)

theorem YieldsT.gOp {i : Nat} {o : Oper} {v : Value} {a : Act} {s : σ} {bs : Made} (hi : ops[i]? = some o) (hy : YieldsT P ops C o v a bs) {K : Act → σ → Made → Prop} (h : K (a.put o.dst v) s bs) : gOpT P ops C i K a s bs := by
  unfold Proofs.Ytohjhbhbpflokaa.gOpT
  simp only [hi]
  rcases hy with ⟨hw, hm, hc, hv⟩ | ⟨hw, rfl⟩
  · simp only [hw, if_true, thrOp, hm, hc, Bool.false_eq_true, if_false]; exact ⟨v, hv, h⟩
  · simp only [hw, Bool.false_eq_true, if_false]; exact h

theorem YieldsT.of_same {o : Oper} {v : Value} {a a' : Act} {bs bs' : Made} (hy : YieldsT P ops C o v a bs) (he : execOp a'.eval o = execOp a.eval o)
    (hw : Region.wanted o (yielded ops a'.tmps) = Region.wanted o (yielded ops a.tmps)) (hs : ∀ x ∈ bs, x ∈ bs') : YieldsT P ops C o v a' bs' := by
  unfold YieldsT at *
  rw [he, hw]
  exact hy.imp (fun ⟨h1, h2, h3, h4⟩ => ⟨h1, h2, h3, fun s'' bs'' w hb hD => h4 s'' bs'' w (fun x hx => hb x (hs x hx)) hD⟩) id

theorem gOpT_put {j : Nat} {oi oj : Oper} {v : Value} (hj : ops[j]? = some oj) (hap : oi.apart ops oj = true)
    (hsi : ∀ cs b, oi.op ≠ .select cs b) (hsj : ∀ cs b, oj.op ≠ .select cs b) {K : Act → σ → Made → Prop} {a : Act} {s : σ} {bs : Made}
    (hy : YieldsT P ops C oi v a bs) (h : gOpT P ops C j K (a.put oi.dst v) s bs) :
    gOpT P ops C j (fun a' s' bs' => YieldsT P ops C oi v a' bs' ∧ K (a'.put oi.dst v) s' bs') a s bs := by
  obtain ⟨h1, h2, h3⟩ := Oper.apart_spec hap
  have keep : ∀ (u : Value) (bs' : Made), (∀ x ∈ bs, x ∈ bs') → YieldsT P ops C oi v (a.put oj.dst u) bs' := fun u bs' hs =>
    hy.of_same (execOp_put oi hsi a oj.dst u h3) (wanted_put oi a oj.dst u h3) hs
  unfold gOpT at *
  simp only [hj] at *
  rw [wanted_put oj a oi.dst v h1] at h
  split
  · rename_i hw
    simp only [hw, if_true] at h
    unfold thrOp at *
    split
    · rename_i hm
      simp only [hm, if_true] at h
      obtain ⟨O, sh, hO, hn⟩ := h
      refine ⟨O, sh, hO, fun b hb hf => ⟨keep _ _ fun x hx => List.mem_cons_of_mem _ hx, ?_⟩⟩
      rw [← Act.put_comm a v _ h2]
      exact hn b hb hf
    · rename_i hm
      simp only [hm, Bool.false_eq_true, if_false] at h
      split
      · rename_i hc
        simp only [hc, if_true] at h
        obtain ⟨Post, hu, hn⟩ := h
        refine ⟨Post, fun bs' w hb hD => ?_, fun u s' hp => ⟨keep u bs fun _ hx => hx, by rw [← Act.put_comm a v u h2]; exact hn u s' hp⟩⟩
        have := hu bs' w hb hD
        rwa [execOp_put oj hsj a oi.dst v h1] at this
      · rename_i hc
        simp only [hc, Bool.false_eq_true, if_false] at h
        obtain ⟨u, hu, hn⟩ := h
        refine ⟨u, fun s' bs' w hb hD => ?_, keep u bs fun _ hx => hx, by rw [← Act.put_comm a v u h2]; exact hn⟩
        have := hu s' bs' w hb hD
        rwa [execOp_put oj hsj a oi.dst v h1] at this
  · rename_i hw
    simp only [hw, Bool.false_eq_true, if_false] at h
    exact ⟨keep undef bs fun _ hx => hx, by rw [← Act.put_comm a v undef h2]; exact h⟩

/-- the first operations are apart from what may come ahead of them. -/
def FreeT (md : Region.Mode) (ops : Array Oper) (i : Nat) (oi : Oper) (listed : Array Bool) : Prop :=
  ∀ j oj, ops[j]? = some oj → j ≠ i → listed.getD j true = false → (∀ e ∈ oj.after, Region.binds md e = true → e.on ≠ i) → oi.apart ops oj = true
theorem FreeT.set {i j : Nat} {oi : Oper} {listed : Array Bool} (h : FreeT md ops i oi listed) (hjun : listed.getD j true = false) : FreeT md ops i oi (listed.setIfInBounds j true) := fun k ok hk hki hun hno => by
  refine h k ok hk hki ?_ hno
  by_cases hjk : j = k
  · subst hjk; exact hjun
  · rw [getD_set_ne true hjk] at hun; exact hun
theorem not_waits {i j : Nat} {oj : Oper} {listed : Array Bool} (hr : i ∈ Region.ready md ops listed) (hall : ∀ e ∈ oj.after, Region.binds md e = true → listed.getD e.on true = true) : ∀ e ∈ oj.after, Region.binds md e = true → e.on ≠ i := fun e he hb heq => by
  have h1 := hall e he hb
  rw [heq, (mem_ready.1 hr).1] at h1
  cases h1

/-- A read may be taken first. -/
theorem anyT_first {Q : Array Bool → Act → σ → Made → Prop} {i : Nat} {oi : Oper} {v : Value} (hi : ops[i]? = some oi) (hsel : ∀ (j : Nat) (o : Oper) cs b, ops[j]? = some o → o.op ≠ .select cs b)
    (hst : ∀ j o, ops[j]? = some o → isStore o = true → j ≠ i → j ∈ waitsOn md ops i ops.size) :
    ∀ (fuel : Nat) (listed : Array Bool) (a : Act) (s : σ) (bs : Made), Closed md ops listed → FreeT md ops i oi listed →
      i ∈ Region.ready md ops listed → StrT md ops fuel (listed.setIfInBounds i true) → YieldsT P ops C oi v a bs →
      anyT P md ops C Q fuel (listed.setIfInBounds i true) (a.put oi.dst v) s bs → anyT P md ops C Q (fuel + 1) listed a s bs := by
  intro fuel
  induction fuel with
  | zero =>
    intro listed a s bs hc _ hr hS hy H j hj
    by_cases hji : j = i
    · subst hji; exact hy.gOp hi H
    · have hs := hS j (ready_mono hj hji)
      obtain ⟨_, oj, hoj, _⟩ := mem_ready.1 hj
      rw [hoj] at hs
      exact absurd hj (waitsOn_spec hc (getD_ne_of_true (mem_ready.1 hr).1) _ j (hst j oj hoj (by simpa using hs) hji)).2
  | succ fuel ih =>
    intro listed a s bs hc hfree hr hS hy H j hj
    by_cases hji : j = i
    · subst hji; exact hy.gOp hi H
    · have h1 := H j (ready_mono hj hji)
      obtain ⟨hjun, oj, hoj, hall⟩ := mem_ready.1 hj
      have hnot : ∀ e ∈ oj.after, Region.binds md e = true → e.on ≠ i := fun e he hb heq => by
        have h1 := hall e he hb
        have h0 := (mem_ready.1 hr).1
        rw [heq] at h1
        rw [getD_ne_of_true h0] at h1
        cases h1
      have h2 := gOpT_put hoj (hfree j oj hoj hji hjun hnot) (fun cs b => hsel i oi cs b hi) (fun cs b => hsel j oj cs b hoj) hy h1
      have hS' := hS.2 j (ready_mono hj hji)
      refine gOpT_mono (fun a' s' bs' h3 => ih (listed.setIfInBounds j true) a' s' bs' (hc.set hj) (hfree.set hjun) (ready_mono hr (Ne.symm hji)) ?_ h3.1 ?_) h2
      · rw [Array.setIfInBounds_comm _ _ hji]; exact hS'
      · rw [Array.setIfInBounds_comm _ _ hji]; exact h3.2

/-- The same members: the same. -/
theorem anyT_perm {Q : Array Bool → Act → σ → Made → Prop} (hQ : ∀ listed a s bs bs', (∀ x, x ∈ bs ↔ x ∈ bs') → Q listed a s bs → Q listed a s bs') :
    ∀ (fuel : Nat) (listed : Array Bool) (a : Act) (s : σ) (bs bs' : Made), (∀ x, x ∈ bs ↔ x ∈ bs') → anyT P md ops C Q fuel listed a s bs → anyT P md ops C Q fuel listed a s bs'
  | 0, _, _, _, _, _, hp, h => hQ _ _ _ _ _ hp h
  | fuel + 1, listed, a, s, bs, bs', hp, h => by
    intro j hj
    have h1 := h j hj
    unfold gOpT at *
    split
    · rename_i ho; simp only [ho] at h1; exact anyT_perm hQ fuel _ _ _ _ _ hp h1
    · rename_i o ho
      simp only [ho] at h1
      split
      · rename_i hw
        simp only [hw, if_true] at h1
        unfold thrOp at *
        split
        · rename_i hm
          simp only [hm, if_true] at h1
          obtain ⟨O, sh, hO, hn⟩ := h1
          exact ⟨O, sh, hO, fun b hb hf => anyT_perm hQ fuel _ _ _ _ _ (fun x => by simp only [List.mem_cons, hp]) (hn b hb fun x hx => hf x ((hp x).1 hx))⟩
        · rename_i hm
          simp only [hm, Bool.false_eq_true, if_false] at h1
          split
          · rename_i hc
            simp only [hc, if_true] at h1
            obtain ⟨Post, hv, hn⟩ := h1
            exact ⟨Post, fun bs'' w hb hD => hv bs'' w (fun x hx => hb x ((hp x).1 hx)) hD, fun v s' hpo => anyT_perm hQ fuel _ _ _ _ _ hp (hn v s' hpo)⟩
          · rename_i hc
            simp only [hc, Bool.false_eq_true, if_false] at h1
            obtain ⟨v, hv, hn⟩ := h1
            exact ⟨v, fun s'' bs'' w hb hD => hv s'' bs'' w (fun x hx => hb x ((hp x).1 hx)) hD, anyT_perm hQ fuel _ _ _ _ _ hp hn⟩
      · rename_i hw; simp only [hw, Bool.false_eq_true, if_false] at h1; exact anyT_perm hQ fuel _ _ _ _ _ hp h1

/-- A variable, or a call, may be taken first, where nothing but variables can come ahead of it. -/
theorem anyT_later {Q : Array Bool → Act → σ → Made → Prop} (hQ : ∀ listed a s bs bs', (∀ x, x ∈ bs ↔ x ∈ bs') → Q listed a s bs → Q listed a s bs') {i : Nat} {oi : Oper}
    (hi : ops[i]? = some oi) (hm : isMk oi = true ∨ isFnCall oi = true) (hg : ∀ (j : Nat) o, ops[j]? = some o → isMk o = true → ∃ O sh, Mk P o O sh)
    (hsel : ∀ (j : Nat) (o : Oper) cs b, ops[j]? = some o → o.op ≠ .select cs b) :
    ∀ (fuel : Nat) (listed : Array Bool) (a : Act) (s : σ) (bs : Made), Closed md ops listed → FreeT md ops i oi listed →
      (∀ j oj, ops[j]? = some oj → j ≠ i → listed.getD j true = false → isMk oj = false → j ∈ waitsOn md ops i ops.size) →
      i ∈ Region.ready md ops listed → StrT md ops fuel (listed.setIfInBounds i true) →
      gOpT P ops C i (anyT P md ops C Q fuel (listed.setIfInBounds i true)) a s bs → anyT P md ops C Q (fuel + 1) listed a s bs := by
  have wanted : ∀ (j : Nat) o, ops[j]? = some o → isMk o = true → ∀ y, Region.wanted o y = true := fun j o ho h y => by obtain ⟨O, sh, hk⟩ := hg j o ho h; simp [Region.wanted, hk.1]
  intro fuel
  induction fuel with
  | zero =>
    intro listed a s bs hc _ hoth hr hS H j hj
    by_cases hji : j = i
    · subst hji; exact H
    · exfalso
      obtain ⟨hjun, oj, hoj, _⟩ := mem_ready.1 hj
      have hs := hS j (ready_mono hj hji)
      rw [hoj] at hs
      cases hmj : isMk oj with
      | true =>
        unfold isMk at hmj
        unfold isStore at hs
        simp only [Option.map_some, Option.getD_some] at hs
        split at hmj
        · rename_i hop; rw [hop] at hs; cases hs
        · rename_i hop; rw [hop] at hs; cases hs
        · cases hmj
      | false => exact (waitsOn_spec hc (getD_ne_of_true (mem_ready.1 hr).1) _ j (hoth j oj hoj hji hjun hmj)).2 hj
  | succ fuel ih =>
    intro listed a s bs hc hfree hoth hr hS H j hj
    by_cases hji : j = i
    · subst hji; exact H
    · obtain ⟨hjun, oj, hoj, hall⟩ := mem_ready.1 hj
      cases hmj : isMk oj with
      | false => exact absurd hj (waitsOn_spec hc (getD_ne_of_true (mem_ready.1 hr).1) _ j (hoth j oj hoj hji hjun hmj)).2
      | true =>
        have hnot : ∀ e ∈ oj.after, Region.binds md e = true → e.on ≠ i := fun e he hb heq => by
          have h1 := hall e he hb
          have h0 := (mem_ready.1 hr).1
          rw [heq] at h1
          rw [getD_ne_of_true h0] at h1
          cases h1
        obtain ⟨hap1, hap2, hap3⟩ := Oper.apart_spec (hfree j oj hoj hji hjun hnot)
        have hoth' : ∀ k ok, ops[k]? = some ok → k ≠ i → (listed.setIfInBounds j true).getD k true = false → isMk ok = false → k ∈ waitsOn md ops i ops.size := fun k ok hk hki hun hmk => by
          refine hoth k ok hk hki ?_ hmk
          by_cases hjk : j = k
          · subst hjk; exact hjun
          · rw [getD_set_ne true hjk] at hun; exact hun
        obtain ⟨Oj, shj, hOj⟩ := hg j oj hoj hmj
        have hjr := ready_mono hj hji
        -- what is made at j, behind i
        have atj : ∀ {a' s' bs'}, anyT P md ops C Q (fuel + 1) (listed.setIfInBounds i true) a' s' bs' → ∀ c, W.heap.size ≤ c → (∀ x ∈ bs', x.1 ≠ c) →
            anyT P md ops C Q fuel ((listed.setIfInBounds j true).setIfInBounds i true) (a'.put oj.dst (mval shj c)) s' ((c, Oj) :: bs') := fun {a' s' bs'} h c hcb hcf => by
          have h1 := h j hjr
          unfold gOpT at h1
          simp only [hoj, wanted j oj hoj hmj, if_true, thrOp, hmj] at h1
          obtain ⟨O', sh', hO', hn⟩ := h1
          obtain ⟨rfl, rfl⟩ := Mk.one W hOj hO'
          rw [Array.setIfInBounds_comm _ _ hji]
          exact hn c hcb hcf
        unfold gOpT
        simp only [hoj, wanted j oj hoj hmj, if_true, thrOp, hmj]
        refine ⟨Oj, shj, hOj, fun c hcb hcf => ih (listed.setIfInBounds j true) _ _ _ (hc.set hj) (hfree.set hjun) hoth' (ready_mono hr (Ne.symm hji)) ?_ ?_⟩
        · rw [Array.setIfInBounds_comm _ _ hji]; exact hS.2 j hjr
        · unfold gOpT at H ⊢
          simp only [hi] at H ⊢
          rw [wanted_put oi a oj.dst _ hap3]
          by_cases hw : Region.wanted oi (yielded ops a.tmps) = true
          · simp only [hw, if_true] at H ⊢
            unfold thrOp at H ⊢
            by_cases hmi : isMk oi = true
            · simp only [hmi, if_true] at H ⊢
              obtain ⟨O, sh, hO, hn⟩ := H
              refine ⟨O, sh, hO, fun b hb hf => ?_⟩
              have h2 := atj (hn b hb fun x hx => hf x (List.mem_cons_of_mem _ hx)) c hcb fun x hx => by
                rcases List.mem_cons.1 hx with rfl | hx
                · exact fun e => hf (c, Oj) List.mem_cons_self e.symm
                · exact hcf x hx
              rw [← Act.put_comm a _ _ hap2]
              exact anyT_perm hQ _ _ _ _ _ _ (fun x => by simp only [List.mem_cons]; constructor <;> (rintro (h | h | h) <;> simp [h])) h2
            · have hci : isFnCall oi = true := hm.elim (fun h => absurd h hmi) id
              have hmi' : isMk oi = false := by simpa using hmi
              simp only [hmi', hci, if_true, Bool.false_eq_true, if_false] at H ⊢
              obtain ⟨Post, hP, hn⟩ := H
              refine ⟨Post, fun bs' w hb hD => ?_, fun v s' hp => ?_⟩
              · rw [execOp_put oi (fun cs b => hsel i oi cs b hi) a oj.dst _ hap3]
                exact hP bs' w (fun x hx => hb x (List.mem_cons_of_mem _ hx)) hD
              · rw [← Act.put_comm a _ _ hap2]
                exact atj (hn v s' hp) c hcb hcf
          · have hw' : Region.wanted oi (yielded ops a.tmps) = false := by simpa using hw
            simp only [hw', Bool.false_eq_true, if_false] at H ⊢
            rw [← Act.put_comm a _ _ hap2]
            exact atj H c hcb hcf

/-! ### A given order, and the stores at the end -/
def thrFrom (md : Region.Mode) (ops : Array Oper) : List Nat → Array Bool → Bool
  | [], listed => (Region.ready md ops listed).all fun j => ((ops[j]?).map isStore).getD false
  | k :: l, listed => (Region.ready md ops listed).contains k && Region.free md ops listed k &&
      (match ops[k]? with
       | some o => !(isMk o || isFnCall o) || (List.range ops.size).all fun j => j == k || listed.getD j true || ((ops[j]?).map isMk).getD true || (waitsOn md ops k ops.size).contains j
       | none => false) && thrFrom md ops l (listed.setIfInBounds k true)
def listedOf : List Nat → Array Bool → Array Bool
  | [], listed => listed
  | k :: l, listed => listedOf l (listed.setIfInBounds k true)
def thrB (md : Region.Mode) (ops : Array Oper) (nA : Nat) (ord : List Nat) : Bool :=
  Region.noSelect ops && ((List.range ops.size).all fun j => ((ops[j]?).map fun o => !isMk o || o.guard.isNone).getD true) &&
  (ord.all fun i => (List.range ops.size).all fun j => !((ops[j]?).map isStore).getD false || (j == i || (waitsOn md ops i ops.size).contains j)) &&
  thrFrom md ops ord (Array.replicate ops.size false) && seqFrom md ops (ops.size - nA) nA (listedOf ord (Array.replicate ops.size false)) && (ord.length == nA)

/-- The walk in the given order. -/
def wpThr (P : Program) (ops : Array Oper) (C : Cls σ W) (Q : Act → σ → Made → Prop) : List Oper → Act → σ → Made → Prop
  | [], a, s, bs => Q a s bs
  | o :: rest, a, s, bs => if Region.wanted o (yielded ops a.tmps) then thrOp P C o a s bs (wpThr P ops C Q rest) else wpThr P ops C Q rest (a.put o.dst undef) s bs

theorem StrT_of_from (ord : List Nat) : ∀ (listed : Array Bool), Closed md ops listed → (∀ i ∈ ord, ∀ j o, ops[j]? = some o → isStore o = true → j ≠ i → j ∈ waitsOn md ops i ops.size) → thrFrom md ops ord listed = true → StrT md ops ord.length listed := by
  induction ord with
  | nil => intro listed _ _ h; simpa [thrFrom, StrT] using h
  | cons k l ih =>
    intro listed hc hst h
    simp only [thrFrom, Bool.and_eq_true] at h
    obtain ⟨⟨⟨hr, _⟩, _⟩, h4⟩ := h
    have hr' : k ∈ Region.ready md ops listed := by simpa using hr
    exact StrT_first (hst k (by simp)) l.length listed hc hr' (ih _ (hc.set hr') (fun i hi => hst i (by simp [hi])) h4)

theorem anyT_lex {R : Array Bool → Act → σ → Made → Prop} (hR : ∀ listed a s bs bs', (∀ x, x ∈ bs ↔ x ∈ bs') → R listed a s bs → R listed a s bs')
    (hsel : Region.noSelect ops = true) (hg : ∀ (j : Nat) o, ops[j]? = some o → isMk o = true → ∃ O sh, Mk P o O sh) :
    ∀ (ord : List Nat) (l : List Oper) (listed : Array Bool) (a : Act) (s : σ) (bs : Made), (∀ i ∈ ord, ∀ j o, ops[j]? = some o → isStore o = true → j ≠ i → j ∈ waitsOn md ops i ops.size) →
      l.map some = ord.map (fun i => ops[i]?) → Closed md ops listed → thrFrom md ops ord listed = true → wpThr P ops C (R (listedOf ord listed)) l a s bs → anyT P md ops C R ord.length listed a s bs
  | [], l, listed, a, s, bs, _, hl, _, _, h => by
    have : l = [] := by simpa using hl
    subst this
    exact h
  | k :: ord, [], listed, a, s, bs, _, hl, _, _, _ => by simp at hl
  | k :: ord, o :: l, listed, a, s, bs, hst, hl, hc, hB, h => by
    have hl2 : some o = ops[k]? ∧ l.map some = ord.map (fun i => ops[i]?) := by simpa using hl
    have h0 : ops[k]? = some o := hl2.1.symm
    simp only [thrFrom, h0, Bool.and_eq_true] at hB
    obtain ⟨⟨⟨hr, hf⟩, hmk⟩, hB'⟩ := hB
    have hr' : k ∈ Region.ready md ops listed := by simpa using hr
    have hS := StrT_of_from ord _ (hc.set hr') (fun i hi => hst i (by simp [hi])) hB'
    have next : ∀ a' s' bs', wpThr P ops C (R (listedOf ord (listed.setIfInBounds k true))) l a' s' bs' → anyT P md ops C R ord.length (listed.setIfInBounds k true) a' s' bs' := fun a' s' bs' hh =>
      anyT_lex hR hsel hg ord l _ a' s' bs' (fun i hi => hst i (by simp [hi])) hl2.2 (hc.set hr') hB' hh
    have hh : if Region.wanted o (yielded ops a.tmps) then thrOp P C o a s bs (wpThr P ops C (R (listedOf ord (listed.setIfInBounds k true))) l)
        else wpThr P ops C (R (listedOf ord (listed.setIfInBounds k true))) l (a.put o.dst undef) s bs := h
    by_cases hm : isMk o = true ∨ isFnCall o = true
    · refine anyT_later hR h0 hm hg (Region.noSelect_spec hsel) ord.length listed a s bs hc (Region.free_spec h0 hf) (fun j oj hj hji hun hmj => ?_) hr' hS ?_
      · have hmo : (isMk o || isFnCall o) = true := by rcases hm with h | h <;> simp [h]
        simp only [hmo, Bool.not_true, Bool.false_or, List.all_eq_true, List.mem_range] at hmk
        have := hmk j (Array.getElem?_eq_some_iff.1 hj).1
        simpa [hj, hun, hmj, hji] using this
      · unfold gOpT
        simp only [h0]
        by_cases hw : Region.wanted o (yielded ops a.tmps) = true
        · simp only [hw, if_true] at hh ⊢
          exact thrOp_mono (fun a s bs h => next a s bs h) hh
        · have hw' : Region.wanted o (yielded ops a.tmps) = false := by simpa using hw
          simp only [hw', Bool.false_eq_true, if_false] at hh ⊢
          exact next _ _ _ hh
    · have hm1 : isMk o = false := Bool.eq_false_iff.2 fun h => hm (.inl h)
      have hm2 : isFnCall o = false := Bool.eq_false_iff.2 fun h => hm (.inr h)
      have hy : ∃ v, YieldsT P ops C o v a bs ∧ wpThr P ops C (R (listedOf ord (listed.setIfInBounds k true))) l (a.put o.dst v) s bs := by
        by_cases hw : Region.wanted o (yielded ops a.tmps) = true
        · simp only [hw, if_true, thrOp, hm1, hm2, Bool.false_eq_true, if_false] at hh
          obtain ⟨v, h1, h2⟩ := hh
          exact ⟨v, .inl ⟨hw, hm1, hm2, h1⟩, h2⟩
        · have hw' : Region.wanted o (yielded ops a.tmps) = false := by simpa using hw
          simp only [hw', Bool.false_eq_true, if_false] at hh
          exact ⟨undef, .inr ⟨hw', rfl⟩, hh⟩
      obtain ⟨v, hy, hn⟩ := hy
      exact anyT_first h0 (Region.noSelect_spec hsel) (hst k (by simp)) ord.length listed a s bs hc (Region.free_spec h0 hf) hr' hS hy (next _ _ _ hn)

/-- **ONE WALK IN A GIVEN ORDER SERVES EVERY ORDER.** -/
theorem wp_region_thr {rid : Nat} {Q : Exit → Act → World → Prop} {a : Act} {w : World} {l : List Oper} (C : Cls σ w) (s0 : σ) (nA : Nat) (ord : List Nat) (l' : List Oper) (hm : P.follows .mixedOrders = true) (hB : thrB .any l.toArray nA ord = true)
    (hmk : (l.all fun o => !isMk o || mkB P o) = true) (hl' : l' = ord.filterMap (fun i => l[i]?)) (h0 : C.In s0 [] w.drew)
    (h : wpThr P l.toArray C (fun a' s bs => ∀ w', C.In s bs w' → wpList P l.toArray Q (l.drop nA) a' w') l' a s0 []) : (Code.region rid l.toArray true).wp P Q a w := by
  unfold thrB at hB
  simp only [Bool.and_eq_true, List.all_eq_true, List.mem_range] at hB
  obtain ⟨⟨⟨⟨⟨hsel, hgd⟩, hst⟩, hG⟩, hS⟩, hlen⟩ := hB
  have hlen : ord.length = nA := by simpa using hlen
  let R : Array Bool → Act → σ → Made → Prop := fun listed a s bs => ∀ w', C.In s bs w' → wpAny P .any l.toArray Q (l.length - nA) listed a w'
  have hord : ∀ i ∈ ord, i < l.length := by
    have gen : ∀ (o : List Nat) (listed : Array Bool), listed.size = l.length → thrFrom .any l.toArray o listed = true → ∀ i ∈ o, i < l.length := by
      intro o
      induction o with
      | nil => intro _ _ _ i hi; cases hi
      | cons k o ih =>
        intro listed hsz h1 i hi
        simp only [thrFrom, Bool.and_eq_true] at h1
        obtain ⟨⟨⟨hr, _⟩, _⟩, h4⟩ := h1
        rcases List.mem_cons.1 hi with rfl | hi
        · obtain ⟨_, o', ho', _⟩ := mem_ready.1 (show i ∈ Region.ready .any l.toArray listed by simpa using hr)
          have := (Array.getElem?_eq_some_iff.1 ho').1
          simpa using this
        · exact ih _ (by simpa using hsz) h4 i hi
    exact gen ord _ (by simp) hG
  have hmap : l'.map some = ord.map (fun i => l.toArray[i]?) := by
    rw [hl']
    have gen : ∀ o : List Nat, (∀ i ∈ o, i < l.length) → (o.filterMap fun i => l[i]?).map some = o.map fun i => l.toArray[i]? := by
      intro o
      induction o with
      | nil => intro _; rfl
      | cons k o ih =>
        intro ho
        have hk := ho k (by simp)
        rw [List.filterMap_cons, List.getElem?_eq_getElem hk]
        simp only [List.map_cons]
        rw [ih (fun i hi => ho i (by simp [hi]))]
        simp [hk]
    exact gen ord hord
  have hle : nA ≤ l.length := by
    rcases Nat.lt_or_ge l.length nA with hlt | hge
    · exfalso
      -- more operations listed than there are
      have gen : ∀ (o : List Nat) (listed : Array Bool), listed.size = l.length → thrFrom .any l.toArray o listed = true → o.length + (listed.toList.filter id).length ≤ l.length := by
        intro o
        induction o with
        | nil => intro listed hsz _; have := List.length_filter_le (id : Bool → Bool) listed.toList; simp at this ⊢; omega
        | cons k o ih =>
          intro listed hsz h1
          simp only [thrFrom, Bool.and_eq_true] at h1
          obtain ⟨⟨⟨hr, _⟩, _⟩, h4⟩ := h1
          obtain ⟨hun, o', ho', _⟩ := mem_ready.1 (show k ∈ Region.ready .any l.toArray listed by simpa using hr)
          have hk : k < listed.size := by
            have := (Array.getElem?_eq_some_iff.1 ho').1
            simp at this; omega
          have h2 := ih _ (by simpa using hsz) h4
          have h3 : ((listed.setIfInBounds k true).toList.filter id).length = (listed.toList.filter id).length + 1 := by
            rw [Array.toList_setIfInBounds]
            have hk' : k < listed.toList.length := by simpa using hk
            have hv : listed.toList[k] = false := by
              have : listed.getD k true = false := hun
              simp [hk] at this
              simpa using this
            have e1 : listed.toList = listed.toList.take k ++ false :: listed.toList.drop (k + 1) := by
              conv => lhs; rw [← List.take_append_drop k listed.toList]
              rw [List.drop_eq_getElem_cons hk', hv]
            have e2 : listed.toList.set k true = listed.toList.take k ++ true :: listed.toList.drop (k + 1) := by
              rw [List.set_eq_take_append_cons_drop, if_pos hk']
            rw [e2]
            conv => rhs; rw [e1]
            simp [List.filter_append]
            omega
          simp only [List.length_cons]
          omega
      have := gen ord _ (by simp) hG
      omega
    · exact hge
  have hsd : (l.drop nA).length = l.length - nA := by simp
  refine wp_region_any hm ?_
  have hcl : Closed .any l.toArray (Array.replicate l.toArray.size false) := fun j o ho hj => by
    exfalso
    rcases Nat.lt_or_ge j l.length with h' | h' <;> simp [h'] at hj
  have hst' : ∀ i ∈ ord, ∀ j o, l.toArray[j]? = some o → isStore o = true → j ≠ i → j ∈ waitsOn .any l.toArray i l.toArray.size := fun i hi j o ho hs hne => by
    have := hst i hi j (Array.getElem?_eq_some_iff.1 ho).1
    rw [ho] at this
    simpa [hs, hne] using this
  have hany : anyT P .any l.toArray C R ord.length (Array.replicate l.toArray.size false) a s0 [] := by
    refine anyT_lex (fun _ _ _ bs bs' hp hh w' hD => hh w' (C.fewer hD fun x hx => (hp x).1 hx)) hsel (fun j o ho hmo => ?_) ord l' _ a s0 [] hst' hmap hcl hG ?_
    · have h1 := hgd j (Array.getElem?_eq_some_iff.1 ho).1
      rw [ho] at h1
      simp only [Option.map_some, Option.getD_some, hmo, Bool.not_true, Bool.false_or] at h1
      have h2 : o ∈ l := by
        have : l[j]? = some o := by simpa using ho
        exact List.mem_of_getElem? this
      have h3 := (List.all_eq_true.1 hmk) o h2
      simp only [hmo, Bool.not_true, Bool.false_or] at h3
      exact Mk.of_test h3
    · have mono : ∀ (l2 : List Oper) (a' : Act) (s' : σ) (bs' : Made), wpThr P l.toArray C (fun a' s bs => ∀ w', C.In s bs w' → wpList P l.toArray Q (l.drop nA) a' w') l2 a' s' bs' →
          wpThr P l.toArray C (R (listedOf ord (Array.replicate l.toArray.size false))) l2 a' s' bs' := by
        intro l2
        induction l2 with
        | nil =>
          intro a' s' bs' hh w' hD
          have := wpAny_seq (md := .any) (l.drop nA) nA (listedOf ord (Array.replicate l.toArray.size false)) a' w' (fun j hj => by simp) (by rw [hsd]; simpa using hS) (hh w' hD)
          rwa [hsd] at this
        | cons o l2 ih =>
          intro a' s' bs' hh
          have hh' : if Region.wanted o (yielded l.toArray a'.tmps) then thrOp P C o a' s' bs' (wpThr P l.toArray C (fun a' s bs => ∀ w', C.In s bs w' → wpList P l.toArray Q (l.drop nA) a' w') l2)
              else wpThr P l.toArray C (fun a' s bs => ∀ w', C.In s bs w' → wpList P l.toArray Q (l.drop nA) a' w') l2 (a'.put o.dst undef) s' bs' := hh
          show if _ then _ else _
          split
          · rename_i hw; simp only [hw, if_true] at hh'; exact thrOp_mono ih hh'
          · rename_i hw; simp only [hw, Bool.false_eq_true, if_false] at hh'; exact ih _ _ _ hh'
      exact mono _ _ _ _ h
  have hstr := StrT_of_from ord _ hcl hst' hG
  have hfin := wpAny_of_anyT (W := w) (C := C) (Q := R) (nB := l.length - nA) (Q' := Q) (fun listed a s bs w' hD hh => hh w' hD) ord.length (Array.replicate l.toArray.size false) a s0 [] w.drew h0 hstr hany
  rw [hlen] at hfin
  have e : nA + (l.length - nA) = l.toArray.size := by simp; omega
  rwa [e] at hfin

/-! ### Steps of the walk -/
variable {Q : Act → σ → Made → Prop} {o : Oper} {rest : List Oper} {a a' : Act} {s : σ} {bs : Made}
theorem wpThr_val (hm : isMk o = false) (hc : isFnCall o = false) (hw : Region.wanted o (yielded ops a.tmps) = true)
    (h : ∃ v, (∀ s' bs' w, (∀ x ∈ bs, x ∈ bs') → C.In s' bs' w → growUpon P w v ((execOp a.eval o).run P w)) ∧ wpThr P ops C Q rest (a.put o.dst v) s bs) : wpThr P ops C Q (o :: rest) a s bs := by
  show if _ then _ else _
  simp only [hw, if_true, thrOp, hm, hc, Bool.false_eq_true, if_false]
  exact h
theorem wpThr_call (Post : Value → σ → Prop) (hm : isMk o = false) (hc : isFnCall o = true) (hw : Region.wanted o (yielded ops a.tmps) = true)
    (h1 : ∀ bs' w, (∀ x ∈ bs, x ∈ bs') → C.In s bs' w → thrUpon P C bs' Post w ((execOp a.eval o).run P w)) (h2 : ∀ v s', Post v s' → wpThr P ops C Q rest (a.put o.dst v) s' bs) : wpThr P ops C Q (o :: rest) a s bs := by
  show if _ then _ else _
  simp only [hw, if_true, thrOp, hm, hc, Bool.false_eq_true, if_false]
  exact ⟨Post, h1, h2⟩
theorem wpThr_pass (hw : Region.wanted o (yielded ops a.tmps) = false) (h : wpThr P ops C Q rest (a.put o.dst undef) s bs) : wpThr P ops C Q (o :: rest) a s bs := by
  show if _ then _ else _
  simp only [hw, Bool.false_eq_true, if_false]
  exact h
theorem wpThr_mk {O : Obj} {sh : Option Nat} (hm : isMk o = true) (hO : Mk P o O sh)
    (h : ∀ b, W.heap.size ≤ b → (∀ x ∈ bs, x.1 ≠ b) → wpThr P ops C Q rest (a.put o.dst (mval sh b)) s ((b, O) :: bs)) : wpThr P ops C Q (o :: rest) a s bs := by
  show if _ then _ else _
  simp only [show Region.wanted o (yielded ops a.tmps) = true by simp [Region.wanted, hO.1], if_true, thrOp, hm]
  exact ⟨O, sh, hO, h⟩
theorem wpThr_make {O : Obj} (hm : isMk o = true) (hg : o.guard = none) (hO : makes P o = some O)
    (h : ∀ b, W.heap.size ≤ b → (∀ x ∈ bs, x.1 ≠ b) → wpThr P ops C Q rest (a.put o.dst (.pointer (some ⟨b, 0, none⟩))) s ((b, O) :: bs)) : wpThr P ops C Q (o :: rest) a s bs := wpThr_mk hm (Mk.alloc hg hO) h
theorem wpThr_empty {t e : TypeId} {i : TypeInfo} (hm : isMk o = true) (hg : o.guard = none) (ho : o.op = .buildSlice t 0 #[]) (ht : P.underlying t = some (.slice e)) (hi : P.info? e = some i)
    (h : ∀ b, W.heap.size ≤ b → (∀ x ∈ bs, x.1 ≠ b) → wpThr P ops C Q rest (a.put o.dst (.slice (some ⟨b, 0, none⟩) 0 0)) s ((b, .cells #[] e) :: bs)) : wpThr P ops C Q (o :: rest) a s bs := wpThr_mk hm (Mk.empty hg ho ht hi) h
theorem wpThr_nil (h : Q a s bs) : wpThr P ops C Q [] a s bs := h
theorem wpThr_at (e : a = a') {l : List Oper} (h : wpThr P ops C Q l a' s bs) : wpThr P ops C Q l a s bs := e ▸ h
theorem thrUpon_ok {Post : Value → σ → Prop} {w w' : World} {u : Value} (h : ∃ s', Post u s' ∧ C.In s' bs w') : thrUpon P C bs Post w (.ok (.value u) w') := h
theorem thrUpon_call {Post : Value → σ → Prop} {w : World} {f : FuncId} {args : Array Value} (h : Calls P f args w (fun e w'' => ∃ v s', e = .returned v ∧ Post v s' ∧ C.In s' bs w'')) : thrUpon P C bs Post w (.ok (.enter f args) w) := ⟨rfl, h⟩
end
end Go.Proofs.Ytohjhbhbpflokaa
