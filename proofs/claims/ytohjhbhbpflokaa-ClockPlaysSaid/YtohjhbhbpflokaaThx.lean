
/- A region that draws its order, in general: reads that hold ahead of what ends them (a store, an entry of a map), calls and appends one behind the other, new variables and slices written out wherever they come to lie: one walk in a given order serves every order. -/
import Derived.Test.YtohjhbhbpflokaaThr
namespace Go.Proofs.Ytohjhbhbpflokaa
set_option linter.unusedSimpArgs false
set_option linter.unusedVariables false
open Go Go.RowKit

def isLit (o : Oper) : Bool := match o.op with | .buildSlice _ n _ => n != 0 | _ => false
def isMkx (o : Oper) : Bool := match o.op with | .alloc _ => true | .buildSlice _ _ _ => true | _ => false
def isEff (o : Oper) : Bool := match o.op with | .store .. => true | .mapUpdate .. => true | _ => false
def isChx (o : Oper) : Bool := isEff o || match o.op with
  | .call c => (match c.callee with | .builtin b => (match b with | .append => true | .copy => true | .delete => true | .clear => true | _ => false) | _ => true)
  | _ => false
def isPur (o : Oper) : Bool := match o.op with | .move _ => true | .assign _ => true | .extract _ _ => true | _ => false
/-- What it makes in a state. -/
def MkA (P : Program) (o : Oper) (a : Act) (O : Obj) (sh : Option Nat) : Prop := o.guard = none ∧ ∀ w : World, (execOp a.eval o).run P w = .ok (.value (mval sh w.heap.size)) (w.alloc O)
theorem MkA.one {P : Program} {o : Oper} {a : Act} {O O' : Obj} {sh sh' : Option Nat} (w : World) (h : MkA P o a O sh) (h' : MkA P o a O' sh') : O = O' ∧ sh = sh' := by
  have e := (h.2 w).symm.trans (h'.2 w)
  have e1 : mval sh w.heap.size = mval sh' w.heap.size ∧ w.alloc O = w.alloc O' := by
    injection e with e1 e2
    injection e1 with e1
    exact ⟨e1, e2⟩
  refine ⟨?_, ?_⟩
  · have h2 : (w.alloc O).heap[w.heap.size]? = (w.alloc O').heap[w.heap.size]? := by rw [e1.2]
    rw [heap_alloc_new, heap_alloc_new] at h2
    cases h2; rfl
  · cases sh with
    | none => cases sh' with
      | none => rfl
      | some n => exact absurd e1.1 (by simp [mval])
    | some n => cases sh' with
      | none => exact absurd e1.1 (by simp [mval])
      | some m => have := e1.1; simp [mval] at this; rw [this]

section
variable {σ : Type} {P : Program} {ops : Array Oper} {md : Region.Mode} {W : World} {C : Cls σ W} {pre : σ → Prop}

def thxUpon (P : Program) (C : Cls σ W) (bs : Made) (Post : Value → σ → Prop) (w : World) : Result Next → Prop
  | .ok (.enter f args) w' => w' = w ∧ Calls P f args w (fun e w'' => ∃ v s', e = .returned v ∧ Post v s' ∧ C.In s' bs w'')
  | .ok (.value u) w' => ∃ s', Post u s' ∧ C.In s' bs w'
  | .ok .skip w' => ∃ s', Post undef s' ∧ C.In s' bs w'
  | _ => False
/-- one value: of what is pure in every world, else in every world ahead of what ends the reads. -/
def readX (P : Program) (C : Cls σ W) (pre : σ → Prop) (o : Oper) (a : Act) (s : σ) (bs : Made) (v : Value) : Prop :=
  if isPur o then ∀ w, growUpon P w v ((execOp a.eval o).run P w) else pre s ∧ ∀ s' bs' w, pre s' → (∀ x ∈ bs, x ∈ bs') → C.In s' bs' w → growUpon P w v ((execOp a.eval o).run P w)

def thxOp (P : Program) (C : Cls σ W) (pre : σ → Prop) (o : Oper) (a : Act) (s : σ) (bs : Made) (K : Act → σ → Made → Prop) : Prop :=
  if isMkx o then ∃ O sh, MkA P o a O sh ∧ ∀ b, W.heap.size ≤ b → (∀ x ∈ bs, x.1 ≠ b) → K (a.put o.dst (mval sh b)) s ((b, O) :: bs)
  else if isChx o then ∃ Post : Value → σ → Prop, (∀ bs' w, (∀ x ∈ bs, x ∈ bs') → C.In s bs' w → thxUpon P C bs' Post w ((execOp a.eval o).run P w)) ∧ (isEff o = false → ∀ v s', Post v s' → pre s') ∧ ∀ v s', Post v s' → K (a.put o.dst v) s' bs
  else ∃ v, readX P C pre o a s bs v ∧ K (a.put o.dst v) s bs

def gOpX (P : Program) (ops : Array Oper) (C : Cls σ W) (pre : σ → Prop) (j : Nat) (K : Act → σ → Made → Prop) (a : Act) (s : σ) (bs : Made) : Prop :=
  match ops[j]? with
  | none => K a s bs
  | some o => if Region.wanted o (yielded ops a.tmps) then thxOp P C pre o a s bs K else K (a.put o.dst undef) s bs

theorem thxOp_mono {o : Oper} {a : Act} {s : σ} {bs : Made} {K K' : Act → σ → Made → Prop} (h : ∀ a s bs, K a s bs → K' a s bs) (hh : thxOp P C pre o a s bs K) : thxOp P C pre o a s bs K' := by
  unfold thxOp at *
  split
  · rename_i hm; simp only [hm, if_true] at hh; obtain ⟨O, sh, h1, h2⟩ := hh; exact ⟨O, sh, h1, fun b hb hf => h _ _ _ (h2 b hb hf)⟩
  · rename_i hm
    simp only [hm, Bool.false_eq_true, if_false] at hh
    split
    · rename_i hc; simp only [hc, if_true] at hh; obtain ⟨Post, h1, h3, h2⟩ := hh; exact ⟨Post, h1, h3, fun v s' hp => h _ _ _ (h2 v s' hp)⟩
    · rename_i hc; simp only [hc, Bool.false_eq_true, if_false] at hh; obtain ⟨v, h1, h2⟩ := hh; exact ⟨v, h1, h _ _ _ h2⟩
theorem gOpX_mono {j : Nat} {a : Act} {s : σ} {bs : Made} {K K' : Act → σ → Made → Prop} (h : ∀ a s bs, K a s bs → K' a s bs) (hh : gOpX P ops C pre j K a s bs) : gOpX P ops C pre j K' a s bs := by
  unfold gOpX at *
  split
  · rename_i ho; simp only [ho] at hh; exact h _ _ _ hh
  · rename_i o ho
    simp only [ho] at hh
    split
    · rename_i hw; simp only [hw, if_true] at hh; exact thxOp_mono h hh
    · rename_i hw; simp only [hw, Bool.false_eq_true, if_false] at hh; exact h _ _ _ hh

def anyX (P : Program) (md : Region.Mode) (ops : Array Oper) (C : Cls σ W) (pre : σ → Prop) (Q : Act → σ → Made → Prop) : Nat → Array Bool → Act → σ → Made → Prop
  | 0, listed, a, s, bs => Region.ready md ops listed = [] ∧ Q a s bs
  | fuel + 1, listed, a, s, bs => Region.ready md ops listed ≠ [] ∧ ∀ j ∈ Region.ready md ops listed, gOpX P ops C pre j (anyX P md ops C pre Q fuel (listed.setIfInBounds j true)) a s bs

theorem readX.upon {o : Oper} {a : Act} {s : σ} {bs : Made} {v : Value} (h : readX P C pre o a s bs v) {w : World} (hD : C.In s bs w) : growUpon P w v ((execOp a.eval o).run P w) := by
  unfold readX at h
  split at h
  · exact h w
  · exact h.2 s bs w h.1 (fun _ hx => hx) hD
theorem wpOp_of_gOpX {j : Nat} {a : Act} {s : σ} {bs : Made} {w : World} {K : Act → σ → Made → Prop} {K' : Act → World → Prop} {Q' : Exit → Act → World → Prop} (hD : C.In s bs w)
    (h : ∀ a' s' bs' w', C.In s' bs' w' → K a' s' bs' → K' a' w') (hh : gOpX P ops C pre j K a s bs) : wpOp P ops Q' j K' a w := by
  unfold gOpX at hh
  unfold wpOp
  split
  · rename_i ho; simp only [ho] at hh; exact h _ _ _ _ hD hh
  · rename_i o ho
    simp only [ho] at hh
    split
    · rename_i hw
      simp only [hw, if_true] at hh
      refine .inl ?_
      unfold thxOp at hh
      split at hh
      · obtain ⟨O, sh, h1, h2⟩ := hh
        unfold Oper.wp
        rw [h1.2]
        have hf := C.fresh hD
        exact h _ _ _ _ (C.alloc O hD) (h2 _ hf.1 fun x hx => Nat.ne_of_lt (hf.2 x hx))
      · split at hh
        · obtain ⟨Post, h1, _, h2⟩ := hh
          have h3 := h1 bs w (fun _ hx => hx) hD
          unfold Oper.wp
          generalize (execOp a.eval o).run P w = r at *
          cases r with
          | ok n w' =>
            cases n <;> simp only [thxUpon] at h3 <;> simp only [Oper.upon]
            case value u => obtain ⟨s', hp, hb⟩ := h3; exact h _ _ _ _ hb (h2 u s' hp)
            case skip => obtain ⟨s', hp, hb⟩ := h3; exact h _ _ _ _ hb (h2 _ s' hp)
            case enter f args =>
              obtain ⟨rfl, hc⟩ := h3
              exact hc.mono fun e w'' ⟨v, s', he, hp, hb⟩ => by subst he; exact h _ _ _ _ hb (h2 v s' hp)
          | halt x w' => simp only [thxUpon] at h3
        · obtain ⟨v, h1, h2⟩ := hh
          have h3 := h1.upon hD
          unfold Oper.wp
          generalize (execOp a.eval o).run P w = r at *
          cases r with
          | ok n w' =>
            cases n <;> simp only [growUpon] at h3 <;> simp only [Oper.upon]
            case value u => obtain ⟨rfl, hb⟩ := h3; exact h _ _ _ _ (C.below hD hb) h2
            case skip => obtain ⟨e, hb⟩ := h3; rw [← e]; exact h _ _ _ _ (C.below hD hb) h2
            case enter f args =>
              obtain ⟨rfl, hc⟩ := h3
              exact hc.mono fun e w'' ⟨he, hb⟩ => by subst he; exact h _ _ _ _ (C.below hD hb) h2
          | halt x w' => simp only [growUpon] at h3
    · rename_i hw; simp only [hw, Bool.false_eq_true, if_false] at hh; exact h _ _ _ _ hD hh
theorem wpAny_of_anyX {Q : Act → σ → Made → Prop} {Q' : Exit → Act → World → Prop} (hQ : ∀ a s bs w, C.In s bs w → Q a s bs → Q' .normal a w) :
    ∀ (fuel : Nat) (listed : Array Bool) (a : Act) (s : σ) (bs : Made) (w : World), C.In s bs w → anyX P md ops C pre Q fuel listed a s bs → wpAny P md ops Q' fuel listed a w
  | 0, listed, a, s, bs, w, hD, h => ⟨h.1, hQ _ _ _ _ hD h.2⟩
  | fuel + 1, listed, a, s, bs, w, hD, h => ⟨fun h0 => absurd h0 h.1, fun i hi => wpOp_of_gOpX hD (fun a' s' bs' w' hD' => wpAny_of_anyX hQ fuel _ a' s' bs' w' hD') (h.2 i hi)⟩

def YieldsX (P : Program) (ops : Array Oper) (C : Cls σ W) (pre : σ → Prop) (o : Oper) (v : Value) (a : Act) (s : σ) (bs : Made) : Prop :=
  (Region.wanted o (yielded ops a.tmps) = true ∧ isMkx o = false ∧ isChx o = false ∧ readX P C pre o a s bs v) ∨
  (Region.wanted o (yielded ops a.tmps) = false ∧ v = undef)
theorem YieldsX.gOp {i : Nat} {o : Oper} {v : Value} {a : Act} {s : σ} {bs : Made} (hi : ops[i]? = some o) (hy : YieldsX P ops C pre o v a s bs) {K : Act → σ → Made → Prop} (h : K (a.put o.dst v) s bs) : gOpX P ops C pre i K a s bs := by
  unfold gOpX
  simp only [hi]
  rcases hy with ⟨hw, hm, hc, hv⟩ | ⟨hw, rfl⟩
  · simp only [hw, if_true, thxOp, hm, hc, Bool.false_eq_true, if_false]; exact ⟨v, hv, h⟩
  · simp only [hw, Bool.false_eq_true, if_false]; exact h
theorem YieldsX.of_same {o : Oper} {v : Value} {a a' : Act} {s s' : σ} {bs bs' : Made} (hy : YieldsX P ops C pre o v a s bs) (he : execOp a'.eval o = execOp a.eval o)
    (hw : Region.wanted o (yielded ops a'.tmps) = Region.wanted o (yielded ops a.tmps)) (hs : ∀ x ∈ bs, x ∈ bs') (hp : isPur o = false → pre s → pre s') : YieldsX P ops C pre o v a' s' bs' := by
  unfold YieldsX readX at *
  rw [he, hw]
  refine hy.imp (fun ⟨h1, h2, h3, h4⟩ => ⟨h1, h2, h3, ?_⟩) id
  split
  · rename_i hu; rw [if_pos hu] at h4; exact h4
  · rename_i hu
    rw [if_neg hu] at h4
    exact ⟨hp (by simpa using hu) h4.1, fun s'' bs'' w hp' hb hD => h4.2 s'' bs'' w hp' (fun x hx => hb x (hs x hx)) hD⟩
theorem MkA.put {o : Oper} {a : Act} {d : Option Tmp} {v : Value} {O : Obj} {sh : Option Nat} (he : execOp (a.put d v).eval o = execOp a.eval o) (h : MkA P o (a.put d v) O sh) : MkA P o a O sh := ⟨h.1, by rw [← he]; exact h.2⟩
theorem MkA.put' {o : Oper} {a : Act} {d : Option Tmp} {v : Value} {O : Obj} {sh : Option Nat} (he : execOp (a.put d v).eval o = execOp a.eval o) (h : MkA P o a O sh) : MkA P o (a.put d v) O sh := ⟨h.1, by rw [he]; exact h.2⟩

theorem gOpX_put {j : Nat} {oi oj : Oper} {v : Value} (hj : ops[j]? = some oj) (hap : oi.apart ops oj = true)
    (hsi : ∀ cs b, oi.op ≠ .select cs b) (hsj : ∀ cs b, oj.op ≠ .select cs b) (hE : isPur oi = true ∨ isEff oj = false) {K : Act → σ → Made → Prop} {a : Act} {s : σ} {bs : Made}
    (hy : YieldsX P ops C pre oi v a s bs) (h : gOpX P ops C pre j K (a.put oi.dst v) s bs) :
    gOpX P ops C pre j (fun a' s' bs' => YieldsX P ops C pre oi v a' s' bs' ∧ K (a'.put oi.dst v) s' bs') a s bs := by
  obtain ⟨h1, h2, h3⟩ := Oper.apart_spec hap
  have keep : ∀ (u : Value) (s' : σ) (bs' : Made), (∀ x ∈ bs, x ∈ bs') → (isPur oi = false → pre s → pre s') → YieldsX P ops C pre oi v (a.put oj.dst u) s' bs' := fun u s' bs' hs hp =>
    hy.of_same (execOp_put oi hsi a oj.dst u h3) (wanted_put oi a oj.dst u h3) hs hp
  have hex := execOp_put oj hsj a oi.dst v h1
  unfold gOpX at *
  simp only [hj] at *
  rw [wanted_put oj a oi.dst v h1] at h
  split
  · rename_i hw
    simp only [hw, if_true] at h
    unfold thxOp at *
    split
    · rename_i hm
      simp only [hm, if_true] at h
      obtain ⟨O, sh, hO, hn⟩ := h
      refine ⟨O, sh, hO.put hex, fun b hb hf => ⟨keep _ _ _ (fun x hx => List.mem_cons_of_mem _ hx) (fun _ h => h), ?_⟩⟩
      rw [← Act.put_comm a v _ h2]
      exact hn b hb hf
    · rename_i hm
      simp only [hm, Bool.false_eq_true, if_false] at h
      split
      · rename_i hc
        simp only [hc, if_true] at h
        obtain ⟨Post, hu, hpp, hn⟩ := h
        refine ⟨Post, fun bs' w hb hD => ?_, hpp, fun u s' hp => ⟨keep u s' bs (fun _ hx => hx) (fun hpu _ => ?_), by rw [← Act.put_comm a v u h2]; exact hn u s' hp⟩⟩
        · have := hu bs' w hb hD
          rwa [hex] at this
        · rcases hE with hE | hE
          · rw [hE] at hpu; cases hpu
          · exact hpp hE u s' hp
      · rename_i hc
        simp only [hc, Bool.false_eq_true, if_false] at h
        obtain ⟨u, hu, hn⟩ := h
        refine ⟨u, ?_, keep u s bs (fun _ hx => hx) (fun _ h => h), by rw [← Act.put_comm a v u h2]; exact hn⟩
        unfold readX at hu ⊢
        rw [hex] at hu
        exact hu
  · rename_i hw
    simp only [hw, Bool.false_eq_true, if_false] at h
    exact ⟨keep undef s bs (fun _ hx => hx) (fun _ h => h), by rw [← Act.put_comm a v undef h2]; exact h⟩

theorem anyX_first {Q : Act → σ → Made → Prop} {i : Nat} {oi : Oper} {v : Value} (hi : ops[i]? = some oi) (hsel : ∀ (j : Nat) (o : Oper) cs b, ops[j]? = some o → o.op ≠ .select cs b)
    (hst : isPur oi = true ∨ ∀ j o, ops[j]? = some o → isEff o = true → j ≠ i → j ∈ waitsOn md ops i ops.size) :
    ∀ (fuel : Nat) (listed : Array Bool) (a : Act) (s : σ) (bs : Made), Closed md ops listed → FreeT md ops i oi listed →
      i ∈ Region.ready md ops listed → YieldsX P ops C pre oi v a s bs →
      anyX P md ops C pre Q fuel (listed.setIfInBounds i true) (a.put oi.dst v) s bs → anyX P md ops C pre Q (fuel + 1) listed a s bs := by
  intro fuel
  induction fuel with
  | zero =>
    intro listed a s bs hc _ hr hy H
    refine ⟨fun h => (by rw [h] at hr; cases hr), fun j hj => ?_⟩
    by_cases hji : j = i
    · subst hji; exact hy.gOp hi H
    · have := ready_mono hj hji
      rw [H.1] at this
      cases this
  | succ fuel ih =>
    intro listed a s bs hc hfree hr hy H
    refine ⟨fun h => (by rw [h] at hr; cases hr), fun j hj => ?_⟩
    by_cases hji : j = i
    · subst hji; exact hy.gOp hi H
    · have h1 := H.2 j (ready_mono hj hji)
      obtain ⟨hjun, oj, hoj, hall⟩ := mem_ready.1 hj
      have hnot : ∀ e ∈ oj.after, Region.binds md e = true → e.on ≠ i := fun e he hb heq => by
        have h1 := hall e he hb
        have h0 := (mem_ready.1 hr).1
        rw [heq] at h1
        rw [getD_ne_of_true h0] at h1
        cases h1
      have hE : isPur oi = true ∨ isEff oj = false := by
        rcases hst with h | h
        · exact .inl h
        · right
          cases he : isEff oj with
          | false => rfl
          | true => exact absurd hj (waitsOn_spec hc (getD_ne_of_true (mem_ready.1 hr).1) _ j (h j oj hoj he hji)).2
      have h2 := gOpX_put hoj (hfree j oj hoj hji hjun hnot) (fun cs b => hsel i oi cs b hi) (fun cs b => hsel j oj cs b hoj) hE hy h1
      refine gOpX_mono (fun a' s' bs' h3 => ih (listed.setIfInBounds j true) a' s' bs' (hc.set hj) (hfree.set hjun) (ready_mono hr (Ne.symm hji)) h3.1 ?_) h2
      rw [Array.setIfInBounds_comm _ _ hji]; exact h3.2

theorem anyX_perm {Q : Act → σ → Made → Prop} (hQ : ∀ a s bs bs', (∀ x, x ∈ bs ↔ x ∈ bs') → Q a s bs → Q a s bs') :
    ∀ (fuel : Nat) (listed : Array Bool) (a : Act) (s : σ) (bs bs' : Made), (∀ x, x ∈ bs ↔ x ∈ bs') → anyX P md ops C pre Q fuel listed a s bs → anyX P md ops C pre Q fuel listed a s bs'
  | 0, _, _, _, _, _, hp, h => ⟨h.1, hQ _ _ _ _ hp h.2⟩
  | fuel + 1, listed, a, s, bs, bs', hp, h => by
    refine ⟨h.1, fun j hj => ?_⟩
    have h1 := h.2 j hj
    unfold gOpX at *
    split
    · rename_i ho; simp only [ho] at h1; exact anyX_perm hQ fuel _ _ _ _ _ hp h1
    · rename_i o ho
      simp only [ho] at h1
      split
      · rename_i hw
        simp only [hw, if_true] at h1
        unfold thxOp at *
        split
        · rename_i hm
          simp only [hm, if_true] at h1
          obtain ⟨O, sh, hO, hn⟩ := h1
          exact ⟨O, sh, hO, fun b hb hf => anyX_perm hQ fuel _ _ _ _ _ (fun x => by simp only [List.mem_cons, hp]) (hn b hb fun x hx => hf x ((hp x).1 hx))⟩
        · rename_i hm
          simp only [hm, Bool.false_eq_true, if_false] at h1
          split
          · rename_i hc
            simp only [hc, if_true] at h1
            obtain ⟨Post, hv, hpp, hn⟩ := h1
            exact ⟨Post, fun bs'' w hb hD => hv bs'' w (fun x hx => hb x ((hp x).1 hx)) hD, hpp, fun v s' hpo => anyX_perm hQ fuel _ _ _ _ _ hp (hn v s' hpo)⟩
          · rename_i hc
            simp only [hc, Bool.false_eq_true, if_false] at h1
            obtain ⟨v, hv, hn⟩ := h1
            refine ⟨v, ?_, anyX_perm hQ fuel _ _ _ _ _ hp hn⟩
            unfold readX at hv ⊢
            split
            · rename_i hu; rw [if_pos hu] at hv; exact hv
            · rename_i hu
              rw [if_neg hu] at hv
              exact ⟨hv.1, fun s'' bs'' w hp' hb hD => hv.2 s'' bs'' w hp' (fun x hx => hb x ((hp x).1 hx)) hD⟩
      · rename_i hw; simp only [hw, Bool.false_eq_true, if_false] at h1; exact anyX_perm hQ fuel _ _ _ _ _ hp h1

theorem fresh_block (n : Nat) : ∀ bs : Made, ∃ b, n ≤ b ∧ ∀ x ∈ bs, x.1 ≠ b := by
  intro bs
  have : ∃ b, n ≤ b ∧ ∀ x ∈ bs, x.1 < b := by
    induction bs with
    | nil => exact ⟨n, Nat.le_refl _, fun x hx => by cases hx⟩
    | cons y bs ih =>
      obtain ⟨b, h1, h2⟩ := ih
      refine ⟨b + y.1 + 1, by omega, fun x hx => ?_⟩
      rcases List.mem_cons.1 hx with rfl | hx
      · omega
      · have := h2 x hx; omega
  obtain ⟨b, h1, h2⟩ := this
  exact ⟨b, h1, fun x hx => Nat.ne_of_lt (h2 x hx)⟩

/-- Which operations are ready, however they are drawn. -/
def StrX (md : Region.Mode) (ops : Array Oper) : Nat → Array Bool → Prop
  | 0, listed => Region.ready md ops listed = []
  | fuel + 1, listed => Region.ready md ops listed ≠ [] ∧ ∀ j ∈ Region.ready md ops listed, StrX md ops fuel (listed.setIfInBounds j true)
theorem StrX_first {i : Nat} : ∀ (fuel : Nat) (listed : Array Bool), i ∈ Region.ready md ops listed → StrX md ops fuel (listed.setIfInBounds i true) → StrX md ops (fuel + 1) listed
  | 0, listed, hr, H => by
    refine ⟨fun h => (by rw [h] at hr; cases hr), fun j hj => ?_⟩
    by_cases hji : j = i
    · subst hji; exact H
    · have h1 := ready_mono hj hji
      have h2 : Region.ready md ops (listed.setIfInBounds i true) = [] := H
      rw [h2] at h1; cases h1
  | fuel + 1, listed, hr, H => by
    refine ⟨fun h => (by rw [h] at hr; cases hr), fun j hj => ?_⟩
    by_cases hji : j = i
    · subst hji; exact H
    · refine StrX_first fuel _ (ready_mono hr (Ne.symm hji)) ?_
      rw [Array.setIfInBounds_comm _ _ hji]
      exact H.2 j (ready_mono hj hji)

/-- A call or a store may be taken first, where nothing but new variables can come ahead of it. -/
theorem anyX_chain {Q : Act → σ → Made → Prop} (hQ : ∀ a s bs bs', (∀ x, x ∈ bs ↔ x ∈ bs') → Q a s bs → Q a s bs') {i : Nat} {oi : Oper} (hi : ops[i]? = some oi) (hmi : isMkx oi = false) (hci : isChx oi = true)
    (hg : ∀ (j : Nat) o, ops[j]? = some o → isMkx o = true → isLit o = false → ∃ O sh, ∀ a, MkA P o a O sh) (hsel : ∀ (j : Nat) (o : Oper) cs b, ops[j]? = some o → o.op ≠ .select cs b) :
    ∀ (fuel : Nat) (listed : Array Bool) (a : Act) (s : σ) (bs : Made), Closed md ops listed → FreeT md ops i oi listed →
      (∀ j oj, ops[j]? = some oj → j ≠ i → listed.getD j true = false → (isMkx oj = true ∧ (isLit oj = false ∨ (j ∈ Region.ready md ops listed ∧ FreeT md ops j oj listed ∧ ∃ O sh, MkA P oj a O sh))) ∨ j ∈ waitsOn md ops i ops.size) →
      i ∈ Region.ready md ops listed → StrX md ops fuel (listed.setIfInBounds i true) → gOpX P ops C pre i (anyX P md ops C pre Q fuel (listed.setIfInBounds i true)) a s bs →
      anyX P md ops C pre Q (fuel + 1) listed a s bs := by
  intro fuel
  induction fuel with
  | zero =>
    intro listed a s bs hc _ hoth hr hS H
    refine ⟨fun h => (by rw [h] at hr; cases hr), fun j hj => ?_⟩
    by_cases hji : j = i
    · subst hji; exact H
    · have h1 := ready_mono hj hji
      have h2 : Region.ready md ops (listed.setIfInBounds i true) = [] := hS
      rw [h2] at h1; cases h1
  | succ fuel ih =>
    intro listed a s bs hc hfree hoth hr hS H
    refine ⟨fun h => (by rw [h] at hr; cases hr), fun j hj => ?_⟩
    by_cases hji : j = i
    · subst hji; exact H
    · obtain ⟨hjun, oj, hoj, hall⟩ := mem_ready.1 hj
      obtain ⟨hmj, hlj⟩ := (hoth j oj hoj hji hjun).resolve_right fun hw => absurd hj (waitsOn_spec hc (getD_ne_of_true (mem_ready.1 hr).1) _ j hw).2
      have hnot : ∀ e ∈ oj.after, Region.binds md e = true → e.on ≠ i := fun e he hb heq => by
        have h1 := hall e he hb
        have h0 := (mem_ready.1 hr).1
        rw [heq] at h1
        rw [getD_ne_of_true h0] at h1
        cases h1
      obtain ⟨hap1, hap2, hap3⟩ := Oper.apart_spec (hfree j oj hoj hji hjun hnot)
      have hoth' : ∀ (v : Value) k ok, ops[k]? = some ok → k ≠ i → (listed.setIfInBounds j true).getD k true = false → (isMkx ok = true ∧ (isLit ok = false ∨ (k ∈ Region.ready md ops (listed.setIfInBounds j true) ∧ FreeT md ops k ok (listed.setIfInBounds j true) ∧ ∃ O sh, MkA P ok (a.put oj.dst v) O sh))) ∨ k ∈ waitsOn md ops i ops.size := fun v k ok hk hki hun => by
        by_cases hjk : j = k
        · subst hjk
          have hsz : j < listed.size := by
            rcases Nat.lt_or_ge j listed.size with h' | h'
            · exact h'
            · simp [Array.getD, Nat.not_lt.2 h'] at hjun
          simp [Array.getD, hsz] at hun
        · have hun' := hun
          rw [getD_set_ne true hjk] at hun
          rcases hoth k ok hk hki hun with ⟨h1, h2⟩ | h
          · refine .inl ⟨h1, ?_⟩
            rcases h2 with h2 | ⟨h3, h4, O, sh, h5⟩
            · exact .inl h2
            · refine .inr ⟨ready_mono h3 (Ne.symm hjk), h4.set hjun, O, sh, ?_⟩
              have hnk : ∀ e ∈ oj.after, Region.binds md e = true → e.on ≠ k := fun e he hb heq => by
                have h1 := hall e he hb
                have h0 := (mem_ready.1 h3).1
                rw [heq] at h1
                rw [getD_ne_of_true h0] at h1
                cases h1
              obtain ⟨_, _, q3⟩ := Oper.apart_spec (h4 j oj hoj hjk hjun hnk)
              exact h5.put' (execOp_put ok (fun cs b => hsel k ok cs b hk) a oj.dst v q3)
          · exact .inr h
      have hOj' : ∃ O sh, MkA P oj a O sh := by
        rcases hlj with hlj | ⟨_, _, h⟩
        · obtain ⟨O, sh, h⟩ := hg j oj hoj hmj hlj
          exact ⟨O, sh, h a⟩
        · exact h
      obtain ⟨Oj, shj, hOj⟩ := hOj'
      have hxi : ∀ v, execOp (a.put oi.dst v).eval oj = execOp a.eval oj := fun v => execOp_put oj (fun cs b => hsel j oj cs b hoj) a oi.dst v hap1
      have hjr := ready_mono hj hji
      have wj : ∀ y, Region.wanted oj y = true := fun y => by simp [Region.wanted, hOj.1]
      have atj : ∀ {u s' bs'}, anyX P md ops C pre Q (fuel + 1) (listed.setIfInBounds i true) (a.put oi.dst u) s' bs' → ∀ c, W.heap.size ≤ c → (∀ x ∈ bs', x.1 ≠ c) →
          anyX P md ops C pre Q fuel ((listed.setIfInBounds j true).setIfInBounds i true) ((a.put oi.dst u).put oj.dst (mval shj c)) s' ((c, Oj) :: bs') := fun {u s' bs'} h c hcb hcf => by
        have h1 := h.2 j hjr
        unfold gOpX at h1
        simp only [hoj, wj, if_true, thxOp, hmj] at h1
        obtain ⟨O', sh', hO', hn⟩ := h1
        obtain ⟨rfl, rfl⟩ := MkA.one W hOj (hO'.put (hxi _))
        rw [Array.setIfInBounds_comm _ _ hji]
        exact hn c hcb hcf
      unfold gOpX
      simp only [hoj, wj, if_true, thxOp, hmj]
      refine ⟨Oj, shj, hOj, fun c hcb hcf => ih (listed.setIfInBounds j true) _ _ _ (hc.set hj) (hfree.set hjun) (hoth' _) (ready_mono hr (Ne.symm hji)) ?_ ?_⟩
      · rw [Array.setIfInBounds_comm _ _ hji]; exact hS.2 j hjr
      · unfold gOpX at H ⊢
        simp only [hi] at H ⊢
        rw [wanted_put oi a oj.dst _ hap3]
        by_cases hw : Region.wanted oi (yielded ops a.tmps) = true
        · simp only [hw, if_true] at H ⊢
          unfold thxOp at H ⊢
          simp only [hmi, hci, if_true, Bool.false_eq_true, if_false] at H ⊢
          obtain ⟨Post, hP, hpp, hn⟩ := H
          refine ⟨Post, fun bs' w hb hD => ?_, hpp, fun v s' hp => ?_⟩
          · rw [execOp_put oi (fun cs b => hsel i oi cs b hi) a oj.dst _ hap3]
            exact hP bs' w (fun x hx => hb x (List.mem_cons_of_mem _ hx)) hD
          · rw [← Act.put_comm a _ _ hap2]
            exact atj (hn v s' hp) c hcb hcf
        · have hw' : Region.wanted oi (yielded ops a.tmps) = false := by simpa using hw
          simp only [hw', Bool.false_eq_true, if_false] at H ⊢
          rw [← Act.put_comm a _ _ hap2]
          exact atj H c hcb hcf

/-- What makes a block may be taken first, where nothing but what makes blocks can come ahead of it. -/
theorem anyX_make {Q : Act → σ → Made → Prop} (hQ : ∀ a s bs bs', (∀ x, x ∈ bs ↔ x ∈ bs') → Q a s bs → Q a s bs') {i : Nat} {oi : Oper} (hi : ops[i]? = some oi) (hmi : isMkx oi = true)
    (hgn : ∀ (j : Nat) o, ops[j]? = some o → isMkx o = true → o.guard = none) (hsel : ∀ (j : Nat) (o : Oper) cs b, ops[j]? = some o → o.op ≠ .select cs b) :
    ∀ (fuel : Nat) (listed : Array Bool) (a : Act) (s : σ) (bs : Made), Closed md ops listed → FreeT md ops i oi listed →
      (∀ j oj, ops[j]? = some oj → j ≠ i → listed.getD j true = false → isMkx oj = true ∨ j ∈ waitsOn md ops i ops.size) →
      i ∈ Region.ready md ops listed → StrX md ops fuel (listed.setIfInBounds i true) → gOpX P ops C pre i (anyX P md ops C pre Q fuel (listed.setIfInBounds i true)) a s bs →
      anyX P md ops C pre Q (fuel + 1) listed a s bs := by
  have wanted : ∀ (j : Nat) o, ops[j]? = some o → isMkx o = true → ∀ y, Region.wanted o y = true := fun j o ho h y => by simp [Region.wanted, hgn j o ho h]
  intro fuel
  induction fuel with
  | zero =>
    intro listed a s bs hc _ hoth hr hS H
    refine ⟨fun h => (by rw [h] at hr; cases hr), fun j hj => ?_⟩
    by_cases hji : j = i
    · subst hji; exact H
    · have h1 := ready_mono hj hji
      have h2 : Region.ready md ops (listed.setIfInBounds i true) = [] := hS
      rw [h2] at h1; cases h1
  | succ fuel ih =>
    intro listed a s bs hc hfree hoth hr hS H
    refine ⟨fun h => (by rw [h] at hr; cases hr), fun j hj => ?_⟩
    by_cases hji : j = i
    · subst hji; exact H
    · obtain ⟨hjun, oj, hoj, hall⟩ := mem_ready.1 hj
      have hmj := (hoth j oj hoj hji hjun).resolve_right fun hw => absurd hj (waitsOn_spec hc (getD_ne_of_true (mem_ready.1 hr).1) _ j hw).2
      have hnot : ∀ e ∈ oj.after, Region.binds md e = true → e.on ≠ i := fun e he hb heq => by
        have h1 := hall e he hb
        have h0 := (mem_ready.1 hr).1
        rw [heq] at h1
        rw [getD_ne_of_true h0] at h1
        cases h1
      obtain ⟨hap1, hap2, hap3⟩ := Oper.apart_spec (hfree j oj hoj hji hjun hnot)
      have hoth' : ∀ k ok, ops[k]? = some ok → k ≠ i → (listed.setIfInBounds j true).getD k true = false → isMkx ok = true ∨ k ∈ waitsOn md ops i ops.size := fun k ok hk hki hun => by
        refine hoth k ok hk hki ?_
        by_cases hjk : j = k
        · subst hjk; exact hjun
        · rw [getD_set_ne true hjk] at hun; exact hun
      have hjr := ready_mono hj hji
      have hxi : ∀ v, execOp (a.put oi.dst v).eval oj = execOp a.eval oj := fun v => execOp_put oj (fun cs b => hsel j oj cs b hoj) a oi.dst v hap1
      have hxj : ∀ v, execOp (a.put oj.dst v).eval oi = execOp a.eval oi := fun v => execOp_put oi (fun cs b => hsel i oi cs b hi) a oj.dst v hap3
      unfold gOpX at H
      simp only [hi, wanted i oi hi hmi, if_true, thxOp, hmi] at H
      obtain ⟨O, sh, hO, hn⟩ := H
      have atj : ∀ b, W.heap.size ≤ b → (∀ x ∈ bs, x.1 ≠ b) → ∃ O' sh', MkA P oj (a.put oi.dst (mval sh b)) O' sh' ∧ ∀ c, W.heap.size ≤ c → (∀ x ∈ (b, O) :: bs, x.1 ≠ c) →
          anyX P md ops C pre Q fuel ((listed.setIfInBounds i true).setIfInBounds j true) ((a.put oi.dst (mval sh b)).put oj.dst (mval sh' c)) s ((c, O') :: (b, O) :: bs) := fun b hb hf => by
        have h1 := (hn b hb hf).2 j hjr
        unfold gOpX at h1
        simp only [hoj, wanted j oj hoj hmj, if_true, thxOp, hmj] at h1
        exact h1
      obtain ⟨b0, hb0, hf0⟩ := fresh_block W.heap.size bs
      obtain ⟨Oj, shj, hOj0, _⟩ := atj b0 hb0 hf0
      have hOj : MkA P oj a Oj shj := hOj0.put (hxi _)
      unfold gOpX
      simp only [hoj, wanted j oj hoj hmj, if_true, thxOp, hmj]
      refine ⟨Oj, shj, hOj, fun c hcb hcf => ih (listed.setIfInBounds j true) _ _ _ (hc.set hj) (hfree.set hjun) hoth' (ready_mono hr (Ne.symm hji)) ?_ ?_⟩
      · rw [Array.setIfInBounds_comm _ _ hji]; exact hS.2 j hjr
      · unfold gOpX
        simp only [hi, wanted i oi hi hmi, if_true, thxOp, hmi]
        refine ⟨O, sh, hO.put' (hxj _), fun b hb hf => ?_⟩
        obtain ⟨O', sh', hO', hn'⟩ := atj b hb fun x hx => hf x (List.mem_cons_of_mem _ hx)
        obtain ⟨rfl, rfl⟩ := MkA.one W hOj (hO'.put (hxi _))
        have h2 := hn' c hcb fun x hx => by
          rcases List.mem_cons.1 hx with rfl | hx
          · exact fun e => hf (c, Oj) List.mem_cons_self e.symm
          · exact hcf x hx
        rw [← Act.put_comm a _ _ hap2, Array.setIfInBounds_comm _ _ hji]
        exact anyX_perm hQ _ _ _ _ _ _ (fun x => by simp only [List.mem_cons]; constructor <;> (rintro (h | h | h) <;> simp [h])) h2

/-! ### A given order -/
def thxFrom (md : Region.Mode) (ops : Array Oper) : List (Nat × List Nat) → Array Bool → Bool
  | [], listed => (Region.ready md ops listed).isEmpty
  | (k, ls) :: l, listed => (Region.ready md ops listed).contains k && Region.free md ops listed k &&
      (match ops[k]? with
       | some o =>
         if isMkx o then (List.range ops.size).all fun j => j == k || listed.getD j true || ((ops[j]?).map isMkx).getD true || (waitsOn md ops k ops.size).contains j
         else if isChx o then (List.range ops.size).all fun j => j == k || listed.getD j true || ((ops[j]?).map fun o => isMkx o && (!isLit o || (ls.contains j && (Region.ready md ops listed).contains j && Region.free md ops listed j))).getD true || (waitsOn md ops k ops.size).contains j
         else isPur o || (List.range ops.size).all fun j => j == k || !((ops[j]?).map isEff).getD false || (waitsOn md ops k ops.size).contains j
       | none => false) && thxFrom md ops l (listed.setIfInBounds k true)
def thxB (md : Region.Mode) (ops : Array Oper) (ord : List (Nat × List Nat)) : Bool :=
  Region.noSelect ops && ((List.range ops.size).all fun j => ((ops[j]?).map fun o => !isMkx o || o.guard.isNone).getD true) &&
  thxFrom md ops ord (Array.replicate ops.size false) && (ord.length == ops.size)

/-- The walk in the given order. -/
def wpThx (P : Program) (ops : Array Oper) (C : Cls σ W) (pre : σ → Prop) (Q : Act → σ → Made → Prop) : List (Oper × List Nat) → Act → σ → Made → Prop
  | [], a, s, bs => Q a s bs
  | (o, ls) :: rest, a, s, bs => (∀ j ∈ ls, ∀ oj, ops[j]? = some oj → ∃ O sh, MkA P oj a O sh) ∧ if Region.wanted o (yielded ops a.tmps) then thxOp P C pre o a s bs (wpThx P ops C pre Q rest) else wpThx P ops C pre Q rest (a.put o.dst undef) s bs

theorem StrX_of_from (ord : List (Nat × List Nat)) : ∀ (listed : Array Bool), thxFrom md ops ord listed = true → StrX md ops ord.length listed := by
  induction ord with
  | nil => intro listed h; simpa [thxFrom, StrX] using h
  | cons k l ih =>
    intro listed h
    simp only [thxFrom, Bool.and_eq_true] at h
    obtain ⟨⟨⟨hr, _⟩, _⟩, h4⟩ := h
    exact StrX_first l.length listed (by simpa using hr) (ih _ h4)

theorem anyX_lex {R : Act → σ → Made → Prop} (hR : ∀ a s bs bs', (∀ x, x ∈ bs ↔ x ∈ bs') → R a s bs → R a s bs')
    (hsel : Region.noSelect ops = true) (hgn : ∀ (j : Nat) o, ops[j]? = some o → isMkx o = true → o.guard = none)
    (hg : ∀ (j : Nat) o, ops[j]? = some o → isMkx o = true → isLit o = false → ∃ O sh, ∀ a, MkA P o a O sh) :
    ∀ (ord : List (Nat × List Nat)) (l : List (Oper × List Nat)) (listed : Array Bool) (a : Act) (s : σ) (bs : Made),
      l.map (fun x => (some x.1, x.2)) = ord.map (fun x => (ops[x.1]?, x.2)) → Closed md ops listed → thxFrom md ops ord listed = true → wpThx P ops C pre R l a s bs → anyX P md ops C pre R ord.length listed a s bs
  | [], l, listed, a, s, bs, hl, _, hB, h => by
    have : l = [] := by simpa using hl
    subst this
    exact ⟨by simpa [thxFrom] using hB, h⟩
  | k :: ord, [], listed, a, s, bs, hl, _, _, _ => by simp at hl
  | (k, ls) :: ord, (o, ls') :: l, listed, a, s, bs, hl, hc, hB, h => by
    have hl2 : (some o = ops[k]? ∧ ls' = ls) ∧ l.map (fun x => (some x.1, x.2)) = ord.map (fun x => (ops[x.1]?, x.2)) := by simpa using hl
    have h0 : ops[k]? = some o := hl2.1.1.symm
    obtain rfl := hl2.1.2
    simp only [thxFrom, h0, Bool.and_eq_true] at hB
    obtain ⟨⟨⟨hr, hf⟩, hmk⟩, hB'⟩ := hB
    have hr' : k ∈ Region.ready md ops listed := by simpa using hr
    have hS := StrX_of_from ord _ hB'
    have next : ∀ a' s' bs', wpThx P ops C pre R l a' s' bs' → anyX P md ops C pre R ord.length (listed.setIfInBounds k true) a' s' bs' := fun a' s' bs' hh =>
      anyX_lex hR hsel hgn hg ord l _ a' s' bs' hl2.2 (hc.set hr') hB' hh
    have hh : if Region.wanted o (yielded ops a.tmps) then thxOp P C pre o a s bs (wpThx P ops C pre R l) else wpThx P ops C pre R l (a.put o.dst undef) s bs := h.2
    have hside : ∀ j ∈ ls', ∀ oj, ops[j]? = some oj → ∃ O sh, MkA P oj a O sh := h.1
    have hgo : gOpX P ops C pre k (anyX P md ops C pre R ord.length (listed.setIfInBounds k true)) a s bs := by
      unfold gOpX
      simp only [h0]
      by_cases hw : Region.wanted o (yielded ops a.tmps) = true
      · simp only [hw, if_true] at hh ⊢
        exact thxOp_mono (fun a s bs h => next a s bs h) hh
      · have hw' : Region.wanted o (yielded ops a.tmps) = false := by simpa using hw
        simp only [hw', Bool.false_eq_true, if_false] at hh ⊢
        exact next _ _ _ hh
    cases hm1 : isMkx o with
    | true =>
      simp only [hm1, if_true, List.all_eq_true, List.mem_range] at hmk
      refine anyX_make hR h0 hm1 hgn (Region.noSelect_spec hsel) ord.length listed a s bs hc (Region.free_spec h0 hf) (fun j oj hj hji hun => ?_) hr' hS hgo
      have := hmk j (Array.getElem?_eq_some_iff.1 hj).1
      simpa [hj, hun, hji] using this
    | false =>
      cases hm2 : isChx o with
      | true =>
        simp only [hm1, hm2, if_true, Bool.false_eq_true, if_false, List.all_eq_true, List.mem_range] at hmk
        refine anyX_chain hR h0 hm1 hm2 hg (Region.noSelect_spec hsel) ord.length listed a s bs hc (Region.free_spec h0 hf) (fun j oj hj hji hun => ?_) hr' hS hgo
        have h1 := hmk j (Array.getElem?_eq_some_iff.1 hj).1
        have h2 : (isMkx oj = true ∧ (isLit oj = false ∨ ((j ∈ ls' ∧ j ∈ Region.ready md ops listed) ∧ Region.free md ops listed j = true))) ∨ j ∈ waitsOn md ops k ops.size := by simpa [hj, hun, hji] using h1
        exact h2.imp (fun ⟨g1, g2⟩ => ⟨g1, g2.imp id fun ⟨⟨g3, g4⟩, g5⟩ => ⟨g4, Region.free_spec hj g5, hside j g3 oj hj⟩⟩) id
      | false =>
        simp only [hm1, hm2, Bool.false_eq_true, if_false, Bool.or_eq_true, List.all_eq_true, List.mem_range] at hmk
        have hst : isPur o = true ∨ ∀ j o', ops[j]? = some o' → isEff o' = true → j ≠ k → j ∈ waitsOn md ops k ops.size := by
          rcases hmk with h | h
          · exact .inl h
          · refine .inr fun j o' hj he hne => ?_
            have := h j (Array.getElem?_eq_some_iff.1 hj).1
            simpa [hj, he, hne] using this
        have hy : ∃ v, YieldsX P ops C pre o v a s bs ∧ wpThx P ops C pre R l (a.put o.dst v) s bs := by
          by_cases hw : Region.wanted o (yielded ops a.tmps) = true
          · simp only [hw, if_true, thxOp, hm1, hm2, Bool.false_eq_true, if_false] at hh
            obtain ⟨v, h1, h2⟩ := hh
            exact ⟨v, .inl ⟨hw, hm1, hm2, h1⟩, h2⟩
          · have hw' : Region.wanted o (yielded ops a.tmps) = false := by simpa using hw
            simp only [hw', Bool.false_eq_true, if_false] at hh
            exact ⟨undef, .inr ⟨hw', rfl⟩, hh⟩
        obtain ⟨v, hy, hn⟩ := hy
        exact anyX_first h0 (Region.noSelect_spec hsel) hst ord.length listed a s bs hc (Region.free_spec h0 hf) hr' hy (next _ _ _ hn)

/-- **ONE WALK IN A GIVEN ORDER SERVES EVERY ORDER**: slices written out, stores and entries among it. -/
theorem wp_region_thx {rid : Nat} {Q : Exit → Act → World → Prop} {a : Act} {w : World} {l : List Oper} (C : Cls σ w) (pre : σ → Prop) (s0 : σ) (ord : List (Nat × List Nat)) (l' : List (Oper × List Nat)) (hm : P.follows .mixedOrders = true) (hB : thxB .any l.toArray ord = true)
    (hmk : (l.all fun o => !isMkx o || isLit o || mkB P o) = true) (hl' : l'.map (fun x => (some x.1, x.2)) = ord.map (fun x => (l[x.1]?, x.2))) (h0 : C.In s0 [] w.drew)
    (h : wpThx P l.toArray C pre (fun a' s bs => ∀ w', C.In s bs w' → Q .normal a' w') l' a s0 []) : (Code.region rid l.toArray true).wp P Q a w := by
  unfold thxB at hB
  simp only [Bool.and_eq_true, List.all_eq_true, List.mem_range] at hB
  obtain ⟨⟨⟨hsel, hgd⟩, hG⟩, hlen⟩ := hB
  have hlen : ord.length = l.toArray.size := by simpa using hlen
  refine wp_region_any hm ?_
  have hcl : Closed .any l.toArray (Array.replicate l.toArray.size false) := fun j o ho hj => by
    exfalso
    rcases Nat.lt_or_ge j l.length with h' | h' <;> simp [h'] at hj
  have hgn : ∀ (j : Nat) o, l.toArray[j]? = some o → isMkx o = true → o.guard = none := fun j o ho hmo => by
    have h1 := hgd j (Array.getElem?_eq_some_iff.1 ho).1
    rw [ho] at h1
    simpa [hmo] using h1
  have hany := anyX_lex (R := fun a' s bs => ∀ w', C.In s bs w' → Q .normal a' w') (fun a s bs bs' hp hh w' hD => hh w' (C.fewer hD fun x hx => (hp x).1 hx)) hsel hgn (fun j o ho hmo hlo => by
      have h2 : o ∈ l := by
        have : l[j]? = some o := by simpa using ho
        exact List.mem_of_getElem? this
      have h3 := (List.all_eq_true.1 hmk) o h2
      simp only [hmo, hlo, Bool.not_true, Bool.false_or] at h3
      obtain ⟨O, sh, hk⟩ := Mk.of_test h3
      exact ⟨O, sh, fun a => ⟨hk.1, hk.2 _⟩⟩) ord l' _ a s0 [] (by simpa using hl') hcl hG h
  have := wpAny_of_anyX (Q' := Q) (fun a s bs w' hD hh => hh w' hD) ord.length (Array.replicate l.toArray.size false) a s0 [] w.drew h0 hany
  rwa [hlen] at this

theorem pick_map {l : List Oper} : ∀ o : List (Nat × List Nat), (∀ i ∈ o, i.1 < l.length) → (o.filterMap fun x => (l[x.1]?).map fun y => (y, x.2)).map (fun x => (some x.1, x.2)) = o.map fun x => (l[x.1]?, x.2) := by
  intro o
  induction o with
  | nil => intro _; rfl
  | cons k o ih =>
    intro ho
    have hk := ho k (by simp)
    rw [List.filterMap_cons, List.getElem?_eq_getElem hk]
    simp only [Option.map_some, List.map_cons]
    rw [ih (fun i hi => ho i (by simp [hi]))]
    simp [hk]
theorem wp_region_thx' {rid : Nat} {Q : Exit → Act → World → Prop} {a : Act} {w : World} {l : List Oper} (C : Cls σ w) (pre : σ → Prop) (s0 : σ) (ord : List (Nat × List Nat)) (l' : List (Oper × List Nat)) (hm : P.follows .mixedOrders = true) (hB : thxB .any l.toArray ord = true)
    (hmk : (l.all fun o => !isMkx o || isLit o || mkB P o) = true) (hin : (ord.all fun i => decide (i.1 < l.length)) = true) (hl' : l' = ord.filterMap (fun x => (l[x.1]?).map fun y => (y, x.2))) (h0 : C.In s0 [] w.drew)
    (h : wpThx P l.toArray C pre (fun a' s bs => ∀ w', C.In s bs w' → Q .normal a' w') l' a s0 []) : (Code.region rid l.toArray true).wp P Q a w :=
  wp_region_thx C pre s0 ord l' hm hB hmk (hl' ▸ pick_map ord fun i hi => by simpa using (List.all_eq_true.1 hin) i hi) h0 h

/-! ### Steps of the walk -/
variable {Q : Act → σ → Made → Prop} {o : Oper} {rest : List (Oper × List Nat)} {a a' : Act} {s : σ} {bs : Made}
theorem wpThx_val (hm : isMkx o = false) (hc : isChx o = false) (hu : isPur o = false) (hw : Region.wanted o (yielded ops a.tmps) = true) (hp : pre s)
    (h : ∃ v, (∀ s' bs' w, pre s' → (∀ x ∈ bs, x ∈ bs') → C.In s' bs' w → growUpon P w v ((execOp a.eval o).run P w)) ∧ wpThx P ops C pre Q rest (a.put o.dst v) s bs) : wpThx P ops C pre Q ((o, []) :: rest) a s bs := by
  obtain ⟨v, h1, h2⟩ := h
  refine ⟨fun j hj => (by cases hj), ?_⟩
  simp only [hw, if_true, thxOp, hm, hc, Bool.false_eq_true, if_false]
  exact ⟨v, by unfold readX; rw [if_neg (by simp [hu])]; exact ⟨hp, h1⟩, h2⟩
theorem wpThx_pure (hm : isMkx o = false) (hc : isChx o = false) (hu : isPur o = true) (hw : Region.wanted o (yielded ops a.tmps) = true)
    (h : ∃ v, (∀ w, growUpon P w v ((execOp a.eval o).run P w)) ∧ wpThx P ops C pre Q rest (a.put o.dst v) s bs) : wpThx P ops C pre Q ((o, []) :: rest) a s bs := by
  obtain ⟨v, h1, h2⟩ := h
  refine ⟨fun j hj => (by cases hj), ?_⟩
  simp only [hw, if_true, thxOp, hm, hc, Bool.false_eq_true, if_false]
  exact ⟨v, by unfold readX; rw [if_pos hu]; exact h1, h2⟩
theorem wpThx_call (Post : Value → σ → Prop) (hm : isMkx o = false) (hc : isChx o = true) (hw : Region.wanted o (yielded ops a.tmps) = true)
    (h1 : ∀ bs' w, (∀ x ∈ bs, x ∈ bs') → C.In s bs' w → thxUpon P C bs' Post w ((execOp a.eval o).run P w)) (hp : isEff o = false → ∀ v s', Post v s' → pre s') (h2 : ∀ v s', Post v s' → wpThx P ops C pre Q rest (a.put o.dst v) s' bs) : wpThx P ops C pre Q ((o, []) :: rest) a s bs := by
  refine ⟨fun j hj => (by cases hj), ?_⟩
  simp only [hw, if_true, thxOp, hm, hc, Bool.false_eq_true, if_false]
  exact ⟨Post, h1, hp, h2⟩
theorem wpThx_pass (hw : Region.wanted o (yielded ops a.tmps) = false) (h : wpThx P ops C pre Q rest (a.put o.dst undef) s bs) : wpThx P ops C pre Q ((o, []) :: rest) a s bs := by
  refine ⟨fun j hj => (by cases hj), ?_⟩
  simp only [hw, Bool.false_eq_true, if_false]
  exact h
theorem wpThx_mk {O : Obj} {sh : Option Nat} (hm : isMkx o = true) (hO : MkA P o a O sh)
    (h : ∀ b, W.heap.size ≤ b → (∀ x ∈ bs, x.1 ≠ b) → wpThx P ops C pre Q rest (a.put o.dst (mval sh b)) s ((b, O) :: bs)) : wpThx P ops C pre Q ((o, []) :: rest) a s bs := by
  refine ⟨fun j hj => (by cases hj), ?_⟩
  simp only [show Region.wanted o (yielded ops a.tmps) = true by simp [Region.wanted, hO.1], if_true, thxOp, hm]
  exact ⟨O, sh, hO, h⟩
theorem wpThx_side {ls : List Nat} (h1 : ∀ j ∈ ls, ∀ oj, ops[j]? = some oj → ∃ O sh, MkA P oj a O sh) (h : wpThx P ops C pre Q ((o, []) :: rest) a s bs) : wpThx P ops C pre Q ((o, ls) :: rest) a s bs := ⟨h1, h.2⟩
theorem wpThx_nil (h : Q a s bs) : wpThx P ops C pre Q [] a s bs := h
theorem wpThx_at (e : a = a') {l : List (Oper × List Nat)} (h : wpThx P ops C pre Q l a' s bs) : wpThx P ops C pre Q l a s bs := e ▸ h
theorem thxUpon_ok {Post : Value → σ → Prop} {w w' : World} {u : Value} (h : ∃ s', Post u s' ∧ C.In s' bs w') : thxUpon P C bs Post w (.ok (.value u) w') := h
theorem thxUpon_call {Post : Value → σ → Prop} {w : World} {f : FuncId} {args : Array Value} (h : Calls P f args w (fun e w'' => ∃ v s', e = .returned v ∧ Post v s' ∧ C.In s' bs w'')) : thxUpon P C bs Post w (.ok (.enter f args) w) := ⟨rfl, h⟩
end
end Go.Proofs.Ytohjhbhbpflokaa
