/- XGrow's law where one-cell slices are made, too, and what comes last may be calls. Printed by maker.py. -/
import Derived.Test.YtloljnpnoohglaaGrow
import Derived.Laws.IdiomRangeMap
namespace Go.Proofs.Ytloljnpnoohglaa
set_option linter.unusedSimpArgs false
set_option linter.unusedVariables false
open Go Go.RowKit

section
variable {P : Program} {ops : Array Oper} {md : Region.Mode} {W : World}
def isMakerM (o : Oper) : Bool := match o.op with | .alloc _ => true | .buildSlice .. => true | _ => false
def isStoreM (o : Oper) : Bool := match o.op with | .store .. => true | .call .. => true | _ => false
def mval : Option Nat → Nat → Value
  | none, b => .pointer (some ⟨b, 0, none⟩)
  | some n, b => .slice (some ⟨b, 0, none⟩) n n
def Makes (P : Program) (a : Act) (o : Oper) (O : Obj) (sh : Option Nat) : Prop := ∀ w : World, (execOp a.eval o).run P w = .ok (.value (mval sh w.heap.size)) (w.alloc O)
theorem Makes.one {P : Program} {a : Act} {o : Oper} {O O' : Obj} {sh sh' : Option Nat} (w : World) (h : Makes P a o O sh) (h' : Makes P a o O' sh') : O = O' ∧ sh = sh' := by
  have e := (h w).symm.trans (h' w)
  have e1 : mval sh w.heap.size = mval sh' w.heap.size ∧ w.alloc O = w.alloc O' := by
    injection e with e1 e2
    injection e1 with e1
    exact ⟨e1, e2⟩
  refine ⟨?_, ?_⟩
  · have h2 : (w.alloc O).heap[w.heap.size]? = (w.alloc O').heap[w.heap.size]? := by rw [e1.2]
    rw [heap_alloc_new, heap_alloc_new] at h2
    cases h2; rfl
  · cases sh with
    | none => cases sh' with
      | none => rfl
      | some n => exact absurd e1.1 (by simp [mval])
    | some n => cases sh' with
      | none => exact absurd e1.1 (by simp [mval])
      | some m => have := e1.1; simp [mval] at this; rw [this]
def growOpM (P : Program) (W : World) (o : Oper) (a : Act) (bs : List (Nat × Obj)) (K : Act → List (Nat × Obj) → Prop) : Prop :=
  if isMakerM o then ∃ O sh, Makes P a o O sh ∧ ∀ b, W.heap.size ≤ b → (∀ x ∈ bs, x.1 ≠ b) → K (a.put o.dst (mval sh b)) ((b, O) :: bs)
  else ∃ v, (∀ w, InD W bs w → growUpon P w v ((execOp a.eval o).run P w)) ∧ K (a.put o.dst v) bs

def gOpM (P : Program) (ops : Array Oper) (W : World) (j : Nat) (K : Act → List (Nat × Obj) → Prop) (a : Act) (bs : List (Nat × Obj)) : Prop :=
  match ops[j]? with
  | none => K a bs
  | some o => if Region.wanted o (yielded ops a.tmps) then growOpM P W o a bs K else K (a.put o.dst undef) bs

theorem growOp_monoM {o : Oper} {a : Act} {bs : List (Nat × Obj)} {K K' : Act → List (Nat × Obj) → Prop} (h : ∀ a bs, K a bs → K' a bs) (hh : growOpM P W o a bs K) : growOpM P W o a bs K' := by
  unfold growOpM at *
  split
  · rename_i hm; simp only [hm, if_true] at hh; obtain ⟨O, sh, h1, h2⟩ := hh; exact ⟨O, sh, h1, fun b hb hf => h _ _ (h2 b hb hf)⟩
  · rename_i hm; simp only [hm] at hh; obtain ⟨v, h1, h2⟩ := hh; exact ⟨v, h1, h _ _ h2⟩

theorem gOp_monoM {j : Nat} {a : Act} {bs : List (Nat × Obj)} {K K' : Act → List (Nat × Obj) → Prop} (h : ∀ a bs, K a bs → K' a bs) (hh : gOpM P ops W j K a bs) : gOpM P ops W j K' a bs := by
  unfold gOpM at *
  split
  · rename_i ho; simp only [ho] at hh; exact h _ _ hh
  · rename_i o ho
    simp only [ho] at hh
    split
    · rename_i hw; simp only [hw, if_true] at hh; exact growOp_monoM h hh
    · rename_i hw; simp only [hw] at hh; exact h _ _ hh

def wpGrowM (P : Program) (ops : Array Oper) (W : World) (Q : Act → List (Nat × Obj) → Prop) : List Oper → Act → List (Nat × Obj) → Prop
  | [], a, bs => Q a bs
  | o :: rest, a, bs => if Region.wanted o (yielded ops a.tmps) then growOpM P W o a bs (wpGrowM P ops W Q rest) else wpGrowM P ops W Q rest (a.put o.dst undef) bs

def anyGM (P : Program) (md : Region.Mode) (ops : Array Oper) (W : World) (Q : Array Bool → Act → List (Nat × Obj) → Prop) : Nat → Array Bool → Act → List (Nat × Obj) → Prop
  | 0, listed, a, bs => (∀ j ∈ Region.ready md ops listed, ((ops[j]?).map isStoreM).getD false = true) ∧ Q listed a bs
  | fuel + 1, listed, a, bs => Region.ready md ops listed ≠ [] ∧ ∀ j ∈ Region.ready md ops listed, gOpM P ops W j (anyGM P md ops W Q fuel (listed.setIfInBounds j true)) a bs

theorem wpOp_of_gOpM {j : Nat} {a : Act} {bs : List (Nat × Obj)} {w : World} {K : Act → List (Nat × Obj) → Prop} {K' : Act → World → Prop} {Q' : Exit → Act → World → Prop} (hD : InD W bs w)
    (h : ∀ a' bs' w', InD W bs' w' → K a' bs' → K' a' w') (hh : gOpM P ops W j K a bs) : wpOp P ops Q' j K' a w := by
  unfold gOpM at hh
  unfold wpOp
  split
  · rename_i ho; simp only [ho] at hh; exact h _ _ _ hD hh
  · rename_i o ho
    simp only [ho] at hh
    split
    · rename_i hw
      simp only [hw, if_true] at hh
      refine .inl ?_
      unfold growOpM at hh
      split at hh
      · obtain ⟨O, sh, h1, h2⟩ := hh
        unfold Oper.wp
        rw [h1 w]
        exact h _ _ _ (hD.add O) (h2 _ hD.below.size fun x hx => Nat.ne_of_lt (hD.lt hx))
      · obtain ⟨v, h1, h2⟩ := hh
        have h3 := h1 w hD
        unfold Oper.wp
        generalize (execOp a.eval o).run P w = r at *
        cases r with
        | ok n w' =>
          cases n <;> simp only [growUpon] at h3 <;> simp only [Oper.upon]
          case value u => obtain ⟨rfl, hb⟩ := h3; exact h _ _ _ (hD.grow hb) h2
          case skip => obtain ⟨e, hb⟩ := h3; rw [← e]; exact h _ _ _ (hD.grow hb) h2
          case enter f args =>
            obtain ⟨rfl, hc⟩ := h3
            exact hc.mono fun e w'' ⟨he, hb⟩ => by subst he; exact h _ _ _ (hD.grow hb) h2
        | halt x w' => simp only [growUpon] at h3
    · rename_i hw; simp only [hw] at hh; exact h _ _ _ hD hh

theorem wpAny_of_anyGM {Q : Array Bool → Act → List (Nat × Obj) → Prop} {Q' : Exit → Act → World → Prop} {nB : Nat} (hQ : ∀ listed a bs w, InD W bs w → Q listed a bs → wpAny P md ops Q' nB listed a w) :
    ∀ (fuel : Nat) (listed : Array Bool) (a : Act) (bs : List (Nat × Obj)) (w : World), InD W bs w → anyGM P md ops W Q fuel listed a bs → wpAny P md ops Q' (fuel + nB) listed a w
  | 0, listed, a, bs, w, hD, h => by rw [Nat.zero_add]; exact hQ _ _ _ _ hD h.2
  | fuel + 1, listed, a, bs, w, hD, h => by
    rw [show fuel + 1 + nB = (fuel + nB) + 1 from by omega]
    exact ⟨fun h0 => absurd h0 h.1, fun i hi => wpOp_of_gOpM hD (fun a' bs' w' hD' => wpAny_of_anyGM hQ fuel _ a' bs' w' hD') (h.2 i hi)⟩

def YieldsGM (P : Program) (ops : Array Oper) (W : World) (o : Oper) (v : Value) (a : Act) (bs : List (Nat × Obj)) : Prop :=
  (Region.wanted o (yielded ops a.tmps) = true ∧ isMakerM o = false ∧ ∀ w, InD W bs w → growUpon P w v ((execOp a.eval o).run P w)) ∨
  (Region.wanted o (yielded ops a.tmps) = false ∧ v = undef)

theorem YieldsGM.gOp {i : Nat} {o : Oper} {v : Value} {a : Act} {bs : List (Nat × Obj)} (hi : ops[i]? = some o) (hy : YieldsGM P ops W o v a bs) {K : Act → List (Nat × Obj) → Prop} (h : K (a.put o.dst v) bs) : gOpM P ops W i K a bs := by
  unfold Proofs.Ytloljnpnoohglaa.gOpM
  simp only [hi]
  rcases hy with ⟨hw, hm, hv⟩ | ⟨hw, rfl⟩
  · simp only [hw, if_true, growOpM, hm, Bool.false_eq_true, if_false]; exact ⟨v, hv, h⟩
  · simp only [hw, Bool.false_eq_true, if_false]; exact h

theorem YieldsGM.of_same {o : Oper} {v : Value} {a a' : Act} {bs bs' : List (Nat × Obj)} (hy : YieldsGM P ops W o v a bs) (he : execOp a'.eval o = execOp a.eval o)
    (hw : Region.wanted o (yielded ops a'.tmps) = Region.wanted o (yielded ops a.tmps)) (hs : ∀ x ∈ bs, x ∈ bs') : YieldsGM P ops W o v a' bs' := by
  unfold YieldsGM at *
  rw [he, hw]
  exact hy.imp (fun ⟨h1, h2, h3⟩ => ⟨h1, h2, fun w hD => h3 w (hD.fewer hs)⟩) id

theorem gOp_putM {j : Nat} {oi oj : Oper} {v : Value} (hj : ops[j]? = some oj) (hap : oi.apart ops oj = true)
    (hsi : ∀ cs b, oi.op ≠ .select cs b) (hsj : ∀ cs b, oj.op ≠ .select cs b) {K : Act → List (Nat × Obj) → Prop} {a : Act} {bs : List (Nat × Obj)}
    (hy : YieldsGM P ops W oi v a bs) (h : gOpM P ops W j K (a.put oi.dst v) bs) :
    gOpM P ops W j (fun a' bs' => YieldsGM P ops W oi v a' bs' ∧ K (a'.put oi.dst v) bs') a bs := by
  obtain ⟨h1, h2, h3⟩ := Oper.apart_spec hap
  have keep : ∀ (u : Value) (bs' : List (Nat × Obj)), (∀ x ∈ bs, x ∈ bs') → YieldsGM P ops W oi v (a.put oj.dst u) bs' := fun u bs' hs =>
    hy.of_same (execOp_put oi hsi a oj.dst u h3) (wanted_put oi a oj.dst u h3) hs
  unfold gOpM at *
  simp only [hj] at *
  rw [wanted_put oj a oi.dst v h1] at h
  split
  · rename_i hw
    simp only [hw, if_true] at h
    unfold growOpM at *
    split
    · rename_i hm
      simp only [hm, if_true] at h
      obtain ⟨O, sh, hO, hn⟩ := h
      refine ⟨O, sh, fun w => by have := hO w; rwa [execOp_put oj hsj a oi.dst v h1] at this, fun b hb hf => ⟨keep _ _ fun x hx => List.mem_cons_of_mem _ hx, ?_⟩⟩
      rw [← Act.put_comm a v _ h2]
      exact hn b hb hf
    · rename_i hm
      simp only [hm] at h
      obtain ⟨u, hu, hn⟩ := h
      refine ⟨u, fun w hD => ?_, keep u bs fun _ hx => hx, by rw [← Act.put_comm a v u h2]; exact hn⟩
      have := hu w hD
      rwa [execOp_put oj hsj a oi.dst v h1] at this
  · rename_i hw
    simp only [hw] at h
    exact ⟨keep undef bs fun _ hx => hx, by rw [← Act.put_comm a v undef h2]; exact h⟩

theorem anyG_firstM {Q : Array Bool → Act → List (Nat × Obj) → Prop} {i : Nat} {oi : Oper} {v : Value} (hi : ops[i]? = some oi) (hsel : ∀ (j : Nat) (o : Oper) cs b, ops[j]? = some o → o.op ≠ .select cs b)
    (hst : ∀ j o, ops[j]? = some o → isStoreM o = true → j ≠ i → j ∈ waitsOn md ops i ops.size) :
    ∀ (fuel : Nat) (listed : Array Bool) (a : Act) (bs : List (Nat × Obj)), Closed md ops listed →
      (∀ j oj, ops[j]? = some oj → j ≠ i → listed.getD j true = false → (∀ e ∈ oj.after, Region.binds md e = true → e.on ≠ i) → oi.apart ops oj = true) →
      i ∈ Region.ready md ops listed → YieldsGM P ops W oi v a bs →
      anyGM P md ops W Q fuel (listed.setIfInBounds i true) (a.put oi.dst v) bs → anyGM P md ops W Q (fuel + 1) listed a bs := by
  intro fuel
  induction fuel with
  | zero =>
    intro listed a bs hc _ hr hy H
    refine ⟨fun h => (by rw [h] at hr; cases hr), fun j hj => ?_⟩
    by_cases hji : j = i
    · subst hji; exact hy.gOp hi H
    · have hs := H.1 j (ready_mono hj hji)
      obtain ⟨_, oj, hoj, _⟩ := mem_ready.1 hj
      rw [hoj] at hs
      exact absurd hj (waitsOn_spec hc (getD_ne_of_true (mem_ready.1 hr).1) _ j (hst j oj hoj (by simpa using hs) hji)).2
  | succ fuel ih =>
    intro listed a bs hc hfree hr hy H
    refine ⟨fun h => (by rw [h] at hr; cases hr), fun j hj => ?_⟩
    by_cases hji : j = i
    · subst hji; exact hy.gOp hi H
    · have h1 := H.2 j (ready_mono hj hji)
      obtain ⟨hjun, oj, hoj, hall⟩ := mem_ready.1 hj
      have hnot : ∀ e ∈ oj.after, Region.binds md e = true → e.on ≠ i := fun e he hb heq => by
        have h1 := hall e he hb
        have h0 := (mem_ready.1 hr).1
        rw [heq] at h1
        rw [getD_ne_of_true h0] at h1
        cases h1
      have h2 := gOp_putM hoj (hfree j oj hoj hji hjun hnot) (fun cs b => hsel i oi cs b hi) (fun cs b => hsel j oj cs b hoj) hy h1
      have hfree' : ∀ k ok, ops[k]? = some ok → k ≠ i → (listed.setIfInBounds j true).getD k true = false →
          (∀ e ∈ ok.after, Region.binds md e = true → e.on ≠ i) → oi.apart ops ok = true := fun k ok hk hki hun hno => by
        refine hfree k ok hk hki ?_ hno
        by_cases hjk : j = k
        · subst hjk; exact hjun
        · rw [getD_set_ne true hjk] at hun; exact hun
      refine gOp_monoM (fun a' bs' h3 => ih (listed.setIfInBounds j true) a' bs' (hc.set hj) hfree' (ready_mono hr (Ne.symm hji)) h3.1 ?_) h2
      rw [Array.setIfInBounds_comm _ _ hji]
      exact h3.2

theorem anyG_permM {Q : Array Bool → Act → List (Nat × Obj) → Prop} (hQ : ∀ listed a bs bs', (∀ x, x ∈ bs ↔ x ∈ bs') → Q listed a bs → Q listed a bs') :
    ∀ (fuel : Nat) (listed : Array Bool) (a : Act) (bs bs' : List (Nat × Obj)), (∀ x, x ∈ bs ↔ x ∈ bs') → anyGM P md ops W Q fuel listed a bs → anyGM P md ops W Q fuel listed a bs'
  | 0, _, _, _, _, hp, h => ⟨h.1, hQ _ _ _ _ hp h.2⟩
  | fuel + 1, listed, a, bs, bs', hp, h => by
    refine ⟨h.1, fun j hj => ?_⟩
    have h1 := h.2 j hj
    unfold gOpM at *
    split
    · rename_i ho; simp only [ho] at h1; exact anyG_permM hQ fuel _ _ _ _ hp h1
    · rename_i o ho
      simp only [ho] at h1
      split
      · rename_i hw
        simp only [hw, if_true] at h1
        unfold growOpM at *
        split
        · rename_i hm
          simp only [hm, if_true] at h1
          obtain ⟨O, sh, hO, hn⟩ := h1
          exact ⟨O, sh, hO, fun b hb hf => anyG_permM hQ fuel _ _ _ _ (fun x => by simp only [List.mem_cons, hp]) (hn b hb fun x hx => hf x ((hp x).1 hx))⟩
        · rename_i hm
          simp only [hm] at h1
          obtain ⟨v, hv, hn⟩ := h1
          exact ⟨v, fun w hD => hv w (hD.fewer fun x hx => (hp x).1 hx), anyG_permM hQ fuel _ _ _ _ hp hn⟩
      · rename_i hw; simp only [hw] at h1; exact anyG_permM hQ fuel _ _ _ _ hp h1

theorem anyG_makeM {Q : Array Bool → Act → List (Nat × Obj) → Prop} (hQ : ∀ listed a bs bs', (∀ x, x ∈ bs ↔ x ∈ bs') → Q listed a bs → Q listed a bs') {i : Nat} {oi : Oper} {O : Obj} {sh : Option Nat}
    (hi : ops[i]? = some oi) (hm : isMakerM oi = true) (hsel : ∀ (j : Nat) (o : Oper) cs b, ops[j]? = some o → o.op ≠ .select cs b) (hg : ∀ (j : Nat) o, ops[j]? = some o → isMakerM o = true → o.guard = none) :
    ∀ (fuel : Nat) (listed : Array Bool) (a : Act) (bs : List (Nat × Obj)), Makes P a oi O sh → Closed md ops listed →
      (∀ j oj, ops[j]? = some oj → j ≠ i → listed.getD j true = false → (∀ e ∈ oj.after, Region.binds md e = true → e.on ≠ i) → oi.apart ops oj = true) →
      (∀ j oj, ops[j]? = some oj → listed.getD j true = false → isMakerM oj = false → j ∈ waitsOn md ops i ops.size) →
      i ∈ Region.ready md ops listed →
      (∀ b, W.heap.size ≤ b → (∀ x ∈ bs, x.1 ≠ b) → anyGM P md ops W Q fuel (listed.setIfInBounds i true) (a.put oi.dst (mval sh b)) ((b, O) :: bs)) →
      anyGM P md ops W Q (fuel + 1) listed a bs := by
  have wanted : ∀ (j : Nat) o, ops[j]? = some o → isMakerM o = true → ∀ y, Region.wanted o y = true := fun j o ho h y => by simp [Region.wanted, hg j o ho h]
  intro fuel
  induction fuel with
  | zero =>
    intro listed a bs hO hc _ hoth hr H
    refine ⟨fun h => (by rw [h] at hr; cases hr), fun j hj => ?_⟩
    by_cases hji : j = i
    · subst hji
      unfold gOpM
      simp only [hi, wanted j oi hi hm, if_true, growOpM, hm]
      exact ⟨O, sh, hO, H⟩
    · exfalso
      obtain ⟨hjun, oj, hoj, _⟩ := mem_ready.1 hj
      obtain ⟨b, hb, hf⟩ := exists_fresh W.heap.size bs
      have hs := (H b hb fun x hx => Nat.ne_of_lt (hf x hx)).1 j (ready_mono hj hji)
      rw [hoj] at hs
      cases hmj : isMakerM oj with
      | true =>
        unfold isMakerM at hmj
        unfold isStoreM at hs
        simp only [Option.map_some, Option.getD_some] at hs
        split at hmj
        · rename_i hop; rw [hop] at hs; cases hs
        · rename_i hop; rw [hop] at hs; cases hs
        · cases hmj
      | false => exact (waitsOn_spec hc (getD_ne_of_true (mem_ready.1 hr).1) _ j (hoth j oj hoj hjun hmj)).2 hj
  | succ fuel ih =>
    intro listed a bs hO hc hfree hoth hr H
    refine ⟨fun h => (by rw [h] at hr; cases hr), fun j hj => ?_⟩
    by_cases hji : j = i
    · subst hji
      unfold gOpM
      simp only [hi, wanted j oi hi hm, if_true, growOpM, hm]
      exact ⟨O, sh, hO, H⟩
    · obtain ⟨hjun, oj, hoj, hall⟩ := mem_ready.1 hj
      cases hmj : isMakerM oj with
      | false => exact absurd hj (waitsOn_spec hc (getD_ne_of_true (mem_ready.1 hr).1) _ j (hoth j oj hoj hjun hmj)).2
      | true =>
        have hnot : ∀ e ∈ oj.after, Region.binds md e = true → e.on ≠ i := fun e he hb heq => by
          have h1 := hall e he hb
          have h0 := (mem_ready.1 hr).1
          rw [heq] at h1
          rw [getD_ne_of_true h0] at h1
          cases h1
        obtain ⟨hap1, hap2, hap3⟩ := Oper.apart_spec (hfree j oj hoj hji hjun hnot)
        have hfree' : ∀ k ok, ops[k]? = some ok → k ≠ i → (listed.setIfInBounds j true).getD k true = false →
            (∀ e ∈ ok.after, Region.binds md e = true → e.on ≠ i) → oi.apart ops ok = true := fun k ok hk hki hun hno => by
          refine hfree k ok hk hki ?_ hno
          by_cases hjk : j = k
          · subst hjk; exact hjun
          · rw [getD_set_ne true hjk] at hun; exact hun
        have hoth' : ∀ k ok, ops[k]? = some ok → (listed.setIfInBounds j true).getD k true = false → isMakerM ok = false → k ∈ waitsOn md ops i ops.size := fun k ok hk hun hmk => by
          refine hoth k ok hk ?_ hmk
          by_cases hjk : j = k
          · subst hjk; exact hjun
          · rw [getD_set_ne true hjk] at hun; exact hun
        -- what is made at j
        have first : ∀ b, W.heap.size ≤ b → (∀ x ∈ bs, x.1 ≠ b) → ∃ Oj shj, Makes P a oj Oj shj ∧ ∀ c, W.heap.size ≤ c → (∀ x ∈ (b, O) :: bs, x.1 ≠ c) →
            anyGM P md ops W Q fuel ((listed.setIfInBounds i true).setIfInBounds j true) ((a.put oi.dst (mval sh b)).put oj.dst (mval shj c)) ((c, Oj) :: (b, O) :: bs) := fun b hb hf => by
          have h1 := (H b hb hf).2 j (ready_mono hj hji)
          unfold gOpM at h1
          simp only [hoj, wanted j oj hoj hmj, if_true, growOpM, hmj] at h1
          obtain ⟨Oj, shj, hM, hn⟩ := h1
          exact ⟨Oj, shj, fun w => by have := hM w; rwa [execOp_put oj (fun cs b => hsel j oj cs b hoj) a oi.dst (mval sh b) hap1] at this, hn⟩
        obtain ⟨b0, hb0, hf0⟩ := exists_fresh W.heap.size bs
        obtain ⟨Oj, shj, hOj, _⟩ := first b0 hb0 fun x hx => Nat.ne_of_lt (hf0 x hx)
        unfold gOpM
        simp only [hoj, wanted j oj hoj hmj, if_true, growOpM, hmj]
        refine ⟨Oj, shj, hOj, fun c hcb hcf => ih (listed.setIfInBounds j true) _ _ (fun w => by have := hO w; rwa [← execOp_put oi (fun cs b => hsel i oi cs b hi) a oj.dst (mval shj c) hap3] at this) (hc.set hj) hfree' hoth' (ready_mono hr (Ne.symm hji)) fun b hb hf => ?_⟩
        obtain ⟨Oj', shj', hOj', hn⟩ := first b hb fun x hx => hf x (List.mem_cons_of_mem _ hx)
        obtain ⟨rfl, rfl⟩ := Makes.one W hOj hOj'
        have hbc : b ≠ c := fun e => hf (c, Oj) List.mem_cons_self e.symm
        have h2 := hn c hcb fun x hx => by
          rcases List.mem_cons.1 hx with rfl | hx
          · exact hbc
          · exact hcf x hx
        rw [Array.setIfInBounds_comm _ _ hji, ← Act.put_comm a _ _ hap2]
        exact anyG_permM hQ _ _ _ _ _ (fun x => by simp only [List.mem_cons]; constructor <;> (rintro (h | h | h) <;> simp [h])) h2

def growFromM (md : Region.Mode) (ops : Array Oper) : Nat → Nat → Array Bool → Bool
  | 0, _, listed => (Region.ready md ops listed).all fun j => ((ops[j]?).map isStoreM).getD false
  | fuel + 1, k, listed => (Region.ready md ops listed).contains k && Region.free md ops listed k &&
      (match ops[k]? with
       | some o => !isMakerM o || (List.range ops.size).all fun j => listed.getD j true || ((ops[j]?).map isMakerM).getD true || (waitsOn md ops k ops.size).contains j
       | none => false) && growFromM md ops fuel (k + 1) (listed.setIfInBounds k true)
def growBM (md : Region.Mode) (ops : Array Oper) (nA : Nat) : Bool :=
  Region.noSelect ops && ((List.range ops.size).all fun j => ((ops[j]?).map fun o => !isMakerM o || o.guard.isNone).getD true) &&
  ((List.range nA).all fun i => (List.range ops.size).all fun j => !((ops[j]?).map isStoreM).getD false || (j == i || (waitsOn md ops i ops.size).contains j)) &&
  growFromM md ops nA 0 (Array.replicate ops.size false) && seqFrom md ops (ops.size - nA) nA (listedTo nA 0 (Array.replicate ops.size false))

theorem anyG_lexM {R : Array Bool → Act → List (Nat × Obj) → Prop} (hR : ∀ listed a bs bs', (∀ x, x ∈ bs ↔ x ∈ bs') → R listed a bs → R listed a bs')
    (hsel : Region.noSelect ops = true) (hg : ∀ (j : Nat) o, ops[j]? = some o → isMakerM o = true → o.guard = none) (nA : Nat)
    (hst : ∀ i, i < nA → ∀ j o, ops[j]? = some o → isStoreM o = true → j ≠ i → j ∈ waitsOn md ops i ops.size) :
    ∀ (l : List Oper) (k : Nat) (listed : Array Bool) (a : Act) (bs : List (Nat × Obj)), (∀ j, j < l.length → l[j]? = ops[k + j]?) → k + l.length ≤ nA → Closed md ops listed →
      growFromM md ops l.length k listed = true → wpGrowM P ops W (R (listedTo l.length k listed)) l a bs → anyGM P md ops W R l.length listed a bs
  | [], k, listed, a, bs, _, _, _, hB, h => by
    refine ⟨?_, h⟩
    simpa [growFromM] using hB
  | o :: l, k, listed, a, bs, hl, hk, hc, hB, h => by
    have h0 : ops[k]? = some o := by simpa using (hl 0 (by simp)).symm
    simp only [List.length_cons, growFromM, h0, Bool.and_eq_true] at hB
    obtain ⟨⟨⟨hr, hf⟩, hmk⟩, hB'⟩ := hB
    have hr' : k ∈ Region.ready md ops listed := by simpa using hr
    simp only [List.length_cons] at hk
    have next : ∀ a' bs', wpGrowM P ops W (R (listedTo l.length (k + 1) (listed.setIfInBounds k true))) l a' bs' → anyGM P md ops W R l.length (listed.setIfInBounds k true) a' bs' := fun a' bs' hh =>
      anyG_lexM hR hsel hg nA hst l (k + 1) _ a' bs' (fun j hj => by have := hl (j + 1) (by simp; omega); simpa [Nat.add_assoc, Nat.add_comm 1 j] using this) (by omega) (hc.set hr') hB' hh
    have hh : if Region.wanted o (yielded ops a.tmps) then growOpM P W o a bs (wpGrowM P ops W (R (listedTo l.length (k + 1) (listed.setIfInBounds k true))) l)
        else wpGrowM P ops W (R (listedTo l.length (k + 1) (listed.setIfInBounds k true))) l (a.put o.dst undef) bs := h
    by_cases hm : isMakerM o = true
    · have hw : Region.wanted o (yielded ops a.tmps) = true := by simp [Region.wanted, hg k o h0 hm]
      simp only [hw, if_true, growOpM, hm] at hh
      obtain ⟨O, sh, hO, hn⟩ := hh
      refine anyG_makeM hR h0 hm (Region.noSelect_spec hsel) hg l.length listed a bs hO hc (Region.free_spec h0 hf) (fun j oj hj hun hmj => ?_) hr' fun b hb hfr => next _ _ (hn b hb hfr)
      simp only [hm, Bool.not_true, Bool.false_or, List.all_eq_true, List.mem_range] at hmk
      have := hmk j (Array.getElem?_eq_some_iff.1 hj).1
      simpa [hj, hun, hmj] using this
    · have hy : ∃ v, YieldsGM P ops W o v a bs ∧ wpGrowM P ops W (R (listedTo l.length (k + 1) (listed.setIfInBounds k true))) l (a.put o.dst v) bs := by
        by_cases hw : Region.wanted o (yielded ops a.tmps) = true
        · simp only [hw, if_true, growOpM, hm] at hh
          obtain ⟨v, h1, h2⟩ := hh
          exact ⟨v, .inl ⟨hw, by simpa using hm, h1⟩, h2⟩
        · simp only [hw] at hh
          exact ⟨undef, .inr ⟨by simpa using hw, rfl⟩, hh⟩
      obtain ⟨v, hy, hn⟩ := hy
      exact anyG_firstM h0 (Region.noSelect_spec hsel) (hst k (by omega)) l.length listed a bs hc (Region.free_spec h0 hf) hr' hy (next _ _ hn)

theorem wp_region_growM {id : Nat} {Q : Exit → Act → World → Prop} {a : Act} {w : World} {l : List Oper} (nA : Nat) (hm : P.follows .mixedOrders = true) (hB : growBM .any l.toArray nA = true)
    (h : wpGrowM P l.toArray w (fun a' bs => ∀ w', InD w bs w' → wpList P l.toArray Q (l.drop nA) a' w') (l.take nA) a []) : (Code.region id l.toArray true).wp P Q a w := by
  unfold growBM at hB
  simp only [Bool.and_eq_true, List.all_eq_true, List.mem_range] at hB
  obtain ⟨⟨⟨⟨hsel, hgd⟩, hst⟩, hG⟩, hS⟩ := hB
  have hle : nA ≤ l.length := by
    rcases Nat.lt_or_ge l.length nA with hlt | hge
    · exfalso
      have bad : ∀ n k (listed : Array Bool), listed.size = l.length → l.length < k + n → k ≤ l.length → growFromM .any l.toArray n k listed = true → False := by
        intro n
        induction n with
        | zero => intro k listed _ h1 h2 _; omega
        | succ n ih =>
          intro k listed hsz h1 h2 h3
          simp only [growFromM, Bool.and_eq_true] at h3
          obtain ⟨⟨⟨hr, _⟩, _⟩, h4⟩ := h3
          have hk : k < l.length := by
            have := (mem_ready.1 (show k ∈ Region.ready .any l.toArray listed by simpa using hr)).1
            rcases Nat.lt_or_ge k listed.size with h' | h'
            · omega
            · simp [Array.getElem?_eq_none h'] at this
          exact ih (k + 1) _ (by simpa using hsz) (by omega) (by omega) h4
      exact bad nA 0 _ (by simp) (by omega) (by omega) hG
    · exact hge
  have hsz : (l.take nA).length = nA := by simp; omega
  have hsd : (l.drop nA).length = l.length - nA := by simp
  let R : Array Bool → Act → List (Nat × Obj) → Prop := fun listed a bs => ∀ w', InD w bs w' → wpAny P .any l.toArray Q (l.length - nA) listed a w'
  refine wp_region_any hm ?_
  have hcl : Closed .any l.toArray (Array.replicate l.toArray.size false) := fun j o ho hj => by
    exfalso
    rcases Nat.lt_or_ge j l.length with h' | h' <;> simp [h'] at hj
  have hany : anyGM P .any l.toArray w R (l.take nA).length (Array.replicate l.toArray.size false) a [] := by
    refine anyG_lexM (fun _ _ bs bs' hp hh w' hD => hh w' (hD.fewer fun x hx => (hp x).1 hx)) hsel (fun j o ho hmk => ?_) nA (fun i hi j o ho hs hne => ?_) (l.take nA) 0 _ a [] (fun j hj => ?_) (by omega) hcl (by rw [hsz]; exact hG) ?_
    · have := hgd j (Array.getElem?_eq_some_iff.1 ho).1
      rw [ho] at this
      simp only [Option.map_some, Option.getD_some, hmk, Bool.not_true, Bool.false_or] at this
      simpa using this
    · have := hst i hi j (Array.getElem?_eq_some_iff.1 ho).1
      rw [ho] at this
      simpa [hs, hne] using this
    · simp only [List.length_take] at hj
      rw [List.getElem?_take_of_lt (by omega)]
      simp
    · have mono : ∀ (l' : List Oper) (a' : Act) (bs' : List (Nat × Obj)), wpGrowM P l.toArray w (fun a' bs => ∀ w', InD w bs w' → wpList P l.toArray Q (l.drop nA) a' w') l' a' bs' →
          wpGrowM P l.toArray w (R (listedTo (l.take nA).length 0 (Array.replicate l.toArray.size false))) l' a' bs' := by
        intro l'
        induction l' with
        | nil =>
          intro a' bs' hh w' hD
          rw [hsz]
          have := wpAny_seq (md := .any) (l.drop nA) nA (listedTo nA 0 (Array.replicate l.toArray.size false)) a' w' (fun j hj => by simp) (by rw [hsd]; simpa using hS) (hh w' hD)
          rwa [hsd] at this
        | cons o l' ih =>
          intro a' bs' hh
          have hh' : if Region.wanted o (yielded l.toArray a'.tmps) then growOpM P w o a' bs' (wpGrowM P l.toArray w (fun a' bs => ∀ w', InD w bs w' → wpList P l.toArray Q (l.drop nA) a' w') l')
              else wpGrowM P l.toArray w (fun a' bs => ∀ w', InD w bs w' → wpList P l.toArray Q (l.drop nA) a' w') l' (a'.put o.dst undef) bs' := hh
          show if _ then _ else _
          split
          · rename_i hw; simp only [hw, if_true] at hh'; exact growOp_monoM ih hh'
          · rename_i hw; simp only [hw] at hh'; exact ih _ _ hh'
      exact mono _ _ _ h
  have hfin := wpAny_of_anyGM (W := w) (Q := R) (nB := l.length - nA) (Q' := Q) (fun listed a bs w' hD hh => hh w' hD) (l.take nA).length (Array.replicate l.toArray.size false) a [] ({ w with drawn := w.drawn + 1 } : World) ⟨⟨rfl, rfl, rfl, Nat.le_refl _, fun _ _ => rfl⟩, fun x hx => by cases hx⟩ hany
  rw [hsz] at hfin
  have e : nA + (l.length - nA) = l.toArray.size := by simp; omega
  rwa [e] at hfin

theorem wpGrow_valM {Q : Act → List (Nat × Obj) → Prop} {o : Oper} {rest : List Oper} {a : Act} {bs : List (Nat × Obj)} (hm : isMakerM o = false) (v : Value)
    (hw : Region.wanted o (yielded ops a.tmps) = true) (hv : ∀ w, InD W bs w → growUpon P w v ((execOp a.eval o).run P w)) (h : wpGrowM P ops W Q rest (a.put o.dst v) bs) : wpGrowM P ops W Q (o :: rest) a bs := by
  show if _ then _ else _
  simp only [hw, if_true, growOpM, hm]
  exact ⟨v, hv, h⟩
theorem wpGrow_passM {Q : Act → List (Nat × Obj) → Prop} {o : Oper} {rest : List Oper} {a : Act} {bs : List (Nat × Obj)}
    (hw : Region.wanted o (yielded ops a.tmps) = false) (h : wpGrowM P ops W Q rest (a.put o.dst undef) bs) : wpGrowM P ops W Q (o :: rest) a bs := by
  show if _ then _ else _
  simp only [hw]
  exact h
theorem wpGrow_makeM {Q : Act → List (Nat × Obj) → Prop} {o : Oper} {rest : List Oper} {a : Act} {bs : List (Nat × Obj)} {O : Obj} (sh : Option Nat) (hg : o.guard = none) (hm : isMakerM o = true) (hO : Makes P a o O sh)
    (h : ∀ b, W.heap.size ≤ b → (∀ x ∈ bs, x.1 ≠ b) → wpGrowM P ops W Q rest (a.put o.dst (mval sh b)) ((b, O) :: bs)) : wpGrowM P ops W Q (o :: rest) a bs := by
  show if _ then _ else _
  simp only [show Region.wanted o (yielded ops a.tmps) = true by simp [Region.wanted, hg], if_true, growOpM, hm]
  exact ⟨O, sh, hO, h⟩
theorem wpGrow_nilM {Q : Act → List (Nat × Obj) → Prop} {a : Act} {bs : List (Nat × Obj)} (h : Q a bs) : wpGrowM P ops W Q [] a bs := h
theorem wpGrow_val'M {Q : Act → List (Nat × Obj) → Prop} {o : Oper} {rest : List Oper} {a : Act} {bs : List (Nat × Obj)} (hm : isMakerM o = false)
    (hw : Region.wanted o (yielded ops a.tmps) = true) (h : ∃ v, (∀ w, InD W bs w → growUpon P w v ((execOp a.eval o).run P w)) ∧ wpGrowM P ops W Q rest (a.put o.dst v) bs) : wpGrowM P ops W Q (o :: rest) a bs := by
  obtain ⟨v, h1, h2⟩ := h
  exact wpGrow_valM hm v hw h1 h2
theorem wpGrow_atM {Q : Act → List (Nat × Obj) → Prop} {l : List Oper} {a a' : Act} {bs : List (Nat × Obj)} (e : a = a') (h : wpGrowM P ops W Q l a' bs) : wpGrowM P ops W Q l a bs := e ▸ h
end
end Go.Proofs.Ytloljnpnoohglaa
