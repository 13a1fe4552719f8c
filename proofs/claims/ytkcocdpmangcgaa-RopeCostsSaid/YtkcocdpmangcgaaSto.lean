
/- A region that draws its order, whose operations read, call functions that only add to memory, make variables, and store into what they made: one walk in the order of the text serves every order (what only reads may come behind a store, too). -/
import Derived.Test.YtkcocdpmangcgaaGrow
namespace Go.Proofs.Ytkcocdpmangcgaa
set_option linter.unusedSimpArgs false
set_option linter.unusedVariables false
open Go Go.RowKit

section
variable {P : Program} {ops : Array Oper} {md : Region.Mode} {W : World}

/-- a block is another one, all else is as it was. -/
structure SetAt (w : World) (b : Nat) (O : Obj) (w' : World) : Prop where
  os : w'.os = w.os
  tape : w'.tape = w.tape
  output : w'.output = w.output
  size : w'.heap.size = w.heap.size
  other : ∀ k, k ≠ b → w'.heap[k]? = w.heap[k]?
  at_ : w'.heap[b]? = some O
def updB (bs : List (Nat × Obj)) (b : Nat) (O : Obj) : List (Nat × Obj) := bs.map fun x => if x.1 = b then (b, O) else x
theorem mem_updB {bs : List (Nat × Obj)} {b : Nat} {O : Obj} {x : Nat × Obj} (h : x ∈ updB bs b O) : x = (b, O) ∨ (x.1 ≠ b ∧ x ∈ bs) := by
  unfold updB at h
  obtain ⟨y, hy, rfl⟩ := List.mem_map.1 h
  by_cases e : y.1 = b
  · rw [if_pos e]; exact .inl rfl
  · rw [if_neg e]; exact .inr ⟨e, hy⟩
theorem InD.set {bs : List (Nat × Obj)} {w w' : World} {b : Nat} {O O0 : Obj} (h : InD W bs w) (hb : (b, O0) ∈ bs) (hs : SetAt w b O w') : InD W (updB bs b O) w' := by
  have hge := (h.at_ _ hb).1
  refine ⟨⟨hs.os.trans h.below.os, hs.tape.trans h.below.tape, hs.output.trans h.below.output, by rw [hs.size]; exact h.below.size, fun k hk => (hs.other k (by simp only at hge; omega)).trans (h.below.block k hk)⟩, fun x hx => ?_⟩
  rcases mem_updB hx with rfl | ⟨hne, hx⟩
  · exact ⟨hge, hs.at_⟩
  · exact ⟨(h.at_ x hx).1, (hs.other _ hne).trans (h.at_ x hx).2⟩

def growOpS (P : Program) (W : World) (o : Oper) (a : Act) (bs : List (Nat × Obj)) (K : Act → List (Nat × Obj) → Prop) : Prop :=
  if isMaker o then ∃ O, makes P o = some O ∧ ∀ b, W.heap.size ≤ b → (∀ x ∈ bs, x.1 ≠ b) → K (a.put o.dst (.pointer (some ⟨b, 0, none⟩))) ((b, O) :: bs)
  else if isStore o then ∃ b O0 O, (b, O0) ∈ bs ∧ (∀ w, InD W bs w → ∃ w', (execOp a.eval o).run P w = .ok .skip w' ∧ SetAt w b O w') ∧ K (a.put o.dst undef) (updB bs b O)
  else ∃ v, (∀ w, Below W.heap.size W w → growUpon P w v ((execOp a.eval o).run P w)) ∧ K (a.put o.dst v) bs

def gOpS (P : Program) (ops : Array Oper) (W : World) (j : Nat) (K : Act → List (Nat × Obj) → Prop) (a : Act) (bs : List (Nat × Obj)) : Prop :=
  match ops[j]? with
  | none => K a bs
  | some o => if Region.wanted o (yielded ops a.tmps) then growOpS P W o a bs K else K (a.put o.dst undef) bs

theorem growOpS_mono {o : Oper} {a : Act} {bs : List (Nat × Obj)} {K K' : Act → List (Nat × Obj) → Prop} (h : ∀ a bs, K a bs → K' a bs) (hh : growOpS P W o a bs K) : growOpS P W o a bs K' := by
  unfold growOpS at *
  split
  · rename_i hm; simp only [hm, if_true] at hh; obtain ⟨O, h1, h2⟩ := hh; exact ⟨O, h1, fun b hb hf => h _ _ (h2 b hb hf)⟩
  · rename_i hm
    simp only [hm, Bool.false_eq_true, if_false] at hh
    split
    · rename_i hs; simp only [hs, if_true] at hh; obtain ⟨b, O0, O, h1, h2, h3⟩ := hh; exact ⟨b, O0, O, h1, h2, h _ _ h3⟩
    · rename_i hs; simp only [hs, Bool.false_eq_true, if_false] at hh; obtain ⟨v, h1, h2⟩ := hh; exact ⟨v, h1, h _ _ h2⟩

theorem gOpS_mono {j : Nat} {a : Act} {bs : List (Nat × Obj)} {K K' : Act → List (Nat × Obj) → Prop} (h : ∀ a bs, K a bs → K' a bs) (hh : gOpS P ops W j K a bs) : gOpS P ops W j K' a bs := by
  unfold gOpS at *
  split
  · rename_i ho; simp only [ho] at hh; exact h _ _ hh
  · rename_i o ho
    simp only [ho] at hh
    split
    · rename_i hw; simp only [hw, if_true] at hh; exact growOpS_mono h hh
    · rename_i hw; simp only [hw] at hh; exact h _ _ hh

/-- The walk in the order of the text. -/
def wpSto (P : Program) (ops : Array Oper) (W : World) (Q : Act → List (Nat × Obj) → Prop) : List Oper → Act → List (Nat × Obj) → Prop
  | [], a, bs => Q a bs
  | o :: rest, a, bs => if Region.wanted o (yielded ops a.tmps) then growOpS P W o a bs (wpSto P ops W Q rest) else wpSto P ops W Q rest (a.put o.dst undef) bs

/-- Whatever order is picked. -/
def anyS (P : Program) (md : Region.Mode) (ops : Array Oper) (W : World) (Q : Act → List (Nat × Obj) → Prop) : Nat → Array Bool → Act → List (Nat × Obj) → Prop
  | 0, listed, a, bs => Region.ready md ops listed = [] ∧ Q a bs
  | fuel + 1, listed, a, bs => Region.ready md ops listed ≠ [] ∧ ∀ j ∈ Region.ready md ops listed, gOpS P ops W j (anyS P md ops W Q fuel (listed.setIfInBounds j true)) a bs

theorem wpOp_of_gOpS {j : Nat} {a : Act} {bs : List (Nat × Obj)} {w : World} {K : Act → List (Nat × Obj) → Prop} {K' : Act → World → Prop} {Q' : Exit → Act → World → Prop} (hD : InD W bs w)
    (h : ∀ a' bs' w', InD W bs' w' → K a' bs' → K' a' w') (hh : gOpS P ops W j K a bs) : wpOp P ops Q' j K' a w := by
  unfold gOpS at hh
  unfold wpOp
  split
  · rename_i ho; simp only [ho] at hh; exact h _ _ _ hD hh
  · rename_i o ho
    simp only [ho] at hh
    split
    · rename_i hw
      simp only [hw, if_true] at hh
      refine .inl ?_
      unfold growOpS at hh
      split at hh
      · obtain ⟨O, h1, h2⟩ := hh
        unfold Oper.wp
        rw [run_maker h1]
        exact h _ _ _ (hD.add O) (h2 _ hD.below.size fun x hx => Nat.ne_of_lt (hD.lt hx))
      · split at hh
        · obtain ⟨b, O0, O, h1, h2, h3⟩ := hh
          obtain ⟨w', hr, hs⟩ := h2 w hD
          unfold Oper.wp
          rw [hr]
          exact h _ _ _ (hD.set h1 hs) h3
        · obtain ⟨v, h1, h2⟩ := hh
          have h3 := h1 w hD.below
          unfold Oper.wp
          generalize (execOp a.eval o).run P w = r at *
          cases r with
          | ok n w' =>
            cases n <;> simp only [growUpon] at h3 <;> simp only [Oper.upon]
            case value u => obtain ⟨rfl, hb⟩ := h3; exact h _ _ _ (hD.grow hb) h2
            case skip => obtain ⟨e, hb⟩ := h3; rw [← e]; exact h _ _ _ (hD.grow hb) h2
            case enter f args =>
              obtain ⟨rfl, hc⟩ := h3
              exact hc.mono fun e w'' ⟨he, hb⟩ => by subst he; exact h _ _ _ (hD.grow hb) h2
          | halt x w' => simp only [growUpon] at h3
    · rename_i hw; simp only [hw] at hh; exact h _ _ _ hD hh

theorem wpAny_of_anyS {Q : Act → List (Nat × Obj) → Prop} {Q' : Exit → Act → World → Prop} (hQ : ∀ a bs w, InD W bs w → Q a bs → Q' .normal a w) :
    ∀ (fuel : Nat) (listed : Array Bool) (a : Act) (bs : List (Nat × Obj)) (w : World), InD W bs w → anyS P md ops W Q fuel listed a bs → wpAny P md ops Q' fuel listed a w
  | 0, listed, a, bs, w, hD, h => ⟨h.1, hQ _ _ _ hD h.2⟩
  | fuel + 1, listed, a, bs, w, hD, h => ⟨fun h0 => absurd h0 h.1, fun i hi => wpOp_of_gOpS hD (fun a' bs' w' hD' => wpAny_of_anyS hQ fuel _ a' bs' w' hD') (h.2 i hi)⟩

/-- In state a an operation yields v in every world behind W. -/
def YieldsS (P : Program) (ops : Array Oper) (W : World) (o : Oper) (v : Value) (a : Act) : Prop :=
  (Region.wanted o (yielded ops a.tmps) = true ∧ isMaker o = false ∧ isStore o = false ∧ ∀ w, Below W.heap.size W w → growUpon P w v ((execOp a.eval o).run P w)) ∨
  (Region.wanted o (yielded ops a.tmps) = false ∧ v = undef)

theorem YieldsS.gOp {i : Nat} {o : Oper} {v : Value} {a : Act} {bs : List (Nat × Obj)} (hi : ops[i]? = some o) (hy : YieldsS P ops W o v a) {K : Act → List (Nat × Obj) → Prop} (h : K (a.put o.dst v) bs) : gOpS P ops W i K a bs := by
  unfold gOpS
  simp only [hi]
  rcases hy with ⟨hw, hm, hs, hv⟩ | ⟨hw, rfl⟩
  · simp only [hw, if_true, growOpS, hm, hs, Bool.false_eq_true, if_false]; exact ⟨v, hv, h⟩
  · simp only [hw, Bool.false_eq_true, if_false]; exact h

theorem YieldsS.of_same {o : Oper} {v : Value} {a a' : Act} (hy : YieldsS P ops W o v a) (he : execOp a'.eval o = execOp a.eval o)
    (hw : Region.wanted o (yielded ops a'.tmps) = Region.wanted o (yielded ops a.tmps)) : YieldsS P ops W o v a' := by
  unfold YieldsS at *
  rw [he, hw]
  exact hy

theorem gOpS_put {j : Nat} {oi oj : Oper} {v : Value} (hj : ops[j]? = some oj) (hap : oi.apart ops oj = true)
    (hsi : ∀ cs b, oi.op ≠ .select cs b) (hsj : ∀ cs b, oj.op ≠ .select cs b) {K : Act → List (Nat × Obj) → Prop} {a : Act} {bs : List (Nat × Obj)}
    (hy : YieldsS P ops W oi v a) (h : gOpS P ops W j K (a.put oi.dst v) bs) :
    gOpS P ops W j (fun a' bs' => YieldsS P ops W oi v a' ∧ K (a'.put oi.dst v) bs') a bs := by
  obtain ⟨h1, h2, h3⟩ := Oper.apart_spec hap
  have keep : ∀ (u : Value), YieldsS P ops W oi v (a.put oj.dst u) := fun u => hy.of_same (execOp_put oi hsi a oj.dst u h3) (wanted_put oi a oj.dst u h3)
  unfold gOpS at *
  simp only [hj] at *
  rw [wanted_put oj a oi.dst v h1] at h
  split
  · rename_i hw
    simp only [hw, if_true] at h
    unfold growOpS at *
    split
    · rename_i hm
      simp only [hm, if_true] at h
      obtain ⟨O, hO, hn⟩ := h
      refine ⟨O, hO, fun b hb hf => ⟨keep _, ?_⟩⟩
      rw [← Act.put_comm a v _ h2]
      exact hn b hb hf
    · rename_i hm
      simp only [hm, Bool.false_eq_true, if_false] at h
      split
      · rename_i hs
        simp only [hs, if_true] at h
        obtain ⟨b, O0, O, hb, hr, hn⟩ := h
        refine ⟨b, O0, O, hb, fun w hD => ?_, keep _, by rw [← Act.put_comm a v undef h2]; exact hn⟩
        have := hr w hD
        rwa [execOp_put oj hsj a oi.dst v h1] at this
      · rename_i hs
        simp only [hs, Bool.false_eq_true, if_false] at h
        obtain ⟨u, hu, hn⟩ := h
        refine ⟨u, fun w hD => ?_, keep u, by rw [← Act.put_comm a v u h2]; exact hn⟩
        have := hu w hD
        rwa [execOp_put oj hsj a oi.dst v h1] at this
  · rename_i hw
    simp only [hw] at h
    exact ⟨keep undef, by rw [← Act.put_comm a v undef h2]; exact h⟩

/-- An operation that yields one value may be taken first. -/
theorem anyS_first {Q : Act → List (Nat × Obj) → Prop} {i : Nat} {oi : Oper} {v : Value} (hi : ops[i]? = some oi) (hsel : ∀ (j : Nat) (o : Oper) cs b, ops[j]? = some o → o.op ≠ .select cs b) :
    ∀ (fuel : Nat) (listed : Array Bool) (a : Act) (bs : List (Nat × Obj)),
      (∀ j oj, ops[j]? = some oj → j ≠ i → listed.getD j true = false → (∀ e ∈ oj.after, Region.binds md e = true → e.on ≠ i) → oi.apart ops oj = true) →
      i ∈ Region.ready md ops listed → YieldsS P ops W oi v a →
      anyS P md ops W Q fuel (listed.setIfInBounds i true) (a.put oi.dst v) bs → anyS P md ops W Q (fuel + 1) listed a bs := by
  intro fuel
  induction fuel with
  | zero =>
    intro listed a bs _ hr hy H
    refine ⟨fun h => (by rw [h] at hr; cases hr), fun j hj => ?_⟩
    by_cases hji : j = i
    · subst hji; exact hy.gOp hi H
    · have := ready_mono hj hji
      rw [H.1] at this
      cases this
  | succ fuel ih =>
    intro listed a bs hfree hr hy H
    refine ⟨fun h => (by rw [h] at hr; cases hr), fun j hj => ?_⟩
    by_cases hji : j = i
    · subst hji; exact hy.gOp hi H
    · have h1 := H.2 j (ready_mono hj hji)
      obtain ⟨hjun, oj, hoj, hall⟩ := mem_ready.1 hj
      have hnot : ∀ e ∈ oj.after, Region.binds md e = true → e.on ≠ i := fun e he hb heq => by
        have h1 := hall e he hb
        have h0 := (mem_ready.1 hr).1
        rw [heq] at h1
        rw [getD_ne_of_true h0] at h1
        cases h1
      have h2 := gOpS_put hoj (hfree j oj hoj hji hjun hnot) (fun cs b => hsel i oi cs b hi) (fun cs b => hsel j oj cs b hoj) hy h1
      have hfree' : ∀ k ok, ops[k]? = some ok → k ≠ i → (listed.setIfInBounds j true).getD k true = false →
          (∀ e ∈ ok.after, Region.binds md e = true → e.on ≠ i) → oi.apart ops ok = true := fun k ok hk hki hun hno => by
        refine hfree k ok hk hki ?_ hno
        by_cases hjk : j = k
        · subst hjk; exact hjun
        · rw [getD_set_ne true hjk] at hun; exact hun
      refine gOpS_mono (fun a' bs' h3 => ih (listed.setIfInBounds j true) a' bs' hfree' (ready_mono hr (Ne.symm hji)) h3.1 ?_) h2
      rw [Array.setIfInBounds_comm _ _ hji]
      exact h3.2

/-- The same members: the same. -/
theorem anyS_perm {Q : Act → List (Nat × Obj) → Prop} (hQ : ∀ a bs bs', (∀ x, x ∈ bs ↔ x ∈ bs') → Q a bs → Q a bs') :
    ∀ (fuel : Nat) (listed : Array Bool) (a : Act) (bs bs' : List (Nat × Obj)), (∀ x, x ∈ bs ↔ x ∈ bs') → anyS P md ops W Q fuel listed a bs → anyS P md ops W Q fuel listed a bs'
  | 0, _, _, _, _, hp, h => ⟨h.1, hQ _ _ _ hp h.2⟩
  | fuel + 1, listed, a, bs, bs', hp, h => by
    refine ⟨h.1, fun j hj => ?_⟩
    have h1 := h.2 j hj
    unfold gOpS at *
    split
    · rename_i ho; simp only [ho] at h1; exact anyS_perm hQ fuel _ _ _ _ hp h1
    · rename_i o ho
      simp only [ho] at h1
      split
      · rename_i hw
        simp only [hw, if_true] at h1
        unfold growOpS at *
        split
        · rename_i hm
          simp only [hm, if_true] at h1
          obtain ⟨O, hO, hn⟩ := h1
          exact ⟨O, hO, fun b hb hf => anyS_perm hQ fuel _ _ _ _ (fun x => by simp only [List.mem_cons, hp]) (hn b hb fun x hx => hf x ((hp x).1 hx))⟩
        · rename_i hm
          simp only [hm, Bool.false_eq_true, if_false] at h1
          split
          · rename_i hs
            simp only [hs, if_true] at h1
            obtain ⟨b, O0, O, hb, hr, hn⟩ := h1
            refine ⟨b, O0, O, (hp _).1 hb, fun w hD => hr w (hD.fewer fun x hx => (hp x).1 hx), anyS_perm hQ fuel _ _ _ _ (fun x => ?_) hn⟩
            simp only [updB, List.mem_map, hp]
          · rename_i hs
            simp only [hs, Bool.false_eq_true, if_false] at h1
            obtain ⟨v, hv, hn⟩ := h1
            exact ⟨v, hv, anyS_perm hQ fuel _ _ _ _ hp hn⟩
      · rename_i hw; simp only [hw] at h1; exact anyS_perm hQ fuel _ _ _ _ hp h1

/-- A store may be taken where all that is left waits for it. -/
theorem anyS_only {Q : Act → List (Nat × Obj) → Prop} {i : Nat} {fuel : Nat} {listed : Array Bool} {a : Act} {bs : List (Nat × Obj)} (hr : Region.ready md ops listed = [i])
    (h : gOpS P ops W i (anyS P md ops W Q fuel (listed.setIfInBounds i true)) a bs) : anyS P md ops W Q (fuel + 1) listed a bs :=
  ⟨by rw [hr]; simp, fun j hj => by
    rw [hr] at hj
    have e : j = i := by simpa using hj
    rw [e]
    exact h⟩

/-- A variable may be made first, where nothing but other variables can come ahead of it. -/
theorem anyS_make {Q : Act → List (Nat × Obj) → Prop} (hQ : ∀ a bs bs', (∀ x, x ∈ bs ↔ x ∈ bs') → Q a bs → Q a bs') {i : Nat} {oi : Oper} {O : Obj}
    (hi : ops[i]? = some oi) (hO : makes P oi = some O) (hm : isMaker oi = true) (hg : ∀ (j : Nat) o, ops[j]? = some o → isMaker o = true → o.guard = none) :
    ∀ (fuel : Nat) (listed : Array Bool) (a : Act) (bs : List (Nat × Obj)), Closed md ops listed →
      (∀ j oj, ops[j]? = some oj → j ≠ i → listed.getD j true = false → (∀ e ∈ oj.after, Region.binds md e = true → e.on ≠ i) → oi.apart ops oj = true) →
      (∀ j oj, ops[j]? = some oj → listed.getD j true = false → isMaker oj = false → j ∈ waitsOn md ops i ops.size) →
      i ∈ Region.ready md ops listed →
      (∀ b, W.heap.size ≤ b → (∀ x ∈ bs, x.1 ≠ b) → anyS P md ops W Q fuel (listed.setIfInBounds i true) (a.put oi.dst (.pointer (some ⟨b, 0, none⟩))) ((b, O) :: bs)) →
      anyS P md ops W Q (fuel + 1) listed a bs := by
  have wanted : ∀ (j : Nat) o, ops[j]? = some o → isMaker o = true → ∀ y, Region.wanted o y = true := fun j o ho h y => by simp [Region.wanted, hg j o ho h]
  intro fuel
  induction fuel with
  | zero =>
    intro listed a bs hc _ hoth hr H
    refine ⟨fun h => (by rw [h] at hr; cases hr), fun j hj => ?_⟩
    by_cases hji : j = i
    · subst hji
      unfold gOpS
      simp only [hi, wanted j oi hi hm, if_true, growOpS, hm]
      exact ⟨O, hO, H⟩
    · exfalso
      obtain ⟨b, hb, hf⟩ := exists_fresh W.heap.size bs
      have hs := (H b hb fun x hx => Nat.ne_of_lt (hf x hx)).1
      have := ready_mono hj hji
      rw [hs] at this
      cases this
  | succ fuel ih =>
    intro listed a bs hc hfree hoth hr H
    refine ⟨fun h => (by rw [h] at hr; cases hr), fun j hj => ?_⟩
    by_cases hji : j = i
    · subst hji
      unfold gOpS
      simp only [hi, wanted j oi hi hm, if_true, growOpS, hm]
      exact ⟨O, hO, H⟩
    · obtain ⟨hjun, oj, hoj, hall⟩ := mem_ready.1 hj
      cases hmj : isMaker oj with
      | false => exact absurd hj (waitsOn_spec hc (getD_ne_of_true (mem_ready.1 hr).1) _ j (hoth j oj hoj hjun hmj)).2
      | true =>
        have hnot : ∀ e ∈ oj.after, Region.binds md e = true → e.on ≠ i := fun e he hb heq => by
          have h1 := hall e he hb
          have h0 := (mem_ready.1 hr).1
          rw [heq] at h1
          rw [getD_ne_of_true h0] at h1
          cases h1
        obtain ⟨_, hap2, _⟩ := Oper.apart_spec (hfree j oj hoj hji hjun hnot)
        have hfree' : ∀ k ok, ops[k]? = some ok → k ≠ i → (listed.setIfInBounds j true).getD k true = false →
            (∀ e ∈ ok.after, Region.binds md e = true → e.on ≠ i) → oi.apart ops ok = true := fun k ok hk hki hun hno => by
          refine hfree k ok hk hki ?_ hno
          by_cases hjk : j = k
          · subst hjk; exact hjun
          · rw [getD_set_ne true hjk] at hun; exact hun
        have hoth' : ∀ k ok, ops[k]? = some ok → (listed.setIfInBounds j true).getD k true = false → isMaker ok = false → k ∈ waitsOn md ops i ops.size := fun k ok hk hun hmk => by
          refine hoth k ok hk ?_ hmk
          by_cases hjk : j = k
          · subst hjk; exact hjun
          · rw [getD_set_ne true hjk] at hun; exact hun
        have first : ∀ b, W.heap.size ≤ b → (∀ x ∈ bs, x.1 ≠ b) → ∃ Oj, makes P oj = some Oj ∧ ∀ c, W.heap.size ≤ c → (∀ x ∈ (b, O) :: bs, x.1 ≠ c) →
            anyS P md ops W Q fuel ((listed.setIfInBounds i true).setIfInBounds j true) ((a.put oi.dst (.pointer (some ⟨b, 0, none⟩))).put oj.dst (.pointer (some ⟨c, 0, none⟩))) ((c, Oj) :: (b, O) :: bs) := fun b hb hf => by
          have h1 := (H b hb hf).2 j (ready_mono hj hji)
          unfold gOpS at h1
          simpa only [hoj, wanted j oj hoj hmj, if_true, growOpS, hmj] using h1
        obtain ⟨b0, hb0, hf0⟩ := exists_fresh W.heap.size bs
        obtain ⟨Oj, hOj, _⟩ := first b0 hb0 fun x hx => Nat.ne_of_lt (hf0 x hx)
        unfold gOpS
        simp only [hoj, wanted j oj hoj hmj, if_true, growOpS, hmj]
        refine ⟨Oj, hOj, fun c hcb hcf => ih (listed.setIfInBounds j true) _ _ (hc.set hj) hfree' hoth' (ready_mono hr (Ne.symm hji)) fun b hb hf => ?_⟩
        obtain ⟨Oj', hOj', hn⟩ := first b hb fun x hx => hf x (List.mem_cons_of_mem _ hx)
        rw [hOj] at hOj'
        cases hOj'
        have hbc : b ≠ c := fun e => hf (c, Oj) List.mem_cons_self e.symm
        have h2 := hn c hcb fun x hx => by
          rcases List.mem_cons.1 hx with rfl | hx
          · exact hbc
          · exact hcf x hx
        rw [Array.setIfInBounds_comm _ _ hji, ← Act.put_comm a _ _ hap2]
        exact anyS_perm hQ _ _ _ _ _ (fun x => by simp only [List.mem_cons]; constructor <;> (rintro (h | h | h) <;> simp [h])) h2

/-! ### The order of the text -/
def stoFrom (md : Region.Mode) (ops : Array Oper) : Nat → Nat → Array Bool → Bool
  | 0, _, listed => (Region.ready md ops listed).isEmpty
  | fuel + 1, k, listed => (Region.ready md ops listed).contains k &&
      (match ops[k]? with
       | some o => if isStore o then Region.ready md ops listed == [k] else (Region.free md ops listed k && (!isMaker o || (List.range ops.size).all fun j => listed.getD j true || ((ops[j]?).map isMaker).getD true || (waitsOn md ops k ops.size).contains j))
       | none => false) && stoFrom md ops fuel (k + 1) (listed.setIfInBounds k true)
def stoB (md : Region.Mode) (ops : Array Oper) : Bool :=
  Region.noSelect ops && ((List.range ops.size).all fun j => ((ops[j]?).map fun o => !isMaker o || o.guard.isNone).getD true) && stoFrom md ops ops.size 0 (Array.replicate ops.size false)

theorem anyS_lex {R : Act → List (Nat × Obj) → Prop} (hR : ∀ a bs bs', (∀ x, x ∈ bs ↔ x ∈ bs') → R a bs → R a bs')
    (hsel : Region.noSelect ops = true) (hg : ∀ (j : Nat) o, ops[j]? = some o → isMaker o = true → o.guard = none) :
    ∀ (l : List Oper) (k : Nat) (listed : Array Bool) (a : Act) (bs : List (Nat × Obj)), (∀ j, l[j]? = ops[k + j]?) → Closed md ops listed →
      stoFrom md ops l.length k listed = true → wpSto P ops W R l a bs → anyS P md ops W R l.length listed a bs
  | [], k, listed, a, bs, _, _, hB, h => ⟨by simpa [stoFrom] using hB, h⟩
  | o :: l, k, listed, a, bs, hl, hc, hB, h => by
    have h0 : ops[k]? = some o := by simpa using (hl 0).symm
    simp only [List.length_cons, stoFrom, h0, Bool.and_eq_true] at hB
    obtain ⟨⟨hr, hmk⟩, hB'⟩ := hB
    have hr' : k ∈ Region.ready md ops listed := by simpa using hr
    have next : ∀ a' bs', wpSto P ops W R l a' bs' → anyS P md ops W R l.length (listed.setIfInBounds k true) a' bs' := fun a' bs' hh =>
      anyS_lex hR hsel hg l (k + 1) _ a' bs' (fun j => by have := hl (j + 1); simpa [Nat.add_assoc, Nat.add_comm 1 j] using this) (hc.set hr') hB' hh
    have hh : if Region.wanted o (yielded ops a.tmps) then growOpS P W o a bs (wpSto P ops W R l) else wpSto P ops W R l (a.put o.dst undef) bs := h
    by_cases hs : isStore o = true
    · simp only [hs, if_true, beq_iff_eq] at hmk
      refine anyS_only hmk ?_
      unfold gOpS
      simp only [h0]
      split
      · rename_i hw; simp only [hw, if_true] at hh; exact growOpS_mono next hh
      · rename_i hw; simp only [hw] at hh; exact next _ _ hh
    · simp only [hs, Bool.false_eq_true, if_false, Bool.and_eq_true] at hmk
      obtain ⟨hf, hmk⟩ := hmk
      by_cases hm : isMaker o = true
      · have hw : Region.wanted o (yielded ops a.tmps) = true := by simp [Region.wanted, hg k o h0 hm]
        simp only [hw, if_true, growOpS, hm] at hh
        obtain ⟨O, hO, hn⟩ := hh
        refine anyS_make hR h0 hO hm hg l.length listed a bs hc (Region.free_spec h0 hf) (fun j oj hj hun hmj => ?_) hr' fun b hb hfr => next _ _ (hn b hb hfr)
        simp only [hm, Bool.not_true, Bool.false_or, List.all_eq_true, List.mem_range] at hmk
        have := hmk j (Array.getElem?_eq_some_iff.1 hj).1
        simpa [hj, hun, hmj] using this
      · have hy : ∃ v, YieldsS P ops W o v a ∧ wpSto P ops W R l (a.put o.dst v) bs := by
          by_cases hw : Region.wanted o (yielded ops a.tmps) = true
          · simp only [hw, if_true, growOpS, hm, hs, Bool.false_eq_true, if_false] at hh
            obtain ⟨v, h1, h2⟩ := hh
            exact ⟨v, .inl ⟨hw, by simpa using hm, by simpa using hs, h1⟩, h2⟩
          · simp only [hw] at hh
            exact ⟨undef, .inr ⟨by simpa using hw, rfl⟩, hh⟩
        obtain ⟨v, hy, hn⟩ := hy
        exact anyS_first h0 (Region.noSelect_spec hsel) l.length listed a bs (Region.free_spec h0 hf) hr' hy (next _ _ hn)

/-- **ONE WALK OF THE ORDER OF THE TEXT SERVES EVERY ORDER.** -/
theorem wp_region_sto {id : Nat} {Q : Exit → Act → World → Prop} {a : Act} {w : World} {l : List Oper} (hm : P.follows .mixedOrders = true) (hB : stoB .any l.toArray = true)
    (h : wpSto P l.toArray w (fun a' bs => ∀ w', InD w bs w' → Q .normal a' w') l a []) : (Code.region id l.toArray true).wp P Q a w := by
  unfold stoB at hB
  simp only [Bool.and_eq_true, List.all_eq_true, List.mem_range] at hB
  obtain ⟨⟨hsel, hgd⟩, hG⟩ := hB
  refine wp_region_any hm ?_
  have hcl : Closed .any l.toArray (Array.replicate l.toArray.size false) := fun j o ho hj => by
    exfalso
    rcases Nat.lt_or_ge j l.length with h' | h' <;> simp [h'] at hj
  have hany : anyS P .any l.toArray w (fun a' bs => ∀ w', InD w bs w' → Q .normal a' w') l.length (Array.replicate l.toArray.size false) a [] := by
    refine anyS_lex (fun _ bs bs' hp hh w' hD => hh w' (hD.fewer fun x hx => (hp x).1 hx)) hsel (fun j o ho hmk => ?_) l 0 _ a [] (fun j => by simp) hcl (by simpa using hG) h
    have := hgd j (Array.getElem?_eq_some_iff.1 ho).1
    rw [ho] at this
    simp only [Option.map_some, Option.getD_some, hmk, Bool.not_true, Bool.false_or] at this
    simpa using this
  have hfin := wpAny_of_anyS (W := w) (Q' := Q) (fun a bs w' hD hh => hh w' hD) l.length (Array.replicate l.toArray.size false) a [] ({ w with drawn := w.drawn + 1 } : World) ⟨⟨rfl, rfl, rfl, Nat.le_refl _, fun _ _ => rfl⟩, fun x hx => by cases hx⟩ hany
  simpa using hfin

/-! ### Steps: what reads is walked as the kit's quiet walk -/
theorem wpSto_quiet {Q : Act → List (Nat × Obj) → Prop} {o : Oper} {rest : List Oper} {a : Act} {bs : List (Nat × Obj)} (hm : isMaker o = false) (hs : isStore o = false)
    (hw : Region.wanted o (yielded ops a.tmps) = true) (h : ∃ v, (∀ w, Below W.heap.size W w → growUpon P w v ((execOp a.eval o).run P w)) ∧ wpSto P ops W Q rest (a.put o.dst v) bs) : wpSto P ops W Q (o :: rest) a bs := by
  show if _ then _ else _
  simp only [hw, if_true, growOpS, hm, hs, Bool.false_eq_true, if_false]
  exact h
theorem wpSto_make {Q : Act → List (Nat × Obj) → Prop} {o : Oper} {rest : List Oper} {a : Act} {bs : List (Nat × Obj)} {O : Obj} (hg : o.guard = none) (hO : makes P o = some O)
    (h : ∀ b, W.heap.size ≤ b → (∀ x ∈ bs, x.1 ≠ b) → wpSto P ops W Q rest (a.put o.dst (.pointer (some ⟨b, 0, none⟩))) ((b, O) :: bs)) : wpSto P ops W Q (o :: rest) a bs := by
  have hm : isMaker o = true := by
    unfold makes at hO
    unfold isMaker
    split at hO
    · rfl
    · cases hO
  show if _ then _ else _
  simp only [show Region.wanted o (yielded ops a.tmps) = true by simp [Region.wanted, hg], if_true, growOpS, hm]
  exact ⟨O, hO, h⟩
theorem wpSto_store {Q : Act → List (Nat × Obj) → Prop} {o : Oper} {rest : List Oper} {a : Act} {bs : List (Nat × Obj)} {b : Nat} {O0 O : Obj} (hs : isStore o = true) (hg : o.guard = none) (hb : (b, O0) ∈ bs)
    (hr : ∀ w, InD W bs w → ∃ w', (execOp a.eval o).run P w = .ok .skip w' ∧ SetAt w b O w') (h : wpSto P ops W Q rest (a.put o.dst undef) (updB bs b O)) : wpSto P ops W Q (o :: rest) a bs := by
  have hm : isMaker o = false := by
    unfold isStore at hs
    unfold isMaker
    split at hs
    · rename_i h; rw [h]
    · cases hs
  show if _ then _ else _
  simp only [show Region.wanted o (yielded ops a.tmps) = true by simp [Region.wanted, hg], if_true, growOpS, hm, hs, Bool.false_eq_true, if_false]
  exact ⟨b, O0, O, hb, hr, h⟩
theorem wpSto_nil {Q : Act → List (Nat × Obj) → Prop} {a : Act} {bs : List (Nat × Obj)} (h : Q a bs) : wpSto P ops W Q [] a bs := h
theorem wpSto_pass {Q : Act → List (Nat × Obj) → Prop} {o : Oper} {rest : List Oper} {a : Act} {bs : List (Nat × Obj)}
    (hw : Region.wanted o (yielded ops a.tmps) = false) (h : wpSto P ops W Q rest (a.put o.dst undef) bs) : wpSto P ops W Q (o :: rest) a bs := by
  show if _ then _ else _
  simp only [hw]
  exact h
theorem wpSto_at {Q : Act → List (Nat × Obj) → Prop} {l : List Oper} {a a' : Act} {bs : List (Nat × Obj)} (e : a = a') (h : wpSto P ops W Q l a' bs) : wpSto P ops W Q l a bs := e ▸ h
theorem below_cells {w : World} (h : Below W.heap.size W w) : ∀ b o, b < W.heap.size → w.cell? ⟨b, o, none⟩ = W.cell? ⟨b, o, none⟩ := fun b o hb => h.cell (p := ⟨b, o, none⟩) hb
end
end Go.Proofs.Ytkcocdpmangcgaa
