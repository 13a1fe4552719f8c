/- XGrow's law where what comes last may be calls, too: each waits for all ahead of it. Printed by late.py. -/
import Derived.Test.YtloljnpnoohglaaGrow
namespace Go.Proofs.Ytloljnpnoohglaa
set_option linter.unusedSimpArgs false
set_option linter.unusedVariables false
open Go Go.RowKit

section
variable {P : Program} {ops : Array Oper} {md : Region.Mode} {W : World}
def isStoreL (o : Oper) : Bool := match o.op with | .store .. => true | .call .. => true | _ => false
def anyGL (P : Program) (md : Region.Mode) (ops : Array Oper) (W : World) (Q : Array Bool → Act → List (Nat × Obj) → Prop) : Nat → Array Bool → Act → List (Nat × Obj) → Prop
  | 0, listed, a, bs => (∀ j ∈ Region.ready md ops listed, ((ops[j]?).map isStoreL).getD false = true) ∧ Q listed a bs
  | fuel + 1, listed, a, bs => Region.ready md ops listed ≠ [] ∧ ∀ j ∈ Region.ready md ops listed, gOp P ops W j (anyGL P md ops W Q fuel (listed.setIfInBounds j true)) a bs

theorem wpAny_of_anyGL {Q : Array Bool → Act → List (Nat × Obj) → Prop} {Q' : Exit → Act → World → Prop} {nB : Nat} (hQ : ∀ listed a bs w, InD W bs w → Q listed a bs → wpAny P md ops Q' nB listed a w) :
    ∀ (fuel : Nat) (listed : Array Bool) (a : Act) (bs : List (Nat × Obj)) (w : World), InD W bs w → anyGL P md ops W Q fuel listed a bs → wpAny P md ops Q' (fuel + nB) listed a w
  | 0, listed, a, bs, w, hD, h => by rw [Nat.zero_add]; exact hQ _ _ _ _ hD h.2
  | fuel + 1, listed, a, bs, w, hD, h => by
    rw [show fuel + 1 + nB = (fuel + nB) + 1 from by omega]
    exact ⟨fun h0 => absurd h0 h.1, fun i hi => wpOp_of_gOp hD (fun a' bs' w' hD' => wpAny_of_anyGL hQ fuel _ a' bs' w' hD') (h.2 i hi)⟩

theorem anyG_firstL {Q : Array Bool → Act → List (Nat × Obj) → Prop} {i : Nat} {oi : Oper} {v : Value} (hi : ops[i]? = some oi) (hsel : ∀ (j : Nat) (o : Oper) cs b, ops[j]? = some o → o.op ≠ .select cs b)
    (hst : ∀ j o, ops[j]? = some o → isStoreL o = true → j ≠ i → j ∈ waitsOn md ops i ops.size) :
    ∀ (fuel : Nat) (listed : Array Bool) (a : Act) (bs : List (Nat × Obj)), Closed md ops listed →
      (∀ j oj, ops[j]? = some oj → j ≠ i → listed.getD j true = false → (∀ e ∈ oj.after, Region.binds md e = true → e.on ≠ i) → oi.apart ops oj = true) →
      i ∈ Region.ready md ops listed → YieldsG P ops W oi v a bs →
      anyGL P md ops W Q fuel (listed.setIfInBounds i true) (a.put oi.dst v) bs → anyGL P md ops W Q (fuel + 1) listed a bs := by
  intro fuel
  induction fuel with
  | zero =>
    intro listed a bs hc _ hr hy H
    refine ⟨fun h => (by rw [h] at hr; cases hr), fun j hj => ?_⟩
    by_cases hji : j = i
    · subst hji; exact hy.gOp hi H
    · have hs := H.1 j (ready_mono hj hji)
      obtain ⟨_, oj, hoj, _⟩ := mem_ready.1 hj
      rw [hoj] at hs
      exact absurd hj (waitsOn_spec hc (getD_ne_of_true (mem_ready.1 hr).1) _ j (hst j oj hoj (by simpa using hs) hji)).2
  | succ fuel ih =>
    intro listed a bs hc hfree hr hy H
    refine ⟨fun h => (by rw [h] at hr; cases hr), fun j hj => ?_⟩
    by_cases hji : j = i
    · subst hji; exact hy.gOp hi H
    · have h1 := H.2 j (ready_mono hj hji)
      obtain ⟨hjun, oj, hoj, hall⟩ := mem_ready.1 hj
      have hnot : ∀ e ∈ oj.after, Region.binds md e = true → e.on ≠ i := fun e he hb heq => by
        have h1 := hall e he hb
        have h0 := (mem_ready.1 hr).1
        rw [heq] at h1
        rw [getD_ne_of_true h0] at h1
        cases h1
      have h2 := gOp_put hoj (hfree j oj hoj hji hjun hnot) (fun cs b => hsel i oi cs b hi) (fun cs b => hsel j oj cs b hoj) hy h1
      have hfree' : ∀ k ok, ops[k]? = some ok → k ≠ i → (listed.setIfInBounds j true).getD k true = false →
          (∀ e ∈ ok.after, Region.binds md e = true → e.on ≠ i) → oi.apart ops ok = true := fun k ok hk hki hun hno => by
        refine hfree k ok hk hki ?_ hno
        by_cases hjk : j = k
        · subst hjk; exact hjun
        · rw [getD_set_ne true hjk] at hun; exact hun
      refine gOp_mono (fun a' bs' h3 => ih (listed.setIfInBounds j true) a' bs' (hc.set hj) hfree' (ready_mono hr (Ne.symm hji)) h3.1 ?_) h2
      rw [Array.setIfInBounds_comm _ _ hji]
      exact h3.2

theorem anyG_permL {Q : Array Bool → Act → List (Nat × Obj) → Prop} (hQ : ∀ listed a bs bs', (∀ x, x ∈ bs ↔ x ∈ bs') → Q listed a bs → Q listed a bs') :
    ∀ (fuel : Nat) (listed : Array Bool) (a : Act) (bs bs' : List (Nat × Obj)), (∀ x, x ∈ bs ↔ x ∈ bs') → anyGL P md ops W Q fuel listed a bs → anyGL P md ops W Q fuel listed a bs'
  | 0, _, _, _, _, hp, h => ⟨h.1, hQ _ _ _ _ hp h.2⟩
  | fuel + 1, listed, a, bs, bs', hp, h => by
    refine ⟨h.1, fun j hj => ?_⟩
    have h1 := h.2 j hj
    unfold gOp at *
    split
    · rename_i ho; simp only [ho] at h1; exact anyG_permL hQ fuel _ _ _ _ hp h1
    · rename_i o ho
      simp only [ho] at h1
      split
      · rename_i hw
        simp only [hw, if_true] at h1
        unfold growOp at *
        split
        · rename_i hm
          simp only [hm, if_true] at h1
          obtain ⟨O, hO, hn⟩ := h1
          exact ⟨O, hO, fun b hb hf => anyG_permL hQ fuel _ _ _ _ (fun x => by simp only [List.mem_cons, hp]) (hn b hb fun x hx => hf x ((hp x).1 hx))⟩
        · rename_i hm
          simp only [hm] at h1
          obtain ⟨v, hv, hn⟩ := h1
          exact ⟨v, fun w hD => hv w (hD.fewer fun x hx => (hp x).1 hx), anyG_permL hQ fuel _ _ _ _ hp hn⟩
      · rename_i hw; simp only [hw] at h1; exact anyG_permL hQ fuel _ _ _ _ hp h1

theorem anyG_makeL {Q : Array Bool → Act → List (Nat × Obj) → Prop} (hQ : ∀ listed a bs bs', (∀ x, x ∈ bs ↔ x ∈ bs') → Q listed a bs → Q listed a bs') {i : Nat} {oi : Oper} {O : Obj}
    (hi : ops[i]? = some oi) (hO : makes P oi = some O) (hm : isMaker oi = true) (hg : ∀ (j : Nat) o, ops[j]? = some o → isMaker o = true → o.guard = none) :
    ∀ (fuel : Nat) (listed : Array Bool) (a : Act) (bs : List (Nat × Obj)), Closed md ops listed →
      (∀ j oj, ops[j]? = some oj → j ≠ i → listed.getD j true = false → (∀ e ∈ oj.after, Region.binds md e = true → e.on ≠ i) → oi.apart ops oj = true) →
      (∀ j oj, ops[j]? = some oj → listed.getD j true = false → isMaker oj = false → j ∈ waitsOn md ops i ops.size) →
      i ∈ Region.ready md ops listed →
      (∀ b, W.heap.size ≤ b → (∀ x ∈ bs, x.1 ≠ b) → anyGL P md ops W Q fuel (listed.setIfInBounds i true) (a.put oi.dst (.pointer (some ⟨b, 0, none⟩))) ((b, O) :: bs)) →
      anyGL P md ops W Q (fuel + 1) listed a bs := by
  have wanted : ∀ (j : Nat) o, ops[j]? = some o → isMaker o = true → ∀ y, Region.wanted o y = true := fun j o ho h y => by simp [Region.wanted, hg j o ho h]
  intro fuel
  induction fuel with
  | zero =>
    intro listed a bs hc _ hoth hr H
    refine ⟨fun h => (by rw [h] at hr; cases hr), fun j hj => ?_⟩
    by_cases hji : j = i
    · subst hji
      unfold gOp
      simp only [hi, wanted j oi hi hm, if_true, growOp, hm]
      exact ⟨O, hO, H⟩
    · exfalso
      obtain ⟨hjun, oj, hoj, _⟩ := mem_ready.1 hj
      obtain ⟨b, hb, hf⟩ := exists_fresh W.heap.size bs
      have hs := (H b hb fun x hx => Nat.ne_of_lt (hf x hx)).1 j (ready_mono hj hji)
      rw [hoj] at hs
      cases hmj : isMaker oj with
      | true =>
        unfold isMaker at hmj
        unfold isStoreL at hs
        simp only [Option.map_some, Option.getD_some] at hs
        split at hmj
        · rename_i hop; rw [hop] at hs; cases hs
        · cases hmj
      | false => exact (waitsOn_spec hc (getD_ne_of_true (mem_ready.1 hr).1) _ j (hoth j oj hoj hjun hmj)).2 hj
  | succ fuel ih =>
    intro listed a bs hc hfree hoth hr H
    refine ⟨fun h => (by rw [h] at hr; cases hr), fun j hj => ?_⟩
    by_cases hji : j = i
    · subst hji
      unfold gOp
      simp only [hi, wanted j oi hi hm, if_true, growOp, hm]
      exact ⟨O, hO, H⟩
    · obtain ⟨hjun, oj, hoj, hall⟩ := mem_ready.1 hj
      cases hmj : isMaker oj with
      | false => exact absurd hj (waitsOn_spec hc (getD_ne_of_true (mem_ready.1 hr).1) _ j (hoth j oj hoj hjun hmj)).2
      | true =>
        have hnot : ∀ e ∈ oj.after, Region.binds md e = true → e.on ≠ i := fun e he hb heq => by
          have h1 := hall e he hb
          have h0 := (mem_ready.1 hr).1
          rw [heq] at h1
          rw [getD_ne_of_true h0] at h1
          cases h1
        obtain ⟨_, hap2, _⟩ := Oper.apart_spec (hfree j oj hoj hji hjun hnot)
        have hfree' : ∀ k ok, ops[k]? = some ok → k ≠ i → (listed.setIfInBounds j true).getD k true = false →
            (∀ e ∈ ok.after, Region.binds md e = true → e.on ≠ i) → oi.apart ops ok = true := fun k ok hk hki hun hno => by
          refine hfree k ok hk hki ?_ hno
          by_cases hjk : j = k
          · subst hjk; exact hjun
          · rw [getD_set_ne true hjk] at hun; exact hun
        have hoth' : ∀ k ok, ops[k]? = some ok → (listed.setIfInBounds j true).getD k true = false → isMaker ok = false → k ∈ waitsOn md ops i ops.size := fun k ok hk hun hmk => by
          refine hoth k ok hk ?_ hmk
          by_cases hjk : j = k
          · subst hjk; exact hjun
          · rw [getD_set_ne true hjk] at hun; exact hun
        -- what is made at j
        have first : ∀ b, W.heap.size ≤ b → (∀ x ∈ bs, x.1 ≠ b) → ∃ Oj, makes P oj = some Oj ∧ ∀ c, W.heap.size ≤ c → (∀ x ∈ (b, O) :: bs, x.1 ≠ c) →
            anyGL P md ops W Q fuel ((listed.setIfInBounds i true).setIfInBounds j true) ((a.put oi.dst (.pointer (some ⟨b, 0, none⟩))).put oj.dst (.pointer (some ⟨c, 0, none⟩))) ((c, Oj) :: (b, O) :: bs) := fun b hb hf => by
          have h1 := (H b hb hf).2 j (ready_mono hj hji)
          unfold gOp at h1
          simpa only [hoj, wanted j oj hoj hmj, if_true, growOp, hmj] using h1
        obtain ⟨b0, hb0, hf0⟩ := exists_fresh W.heap.size bs
        obtain ⟨Oj, hOj, _⟩ := first b0 hb0 fun x hx => Nat.ne_of_lt (hf0 x hx)
        unfold gOp
        simp only [hoj, wanted j oj hoj hmj, if_true, growOp, hmj]
        refine ⟨Oj, hOj, fun c hcb hcf => ih (listed.setIfInBounds j true) _ _ (hc.set hj) hfree' hoth' (ready_mono hr (Ne.symm hji)) fun b hb hf => ?_⟩
        obtain ⟨Oj', hOj', hn⟩ := first b hb fun x hx => hf x (List.mem_cons_of_mem _ hx)
        rw [hOj] at hOj'
        cases hOj'
        have hbc : b ≠ c := fun e => hf (c, Oj) List.mem_cons_self e.symm
        have h2 := hn c hcb fun x hx => by
          rcases List.mem_cons.1 hx with rfl | hx
          · exact hbc
          · exact hcf x hx
        rw [Array.setIfInBounds_comm _ _ hji, ← Act.put_comm a _ _ hap2]
        exact anyG_permL hQ _ _ _ _ _ (fun x => by simp only [List.mem_cons]; constructor <;> (rintro (h | h | h) <;> simp [h])) h2

def growFromL (md : Region.Mode) (ops : Array Oper) : Nat → Nat → Array Bool → Bool
  | 0, _, listed => (Region.ready md ops listed).all fun j => ((ops[j]?).map isStoreL).getD false
  | fuel + 1, k, listed => (Region.ready md ops listed).contains k && Region.free md ops listed k &&
      (match ops[k]? with
       | some o => !isMaker o || (List.range ops.size).all fun j => listed.getD j true || ((ops[j]?).map isMaker).getD true || (waitsOn md ops k ops.size).contains j
       | none => false) && growFromL md ops fuel (k + 1) (listed.setIfInBounds k true)
def growBL (md : Region.Mode) (ops : Array Oper) (nA : Nat) : Bool :=
  Region.noSelect ops && ((List.range ops.size).all fun j => ((ops[j]?).map fun o => !isMaker o || o.guard.isNone).getD true) &&
  ((List.range nA).all fun i => (List.range ops.size).all fun j => !((ops[j]?).map isStoreL).getD false || (j == i || (waitsOn md ops i ops.size).contains j)) &&
  growFromL md ops nA 0 (Array.replicate ops.size false) && seqFrom md ops (ops.size - nA) nA (listedTo nA 0 (Array.replicate ops.size false))

theorem anyG_lexL {R : Array Bool → Act → List (Nat × Obj) → Prop} (hR : ∀ listed a bs bs', (∀ x, x ∈ bs ↔ x ∈ bs') → R listed a bs → R listed a bs')
    (hsel : Region.noSelect ops = true) (hg : ∀ (j : Nat) o, ops[j]? = some o → isMaker o = true → o.guard = none) (nA : Nat)
    (hst : ∀ i, i < nA → ∀ j o, ops[j]? = some o → isStoreL o = true → j ≠ i → j ∈ waitsOn md ops i ops.size) :
    ∀ (l : List Oper) (k : Nat) (listed : Array Bool) (a : Act) (bs : List (Nat × Obj)), (∀ j, j < l.length → l[j]? = ops[k + j]?) → k + l.length ≤ nA → Closed md ops listed →
      growFromL md ops l.length k listed = true → wpGrow P ops W (R (listedTo l.length k listed)) l a bs → anyGL P md ops W R l.length listed a bs
  | [], k, listed, a, bs, _, _, _, hB, h => by
    refine ⟨?_, h⟩
    simpa [growFromL] using hB
  | o :: l, k, listed, a, bs, hl, hk, hc, hB, h => by
    have h0 : ops[k]? = some o := by simpa using (hl 0 (by simp)).symm
    simp only [List.length_cons, growFromL, h0, Bool.and_eq_true] at hB
    obtain ⟨⟨⟨hr, hf⟩, hmk⟩, hB'⟩ := hB
    have hr' : k ∈ Region.ready md ops listed := by simpa using hr
    simp only [List.length_cons] at hk
    have next : ∀ a' bs', wpGrow P ops W (R (listedTo l.length (k + 1) (listed.setIfInBounds k true))) l a' bs' → anyGL P md ops W R l.length (listed.setIfInBounds k true) a' bs' := fun a' bs' hh =>
      anyG_lexL hR hsel hg nA hst l (k + 1) _ a' bs' (fun j hj => by have := hl (j + 1) (by simp; omega); simpa [Nat.add_assoc, Nat.add_comm 1 j] using this) (by omega) (hc.set hr') hB' hh
    have hh : if Region.wanted o (yielded ops a.tmps) then growOp P W o a bs (wpGrow P ops W (R (listedTo l.length (k + 1) (listed.setIfInBounds k true))) l)
        else wpGrow P ops W (R (listedTo l.length (k + 1) (listed.setIfInBounds k true))) l (a.put o.dst undef) bs := h
    by_cases hm : isMaker o = true
    · have hw : Region.wanted o (yielded ops a.tmps) = true := by simp [Region.wanted, hg k o h0 hm]
      simp only [hw, if_true, growOp, hm] at hh
      obtain ⟨O, hO, hn⟩ := hh
      refine anyG_makeL hR h0 hO hm hg l.length listed a bs hc (Region.free_spec h0 hf) (fun j oj hj hun hmj => ?_) hr' fun b hb hfr => next _ _ (hn b hb hfr)
      simp only [hm, Bool.not_true, Bool.false_or, List.all_eq_true, List.mem_range] at hmk
      have := hmk j (Array.getElem?_eq_some_iff.1 hj).1
      simpa [hj, hun, hmj] using this
    · have hy : ∃ v, YieldsG P ops W o v a bs ∧ wpGrow P ops W (R (listedTo l.length (k + 1) (listed.setIfInBounds k true))) l (a.put o.dst v) bs := by
        by_cases hw : Region.wanted o (yielded ops a.tmps) = true
        · simp only [hw, if_true, growOp, hm] at hh
          obtain ⟨v, h1, h2⟩ := hh
          exact ⟨v, .inl ⟨hw, by simpa using hm, h1⟩, h2⟩
        · simp only [hw] at hh
          exact ⟨undef, .inr ⟨by simpa using hw, rfl⟩, hh⟩
      obtain ⟨v, hy, hn⟩ := hy
      exact anyG_firstL h0 (Region.noSelect_spec hsel) (hst k (by omega)) l.length listed a bs hc (Region.free_spec h0 hf) hr' hy (next _ _ hn)

theorem wp_region_growL {id : Nat} {Q : Exit → Act → World → Prop} {a : Act} {w : World} {l : List Oper} (nA : Nat) (hm : P.follows .mixedOrders = true) (hB : growBL .any l.toArray nA = true)
    (h : wpGrow P l.toArray w (fun a' bs => ∀ w', InD w bs w' → wpList P l.toArray Q (l.drop nA) a' w') (l.take nA) a []) : (Code.region id l.toArray true).wp P Q a w := by
  unfold growBL at hB
  simp only [Bool.and_eq_true, List.all_eq_true, List.mem_range] at hB
  obtain ⟨⟨⟨⟨hsel, hgd⟩, hst⟩, hG⟩, hS⟩ := hB
  have hle : nA ≤ l.length := by
    rcases Nat.lt_or_ge l.length nA with hlt | hge
    · exfalso
      have bad : ∀ n k (listed : Array Bool), listed.size = l.length → l.length < k + n → k ≤ l.length → growFromL .any l.toArray n k listed = true → False := by
        intro n
        induction n with
        | zero => intro k listed _ h1 h2 _; omega
        | succ n ih =>
          intro k listed hsz h1 h2 h3
          simp only [growFromL, Bool.and_eq_true] at h3
          obtain ⟨⟨⟨hr, _⟩, _⟩, h4⟩ := h3
          have hk : k < l.length := by
            have := (mem_ready.1 (show k ∈ Region.ready .any l.toArray listed by simpa using hr)).1
            rcases Nat.lt_or_ge k listed.size with h' | h'
            · omega
            · simp [Array.getElem?_eq_none h'] at this
          exact ih (k + 1) _ (by simpa using hsz) (by omega) (by omega) h4
      exact bad nA 0 _ (by simp) (by omega) (by omega) hG
    · exact hge
  have hsz : (l.take nA).length = nA := by simp; omega
  have hsd : (l.drop nA).length = l.length - nA := by simp
  let R : Array Bool → Act → List (Nat × Obj) → Prop := fun listed a bs => ∀ w', InD w bs w' → wpAny P .any l.toArray Q (l.length - nA) listed a w'
  refine wp_region_any hm ?_
  have hcl : Closed .any l.toArray (Array.replicate l.toArray.size false) := fun j o ho hj => by
    exfalso
    rcases Nat.lt_or_ge j l.length with h' | h' <;> simp [h'] at hj
  have hany : anyGL P .any l.toArray w R (l.take nA).length (Array.replicate l.toArray.size false) a [] := by
    refine anyG_lexL (fun _ _ bs bs' hp hh w' hD => hh w' (hD.fewer fun x hx => (hp x).1 hx)) hsel (fun j o ho hmk => ?_) nA (fun i hi j o ho hs hne => ?_) (l.take nA) 0 _ a [] (fun j hj => ?_) (by omega) hcl (by rw [hsz]; exact hG) ?_
    · have := hgd j (Array.getElem?_eq_some_iff.1 ho).1
      rw [ho] at this
      simp only [Option.map_some, Option.getD_some, hmk, Bool.not_true, Bool.false_or] at this
      simpa using this
    · have := hst i hi j (Array.getElem?_eq_some_iff.1 ho).1
      rw [ho] at this
      simpa [hs, hne] using this
    · simp only [List.length_take] at hj
      rw [List.getElem?_take_of_lt (by omega)]
      simp
    · have mono : ∀ (l' : List Oper) (a' : Act) (bs' : List (Nat × Obj)), wpGrow P l.toArray w (fun a' bs => ∀ w', InD w bs w' → wpList P l.toArray Q (l.drop nA) a' w') l' a' bs' →
          wpGrow P l.toArray w (R (listedTo (l.take nA).length 0 (Array.replicate l.toArray.size false))) l' a' bs' := by
        intro l'
        induction l' with
        | nil =>
          intro a' bs' hh w' hD
          rw [hsz]
          have := wpAny_seq (md := .any) (l.drop nA) nA (listedTo nA 0 (Array.replicate l.toArray.size false)) a' w' (fun j hj => by simp) (by rw [hsd]; simpa using hS) (hh w' hD)
          rwa [hsd] at this
        | cons o l' ih =>
          intro a' bs' hh
          have hh' : if Region.wanted o (yielded l.toArray a'.tmps) then growOp P w o a' bs' (wpGrow P l.toArray w (fun a' bs => ∀ w', InD w bs w' → wpList P l.toArray Q (l.drop nA) a' w') l')
              else wpGrow P l.toArray w (fun a' bs => ∀ w', InD w bs w' → wpList P l.toArray Q (l.drop nA) a' w') l' (a'.put o.dst undef) bs' := hh
          show if _ then _ else _
          split
          · rename_i hw; simp only [hw, if_true] at hh'; exact growOp_mono ih hh'
          · rename_i hw; simp only [hw] at hh'; exact ih _ _ hh'
      exact mono _ _ _ h
  have hfin := wpAny_of_anyGL (W := w) (Q := R) (nB := l.length - nA) (Q' := Q) (fun listed a bs w' hD hh => hh w' hD) (l.take nA).length (Array.replicate l.toArray.size false) a [] ({ w with drawn := w.drawn + 1 } : World) ⟨⟨rfl, rfl, rfl, Nat.le_refl _, fun _ _ => rfl⟩, fun x hx => by cases hx⟩ hany
  rw [hsz] at hfin
  have e : nA + (l.length - nA) = l.toArray.size := by simp; omega
  rwa [e] at hfin

end
end Go.Proofs.Ytloljnpnoohglaa
