
/- Small words for what the print says: answers behind enough rounds; bytes; sums without wrapping. -/
import Derived.Test.YtapanoalhhlphaaWMore
namespace Go.Proofs.Ytapanoalhhlphaa.EvK
set_option linter.unusedSimpArgs false
set_option linter.unusedVariables false
open Go.RowKit Go.Proofs.YtapanoalhhlphaaW.PrintWords Go.Proofs.YtapanoalhhlphaaW.PrintLast Go.Proofs.YtapanoalhhlphaaW.PrintMore
section
variable {α β : Type} {g f : Nat → Option α} {r : α} {c : Prop} [Decidable c]
theorem Ev.succ (h : Ev (fun k => g (k + 1)) r) : Ev g r := Ev.step (fun _ => rfl) h
theorem Ev.pos (hc : c) (h : Ev f r) : Ev (fun k => if c then f k else g k) r := Ev.congr (fun _ => if_pos hc) h
theorem Ev.neg (hc : ¬ c) (h : Ev g r) : Ev (fun k => if c then f k else g k) r := Ev.congr (fun _ => if_neg hc) h
theorem Ev.some_ {a : β} {q : Nat → β → Option α} (h : Ev (fun k => q k a) r) : Ev (fun k => (some a).bind (q k)) r := Ev.congr (fun _ => rfl) h
theorem Ev.at_ {a b : α} (e : a = b) : Ev (fun _ => some a) b := by subst e; exact Ev.now a
end
/-- bytes. -/
def B (l : List Int) : Prop := ∀ x ∈ l, 0 ≤ x ∧ x < 256
theorem B.take {l : List Int} (h : B l) (n : Nat) : B (l.take n) := fun x hx => h x (List.mem_of_mem_take hx)
theorem B.drop {l : List Int} (h : B l) (n : Nat) : B (l.drop n) := fun x hx => h x (List.mem_of_mem_drop hx)
theorem B.rd {l : List Int} (h : B l) (i : Int) : 0 ≤ rd l i ∧ rd l i < 256 := by
  unfold Go.Proofs.YtapanoalhhlphaaW.PrintWords.rd
  rw [List.getD]
  cases e : l[i.toNat]? with
  | none => simp
  | some x => exact h x (List.mem_of_getElem? e)
theorem rd_get (l : List Int) (i : Nat) (h : i < l.length) : rd l (i : Int) = l[i] := by
  unfold Go.Proofs.YtapanoalhhlphaaW.PrintWords.rd
  rw [Int.toNat_natCast, List.getD, List.getElem?_eq_getElem h]
  rfl
theorem w64 (x : Int) (h0 : -9223372036854775808 ≤ x) (h : x < 9223372036854775808) : wrap64 x = x := by unfold wrap64; omega
theorem wf_B {l : List Int} (h : ∀ x ∈ l, (Lit.int .u8 x).wf = true) : B l := fun x hx => by
  have := h x hx
  simp [Lit.wf, IntKind.min, IntKind.max, IntKind.signed, IntKind.bits] at this
  omega
end Go.Proofs.Ytapanoalhhlphaa.EvK
