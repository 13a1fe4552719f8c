
/- Small words on arenas. -/
import Derived.Test.YtkcocdpmangcgaaArena
namespace Go.Proofs.Ytkcocdpmangcgaa.Ar
set_option linter.unusedSimpArgs false
set_option linter.unusedVariables false
open Go Go.RowKit
attribute [local go_sem] lt_add1 lt_self1 size_ne size_ne' size_ne1 size_ne1'

theorem foot_ge {B g : Nat} {r : Option Nat} (hg : B ≤ g) (hr : ∀ b, r = some b → B ≤ b) : ∀ b, foot g r b → B ≤ b := fun b h => h.elim (fun e => e ▸ hg) (hr b)

theorem getK_at {ks : List Knot} {i : Int} {k : Nat} (hi : i = (k : Int) + 1) (hk : k < ks.length) : getK ks i = ks.getD k Knot.zero ∧ getB ks i = true := by
  subst hi
  have : getS ks ((k : Int) + 1) = (ks.getD k Knot.zero, true) := by unfold getS; rw [if_pos (by omega)]; congr 2; omega
  rw [getK, getB, this]
  exact ⟨rfl, rfl⟩

end Go.Proofs.Ytkcocdpmangcgaa.Ar
