
/- What the print tells of a row that came in, in our words. -/
import Derived.Test.YtapanoalhhlphaaVecR
import Derived.Test.YtapanoalhhlphaaWMore
namespace Go.Proofs.Ytapanoalhhlphaa
set_option linter.unusedSimpArgs false
set_option linter.unusedVariables false
open Go Go.RowKit Go.Proofs.Ytapanoalhhlphaa.Vec Go.Proofs.YtapanoalhhlphaaW.PrintWords

theorem sl_of_C {α : Type} {enc : α → Value} {h1 : ∀ x, (enc x).oneCell' = true} {w : World} {A : Option Addr} {n : Nat} {xs : List α} (d : α) (h : (Kd.scalar enc h1).C w A n xs) : SlI w w.heap.size n A (fun i => enc (xs.getD i d)) := fun hn => by
  have each : ∀ i : Nat, i < n → ∃ ad, A = some ad ∧ w.cell? (ad.add i) = some (enc (xs.getD i d)) := fun i hi => by
    obtain ⟨ad, c, e, _, hK, hc⟩ := Kd.C_get h d (i : Int) (by omega) (by omega)
    have hK' : c = [enc (xs.getD (i : Int).toNat d)] := hK
    subst hK'
    have := hc 0 _ rfl
    refine ⟨ad, e, ?_⟩
    simpa [Kd.scalar] using this
  obtain ⟨ad, rfl, hc0⟩ := each 0 hn
  have hspot : ad.spot = none := by
    have := World.cell?_spot hc0
    simpa [Addr.add] using this
  obtain ⟨b, off, sp⟩ := ad
  subst hspot
  refine ⟨b, off, rfl, by have := World.block_lt_of_cell? w _ hc0; simpa [Addr.add] using this, fun i hi => ?_⟩
  obtain ⟨ad, e, hc⟩ := each i hi
  cases e
  have e1 : ((⟨b, off, none⟩ : Addr).add i) = ⟨b, off + i, none⟩ := by
    unfold Addr.add
    split
    · rename_i hz; simp [hz]
    · rfl
  rw [e1] at hc
  exact hc
theorem fun_of_C {w : World} {A B : Option Addr} {T : List Int} {H : List Bool} (h : (Kd.int .i64).C w A T.length T) (h' : Kd.bool.C w B H.length H) : FunAt w A T.length B H.length T H :=
  ⟨rfl, rfl, sl_of_C (0 : Int) h, sl_of_C false h'⟩
end Go.Proofs.Ytapanoalhhlphaa
