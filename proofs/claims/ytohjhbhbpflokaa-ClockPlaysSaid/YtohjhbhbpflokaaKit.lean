
/- Small words for walks: results, cells behind a callee that keeps what was there. -/
import Derived.WalkKit
import Derived.Lib.Hide
import Derived.Deep.Draws
namespace Go.Proofs.Ytohjhbhbpflokaa
set_option linter.unusedSimpArgs false
set_option linter.unusedVariables false
open Go.RowKit

theorem ret_int {k : IntKind} {a b : Int} (h : a = b) : Ending.returned (.int k a) = .returned (.int k b) := by rw [h]
theorem ret_bool {a b : Bool} (h : a = b) : Ending.returned (.bool a) = .returned (.bool b) := by rw [h]

theorem bcell {W w1 : World} (hb : Below W.heap.size W w1) : (∀ b o, b < W.heap.size → w1.cell? ⟨b, o, none⟩ = W.cell? ⟨b, o, none⟩) ∧ (∀ b o, b < W.heap.size → w1.frozen? ⟨b, o, none⟩ = W.frozen? ⟨b, o, none⟩) :=
  ⟨fun b o h => hb.cell (p := ⟨b, o, none⟩) h, fun b o h => hb.frozen (p := ⟨b, o, none⟩) h⟩

/-- the same, and that old blocks are there still. -/
theorem bcell3 {W w1 : World} (hb : Below W.heap.size W w1) : (∀ b o, b < W.heap.size → w1.cell? ⟨b, o, none⟩ = W.cell? ⟨b, o, none⟩) ∧ (∀ b o, b < W.heap.size → w1.frozen? ⟨b, o, none⟩ = W.frozen? ⟨b, o, none⟩) ∧ (∀ b, b < W.heap.size → b < w1.heap.size) :=
  ⟨fun b o h => hb.cell (p := ⟨b, o, none⟩) h, fun b o h => hb.frozen (p := ⟨b, o, none⟩) h, fun _ h => Nat.lt_of_lt_of_le h hb.size⟩

/-! rules for a walk's text: 'attribute [local go_sem] lt_add1 size_ne size_ne' size_ne1 size_ne1'' -/
theorem lt_add1 {b n : Nat} (h : b < n) : b < n + 1 := by omega
theorem lt_self1 (n : Nat) : n < n + 1 := by omega
theorem size_ne {w : World} {b : Nat} (h : b < w.heap.size) : (b = w.heap.size) = False := by simp; omega
theorem size_ne' {w : World} {b : Nat} (h : b < w.heap.size) : (w.heap.size = b) = False := by simp; omega
theorem size_ne1 {w : World} {b : Nat} (h : b < w.heap.size) : (b = w.heap.size + 1) = False := by simp; omega
theorem size_ne1' {w : World} {b : Nat} (h : b < w.heap.size) : (w.heap.size + 1 = b) = False := by simp; omega

/-- what stood below block n is as it was: for go_region_held3's S, 'fun w' => (∀ b o, b < n → w'.cell? ⟨b, o, none⟩ = W.cell? ⟨b, o, none⟩) ∧ n ≤ w'.heap.size'. -/
theorem old_of_below {n : Nat} {W w' : World} (h : Below n W w') (hn : n ≤ W.heap.size := by first | exact Nat.le_refl _ | (simp; done) | (simp; omega)) : (∀ b o, b < n → w'.cell? ⟨b, o, none⟩ = W.cell? ⟨b, o, none⟩) ∧ n ≤ w'.heap.size :=
  ⟨fun b o hb => h.cell (p := ⟨b, o, none⟩) hb, Nat.le_trans hn h.size⟩

/-- what is known of the world that a walk stands in, and no more. -/
theorem world_as {Q : World → Prop} {w : World} (I : World → Prop) (hI : I w) (h : ∀ W, I W → Q W) : Q w := h w hI

theorem Below.drewN {B : Nat} {a w : World} (h : Below B a w) (n : Nat) : Below B a (w.drewN n) := ⟨h.os, h.tape, h.output, h.size, h.block⟩

end Go.Proofs.Ytohjhbhbpflokaa
