/- Opening a function of states, in the print's words. -/
import Derived.Test.YtloljnpnoohglaaVecO
import Derived.Test.YtloljnpnoohglaaKd
namespace Go.Proofs.Ytloljnpnoohglaa.Vec
set_option linter.unusedSimpArgs false
set_option linter.unusedVariables false
open Go Go.RowKit Go.ChangeShapes Go.Joins Go.Deep Go.Proofs.YtloljnpnoohglaaW.PrintWords

theorem C_of_sl {α : Type} {enc : α → Value} {h1 : ∀ x, (enc x).oneCell' = true} {w : World} {A : Option Addr} {xs : List α} (d : α) (h : SlI w w.heap.size xs.length A (fun i => enc (xs.getD i d))) (hl : xs.length ≤ 9223372036854775807) : (Kd.scalar enc h1).C w A xs.length xs := by
  refine Kd.C_of_reads (d := d) (h1 := h1) ⟨rfl, hl, fun hn => ?_⟩
  obtain ⟨b, off, e, hb, hc⟩ := h hn
  refine ⟨⟨b, off, none⟩, e, fun j hj => ?_⟩
  rw [Addr.add_lit]
  exact hc j hj
/-- a function that came in: both rows read, within their room. -/
def FunC (w : World) (A : Option Addr) (c : Nat) (B : Option Addr) (e : Nat) (T : List Int) (H : List Bool) : Prop :=
  (Kd.int .i64).C w A T.length T ∧ T.length ≤ c ∧ Kd.bool.C w B H.length H ∧ H.length ≤ e
section
variable {H : Type} {enc : TypeId × Value → H} {W : World} {base : Nat} {spare : Nat → Bool} {held : Bool}
set_option maxRecDepth 100000 in
theorem open_funC {b0 : Nat} {r : Reach} {v : Value} {d : DataW H} {p : List MemPlace} (hv : Value.okWide Try.prog W r b0 60 v) (h : DataW.Trod enc Try.prog W base spare held 60 v d p) :
    ∃ A c B e T Hs, v = .agg #[.slice A T.length c, .slice B Hs.length e] ∧ FunC W A c B e T Hs := by
  obtain ⟨v0, v1, y0, y1, k, rfl, _, _, h0, h1⟩ := open_agg2 Try.underlying60 (by kernel_rfl) cells_fun hv h
  have form : ∀ {t e : TypeId} {u : Value} {y : DataW H × List MemPlace}, Try.prog.underlying t = some (.slice e) → DataW.trod enc Try.prog W base spare held k t [u] = some y → ∃ A n c, u = .slice A n c := by
    intro t e u y ht hu
    rcases open_slice ht hu with ⟨hcs, _⟩ | ⟨a, len', cap', m, n, D, Pl, hcs, _⟩
    · simp at hcs; exact ⟨_, _, _, hcs⟩
    · simp at hcs; exact ⟨_, _, _, hcs⟩
  obtain ⟨A, n, c, rfl⟩ := form Try.underlying57 h0
  obtain ⟨B, m, e, rfl⟩ := form Try.underlying58 h1
  obtain ⟨T, rfl, _, hc1, hm1, sT⟩ := open_rows (α := Int) (fun x : Int => [Value.int .i64 x]) (fun _ => True) cells_int (by omega) Try.underlying57 dec_int (d := y0.1) (p := y0.2) ⟨k, h0⟩
  obtain ⟨Hs, rfl, _, hc2, hm2, sH⟩ := open_rows (α := Bool) (fun x : Bool => [Value.bool x]) (fun _ => True) cells_bool (by omega) Try.underlying58 dec_bool (d := y1.1) (p := y1.2) ⟨k, h1⟩
  unfold maxLen at hm1 hm2
  have k1 : T.length ≤ 9223372036854775807 := by omega
  have k2 : Hs.length ≤ 9223372036854775807 := by omega
  exact ⟨A, c, B, e, T, Hs, rfl, C_of_sl (0 : Int) (sl_of_at sT) k1, hc1, C_of_sl false (sl_of_at sH) k2, hc2⟩
end
end Go.Proofs.Ytloljnpnoohglaa.Vec
