/- Opening an automaton: a struct of five one-cell fields. -/
import Derived.Test.YtloljnpnoohglaaVecO
import Derived.Test.YtloljnpnoohglaaFunC
import Derived.Test.YtloljnpnoohglaaVecY
namespace Go.Proofs.Ytloljnpnoohglaa.Vec
set_option linter.unusedSimpArgs false
set_option linter.unusedVariables false
open Go Go.RowKit Go.ChangeShapes Go.WideShapes Go.Joins Go.Deep Go.Proofs.YtloljnpnoohglaaW.PrintWords Go.Proofs.Ytloljnpnoohglaa.VPure

theorem arr5 {α : Type} {cs : Array α} (h : cs.size = 5) : ∃ c0 c1 c2 c3 c4, cs = #[c0, c1, c2, c3, c4] := by
  obtain ⟨l⟩ := cs
  match l, h with
  | [c0, c1, c2, c3, c4], _ => exact ⟨c0, c1, c2, c3, c4, rfl⟩
section
variable {H : Type} {enc : TypeId × Value → H} {P : Program} {w : World} {base : Nat} {spare : Nat → Bool} {held : Bool}
theorem struct5 {t : TypeId} {f0 f1 f2 f3 f4 : Field} {fuel : Nat} {cs : List Value} {x : DataW H × List MemPlace} (ht : P.underlying t = some (.struct #[f0, f1, f2, f3, f4])) (h : DataW.trod enc P w base spare held fuel t cs = some x) :
    ∃ y0 y1 y2 y3 y4 n, DataW.trod enc P w base spare held n f0.type ((cs.drop f0.offset).take (P.cellsOf f0.type)) = some y0 ∧
      DataW.trod enc P w base spare held n f1.type ((cs.drop f1.offset).take (P.cellsOf f1.type)) = some y1 ∧ DataW.trod enc P w base spare held n f2.type ((cs.drop f2.offset).take (P.cellsOf f2.type)) = some y2 ∧
      DataW.trod enc P w base spare held n f3.type ((cs.drop f3.offset).take (P.cellsOf f3.type)) = some y3 ∧ DataW.trod enc P w base spare held n f4.type ((cs.drop f4.offset).take (P.cellsOf f4.type)) = some y4 := by
  obtain ⟨xs, n, _, rfl, hl, hlen, hf⟩ := DataW.trod_struct ht h
  match xs, hlen with
  | [y0, y1, y2, y3, y4], _ => exact ⟨y0, y1, y2, y3, y4, n, by simpa using hf 0 f0 rfl, by simpa using hf 1 f1 rfl, by simpa using hf 2 f2 rfl, by simpa using hf 3 f3 rfl, by simpa using hf 4 f4 rfl⟩
theorem agg5 {r : Reach} {b0 : Nat} {t : TypeId} {f0 f1 f2 f3 f4 : Field} {v : Value} {d : DataW H} {p : List MemPlace} (hs : P.underlying t = some (.struct #[f0, f1, f2, f3, f4])) (hone : oneCellFields P #[f0, f1, f2, f3, f4] = true) (hC : P.cellsOf t = 5)
    (hv : Value.okWide P w r b0 t v) (h : DataW.Trod enc P w base spare held t v d p) :
    ∃ (v0 v1 v2 v3 v4 : Value) (y0 y1 y2 y3 y4 : DataW H × List MemPlace) (n : Nat), v = .agg #[v0, v1, v2, v3, v4] ∧
      DataW.trod enc P w base spare held n f0.type [v0] = some y0 ∧ DataW.trod enc P w base spare held n f1.type [v1] = some y1 ∧ DataW.trod enc P w base spare held n f2.type [v2] = some y2 ∧ DataW.trod enc P w base spare held n f3.type [v3] = some y3 ∧ DataW.trod enc P w base spare held n f4.type [v4] = some y4 := by
  obtain ⟨cs, rfl, hsz⟩ := okWide_struct hs hv
  obtain ⟨c0, c1, c2, c3, c4, rfl⟩ := arr5 (hsz.trans hC)
  obtain ⟨fuel, hf⟩ := h
  obtain ⟨y0, y1, y2, y3, y4, n, h0, h1, h2, h3, h4⟩ := struct5 hs hf
  obtain ⟨o0, k0⟩ := hone_of hone 0 f0 rfl
  obtain ⟨o1, k1⟩ := hone_of hone 1 f1 rfl
  obtain ⟨o2, k2⟩ := hone_of hone 2 f2 rfl
  obtain ⟨o3, k3⟩ := hone_of hone 3 f3 rfl
  obtain ⟨o4, k4⟩ := hone_of hone 4 f4 rfl
  exact ⟨c0, c1, c2, c3, c4, y0, y1, y2, y3, y4, n, rfl, by simpa [Value.cells, o0, k0] using h0, by simpa [Value.cells, o1, k1] using h1, by simpa [Value.cells, o2, k2] using h2, by simpa [Value.cells, o3, k3] using h3, by simpa [Value.cells, o4, k4] using h4⟩
end
theorem cells_dfa : Try.prog.cellsOf 89 = 5 := by kernel_rfl
section
variable {H : Type} {enc : TypeId × Value → H} {W : World} {base : Nat} {spare : Nat → Bool} {held : Bool}
set_option maxRecDepth 100000 in
theorem open_dfaC {b0 : Nat} {r : Reach} {v : Value} {d : DataW H} {p : List MemPlace} (hv : Value.okWide Try.prog W r b0 89 v) (h : DataW.Trod enc Try.prog W base spare held 89 v d p) :
    ∃ A1 c1 wd st A2 c2 A3 c3 C N Ac, v = .agg #[.slice A1 (C : List Int).length c1, .int .i64 wd, .int .i64 st, .slice A2 (N : List Int).length c2, .slice A3 (Ac : List Bool).length c3] ∧ DfaC W A1 c1 A2 c2 A3 c3 C N Ac := by
  obtain ⟨v0, v1, v2, v3, v4, y0, y1, y2, y3, y4, k, rfl, h0, h1, h2, h3, h4⟩ := agg5 Try.underlying89 (by kernel_rfl) cells_dfa hv h
  have form : ∀ {t e : TypeId} {u : Value} {y : DataW H × List MemPlace}, Try.prog.underlying t = some (.slice e) → DataW.trod enc Try.prog W base spare held k t [u] = some y → ∃ A n c, u = .slice A n c := by
    intro t e u y ht hu
    rcases open_slice ht hu with ⟨hcs, _⟩ | ⟨a, len', cap', m, n, D, Pl, hcs, _⟩
    · simp at hcs; exact ⟨_, _, _, hcs⟩
    · simp at hcs; exact ⟨_, _, _, hcs⟩
  obtain ⟨A1, n1, c1, rfl⟩ := form Try.underlying57 h0
  obtain ⟨A2, n2, c2, rfl⟩ := form Try.underlying57 h3
  obtain ⟨A3, n3, c3, rfl⟩ := form Try.underlying58 h4
  obtain ⟨wd, e1, _⟩ := DataW.trod_int Try.underlying3 h1
  obtain ⟨st, e2, _⟩ := DataW.trod_int Try.underlying3 h2
  simp at e1 e2
  subst e1 e2
  obtain ⟨C, rfl, _, hc1, hm1, s1⟩ := open_rows (α := Int) (fun x : Int => [Value.int .i64 x]) (fun _ => True) cells_int (by omega) Try.underlying57 dec_int (d := y0.1) (p := y0.2) ⟨k, h0⟩
  obtain ⟨N, rfl, _, hc2, hm2, s2⟩ := open_rows (α := Int) (fun x : Int => [Value.int .i64 x]) (fun _ => True) cells_int (by omega) Try.underlying57 dec_int (d := y3.1) (p := y3.2) ⟨k, h3⟩
  obtain ⟨Ac, rfl, _, hc3, hm3, s3⟩ := open_rows (α := Bool) (fun x : Bool => [Value.bool x]) (fun _ => True) cells_bool (by omega) Try.underlying58 dec_bool (d := y4.1) (p := y4.2) ⟨k, h4⟩
  unfold maxLen at hm1 hm2 hm3
  exact ⟨A1, c1, wd, st, A2, c2, A3, c3, C, N, Ac, rfl, ⟨C_of_sl (0 : Int) (sl_of_at s1) (by omega), hc1⟩, ⟨C_of_sl (0 : Int) (sl_of_at s2) (by omega), hc2⟩, ⟨C_of_sl false (sl_of_at s3) (by omega), hc3⟩⟩
end
end Go.Proofs.Ytloljnpnoohglaa.Vec
