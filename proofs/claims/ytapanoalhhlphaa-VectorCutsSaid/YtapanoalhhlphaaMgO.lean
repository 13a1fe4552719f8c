/- Opening a function of states. -/
import Derived.Test.YtapanoalhhlphaaOpen
import Derived.Test.YtapanoalhhlphaaVecR
import Derived.OpenShut
import Derived.Lib.SmallJoins
import Derived.Test.YtapanoalhhlphaaKd
import Derived.Test.YtapanoalhhlphaaVecY
import Derived.Test.YtapanoalhhlphaaProg
import Derived.ShutString
import Derived.WideKeyPair
namespace Go.Proofs.Ytapanoalhhlphaa.Vec
set_option linter.unusedSimpArgs false
set_option linter.unusedVariables false
open Go Go.RowKit Go.ChangeShapes Go.Joins Go.Deep

theorem cells_fun : Try.prog.cellsOf 29 = 2 := by kernel_rfl
theorem cells_int : Try.prog.cellsOf 3 = 1 := by kernel_rfl
theorem cells_bool : Try.prog.cellsOf 4 = 1 := by kernel_rfl
theorem dec_int {H : Type} {enc : TypeId × Value → H} {W : World} {base : Nat} {spare : Nat → Bool} {held : Bool} (n : Nat) (cs : List Value) (y : DataW H × List MemPlace)
    (h : DataW.trod enc Try.prog W base spare held n 3 cs = some y) : ∃ x : Int, cs = [.int .i64 x] ∧ True := by
  obtain ⟨s, h1, _⟩ := DataW.trod_int Try.underlying3 h
  exact ⟨s, h1, trivial⟩
theorem dec_bool {H : Type} {enc : TypeId × Value → H} {W : World} {base : Nat} {spare : Nat → Bool} {held : Bool} (n : Nat) (cs : List Value) (y : DataW H × List MemPlace)
    (h : DataW.trod enc Try.prog W base spare held n 4 cs = some y) : ∃ x : Bool, cs = [.bool x] ∧ True := by
  obtain ⟨s, h1, _⟩ := DataW.trod_bool Try.underlying4 h
  exact ⟨s, h1, trivial⟩
theorem sl_of_at {w : World} {B n : Nat} {A : Option Addr} {f : Nat → Nat → Value} (h : SlAt w B 1 n A f) : SlI w B n A (fun i => f i 0) := fun hn => by
  obtain ⟨b, off, e, hb, hc⟩ := h hn
  exact ⟨b, off, e, hb, fun i hi => by have := hc i 0 hi (by omega); simpa using this⟩
instance : Inhabited Int := ⟨0⟩

section
variable {H : Type} {enc : TypeId × Value → H} {W : World} {base : Nat} {spare : Nat → Bool} {held : Bool}
set_option maxRecDepth 100000 in
theorem open_fun {b0 : Nat} {r : Reach} {v : Value} {d : DataW H} {p : List MemPlace} (hv : Value.okWide Try.prog W r b0 29 v) (h : DataW.Trod enc Try.prog W base spare held 29 v d p) :
    ∃ A n c B m e T Hs, v = .agg #[.slice A n c, .slice B m e] ∧ FunAt W A n B m T Hs := by
  obtain ⟨v0, v1, y0, y1, k, rfl, _, _, h0, h1⟩ := open_agg2 Try.underlying29 (by kernel_rfl) cells_fun hv h
  have form : ∀ {t e : TypeId} {u : Value} {y : DataW H × List MemPlace}, Try.prog.underlying t = some (.slice e) → DataW.trod enc Try.prog W base spare held k t [u] = some y → ∃ A n c, u = .slice A n c := by
    intro t e u y ht hu
    rcases open_slice ht hu with ⟨hcs, _⟩ | ⟨a, len', cap', m, n, D, Pl, hcs, _⟩
    · simp at hcs; exact ⟨_, _, _, hcs⟩
    · simp at hcs; exact ⟨_, _, _, hcs⟩
  obtain ⟨A, n, c, rfl⟩ := form Try.underlying22 h0
  obtain ⟨B, m, e, rfl⟩ := form Try.underlying23 h1
  obtain ⟨T, hT, _, _, _, sT⟩ := open_rows (α := Int) (fun x : Int => [Value.int .i64 x]) (fun _ => True) cells_int (by omega) Try.underlying22 dec_int (d := y0.1) (p := y0.2) ⟨k, h0⟩
  obtain ⟨Hs, hH, _, _, _, sH⟩ := open_rows (α := Bool) (fun x : Bool => [Value.bool x]) (fun _ => True) cells_bool (by omega) Try.underlying23 dec_bool (d := y1.1) (p := y1.2) ⟨k, h1⟩
  exact ⟨A, n, c, B, m, e, T, Hs, rfl, hT, hH, sl_of_at sT, sl_of_at sH⟩
end
end Go.Proofs.Ytapanoalhhlphaa.Vec


/- Opening a function of states, in the print's words. -/
namespace Go.Proofs.Ytapanoalhhlphaa.Vec
set_option linter.unusedSimpArgs false
set_option linter.unusedVariables false
open Go Go.RowKit Go.ChangeShapes Go.Joins Go.Deep Go.Proofs.YtapanoalhhlphaaW.PrintWords

theorem C_of_sl {α : Type} {enc : α → Value} {h1 : ∀ x, (enc x).oneCell' = true} {w : World} {A : Option Addr} {xs : List α} (d : α) (h : SlI w w.heap.size xs.length A (fun i => enc (xs.getD i d))) (hl : xs.length ≤ 9223372036854775807) : (Kd.scalar enc h1).C w A xs.length xs := by
  refine Kd.C_of_reads (d := d) (h1 := h1) ⟨rfl, hl, fun hn => ?_⟩
  obtain ⟨b, off, e, hb, hc⟩ := h hn
  refine ⟨⟨b, off, none⟩, e, fun j hj => ?_⟩
  rw [Addr.add_lit]
  exact hc j hj
/-- a function that came in: both rows read, within their room. -/
def FunC (w : World) (A : Option Addr) (c : Nat) (B : Option Addr) (e : Nat) (T : List Int) (H : List Bool) : Prop :=
  (Kd.int .i64).C w A T.length T ∧ T.length ≤ c ∧ Kd.bool.C w B H.length H ∧ H.length ≤ e
section
variable {H : Type} {enc : TypeId × Value → H} {W : World} {base : Nat} {spare : Nat → Bool} {held : Bool}
set_option maxRecDepth 100000 in
theorem open_funC {b0 : Nat} {r : Reach} {v : Value} {d : DataW H} {p : List MemPlace} (hv : Value.okWide Try.prog W r b0 29 v) (h : DataW.Trod enc Try.prog W base spare held 29 v d p) :
    ∃ A c B e T Hs, v = .agg #[.slice A T.length c, .slice B Hs.length e] ∧ FunC W A c B e T Hs := by
  obtain ⟨v0, v1, y0, y1, k, rfl, _, _, h0, h1⟩ := open_agg2 Try.underlying29 (by kernel_rfl) cells_fun hv h
  have form : ∀ {t e : TypeId} {u : Value} {y : DataW H × List MemPlace}, Try.prog.underlying t = some (.slice e) → DataW.trod enc Try.prog W base spare held k t [u] = some y → ∃ A n c, u = .slice A n c := by
    intro t e u y ht hu
    rcases open_slice ht hu with ⟨hcs, _⟩ | ⟨a, len', cap', m, n, D, Pl, hcs, _⟩
    · simp at hcs; exact ⟨_, _, _, hcs⟩
    · simp at hcs; exact ⟨_, _, _, hcs⟩
  obtain ⟨A, n, c, rfl⟩ := form Try.underlying22 h0
  obtain ⟨B, m, e, rfl⟩ := form Try.underlying23 h1
  obtain ⟨T, rfl, _, hc1, hm1, sT⟩ := open_rows (α := Int) (fun x : Int => [Value.int .i64 x]) (fun _ => True) cells_int (by omega) Try.underlying22 dec_int (d := y0.1) (p := y0.2) ⟨k, h0⟩
  obtain ⟨Hs, rfl, _, hc2, hm2, sH⟩ := open_rows (α := Bool) (fun x : Bool => [Value.bool x]) (fun _ => True) cells_bool (by omega) Try.underlying23 dec_bool (d := y1.1) (p := y1.2) ⟨k, h1⟩
  unfold maxLen at hm1 hm2
  have k1 : T.length ≤ 9223372036854775807 := by omega
  have k2 : Hs.length ≤ 9223372036854775807 := by omega
  exact ⟨A, c, B, e, T, Hs, rfl, C_of_sl (0 : Int) (sl_of_at sT) k1, hc1, C_of_sl false (sl_of_at sH) k2, hc2⟩
end
end Go.Proofs.Ytapanoalhhlphaa.Vec


/- Opening an automaton: a struct of five one-cell fields. -/
namespace Go.Proofs.Ytapanoalhhlphaa.Vec
set_option linter.unusedSimpArgs false
set_option linter.unusedVariables false
open Go Go.RowKit Go.ChangeShapes Go.WideShapes Go.Joins Go.Deep Go.Proofs.YtapanoalhhlphaaW.PrintWords Go.Proofs.Ytapanoalhhlphaa.VPure

theorem arr5 {α : Type} {cs : Array α} (h : cs.size = 5) : ∃ c0 c1 c2 c3 c4, cs = #[c0, c1, c2, c3, c4] := by
  obtain ⟨l⟩ := cs
  match l, h with
  | [c0, c1, c2, c3, c4], _ => exact ⟨c0, c1, c2, c3, c4, rfl⟩
section
variable {H : Type} {enc : TypeId × Value → H} {P : Program} {w : World} {base : Nat} {spare : Nat → Bool} {held : Bool}
theorem struct5 {t : TypeId} {f0 f1 f2 f3 f4 : Field} {fuel : Nat} {cs : List Value} {x : DataW H × List MemPlace} (ht : P.underlying t = some (.struct #[f0, f1, f2, f3, f4])) (h : DataW.trod enc P w base spare held fuel t cs = some x) :
    ∃ y0 y1 y2 y3 y4 n, DataW.trod enc P w base spare held n f0.type ((cs.drop f0.offset).take (P.cellsOf f0.type)) = some y0 ∧
      DataW.trod enc P w base spare held n f1.type ((cs.drop f1.offset).take (P.cellsOf f1.type)) = some y1 ∧ DataW.trod enc P w base spare held n f2.type ((cs.drop f2.offset).take (P.cellsOf f2.type)) = some y2 ∧
      DataW.trod enc P w base spare held n f3.type ((cs.drop f3.offset).take (P.cellsOf f3.type)) = some y3 ∧ DataW.trod enc P w base spare held n f4.type ((cs.drop f4.offset).take (P.cellsOf f4.type)) = some y4 := by
  obtain ⟨xs, n, _, rfl, hl, hlen, hf⟩ := DataW.trod_struct ht h
  match xs, hlen with
  | [y0, y1, y2, y3, y4], _ => exact ⟨y0, y1, y2, y3, y4, n, by simpa using hf 0 f0 rfl, by simpa using hf 1 f1 rfl, by simpa using hf 2 f2 rfl, by simpa using hf 3 f3 rfl, by simpa using hf 4 f4 rfl⟩
theorem agg5 {r : Reach} {b0 : Nat} {t : TypeId} {f0 f1 f2 f3 f4 : Field} {v : Value} {d : DataW H} {p : List MemPlace} (hs : P.underlying t = some (.struct #[f0, f1, f2, f3, f4])) (hone : oneCellFields P #[f0, f1, f2, f3, f4] = true) (hC : P.cellsOf t = 5)
    (hv : Value.okWide P w r b0 t v) (h : DataW.Trod enc P w base spare held t v d p) :
    ∃ (v0 v1 v2 v3 v4 : Value) (y0 y1 y2 y3 y4 : DataW H × List MemPlace) (n : Nat), v = .agg #[v0, v1, v2, v3, v4] ∧
      DataW.trod enc P w base spare held n f0.type [v0] = some y0 ∧ DataW.trod enc P w base spare held n f1.type [v1] = some y1 ∧ DataW.trod enc P w base spare held n f2.type [v2] = some y2 ∧ DataW.trod enc P w base spare held n f3.type [v3] = some y3 ∧ DataW.trod enc P w base spare held n f4.type [v4] = some y4 := by
  obtain ⟨cs, rfl, hsz⟩ := okWide_struct hs hv
  obtain ⟨c0, c1, c2, c3, c4, rfl⟩ := arr5 (hsz.trans hC)
  obtain ⟨fuel, hf⟩ := h
  obtain ⟨y0, y1, y2, y3, y4, n, h0, h1, h2, h3, h4⟩ := struct5 hs hf
  obtain ⟨o0, k0⟩ := hone_of hone 0 f0 rfl
  obtain ⟨o1, k1⟩ := hone_of hone 1 f1 rfl
  obtain ⟨o2, k2⟩ := hone_of hone 2 f2 rfl
  obtain ⟨o3, k3⟩ := hone_of hone 3 f3 rfl
  obtain ⟨o4, k4⟩ := hone_of hone 4 f4 rfl
  exact ⟨c0, c1, c2, c3, c4, y0, y1, y2, y3, y4, n, rfl, by simpa [Value.cells, o0, k0] using h0, by simpa [Value.cells, o1, k1] using h1, by simpa [Value.cells, o2, k2] using h2, by simpa [Value.cells, o3, k3] using h3, by simpa [Value.cells, o4, k4] using h4⟩
end
theorem cells_dfa : Try.prog.cellsOf 25 = 5 := by kernel_rfl
section
variable {H : Type} {enc : TypeId × Value → H} {W : World} {base : Nat} {spare : Nat → Bool} {held : Bool}
set_option maxRecDepth 100000 in
theorem open_dfaC {b0 : Nat} {r : Reach} {v : Value} {d : DataW H} {p : List MemPlace} (hv : Value.okWide Try.prog W r b0 25 v) (h : DataW.Trod enc Try.prog W base spare held 25 v d p) :
    ∃ A1 c1 wd st A2 c2 A3 c3 C N Ac, v = .agg #[.slice A1 (C : List Int).length c1, .int .i64 wd, .int .i64 st, .slice A2 (N : List Int).length c2, .slice A3 (Ac : List Bool).length c3] ∧ DfaC W A1 c1 A2 c2 A3 c3 C N Ac := by
  obtain ⟨v0, v1, v2, v3, v4, y0, y1, y2, y3, y4, k, rfl, h0, h1, h2, h3, h4⟩ := agg5 Try.underlying25 (by kernel_rfl) cells_dfa hv h
  have form : ∀ {t e : TypeId} {u : Value} {y : DataW H × List MemPlace}, Try.prog.underlying t = some (.slice e) → DataW.trod enc Try.prog W base spare held k t [u] = some y → ∃ A n c, u = .slice A n c := by
    intro t e u y ht hu
    rcases open_slice ht hu with ⟨hcs, _⟩ | ⟨a, len', cap', m, n, D, Pl, hcs, _⟩
    · simp at hcs; exact ⟨_, _, _, hcs⟩
    · simp at hcs; exact ⟨_, _, _, hcs⟩
  obtain ⟨A1, n1, c1, rfl⟩ := form Try.underlying22 h0
  obtain ⟨A2, n2, c2, rfl⟩ := form Try.underlying22 h3
  obtain ⟨A3, n3, c3, rfl⟩ := form Try.underlying23 h4
  obtain ⟨wd, e1, _⟩ := DataW.trod_int Try.underlying3 h1
  obtain ⟨st, e2, _⟩ := DataW.trod_int Try.underlying3 h2
  simp at e1 e2
  subst e1 e2
  obtain ⟨C, rfl, _, hc1, hm1, s1⟩ := open_rows (α := Int) (fun x : Int => [Value.int .i64 x]) (fun _ => True) cells_int (by omega) Try.underlying22 dec_int (d := y0.1) (p := y0.2) ⟨k, h0⟩
  obtain ⟨N, rfl, _, hc2, hm2, s2⟩ := open_rows (α := Int) (fun x : Int => [Value.int .i64 x]) (fun _ => True) cells_int (by omega) Try.underlying22 dec_int (d := y3.1) (p := y3.2) ⟨k, h3⟩
  obtain ⟨Ac, rfl, _, hc3, hm3, s3⟩ := open_rows (α := Bool) (fun x : Bool => [Value.bool x]) (fun _ => True) cells_bool (by omega) Try.underlying23 dec_bool (d := y4.1) (p := y4.2) ⟨k, h4⟩
  unfold maxLen at hm1 hm2 hm3
  exact ⟨A1, c1, wd, st, A2, c2, A3, c3, C, N, Ac, rfl, ⟨C_of_sl (0 : Int) (sl_of_at s1) (by omega), hc1⟩, ⟨C_of_sl (0 : Int) (sl_of_at s2) (by omega), hc2⟩, ⟨C_of_sl false (sl_of_at s3) (by omega), hc3⟩⟩
end
end Go.Proofs.Ytapanoalhhlphaa.Vec


/- Opening an array of three texts. -/
namespace Go.Proofs.Ytapanoalhhlphaa.Buf
set_option linter.unusedSimpArgs false
set_option linter.unusedVariables false
open Go Go.RowKit Go.ChangeShapes Go.WideShapes Go.WideMaps

section
variable {H : Type} {enc : TypeId × Value → H} {P : Program} {k e : TypeId} {W : World} {base : Nat} {sp : Nat → Bool} {held : Bool}
theorem okWide_three (A : ArrKey P k e 3) {r : Reach} {b0 : Nat} {v : Value} (h : Value.okWide P W r b0 k v) : ∃ c0 c1 c2, v = .agg #[c0, c1, c2] := by
  simp only [Value.okWide, A.hu] at h
  obtain ⟨cs, h1, h2, _⟩ := h
  rw [A.size] at h2
  obtain ⟨l⟩ := cs
  match l, h2 with
  | [c0, c1, c2], _ => exact ⟨c0, c1, c2, h1⟩
theorem open_three' (A : ArrKey P k e 3) (he : P.underlying e = some .string) {r : Reach} {b0 : Nat} {v : Value} {d : DataW H} {ps : List MemPlace} (hval : Value.okWide P W r b0 k v) (hd : DataW.Trod enc P W base sp held k v d ps) :
    ∃ a b c : ByteArray, v = .agg #[.string a, .string b, .string c] := by
  obtain ⟨c0, c1, c2, rfl⟩ := okWide_three A hval
  obtain ⟨fuel, hf⟩ := hd
  cases fuel with
  | zero => simp [DataW.trod] at hf
  | succ n =>
    rw [DataW.trod_step] at hf
    unfold DataW.trodStep at hf
    simp only [A.hu, Value.cells] at hf
    rw [if_pos (by rw [A.size]; rfl)] at hf
    simp only [Option.map_eq_some_iff] at hf
    obtain ⟨xs, hx, e1⟩ := hf
    rw [show List.range 3 = [0, 1, 2] from rfl, List.mapM_cons, List.mapM_cons, List.mapM_cons, List.mapM_nil] at hx
    simp only [bind, Option.bind_eq_some_iff, pure, Option.some.injEq, A.one] at hx
    obtain ⟨y0, h0, _, ⟨y1, h1, _, ⟨y2, h2, _, rfl, rfl⟩, rfl⟩, rfl⟩ := hx
    obtain ⟨a, ea, _⟩ := DataW.trod_string he h0
    obtain ⟨b, eb, _⟩ := DataW.trod_string he h1
    obtain ⟨c, ec, _⟩ := DataW.trod_string he h2
    simp at ea eb ec
    subst ea; subst eb; subst ec
    exact ⟨a, b, c, rfl⟩
end
theorem key3 : ArrKey Try.prog 34 9 3 := ⟨Try.underlying34, by kernel_rfl, by kernel_rfl, by kernel_rfl⟩
set_option maxRecDepth 100000 in
theorem open_three {H : Type} {enc : TypeId × Value → H} {W : World} {base : Nat} {sp : Nat → Bool} {held : Bool} {r : Reach} {b0 : Nat} {v : Value} {d : DataW H} {ps : List MemPlace} (hval : Value.okWide Try.prog W r b0 34 v) (hd : DataW.Trod enc Try.prog W base sp held 34 v d ps) :
    ∃ a b c : ByteArray, v = .agg #[.string a, .string b, .string c] := open_three' key3 Try.underlying9 hval hd
end Go.Proofs.Ytapanoalhhlphaa.Buf
