/- JournalSpoilt: of rows that came in. -/
import Derived.Test.YtghghioidllgiaaJz
import Derived.WideKeyPair
namespace Go.Proofs.Ytghghioidllgiaa.Buf
set_option linter.unusedSimpArgs false
set_option linter.unusedVariables false
theorem pair_key : Go.WideMaps.ArrKey Try.prog 54 3 2 := ⟨Try.underlying54, by kernel_rfl, by kernel_rfl, by kernel_rfl⟩
end Go.Proofs.Ytghghioidllgiaa.Buf
namespace Go.Proofs.Ytghghioidllgiaa.JPure
open Go.RowKit Go.Proofs.Ytghghioidllgiaa.PJ Go.Proofs.YtghghioidllgiaaW.PrintWords Go.Proofs.YtghghioidllgiaaW.PrintLast Go.Proofs.YtghghioidllgiaaW.PrintMore Go.Proofs.Ytghghioidllgiaa.Raw
set_option linter.unusedVariables false

theorem spoilt_walk (l : List RawC) (A : Option Addr) (c : Nat) (a b y : Int) (w : World) (h : SlAt w w.heap.size 2 l.length A (fun i j => (rcells (l.getD i default)).getD j undef)) (hg : ∀ x ∈ l, Raw.GoodR w x) (hc : l.length ≤ c) (hm : c ≤ maxLen)
    (ha : (Lit.int .i64 a).wf = true) (hb : (Lit.int .i64 b).wf = true) (hy : (Lit.int .u8 y).wf = true) :
    Calls Try.prog 8 #[.slice A l.length c, .agg #[.int .i64 a, .int .i64 b], .int .u8 y] w fun e w' => e = .returned (.bool true) ∧ Below w.heap.size w w' := by
  obtain ⟨m, hE, hm10, hS⟩ := few_f (l.map fun x => (⟨x.nums, x.s⟩ : S88)) (wide_of hg)
  obtain ⟨k1, e1⟩ := Ev.rounds hE
  have hC := rows_of_at h (by unfold maxLen at hm; omega) hg
  simp [Lit.wf, IntKind.min, IntKind.max, IntKind.signed, IntKind.bits] at ha hb hy
  have := spoilt_calls (l.map fun x => (⟨x.nums, x.s⟩ : S88)) m A c a b y w (by omega) (by omega) (by omega) (by omega) (by omega) (by omega) (by rw [List.length_map]; exact hC) (by rw [List.length_map]; exact hc) k1 e1 hm10 hS
  rw [List.length_map] at this
  exact this
end Go.Proofs.Ytghghioidllgiaa.JPure
