/- PackBack: how its inputs come in. -/
import Derived.Test.YtghghioidllgiaaKb
import Derived.Test.YtghghioidllgiaaOpen
namespace Go.Proofs.Ytghghioidllgiaa.Raw
set_option linter.unusedSimpArgs false
set_option linter.unusedVariables false
open Go Go.RowKit Go.ChangeShapes Go.Joins Go.Deep Go.Proofs.YtghghioidllgiaaW.PrintWords

theorem cells_u8 : Try.prog.cellsOf 5 = 1 := by kernel_rfl
theorem dec_u8 {H : Type} {enc : TypeId × Value → H} {W : World} {base : Nat} {spare : Nat → Bool} {held : Bool} (n : Nat) (cs : List Value) (y : DataW H × List MemPlace)
    (h : DataW.trod enc Try.prog W base spare held n 5 cs = some y) : ∃ x : Int, cs = [.int .u8 x] ∧ (Lit.int .u8 x).wf = true := by
  obtain ⟨s, h1, _, hw⟩ := DataW.trod_int Try.underlying5 h
  exact ⟨s, h1, hw⟩
theorem bytes_of_at {w : World} {A : Option Addr} {l : List Int} (h : SlAt w w.heap.size 1 l.length A (fun i j => ([Value.int .u8 (l.getD i default)]).getD j undef)) (hl : l.length ≤ 9223372036854775807) : (Kd.int .u8).C w A l.length l := by
  refine Kd.C_of_reads (d := (0 : Int)) (h1 := fun _ => rfl) ⟨rfl, hl, fun hn => ?_⟩
  obtain ⟨b, off, e, hb, hc⟩ := h hn
  refine ⟨⟨b, off, none⟩, e, fun j hj => ?_⟩
  have := hc j 0 hj (by omega)
  rw [Addr.add_lit, show off + j = off + (j * 1 + 0) by omega, this]
  rfl
end Go.Proofs.Ytghghioidllgiaa.Raw
namespace Go.Proofs.Ytghghioidllgiaa.KBack
open Go Go.RowKit Go.Joins Go.Deep
theorem back_walk (T : List Int) (H : List Bool) (A B : Option Addr) (c d : Nat) (bs : List Int) (A1 : Option Addr) (c1 : Nat) (w : World) (hf : Vec.FunC w A c B d T H)
    (h1 : SlAt w w.heap.size 1 bs.length A1 (fun i j => ([Value.int .u8 (bs.getD i default)]).getD j undef)) (hg1 : ∀ x ∈ bs, (Lit.int .u8 x).wf = true) (hc1 : bs.length ≤ c1) (hm1 : c1 ≤ maxLen) :
    Calls Try.prog 4 #[.agg #[.slice A T.length c, .slice B H.length d], .slice A1 bs.length c1] w fun e w' => e = .returned (.bool true) ∧ Below w.heap.size w w' := by
  have hB : ∀ x ∈ bs, 0 ≤ x ∧ x < 256 := fun x hx => by
    have := hg1 x hx
    simp [Lit.wf, IntKind.min, IntKind.max, IntKind.signed, IntKind.bits] at this
    omega
  exact back_calls T H A B c d bs A1 c1 w hf (Raw.bytes_of_at h1 (by unfold maxLen at hm1; omega)) hc1 hB
end Go.Proofs.Ytghghioidllgiaa.KBack
