/- JournalPuts: the plain law, and the walk over what came in. -/
import Derived.Test.YtghghioidllgiaaJw
import Derived.Test.YtghghioidllgiaaJu
import Derived.Test.YtghghioidllgiaaPJx9
import Derived.Test.YtghghioidllgiaaRawB
namespace Go.Proofs.Ytghghioidllgiaa.JPure
set_option linter.unusedSimpArgs false
set_option linter.unusedVariables false
open Go.RowKit Go.Proofs.Ytghghioidllgiaa.PJ Go.Proofs.YtghghioidllgiaaW.PrintWords Go.Proofs.YtghghioidllgiaaW.PrintLast Go.Proofs.YtghghioidllgiaaW.PrintMore Go.Proofs.Ytghghioidllgiaa.Raw
set_option linter.unusedVariables false

theorem JournalPuts (x0 : List S88) (bs : List Int) (hB : B bs) (hw : ∀ r ∈ x0, Wide r) : ∃ k, tattinglaw44_JournalPuts.f k x0 bs = some true := by
  obtain ⟨l, hf, hl, hs⟩ := few_f x0 hw
  refine Ev.rounds (g := fun k => tattinglaw44_JournalPuts.f k x0 bs) ?_
  unfold tattinglaw44_JournalPuts.f
  have hS : ∀ r ∈ l, Small r := fun r hr => (hs r hr).1
  have hbl := frames_le l hS
  have hmn : mn (bs.length : Int) 300 = ((min bs.length 300 : Nat) : Int) := by unfold mn; split <;> omega
  refine Ev.bind (g := fun _ => tattinglaw44_awake.f) (Ev.now true) (Ev.pos rfl ?_)
  refine Ev.bind hf ?_
  rw [hmn, Int.toNat_natCast]
  refine Ev.pos (by omega) (Ev.pos (by omega) ?_)
  refine Ev.bind (Put_f l (by omega) hS) ?_
  refine Ev.bind (get_all l (by omega) hs) ?_
  refine Ev.bind (all_f l (by omega) hS) ?_
  refine Ev.pos rfl (Ev.pos rfl (Ev.pos rfl (Ev.pos rfl (Ev.pos rfl ?_))))
  refine Ev.bind (same_f l (by omega) (fun y hy => by have := (hS y hy).1; omega)) (Ev.pos rfl ?_)
  have hsb := sumv_bd (bs.take (min bs.length 300))
  refine Ev.bind (sum_f (bs.take (min bs.length 300)) (hB.take _) (by rw [List.length_take]; omega)) ?_
  refine Ev.bind (rsum_f (bs.take (min bs.length 300)) (hB.take _) (by rw [List.length_take]; omega)) ?_
  exact Ev.at_ (by simp)
theorem puts_walk (l : List RawC) (A : Option Addr) (c : Nat) (bs : List Int) (A1 : Option Addr) (c1 : Nat) (w : World) (h : SlAt w w.heap.size 2 l.length A (fun i j => (rcells (l.getD i default)).getD j undef)) (hg : ∀ x ∈ l, Raw.GoodR w x) (hc : l.length ≤ c) (hm : c ≤ maxLen)
    (h1 : SlAt w w.heap.size 1 bs.length A1 (fun i j => ([Value.int .u8 (bs.getD i default)]).getD j undef)) (hg1 : ∀ x ∈ bs, (Lit.int .u8 x).wf = true) (hc1 : bs.length ≤ c1) (hm1 : c1 ≤ maxLen) :
    Calls Try.prog 5 #[.slice A l.length c, .slice A1 bs.length c1] w fun e w' => e = .returned (.bool true) ∧ Below w.heap.size w w' := by
  have hB : B bs := fun x hx => by
    have := hg1 x hx
    simp [Lit.wf, IntKind.min, IntKind.max, IntKind.signed, IntKind.bits] at this
    omega
  obtain ⟨k, hk⟩ := JournalPuts (l.map fun x => (⟨x.nums, x.s⟩ : S88)) bs hB (wide_of hg)
  have hC := rows_of_at h (by unfold maxLen at hm; omega) hg
  have hC1 := bytes_of_at h1 (by unfold maxLen at hm1; omega)
  have := tattinglaw44_JournalPuts.calls k A c (l.map fun x => (⟨x.nums, x.s⟩ : S88)) A1 c1 bs true w (by rw [List.length_map]; exact hC) (by rw [List.length_map]; exact hc) hC1 hc1 rfl hk
  rw [List.length_map] at this
  exact this
end Go.Proofs.Ytghghioidllgiaa.JPure
