/- JournalTorn: the plain law, and the walk over what came in. -/
import Derived.Test.YtghghioidllgiaaJt
import Derived.Test.YtghghioidllgiaaPJx7
import Derived.Test.YtghghioidllgiaaRaw
namespace Go.Proofs.Ytghghioidllgiaa.JPure
set_option linter.unusedSimpArgs false
set_option linter.unusedVariables false
open Go.RowKit Go.Proofs.Ytghghioidllgiaa.PJ Go.Proofs.YtghghioidllgiaaW.PrintWords Go.Proofs.YtghghioidllgiaaW.PrintLast Go.Proofs.YtghghioidllgiaaW.PrintMore Go.Proofs.Ytghghioidllgiaa.Raw
set_option linter.unusedVariables false

theorem few_l0 (x0 : List S88) (hw : ∀ r ∈ x0, Wide r) : ∀ (d i : Nat) (acc : List S88), 10 - i = d → i ≤ 10 → acc.length = i → (∀ r ∈ acc, Small r ∧ Wide r) →
    ∃ l, Ev (fun k => tattinglaw44_few.l0 k x0 acc (i : Int)) l ∧ l.length ≤ 10 ∧ ∀ r ∈ l, Small r ∧ Wide r := by
  intro d
  induction d with
  | zero =>
    intro i acc hd hi ha hs
    refine ⟨acc, ?_, by omega, hs⟩
    refine Ev.succ ?_
    simp only [tattinglaw44_few.l0]
    by_cases c : (i : Int) < (x0.length : Int)
    · exact Ev.pos c (Ev.neg (by omega) (Ev.now _))
    · exact Ev.neg c (Ev.now _)
  | succ d ih =>
    intro i acc hd hi ha hs
    by_cases c : i < x0.length
    · have hm1 : ∀ n : Nat, mn (n : Int) 8 = ((min n 8 : Nat) : Int) := fun n => by unfold mn; split <;> omega
      have hm2 : ∀ n : Nat, mn (n : Int) 40 = ((min n 40 : Nat) : Int) := fun n => by unfold mn; split <;> omega
      obtain ⟨l, h1, h2, h3⟩ := ih (i + 1) (acc ++ [⟨x0[i].f0.take (min x0[i].f0.length 8), x0[i].f1.extract 0 (min x0[i].f1.size 40)⟩]) (by omega) (by omega) (by simp [ha]) (fun r hr => by
        rcases List.mem_append.1 hr with hr | hr
        · exact hs r hr
        · rw [List.mem_singleton.1 hr]
          refine ⟨⟨?_, ?_⟩, fun z hz => hw x0[i] (List.getElem_mem c) z (List.mem_of_mem_take hz)⟩
          · show (x0[i].f0.take _).length ≤ 8
            rw [List.length_take]; omega
          · show (x0[i].f1.extract 0 _).size ≤ 40
            rw [ByteArray.size_extract]; omega)
      refine ⟨l, ?_, h2, h3⟩
      refine Ev.succ ?_
      simp only [tattinglaw44_few.l0]
      rw [rd_T x0 i c, hm1, hm2, Int.toNat_natCast, Int.toNat_natCast, w64 _ (by omega) (by omega)]
      exact Ev.pos (by omega) (Ev.pos (by omega) (Ev.pos (by omega) (Ev.pos (by omega) (Ev.pos (by omega) (Ev.pos (by omega) (Ev.pos (by omega) (Ev.pos (by omega) h1)))))))
    · refine ⟨acc, ?_, by omega, hs⟩
      refine Ev.succ ?_
      simp only [tattinglaw44_few.l0]
      exact Ev.neg (by omega) (Ev.now _)
theorem few_f (x0 : List S88) (hw : ∀ r ∈ x0, Wide r) : ∃ l, Ev (fun k => tattinglaw44_few.f k x0) l ∧ l.length ≤ 10 ∧ ∀ r ∈ l, Small r ∧ Wide r :=
  few_l0 x0 hw 10 0 [] (by omega) (by omega) rfl (by simp)
theorem frames_le (l : List S88) (hs : ∀ r ∈ l, Small r) : (l.flatMap frame).length ≤ l.length * 122 := by
  induction l with
  | nil => simp
  | cons r l ih =>
    have h := ih (fun q hq => hs q (by simp [hq]))
    have h1 := hs r (by simp)
    have h2 := h1.1
    have h3 := h1.2
    have := frame_length r
    have := body_length r
    rw [List.flatMap_cons, List.length_append, List.length_cons]
    omega

theorem JournalTorn (x0 : List S88) (a1 : Int) (hw : ∀ r ∈ x0, Wide r) : ∃ k, tattinglaw44_JournalTorn.f k x0 a1 = some true := by
  obtain ⟨l, hf, hl, hs⟩ := few_f x0 hw
  refine Ev.rounds (g := fun k => tattinglaw44_JournalTorn.f k x0 a1) ?_
  unfold tattinglaw44_JournalTorn.f
  have hS : ∀ r ∈ l, Small r := fun r hr => (hs r hr).1
  refine Ev.bind (g := fun _ => tattinglaw44_awake.f) (Ev.now true) (Ev.pos rfl ?_)
  refine Ev.bind hf ?_
  refine Ev.bind (Put_f l (by omega) hS) (Ev.pos rfl ?_)
  have hbl := frames_le l hS
  have hB := frames_B l
  have hP := fun j => Put_f (l.take j) (by rw [List.length_take]; omega) (fun r hr => hS r (List.mem_of_mem_take hr))
  have hyes : Ev (fun k => tattinglaw44_JournalTorn.j0 k l a1 (l.flatMap frame) 0 true) true := by
    refine Ev.succ ?_
    simp only [tattinglaw44_JournalTorn.j0]
    exact Ev.pos trivial (Ev.at_ rfl)
  by_cases c1 : a1 < 0
  · exact Ev.pos c1 hyes
  refine Ev.neg c1 ?_
  obtain ⟨k, rfl⟩ := Int.eq_ofNat_of_zero_le (show 0 ≤ a1 by omega)
  by_cases c2 : (k : Int) > ((l.flatMap frame).length : Int)
  · rw [decide_eq_true c2]
    exact hyes
  rw [decide_eq_false c2]
  have hkl : k ≤ (l.flatMap frame).length := by omega
  obtain ⟨j, j1, j2, j3, j4⟩ := get_torn ((l.flatMap frame).take k) (hB.take k) (by rw [List.length_take]; omega) l 0 k [] hs (by omega) (by simp) (by simp) hkl
  refine Ev.succ ?_
  simp only [tattinglaw44_JournalTorn.j0]
  refine Ev.neg (by decide) (Ev.pos (by omega) (Ev.pos (by omega) ?_))
  rw [Int.toNat_natCast]
  rw [List.nil_append, Nat.zero_add] at j4
  refine Ev.bind (g := fun q => journal_Get.f q _) j4 ?_
  have hjl : (l.take j).length = j := by rw [List.length_take]; omega
  simp only [hjl]
  refine Ev.neg (by omega) (Ev.pos (by omega) (Ev.pos (by omega) ?_))
  rw [Int.toNat_natCast]
  refine Ev.bind (same_f (l.take j) (by omega) (fun y hy => by have := (hS y (List.mem_of_mem_take hy)).1; omega)) (Ev.pos rfl ?_)
  rw [decide_eq_false (by omega)]
  refine Ev.succ ?_
  simp only [tattinglaw44_JournalTorn.j1]
  refine Ev.neg (by decide) ?_
  refine Ev.bind (hP j) (Ev.pos rfl ?_)
  have hlast : Ev (fun _ : Nat => if (((if size l j = k then (0 : Int) else 10) == 0) == (((size l j : Nat) : Int) == (k : Int))) = true then (if (if size l j = k then (0 : Int) else 10) = 0 then some true else some ((if size l j = k then (0 : Int) else 10) == 10)) else some false) true := by
    by_cases c : size l j = k
    · rw [if_pos c, c]
      refine Ev.pos (by simp) (Ev.pos rfl (Ev.now _))
    · have : ((size l j : Nat) : Int) ≠ (k : Int) := by omega
      rw [if_neg c]
      refine Ev.pos (by simp [this]) (Ev.neg (by decide) (Ev.at_ rfl))
  rw [hjl]
  by_cases c3 : (j : Int) < (l.length : Int)
  · refine Ev.pos c3 ?_
    rw [w64 _ (by omega) (by omega), show ((j : Int) + 1).toNat = j + 1 by omega]
    refine Ev.pos (by omega) (Ev.pos (by omega) ?_)
    refine Ev.bind (hP (j + 1)) (Ev.neg ?_ hlast)
    have := j3 (by omega)
    show ¬ ((size l (j + 1) : Nat) : Int) ≤ (k : Int)
    omega
  · exact Ev.neg c3 hlast

theorem wide_of {W : World} {l : List RawC} (hg : ∀ x ∈ l, Raw.GoodR W x) : ∀ r ∈ (l.map fun x => (⟨x.nums, x.s⟩ : S88)), Wide r := by
  intro r hr z hz
  obtain ⟨x, hx, rfl⟩ := List.mem_map.1 hr
  have := (hg x hx).2.2.2 z hz
  simp [Lit.wf, IntKind.min, IntKind.max, IntKind.signed, IntKind.bits] at this
  omega
theorem torn_walk (l : List RawC) (A : Option Addr) (c : Nat) (x : Int) (w : World) (h : SlAt w w.heap.size 2 l.length A (fun i j => (rcells (l.getD i default)).getD j undef)) (hg : ∀ x ∈ l, Raw.GoodR w x) (hc : l.length ≤ c) (hm : c ≤ maxLen) :
    Calls Try.prog 7 #[.slice A l.length c, .int .i64 x] w fun e w' => e = .returned (.bool true) ∧ Below w.heap.size w w' := by
  obtain ⟨k, hk⟩ := JournalTorn (l.map fun x => (⟨x.nums, x.s⟩ : S88)) x (wide_of hg)
  have hC := rows_of_at h (by unfold maxLen at hm; omega) hg
  have := tattinglaw44_JournalTorn.calls k A c (l.map fun x => (⟨x.nums, x.s⟩ : S88)) x true w (by rw [List.length_map]; exact hC) (by rw [List.length_map]; exact hc) hk
  rw [List.length_map] at this
  exact this
end Go.Proofs.Ytghghioidllgiaa.JPure
