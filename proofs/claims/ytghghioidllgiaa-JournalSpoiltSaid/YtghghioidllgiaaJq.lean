/- Journals: a record, and all of them: the program and the page read the same. -/
import Derived.Test.YtghghioidllgiaaJp
namespace Go.Proofs.Ytghghioidllgiaa.JPure
set_option linter.unusedSimpArgs false
set_option linter.unusedVariables false
open Go.RowKit Go.Proofs.Ytghghioidllgiaa.PJ Go.Proofs.YtghghioidllgiaaW.PrintWords Go.Proofs.YtghghioidllgiaaW.PrintLast Go.Proofs.YtghghioidllgiaaW.PrintMore
set_option linter.unusedVariables false

def e0 : ByteArray := ⟨#[]⟩
/-- number i of a body; the first c of them. -/
def el (x : List Int) (i : Nat) : Int := wrap64 (numv ((x.take (10 + 8 * i)).drop (2 + 8 * i)))
def els (x : List Int) (c : Nat) : List Int := (List.range c).map (el x)
theorem els_succ (x : List Int) (c : Nat) : els x (c + 1) = els x c ++ [el x c] := by simp [els, List.range_succ]
theorem els_length (x : List Int) (c : Nat) : (els x c).length = c := by simp [els]
def len_ (b : List Int) : Nat := (numv (b.take 4)).toNat
def inn (b : List Int) : List Int := (b.take (8 + len_ b)).drop 8
def cnt (b : List Int) : Nat := (numv ((inn b).take 2)).toNat
def rec (b : List Int) : List Int × ByteArray × Int × Int :=
  if b.length < 8 then ([], e0, 0, 10) else if 1572858 < len_ b then ([], e0, 0, 4) else if b.length < 8 + len_ b then ([], e0, 0, 10)
  else if sumv (inn b) ≠ numv ((b.take 8).drop 4) then ([], e0, 0, 11) else if len_ b < 2 ∨ len_ b < 2 + 8 * cnt b then ([], e0, 0, 3)
  else (els (inn b) (cnt b), strOfNums ((inn b).drop (2 + 8 * cnt b)), 8 + (len_ b : Int), 0)

theorem slice_len (x : List Int) (i : Nat) : ((x.take (10 + 8 * i)).drop (2 + 8 * i)).length ≤ 8 := by simp; omega
theorem rec_l0 (x : List Int) (hB : B x) (hx : x.length ≤ 2000) (c : Nat) (n : Nat) (hn : n ≤ 2000) (hc : 2 + 8 * c ≤ x.length) : ∀ (d i : Nat), c - i = d → i ≤ c →
    Ev (fun k => journal_record.l0 k (n : Int) x (c : Int) (c : Int) (i : Int) (els x i) e0) (els x c, strOfNums (x.drop (2 + 8 * c)), 8 + (n : Int), 0) := by
  intro d
  induction d with
  | zero =>
    intro i hd hi
    obtain rfl : i = c := by omega
    refine Ev.succ ?_
    simp only [journal_record.l0]
    rw [w64 (8 * (i : Int)) (by omega) (by omega), w64 (2 + 8 * (i : Int)) (by omega) (by omega), w64 (8 + (n : Int)) (by omega) (by omega), show (2 + 8 * (i : Int)).toNat = 2 + 8 * i by omega]
    refine Ev.neg (by omega) (Ev.pos (by omega) (Ev.pos (by omega) (Ev.neg ?_ (Ev.now _))))
    rw [strOfNums_size]
    have : (x.drop (2 + 8 * i)).length ≤ x.length := by simp
    omega
  | succ d ih =>
    intro i hd hi
    refine Ev.succ ?_
    simp only [journal_record.l0]
    rw [w64 (8 * (i : Int)) (by omega) (by omega), w64 (2 + 8 * (i : Int)) (by omega) (by omega), w64 (10 + 8 * (i : Int)) (by omega) (by omega), show (2 + 8 * (i : Int)).toNat = 2 + 8 * i by omega, show (10 + 8 * (i : Int)).toNat = 10 + 8 * i by omega]
    refine Ev.pos (by omega) (Ev.pos (by omega) (Ev.pos (by omega) (Ev.pos (by omega) ?_)))
    refine Ev.bind (get_f _ ((hB.take _).drop _) (slice_len x i)) ?_
    refine Ev.pos (by rw [els_length]; omega) ?_
    rw [w64 ((i : Int) + 1) (by omega) (by omega)]
    have := ih (i + 1) (by omega) (by omega)
    rw [els_succ] at this
    exact this
theorem num2 {l : List Int} (h : B l) : 0 ≤ numv (l.take 2) ∧ numv (l.take 2) < 65536 := by
  have := numv_all (h.take 2)
  have h2 := pow_le (show (l.take 2).length ≤ 2 by simp; omega)
  have e : (256 : Int) ^ 2 = 65536 := by decide
  omega
theorem num4 {l : List Int} (h : B l) : 0 ≤ numv (l.take 4) ∧ numv (l.take 4) < 4294967296 := by
  have := numv_all (h.take 4)
  have h2 := pow_le (show (l.take 4).length ≤ 4 by simp; omega)
  have e : (256 : Int) ^ 4 = 4294967296 := by decide
  omega
theorem rec_f (b : List Int) (hB : B b) (hb : b.length ≤ 2000) : Ev (fun k => journal_record.f k b) (rec b) := by
  have h4 := num4 hB
  unfold journal_record.f rec
  by_cases c1 : b.length < 8
  · rw [if_pos c1]
    exact Ev.pos (by omega) (Ev.now _)
  rw [if_neg c1]
  refine Ev.neg (by omega) (Ev.pos (by omega) ?_)
  refine Ev.bind (get_f (b.take 4) (hB.take 4) (by simp; omega)) ?_
  obtain ⟨n, hn⟩ : ∃ n : Nat, numv (b.take 4) = (n : Int) := ⟨(numv (b.take 4)).toNat, by omega⟩
  have hlen : len_ b = n := by unfold len_; omega
  have hinn : inn b = (b.take (8 + n)).drop 8 := by unfold inn; rw [hlen]
  have hcnt : cnt b = (numv ((inn b).take 2)).toNat := rfl
  rw [hlen]
  simp only [hn]
  rw [w64 (n : Int) (by omega) (by omega), w64 ((b.length : Int) - 8) (by omega) (by omega), w64 (8 + (n : Int)) (by omega) (by omega), show (8 + (n : Int)).toNat = 8 + n by omega, ← hinn]
  by_cases c2 : 1572858 < n
  · rw [if_pos c2]
    exact Ev.pos (by omega) (Ev.now _)
  rw [if_neg c2]
  refine Ev.neg (by omega) ?_
  by_cases c3 : b.length < 8 + n
  · rw [if_pos c3]
    exact Ev.pos (by omega) (Ev.now _)
  rw [if_neg c3]
  refine Ev.neg (by omega) (Ev.pos (by omega) (Ev.pos (by omega) ?_))
  have hiB : B (inn b) := by rw [hinn]; exact (hB.take _).drop _
  have hil : (inn b).length = n := by rw [hinn]; simp; omega
  refine Ev.bind (sum_f (inn b) hiB (by omega)) ?_
  refine Ev.pos (by omega) (Ev.pos (by omega) ?_)
  refine Ev.bind (get_f ((b.take 8).drop 4) ((hB.take _).drop _) (by simp; omega)) ?_
  have hsb := sumv_bd (inn b)
  rw [u64_in _ (by omega) (by omega)]
  by_cases c4 : sumv (inn b) = numv ((b.take 8).drop 4)
  case neg =>
    rw [if_pos c4]
    exact Ev.neg c4 (Ev.now _)
  rw [if_neg (fun h => h c4)]
  refine Ev.pos c4 ?_
  have h2 := num2 hiB
  obtain ⟨c, hc⟩ : ∃ c : Nat, numv ((inn b).take 2) = (c : Int) := ⟨(numv ((inn b).take 2)).toNat, by omega⟩
  have hcc : cnt b = c := by rw [hcnt]; omega
  rw [hcc]
  have hgood : ¬ (n < 2 ∨ n < 2 + 8 * c) → Ev (fun k => journal_record.j0 k (n : Int) (inn b) false) (els (inn b) c, strOfNums ((inn b).drop (2 + 8 * c)), 8 + (n : Int), 0) := fun hh => by
    refine Ev.succ ?_
    simp only [journal_record.j0]
    refine Ev.neg (by decide) (Ev.pos (by omega) ?_)
    refine Ev.bind (get_f ((inn b).take 2) (hiB.take 2) (by simp; omega)) ?_
    rw [hc, w64 (c : Int) (by omega) (by omega)]
    exact rec_l0 (inn b) hiB (by omega) c n (by omega) (by omega) c 0 (by omega) (by omega)
  have hbad : Ev (fun k => journal_record.j0 k (n : Int) (inn b) true) ([], e0, 0, 3) := by
    refine Ev.succ ?_
    simp only [journal_record.j0]
    exact Ev.pos trivial (Ev.now _)
  by_cases c5 : n < 2
  · rw [if_pos (.inl c5)]
    exact Ev.pos (by omega) hbad
  refine Ev.neg (by omega) (Ev.pos (by omega) ?_)
  refine Ev.bind (get_f ((inn b).take 2) (hiB.take 2) (by simp; omega)) ?_
  rw [hc, w64 (c : Int) (by omega) (by omega), w64 (8 * (c : Int)) (by omega) (by omega), w64 (2 + 8 * (c : Int)) (by omega) (by omega)]
  by_cases c6 : n < 2 + 8 * c
  · rw [if_pos (.inr c6), decide_eq_true (by omega)]
    exact hbad
  · rw [if_neg (by omega), decide_eq_false (by omega)]
    exact hgood (by omega)

theorem rget_l1 (x0 : List Int) (acc : List S88) (at_ n : Nat) (hat : at_ + 8 + n ≤ 2000) (hacc : acc.length ≤ 2000) (x : List Int) (hB : B x) (hx : x.length ≤ 2000) (c : Nat) (hc : 2 + 8 * c ≤ x.length) (R : List S88 × Int × Int)
    (H : Ev (fun k => tattingref44_Get.l0 k x0 (acc ++ [⟨els x c, strOfNums (x.drop (2 + 8 * c))⟩]) ((at_ + 8 + n : Nat) : Int)) R) : ∀ (d i : Nat), c - i = d → i ≤ c →
    Ev (fun k => tattingref44_Get.l1 k x0 acc (at_ : Int) (n : Int) x (2 + 8 * (i : Int)) ((c : Int) - (i : Int)) (els x i) e0) R := by
  intro d
  induction d with
  | zero =>
    intro i hd hi
    obtain rfl : i = c := by omega
    refine Ev.succ ?_
    simp only [tattingref44_Get.l1]
    rw [w64 ((at_ : Int) + 8) (by omega) (by omega), w64 ((at_ : Int) + 8 + (n : Int)) (by omega) (by omega), show (2 + 8 * (i : Int)).toNat = 2 + 8 * i by omega]
    refine Ev.neg (by omega) (Ev.pos (by omega) (Ev.pos (by omega) (Ev.pos (by omega) ?_)))
    rw [show (at_ : Int) + 8 + (n : Int) = ((at_ + 8 + n : Nat) : Int) by omega]
    exact H
  | succ d ih =>
    intro i hd hi
    refine Ev.succ ?_
    simp only [tattingref44_Get.l1]
    rw [w64 (2 + 8 * (i : Int) + 8) (by omega) (by omega), show (2 + 8 * (i : Int)).toNat = 2 + 8 * i by omega, show (2 + 8 * (i : Int) + 8).toNat = 10 + 8 * i by omega]
    refine Ev.pos (by omega) (Ev.pos (by omega) (Ev.pos (by omega) (Ev.pos (by omega) ?_)))
    refine Ev.bind (number_f _ ((hB.take _).drop _) (slice_len x i)) ?_
    refine Ev.pos (by rw [els_length]; omega) ?_
    rw [w64 ((c : Int) - (i : Int) - 1) (by omega) (by omega)]
    have := ih (i + 1) (by omega) (by omega)
    rw [els_succ] at this
    rw [show 2 + 8 * (i : Int) + 8 = 2 + 8 * ((i + 1 : Nat) : Int) by omega, show (c : Int) - (i : Int) - 1 = (c : Int) - ((i + 1 : Nat) : Int) by omega]
    exact this

/-- the page reads a record at a place as the program does. -/
theorem rget_step (x0 : List Int) (hB : B x0) (hx : x0.length ≤ 2000) (acc : List S88) (hacc : acc.length ≤ 2000) (a : Nat) (ha : a < x0.length) (R : List S88 × Int × Int)
    (H : (rec (x0.drop a)).2.2.2 = 0 → Ev (fun k => tattingref44_Get.l0 k x0 (acc ++ [⟨(rec (x0.drop a)).1, (rec (x0.drop a)).2.1⟩]) ((a : Int) + (rec (x0.drop a)).2.2.1)) R)
    (H' : (rec (x0.drop a)).2.2.2 ≠ 0 → R = (acc, (a : Int), (rec (x0.drop a)).2.2.2)) : Ev (fun k => tattingref44_Get.l0 k x0 acc (a : Int)) R := by
  have hbl : (x0.drop a).length = x0.length - a := List.length_drop
  have hbB := hB.drop a
  have h4 := num4 hbB
  refine Ev.succ ?_
  simp only [tattingref44_Get.l0]
  rw [w64 ((x0.length : Int) - (a : Int)) (by omega) (by omega), w64 ((a : Int) + 4) (by omega) (by omega), w64 ((a : Int) + 8) (by omega) (by omega), w64 ((x0.length : Int) - (a : Int) - 8) (by omega) (by omega),
    show ((a : Int) + 4).toNat = a + 4 by omega, show ((a : Int) + 8).toNat = a + 8 by omega, Int.toNat_natCast, List.drop_take, show a + 4 - a = 4 by omega, List.drop_take, show a + 8 - (a + 4) = 4 by omega]
  refine Ev.pos (by omega) ?_
  unfold rec at H H'
  rw [hbl] at H H'
  by_cases c1 : x0.length - a < 8
  · rw [if_pos c1] at H'
    rw [H' (by simp)]
    exact Ev.pos (by omega) (Ev.now _)
  rw [if_neg c1] at H H'
  refine Ev.neg (by omega) (Ev.pos (by omega) (Ev.pos (by omega) (Ev.pos (by omega) ?_)))
  refine Ev.bind (number_f ((x0.drop a).take 4) (hbB.take 4) (by simp; omega)) ?_
  obtain ⟨n, hn⟩ : ∃ n : Nat, numv ((x0.drop a).take 4) = (n : Int) := ⟨(numv ((x0.drop a).take 4)).toNat, by omega⟩
  have hlen : len_ (x0.drop a) = n := by unfold len_; omega
  have hinn : inn (x0.drop a) = ((x0.drop a).take (8 + n)).drop 8 := by unfold inn; rw [hlen]
  have hcnt : cnt (x0.drop a) = (numv ((inn (x0.drop a)).take 2)).toNat := rfl
  rw [hlen] at H H'
  simp only [hn]
  rw [w64 (n : Int) (by omega) (by omega), w64 ((a : Int) + 8 + (n : Int)) (by omega) (by omega)]
  by_cases c2 : 1572858 < n
  · rw [if_pos c2] at H'
    rw [H' (by simp)]
    exact Ev.pos (by omega) (Ev.now _)
  rw [if_neg c2] at H H'
  refine Ev.neg (by omega) ?_
  by_cases c3 : x0.length - a < 8 + n
  · rw [if_pos c3] at H'
    rw [H' (by simp)]
    exact Ev.pos (by omega) (Ev.now _)
  rw [if_neg c3] at H H'
  refine Ev.neg (by omega) (Ev.pos (by omega) (Ev.pos (by omega) (Ev.pos (by omega) (Ev.pos (by omega) (Ev.pos (by omega) (Ev.pos (by omega) ?_))))))
  have hsl : List.drop (a + 4) x0 = (x0.drop a).drop 4 := by rw [List.drop_drop]
  have hs2 : (x0.take ((a : Int) + 8 + (n : Int)).toNat).drop (a + 8) = inn (x0.drop a) := by
    rw [hinn, show ((a : Int) + 8 + (n : Int)).toNat = a + 8 + n by omega, List.drop_take, List.drop_take, List.drop_drop, show a + 8 + n - (a + 8) = n by omega, show 8 + n - 8 = n by omega]
  have hs3 : ((x0.drop a).drop 4).take 4 = ((x0.drop a).take 8).drop 4 := by rw [List.drop_take]
  rw [hs2, hsl, hs3]
  have hiB : B (inn (x0.drop a)) := by rw [hinn]; exact (hbB.take _).drop _
  have hil : (inn (x0.drop a)).length = n := by rw [hinn]; simp; omega
  refine Ev.bind (number_f (((x0.drop a).take 8).drop 4) ((hbB.take _).drop _) (by simp; omega)) ?_
  refine Ev.bind (rsum_f (inn (x0.drop a)) hiB (by omega)) ?_
  have hsb := sumv_bd (inn (x0.drop a))
  rw [u64_in _ (by omega) (by omega)]
  by_cases c4 : sumv (inn (x0.drop a)) = numv (((x0.drop a).take 8).drop 4)
  case neg =>
    rw [if_pos c4] at H'
    rw [H' (by simp)]
    exact Ev.neg (fun h => c4 h.symm) (Ev.now _)
  rw [if_neg (fun h => h c4)] at H H'
  refine Ev.pos c4.symm ?_
  have h2 := num2 hiB
  generalize inn (x0.drop a) = x at *
  obtain ⟨c, hc⟩ : ∃ c : Nat, numv (x.take 2) = (c : Int) := ⟨(numv (x.take 2)).toNat, by omega⟩
  have hcc : cnt (x0.drop a) = c := by rw [hcnt]; omega
  rw [hcc] at H H'
  have hgood : ¬ (n < 2 ∨ n < 2 + 8 * c) → Ev (fun k => tattingref44_Get.j1 k x0 acc (a : Int) (n : Int) x false) R := fun hh => by
    rw [if_neg hh] at H
    refine Ev.succ ?_
    simp only [tattingref44_Get.j1]
    refine Ev.neg (by decide) (Ev.pos (by omega) ?_)
    refine Ev.bind (number_f (x.take 2) (hiB.take 2) (by simp; omega)) ?_
    rw [hc, w64 (c : Int) (by omega) (by omega)]
    have h0 := H rfl
    simp only at h0
    rw [show (a : Int) + (8 + (n : Int)) = ((a + 8 + n : Nat) : Int) by omega] at h0
    have := rget_l1 x0 acc a n (by omega) hacc x hiB (by omega) c (by omega) R h0 c 0 (by omega) (by omega)
    simpa [els, e0] using this
  have hbad : (n < 2 ∨ n < 2 + 8 * c) → Ev (fun k => tattingref44_Get.j1 k x0 acc (a : Int) (n : Int) x true) R := fun hh => by
    rw [if_pos hh] at H'
    rw [H' (by simp)]
    refine Ev.succ ?_
    simp only [tattingref44_Get.j1]
    exact Ev.pos trivial (Ev.now _)
  by_cases c5 : n < 2
  · exact Ev.pos (by omega) (hbad (.inl c5))
  refine Ev.neg (by omega) (Ev.pos (by omega) ?_)
  refine Ev.bind (number_f (x.take 2) (hiB.take 2) (by simp; omega)) ?_
  rw [hc, w64 (c : Int) (by omega) (by omega), w64 (8 * (c : Int)) (by omega) (by omega), w64 ((n : Int) - 2) (by omega) (by omega)]
  by_cases c6 : n < 2 + 8 * c
  · exact Ev.pos (by omega) (hbad (.inr c6))
  · refine Ev.neg (by omega) ?_
    refine Ev.bind (number_f (x.take 2) (hiB.take 2) (by simp; omega)) ?_
    rw [hc, w64 (c : Int) (by omega) (by omega), w64 (8 * (c : Int)) (by omega) (by omega), w64 ((n : Int) - 2 - 8 * (c : Int)) (by omega) (by omega), decide_eq_false (by omega)]
    exact hgood (by omega)
end Go.Proofs.Ytghghioidllgiaa.JPure
