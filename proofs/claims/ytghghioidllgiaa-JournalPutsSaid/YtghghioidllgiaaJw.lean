/- Journals: the page's records are the program's. -/
import Derived.Test.YtghghioidllgiaaJt
import Derived.Test.YtghghioidllgiaaPJx8
namespace Go.Proofs.Ytghghioidllgiaa.JPure
set_option linter.unusedSimpArgs false
set_option linter.unusedVariables false
open Go.RowKit Go.Proofs.Ytghghioidllgiaa.PJ Go.Proofs.YtghghioidllgiaaW.PrintWords Go.Proofs.YtghghioidllgiaaW.PrintLast Go.Proofs.YtghghioidllgiaaW.PrintMore
set_option linter.unusedVariables false

theorem bytes_l0 (n m : Nat) (hn : n < 18446744073709551616) : ∀ (i j : Nat), i + j = m → m ≤ 8 →
    Ev (fun k => tattingref44_bytes.l0 k ((n / 2 ^ (8 * j) : Nat) : Int) (List.replicate i 0 ++ be n j) ((i : Int) - 1)) (be n m)
  | 0, j, h, _ => by
    obtain rfl : j = m := by omega
    refine Ev.succ ?_
    simp only [tattingref44_bytes.l0]
    exact Ev.neg (by omega) (Ev.at_ (by simp))
  | i + 1, j, h, h8 => by
    refine Ev.succ ?_
    simp only [tattingref44_bytes.l0]
    have hlen : (List.replicate (i + 1) (0 : Int) ++ be n j).length = i + 1 + j := by rw [List.length_append, List.length_replicate, be_length]
    rw [show ((i + 1 : Nat) : Int) - 1 = (i : Int) by omega, Int.toNat_natCast]
    refine Ev.pos (by omega) (Ev.pos (by omega) (Ev.pos (by omega) ?_))
    have hq : n / 2 ^ (8 * j) ≤ n := Nat.div_le_self _ _
    have hd : n / 2 ^ (8 * (j + 1)) = n / 2 ^ (8 * j) / 256 := by
      rw [show 8 * (j + 1) = 8 * j + 8 by omega, Nat.pow_add, ← Nat.div_div_eq_div_mul]
    have e1 : IntKind.u64.wrap (Int.tdiv ((n / 2 ^ (8 * j) : Nat) : Int) 256) = ((n / 2 ^ (8 * (j + 1)) : Nat) : Int) := by
      rw [hd]
      generalize n / 2 ^ (8 * j) = q at hq ⊢
      rw [Int.tdiv_eq_ediv_of_nonneg (by omega), u64_in _ (by omega) (by omega)]
      simp
    have e2 : (Int.tmod ((n / 2 ^ (8 * j) : Nat) : Int) 256) % 256 = ((n / 2 ^ (8 * j) % 256 : Nat) : Int) := by
      generalize n / 2 ^ (8 * j) = q at hq ⊢
      rw [Int.tmod_eq_emod_of_nonneg (by omega)]
      omega
    have e3 : (List.replicate (i + 1) (0 : Int) ++ be n j).set i ((n / 2 ^ (8 * j) % 256 : Nat) : Int) = List.replicate i 0 ++ be n (j + 1) := by
      rw [List.replicate_succ', List.append_assoc, List.set_append_right _ _ (by simp)]
      simp [be]
    rw [e1, e2, e3, w64 _ (by omega) (by omega)]
    exact bytes_l0 n m hn i (j + 1) (by omega) h8
theorem bytes_f (n : Int) (h0 : 0 ≤ n) (hn : n < 18446744073709551616) (m : Nat) (hm : m ≤ 8) : Ev (fun k => tattingref44_bytes.f k n (m : Int)) (be n.toNat m) := by
  obtain ⟨n, rfl⟩ := Int.eq_ofNat_of_zero_le h0
  unfold tattingref44_bytes.f
  rw [Int.toNat_natCast, Int.toNat_natCast, w64 _ (by omega) (by omega)]
  refine Ev.pos (by omega) (Ev.pos (by omega) ?_)
  have := bytes_l0 n m (by omega) m 0 (by omega) hm
  simpa [be] using this
theorem Record_l1 (r : S88) (hs : Small r) (pre : List Int) (hp : pre = be r.f0.length 2 ++ r.f0.flatMap num8) : ∀ (d i : Nat), r.f1.size - i = d → i ≤ r.f1.size →
    Ev (fun k => tattingref44_Record.l1 k (pre ++ (bytesOf r.f1).take i) (i : Int) r.f0 r.f1) (frame r) := by
  have h1 := hs.1
  have h2 := hs.2
  have hpl : pre.length = 2 + r.f0.length * 8 := by rw [hp, List.length_append, be_length, nums_length]
  have hbl := body_length r
  have hyl := bytesOf_length r.f1
  intro d
  induction d with
  | zero =>
    intro i hd hi
    obtain rfl : i = r.f1.size := by omega
    refine Ev.succ ?_
    simp only [tattingref44_Record.l1]
    have hb : pre ++ (bytesOf r.f1).take r.f1.size = body r := by rw [List.take_of_length_le (by omega), hp]; rfl
    have hsb := sumv_bd (body r)
    rw [hb, u64_in _ (by omega) (by omega)]
    refine Ev.neg (by omega) (Ev.some_ ?_)
    refine Ev.bind (bytes_f ((body r).length : Int) (by omega) (by omega) 4 (by omega)) (Ev.pos (by simp [be_length]) (Ev.some_ ?_))
    refine Ev.bind (rsum_f (body r) (body_B r) (by omega)) ?_
    rw [u64_in _ (by omega) (by omega)]
    refine Ev.bind (bytes_f (sumv (body r)) (by omega) (by omega) 4 (by omega)) (Ev.pos (by simp [be_length]) (Ev.some_ (Ev.pos (by simp [be_length]; omega) (Ev.at_ ?_))))
    unfold frame
    simp
  | succ d ih =>
    intro i hd hi
    refine Ev.succ ?_
    simp only [tattingref44_Record.l1]
    refine Ev.pos (by omega) (Ev.pos (by omega) (Ev.pos (by rw [List.length_append, List.length_take]; omega) ?_))
    rw [← rd_bytesOf, w64 _ (by omega) (by omega), List.append_assoc, ← take_snoc (bytesOf r.f1) i (by omega)]
    exact ih (i + 1) (by omega) (by omega)
theorem Record_l0 (r : S88) (hs : Small r) : ∀ (d i : Nat), r.f0.length - i = d → i ≤ r.f0.length →
    Ev (fun k => tattingref44_Record.l0 k (be r.f0.length 2 ++ (r.f0.take i).flatMap num8) (i : Int) r.f0 r.f1) (frame r) := by
  have h1 := hs.1
  intro d
  induction d with
  | zero =>
    intro i hd hi
    obtain rfl : i = r.f0.length := by omega
    refine Ev.succ ?_
    simp only [tattingref44_Record.l0]
    refine Ev.neg (by omega) ?_
    have := Record_l1 r hs (be r.f0.length 2 ++ r.f0.flatMap num8) rfl r.f1.size 0 (by omega) (by omega)
    rw [List.take_length]
    simpa using this
  | succ d ih =>
    intro i hd hi
    refine Ev.succ ?_
    simp only [tattingref44_Record.l0]
    have hz := u64_nn (rd r.f0 (i : Int))
    have hlen : (be r.f0.length 2 ++ (r.f0.take i).flatMap num8).length = 2 + i * 8 := by rw [List.length_append, be_length, nums_length, List.length_take, Nat.min_eq_left hi]
    refine Ev.pos (by omega) (Ev.pos (by omega) ?_)
    refine Ev.bind (bytes_f (IntKind.u64.wrap (rd r.f0 (i : Int))) hz.1 hz.2 8 (by omega)) (Ev.pos (by rw [hlen, be_length]; omega) ?_)
    rw [w64 _ (by omega) (by omega)]
    have := ih (i + 1) (by omega) (by omega)
    rw [take_snoc r.f0 i (by omega), List.flatMap_append, ← List.append_assoc] at this
    simpa [num8] using this
theorem Record_f (r : S88) (hs : Small r) : Ev (fun k => tattingref44_Record.f k r.f0 r.f1) (frame r) := by
  have h1 := hs.1
  unfold tattingref44_Record.f
  rw [u64_in _ (by omega) (by omega)]
  refine Ev.bind (bytes_f (r.f0.length : Int) (by omega) (by omega) 2 (by omega)) ?_
  rw [Int.toNat_natCast]
  have := Record_l0 r hs r.f0.length 0 (by omega) (by omega)
  simpa using this
theorem all_l0 (l : List S88) (hl : l.length ≤ 100) (hs : ∀ r ∈ l, Small r) : ∀ (d i : Nat) (out : List Int), l.length - i = d → i ≤ l.length → out.length ≤ i * 122 →
    Ev (fun k => tattinglaw44_all.l0 k l out (i : Int)) (out ++ (l.drop i).flatMap frame) := by
  intro d
  induction d with
  | zero =>
    intro i out hd hi ho
    refine Ev.succ ?_
    simp only [tattinglaw44_all.l0]
    refine Ev.neg (by omega) (Ev.at_ ?_)
    rw [List.drop_eq_nil_of_le (by omega)]
    simp
  | succ d ih =>
    intro i out hd hi ho
    have hlt : i < l.length := by omega
    have hsm := hs l[i] (List.getElem_mem hlt)
    have hfl := frame_length l[i]
    have hbl := body_length l[i]
    have h1 := hsm.1
    have h2 := hsm.2
    refine Ev.succ ?_
    simp only [tattinglaw44_all.l0]
    rw [rd_T l i hlt]
    refine Ev.pos (by omega) (Ev.pos (by omega) ?_)
    refine Ev.bind (Record_f l[i] hsm) (Ev.pos (by omega) ?_)
    rw [w64 _ (by omega) (by omega)]
    have := ih (i + 1) (out ++ frame l[i]) (by omega) (by omega) (by rw [List.length_append]; omega)
    rw [List.append_assoc] at this
    rw [List.drop_eq_getElem_cons hlt, List.flatMap_cons]
    exact this
theorem all_f (l : List S88) (hl : l.length ≤ 100) (hs : ∀ r ∈ l, Small r) : Ev (fun k => tattinglaw44_all.f k l) (l.flatMap frame) := by
  have := all_l0 l hl hs l.length 0 [] (by omega) (by omega) (by simp)
  simpa [tattinglaw44_all.f] using this
/-- all that was put is read back. -/
theorem get_all (l : List S88) (hl : (l.flatMap frame).length ≤ 2000) (hs : ∀ r ∈ l, Small r ∧ Wide r) : Ev (fun k => journal_Get.f k (l.flatMap frame)) (l, ((l.flatMap frame).length : Int), 0) := by
  obtain ⟨j, j1, j2, j3, j4⟩ := get_torn (l.flatMap frame) (frames_B l) hl l 0 (l.flatMap frame).length [] hs (by omega) (by simp) (by rw [List.take_length]; simp) (Nat.le_refl _)
  have hj : j = l.length := by
    rcases Nat.lt_or_ge j l.length with h | h
    · have h3 := j3 h
      have : size l (j + 1) ≤ (l.flatMap frame).length := by
        unfold size
        conv => rhs; rw [← List.take_append_drop (j + 1) l]
        rw [List.flatMap_append, List.length_append]
        omega
      omega
    · omega
  subst hj
  have hsz : size l l.length = (l.flatMap frame).length := by unfold size; rw [List.take_length]
  rw [hsz, if_pos rfl, List.take_length, Nat.zero_add] at j4
  exact j4
end Go.Proofs.Ytghghioidllgiaa.JPure
