/- Journals: records are read back; of torn ones just those that are whole. -/
import Derived.Test.YtghghioidllgiaaJs
namespace Go.Proofs.Ytghghioidllgiaa.JPure
set_option linter.unusedSimpArgs false
set_option linter.unusedVariables false
open Go.RowKit Go.Proofs.Ytghghioidllgiaa.PJ Go.Proofs.YtghghioidllgiaaW.PrintWords Go.Proofs.YtghghioidllgiaaW.PrintLast Go.Proofs.YtghghioidllgiaaW.PrintMore
set_option linter.unusedVariables false

theorem str_bytes (s : ByteArray) : strOfNums (bytesOf s) = s := by
  obtain ⟨d⟩ := s
  unfold strOfNums bytesOf
  congr 1
  apply Array.ext'
  simp only [List.map_map]
  conv => rhs; rw [← List.map_id d.toList]
  refine List.map_congr_left fun b _ => ?_
  simp
theorem wrap_u64 (z : Int) (h0 : -9223372036854775808 ≤ z) (h1 : z < 9223372036854775808) : wrap64 (numv (num8 z)) = z := by
  have e : IntKind.u64.wrap z = z % 18446744073709551616 := rfl
  unfold num8
  rw [numv_be, e]
  have e2 : (2 : Nat) ^ (8 * 8) = 18446744073709551616 := by decide
  rw [e2]
  unfold wrap64
  omega
theorem flat_part (f0 : List Int) (i : Nat) (hi : i < f0.length) (X : List Int) : ((f0.flatMap num8 ++ X).drop (8 * i)).take 8 = num8 f0[i] := by
  have e : f0.flatMap num8 = (f0.take i).flatMap num8 ++ (num8 f0[i] ++ (f0.drop (i + 1)).flatMap num8) := by
    conv => lhs; rw [← List.take_append_drop i f0, List.drop_eq_getElem_cons hi]
    rw [List.flatMap_append, List.flatMap_cons]
  have hl : ((f0.take i).flatMap num8).length = 8 * i := by rw [nums_length, List.length_take, Nat.min_eq_left (by omega)]; omega
  rw [e, List.append_assoc, List.drop_left' hl, List.append_assoc, List.take_left' (by unfold num8; exact be_length _ _)]
def Wide (r : S88) : Prop := ∀ z ∈ r.f0, -9223372036854775808 ≤ z ∧ z < 9223372036854775808
theorem frame_take4 (r : S88) (X : List Int) : (frame r ++ X).take 4 = be (body r).length 4 := by
  unfold frame
  rw [List.append_assoc, List.append_assoc, List.take_left' (be_length _ _)]
theorem frame_len (r : S88) (hs : Small r) (b : List Int) (h : b.take 4 = be (body r).length 4) : len_ b = (body r).length := by
  unfold len_
  rw [h, numv_be, Int.toNat_natCast]
  have := body_length r
  have := hs.1
  have := hs.2
  exact Nat.mod_eq_of_lt (by rw [show (2 : Nat) ^ (8 * 4) = 4294967296 by decide]; omega)
theorem rec_frame (r : S88) (hs : Small r) (hw : Wide r) (X : List Int) : rec (frame r ++ X) = (r.f0, r.f1, ((frame r).length : Int), 0) := by
  have hL := frame_len r hs _ (frame_take4 r X)
  have hfl := frame_length r
  have hbl := body_length r
  have h1 := hs.1
  have h2 := hs.2
  have hinn : inn (frame r ++ X) = body r := by
    unfold inn
    rw [hL, ← hfl, List.take_left' rfl]
    unfold frame
    rw [List.drop_left' (by rw [List.length_append, be_length, be_length])]
  have hsum : ((frame r ++ X).take 8).drop 4 = be (sumv (body r)).toNat 4 := by
    unfold frame
    rw [List.append_assoc (be _ 4 ++ be _ 4), List.take_left' (by rw [List.length_append, be_length, be_length]), List.drop_left' (be_length _ _)]
  have hsb := sumv_bd (body r)
  have hcnt : cnt (frame r ++ X) = r.f0.length := by
    unfold cnt
    rw [hinn]
    unfold body
    rw [List.append_assoc, List.take_left' (be_length _ _), numv_be, Int.toNat_natCast]
    exact Nat.mod_eq_of_lt (by rw [show (2 : Nat) ^ (8 * 2) = 65536 by decide]; omega)
  unfold rec
  rw [hL, hinn, hsum, hcnt, if_neg (by rw [List.length_append]; omega), if_neg (by omega), if_neg (by rw [List.length_append]; omega), if_neg, if_neg (by omega)]
  · have e1 : els (body r) r.f0.length = r.f0 := by
      refine List.ext_getElem (els_length _ _) fun i hi1 hi2 => ?_
      have hz := hw r.f0[i] (List.getElem_mem hi2)
      simp only [els, List.getElem_map, List.getElem_range, el]
      have : ((body r).take (10 + 8 * i)).drop (2 + 8 * i) = num8 r.f0[i] := by
        rw [List.drop_take, show 10 + 8 * i - (2 + 8 * i) = 8 by omega, ← List.drop_drop]
        unfold body
        rw [List.append_assoc, List.drop_left' (be_length _ _)]
        exact flat_part r.f0 i hi2 _
      rw [this]
      exact wrap_u64 _ hz.1 hz.2
    have e2 : (body r).drop (2 + 8 * r.f0.length) = bytesOf r.f1 := by
      unfold body
      exact List.drop_left' (by rw [List.length_append, be_length, nums_length]; omega)
    rw [e1, e2, str_bytes, hfl]
    congr 2
  · intro h
    apply h
    rw [numv_be, Nat.mod_eq_of_lt (by rw [show (2 : Nat) ^ (8 * 4) = 4294967296 by decide]; omega)]
    omega
theorem rec_torn (r : S88) (hs : Small r) (X : List Int) (k : Nat) (hk : k < (frame r).length) : (rec ((frame r ++ X).take k)).2.2.2 = 10 := by
  have hfl := frame_length r
  have hbl := body_length r
  have h1 := hs.1
  have h2 := hs.2
  have hl : ((frame r ++ X).take k).length = k := by rw [List.length_take, List.length_append]; omega
  unfold rec
  rw [hl]
  by_cases c : k < 8
  · rw [if_pos c]
  have hL := frame_len r hs ((frame r ++ X).take k) (by rw [List.take_take, Nat.min_eq_left (by omega)]; exact frame_take4 r X)
  rw [if_neg c, hL, if_neg (by omega), if_pos (by omega)]

theorem get_end (x0 : List Int) (a : Nat) (acc : List S88) (e : a = x0.length) : Ev (fun k => journal_Get.l0 k x0 acc (a : Int)) (acc, (a : Int), 0) := by
  refine Ev.succ ?_
  simp only [journal_Get.l0]
  exact Ev.neg (by omega) (Ev.now _)
/-- the bytes of the first records. -/
def size (l : List S88) (j : Nat) : Nat := ((l.take j).flatMap frame).length
theorem size_zero (l : List S88) : size l 0 = 0 := rfl
theorem size_succ (r : S88) (l : List S88) (j : Nat) : size (r :: l) (j + 1) = (frame r).length + size l j := by
  unfold size
  rw [List.take_succ_cons, List.flatMap_cons, List.length_append]
theorem get_torn (x0 : List Int) (hB : B x0) (hx : x0.length ≤ 2000) : ∀ (l : List S88) (a k : Nat) (acc : List S88), (∀ r ∈ l, Small r ∧ Wide r) → a ≤ x0.length → acc.length ≤ a → x0.drop a = (l.flatMap frame).take k → k ≤ (l.flatMap frame).length →
    ∃ j, j ≤ l.length ∧ size l j ≤ k ∧ (j < l.length → k < size l (j + 1)) ∧ Ev (fun q => journal_Get.l0 q x0 acc (a : Int)) (acc ++ l.take j, ((a + size l j : Nat) : Int), if size l j = k then 0 else 10)
  | [], a, k, acc, _, ha, _, hd, hk => by
    have hk0 : k = 0 := by simpa using hk
    subst hk0
    have hl : (x0.drop a).length = 0 := by rw [hd]; simp
    rw [List.length_drop] at hl
    refine ⟨0, by simp, by simp [size], by simp, ?_⟩
    simpa [size] using get_end x0 a acc (by omega)
  | r :: l, a, k, acc, hs, ha, hacc, hd, hk => by
    have hr := hs r (by simp)
    have hfl := frame_length r
    rw [List.flatMap_cons] at hd hk
    have hdl : (x0.drop a).length = k := by rw [hd, List.length_take]; omega
    rw [List.length_drop] at hdl
    by_cases c : k < (frame r).length
    · refine ⟨0, by simp, by simp [size], fun _ => by rw [size_succ]; omega, ?_⟩
      by_cases k0 : k = 0
      · subst k0
        simpa [size] using get_end x0 a acc (by omega)
      · have ht := rec_torn r hr.1 (l.flatMap frame) k c
        rw [← hd] at ht
        have := get_step x0 hB hx acc (by omega) a (by omega) (acc, (a : Int), 10) (fun h => by rw [ht] at h; cases h) (fun _ => by rw [ht])
        rw [if_neg (by simp [size]; omega)]
        simpa [size] using this
    · have hd2 : x0.drop a = frame r ++ (l.flatMap frame).take (k - (frame r).length) := by
        rw [hd, List.take_append, List.take_of_length_le (by omega)]
      have hrec := rec_frame r hr.1 hr.2 ((l.flatMap frame).take (k - (frame r).length))
      rw [← hd2] at hrec
      have hd3 : x0.drop (a + (frame r).length) = (l.flatMap frame).take (k - (frame r).length) := by
        rw [← List.drop_drop, hd2, List.drop_left' rfl]
      obtain ⟨j, j1, j2, j3, j4⟩ := get_torn x0 hB hx l (a + (frame r).length) (k - (frame r).length) (acc ++ [r]) (fun q hq => hs q (by simp [hq])) (by omega) (by simp; omega) hd3 (by rw [List.length_append] at hk; omega)
      refine ⟨j + 1, by simp; omega, by rw [size_succ]; omega, fun h => by rw [size_succ]; have := j3 (by simpa using h); omega, ?_⟩
      have hR : Ev (fun q => journal_Get.l0 q x0 (acc ++ [r]) ((a : Int) + ((frame r).length : Int))) (acc ++ (r :: l).take (j + 1), ((a + size (r :: l) (j + 1) : Nat) : Int), if size (r :: l) (j + 1) = k then 0 else 10) := by
        rw [size_succ, List.take_succ_cons, show a + ((frame r).length + size l j) = a + (frame r).length + size l j by omega, show (a : Int) + ((frame r).length : Int) = ((a + (frame r).length : Nat) : Int) by omega]
        have e : ((frame r).length + size l j = k) ↔ (size l j = k - (frame r).length) := by omega
        simp only [e]
        simpa using j4
      exact get_step x0 hB hx acc (by omega) a (by omega) _ (fun _ => by rw [hrec]; exact hR) (fun h => by rw [hrec] at h; exact absurd rfl h)
end Go.Proofs.Ytghghioidllgiaa.JPure
