/- Journals: one byte of a record's sum or body is another one: that is told. -/
import Derived.Test.YtghghioidllgiaaJt
namespace Go.Proofs.Ytghghioidllgiaa.JPure
set_option linter.unusedSimpArgs false
set_option linter.unusedVariables false
open Go.RowKit Go.Proofs.Ytghghioidllgiaa.PJ Go.Proofs.YtghghioidllgiaaW.PrintWords Go.Proofs.YtghghioidllgiaaW.PrintLast Go.Proofs.YtghghioidllgiaaW.PrintMore
set_option linter.unusedVariables false

theorem rd_set (l : List Int) (q : Nat) (y : Int) (i : Nat) (hq : q < l.length) : rd (l.set q y) (i : Int) = if i = q then y else rd l (i : Int) := by
  unfold Go.Proofs.YtghghioidllgiaaW.PrintWords.rd
  rw [Int.toNat_natCast, List.getD, List.getD, List.getElem?_set]
  by_cases e : q = i
  · subst e; simp [hq]
  · rw [if_neg e, if_neg (fun h => e h.symm)]
theorem S_set (l : List Int) (q : Nat) (y : Int) (hq : q < l.length) : ∀ n : Nat, S (l.set q y) n = S l n + if q < n then y - rd l (q : Int) else 0
  | 0 => by simp [S]
  | n + 1 => by
    have ih := S_set l q y hq n
    unfold S
    rw [ih, rd_set l q y n hq]
    by_cases e : n = q
    · subst e; simp; omega
    · rw [if_neg e]
      by_cases c : q < n
      · rw [if_pos c, if_pos (by omega)]; omega
      · rw [if_neg c, if_neg (by omega)]; omega
theorem sum_set (l : List Int) (hB : B l) (q : Nat) (y : Int) (hq : q < l.length) (hy : 0 ≤ y ∧ y < 256) (hne : y ≠ rd l (q : Int)) : sumv (l.set q y) ≠ sumv l := by
  have h := S_set l q y hq l.length
  rw [if_pos hq] at h
  have hr := hB.rd (q : Int)
  unfold sumv
  rw [List.length_set, h]
  generalize S l l.length = a at *
  generalize C l l.length % 65521 = c1
  generalize C (l.set q y) l.length % 65521 = c2
  generalize rd l (q : Int) = z at *
  intro e
  have : (1 + (a + (y - z))) % 65521 = (1 + a) % 65521 := by omega
  omega
theorem numv_set : ∀ (l : List Int) (q : Nat) (y : Int), q < l.length → numv (l.set q y) = numv l + (y - rd l (q : Int)) * 256 ^ (l.length - 1 - q)
  | [], q, y, h => by simp at h
  | x :: l, 0, y, h => by
    have e : rd (x :: l) ((0 : Nat) : Int) = x := rfl
    rw [List.set_cons_zero, numv_cons, numv_cons, e, List.length_cons, show l.length + 1 - 1 - 0 = l.length by omega, Int.sub_mul]
    omega
  | x :: l, q + 1, y, h => by
    have ih := numv_set l q y (by simpa using h)
    have e : rd (x :: l) ((q + 1 : Nat) : Int) = rd l (q : Int) := by
      unfold Go.Proofs.YtghghioidllgiaaW.PrintWords.rd
      rw [Int.toNat_natCast, Int.toNat_natCast]
      rfl
    rw [List.set_cons_succ, numv_cons, numv_cons, List.length_set, ih, e, List.length_cons, show l.length + 1 - 1 - (q + 1) = l.length - 1 - q by omega]
    omega
theorem num_set (l : List Int) (q : Nat) (y : Int) (hq : q < l.length) (hne : y ≠ rd l (q : Int)) : numv (l.set q y) ≠ numv l := by
  rw [numv_set l q y hq]
  intro e
  have h0 : (y - rd l (q : Int)) * 256 ^ (l.length - 1 - q) = 0 := by omega
  rcases Int.mul_eq_zero.1 h0 with h | h
  · omega
  · exact absurd h (Int.ne_of_gt (Int.pow_pos (by decide)))
theorem rec_spoilt (r : S88) (hs : Small r) (X : List Int) (p : Nat) (y : Int) (h4 : 4 ≤ p) (hp : p < (frame r).length) (hy : 0 ≤ y ∧ y < 256) (hne : y ≠ rd (frame r) (p : Int)) : (rec ((frame r).set p y ++ X)).2.2.2 = 11 := by
  have hfl := frame_length r
  have hbl := body_length r
  have h1 := hs.1
  have h2 := hs.2
  have hsb := sumv_bd (body r)
  have hlen : ((frame r).set p y ++ X).length = (frame r).length + X.length := by rw [List.length_append, List.length_set]
  have hrd : ∀ i : Nat, rd (frame r) (i : Int) = (frame r).getD i 0 := fun i => by unfold Go.Proofs.YtghghioidllgiaaW.PrintWords.rd; rw [Int.toNat_natCast]
  have htake : ((frame r).set p y ++ X).take 4 = be (body r).length 4 := by
    rw [List.take_append_of_le_length (by rw [List.length_set]; omega), List.take_set_of_le (by omega)]
    have := frame_take4 r []
    rwa [List.append_nil] at this
  have hL := frame_len r hs _ htake
  have hinn : inn ((frame r).set p y ++ X) = ((frame r).set p y).drop 8 := by
    unfold inn
    rw [hL, ← hfl, List.take_left' (by rw [List.length_set])]
  have hsum : (((frame r).set p y ++ X).take 8).drop 4 = (((frame r).set p y).take 8).drop 4 := by
    rw [List.take_append_of_le_length (by rw [List.length_set]; omega)]
  have hd8 : (frame r).drop 8 = body r := by
    unfold frame
    rw [List.drop_left' (by rw [List.length_append, be_length, be_length])]
  have hm4 : ((frame r).take 8).drop 4 = be (sumv (body r)).toNat 4 := by
    unfold frame
    rw [List.take_left' (by rw [List.length_append, be_length, be_length]), List.drop_left' (be_length _ _)]
  have hnum : numv (be (sumv (body r)).toNat 4) = sumv (body r) := by
    rw [numv_be, Nat.mod_eq_of_lt (by rw [show (2 : Nat) ^ (8 * 4) = 4294967296 by decide]; omega)]
    omega
  have key : sumv (((frame r).set p y).drop 8) ≠ numv ((((frame r).set p y).take 8).drop 4) := by
    by_cases c : p < 8
    · have e1 : ((frame r).set p y).drop 8 = body r := by rw [List.drop_set_of_lt (by omega), hd8]
      have e2 : (((frame r).set p y).take 8).drop 4 = (be (sumv (body r)).toNat 4).set (p - 4) y := by
        rw [List.take_set, List.drop_set, if_neg (show ¬ p < 4 by omega), hm4]
      have e3 : rd (be (sumv (body r)).toNat 4) ((p - 4 : Nat) : Int) = rd (frame r) (p : Int) := by
        rw [← hm4]
        unfold Go.Proofs.YtghghioidllgiaaW.PrintWords.rd
        rw [Int.toNat_natCast, Int.toNat_natCast, List.getD, List.getD, List.getElem?_drop, List.getElem?_take_of_lt (by omega), show 4 + (p - 4) = p by omega]
      rw [e1, e2]
      intro h
      exact num_set (be (sumv (body r)).toNat 4) (p - 4) y (by rw [be_length]; omega) (by rw [e3]; exact hne) (by rw [← h, hnum])
    · have e1 : ((frame r).set p y).drop 8 = (body r).set (p - 8) y := by rw [List.drop_set, if_neg (show ¬ p < 8 by omega), hd8]
      have e2 : (((frame r).set p y).take 8).drop 4 = be (sumv (body r)).toNat 4 := by
        rw [List.take_set_of_le (by omega), hm4]
      have e3 : rd (body r) ((p - 8 : Nat) : Int) = rd (frame r) (p : Int) := by
        rw [← hd8]
        unfold Go.Proofs.YtghghioidllgiaaW.PrintWords.rd
        rw [Int.toNat_natCast, Int.toNat_natCast, List.getD, List.getD, List.getElem?_drop, show 8 + (p - 8) = p by omega]
      rw [e1, e2, hnum]
      exact sum_set (body r) (body_B r) (p - 8) y (by omega) hy (by rw [e3]; exact hne)
  unfold rec
  rw [hL, hinn, hsum, hlen, if_neg (by omega), if_neg (by omega), if_neg (by omega), if_pos key]
theorem get_front (x0 : List Int) (hB : B x0) (hx : x0.length ≤ 2000) : ∀ (l : List S88) (a : Nat) (acc : List S88) (Y : List Int) (R : List S88 × Int × Int), (∀ r ∈ l, Small r ∧ Wide r) → a ≤ x0.length → acc.length ≤ a → x0.drop a = l.flatMap frame ++ Y →
    Ev (fun q => journal_Get.l0 q x0 (acc ++ l) ((a + (l.flatMap frame).length : Nat) : Int)) R → Ev (fun q => journal_Get.l0 q x0 acc (a : Int)) R
  | [], a, acc, Y, R, _, _, _, _, H => by simpa using H
  | r :: l, a, acc, Y, R, hs, ha, hacc, hd, H => by
    have hr := hs r (by simp)
    have hfl := frame_length r
    rw [List.flatMap_cons, List.append_assoc] at hd
    have hdl : (x0.drop a).length = (frame r).length + (l.flatMap frame ++ Y).length := by rw [hd, List.length_append]
    rw [List.length_drop] at hdl
    have hrec := rec_frame r hr.1 hr.2 (l.flatMap frame ++ Y)
    rw [← hd] at hrec
    have hd3 : x0.drop (a + (frame r).length) = l.flatMap frame ++ Y := by rw [← List.drop_drop, hd, List.drop_left' rfl]
    have h2 : Ev (fun q => journal_Get.l0 q x0 (acc ++ [r]) ((a : Int) + ((frame r).length : Int))) R := by
      rw [show (a : Int) + ((frame r).length : Int) = ((a + (frame r).length : Nat) : Int) by omega]
      refine get_front x0 hB hx l (a + (frame r).length) (acc ++ [r]) Y R (fun q hq => hs q (by simp [hq])) (by omega) (by simp; omega) hd3 ?_
      rw [List.flatMap_cons, List.length_append] at H
      rw [List.append_assoc, show a + (frame r).length + (l.flatMap frame).length = a + ((frame r).length + (l.flatMap frame).length) by omega]
      exact H
    exact get_step x0 hB hx acc (by omega) a (by omega) R (fun _ => by rw [hrec]; exact h2) (fun h => by rw [hrec] at h; exact absurd rfl h)
/-- of spoilt records those ahead are told, and why no more. -/
theorem get_spoilt (l : List S88) (hl : (l.flatMap frame).length ≤ 2000) (hs : ∀ r ∈ l, Small r ∧ Wide r) (i : Nat) (hi : i < l.length) (p : Nat) (y : Int) (h4 : 4 ≤ p) (hp : p < (frame l[i]).length) (hy : 0 ≤ y ∧ y < 256)
    (hne : y ≠ rd (l.flatMap frame) ((((l.take i).flatMap frame).length + p : Nat) : Int)) :
    Ev (fun k => journal_Get.f k ((l.flatMap frame).set (((l.take i).flatMap frame).length + p) y)) (l.take i, (((l.take i).flatMap frame).length : Int), 11) := by
  have e0 : l.flatMap frame = (l.take i).flatMap frame ++ (frame l[i] ++ (l.drop (i + 1)).flatMap frame) := by
    conv => lhs; rw [← List.take_append_drop i l, List.drop_eq_getElem_cons hi]
    rw [List.flatMap_append, List.flatMap_cons]
  have e1 : (l.flatMap frame).set (((l.take i).flatMap frame).length + p) y = (l.take i).flatMap frame ++ ((frame l[i]).set p y ++ (l.drop (i + 1)).flatMap frame) := by
    rw [e0, List.set_append_right _ _ (by omega), Nat.add_sub_cancel_left, List.set_append_left _ _ hp]
  have hrd : rd (l.flatMap frame) ((((l.take i).flatMap frame).length + p : Nat) : Int) = rd (frame l[i]) (p : Int) := by
    rw [e0]
    unfold Go.Proofs.YtghghioidllgiaaW.PrintWords.rd
    rw [Int.toNat_natCast, Int.toNat_natCast, List.getD, List.getD, List.getElem?_append_right (by omega), Nat.add_sub_cancel_left, List.getElem?_append_left hp]
  rw [hrd] at hne
  have hB : B ((l.flatMap frame).set (((l.take i).flatMap frame).length + p) y) := fun x hx => by
    rcases List.mem_or_eq_of_mem_set hx with h | rfl
    · exact frames_B l x h
    · exact hy
  have hx2 : ((l.flatMap frame).set (((l.take i).flatMap frame).length + p) y).length ≤ 2000 := by rw [List.length_set]; exact hl
  have hsi := hs l[i] (List.getElem_mem hi)
  have hti : ∀ r ∈ l.take i, Small r ∧ Wide r := fun r hr => hs r (List.mem_of_mem_take hr)
  have hle : ((l.take i).flatMap frame).length + (frame l[i]).length ≤ (l.flatMap frame).length := by rw [e0]; simp
  have hti2 : (l.take i).length ≤ ((l.take i).flatMap frame).length := by
    have : ∀ m : List S88, m.length ≤ (m.flatMap frame).length := fun m => by
      induction m with
      | nil => simp
      | cons a m ih => rw [List.flatMap_cons, List.length_append, List.length_cons]; have := frame_length a; omega
    exact this _
  unfold journal_Get.f
  refine get_front _ hB hx2 (l.take i) 0 [] _ _ hti (by omega) (by simp) (by rw [List.drop_zero]; exact e1) ?_
  rw [List.nil_append, Nat.zero_add]
  have hd : ((l.flatMap frame).set (((l.take i).flatMap frame).length + p) y).drop ((l.take i).flatMap frame).length = (frame l[i]).set p y ++ (l.drop (i + 1)).flatMap frame := by rw [e1, List.drop_left' rfl]
  have hrec := rec_spoilt l[i] hsi.1 ((l.drop (i + 1)).flatMap frame) p y h4 hp hy hne
  rw [← hd] at hrec
  exact get_step _ hB hx2 (l.take i) (by omega) ((l.take i).flatMap frame).length (by rw [List.length_set]; omega) _ (fun h => by rw [hrec] at h; cases h) (fun _ => by rw [hrec])
end Go.Proofs.Ytghghioidllgiaa.JPure
