/- Journals: what is put: the records' bytes, and that they are read back. -/
import Derived.Test.YtghghioidllgiaaJr
namespace Go.Proofs.Ytghghioidllgiaa.JPure
set_option linter.unusedSimpArgs false
set_option linter.unusedVariables false
open Go.RowKit Go.Proofs.Ytghghioidllgiaa.PJ Go.Proofs.YtghghioidllgiaaW.PrintWords Go.Proofs.YtghghioidllgiaaW.PrintLast Go.Proofs.YtghghioidllgiaaW.PrintMore
set_option linter.unusedVariables false

/-- a number's m bytes, the upper one first. -/
def be (n : Nat) : Nat → List Int
  | 0 => []
  | m + 1 => ((n / 2 ^ (8 * m) % 256 : Nat) : Int) :: be n m
theorem be_length (n : Nat) : ∀ m, (be n m).length = m
  | 0 => rfl
  | m + 1 => by simp [be, be_length n m]
theorem be_B (n : Nat) : ∀ m, B (be n m)
  | 0 => fun x hx => by cases hx
  | m + 1 => fun x hx => by
    unfold be at hx
    rcases List.mem_cons.1 hx with rfl | h
    · omega
    · exact be_B n m x h
theorem foldl_num (l : List Int) : ∀ a : Int, l.foldl (fun n x => n * 256 + x) a = a * 256 ^ l.length + numv l := by
  induction l with
  | nil => intro a; simp [numv]
  | cons x l ih =>
    intro a
    have h0 : numv (x :: l) = x * 256 ^ l.length + numv l := by
      show l.foldl _ (0 * 256 + x) = _
      rw [ih, show (0 : Int) * 256 + x = x by omega]
    show l.foldl _ (a * 256 + x) = _
    rw [ih, h0, List.length_cons, Int.pow_succ, Int.add_mul, Int.mul_assoc, Int.mul_comm 256, Int.add_assoc]
theorem numv_cons (x : Int) (l : List Int) : numv (x :: l) = x * 256 ^ l.length + numv l := by
  show l.foldl _ (0 * 256 + x) = _
  rw [foldl_num, show (0 : Int) * 256 + x = x by omega]
theorem pow_256 (m : Nat) : (256 : Int) ^ m = ((2 ^ (8 * m) : Nat) : Int) := by
  rw [Nat.pow_mul, Int.natCast_pow]
  rfl
theorem numv_be (n : Nat) : ∀ m, numv (be n m) = ((n % 2 ^ (8 * m) : Nat) : Int)
  | 0 => by simp [be, numv, Nat.mod_one]
  | m + 1 => by
    unfold be
    rw [numv_cons, be_length, numv_be n m, pow_256, show 8 * (m + 1) = 8 * m + 8 by omega, Nat.pow_add, Nat.mod_mul]
    have : (2 : Nat) ^ 8 = 256 := by decide
    rw [this, Int.natCast_add, Int.natCast_mul, Int.mul_comm, Int.add_comm]
theorem put_l0 (n : Nat) : ∀ (m : Nat) (xs : List Int), m ≤ 8 → xs.length + m ≤ 1000000 → Ev (fun k => journal_put.l0 k xs (n : Int) ((m : Int) - 1)) (xs ++ be n m)
  | 0, xs, _, _ => by
    refine Ev.succ ?_
    simp only [journal_put.l0]
    refine Ev.neg (by omega) (Ev.at_ (by simp [be]))
  | m + 1, xs, hm, hx => by
    refine Ev.succ ?_
    simp only [journal_put.l0]
    rw [show ((m + 1 : Nat) : Int) - 1 = (m : Int) by omega, w64 (8 * (m : Int)) (by omega) (by omega), w64 ((m : Int) - 1) (by omega) (by omega)]
    refine Ev.pos (by omega) (Ev.pos (by omega) (Ev.pos (by omega) ?_))
    have e : shr .u64 (n : Int) (8 * (m : Int)) % 256 = ((n / 2 ^ (8 * m) % 256 : Nat) : Int) := by
      unfold shr
      rw [show min (8 * (m : Int)).toNat IntKind.u64.bits = 8 * m from by show min (8 * (m : Int)).toNat 64 = 8 * m; omega]
      simp
    rw [e]
    have ih := put_l0 n m (xs ++ [((n / 2 ^ (8 * m) % 256 : Nat) : Int)]) (by omega) (by simp; omega)
    rw [List.append_assoc] at ih
    exact ih
theorem put_f (xs : List Int) (n : Int) (h0 : 0 ≤ n) (m : Nat) (hm : m ≤ 8) (hx : xs.length + m ≤ 1000000) : Ev (fun k => journal_put.f k xs n (m : Int)) (xs ++ be n.toNat m) := by
  obtain ⟨n, rfl⟩ := Int.eq_ofNat_of_zero_le h0
  unfold journal_put.f
  rw [w64 _ (by omega) (by omega), Int.toNat_natCast]
  exact put_l0 n m xs hm hx

/-! ### records -/
def num8 (z : Int) : List Int := be (IntKind.u64.wrap z).toNat 8
def body (r : S88) : List Int := be r.f0.length 2 ++ r.f0.flatMap num8 ++ bytesOf r.f1
def frame (r : S88) : List Int := be (body r).length 4 ++ be (sumv (body r)).toNat 4 ++ body r
def Small (r : S88) : Prop := r.f0.length ≤ 8 ∧ r.f1.size ≤ 40
theorem u64_nn (z : Int) : 0 ≤ IntKind.u64.wrap z ∧ IntKind.u64.wrap z < 18446744073709551616 := by
  have e : IntKind.u64.wrap z = z % 18446744073709551616 := rfl
  rw [e]
  omega
theorem nums_length (l : List Int) : (l.flatMap num8).length = l.length * 8 := by
  induction l with
  | nil => rfl
  | cons x l ih => rw [List.flatMap_cons, List.length_append, ih, List.length_cons]; unfold num8; rw [be_length]; omega
theorem body_length (r : S88) : (body r).length = 2 + r.f0.length * 8 + r.f1.size := by
  unfold body
  rw [List.length_append, List.length_append, be_length, nums_length, bytesOf_length]
theorem frame_length (r : S88) : (frame r).length = 8 + (body r).length := by
  unfold frame
  rw [List.length_append, List.length_append, be_length, be_length]
theorem bytes_B (s : ByteArray) : B (bytesOf s) := fun x hx => by
  unfold bytesOf at hx
  obtain ⟨b, _, rfl⟩ := List.mem_map.1 hx
  have := b.toNat_lt
  omega
theorem B.append {l m : List Int} (h : B l) (h' : B m) : B (l ++ m) := fun x hx => (List.mem_append.1 hx).elim (h x) (h' x)
theorem body_B (r : S88) : B (body r) := by
  unfold body
  refine ((be_B _ _).append ?_).append (bytes_B _)
  intro x hx
  obtain ⟨z, _, hz⟩ := List.mem_flatMap.1 hx
  exact be_B _ _ x hz
theorem frame_B (r : S88) : B (frame r) := ((be_B _ _).append (be_B _ _)).append (body_B r)
theorem frames_B (l : List S88) : B (l.flatMap frame) := fun x hx => by
  obtain ⟨r, _, h⟩ := List.mem_flatMap.1 hx
  exact frame_B r x h

theorem rd_T (l : List S88) (i : Nat) (h : i < l.length) : rd_T88 l (i : Int) = l[i] := by
  unfold rd_T88
  rw [Int.toNat_natCast, List.getD, List.getElem?_eq_getElem h]
  rfl
theorem Put_l1 (out : List Int) (l : List S88) (i : Nat) (hi : i < l.length) (hl : l.length ≤ 1000) (r : S88) (hs : Small r) (ho : out.length ≤ 100000) (R : List Int × Int × Int)
    (H : Ev (fun k => journal_Put.l0 k (out ++ frame r) l (l.length : Int) ((i + 1 : Nat) : Int)) R) : ∀ (d j : Nat), r.f0.length - j = d → j ≤ r.f0.length →
    Ev (fun k => journal_Put.l1 k out (be r.f0.length 2 ++ (r.f0.take j).flatMap num8) l (l.length : Int) (i : Int) r.f0 (r.f0.length : Int) (j : Int) r.f0 r.f1) R := by
  have hs1 := hs.1
  have hs2 := hs.2
  have hbl := body_length r
  intro d
  induction d with
  | zero =>
    intro j hd hj
    obtain rfl : j = r.f0.length := by omega
    refine Ev.succ ?_
    simp only [journal_Put.l1]
    rw [List.take_length]
    have hb : be r.f0.length 2 ++ r.f0.flatMap num8 ++ bytesOf r.f1 = body r := rfl
    have hlen : (be r.f0.length 2 ++ r.f0.flatMap num8).length = 2 + r.f0.length * 8 := by rw [List.length_append, be_length, nums_length]
    refine Ev.neg (by omega) (Ev.pos (by rw [hlen]; omega) (Ev.some_ ?_))
    rw [hb, u64_in _ (by omega) (by omega)]
    refine Ev.bind (put_f out ((body r).length : Int) (by omega) 4 (by omega) (by omega)) ?_
    refine Ev.bind (sum_f (body r) (body_B r) (by omega)) ?_
    have hsb := sumv_bd (body r)
    rw [u64_in _ (by omega) (by omega)]
    refine Ev.bind (put_f _ (sumv (body r)) (by omega) 4 (by omega) (by rw [List.length_append, be_length]; omega)) ?_
    refine Ev.pos (by rw [List.length_append, List.length_append, be_length, be_length]; omega) ?_
    rw [Int.toNat_natCast, w64 _ (by omega) (by omega), List.append_assoc, List.append_assoc, ← List.append_assoc (be _ 4)]
    exact H
  | succ d ih =>
    intro j hd hj
    refine Ev.succ ?_
    simp only [journal_Put.l1]
    have hz := u64_nn (rd r.f0 (j : Int))
    have hlen : (be r.f0.length 2 ++ (r.f0.take j).flatMap num8).length = 2 + j * 8 := by rw [List.length_append, be_length, nums_length, List.length_take, Nat.min_eq_left hj]
    refine Ev.pos (by omega) (Ev.pos (by omega) (Ev.pos (by omega) ?_))
    refine Ev.bind (put_f _ (IntKind.u64.wrap (rd r.f0 (j : Int))) hz.1 8 (by omega) (by omega)) ?_
    rw [w64 _ (by omega) (by omega)]
    have := ih (j + 1) (by omega) (by omega)
    rw [take_snoc r.f0 j (by omega), List.flatMap_append, ← List.append_assoc] at this
    simpa [num8] using this
theorem Put_l0 (l : List S88) (hl : l.length ≤ 100) (hs : ∀ r ∈ l, Small r) : ∀ (d i : Nat) (out : List Int), l.length - i = d → i ≤ l.length → out.length ≤ i * 122 →
    Ev (fun k => journal_Put.l0 k out l (l.length : Int) (i : Int)) (out ++ (l.drop i).flatMap frame, 0, 0) := by
  intro d
  induction d with
  | zero =>
    intro i out hd hi ho
    refine Ev.succ ?_
    simp only [journal_Put.l0]
    refine Ev.neg (by omega) (Ev.at_ ?_)
    rw [List.drop_eq_nil_of_le (by omega)]
    simp
  | succ d ih =>
    intro i out hd hi ho
    have hlt : i < l.length := by omega
    have hsm := hs l[i] (List.getElem_mem hlt)
    refine Ev.succ ?_
    simp only [journal_Put.l0]
    rw [rd_T l i hlt]
    refine Ev.pos (by omega) (Ev.pos (by omega) (Ev.pos (by omega) (Ev.neg (by have := hsm.1; omega) ?_)))
    rw [decide_eq_false (by have := hsm.2; omega)]
    refine Ev.succ ?_
    simp only [journal_Put.j1]
    refine Ev.neg (by decide) ?_
    rw [u64_in _ (by omega) (by have := hsm.1; omega)]
    refine Ev.bind (put_f [] (l[i].f0.length : Int) (by omega) 2 (by omega) (by simp)) ?_
    rw [Int.toNat_natCast]
    have hfl := frame_length l[i]
    have hbl := body_length l[i]
    have h1 := hsm.1
    have h2 := hsm.2
    have := Put_l1 out l i hlt (by omega) l[i] hsm (by omega) (out ++ (l.drop i).flatMap frame, 0, 0) (by
      have := ih (i + 1) (out ++ frame l[i]) (by omega) (by omega) (by rw [List.length_append]; omega)
      rw [List.append_assoc] at this
      rw [List.drop_eq_getElem_cons hlt, List.flatMap_cons]
      exact this) l[i].f0.length 0 (by omega) (by omega)
    simpa using this
theorem Put_f (l : List S88) (hl : l.length ≤ 100) (hs : ∀ r ∈ l, Small r) : Ev (fun k => journal_Put.f k l) (l.flatMap frame, 0, 0) := by
  have := Put_l0 l hl hs l.length 0 [] (by omega) (by omega) (by simp)
  simpa [journal_Put.f] using this
end Go.Proofs.Ytghghioidllgiaa.JPure
