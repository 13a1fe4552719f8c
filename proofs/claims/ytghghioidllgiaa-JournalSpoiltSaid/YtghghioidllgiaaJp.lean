/- Journals: what bytes are read as; plain lists and numbers, over the printed functions. -/
import Derived.Test.YtghghioidllgiaaPJx5
namespace Go.Proofs.Ytghghioidllgiaa.JPure
set_option linter.unusedSimpArgs false
set_option linter.unusedVariables false
open Go.RowKit Go.Proofs.Ytghghioidllgiaa.PJ Go.Proofs.YtghghioidllgiaaW.PrintWords Go.Proofs.YtghghioidllgiaaW.PrintLast Go.Proofs.YtghghioidllgiaaW.PrintMore
set_option linter.unusedVariables false

section
variable {α β : Type} {g f : Nat → Option α} {r : α} {c : Prop} [Decidable c]
theorem Ev.succ (h : Ev (fun k => g (k + 1)) r) : Ev g r := Ev.step (fun _ => rfl) h
theorem Ev.pos (hc : c) (h : Ev f r) : Ev (fun k => if c then f k else g k) r := Ev.congr (fun _ => if_pos hc) h
theorem Ev.neg (hc : ¬ c) (h : Ev g r) : Ev (fun k => if c then f k else g k) r := Ev.congr (fun _ => if_neg hc) h
theorem Ev.some_ {a : β} {q : Nat → β → Option α} (h : Ev (fun k => q k a) r) : Ev (fun k => (some a).bind (q k)) r := Ev.congr (fun _ => rfl) h
theorem Ev.at_ {a b : α} (e : a = b) : Ev (fun _ => some a) b := by subst e; exact Ev.now a
end

/-- bytes. -/
def B (l : List Int) : Prop := ∀ x ∈ l, 0 ≤ x ∧ x < 256
theorem B.take {l : List Int} (h : B l) (n : Nat) : B (l.take n) := fun x hx => h x (List.mem_of_mem_take hx)
theorem B.drop {l : List Int} (h : B l) (n : Nat) : B (l.drop n) := fun x hx => h x (List.mem_of_mem_drop hx)
theorem B.rd {l : List Int} (h : B l) (i : Int) : 0 ≤ rd l i ∧ rd l i < 256 := by
  unfold Go.Proofs.YtghghioidllgiaaW.PrintWords.rd
  rw [List.getD]
  cases e : l[i.toNat]? with
  | none => simp
  | some x => exact h x (List.mem_of_getElem? e)
theorem rd_get (l : List Int) (i : Nat) (h : i < l.length) : rd l (i : Int) = l[i] := by
  unfold Go.Proofs.YtghghioidllgiaaW.PrintWords.rd
  rw [Int.toNat_natCast, List.getD, List.getElem?_eq_getElem h]
  rfl
theorem take_snoc (l : List Int) (i : Nat) (h : i < l.length) : l.take (i + 1) = l.take i ++ [rd l (i : Int)] := by
  rw [List.take_add_one, List.getElem?_eq_getElem h, rd_get l i h]
  rfl

/-! numbers -/
def numv (l : List Int) : Int := l.foldl (fun n x => n * 256 + x) 0
theorem numv_nil : numv [] = 0 := rfl
theorem numv_snoc (l : List Int) (x : Int) : numv (l ++ [x]) = numv l * 256 + x := by simp [numv, List.foldl_append]
theorem numv_lt {l : List Int} (h : B l) : ∀ n, n ≤ l.length → 0 ≤ numv (l.take n) ∧ numv (l.take n) < 256 ^ n
  | 0, _ => by simp [numv]
  | n + 1, hn => by
    have ih := numv_lt h n (by omega)
    rw [take_snoc l n (by omega), numv_snoc]
    have hr := h.rd (n : Int)
    rw [show (256 : Int) ^ (n + 1) = 256 ^ n * 256 from Int.pow_succ ..]
    generalize (256 : Int) ^ n = p at ih ⊢
    generalize numv (l.take n) = q at ih ⊢
    omega
theorem numv_all {l : List Int} (h : B l) : 0 ≤ numv l ∧ numv l < 256 ^ l.length := by
  have := numv_lt h l.length (Nat.le_refl _)
  rwa [List.take_length] at this
theorem pow_le {a b : Nat} (h : a ≤ b) : (256 : Int) ^ a ≤ 256 ^ b := by
  have h1 := Nat.pow_le_pow_right (n := 256) (by decide) h
  have h2 : ((256 ^ a : Nat) : Int) ≤ ((256 ^ b : Nat) : Int) := Int.ofNat_le.2 h1
  rw [Int.natCast_pow, Int.natCast_pow] at h2
  exact h2
theorem u64_in (x : Int) (h0 : 0 ≤ x) (h : x < 18446744073709551616) : IntKind.u64.wrap x = x := by
  have e : IntKind.u64.wrap x = x % 18446744073709551616 := rfl
  rw [e]
  omega
theorem u32_in (x : Int) (h0 : 0 ≤ x) (h : x < 4294967296) : IntKind.u32.wrap x = x := by
  have e : IntKind.u32.wrap x = x % 4294967296 := rfl
  rw [e]
  omega
theorem w64 (x : Int) (h0 : -9223372036854775808 ≤ x) (h : x < 9223372036854775808) : wrap64 x = x := by unfold wrap64; omega
theorem or_u64 (a b : Int) (ha : 0 ≤ a) (ha2 : a < 72057594037927936) (hb : 0 ≤ b) (hb2 : b < 256) : Go.bits .or .u64 (a * 256) b = a * 256 + b := by
  obtain ⟨a, rfl⟩ := Int.eq_ofNat_of_zero_le ha
  obtain ⟨b, rfl⟩ := Int.eq_ofNat_of_zero_le hb
  have h1 : (BitVec.ofInt 64 ((a : Int) * 256)).toNat = a * 256 := by
    rw [show (a : Int) * 256 = ((a * 256 : Nat) : Int) by omega, BitVec.ofInt_natCast, BitVec.toNat_ofNat]
    omega
  have h2 : (BitVec.ofInt 64 (b : Int)).toNat = b := by
    rw [BitVec.ofInt_natCast, BitVec.toNat_ofNat]
    omega
  have h3 : a * 256 ||| b = a * 256 + b := by
    have := Nat.shiftLeft_add_eq_or_of_lt (i := 8) (b := b) (by omega) a
    rw [Nat.shiftLeft_eq] at this
    simpa using this.symm
  unfold Go.bits
  show IntKind.u64.wrap ((BitVec.ofInt 64 _ ||| BitVec.ofInt 64 _).toNat : Nat) = _
  rw [BitVec.toNat_or, h1, h2, h3, u64_in _ (by omega) (by omega)]
  omega
theorem or_u32 (a b : Int) (ha : 0 ≤ a) (ha2 : a < 65536) (hb : 0 ≤ b) (hb2 : b < 65536) : Go.bits .or .u32 (a * 65536) b = a * 65536 + b := by
  obtain ⟨a, rfl⟩ := Int.eq_ofNat_of_zero_le ha
  obtain ⟨b, rfl⟩ := Int.eq_ofNat_of_zero_le hb
  have h1 : (BitVec.ofInt 32 ((a : Int) * 65536)).toNat = a * 65536 := by
    rw [show (a : Int) * 65536 = ((a * 65536 : Nat) : Int) by omega, BitVec.ofInt_natCast, BitVec.toNat_ofNat]
    omega
  have h2 : (BitVec.ofInt 32 (b : Int)).toNat = b := by
    rw [BitVec.ofInt_natCast, BitVec.toNat_ofNat]
    omega
  have h3 : a * 65536 ||| b = a * 65536 + b := by
    have := Nat.shiftLeft_add_eq_or_of_lt (i := 16) (b := b) (by omega) a
    rw [Nat.shiftLeft_eq] at this
    simpa using this.symm
  unfold Go.bits
  show IntKind.u32.wrap ((BitVec.ofInt 32 _ ||| BitVec.ofInt 32 _).toNat : Nat) = _
  rw [BitVec.toNat_or, h1, h2, h3, u32_in _ (by omega) (by omega)]
  omega

theorem get_l0 (l : List Int) (hB : B l) (h8 : l.length ≤ 8) : ∀ (d i : Nat), l.length - i = d → i ≤ l.length → Ev (fun k => journal_get.l0 k (numv (l.take i)) l (l.length : Int) (i : Int)) (numv l) := by
  intro d
  induction d with
  | zero =>
    intro i hd hi
    refine Ev.succ ?_
    simp only [journal_get.l0]
    refine Ev.neg (by omega) ?_
    rw [List.take_of_length_le (by omega)]
    exact Ev.now _
  | succ d ih =>
    intro i hd hi
    refine Ev.succ ?_
    simp only [journal_get.l0]
    refine Ev.pos (by omega) (Ev.pos (by omega) (Ev.pos (by omega) ?_))
    have hn := numv_lt hB i hi
    have hp := pow_le (show i ≤ 7 by omega)
    have hr := hB.rd (i : Int)
    have e0 : (256 : Int) ^ 7 = 72057594037927936 := by decide
    rw [u64_in _ (by omega) (by omega), u64_in _ (by omega) (by omega), or_u64 _ _ hn.1 (by omega) hr.1 hr.2, ← numv_snoc, ← take_snoc l i (by omega), w64 _ (by omega) (by omega)]
    exact ih (i + 1) (by omega) (by omega)
theorem get_f (l : List Int) (hB : B l) (h8 : l.length ≤ 8) : Ev (fun k => journal_get.f k l) (numv l) := get_l0 l hB h8 l.length 0 (by omega) (by omega)
theorem number_l0 (l : List Int) (hB : B l) (h8 : l.length ≤ 8) : ∀ (d i : Nat), l.length - i = d → i ≤ l.length → Ev (fun k => tattingref44_number.l0 k l (numv (l.take i)) (i : Int)) (numv l) := by
  intro d
  induction d with
  | zero =>
    intro i hd hi
    refine Ev.succ ?_
    simp only [tattingref44_number.l0]
    refine Ev.neg (by omega) ?_
    rw [List.take_of_length_le (by omega)]
    exact Ev.now _
  | succ d ih =>
    intro i hd hi
    refine Ev.succ ?_
    simp only [tattingref44_number.l0]
    refine Ev.pos (by omega) (Ev.pos (by omega) ?_)
    have hn := numv_lt hB i hi
    have hp := pow_le (show i ≤ 7 by omega)
    have hr := hB.rd (i : Int)
    have e0 : (256 : Int) ^ 7 = 72057594037927936 := by decide
    rw [u64_in (_ * 256) (by omega) (by omega), u64_in (rd l _) (by omega) (by omega), u64_in _ (by omega) (by omega), ← numv_snoc, ← take_snoc l i (by omega), w64 _ (by omega) (by omega)]
    exact ih (i + 1) (by omega) (by omega)
theorem number_f (l : List Int) (hB : B l) (h8 : l.length ≤ 8) : Ev (fun k => tattingref44_number.f k l) (numv l) := number_l0 l hB h8 l.length 0 (by omega) (by omega)

/-! sums -/
def S (l : List Int) : Nat → Int
  | 0 => 0
  | i + 1 => S l i + rd l (i : Int)
def C (l : List Int) : Nat → Int
  | 0 => 0
  | i + 1 => C l i + (1 + S l (i + 1))
def E (l : List Int) (n : Int) : Nat → Int
  | 0 => 0
  | j + 1 => E l n j + (n - (j : Int)) * rd l (j : Int)
theorem S_bd {l : List Int} (hB : B l) : ∀ i : Nat, 0 ≤ S l i ∧ S l i ≤ 255 * (i : Int)
  | 0 => by simp [S]
  | i + 1 => by
    have := S_bd hB i
    have := hB.rd (i : Int)
    unfold S
    omega
theorem E_succ (l : List Int) (n : Int) : ∀ j : Nat, E l (n + 1) j = E l n j + S l j
  | 0 => by simp [E, S]
  | j + 1 => by
    have := E_succ l n j
    unfold E S
    rw [this, show n + 1 - (j : Int) = (n - j) + 1 by omega, Int.add_mul, Int.one_mul]
    omega
theorem C_eq (l : List Int) : ∀ i : Nat, C l i = E l (i : Int) i + (i : Int)
  | 0 => by simp [C, E]
  | i + 1 => by
    have ih := C_eq l i
    have h1 := E_succ l (i : Int) i
    have h2 : E l ((i : Int) + 1) (i + 1) = E l ((i : Int) + 1) i + ((i : Int) + 1 - (i : Int)) * rd l (i : Int) := rfl
    have h3 : S l (i + 1) = S l i + rd l (i : Int) := rfl
    unfold C
    rw [show (((i + 1 : Nat)) : Int) = (i : Int) + 1 by omega, h2, h1, ih, h3, show (i : Int) + 1 - (i : Int) = 1 by omega, Int.one_mul]
    omega
theorem E_bd {l : List Int} (hB : B l) (n : Nat) : ∀ j : Nat, j ≤ n → 0 ≤ E l (n : Int) j ∧ E l (n : Int) j ≤ (j : Int) * ((n : Int) * 255)
  | 0, _ => by simp [E]
  | j + 1, hj => by
    have ih := E_bd hB n j (by omega)
    have hr := hB.rd (j : Int)
    have h1 : 0 ≤ ((n : Int) - (j : Int)) * rd l (j : Int) := Int.mul_nonneg (by omega) hr.1
    have h2 : ((n : Int) - (j : Int)) * rd l (j : Int) ≤ (n : Int) * 255 := Int.mul_le_mul (by omega) (by omega) hr.1 (by omega)
    unfold E
    rw [show (((j + 1 : Nat)) : Int) = (j : Int) + 1 by omega, Int.add_mul, Int.one_mul]
    omega
def sumv (l : List Int) : Int := C l l.length % 65521 * 65536 + (1 + S l l.length) % 65521
theorem sumv_bd (l : List Int) : 0 ≤ sumv l ∧ sumv l < 4294967296 := by unfold sumv; omega
theorem sum_l0 (l : List Int) (hB : B l) (hl : l.length ≤ 2000000) : ∀ (d i : Nat), l.length - i = d → i ≤ l.length → Ev (fun k => journal_Sum.l0 k ((1 + S l i) % 65521) (C l i % 65521) l (l.length : Int) (i : Int)) (sumv l) := by
  intro d
  induction d with
  | zero =>
    intro i hd hi
    refine Ev.succ ?_
    simp only [journal_Sum.l0]
    refine Ev.neg (by omega) ?_
    obtain rfl : i = l.length := by omega
    refine Ev.at_ ?_
    rw [Int.emod_eq_of_lt (by omega) (by omega), or_u32 _ _ (by omega) (by omega) (by omega) (by omega)]
    rfl
  | succ d ih =>
    intro i hd hi
    refine Ev.succ ?_
    simp only [journal_Sum.l0]
    refine Ev.pos (by omega) (Ev.pos (by omega) (Ev.pos (by omega) ?_))
    have hr := hB.rd (i : Int)
    have e1 : (((1 + S l i) % 65521 + rd l (i : Int) % 4294967296) % 4294967296) % 65521 = (1 + S l (i + 1)) % 65521 := by
      show _ = (1 + (S l i + rd l (i : Int))) % 65521
      omega
    have e2 : (C l i % 65521 + (1 + S l (i + 1)) % 65521) % 4294967296 % 65521 = C l (i + 1) % 65521 := by
      show _ = (C l i + (1 + S l (i + 1))) % 65521
      omega
    rw [e1, e2, w64 _ (by omega) (by omega)]
    exact ih (i + 1) (by omega) (by omega)
theorem sum_f (l : List Int) (hB : B l) (hl : l.length ≤ 2000000) : Ev (fun k => journal_Sum.f k l) (sumv l) := sum_l0 l hB hl l.length 0 (by omega) (by omega)
theorem rsum_l1 (l : List Int) (hB : B l) (hl : l.length ≤ 2000000) : ∀ (d i : Nat), l.length - i = d → i ≤ l.length → Ev (fun k => tattingref44_Sum.l1 k l (1 + S l l.length) (E l (l.length : Int) i) (i : Int)) (sumv l) := by
  have hs := S_bd hB l.length
  intro d
  induction d with
  | zero =>
    intro i hd hi
    refine Ev.succ ?_
    simp only [tattingref44_Sum.l1]
    refine Ev.neg (by omega) ?_
    obtain rfl : i = l.length := by omega
    refine Ev.at_ ?_
    have hE := E_bd hB l.length l.length (Nat.le_refl _)
    have hb : (l.length : Int) * ((l.length : Int) * 255) ≤ 2000000 * (2000000 * 255) := Int.mul_le_mul (by omega) (by omega) (by omega) (by omega)
    have hC := C_eq l l.length
    rw [w64 (E l _ _ + _) (by omega) (by omega), Int.tmod_eq_emod_of_nonneg (by omega), Int.tmod_eq_emod_of_nonneg (by omega), w64 (_ * 65536) (by omega) (by omega), w64 _ (by omega) (by omega), ← hC]
    rfl
  | succ d ih =>
    intro i hd hi
    refine Ev.succ ?_
    simp only [tattingref44_Sum.l1]
    refine Ev.pos (by omega) (Ev.pos (by omega) ?_)
    have hr := hB.rd (i : Int)
    have hE := E_bd hB l.length i (by omega)
    have hE2 := E_bd hB l.length (i + 1) (by omega)
    have hb : ((i + 1 : Nat) : Int) * ((l.length : Int) * 255) ≤ 2000000 * (2000000 * 255) := Int.mul_le_mul (by omega) (by omega) (by omega) (by omega)
    have h1 : 0 ≤ ((l.length : Int) - (i : Int)) * rd l (i : Int) := Int.mul_nonneg (by omega) hr.1
    have h2 : ((l.length : Int) - (i : Int)) * rd l (i : Int) ≤ (l.length : Int) * 255 := Int.mul_le_mul (by omega) (by omega) hr.1 (by omega)
    have e : E l (l.length : Int) (i + 1) = E l (l.length : Int) i + ((l.length : Int) - (i : Int)) * rd l (i : Int) := rfl
    rw [w64 (rd l _) (by omega) (by omega), w64 ((l.length : Int) - _) (by omega) (by omega), w64 (_ * _) (by omega) (by omega), ← e, w64 (E l _ _) (by omega) (by omega), w64 ((i : Int) + 1) (by omega) (by omega)]
    exact ih (i + 1) (by omega) (by omega)
theorem rsum_l0 (l : List Int) (hB : B l) (hl : l.length ≤ 2000000) : ∀ (d i : Nat), l.length - i = d → i ≤ l.length → Ev (fun k => tattingref44_Sum.l0 k l (1 + S l i) (i : Int)) (sumv l) := by
  intro d
  induction d with
  | zero =>
    intro i hd hi
    refine Ev.succ ?_
    simp only [tattingref44_Sum.l0]
    refine Ev.neg (by omega) ?_
    obtain rfl : i = l.length := by omega
    exact rsum_l1 l hB hl l.length 0 (by omega) (by omega)
  | succ d ih =>
    intro i hd hi
    refine Ev.succ ?_
    simp only [tattingref44_Sum.l0]
    refine Ev.pos (by omega) (Ev.pos (by omega) ?_)
    have hr := hB.rd (i : Int)
    have hs := S_bd hB i
    have e : 1 + S l (i + 1) = (1 + S l i) + rd l (i : Int) := by show 1 + (S l i + rd l (i : Int)) = _; omega
    rw [w64 (rd l _) (by omega) (by omega), ← e, w64 (1 + _) (by omega) (by omega), w64 ((i : Int) + 1) (by omega) (by omega)]
    exact ih (i + 1) (by omega) (by omega)
theorem rsum_f (l : List Int) (hB : B l) (hl : l.length ≤ 2000000) : Ev (fun k => tattingref44_Sum.f k l) (sumv l) := rsum_l0 l hB hl l.length 0 (by omega) (by omega)
end Go.Proofs.Ytghghioidllgiaa.JPure
