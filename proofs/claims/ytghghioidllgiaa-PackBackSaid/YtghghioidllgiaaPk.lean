/- Numbers, bytes and bits of a packed function: plain arithmetic. -/
import Derived.Test.YtghghioidllgiaaVecS
import Derived.Laws.Bits64b
namespace Go.Proofs.Ytghghioidllgiaa.Pk
set_option linter.unusedSimpArgs false
set_option linter.unusedVariables false
open Go Go.RowKit

theorem or_byte (a b : Nat) (ha : a < 1099511627776) (hb : b < 256) : bits .or .i64 ((a : Int) * 256) b = a * 256 + b := by
  have h1 : (BitVec.ofInt 64 ((a : Int) * 256)).toNat = a * 256 := by
    rw [show (a : Int) * 256 = ((a * 256 : Nat) : Int) by omega, BitVec.ofInt_natCast, BitVec.toNat_ofNat]
    omega
  have h2 : (BitVec.ofInt 64 (b : Int)).toNat = b := by
    rw [BitVec.ofInt_natCast, BitVec.toNat_ofNat]
    omega
  have h3 : a * 256 ||| b = a * 256 + b := by
    have := Nat.shiftLeft_add_eq_or_of_lt (i := 8) (b := b) (by simpa using hb) a
    rw [Nat.shiftLeft_eq] at this
    simpa using this.symm
  unfold bits
  show IntKind.i64.wrap ((BitVec.ofInt 64 _ ||| BitVec.ofInt 64 _).toNat : Nat) = _
  rw [BitVec.toNat_or, h1, h2, h3]
  rw [IntWalk.i64_in _ (by omega)]
  omega
theorem u8_in (x : Nat) (hx : x < 256) : IntKind.u8.wrap (x : Int) = x := by
  simp [IntKind.wrap, IntKind.bits, IntKind.signed]
  omega
theorem or_bit (a r : Nat) (hr : r < 8) (ha : a < 2 ^ r) : bits .or .u8 a ((2 ^ r : Nat) : Int) = ((a + 2 ^ r : Nat) : Int) := by
  have hp : 2 ^ r ≤ 2 ^ 7 := Nat.pow_le_pow_right (by decide) (by omega)
  have h1 : (BitVec.ofInt 8 (a : Int)).toNat = a := by rw [BitVec.ofInt_natCast, BitVec.toNat_ofNat]; omega
  have h2 : (BitVec.ofInt 8 ((2 ^ r : Nat) : Int)).toNat = 2 ^ r := by rw [BitVec.ofInt_natCast, BitVec.toNat_ofNat]; omega
  have h3 : a ||| 2 ^ r = a + 2 ^ r := by
    have := Nat.two_pow_add_eq_or_of_lt (i := r) (b := a) ha 1
    rw [Nat.mul_one] at this
    rw [Nat.or_comm]
    omega
  unfold bits
  show IntKind.u8.wrap ((BitVec.ofInt 8 _ ||| BitVec.ofInt 8 _).toNat : Nat) = _
  rw [BitVec.toNat_or, h1, h2, h3]
  exact u8_in _ (by omega)
theorem and_one (x : Nat) (hx : x < 256) : bits .and .u8 x 1 = ((x % 2 : Nat) : Int) := by
  have h1 : (BitVec.ofInt 8 (x : Int)).toNat = x := by rw [BitVec.ofInt_natCast, BitVec.toNat_ofNat]; omega
  have h2 : (BitVec.ofInt 8 (1 : Int)).toNat = 1 := by decide
  unfold bits
  show IntKind.u8.wrap ((BitVec.ofInt 8 _ &&& BitVec.ofInt 8 _).toNat : Nat) = _
  rw [BitVec.toNat_and, h1, h2, Nat.and_one_is_mod]
  exact u8_in _ (by omega)

/-- so many bits as a number, the first of the lowest worth. -/
def bitsum (f : Nat → Bool) : Nat → Nat
  | 0 => 0
  | t + 1 => bitsum f t + if f t then 2 ^ t else 0
theorem bitsum_lt (f : Nat → Bool) : ∀ t, bitsum f t < 2 ^ t
  | 0 => by simp [bitsum]
  | t + 1 => by
    have := bitsum_lt f t
    unfold bitsum
    rw [Nat.pow_succ]
    split <;> omega
theorem bitsum_congr {f g : Nat → Bool} : ∀ t, (∀ r, r < t → f r = g r) → bitsum f t = bitsum g t
  | 0, _ => rfl
  | t + 1, h => by
    unfold bitsum
    rw [bitsum_congr t (fun r hr => h r (by omega)), h t (by omega)]
theorem bitsum_top {f : Nat → Bool} {s : Nat} : ∀ t, s ≤ t → (∀ r, s ≤ r → r < t → f r = false) → bitsum f t = bitsum f s
  | 0, h, _ => by rw [show s = 0 by omega]
  | t + 1, h, hf => by
    by_cases e : s = t + 1
    · rw [e]
    · show bitsum f t + _ = _
      rw [bitsum_top t (by omega) (fun r h1 h2 => hf r h1 (by omega)), hf t (by omega) (by omega)]
      rfl
theorem bitsum_of (x : Nat) {f : Nat → Bool} : ∀ t, (∀ r, r < t → f r = decide (x / 2 ^ r % 2 = 1)) → bitsum f t = x % 2 ^ t
  | 0, _ => by rw [Nat.pow_zero, Nat.mod_one]; rfl
  | t + 1, h => by
    show bitsum f t + _ = _
    rw [bitsum_of x t (fun r hr => h r (by omega)), h t (by omega), Nat.pow_succ, Nat.mod_mul]
    have h2 : x / 2 ^ t % 2 = 0 ∨ x / 2 ^ t % 2 = 1 := by omega
    rcases h2 with e | e <;> simp [e]

/-- byte j of the hits, of the first i entries. -/
def hitb (H : List Bool) (i j : Nat) : Nat := bitsum (fun r => decide (8 * j + r < i) && H.getD (8 * j + r) false) 8
theorem hitb_lt (H : List Bool) (i j : Nat) : hitb H i j < 256 := bitsum_lt _ 8
theorem hitb_zero (H : List Bool) (j : Nat) : hitb H 0 j = 0 := by
  unfold hitb
  rw [bitsum_top (s := 0) 8 (by omega) (fun r _ _ => by simp)]
  rfl
theorem hitb_skip (H : List Bool) (i j : Nat) (h : H.getD i false = false ∨ j ≠ i / 8) : hitb H (i + 1) j = hitb H i j := by
  unfold hitb
  refine bitsum_congr 8 fun r hr => ?_
  by_cases e : 8 * j + r = i
  · rcases h with h | h
    · rw [e, h, Bool.and_false, Bool.and_false]
    · omega
  · have : (8 * j + r < i + 1) ↔ (8 * j + r < i) := by omega
    simp only [this]
/-- the bits ahead of entry i. -/
theorem hitb_part (H : List Bool) (i : Nat) : hitb H i (i / 8) = bitsum (fun r => decide (8 * (i / 8) + r < i) && H.getD (8 * (i / 8) + r) false) (i % 8) := by
  unfold hitb
  exact bitsum_top 8 (by omega) (fun r h1 h2 => by rw [decide_eq_false (by omega), Bool.false_and])
theorem hitb_part_lt (H : List Bool) (i : Nat) : hitb H i (i / 8) < 2 ^ (i % 8) := by rw [hitb_part]; exact bitsum_lt _ _
theorem hitb_set (H : List Bool) (i : Nat) (h : H.getD i false = true) : hitb H (i + 1) (i / 8) = hitb H i (i / 8) + 2 ^ (i % 8) := by
  rw [hitb_part]
  unfold hitb
  rw [bitsum_top (s := i % 8 + 1) 8 (by omega) (fun r h1 h2 => by rw [decide_eq_false (by omega), Bool.false_and])]
  show bitsum _ (i % 8) + _ = _
  have e : 8 * (i / 8) + i % 8 = i := by omega
  rw [bitsum_congr (g := fun r => decide (8 * (i / 8) + r < i) && H.getD (8 * (i / 8) + r) false) (i % 8) (fun r hr => by rw [decide_eq_true (by omega), decide_eq_true (by omega)])]
  simp only [e, h, Bool.and_true, decide_eq_true (show i < i + 1 by omega), if_true]

/-- how many bytes an entry, and a whole function, has. -/
def wid (n : Nat) : Nat := if 256 < n then 2 else 1
theorem wid_cases (n : Nat) : (256 < n ∧ wid n = 2) ∨ (n ≤ 256 ∧ wid n = 1) := by
  unfold wid
  split
  · exact .inl ⟨by omega, rfl⟩
  · exact .inr ⟨by omega, rfl⟩
def siz (n : Nat) : Nat := 2 + n * wid n + (n + 7) / 8
theorem siz_le (n : Nat) (h : n ≤ 4096) : siz n ≤ 10000 := by
  unfold siz
  rcases wid_cases n with ⟨_, e⟩ | ⟨_, e⟩ <;> rw [e] <;> omega
/-- an entry's bytes. -/
def ent (n : Nat) (s : Int) : List Nat := if 256 < n then [s.toNat / 256, s.toNat % 256] else [s.toNat]
theorem ent_length (n : Nat) (s : Int) : (ent n s).length = wid n := by unfold ent wid; split <;> rfl
/-- a function's bytes. -/
def ents (n : Nat) (T : List Int) (k : Nat) : List Nat := (T.take k).flatMap (ent n)
def pack (n : Nat) (T : List Int) (H : List Bool) : List Nat := [n / 256, n % 256] ++ ents n T n ++ (List.range ((n + 7) / 8)).map (hitb H n)
theorem ents_length (n : Nat) (T : List Int) : ∀ k, k ≤ T.length → (ents n T k).length = k * wid n
  | 0, _ => by simp [ents]
  | k + 1, h => by
    unfold ents
    rw [List.take_add_one, List.getElem?_eq_getElem (by omega), List.flatMap_append, List.length_append]
    have := ents_length n T k (by omega)
    unfold ents at this
    rw [this]
    simp [ent_length]
    rw [Nat.succ_mul]
theorem ents_succ (n : Nat) (T : List Int) (k : Nat) (h : k < T.length) : ents n T (k + 1) = ents n T k ++ ent n (T.getD k 0) := by
  unfold ents
  rw [List.take_add_one, List.getElem?_eq_getElem h, List.flatMap_append]
  simp [List.getD, h]
theorem pack_length (n : Nat) (T : List Int) (H : List Bool) (h : T.length = n) : (pack n T H).length = siz n := by
  unfold pack siz
  rw [List.length_append, List.length_append, ents_length n T n (by omega)]
  simp
end Go.Proofs.Ytghghioidllgiaa.Pk
