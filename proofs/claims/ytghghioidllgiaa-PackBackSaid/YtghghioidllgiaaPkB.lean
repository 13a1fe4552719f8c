/- What was read, written again: the same bytes, where no bits stand behind the last hit. -/
import Derived.Test.YtghghioidllgiaaPkG
namespace Go.Proofs.Ytghghioidllgiaa.Pk
set_option linter.unusedSimpArgs false
set_option linter.unusedVariables false
open Go Go.RowKit
open Go.Proofs.Ytghghioidllgiaa.Vec (SlI iv bv FunAt Right)

theorem getD_take_drop (bs : List Nat) (o m i : Nat) (hi : i < m) : ((bs.drop o).take m).getD i 0 = bs.getD (o + i) 0 := by
  simp only [List.getD, List.getElem?_take_of_lt hi, List.getElem?_drop]
theorem take_succ_drop (bs : List Nat) (o m : Nat) (h : o + m < bs.length) : (bs.drop o).take (m + 1) = (bs.drop o).take m ++ [bs.getD (o + m) 0] := by
  rw [List.take_add_one, List.getElem?_drop]
  simp [List.getD, h]
theorem getTs_getD (bs : List Nat) (k i : Nat) (hi : i < k) : (getTs bs k).getD i 0 = (getT bs k i : Int) := by simp [getTs, List.getD, hi]
theorem getHs_getD (bs : List Nat) (k i : Nat) (hi : i < k) : (getHs bs k).getD i false = getH bs k i := by simp [getHs, List.getD, hi]

theorem ents_back (bs : List Nat) (hB : Byt bs) (k : Nat) (hl : 2 + k * wid k ≤ bs.length) : ∀ j, j ≤ k → ents k (getTs bs k) j = (bs.drop 2).take (j * wid k)
  | 0, _ => by simp [ents]
  | j + 1, hj => by
    have hjw : j * wid k + wid k ≤ k * wid k := by rw [← Nat.succ_mul]; exact Nat.mul_le_mul_right _ hj
    rw [ents_succ k _ j (by rw [getTs_length]; omega), ents_back bs hB k hl j (by omega), getTs_getD bs k j (by omega), Nat.succ_mul]
    have hb : ∀ i, bs.getD i 0 < 256 := hB
    unfold getT
    rcases wid_cases k with ⟨h, e⟩ | ⟨h, e⟩
    · rw [e] at hjw ⊢
      have e1 : part bs k j 2 = bs.getD (2 + j * 2) 0 * 256 + bs.getD (2 + j * 2 + 1) 0 := by
        show (part bs k j 0 * 256 + bs.getD (2 + j * wid k + 0) 0) * 256 + bs.getD (2 + j * wid k + 1) 0 = _
        rw [e]
        simp [part]
      have h0 := hb (2 + j * 2)
      have h1 := hb (2 + j * 2 + 1)
      rw [e1, show j * 2 + 2 = (j * 2 + 1) + 1 from rfl, take_succ_drop bs 2 (j * 2 + 1) (by rw [e] at hl; omega), take_succ_drop bs 2 (j * 2) (by rw [e] at hl; omega), List.append_assoc]
      unfold ent
      rw [if_pos h]
      rw [show 2 + (j * 2 + 1) = 2 + j * 2 + 1 by omega]
      generalize bs.getD (2 + j * 2) 0 = p at h0 ⊢
      generalize bs.getD (2 + j * 2 + 1) 0 = q at h1 ⊢
      rw [Int.toNat_natCast, show (p * 256 + q) / 256 = p by omega, show (p * 256 + q) % 256 = q by omega]
      rfl
    · rw [e] at hjw ⊢
      have e1 : part bs k j 1 = bs.getD (2 + j * 1) 0 := by
        show part bs k j 0 * 256 + bs.getD (2 + j * wid k + 0) 0 = _
        rw [e]
        simp [part]
      rw [e1, take_succ_drop bs 2 (j * 1) (by rw [e] at hl; omega)]
      unfold ent
      rw [if_neg (by omega), Int.toNat_natCast]

theorem hit_full (bs : List Nat) (hB : Byt bs) (k j : Nat) (hj : 8 * j + 8 ≤ k) : hitb (getHs bs k) k j = bs.getD (2 + k * wid k + j) 0 := by
  unfold hitb
  rw [bitsum_of (bs.getD (2 + k * wid k + j) 0) 8 (fun r hr => ?_)]
  · exact Nat.mod_eq_of_lt (hB _)
  · rw [decide_eq_true (by omega), Bool.true_and, getHs_getD _ _ _ (by omega)]
    unfold getH
    rw [show (8 * j + r) / 8 = j by omega, show (8 * j + r) % 8 = r by omega]
theorem hit_part (bs : List Nat) (k : Nat) (hk : k % 8 ≠ 0) : hitb (getHs bs k) k (k / 8) = bs.getD (2 + k * wid k + k / 8) 0 % 2 ^ (k % 8) := by
  rw [hitb_part]
  refine bitsum_of _ _ fun r hr => ?_
  rw [decide_eq_true (by omega), Bool.true_and, getHs_getD _ _ _ (by omega)]
  unfold getH
  rw [show (8 * (k / 8) + r) / 8 = k / 8 by omega, show (8 * (k / 8) + r) % 8 = r by omega]
theorem hits_back (bs : List Nat) (hB : Byt bs) (k : Nat) (hl : siz k ≤ bs.length) : (List.range ((k + 7) / 8)).map (hitb (getHs bs k) k) = (bs.drop (2 + k * wid k)).take ((k + 7) / 8) ↔ Clean bs k := by
  have hsz : siz k = 2 + k * wid k + (k + 7) / 8 := rfl
  constructor
  · intro h
    by_cases hk : k % 8 = 0
    · exact .inl hk
    · right
      have e : ((List.range ((k + 7) / 8)).map (hitb (getHs bs k) k)).getD (k / 8) 0 = ((bs.drop (2 + k * wid k)).take ((k + 7) / 8)).getD (k / 8) 0 := by rw [h]
      rw [getD_take_drop _ _ _ _ (by omega)] at e
      have e2 : ((List.range ((k + 7) / 8)).map (hitb (getHs bs k) k)).getD (k / 8) 0 = hitb (getHs bs k) k (k / 8) := by
        have : k / 8 < (k + 7) / 8 := by omega
        simp [List.getD, this]
      rw [e2, hit_part bs k hk] at e
      rw [show siz k - 1 = 2 + k * wid k + k / 8 by rw [hsz]; omega]
      generalize bs.getD (2 + k * wid k + k / 8) 0 = y at e ⊢
      rw [← e]
      exact Nat.div_eq_of_lt (Nat.mod_lt _ (Nat.pow_pos (by decide)))
  · intro h
    refine List.ext_getElem? fun j => ?_
    by_cases hj : j < (k + 7) / 8
    · have e1 : ((List.range ((k + 7) / 8)).map (hitb (getHs bs k) k))[j]? = some (hitb (getHs bs k) k j) := by simp [hj]
      have e2 : ((bs.drop (2 + k * wid k)).take ((k + 7) / 8))[j]? = some (bs.getD (2 + k * wid k + j) 0) := by
        rw [List.getElem?_take_of_lt hj, List.getElem?_drop]
        have : 2 + k * wid k + j < bs.length := by omega
        simp [List.getD, this]
      rw [e1, e2]
      by_cases hf : 8 * j + 8 ≤ k
      · rw [hit_full bs hB k j hf]
      · have hk : k % 8 ≠ 0 := by omega
        have ej : j = k / 8 := by omega
        subst ej
        rw [hit_part bs k hk]
        have h0 := h.resolve_left hk
        rw [show siz k - 1 = 2 + k * wid k + k / 8 by rw [hsz]; omega] at h0
        generalize bs.getD (2 + k * wid k + k / 8) 0 = y at h0 ⊢
        have hp : 0 < 2 ^ (k % 8) := Nat.pow_pos (by decide)
        have := (Nat.div_eq_zero_iff.1 h0).resolve_left (by omega)
        rw [Nat.mod_eq_of_lt this]
    · have e1 : ((List.range ((k + 7) / 8)).map (hitb (getHs bs k) k))[j]? = none := by simp; omega
      have e2 : ((bs.drop (2 + k * wid k)).take ((k + 7) / 8))[j]? = none := by simp; omega
      rw [e1, e2]
theorem take_two : ∀ (bs : List Nat), 2 ≤ bs.length → bs.take 2 = [bs.getD 0 0, bs.getD 1 0]
  | [], h => by simp at h
  | [_], h => by simp at h
  | _ :: _ :: _, _ => rfl
theorem pack_back (bs : List Nat) (hB : Byt bs) (k : Nat) (hk : cnt bs = k) (hl : siz k ≤ bs.length) : pack k (getTs bs k) (getHs bs k) = bs.take (siz k) ↔ Clean bs k := by
  have hsz : siz k = 2 + k * wid k + (k + 7) / 8 := rfl
  have h2 : 2 ≤ bs.length := by omega
  have e1 : bs.take (siz k) = bs.take 2 ++ (bs.drop 2).take (k * wid k) ++ (bs.drop (2 + k * wid k)).take ((k + 7) / 8) := by
    rw [hsz, List.take_add, List.take_add]
  have e0 : bs.take 2 = [k / 256, k % 256] := by
    have h0 := hB 0
    have h1 := hB 1
    unfold cnt at hk
    rw [take_two bs h2]
    generalize bs.getD 0 0 = p at h0 hk ⊢
    generalize bs.getD 1 0 = q at h1 hk ⊢
    rw [show k / 256 = p by omega, show k % 256 = q by omega]
  rw [e1, e0]
  unfold pack
  rw [ents_back bs hB k (by omega) k (Nat.le_refl _)]
  rw [← hits_back bs hB k hl]
  exact List.append_right_inj _
end Go.Proofs.Ytghghioidllgiaa.Pk
