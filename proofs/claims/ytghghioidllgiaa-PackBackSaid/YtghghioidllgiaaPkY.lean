/- What was written is read again: the same function; a byte less is too few. -/
import Derived.Test.YtghghioidllgiaaPkB
import Derived.Test.YtghghioidllgiaaPkI
namespace Go.Proofs.Ytghghioidllgiaa.Pk
set_option linter.unusedSimpArgs false
set_option linter.unusedVariables false
open Go Go.RowKit
open Go.Proofs.Ytghghioidllgiaa.Vec (SlI iv bv FunAt Right)

theorem bitsum_bit (f : Nat → Bool) : ∀ t r, r < t → decide (bitsum f t / 2 ^ r % 2 = 1) = f r
  | 0, r, h => by omega
  | t + 1, r, h => by
    show decide ((bitsum f t + _) / 2 ^ r % 2 = 1) = f r
    by_cases e : r = t
    · subst e
      have hl := bitsum_lt f r
      cases hf : f r
      · simp [Nat.div_eq_of_lt hl]
      · rw [if_pos rfl, Nat.add_div_right _ (Nat.pow_pos (by decide)), Nat.div_eq_of_lt hl]; rfl
    · have ih := bitsum_bit f t r (by omega)
      rw [← ih]
      cases hf : f t
      · simp
      · rw [if_pos rfl]
        have e2 : 2 ^ t = 2 ^ r * (2 * 2 ^ (t - r - 1)) := by
          rw [← Nat.pow_succ', ← Nat.pow_add]
          congr 1
          omega
        rw [e2, Nat.add_mul_div_left _ _ (Nat.pow_pos (by decide)), Nat.add_mul_mod_self_left]
theorem ent_inj {n : Nat} {s t : Int} (hs : 0 ≤ s) (ht : 0 ≤ t) (h : ent n s = ent n t) : s = t := by
  unfold ent at h
  split at h
  · simp at h; omega
  · simp at h; omega
theorem ents_inj (n : Nat) : ∀ (T T' : List Int), T.length = T'.length → (∀ s ∈ T, 0 ≤ s) → (∀ s ∈ T', 0 ≤ s) → T.flatMap (ent n) = T'.flatMap (ent n) → T = T'
  | [], [], _, _, _, _ => rfl
  | [], _ :: _, h, _, _, _ => by simp at h
  | _ :: _, [], h, _, _, _ => by simp at h
  | s :: T, t :: T', h, hs, ht, e => by
    rw [List.flatMap_cons, List.flatMap_cons] at e
    obtain ⟨e1, e2⟩ := List.append_inj e (by rw [ent_length, ent_length])
    rw [ent_inj (hs s (by simp)) (ht t (by simp)) e1, ents_inj n T T' (by simpa using h) (fun x hx => hs x (by simp [hx])) (fun x hx => ht x (by simp [hx])) e2]

section
variable {n : Nat} {T : List Int} {H : List Bool} {M : List Nat}
theorem put_cnt (n0 : n ≤ 4096) (M : List Nat) : cnt (pack n T H ++ M) = n := by
  unfold cnt pack
  show n / 256 * 256 + n % 256 = n
  omega
theorem put_drop2 (hT : T.length = n) (M : List Nat) : ((pack n T H ++ M).drop 2).take (n * wid n) = ents n T n := by
  unfold pack
  show ((ents n T n ++ _) ++ M).take (n * wid n) = _
  rw [List.append_assoc, List.take_left' (ents_length n T n (by omega))]
theorem put_hit (hT : T.length = n) (M : List Nat) (j : Nat) (hj : j < (n + 7) / 8) : (pack n T H ++ M).getD (2 + n * wid n + j) 0 = hitb H n j := by
  have hp : ([n / 256, n % 256] ++ ents n T n).length = 2 + n * wid n := by rw [List.length_append, ents_length n T n (by omega)]; rfl
  unfold pack
  rw [List.append_assoc, List.getD, List.getElem?_append_right (by omega), hp, Nat.add_sub_cancel_left, List.getElem?_append_left (by simpa using hj)]
  simp [hj]
theorem put_Ts (hT : T.length = n) (h0 : ∀ s ∈ T, 0 ≤ s) (hB : Byt (pack n T H ++ M)) : getTs (pack n T H ++ M) n = T := by
  have hl : (pack n T H ++ M).length = siz n + M.length := by rw [List.length_append, pack_length n T H hT]
  have h1 := ents_back (pack n T H ++ M) hB n (by rw [hl]; unfold siz; omega) n (Nat.le_refl _)
  rw [put_drop2 hT] at h1
  unfold ents at h1
  rw [List.take_of_length_le (by rw [getTs_length]; omega), List.take_of_length_le (by omega)] at h1
  refine ents_inj n _ _ (by rw [getTs_length, hT]) (fun s hs => ?_) h0 h1
  obtain ⟨i, _, rfl⟩ := List.mem_map.1 hs
  omega
theorem put_Hs (hT : T.length = n) (hH : H.length = n) : getHs (pack n T H ++ M) n = H := by
  refine List.ext_getElem? fun i => ?_
  by_cases hi : i < n
  · have e1 : (getHs (pack n T H ++ M) n)[i]? = some (getH (pack n T H ++ M) n i) := by simp [getHs, hi]
    have e2 : H[i]? = some (H.getD i false) := by simp [List.getD, hH, hi]
    rw [e1, e2]
    congr 1
    unfold getH
    rw [put_hit hT M (i / 8) (by omega)]
    unfold hitb
    rw [bitsum_bit _ 8 (i % 8) (by omega), show 8 * (i / 8) + i % 8 = i by omega, decide_eq_true hi, Bool.true_and]
  · have e1 : (getHs (pack n T H ++ M) n)[i]? = none := by simp [getHs]; omega
    have e2 : H[i]? = none := by simp; omega
    rw [e1, e2]
/-- what was written is read. -/
theorem put_get (hR : Right n n T) (hT : T.length = n) (hH : H.length = n) (hM : ∀ x ∈ M, x < 256) : gerr (pack n T H ++ M) = 0 := by
  obtain ⟨n1, n2, _, hs⟩ := hR
  have hB : Byt (pack n T H ++ M) := Byt.of _ fun x hx => by
    rcases List.mem_append.1 hx with h | h
    · exact pack_byte n T H (by omega) (by simpa using hs) x h
    · exact hM x h
  have hl : (pack n T H ++ M).length = siz n + M.length := by rw [List.length_append, pack_length n T H hT]
  have hc : cnt (pack n T H ++ M) = n := put_cnt (by omega) M
  have h2 : 2 ≤ siz n := by unfold siz; omega
  have hTs := put_Ts hT (fun s h => by have := hs s h; omega) hB
  have hHs := put_Hs (T := T) (M := M) hT hH
  have hcl : Clean (pack n T H ++ M) n := by
    rw [← pack_back (pack n T H ++ M) hB n hc (by omega), hTs, hHs, List.take_left' (pack_length n T H hT)]
  unfold gerr
  rw [hc, hTs, if_neg (by omega), if_neg (by omega), if_neg (by omega), if_pos ⟨⟨n1, n2, rfl, hs⟩, hcl⟩]
/-- a byte less is too few. -/
theorem put_less (n1 : 1 ≤ n) (n2 : n ≤ 4096) (hT : T.length = n) : gerr ((pack n T H).take ((pack n T H).length - 1)) = 10 := by
  have hl := pack_length n T H hT
  have hw : 1 ≤ wid n := by rcases wid_cases n with ⟨_, e⟩ | ⟨_, e⟩ <;> omega
  have hw2 : n ≤ n * wid n := Nat.le_mul_of_pos_right _ hw
  have hsz : siz n = 2 + n * wid n + (n + 7) / 8 := rfl
  have hl2 : ((pack n T H).take ((pack n T H).length - 1)).length = siz n - 1 := by rw [List.length_take, hl]; omega
  have hg : ∀ i, i < 2 → ((pack n T H).take ((pack n T H).length - 1)).getD i 0 = (pack n T H).getD i 0 := fun i hi => by
    rw [List.getD, List.getD, List.getElem?_take_of_lt (by omega)]
  have hc : cnt ((pack n T H).take ((pack n T H).length - 1)) = n := by
    have := put_cnt (T := T) (H := H) n2 []
    rw [List.append_nil] at this
    unfold cnt
    rw [hg 0 (by omega), hg 1 (by omega)]
    exact this
  unfold gerr
  rw [hc, hl2]
  by_cases h2 : siz n - 1 < 2
  · rw [if_pos h2]
  · rw [if_neg h2, if_neg (by omega), if_pos (by omega)]
/-- what is read, written. -/
theorem get_put {bs : List Nat} (hB : Byt bs) (h : gerr bs = 0) : Right (cnt bs) (cnt bs) (getTs bs (cnt bs)) ∧ pack (cnt bs) (getTs bs (cnt bs)) (getHs bs (cnt bs)) = bs.take (siz (cnt bs)) ∧ siz (cnt bs) ≤ bs.length := by
  unfold gerr at h
  by_cases h1 : bs.length < 2
  · rw [if_pos h1] at h; omega
  rw [if_neg h1] at h
  by_cases h2 : cnt bs = 0 ∨ 4096 < cnt bs
  · rw [if_pos h2] at h; omega
  rw [if_neg h2] at h
  by_cases h3 : bs.length < siz (cnt bs)
  · rw [if_pos h3] at h; omega
  rw [if_neg h3] at h
  by_cases h4 : Right (cnt bs) (cnt bs) (getTs bs (cnt bs)) ∧ Clean bs (cnt bs)
  · exact ⟨h4.1, (pack_back bs hB _ rfl (by omega)).2 h4.2, by omega⟩
  · rw [if_neg h4] at h; omega
end
end Go.Proofs.Ytghghioidllgiaa.Pk
