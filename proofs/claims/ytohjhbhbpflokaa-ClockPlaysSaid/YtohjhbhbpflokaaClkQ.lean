
/- Clock, plain laws: each value is the last that was put by its key; what was put is there; all can be emptied. -/
import Derived.Test.YtohjhbhbpflokaaClkP
namespace Go.Proofs.Ytohjhbhbpflokaa.Ck
set_option linter.unusedSimpArgs false
set_option linter.unusedVariables false
set_option linter.unusedVariables false

theorem keys_get {r : List CE} {i : Nat} {e : CE} (h : r[i]? = some e) : (keys r)[i]? = some e.key := by simp [keys, h]
theorem nodup_idx {l : List Int} (hn : l.Nodup) {i j : Nat} {k : Int} (hi : l[i]? = some k) (hj : l[j]? = some k) : i = j := by
  have h1 := kx_of hn hi
  rw [kx_of hn hj] at h1
  simpa using h1.symm
/-- in a row without repeats the one that was set is the only one of its key. -/
theorem last_set' {L : Int → Option ByteArray} {row : List CE} {i : Nat} {k : Int} {v : ByteArray} (h : ∀ e ∈ row, L e.key = some e.val) (hi : i < row.length) (hn : (keys (row.set i ⟨k, v, true⟩)).Nodup) :
    ∀ e ∈ row.set i ⟨k, v, true⟩, putL L k v e.key = some e.val := by
  intro e he
  obtain ⟨j, hj⟩ := List.getElem?_of_mem he
  have hset : (row.set i ⟨k, v, true⟩)[i]? = some ⟨k, v, true⟩ := by simp [hi]
  unfold putL
  by_cases hk : e.key = k
  · have h1 := keys_get hj
    rw [hk] at h1
    obtain rfl := nodup_idx hn h1 (keys_get hset)
    rw [hset] at hj
    obtain rfl : (⟨k, v, true⟩ : CE) = e := by simpa using hj
    rw [if_pos hk]
  · rw [if_neg hk]
    rcases List.mem_or_eq_of_mem_set he with h1 | h1
    · exact h e h1
    · exact absurd (by rw [h1]) hk
theorem ok_pos {s : CS} (h : s.Ok) (hp : 0 < s.row.length) : s.hand < s.row.length := by
  rcases h.hand with h1 | ⟨h1, h2⟩
  · exact h1
  · rw [h2] at hp; simp at hp
theorem last_vict {L : Int → Option ByteArray} {s : CS} (hs : s.Ok) (hp : 0 < s.row.length) (h : Last L s) : ∀ e ∈ (victim s.row s.hand).1, L e.key = some e.val :=
  have g := victim_vd (ok_pos hs hp)
  last_of h g.keys g.vals
theorem last_put {L : Int → Option ByteArray} {s : CS} (hs : s.Ok) (h : Last L s) (k : Int) (v : ByteArray) : Last (putL L k v) (putS s k v) := by
  have hok := putS_ok hs k v
  unfold putS at hok ⊢
  by_cases hm : s.most = 0
  · rw [if_pos hm]
    have h0 : s.row = [] := List.eq_nil_of_length_eq_zero (by have := hs.most; omega)
    intro e he
    rw [h0] at he
    simp at he
  · rw [if_neg hm] at hok ⊢
    cases hk : kx (keys s.row) k with
    | some i =>
      rw [hk] at hok
      simp only at hok ⊢
      exact last_set' h (by simpa [keys] using kx_lt hk) hok.nodup
    | none =>
      rw [hk] at hok
      simp only at hok ⊢
      by_cases hlt : s.row.length < s.most
      · rw [if_pos hlt] at hok ⊢
        intro e he
        have he' : e ∈ s.row ∨ e = ⟨k, v, true⟩ := by simpa using he
        unfold putL
        rcases he' with h1 | h1
        · have : e.key ≠ k := fun hh => kx_none.1 hk (hh ▸ List.mem_map_of_mem h1)
          rw [if_neg this]
          exact h e h1
        · subst h1
          simp
      · rw [if_neg hlt] at hok ⊢
        have hp : 0 < s.row.length := by omega
        have g := victim_vd (ok_pos hs hp)
        exact last_set' (last_vict hs hp h) (by rw [g.len]; exact g.hand) hok.nodup
theorem last_ev1 {L : Int → Option ByteArray} {s : CS} (hs : s.Ok) (hp : 0 < s.row.length) (h : Last L s) : Last L (ev1 s) :=
  fun e he => last_vict hs hp h e (List.mem_of_mem_eraseIdx he)
theorem last_evN {L : Int → Option ByteArray} : ∀ (n : Nat) {s : CS}, s.Ok → n ≤ s.row.length → Last L s → Last L (evN n s)
  | 0, s, _, _, h => h
  | n + 1, s, hs, hn, h => by
    obtain ⟨h1, h2, _⟩ := ev1_ok hs (by omega)
    exact last_evN n h1 (by omega) (last_ev1 hs (by omega) h)
theorem last_new (L : Int → Option ByteArray) (most : Int) : Last L (newS most) := fun e he => by simp [newS] at he
theorem evictS_ok {s : CS} (h : s.Ok) (n : Int) : (evictS s n).1.Ok ∧ (evictS s n).1.row.length + (evictS s n).2 = s.row.length ∧ (evictS s n).1.most = s.most := evN_ok _ h (Nat.min_le_right _ _)
theorem last_evict {L : Int → Option ByteArray} {s : CS} (hs : s.Ok) (h : Last L s) (n : Int) : Last L (evictS s n).1 := last_evN _ hs (Nat.min_le_right _ _) h
theorem putS_most (s : CS) (k : Int) (v : ByteArray) : (putS s k v).most = s.most := by
  unfold putS
  by_cases hm : s.most = 0
  · rw [if_pos hm]
  · rw [if_neg hm]
    cases kx (keys s.row) k with
    | some i => rfl
    | none => simp only; split <;> rfl
theorem getS_most (s : CS) (k : Int) : (getS s k).1.most = s.most := by
  unfold getS
  cases kx (keys s.row) k with
  | none => rfl
  | some i => simp only; cases s.row[i]? <;> rfl
theorem getS_len (s : CS) (k : Int) : (getS s k).1.row.length = s.row.length := by
  unfold getS
  cases kx (keys s.row) k with
  | none => rfl
  | some i => simp only; cases s.row[i]? <;> simp
theorem getS_at {s : CS} (hs : s.Ok) {i : Nat} {e : CE} (he : s.row[i]? = some e) : (getS s e.key).2 = (e.val, true) := by
  unfold getS
  rw [kx_of hs.nodup (keys_get he)]
  simp only [he]
theorem getS_none {s : CS} {k : Int} (h : kx (keys s.row) k = none) : getS s k = (s, ⟨#[]⟩, false) := by
  unfold getS
  rw [h]
/-- what was put is there. -/
theorem get_put {s : CS} (hs : s.Ok) (hm : s.most ≠ 0) (k : Int) (v : ByteArray) : (getS (putS s k v) k).2 = (v, true) := by
  have hok := putS_ok hs k v
  have : ∃ i : Nat, (putS s k v).row[i]? = some (⟨k, v, true⟩ : CE) := by
    unfold putS
    rw [if_neg hm]
    cases hk : kx (keys s.row) k with
    | some i =>
      have hl : i < s.row.length := by simpa [keys] using kx_lt hk
      exact ⟨i, by simp [hl]⟩
    | none =>
      simp only
      by_cases hlt : s.row.length < s.most
      · rw [if_pos hlt]
        exact ⟨s.row.length, by simp⟩
      · rw [if_neg hlt]
        have g := victim_vd (ok_pos hs (by omega))
        have : (victim s.row s.hand).2 < (victim s.row s.hand).1.length := by rw [g.len]; exact g.hand
        exact ⟨(victim s.row s.hand).2, by simp [this]⟩
  obtain ⟨i, hi⟩ := this
  exact getS_at hok hi
/-- of a clock that lets none be nothing is there. -/
theorem put_none {s : CS} (hm : s.most = 0) (k : Int) (v : ByteArray) : putS s k v = s := by
  unfold putS
  rw [if_pos hm]
theorem newS_pos {most : Int} (h : 0 < most) : (newS most).most ≠ 0 := by
  show (max most 0).toNat ≠ 0
  omega
theorem newS_zero {most : Int} (h : ¬ 0 < most) : (newS most).most = 0 := by
  show (max most 0).toNat = 0
  omega
theorem put_new {most : Int} (h : 0 < most) (k : Int) (v : ByteArray) : putS (newS most) k v = ⟨[⟨k, v, true⟩], 0, (max most 0).toNat⟩ := by
  have h1 := newS_pos h
  unfold putS
  rw [if_neg h1]
  have h2 : (newS most).row.length < (newS most).most := Nat.pos_of_ne_zero h1
  have h3 : kx (keys (newS most).row) k = none := rfl
  rw [h3]
  simp only
  rw [if_pos h2]
  rfl
theorem evict_all {s : CS} (hs : s.Ok) : (evictS s s.row.length).2 = s.row.length ∧ (evictS s s.row.length).1.row.length = 0 := by
  have h := evictS_ok hs s.row.length
  have h2 : (evictS s s.row.length).2 = s.row.length := by show min (Int.toNat _) _ = _; simp
  exact ⟨h2, by omega⟩
theorem evict_one (s : CS) : (evictS s 1).2 ≤ 1 := Nat.min_le_left _ _
theorem evict_neg (s : CS) : evictS s (-1) = (s, 0) := by
  show (evN (min 0 _) s, min 0 _) = _
  rw [Nat.zero_min]
  rfl
end Go.Proofs.Ytohjhbhbpflokaa.Ck
