
/- Clock: entries in a row and a hand, in plain Lean (no program in sight). -/
import Derived.Test.YtohjhbhbpflokaaKit
namespace Go.Proofs.Ytohjhbhbpflokaa.Ck
set_option linter.unusedSimpArgs false
set_option linter.unusedVariables false
set_option linter.unusedVariables false

structure CE where
  key : Int
  val : ByteArray
  used : Bool

def CE.mk1 (e : CE) (b : Bool) : CE := ⟨e.key, e.val, b⟩

/-- the place of a key in a row of keys. -/
def kx : List Int → Int → Option Nat
  | [], _ => none
  | e :: r, k => if e = k then some 0 else (kx r k).map (· + 1)

theorem kx_some : ∀ {l : List Int} {k : Int} {i : Nat}, kx l k = some i → l[i]? = some k
  | [], _, _, h => by simp [kx] at h
  | e :: r, k, i, h => by
    unfold kx at h
    by_cases he : e = k
    · rw [if_pos he] at h
      obtain rfl : 0 = i := by simpa using h
      simp [he]
    · rw [if_neg he] at h
      cases hr : kx r k with
      | none => rw [hr] at h; simp at h
      | some j =>
        rw [hr] at h
        obtain rfl : j + 1 = i := by simpa using h
        simpa using kx_some hr
theorem kx_none : ∀ {l : List Int} {k : Int}, kx l k = none ↔ k ∉ l
  | [], _ => by simp [kx]
  | e :: r, k => by
    unfold kx
    by_cases he : e = k
    · simp [he]
    · rw [if_neg he]
      simp only [Option.map_eq_none_iff, List.mem_cons, not_or]
      rw [kx_none]
      exact ⟨fun h => ⟨fun e' => he e'.symm, h⟩, fun h => h.2⟩
theorem kx_of : ∀ {l : List Int} {k : Int} {i : Nat}, l.Nodup → l[i]? = some k → kx l k = some i
  | [], _, _, _, h => by simp at h
  | e :: r, k, 0, hn, h => by
    have : e = k := by simpa using h
    simp [kx, this]
  | e :: r, k, i + 1, hn, h => by
    have h' : r[i]? = some k := by simpa using h
    have hm := List.mem_of_getElem? h'
    have hne : e ≠ k := fun he => (List.nodup_cons.1 hn).1 (he ▸ hm)
    unfold kx
    rw [if_neg hne, kx_of (List.nodup_cons.1 hn).2 h']
    rfl
theorem kx_lt {l : List Int} {k : Int} {i : Nat} (h : kx l k = some i) : i < l.length := (List.getElem?_eq_some_iff.1 (kx_some h)).1
theorem kx_append {l : List Int} {k : Int} (hk : k ∉ l) (j : Int) : kx (l ++ [k]) j = if j = k then some l.length else kx l j := by
  induction l with
  | nil => simp [kx, eq_comm]
  | cons e r ih =>
    have h1 : k ∉ r := fun h => hk (List.mem_cons_of_mem _ h)
    have h2 : e ≠ k := fun h => hk (h ▸ List.mem_cons_self)
    simp only [List.cons_append, kx]
    rw [ih h1]
    by_cases hj : j = k
    · subst hj
      simp [h2]
    · by_cases he : e = j
      · simp [he, hj]
      · simp [he, hj]
/-- a row in which one key stands for another. -/
theorem kx_set {l : List Int} {k o : Int} {i : Nat} (hn : l.Nodup) (hk : k ∉ l) (ho : l[i]? = some o) (j : Int) : kx (l.set i k) j = if j = k then some i else if j = o then none else kx l j := by
  induction l generalizing i with
  | nil => simp at ho
  | cons e r ih =>
    have h1 : k ∉ r := fun h => hk (List.mem_cons_of_mem _ h)
    have h2 : e ≠ k := fun h => hk (h ▸ List.mem_cons_self)
    have hn' := List.nodup_cons.1 hn
    cases i with
    | zero =>
      obtain rfl : e = o := by simpa using ho
      simp only [List.set_cons_zero, kx]
      by_cases hj : j = k
      · simp [hj]
      · have hj' : ¬ k = j := fun h => hj h.symm
        simp only [if_neg hj, if_neg hj']
        by_cases he : j = e
        · subst he
          rw [if_pos rfl, kx_none.2 hn'.1]
          rfl
        · have : ¬ e = j := fun h => he h.symm
          simp [he, this]
    | succ i =>
      have ho' : r[i]? = some o := by simpa using ho
      have hoe : e ≠ o := fun h => hn'.1 (h ▸ List.mem_of_getElem? ho')
      simp only [List.set_cons_succ, kx]
      rw [ih hn'.2 h1 ho']
      by_cases hj : j = k
      · subst hj
        simp [h2]
      · by_cases he : e = j
        · subst he
          simp [hj, hoe]
        · simp only [if_neg hj, if_neg he]
          by_cases hjo : j = o
          · simp [hjo]
          · simp [hjo]
theorem nodup_set {l : List Int} {k : Int} {i : Nat} (hn : l.Nodup) (hk : k ∉ l) : (l.set i k).Nodup := by
  induction l generalizing i with
  | nil => simp
  | cons e r ih =>
    have h1 : k ∉ r := fun h => hk (List.mem_cons_of_mem _ h)
    have h2 : e ≠ k := fun h => hk (h ▸ List.mem_cons_self)
    have hn' := List.nodup_cons.1 hn
    cases i with
    | zero => exact List.nodup_cons.2 ⟨h1, hn'.2⟩
    | succ i =>
      refine List.nodup_cons.2 ⟨fun h => ?_, ih hn'.2 h1⟩
      rcases List.mem_or_eq_of_mem_set h with h | h
      · exact hn'.1 h
      · exact h2 h

abbrev keys (r : List CE) : List Int := r.map CE.key
def usedN (r : List CE) : Nat := r.countP CE.used

/-- the next victim. -/
def vict : Nat → List CE → Nat → List CE × Nat
  | 0, r, h => (r, h)
  | n + 1, r, h => match r[h]? with
    | some e => if e.used then vict n (r.set h (e.mk1 false)) ((h + 1) % r.length) else (r, h)
    | none => (r, h)

theorem keys_set {r : List CE} {h : Nat} {e e' : CE} (he : r[h]? = some e) (hk : e'.key = e.key) : keys (r.set h e') = keys r := by
  show (r.set h e').map CE.key = r.map CE.key
  apply List.ext_getElem?
  intro j
  simp only [List.getElem?_map, List.getElem?_set]
  by_cases hj : h = j
  · subst hj
    have hl := (List.getElem?_eq_some_iff.1 he).1
    have hx := (List.getElem?_eq_some_iff.1 he).2
    simp [hl, hk, hx]
  · simp [hj]
theorem usedN_set : ∀ {r : List CE} {h : Nat} {e e' : CE}, r[h]? = some e → e.used = true → e'.used = false → usedN (r.set h e') + 1 = usedN r
  | [], _, _, _, h, _, _ => by simp at h
  | x :: r, 0, e, e', h, h1, h2 => by
    obtain rfl : x = e := by simpa using h
    simp [usedN, List.countP_cons, h1, h2]
  | x :: r, h + 1, e, e', hh, h1, h2 => by
    have := usedN_set (r := r) (h := h) (by simpa using hh) h1 h2
    simp only [usedN, List.set_cons_succ, List.countP_cons] at this ⊢
    omega
theorem usedN_le (r : List CE) : usedN r ≤ r.length := List.countP_le_length

structure Vd (r : List CE) (x : List CE × Nat) : Prop where
  keys : keys x.1 = keys r
  len : x.1.length = r.length
  vals : x.1.map CE.val = r.map CE.val
  hand : x.2 < r.length
theorem vals_set {r : List CE} {h : Nat} {e e' : CE} (he : r[h]? = some e) (hk : e'.val = e.val) : (r.set h e').map CE.val = r.map CE.val := by
  apply List.ext_getElem?
  intro j
  simp only [List.getElem?_map, List.getElem?_set]
  by_cases hj : h = j
  · subst hj
    have hl := (List.getElem?_eq_some_iff.1 he).1
    have hx := (List.getElem?_eq_some_iff.1 he).2
    simp [hl, hk, hx]
  · simp [hj]
theorem vict_vd : ∀ (n : Nat) (r : List CE) (h : Nat), h < r.length → Vd r (vict n r h)
  | 0, r, h, hh => ⟨rfl, rfl, rfl, hh⟩
  | n + 1, r, h, hh => by
    unfold vict
    cases he : r[h]? with
    | none => exact ⟨rfl, rfl, rfl, hh⟩
    | some e =>
      simp only
      by_cases hu : e.used = true
      · rw [if_pos hu]
        have hm : (h + 1) % r.length < (r.set h (e.mk1 false)).length := by rw [List.length_set]; exact Nat.mod_lt _ (by omega)
        have g := vict_vd n (r.set h (e.mk1 false)) ((h + 1) % r.length) hm
        exact ⟨g.keys.trans (keys_set he rfl), g.len.trans List.length_set, g.vals.trans (vals_set he rfl), by simpa using g.hand⟩
      · rw [if_neg hu]
        exact ⟨rfl, rfl, rfl, hh⟩
theorem vict_end : ∀ (n : Nat) (r : List CE) (h : Nat), h < r.length → usedN r ≤ n → ∃ e, (vict n r h).1[(vict n r h).2]? = some e ∧ e.used = false
  | 0, r, h, hh, hn => by
    refine ⟨r[h], by simp [vict], ?_⟩
    have h0 : usedN r = 0 := by omega
    have := List.countP_eq_zero.1 h0 r[h] (List.getElem_mem _)
    simpa using this
  | n + 1, r, h, hh, hn => by
    have he : r[h]? = some r[h] := List.getElem?_eq_getElem hh
    unfold vict
    rw [he]
    simp only
    by_cases hu : r[h].used = true
    · rw [if_pos hu]
      have hs := usedN_set (e' := (r[h].mk1 false)) he hu rfl
      exact vict_end n _ _ (by rw [List.length_set]; exact Nat.mod_lt _ (by omega)) (by omega)
    · rw [if_neg hu]
      exact ⟨r[h], he, by simpa using hu⟩
/-- more rounds than are needed change nothing. -/
theorem vict_more : ∀ (n m : Nat) (r : List CE) (h : Nat), h < r.length → usedN r ≤ n → usedN r ≤ m → vict n r h = vict m r h
  | 0, 0, r, h, _, _, _ => rfl
  | 0, m + 1, r, h, hh, hn, _ => by
    have he : r[h]? = some r[h] := List.getElem?_eq_getElem hh
    have h0 : usedN r = 0 := by omega
    have hu := List.countP_eq_zero.1 h0 r[h] (List.getElem_mem _)
    simp only [vict, he, if_neg hu]
  | n + 1, 0, r, h, hh, _, hm => by
    have he : r[h]? = some r[h] := List.getElem?_eq_getElem hh
    have h0 : usedN r = 0 := by omega
    have hu := List.countP_eq_zero.1 h0 r[h] (List.getElem_mem _)
    simp only [vict, he, if_neg hu]
  | n + 1, m + 1, r, h, hh, hn, hm => by
    have he : r[h]? = some r[h] := List.getElem?_eq_getElem hh
    simp only [vict, he]
    by_cases hu : r[h].used = true
    · rw [if_pos hu, if_pos hu]
      have hs := usedN_set (e' := (r[h].mk1 false)) he hu rfl
      exact vict_more n m _ _ (by rw [List.length_set]; exact Nat.mod_lt _ (by omega)) (by omega) (by omega)
    · rw [if_neg hu, if_neg hu]
def victim (r : List CE) (h : Nat) : List CE × Nat := vict r.length r h
theorem victim_vd {r : List CE} {h : Nat} (hh : h < r.length) : Vd r (victim r h) := vict_vd _ _ _ hh
theorem victim_end {r : List CE} {h : Nat} (hh : h < r.length) : ∃ e, (victim r h).1[(victim r h).2]? = some e ∧ e.used = false := vict_end _ _ _ hh (usedN_le r)
/-- a round of the search. -/
theorem victim_step {r : List CE} {h : Nat} {e : CE} (he : r[h]? = some e) (hu : e.used = true) : victim r h = victim (r.set h (e.mk1 false)) ((h + 1) % r.length) := by
  have hh := (List.getElem?_eq_some_iff.1 he).1
  have hs := usedN_set (e' := (e.mk1 false)) he hu rfl
  have hl := usedN_le r
  unfold victim
  rw [List.length_set]
  have h1 : vict r.length r h = vict (r.length + 1) r h := vict_more _ _ _ _ hh hl (by omega)
  rw [h1]
  simp only [vict, he, hu, if_true]
theorem victim_stop {r : List CE} {h : Nat} {e : CE} (he : r[h]? = some e) (hu : e.used = false) : victim r h = (r, h) := by
  have hh := (List.getElem?_eq_some_iff.1 he).1
  unfold victim
  cases hr : r.length with
  | zero => omega
  | succ n => simp [vict, he, hu]

/-- a clock: entries, hand, how many may be. -/
structure CS where
  row : List CE
  hand : Nat
  most : Nat
structure CS.Ok (s : CS) : Prop where
  nodup : (keys s.row).Nodup
  hand : s.hand < s.row.length ∨ (s.hand = 0 ∧ s.row = [])
  most : s.row.length ≤ s.most

def newS (most : Int) : CS := ⟨[], 0, (max most 0).toNat⟩
def getS (s : CS) (k : Int) : CS × ByteArray × Bool :=
  match kx (keys s.row) k with
  | none => (s, ⟨#[]⟩, false)
  | some i => match s.row[i]? with
    | some e => ({ s with row := s.row.set i (e.mk1 true) }, e.val, true)
    | none => (s, ⟨#[]⟩, false)
def putS (s : CS) (k : Int) (v : ByteArray) : CS :=
  if s.most = 0 then s else
  match kx (keys s.row) k with
  | some i => { s with row := s.row.set i ⟨k, v, true⟩ }
  | none =>
    if s.row.length < s.most then { s with row := s.row ++ [⟨k, v, true⟩] } else
    let x := victim s.row s.hand
    { s with row := x.1.set x.2 ⟨k, v, true⟩, hand := (x.2 + 1) % s.row.length }
def layS (s : CS) (row : List CE) (hand : Nat) : CS := { s with row := row, hand := if row.length ≤ hand then 0 else hand }
def ev1 (s : CS) : CS := let x := victim s.row s.hand; layS s (x.1.eraseIdx x.2) x.2
def evN : Nat → CS → CS
  | 0, s => s
  | n + 1, s => evN n (ev1 s)
def evictS (s : CS) (n : Int) : CS × Nat := (evN (min n.toNat s.row.length) s, min n.toNat s.row.length)
/-- how many of the first `h` stay. -/
def stay (p : Int → Bool) (r : List CE) (h : Nat) : Nat := ((r.take h).filter (fun e => !p e.key)).length
def dropS (s : CS) (p : Int → Bool) : CS × Nat :=
  let row := s.row.filter (fun e => !p e.key)
  (layS s row (stay p s.row s.hand), s.row.length - row.length)

theorem newS_ok (most : Int) : (newS most).Ok := ⟨by simp [newS, keys], Or.inr ⟨rfl, rfl⟩, by simp [newS]⟩
theorem getS_ok {s : CS} (h : s.Ok) (k : Int) : (getS s k).1.Ok := by
  unfold getS
  cases hk : kx (keys s.row) k with
  | none => exact h
  | some i =>
    simp only
    cases he : s.row[i]? with
    | none => exact h
    | some e =>
      simp only
      refine ⟨?_, ?_, ?_⟩
      · show (keys (s.row.set i _)).Nodup
        rw [keys_set (e' := e.mk1 true) he rfl]
        exact h.nodup
      · rcases h.hand with h1 | ⟨h1, h2⟩
        · exact Or.inl (by simpa using h1)
        · exact Or.inr ⟨h1, by simp [h2]⟩
      · simpa using h.most
theorem keys_set' (r : List CE) (i : Nat) (e : CE) : keys (r.set i e) = (keys r).set i e.key := by simp [keys, List.map_set]
theorem putS_ok {s : CS} (h : s.Ok) (k : Int) (v : ByteArray) : (putS s k v).Ok := by
  unfold putS
  by_cases hm : s.most = 0
  · rw [if_pos hm]; exact h
  · rw [if_neg hm]
    cases hk : kx (keys s.row) k with
    | some i =>
      simp only
      have hki := kx_some hk
      have hl : i < s.row.length := by simpa [keys] using kx_lt hk
      have he : s.row[i]? = some s.row[i] := List.getElem?_eq_getElem hl
      have hkey : s.row[i].key = k := by simpa [keys, he] using hki
      refine ⟨?_, ?_, ?_⟩
      · show (keys (s.row.set i _)).Nodup
        rw [keys_set he hkey.symm]
        exact h.nodup
      · rcases h.hand with h1 | ⟨h1, h2⟩
        · exact Or.inl (by simpa using h1)
        · exact Or.inr ⟨h1, by simp [h2]⟩
      · simpa using h.most
    | none =>
      simp only
      have hno := kx_none.1 hk
      by_cases hlt : s.row.length < s.most
      · rw [if_pos hlt]
        refine ⟨?_, ?_, ?_⟩
        · show (keys (s.row ++ [_])).Nodup
          simp only [keys, List.map_append, List.map_cons, List.map_nil]
          refine List.nodup_append.2 ⟨h.nodup, by simp, fun a ha b hb => ?_⟩
          have : b = k := by simpa using hb
          subst this
          exact fun hab => hno (hab ▸ ha)
        · rcases h.hand with h1 | ⟨h1, h2⟩
          · exact Or.inl (by simp; omega)
          · exact Or.inl (by simp [h1])
        · simp; omega
      · rw [if_neg hlt]
        have hpos : s.hand < s.row.length := by
          rcases h.hand with h1 | ⟨h1, h2⟩
          · exact h1
          · have : s.row.length = 0 := by rw [h2]; rfl
            omega
        have g := victim_vd hpos
        refine ⟨?_, Or.inl ?_, ?_⟩
        · show (keys ((victim s.row s.hand).1.set _ _)).Nodup
          rw [keys_set', g.keys]
          exact nodup_set h.nodup hno
        · show (_ + 1) % s.row.length < ((victim s.row s.hand).1.set _ _).length
          rw [List.length_set, g.len]
          exact Nat.mod_lt _ (by omega)
        · show ((victim s.row s.hand).1.set _ _).length ≤ s.most
          rw [List.length_set, g.len]
          exact h.most
theorem layS_ok {s : CS} {row : List CE} (hand : Nat) (hn : (keys row).Nodup) (hl : row.length ≤ s.most) : (layS s row hand).Ok := by
  refine ⟨hn, ?_, hl⟩
  unfold layS
  simp only
  by_cases h : row.length ≤ hand
  · rw [if_pos h]
    cases row with
    | nil => exact Or.inr ⟨rfl, rfl⟩
    | cons e r => exact Or.inl (by simp)
  · rw [if_neg h]; exact Or.inl (by omega)
theorem map_eraseIdx' : ∀ (r : List CE) (i : Nat), keys (r.eraseIdx i) = (keys r).eraseIdx i
  | [], i => by simp [keys]
  | e :: r, 0 => by simp [keys]
  | e :: r, i + 1 => by simpa [keys] using map_eraseIdx' r i
theorem ev1_ok {s : CS} (h : s.Ok) (hp : 0 < s.row.length) : (ev1 s).Ok ∧ (ev1 s).row.length + 1 = s.row.length ∧ (ev1 s).most = s.most := by
  have hpos : s.hand < s.row.length := by
    rcases h.hand with h1 | ⟨h1, h2⟩
    · exact h1
    · rw [h2] at hp; simp at hp
  have g := victim_vd hpos
  have hle : ((victim s.row s.hand).1.eraseIdx (victim s.row s.hand).2).length + 1 = s.row.length := by
    rw [List.length_eraseIdx, g.len, if_pos g.hand]
    omega
  refine ⟨layS_ok _ ?_ (by have := h.most; omega), hle, rfl⟩
  have : keys ((victim s.row s.hand).1.eraseIdx (victim s.row s.hand).2) = (keys s.row).eraseIdx (victim s.row s.hand).2 := by
    rw [← g.keys]
    exact map_eraseIdx' _ _
  rw [this]
  exact h.nodup.sublist (List.eraseIdx_sublist _ _)
theorem evN_ok : ∀ (n : Nat) {s : CS}, s.Ok → n ≤ s.row.length → (evN n s).Ok ∧ (evN n s).row.length + n = s.row.length ∧ (evN n s).most = s.most
  | 0, s, h, _ => ⟨h, rfl, rfl⟩
  | n + 1, s, h, hn => by
    obtain ⟨h1, h2, h3⟩ := ev1_ok h (by omega)
    obtain ⟨g1, g2, g3⟩ := evN_ok n h1 (by omega)
    exact ⟨g1, by show (evN n (ev1 s)).row.length + (n + 1) = _; omega, g3.trans h3⟩
theorem dropS_ok {s : CS} (h : s.Ok) (p : Int → Bool) : (dropS s p).1.Ok := by
  refine layS_ok _ ?_ (Nat.le_trans (List.length_filter_le _ _) h.most)
  exact h.nodup.sublist ((List.filter_sublist).map _)

/-- each value is the last one that was put by its key. -/
def Last (L : Int → Option ByteArray) (s : CS) : Prop := ∀ e ∈ s.row, L e.key = some e.val
theorem last_of {L : Int → Option ByteArray} {s : CS} {row : List CE} (h : Last L s) (hk : keys row = keys s.row) (hv : row.map CE.val = s.row.map CE.val) : ∀ e ∈ row, L e.key = some e.val := by
  intro e he
  obtain ⟨i, hi⟩ := List.getElem?_of_mem he
  have h1 : (keys row)[i]? = some e.key := by simp [keys, hi]
  have h2 : (row.map CE.val)[i]? = some e.val := by simp [hi]
  rw [hk] at h1
  rw [hv] at h2
  cases hx : s.row[i]? with
  | none => simp [keys, hx] at h1
  | some x =>
    have a1 : x.key = e.key := by simpa [keys, hx] using h1
    have a2 : x.val = e.val := by simpa [hx] using h2
    rw [← a1, ← a2]
    exact h x (List.mem_of_getElem? hx)
theorem last_get {L : Int → Option ByteArray} {s : CS} (h : Last L s) (k : Int) : Last L (getS s k).1 ∧ ((getS s k).2.2 = true → L k = some (getS s k).2.1) := by
  unfold getS
  cases hk : kx (keys s.row) k with
  | none => exact ⟨h, by simp⟩
  | some i =>
    simp only
    cases he : s.row[i]? with
    | none => exact ⟨h, by simp⟩
    | some e =>
      simp only
      have hkey : e.key = k := by simpa [keys, he] using kx_some hk
      exact ⟨last_of h (keys_set he rfl) (vals_set he rfl), fun _ => hkey ▸ h e (List.mem_of_getElem? he)⟩
def putL (L : Int → Option ByteArray) (k : Int) (v : ByteArray) : Int → Option ByteArray := fun j => if j = k then some v else L j
/-- who stands in a row in which one was set. -/
theorem last_set {L : Int → Option ByteArray} {row : List CE} {i : Nat} {k : Int} {v : ByteArray} (h : ∀ e ∈ row, L e.key = some e.val) : ∀ e ∈ row.set i ⟨k, v, true⟩, putL L k v e.key = some e.val ∨ e.key = k ∧ e ∈ row := by
  intro e he
  unfold putL
  rcases List.mem_or_eq_of_mem_set he with h1 | h1
  · by_cases hk : e.key = k
    · exact Or.inr ⟨hk, h1⟩
    · exact Or.inl (by rw [if_neg hk]; exact h e h1)
  · subst h1
    exact Or.inl (by simp)
end Go.Proofs.Ytohjhbhbpflokaa.Ck
