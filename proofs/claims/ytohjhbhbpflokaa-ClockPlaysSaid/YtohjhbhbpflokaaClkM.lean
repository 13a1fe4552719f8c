
/- A clock in memory; Len, New, on. -/
import Derived.Test.YtohjhbhbpflokaaClkR
import Derived.Test.YtohjhbhbpflokaaMapJ
import Derived.Test.YtohjhbhbpflokaaMem
import Derived.BigQuiet
namespace Go.Proofs.Ytohjhbhbpflokaa.Ck
set_option linter.unusedSimpArgs false
set_option linter.unusedVariables false
open Go Go.RowKit
set_option linter.unusedVariables false
attribute [local go_sem] lt_add1 lt_self1 size_ne size_ne' size_ne1 size_ne1'

def ec (e : CE) : List Value := [.int .i64 e.key, .string e.val, .bool e.used]
theorem ec_length (e : CE) : (ec e).length = 3 := rfl
/-- what a clock's state is, beside its blocks. -/
structure Good (s : CS) (n : Nat) : Prop where
  ok : s.Ok
  le : s.row.length ≤ n
  small : n ≤ 1000
  keys : ∀ k ∈ keys s.row, i64ok k
  most : s.most < 9223372036854775808
def CkAt (c : Nat) (w : World) (F : Nat → Prop) (x : CS × Nat) : Prop :=
  ∃ v m, (∀ b, F b ↔ (b = c ∨ b = m ∨ v.ownBlock = some b)) ∧ c ≠ m ∧ v.ownBlock ≠ some c ∧ v.ownBlock ≠ some m ∧ w.heap[c]? = some (.cells #[v, .map (some m), .int .i64 x.1.hand, .int .i64 x.1.most] 53 (0, 0)) ∧
    w.ownsRow 0 55 3 v x.1.row.length (x.1.row.flatMap ec) ∧ MapI w m x.2 (kF (Ck.keys x.1.row)) ∧ Good x.1 x.2
def resCk (c : Nat) : Res (CS × Nat) where
  at_ := fun w F x => CkAt c w F x
  below := fun {w w' F x} h hb => by
    obtain ⟨v, m, h1, h2, h3, h4, h5, h6, h7, h8⟩ := h
    exact ⟨v, m, h1, h2, h3, h4, (hb.block c (Array.getElem?_eq_some_iff.1 h5).1).trans h5, own_below h6 hb, h7.below hb, h8⟩
  lt := fun {w F x} h b hb => by
    obtain ⟨v, m, h1, h2, h3, h4, h5, h6, h7, h8⟩ := h
    rcases (h1 b).1 hb with rfl | rfl | e
    · exact (Array.getElem?_eq_some_iff.1 h5).1
    · exact h7.lt
    · exact (h6.lt b e).2
theorem resCk_of {c : Nat} {w : World} {F : Nat → Prop} {x : CS × Nat} (h : (resCk c).at_ w F x) : CkAt c w F x := h

/-- Len of a clock. -/
theorem len_any (c : Nat) (s : CS) (n : Nat) : Does Try.prog (resCk c) 11 #[.pointer (some ⟨c, 0, none⟩)] (s, n) (fun v s' => v = .int .i64 s.row.length ∧ s' = (s, n)) := by
  refine Does.of_below fun w F h => ?_
  obtain ⟨v, m, h1, h2, h3, h4, h5, h6, h7, h8⟩ := resCk_of h
  obtain ⟨A, cp, rfl, _, _⟩ := SlAt.of_own h6
  have c0 := cell_of_row w c 0 _ _ (0, 0) h5
  have hlt := (Array.getElem?_eq_some_iff.1 h5).1
  simp only [List.getElem?_toArray, List.getElem?_cons_zero] at c0
  clear h h1 h2 h3 h4 h5 h6 h7 h8
  go_enter Try.func11, Try.ntmps11
  go_wp2_with fail
  go_ret
  exact ⟨rfl, Below.refl _ _⟩
theorem len_nil (w : World) : Calls Try.prog 11 #[.pointer none] w fun e w' => e = .returned (.int .i64 0) ∧ Below w.heap.size w w' := by
  go_enter Try.func11, Try.ntmps11
  go_wp2_with fail
  go_ret
  exact ⟨rfl, Below.refl _ _⟩
theorem made_at (w : World) (most z : Int) (h0 : most < 9223372036854775808) (hz : z = ((newS most).most : Nat)) :
    (resCk (w.heap.size + 1)).at_ ((w.alloc (.map #[] 0)).alloc (.cells #[.slice none 0 0, .map (some w.heap.size), .int .i64 0, .int .i64 z] 53)) (fun b => b = w.heap.size + 1 ∨ b = w.heap.size) (newS most, 0) := by
  have hs : (w.alloc (.map #[] 0)).heap.size = w.heap.size + 1 := by simp
  refine ⟨.slice none 0 0, w.heap.size, fun b => by simp [Value.ownBlock], by omega, by simp [Value.ownBlock], by simp [Value.ownBlock], ?_, ⟨rfl, .inl ⟨rfl, rfl⟩⟩, (MapI.made w).below ((Below.refl _ _).alloc (Nat.le_refl _) _), ⟨newS_ok most, by simp [newS], by omega, by simp [newS, keys], ?_⟩⟩
  · have h1 := heap_alloc_new (w.alloc (.map #[] 0)) (.cells #[.slice none 0 0, .map (some w.heap.size), .int .i64 0, .int .i64 z] 53)
    rw [hs] at h1
    rw [h1, hz]
    rfl
  · show (max most 0).toNat < _
    omega
/-- a new clock. -/
theorem new_any (most : Int) (w : World) (h0 : most < 9223372036854775808) : Calls Try.prog 7 #[.int .i64 most] w fun e w' => ∃ c F, e = .returned (.pointer (some ⟨c, 0, none⟩)) ∧ (resCk c).at_ w' F (newS most, 0) ∧ (∀ b, F b → w.heap.size ≤ b) ∧ Below w.heap.size w w' := by
  have hmm := @run_makeMap Try.prog
  go_enter Try.func7, Try.ntmps7
  go_wp2_with fail
  all_goals
    go_ret
    refine ⟨_, rfl, _, made_at w most _ h0 ?_, fun b hb => ?_, ((Below.refl _ _).alloc (Nat.le_refl _) _).alloc (by simp) _⟩
    · show _ = ((max most 0).toNat : Int)
      omega
    · rcases hb with h | h <;> omega
theorem fr_cell {w : World} {F : Nat → Prop} {c i : Nat} {u : Value} (hF : F c) : Fr w F (w.setCell ⟨c, i, none⟩ u) F :=
  ⟨rfl, rfl, rfl, by simp, fun b _ hn => heap_setCell_other _ _ _ _ (fun e => hn (e ▸ hF)), fun b hb => .inl hb⟩
/-- another hand. -/
theorem setHand {c : Nat} {w : World} {F : Nat → Prop} {s : CS} {n : Nat} (h : CkAt c w F (s, n)) {h' : Nat} (hh : h' < s.row.length ∨ (h' = 0 ∧ s.row = [])) : CkAt c (w.setCell ⟨c, 2, none⟩ (.int .i64 h')) F ({ s with hand := h' }, n) := by
  obtain ⟨v, m, h1, h2, h3, h4, h5, h6, h7, h8⟩ := h
  refine ⟨v, m, h1, h2, h3, h4, ?_, own_setCell h6 h3 _, h7.fr (fr_cell (F := fun b => b = c) rfl) (fun e => h2 e.symm), ⟨⟨h8.ok.nodup, hh, h8.ok.most⟩, h8.le, h8.small, h8.keys, h8.most⟩⟩
  have := heap_setCell_same w c 2 _ _ (.int .i64 h') h5
  simpa using this
set_option maxHeartbeats 1000000 in
/-- the hand goes one on. -/
theorem on_raw (c : Nat) (s : CS) (n : Nat) (hp : 0 < s.row.length) (w : World) (F : Nat → Prop) (h : CkAt c w F (s, n)) : Calls Try.prog 18 #[.pointer (some ⟨c, 0, none⟩)] w fun e w' => (∃ v, e = .returned v) ∧ w' = (w.setCell ⟨c, 2, none⟩ (.int .i64 ((s.hand + 1) % s.row.length : Nat))).drew := by
  have HC := Lib.hid (resCk_of h)
  obtain ⟨v, m, h1, h2, h3, h4, h5, h6, h7, h8⟩ := resCk_of h
  obtain ⟨A, cp, rfl, _, _⟩ := SlAt.of_own h6
  have c0 := cell_of_row w c 0 _ _ (0, 0) h5
  have c2 := cell_of_row w c 2 _ _ (0, 0) h5
  have hlt := (Array.getElem?_eq_some_iff.1 h5).1
  have hfz : w.frozen? ⟨c, 2, none⟩ = false := by simp [World.frozen?, h5]
  simp only [List.getElem?_toArray, List.getElem?_cons_zero, List.getElem?_cons_succ] at c0 c2
  have hsm : s.row.length ≤ 1000 := Nat.le_trans h8.le h8.small
  have hhd : s.hand < s.row.length := ok_pos h8.ok hp
  have hFc := (h1 c).2 (.inl rfl)
  have hne : ¬ ((s.row.length : Int) = 0) := by omega
  clear h h1 h2 h3 h4 h5 h6 h7 h8
  go_enter Try.func18, Try.ntmps18
  have hv : ((s.hand : Int) + 1) % (s.row.length : Int) = (((s.hand + 1) % s.row.length : Nat) : Int) := by rw [Int.natCast_emod, Int.natCast_add]; rfl
  have HV := Lib.hid hv
  clear hv
  go_region
  go_wp2_with fail
  rw [HV.out]
  go_end0
  exact ⟨⟨_, rfl⟩, rfl⟩
/-- the state behind it. -/
theorem on_at {c : Nat} {s : CS} {n : Nat} {w : World} {F : Nat → Prop} (hp : 0 < s.row.length) (h : CkAt c w F (s, n)) (hF : F c) : CkAt c (w.setCell ⟨c, 2, none⟩ (.int .i64 ((s.hand + 1) % s.row.length : Nat))).drew F ({ s with hand := (s.hand + 1) % s.row.length }, n) ∧ Fr w F (w.setCell ⟨c, 2, none⟩ (.int .i64 ((s.hand + 1) % s.row.length : Nat))).drew F := by
  have hset := setHand h (h' := (s.hand + 1) % s.row.length) (Or.inl (Nat.mod_lt _ hp))
  exact ⟨(resCk c).below hset ((Below.refl _ _).drew), (fr_cell hF).trans (Fr.of_below ((Below.refl _ _).drew))⟩
theorem own_set {w : World} {e : TypeId} {size g n cap : Nat} {xs : List Value} (h : w.ownsRow 0 e size (.slice (some ⟨g, 0, none⟩) n cap) n xs) {j : Nat} (hj : j < n * size) (u : Value) : (w.setCell ⟨g, j, none⟩ u).ownsRow 0 e size (.slice (some ⟨g, 0, none⟩) n cap) n (xs.set j u) := by
  refine ⟨by rw [List.length_set]; exact h.1, ?_⟩
  rcases h.2 with ⟨h2, _⟩ | ⟨g', cap', cur, e1, e2, e3, e4, e5, e6, e7⟩
  · simp at h2
  · obtain ⟨rfl, rfl⟩ : g = g' ∧ cap = cap' := by simpa using e1
    refine .inr ⟨g, cap, cur.setIfInBounds j u, rfl, e2, heap_setCell_same w g j _ _ u e3, e4, e5, by simpa using e6, ?_⟩
    rw [Array.toList_setIfInBounds, List.take_set, e7]
theorem flat_set : ∀ {r : List CE} {i : Nat} {e : CE} (b : Bool), r[i]? = some e → (r.flatMap ec).set (i * 3 + 2) (.bool b) = (r.set i (e.mk1 b)).flatMap ec
  | [], _, _, _, h => by simp at h
  | x :: r, 0, e, b, h => by
    obtain rfl : x = e := by simpa using h
    simp [ec, CE.mk1]
  | x :: r, i + 1, e, b, h => by
    have ih := flat_set (r := r) (i := i) b (by simpa using h)
    rw [List.set_cons_succ, List.flatMap_cons, List.flatMap_cons, ← ih, show (i + 1) * 3 + 2 = (ec x).length + (i * 3 + 2) by rw [ec_length]; omega, List.set_append, if_neg (by omega), Nat.add_sub_cancel_left]
/-- a mark is laid or taken. -/
theorem setUsed {c : Nat} {w : World} {F : Nat → Prop} {s : CS} {n i : Nat} {e : CE} (h : CkAt c w F (s, n)) (he : s.row[i]? = some e) (b : Bool) {A : Option Addr} {cp : Nat} (hc : w.cell? ⟨c, 0, none⟩ = some (.slice A s.row.length cp)) :
    ∃ g, A = some ⟨g, 0, none⟩ ∧ F g ∧ CkAt c (w.setCell ⟨g, i * 3 + 2, none⟩ (.bool b)) F ({ s with row := s.row.set i (e.mk1 b) }, n) := by
  obtain ⟨v, m, h1, h2, h3, h4, h5, h6, h7, h8⟩ := h
  have c0 := cell_of_row w c 0 _ _ (0, 0) h5
  simp only [List.getElem?_toArray, List.getElem?_cons_zero] at c0
  obtain rfl : .slice A s.row.length cp = v := by simpa using hc.symm.trans c0
  have hl := (List.getElem?_eq_some_iff.1 he).1
  have h6' := h6
  rcases h6.2 with ⟨e1, e2⟩ | ⟨g, cap', cur, e1, _⟩
  · exfalso
    have e2' : s.row.length = 0 := e2
    omega
  · obtain ⟨rfl, rfl⟩ : A = some ⟨g, 0, none⟩ ∧ cp = cap' := by simpa using e1
    have hg : g ≠ c := fun e => h3 (by simp [Value.ownBlock, e])
    have hgm : g ≠ m := fun e => h4 (by simp [Value.ownBlock, e])
    have hk := keys_set (e' := e.mk1 b) he rfl
    have ho := own_set h6' (j := i * 3 + 2) (show i * 3 + 2 < s.row.length * 3 by omega) (.bool b)
    simp only [flat_set b he] at ho
    refine ⟨g, rfl, (h1 g).2 (.inr (.inr rfl)), .slice (some ⟨g, 0, none⟩) s.row.length cp, m, h1, h2, h3, h4, ?_, ?_, ?_, ⟨⟨?_, ?_, ?_⟩, ?_, h8.small, ?_, h8.most⟩⟩
    · rw [heap_setCell_other _ _ _ _ hg.symm]
      exact h5
    · simp only [List.length_set]
      exact ho
    · rw [hk]
      exact h7.fr (fr_cell (F := fun b => b = g) rfl) (fun e => hgm e.symm)
    · rw [hk]; exact h8.ok.nodup
    · rcases h8.ok.hand with a | ⟨a, a2⟩
      · exact Or.inl (by simpa using a)
      · simp only at a2
        rw [a2] at hl
        simp at hl
    · simpa using h8.ok.most
    · simpa using h8.le
    · rw [hk]; exact h8.keys
end Go.Proofs.Ytohjhbhbpflokaa.Ck
