
/- slices.Delete of one entry. -/
import Derived.Test.YtohjhbhbpflokaaClkL
import Derived.Deep.RegionLaw
import Derived.Lib.SliceRun
import Derived.Deep.Upon
namespace Go.Proofs.Ytohjhbhbpflokaa.Ck
set_option linter.unusedSimpArgs false
set_option linter.unusedVariables false
open Go Go.RowKit
set_option linter.unusedVariables false
attribute [local go_sem] lt_add1 lt_self1 size_ne size_ne' size_ne1 size_ne1'

/-- a block's cells, a range of them stored. -/
def setR (cur : Array Value) : Nat → List Value → Array Value
  | _, [] => cur
  | o, v :: r => setR (cur.setIfInBounds o v) (o + 1) r
theorem setR_size : ∀ (vs : List Value) (cur : Array Value) (o : Nat), (setR cur o vs).size = cur.size
  | [], _, _ => rfl
  | v :: r, cur, o => by rw [setR, setR_size r]; simp
theorem setR_get : ∀ (vs : List Value) (cur : Array Value) (o : Nat), o + vs.length ≤ cur.size → ∀ j, (setR cur o vs)[j]? = if o ≤ j ∧ j < o + vs.length then vs[j - o]? else cur[j]?
  | [], cur, o, _, j => by rw [if_neg (by simp only [List.length_nil]; omega)]; rfl
  | v :: r, cur, o, h, j => by
    simp only [List.length_cons] at h ⊢
    rw [setR, setR_get r (cur.setIfInBounds o v) (o + 1) (by simp; omega) j]
    by_cases h1 : o + 1 ≤ j ∧ j < o + 1 + r.length
    · rw [if_pos h1, if_pos (by omega), show j - o = (j - (o + 1)) + 1 by omega, List.getElem?_cons_succ]
    · rw [if_neg h1]
      by_cases h2 : j = o
      · subst h2
        rw [if_pos (by omega), Nat.sub_self]
        simp [show j < cur.size by omega]
      · rw [if_neg (by omega), Array.getElem?_setIfInBounds_ne (fun e => h2 e.symm)]
theorem heap_setR (g : Nat) (e : TypeId) : ∀ (vs : List Value) (o : Nat) (w : World) (cur : Array Value), w.heap[g]? = some (.cells cur e (0, 0)) → (w.setCells g o vs).heap[g]? = some (.cells (setR cur o vs) e (0, 0))
  | [], _, _, _, h => h
  | v :: r, o, w, cur, h => heap_setR g e r (o + 1) _ _ (heap_setCell_same w g o _ _ v h)
theorem setCells_fr (g : Nat) : ∀ (vs : List Value) (o : Nat) (w : World), Fr w (fun b => b = g) (w.setCells g o vs) (fun b => b = g)
  | [], _, w => Fr.refl _ _
  | v :: r, o, w => (fr_cell (F := fun b => b = g) rfl).trans (setCells_fr g r (o + 1) _)
theorem setR_take {vs : List Value} {cur : Array Value} {o m : Nat} (h : o + vs.length ≤ cur.size) (hm : m = o + vs.length) : (setR cur o vs).toList.take m = cur.toList.take o ++ vs := by
  subst hm
  apply List.ext_getElem?
  intro j
  by_cases hj : j < o + vs.length
  · rw [List.getElem?_take_of_lt hj, Array.getElem?_toList, setR_get vs cur o h]
    by_cases h1 : o ≤ j
    · rw [if_pos ⟨h1, hj⟩, List.getElem?_append_right (by simp; omega)]
      congr 1
      simp
      omega
    · rw [if_neg (by omega), List.getElem?_append_left (by simp; omega), List.getElem?_take_of_lt (by omega), Array.getElem?_toList]
  · rw [List.getElem?_eq_none (by rw [List.length_take]; omega), List.getElem?_eq_none (by simp; omega)]
theorem setR_take_low {vs : List Value} {cur : Array Value} {o m : Nat} (h : o + vs.length ≤ cur.size) (hm : m ≤ o) : (setR cur o vs).toList.take m = cur.toList.take m := by
  apply List.ext_getElem?
  intro j
  by_cases hj : j < m
  · rw [List.getElem?_take_of_lt hj, List.getElem?_take_of_lt hj, Array.getElem?_toList, Array.getElem?_toList, setR_get vs cur o h, if_neg (by omega)]
  · rw [List.getElem?_eq_none (by rw [List.length_take]; omega), List.getElem?_eq_none (by rw [List.length_take]; omega)]
/-- 'clear(s)' of one element of several cells. -/
theorem run_clear_one {P : Program} (w : World) (t e ty : TypeId) (z : Value) (ht : P.underlying t = some (.slice e)) (hv : ∀ w, (zeroValue e).run P w = .ok z w) (zs : List Value) (hz : z.cells = zs.toArray) (h1 : ∀ v ∈ zs, v.oneCell' = true) (b o c : Nat)
    (hc : ∀ j, j < zs.length → (w.cell? ⟨b, o + j, none⟩).isSome = true) (hf : ∀ j, j < zs.length → w.frozen? ⟨b, o + j, none⟩ = false) :
    (Builtin.clear_ #[t] ty #[.slice (some ⟨b, o, none⟩) 1 c]).run P w = .ok (.tuple #[]) (w.setCells b o zs) := by
  have hzc : (Builtin.zeroCells z.cells 1).toList = zs := by
    rw [hz]
    simp only [Builtin.zeroCells]
    apply List.ext_getElem
    · simp
    · intro i h1 h2
      simp [Nat.mod_eq_of_lt h2, h2]
  have hst := run_storeCells_cells (P := P) b o zs 0 w (by simpa using hc) (by simpa using hf) h1
  simp only [Nat.add_zero] at hst
  simp [Builtin.clear_, run_underlying ht, hv, hzc, hst]
theorem ent_info : (Try.prog.info? 55).map (fun i => (i.zero, i.size, i.bytes)) = some (some (.agg #[.int .i64 0, .string ⟨#[]⟩, .bool false]), 3, 32) := by kernel_rfl
theorem ent_zero (w : World) : (zeroValue 55).run Try.prog w = .ok (.agg #[.int .i64 0, .string ⟨#[]⟩, .bool false]) w := by
  obtain ⟨i, hi, hz0, hz1, hz2⟩ := info_parts ent_info
  simp [zeroValue, typeInfo, hi, hz0, go_sem]
theorem ec_flat_length (r : List CE) : (r.flatMap ec).length = r.length * 3 := rows_length ec ec_length r
theorem ec_one (r : List CE) : ∀ u ∈ r.flatMap ec, u.oneCell' = true := by
  intro u hu
  obtain ⟨e, _, he⟩ := List.mem_flatMap.1 hu
  simp [ec] at he
  rcases he with rfl | rfl | rfl <;> rfl
theorem flat_drop : ∀ (r : List CE) (j : Nat), (r.flatMap ec).drop (j * 3) = (r.drop j).flatMap ec
  | r, 0 => by simp
  | [], j + 1 => by simp
  | e :: r, j + 1 => by
    rw [List.flatMap_cons, List.drop_succ_cons, ← flat_drop r j, show (j + 1) * 3 = (ec e).length + j * 3 by rw [ec_length]; omega, List.drop_append]
    simp
theorem flat_take : ∀ (r : List CE) (j : Nat), (r.flatMap ec).take (j * 3) = (r.take j).flatMap ec
  | r, 0 => by simp
  | [], j + 1 => by simp
  | e :: r, j + 1 => by
    rw [List.flatMap_cons, List.take_succ_cons, List.flatMap_cons, ← flat_take r j, show (j + 1) * 3 = (ec e).length + j * 3 by rw [ec_length]; omega, List.take_append, List.take_of_length_le (by omega)]
    simp
set_option maxHeartbeats 4000000 in
set_option maxRecDepth 100000 in
theorem delete_any (g cap i : Nat) (row : List CE) (w : World) (hi : i < row.length) (hlen : row.length ≤ 1000) (hown : w.ownsRow 0 55 3 (.slice (some ⟨g, 0, none⟩) row.length cap) row.length (row.flatMap ec)) :
    Calls Try.prog 20 #[.slice (some ⟨g, 0, none⟩) row.length cap, .int .i64 i, .int .i64 (i + 1 : Nat)] w fun e w' => e = .returned (.slice (some ⟨g, 0, none⟩) (row.length - 1) cap) ∧
      w'.ownsRow 0 55 3 (.slice (some ⟨g, 0, none⟩) (row.length - 1) cap) (row.length - 1) ((row.eraseIdx i).flatMap ec) ∧ Fr w (fun b => b = g) w' (fun b => b = g) := by
  obtain ⟨i0, hi0, hz0, hz1, hz2⟩ := info_parts ent_info
  obtain ⟨hxl, hown2⟩ := hown
  rcases hown2 with ⟨e1, _⟩ | ⟨g', cap', cur, e1, e2, hg, hnc, hcm, hcs, htk⟩
  · simp at e1
  obtain ⟨rfl, rfl⟩ : g = g' ∧ cap = cap' := by simpa using e1
  have hcell : ∀ j, w.cell? ⟨g, j, none⟩ = cur[j]? := fun j => by simp [World.cell?, hg]
  have hfz : ∀ j, w.frozen? ⟨g, j, none⟩ = false := fun j => by simp [World.frozen?, hg]
  -- the cells that are moved to the left
  obtain ⟨news, hnews⟩ : ∃ news, news = (row.drop (i + 1)).flatMap ec := ⟨_, rfl⟩
  have hnl : news.length = (row.length - (i + 1)) * 3 := by rw [hnews, ec_flat_length, List.length_drop]
  have hget : ∀ t u, news[t]? = some u → w.cell? ⟨g, (i + 1) * 3 + t, none⟩ = some u := by
    intro t u hu
    have ht : t < news.length := (List.getElem?_eq_some_iff.1 hu).1
    rw [hnews, ← flat_drop, List.getElem?_drop, ← htk, List.getElem?_take_of_lt (by omega)] at hu
    rw [hcell]
    simpa using hu
  obtain ⟨A, hA, hsrc⟩ : ∃ A : Addr, (if cap = i + 1 then some (⟨g, 0, none⟩ : Addr) else some ⟨g, (i + 1) * 3, none⟩) = some A ∧ Hid (∀ t u, news[t]? = some u → w.drew.cell? (A.add t) = some u) := by
    by_cases h : cap = i + 1
    · refine ⟨⟨g, 0, none⟩, by simp [h], fun t u hu => ?_⟩
      have ht : t < news.length := (List.getElem?_eq_some_iff.1 hu).1
      omega
    · refine ⟨⟨g, (i + 1) * 3, none⟩, by simp [h], fun t u hu => ?_⟩
      rw [Addr.add_lit]
      exact hget t u hu
  have s1 : Hid (news.length = (row.length - (i + 1)) * 3) := hnl
  have s2 : Hid (∀ u ∈ news, u.oneCell' = true) := by rw [hnews]; exact ec_one _
  have s3 : Hid (∀ t, t < news.length → (w.drew.cell? ⟨g, 0 + i * 3 + t, none⟩).isSome = true ∧ w.drew.frozen? ⟨g, 0 + i * 3 + t, none⟩ = false) := by
    intro t ht
    refine ⟨?_, hfz _⟩
    show (w.cell? _).isSome = true
    rw [hcell]
    have : i * 3 + t < cur.size := by omega
    simp [this]
  obtain ⟨W1, hW1⟩ : ∃ W1, W1 = w.drew.setCells g (0 + i * 3) news := ⟨_, rfl⟩
  have hg1 : W1.heap[g]? = some (.cells (setR cur (0 + i * 3) news) 55 (0, 0)) := by rw [hW1]; exact heap_setR g _ _ _ _ _ hg
  have hcl : ∀ ty, (Builtin.clear_ #[51] ty #[.slice (some ⟨g, (row.length - 1) * 3, none⟩) 1 (cap - (row.length - 1))]).run Try.prog W1 = .ok (.tuple #[]) (W1.setCells g ((row.length - 1) * 3) [.int .i64 0, .string ⟨#[]⟩, .bool false]) := fun ty =>
    run_clear_one W1 _ _ ty _ Try.underlying51 ent_zero [.int .i64 0, .string ⟨#[]⟩, .bool false] rfl (by intro v hv; simp at hv; rcases hv with rfl | rfl | rfl <;> rfl) g _ _
      (fun t ht => by
        have h3 : t < 3 := ht
        have : (row.length - 1) * 3 + t < cur.size := by omega
        simp [World.cell?, hg1, this, setR_size]) (fun t ht => by simp [World.frozen?, hg1])
  have hfin : (row.eraseIdx i).flatMap ec = (setR (setR cur (0 + i * 3) news) ((row.length - 1) * 3) [.int .i64 0, .string ⟨#[]⟩, .bool false]).toList.take ((row.length - 1) * 3) := by
    rw [setR_take_low (by rw [setR_size]; simp; omega) (Nat.le_refl _), setR_take (by omega) (by omega), Nat.zero_add, show cur.toList.take (i * 3) = (cur.toList.take (row.length * 3)).take (i * 3) by rw [List.take_take, Nat.min_eq_left (by omega)], htk, flat_take, hnews, ← List.flatMap_append, List.eraseIdx_eq_take_drop_succ]
  have hend : (W1.setCells g ((row.length - 1) * 3) [.int .i64 0, .string ⟨#[]⟩, .bool false]).ownsRow 0 55 3 (.slice (some ⟨g, 0, none⟩) (row.length - 1) cap) (row.length - 1) ((row.eraseIdx i).flatMap ec) ∧
      Fr w (fun b => b = g) (W1.setCells g ((row.length - 1) * 3) [.int .i64 0, .string ⟨#[]⟩, .bool false]) (fun b => b = g) := by
    refine ⟨⟨?_, .inr ⟨g, cap, _, rfl, Nat.zero_le _, heap_setR g _ _ _ _ _ hg1, by omega, hcm, by rw [setR_size, setR_size]; exact hcs, hfin.symm⟩⟩, ?_⟩
    · rw [ec_flat_length, List.length_eraseIdx, if_pos hi]
    · rw [hW1]
      exact ((Fr.of_below (Below.refl _ _).drew).trans (setCells_fr g _ _ _)).trans (setCells_fr g _ _ _)
  have HE := Lib.hid hend
  have hW : Hid (W1 = w.drew.setCells g (0 + i * 3) news) := hW1
  have hic : i ≤ cap := by omega
  have hjc : i + 1 ≤ cap := by omega
  have hne : ¬ (i = i + 1) := by omega
  have hil : i + 1 ≤ row.length := by omega
  have hb1 : (0 : Int) ≤ (i : Int) + 1 := by omega
  have hb2 : (i : Int) + 1 ≤ row.length := by omega
  have hsum : i + (row.length - (i + 1)) = row.length - 1 := by omega
  have hone : row.length - (row.length - 1) = 1 := by omega
  have hlow : ¬ (cap = row.length - 1) := by omega
  clear hend hfin hW1 hg1 hget hnews hcell hfz hxl e1 e2 htk hcs hnl
  go_enter Try.func20, Try.ntmps20
  go_wp2_with fail
  go_region_law (refine step_append_room rfl (.tmp 22) (.tmp 25) 51 rfl 55 i0 3 Try.underlying51 hi0 hz1 g 0 i cap (by simp [Act.eval, Act.put]) A (row.length - (i + 1)) (cap - (i + 1)) news (by simp [Act.eval, Act.put]) s1.out hsrc.out s2.out (by omega) s3.out ?_; rw [← hW.out])
  go_wp2
  go_ret
  exact ⟨rfl, HE.out⟩
end Go.Proofs.Ytohjhbhbpflokaa.Ck
