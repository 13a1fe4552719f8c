
/- Keys. -/
import Derived.Test.YtohjhbhbpflokaaClkG
namespace Go.Proofs.Ytohjhbhbpflokaa.Ck
set_option linter.unusedSimpArgs false
set_option linter.unusedVariables false
open Go Go.RowKit
set_option linter.unusedVariables false
attribute [local go_sem] lt_add1 lt_self1 size_ne size_ne' size_ne1 size_ne1'
theorem flat_row : ∀ (r : List CE) (i : Nat) (e : CE), r[i]? = some e → ∀ j, j < 3 → (r.flatMap ec)[i * 3 + j]? = (ec e)[j]?
  | [], _, _, h, _, _ => by simp at h
  | x :: r, 0, e, h, j, hj => by
    obtain rfl : x = e := by simpa using h
    rw [List.flatMap_cons, List.getElem?_append_left (by rw [ec_length]; omega)]
    simp
  | x :: r, i + 1, e, h, j, hj => by
    have ih := flat_row r i e (by simpa using h) j hj
    rw [List.flatMap_cons, List.getElem?_append_right (by rw [ec_length]; omega), ec_length, show (i + 1) * 3 + j - 3 = i * 3 + j by omega, ih]
theorem keys_nil (w : World) : Calls Try.prog 12 #[.pointer none] w fun e w' => e = .returned (.slice none 0 0) ∧ Below w.heap.size w w' := by
  go_enter Try.func12, Try.ntmps12
  go_wp2_with fail
  go_ret
  exact ⟨rfl, Below.refl _ _⟩
theorem int_inf : (Try.prog.info? 3).map (fun i => (i.zero, i.size, i.bytes)) = some (some (.int .i64 0), 1, 8) := by kernel_rfl
/-- numbers in a row of one's own. -/
def OwnN (w : World) (B : Nat) (v : Value) (l : List Int) : Prop := w.ownsRow B 3 1 v l.length (l.map (Value.int .i64))
theorem push_fr {w w7 : World} {g : Nat} {O : Obj} {v : Value} (hgrow : (w.alloc O).grownBy w7 v.ownBlock) (hat : v.ownBlock = some g ∨ g = w.heap.size + 1) : Fr w (fun b => v.ownBlock = some b) w7 (fun b => b = g) :=
  ⟨hgrow.os, hgrow.tape, hgrow.output, by have := hgrow.size; simp at this; omega, fun b hb hn => (hgrow.block b (by simp; omega) (fun e => hn e.symm)).trans (Below.heap_alloc _ _ b hb), fun b e => by
    subst e
    rcases hat with e | e
    · exact .inl e
    · right; omega⟩
theorem push_fr2 {w w7 : World} {g : Nat} {O O' : Obj} {v : Value} (hgrow : ((w.alloc O).alloc O').grownBy w7 v.ownBlock) (hat : v.ownBlock = some g ∨ g = w.heap.size + 1 + 1) : Fr w (fun b => v.ownBlock = some b) w7 (fun b => b = g) :=
  ⟨hgrow.os, hgrow.tape, hgrow.output, by have := hgrow.size; simp at this; omega, fun b hb hn => (hgrow.block b (by simp; omega) (fun e => hn e.symm)).trans ((Below.heap_alloc _ _ b (by simp; omega)).trans (Below.heap_alloc _ _ b hb)), fun b e => by
    subst e
    rcases hat with e | e
    · exact .inl e
    · right; omega⟩
theorem alloc2_at (w : World) (O O' : Obj) : ((w.alloc O).alloc O').heap[w.heap.size + 1]? = some O' := by
  have h := heap_alloc_new (w.alloc O) O'
  rwa [show (w.alloc O).heap.size = w.heap.size + 1 by simp] at h
/-- an entry's cells in memory. -/
theorem row_cells {w : World} {g cap i : Nat} {r : List CE} {e : CE} (h : w.ownsRow 0 55 3 (.slice (some ⟨g, 0, none⟩) r.length cap) r.length (r.flatMap ec)) (he : r[i]? = some e) :
    w.cell? ⟨g, i * 3, none⟩ = some (.int .i64 e.key) ∧ w.cell? ⟨g, i * 3 + 1, none⟩ = some (.string e.val) ∧ w.cell? ⟨g, i * 3 + 2, none⟩ = some (.bool e.used) ∧ g < w.heap.size := by
  have hl := (List.getElem?_eq_some_iff.1 he).1
  refine ⟨?_, ?_, ?_, (h.lt g rfl).2⟩
  · rw [own_at h (show i * 3 < r.length * 3 by omega)]; exact flat_row r i e he 0 (by omega)
  · rw [own_at h (show i * 3 + 1 < r.length * 3 by omega)]; exact flat_row r i e he 1 (by omega)
  · rw [own_at h (show i * 3 + 2 < r.length * 3 by omega)]; exact flat_row r i e he 2 (by omega)
set_option maxHeartbeats 2000000 in
theorem keys_any (c : Nat) (s : CS) (n : Nat) (w : World) (F : Nat → Prop) (h : CkAt c w F (s, n)) : Calls Try.prog 12 #[.pointer (some ⟨c, 0, none⟩)] w fun e w' => ∃ v, e = .returned v ∧ OwnN w' w.heap.size v (keys s.row) ∧ Below w.heap.size w w' := by
  obtain ⟨v, m, h1, h2, h3, h4, h5, h6, h7, h8⟩ := h
  obtain ⟨A, cp, rfl, _, _⟩ := SlAt.of_own h6
  have c0 := cell_of_row w c 0 _ _ (0, 0) h5
  have hlt := (Array.getElem?_eq_some_iff.1 h5).1
  simp only [List.getElem?_toArray, List.getElem?_cons_zero, List.getElem?_cons_succ] at c0
  have hsm : s.row.length ≤ 1000 := Nat.le_trans h8.le h8.small
  have HO := Lib.hid h6
  obtain ⟨i0, hi, hz0, hz1, hz2⟩ := info_parts int_inf
  clear h1 h2 h3 h4 h5 h6 h7 h8
  go_enter Try.func12, Try.ntmps12
  go_wp2_with fail
  go_loopw [3, 13] (fun out i wr => ∃ k : Nat, k ≤ s.row.length ∧ i = .int .i64 k ∧ Hid (OwnN wr w.heap.size out (keys (s.row.take k)) ∧ Below w.heap.size w wr)) (fun _ i _ => s.row.length - (intOf i).toNat)
  case atStart => exact ⟨0, Nat.zero_le _, rfl, Lib.hid ⟨by unfold OwnN; simpa [keys] using World.ownsRow_nil w w.heap.size 3 1, Below.refl _ _⟩⟩
  case round =>
    obtain ⟨k, hk, rfl, HB⟩ := hrel
    by_cases hks : k < s.row.length
    · obtain ⟨e, he⟩ : ∃ e, s.row[k]? = some e := ⟨_, List.getElem?_eq_getElem hks⟩
      have hks' : (k : Int) < s.row.length := by omega
      obtain ⟨g, cp', e1, _, hg⟩ := World.ownsRow.form HO.out (by omega)
      obtain ⟨rfl, rfl⟩ : A = some ⟨g, 0, none⟩ ∧ cp = cp' := by simpa using e1
      obtain ⟨d0, d1, d2, dg⟩ := row_cells HO.out he
      have hb := HB.out.2
      have b0 := (hb.cell (p := ⟨g, k * 3, none⟩) dg).trans d0
      have b1 := (hb.cell (p := ⟨g, k * 3 + 1, none⟩) dg).trans d1
      have b2 := (hb.cell (p := ⟨g, k * 3 + 2, none⟩) dg).trans d2
      have bg : g < wr.heap.size := Nat.lt_of_lt_of_le dg hb.size
      have hbz := hb.size
      have htk : keys (s.row.take (k + 1)) = keys (s.row.take k) ++ [e.key] := by
        unfold keys
        rw [List.take_add_one, he, List.map_append]
        rfl
      have HTK := Lib.hid htk
      have hlen : (keys (s.row.take k)).length ≤ 1000 := by simp [keys]; omega
      have hown := HB.out.1
      clear d0 d1 d2 e1 hb htk
      generalize keys (s.row.take k) = L at hown hlen HTK
      unfold OwnN at hown
      go_wp2_with (at_builtin; refine wpList_append_lies _ rfl _ _ 35 rfl w.heap.size 3 i0 (.int .i64 0) 1 8 Try.underlying35 hi hz0 hz1 hz2 rfl (by decide) _ L.length (L.map (Value.int .i64)) rfl ((World.ownsRow.alloc hown _).alloc _) ⟨wr.heap.size + 1, 0, none⟩ 1 1 [.int .i64 e.key] rfl rfl ?c1 ?c2 (by omega) ?c3 ?c4 ?c5 _ rfl ?_)
      case c1 => exact World.news_of_block (fr := (0, 0)) (alloc2_at wr _ _)
      case c2 => intro u hu; simp at hu; rcases hu with rfl; rfl
      case c3 => unfold maxLen; omega
      case c4 => omega
      case c5 => simp; omega
      intro g7 cap w7 hown7 hgrow hat7 hlt7
      have hf7 := push_fr2 hgrow hat7
      have H7 := Lib.hid (show OwnN w7 w.heap.size (.slice (some ⟨g7, 0, none⟩) (L.length + 1) cap) (L ++ [e.key]) ∧ Below w.heap.size w w7 from ⟨by
        unfold OwnN
        rw [List.length_append, List.map_append]
        exact hown7, hf7.below HB.out.2 (fun b e => (World.ownsRow.lt hown b e).1) hbz⟩)
      clear hown hown7 hgrow hat7 hlt7 hf7
      go_wp2_with fail
      go_roundw
      case rel => exact ⟨k + 1, by omega, by go_num, by rw [HTK.out]; exact H7⟩
      case measure => simp [intOf]; omega
    · have hks' : ¬ ((k : Int) < s.row.length) := by omega
      have htk : s.row.take k = s.row := List.take_of_length_le (by omega)
      rw [htk] at HB
      go_wp2_with fail
      go_ret
      exact ⟨_, rfl, HB.out⟩
end Go.Proofs.Ytohjhbhbpflokaa.Ck
