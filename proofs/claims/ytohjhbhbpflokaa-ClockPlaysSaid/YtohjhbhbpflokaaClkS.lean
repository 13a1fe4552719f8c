
/- The page's clock: what its drawn appends keep. -/
import Derived.Test.YtohjhbhbpflokaaClkK
import Derived.Test.YtohjhbhbpflokaaThx
namespace Go.Proofs.Ytohjhbhbpflokaa.Ck
set_option linter.unusedSimpArgs false
set_option linter.unusedVariables false
open Go Go.RowKit Go.Shelf
set_option linter.unusedVariables false
attribute [local go_sem] lt_add1 lt_self1 size_ne size_ne' size_ne1 size_ne1'
theorem VarAt.all {w : World} {z : Nat} {r r' : Value} {hand mo h' m' : Int} (h : VarAt w z r hand mo) : VarAt (((w.setCell ⟨z, 0, none⟩ r').setCell ⟨z, 1, none⟩ (.int .i64 h')).setCell ⟨z, 2, none⟩ (.int .i64 m')) z r' h' m' :=
  heap_setCell_same _ z 2 _ _ (.int .i64 m') ((h.set0 (u := r')).set1 (z := h'))
/-- a row's cells from a place on. -/
theorem OwnE.part {w : World} {B g cap i j m : Nat} {row ys : List CE} (h : OwnE w B (.slice (some ⟨g, 0, none⟩) row.length cap) row) (hy : ∀ q, q < m → ys[q]? = row[i + q]?) (hm : ys.length = m) (him : i + m ≤ row.length) : ∀ (t : Nat) u, (ys.flatMap ec)[t]? = some u → w.cell? ⟨g, i * 3 + t, none⟩ = some u := by
  intro t u hu
  have ht : t < ys.length * 3 := by rw [← ec_flat_length]; exact (List.getElem?_eq_some_iff.1 hu).1
  have e : ys = (row.drop i).take m := by
    apply List.ext_getElem?
    intro q
    by_cases hq : q < m
    · rw [hy q hq, List.getElem?_take_of_lt hq, List.getElem?_drop]
    · rw [List.getElem?_eq_none (by omega), List.getElem?_eq_none (by rw [List.length_take]; omega)]
  rw [own_at (own_base h (Nat.zero_le B)) (show i * 3 + t < row.length * 3 by omega)]
  rw [e, ← flat_take, ← flat_drop, List.getElem?_take_of_lt (by omega), List.getElem?_drop] at hu
  exact hu
/-- what holds in the region: the variable's row, and the row that is being made. -/
structure EIn (W : World) (zz : Nat) (i6 : Nat) (mo : Int) (s : Value × Value × List CE) (bs : Made) (w : World) : Prop where
  size : W.heap.size ≤ w.heap.size
  os : w.os = W.os
  tape : w.tape = W.tape
  output : w.output = W.output
  old : ∀ b, b < W.heap.size → b ≠ zz → w.heap[b]? = W.heap[b]?
  var : VarAt w zz s.1 i6 mo
  own : OwnE w W.heap.size s.2.1 s.2.2
  made : ∀ x ∈ bs, W.heap.size ≤ x.1 ∧ x.1 < w.heap.size ∧ (s.2.1.ownBlock = none → w.heap[x.1]? = some x.2)
def eCls (W : World) (zz : Nat) (hz : zz < W.heap.size) (i6 : Nat) (mo : Int) : Cls (Value × Value × List CE) W where
  In := EIn W zz i6 mo
  below := fun {s bs w w'} h hb => ⟨Nat.le_trans h.size hb.size, hb.os.trans h.os, hb.tape.trans h.tape, hb.output.trans h.output, fun b h1 h2 => (hb.block b (Nat.lt_of_lt_of_le h1 h.size)).trans (h.old b h1 h2), h.var.below hb, h.own.below hb, fun x hx => ⟨(h.made x hx).1, Nat.lt_of_lt_of_le (h.made x hx).2.1 hb.size, fun hn => (hb.block _ (h.made x hx).2.1).trans ((h.made x hx).2.2 hn)⟩⟩
  alloc := fun {s bs w} O h => by
    have hb : Below w.heap.size w (w.alloc O) := (Below.refl _ _).alloc (Nat.le_refl _) O
    refine ⟨Nat.le_trans h.size hb.size, h.os, h.tape, h.output, fun b h1 h2 => (hb.block b (Nat.lt_of_lt_of_le h1 h.size)).trans (h.old b h1 h2), h.var.below hb, h.own.below hb, fun x hx => ?_⟩
    rcases List.mem_cons.1 hx with rfl | hx
    · exact ⟨h.size, by simp, fun _ => heap_alloc_new w O⟩
    · exact ⟨(h.made x hx).1, Nat.lt_of_lt_of_le (h.made x hx).2.1 hb.size, fun hn => (hb.block _ (h.made x hx).2.1).trans ((h.made x hx).2.2 hn)⟩
  fresh := fun h => ⟨h.size, fun x hx => (h.made x hx).2.1⟩
  fewer := fun h hs => ⟨h.size, h.os, h.tape, h.output, h.old, h.var, h.own, fun x hx => h.made x (hs x hx)⟩
section
variable {W w : World} {zz i6 : Nat} {mo : Int} {hz : zz < W.heap.size} {bs : Made} {o : Oper} {a : Act} {r0 v : Value} {xs ys : List CE} {s1 x1 : Operand}
theorem eCls_start (hv : VarAt W zz r0 i6 mo) : (eCls W zz hz i6 mo).In (r0, .slice none 0 0, []) [] W.drew :=
  ⟨Nat.le_refl _, rfl, rfl, rfl, fun _ _ _ => rfl, hv.below ((Below.refl _ _).drew), World.ownsRow_nil _ _ _ 3, fun x hx => by cases hx⟩
/-- an append onto an own row. -/
theorem eCls_core {m c : Nat} {ad : Addr} {u : Value} (hw : (eCls W zz hz i6 mo).In (r0, v, xs) bs w) (hu : OwnE w W.heap.size u xs) (hun : u ≠ .slice none 0 0) (ho : o.op = Op.call { callee := Callee.builtin Builtin.append, args := #[s1, x1], argTypes := #[38, 38] })
    (hs : a.eval s1 = u) (hx : a.eval x1 = .slice (some ad) m c) (hm : m = ys.length) (hr : ∀ j y, (ys.flatMap ec)[j]? = some y → w.cell? (ad.add j) = some y) (h63 : xs.length + ys.length ≤ 100000) :
    thxUpon Try.prog (eCls W zz hz i6 mo) bs (fun v' s' => ∃ A cp, v' = .slice A (xs ++ ys).length cp ∧ v' ≠ .slice none 0 0 ∧ s' = (r0, v', xs ++ ys)) w ((execOp a.eval o).run Try.prog w) := by
  subst hm
  obtain ⟨i0, hi, hz0, hz1, hz2⟩ := info_parts refent_info
  obtain ⟨v', w', h1, h2, h3, h4, h5⟩ := run_append_own_at (P := Try.prog) w W.heap.size 38 o.type 65 i0 (.agg #[.int .i64 0, .string ⟨#[]⟩, .bool false]) 3 32 Try.underlying38 hi hz0 hz1 hz2 rfl (by decide) u xs.length (xs.flatMap ec) hu
    ad ys.length c (ys.flatMap ec) (ec_flat_length ys) hr (ec_one ys) (by unfold maxLen; omega) (by omega) hw.size
  have h2' : OwnE w' W.heap.size v' (xs ++ ys) := by
    unfold OwnE
    rw [List.length_append, List.flatMap_append]
    exact h2
  have hnn : v' ≠ .slice none 0 0 := fun e => hun (h4.1 e).1
  have hkeep : ∀ b, b < W.heap.size → w'.heap[b]? = w.heap[b]? := fun b hb => h3.block b (Nat.lt_of_lt_of_le hb hw.size) (fun e => by have := (World.ownsRow.lt hu b e.symm).1; omega)
  rw [run_exec_append ho hs hx h1]
  refine ⟨(r0, v', xs ++ ys), ?_, ?_⟩
  · obtain ⟨A, cp, rfl⟩ := h2'.form
    exact ⟨A, cp, rfl, hnn, rfl⟩
  · refine ⟨Nat.le_trans hw.size h3.size, h3.os.trans hw.os, h3.tape.trans hw.tape, h3.output.trans hw.output, fun b hb hn => (hkeep b hb).trans (hw.old b hb hn), (hkeep zz hz).trans hw.var, h2', fun x hx => ⟨(hw.made x hx).1, Nat.lt_of_lt_of_le (hw.made x hx).2.1 h3.size, fun hn => ?_⟩⟩
    exfalso
    rcases h2'.2 with ⟨e, _⟩ | ⟨g, _, _, e, _⟩
    · exact hnn e
    · simp only at hn
      rw [e] at hn
      simp [Value.ownBlock] at hn
theorem eCls_first {b0 m c : Nat} {ad : Addr} (hw : (eCls W zz hz i6 mo).In (r0, .slice none 0 0, []) bs w) (hb : (b0, Obj.cells #[] 65 (0, 0)) ∈ bs) (ho : o.op = Op.call { callee := Callee.builtin Builtin.append, args := #[s1, x1], argTypes := #[38, 38] })
    (hs : a.eval s1 = .slice (some ⟨b0, 0, none⟩) 0 0) (hx : a.eval x1 = .slice (some ad) m c) (hm : m = ys.length) (hr : ∀ j y, (ys.flatMap ec)[j]? = some y → w.cell? (ad.add j) = some y) (h63 : ys.length ≤ 100000) :
    thxUpon Try.prog (eCls W zz hz i6 mo) bs (fun v' s' => ∃ A cp, v' = .slice A ys.length cp ∧ v' ≠ .slice none 0 0 ∧ s' = (r0, v', ys)) w ((execOp a.eval o).run Try.prog w) := by
  have h1 := hw.made _ hb
  have h2 : OwnE w W.heap.size (.slice (some ⟨b0, 0, none⟩) 0 0) [] := ⟨rfl, .inr ⟨b0, 0, #[], rfl, h1.1, h1.2.2 rfl, Nat.le_refl _, Nat.zero_le _, rfl, rfl⟩⟩
  have := eCls_core (xs := []) (ys := ys) hw h2 (by simp) ho hs hx hm hr (by simpa using h63)
  simpa using this
/-- cells of a row that stands still. -/
theorem eCls_row {g cap B : Nat} {row : List CE} (hw : (eCls W zz hz i6 mo).In (r0, v, xs) bs w) (hg : g ≠ zz) (h : OwnE W B (.slice (some ⟨g, 0, none⟩) row.length cap) row) : OwnE w 0 (.slice (some ⟨g, 0, none⟩) row.length cap) row := by
  have hf : Fr W (fun b => b = zz) w (fun b => b = zz) := ⟨hw.os, hw.tape, hw.output, hw.size, fun b hb hn => hw.old b hb hn, fun b hb => .inl hb⟩
  exact hf.own (h.base (Nat.zero_le _)) (fun b hb e => hg (by simp [Value.ownBlock] at hb; omega))
/-- the row is stored. -/
theorem eCls_store (hw : (eCls W zz hz i6 mo).In (r0, v, xs) bs w) (hsz : ∀ b, v.ownBlock = some b → b ≠ zz) (hnn : v ≠ .slice none 0 0) : (eCls W zz hz i6 mo).In (v, v, xs) bs (w.setCell ⟨zz, 0, none⟩ v) := by
  have hb : ∀ b, b ≠ zz → (w.setCell ⟨zz, 0, none⟩ v).heap[b]? = w.heap[b]? := fun b hn => heap_setCell_other _ _ _ _ hn
  refine ⟨by simpa [World.setCell] using hw.size, hw.os, hw.tape, hw.output, fun b h1 h2 => (hb b h2).trans (hw.old b h1 h2), hw.var.set0, hw.own.other (fun e => hsz _ e rfl), fun x hx => ⟨(hw.made x hx).1, by simpa [World.setCell] using (hw.made x hx).2.1, fun hn => ?_⟩⟩
  have := (hw.made x hx).1
  exact (hb x.1 (by omega)).trans ((hw.made x hx).2.2 hn)
/-- a row written out empty. -/
theorem mkA_none (hg : o.guard = none) (ho : o.op = .buildSlice 38 0 #[]) : MkA Try.prog o a (.cells #[] 65 (0, 0)) (some 0) := by
  obtain ⟨i0, hi, hz0, hz1, hz2⟩ := info_parts refent_info
  refine ⟨hg, fun w => ?_⟩
  obtain ⟨dst, op, type, pos, after, guard⟩ := o
  simp only at ho
  subst ho
  generalize a.eval = ρ
  simp [execOp, Instr.buildSlice, Go.underlying, Go.sizeOf, typeInfo, Try.underlying38, hi, hz0, hz1, newRow, Instr.fill, mval, go_sem]
end
end Go.Proofs.Ytohjhbhbpflokaa.Ck
