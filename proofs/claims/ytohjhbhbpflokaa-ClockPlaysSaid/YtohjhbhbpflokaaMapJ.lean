
/- A map of numbers by numbers: delete, clear, and an entry that is laid and stored later. -/
import Derived.Test.YtohjhbhbpflokaaMapI
import Derived.Maps.OwnSet
import Derived.WideKeyEntry
namespace Go.Proofs.Ytohjhbhbpflokaa
set_option linter.unusedSimpArgs false
set_option linter.unusedVariables false
open Go Go.RowKit Go.WideElems Go.MapKept Go.ChangeMaps Go.ChangeShapes Go.WideShapes
section
variable {w w' : World} {b n : Nat} {f : Int → Option Int}
def delF (f : Int → Option Int) (k : Int) : Int → Option Int := fun j => if j = k then none else f j
theorem MapI.del_ {D : DataW Unit} {k : Int} (h1 : w'.ownsMap Try.prog 3 (plainElem Try.prog 3) b n (D.del (.int .i64 k))) (h2 : Maps.IsMap D) (hat : ∀ k, i64ok k → ∀ zd, D.atKey (.int .i64 k) zd = (match f k with | some v => .lit (.int .i64 v) | none => zd)) : MapI w' b n (delF f k) := by
  refine ⟨⟨_, h1, h2.del _, fun j hj zd => ?_⟩⟩
  unfold delF
  by_cases e : j = k
  · subst e
    rw [Maps.atKey_del_same, if_pos rfl]
  · rw [Maps.atKey_del_other (by simp [e]), if_neg e]
    exact hat j hj zd
/-- 'delete(m, k)', as a run. -/
theorem MapI.drop (h : MapI w b n f) {k : Int} (hk : i64ok k) (ty : TypeId) :
    ∃ w', (Builtin.delete_ #[50, 3] ty #[.map (some b), .int .i64 k]).run Try.prog w = .ok (.tuple #[]) w' ∧ MapI w' b n (delF f k) ∧ w.mapTurned w' b := by
  obtain ⟨D, h1, h2, hat⟩ := h.ex
  obtain ⟨w', hrun, r1, r2⟩ := h1.drop (Maps.int_keyed int_under) map_under (Maps.keyOf_int_mk int_under hk) ty
  exact ⟨w', hrun, MapI.del_ r1 h2 hat, r2⟩
theorem wpList_delI {ops : Array Oper} {rest : List Oper} {o : Oper} {a : Act} {Q : Exit → Act → World → Prop} (hg : o.guard = none) (m x : Operand) (hop : o.op = Op.call { callee := Callee.builtin Builtin.delete, args := #[m, x], argTypes := #[50, 3] }) {k : Int}
    (hm : a.eval m = .map (some b)) (h : MapI w b n f) (hx : a.eval x = .int .i64 k) (hk : i64ok k)
    (hK : ∀ w', MapI w' b n (delF f k) → w.mapTurned w' b → wpList Try.prog ops Q rest (a.put o.dst (.tuple #[])) w') : wpList Try.prog ops Q (o :: rest) a w := by
  obtain ⟨D, h1, h2, hat⟩ := h.ex
  exact wpList_delete_own w hg m x 50 3 hop 3 (Maps.int_keyed int_under) map_under _ b n D hm h1 _ (.int .i64 k) hx (Maps.keyOf_int_mk int_under hk) fun w' r1 r2 => hK w' (MapI.del_ r1 h2 hat) r2
/-- 'm[k] = v', as a run. -/
theorem MapI.put (h : MapI w b n f) (hn : n < 1000000) {k z : Int} (hk : i64ok k) (hz : i64ok z) :
    ∃ w', (Instr.mapUpdate 50 (.map (some b)) (.int .i64 k) (.int .i64 z)).run Try.prog w = .ok () w' ∧ MapI w' b (n + 1) (putF f k z) ∧ w.grownBy w' (some b) := by
  obtain ⟨D, h1, h2, hat⟩ := h.ex
  obtain ⟨w', hrun, r1, r2⟩ := World.ownsMap.update h1 (Maps.int_keyed int_under) map_under (by unfold maxLen; omega) (key := .int .i64 k) (val := .int .i64 z) (Maps.keyOf_int_mk int_under hk) (plainElem_int int_under hz)
  exact ⟨w', hrun, MapI.put_ r1 h2 hat, r2⟩
/-- 'clear(m)', as a run. -/
theorem MapI.clear (h : MapI w b n f) :
    ∃ w', (∀ ty, (Builtin.clear_ #[50] ty #[.map (some b)]).run Try.prog w = .ok (.tuple #[]) w') ∧ MapI w' b 0 (fun _ => none) ∧ w.mapTurned w' b := by
  obtain ⟨D, ⟨es, clock, hb, F, hs, hD⟩, _⟩ := h.ex
  refine ⟨setBlock w b (.map #[] clock), ?_, ?_, ⟨es, clock, #[], clock, hb, rfl⟩⟩
  · intro ty
    simp [Builtin.clear_, run_underlying map_under, MapKept.run_getObj_map hb, MapKept.run_setObj_map _ hb, Result.andThen, setBlock]
  · exact ⟨⟨.map [], ⟨#[], clock, heap_setBlock_same hb _, ⟨by simp, by simpa using stamped_empty clock, by simp⟩, Nat.le_refl _, rfl⟩, Maps.isMap_empty, fun k _ zd => by simp [DataW.atKey]⟩⟩
theorem wpList_clearI {ops : Array Oper} {rest : List Oper} {o : Oper} {a : Act} {Q : Exit → Act → World → Prop} (hg : o.guard = none) (m : Operand) (hop : o.op = Op.call { callee := Callee.builtin Builtin.clear, args := #[m], argTypes := #[50] })
    (hm : a.eval m = .map (some b)) (h : MapI w b n f)
    (hK : ∀ w', MapI w' b 0 (fun _ => none) → w.mapTurned w' b → wpList Try.prog ops Q rest (a.put o.dst (.tuple #[])) w') : wpList Try.prog ops Q (o :: rest) a w := by
  refine wpList_plain hg fun K' hK' => ?_
  obtain ⟨w', hrun, r1, r2⟩ := h.clear
  unfold Oper.wp
  simp [execOp, hop, resolve, invoke, builtin, hm, hrun, Result.andThen]
  exact hK' _ _ (hK w' r1 r2)
/-- an entry of a new key that is laid, and stored later. -/
theorem MapI.entry (h : MapI w b n f) (hn : n < 1000000) {k : Int} (hk : i64ok k) (hno : f k = none) :
    ∃ (v0 : Value) (st : Nat) (O : Obj), w.heap[b]?.isSome ∧ (Instr.mapEntry 50 (.map (some b)) (.int .i64 k)).run Try.prog w = .ok (.tuple #[v0, goInt st]) (setBlock w b O) ∧
      ∀ (w2 : World) (z : Int), w2.heap[b]? = some O → i64ok z → ∃ O2, (Instr.entryStore 50 (.map (some b)) (goInt st) (.int .i64 z)).run Try.prog w2 = .ok () (setBlock w2 b O2) ∧ MapI (setBlock w2 b O2) b (n + 1) (putF f k z) := by
  obtain ⟨D, ho, h2, hat⟩ := h.ex
  have h1 := ho
  have hkey := Maps.keyOf_int_mk int_under hk
  have K := Maps.int_keyed int_under
  obtain ⟨es, clock, hb, F, hs, hD⟩ := ho
  have hz0 := int_zero w
  obtain ⟨s1, s2, _⟩ := F.stamped
  have hfind : (Instr.findKey 3 (.int .i64 k) es.toList).run Try.prog w = .ok none w := by
    rcases K.find w hkey es.toList F.keys with ⟨g, _⟩ | ⟨j, e0, g1, g2, g3⟩
    · exact g
    · exfalso
      rcases Maps.fit_look false K map_under hz0 hb F hkey with ⟨_, hne, _⟩ | ⟨e1, y, _, _, _, hRv, ha, _⟩
      · exact hne e0 (List.mem_of_getElem? g2) g3
      · obtain ⟨q, hq, hy, _⟩ := plainElem_int_inv int_under hRv
        have h3 := (hat k hk (.lit (.bool true))).symm.trans (hD ▸ ha (.lit (.bool true)))
        rw [hno, hy] at h3
        simp at h3
  refine ⟨.int .i64 0, clock, .map (es.push ⟨.int .i64 k, .int .i64 0, clock⟩) (clock + 1), by simp [hb], ?_, fun w2 z hw2 hz => ?_⟩
  · simp [Instr.mapEntry, run_underlying map_under, MapKept.run_getObj_map hb, K.check w false hkey, hfind, hz0, MapKept.run_setObj_map _ hb, Result.andThen, setBlock]
  · have hidx : (es.push ⟨.int .i64 k, .int .i64 0, clock⟩).findIdx? (fun e => ((e.born : Nat) : Int) == ((clock : Nat) : Int)) = some es.size := by
      rw [findIdx_arr]
      have hmem : ((es.push (⟨.int .i64 k, .int .i64 0, clock⟩ : MapEntry)).toList.map (·.born)).Nodup := by
        rw [Array.toList_push, List.map_append, List.nodup_append]
        refine ⟨s2, List.nodup_cons.2 ⟨by simp, List.nodup_nil⟩, fun a ha c hc e1 => ?_⟩
        obtain ⟨x, hx, rfl⟩ := List.mem_map.1 ha
        obtain rfl : c = clock := by simpa using hc
        have := s1 x hx
        omega
      have hb1 := findIdx_born hmem (j := es.size) (e0 := ⟨.int .i64 k, .int .i64 0, clock⟩) (by simp)
      exact hb1
    have hmod : (es.push ⟨.int .i64 k, .int .i64 0, clock⟩).modify es.size (fun e => { e with val := .int .i64 z }) = es.push ⟨.int .i64 k, .int .i64 z, clock⟩ := by
      apply Array.ext'
      rw [Array.toList_modify, Array.toList_push, Array.toList_push, ← Array.length_toList, modify_last]
    obtain ⟨w', hr3, r1, _⟩ := h1.update K map_under (show n < maxLen by unfold maxLen; omega) hkey (plainElem_int int_under hz)
    have hr2 : (Instr.mapUpdate 50 (.map (some b)) (.int .i64 k) (.int .i64 z)).run Try.prog w = .ok () (setBlock w b (.map (es.push ⟨.int .i64 k, .int .i64 z, clock⟩) (clock + 1))) := by
      simp [Instr.mapUpdate, run_underlying map_under, MapKept.run_getObj_map hb, K.check w false hkey, hfind, MapKept.run_setObj_map _ hb, Result.andThen, setBlock]
    rw [hr2] at hr3
    obtain rfl : setBlock w b (.map (es.push ⟨.int .i64 k, .int .i64 z, clock⟩) (clock + 1)) = w' := by simpa using hr3
    obtain ⟨D', ⟨es3, c3, hb3, g1, g2, g3⟩, g4⟩ := (MapI.put_ r1 h2 hat).ex
    rw [heap_setBlock_same hb] at hb3
    obtain ⟨rfl, rfl⟩ : _ = es3 ∧ _ = c3 := by simpa using hb3
    refine ⟨.map (es.push ⟨.int .i64 k, .int .i64 z, clock⟩) (clock + 1), ?_, ⟨D', ⟨_, _, heap_setBlock_same hw2 _, g1, g2, g3⟩, g4⟩⟩
    simp [Instr.entryStore, MapKept.run_getObj_map hw2, asInt, asIntOf, goInt, hidx, hmod, MapKept.run_setObj_map _ hw2, Result.andThen, setBlock]
end
end Go.Proofs.Ytohjhbhbpflokaa
