
/- A map of numbers by numbers in memory, as a plain function. */ -/
import Derived.Test.YtohjhbhbpflokaaProg
import Derived.Test.YtohjhbhbpflokaaFr
import Derived.Maps.Own
import Derived.Maps.Views
import Derived.KernelRfl
namespace Go.Proofs.Ytohjhbhbpflokaa
set_option linter.unusedSimpArgs false
set_option linter.unusedVariables false
open Go Go.RowKit

abbrev i64ok (k : Int) : Prop := (Lit.int .i64 k).wf = true
theorem i64ok_of {k : Int} (h0 : -9223372036854775808 ≤ k) (h1 : k ≤ 9223372036854775807) : i64ok k := by
  unfold i64ok
  simp only [Lit.wf, Bool.and_eq_true, decide_eq_true_eq]
  have e1 : IntKind.i64.min = -9223372036854775808 := by decide
  have e2 : IntKind.i64.max = 9223372036854775807 := by decide
  rw [e1, e2]
  exact ⟨h0, h1⟩
theorem map_under : Try.prog.underlying 50 = some (.map 3 3) := by kernel_rfl
theorem int_under : Try.prog.underlying 3 = some (.int .i64) := by kernel_rfl
theorem int_info0 : (Try.prog.info? 3).map (fun i => i.zero) = some (some (.int .i64 0)) := by kernel_rfl
theorem int_zero (w : World) : (zeroValue 3).run Try.prog w = .ok (.int .i64 0) w := by
  have h := int_info0
  cases hi : Try.prog.info? 3 with
  | none => rw [hi] at h; cases h
  | some i =>
    rw [hi] at h
    simp only [Option.map_some, Option.some.injEq] at h
    simp [zeroValue, typeInfo, hi, h, go_sem]

/-- block b is a map of at most n entries that is the function f. -/
structure MapI (w : World) (b n : Nat) (f : Int → Option Int) : Prop where
  ex : ∃ D : DataW Unit, w.ownsMap Try.prog 3 (plainElem Try.prog 3) b n D ∧ Maps.IsMap D ∧ ∀ k, i64ok k → ∀ zd, D.atKey (.int .i64 k) zd = (match f k with | some v => .lit (.int .i64 v) | none => zd)
section
variable {w w' : World} {b n : Nat} {f : Int → Option Int}
theorem MapI.made (w : World) : MapI (w.alloc (.map #[] 0)) w.heap.size 0 (fun _ => none) := ⟨⟨.map [], World.ownsMap_made _ _ _ _, Maps.isMap_empty, fun k _ zd => by simp [DataW.atKey]⟩⟩
theorem MapI.lt (h : MapI w b n f) : b < w.heap.size := by obtain ⟨D, h1, _⟩ := h.ex; exact h1.lt
theorem MapI.kept {row : Option Nat} (h : MapI w b n f) (hg : w.grownBy w' row) (hne : some b ≠ row) : MapI w' b n f := by
  obtain ⟨D, h1, h2⟩ := h.ex
  exact ⟨⟨D, h1.kept hg hne, h2⟩⟩
theorem MapI.below (h : MapI w b n f) (hb : Below w.heap.size w w') : MapI w' b n f := h.kept (row := none) ⟨hb.os, hb.tape, hb.output, hb.size, fun k hk _ => hb.block k hk⟩ (by simp)
theorem MapI.fr {F F' : Nat → Prop} (h : MapI w b n f) (hf : Fr w F w' F') (hn : ¬ F b) : MapI w' b n f := by
  obtain ⟨D, ⟨es, clock, hb, g1, g2, g3⟩, h2⟩ := h.ex
  exact ⟨⟨D, ⟨es, clock, hf.block hb hn, g1, g2, g3⟩, h2⟩⟩
theorem MapI.more {m : Nat} (h : MapI w b n f) (hm : n ≤ m) : MapI w b m f := by
  obtain ⟨D, h1, h2⟩ := h.ex
  exact ⟨⟨D, h1.mono hm, h2⟩⟩
theorem MapI.look_any (h : MapI w b n f) (c : Bool) {k : Int} (hk : i64ok k) : (Instr.lookup 50 (.map (some b)) (.int .i64 k) c).run Try.prog w = .ok (if c then .tuple #[.int .i64 ((f k).getD 0), .bool (f k).isSome] else .int .i64 ((f k).getD 0)) w := by
  obtain ⟨D, ⟨es, clock, hb, F, _, rfl⟩, _, hat⟩ := h.ex
  rcases Maps.fit_look c (Maps.int_keyed int_under) map_under (int_zero w) hb F (Maps.keyOf_int_mk int_under hk) with ⟨hrun, _, ha⟩ | ⟨e0, y, _, _, hrun, hRv, ha, _⟩
  · have hn : f k = none := by
      cases hf : f k with
      | none => rfl
      | some v =>
        have h1 := (hat k hk (.lit (.bool true))).symm.trans (ha (.lit (.bool true)))
        rw [hf] at h1
        simp at h1
    rw [hrun, hn]
    rfl
  · obtain ⟨q, hq, hy, _⟩ := plainElem_int_inv int_under hRv
    have hs : f k = some q := by
      cases hf : f k with
      | none =>
        have h1 := (hat k hk (.lit (.bool true))).symm.trans (ha (.lit (.bool true)))
        rw [hf, hy] at h1
        simp at h1
      | some v =>
        have h1 := (hat k hk (.lit (.bool true))).symm.trans (ha (.lit (.bool true)))
        rw [hf, hy] at h1
        simp at h1
        rw [h1]
    rw [hrun, hs, hq]
    rfl
theorem MapI.look_ok (h : MapI w b n f) {k : Int} (hk : i64ok k) : (Instr.lookup 50 (.map (some b)) (.int .i64 k) true).run Try.prog w = .ok (.tuple #[.int .i64 ((f k).getD 0), .bool (f k).isSome]) w := by simpa using h.look_any true hk
theorem MapI.look (h : MapI w b n f) {k : Int} (hk : i64ok k) : (Instr.lookup 50 (.map (some b)) (.int .i64 k) false).run Try.prog w = .ok (.int .i64 ((f k).getD 0)) w := by simpa using h.look_any false hk
def putF (f : Int → Option Int) (k v : Int) : Int → Option Int := fun j => if j = k then some v else f j
theorem MapI.put_ {D : DataW Unit} {k v : Int} (h1 : w'.ownsMap Try.prog 3 (plainElem Try.prog 3) b (n + 1) (D.put (.int .i64 k) (.lit (.int .i64 v)))) (h2 : Maps.IsMap D) (hat : ∀ k, i64ok k → ∀ zd, D.atKey (.int .i64 k) zd = (match f k with | some v => .lit (.int .i64 v) | none => zd)) : MapI w' b (n + 1) (putF f k v) := by
  refine ⟨⟨_, h1, h2.put _ _, fun j hj zd => ?_⟩⟩
  unfold putF
  by_cases e : j = k
  · subst e
    rw [Maps.atKey_put_same h2 (by simp [WideAt.IsKeyLit]), if_pos rfl]
  · rw [Maps.atKey_put_other (by simp [e]), if_neg e]
    exact hat j hj zd
/-- 'm[k] = v'. -/
theorem wpList_putI {ops : Array Oper} {rest : List Oper} {o : Oper} {a : Act} {Q : Exit → Act → World → Prop} (hg : o.guard = none) (m x v : Operand) (hop : o.op = Op.mapUpdate 50 m x v) {k z : Int}
    (hm : a.eval m = .map (some b)) (h : MapI w b n f) (hn : n < 1000000) (hx : a.eval x = .int .i64 k) (hv : a.eval v = .int .i64 z) (hk : i64ok k) (hz : i64ok z)
    (hK : ∀ w', MapI w' b (n + 1) (putF f k z) → w.grownBy w' (some b) → wpList Try.prog ops Q rest (a.put o.dst undef) w') : wpList Try.prog ops Q (o :: rest) a w := by
  obtain ⟨D, h1, h2, hat⟩ := h.ex
  refine wpList_mapUpdate_own w hg m x v 50 hop 3 3 (Maps.int_keyed int_under) map_under _ b n D hm h1 (by unfold maxLen; omega) _ _ (.int .i64 k) hx hv (Maps.keyOf_int_mk int_under hk) _ [] (plainElem_int int_under hz) fun w' r1 r2 => ?_
  exact hK w' (MapI.put_ r1 h2 hat) r2
end
end Go.Proofs.Ytohjhbhbpflokaa
