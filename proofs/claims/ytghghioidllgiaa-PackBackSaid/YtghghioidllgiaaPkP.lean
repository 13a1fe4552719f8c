/- Put: a function as bytes. -/
import Derived.Test.YtghghioidllgiaaPk
import Derived.Test.YtghghioidllgiaaSl
import Derived.BigRegion
import Derived.Deep.RegionLaw
import Derived.Deep.AppendLies
import Derived.Laws.MakeOwn
namespace Go.Proofs.Ytghghioidllgiaa.Pk
set_option linter.unusedSimpArgs false
set_option linter.unusedVariables false
open Go Go.RowKit
open Go.Proofs.Ytghghioidllgiaa.Vec (SlI iv bv FunAt Right right_any)
attribute [local go_sem] lt_add1 lt_self1 size_ne size_ne' size_ne1 size_ne1'

/-- a byte's value, and a row of them. -/
def yv (xs : List Nat) (i : Nat) : Value := .int .u8 (xs.getD i 0 : Nat)
def yb (xs : List Nat) : List Value := xs.map fun x : Nat => .int .u8 (x : Int)
theorem yb_length (xs : List Nat) : (yb xs).length = xs.length := by simp [yb]
theorem yb_append (xs ys : List Nat) : yb (xs ++ ys) = yb xs ++ yb ys := by simp [yb]
theorem yb_one (xs : List Nat) : ∀ u ∈ yb xs, u.oneCell' = true := by
  intro u hu
  obtain ⟨x, _, rfl⟩ := List.mem_map.1 hu
  rfl
theorem u8_info : (Try.prog.info? 5).map (fun i => (i.zero, i.size, i.bytes)) = some (some (.int .u8 0), 1, 1) := by kernel_rfl
theorem make_bytes (l k : Nat) (hl : l ≤ k) (hk : k ≤ 1000000) (W : World) : (Instr.makeSlice 22 (.int .i64 l) (.int .i64 k)).run Try.prog W = .ok (.slice (some ⟨W.heap.size, 0, none⟩) l k) (W.alloc (.cells (Array.replicate k (.int .u8 0)) 5)) := by
  obtain ⟨i, hi, h0, h1, h2⟩ := info_parts u8_info
  have := run_make (P := Try.prog) W 22 5 i (.int .u8 0) Try.underlying22 hi h0 .i64 .i64 l k (by omega) (by omega) (by rw [h2]; omega) (by omega)
  rw [h1] at this
  have e : madeCells (Value.int .u8 0).cells ((k : Int).toNat * 1) = Array.replicate k (.int .u8 0) := by
    refine Array.ext (by simp [madeCells]) fun i h1 h2 => ?_
    simp [madeCells, Value.cells, Nat.mod_one]
  rw [e] at this
  simpa using this

theorem wide_any (n : Nat) (w : World) : Calls Try.prog 44 #[.int .i64 n] w fun e w' => e = .returned (.int .i64 (wid n)) ∧ w = w' := by
  go_enter Try.func44, Try.ntmps44
  rcases wid_cases n with ⟨h, e⟩ | ⟨h, e⟩
  · rw [e]
    have h1 : (256 : Int) < n := by omega
    go_wp2
    go_ret
    exact ⟨rfl, rfl⟩
  · rw [e]
    have h1 : ¬ (256 : Int) < n := by omega
    go_wp2
    go_ret
    exact ⟨rfl, rfl⟩
theorem size_any (n : Nat) (hn : n ≤ 100000) (w : World) : Calls Try.prog 43 #[.int .i64 n] w fun e w' => e = .returned (.int .i64 (siz n)) ∧ w = w' := by
  have HW := Lib.hid (wide_any n w)
  have hs : siz n = 2 + n * wid n + (n + 7) / 8 := rfl
  have hm : IntKind.i64.wrap ((n : Int) * (wid n : Nat)) = ((n * wid n : Nat) : Int) := by
    rw [IntWalk.i64_in _ (by rcases wid_cases n with ⟨_, e⟩ | ⟨_, e⟩ <;> rw [e] <;> omega)]
    simp
  have hb : n * wid n ≤ 200000 := by rcases wid_cases n with ⟨_, e⟩ | ⟨_, e⟩ <;> rw [e] <;> omega
  generalize wid n = q at HW hs hm hb
  generalize n * q = p at hs hm hb
  rw [hs]
  go_enter Try.func43, Try.ntmps43
  go_wp2_with fail
  refine HW.out.mono ?_
  rintro e w' ⟨rfl, rfl⟩
  go_wp2
  go_ret
  exact ⟨ret_int (by omega), rfl⟩

theorem at_old {w : World} {O : Obj} {i : Nat} {r : Option Obj} (hr : w.heap[i]? = r) (h : i < w.heap.size) : (w.alloc O).heap[i]? = r := by
  show (w.heap.push O)[i]? = r
  rw [Array.getElem?_push, if_neg (by omega)]; exact hr
theorem at_alloc {w : World} {O : Obj} {i : Nat} (h : i = w.heap.size) : (w.alloc O).heap[i]? = some O := by subst h; exact heap_alloc_new w O

/-- what Put's walk has: the argument's box, and the bytes so far. -/
structure PS (B : Nat) (a0 w : World) (V : Array Value) (v : Value) (X : List Nat) : Prop where
  bx : w.heap[B]? = some (.cells V 27 (0, 0))
  ow : w.ownsRow (B + 1) 5 1 v X.length (yb X)
  bel : Below B a0 w
section
variable {B : Nat} {a0 w w1 : World} {V : Array Value} {v v' : Value} {X Y : List Nat}
theorem PS.lt (h : PS B a0 w V v X) : B < w.heap.size := (Array.getElem?_eq_some_iff.1 h.bx).1
theorem PS.alloc (h : PS B a0 w V v X) (O : Obj) : PS B a0 (w.alloc O) V v X :=
  ⟨(show (w.heap.push O)[B]? = _ by rw [Array.getElem?_push, if_neg (by have := h.lt; omega)]; exact h.bx), h.ow.alloc O, h.bel.alloc (by have := h.lt; omega) O⟩
theorem PS.below (h : PS B a0 w V v X) (hb : Below w.heap.size w w1) : PS B a0 w1 V v X :=
  ⟨(hb.block B h.lt).trans h.bx, own_below h.ow hb, h.bel.trans (hb.mono (by have := h.lt; omega))⟩
theorem PS.grow (h : PS B a0 w V v X) (hg : w.grownBy w1 v.ownBlock) (ho : w1.ownsRow (B + 1) 5 1 v' (X.length + Y.length) (yb X ++ yb Y)) : PS B a0 w1 V v' (X ++ Y) :=
  ⟨(hg.block B h.lt (fun e => by have := (h.ow.lt B e.symm).1; omega)).trans h.bx, by rw [List.length_append, yb_append]; exact ho, h.bel.grown hg (by have := h.lt; omega) (fun k hk => by have := (h.ow.lt k hk).1; omega)⟩
end
/-- one byte is appended, of a slice of its own. -/
theorem wp_app {ops : Array Oper} {rest : List Oper} {o : Oper} {a : Act} {Q : Exit → Act → World → Prop} (hgd : o.guard = none) (s x : Operand)
    (ho : o.op = .call { callee := .builtin .append, args := #[s, x], argTypes := #[22, 22] })
    {B : Nat} {a0 W : World} {V : Array Value} {v : Value} {X : List Nat} {N : Nat} (h : PS B a0 W V v X) (hN : X.length = N) (hb : N ≤ 1000000) (hs : a.eval s = v) (y : Value) (z : Nat) (hy : y = .int .u8 (z : Int)) (hx : a.eval x = .slice (some ⟨W.heap.size, 0, none⟩) 1 1)
    (K : ∀ g cap w', PS B a0 w' V (.slice (some ⟨g, 0, none⟩) (N + 1) cap) (X ++ [z]) → wpList Try.prog ops Q rest (a.put o.dst (.slice (some ⟨g, 0, none⟩) (N + 1) cap)) w') : wpList Try.prog ops Q (o :: rest) a (W.alloc (.cells #[y] 5)) := by
  obtain ⟨iu, hiu, hu0, hu1, hu2⟩ := info_parts u8_info
  subst hN
  refine wpList_append_lies _ hgd s x 22 ho (B + 1) 5 iu (.int .u8 0) 1 1 Try.underlying22 hiu hu0 hu1 hu2 rfl (by decide) v X.length (yb X) hs (h.ow.alloc _) ⟨W.heap.size, 0, none⟩ 1 1 [y] hx rfl
    (World.news_of_block (fr := (0, 0)) (heap_alloc_new W _)) (by intro u hu; simp at hu; rcases hu with rfl; subst hy; rfl) (by omega) (by unfold maxLen; omega) (by omega) (by have := h.lt; simp; omega) _ rfl ?_
  intro g cap w' hown hgrow _ _
  refine K g cap w' ((h.alloc _).grow (Y := [z]) hgrow ?_)
  rw [hy] at hown
  exact hown
end Go.Proofs.Ytghghioidllgiaa.Pk
