/- Opening operations as they come in: a slice of structs with a slice and a text in each. -/
import Derived.Test.YtghghioidllgiaaOpen
import Derived.Test.YtghghioidllgiaaPJx0
import Derived.OpenShut
import Derived.Lib.SmallJoins
namespace Go.Proofs.Ytghghioidllgiaa.Raw
set_option linter.unusedSimpArgs false
set_option linter.unusedVariables false
open Go Go.RowKit Go.ChangeShapes Go.Joins Go.Deep Go.Proofs.Ytghghioidllgiaa.PJ Go.Proofs.YtghghioidllgiaaW.PrintWords

theorem cells_int : Try.prog.cellsOf 3 = 1 := by kernel_rfl
theorem cells_ints : Try.prog.cellsOf 24 = 1 := by kernel_rfl
theorem cells_string : Try.prog.cellsOf 9 = 1 := by kernel_rfl
theorem cells_raw : Try.prog.cellsOf 88 = 2 := by kernel_rfl
instance : Inhabited Int := ⟨0⟩
theorem dec_int {H : Type} {enc : TypeId × Value → H} {W : World} {base : Nat} {spare : Nat → Bool} {held : Bool} (n : Nat) (cs : List Value) (y : DataW H × List MemPlace)
    (h : DataW.trod enc Try.prog W base spare held n 3 cs = some y) : ∃ x : Int, cs = [.int .i64 x] ∧ (Lit.int .i64 x).wf = true := by
  obtain ⟨s, h1, _, hw⟩ := DataW.trod_int Try.underlying3 h
  exact ⟨s, h1, hw⟩
theorem reads_of_at {w : World} {A : Option Addr} {l : List Int} (h : SlAt w w.heap.size 1 l.length A (fun i j => ([Value.int .i64 (l.getD i default)]).getD j undef)) (hl : l.length ≤ 9223372036854775807) : (Kd.int .i64).C w A l.length l := by
  refine Kd.C_of_reads (d := (0 : Int)) (h1 := fun _ => rfl) ⟨rfl, hl, fun hn => ?_⟩
  obtain ⟨b, off, e, hb, hc⟩ := h hn
  refine ⟨⟨b, off, none⟩, e, fun j hj => ?_⟩
  have := hc j 0 hj (by omega)
  rw [Addr.add_lit, show off + j = off + (j * 1 + 0) by omega, this]
  rfl
/-- an operation, as its cells tell it. -/
structure RawC where
  A : Option Addr
  c : Nat
  nums : List Int
  s : ByteArray
instance : Inhabited RawC := ⟨⟨none, 0, [], ⟨#[]⟩⟩⟩
def rcells (x : RawC) : List Value := [.slice x.A x.nums.length x.c, .string x.s]
def GoodR (W : World) (x : RawC) : Prop := x.nums.length ≤ x.c ∧ (Kd.int .i64).C W x.A x.nums.length x.nums ∧ x.s.size ≤ maxLen ∧ ∀ z ∈ x.nums, (Lit.int .i64 z).wf = true
theorem dec_raw {H : Type} {enc : TypeId × Value → H} {W : World} {base : Nat} {spare : Nat → Bool} {held : Bool} (n : Nat) (cs : List Value) (y : DataW H × List MemPlace)
    (h : DataW.trod enc Try.prog W base spare held n 88 cs = some y) : ∃ x : RawC, cs = rcells x ∧ GoodR W x := by
  obtain ⟨y0, y1, m, _, hl, h0, h1⟩ := trod_struct2 Try.underlying88 h
  rw [cells_raw] at hl
  obtain ⟨c0, c1, rfl⟩ := list2 hl
  simp only [cells_ints, cells_string, List.drop_zero, List.drop_succ_cons, List.take_succ_cons, List.take_zero] at h0 h1
  obtain ⟨s, e1, _, ws⟩ := DataW.trod_string Try.underlying9 h1
  simp only [List.cons.injEq, and_true] at e1
  subst e1
  have hsl : ∃ A len cap, c0 = .slice A len cap := by
    rcases open_slice Try.underlying24 h0 with ⟨hcs, _⟩ | ⟨a, len', cap', m', n', D, Pl, hcs, _⟩
    · simp only [List.cons.injEq, and_true] at hcs; exact ⟨_, _, _, hcs⟩
    · simp only [List.cons.injEq, and_true] at hcs; exact ⟨_, _, _, hcs⟩
  obtain ⟨A, len, cap, rfl⟩ := hsl
  obtain ⟨d0, p0⟩ := y0
  have ht : DataW.Trod enc Try.prog W base spare held 24 (.slice A len cap) d0 p0 := ⟨m, h0⟩
  obtain ⟨l, rfl, hg, hc, hm, hs⟩ := open_rows (fun x : Int => [Value.int .i64 x]) _ cells_int (by omega) Try.underlying24 dec_int ht
  have hle : l.length ≤ 9223372036854775807 := by unfold maxLen at hm; omega
  exact ⟨⟨A, cap, l, s⟩, rfl, hc, reads_of_at hs hle, ws, hg⟩
/-- of a row of operations. -/
theorem rows_of_at {w : World} {A : Option Addr} {l : List RawC} (h : SlAt w w.heap.size 2 l.length A (fun i j => (rcells (l.getD i default)).getD j undef)) (hl : l.length ≤ 9223372036854775807) (hg : ∀ x ∈ l, GoodR w x) :
    Kd.C k88 w A l.length (l.map fun x => (⟨x.nums, x.s⟩ : S88)) := by
  refine ⟨by simp, hl, fun hn => ?_⟩
  obtain ⟨b, off, e, hb, hc⟩ := h hn
  refine ⟨⟨b, off, none⟩, e, fun j p hj => ?_⟩
  rw [List.getElem?_map] at hj
  obtain ⟨x, hx, rfl⟩ := Option.map_eq_some_iff.1 hj
  have hlt : j < l.length := (List.getElem?_eq_some_iff.1 hx).1
  have hgx := hg x (List.mem_of_getElem? hx)
  have hd : l.getD j default = x := by rw [List.getD, hx]; rfl
  refine ⟨rcells x, rfl, k88_mk w ⟨x.nums, x.s⟩ hgx.1 hgx.2.1, fun i u hu => ?_⟩
  rw [Addr.add_lit]
  match i, hu with
  | 0, hu =>
    have := hc j 0 hlt (by omega)
    simp only [hd] at this
    rw [show k88.sz = 2 from rfl, this]
    exact hu
  | 1, hu =>
    have := hc j 1 hlt (by omega)
    simp only [hd] at this
    rw [show k88.sz = 2 from rfl, this]
    exact hu
  | i + 2, hu => simp [rcells] at hu
end Go.Proofs.Ytghghioidllgiaa.Raw
