
/- A buffer that only grows: its words, and its small functions. -/
import Derived.Test.YtkcocdpmangcgaaProg
import Derived.Test.YtkcocdpmangcgaaFr
import Derived.Test.YtkcocdpmangcgaaVec
import Derived.Deep.AppendLies
import Derived.Lib.AppendStr
import Derived.Laws.IdiomStrings
import Derived.Laws.BytesArg
import Derived.Deep.DeepCutAuto
import Derived.KernelRfl
import Derived.BigQuiet
namespace Go.Proofs.Ytkcocdpmangcgaa.Buf
set_option linter.unusedSimpArgs false
set_option linter.unusedVariables false
open Go Go.RowKit Go.Lib
open Go.Proofs.Ytkcocdpmangcgaa.Vec (SlI)
attribute [local go_sem] lt_add1 lt_self1 size_ne size_ne' size_ne1 size_ne1'

/-- bytes written to a buffer, and where its line feeds stand; rb, rf: the blocks in which they lie. -/
def Buf (w : World) (g : Nat) (rb rf : Option Nat) (S : ByteArray) (F : List Int) : Prop :=
  ∃ vb vf, w.heap[g]? = some (.cells #[vb, vf] 163 (0, 0)) ∧ w.ownsRow 0 5 1 vb S.size (strCells S) ∧ w.ownsRow 0 3 1 vf F.length (F.map (Value.int .i64)) ∧ vb.ownBlock = rb ∧ vf.ownBlock = rf
def foot (g : Nat) (rb rf : Option Nat) (b : Nat) : Prop := b = g ∨ rb = some b ∨ rf = some b
/-- where line feeds stand. -/
def lfs : Nat → List UInt8 → List Int
  | _, [] => []
  | k, c :: l => if c = 10 then (k : Int) :: lfs (k + 1) l else lfs (k + 1) l
/-- a buffer with just its own line feeds. -/
def BufS (w : World) (g : Nat) (rb rf : Option Nat) (S : ByteArray) : Prop := Buf w g rb rf S (lfs 0 S.data.toList)

theorem own_type {w : World} {base : Nat} {e : TypeId} {size : Nat} {v : Value} {n : Nat} {xs : List Value} (h : w.ownsRow base e size v n xs) {b : Nat} (hb : v.ownBlock = some b) : ∃ cs, w.heap[b]? = some (.cells cs e (0, 0)) := by
  rcases h.2 with ⟨rfl, _⟩ | ⟨q, cap, cur, rfl, _, hq, _⟩
  · cases hb
  · cases hb; exact ⟨_, hq⟩

section
variable {w w' : World} {g : Nat} {rb rf : Option Nat} {S : ByteArray} {F : List Int}
theorem Buf.lt (h : Buf w g rb rf S F) : g < w.heap.size := by obtain ⟨_, _, hb, _⟩ := h; exact (Array.getElem?_eq_some_iff.1 hb).1
theorem Buf.ltb (h : Buf w g rb rf S F) {b : Nat} (hr : rb = some b) : b < w.heap.size := by
  obtain ⟨_, _, _, ho, _, hv, _⟩ := h
  exact (ho.lt b (hv.trans hr)).2
theorem Buf.ltf (h : Buf w g rb rf S F) {b : Nat} (hr : rf = some b) : b < w.heap.size := by
  obtain ⟨_, _, _, _, ho, _, hv⟩ := h
  exact (ho.lt b (hv.trans hr)).2
theorem Buf.lt_foot (h : Buf w g rb rf S F) {b : Nat} (hb : foot g rb rf b) : b < w.heap.size := by
  rcases hb with rfl | e | e
  · exact h.lt
  · exact h.ltb e
  · exact h.ltf e
theorem Buf.apart (h : Buf w g rb rf S F) : rb ≠ some g ∧ rf ≠ some g ∧ ∀ b, rb = some b → rf ≠ some b := by
  obtain ⟨vb, vf, hg, ob, of, rfl, rfl⟩ := h
  refine ⟨fun e => ?_, fun e => ?_, fun b e1 e2 => ?_⟩
  · obtain ⟨cs, hc⟩ := own_type ob e
    rw [hg] at hc; cases hc
  · obtain ⟨cs, hc⟩ := own_type of e
    rw [hg] at hc; cases hc
  · obtain ⟨cs, hc⟩ := own_type ob e1
    obtain ⟨cs', hc'⟩ := own_type of e2
    rw [hc] at hc'; cases hc'
theorem Buf.keep {G G' : Nat → Prop} (h : Buf w g rb rf S F) (hf : Fr w G w' G') (hn : ∀ b, foot g rb rf b → ¬ G b) : Buf w' g rb rf S F := by
  obtain ⟨vb, vf, hg, ob, of, rfl, rfl⟩ := h
  exact ⟨vb, vf, hf.block hg (hn g (.inl rfl)), hf.own ob (fun b hb => hn b (.inr (.inl hb))), hf.own of (fun b hb => hn b (.inr (.inr hb))), rfl, rfl⟩
theorem Buf.below (h : Buf w g rb rf S F) (hb : Below w.heap.size w w') : Buf w' g rb rf S F := h.keep (G := fun _ => False) (G' := fun _ => False) (Fr.of_below hb) (fun _ _ h => h)
/-- the two slices, as a walk reads them. -/
theorem Buf.open_ (h : Buf w g rb rf S F) : ∃ A c A' c', w.cell? ⟨g, 0, none⟩ = some (.slice A S.size c) ∧ w.cell? ⟨g, 1, none⟩ = some (.slice A' F.length c') ∧ S.size ≤ c ∧ F.length ≤ c' ∧
    w.ownsRow 0 5 1 (.slice A S.size c) S.size (strCells S) ∧ w.ownsRow 0 3 1 (.slice A' F.length c') F.length (F.map (Value.int .i64)) ∧ (Value.slice A S.size c).ownBlock = rb ∧ (Value.slice A' F.length c').ownBlock = rf := by
  obtain ⟨vb, vf, hg, ob, of, rfl, rfl⟩ := h
  obtain ⟨A, c, rfl, hc, _⟩ := SlAt.of_own ob
  obtain ⟨A', c', rfl, hc', _⟩ := SlAt.of_own of
  exact ⟨A, c, A', c', cell_of_row w g 0 _ _ (0, 0) hg, cell_of_row w g 1 _ _ (0, 0) hg, hc, hc', ob, of, rfl, rfl⟩
end

/-- a row of one cell each, read. -/
theorem own_cells {w : World} {base : Nat} {e : TypeId} {A : Option Addr} {n c : Nat} {xs : List Value} (h : w.ownsRow base e 1 (.slice A n c) n xs) (hn : 0 < n) :
    ∃ b, A = some ⟨b, 0, none⟩ ∧ b < w.heap.size ∧ ∀ i, i < n → w.cell? ⟨b, i, none⟩ = some (xs.getD i undef) := by
  obtain ⟨A', c', e, _, hs⟩ := SlAt.of_own h
  cases e
  rcases h.2 with ⟨h1, _⟩ | ⟨b, cap, cur, h1, _, hq, _⟩
  · cases h1
    omega
  · cases h1
    obtain ⟨b', off, e2, hl, hc⟩ := hs hn
    cases e2
    exact ⟨b, rfl, hl, fun i hi => by have := hc i 0 hi (by omega); simpa using this⟩
theorem strCells_getD (S : ByteArray) (i : Nat) (hi : i < S.size) : (strCells S).getD i undef = .int .u8 (S.data.toList.getD i 0).toNat := by
  have : i < S.data.toList.length := hi
  rw [strCells, List.getD, List.getElem?_map, List.getElem?_eq_getElem this, List.getD, List.getElem?_eq_getElem this]
  rfl

theorem new_any (w : World) : Calls Try.prog 98 #[] w fun e w' => e = .returned (.pointer (some ⟨w.heap.size, 0, none⟩)) ∧ BufS w' w.heap.size none none ⟨#[]⟩ ∧ Below w.heap.size w w' ∧ w'.heap.size = w.heap.size + 1 := by
  go_enter Try.func98, Try.ntmps98
  go_wp2
  go_ret
  refine ⟨rfl, ⟨.slice none 0 0, .slice none 0 0, by show (w.heap.push _)[w.heap.size]? = _; simp, World.ownsRow_nil _ _ _ _, World.ownsRow_nil _ _ _ _, rfl, rfl⟩, by (repeat (first | exact Below.refl _ _ | assumption | (refine Below.setCell ?_ (by first | (simp; done) | (simp; omega) | omega) _) | (refine Below.alloc ?_ (by first | (simp; done) | (simp; omega) | omega) _) | (refine Below.drew ?_) | (refine Below.drewN ?_ _) | (refine Below.trans ?_ (Below.mono (by assumption) (by first | (simp; done) | (simp; omega) | omega))))), by simp⟩

/-- is a piece there? -/
def thereB (n off k : Int) : Bool := decide (0 ≤ off) && decide (0 ≤ k) && decide (off ≤ n) && decide (k ≤ n - off)
set_option maxHeartbeats 1000000 in
theorem there_nil (off k : Int) (w : World) : Calls Try.prog 101 #[.pointer none, .int .i64 off, .int .i64 k] w fun e w' => e = .returned (.bool false) ∧ w = w' := by
  go_enter Try.func101, Try.ntmps101
  go_wp2
  go_ret
  exact ⟨rfl, rfl⟩
set_option maxHeartbeats 1000000 in
theorem there_any (g : Nat) (rb rf : Option Nat) (S : ByteArray) (F : List Int) (off k : Int) (w : World) (h : Buf w g rb rf S F) (hS : S.size ≤ 1099511627776) :
    Calls Try.prog 101 #[.pointer (some ⟨g, 0, none⟩), .int .i64 off, .int .i64 k] w fun e w' => e = .returned (.bool (thereB S.size off k)) ∧ w = w' := by
  obtain ⟨A, c, A', c', h1, h2, hc, hc', _, _, _, _⟩ := h.open_
  go_enter Try.func101, Try.ntmps101
  by_cases n1 : 0 ≤ off
  · by_cases n2 : 0 ≤ k
    · by_cases n3 : off ≤ S.size
      · have hw : IntKind.i64.wrap ((S.size : Int) - off) = S.size - off := IntWalk.i64_in _ (by omega)
        go_wp2
        go_ret
        exact ⟨ret_bool (by first | (simp [thereB, *]; done) | (simp [thereB]; omega)), rfl⟩
      · go_wp2
        go_ret
        exact ⟨ret_bool (by first | (simp [thereB, *]; done) | (simp [thereB]; omega)), rfl⟩
    · go_wp2
      go_ret
      exact ⟨ret_bool (by first | (simp [thereB, *]; done) | (simp [thereB]; omega)), rfl⟩
  · go_wp2
    go_ret
    exact ⟨ret_bool (by first | (simp [thereB, *]; done) | (simp [thereB]; omega)), rfl⟩
end Go.Proofs.Ytkcocdpmangcgaa.Buf
