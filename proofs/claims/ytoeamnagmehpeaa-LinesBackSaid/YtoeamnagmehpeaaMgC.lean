/- One-cell slices, read. -/
import Derived.Test.YtoeamnagmehpeaaProg
import Derived.Test.YtoeamnagmehpeaaMgA
import Derived.Deep.QuietTactic
import Derived.Deep.DeepCutAuto
import Derived.KernelRfl
import Derived.BigQuiet
import Derived.Deep.AppendLies
import Derived.Lib.AppendStr
import Derived.Laws.IdiomStrings
import Derived.Laws.BytesArg
import Derived.Laws.Slices
import Derived.Laws.Strings2
import Derived.Laws.Strings3
import Derived.Shelf.GgClosure.Gives
namespace Go.Proofs.Ytoeamnagmehpeaa.Vec
set_option linter.unusedSimpArgs false
set_option linter.unusedVariables false
open Go Go.RowKit
attribute [local go_sem] lt_add1 lt_self1 size_ne size_ne' size_ne1 size_ne1'

/-- n elements of one cell each. -/
def SlI (w : World) (B n : Nat) (A : Option Addr) (f : Nat → Value) : Prop :=
  0 < n → ∃ b off, A = some ⟨b, off, none⟩ ∧ b < B ∧ ∀ i, i < n → w.cell? ⟨b, off + i, none⟩ = some (f i)
section
variable {w w' : World} {B B' n m : Nat} {A : Option Addr} {f g : Nat → Value}
theorem SlI.none_ : SlI w B 0 A f := fun h => absurd h (by omega)
theorem SlI.below (h : SlI w B n A f) (hb : Below B w w') : SlI w' B n A f := fun hn => by
  obtain ⟨b, off, e, hl, hc⟩ := h hn
  exact ⟨b, off, e, hl, fun i hi => (hb.cell (p := ⟨b, _, none⟩) hl).trans (hc i hi)⟩
theorem SlI.more (h : SlI w B n A f) (hB : B ≤ B') : SlI w B' n A f := fun h0 => by
  obtain ⟨b, off, e, hb, hc⟩ := h h0
  exact ⟨b, off, e, by omega, hc⟩
theorem SlI.next (h : SlI w w.heap.size n A f) (hb : Below w.heap.size w w') : SlI w' w'.heap.size n A f := (h.below hb).more hb.size
theorem SlI.congr (h : SlI w B n A f) (hf : ∀ i, i < n → f i = g i) : SlI w B n A g := fun h0 => by
  obtain ⟨b, off, e, hb, hc⟩ := h h0
  exact ⟨b, off, e, hb, fun i hi => by rw [hc i hi, hf i hi]⟩
end
def iv (xs : List Int) (i : Nat) : Value := .int .i64 (xs.getD i 0)
def bv (xs : List Bool) (i : Nat) : Value := .bool (xs.getD i false)

/-! ### slices.Equal -/
theorem take_eq_succ {α : Type} [DecidableEq α] (d : α) (xs ys : List α) (j : Nat) (hx : j < xs.length) (hy : j < ys.length) : (xs.take (j + 1) = ys.take (j + 1)) ↔ (xs.take j = ys.take j ∧ xs.getD j d = ys.getD j d) := by
  rw [List.take_add_one, List.take_add_one]
  simp only [List.getElem?_eq_getElem hx, List.getElem?_eq_getElem hy, Option.toList_some, List.getD, Option.getD_some]
  constructor
  · intro h
    have hl : (xs.take j).length = (ys.take j).length := by simp; omega
    have := List.append_inj h hl
    exact ⟨this.1, by simpa using this.2⟩
  · rintro ⟨h1, h2⟩
    rw [h1, h2]
end Go.Proofs.Ytoeamnagmehpeaa.Vec


/- The library's Equal at numbers and at truths. -/
namespace Go.Proofs.Ytoeamnagmehpeaa.Vec
set_option linter.unusedSimpArgs false
set_option linter.unusedVariables false
open Go Go.RowKit
attribute [local go_sem] lt_add1 lt_self1 size_ne size_ne' size_ne1 size_ne1'

end Go.Proofs.Ytoeamnagmehpeaa.Vec


/- A buffer that only grows: its words, and its small functions. -/
namespace Go.Proofs.Ytoeamnagmehpeaa.Buf
set_option linter.unusedSimpArgs false
set_option linter.unusedVariables false
open Go Go.RowKit Go.Lib
open Go.Proofs.Ytoeamnagmehpeaa.Vec (SlI)
attribute [local go_sem] lt_add1 lt_self1 size_ne size_ne' size_ne1 size_ne1'

/-- bytes written to a buffer, and where its line feeds stand; rb, rf: the blocks in which they lie. -/
def Buf (w : World) (g : Nat) (rb rf : Option Nat) (S : ByteArray) (F : List Int) : Prop :=
  ∃ vb vf, w.heap[g]? = some (.cells #[vb, vf] 207 (0, 0)) ∧ w.ownsRow 0 5 1 vb S.size (strCells S) ∧ w.ownsRow 0 3 1 vf F.length (F.map (Value.int .i64)) ∧ vb.ownBlock = rb ∧ vf.ownBlock = rf
def foot (g : Nat) (rb rf : Option Nat) (b : Nat) : Prop := b = g ∨ rb = some b ∨ rf = some b
/-- where line feeds stand. -/
def lfs : Nat → List UInt8 → List Int
  | _, [] => []
  | k, c :: l => if c = 10 then (k : Int) :: lfs (k + 1) l else lfs (k + 1) l
/-- a buffer with just its own line feeds. -/
def BufS (w : World) (g : Nat) (rb rf : Option Nat) (S : ByteArray) : Prop := Buf w g rb rf S (lfs 0 S.data.toList)

theorem own_type {w : World} {base : Nat} {e : TypeId} {size : Nat} {v : Value} {n : Nat} {xs : List Value} (h : w.ownsRow base e size v n xs) {b : Nat} (hb : v.ownBlock = some b) : ∃ cs, w.heap[b]? = some (.cells cs e (0, 0)) := by
  rcases h.2 with ⟨rfl, _⟩ | ⟨q, cap, cur, rfl, _, hq, _⟩
  · cases hb
  · cases hb; exact ⟨_, hq⟩

section
variable {w w' : World} {g : Nat} {rb rf : Option Nat} {S : ByteArray} {F : List Int}
theorem Buf.lt (h : Buf w g rb rf S F) : g < w.heap.size := by obtain ⟨_, _, hb, _⟩ := h; exact (Array.getElem?_eq_some_iff.1 hb).1
theorem Buf.ltb (h : Buf w g rb rf S F) {b : Nat} (hr : rb = some b) : b < w.heap.size := by
  obtain ⟨_, _, _, ho, _, hv, _⟩ := h
  exact (ho.lt b (hv.trans hr)).2
theorem Buf.ltf (h : Buf w g rb rf S F) {b : Nat} (hr : rf = some b) : b < w.heap.size := by
  obtain ⟨_, _, _, _, ho, _, hv⟩ := h
  exact (ho.lt b (hv.trans hr)).2
theorem Buf.lt_foot (h : Buf w g rb rf S F) {b : Nat} (hb : foot g rb rf b) : b < w.heap.size := by
  rcases hb with rfl | e | e
  · exact h.lt
  · exact h.ltb e
  · exact h.ltf e
theorem Buf.apart (h : Buf w g rb rf S F) : rb ≠ some g ∧ rf ≠ some g ∧ ∀ b, rb = some b → rf ≠ some b := by
  obtain ⟨vb, vf, hg, ob, of, rfl, rfl⟩ := h
  refine ⟨fun e => ?_, fun e => ?_, fun b e1 e2 => ?_⟩
  · obtain ⟨cs, hc⟩ := own_type ob e
    rw [hg] at hc; cases hc
  · obtain ⟨cs, hc⟩ := own_type of e
    rw [hg] at hc; cases hc
  · obtain ⟨cs, hc⟩ := own_type ob e1
    obtain ⟨cs', hc'⟩ := own_type of e2
    rw [hc] at hc'; cases hc'
theorem Buf.keep {G G' : Nat → Prop} (h : Buf w g rb rf S F) (hf : Fr w G w' G') (hn : ∀ b, foot g rb rf b → ¬ G b) : Buf w' g rb rf S F := by
  obtain ⟨vb, vf, hg, ob, of, rfl, rfl⟩ := h
  exact ⟨vb, vf, hf.block hg (hn g (.inl rfl)), hf.own ob (fun b hb => hn b (.inr (.inl hb))), hf.own of (fun b hb => hn b (.inr (.inr hb))), rfl, rfl⟩
theorem Buf.below (h : Buf w g rb rf S F) (hb : Below w.heap.size w w') : Buf w' g rb rf S F := h.keep (G := fun _ => False) (G' := fun _ => False) (Fr.of_below hb) (fun _ _ h => h)
/-- the two slices, as a walk reads them. -/
theorem Buf.open_ (h : Buf w g rb rf S F) : ∃ A c A' c', w.cell? ⟨g, 0, none⟩ = some (.slice A S.size c) ∧ w.cell? ⟨g, 1, none⟩ = some (.slice A' F.length c') ∧ S.size ≤ c ∧ F.length ≤ c' ∧
    w.ownsRow 0 5 1 (.slice A S.size c) S.size (strCells S) ∧ w.ownsRow 0 3 1 (.slice A' F.length c') F.length (F.map (Value.int .i64)) ∧ (Value.slice A S.size c).ownBlock = rb ∧ (Value.slice A' F.length c').ownBlock = rf := by
  obtain ⟨vb, vf, hg, ob, of, rfl, rfl⟩ := h
  obtain ⟨A, c, rfl, hc, _⟩ := SlAt.of_own ob
  obtain ⟨A', c', rfl, hc', _⟩ := SlAt.of_own of
  exact ⟨A, c, A', c', cell_of_row w g 0 _ _ (0, 0) hg, cell_of_row w g 1 _ _ (0, 0) hg, hc, hc', ob, of, rfl, rfl⟩
end

/-- a row of one cell each, read. -/
theorem own_cells {w : World} {base : Nat} {e : TypeId} {A : Option Addr} {n c : Nat} {xs : List Value} (h : w.ownsRow base e 1 (.slice A n c) n xs) (hn : 0 < n) :
    ∃ b, A = some ⟨b, 0, none⟩ ∧ b < w.heap.size ∧ ∀ i, i < n → w.cell? ⟨b, i, none⟩ = some (xs.getD i undef) := by
  obtain ⟨A', c', e, _, hs⟩ := SlAt.of_own h
  cases e
  rcases h.2 with ⟨h1, _⟩ | ⟨b, cap, cur, h1, _, hq, _⟩
  · cases h1
    omega
  · cases h1
    obtain ⟨b', off, e2, hl, hc⟩ := hs hn
    cases e2
    exact ⟨b, rfl, hl, fun i hi => by have := hc i 0 hi (by omega); simpa using this⟩
theorem strCells_getD (S : ByteArray) (i : Nat) (hi : i < S.size) : (strCells S).getD i undef = .int .u8 (S.data.toList.getD i 0).toNat := by
  have : i < S.data.toList.length := hi
  rw [strCells, List.getD, List.getElem?_map, List.getElem?_eq_getElem this, List.getD, List.getElem?_eq_getElem this]
  rfl

theorem new_any (w : World) : Calls Try.prog 88 #[] w fun e w' => e = .returned (.pointer (some ⟨w.heap.size, 0, none⟩)) ∧ BufS w' w.heap.size none none ⟨#[]⟩ ∧ Below w.heap.size w w' ∧ w'.heap.size = w.heap.size + 1 := by
  go_enter Try.func88, Try.ntmps88
  go_wp2
  go_ret
  refine ⟨rfl, ⟨.slice none 0 0, .slice none 0 0, by show (w.heap.push _)[w.heap.size]? = _; simp, World.ownsRow_nil _ _ _ _, World.ownsRow_nil _ _ _ _, rfl, rfl⟩, by (repeat (first | exact Below.refl _ _ | assumption | (refine Below.setCell ?_ (by first | (simp; done) | (simp; omega) | omega) _) | (refine Below.alloc ?_ (by first | (simp; done) | (simp; omega) | omega) _) | (refine Below.drew ?_) | (refine Below.drewN ?_ _) | (refine Below.trans ?_ (Below.mono (by assumption) (by first | (simp; done) | (simp; omega) | omega))))), by simp⟩

/-- is a piece there? -/
def thereB (n off k : Int) : Bool := decide (0 ≤ off) && decide (0 ≤ k) && decide (off ≤ n) && decide (k ≤ n - off)
set_option maxHeartbeats 1000000 in
theorem there_nil (off k : Int) (w : World) : Calls Try.prog 103 #[.pointer none, .int .i64 off, .int .i64 k] w fun e w' => e = .returned (.bool false) ∧ w = w' := by
  go_enter Try.func103, Try.ntmps103
  go_wp2
  go_ret
  exact ⟨rfl, rfl⟩
set_option maxHeartbeats 1000000 in
theorem there_any (g : Nat) (rb rf : Option Nat) (S : ByteArray) (F : List Int) (off k : Int) (w : World) (h : Buf w g rb rf S F) (hS : S.size ≤ 1099511627776) :
    Calls Try.prog 103 #[.pointer (some ⟨g, 0, none⟩), .int .i64 off, .int .i64 k] w fun e w' => e = .returned (.bool (thereB S.size off k)) ∧ w = w' := by
  obtain ⟨A, c, A', c', h1, h2, hc, hc', _, _, _, _⟩ := h.open_
  go_enter Try.func103, Try.ntmps103
  by_cases n1 : 0 ≤ off
  · by_cases n2 : 0 ≤ k
    · by_cases n3 : off ≤ S.size
      · have hw : IntKind.i64.wrap ((S.size : Int) - off) = S.size - off := IntWalk.i64_in _ (by omega)
        go_wp2
        go_ret
        exact ⟨ret_bool (by first | (simp [thereB, *]; done) | (simp [thereB]; omega)), rfl⟩
      · go_wp2
        go_ret
        exact ⟨ret_bool (by first | (simp [thereB, *]; done) | (simp [thereB]; omega)), rfl⟩
    · go_wp2
      go_ret
      exact ⟨ret_bool (by first | (simp [thereB, *]; done) | (simp [thereB]; omega)), rfl⟩
  · go_wp2
    go_ret
    exact ⟨ret_bool (by first | (simp [thereB, *]; done) | (simp [thereB]; omega)), rfl⟩
end Go.Proofs.Ytoeamnagmehpeaa.Buf


/- A buffer that only grows: Add. -/
namespace Go.Proofs.Ytoeamnagmehpeaa.Buf
set_option linter.unusedSimpArgs false
set_option linter.unusedVariables false
open Go Go.RowKit Go.Lib
open Go.Proofs.Ytoeamnagmehpeaa.Vec (SlI)
attribute [local go_sem] lt_add1 lt_self1 size_ne size_ne' size_ne1 size_ne1'

section
variable {P : Program} (w : World)
/-- append of a string's bytes, and where the new slice lies. -/
theorem run_append_own_string_at (base : Nat) (t u ty e : TypeId) (i : TypeInfo) (ht : P.underlying t = some (.slice e)) (hu : P.underlying u = some .string) (hi : P.info? e = some i) (hz : i.zero = some (.int .u8 0))
    (hsize : i.size = 1) (hby : i.bytes = 1)
    (v : Value) (n : Nat) (xs : List Value) (hown : w.ownsRow base e 1 v n xs) (s : ByteArray)
    (h63 : n + s.size ≤ maxLen) (hbytes : n + s.size ≤ 140737488355328) (hbase : base ≤ w.heap.size) :
    ∃ v' w', (Builtin.append_ #[t, u] ty #[v, .string s]).run P w = .ok v' w' ∧ w'.ownsRow base e 1 v' (n + s.size) (xs ++ strCells s) ∧ w.grownBy w' v.ownBlock ∧
      (v'.ownBlock = v.ownBlock ∨ v'.ownBlock = some w.heap.size) := by
  obtain ⟨v', w', hr, h2, h3, h4⟩ := run_append_own_string (P := P) w base t u ty e i ht hu hi hz hsize hby v n xs hown s h63 hbytes hbase
  have hsmall : n + s.size ≤ 9223372036854775807 := by simp only [maxLen] at h63; omega
  refine ⟨v', w', hr, h2, h3, ?_⟩
  have hxl : xs.length = n := by simpa using hown.1
  rcases hown.2 with ⟨rfl, rfl⟩ | ⟨g, cap, cur, rfl, hbg, hg, hnc, hcm, hcs, htake⟩
  · by_cases hm : s.size = 0
    · rw [h4.2 ⟨rfl, hm⟩]; exact .inl rfl
    · have hr' := run_append_nil_string (P := P) w t u ty e i (.int .u8 0) ht hu hi hz s (by omega) (by omega) (by rw [hby]; omega)
      rw [hr] at hr'
      cases hr'
      exact .inr rfl
  · by_cases hroom : n + s.size ≤ cap
    · have hcs' : cur.size = cap := by simpa using hcs
      have hr' := run_append_room_string (P := P) w t u ty e i ht hu hi hsize g n cap cur hg s hroom (by omega)
      rw [hr] at hr'
      cases hr'
      exact .inl rfl
    · have holds : ∀ j u, xs[j]? = some u → w.cell? ((⟨g, 0, none⟩ : Addr).add j) = some u := hown.cells (g := g) rfl
      have hr' := run_append_grow_string (P := P) w t u ty e i (.int .u8 0) ht hu hi hz ⟨g, 0, none⟩ n cap xs (by rw [hsize]; simpa using hxl) holds s (by omega) (by omega) (by rw [hby]; exact growslice_fits (by omega) (by omega))
      rw [hr] at hr'
      cases hr'
      exact .inr rfl
theorem wpList_append_own_string_at {ops : Array Oper} {rest : List Oper} {o : Oper} {a : Act} {Q : Exit → Act → World → Prop} (hgd : o.guard = none) (sl x : Operand) (t u : TypeId)
    (ho : o.op = .call { callee := .builtin .append, args := #[sl, x], argTypes := #[t, u] })
    (base : Nat) (e : TypeId) (i : TypeInfo) (ht : P.underlying t = some (.slice e)) (hu : P.underlying u = some .string) (hi : P.info? e = some i) (hz : i.zero = some (.int .u8 0))
    (hsize : i.size = 1) (hby : i.bytes = 1)
    (v : Value) (n : Nat) (xs : List Value) (hs : a.eval sl = v) (hown : w.ownsRow base e 1 v n xs) (s : ByteArray) (hx : a.eval x = .string s)
    (h63 : n + s.size ≤ maxLen) (hbytes : n + s.size ≤ 140737488355328) (hbase : base ≤ w.heap.size)
    (h : ∀ v' w', w'.ownsRow base e 1 v' (n + s.size) (xs ++ strCells s) → w.grownBy w' v.ownBlock → (v'.ownBlock = v.ownBlock ∨ v'.ownBlock = some w.heap.size) → wpList P ops Q rest (a.put o.dst v') w') : wpList P ops Q (o :: rest) a w := by
  refine wpList_plain hgd fun K hK => ?_
  obtain ⟨v', w', hr, h2, h3, h4⟩ := run_append_own_string_at (P := P) w base t u o.type e i ht hu hi hz hsize hby v n xs hown s h63 hbytes hbase
  unfold Oper.wp execOp
  simp only [ho, resolve, invoke, builtin, Sem.run_bind, Sem.run_pure, Result.andThen_ok, List.map_toArray, List.map_cons, List.map_nil, hs, hx, hr]
  exact hK _ _ (h v' w' h2 h3 h4)
end

theorem strCells_append (S s : ByteArray) : strCells (S ++ s) = strCells S ++ strCells s := by simp [strCells, ByteArray.data_append]
theorem lfs_append : ∀ (k : Nat) (a b : List UInt8), lfs k (a ++ b) = lfs k a ++ lfs (k + a.length) b
  | k, [], b => by simp [lfs]
  | k, c :: a, b => by
    have := lfs_append (k + 1) a b
    have e : k + 1 + a.length = k + (a.length + 1) := by omega
    by_cases h : c = 10 <;> simp [lfs, h, this, e]

/-- behind an append to the feeds. -/
theorem feed_post {W w5 : World} {g q n c cap : Nat} {rb rf : Option Nat} {S : ByteArray} {F : List Int} {x : Int} {A : Option Addr} {O : Obj} (h : Buf W g rb rf S F) (hr : (Value.slice A n c).ownBlock = rf)
    (hg : (W.alloc O).grownBy w5 (Value.slice A n c).ownBlock) (hown : w5.ownsRow 0 3 1 (.slice (some ⟨q, 0, none⟩) (F.length + 1) cap) (F.length + 1) (F.map (Value.int .i64) ++ [.int .i64 x]))
    (hat : (Value.slice A n c).ownBlock = some q ∨ q = W.heap.size + 1) :
    Buf (w5.setCell ⟨g, 1, none⟩ (.slice (some ⟨q, 0, none⟩) (F.length + 1) cap)) g rb (some q) S (F ++ [x]) ∧ Fr W (foot g rb rf) (w5.setCell ⟨g, 1, none⟩ (.slice (some ⟨q, 0, none⟩) (F.length + 1) cap)) (foot g rb (some q)) := by
  have hlt := h.lt
  obtain ⟨a1, a2, a3⟩ := h.apart
  obtain ⟨vb, vf, hgb, ob, of, hvb, hvf⟩ := h
  rw [hr] at hg hat
  have hsz : W.heap.size + 1 ≤ w5.heap.size := by have := hg.size; simpa using this
  have hne : q ≠ g := by
    rcases hat with e | e
    · intro e2; exact a2 (by rw [e, e2])
    · omega
  have hbk : ∀ b, b < W.heap.size → rf ≠ some b → w5.heap[b]? = W.heap[b]? := fun b hb hn => by
    rw [hg.block b (by simp; omega) (fun e => hn e.symm)]
    first | exact heap_alloc_old W O hb | exact heap_alloc_old W O b hb
  have hgw : w5.heap[g]? = some (.cells #[vb, vf] 207 (0, 0)) := (hbk g hlt a2).trans hgb
  have hset : (w5.setCell ⟨g, 1, none⟩ (.slice (some ⟨q, 0, none⟩) (F.length + 1) cap)).heap[g]? = some (.cells #[vb, .slice (some ⟨q, 0, none⟩) (F.length + 1) cap] 207 (0, 0)) := by
    rw [heap_setCell_same _ _ _ _ _ _ hgw]
    rfl
  refine ⟨⟨vb, _, hset, ?_, ?_, hvb, rfl⟩, ?_⟩
  · refine own_setCell ?_ (fun e => a1 (hvb.symm.trans e)) _
    rcases ob.2 with ⟨h1, h2⟩ | ⟨q', cap', cur, h1, h2, h3, rest⟩
    · exact ⟨ob.1, .inl ⟨h1, h2⟩⟩
    · refine ⟨ob.1, .inr ⟨q', cap', cur, h1, h2, ?_, rest⟩⟩
      have hq' : rb = some q' := by rw [← hvb, h1]; rfl
      rw [hbk q' (Array.getElem?_eq_some_iff.1 h3).1 (a3 q' hq')]
      exact h3
  · rw [List.length_append, List.map_append]
    exact own_setCell hown (fun e => hne (by simpa [Value.ownBlock] using e)) _
  · refine ⟨hg.os, hg.tape, hg.output, ?_, fun b hb hn => ?_, fun b hb => ?_⟩
    · rw [World.size_setCell]; omega
    · rw [Below.heap_setCell _ _ _ _ (fun e => hn (.inl e))]
      exact hbk b hb (fun e => hn (.inr (.inr e)))
    · rcases hb with e | e | e
      · exact .inl (.inl e)
      · exact .inl (.inr (.inl e))
      · cases e
        rcases hat with e | e
        · exact .inl (.inr (.inr e))
        · exact .inr (by omega)
theorem feed_pre {W w5 : World} {g n c : Nat} {rb rf : Option Nat} {S : ByteArray} {F : List Int} {A : Option Addr} {O : Obj} (h : Buf W g rb rf S F) (hr : (Value.slice A n c).ownBlock = rf)
    (hg : (W.alloc O).grownBy w5 (Value.slice A n c).ownBlock) (o : Nat) : w5.cell? ⟨g, o, none⟩ = W.cell? ⟨g, o, none⟩ ∧ w5.frozen? ⟨g, o, none⟩ = false := by
  have hlt := h.lt
  obtain ⟨a1, a2, a3⟩ := h.apart
  obtain ⟨vb, vf, hgb, ob, of, hvb, hvf⟩ := h
  rw [hr] at hg
  have hb : w5.heap[g]? = W.heap[g]? := by
    rw [hg.block g (by simp; omega) (fun e => a2 e.symm)]
    first | exact heap_alloc_old W O hlt | exact heap_alloc_old W O g hlt
  exact ⟨World.cell?_of_block (a := ⟨g, o, none⟩) hb, by rw [World.frozen?_of_block (a := ⟨g, o, none⟩) hb]; simp [World.frozen?, hgb]⟩
theorem bytes_pre {W w5 : World} {g n c : Nat} {rb rf : Option Nat} {S : ByteArray} {F : List Int} {A : Option Addr} (h : Buf W g rb rf S F) (hr : (Value.slice A n c).ownBlock = rb)
    (hg : W.grownBy w5 (Value.slice A n c).ownBlock) (o : Nat) : w5.cell? ⟨g, o, none⟩ = W.cell? ⟨g, o, none⟩ ∧ w5.frozen? ⟨g, o, none⟩ = false := by
  have hlt := h.lt
  obtain ⟨a1, a2, a3⟩ := h.apart
  obtain ⟨vb, vf, hgb, ob, of, hvb, hvf⟩ := h
  rw [hr] at hg
  have hb : w5.heap[g]? = W.heap[g]? := hg.block g hlt (fun e => a1 e.symm)
  exact ⟨World.cell?_of_block (a := ⟨g, o, none⟩) hb, by rw [World.frozen?_of_block (a := ⟨g, o, none⟩) hb]; simp [World.frozen?, hgb]⟩

/-- behind an append to the bytes. -/
theorem bytes_post {W w5 : World} {g n c : Nat} {rb rf : Option Nat} {S s : ByteArray} {F : List Int} {A : Option Addr} {v' : Value} (h : Buf W g rb rf S F) (hr : (Value.slice A n c).ownBlock = rb)
    (hg : W.grownBy w5 (Value.slice A n c).ownBlock) (hown : w5.ownsRow 0 5 1 v' (S.size + s.size) (strCells S ++ strCells s))
    (hat : v'.ownBlock = (Value.slice A n c).ownBlock ∨ v'.ownBlock = some W.heap.size) :
    Buf (w5.setCell ⟨g, 0, none⟩ v') g v'.ownBlock rf (S ++ s) F ∧ Fr W (foot g rb rf) (w5.setCell ⟨g, 0, none⟩ v') (foot g v'.ownBlock rf) := by
  have hlt := h.lt
  obtain ⟨a1, a2, a3⟩ := h.apart
  obtain ⟨vb, vf, hgb, ob, of, hvb, hvf⟩ := h
  rw [hr] at hg hat
  have hsz : W.heap.size ≤ w5.heap.size := hg.size
  have hne : v'.ownBlock ≠ some g := by
    rcases hat with e | e
    · rw [e]; exact a1
    · rw [e]; intro e2; cases e2; omega
  have hgw : w5.heap[g]? = some (.cells #[vb, vf] 207 (0, 0)) := (hg.block g hlt (fun e => a1 e.symm)).trans hgb
  have hset : (w5.setCell ⟨g, 0, none⟩ v').heap[g]? = some (.cells #[v', vf] 207 (0, 0)) := by
    rw [heap_setCell_same _ _ _ _ _ _ hgw]
    rfl
  refine ⟨⟨_, vf, hset, ?_, ?_, rfl, hvf⟩, ?_⟩
  · rw [ByteArray.size_append, strCells_append]
    exact own_setCell hown (fun e => hne e) _
  · refine own_setCell ?_ (fun e => a2 (hvf.symm.trans e)) _
    rcases of.2 with ⟨h1, h2⟩ | ⟨q', cap', cur, h1, h2, h3, rest⟩
    · exact ⟨of.1, .inl ⟨h1, h2⟩⟩
    · refine ⟨of.1, .inr ⟨q', cap', cur, h1, h2, ?_, rest⟩⟩
      have hq' : rf = some q' := by rw [← hvf, h1]; rfl
      rw [hg.block q' (Array.getElem?_eq_some_iff.1 h3).1 (fun e => a3 q' e.symm hq')]
      exact h3
  · refine ⟨hg.os, hg.tape, hg.output, ?_, fun b hb hn => ?_, fun b hb => ?_⟩
    · rw [World.size_setCell]; omega
    · rw [Below.heap_setCell _ _ _ _ (fun e => hn (.inl e))]
      exact hg.block b hb (fun e => hn (.inr (.inl e.symm)))
    · rcases hb with e | e | e
      · exact .inl (.inl e)
      · rcases hat with e2 | e2
        · exact .inl (.inr (.inl (e2.symm.trans e)))
        · rw [e2] at e; cases e; exact .inr (Nat.le_refl _)
      · exact .inl (.inr (.inr e))

theorem u8_info : (Try.prog.info? 5).map (fun i => (i.zero, i.size, i.bytes)) = some (some (.int .u8 0), 1, 1) := by kernel_rfl
theorem int_info : (Try.prog.info? 3).map (fun i => (i.zero, i.size, i.bytes)) = some (some (.int .i64 0), 1, 8) := by kernel_rfl

theorem add_nil (s : ByteArray) (w : World) : Calls Try.prog 90 #[.pointer none, .string s] w fun e w' => e = .returned (.int .i64 (-1)) ∧ w = w' := by
  go_enter Try.func90, Try.ntmps90
  go_wp2
  go_ret
  exact ⟨rfl, rfl⟩

theorem lfs_take (n : Nat) (l : List UInt8) (k : Nat) (hk : k < l.length) : lfs n (l.take (k + 1)) = lfs n (l.take k) ++ (if l.getD k 0 = 10 then [((n + k : Nat) : Int)] else []) := by
  rw [List.take_add_one, List.getElem?_eq_getElem hk, Option.toList_some, lfs_append]
  have e : (l.take k).length = k := by simp; omega
  rw [e]
  simp only [lfs, List.getD, List.getElem?_eq_getElem hk, Option.getD_some]
theorem byte_ten (c : UInt8) : c = 10 ↔ ((c.toNat : Nat) : Int) = 10 := by
  constructor
  · rintro rfl; rfl
  · intro h
    have h2 : c.toNat = (10 : UInt8).toNat := by have : (10 : UInt8).toNat = 10 := rfl; omega
    exact UInt8.toNat_inj.1 h2

theorem lfs_length : ∀ (n : Nat) (l : List UInt8), (lfs n l).length ≤ l.length
  | n, [] => by simp [lfs]
  | n, c :: l => by
    have := lfs_length (n + 1) l
    by_cases h : c = 10 <;> simp [lfs, h] <;> omega

set_option maxRecDepth 100000 in
set_option maxHeartbeats 2000000 in
theorem add_any (g : Nat) (rb rf : Option Nat) (S s : ByteArray) (w : World) (h : BufS w g rb rf S) (hS : S.size + s.size ≤ 1000000) :
    Calls Try.prog 90 #[.pointer (some ⟨g, 0, none⟩), .string s] w fun e w' => ∃ rb' rf', e = .returned (.int .i64 S.size) ∧ BufS w' g rb' rf' (S ++ s) ∧ Fr w (foot g rb rf) w' (foot g rb' rf') := by
  obtain ⟨i8, hi8, hy0, hy1, hy2⟩ := info_parts u8_info
  obtain ⟨ii, hii, hj0, hj1, hj2⟩ := info_parts int_info
  have H := Lib.hid h
  obtain ⟨A, c, A', c', h1, h2, hc, hc', _, _, _, _⟩ := Buf.open_ h
  have hlt := Buf.lt h
  clear h
  have hconv := run_bytes_of_string (P := Try.prog) w 9 131 5 s Try.underlying9 Try.underlying131 Try.underlying5
  go_enter Try.func90, Try.ntmps90
  go_wp2_with fail
  have hcell : ∀ j, j < s.size → ((w.alloc (.cells (bytesRow s (grownCap w s.size 0 5)) 5 ((bytesRow s (grownCap w s.size 0 5)).size, (bytesRow s (grownCap w s.size 0 5)).size + 1))).drew).cell? ⟨w.heap.size, j, none⟩ = some (.int .u8 (s.data.toList.getD j 0).toNat) := fun j hj => by
    have h0 := cell_of_row _ w.heap.size j _ _ _ (heap_alloc_new w (.cells (bytesRow s (grownCap w s.size 0 5)) 5 ((bytesRow s (grownCap w s.size 0 5)).size, (bytesRow s (grownCap w s.size 0 5)).size + 1)))
    refine (show _ = _ from h0).trans ?_
    have hj' : j < s.data.size := hj
    have hj2 : j < s.data.toList.length := hj
    simp [bytesRow, Array.getElem?_append, hj, hj', List.getD]
  have hB1 : Below w.heap.size w ((w.alloc (.cells (bytesRow s (grownCap w s.size 0 5)) 5 ((bytesRow s (grownCap w s.size 0 5)).size, (bytesRow s (grownCap w s.size 0 5)).size + 1))).drew) := by (repeat (first | exact Below.refl _ _ | assumption | (refine Below.setCell ?_ (by first | (simp; done) | (simp; omega) | omega) _) | (refine Below.alloc ?_ (by first | (simp; done) | (simp; omega) | omega) _) | (refine Below.drew ?_) | (refine Below.drewN ?_ _) | (refine Below.trans ?_ (Below.mono (by assumption) (by first | (simp; done) | (simp; omega) | omega)))))
  have hz1 : w.heap.size < ((w.alloc (.cells (bytesRow s (grownCap w s.size 0 5)) 5 ((bytesRow s (grownCap w s.size 0 5)).size, (bytesRow s (grownCap w s.size 0 5)).size + 1))).drew).heap.size := by simp
  generalize (w.alloc (.cells (bytesRow s (grownCap w s.size 0 5)) 5 ((bytesRow s (grownCap w s.size 0 5)).size, (bytesRow s (grownCap w s.size 0 5)).size + 1))).drew = W1 at hcell hB1 hz1 ⊢
  generalize grownCap w s.size 0 5 = gc
  have H1 := Lib.hid (And.intro (Buf.below H.out hB1) (And.intro hcell hB1))
  have hno : ¬ foot g rb rf w.heap.size := fun hf => by have := Buf.lt_foot H.out hf; omega
  clear hcell hB1 hconv h1 h2 hc hc'
  go_loopw [18] (fun i wr => ∃ (k : Nat) (rf' : Option Nat), k ≤ s.size ∧ i = .int .i64 k ∧ Buf wr g rb rf' S (lfs 0 S.data.toList ++ lfs S.size (s.data.toList.take k)) ∧ Fr W1 (foot g rb rf) wr (foot g rb rf')) (fun i _ => s.size - (intOf i).toNat)
  case atStart => exact ⟨0, rf, by omega, rfl, by simpa [lfs] using H1.out.1, Fr.refl _ _⟩
  case round =>
    obtain ⟨k, rf', hk, rfl, hb, hf⟩ := hrel
    have H2 := Lib.hid (And.intro hb hf)
    have hg2 := hb.lt
    clear hb hf
    by_cases hks : k < s.size
    · have f1 : wr.cell? ⟨w.heap.size, k, none⟩ = some (.int .u8 (s.data.toList.getD k 0).toNat) := (H2.out.2.cell hz1 hno k).trans (H1.out.2.1 k hks)
      have hlt2 : w.heap.size < wr.heap.size := H2.out.2.lt hz1
      have hlt2 := lfs_take S.size s.data.toList k hks
      have HL := Lib.hid hlt2
      have hten := byte_ten (s.data.toList.getD k 0)
      have HT := Lib.hid hten
      have hk0 : (0 : Int) ≤ k := by omega
      have hk1 : (k : Int) < s.size := by omega
      generalize s.data.toList.getD k 0 = ch at f1 HL HT
      clear hlt2 hten
      by_cases h10 : ((ch.toNat : Nat) : Int) = 10
      · obtain ⟨A1, c1, A2, c2, g1, g2, hc1, hc2, ho1, ho2, hr1, hr2⟩ := H2.out.1.open_
        have HO := Lib.hid (And.intro ho2 hr2)
        have hw : IntKind.i64.wrap ((S.size : Int) + k) = S.size + k := IntWalk.i64_in _ (by omega)
        have hFl : (lfs 0 S.data.toList ++ lfs S.size (s.data.toList.take k)).length ≤ 1000000 := by
          have a1 := lfs_length 0 S.data.toList
          have a2 := lfs_length S.size (s.data.toList.take k)
          have a3 : S.data.toList.length = S.size := rfl
          rw [List.length_append]
          simp only [List.length_take] at a2
          omega
        have e10 := HL.out
        rw [if_pos (HT.out.2 h10)] at e10
        have HE := Lib.hid e10
        generalize hF : lfs 0 S.data.toList ++ lfs S.size (s.data.toList.take k) = F at hFl g2 hc2 ho2 hr2 H2 HO
        have HF := Lib.hid hF
        clear e10 hF ho1 ho2 hr1 hr2 hc1 hc2 HL HT
        go_wp2_with (at_builtin; refine wpList_append_lies _ rfl _ _ 23 rfl 0 3 ii (.int .i64 0) 1 8 Try.underlying23 hii hj0 hj1 hj2 rfl (by decide) _ _ _ rfl (HO.out.1.alloc _) ⟨wr.heap.size, 0, none⟩ 1 1 [.int .i64 ((S.size : Int) + k)] rfl rfl ?c1 ?c2 (by omega) ?c3 ?c4 ?c5 _ rfl ?_)
        case c1 => exact World.news_of_block (fr := (0, 0)) (heap_alloc_new wr _)
        case c2 => intro u hu; simp at hu; rcases hu with rfl; rfl
        case c3 => unfold maxLen; omega
        case c4 => omega
        case c5 => omega
        intro q2 cap2 w5 hown5 hgrow hat hlt5
        obtain ⟨hcel, hfz⟩ := feed_pre H2.out.1 HO.out.2 hgrow 1
        have hcel := hcel.trans g2
        obtain ⟨hbf, hff⟩ := feed_post H2.out.1 HO.out.2 hgrow hown5 hat
        have H5 := Lib.hid (And.intro hbf (H2.out.2.trans hff))
        clear hbf hff hown5 hgrow hat f1
        go_wp2
        go_roundw
        case rel =>
          refine ⟨k + 1, some q2, by omega, by go_num, ?_, ?_⟩
          · rw [HE.out, ← List.append_assoc, HF.out]
            simpa using H5.out.1
          · simpa using H5.out.2
        case measure => simp [intOf]; omega
      · go_wp2
        go_roundw
        case rel =>
          refine ⟨k + 1, rf', by omega, by go_num, ?_, H2.out.2⟩
          have e10 := HL.out
          rw [if_neg (fun e => h10 (HT.out.1 e)), List.append_nil] at e10
          rw [e10]
          exact H2.out.1
        case measure => simp [intOf]; omega
    · obtain rfl : k = s.size := by omega
      obtain ⟨A1, c1, A2, c2, g1, g2, hc1, hc2, ho1, ho2, hr1, hr2⟩ := H2.out.1.open_
      have HO := Lib.hid (And.intro ho1 hr1)
      clear ho1 ho2 hr1 hr2 hc1 hc2
      go_wp2_with (at_builtin; refine wpList_append_own_string_at _ rfl _ _ 131 9 rfl 0 5 i8 Try.underlying131 Try.underlying9 hi8 hy0 hy1 hy2 _ _ _ rfl HO.out.1 s rfl ?c3 ?c4 ?c5 ?_)
      case c3 => unfold maxLen; omega
      case c4 => omega
      case c5 => omega
      intro v5 w5 hown5 hgrow hat
      obtain ⟨A5, c5, rfl, _, _⟩ := SlAt.of_own hown5
      obtain ⟨hcel, hfz⟩ := bytes_pre H2.out.1 HO.out.2 hgrow 0
      have hcel := hcel.trans g1
      obtain ⟨hbf, hff⟩ := bytes_post H2.out.1 HO.out.2 hgrow hown5 hat
      have H5 := Lib.hid (And.intro hbf (H2.out.2.trans hff))
      clear hbf hff hown5 hgrow hat
      go_wp2
      go_ret
      refine ⟨_, _, rfl, ?_, (Fr.of_below H1.out.2.2).trans H5.out.2⟩
      have e : lfs 0 (S ++ s).data.toList = lfs 0 S.data.toList ++ lfs S.size (s.data.toList.take s.size) := by
        have e2 : s.data.toList.take s.size = s.data.toList := List.take_of_length_le (Nat.le_refl s.data.toList.length)
        rw [ByteArray.data_append, Array.toList_append, lfs_append, Nat.zero_add, e2]
        rfl
      unfold BufS
      rw [e]
      exact H5.out.1
end Go.Proofs.Ytoeamnagmehpeaa.Buf


/- A buffer that only grows: what is read of it. -/
namespace Go.Proofs.Ytoeamnagmehpeaa.Buf
set_option linter.unusedSimpArgs false
set_option linter.unusedVariables false
open Go Go.RowKit Go.Lib
open Go.Proofs.Ytoeamnagmehpeaa.Vec (SlI)
attribute [local go_sem] lt_add1 lt_self1 size_ne size_ne' size_ne1 size_ne1'

def atV (S : ByteArray) (i : Int) : Int := if 0 ≤ i ∧ i < S.size then ((S.data.toList.getD i.toNat 0).toNat : Int) else 0
def atB (S : ByteArray) (i : Int) : Bool := decide (0 ≤ i ∧ i < S.size)
theorem slice_nil (off k : Int) (w : World) : Calls Try.prog 129 #[.pointer none, .int .i64 off, .int .i64 k] w fun e w' => e = .returned (.tuple #[.string ⟨#[]⟩, .bool false]) ∧ w = w' := by
  go_enter Try.func129, Try.ntmps129
  go_wp2_with fail
  refine (there_nil _ _ _).mono ?_
  rintro e w' ⟨rfl, rfl⟩
  go_wp2
  go_ret2
  exact ⟨rfl, rfl⟩

def sliceV (S : ByteArray) (off k : Int) : ByteArray := if thereB S.size off k then S.extract off.toNat (off.toNat + k.toNat) else ⟨#[]⟩
theorem bytes_ext {x y : ByteArray} (h : x.data.toList = y.data.toList) : x = y := by
  obtain ⟨⟨a⟩⟩ := x
  obtain ⟨⟨b⟩⟩ := y
  simp at h
  rw [h]
theorem ofNat_byte (b : UInt8) : UInt8.ofNat (((b.toNat : Nat) : Int).toNat) = b := by simp
theorem strOfNums_extract (S : ByteArray) (o m : Nat) : strOfNums (((S.data.toList.drop o).take m).map fun b => ((b.toNat : Nat) : Int)) = S.extract o (o + m) := by
  refine bytes_ext ?_
  rw [strOfNums_data, List.map_map]
  have e : ((fun n : Int => UInt8.ofNat n.toNat) ∘ fun b : UInt8 => ((b.toNat : Nat) : Int)) = id := by funext b; exact ofNat_byte b
  rw [e, List.map_id]
  simp [ByteArray.data_extract, List.drop_take, Nat.add_sub_cancel_left]
theorem conv_piece (S : ByteArray) (o m : Nat) (hom : o + m ≤ S.size) (w : World) (b c : Nat) (hcs : ∀ i, i < S.size → w.cell? ⟨b, i, none⟩ = some ((strCells S).getD i undef)) :
    (convert 131 9 (.slice (some ⟨b, o, none⟩) m c)).run Try.prog w = .ok (.string (S.extract o (o + m))) w := by
  have hl : S.data.toList.length = S.size := rfl
  have := run_convert_bytes_arg (P := Try.prog) w 131 5 Try.underlying131 Try.underlying5 b o m c (((S.data.toList.drop o).take m).map fun b => ((b.toNat : Nat) : Int)) (by simp; omega) (fun i hi => by
    rw [hcs (o + i) (by omega), strCells_getD S (o + i) (by omega)]
    have h1 : i < ((S.data.toList.drop o).take m).length := by simp; omega
    have h2 : o + i < S.data.toList.length := by omega
    simp only [List.getD, List.getElem?_map, List.getElem?_eq_getElem h1, List.getElem?_eq_getElem h2, Option.map_some, Option.getD_some]
    congr 3
    simp) 9 Try.underlying9
  rw [strOfNums_extract] at this
  exact this

set_option maxRecDepth 100000 in
set_option maxHeartbeats 1000000 in
theorem slice_any (g : Nat) (rb rf : Option Nat) (S : ByteArray) (F : List Int) (off k : Int) (w : World) (h : Buf w g rb rf S F) (hS : S.size ≤ 1000000) :
    Calls Try.prog 129 #[.pointer (some ⟨g, 0, none⟩), .int .i64 off, .int .i64 k] w fun e w' => e = .returned (.tuple #[.string (sliceV S off k), .bool (thereB S.size off k)]) ∧ w = w' := by
  have H := Lib.hid h
  obtain ⟨A, c, A', c', h1, h2, hc, hc', ho, _, _, _⟩ := h.open_
  have HO := Lib.hid ho
  clear h ho
  have HT := Lib.hid (there_any _ _ _ _ _ off k _ H.out (by omega))
  cases hth : thereB S.size off k
  · rw [hth] at HT
    have e1 : sliceV S off k = ⟨#[]⟩ := by simp [sliceV, hth]
    rw [e1]
    go_enter Try.func129, Try.ntmps129
    go_wp2_with fail
    refine HT.out.mono ?_
    rintro e w' ⟨rfl, rfl⟩
    go_wp2
    go_ret2
    exact ⟨rfl, rfl⟩
  · have hr : 0 ≤ off ∧ 0 ≤ k ∧ off ≤ S.size ∧ k ≤ S.size - off := by simp [thereB] at hth; omega
    obtain ⟨o, rfl⟩ : ∃ o : Nat, off = o := ⟨off.toNat, by omega⟩
    obtain ⟨m, rfl⟩ : ∃ m : Nat, k = m := ⟨k.toNat, by omega⟩
    rw [hth] at HT
    have e1 : sliceV S o m = S.extract o (o + m) := by simp [sliceV, hth]
    rw [e1]
    have hw : IntKind.i64.wrap ((o : Int) + m) = o + m := IntWalk.i64_in _ (by omega)
    have hom : o + m ≤ S.size := by omega
    clear hth e1
    rcases HO.out.2 with ⟨hnil, h0⟩ | ⟨b, cap, cur, hsome, _, hh, _⟩
    · injection hnil with ha _ hc0
      subst ha hc0
      rw [h0] at h1
      obtain rfl : o = 0 := by omega
      obtain rfl : m = 0 := by omega
      have e2 : S.extract 0 (0 + 0) = ⟨#[]⟩ := bytes_ext (by simp [ByteArray.data_extract])
      rw [e2]
      have hconv := run_convert_bytes_nil (P := Try.prog) w 131 5 Try.underlying131 Try.underlying5 0 0 9 Try.underlying9
      go_enter Try.func129, Try.ntmps129
      go_wp2_with fail
      refine HT.out.mono ?_
      rintro e w' ⟨rfl, rfl⟩
      go_wp2
      go_ret2
      exact ⟨rfl, rfl⟩
    · cases hsome
      have hcs : ∀ i, i < S.size → w.cell? ⟨b, i, none⟩ = some ((strCells S).getD i undef) := fun i hi => by
        obtain ⟨b', e, _, hcs⟩ := own_cells HO.out (by omega)
        cases e
        exact hcs i hi
      by_cases hoc : o = c
      · obtain rfl : m = 0 := by omega
        have hconv := conv_piece S 0 0 (by omega) w b 0 hcs
        have e2 : S.extract 0 (0 + 0) = S.extract o (o + 0) := bytes_ext (by simp [ByteArray.data_extract])
        rw [e2] at hconv
        generalize S.extract o (o + 0) = X at hconv ⊢
        clear hcs
        subst hoc
        go_enter Try.func129, Try.ntmps129
        go_wp2_with fail
        refine HT.out.mono ?_
        rintro e w' ⟨rfl, rfl⟩
        go_wp2
        go_ret2
        exact ⟨rfl, rfl⟩
      · have hconv := conv_piece S o m hom w b (c - o) hcs
        generalize S.extract o (o + m) = X at hconv ⊢
        clear hcs
        go_enter Try.func129, Try.ntmps129
        go_wp2_with fail
        refine HT.out.mono ?_
        rintro e w' ⟨rfl, rfl⟩
        go_wp2
        go_ret2
        exact ⟨rfl, rfl⟩
end Go.Proofs.Ytoeamnagmehpeaa.Buf


/- The library's Search, SearchInts; how many line feeds stand ahead of a place. -/
namespace Go.Proofs.Ytoeamnagmehpeaa.Buf
set_option linter.unusedSimpArgs false
set_option linter.unusedVariables false
open Go Go.RowKit Go.Lib
open Go.Proofs.Ytoeamnagmehpeaa.Vec (SlI)
attribute [local go_sem] lt_add1 lt_self1 size_ne size_ne' size_ne1 size_ne1'

set_option maxRecDepth 100000 in
set_option maxHeartbeats 1000000 in
theorem search_any (n : Nat) (hn : n ≤ 1099511627776) (g : Nat) (lb : Array Value) (p : Nat → Bool) (w : World) (eg : ∀ args w, (callFunc g args).run Try.prog w = .ok (.enter g args) w)
    (hp : ∀ W i, Below w.heap.size w W → i < n → Calls Try.prog g (#[.int .i64 (i : Nat)] ++ lb) W fun e w' => e = .returned (.bool (p i)) ∧ Below W.heap.size W w')
    (mono : ∀ a b, a ≤ b → b < n → p a = true → p b = true) :
    Calls Try.prog 147 #[.int .i64 n, .func (.func g) #[] lb] w fun e w' => ∃ r : Nat, e = .returned (.int .i64 r) ∧ r ≤ n ∧ (∀ a, a < r → p a = false) ∧ (∀ a, r ≤ a → a < n → p a = true) ∧ Below w.heap.size w w' := by
  have HP := Lib.hid hp
  have HM := Lib.hid mono
  clear hp mono
  go_enter Try.func147, Try.ntmps147
  go_wp2_with fail
  go_loopw [5, 6] (fun i j wr => ∃ a b : Nat, i = .int .i64 a ∧ j = .int .i64 b ∧ a ≤ b ∧ b ≤ n ∧ (∀ x, x < a → p x = false) ∧ (∀ x, b ≤ x → x < n → p x = true) ∧ Below w.heap.size w wr) (fun i j _ => (intOf j).toNat - (intOf i).toNat)
  case atStart => exact ⟨0, n, rfl, rfl, by omega, by omega, fun x h => by omega, fun x h1 h2 => by omega, Below.refl _ _⟩
  case round =>
    obtain ⟨a, b, rfl, rfl, hab, hbn, h1, h2, hb⟩ := hrel
    have H := Lib.hid (And.intro h1 (And.intro h2 hb))
    clear h1 h2 hb
    by_cases hlt : (a : Int) < b
    · obtain ⟨m, hm⟩ : ∃ m : Nat, m = (a + b) / 2 := ⟨_, rfl⟩
      have e1 : IntKind.i64.wrap ((a : Int) + b) = a + b := IntWalk.i64_in _ (by omega)
      have hme : ((a : Int) + b) / 2 = (m : Int) := by omega
      have hml : a ≤ m ∧ m < b := by omega
      obtain ⟨hm1, hm2⟩ := hml
      have hc := HP.out wr m H.out.2.2 (by omega)
      cases hpm : p m
      · rw [hpm] at hc
        have HC := Lib.hid hc
        have HF := Lib.hid (show ∀ x, x < m + 1 → p x = false from fun x hx => by
          cases hpx : p x
          · rfl
          · exact absurd (HM.out x m (by omega) (by omega) hpx) (by rw [hpm]; simp))
        have HX := Lib.hid hme
        clear hc hpm hm hme
        go_upto_region 4 with fail
        rw [HX.out]
        go_wp2_with fail
        refine HC.out.mono ?_
        rintro e w' ⟨rfl, hb'⟩
        have HB := Lib.hid (H.out.2.2.trans (hb'.mono H.out.2.2.size))
        have e2 : IntKind.i64.wrap ((m : Int) + 1) = (m : Int) + 1 := IntWalk.i64_in _ (by omega)
        clear hb'
        go_wp2
        go_roundw
        case rel => exact ⟨m + 1, b, by go_num, rfl, by omega, hbn, HF.out, H.out.2.1, HB.out⟩
        case measure => simp [intOf]; omega
      · rw [hpm] at hc
        have HC := Lib.hid hc
        have HF := Lib.hid (show ∀ x, m ≤ x → x < n → p x = true from fun x h1 h2 => HM.out m x h1 h2 hpm)
        have HX := Lib.hid hme
        clear hc hpm hm hme
        go_upto_region 4 with fail
        rw [HX.out]
        go_wp2_with fail
        refine HC.out.mono ?_
        rintro e w' ⟨rfl, hb'⟩
        have HB := Lib.hid (H.out.2.2.trans (hb'.mono H.out.2.2.size))
        clear hb'
        go_wp2
        go_roundw
        case rel => exact ⟨a, m, rfl, rfl, by omega, by omega, H.out.1, HF.out, HB.out⟩
        case measure => simp [intOf]; omega
    · have e : a = b := by omega
      subst e
      go_wp2
      go_ret
      exact ⟨a, rfl, hbn, H.out.1, H.out.2.1, H.out.2.2⟩

open Go.Proofs.Ytoeamnagmehpeaa.Vec (iv) in
/-- the closure of SearchInts. -/
theorem closure_any (xs : List Int) (b off c B1 B2 : Nat) (x : Int) (w : World) (hB1 : B1 < w.heap.size) (hB2 : B2 < w.heap.size) (hb : b < w.heap.size)
    (hc1 : w.cell? ⟨B1, 0, none⟩ = some (.slice (some ⟨b, off, none⟩) xs.length c)) (hc2 : w.cell? ⟨B2, 0, none⟩ = some (.int .i64 x)) (hcs : ∀ i, i < xs.length → w.cell? ⟨b, off + i, none⟩ = some (iv xs i)) (hn : xs.length ≤ 1099511627776) :
    ∀ (W : World) (i : Nat), Below w.heap.size w W → i < xs.length → Calls Try.prog 148 (#[.int .i64 (i : Nat)] ++ #[.pointer (some ⟨B1, 0, none⟩), .pointer (some ⟨B2, 0, none⟩)]) W fun e w' => e = .returned (.bool (decide (x ≤ xs.getD i 0))) ∧ Below W.heap.size W w' := by
  intro W i hW hi
  have g1 := (hW.cell (p := ⟨B1, 0, none⟩) hB1).trans hc1
  have g2 := (hW.cell (p := ⟨B2, 0, none⟩) hB2).trans hc2
  have g3 : W.cell? ⟨b, off + i, none⟩ = some (.int .i64 (xs.getD i 0)) := (hW.cell (p := ⟨b, _, none⟩) hb).trans (hcs i hi)
  have hi0 : (0 : Int) ≤ i := by omega
  have hi1 : (i : Int) < xs.length := by omega
  clear hc1 hc2 hcs hW
  generalize xs.getD i 0 = y at g3
  show Calls Try.prog 148 #[.int .i64 (i : Nat), .pointer (some ⟨B1, 0, none⟩), .pointer (some ⟨B2, 0, none⟩)] W _
  go_enter Try.func148, Try.ntmps148
  go_upto_region 1 with fail
  go_quiet (fail)
  go_wp2
  go_ret
  exact ⟨ret_bool (by simp), by (repeat (first | exact Below.refl _ _ | assumption | (refine Below.setCell ?_ (by first | (simp; done) | (simp; omega) | omega) _) | (refine Below.alloc ?_ (by first | (simp; done) | (simp; omega) | omega) _) | (refine Below.drew ?_) | (refine Below.drewN ?_ _) | (refine Below.trans ?_ (Below.mono (by assumption) (by first | (simp; done) | (simp; omega) | omega)))))⟩

theorem count_split (F : List Int) (x : Int) (r : Nat) (hr : r ≤ F.length) (h1 : ∀ a, a < r → F.getD a 0 < x) (h2 : ∀ a, r ≤ a → a < F.length → x ≤ F.getD a 0) : F.countP (fun f => decide (f < x)) = r := by
  have e : F = F.take r ++ F.drop r := (List.take_append_drop r F).symm
  rw [e, List.countP_append]
  have c1 : (F.take r).countP (fun f => decide (f < x)) = (F.take r).length := by
    rw [List.countP_eq_length]
    intro f hf
    obtain ⟨i, hi, rfl⟩ := List.mem_iff_getElem.1 hf
    have hi' : i < r := by simp at hi; omega
    have := h1 i hi'
    simp only [List.getD, List.getElem?_eq_getElem (show i < F.length by omega), Option.getD_some] at this
    simpa using this
  have c2 : (F.drop r).countP (fun f => decide (f < x)) = 0 := by
    rw [List.countP_eq_zero]
    intro f hf
    obtain ⟨i, hi, rfl⟩ := List.mem_iff_getElem.1 hf
    have hi' : r + i < F.length := by simp at hi; omega
    have := h2 (r + i) (by omega) hi'
    simp only [List.getD, List.getElem?_eq_getElem hi', Option.getD_some] at this
    simp; omega
  rw [c1, c2]
  simp; omega

open Go.Proofs.Ytoeamnagmehpeaa.Vec (iv) in
set_option maxRecDepth 100000 in
set_option maxHeartbeats 1000000 in
theorem searchInts_any (xs : List Int) (A : Option Addr) (c : Nat) (x : Int) (w : World) (hs : SlI w w.heap.size xs.length A (iv xs)) (hn : xs.length ≤ 1099511627776) (hm : ∀ a b, a ≤ b → b < xs.length → xs.getD a 0 ≤ xs.getD b 0) :
    Calls Try.prog 135 #[.slice A xs.length c, .int .i64 x] w fun e w' => e = .returned (.int .i64 (xs.countP fun f => decide (f < x))) ∧ Below w.heap.size w w' := by
  have eg : ∀ args w, (callFunc 148 args).run Try.prog w = .ok (.enter 148 args) w := enters_of Try.func148 (by kernel_rfl) rfl
  have hS : ∀ W : World, Below w.heap.size w W → w.heap.size + 1 < W.heap.size → W.cell? ⟨w.heap.size, 0, none⟩ = some (.slice A xs.length c) → W.cell? ⟨w.heap.size + 1, 0, none⟩ = some (.int .i64 x) →
      Calls Try.prog 147 #[.int .i64 xs.length, .func (.func 148) #[] #[.pointer (some ⟨w.heap.size, 0, none⟩), .pointer (some ⟨w.heap.size + 1, 0, none⟩)]] W fun e w' => e = .returned (.int .i64 (xs.countP fun f => decide (f < x))) ∧ Below W.heap.size W w' := by
    intro W hW hlt h1 h2
    refine (search_any xs.length hn 148 #[.pointer (some ⟨w.heap.size, 0, none⟩), .pointer (some ⟨w.heap.size + 1, 0, none⟩)] (fun i => decide (x ≤ xs.getD i 0)) W eg ?_ ?_).mono ?_
    · intro W2 i hW2 hi
      obtain ⟨b, off, rfl, hb, hcs⟩ := hs (by omega)
      exact closure_any xs b off c w.heap.size (w.heap.size + 1) x W (by omega) (by omega) (by omega) h1 h2 (fun i hi => (hW.cell (p := ⟨b, _, none⟩) hb).trans (hcs i hi)) hn W2 i hW2 hi
    · intro a b h1 h2 h3
      have := hm a b h1 h2
      simp only [decide_eq_true_eq] at h3 ⊢
      omega
    · rintro e w' ⟨r, rfl, hr, h1, h2, hb⟩
      refine ⟨?_, hb⟩
      rw [count_split xs x r hr (fun a ha => by have := h1 a ha; simpa using this) (fun a h3 h4 => by have := h2 a h3 h4; simpa using this)]
  have HS := Lib.hid hS
  clear hS hs hm
  generalize (xs.countP fun f => decide (f < x)) = r at HS ⊢
  go_enter Try.func135, Try.ntmps135
  go_wp2_with fail
  refine (HS.out _ (by (repeat (first | exact Below.refl _ _ | assumption | (refine Below.setCell ?_ (by first | (simp; done) | (simp; omega) | omega) _) | (refine Below.alloc ?_ (by first | (simp; done) | (simp; omega) | omega) _) | (refine Below.drew ?_) | (refine Below.drewN ?_ _) | (refine Below.trans ?_ (Below.mono (by assumption) (by first | (simp; done) | (simp; omega) | omega)))))) (by simp) (by simp [go_sem]) (by simp [go_sem])).mono ?_
  rintro e w' ⟨rfl, hb⟩
  have HB := Lib.hid hb
  clear hb
  go_wp2
  go_ret
  exact ⟨rfl, (show Below w.heap.size w _ from by (repeat (first | exact Below.refl _ _ | assumption | (refine Below.setCell ?_ (by first | (simp; done) | (simp; omega) | omega) _) | (refine Below.alloc ?_ (by first | (simp; done) | (simp; omega) | omega) _) | (refine Below.drew ?_) | (refine Below.drewN ?_ _) | (refine Below.trans ?_ (Below.mono (by assumption) (by first | (simp; done) | (simp; omega) | omega)))))).trans (HB.out.mono (by simp; omega))⟩
end Go.Proofs.Ytoeamnagmehpeaa.Buf


/- Line feeds of a buffer, and of a text. -/
namespace Go.Proofs.Ytoeamnagmehpeaa.Buf
set_option linter.unusedSimpArgs false
set_option linter.unusedVariables false
open Go Go.RowKit Go.Lib
open Go.Proofs.Ytoeamnagmehpeaa.Vec (SlI iv)
attribute [local go_sem] lt_add1 lt_self1 size_ne size_ne' size_ne1 size_ne1'
attribute [local irreducible] wpGrow

/-! ### What line feeds are -/
theorem lfs_bounds : ∀ (n : Nat) (l : List UInt8) (f : Int), f ∈ lfs n l → (n : Int) ≤ f ∧ f < (n + l.length : Nat)
  | n, [], f, h => by simp [lfs] at h
  | n, c :: l, f, h => by
    have ih := lfs_bounds (n + 1) l f
    simp only [lfs] at h
    split at h
    · rcases List.mem_cons.1 h with rfl | h
      · simp only [List.length_cons]; omega
      · have := ih h; simp only [List.length_cons]; omega
    · have := ih h; simp only [List.length_cons]; omega
theorem lfs_sorted : ∀ (n : Nat) (l : List UInt8), (lfs n l).Pairwise (· < ·)
  | n, [] => by simp [lfs]
  | n, c :: l => by
    have ih := lfs_sorted (n + 1) l
    simp only [lfs]
    split
    · refine List.pairwise_cons.2 ⟨fun f hf => ?_, ih⟩
      have := (lfs_bounds (n + 1) l f hf).1
      omega
    · exact ih
theorem lfs_mono (n : Nat) (l : List UInt8) (a b : Nat) (hab : a ≤ b) (hb : b < (lfs n l).length) : (lfs n l).getD a 0 ≤ (lfs n l).getD b 0 := by
  have ha : a < (lfs n l).length := by omega
  simp only [List.getD, List.getElem?_eq_getElem ha, List.getElem?_eq_getElem hb, Option.getD_some]
  rcases Nat.lt_or_ge a b with h | h
  · have := List.pairwise_iff_getElem.1 (lfs_sorted n l) a b ha hb h
    omega
  · have e : a = b := by omega
    subst e
    exact Int.le_refl _
theorem lfs_shift : ∀ (n m : Nat) (l : List UInt8), lfs (n + m) l = (lfs m l).map (fun f => (n : Int) + f)
  | n, m, [] => by simp [lfs]
  | n, m, c :: l => by
    have ih := lfs_shift n (m + 1) l
    rw [← Nat.add_assoc] at ih
    simp only [lfs]
    split
    · rw [List.map_cons, ih]
      simp
    · exact ih

def cnt (S : ByteArray) (x : Int) : Nat := (lfs 0 S.data.toList).countP fun f => decide (f < x)
theorem countP_low {l : List Int} {x : Int} (h : ∀ f ∈ l, f < x) : l.countP (fun f => decide (f < x)) = l.length := by
  rw [List.countP_eq_length]
  intro f hf
  simpa using h f hf
theorem countP_high {l : List Int} {x : Int} (h : ∀ f ∈ l, x ≤ f) : l.countP (fun f => decide (f < x)) = 0 := by
  rw [List.countP_eq_zero]
  intro f hf
  have := h f hf
  simp; omega
/-- as many line feeds stand ahead of a place as the bytes ahead of it have. -/
theorem cnt_at (S : ByteArray) (o : Nat) (ho : o ≤ S.size) : cnt S o = (lfs 0 (S.data.toList.take o)).length := by
  have hl : S.data.toList.length = S.size := rfl
  have e : S.data.toList = S.data.toList.take o ++ S.data.toList.drop o := (List.take_append_drop o _).symm
  unfold cnt
  rw [e, lfs_append, List.countP_append]
  have e1 : (S.data.toList.take o).length = o := by simp; omega
  rw [List.take_append_of_le_length (by omega), List.take_take, Nat.min_self, e1]
  rw [countP_low fun f hf => ?_, countP_high fun f hf => ?_, Nat.add_zero]
  · have := lfs_bounds _ _ f hf
    omega
  · have := (lfs_bounds _ _ f hf).2
    rw [e1] at this
    omega
/-- the line feeds of a piece among those of the whole. -/
theorem lfs_piece (S : ByteArray) (o m : Nat) (hom : o + m ≤ S.size) : lfs 0 S.data.toList = lfs 0 (S.data.toList.take o) ++ ((lfs 0 (S.extract o (o + m)).data.toList).map (fun f => (o : Int) + f) ++ lfs (o + m) (S.data.toList.drop (o + m))) := by
  have hl : S.data.toList.length = S.size := rfl
  have e1 : (S.data.toList.take o).length = o := by simp; omega
  have ex : (S.extract o (o + m)).data.toList = (S.data.toList.drop o).take m := by simp [ByteArray.data_extract, List.drop_take, Nat.add_sub_cancel_left]
  have e : S.data.toList = S.data.toList.take o ++ ((S.data.toList.drop o).take m ++ S.data.toList.drop (o + m)) := by
    rw [← List.drop_drop, List.take_append_drop, List.take_append_drop]
  have e2 : ((S.data.toList.drop o).take m).length = m := by simp; omega
  conv => lhs; rw [e]
  rw [lfs_append, lfs_append, e1, e2, Nat.zero_add, ex]
  congr 2
  have := lfs_shift o 0 ((S.data.toList.drop o).take m)
  rwa [Nat.add_zero] at this
theorem cnt_piece (S : ByteArray) (o m : Nat) (hom : o + m ≤ S.size) : cnt S ((o : Int) + m) = cnt S o + (lfs 0 (S.extract o (o + m)).data.toList).length := by
  have h1 := cnt_at S o (by omega)
  have h2 := cnt_at S (o + m) hom
  have hl : S.data.toList.length = S.size := rfl
  rw [Int.natCast_add] at h2
  rw [h2, h1]
  have ex : (S.extract o (o + m)).data.toList = (S.data.toList.drop o).take m := by simp [ByteArray.data_extract, List.drop_take, Nat.add_sub_cancel_left]
  have e : S.data.toList.take (o + m) = S.data.toList.take o ++ (S.data.toList.drop o).take m := List.take_add
  have e1 : (S.data.toList.take o).length = o := by simp; omega
  rw [e, lfs_append, List.length_append, e1, Nat.zero_add, ex]
  have := lfs_shift o 0 ((S.data.toList.drop o).take m)
  rw [Nat.add_zero] at this
  rw [this, List.length_map]
theorem feed_piece (S : ByteArray) (o m k : Nat) (hom : o + m ≤ S.size) (hk : k < (lfs 0 (S.extract o (o + m)).data.toList).length) :
    (lfs 0 S.data.toList).getD (cnt S o + k) 0 = o + (lfs 0 (S.extract o (o + m)).data.toList).getD k 0 := by
  rw [cnt_at S o (by omega), lfs_piece S o m hom]
  simp only [List.getD]
  rw [List.getElem?_append_right (by omega), Nat.add_sub_cancel_left, List.getElem?_append_left (by simpa using hk), List.getElem?_map, List.getElem?_eq_getElem hk]
  rfl
theorem cnt_le (S : ByteArray) (x : Int) : cnt S x ≤ S.size := by
  have h1 : cnt S x ≤ (lfs 0 S.data.toList).length := List.countP_le_length
  have h2 := lfs_length 0 S.data.toList
  have hl : S.data.toList.length = S.size := rfl
  omega

/-! ### ahead, Feeds, Feed -/
theorem own_iv {w : World} {A : Option Addr} {c : Nat} {F : List Int} (h : w.ownsRow 0 3 1 (.slice A F.length c) F.length (F.map (Value.int .i64))) : SlI w w.heap.size F.length A (iv F) := fun hn => by
  obtain ⟨b, e, hb, hc⟩ := own_cells h hn
  refine ⟨b, 0, e, hb, fun i hi => ?_⟩
  rw [Nat.zero_add, hc i hi]
  simp [iv, List.getD, hi]

set_option maxHeartbeats 1000000 in
theorem ahead_any (g : Nat) (rb rf : Option Nat) (S : ByteArray) (x : Int) (w : World) (h : BufS w g rb rf S) (hS : S.size ≤ 1000000) :
    Calls Try.prog 104 #[.pointer (some ⟨g, 0, none⟩), .int .i64 x] w fun e w' => e = .returned (.int .i64 (cnt S x)) ∧ Below w.heap.size w w' := by
  obtain ⟨A, c, A', c', h1, h2, hc, hc', _, ho, _, _⟩ := Buf.open_ h
  have hl := lfs_length 0 S.data.toList
  have hl2 : S.data.toList.length = S.size := rfl
  have HC := Lib.hid (searchInts_any (lfs 0 S.data.toList) A' c' x w (own_iv ho) (by omega) (fun a b => lfs_mono 0 _ a b))
  clear ho hl hl2
  unfold cnt
  generalize (lfs 0 S.data.toList).countP (fun f => decide (f < x)) = r at HC ⊢
  generalize (lfs 0 S.data.toList).length = n at HC h2
  go_enter Try.func104, Try.ntmps104
  go_wp2_with fail
  refine HC.out.mono ?_
  rintro e w' ⟨rfl, hb⟩
  go_wp2
  go_ret
  exact ⟨rfl, hb⟩

theorem feeds_nil (off k : Int) (w : World) : Calls Try.prog 68 #[.pointer none, .int .i64 off, .int .i64 k] w fun e w' => e = .returned (.int .i64 (-1)) ∧ w = w' := by
  go_enter Try.func68, Try.ntmps68
  go_wp2_with fail
  refine (there_nil _ _ _).mono ?_
  rintro e w' ⟨rfl, rfl⟩
  go_wp2
  go_ret
  exact ⟨rfl, rfl⟩
def feedsV (S : ByteArray) (off k : Int) : Int := if thereB S.size off k then (cnt S (off + k) : Int) - cnt S off else -1
set_option maxHeartbeats 1000000 in
theorem feeds_any (g : Nat) (rb rf : Option Nat) (S : ByteArray) (off k : Int) (w : World) (h : BufS w g rb rf S) (hS : S.size ≤ 1000000) :
    Calls Try.prog 68 #[.pointer (some ⟨g, 0, none⟩), .int .i64 off, .int .i64 k] w fun e w' => e = .returned (.int .i64 (feedsV S off k)) ∧ Below w.heap.size w w' := by
  have H := Lib.hid h
  have HT := Lib.hid (there_any _ _ _ _ _ off k _ (show Buf w g rb rf S _ from h) (by omega))
  clear h
  cases hth : thereB S.size off k
  · rw [hth] at HT
    have e1 : feedsV S off k = -1 := by simp [feedsV, hth]
    rw [e1]
    go_enter Try.func68, Try.ntmps68
    go_wp2_with fail
    refine HT.out.mono ?_
    rintro e w' ⟨rfl, rfl⟩
    go_wp2
    go_ret
    exact ⟨rfl, Below.refl _ _⟩
  · have hr : 0 ≤ off ∧ 0 ≤ k ∧ off ≤ S.size ∧ k ≤ S.size - off := by simp [thereB] at hth; omega
    rw [hth] at HT
    have e1 : feedsV S off k = (cnt S (off + k) : Int) - cnt S off := by simp [feedsV, hth]
    rw [e1]
    have hw : IntKind.i64.wrap (off + k) = off + k := IntWalk.i64_in _ (by omega)
    have hw2 : IntKind.i64.wrap ((cnt S (off + k) : Int) - cnt S off) = (cnt S (off + k) : Int) - cnt S off := IntWalk.i64_in _ (by have := cnt_le S (off + k); have := cnt_le S off; omega)
    have HA := Lib.hid (fun (W : World) (x : Int) (hW : BufS W g rb rf S) => ahead_any g rb rf S x W hW hS)
    clear hth e1
    go_enter Try.func68, Try.ntmps68
    go_wp2_with fail
    refine HT.out.mono ?_
    rintro e w' ⟨rfl, rfl⟩
    go_wp2_with fail
    refine (HA.out _ _ H.out).mono ?_
    rintro e w1 ⟨rfl, hb1⟩
    have HB := Lib.hid hb1
    clear hb1
    go_wp2_with fail
    refine (HA.out _ _ (Buf.below H.out HB.out)).mono ?_
    rintro e w2 ⟨rfl, hb2⟩
    have HB2 := Lib.hid (HB.out.trans (hb2.mono HB.out.size))
    clear hb2
    go_wp2
    go_ret
    exact ⟨rfl, HB2.out⟩
theorem feed_nil (off m k : Int) (w : World) : Calls Try.prog 137 #[.pointer none, .int .i64 off, .int .i64 m, .int .i64 k] w fun e w' => e = .returned (.tuple #[.int .i64 0, .bool false]) ∧ w = w' := by
  go_enter Try.func137, Try.ntmps137
  by_cases h1 : k < 0
  · go_wp2
    go_ret2
    exact ⟨rfl, rfl⟩
  · go_wp2_with (go_at_call 68; refine (feeds_nil _ _ _).mono ?_; rintro e w' ⟨rfl, rfl⟩)
    have h2 : (-1 : Int) ≤ k := by omega
    go_wp2
    go_ret2
    exact ⟨rfl, rfl⟩
end Go.Proofs.Ytoeamnagmehpeaa.Buf


/- Feed of a buffer; the page's Feeds and Feed. -/
namespace Go.Proofs.Ytoeamnagmehpeaa.Buf
set_option linter.unusedSimpArgs false
set_option linter.unusedVariables false
open Go Go.RowKit Go.Lib
open Go.Proofs.Ytoeamnagmehpeaa.Vec (SlI iv)
attribute [local go_sem] lt_add1 lt_self1 size_ne size_ne' size_ne1 size_ne1'
attribute [local irreducible] wpGrow

def feedB (S : ByteArray) (off m k : Int) : Bool := decide (0 ≤ k ∧ k < feedsV S off m)
def feedV (S : ByteArray) (off m k : Int) : Int := if 0 ≤ k ∧ k < feedsV S off m then (lfs 0 S.data.toList).getD (cnt S off + k.toNat) 0 else 0
set_option maxRecDepth 100000 in
set_option maxHeartbeats 1000000 in
theorem feed_any (g : Nat) (rb rf : Option Nat) (S : ByteArray) (off m k : Int) (w : World) (h : BufS w g rb rf S) (hS : S.size ≤ 1000000) :
    Calls Try.prog 137 #[.pointer (some ⟨g, 0, none⟩), .int .i64 off, .int .i64 m, .int .i64 k] w fun e w' => e = .returned (.tuple #[.int .i64 (feedV S off m k), .bool (feedB S off m k)]) ∧ Below w.heap.size w w' := by
  have H := Lib.hid h
  have HF := Lib.hid (feeds_any _ _ _ _ off m _ h hS)
  clear h
  by_cases h1 : k < 0
  · have hn : ¬ (0 ≤ k ∧ k < feedsV S off m) := by omega
    have e1 : feedV S off m k = 0 := by unfold feedV; rw [if_neg hn]
    have e2 : feedB S off m k = false := decide_eq_false hn
    rw [e1, e2]
    go_enter Try.func137, Try.ntmps137
    go_wp2
    go_ret2
    exact ⟨rfl, Below.refl _ _⟩
  · by_cases h2 : feedsV S off m ≤ k
    · have hn : ¬ (0 ≤ k ∧ k < feedsV S off m) := by omega
      have e1 : feedV S off m k = 0 := by unfold feedV; rw [if_neg hn]
      have e2 : feedB S off m k = false := decide_eq_false hn
      rw [e1, e2]
      generalize feedsV S off m = fv at HF h2
      clear hn e1 e2
      go_enter Try.func137, Try.ntmps137
      go_wp2_with (go_at_call 68; refine HF.out.mono ?_; rintro e w' ⟨rfl, hb⟩)
      go_ret2
      exact ⟨rfl, by assumption⟩
    · obtain ⟨j, rfl⟩ : ∃ j : Nat, k = j := ⟨k.toNat, by omega⟩
      have hy : 0 ≤ (j : Int) ∧ (j : Int) < feedsV S off m := by omega
      have e1 : feedV S off m j = (lfs 0 S.data.toList).getD (cnt S off + j) 0 := by unfold feedV; rw [if_pos hy]; rfl
      have e2 : feedB S off m j = true := decide_eq_true hy
      rw [e1, e2]
      have hlt : cnt S off + j < (lfs 0 S.data.toList).length := by
        have h3 : cnt S (off + m) ≤ (lfs 0 S.data.toList).length := List.countP_le_length
        unfold feedsV at hy
        split at hy <;> omega
      have hle := lfs_length 0 S.data.toList
      have hl2 : S.data.toList.length = S.size := rfl
      have HA := Lib.hid (fun (W : World) (x : Int) (hW : BufS W g rb rf S) => ahead_any g rb rf S x W hW hS)
      have HO := Lib.hid (fun (W : World) (hW : BufS W g rb rf S) => Buf.open_ hW)
      clear e1 e2 hy
      go_enter Try.func137, Try.ntmps137
      go_upto_region 3 with (go_at_call 68; refine HF.out.mono ?_; rintro e wq ⟨rfl, hb1⟩)
      have H1 := Lib.hid (And.intro (Buf.below H.out hb1) hb1)
      clear hb1
      obtain ⟨A, c, A', c', g1, g2, hc, hc', _, ho, _, _⟩ := HO.out _ H1.out.1
      obtain ⟨b, off', rfl, hb, hcs⟩ := own_iv ho (by omega)
      have f1 := hcs _ hlt
      unfold iv at f1
      have hgl := Buf.lt H1.out.1
      generalize hv : (lfs 0 S.data.toList).getD (cnt S off + j) 0 = v at f1
      have HV := Lib.hid hv
      clear hv
      generalize (lfs 0 S.data.toList).length = n at hlt hle g2
      generalize hcn : cnt S off = cn at f1 hlt
      have hw : IntKind.i64.wrap ((cn : Int) + j) = cn + j := IntWalk.i64_in _ (by omega)
      have hi0 : (0 : Int) ≤ (cn : Int) + j := by omega
      have hi1 : (cn : Int) + j < n := by omega
      have htn : ((cn : Int) + j).toNat = cn + j := by omega
      have HA2 := Lib.hid (fun (W : World) (hW : BufS W g rb rf S) => hcn ▸ HA.out W off hW)
      clear hcs hcn ho hc hc' g1
      refine wp_region_grow 13 (by kernel_rfl) (by kernel_rfl) ?_
      simp only [List.take_succ_cons, List.take_zero, List.drop_succ_cons, List.drop_zero, List.take_nil, List.drop_nil]
      iterate 6 ((refine wpGrow_val' rfl rfl ?_; apply Exists.intro; refine ⟨fun w1 hw1 => ?_, ?_⟩); (have hc1 := hw1.cell; go_simp; exact growUpon_ok rfl); (refine wpGrow_at (by (simp only [Act.put, List.setIfInBounds_toArray, List.set_cons_succ, List.set_cons_zero]) <;> exact rfl) ?_))
      (refine wpGrow_val' rfl rfl ?_; apply Exists.intro; refine ⟨fun w1 hw1 => ?_, ?_⟩)
      · go_simp
        exact growUpon_call (HA2.out w1 (Buf.below H1.out.1 hw1.below))
      (refine wpGrow_at (by (simp only [Act.put, List.setIfInBounds_toArray, List.set_cons_succ, List.set_cons_zero]) <;> exact rfl) ?_)
      iterate 6 ((refine wpGrow_val' rfl rfl ?_; apply Exists.intro; refine ⟨fun w1 hw1 => ?_, ?_⟩); (have hc1 := hw1.cell; go_simp; exact growUpon_ok rfl); (refine wpGrow_at (by (simp only [Act.put, List.setIfInBounds_toArray, List.set_cons_succ, List.set_cons_zero]) <;> exact rfl) ?_))
      refine wpGrow_nil ?_
      intro w3 hD
      go_wp2
      go_ret2
      refine ⟨?_, H1.out.2.trans (hD.below.mono H1.out.2.size)⟩
      rw [HV.out]
      rfl

/-! ### The page's answers -/
theorem lfs_split (n : Nat) (l : List UInt8) (i : Nat) (hi : i < l.length) : lfs n l = lfs n (l.take (i + 1)) ++ lfs (n + (i + 1)) (l.drop (i + 1)) := by
  conv => lhs; rw [← List.take_append_drop (i + 1) l]
  rw [lfs_append]
  congr 2
  simp; omega

end Go.Proofs.Ytoeamnagmehpeaa.Buf
