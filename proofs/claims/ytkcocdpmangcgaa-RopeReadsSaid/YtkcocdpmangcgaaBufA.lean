
/- A buffer that only grows: Add. -/
import Derived.Test.YtkcocdpmangcgaaBuf
namespace Go.Proofs.Ytkcocdpmangcgaa.Buf
set_option linter.unusedSimpArgs false
set_option linter.unusedVariables false
open Go Go.RowKit Go.Lib
open Go.Proofs.Ytkcocdpmangcgaa.Vec (SlI)
attribute [local go_sem] lt_add1 lt_self1 size_ne size_ne' size_ne1 size_ne1'

section
variable {P : Program} (w : World)
/-- append of a string's bytes, and where the new slice lies. -/
theorem run_append_own_string_at (base : Nat) (t u ty e : TypeId) (i : TypeInfo) (ht : P.underlying t = some (.slice e)) (hu : P.underlying u = some .string) (hi : P.info? e = some i) (hz : i.zero = some (.int .u8 0))
    (hsize : i.size = 1) (hby : i.bytes = 1)
    (v : Value) (n : Nat) (xs : List Value) (hown : w.ownsRow base e 1 v n xs) (s : ByteArray)
    (h63 : n + s.size ≤ maxLen) (hbytes : n + s.size ≤ 140737488355328) (hbase : base ≤ w.heap.size) :
    ∃ v' w', (Builtin.append_ #[t, u] ty #[v, .string s]).run P w = .ok v' w' ∧ w'.ownsRow base e 1 v' (n + s.size) (xs ++ strCells s) ∧ w.grownBy w' v.ownBlock ∧
      (v'.ownBlock = v.ownBlock ∨ v'.ownBlock = some w.heap.size) := by
  obtain ⟨v', w', hr, h2, h3, h4⟩ := run_append_own_string (P := P) w base t u ty e i ht hu hi hz hsize hby v n xs hown s h63 hbytes hbase
  have hsmall : n + s.size ≤ 9223372036854775807 := by simp only [maxLen] at h63; omega
  refine ⟨v', w', hr, h2, h3, ?_⟩
  have hxl : xs.length = n := by simpa using hown.1
  rcases hown.2 with ⟨rfl, rfl⟩ | ⟨g, cap, cur, rfl, hbg, hg, hnc, hcm, hcs, htake⟩
  · by_cases hm : s.size = 0
    · rw [h4.2 ⟨rfl, hm⟩]; exact .inl rfl
    · have hr' := run_append_nil_string (P := P) w t u ty e i (.int .u8 0) ht hu hi hz s (by omega) (by omega) (by rw [hby]; omega)
      rw [hr] at hr'
      cases hr'
      exact .inr rfl
  · by_cases hroom : n + s.size ≤ cap
    · have hcs' : cur.size = cap := by simpa using hcs
      have hr' := run_append_room_string (P := P) w t u ty e i ht hu hi hsize g n cap cur hg s hroom (by omega)
      rw [hr] at hr'
      cases hr'
      exact .inl rfl
    · have holds : ∀ j u, xs[j]? = some u → w.cell? ((⟨g, 0, none⟩ : Addr).add j) = some u := hown.cells (g := g) rfl
      have hr' := run_append_grow_string (P := P) w t u ty e i (.int .u8 0) ht hu hi hz ⟨g, 0, none⟩ n cap xs (by rw [hsize]; simpa using hxl) holds s (by omega) (by omega) (by rw [hby]; exact growslice_fits (by omega) (by omega))
      rw [hr] at hr'
      cases hr'
      exact .inr rfl
theorem wpList_append_own_string_at {ops : Array Oper} {rest : List Oper} {o : Oper} {a : Act} {Q : Exit → Act → World → Prop} (hgd : o.guard = none) (sl x : Operand) (t u : TypeId)
    (ho : o.op = .call { callee := .builtin .append, args := #[sl, x], argTypes := #[t, u] })
    (base : Nat) (e : TypeId) (i : TypeInfo) (ht : P.underlying t = some (.slice e)) (hu : P.underlying u = some .string) (hi : P.info? e = some i) (hz : i.zero = some (.int .u8 0))
    (hsize : i.size = 1) (hby : i.bytes = 1)
    (v : Value) (n : Nat) (xs : List Value) (hs : a.eval sl = v) (hown : w.ownsRow base e 1 v n xs) (s : ByteArray) (hx : a.eval x = .string s)
    (h63 : n + s.size ≤ maxLen) (hbytes : n + s.size ≤ 140737488355328) (hbase : base ≤ w.heap.size)
    (h : ∀ v' w', w'.ownsRow base e 1 v' (n + s.size) (xs ++ strCells s) → w.grownBy w' v.ownBlock → (v'.ownBlock = v.ownBlock ∨ v'.ownBlock = some w.heap.size) → wpList P ops Q rest (a.put o.dst v') w') : wpList P ops Q (o :: rest) a w := by
  refine wpList_plain hgd fun K hK => ?_
  obtain ⟨v', w', hr, h2, h3, h4⟩ := run_append_own_string_at (P := P) w base t u o.type e i ht hu hi hz hsize hby v n xs hown s h63 hbytes hbase
  unfold Oper.wp execOp
  simp only [ho, resolve, invoke, builtin, Sem.run_bind, Sem.run_pure, Result.andThen_ok, List.map_toArray, List.map_cons, List.map_nil, hs, hx, hr]
  exact hK _ _ (h v' w' h2 h3 h4)
end

theorem strCells_append (S s : ByteArray) : strCells (S ++ s) = strCells S ++ strCells s := by simp [strCells, ByteArray.data_append]
theorem lfs_append : ∀ (k : Nat) (a b : List UInt8), lfs k (a ++ b) = lfs k a ++ lfs (k + a.length) b
  | k, [], b => by simp [lfs]
  | k, c :: a, b => by
    have := lfs_append (k + 1) a b
    have e : k + 1 + a.length = k + (a.length + 1) := by omega
    by_cases h : c = 10 <;> simp [lfs, h, this, e]

/-- behind an append to the feeds. -/
theorem feed_post {W w5 : World} {g q n c cap : Nat} {rb rf : Option Nat} {S : ByteArray} {F : List Int} {x : Int} {A : Option Addr} {O : Obj} (h : Buf W g rb rf S F) (hr : (Value.slice A n c).ownBlock = rf)
    (hg : (W.alloc O).grownBy w5 (Value.slice A n c).ownBlock) (hown : w5.ownsRow 0 3 1 (.slice (some ⟨q, 0, none⟩) (F.length + 1) cap) (F.length + 1) (F.map (Value.int .i64) ++ [.int .i64 x]))
    (hat : (Value.slice A n c).ownBlock = some q ∨ q = W.heap.size + 1) :
    Buf (w5.setCell ⟨g, 1, none⟩ (.slice (some ⟨q, 0, none⟩) (F.length + 1) cap)) g rb (some q) S (F ++ [x]) ∧ Fr W (foot g rb rf) (w5.setCell ⟨g, 1, none⟩ (.slice (some ⟨q, 0, none⟩) (F.length + 1) cap)) (foot g rb (some q)) := by
  have hlt := h.lt
  obtain ⟨a1, a2, a3⟩ := h.apart
  obtain ⟨vb, vf, hgb, ob, of, hvb, hvf⟩ := h
  rw [hr] at hg hat
  have hsz : W.heap.size + 1 ≤ w5.heap.size := by have := hg.size; simpa using this
  have hne : q ≠ g := by
    rcases hat with e | e
    · intro e2; exact a2 (by rw [e, e2])
    · omega
  have hbk : ∀ b, b < W.heap.size → rf ≠ some b → w5.heap[b]? = W.heap[b]? := fun b hb hn => by
    rw [hg.block b (by simp; omega) (fun e => hn e.symm)]
    first | exact heap_alloc_old W O hb | exact heap_alloc_old W O b hb
  have hgw : w5.heap[g]? = some (.cells #[vb, vf] 163 (0, 0)) := (hbk g hlt a2).trans hgb
  have hset : (w5.setCell ⟨g, 1, none⟩ (.slice (some ⟨q, 0, none⟩) (F.length + 1) cap)).heap[g]? = some (.cells #[vb, .slice (some ⟨q, 0, none⟩) (F.length + 1) cap] 163 (0, 0)) := by
    rw [heap_setCell_same _ _ _ _ _ _ hgw]
    rfl
  refine ⟨⟨vb, _, hset, ?_, ?_, hvb, rfl⟩, ?_⟩
  · refine own_setCell ?_ (fun e => a1 (hvb.symm.trans e)) _
    rcases ob.2 with ⟨h1, h2⟩ | ⟨q', cap', cur, h1, h2, h3, rest⟩
    · exact ⟨ob.1, .inl ⟨h1, h2⟩⟩
    · refine ⟨ob.1, .inr ⟨q', cap', cur, h1, h2, ?_, rest⟩⟩
      have hq' : rb = some q' := by rw [← hvb, h1]; rfl
      rw [hbk q' (Array.getElem?_eq_some_iff.1 h3).1 (a3 q' hq')]
      exact h3
  · rw [List.length_append, List.map_append]
    exact own_setCell hown (fun e => hne (by simpa [Value.ownBlock] using e)) _
  · refine ⟨hg.os, hg.tape, hg.output, ?_, fun b hb hn => ?_, fun b hb => ?_⟩
    · rw [World.size_setCell]; omega
    · rw [Below.heap_setCell _ _ _ _ (fun e => hn (.inl e))]
      exact hbk b hb (fun e => hn (.inr (.inr e)))
    · rcases hb with e | e | e
      · exact .inl (.inl e)
      · exact .inl (.inr (.inl e))
      · cases e
        rcases hat with e | e
        · exact .inl (.inr (.inr e))
        · exact .inr (by omega)
theorem feed_pre {W w5 : World} {g n c : Nat} {rb rf : Option Nat} {S : ByteArray} {F : List Int} {A : Option Addr} {O : Obj} (h : Buf W g rb rf S F) (hr : (Value.slice A n c).ownBlock = rf)
    (hg : (W.alloc O).grownBy w5 (Value.slice A n c).ownBlock) (o : Nat) : w5.cell? ⟨g, o, none⟩ = W.cell? ⟨g, o, none⟩ ∧ w5.frozen? ⟨g, o, none⟩ = false := by
  have hlt := h.lt
  obtain ⟨a1, a2, a3⟩ := h.apart
  obtain ⟨vb, vf, hgb, ob, of, hvb, hvf⟩ := h
  rw [hr] at hg
  have hb : w5.heap[g]? = W.heap[g]? := by
    rw [hg.block g (by simp; omega) (fun e => a2 e.symm)]
    first | exact heap_alloc_old W O hlt | exact heap_alloc_old W O g hlt
  exact ⟨World.cell?_of_block (a := ⟨g, o, none⟩) hb, by rw [World.frozen?_of_block (a := ⟨g, o, none⟩) hb]; simp [World.frozen?, hgb]⟩
theorem bytes_pre {W w5 : World} {g n c : Nat} {rb rf : Option Nat} {S : ByteArray} {F : List Int} {A : Option Addr} (h : Buf W g rb rf S F) (hr : (Value.slice A n c).ownBlock = rb)
    (hg : W.grownBy w5 (Value.slice A n c).ownBlock) (o : Nat) : w5.cell? ⟨g, o, none⟩ = W.cell? ⟨g, o, none⟩ ∧ w5.frozen? ⟨g, o, none⟩ = false := by
  have hlt := h.lt
  obtain ⟨a1, a2, a3⟩ := h.apart
  obtain ⟨vb, vf, hgb, ob, of, hvb, hvf⟩ := h
  rw [hr] at hg
  have hb : w5.heap[g]? = W.heap[g]? := hg.block g hlt (fun e => a1 e.symm)
  exact ⟨World.cell?_of_block (a := ⟨g, o, none⟩) hb, by rw [World.frozen?_of_block (a := ⟨g, o, none⟩) hb]; simp [World.frozen?, hgb]⟩

/-- behind an append to the bytes. -/
theorem bytes_post {W w5 : World} {g n c : Nat} {rb rf : Option Nat} {S s : ByteArray} {F : List Int} {A : Option Addr} {v' : Value} (h : Buf W g rb rf S F) (hr : (Value.slice A n c).ownBlock = rb)
    (hg : W.grownBy w5 (Value.slice A n c).ownBlock) (hown : w5.ownsRow 0 5 1 v' (S.size + s.size) (strCells S ++ strCells s))
    (hat : v'.ownBlock = (Value.slice A n c).ownBlock ∨ v'.ownBlock = some W.heap.size) :
    Buf (w5.setCell ⟨g, 0, none⟩ v') g v'.ownBlock rf (S ++ s) F ∧ Fr W (foot g rb rf) (w5.setCell ⟨g, 0, none⟩ v') (foot g v'.ownBlock rf) := by
  have hlt := h.lt
  obtain ⟨a1, a2, a3⟩ := h.apart
  obtain ⟨vb, vf, hgb, ob, of, hvb, hvf⟩ := h
  rw [hr] at hg hat
  have hsz : W.heap.size ≤ w5.heap.size := hg.size
  have hne : v'.ownBlock ≠ some g := by
    rcases hat with e | e
    · rw [e]; exact a1
    · rw [e]; intro e2; cases e2; omega
  have hgw : w5.heap[g]? = some (.cells #[vb, vf] 163 (0, 0)) := (hg.block g hlt (fun e => a1 e.symm)).trans hgb
  have hset : (w5.setCell ⟨g, 0, none⟩ v').heap[g]? = some (.cells #[v', vf] 163 (0, 0)) := by
    rw [heap_setCell_same _ _ _ _ _ _ hgw]
    rfl
  refine ⟨⟨_, vf, hset, ?_, ?_, rfl, hvf⟩, ?_⟩
  · rw [ByteArray.size_append, strCells_append]
    exact own_setCell hown (fun e => hne e) _
  · refine own_setCell ?_ (fun e => a2 (hvf.symm.trans e)) _
    rcases of.2 with ⟨h1, h2⟩ | ⟨q', cap', cur, h1, h2, h3, rest⟩
    · exact ⟨of.1, .inl ⟨h1, h2⟩⟩
    · refine ⟨of.1, .inr ⟨q', cap', cur, h1, h2, ?_, rest⟩⟩
      have hq' : rf = some q' := by rw [← hvf, h1]; rfl
      rw [hg.block q' (Array.getElem?_eq_some_iff.1 h3).1 (fun e => a3 q' e.symm hq')]
      exact h3
  · refine ⟨hg.os, hg.tape, hg.output, ?_, fun b hb hn => ?_, fun b hb => ?_⟩
    · rw [World.size_setCell]; omega
    · rw [Below.heap_setCell _ _ _ _ (fun e => hn (.inl e))]
      exact hg.block b hb (fun e => hn (.inr (.inl e.symm)))
    · rcases hb with e | e | e
      · exact .inl (.inl e)
      · rcases hat with e2 | e2
        · exact .inl (.inr (.inl (e2.symm.trans e)))
        · rw [e2] at e; cases e; exact .inr (Nat.le_refl _)
      · exact .inl (.inr (.inr e))

theorem u8_info : (Try.prog.info? 5).map (fun i => (i.zero, i.size, i.bytes)) = some (some (.int .u8 0), 1, 1) := by kernel_rfl
theorem int_info : (Try.prog.info? 3).map (fun i => (i.zero, i.size, i.bytes)) = some (some (.int .i64 0), 1, 8) := by kernel_rfl

theorem add_nil (s : ByteArray) (w : World) : Calls Try.prog 86 #[.pointer none, .string s] w fun e w' => e = .returned (.int .i64 (-1)) ∧ w = w' := by
  go_enter Try.func86, Try.ntmps86
  go_wp2
  go_ret
  exact ⟨rfl, rfl⟩

theorem lfs_take (n : Nat) (l : List UInt8) (k : Nat) (hk : k < l.length) : lfs n (l.take (k + 1)) = lfs n (l.take k) ++ (if l.getD k 0 = 10 then [((n + k : Nat) : Int)] else []) := by
  rw [List.take_add_one, List.getElem?_eq_getElem hk, Option.toList_some, lfs_append]
  have e : (l.take k).length = k := by simp; omega
  rw [e]
  simp only [lfs, List.getD, List.getElem?_eq_getElem hk, Option.getD_some]
theorem byte_ten (c : UInt8) : c = 10 ↔ ((c.toNat : Nat) : Int) = 10 := by
  constructor
  · rintro rfl; rfl
  · intro h
    have h2 : c.toNat = (10 : UInt8).toNat := by have : (10 : UInt8).toNat = 10 := rfl; omega
    exact UInt8.toNat_inj.1 h2

theorem lfs_length : ∀ (n : Nat) (l : List UInt8), (lfs n l).length ≤ l.length
  | n, [] => by simp [lfs]
  | n, c :: l => by
    have := lfs_length (n + 1) l
    by_cases h : c = 10 <;> simp [lfs, h] <;> omega

set_option maxRecDepth 100000 in
set_option maxHeartbeats 2000000 in
theorem add_any (g : Nat) (rb rf : Option Nat) (S s : ByteArray) (w : World) (h : BufS w g rb rf S) (hS : S.size + s.size ≤ 1000000) :
    Calls Try.prog 86 #[.pointer (some ⟨g, 0, none⟩), .string s] w fun e w' => ∃ rb' rf', e = .returned (.int .i64 S.size) ∧ BufS w' g rb' rf' (S ++ s) ∧ Fr w (foot g rb rf) w' (foot g rb' rf') := by
  obtain ⟨i8, hi8, hy0, hy1, hy2⟩ := info_parts u8_info
  obtain ⟨ii, hii, hj0, hj1, hj2⟩ := info_parts int_info
  have H := Lib.hid h
  obtain ⟨A, c, A', c', h1, h2, hc, hc', _, _, _, _⟩ := Buf.open_ h
  have hlt := Buf.lt h
  clear h
  have hconv := run_bytes_of_string (P := Try.prog) w 9 82 5 s Try.underlying9 Try.underlying82 Try.underlying5
  go_enter Try.func86, Try.ntmps86
  go_wp2_with fail
  have hcell : ∀ j, j < s.size → ((w.alloc (.cells (bytesRow s (grownCap w s.size 0 5)) 5 ((bytesRow s (grownCap w s.size 0 5)).size, (bytesRow s (grownCap w s.size 0 5)).size + 1))).drew).cell? ⟨w.heap.size, j, none⟩ = some (.int .u8 (s.data.toList.getD j 0).toNat) := fun j hj => by
    have h0 := cell_of_row _ w.heap.size j _ _ _ (heap_alloc_new w (.cells (bytesRow s (grownCap w s.size 0 5)) 5 ((bytesRow s (grownCap w s.size 0 5)).size, (bytesRow s (grownCap w s.size 0 5)).size + 1)))
    refine (show _ = _ from h0).trans ?_
    have hj' : j < s.data.size := hj
    have hj2 : j < s.data.toList.length := hj
    simp [bytesRow, Array.getElem?_append, hj, hj', List.getD]
  have hB1 : Below w.heap.size w ((w.alloc (.cells (bytesRow s (grownCap w s.size 0 5)) 5 ((bytesRow s (grownCap w s.size 0 5)).size, (bytesRow s (grownCap w s.size 0 5)).size + 1))).drew) := by (repeat (first | exact Below.refl _ _ | assumption | (refine Below.setCell ?_ (by first | (simp; done) | (simp; omega) | omega) _) | (refine Below.alloc ?_ (by first | (simp; done) | (simp; omega) | omega) _) | (refine Below.drew ?_) | (refine Below.drewN ?_ _) | (refine Below.trans ?_ (Below.mono (by assumption) (by first | (simp; done) | (simp; omega) | omega)))))
  have hz1 : w.heap.size < ((w.alloc (.cells (bytesRow s (grownCap w s.size 0 5)) 5 ((bytesRow s (grownCap w s.size 0 5)).size, (bytesRow s (grownCap w s.size 0 5)).size + 1))).drew).heap.size := by simp
  generalize (w.alloc (.cells (bytesRow s (grownCap w s.size 0 5)) 5 ((bytesRow s (grownCap w s.size 0 5)).size, (bytesRow s (grownCap w s.size 0 5)).size + 1))).drew = W1 at hcell hB1 hz1 ⊢
  generalize grownCap w s.size 0 5 = gc
  have H1 := Lib.hid (And.intro (Buf.below H.out hB1) (And.intro hcell hB1))
  have hno : ¬ foot g rb rf w.heap.size := fun hf => by have := Buf.lt_foot H.out hf; omega
  clear hcell hB1 hconv h1 h2 hc hc'
  go_loopw [18] (fun i wr => ∃ (k : Nat) (rf' : Option Nat), k ≤ s.size ∧ i = .int .i64 k ∧ Buf wr g rb rf' S (lfs 0 S.data.toList ++ lfs S.size (s.data.toList.take k)) ∧ Fr W1 (foot g rb rf) wr (foot g rb rf')) (fun i _ => s.size - (intOf i).toNat)
  case atStart => exact ⟨0, rf, by omega, rfl, by simpa [lfs] using H1.out.1, Fr.refl _ _⟩
  case round =>
    obtain ⟨k, rf', hk, rfl, hb, hf⟩ := hrel
    have H2 := Lib.hid (And.intro hb hf)
    have hg2 := hb.lt
    clear hb hf
    by_cases hks : k < s.size
    · have f1 : wr.cell? ⟨w.heap.size, k, none⟩ = some (.int .u8 (s.data.toList.getD k 0).toNat) := (H2.out.2.cell hz1 hno k).trans (H1.out.2.1 k hks)
      have hlt2 : w.heap.size < wr.heap.size := H2.out.2.lt hz1
      have hlt2 := lfs_take S.size s.data.toList k hks
      have HL := Lib.hid hlt2
      have hten := byte_ten (s.data.toList.getD k 0)
      have HT := Lib.hid hten
      have hk0 : (0 : Int) ≤ k := by omega
      have hk1 : (k : Int) < s.size := by omega
      generalize s.data.toList.getD k 0 = ch at f1 HL HT
      clear hlt2 hten
      by_cases h10 : ((ch.toNat : Nat) : Int) = 10
      · obtain ⟨A1, c1, A2, c2, g1, g2, hc1, hc2, ho1, ho2, hr1, hr2⟩ := H2.out.1.open_
        have HO := Lib.hid (And.intro ho2 hr2)
        have hw : IntKind.i64.wrap ((S.size : Int) + k) = S.size + k := IntWalk.i64_in _ (by omega)
        have hFl : (lfs 0 S.data.toList ++ lfs S.size (s.data.toList.take k)).length ≤ 1000000 := by
          have a1 := lfs_length 0 S.data.toList
          have a2 := lfs_length S.size (s.data.toList.take k)
          have a3 : S.data.toList.length = S.size := rfl
          rw [List.length_append]
          simp only [List.length_take] at a2
          omega
        have e10 := HL.out
        rw [if_pos (HT.out.2 h10)] at e10
        have HE := Lib.hid e10
        generalize hF : lfs 0 S.data.toList ++ lfs S.size (s.data.toList.take k) = F at hFl g2 hc2 ho2 hr2 H2 HO
        have HF := Lib.hid hF
        clear e10 hF ho1 ho2 hr1 hr2 hc1 hc2 HL HT
        go_wp2_with (at_builtin; refine wpList_append_lies _ rfl _ _ 58 rfl 0 3 ii (.int .i64 0) 1 8 Try.underlying58 hii hj0 hj1 hj2 rfl (by decide) _ _ _ rfl (HO.out.1.alloc _) ⟨wr.heap.size, 0, none⟩ 1 1 [.int .i64 ((S.size : Int) + k)] rfl rfl ?c1 ?c2 (by omega) ?c3 ?c4 ?c5 _ rfl ?_)
        case c1 => exact World.news_of_block (fr := (0, 0)) (heap_alloc_new wr _)
        case c2 => intro u hu; simp at hu; rcases hu with rfl; rfl
        case c3 => unfold maxLen; omega
        case c4 => omega
        case c5 => omega
        intro q2 cap2 w5 hown5 hgrow hat hlt5
        obtain ⟨hcel, hfz⟩ := feed_pre H2.out.1 HO.out.2 hgrow 1
        have hcel := hcel.trans g2
        obtain ⟨hbf, hff⟩ := feed_post H2.out.1 HO.out.2 hgrow hown5 hat
        have H5 := Lib.hid (And.intro hbf (H2.out.2.trans hff))
        clear hbf hff hown5 hgrow hat f1
        go_wp2
        go_roundw
        case rel =>
          refine ⟨k + 1, some q2, by omega, by go_num, ?_, ?_⟩
          · rw [HE.out, ← List.append_assoc, HF.out]
            simpa using H5.out.1
          · simpa using H5.out.2
        case measure => simp [intOf]; omega
      · go_wp2
        go_roundw
        case rel =>
          refine ⟨k + 1, rf', by omega, by go_num, ?_, H2.out.2⟩
          have e10 := HL.out
          rw [if_neg (fun e => h10 (HT.out.1 e)), List.append_nil] at e10
          rw [e10]
          exact H2.out.1
        case measure => simp [intOf]; omega
    · obtain rfl : k = s.size := by omega
      obtain ⟨A1, c1, A2, c2, g1, g2, hc1, hc2, ho1, ho2, hr1, hr2⟩ := H2.out.1.open_
      have HO := Lib.hid (And.intro ho1 hr1)
      clear ho1 ho2 hr1 hr2 hc1 hc2
      go_wp2_with (at_builtin; refine wpList_append_own_string_at _ rfl _ _ 82 9 rfl 0 5 i8 Try.underlying82 Try.underlying9 hi8 hy0 hy1 hy2 _ _ _ rfl HO.out.1 s rfl ?c3 ?c4 ?c5 ?_)
      case c3 => unfold maxLen; omega
      case c4 => omega
      case c5 => omega
      intro v5 w5 hown5 hgrow hat
      obtain ⟨A5, c5, rfl, _, _⟩ := SlAt.of_own hown5
      obtain ⟨hcel, hfz⟩ := bytes_pre H2.out.1 HO.out.2 hgrow 0
      have hcel := hcel.trans g1
      obtain ⟨hbf, hff⟩ := bytes_post H2.out.1 HO.out.2 hgrow hown5 hat
      have H5 := Lib.hid (And.intro hbf (H2.out.2.trans hff))
      clear hbf hff hown5 hgrow hat
      go_wp2
      go_ret
      refine ⟨_, _, rfl, ?_, (Fr.of_below H1.out.2.2).trans H5.out.2⟩
      have e : lfs 0 (S ++ s).data.toList = lfs 0 S.data.toList ++ lfs S.size (s.data.toList.take s.size) := by
        have e2 : s.data.toList.take s.size = s.data.toList := List.take_of_length_le (Nat.le_refl s.data.toList.length)
        rw [ByteArray.data_append, Array.toList_append, lfs_append, Nat.zero_add, e2]
        rfl
      unfold BufS
      rw [e]
      exact H5.out.1
end Go.Proofs.Ytkcocdpmangcgaa.Buf
