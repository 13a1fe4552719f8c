
/- Put. -/
import Derived.Test.YtohjhbhbpflokaaClkF
namespace Go.Proofs.Ytohjhbhbpflokaa.Ck
set_option linter.unusedSimpArgs false
set_option linter.unusedVariables false
open Go Go.RowKit Go.WideElems Go.MapKept Go.ChangeMaps Go.ChangeShapes Go.WideShapes
set_option linter.unusedVariables false
attribute [local go_sem] lt_add1 lt_self1 size_ne size_ne' size_ne1 size_ne1'
theorem put_nil (k : Int) (v : ByteArray) (w : World) : Calls Try.prog 8 #[.pointer none, .int .i64 k, .string v] w fun e w' => (∃ u, e = .returned u) ∧ Below w.heap.size w w' := by
  go_enter Try.func8, Try.ntmps8
  go_wp2_with fail
  exact bodyPost_ret (v := .tuple #[]) (by simp [results, Try.results8, go_sem]) rfl ⟨⟨_, rfl⟩, Below.refl _ _⟩
/-- an entry's cells are stored. -/
def setE (w : World) (g i : Nat) (e : CE) : World := ((w.setCell ⟨g, i * 3, none⟩ (.int .i64 e.key)).setCell ⟨g, i * 3 + 1, none⟩ (.string e.val)).setCell ⟨g, i * 3 + 2, none⟩ (.bool e.used)
theorem setE_fr (w : World) (g i : Nat) (e : CE) : Fr w (fun b => b = g) (setE w g i e) (fun b => b = g) := ((fr_cell (F := fun b => b = g) rfl).trans (fr_cell (F := fun b => b = g) rfl)).trans (fr_cell (F := fun b => b = g) rfl)
theorem flat_setE : ∀ {r : List CE} {i : Nat} (e : CE), i < r.length → (((r.flatMap ec).set (i * 3) (.int .i64 e.key)).set (i * 3 + 1) (.string e.val)).set (i * 3 + 2) (.bool e.used) = (r.set i e).flatMap ec
  | [], _, _, h => by simp at h
  | x :: r, 0, e, h => by simp [ec]
  | x :: r, i + 1, e, h => by
    have ih := flat_setE (r := r) (i := i) e (by simpa using h)
    rw [List.set_cons_succ, List.flatMap_cons, List.flatMap_cons, ← ih, show (i + 1) * 3 = (ec x).length + (i * 3) by rw [ec_length]; omega, List.set_append, if_neg (by omega), Nat.add_sub_cancel_left, Nat.add_assoc, List.set_append, if_neg (by omega), Nat.add_sub_cancel_left, Nat.add_assoc, List.set_append, if_neg (by omega), Nat.add_sub_cancel_left]
theorem own_setE {w : World} {g cap i : Nat} {r : List CE} (h : w.ownsRow 0 55 3 (.slice (some ⟨g, 0, none⟩) r.length cap) r.length (r.flatMap ec)) (hi : i < r.length) (e : CE) :
    (setE w g i e).ownsRow 0 55 3 (.slice (some ⟨g, 0, none⟩) (r.set i e).length cap) (r.set i e).length ((r.set i e).flatMap ec) := by
  rw [List.length_set, ← flat_setE e hi]
  exact own_set (own_set (own_set h (show i * 3 < r.length * 3 by omega) _) (show i * 3 + 1 < r.length * 3 by omega) _) (show i * 3 + 2 < r.length * 3 by omega) _
/-- what a walk reads of a clock. -/
structure CkRaw (c m g cp : Nat) (w : World) (F : Nat → Prop) (s : CS) (n : Nat) : Prop where
  foot : ∀ b, F b ↔ (b = c ∨ b = m ∨ b = g)
  cm : c ≠ m
  gc : g ≠ c
  gm : g ≠ m
  blk : CkBlk w c m (.slice (some ⟨g, 0, none⟩) s.row.length cp) s.hand s.most
  own : w.ownsRow 0 55 3 (.slice (some ⟨g, 0, none⟩) s.row.length cp) s.row.length (s.row.flatMap ec)
  map : MapI w m n (kF (Ck.keys s.row))
  good : Good s n
theorem CkRaw.at_ {c m g cp n : Nat} {w : World} {F : Nat → Prop} {s : CS} (h : CkRaw c m g cp w F s n) : CkAt c w F (s, n) :=
  ⟨.slice (some ⟨g, 0, none⟩) s.row.length cp, m, fun b => by rw [h.foot b]; simp [Value.ownBlock, eq_comm], h.cm, by simpa [Value.ownBlock] using h.gc, by simpa [Value.ownBlock] using h.gm, h.blk, h.own, h.map, h.good⟩
theorem CkAt.raw {c n : Nat} {w : World} {F : Nat → Prop} {s : CS} (h : CkAt c w F (s, n)) (hp : 0 < s.row.length) : ∃ m g cp, CkRaw c m g cp w F s n := by
  obtain ⟨v, m, h1, h2, h3, h4, h5, h6, h7, h8⟩ := h
  obtain ⟨g, cp, rfl, _, _⟩ := h6.form hp
  exact ⟨m, g, cp, fun b => by rw [h1 b]; simp [Value.ownBlock, eq_comm], h2, fun e => h3 (by simp [Value.ownBlock, e]), fun e => h4 (by simp [Value.ownBlock, e]), h5, h6, h7, h8⟩
/-- an entry stands for one of its key. -/
theorem CkRaw.setE {c m g cp n i : Nat} {w : World} {F : Nat → Prop} {s : CS} (h : CkRaw c m g cp w F s n) {e : CE} (e' : CE) (he : s.row[i]? = some e) (hk : e'.key = e.key) : CkRaw c m g cp (Ck.setE w g i e') F { s with row := s.row.set i e' } n := by
  have hi := (List.getElem?_eq_some_iff.1 he).1
  have hks := keys_set (e' := e') he hk
  have hf := setE_fr w g i e'
  refine ⟨h.foot, h.cm, h.gc, h.gm, ?_, own_setE h.own hi e', by simp only [hks]; exact h.map.fr hf (fun e => h.gm e.symm), ⟨⟨?_, ?_, ?_⟩, ?_, h.good.small, ?_, h.good.most⟩⟩
  · have := hf.block h.blk (fun e => h.gc e.symm)
    simp only [List.length_set]
    exact this
  · rw [hks]; exact h.good.ok.nodup
  · rcases h.good.ok.hand with a | ⟨a, a2⟩
    · exact Or.inl (by simpa using a)
    · rw [a2] at hi; simp at hi
  · simpa using h.good.ok.most
  · simpa using h.good.le
  · rw [hks]; exact h.good.keys
theorem CkRaw.cells {c m g cp n : Nat} {w : World} {F : Nat → Prop} {s : CS} (h : CkRaw c m g cp w F s n) :
    w.cell? ⟨c, 0, none⟩ = some (.slice (some ⟨g, 0, none⟩) s.row.length cp) ∧ w.cell? ⟨c, 1, none⟩ = some (.map (some m)) ∧ w.cell? ⟨c, 2, none⟩ = some (.int .i64 s.hand) ∧ w.cell? ⟨c, 3, none⟩ = some (.int .i64 s.most) ∧ c < w.heap.size ∧ g < w.heap.size ∧
      (∀ o, w.frozen? ⟨c, o, none⟩ = false) ∧ (∀ o, w.frozen? ⟨g, o, none⟩ = false) := by
  have hb := h.blk
  unfold CkBlk at hb
  have c0 := cell_of_row w c 0 _ _ (0, 0) hb
  have c1 := cell_of_row w c 1 _ _ (0, 0) hb
  have c2 := cell_of_row w c 2 _ _ (0, 0) hb
  have c3 := cell_of_row w c 3 _ _ (0, 0) hb
  simp only [List.getElem?_toArray, List.getElem?_cons_zero, List.getElem?_cons_succ] at c0 c1 c2 c3
  refine ⟨c0, c1, c2, c3, (Array.getElem?_eq_some_iff.1 hb).1, (h.own.lt g rfl).2, fun o => by simp [World.frozen?, hb], fun o => ?_⟩
  rcases h.own.2 with ⟨e1, _⟩ | ⟨g', cap', cur, e1, e2, e3, _⟩
  · simp at e1
  · obtain ⟨rfl, rfl⟩ : g = g' ∧ cp = cap' := by simpa using e1
    simp [World.frozen?, e3]
theorem CkRaw.below {c m g cp n : Nat} {w w' : World} {F : Nat → Prop} {s : CS} (h : CkRaw c m g cp w F s n) (hb : Below w.heap.size w w') : CkRaw c m g cp w' F s n :=
  ⟨h.foot, h.cm, h.gc, h.gm, (hb.block c (Array.getElem?_eq_some_iff.1 h.blk).1).trans h.blk, own_below h.own hb, h.map.below hb, h.good⟩
/-- where none may be. -/
theorem put_zero (c : Nat) (s : CS) (n : Nat) (k : Int) (v : ByteArray) (hm : s.most = 0) : Does Try.prog (resCk c) 8 #[.pointer (some ⟨c, 0, none⟩), .int .i64 k, .string v] (s, n)
    (fun _ s' => s' = (putS s k v, n)) := by
  rintro w F h
  have hc := resCk_of h
  obtain ⟨va, m, h1, h2, h3, h4, h5, h6, h7, h8⟩ := id hc
  have c3 := cell_of_row w c 3 _ _ (0, 0) h5
  have hlt := (Array.getElem?_eq_some_iff.1 h5).1
  simp only [List.getElem?_toArray, List.getElem?_cons_zero, List.getElem?_cons_succ] at c3
  have HC := Lib.hid hc
  rw [put_none hm]
  have hm' : ((s.most : Nat) : Int) = 0 := by omega
  rw [hm'] at c3
  clear h hc h1 h2 h3 h4 h5 h6 h7 h8
  go_enter Try.func8, Try.ntmps8
  go_wp2_with fail
  exact bodyPost_ret (v := .tuple #[]) (by simp [results, Try.results8, go_sem]) rfl ⟨_, _, F, rfl, rfl, HC.out, Fr.refl _ _⟩
set_option maxHeartbeats 4000000 in
set_option maxRecDepth 100000 in
/-- of a key that is there. -/
theorem put_old (c : Nat) (s : CS) (n : Nat) (k : Int) (v : ByteArray) (hk : i64ok k) (hm : ¬ s.most = 0) (i : Nat) (hx : kx (keys s.row) k = some i) : Does Try.prog (resCk c) 8 #[.pointer (some ⟨c, 0, none⟩), .int .i64 k, .string v] (s, n)
    (fun _ s' => s' = (putS s k v, n)) := by
  rintro w F h
  have hi : i < s.row.length := by simpa [keys] using kx_lt hx
  have hkf : kF (keys s.row) k = some (i : Int) := by unfold kF; rw [hx]; rfl
  obtain ⟨e, he⟩ : ∃ e, s.row[i]? = some e := ⟨_, List.getElem?_eq_getElem hi⟩
  have hek : e.key = k := by simpa [keys, he] using kx_some hx
  obtain ⟨m, g, cp, hr⟩ := (resCk_of h).raw (by omega)
  have hm' : (((s.most : Nat) : Int) == 0) = false := by simpa using hm
  have hps : putS s k v = { s with row := s.row.set i ⟨k, v, true⟩ } := by
    unfold putS
    rw [if_neg hm, hx]
  rw [hps]
  have hsm : s.row.length ≤ 1000 := Nat.le_trans hr.good.le hr.good.small
  have HR := Lib.hid hr
  obtain ⟨c0, c1, c2, c3, hlt, hgl, hfc, hfg⟩ := hr.cells
  clear h hr hps hfc hfg c0 c2
  go_enter Try.func8, Try.ntmps8
  go_upto_region 2 with fail
  have hb1 : Below w.heap.size w (w.alloc (.cells #[.int .i64 k, .string v, .bool true] 55)) := (Below.refl _ _).alloc (Nat.le_refl _) _
  have x0 := heap_alloc_new w (.cells #[.int .i64 k, .string v, .bool true] 55)
  have HW := Lib.hid (And.intro (HR.out.below hb1) (And.intro (Fr.of_below hb1 : Fr w F _ F) (show ¬ F w.heap.size from fun h => Nat.lt_irrefl _ ((resCk c).lt HR.out.at_ _ h))))
  clear hb1 c1 c3 hlt hgl HR
  generalize w.alloc (.cells #[.int .i64 k, .string v, .bool true] 55) = W at x0 HW ⊢
  generalize w.heap.size = bx at x0 HW ⊢
  have y0 := cell_of_row W bx 0 _ _ (0, 0) x0
  have y1 := cell_of_row W bx 1 _ _ (0, 0) x0
  have y2 := cell_of_row W bx 2 _ _ (0, 0) x0
  simp only [List.getElem?_toArray, List.getElem?_cons_zero, List.getElem?_cons_succ] at y0 y1 y2
  have xlt := (Array.getElem?_eq_some_iff.1 x0).1
  obtain ⟨c0, c1, c2, c3, hlt, hgl, hfc, hfg⟩ := HW.out.1.cells
  have hlk := HW.out.1.map.look_ok hk
  rw [hkf] at hlk
  simp only [Option.getD_some, Option.isSome_some] at hlk
  clear x0 hfc
  go_upto_region 4 with fail
  have hgc : ¬ g = c := HW.out.1.gc
  obtain ⟨d0, d1, d2, _⟩ := row_cells HW.out.1.own he
  go_region
  go_wp2_with fail
  have hfin : CkAt c (Ck.setE W g i ⟨k, v, true⟩).drew F ({ s with row := s.row.set i ⟨k, v, true⟩ }, n) := ((HW.out.1.setE ⟨k, v, true⟩ he hek.symm).below ((Below.refl _ _).drew)).at_
  have hfr : Fr w F (Ck.setE W g i ⟨k, v, true⟩).drew F := HW.out.2.1.trans (((setE_fr W g i ⟨k, v, true⟩).weaken (fun b hb => (HW.out.1.foot b).2 (.inr (.inr hb))) (fun b hb => .inr hb)).trans (Fr.of_below ((Below.refl _ _).drew)))
  exact bodyPost_ret (v := .tuple #[]) (by simp [results, Try.results8, go_sem]) rfl ⟨_, _, F, rfl, rfl, hfin, hfr⟩
theorem room_end {c m n cp q2 cap : Nat} {k : Int} {v : ByteArray} {s : CS} {w W W3 w1 : World} {F : Nat → Prop} {A : Option Addr} {O : Obj} (hk : i64ok k) (hn : n + 1 ≤ 1000) (hx : kx (keys s.row) k = none)
    (h1 : ∀ b, F b ↔ (b = c ∨ b = m ∨ (Value.slice A s.row.length cp).ownBlock = some b)) (h2 : c ≠ m) (h3 : (Value.slice A s.row.length cp).ownBlock ≠ some c) (h4 : (Value.slice A s.row.length cp).ownBlock ≠ some m)
    (h5 : W.heap[c]? = some (.cells #[.slice A s.row.length cp, .map (some m), .int .i64 s.hand, .int .i64 s.most] 53 (0, 0))) (hmlt : m < w.heap.size) (hclt : c < w.heap.size) (h8 : Good s n) (hok : CS.Ok { s with row := s.row ++ [⟨k, v, true⟩] })
    (hB : Below w.heap.size w W) (hF3 : Fr W (fun b => b = m) W3 (fun b => b = m)) (hM : MapI W3 m (n + 1) (putF (kF (keys s.row)) k s.row.length))
    (hgrow : (W3.alloc O).drew.grownBy w1 (Value.slice A s.row.length cp).ownBlock) (hat : (Value.slice A s.row.length cp).ownBlock = some q2 ∨ q2 = W3.heap.size + 1)
    (hown : w1.ownsRow 0 55 3 (.slice (some ⟨q2, 0, none⟩) (s.row.length + 1) cap) (s.row.length + 1) (s.row.flatMap ec ++ ec ⟨k, v, true⟩)) :
    ∃ F', CkAt c (w1.setCell ⟨c, 0, none⟩ (.slice (some ⟨q2, 0, none⟩) (s.row.length + 1) cap)) F' ({ s with row := s.row ++ [⟨k, v, true⟩] }, n + 1) ∧ Fr w F (w1.setCell ⟨c, 0, none⟩ (.slice (some ⟨q2, 0, none⟩) (s.row.length + 1) cap)) F' := by
  have hg : (W3.alloc O).grownBy w1 (Value.slice A s.row.length cp).ownBlock := ⟨hgrow.os, hgrow.tape, hgrow.output, hgrow.size, hgrow.block⟩
  have hp := push_fr hg hat
  have hsz : w.heap.size ≤ W3.heap.size := Nat.le_trans hB.size hF3.size
  have hqc : q2 ≠ c := fun e => by
    subst e
    rcases hat with e | e
    · exact h3 e
    · omega
  have hqm : q2 ≠ m := fun e => by
    subst e
    rcases hat with e | e
    · exact h4 e
    · omega
  have hc1 := hp.block (hF3.block h5 h2) h3
  have hm1 := hM.fr hp h4
  have hfc : Fr w1 (fun b => b = c) (w1.setCell ⟨c, 0, none⟩ (.slice (some ⟨q2, 0, none⟩) (s.row.length + 1) cap)) (fun b => b = c) := fr_cell rfl
  refine ⟨fun b => b = c ∨ b = m ∨ b = q2, ⟨.slice (some ⟨q2, 0, none⟩) (s.row.length + 1) cap, m, fun b => by simp [Value.ownBlock, eq_comm], h2, by simpa [Value.ownBlock] using hqc, by simpa [Value.ownBlock] using hqm, ?_, ?_, ?_, ⟨hok, ?_, hn, ?_, h8.most⟩⟩, ?_⟩
  · have := heap_setCell_same w1 c 0 _ _ (.slice (some ⟨q2, 0, none⟩) (s.row.length + 1) cap) hc1
    rw [this]
    rfl
  · have := hfc.own hown (fun b hb e => hqc (by simp [Value.ownBlock] at hb; omega))
    simpa using this
  · have e : kF (keys (s.row ++ [⟨k, v, true⟩])) = putF (kF (keys s.row)) k s.row.length := by
      have : keys (s.row ++ [⟨k, v, true⟩]) = keys s.row ++ [k] := by simp [keys]
      rw [this, kF_append (kx_none.1 hx)]
      funext j
      simp [putF, keys]
    rw [e]
    exact hm1.fr hfc (fun e => h2 e.symm)
  · have := h8.le
    simp
    omega
  · intro j hj
    have : j ∈ keys s.row ∨ j = k := by simpa [keys] using hj
    rcases this with e | e
    · exact h8.keys j e
    · rw [e]; exact hk
  · have a1 : Fr w F W3 (fun b => F b) := (Fr.of_below hB : Fr w F W F).trans (hF3.weaken (fun b hb => (h1 b).2 (.inr (.inl hb))) (fun b hb => .inr hb))
    have a2 : Fr W3 F w1 (fun b => b = c ∨ b = m ∨ b = q2) := hp.weaken (fun b hb => (h1 b).2 (.inr (.inr hb))) (fun b hb => by
      rcases hb with e | e | e
      · exact .inr ((h1 b).2 (.inl e))
      · exact .inr ((h1 b).2 (.inr (.inl e)))
      · exact .inl e)
    exact (a1.trans a2).trans (fr_cell (.inl rfl))
set_option maxHeartbeats 4000000 in
set_option maxRecDepth 100000 in
/-- of a new key, where there is room. -/
theorem put_room (c : Nat) (s : CS) (n : Nat) (k : Int) (v : ByteArray) (hk : i64ok k) (hn : n + 1 ≤ 1000) (hx : kx (keys s.row) k = none) (hrm : s.row.length < s.most) : Does Try.prog (resCk c) 8 #[.pointer (some ⟨c, 0, none⟩), .int .i64 k, .string v] (s, n)
    (fun _ s' => s' = (putS s k v, n + 1)) := by
  rintro w F h
  have hkf : kF (keys s.row) k = none := by unfold kF; rw [hx]; rfl
  have hc := resCk_of h
  obtain ⟨va, m, h1, h2, h3, h4, h5, h6, h7, h8⟩ := id hc
  obtain ⟨A, cp, rfl, _, _⟩ := SlAt.of_own h6
  have c3 := cell_of_row w c 3 _ _ (0, 0) h5
  have hlt := (Array.getElem?_eq_some_iff.1 h5).1
  simp only [List.getElem?_toArray, List.getElem?_cons_zero, List.getElem?_cons_succ] at c3
  have hsm : s.row.length ≤ 1000 := Nat.le_trans h8.le h8.small
  have hm : ¬ s.most = 0 := by omega
  have hm' : (((s.most : Nat) : Int) == 0) = false := by simpa using hm
  have hps : putS s k v = { s with row := s.row ++ [⟨k, v, true⟩] } := by
    unfold putS
    rw [if_neg hm, hx]
    simp only
    rw [if_pos hrm]
  rw [hps]
  have hokp := putS_ok h8.ok k v
  rw [hps] at hokp
  have HR := Lib.hid (And.intro h1 (And.intro h2 (And.intro h3 (And.intro h4 (And.intro h5 (And.intro h6 (And.intro h7 (And.intro h8 hokp))))))))
  have HC := Lib.hid hc
  clear h hc hps h1 h2 h3 h4 h5 h6 h7 h8 hokp
  go_enter Try.func8, Try.ntmps8
  go_upto_region 2 with fail
  have hb1 : Below w.heap.size w (w.alloc (.cells #[.int .i64 k, .string v, .bool true] 55)) := (Below.refl _ _).alloc (Nat.le_refl _) _
  have x0 := heap_alloc_new w (.cells #[.int .i64 k, .string v, .bool true] 55)
  have HB := Lib.hid hb1
  clear hb1 c3 hlt
  generalize w.alloc (.cells #[.int .i64 k, .string v, .bool true] 55) = W at x0 HB ⊢
  obtain ⟨bx, hbx⟩ : ∃ bx, w.heap.size = bx := ⟨_, rfl⟩
  rw [hbx] at x0
  rw [hbx]
  have HBX := Lib.hid hbx
  clear hbx
  have xlt := (Array.getElem?_eq_some_iff.1 x0).1
  have hcW : W.heap[c]? = _ := (HB.out.block c (Array.getElem?_eq_some_iff.1 HR.out.2.2.2.2.1).1).trans HR.out.2.2.2.2.1
  have c0 := cell_of_row W c 0 _ _ (0, 0) hcW
  have c1 := cell_of_row W c 1 _ _ (0, 0) hcW
  have c3 := cell_of_row W c 3 _ _ (0, 0) hcW
  have clt := (Array.getElem?_eq_some_iff.1 hcW).1
  simp only [List.getElem?_toArray, List.getElem?_cons_zero, List.getElem?_cons_succ] at c0 c1 c3
  have hmW := HR.out.2.2.2.2.2.2.1.below HB.out
  have hlk := hmW.look_ok hk
  rw [hkf] at hlk
  simp only [Option.getD_none, Option.isSome_none] at hlk
  have hrm' : (s.row.length : Int) < s.most := by omega
  have hb3 : Below W.heap.size W W.drew.drew := ((Below.refl _ _).drew).drew
  have hl64 : i64ok (s.row.length : Int) := i64ok_of (by omega) (by omega)
  obtain ⟨W3, hput, hM3, hG3⟩ := (hmW.below hb3).put (by omega) hk hl64
  have HX := Lib.hid (And.intro x0 (And.intro hcW (And.intro hM3 (And.intro hb3 hG3))))
  clear x0 hcW hmW hM3 hb3 hG3
  go_upto_region 5 with fail
  go_region
  go_upto_region 6 with fail
  go_region
  have hF3 := (Fr.of_below HX.out.2.2.2.1 : Fr W (fun b => b = m) _ (fun b => b = m)).trans (grown_fr HX.out.2.2.2.2)
  have hmlt : m < w.heap.size := HR.out.2.2.2.2.2.2.1.lt
  have hmne : ¬ bx = m := by have := HBX.out; omega
  have e0 := cell_of_row W3 bx 0 _ _ (0, 0) (hF3.block HX.out.1 hmne)
  have e1 := cell_of_row W3 bx 1 _ _ (0, 0) (hF3.block HX.out.1 hmne)
  have e2 := cell_of_row W3 bx 2 _ _ (0, 0) (hF3.block HX.out.1 hmne)
  have hc3 := hF3.block HX.out.2.1 HR.out.2.1
  have k0 := cell_of_row W3 c 0 _ _ (0, 0) hc3
  have kf : W3.frozen? ⟨c, 0, none⟩ = false := by simp [World.frozen?, hc3]
  have kl := (Array.getElem?_eq_some_iff.1 hc3).1
  have xl3 := hF3.lt xlt
  simp only [List.getElem?_toArray, List.getElem?_cons_zero, List.getElem?_cons_succ] at e0 e1 e2 k0
  have hown3 : W3.ownsRow 0 55 3 (.slice A s.row.length cp) s.row.length (s.row.flatMap ec) := hF3.own (own_below HR.out.2.2.2.2.2.1 HB.out) (fun b hb e => HR.out.2.2.2.1 (e ▸ hb))
  have HOW := Lib.hid hown3
  have HF3 := Lib.hid hF3
  have hne : some c ≠ (Value.slice A s.row.length cp).ownBlock := fun e => HR.out.2.2.1 e.symm
  have HNE := Lib.hid hne
  obtain ⟨i0, hi, hz0, hz1, hz2⟩ := info_parts ent_info
  clear hF3 hmlt hc3 hown3 hne hput hlk c0 c1 c3 clt xlt
  go_upto_region 7 with fail
  go_region_law ((refine step_append_lies _ (by rfl) _ _ _ (by rfl) 0 55 i0 _ 3 32 Try.underlying51 hi hz0 hz1 hz2 rfl (by omega) (.slice A s.row.length cp) s.row.length (s.row.flatMap ec) (by rfl) ((HOW.out.alloc _).drew) ⟨W3.heap.size, 0, none⟩ 1 1 (ec ⟨k, v, true⟩) (by rfl) (by rfl) (World.news_of_block (fr := (0, 0)) (heap_alloc_new W3 _)) (by intro u hu; simp [ec] at hu; rcases hu with rfl | rfl | rfl <;> rfl) (by omega) (by unfold maxLen; omega) (by omega) (by omega) (W3.heap.size + 1) (by simp) ?_; intro q2 cap w1 hown1 hgrow hat hlt2; have hcg : w1.cell? ⟨c, 0, none⟩ = some (.slice A s.row.length cp) := hgrow.cell (a := ⟨c, 0, none⟩) (by simp [go_sem, kl, k0]) HNE.out; have hfg : w1.frozen? ⟨c, 0, none⟩ = false := (World.frozen?_of_block (a := ⟨c, 0, none⟩) (hgrow.block c (by simp; omega) HNE.out)).trans (by simp [go_sem, kl, kf])))
  all_goals
    obtain ⟨F9, hat9, hfr9⟩ := room_end hk hn hx HR.out.1 HR.out.2.1 HR.out.2.2.1 HR.out.2.2.2.1 HX.out.2.1 HR.out.2.2.2.2.2.2.1.lt (Array.getElem?_eq_some_iff.1 HR.out.2.2.2.2.1).1 HR.out.2.2.2.2.2.2.2.1 HR.out.2.2.2.2.2.2.2.2 HB.out HF3.out HX.out.2.2.1 hgrow hat hown1
    have HF := Lib.hid (And.intro hat9 hfr9)
    clear hgrow hown1 hat hcg hfg hat9 hfr9
    go_wp2_with fail
    exact bodyPost_ret (v := .tuple #[]) (by simp [results, Try.results8, go_sem]) rfl (by first | exact ⟨_, _, F9, rfl, rfl, HF.out.1, HF.out.2⟩ | exact ⟨⟨_, rfl⟩, F9, HF.out.1, HF.out.2⟩)
end Go.Proofs.Ytohjhbhbpflokaa.Ck
