
/- One deed on both clocks. -/
import Derived.Test.YtohjhbhbpflokaaClkZ
import Derived.Deep.CutBlock
import Derived.Deep.DeepCutAuto
namespace Go.Proofs.Ytohjhbhbpflokaa.Ck
set_option linter.unusedSimpArgs false
set_option linter.unusedVariables false
open Go Go.RowKit Go.Shelf
set_option linter.unusedVariables false
attribute [local go_sem] lt_add1 lt_self1 size_ne size_ne' size_ne1 size_ne1'
/-- both clocks in memory. -/
structure Two (w0 : World) (c : Nat) (mo : Int) (s : CS) (n : Nat) (r : Value) (w : World) (F : Nat → Prop) : Prop where
  law : Law w0.heap.size w0 c s n w F
  row : OwnE w 0 r s.row
  far : ∀ b, r.ownBlock = some b → ¬ F b
  most : s.most = (max mo 0).toNat
theorem Two.step {w0 w w' : World} {c n n' : Nat} {mo : Int} {s s' : CS} {r : Value} {F F' : Nat → Prop} (h : Two w0 c mo s n r w F) (ha : (resCk c).at_ w' F' (s', n')) (hf : Fr w F w' F') : Law w0.heap.size w0 c s' n' w' F' ∧ OwnE w' 0 r s.row ∧ (∀ b, r.ownBlock = some b → ¬ F' b) :=
  ⟨h.law.step ha hf, hf.own h.row h.far, fun b e => hf.out (World.ownsRow.lt h.row b e).2 (h.far b e)⟩
theorem Two.ref {w0 w w' : World} {c n : Nat} {mo : Int} {s s' : CS} {r r' : Value} {F : Nat → Prop} (h : Law w0.heap.size w0 c s' n w F) (hr : OwnE w 0 r s.row) (hfar : ∀ b, r.ownBlock = some b → ¬ F b) (hm : s'.most = (max mo 0).toNat) (ho : OwnE w' 0 r' s'.row) (hb : Below w.heap.size w w') (hn : ∀ b, r'.ownBlock = some b → r.ownBlock = some b ∨ w.heap.size ≤ b) : Two w0 c mo s' n r' w' F :=
  ⟨h.below hb, ho, fun b e hF => (hn b e).elim (fun e => hfar b e hF) (fun hge => by have := (resCk c).lt h.ck b hF; omega), hm⟩
theorem dropS_most (s : CS) (p : Int → Bool) : (dropS s p).1.most = s.most := rfl
/-- what stands in a deed's walk: the clock in state s', the page's in state s. -/
structure DB (wB : World) (F0 : Nat → Prop) (rB : Value) (w0 : World) (c x : Nat) (mo : Int) (d : CD) (s s' : CS) (n : Nat) (r : Value) (w : World) (F : Nat → Prop) : Prop where
  law : Law w0.heap.size w0 c s' n w F
  row : OwnE w 0 r s.row
  far : ∀ b, r.ownBlock = some b → ¬ F b
  vx : VarAt w x r s.hand mo
  dd : w.heap[x + 1]? = some (.cells #[.int .u8 d.kind, .int .i64 d.key, .string d.text] 28 (0, 0))
  vy : VarAt w (x + 2) (.slice none 0 0) 0 0
  nx : ¬ F x ∧ ¬ F (x + 1) ∧ ¬ F (x + 2)
  rx : r.ownBlock ≠ some x ∧ r.ownBlock ≠ some (x + 1) ∧ r.ownBlock ≠ some (x + 2)
  le : w0.heap.size ≤ x
  xe : wB.heap.size = x
  fr : Fr wB F0 w F
  rn : ∀ b, r.ownBlock = some b → rB.ownBlock = some b ∨ wB.heap.size ≤ b
section
variable {wB w0 w w' : World} {F0 : Nat → Prop} {rB : Value} {c x : Nat} {mo : Int} {d : CD} {s s' s2 : CS} {n n2 : Nat} {r : Value} {F F2 : Nat → Prop}
theorem DB.step (h : DB wB F0 rB w0 c x mo d s s' n r w F) (ha : (resCk c).at_ w' F2 (s2, n2)) (hf : Fr w F w' F2) : DB wB F0 rB w0 c x mo d s s2 n2 r w' F2 := by
  have l0 := h.vx.cells.2.2.2.1
  have l1 := (Array.getElem?_eq_some_iff.1 h.dd).1
  have l2 := h.vy.cells.2.2.2.1
  exact ⟨h.law.step ha hf, hf.own h.row h.far, fun b e => hf.out (World.ownsRow.lt h.row b e).2 (h.far b e), hf.block h.vx h.nx.1, hf.block h.dd h.nx.2.1, hf.block h.vy h.nx.2.2, ⟨hf.out l0 h.nx.1, hf.out l1 h.nx.2.1, hf.out l2 h.nx.2.2⟩, h.rx, h.le, h.xe, h.fr.trans hf, h.rn⟩
theorem DB.step2 {G G2 : Nat → Prop} (h : DB wB F0 rB w0 c x mo d s s' n r w F) (ha : CkAt c w' F2 (s2, n2)) (hf : Fr w (fun b => F b ∨ G b) w' (fun b => F2 b ∨ G2 b)) (hG : ∀ b, G b → x + 3 ≤ b ∧ r.ownBlock ≠ some b) : DB wB F0 rB w0 c x mo d s s2 n2 r w' F2 := by
  have l0 := h.vx.cells.2.2.2.1
  have l1 := (Array.getElem?_eq_some_iff.1 h.dd).1
  have l2 := h.vy.cells.2.2.2.1
  have hle := h.le
  have hz := Nat.le_trans h.law.sz h.law.bel.size
  have hge : ∀ b, (F b ∨ G b) → w0.heap.size ≤ b := fun b hb => hb.elim (h.law.ge b) (fun e => by have := (hG b e).1; omega)
  have n0 : ¬ (F x ∨ G x) := fun e => e.elim h.nx.1 (fun e => by have := (hG _ e).1; omega)
  have n1 : ¬ (F (x + 1) ∨ G (x + 1)) := fun e => e.elim h.nx.2.1 (fun e => by have := (hG _ e).1; omega)
  have n2' : ¬ (F (x + 2) ∨ G (x + 2)) := fun e => e.elim h.nx.2.2 (fun e => by have := (hG _ e).1; omega)
  have nr : ∀ b, r.ownBlock = some b → ¬ (F b ∨ G b) := fun b e hb => hb.elim (h.far b e) (fun g => (hG b g).2 e)
  have hxe := h.xe
  have hfr : Fr wB F0 w' F2 := ⟨hf.os.trans h.fr.os, hf.tape.trans h.fr.tape, hf.output.trans h.fr.output, Nat.le_trans h.fr.size hf.size,
    fun b hb hn => (hf.keep b (Nat.lt_of_lt_of_le hb h.fr.size) (fun e => e.elim (h.fr.out hb hn) (fun g => by have := (hG b g).1; omega))).trans (h.fr.keep b hb hn),
    fun b hb => (hf.new b (.inl hb)).elim (fun e => e.elim (h.fr.new b) (fun g => .inr (by have := (hG b g).1; omega))) (fun g => .inr (Nat.le_trans h.fr.size g))⟩
  exact ⟨⟨ha, hf.below h.law.bel hge hz, fun b hb => hf.ge hge hz b (.inl hb), h.law.sz⟩, hf.own h.row nr, fun b e hb => hf.out (World.ownsRow.lt h.row b e).2 (nr b e) (.inl hb), hf.block h.vx n0, hf.block h.dd n1, hf.block h.vy n2', ⟨fun hb => hf.out l0 n0 (.inl hb), fun hb => hf.out l1 n1 (.inl hb), fun hb => hf.out l2 n2' (.inl hb)⟩, h.rx, h.le, h.xe, hfr, h.rn⟩
theorem DB.below (h : DB wB F0 rB w0 c x mo d s s' n r w F) (hb : Below w.heap.size w w') : DB wB F0 rB w0 c x mo d s s' n r w' F :=
  ⟨h.law.below hb, h.row.below hb, h.far, h.vx.below hb, (hb.block _ (Array.getElem?_eq_some_iff.1 h.dd).1).trans h.dd, h.vy.below hb, h.nx, h.rx, h.le, h.xe, h.fr.trans (Fr.of_below hb), h.rn⟩
theorem DB.cells (h : DB wB F0 rB w0 c x mo d s s' n r w F) : (w.cell? ⟨x, 0, none⟩ = some r ∧ w.cell? ⟨x, 1, none⟩ = some (.int .i64 s.hand) ∧ w.cell? ⟨x, 2, none⟩ = some (.int .i64 mo) ∧ x < w.heap.size ∧ ∀ o, w.frozen? ⟨x, o, none⟩ = false) ∧
    (w.cell? ⟨x + 1, 0, none⟩ = some (.int .u8 d.kind) ∧ w.cell? ⟨x + 1, 1, none⟩ = some (.int .i64 d.key) ∧ w.cell? ⟨x + 1, 2, none⟩ = some (.string d.text) ∧ x + 1 < w.heap.size) := by
  refine ⟨h.vx.cells, ?_⟩
  have c0 := cell_of_row w (x + 1) 0 _ _ (0, 0) h.dd
  have c1 := cell_of_row w (x + 1) 1 _ _ (0, 0) h.dd
  have c2 := cell_of_row w (x + 1) 2 _ _ (0, 0) h.dd
  simp only [List.getElem?_toArray, List.getElem?_cons_zero, List.getElem?_cons_succ] at c0 c1 c2
  exact ⟨c0, c1, c2, (Array.getElem?_eq_some_iff.1 h.dd).1⟩
/-- what the page's function tells stands in the variable now. -/
theorem DB.set {r' : Value} (h : DB wB F0 rB w0 c x mo d s s' n r w F) (ho : OwnE w' 0 r' s2.row) (hb : Below w.heap.size w w') (hn : ∀ b, r'.ownBlock = some b → r.ownBlock = some b ∨ w.heap.size ≤ b) :
    DB wB F0 rB w0 c x mo d s2 s' n r' (((w'.setCell ⟨x, 0, none⟩ r').setCell ⟨x, 1, none⟩ (.int .i64 s2.hand)).setCell ⟨x, 2, none⟩ (.int .i64 mo)) F := by
  have h' := h.below hb
  have l0 := h.vx.cells.2.2.2.1
  have l1 := (Array.getElem?_eq_some_iff.1 h.dd).1
  have l2 := h.vy.cells.2.2.2.1
  have hrx : r'.ownBlock ≠ some x ∧ r'.ownBlock ≠ some (x + 1) ∧ r'.ownBlock ≠ some (x + 2) :=
    ⟨fun e => (hn _ e).elim h.rx.1 (fun hge => by omega), fun e => (hn _ e).elim h.rx.2.1 (fun hge => by omega), fun e => (hn _ e).elim h.rx.2.2 (fun hge => by omega)⟩
  have hfar : ∀ b, r'.ownBlock = some b → ¬ F b := fun b e hF => (hn b e).elim (fun e => h.far b e hF) (fun hge => by have := (resCk c).lt h.law.ck b hF; omega)
  have hl := ((h'.law.store (o := 0) (u := r') h.le h.nx.1).store (o := 1) (u := .int .i64 s2.hand) h.le h.nx.1).store (o := 2) (u := .int .i64 mo) h.le h.nx.1
  have hxe := h.xe
  have hset : ∀ (W : World) (o : Nat) (u : Value), Fr wB F0 W F → Fr wB F0 (W.setCell ⟨x, o, none⟩ u) F := fun W o u hf => ⟨hf.os, hf.tape, hf.output, by simpa [World.setCell] using hf.size, fun b hb hn => (heap_setCell_other _ _ _ _ (show b ≠ x by omega)).trans (hf.keep b hb hn), hf.new⟩
  have hfr := hset _ 2 (.int .i64 mo) (hset _ 1 (.int .i64 s2.hand) (hset _ 0 r' h'.fr))
  refine ⟨hl, ((ho.other hrx.1).other hrx.1).other hrx.1, hfar, h'.vx.all, ?_, ((h'.vy.other (by omega)).other (by omega)).other (by omega), h.nx, hrx, h.le, h.xe, hfr, fun b e => (hn b e).elim (h.rn b) (fun g => .inr (Nat.le_trans h.fr.size g))⟩
  have hne : x + 1 ≠ x := by omega
  exact (heap_setCell_other _ _ _ _ hne).trans ((heap_setCell_other _ _ _ _ hne).trans ((heap_setCell_other _ _ _ _ hne).trans h'.dd))
/-- the end: the variable's value is told. -/
theorem DB.fin (h : DB wB F0 rB w0 c x mo d s s n r w F) (hm : s.most = (max mo 0).toNat) : Two w0 c mo s n r (((w.setCell ⟨x + 2, 0, none⟩ r).setCell ⟨x + 2, 1, none⟩ (.int .i64 s.hand)).setCell ⟨x + 2, 2, none⟩ (.int .i64 mo)) F ∧ Fr wB F0 (((w.setCell ⟨x + 2, 0, none⟩ r).setCell ⟨x + 2, 1, none⟩ (.int .i64 s.hand)).setCell ⟨x + 2, 2, none⟩ (.int .i64 mo)) F := by
  have hle := h.le
  have hxe := h.xe
  have hset : ∀ (W : World) (o : Nat) (u : Value), Fr wB F0 W F → Fr wB F0 (W.setCell ⟨x + 2, o, none⟩ u) F := fun W o u hf => ⟨hf.os, hf.tape, hf.output, by simpa [World.setCell] using hf.size, fun b hb hn => (heap_setCell_other _ _ _ _ (show b ≠ x + 2 by omega)).trans (hf.keep b hb hn), hf.new⟩
  have hl := ((h.law.store (o := 0) (u := r) (g := x + 2) (by omega) h.nx.2.2).store (o := 1) (u := .int .i64 s.hand) (g := x + 2) (by omega) h.nx.2.2).store (o := 2) (u := .int .i64 mo) (g := x + 2) (by omega) h.nx.2.2
  exact ⟨⟨hl, ((h.row.other h.rx.2.2).other h.rx.2.2).other h.rx.2.2, h.far, hm⟩, hset _ 2 _ (hset _ 1 _ (hset _ 0 _ h.fr))⟩
end
set_option maxHeartbeats 8000000 in
set_option maxRecDepth 100000 in
theorem do_any (w0 : World) (c : Nat) (mo : Int) (s : CS) (n : Nat) (r : Value) (d : CD) (w : World) (F : Nat → Prop) (h : Two w0 c mo s n r w F) (hd : d.Ok) (hn : n + 1 ≤ 800) :
    Calls Try.prog 13 #[.pointer (some ⟨c, 0, none⟩), refV r s.hand mo, .agg #[.int .u8 d.kind, .int .i64 d.key, .string d.text]] w fun e w' => ∃ r' s' n' F', e = .returned (.tuple #[refV r' s'.hand mo, .int .i64 0]) ∧ Two w0 c mo s' n' r' w' F' ∧ n' ≤ n + 1 ∧ Fr w F w' F' ∧ (∀ b, r'.ownBlock = some b → r.ownBlock = some b ∨ w.heap.size ≤ b) := by
  obtain ⟨kind, key, text⟩ := d
  obtain ⟨kl, kh, ki, kt⟩ := hd
  obtain ⟨A, cp, rfl⟩ := h.row.form
  have hgd := h.law.ck.good
  have hsm : s.row.length ≤ 900 := by have := hgd.le; simp only at this; omega
  have HT := Lib.hid h
  clear h
  simp only at kl kh ki kt
  unfold refV
  obtain ⟨q, hq, hq15⟩ := and15 key
  have hr1 : kind % 8 < 8 := Int.emod_lt_of_pos _ (by decide)
  have hr2 : 0 ≤ kind % 8 := Int.emod_nonneg _ (by decide)
  go_enter Try.func13, Try.ntmps13
  go_upto_region 1 with fail
  have hD : DB w F (.slice A s.row.length cp) w0 c w.heap.size mo ⟨kind, key, text⟩ s s n (.slice A s.row.length cp) (((w.alloc (.cells #[.slice A s.row.length cp, .int .i64 s.hand, .int .i64 mo] 40)).alloc (.cells #[.int .u8 kind, .int .i64 key, .string text] 28)).alloc (.cells #[.slice none 0 0, .int .i64 0, .int .i64 0] 40)) F := by
    have hb : Below w.heap.size w (((w.alloc (.cells #[.slice A s.row.length cp, .int .i64 s.hand, .int .i64 mo] 40)).alloc (.cells #[.int .u8 kind, .int .i64 key, .string text] 28)).alloc (.cells #[.slice none 0 0, .int .i64 0, .int .i64 0] 40)) := (((Below.refl _ _).alloc (Nat.le_refl _) _).alloc (by simp) _).alloc (by simp; omega) _
    have hlt := (resCk c).lt HT.out.law.ck
    have hro : ∀ b, (Value.slice A s.row.length cp).ownBlock = some b → b < w.heap.size := fun b e => (World.ownsRow.lt HT.out.row b e).2
    refine ⟨HT.out.law.below hb, HT.out.row.below hb, HT.out.far, ?_, ?_, ?_, ⟨fun h => by have := hlt _ h; omega, fun h => by have := hlt _ h; omega, fun h => by have := hlt _ h; omega⟩, ⟨fun e => by have := hro _ e; omega, fun e => by have := hro _ e; omega, fun e => by have := hro _ e; omega⟩, Nat.le_trans HT.out.law.sz HT.out.law.bel.size, rfl, Fr.of_below hb, fun b e => .inl e⟩
    · exact (Below.heap_alloc _ _ _ (by simp; omega)).trans ((Below.heap_alloc _ _ _ (by simp)).trans (heap_alloc_new _ _))
    · exact (Below.heap_alloc _ _ _ (by simp)).trans (alloc2_at _ _ _)
    · have h3 := alloc2_at (w.alloc (.cells #[.slice A s.row.length cp, .int .i64 s.hand, .int .i64 mo] 40)) (.cells #[.int .u8 kind, .int .i64 key, .string text] 28) (.cells #[.slice none 0 0, .int .i64 0, .int .i64 0] 40)
      rw [show (w.alloc (.cells #[.slice A s.row.length cp, .int .i64 s.hand, .int .i64 mo] 40)).heap.size + 1 = w.heap.size + 2 by simp] at h3
      exact h3
  have HD := Lib.hid hD
  have HW := Lib.hid (show w.heap.size ≤ w.heap.size from Nat.le_refl _)
  clear hD
  generalize ((w.alloc (.cells #[.slice A s.row.length cp, .int .i64 s.hand, .int .i64 mo] 40)).alloc (.cells #[.int .u8 kind, .int .i64 key, .string text] 28)).alloc (.cells #[.slice none 0 0, .int .i64 0, .int .i64 0] 40) = w1 at HD ⊢
  obtain ⟨x, hxe⟩ : ∃ x, w.heap.size = x := ⟨_, rfl⟩
  rw [hxe] at HD
  rw [hxe]
  clear hxe
  have hx2 : x + 1 + 1 = x + 2 := rfl
  rw [hx2]
  obtain ⟨⟨a0, a1, a2, al, _⟩, ⟨d0, d1, d2, dl⟩⟩ := HD.out.cells
  simp only at d0 d1 d2
  have hql : i64ok (q : Int) := i64ok_of (by omega) (by omega)
  go_upto_block 0 with fail
  go_cut [9, 28] (fun v9 _ wx => v9 = .bool true ∧ Hid (∃ (s' : CS) (n' : Nat) (r' : Value) (F' : Nat → Prop), DB w F (.slice A s.row.length cp) w0 c x mo ⟨kind, key, text⟩ s' s' n' r' wx F' ∧ n' ≤ n + 1 ∧ s'.most = (max mo 0).toNat))
  case first =>
    have hok := hgd.ok
    simp only at hok
    go_upto_region 4 with fail
    generalize kind % 8 = r8 at hr1 hr2 ⊢
    by_cases h012 : r8 = 0 ∨ r8 = 1 ∨ r8 = 2
    · rcases h012 with rfl | rfl | rfl
      all_goals
        clear hr1 hr2
        go_wp2_with fail
        ((with_reducible refine ((put_any c s n q text hql (by omega)).run w1 F (resCk_to HD.out.law.ck)).mono ?_); rintro _ w5 ⟨u5, _, F5, rfl, ⟨n5, hn5, rfl⟩, ha, hf⟩)
        have H5 := Lib.hid (HD.out.step ha hf)
        clear ha hf a0 a1 a2 al d0 d1 d2 dl
        obtain ⟨⟨a0, a1, a2, al, _⟩, ⟨d0, d1, d2, dl⟩⟩ := H5.out.cells
        simp only at d0 d1 d2
        have HR := Lib.hid (refput_any (.slice A s.row.length cp) s mo q text w5 hok HT.out.most hsm H5.out.row)
        unfold refV at HR
        go_wp2_with fail
        ((with_reducible refine HR.out.mono ?_); rintro _ w6 ⟨r6, rfl, ho6, hb6, hn6⟩)
        obtain ⟨A6, cp6, rfl⟩ := ho6.form
        have H6 := Lib.hid (H5.out.set (s2 := putS s q text) ho6 hb6 hn6)
        have hx6 := (H5.out.vx.below hb6).cells
        clear ho6 hb6 hn6 a0 a1 a2 al d0 d1 d2 dl HR
        obtain ⟨a0, a1, a2, al, af⟩ := hx6
        go_wp2_with fail
        go_meet
        case rel => exact ⟨rfl, Lib.hid ⟨putS s q text, n5, _, F5, H6.out, hn5, by rw [putS_most]; exact HT.out.most⟩⟩
    · obtain ⟨n0, n1, n2⟩ : ¬ r8 = 0 ∧ ¬ r8 = 1 ∧ ¬ r8 = 2 := ⟨fun e => h012 (.inl e), fun e => h012 (.inr (.inl e)), fun e => h012 (.inr (.inr e))⟩
      have q0 : (r8 == 0) = false := by simpa using n0
      have q1 : (r8 == 1) = false := by simpa using n1
      have q2 : (r8 == 2) = false := by simpa using n2
      by_cases h345 : r8 = 3 ∨ r8 = 4 ∨ r8 = 5
      · have HG := Lib.hid (get_any c s n q hql)
        rcases h345 with rfl | rfl | rfl
        all_goals
          clear hr1 hr2 n0 n1 n2 q0 q1 q2 h012
          go_wp2_with fail
          ((with_reducible refine (HG.out.run w1 F (resCk_to HD.out.law.ck)).mono ?_); rintro _ w5 ⟨_, _, F5, rfl, ⟨rfl, rfl⟩, ha, hf⟩)
          have H5 := Lib.hid (HD.out.step ha hf)
          clear ha hf a0 a1 a2 al d0 d1 d2 dl
          obtain ⟨⟨a0, a1, a2, al, _⟩, ⟨d0, d1, d2, dl⟩⟩ := H5.out.cells
          simp only at d0 d1 d2
          have HR := Lib.hid (refget_any (.slice A s.row.length cp) s mo q w5 (by omega) H5.out.row)
          unfold refV at HR
          go_wp2_with fail
          ((with_reducible refine HR.out.mono ?_); rintro _ w6 ⟨r6, rfl, ho6, hb6⟩)
          obtain ⟨A6, cp6, rfl⟩ := ho6.form
          have hmo : (getS s q).1.most = (max mo 0).toNat := by rw [getS_most]; exact HT.out.most
          generalize (getS s q).2 = vo at *
          generalize (getS s q).1 = s6 at *
          obtain ⟨v6, o6⟩ := vo
          have hba : Below w6.heap.size w6 (w6.alloc (.cells #[.slice A6 s6.row.length cp6, .int .i64 s6.hand, .int .i64 mo] 40)) := (Below.refl _ _).alloc (Nat.le_refl _) _
          have H6 := Lib.hid (H5.out.set (s2 := s6) ((ho6.base (Nat.zero_le _)).below hba) (hb6.trans (hba.mono hb6.size)) (fun b e => .inr (World.ownsRow.lt ho6 b e).1))
          have hx6 := ((H5.out.vx.below hb6).below hba).cells
          have hn6 := VarAt.new w6 (.slice A6 s6.row.length cp6) s6.hand mo
          have HM := Lib.hid hmo
          clear ho6 hb6 hba a0 a1 a2 al d0 d1 d2 dl HR hmo
          go_upto_region 14 with fail
          generalize w6.alloc (.cells #[.slice A6 s6.row.length cp6, .int .i64 s6.hand, .int .i64 mo] 40) = w7 at H6 hx6 hn6 ⊢
          generalize w6.heap.size = y6 at hn6 ⊢
          obtain ⟨a0, a1, a2, al, af⟩ := hx6
          obtain ⟨b0, b1, b2, bl, _⟩ := hn6.cells
          clear hn6
          go_wp2_with fail
          go_meet
          case rel => exact ⟨rfl, Lib.hid ⟨s6, n, _, F5, H6.out, by omega, HM.out⟩⟩
      · obtain ⟨n3, n4, n5⟩ : ¬ r8 = 3 ∧ ¬ r8 = 4 ∧ ¬ r8 = 5 := ⟨fun e => h345 (.inl e), fun e => h345 (.inr (.inl e)), fun e => h345 (.inr (.inr e))⟩
        have q3 : (r8 == 3) = false := by simpa using n3
        have q4 : (r8 == 4) = false := by simpa using n4
        have q5 : (r8 == 5) = false := by simpa using n5
        by_cases h6 : r8 = 6
        · subst h6
          clear hr1 hr2 n0 n1 n2 q0 q1 q2 h012 n3 n4 n5 q3 q4 q5 h345
          go_wp2_with fail
          ((with_reducible refine ((evict_any c s n key).run w1 F (resCk_to HD.out.law.ck)).mono ?_); rintro _ w5 ⟨_, _, F5, rfl, ⟨rfl, n5, hn5, rfl⟩, ha, hf⟩)
          have H5 := Lib.hid (HD.out.step ha hf)
          clear ha hf a0 a1 a2 al d0 d1 d2 dl
          obtain ⟨⟨a0, a1, a2, al, _⟩, ⟨d0, d1, d2, dl⟩⟩ := H5.out.cells
          simp only at d0 d1 d2
          have HR := Lib.hid (refevict_any (.slice A s.row.length cp) s mo key w5 hok hsm H5.out.row)
          unfold refV at HR
          go_wp2_with fail
          ((with_reducible refine HR.out.mono ?_); rintro _ w6 ⟨r6, rfl, ho6, hb6, hn6⟩)
          obtain ⟨A6, cp6, rfl⟩ := ho6.form
          have hmo : (evictS s key).1.most = (max mo 0).toNat := by rw [(evictS_ok hok key).2.2]; exact HT.out.most
          have hcnt : (evictS s key).2 ≤ s.row.length := Nat.min_le_right _ _
          generalize (evictS s key).2 = ev at *
          generalize (evictS s key).1 = s6 at *
          have hba : Below w6.heap.size w6 (w6.alloc (.cells #[.slice A6 s6.row.length cp6, .int .i64 s6.hand, .int .i64 mo] 40)) := (Below.refl _ _).alloc (Nat.le_refl _) _
          have H6 := Lib.hid (H5.out.set (s2 := s6) (ho6.below hba) (hb6.trans (hba.mono hb6.size)) hn6)
          have hx6 := ((H5.out.vx.below hb6).below hba).cells
          have hv6 := VarAt.new w6 (.slice A6 s6.row.length cp6) s6.hand mo
          have HM := Lib.hid hmo
          clear ho6 hb6 hba hn6 a0 a1 a2 al d0 d1 d2 dl HR hmo
          go_upto_region 19 with fail
          generalize w6.alloc (.cells #[.slice A6 s6.row.length cp6, .int .i64 s6.hand, .int .i64 mo] 40) = w7 at H6 hx6 hv6 ⊢
          generalize w6.heap.size = y6 at hv6 ⊢
          obtain ⟨a0, a1, a2, al, af⟩ := hx6
          obtain ⟨b0, b1, b2, bl, _⟩ := hv6.cells
          clear hv6
          go_wp2_with fail
          go_meet
          case rel => exact ⟨rfl, Lib.hid ⟨s6, n5, _, F5, H6.out, by omega, HM.out⟩⟩
        · have h7 : r8 = 7 := by omega
          subst h7
          clear hr1 hr2 n0 n1 n2 q0 q1 q2 h012 n3 n4 n5 q3 q4 q5 h345 h6
          go_upto_region 23 with fail
          have hbw : Below w1.heap.size w1 (w1.alloc (.cells #[.int .i64 3, .int .i64 ((q : Int) % 3), .int .i64 0] 46)) := (Below.refl _ _).alloc (Nat.le_refl _) _
          have hRs : (resRest w1.heap.size 3 ((q : Int) % 3)).at_ (w1.alloc (.cells #[.int .i64 3, .int .i64 ((q : Int) % 3), .int .i64 0] 46)) (fun b => b = w1.heap.size) 0 := ⟨fun b => Iff.rfl, heap_alloc_new _ _⟩
          have hyx : x + 3 ≤ w1.heap.size := by have := HD.out.vy.cells.2.2.2.1; omega
          have hyr : (Value.slice A s.row.length cp).ownBlock ≠ some w1.heap.size := fun e => by have := (World.ownsRow.lt HD.out.row _ e).2; omega
          have hFy : ∀ b, F b → ¬ b = w1.heap.size := fun b hb e => by have := (resCk c).lt HD.out.law.ck b hb; omega
          have H2 := Lib.hid (And.intro (HD.out.below hbw) (And.intro hRs (And.intro hyr hFy)))
          clear hbw hRs hyr hFy a0 a1 a2 al d0 d1 d2 dl
          generalize w1.alloc (.cells #[.int .i64 3, .int .i64 ((q : Int) % 3), .int .i64 0] 46) = w2 at H2 ⊢
          generalize w1.heap.size = y at H2 hyx ⊢
          obtain ⟨⟨a0, a1, a2, al, _⟩, _⟩ := H2.out.1.cells
          have HDR := Lib.hid (rest_drop y 3 ((q : Int) % 3) (by decide) (by decide) c s n w2 F (fun b => b = y) H2.out.1.law.ck H2.out.2.1 H2.out.2.2.2)
          go_wp2_with fail
          ((with_reducible refine HDR.out.mono ?_); rintro _ w5 ⟨F5, G5, n5, rfl, hck, hn5, hRR, hdis, hfr⟩)
          have H5 := Lib.hid (H2.out.1.step2 hck hfr (fun b e => by subst e; exact ⟨hyx, H2.out.2.2.1⟩))
          have hy5 : w5.heap[y]? = some (.cells #[.int .i64 3, .int .i64 ((q : Int) % 3), .int .i64 s.row.length] 46 (0, 0)) := hRR.2
          clear hck hRR hdis hfr a0 a1 a2 al HDR
          obtain ⟨⟨a0, a1, a2, al, _⟩, _⟩ := H5.out.cells
          have HR := Lib.hid (refdrop_any (.slice A s.row.length cp) s mo 3 ((q : Int) % 3) w5 (by decide) (by decide) hok hsm H5.out.row)
          unfold refV at HR
          have hmo : (dropS s (restP 3 ((q : Int) % 3))).1.most = (max mo 0).toNat := HT.out.most
          have hcnt : (dropS s (restP 3 ((q : Int) % 3))).2 ≤ s.row.length := Nat.sub_le _ _
          generalize (dropS s (restP 3 ((q : Int) % 3))).2 = dv at *
          generalize (dropS s (restP 3 ((q : Int) % 3))).1 = s6 at *
          go_wp2_with fail
          ((with_reducible refine HR.out.mono ?_); rintro _ w6 ⟨r6, rfl, ho6, hb6, hn6⟩)
          obtain ⟨A6, cp6, rfl⟩ := ho6.form
          have hba : Below w6.heap.size w6 (w6.alloc (.cells #[.slice A6 s6.row.length cp6, .int .i64 s6.hand, .int .i64 mo] 40)) := (Below.refl _ _).alloc (Nat.le_refl _) _
          have H6 := Lib.hid (H5.out.set (s2 := s6) (ho6.below hba) (hb6.trans (hba.mono hb6.size)) hn6)
          have hx6 := ((H5.out.vx.below hb6).below hba).cells
          have hv6 := VarAt.new w6 (.slice A6 s6.row.length cp6) s6.hand mo
          have hyl5 := (Array.getElem?_eq_some_iff.1 hy5).1
          have hy6 := (hb6.block y hyl5).trans hy5
          have hy7 := (hba.block y (Array.getElem?_eq_some_iff.1 hy6).1).trans hy6
          have HM := Lib.hid hmo
          clear ho6 hb6 hba hn6 a0 a1 a2 al HR hmo hy5 hy6 hyl5
          go_upto_region 26 with fail
          generalize w6.alloc (.cells #[.slice A6 s6.row.length cp6, .int .i64 s6.hand, .int .i64 mo] 40) = w7 at H6 hx6 hv6 hy7 ⊢
          generalize w6.heap.size = y6 at hv6 ⊢
          obtain ⟨a0, a1, a2, al, af⟩ := hx6
          obtain ⟨b0, b1, b2, bl, _⟩ := hv6.cells
          have yc := cell_of_row w7 y 2 _ _ (0, 0) hy7
          have yl7 := (Array.getElem?_eq_some_iff.1 hy7).1
          simp only [List.getElem?_toArray, List.getElem?_cons_zero, List.getElem?_cons_succ] at yc
          have hyne : ¬ y = x := by omega
          clear hv6 hy7
          go_wp2_with fail
          go_meet
          case rel => exact ⟨rfl, Lib.hid ⟨s6, n5, _, F5, H6.out, by omega, HM.out⟩⟩
  case rest =>
    obtain ⟨rfl, hR⟩ := hcut
    obtain ⟨s', n', r', F', hd, hn', hm'⟩ := hR.out
    clear a0 a1 a2 al d0 d1 d2 dl
    obtain ⟨⟨a0, a1, a2, al, _⟩, _⟩ := hd.cells
    obtain ⟨y0, y1, y2, yl, yf⟩ := hd.vy.cells
    have HF := Lib.hid (And.intro (hd.fin hm') (And.intro hn' hd.rn))
    obtain ⟨A', cp', rfl⟩ := hd.row.form
    clear hR hd hn' hm'
    go_wp2_with fail
    refine bodyPost_ret (v := .tuple #[.agg #[.slice A' s'.row.length cp', .int .i64 s'.hand, .int .i64 mo], .int .i64 0]) (by simp [results, Try.results13, go_sem, *]) rfl ⟨_, s', rfl, n', F', HF.out.1.1, HF.out.2.1, HF.out.1.2, HF.out.2.2⟩
end Go.Proofs.Ytohjhbhbpflokaa.Ck
