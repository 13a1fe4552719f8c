
/- The law's own counting test of keys; the page's example. -/
import Derived.Test.YtohjhbhbpflokaaClkI
import Derived.BigQuiet
import Derived.Shelf.Abstract
namespace Go.Proofs.Ytohjhbhbpflokaa.Ck
set_option linter.unusedSimpArgs false
set_option linter.unusedVariables false
open Go Go.RowKit Go.Shelf
set_option linter.unusedVariables false
attribute [local go_sem] lt_add1 lt_self1 size_ne size_ne' size_ne1 size_ne1'
def resRest (x : Nat) (by_ rest : Int) : Res Nat where
  at_ := fun w F s => (∀ b, F b ↔ b = x) ∧ w.heap[x]? = some (.cells #[.int .i64 by_, .int .i64 rest, .int .i64 s] 46 (0, 0))
  below := fun h hb => ⟨h.1, (hb.block x (Array.getElem?_eq_some_iff.1 h.2).1).trans h.2⟩
  lt := fun h b hb => by rw [(h.1 b).1 hb]; exact (Array.getElem?_eq_some_iff.1 h.2).1
theorem rest_keeps (x : Nat) (by_ rest : Int) : KeepsR (resRest x by_ rest) where
  keep := fun h hf hd => ⟨h.1, hf.block h.2 (hd x ((h.1 x).2 rfl))⟩
theorem rest_eg : ∀ args w, (callFunc 16 args).run Try.prog w = .ok (.enter 16 args) w := enters_of Try.func16 (by kernel_rfl) rfl
def restP (by_ rest : Int) (k : Int) : Bool := Int.tmod k by_ == rest
theorem rest_does (x : Nat) (by_ rest k : Int) (s : Nat) (hb : by_ ≠ 0) (hb1 : by_ ≠ -1) (hs : s < 1000000) : Does Try.prog (resRest x by_ rest) 16 #[.pointer (some ⟨x, 0, none⟩), .int .i64 k] s (fun v s' => v = .bool (restP by_ rest k) ∧ s' = s + 1) := by
  rintro w F ⟨hF, hx⟩
  have c0 := cell_of_row w x 0 _ _ (0, 0) hx
  have c1 := cell_of_row w x 1 _ _ (0, 0) hx
  have c2 := cell_of_row w x 2 _ _ (0, 0) hx
  have hlt := (Array.getElem?_eq_some_iff.1 hx).1
  have hfz : w.frozen? ⟨x, 2, none⟩ = false := by simp [World.frozen?, hx]
  simp only [List.getElem?_toArray, List.getElem?_cons_zero, List.getElem?_cons_succ] at c0 c1 c2
  have hwk : IntKind.i64.wrap ((s : Int) + 1) = (s : Int) + 1 := IntWalk.i64_in _ (by omega)
  have HX := Lib.hid (And.intro hF hx)
  clear hF hx
  go_enter Try.func16, Try.ntmps16
  go_wp2_with fail
  go_region
  go_wp2_with fail
  go_ret
  refine ⟨_, s + 1, F, rfl, ⟨rfl, rfl⟩, ?_, (fr_cell (F := F) ((HX.out.1 x).2 rfl)).trans (Fr.of_below ((Below.refl _ _).drew))⟩
  refine ⟨HX.out.1, ?_⟩
  have := heap_setCell_same w x 2 _ _ (.int .i64 ((s : Int) + 1)) HX.out.2
  show (w.setCell ⟨x, 2, none⟩ (.int .i64 ((s : Int) + 1))).heap[x]? = _
  rw [this]
  simp
/-- what a walk over a clock of the law's own keeps. -/
structure Law (B : Nat) (w0 : World) (c : Nat) (s : CS) (n : Nat) (w : World) (F : Nat → Prop) : Prop where
  ck : CkAt c w F (s, n)
  bel : Below B w0 w
  ge : ∀ b, F b → B ≤ b
  sz : B ≤ w0.heap.size
section
variable {B : Nat} {w0 w w' : World} {c : Nat} {s s' : CS} {n n' : Nat} {F F' : Nat → Prop}
theorem Law.step (h : Law B w0 c s n w F) (ha : (resCk c).at_ w' F' (s', n')) (hf : Fr w F w' F') : Law B w0 c s' n' w' F' := by
  have hz := Nat.le_trans h.sz h.bel.size
  exact ⟨ha, hf.below h.bel h.ge hz, hf.ge h.ge hz, h.sz⟩
theorem Law.below (h : Law B w0 c s n w F) (hb : Below w.heap.size w w') : Law B w0 c s n w' F :=
  ⟨(resCk c).below h.ck hb, h.bel.trans (hb.mono (Nat.le_trans h.sz h.bel.size)), h.ge, h.sz⟩
theorem Law.new {most : Int} (ha : (resCk c).at_ w F (newS most, 0)) (hF : ∀ b, F b → w0.heap.size ≤ b) (hb : Below w0.heap.size w0 w) : Law w0.heap.size w0 c (newS most) 0 w F := ⟨ha, hb, hF, Nat.le_refl _⟩
end
theorem OwnN.cells {w : World} {B : Nat} {v : Value} {l : List Int} (h : OwnN w B v l) (hl : l ≠ []) : ∃ g cap, v = .slice (some ⟨g, 0, none⟩) l.length cap ∧ B ≤ g ∧ g < w.heap.size ∧ ∀ i, i < l.length → w.cell? ⟨g, i, none⟩ = some (.int .i64 (l.getD i 0)) := by
  obtain ⟨g, cap, rfl, h1, h2⟩ := World.ownsRow.form h (by cases l with | nil => exact absurd rfl hl | cons => simp)
  refine ⟨g, cap, rfl, h1, h2, fun i hi => ?_⟩
  rw [own_at (own_base h (Nat.zero_le _)) (show i < l.length * 1 by omega)]
  simp [List.getElem?_map, List.getD, hi]
theorem OwnN.form {w : World} {B : Nat} {v : Value} {l : List Int} (h : OwnN w B v l) : ∃ A cap, v = .slice A l.length cap := by
  obtain ⟨A, cp, e, _, _⟩ := SlAt.of_own h
  exact ⟨A, cp, e⟩
theorem len_raw {c n : Nat} {s : CS} {w : World} {F : Nat → Prop} (h : CkAt c w F (s, n)) : Calls Try.prog 11 #[.pointer (some ⟨c, 0, none⟩)] w fun e w' => e = .returned (.int .i64 s.row.length) ∧ Below w.heap.size w w' := by
  obtain ⟨v, m, h1, h2, h3, h4, h5, h6, h7, h8⟩ := h
  obtain ⟨A, cp, rfl, _, _⟩ := SlAt.of_own h6
  have c0 := cell_of_row w c 0 _ _ (0, 0) h5
  have hlt := (Array.getElem?_eq_some_iff.1 h5).1
  simp only [List.getElem?_toArray, List.getElem?_cons_zero] at c0
  clear h1 h2 h3 h4 h5 h6 h7 h8
  go_enter Try.func11, Try.ntmps11
  go_wp2_with fail
  go_ret
  exact ⟨rfl, Below.refl _ _⟩
abbrev strA : ByteArray := ⟨#[97]⟩
abbrev strB : ByteArray := ⟨#[98]⟩
abbrev strC : ByteArray := ⟨#[99]⟩
def aw3 : CS := putS (putS (putS (newS 2) 1 strA) 2 strB) 3 strC
theorem aw3_keys : keys aw3.row = [3, 2] := by rfl
theorem aw3_get : (getS aw3 3).2 = (strC, true) := by rfl
theorem aw3_len : (getS aw3 3).1.row.length = 2 := by rfl
set_option maxHeartbeats 4000000 in
theorem awake_any (w : World) : Calls Try.prog 6 #[] w fun e w' => e = .returned (.bool true) ∧ Below w.heap.size w w' := by
  go_enter Try.func6, Try.ntmps6
  go_wp2_with fail
  ((with_reducible refine (new_any 2 w (by decide)).mono ?_); rintro _ w1 ⟨c, F1, rfl, ha, hF, hb⟩)
  have H1 := Lib.hid (Law.new ha hF hb)
  clear ha hF hb
  go_wp2_with fail
  ((with_reducible refine ((put_any c (newS 2) 0 1 strA (by decide) (by decide)).run w1 F1 (resCk_to H1.out.ck)).mono ?_); rintro _ w2 ⟨_, _, F2, rfl, ⟨n2, hn2, rfl⟩, ha, hf⟩)
  have H2 := Lib.hid (H1.out.step ha hf)
  clear ha hf
  go_wp2_with fail
  ((with_reducible refine ((put_any c (putS (newS 2) 1 strA) n2 2 strB (by decide) (by omega)).run w2 F2 (resCk_to H2.out.ck)).mono ?_); rintro _ w3 ⟨_, _, F3, rfl, ⟨n3, hn3, rfl⟩, ha, hf⟩)
  have H3 := Lib.hid (H2.out.step ha hf)
  clear ha hf
  go_wp2_with fail
  ((with_reducible refine ((put_any c (putS (putS (newS 2) 1 strA) 2 strB) n3 3 strC (by decide) (by omega)).run w3 F3 (resCk_to H3.out.ck)).mono ?_); rintro _ w4 ⟨_, _, F4, rfl, ⟨n4, hn4, rfl⟩, ha, hf⟩)
  have H4 := Lib.hid (show Law w.heap.size w c aw3 n4 w4 F4 from H3.out.step ha hf)
  clear ha hf
  go_wp2_with fail
  ((with_reducible refine (keys_any c aw3 n4 w4 F4 H4.out.ck).mono ?_); rintro _ w5 ⟨v5, rfl, hv5, hb5⟩)
  rw [aw3_keys] at hv5
  obtain ⟨g, cap, rfl, hg, hgl, hcl⟩ := hv5.cells (by simp)
  have H5 := Lib.hid (H4.out.below hb5)
  have x0 := hcl 0 (by decide)
  have x1 := hcl 1 (by decide)
  have hFg := Lib.hid (show ¬ F4 g from fun h => by have := (resCk c).lt H4.out.ck g h; omega)
  clear hv5 hb5 hcl
  go_wp2_with fail
  ((with_reducible refine ((get_any c aw3 n4 3 (by decide)).run w5 F4 (resCk_to H5.out.ck)).mono ?_); rintro _ w6 ⟨_, _, F6, rfl, ⟨rfl, rfl⟩, ha, hf⟩)
  rw [aw3_get]
  have y0 := (hf.cell hgl hFg.out 0).trans x0
  have y1 := (hf.cell hgl hFg.out 1).trans x1
  have hgl6 := hf.lt hgl
  have H6 := Lib.hid (H5.out.step ha hf)
  clear ha hf x0 x1
  go_wp2_with fail
  ((with_reducible refine (len_raw H6.out.ck).mono ?_); rintro _ w7 ⟨rfl, hb⟩)
  rw [aw3_len]
  have z0 := (hb.cell (p := ⟨g, 0, none⟩) hgl6).trans y0
  have z1 := (hb.cell (p := ⟨g, 1, none⟩) hgl6).trans y1
  have hgl7 := Nat.lt_of_lt_of_le hgl6 hb.size
  have H7 := Lib.hid (H6.out.below hb)
  simp only [List.getD_cons_zero, List.getD_cons_succ] at z0 z1
  clear hb y0 y1 hgl6
  go_wp2_with fail
  go_ret
  exact ⟨rfl, H7.out.bel⟩
end Go.Proofs.Ytohjhbhbpflokaa.Ck
