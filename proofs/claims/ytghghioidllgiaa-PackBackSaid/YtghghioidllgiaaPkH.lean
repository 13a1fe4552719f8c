/- Get: the walk. -/
import Derived.Test.YtghghioidllgiaaPkG
import Derived.BigRegion
import Derived.BigQuiet
import Derived.Deep.DeepCutAuto
import Derived.Deep.RegionWith
namespace Go.Proofs.Ytghghioidllgiaa.Pk
set_option linter.unusedSimpArgs false
set_option linter.unusedVariables false
open Go Go.RowKit
open Go.Proofs.Ytghghioidllgiaa.Vec (SlI iv bv FunAt Right right_any)
attribute [local go_sem] lt_add1 lt_self1 size_ne size_ne' size_ne1 size_ne1'

theorem int_info : (Try.prog.info? 3).map (fun i => (i.zero, i.size, i.bytes)) = some (some (.int .i64 0), 1, 8) := by kernel_rfl
theorem bool_info : (Try.prog.info? 4).map (fun i => (i.zero, i.size, i.bytes)) = some (some (.bool false), 1, 1) := by kernel_rfl
theorem make_ints (k : Nat) (hk : k ≤ 1000000) (W : World) : (Instr.makeSlice 24 (.int .i64 k) (.int .i64 k)).run Try.prog W = .ok (.slice (some ⟨W.heap.size, 0, none⟩) k k) (W.alloc (.cells (Array.replicate k (.int .i64 0)) 3)) := by
  obtain ⟨i, hi, h0, h1, h2⟩ := info_parts int_info
  have := run_make (P := Try.prog) W 24 3 i (.int .i64 0) Try.underlying24 hi h0 .i64 .i64 k k (by omega) (by omega) (by rw [h2]; omega) (by omega)
  rw [h1] at this
  have e : madeCells (Value.int .i64 0).cells ((k : Int).toNat * 1) = Array.replicate k (.int .i64 0) := by
    refine Array.ext (by simp [madeCells]) fun i h1 h2 => ?_
    simp [madeCells, Value.cells, Nat.mod_one]
  rw [e] at this
  simpa using this
theorem make_bools (k : Nat) (hk : k ≤ 1000000) (W : World) : (Instr.makeSlice 25 (.int .i64 k) (.int .i64 k)).run Try.prog W = .ok (.slice (some ⟨W.heap.size, 0, none⟩) k k) (W.alloc (.cells (Array.replicate k (.bool false)) 4)) := by
  obtain ⟨i, hi, h0, h1, h2⟩ := info_parts bool_info
  have := run_make (P := Try.prog) W 25 4 i (.bool false) Try.underlying25 hi h0 .i64 .i64 k k (by omega) (by omega) (by rw [h2]; omega) (by omega)
  rw [h1] at this
  have e : madeCells (Value.bool false).cells ((k : Int).toNat * 1) = Array.replicate k (.bool false) := by
    refine Array.ext (by simp [madeCells]) fun i h1 h2 => ?_
    simp [madeCells, Value.cells, Nat.mod_one]
  rw [e] at this
  simpa using this

/-- both rows are the call's own. -/
def OwnF (B : Nat) (w : World) (a b k : Nat) (T : List Int) (H : List Bool) : Prop :=
  w.ownsRow B 3 1 (.slice (some ⟨a, 0, none⟩) k k) k (T.map (Value.int .i64)) ∧ w.ownsRow B 4 1 (.slice (some ⟨b, 0, none⟩) k k) k (H.map Value.bool)
theorem own_whole {w : World} {B a k : Nat} {e : TypeId} {R : Array Value} (hh : w.heap[a]? = some (.cells R e (0, 0))) (hB : B ≤ a) (hR : R.size = k) (hk : k ≤ 1000000) : w.ownsRow B e 1 (.slice (some ⟨a, 0, none⟩) k k) k R.toList := by
  refine ⟨by simp [hR], .inr ⟨a, k, R, rfl, hB, hh, Nat.le_refl _, by unfold maxLen; omega, by omega, ?_⟩⟩
  rw [Nat.mul_one, ← hR, ← Array.length_toList, List.take_length]
theorem OwnF.mk' {B a b k : Nat} {w : World} {bs : List Nat} (ha : w.heap[a]? = some (.cells (rowp bs k k 0) 3 (0, 0))) (hb : w.heap[b]? = some (.cells (rowh bs k k) 4 (0, 0))) (la : B ≤ a) (lb : B ≤ b) (hk : k ≤ 1000000) : OwnF B w a b k (getTs bs k) (getHs bs k) := by
  have h1 := own_whole ha la (rowp_size _ _ _ _) hk
  have h2 := own_whole hb lb (rowh_size _ _ _) hk
  have e1 : (rowp bs k k 0).toList = (getTs bs k).map (Value.int .i64) := by
    simp only [rowp, getTs, List.map_map]
    refine List.map_congr_left fun t ht => ?_
    have := List.mem_range.1 ht
    simp [this]
  have e2 : (rowh bs k k).toList = (getHs bs k).map Value.bool := by
    simp only [rowh, getHs, List.map_map]
    refine List.map_congr_left fun t ht => ?_
    have := List.mem_range.1 ht
    simp [this]
  rw [e1] at h1
  rw [e2] at h2
  exact ⟨h1, h2⟩
/-- what Get answers. -/
def GetPost (bs : List Nat) (w : World) (e : Ending) (w' : World) : Prop :=
  (gerr bs ≠ 0 ∧ e = .returned (.tuple #[.agg #[.slice none 0 0, .slice none 0 0], .int .i64 0, .int .i64 (gerr bs : Nat)]) ∧ Below w.heap.size w w') ∨
  (gerr bs = 0 ∧ ∃ a b, e = .returned (.tuple #[.agg #[.slice (some ⟨a, 0, none⟩) (cnt bs) (cnt bs), .slice (some ⟨b, 0, none⟩) (cnt bs) (cnt bs)], .int .i64 (siz (cnt bs)), .int .i64 0]) ∧
    OwnF w.heap.size w' a b (cnt bs) (getTs bs (cnt bs)) (getHs bs (cnt bs)) ∧ Below w.heap.size w w')

theorem fun_far {w : World} {a b n B : Nat} {T : List Int} {H : List Bool} (h : FunAt w (some ⟨a, 0, none⟩) n (some ⟨b, 0, none⟩) n T H) (ha : a ≠ B) (hb : b ≠ B) (u v : Value) :
    FunAt ((w.setCell ⟨B, 0, none⟩ u).setCell ⟨B, 1, none⟩ v) (some ⟨a, 0, none⟩) n (some ⟨b, 0, none⟩) n T H := by
  have hc : ∀ y o, y ≠ B → ((w.setCell ⟨B, 0, none⟩ u).setCell ⟨B, 1, none⟩ v).cell? ⟨y, o, none⟩ = w.cell? ⟨y, o, none⟩ := fun y o hy => by
    rw [World.cell?_of_block (a := ⟨y, o, none⟩) (heap_setCell_other _ _ _ _ hy), World.cell?_of_block (a := ⟨y, o, none⟩) (heap_setCell_other _ _ _ _ hy)]
  refine ⟨h.1, h.2.1, fun hn => ?_, fun hn => ?_⟩
  · obtain ⟨b', o', e, hb', hc'⟩ := h.2.2.1 hn
    cases e
    exact ⟨a, 0, rfl, by simpa using hb', fun i hi => (hc a _ ha).trans (hc' i hi)⟩
  · obtain ⟨b', o', e, hb', hc'⟩ := h.2.2.2 hn
    cases e
    exact ⟨b, 0, rfl, by simpa using hb', fun i hi => (hc b _ hb).trans (hc' i hi)⟩

/-- the result's box, as it was made. -/
structure Box0 (B : Nat) (a0 w : World) : Prop where
  box : w.heap[B]? = some (.cells #[.slice none 0 0, .slice none 0 0] 27 (0, 0))
  bel : Below B a0 w
theorem Box0.drewN {B : Nat} {a0 w : World} (h : Box0 B a0 w) (n : Nat) : Box0 B a0 (w.drewN n) := ⟨h.box, Below.drewN h.bel n⟩

set_option maxRecDepth 100000 in
set_option maxHeartbeats 4000000 in
theorem get_any (bs : List Nat) (n : Nat) (hn : bs.length = n) (hB : Byt bs) (hbig : n ≤ 1000000) (A : Option Addr) (c : Nat) (hc : n ≤ c) (w : World) (h : SlI w w.heap.size n A (yv bs)) :
    Calls Try.prog 14 #[.slice A n c] w fun e w' => GetPost bs w e w' := by
  have HH := Lib.hid (And.intro h (And.intro hB hn))
  clear h hB hn
  go_enter Try.func14, Try.ntmps14
  have hb0 : Box0 w.heap.size w (w.alloc (.cells #[.slice none 0 0, .slice none 0 0] 27)) := ⟨heap_alloc_new w _, by (repeat (first | exact Below.refl _ _ | assumption | (refine Below.setCell ?_ (by first | (simp; done) | (simp; omega) | omega) _) | (refine Below.alloc ?_ (by first | (simp; done) | (simp; omega) | omega) _) | (refine Below.drew ?_) | (refine Below.drewN ?_ _) | (refine Below.trans ?_ (Below.mono (by assumption) (by first | (simp; done) | (simp; omega) | omega)))))⟩
  by_cases n1 : n < 2
  · have hge : gerr bs = 10 := by unfold gerr; rw [if_pos (by have := HH.out.2.2; omega)]
    have HG := Lib.hid hge
    clear hge
    have hn1 : (n : Int) < 2 := by omega
    go_wp2
    refine bodyPost_ret (v := .tuple #[.agg #[.slice none 0 0, .slice none 0 0], .int .i64 0, .int .i64 10]) ?_ rfl (.inl ⟨by rw [HG.out]; decide, by rw [HG.out]; rfl, by (repeat (first | exact Below.refl _ _ | assumption | (refine Below.setCell ?_ (by first | (simp; done) | (simp; omega) | omega) _) | (refine Below.alloc ?_ (by first | (simp; done) | (simp; omega) | omega) _) | (refine Below.drew ?_) | (refine Below.drewN ?_ _) | (refine Below.trans ?_ (Below.mono (by assumption) (by first | (simp; done) | (simp; omega) | omega)))))⟩)
    simp [results, Try.results14, go_sem, *]
  have hn1 : ¬ (n : Int) < 2 := by omega
  obtain ⟨b1, o1, rfl, hb1, hc1⟩ := HH.out.1 (by omega)
  have f0 : w.cell? ⟨b1, o1 + 0, none⟩ = some (.int .u8 (bs.getD 0 0 : Nat)) := hc1 0 (by omega)
  have f1 : w.cell? ⟨b1, o1 + 1, none⟩ = some (.int .u8 (bs.getD 1 0 : Nat)) := hc1 1 (by omega)
  have y0 := HH.out.2.1 0
  have y1 := HH.out.2.1 1
  have hkk : cnt bs = bs.getD 0 0 * 256 + bs.getD 1 0 := rfl
  generalize bs.getD 0 0 = p0 at f0 y0 hkk
  generalize bs.getD 1 0 = p1 at f1 y1 hkk
  have g0 := (hb0.bel.cell (p := ⟨b1, _, none⟩) hb1).trans f0
  have g1 := (hb0.bel.cell (p := ⟨b1, _, none⟩) hb1).trans f1
  have hb1' : b1 < (w.alloc (.cells #[.slice none 0 0, .slice none 0 0] 27)).heap.size := by simp; omega
  have hor : bits .or .i64 ((p0 : Int) * 256) p1 = (cnt bs : Nat) := by rw [or_byte p0 p1 (by omega) (by omega), hkk]; omega
  rw [Nat.add_zero] at g0
  have hi0 : (0 : Int) < n := by omega
  have hi1 : (1 : Int) < n := by omega
  have HB := Lib.hid hb0
  have HC := Lib.hid hc1
  have HK := Lib.hid hkk
  clear hb0 f0 f1 hc1 hkk
  go_upto_region 3 with fail
  generalize (w.alloc (.cells #[.slice none 0 0, .slice none 0 0] 27)) = W1 at HB g0 g1 hb1' ⊢
  go_quiet (fail)
  have HB := Lib.hid (HB.out.drewN nq)
  have hb1 : b1 < w.heap.size := hb1
  have hB1 : b1 < (W1.drewN nq).heap.size := hb1'
  generalize W1.drewN nq = W2 at HB hB1 ⊢
  have hge : gerr bs = if cnt bs = 0 ∨ 4096 < cnt bs then 3 else if n < siz (cnt bs) then 10 else if Right (cnt bs) (cnt bs) (getTs bs (cnt bs)) ∧ Clean bs (cnt bs) then 0 else 3 := by
    unfold gerr
    rw [HH.out.2.2, if_neg n1]
  have hbox0 := cell_of_row W2 w.heap.size 0 _ _ (0, 0) HB.out.box
  have hbox1 := cell_of_row W2 w.heap.size 1 _ _ (0, 0) HB.out.box
  simp only [List.getElem?_toArray, List.getElem?_cons_zero, List.getElem?_cons_succ] at hbox0 hbox1
  have hbf : ∀ o, W2.frozen? ⟨w.heap.size, o, none⟩ = false := fun o => by simp [World.frozen?, HB.out.box]
  have hset : Below w.heap.size w ((W2.setCell ⟨w.heap.size, 0, none⟩ (.slice none 0 0)).setCell ⟨w.heap.size, 1, none⟩ (.slice none 0 0)) := (HB.out.bel.setCell (Nat.le_refl _) _).setCell (Nat.le_refl _) _
  have HS := Lib.hid hset
  have HG := Lib.hid hge
  clear hge hset hor g0 g1 hb1'
  have HP := Lib.hid (show ∀ (w' : World) (e : Ending), (gerr bs ≠ 0 ∧ e = .returned (.tuple #[.agg #[.slice none 0 0, .slice none 0 0], .int .i64 0, .int .i64 (gerr bs : Nat)]) ∧ Below w.heap.size w w') → GetPost bs w e w' from fun _ _ h => .inl h)
  generalize hk : cnt bs = k at HG ⊢
  have HK2 := Lib.hid hk
  clear hk
  by_cases hbad : k = 0 ∨ 4096 < k
  · rw [if_pos hbad] at HG
    have hkbad : ¬ (k : Int) = 0 → (4096 : Int) < k := fun h => by omega
    by_cases k0 : (k : Int) = 0
    · clear hkbad
      go_wp2
      refine bodyPost_ret (v := .tuple #[.agg #[.slice none 0 0, .slice none 0 0], .int .i64 0, .int .i64 3]) ?_ rfl (HP.out _ _ ⟨by rw [HG.out]; decide, by rw [HG.out]; rfl, HS.out⟩)
      simp [results, Try.results14, go_sem, *]
    · have k1 := hkbad k0
      clear hkbad
      go_wp2
      refine bodyPost_ret (v := .tuple #[.agg #[.slice none 0 0, .slice none 0 0], .int .i64 0, .int .i64 3]) ?_ rfl (HP.out _ _ ⟨by rw [HG.out]; decide, by rw [HG.out]; rfl, HS.out⟩)
      simp [results, Try.results14, go_sem, *]
  rw [if_neg hbad] at HG
  have k1 : 1 ≤ k := by omega
  have k2 : k ≤ 4096 := by omega
  have hsl := siz_le k k2
  clear hbad
  have k0 : ¬ (k : Int) = 0 := by omega
  have k3 : ¬ (4096 : Int) < k := by omega
  by_cases n2 : n < siz k
  · rw [if_pos n2] at HG
    have n3 : (n : Int) < siz k := by omega
    go_wp2_with fail
    refine (size_any k (by omega) _).mono ?_
    rintro e w3 ⟨rfl, rfl⟩
    go_wp2
    refine bodyPost_ret (v := .tuple #[.agg #[.slice none 0 0, .slice none 0 0], .int .i64 0, .int .i64 10]) ?_ rfl (HP.out _ _ ⟨by rw [HG.out]; decide, by rw [HG.out]; rfl, HS.out⟩)
    simp [results, Try.results14, go_sem, *]
  rw [if_neg n2] at HG
  have n3 : ¬ (n : Int) < siz k := by omega
  go_wp2_with fail
  refine (size_any k (by omega) _).mono ?_
  rintro e w3 ⟨rfl, rfl⟩
  have hm1 := make_ints k (by omega)
  have hm2 := make_bools k (by omega)
  rw [rowp_zero bs] at hm1
  rw [rowh_zero bs] at hm2
  clear hbox0 hbox1 hbf HS
  go_upto_region 8 with fail
  go_cut [6, 41, 43] (fun v va vb wx => ∃ x a b, v = .pointer (some ⟨x, 0, none⟩) ∧ va = .slice (some ⟨a, 0, none⟩) k k ∧ vb = .slice (some ⟨b, 0, none⟩) k k ∧ Rows3 w.heap.size w wx x a b k (rowp bs k 0 0) (rowh bs k 0))
  case first =>
    have hbx := HB.out.box
    have hbl := HB.out.bel
    have hlt := (Array.getElem?_eq_some_iff.1 hbx).1
    go_region
    all_goals
      go_wp2_with fail
      go_meet
      refine ⟨_, _, _, rfl, rfl, rfl, ?_⟩
      constructor
      all_goals first | omega | (simp only [heap_drew]; exact at_old (at_old (at_old hbx (by omega)) (by simp; omega)) (by simp; omega)) | (simp only [heap_drew]; (repeat (first | exact at_alloc (by first | rfl | (simp; done) | (simp; omega)) | refine at_old ?_ (by first | (simp; done) | (simp; omega)))); done) | ((repeat (first | exact Below.refl _ _ | assumption | (refine Below.setCell ?_ (by first | (simp; done) | (simp; omega) | omega) _) | (refine Below.alloc ?_ (by first | (simp; done) | (simp; omega) | omega) _) | (refine Below.drew ?_) | (refine Below.drewN ?_ _) | (refine Below.trans ?_ (Below.mono (by assumption) (by first | (simp; done) | (simp; omega) | omega))))); done)
  case rest =>
  obtain ⟨x, a, b, rfl, rfl, rfl, hr⟩ := hcut
  have HR := Lib.hid hr
  have x0 := cell_of_row wc x 0 _ _ (0, 0) hr.bx
  simp only [List.getElem?_toArray, List.getElem?_cons_zero, List.getElem?_cons_succ] at x0
  have hsz : siz k = 2 + k * wid k + (k + 7) / 8 := rfl
  have hwk : wid k = 1 ∨ wid k = 2 := by rcases wid_cases k with ⟨_, e⟩ | ⟨_, e⟩ <;> omega
  have HSZ := Lib.hid (And.intro hsz hwk)
  clear hr hm1 hm2 HB hsz hwk
  go_wp2_with fail
  go_loopw [7, 48] (fun at_ i wr => ∃ t : Nat, t ≤ k ∧ i = .int .i64 t ∧ at_ = .int .i64 (2 + t * wid k : Nat) ∧ Rows3 w.heap.size w wr x a b k (rowp bs k t 0) (rowh bs k 0)) (fun _ i _ => k - (intOf i).toNat)
  case atStart => exact ⟨0, by omega, rfl, by simp, HR.out⟩
  case round =>
    obtain ⟨t, ht, rfl, rfl, hr⟩ := hrel
    have H1 := Lib.hid hr
    by_cases hlt : t < k
    · have hwA := Lib.hid (wide_any k wr)
      have htw : t * wid k + wid k ≤ k * wid k := by rw [← Nat.succ_mul]; exact Nat.mul_le_mul_right _ hlt
      have HTW := Lib.hid htw
      clear hr htw
      go_wp2_with fail
      refine (hwA.out).mono ?_
      rintro e1 w5 ⟨rfl, rfl⟩
      clear hwA
      go_wp2_with fail
      go_loopw [7, 53] (fun at_ i wt => ∃ j : Nat, j ≤ wid k ∧ i = .int .i64 j ∧ at_ = .int .i64 (2 + t * wid k + j : Nat) ∧ Rows3 w.heap.size w wt x a b k (rowp bs k t j) (rowh bs k 0)) (fun _ i _ => wid k - (intOf i).toNat)
      case atStart => exact ⟨0, by omega, rfl, by simp, H1.out⟩
      case round =>
        obtain ⟨j, hj, rfl, rfl, hr⟩ := hrel
        have H2 := Lib.hid hr
        by_cases hjl : j < wid k
        · have hbd : 2 + t * wid k + j < n := by have h1 := HTW.out; have h2 := HSZ.out.1; omega
          have hwb : wid k ≤ 2 := by have := HSZ.out.2; omega
          have fb : wr.cell? ⟨b1, o1 + (2 + t * wid k + j), none⟩ = some (.int .u8 (bs.getD (2 + t * wid k + j) 0 : Nat)) := (hr.bel.cell (p := ⟨b1, _, none⟩) hb1).trans (HC.out _ hbd)
          have hpj : part bs k t (j + 1) = part bs k t j * 256 + bs.getD (2 + t * wid k + j) 0 := rfl
          have hy := HH.out.2.1 (2 + t * wid k + j)
          have hp := part_byte HH.out.2.1 k t j hjl
          have x0 := cell_of_row wr x 0 _ _ (0, 0) hr.bx
          simp only [List.getElem?_toArray, List.getElem?_cons_zero, List.getElem?_cons_succ] at x0
          have a0 : wr.cell? ⟨a, t, none⟩ = some (.int .i64 (part bs k t j : Nat)) := by
            rw [cell_of_row wr a t _ _ (0, 0) hr.ra, rowp_get _ _ _ _ hlt]
          have af : wr.frozen? ⟨a, t, none⟩ = false := by simp [World.frozen?, hr.ra]
          have hset := (hr.seta t (.int .i64 (part bs k t (j + 1) : Nat))).drew
          rw [rowp_set bs k t j hlt] at hset
          have HSET := Lib.hid hset
          have hxl : x < wr.heap.size := (Array.getElem?_eq_some_iff.1 hr.bx).1
          have hs1 : b1 < wr.heap.size := by have := (Array.getElem?_eq_some_iff.1 hr.box).1; omega
          have ht0 : (0 : Int) ≤ t := by omega
          have ht1 : (t : Int) < k := by omega
          generalize t * wid k = tw at hbd fb hy hpj HTW ⊢
          have hb0 : (0 : Int) ≤ (2 + tw + j : Nat) := by omega
          have hb2 : ((2 + tw + j : Nat) : Int) < n := by omega
          generalize hat : 2 + tw + j = at2 at hbd fb hy hpj hb0 hb2 ⊢
          have HAT := Lib.hid hat
          generalize bs.getD at2 0 = y at fb hy hpj
          generalize part bs k t (j + 1) = q at hpj HSET
          generalize part bs k t j = p at a0 hp hpj
          have hor : bits .or .i64 ((p : Int) * 256) y = (q : Nat) := by rw [or_byte p y (by omega) hy, hpj]; omega
          have hj1 : (j : Int) < wid k := by omega
          generalize wid k = wk at hj hjl hwb hj1 HTW HSZ ⊢
          have hq : q < 1000000 := by omega
          have HW := Lib.hid hwb
          have hpi : (p : Int) < 256 := by omega
          have hyi : (y : Int) < 256 := by omega
          clear hr hset hpj hat hbd
          go_upto_region 15 with fail
          go_region
          first | rw [hor] | skip
          clear a0 af x0 fb hor
          go_wp2
          go_roundw
          case rel => exact ⟨j + 1, by omega, by go_num, by have := HAT.out; go_num, HSET.out⟩
          case measure => simp [intOf]; omega
        · have ej : j = wid k := by omega
          have hnx := rowp_next bs k t
          rw [ej, hnx] at hr
          have HN := Lib.hid hr
          have hwb : wid k ≤ 2 := by have := HSZ.out.2; omega
          have ht1 : (t : Int) < k := by omega
          have e5 : (2 + (t + 1) * wid k : Nat) = 2 + t * wid k + wid k := by rw [Nat.succ_mul]; omega
          have E5 := Lib.hid e5
          have htw5 : t * wid k ≤ 10000 := by have h1 := HTW.out; have h2 := HSZ.out.1; omega
          rw [ej]
          clear hr hnx H2 hj hjl ej e5
          generalize htw : t * wid k = tw at htw5 E5 ⊢
          have hjw : ¬ ((wid k : Nat) : Int) < (wid k : Nat) := by omega
          go_wp2
          go_roundw
          case rel => exact ⟨t + 1, by omega, by go_num, by rw [E5.out], HN.out⟩
          case measure => simp [intOf]; omega
    · obtain rfl : t = k := by omega
      have hge0 : siz t = 2 + t * wid t + (t + 7) / 8 := HSZ.out.1
      have hm8 : 1 ≤ (t + 7) / 8 := by omega
      have H8 := Lib.hid (show ∀ i, i < t → i / 8 < (t + 7) / 8 from fun i hi => by omega)
      have HGH := Lib.hid (show ∀ i, getH bs t i = decide (bs.getD (2 + t * wid t + i / 8) 0 / 2 ^ (i % 8) % 2 = 1) from fun _ => rfl)
      have HCL := Lib.hid (show Clean bs t ↔ (t % 8 = 0 ∨ bs.getD (siz t - 1) 0 / 2 ^ (t % 8) = 0) from Iff.rfl)
      have HSA := Lib.hid (fun W => size_any t (by omega) W)
      clear hr HR x0 HSZ
      generalize hs : siz t = sz at hge0 n2 n3 hsl HCL HSA
      generalize 2 + t * wid t = at0 at hge0 HGH ⊢
      generalize (t + 7) / 8 = m8 at hge0 hm8 H8
      have HSS := Lib.hid (And.intro hs hge0)
      have ha1 : (at0 : Int) ≤ sz := by omega
      have ha2 : (sz : Int) ≤ c := by omega
      have ha3 : sz - at0 = m8 := by omega
      have hlt' : ¬ (t : Int) < t := by omega
      clear hs hge0
      go_wp2_with fail
      refine (HSA.out _).mono ?_
      rintro e6 w6 ⟨rfl, rfl⟩
      have x1 := cell_of_row wr x 1 _ _ (0, 0) H1.out.bx
      simp only [List.getElem?_toArray, List.getElem?_cons_zero, List.getElem?_cons_succ] at x1
      go_wp2_with fail
      clear x1
      go_loopw [83] (fun i wt => ∃ j : Nat, j ≤ t ∧ i = .int .i64 j ∧ Rows3 w.heap.size w wt x a b t (rowp bs t t 0) (rowh bs t j)) (fun i _ => t - (intOf i).toNat)
      case atStart => exact ⟨0, by omega, rfl, H1.out⟩
      case round =>
        obtain ⟨j, hj, rfl, hr⟩ := hrel
        have H2 := Lib.hid hr
        by_cases hlt : j < t
        · have hq8 := H8.out j hlt
          have fb : wr.cell? ⟨b1, o1 + (at0 + j / 8), none⟩ = some (.int .u8 (bs.getD (at0 + j / 8) 0 : Nat)) := (hr.bel.cell (p := ⟨b1, _, none⟩) hb1).trans (HC.out _ (by have := HSS.out.2; omega))
          have hy := HH.out.2.1 (at0 + j / 8)
          have hgh := HGH.out j
          have x1 := cell_of_row wr x 1 _ _ (0, 0) hr.bx
          simp only [List.getElem?_toArray, List.getElem?_cons_zero, List.getElem?_cons_succ] at x1
          have a0 : wr.cell? ⟨b, j, none⟩ = some (.bool false) := by
            rw [cell_of_row wr b j _ _ (0, 0) hr.rb, rowh_get _ _ _ hlt]
          have af : wr.frozen? ⟨b, j, none⟩ = false := by simp [World.frozen?, hr.rb]
          have hset := (hr.setb j (.bool (getH bs t j))).drew
          rw [rowh_set bs t j hlt] at hset
          have hxl : x < wr.heap.size := (Array.getElem?_eq_some_iff.1 hr.bx).1
          have hs1 : b1 < wr.heap.size := by have := (Array.getElem?_eq_some_iff.1 hr.box).1; omega
          have ht0 : (0 : Int) ≤ j := by omega
          have ht1 : (j : Int) < t := by omega
          have hq9 : ((j : Int) / 8) < m8 := by omega
          rw [← Nat.add_assoc] at fb
          generalize bs.getD (at0 + j / 8) 0 = y at fb hy hgh
          have hyi : (y : Int) < 256 := by omega
          have hpos : 0 < 2 ^ (j % 8) := Nat.pow_pos (by decide)
          have hdl : y / 2 ^ (j % 8) < 256 := Nat.lt_of_le_of_lt (Nat.div_le_self _ _) hy
          have hand : bits .and .u8 ((y : Int) / 2 ^ (j % 8)) 1 = ((y / 2 ^ (j % 8) % 2 : Nat) : Int) := by
            rw [← and_one _ hdl]; simp
          have HAND := Lib.hid hand
          have HGJ := Lib.hid hgh
          have HSET := Lib.hid hset
          clear hr hset hgh hand hdl hpos
          go_upto_region 23 with fail
          go_region
          have hval : (bits .and .u8 ((y : Int) / 2 ^ (j % 8)) 1 == 1) = getH bs t j := by
            rw [HAND.out, HGJ.out, Bool.eq_iff_iff]
            simp only [beq_iff_eq, decide_eq_true_eq]
            omega
          rw [hval]
          clear a0 af x1 fb hval
          go_wp2
          go_roundw
          case rel => exact ⟨j + 1, by omega, by go_num, HSET.out⟩
          case measure => simp [intOf]; omega
        · obtain rfl : j = t := by omega
          have hft := hr.fun_
          have hxl : x < wr.heap.size := (Array.getElem?_eq_some_iff.1 hr.bx).1
          have hBl : w.heap.size < wr.heap.size := (Array.getElem?_eq_some_iff.1 hr.box).1
          have x0 := cell_of_row wr x 0 _ _ (0, 0) hr.bx
          have x1 := cell_of_row wr x 1 _ _ (0, 0) hr.bx
          have z0 := cell_of_row wr w.heap.size 0 _ _ (0, 0) hr.box
          have z1 := cell_of_row wr w.heap.size 1 _ _ (0, 0) hr.box
          simp only [List.getElem?_toArray, List.getElem?_cons_zero, List.getElem?_cons_succ] at x0 x1 z0 z1
          have zf : ∀ o, wr.frozen? ⟨w.heap.size, o, none⟩ = false := fun o => by simp [World.frozen?, hr.box]
          have fb : wr.cell? ⟨b1, o1 + at0 + (m8 - 1), none⟩ = some (.int .u8 (bs.getD (sz - 1) 0 : Nat)) := by
            rw [show sz - 1 = at0 + (m8 - 1) by omega, Nat.add_assoc]
            exact (hr.bel.cell (p := ⟨b1, _, none⟩) hb1).trans (HC.out _ (by have := HSS.out.2; omega))
          have hy := HH.out.2.1 (sz - 1)
          have hs1 : b1 < wr.heap.size := by omega
          have HRA := Lib.hid (right_any j j (getTs bs j) (getHs bs j) (some ⟨a, 0, none⟩) (some ⟨b, 0, none⟩) j j wr hft)
          have HSB := Lib.hid (show Below w.heap.size w ((wr.setCell ⟨w.heap.size, 0, none⟩ (.slice none 0 0)).setCell ⟨w.heap.size, 1, none⟩ (.slice none 0 0)) from (hr.bel.setCell (Nat.le_refl _) _).setCell (Nat.le_refl _) _)
          generalize bs.getD (sz - 1) 0 = y at fb hy HCL
          have hyi : (y : Int) < 256 := by omega
          have hm9 : (0 : Int) < m8 := by omega
          have hm7 : ((m8 : Int) - 1).toNat = m8 - 1 := by omega
          clear hr hft
          by_cases hcl : Clean bs j
          case neg =>
            have hy0 : ¬ (j % 8 = 0) ∧ ¬ (y / 2 ^ (j % 8) = 0) := ⟨fun h => hcl (HCL.out.2 (.inl h)), fun h => hcl (HCL.out.2 (.inr h))⟩
            have hr8 : (0 : Int) < (j : Int) % 8 := by omega
            have hsh : ¬ ((y : Int) / 2 ^ (j % 8) = 0) := fun h => hy0.2 (by
              have : (((y / 2 ^ (j % 8) : Nat)) : Int) = 0 := by rw [← h]; simp
              omega)
            have hge : gerr bs = 3 := by rw [HG.out, if_neg (fun h => hcl h.2)]
            have HGE := Lib.hid hge
            clear hcl hge hy0
            go_wp2_with fail
            refine bodyPost_ret (v := .tuple #[.agg #[.slice none 0 0, .slice none 0 0], .int .i64 0, .int .i64 3]) ?_ rfl (HP.out _ _ ⟨by rw [HGE.out]; decide, by rw [HGE.out]; rfl, HSB.out⟩)
            simp [results, Try.results14, go_sem, *]
          have hor2 : (¬ (0 : Int) < (j : Int) % 8) ∨ ((0 : Int) < (j : Int) % 8 ∧ (y : Int) / 2 ^ (j % 8) = 0) := by
            by_cases h8 : j % 8 = 0
            · exact .inl (by omega)
            · refine .inr ⟨by omega, ?_⟩
              have h0 := (HCL.out.1 hcl).resolve_left h8
              have : (((y / 2 ^ (j % 8) : Nat)) : Int) = 0 := by rw [h0]; rfl
              rw [← this]; simp
          have HCC := Lib.hid hcl
          clear hcl
          rcases hor2 with hj0 | ⟨hr8, hsh⟩
          all_goals
            go_wp2_with fail
            refine HRA.out.mono ?_
            rintro e7 w7 ⟨rfl, hb7⟩
            have H7 := Lib.hid (H2.out.below hb7)
            have hxl7 : x < w7.heap.size := Nat.lt_of_lt_of_le hxl hb7.size
            have hBl7 : w.heap.size < w7.heap.size := Nat.lt_of_lt_of_le hBl hb7.size
            clear x0 x1 z0 z1 zf fb hb7 HSB
            have x0 := cell_of_row w7 x 0 _ _ (0, 0) H7.out.bx
            have x1 := cell_of_row w7 x 1 _ _ (0, 0) H7.out.bx
            have z0 := cell_of_row w7 w.heap.size 0 _ _ (0, 0) H7.out.box
            have z1 := cell_of_row w7 w.heap.size 1 _ _ (0, 0) H7.out.box
            simp only [List.getElem?_toArray, List.getElem?_cons_zero, List.getElem?_cons_succ] at x0 x1 z0 z1
            have zf : ∀ o, w7.frozen? ⟨w.heap.size, o, none⟩ = false := fun o => by simp [World.frozen?, H7.out.box]
            by_cases hrt : Right j j (getTs bs j)
            · have hge : gerr bs = 0 := by rw [HG.out, if_pos ⟨hrt, HCC.out⟩]
              have HGE := Lib.hid hge
              rw [decide_eq_true hrt]
              have hfn : OwnF w.heap.size (((w7.setCell ⟨w.heap.size, 0, none⟩ (.slice (some ⟨a, 0, none⟩) j j)).setCell ⟨w.heap.size, 1, none⟩ (.slice (some ⟨b, 0, none⟩) j j)).drew) a b j (getTs bs j) (getHs bs j) := by
                have hla := H7.out.la
                have hlb := H7.out.lb
                refine OwnF.mk' ?_ ?_ (by omega) (by omega) (by omega)
                · rw [heap_drew, heap_setCell_other _ _ _ _ (by show a ≠ w.heap.size; omega), heap_setCell_other _ _ _ _ (by show a ≠ w.heap.size; omega)]; exact H7.out.ra
                · rw [heap_drew, heap_setCell_other _ _ _ _ (by show b ≠ w.heap.size; omega), heap_setCell_other _ _ _ _ (by show b ≠ w.heap.size; omega)]; exact H7.out.rb
              have hbe : Below w.heap.size w ((w7.setCell ⟨w.heap.size, 0, none⟩ (.slice (some ⟨a, 0, none⟩) j j)).setCell ⟨w.heap.size, 1, none⟩ (.slice (some ⟨b, 0, none⟩) j j)) := (H7.out.bel.setCell (Nat.le_refl _) _).setCell (Nat.le_refl _) _
              have HF := Lib.hid (show GetPost bs w (.returned (.tuple #[.agg #[.slice (some ⟨a, 0, none⟩) j j, .slice (some ⟨b, 0, none⟩) j j], .int .i64 sz, .int .i64 0])) ((w7.setCell ⟨w.heap.size, 0, none⟩ (.slice (some ⟨a, 0, none⟩) j j)).setCell ⟨w.heap.size, 1, none⟩ (.slice (some ⟨b, 0, none⟩) j j)).drew from
                .inr ⟨hge, a, b, by rw [HK2.out, HSS.out.1], by rw [HK2.out]; exact hfn, hbe.drew⟩)
              clear hge hrt hfn hbe
              go_upto_region 27 with fail
              go_region_with (first | (go_at_call 43; refine (HSA.out _).mono ?_; rintro e8 w8 ⟨rfl, rfl⟩))
              all_goals
                clear x0 x1
                go_wp2_with fail
                refine bodyPost_ret (v := .tuple #[.agg #[.slice (some ⟨a, 0, none⟩) j j, .slice (some ⟨b, 0, none⟩) j j], .int .i64 sz, .int .i64 0]) ?_ rfl HF.out
                simp [results, Try.results14, go_sem, *]
            · have hge : gerr bs = 3 := by rw [HG.out, if_neg (fun h => hrt h.1)]
              have HGE := Lib.hid hge
              have HSB := Lib.hid (show Below w.heap.size w ((w7.setCell ⟨w.heap.size, 0, none⟩ (.slice none 0 0)).setCell ⟨w.heap.size, 1, none⟩ (.slice none 0 0)) from (H7.out.bel.setCell (Nat.le_refl _) _).setCell (Nat.le_refl _) _)
              rw [decide_eq_false hrt]
              clear hge hrt
              go_wp2_with fail
              refine bodyPost_ret (v := .tuple #[.agg #[.slice none 0 0, .slice none 0 0], .int .i64 0, .int .i64 3]) ?_ rfl (HP.out _ _ ⟨by rw [HGE.out]; decide, by rw [HGE.out]; rfl, HSB.out⟩)
              simp [results, Try.results14, go_sem, *]
end Go.Proofs.Ytghghioidllgiaa.Pk
