/- The walks of marks.All and of the page's own Move. -/
import Derived.Test.YtloljnpnoohglaaMarksW
import Derived.Test.YtloljnpnoohglaaSl
namespace Go.Proofs.Ytloljnpnoohglaa.Marks
set_option linter.unusedSimpArgs false
set_option linter.unusedVariables false
open Go.RowKit
attribute [local go_sem] lt_add1 lt_self1 size_ne size_ne' size_ne1 size_ne1'

def mvr (m : Int) (r : Bool) (a o i : Int) : Int := if m < a then m else if m = a ∧ r = false then m else if wrap64 (a + o) ≤ m then wrap64 (wrap64 (m - o) + i) else a
theorem mv_ref (m : Int) (r : Bool) (a o i : Int) (hm : -9223372036854775808 ≤ m ∧ m ≤ 9223372036854775807) : mvr m r a o i = mv m r a o i := by
  unfold mv mvr
  split
  · rfl
  · split
    · rfl
    · split
      · unfold wrap64; omega
      · rfl

set_option maxHeartbeats 400000 in
theorem ref_any (m : Int) (r : Bool) (a o i : Int) (hm : -9223372036854775808 ≤ m ∧ m ≤ 9223372036854775807) (w : World) :
    Calls Try.prog 20 #[.agg #[.int .i64 m, .bool r], .int .i64 a, .int .i64 o, .int .i64 i] w fun e w' => e = .returned (.agg #[.int .i64 (mv m r a o i), .bool r]) ∧ Below w.heap.size w w' := by
  rw [← mv_ref m r a o i hm]
  go_enter Try.func20, Try.ntmps20
  go_wp2
  all_goals
    refine bodyPost_ret (v := .agg #[.int .i64 (mvr m r a o i), .bool r]) ?_ rfl ⟨rfl, by (repeat (first | exact Below.refl _ _ | assumption | (refine Below.setCell ?_ (by first | (simp; done) | (simp; omega) | omega) _) | (refine Below.alloc ?_ (by first | (simp; done) | (simp; omega) | omega) _) | (refine Below.drew ?_) | (refine Below.drewN ?_ _) | (refine Below.trans ?_ (Below.mono (by assumption) (by first | (simp; done) | (simp; omega) | omega)))))⟩
    simp [results, Try.results20, go_sem]
    unfold mvr
    (repeat' split) <;> (try simp_all) <;> omega

theorem mark_info : (Try.prog.info? 23).map (fun i => (i.zero, i.size, i.bytes)) = some (some (.agg #[.int .i64 0, .bool false]), 2, 16) := by kernel_rfl

/-- a mark's two cells. -/
def mcells (x : Int × Bool) : List Value := [.int .i64 x.1, .bool x.2]
/-- cell j of mark i. -/
def mcell (l : List (Int × Bool)) (i j : Nat) : Value := (mcells (l.getD i (0, false))).getD j undef
/-- the marks behind an edit. -/
def moved (l : List (Int × Bool)) (a o n : Int) (i : Nat) : List Value := mcells (mv (l.getD i (0, false)).1 (l.getD i (0, false)).2 a o n, (l.getD i (0, false)).2)

set_option maxHeartbeats 1000000 in
theorem all_any (l : List (Int × Bool)) (A : Option Addr) (cap : Nat) (a o : Int) (s : ByteArray) (w : World) (hl : l.length ≤ 1000) (hs : SlAt w w.heap.size 2 l.length A (mcell l)) :
    Calls Try.prog 19 #[.slice A l.length cap, .agg #[.int .i64 a, .int .i64 o, .string s]] w fun e w' => ∃ v, e = .returned v ∧ w'.ownsRow w.heap.size 23 2 v l.length (flat (moved l a o s.size) l.length) ∧ Below w.heap.size w w' := by
  obtain ⟨i0, hi, hz0, hz1, hz2⟩ := info_parts mark_info
  have HS := Lib.hid hs
  clear hs
  go_enter Try.func19, Try.ntmps19
  go_wp2
  go_loopw [5, 10] (fun v i wr => ∃ k : Nat, k ≤ l.length ∧ i = .int .i64 k ∧ wr.ownsRow (w.heap.size + 1) 23 2 v k (flat (moved l a o s.size) k) ∧ Below w.heap.size w wr ∧ w.heap.size < wr.heap.size ∧
      wr.cell? ⟨w.heap.size, 0, none⟩ = some (.int .i64 a) ∧ wr.cell? ⟨w.heap.size, 1, none⟩ = some (.int .i64 o) ∧ wr.cell? ⟨w.heap.size, 2, none⟩ = some (.string s)) (fun _ i _ => l.length - (intOf i).toNat)
  case atStart =>
    refine ⟨0, Nat.zero_le _, rfl, World.ownsRow_nil _ _ _ _, by (repeat (first | exact Below.refl _ _ | assumption | (refine Below.setCell ?_ (by first | (simp; done) | (simp; omega) | omega) _) | (refine Below.alloc ?_ (by first | (simp; done) | (simp; omega) | omega) _) | (refine Below.drew ?_) | (refine Below.drewN ?_ _) | (refine Below.trans ?_ (Below.mono (by assumption) (by first | (simp; done) | (simp; omega) | omega))))), by simp, ?_, ?_, ?_⟩ <;> simp [go_sem]
  case round =>
    obtain ⟨k, hk, rfl, hown, hbel, hlt, e0, e1, e2⟩ := hrel
    have HB := Lib.hid hbel
    clear hbel
    by_cases hlt2 : k < l.length
    · obtain ⟨b, off, rfl, hb, hcs⟩ := HS.out (by omega)
      have f0 : wr.cell? ⟨b, off + k * 2, none⟩ = some (.int .i64 (l.getD k (0, false)).1) := (HB.out.cell (p := ⟨b, _, none⟩) hb).trans (hcs k 0 hlt2 (by omega))
      have f1 : wr.cell? ⟨b, off + k * 2 + 1, none⟩ = some (.bool (l.getD k (0, false)).2) := (HB.out.cell (p := ⟨b, _, none⟩) hb).trans (hcs k 1 hlt2 (by omega))
      generalize hx : l.getD k (0, false) = x at f0 f1
      obtain ⟨x, r⟩ := x
      simp only at f0 f1
      have HX := Lib.hid hx
      clear hx hcs
      have hbw : b < wr.heap.size := by omega
      go_wp2_with fail
      refine (move_any _ _ _ _ _ _).mono ?_
      rintro e w2 ⟨rfl, hb2⟩
      have hown2 := own_below (hown.alloc (.cells #[.int .i64 x, .bool r] 23)) hb2
      obtain ⟨hc2, hf2, hs2⟩ := bcell3 hb2
      have d0 := (hc2 w.heap.size 0 (by simp; omega)).trans ((World.cell?_alloc_past _ _ _ hlt).trans e0)
      have d1 := (hc2 w.heap.size 1 (by simp; omega)).trans ((World.cell?_alloc_past _ _ _ hlt).trans e1)
      have d2 := (hc2 w.heap.size 2 (by simp; omega)).trans ((World.cell?_alloc_past _ _ _ hlt).trans e2)
      have hsz : w.heap.size < w2.heap.size := hs2 _ (by simp; omega)
      have HB2 := Lib.hid ((HB.out.alloc (by omega) (.cells #[.int .i64 x, .bool r] 23)).trans (hb2.mono (by simp; omega)))
      clear hb2 hc2 hf2 hs2 hown f0 f1 e0 e1 e2 HB
      go_wp2_with (at_builtin; refine wpList_append_own _ rfl _ _ 31 rfl (w.heap.size + 1) 23 i0 (.agg #[.int .i64 0, .bool false]) 2 16 Try.underlying31 hi hz0 hz1 hz2 rfl (by decide) _ _ _ rfl (hown2.alloc _) ⟨w2.heap.size, 0, none⟩ 1 1 [.int .i64 (mv x r a o s.size), .bool r] rfl rfl ?c1 ?c2 ?c3 ?c4 ?c5 ?_)
      case c1 => intro j u hj; match j, hj with | 0, hj => (simp at hj; subst hj; simp [Addr.add]) | 1, hj => (simp at hj; subst hj; simp [Addr.add])
      case c2 => intro u hu; simp at hu; rcases hu with rfl | rfl <;> rfl
      case c3 => unfold maxLen; omega
      case c4 => omega
      case c5 => simp; omega
      intro v' w3 hown3 hgrow _
      have hown2' := hown2.alloc (.cells #[.int .i64 (mv x r a o s.size), .bool r] 23)
      have hgc := grow_cell hgrow hown2' (b := w.heap.size) (by omega) (by simp; omega)
      have g0 := (hgc 0).trans ((World.cell?_alloc_past _ _ _ hsz).trans d0)
      have g1 := (hgc 1).trans ((World.cell?_alloc_past _ _ _ hsz).trans d1)
      have g2 := (hgc 2).trans ((World.cell?_alloc_past _ _ _ hsz).trans d2)
      have HB3 := Lib.hid (grow_below (HB2.out.alloc (by omega) _) hgrow hown2' (by omega) (by simp; omega))
      have hsz3 : w.heap.size < w3.heap.size := by have := hgrow.size; simp at this; omega
      clear hgrow hown2 hown2' hgc d0 d1 d2 HB2 hsz
      go_wp2
      go_roundw
      case rel =>
        refine ⟨k + 1, by omega, by go_num, ?_, HB3.out, hsz3, g0, g1, g2⟩
        rw [flat_succ]
        unfold moved
        rw [HX.out]
        exact hown3
      case measure => simp [intOf]; omega
    · go_wp2
      go_ret
      obtain rfl : k = l.length := by omega
      exact ⟨_, rfl, own_base hown (by omega), HB.out⟩

end Go.Proofs.Ytloljnpnoohglaa.Marks
