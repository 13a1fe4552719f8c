
/- May an automaton be: the program's and the page's answer. -/
import Derived.Test.YtapanoalhhlphaaVecR
namespace Go.Proofs.Ytapanoalhhlphaa.Vec
set_option linter.unusedSimpArgs false
set_option linter.unusedVariables false
open Go Go.RowKit
attribute [local go_sem] lt_add1 lt_self1 size_ne size_ne' size_ne1 size_ne1'

theorem closureW (n : Int) (B1 : Nat) (w : World) (hB : B1 < w.heap.size) (hc : w.cell? ⟨B1, 0, none⟩ = some (.int .i64 n)) : ∀ W x, Below w.heap.size w W →
    Calls Try.prog 25 (#[.int .i64 x] ++ #[.pointer (some ⟨B1, 0, none⟩)]) W fun e w' => e = .returned (.bool (decide (x < 0) || decide (n ≤ x))) ∧ Below W.heap.size W w' := by
  intro W x hW
  have f1 := (hW.cell (p := ⟨B1, 0, none⟩) hB).trans hc
  clear hc hW
  show Calls Try.prog 25 #[.int .i64 x, .pointer (some ⟨B1, 0, none⟩)] W _
  go_enter Try.func25, Try.ntmps25
  by_cases h : x < 0
  · go_wp2
    go_ret
    exact ⟨ret_bool (by simp [h]), Below.refl _ _⟩
  · go_wp2
    go_ret
    exact ⟨ret_bool (by first | (simp; done) | (simp; omega)), Below.refl _ _⟩
def Within (xs : List Int) (n : Int) : Prop := ∀ s ∈ xs, 0 ≤ s ∧ s < n
instance (xs : List Int) (n : Int) : Decidable (Within xs n) := by unfold Within; infer_instance
set_option maxHeartbeats 1000000 in
theorem within_any (xs : List Int) (k : Nat) (hk : xs.length = k) (n : Int) (hbig : k ≤ 1099511627776) (A : Option Addr) (c : Nat) (w : World) (hs : SlI w w.heap.size k A (iv xs)) :
    Calls Try.prog 23 #[.slice A k c, .int .i64 n] w fun e w' => e = .returned (.bool (decide (Within xs n))) ∧ Below w.heap.size w w' := by
  have eg : ∀ args w, (callFunc 25 args).run Try.prog w = .ok (.enter 25 args) w := enters_of Try.func25 (by kernel_rfl) rfl
  have hC : ∀ W, Below w.heap.size w W → w.heap.size < W.heap.size → W.cell? ⟨w.heap.size, 0, none⟩ = some (.int .i64 n) → Calls Try.prog 18 #[.slice A k c, .func (.func 25) #[] #[.pointer (some ⟨w.heap.size, 0, none⟩)]] W
      fun e w' => e = .returned (.bool (xs.any fun x => decide (x < 0) || decide (n ≤ x))) ∧ Below W.heap.size W w' := fun W hW hlt hcell =>
    contains_func xs k hk (by omega) A c _ _ _ W eg (hs.next hW) (closureW n _ W hlt hcell)
  have HC := Lib.hid hC
  have hR : decide (Within xs n) = !(xs.any fun x => decide (x < 0) || decide (n ≤ x)) := by
    rw [Bool.eq_iff_iff]
    simp only [decide_eq_true_eq, Bool.not_eq_true', List.any_eq_false, Bool.or_eq_true, not_or]
    unfold Within
    constructor
    · intro h x hx; have := h x hx; omega
    · intro h x hx; have := h x hx; omega
  have HR := Lib.hid hR
  clear hC hR eg hs
  generalize (xs.any fun x => decide (x < 0) || decide (n ≤ x)) = r at HC HR
  go_enter Try.func23, Try.ntmps23
  go_wp2_with fail
  refine (HC.out _ (by (repeat (first | exact Below.refl _ _ | assumption | (refine Below.setCell ?_ (by first | (simp; done) | (simp; omega) | omega) _) | (refine Below.alloc ?_ (by first | (simp; done) | (simp; omega) | omega) _) | (refine Below.drew ?_) | (refine Below.drewN ?_ _) | (refine Below.trans ?_ (Below.mono (by assumption) (by first | (simp; done) | (simp; omega) | omega)))))) (by simp) (by simp [go_sem])).mono ?_
  rintro e w' ⟨rfl, hb⟩
  have HB := Lib.hid hb
  clear hb
  go_wp2
  go_ret
  exact ⟨by rw [HR.out]; rfl, (show Below w.heap.size w _ from by (repeat (first | exact Below.refl _ _ | assumption | (refine Below.setCell ?_ (by first | (simp; done) | (simp; omega) | omega) _) | (refine Below.alloc ?_ (by first | (simp; done) | (simp; omega) | omega) _) | (refine Below.drew ?_) | (refine Below.drewN ?_ _) | (refine Below.trans ?_ (Below.mono (by assumption) (by first | (simp; done) | (simp; omega) | omega)))))).trans (HB.out.mono (by simp))⟩

/-- an automaton, as it lies. -/
def DfaAt (w : World) (A1 A2 A3 : Option Addr) (k n m : Nat) (C N : List Int) (Ac : List Bool) : Prop :=
  C.length = k ∧ N.length = n ∧ Ac.length = m ∧ SlI w w.heap.size k A1 (iv C) ∧ SlI w w.heap.size n A2 (iv N) ∧ SlI w w.heap.size m A3 (bv Ac)
theorem DfaAt.next {w w' : World} {A1 A2 A3 : Option Addr} {k n m : Nat} {C N : List Int} {Ac : List Bool} (h : DfaAt w A1 A2 A3 k n m C N Ac) (hb : Below w.heap.size w w') : DfaAt w' A1 A2 A3 k n m C N Ac :=
  ⟨h.1, h.2.1, h.2.2.1, h.2.2.2.1.next hb, h.2.2.2.2.1.next hb, h.2.2.2.2.2.next hb⟩
def DRight (k n m : Nat) (wd st : Int) (C N : List Int) : Prop := k = 259 ∧ 1 ≤ wd ∧ wd ≤ 259 ∧ 1 ≤ m ∧ m ≤ 4096 ∧ (n : Int) = m * wd ∧ 0 ≤ st ∧ st < m ∧ Within C wd ∧ Within N m
instance (k n m : Nat) (wd st : Int) (C N : List Int) : Decidable (DRight k n m wd st C N) := by unfold DRight; infer_instance

set_option maxRecDepth 100000 in
set_option maxHeartbeats 2000000 in
theorem dright_any (k n m : Nat) (wd st : Int) (C N : List Int) (Ac : List Bool) (A1 A2 A3 : Option Addr) (c1 c2 c3 : Nat) (hk : k ≤ 1099511627776) (hn : n ≤ 1099511627776) (hm : m ≤ 1099511627776) (w : World) (h : DfaAt w A1 A2 A3 k n m C N Ac) :
    Calls Try.prog 17 #[.agg #[.slice A1 k c1, .int .i64 wd, .int .i64 st, .slice A2 n c2, .slice A3 m c3]] w fun e w' => e = .returned (.bool (decide (DRight k n m wd st C N))) ∧ Below w.heap.size w w' := by
  have HH := Lib.hid h
  clear h
  go_enter Try.func17, Try.ntmps17
  by_cases a : (k : Int) = 259 ∧ 1 ≤ wd ∧ wd ≤ 259 ∧ (1 : Int) ≤ m ∧ (m : Int) ≤ 4096
  rotate_left
  · have hR : decide (DRight k n m wd st C N) = false := decide_eq_false fun h => a ⟨by have := h.1; omega, h.2.1, h.2.2.1, by have := h.2.2.2.1; omega, by have := h.2.2.2.2.1; omega⟩
    rw [hR]
    by_cases a1 : (k : Int) = 259
    · by_cases a2 : wd < 1
      · go_wp2
        go_ret
        exact ⟨rfl, by (repeat (first | exact Below.refl _ _ | assumption | (refine Below.setCell ?_ (by first | (simp; done) | (simp; omega) | omega) _) | (refine Below.alloc ?_ (by first | (simp; done) | (simp; omega) | omega) _) | (refine Below.drew ?_) | (refine Below.drewN ?_ _) | (refine Below.trans ?_ (Below.mono (by assumption) (by first | (simp; done) | (simp; omega) | omega)))))⟩
      · by_cases a3 : 259 < wd
        · go_wp2
          go_ret
          exact ⟨rfl, by (repeat (first | exact Below.refl _ _ | assumption | (refine Below.setCell ?_ (by first | (simp; done) | (simp; omega) | omega) _) | (refine Below.alloc ?_ (by first | (simp; done) | (simp; omega) | omega) _) | (refine Below.drew ?_) | (refine Below.drewN ?_ _) | (refine Below.trans ?_ (Below.mono (by assumption) (by first | (simp; done) | (simp; omega) | omega)))))⟩
        · by_cases a4 : (m : Int) < 1
          · go_wp2
            go_ret
            exact ⟨rfl, by (repeat (first | exact Below.refl _ _ | assumption | (refine Below.setCell ?_ (by first | (simp; done) | (simp; omega) | omega) _) | (refine Below.alloc ?_ (by first | (simp; done) | (simp; omega) | omega) _) | (refine Below.drew ?_) | (refine Below.drewN ?_ _) | (refine Below.trans ?_ (Below.mono (by assumption) (by first | (simp; done) | (simp; omega) | omega)))))⟩
          · have a5 : (4096 : Int) < m := by omega
            go_wp2
            go_ret
            exact ⟨rfl, by (repeat (first | exact Below.refl _ _ | assumption | (refine Below.setCell ?_ (by first | (simp; done) | (simp; omega) | omega) _) | (refine Below.alloc ?_ (by first | (simp; done) | (simp; omega) | omega) _) | (refine Below.drew ?_) | (refine Below.drewN ?_ _) | (refine Below.trans ?_ (Below.mono (by assumption) (by first | (simp; done) | (simp; omega) | omega)))))⟩
    · go_wp2
      go_ret
      exact ⟨rfl, by (repeat (first | exact Below.refl _ _ | assumption | (refine Below.setCell ?_ (by first | (simp; done) | (simp; omega) | omega) _) | (refine Below.alloc ?_ (by first | (simp; done) | (simp; omega) | omega) _) | (refine Below.drew ?_) | (refine Below.drewN ?_ _) | (refine Below.trans ?_ (Below.mono (by assumption) (by first | (simp; done) | (simp; omega) | omega)))))⟩
  obtain ⟨a1, a2, a3, a4, a5⟩ := a
  have hmul : (0 : Int) ≤ m * wd ∧ (m : Int) * wd ≤ 4096 * 259 := ⟨Int.mul_nonneg (by omega) (by omega), Int.mul_le_mul a5 a3 (by omega) (by omega)⟩
  obtain ⟨hmul0, hmul1⟩ := hmul
  by_cases b : (n : Int) = m * wd ∧ 0 ≤ st ∧ st < m
  rotate_left
  · have hR : decide (DRight k n m wd st C N) = false := decide_eq_false fun h => b ⟨h.2.2.2.2.2.1, h.2.2.2.2.2.2.1, h.2.2.2.2.2.2.2.1⟩
    rw [hR]
    generalize hq : (m : Int) * wd = q at hmul0 hmul1 b
    by_cases b1 : (n : Int) = q
    · by_cases b2 : st < 0
      · go_wp2
        go_ret
        exact ⟨rfl, by (repeat (first | exact Below.refl _ _ | assumption | (refine Below.setCell ?_ (by first | (simp; done) | (simp; omega) | omega) _) | (refine Below.alloc ?_ (by first | (simp; done) | (simp; omega) | omega) _) | (refine Below.drew ?_) | (refine Below.drewN ?_ _) | (refine Below.trans ?_ (Below.mono (by assumption) (by first | (simp; done) | (simp; omega) | omega)))))⟩
      · have b3 : (m : Int) ≤ st := by omega
        go_wp2
        go_ret
        exact ⟨rfl, by (repeat (first | exact Below.refl _ _ | assumption | (refine Below.setCell ?_ (by first | (simp; done) | (simp; omega) | omega) _) | (refine Below.alloc ?_ (by first | (simp; done) | (simp; omega) | omega) _) | (refine Below.drew ?_) | (refine Below.drewN ?_ _) | (refine Below.trans ?_ (Below.mono (by assumption) (by first | (simp; done) | (simp; omega) | omega)))))⟩
    · go_wp2
      go_ret
      exact ⟨rfl, by (repeat (first | exact Below.refl _ _ | assumption | (refine Below.setCell ?_ (by first | (simp; done) | (simp; omega) | omega) _) | (refine Below.alloc ?_ (by first | (simp; done) | (simp; omega) | omega) _) | (refine Below.drew ?_) | (refine Below.drewN ?_ _) | (refine Below.trans ?_ (Below.mono (by assumption) (by first | (simp; done) | (simp; omega) | omega)))))⟩
  obtain ⟨b1, b2, b3⟩ := b
  have hR : decide (DRight k n m wd st C N) = (decide (Within C wd) && decide (Within N m)) := by
    rw [Bool.eq_iff_iff]
    simp only [Bool.and_eq_true, decide_eq_true_eq]
    unfold DRight
    constructor
    · intro h; exact ⟨h.2.2.2.2.2.2.2.2.1, h.2.2.2.2.2.2.2.2.2⟩
    · intro h; exact ⟨by omega, a2, a3, by omega, by omega, b1, b2, b3, h.1, h.2⟩
  have HR := Lib.hid hR
  have H1 := Lib.hid (fun (V : World) (hV : Below w.heap.size w V) => within_any C k HH.out.1 wd hk A1 c1 V (HH.out.2.2.2.1.next hV))
  have H2 := Lib.hid (fun (V : World) (hV : Below w.heap.size w V) => within_any N n HH.out.2.1 m hn A2 c2 V (HH.out.2.2.2.2.1.next hV))
  clear hR
  generalize hq : (m : Int) * wd = q at hmul0 hmul1 b1
  generalize decide (Within C wd) = r1 at HR H1
  generalize decide (Within N m) = r2 at HR H2
  go_upto_region 6 with fail
  have y0 : (w.alloc (.cells #[.slice A1 k c1, .int .i64 wd, .int .i64 st, .slice A2 n c2, .slice A3 m c3] 25)).cell? ⟨w.heap.size, 0, none⟩ = some (.slice A1 k c1) := World.cell?_alloc_new w _ _ 0
  have y1 : (w.alloc (.cells #[.slice A1 k c1, .int .i64 wd, .int .i64 st, .slice A2 n c2, .slice A3 m c3] 25)).cell? ⟨w.heap.size, 1, none⟩ = some (.int .i64 wd) := World.cell?_alloc_new w _ _ 1
  have y3 : (w.alloc (.cells #[.slice A1 k c1, .int .i64 wd, .int .i64 st, .slice A2 n c2, .slice A3 m c3] 25)).cell? ⟨w.heap.size, 3, none⟩ = some (.slice A2 n c2) := World.cell?_alloc_new w _ _ 3
  have hz : w.heap.size < (w.alloc (.cells #[.slice A1 k c1, .int .i64 wd, .int .i64 st, .slice A2 n c2, .slice A3 m c3] 25)).heap.size := by simp
  have HB := Lib.hid (show Below w.heap.size w (w.alloc (.cells #[.slice A1 k c1, .int .i64 wd, .int .i64 st, .slice A2 n c2, .slice A3 m c3] 25)) from by (repeat (first | exact Below.refl _ _ | assumption | (refine Below.setCell ?_ (by first | (simp; done) | (simp; omega) | omega) _) | (refine Below.alloc ?_ (by first | (simp; done) | (simp; omega) | omega) _) | (refine Below.drew ?_) | (refine Below.drewN ?_ _) | (refine Below.trans ?_ (Below.mono (by assumption) (by first | (simp; done) | (simp; omega) | omega))))))
  generalize w.alloc (.cells #[.slice A1 k c1, .int .i64 wd, .int .i64 st, .slice A2 n c2, .slice A3 m c3] 25) = W at y0 y1 y3 hz HB ⊢
  go_wp2_with fail
  refine (H1.out _ HB.out).mono ?_
  rintro e w1 ⟨rfl, hb⟩
  have y3 := (hb.cell (p := ⟨w.heap.size, 3, none⟩) hz).trans y3
  have HB := Lib.hid (HB.out.trans (hb.mono HB.out.size))
  clear hb
  cases r1
  · go_wp2_with fail
    go_ret
    exact ⟨by rw [HR.out]; rfl, HB.out⟩
  go_wp2_with fail
  refine (H2.out _ HB.out).mono ?_
  rintro e w2 ⟨rfl, hb⟩
  have HB := Lib.hid (HB.out.trans (hb.mono HB.out.size))
  clear hb
  go_wp2_with fail
  go_ret
  exact ⟨by rw [HR.out]; simp, HB.out⟩
end Go.Proofs.Ytapanoalhhlphaa.Vec
