
/- Same, Apply, Const: the program's, and the page's Const. -/
import Derived.Test.YtapanoalhhlphaaVecR
import Derived.Test.YtapanoalhhlphaaVec
namespace Go.Proofs.Ytapanoalhhlphaa.Vec
set_option linter.unusedSimpArgs false
set_option linter.unusedVariables false
open Go Go.RowKit
attribute [local go_sem] lt_add1 lt_self1 size_ne size_ne' size_ne1 size_ne1'

set_option maxHeartbeats 1000000 in
theorem same_any (n m n' m' : Nat) (T T' : List Int) (H H' : List Bool) (A B A' B' : Option Addr) (c d c' d' : Nat) (w : World) (h : FunAt w A n B m T H) (h' : FunAt w A' n' B' m' T' H') (hn : n ≤ 1099511627776) (hm : m ≤ 1099511627776) (hn' : n' ≤ 1099511627776) (hm' : m' ≤ 1099511627776) :
    Calls Try.prog 14 #[.agg #[.slice A n c, .slice B m d], .agg #[.slice A' n' c', .slice B' m' d']] w fun e w' => e = .returned (.bool (decide (T = T' ∧ H = H'))) ∧ Below w.heap.size w w' := by
  obtain ⟨rfl, rfl, _, _⟩ := id h
  obtain ⟨rfl, rfl, _, _⟩ := id h'
  have H1 := Lib.hid (fun (W : World) (hW : Below w.heap.size w W) => equal_int T T' A A' c c' W (h.2.2.1.next hW) (h'.2.2.1.next hW) (by omega) (by omega))
  have H2 := Lib.hid (fun (W : World) (hW : Below w.heap.size w W) => equal_bool H H' B B' d d' W (h.2.2.2.next hW) (h'.2.2.2.next hW) (by omega) (by omega))
  clear h h'
  have hd : decide (T = T' ∧ H = H') = (decide (T = T') && decide (H = H')) := by simp [Bool.decide_and]
  rw [hd]
  generalize T.length = n at H1 hn ⊢
  generalize T'.length = n' at H1 hn' ⊢
  generalize H.length = m at H2 hm ⊢
  generalize H'.length = m' at H2 hm' ⊢
  generalize hb1 : decide (T = T') = b1 at H1 ⊢
  generalize hb2 : decide (H = H') = b2 at H2 ⊢
  clear hb1 hb2 hd
  go_enter Try.func14, Try.ntmps14
  go_wp2_with fail
  refine (H1.out _ (by (repeat (first | exact Below.refl _ _ | assumption | (refine Below.setCell ?_ (by first | (simp; done) | (simp; omega) | omega) _) | (refine Below.alloc ?_ (by first | (simp; done) | (simp; omega) | omega) _) | (refine Below.drew ?_) | (refine Below.drewN ?_ _) | (refine Below.trans ?_ (Below.mono (by assumption) (by first | (simp; done) | (simp; omega) | omega))))))).mono ?_
  rintro e w1 ⟨rfl, hb⟩
  have hB1 := (show Below w.heap.size w _ from by (repeat (first | exact Below.refl _ _ | assumption | (refine Below.setCell ?_ (by first | (simp; done) | (simp; omega) | omega) _) | (refine Below.alloc ?_ (by first | (simp; done) | (simp; omega) | omega) _) | (refine Below.drew ?_) | (refine Below.drewN ?_ _) | (refine Below.trans ?_ (Below.mono (by assumption) (by first | (simp; done) | (simp; omega) | omega)))))).trans (hb.mono (by simp; omega))
  have q0 : ∀ o, ((w.alloc (.cells #[.slice A n c, .slice B m d] 29)).alloc (.cells #[.slice A' n' c', .slice B' m' d'] 29)).cell? ⟨w.heap.size, o, none⟩ = #[Value.slice A n c, .slice B m d][o]? := fun o => by
    rw [World.cell?_of_block (a := ⟨w.heap.size, o, none⟩) (heap_alloc_old _ _ (by simp))]
    exact World.cell?_alloc_new w _ _ o
  have q1 : ∀ o, ((w.alloc (.cells #[.slice A n c, .slice B m d] 29)).alloc (.cells #[.slice A' n' c', .slice B' m' d'] 29)).cell? ⟨w.heap.size + 1, o, none⟩ = #[Value.slice A' n' c', .slice B' m' d'][o]? := fun o => by
    have := World.cell?_alloc_new (w.alloc (.cells #[.slice A n c, .slice B m d] 29)) #[Value.slice A' n' c', .slice B' m' d'] 29 o
    have e : (w.alloc (.cells #[.slice A n c, .slice B m d] 29)).heap.size = w.heap.size + 1 := Array.size_push _
    rwa [e] at this
  have p1 : w1.cell? ⟨w.heap.size, 1, none⟩ = some (.slice B m d) := (hb.cell (p := ⟨w.heap.size, 1, none⟩) (by simp; omega)).trans (q0 1)
  have p3 : w1.cell? ⟨w.heap.size + 1, 1, none⟩ = some (.slice B' m' d') := (hb.cell (p := ⟨w.heap.size + 1, 1, none⟩) (by simp)).trans (q1 1)
  have hz : w.heap.size + 1 < w1.heap.size := by have := hb.size; simp at this; omega
  have hz0 : w.heap.size < w1.heap.size := by omega
  have HB := Lib.hid hB1
  have H2' := Lib.hid (H2.out w1 hB1)
  clear q0 q1 hb hB1 H1 H2
  cases b1
  · go_wp2
    go_ret
    exact ⟨rfl, HB.out⟩
  · go_wp2_with fail
    refine H2'.out.mono ?_
    rintro e w2 ⟨rfl, hb2⟩
    have HB2 := Lib.hid (HB.out.trans (hb2.mono (by omega)))
    clear hb2
    go_wp2
    go_ret
    exact ⟨rfl, HB2.out⟩

/-- where a state goes, and whether there is a hit. -/
def applyT (n m : Nat) (T : List Int) (s : Int) : Int := if Right n m T ∧ 0 ≤ s ∧ s < n then T.getD s.toNat 0 else -1
def applyH (n m : Nat) (T : List Int) (H : List Bool) (s : Int) : Bool := if Right n m T ∧ 0 ≤ s ∧ s < n then H.getD s.toNat false else false
set_option maxRecDepth 100000 in
set_option maxHeartbeats 1000000 in
theorem apply_any (n m : Nat) (T : List Int) (H : List Bool) (A B : Option Addr) (c d : Nat) (s : Int) (w : World) (h : FunAt w A n B m T H) :
    Calls Try.prog 16 #[.agg #[.slice A n c, .slice B m d], .int .i64 s] w fun e w' => e = .returned (.tuple #[.int .i64 (applyT n m T s), .bool (applyH n m T H s)]) ∧ Below w.heap.size w w' := by
  have HR := Lib.hid (fun (W : World) (hW : Below w.heap.size w W) => right_any n m T H A B c d W (h.next hW))
  have HH := Lib.hid h
  clear h
  have hb1 : Below w.heap.size w (w.alloc (.cells #[.slice A n c, .slice B m d] 29)) := by (repeat (first | exact Below.refl _ _ | assumption | (refine Below.setCell ?_ (by first | (simp; done) | (simp; omega) | omega) _) | (refine Below.alloc ?_ (by first | (simp; done) | (simp; omega) | omega) _) | (refine Below.drew ?_) | (refine Below.drewN ?_ _) | (refine Below.trans ?_ (Below.mono (by assumption) (by first | (simp; done) | (simp; omega) | omega)))))
  have hz1 : w.heap.size < (w.alloc (.cells #[.slice A n c, .slice B m d] 29)).heap.size := by simp
  have q0 : (w.alloc (.cells #[.slice A n c, .slice B m d] 29)).cell? ⟨w.heap.size, 0, none⟩ = some (.slice A n c) := World.cell?_alloc_new w _ _ 0
  have q1 : (w.alloc (.cells #[.slice A n c, .slice B m d] 29)).cell? ⟨w.heap.size, 1, none⟩ = some (.slice B m d) := World.cell?_alloc_new w _ _ 1
  by_cases hr : Right n m T ∧ 0 ≤ s ∧ s < n
  · obtain ⟨hR, h0, h1⟩ := hr
    have e1 : applyT n m T s = T.getD s.toNat 0 := by unfold applyT; rw [if_pos ⟨hR, h0, h1⟩]
    have e2 : applyH n m T H s = H.getD s.toNat false := by unfold applyH; rw [if_pos ⟨hR, h0, h1⟩]
    rw [e1, e2]
    rw [decide_eq_true hR] at HR
    obtain ⟨k, rfl⟩ : ∃ k : Nat, s = k := ⟨s.toNat, by omega⟩
    obtain ⟨b1, o1, rfl, hbl1, hc1⟩ := HH.out.2.2.1 (by omega)
    obtain ⟨b2, o2, rfl, hbl2, hc2⟩ := HH.out.2.2.2 (by have := hR.2.2.1; omega)
    have f1 : w.cell? ⟨b1, o1 + k, none⟩ = some (.int .i64 (T.getD k 0)) := hc1 k (by omega)
    have f2 : w.cell? ⟨b2, o2 + k, none⟩ = some (.bool (H.getD k false)) := hc2 k (by have := hR.2.2.1; omega)
    have hm2 : (k : Int) < m := by have := hR.2.2.1; omega
    simp only [Int.toNat_natCast]
    generalize T.getD k 0 = x at f1 ⊢
    generalize H.getD k false = y at f2 ⊢
    clear hc1 hc2 e1 e2 hR
    go_enter Try.func16, Try.ntmps16
    go_wp2_with fail
    generalize w.alloc (.cells #[.slice (some ⟨b1, o1, none⟩) n c, .slice (some ⟨b2, o2, none⟩) m d] 29) = W at hb1 hz1 q0 q1 ⊢
    refine (HR.out _ hb1).mono ?_
    rintro e w1 ⟨rfl, hb⟩
    have hB1 := hb1.trans (hb.mono (by omega))
    have p0 := (hb.cell (p := ⟨w.heap.size, 0, none⟩) hz1).trans q0
    have p1 := (hb.cell (p := ⟨w.heap.size, 1, none⟩) hz1).trans q1
    have g1 := (hB1.cell (p := ⟨b1, o1 + k, none⟩) hbl1).trans f1
    have g2 := (hB1.cell (p := ⟨b2, o2 + k, none⟩) hbl2).trans f2
    have hz2 : w.heap.size < w1.heap.size := Nat.lt_of_lt_of_le hz1 hb.size
    have hs1 : b1 < w1.heap.size := by omega
    have hs2 : b2 < w1.heap.size := by omega
    have HB := Lib.hid hB1
    clear hb1 hz1 q0 q1 hb hB1 f1 f2
    go_upto_region 3 with fail
    go_quiet (fail)
    go_wp2
    go_ret2
    exact ⟨rfl, Below.drewN HB.out _⟩
  · have e1 : applyT n m T s = -1 := by unfold applyT; rw [if_neg hr]
    have e2 : applyH n m T H s = false := by unfold applyH; rw [if_neg hr]
    rw [e1, e2]
    by_cases hR : Right n m T
    · rw [decide_eq_true hR] at HR
      have hs : s < 0 ∨ (n : Int) ≤ s := by
        by_cases h : 0 ≤ s
        · right; exact Decidable.byContradiction fun h2 => hr ⟨hR, h, by omega⟩
        · left; omega
      clear hr e1 e2
      go_enter Try.func16, Try.ntmps16
      go_wp2_with fail
      generalize w.alloc (.cells #[.slice A n c, .slice B m d] 29) = W at hb1 hz1 q0 q1 ⊢
      refine (HR.out _ hb1).mono ?_
      rintro e w1 ⟨rfl, hb⟩
      have p0 := (hb.cell (p := ⟨w.heap.size, 0, none⟩) hz1).trans q0
      have HB := Lib.hid (hb1.trans (hb.mono (by omega)))
      clear hb1 hz1 q0 q1 hb
      by_cases hs0 : s < 0
      · go_wp2
        go_ret2
        exact ⟨rfl, HB.out⟩
      · have hs1 : (n : Int) ≤ s := by omega
        go_wp2
        go_ret2
        exact ⟨rfl, HB.out⟩
    · rw [decide_eq_false hR] at HR
      clear hr e1 e2
      go_enter Try.func16, Try.ntmps16
      go_wp2_with fail
      generalize w.alloc (.cells #[.slice A n c, .slice B m d] 29) = W at hb1 hz1 q0 q1 ⊢
      refine (HR.out _ hb1).mono ?_
      rintro e w1 ⟨rfl, hb⟩
      have HB := Lib.hid (hb1.trans (hb.mono (by omega)))
      clear hb1 hz1 q0 q1 hb
      go_wp2
      go_ret2
      exact ⟨rfl, HB.out⟩

/-- do all go to one state? -/
def AllOne (T : List Int) : Prop := ∀ s ∈ T, s = T.getD 0 0
instance (T : List Int) : Decidable (AllOne T) := by unfold AllOne; infer_instance
def constT (n m : Nat) (T : List Int) : Int := if Right n m T ∧ AllOne T then T.getD 0 0 else -1
def constB (n m : Nat) (T : List Int) : Bool := decide (Right n m T ∧ AllOne T)

theorem closureC (b off n c b2v m d B1 : Nat) (A2 : Option Addr) (t0 : Int) (w : World) (hB : B1 < w.heap.size) (hc : w.cell? ⟨B1, 0, none⟩ = some (.slice (some ⟨b, off, none⟩) n c)) (hn : 0 < n) (hb : b < w.heap.size) (h0 : w.cell? ⟨b, off, none⟩ = some (.int .i64 t0)) : ∀ W x, Below w.heap.size w W →
    Calls Try.prog 22 (#[.int .i64 x] ++ #[.pointer (some ⟨B1, 0, none⟩)]) W fun e w' => e = .returned (.bool (!decide (x = t0))) ∧ Below W.heap.size W w' := by
  intro W x hW
  have f1 := (hW.cell (p := ⟨B1, 0, none⟩) hB).trans hc
  have f2 := (hW.cell (p := ⟨b, off, none⟩) hb).trans h0
  have hn0 : (0 : Int) < n := by omega
  clear hc hW h0
  show Calls Try.prog 22 #[.int .i64 x, .pointer (some ⟨B1, 0, none⟩)] W _
  go_enter Try.func22, Try.ntmps22
  go_wp2
  go_ret
  exact ⟨ret_bool (by first | rfl | (simp; done)), Below.refl _ _⟩

set_option maxRecDepth 100000 in
set_option maxHeartbeats 1000000 in
theorem const_any (n m : Nat) (T : List Int) (H : List Bool) (A B : Option Addr) (c d : Nat) (w : World) (h : FunAt w A n B m T H) :
    Calls Try.prog 15 #[.agg #[.slice A n c, .slice B m d]] w fun e w' => e = .returned (.tuple #[.int .i64 (constT n m T), .bool (constB n m T)]) ∧ Below w.heap.size w w' := by
  have HR := Lib.hid (fun (W : World) (hW : Below w.heap.size w W) => right_any n m T H A B c d W (h.next hW))
  have HH := Lib.hid h
  clear h
  have hb1 : Below w.heap.size w (w.alloc (.cells #[.slice A n c, .slice B m d] 29)) := by (repeat (first | exact Below.refl _ _ | assumption | (refine Below.setCell ?_ (by first | (simp; done) | (simp; omega) | omega) _) | (refine Below.alloc ?_ (by first | (simp; done) | (simp; omega) | omega) _) | (refine Below.drew ?_) | (refine Below.drewN ?_ _) | (refine Below.trans ?_ (Below.mono (by assumption) (by first | (simp; done) | (simp; omega) | omega)))))
  have hz1 : w.heap.size < (w.alloc (.cells #[.slice A n c, .slice B m d] 29)).heap.size := by simp
  have q0 : (w.alloc (.cells #[.slice A n c, .slice B m d] 29)).cell? ⟨w.heap.size, 0, none⟩ = some (.slice A n c) := World.cell?_alloc_new w _ _ 0
  by_cases hR : Right n m T
  · rw [decide_eq_true hR] at HR
    have hn1 := hR.1
    have hn2 := hR.2.1
    have hl : 0 < T.length := by have := HH.out.1; omega
    obtain ⟨b1, o1, rfl, hbl1, hc1⟩ := HH.out.2.2.1 (by omega)
    have f1 : w.cell? ⟨b1, o1, none⟩ = some (.int .i64 (T.getD 0 0)) := by have := hc1 0 (by omega); rw [Nat.add_zero] at this; exact this
    have eg : ∀ args w, (callFunc 22 args).run Try.prog w = .ok (.enter 22 args) w := enters_of Try.func22 (by kernel_rfl) rfl
    have HC := Lib.hid (fun (W : World) (hW : Below w.heap.size w W) (hlt : w.heap.size < W.heap.size) (hcell : W.cell? ⟨w.heap.size, 0, none⟩ = some (.slice (some ⟨b1, o1, none⟩) n c)) =>
      contains_func T n HH.out.1 (by omega) (some ⟨b1, o1, none⟩) c _ _ _ W eg (HH.out.2.2.1.next hW) (closureC b1 o1 n c 0 0 0 w.heap.size none (T.getD 0 0) W hlt hcell (by omega) (by have := hW.size; omega) ((hW.cell (p := ⟨b1, o1, none⟩) hbl1).trans f1)))
    have hany : (T.any fun x => !decide (x = T.getD 0 0)) = !decide (AllOne T) := by
      rw [Bool.eq_iff_iff]
      simp only [List.any_eq_true, Bool.not_eq_true', decide_eq_false_iff_not]
      unfold AllOne
      constructor
      · rintro ⟨x, hx, hne⟩ h; exact hne (h x hx)
      · intro h
        exact Decidable.byContradiction fun h2 => h fun s hs => Decidable.byContradiction fun h3 => h2 ⟨s, hs, h3⟩
    rw [hany] at HC
    by_cases hA : AllOne T
    · have e1 : constT n m T = T.getD 0 0 := by unfold constT; rw [if_pos ⟨hR, hA⟩]
      have e2 : constB n m T = true := decide_eq_true ⟨hR, hA⟩
      rw [e1, e2]
      rw [decide_eq_true hA] at HC
      have hn0 : (0 : Int) < n := by omega
      generalize T.getD 0 0 = x at f1 ⊢
      clear hc1 e1 e2 hR hA hany eg
      go_enter Try.func15, Try.ntmps15
      go_wp2_with fail
      generalize w.alloc (.cells #[.slice (some ⟨b1, o1, none⟩) n c, .slice B m d] 29) = W at hb1 hz1 q0 ⊢
      refine (HR.out _ hb1).mono ?_
      rintro e w1 ⟨rfl, hb⟩
      have hB1 := hb1.trans (hb.mono (by omega))
      have p0 := (hb.cell (p := ⟨w.heap.size, 0, none⟩) hz1).trans q0
      have g1 := (hB1.cell (p := ⟨b1, o1, none⟩) hbl1).trans f1
      have hz2 : w.heap.size < w1.heap.size := Nat.lt_of_lt_of_le hz1 hb.size
      have HB := Lib.hid hB1
      clear hb1 hz1 q0 hb hB1 f1
      go_wp2_with fail
      refine (HC.out _ HB.out hz2 p0).mono ?_
      rintro e w2 ⟨rfl, hb⟩
      have hB2 := HB.out.trans (hb.mono (by omega))
      have p0 := (hb.cell (p := ⟨w.heap.size, 0, none⟩) hz2).trans p0
      have g1 := (hb.cell (p := ⟨b1, o1, none⟩) (by show b1 < _; omega)).trans g1
      have HB2 := Lib.hid hB2
      clear hb hB2
      go_wp2
      go_ret2
      exact ⟨rfl, HB2.out⟩
    · have e1 : constT n m T = -1 := by unfold constT; rw [if_neg (fun h => hA h.2)]
      have e2 : constB n m T = false := decide_eq_false (fun h => hA h.2)
      rw [e1, e2]
      rw [decide_eq_false hA] at HC
      clear hc1 e1 e2 hR hA hany eg f1
      go_enter Try.func15, Try.ntmps15
      go_wp2_with fail
      generalize w.alloc (.cells #[.slice (some ⟨b1, o1, none⟩) n c, .slice B m d] 29) = W at hb1 hz1 q0 ⊢
      refine (HR.out _ hb1).mono ?_
      rintro e w1 ⟨rfl, hb⟩
      have p0 := (hb.cell (p := ⟨w.heap.size, 0, none⟩) hz1).trans q0
      have hz2 : w.heap.size < w1.heap.size := Nat.lt_of_lt_of_le hz1 hb.size
      have HB := Lib.hid (hb1.trans (hb.mono (by omega)))
      clear hb1 hz1 q0 hb
      go_wp2_with fail
      refine (HC.out _ HB.out hz2 p0).mono ?_
      rintro e w2 ⟨rfl, hb⟩
      have HB2 := Lib.hid (HB.out.trans (hb.mono (by omega)))
      clear hb
      go_wp2
      go_ret2
      exact ⟨rfl, HB2.out⟩
  · have e1 : constT n m T = -1 := by unfold constT; rw [if_neg (fun h => hR h.1)]
    have e2 : constB n m T = false := decide_eq_false (fun h => hR h.1)
    rw [e1, e2]
    rw [decide_eq_false hR] at HR
    clear e1 e2
    go_enter Try.func15, Try.ntmps15
    go_wp2_with fail
    generalize w.alloc (.cells #[.slice A n c, .slice B m d] 29) = W at hb1 hz1 q0 ⊢
    refine (HR.out _ hb1).mono ?_
    rintro e w1 ⟨rfl, hb⟩
    have HB := Lib.hid (hb1.trans (hb.mono (by omega)))
    clear hb1 hz1 q0 hb
    go_wp2
    go_ret2
    exact ⟨rfl, HB.out⟩
end Go.Proofs.Ytapanoalhhlphaa.Vec
