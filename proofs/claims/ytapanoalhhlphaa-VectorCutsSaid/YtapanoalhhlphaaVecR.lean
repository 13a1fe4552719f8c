
/- May a function be: the program's and the page's answer. -/
import Derived.Test.YtapanoalhhlphaaProg
import Derived.Test.YtapanoalhhlphaaVecK
import Derived.Shelf.GgClosure.Gives
namespace Go.Proofs.Ytapanoalhhlphaa.Vec
set_option linter.unusedSimpArgs false
set_option linter.unusedVariables false
open Go Go.RowKit
attribute [local go_sem] lt_add1 lt_self1 size_ne size_ne' size_ne1 size_ne1'

set_option maxRecDepth 100000 in
set_option maxHeartbeats 1000000 in
theorem index_func (xs : List Int) (n : Nat) (hn : xs.length = n) (hbig : n ≤ 1099511627776) (A : Option Addr) (c : Nat) (g : Nat) (lb : Array Value) (p : Int → Bool) (w : World) (eg : ∀ args w, (callFunc g args).run Try.prog w = .ok (.enter g args) w)
    (hs : SlI w w.heap.size n A (iv xs)) (hp : ∀ W x, Below w.heap.size w W → Calls Try.prog g (#[.int .i64 x] ++ lb) W fun e w' => e = .returned (.bool (p x)) ∧ Below W.heap.size W w') :
    Calls Try.prog 24 #[.slice A n c, .func (.func g) #[] lb] w fun e w' => ∃ r : Int, e = .returned (.int .i64 r) ∧ decide (0 ≤ r) = xs.any p ∧ Below w.heap.size w w' := by
  have HP := Lib.hid hp
  have HS := Lib.hid hs
  have HN := Lib.hid hn
  clear hp hs hn
  go_enter Try.func24, Try.ntmps24
  go_wp2_with fail
  go_loopw [8] (fun i wr => ∃ k : Nat, k ≤ n ∧ i = .int .i64 k ∧ (xs.take k).any p = false ∧ Below w.heap.size w wr) (fun i _ => n - (intOf i).toNat)
  case atStart => exact ⟨0, by omega, rfl, by simp, Below.refl _ _⟩
  case round =>
    obtain ⟨k, hk, rfl, hany, hb⟩ := hrel
    have H := Lib.hid (And.intro hany hb)
    clear hany hb
    by_cases hlt : k < n
    · obtain ⟨b, off, rfl, hbl, hcs⟩ := HS.out (by omega)
      have f1 : wr.cell? ⟨b, off + k, none⟩ = some (.int .i64 (xs.getD k 0)) := (H.out.2.cell (p := ⟨b, _, none⟩) hbl).trans (hcs k hlt)
      have hk0 : (0 : Int) ≤ k := by omega
      have hk1 : (k : Int) < n := by omega
      have htk : (xs.take (k + 1)).any p = ((xs.take k).any p || p (xs.getD k 0)) := by
        have hl : k < xs.length := by have := HN.out; omega
        rw [List.take_add_one, List.any_append, List.getElem?_eq_getElem hl]
        simp [List.getD, hl]
      have htl : xs.any p = ((xs.take (k + 1)).any p || (xs.drop (k + 1)).any p) := by rw [← List.any_append, List.take_append_drop]
      have hc := HP.out wr (xs.getD k 0) H.out.2
      have HT := Lib.hid (And.intro htk htl)
      generalize xs.getD k 0 = x at f1 hc HT
      clear hcs htk htl
      cases hpx : p x
      · rw [hpx] at hc HT
        have HC := Lib.hid hc
        clear hc hpx
        go_wp2_with fail
        refine HC.out.mono ?_
        rintro e w' ⟨rfl, hb'⟩
        have HB := Lib.hid (H.out.2.trans (hb'.mono H.out.2.size))
        clear hb'
        go_wp2
        go_roundw
        case rel => exact ⟨k + 1, by omega, by go_num, by rw [HT.out.1, H.out.1]; rfl, HB.out⟩
        case measure => simp [intOf]; omega
      · rw [hpx] at hc HT
        have HC := Lib.hid hc
        clear hc hpx
        go_wp2_with fail
        refine HC.out.mono ?_
        rintro e w' ⟨rfl, hb'⟩
        have HB := Lib.hid (H.out.2.trans (hb'.mono H.out.2.size))
        clear hb'
        go_wp2
        go_ret
        exact ⟨k, rfl, by rw [HT.out.2, HT.out.1]; simp, HB.out⟩
    · have e : k = n := by omega
      subst e
      have hall : xs.any p = false := by
        have := H.out.1
        rwa [List.take_of_length_le (by have := HN.out; omega)] at this
      have HA := Lib.hid hall
      clear hall
      go_wp2
      go_ret
      exact ⟨-1, rfl, by rw [HA.out]; rfl, H.out.2⟩

set_option maxHeartbeats 1000000 in
theorem contains_func (xs : List Int) (n : Nat) (hn : xs.length = n) (hbig : n ≤ 1099511627776) (A : Option Addr) (c : Nat) (g : Nat) (lb : Array Value) (p : Int → Bool) (w : World) (eg : ∀ args w, (callFunc g args).run Try.prog w = .ok (.enter g args) w)
    (hs : SlI w w.heap.size n A (iv xs)) (hp : ∀ W x, Below w.heap.size w W → Calls Try.prog g (#[.int .i64 x] ++ lb) W fun e w' => e = .returned (.bool (p x)) ∧ Below W.heap.size W w') :
    Calls Try.prog 18 #[.slice A n c, .func (.func g) #[] lb] w fun e w' => e = .returned (.bool (xs.any p)) ∧ Below w.heap.size w w' := by
  have HI := Lib.hid (index_func xs n hn hbig A c g lb p w eg hs hp)
  clear hs hp hn eg
  go_enter Try.func18, Try.ntmps18
  go_wp2_with fail
  refine HI.out.mono ?_
  rintro e w' ⟨r, rfl, hr, hb⟩
  have HR := Lib.hid hr
  clear hr
  go_wp2
  go_ret
  exact ⟨ret_bool HR.out, hb⟩

theorem closureR (n : Int) (B1 : Nat) (w : World) (hB : B1 < w.heap.size) (hc : w.cell? ⟨B1, 0, none⟩ = some (.int .i64 n)) : ∀ W x, Below w.heap.size w W →
    Calls Try.prog 19 (#[.int .i64 x] ++ #[.pointer (some ⟨B1, 0, none⟩)]) W fun e w' => e = .returned (.bool (decide (x < 0) || decide (n ≤ x))) ∧ Below W.heap.size W w' := by
  intro W x hW
  have f1 := (hW.cell (p := ⟨B1, 0, none⟩) hB).trans hc
  clear hc hW
  show Calls Try.prog 19 #[.int .i64 x, .pointer (some ⟨B1, 0, none⟩)] W _
  go_enter Try.func19, Try.ntmps19
  by_cases h : x < 0
  · go_wp2
    go_ret
    exact ⟨ret_bool (by simp [h]), Below.refl _ _⟩
  · go_wp2
    go_ret
    exact ⟨ret_bool (by first | (simp; done) | (simp; omega)), Below.refl _ _⟩

/-- a function, as it lies: To has n entries, Hit m. -/
def FunAt (w : World) (A : Option Addr) (n : Nat) (B : Option Addr) (m : Nat) (T : List Int) (H : List Bool) : Prop := T.length = n ∧ H.length = m ∧ SlI w w.heap.size n A (iv T) ∧ SlI w w.heap.size m B (bv H)
theorem FunAt.next {w w' : World} {A B : Option Addr} {n m : Nat} {T : List Int} {H : List Bool} (h : FunAt w A n B m T H) (hb : Below w.heap.size w w') : FunAt w' A n B m T H := ⟨h.1, h.2.1, h.2.2.1.next hb, h.2.2.2.next hb⟩
def Right (n m : Nat) (T : List Int) : Prop := 1 ≤ n ∧ n ≤ 4096 ∧ m = n ∧ ∀ s ∈ T, 0 ≤ s ∧ s < n
instance (n m : Nat) (T : List Int) : Decidable (Right n m T) := by unfold Right; infer_instance

set_option maxRecDepth 100000 in
set_option maxHeartbeats 1000000 in
theorem right_any (n m : Nat) (T : List Int) (H : List Bool) (A B : Option Addr) (c d : Nat) (w : World) (h : FunAt w A n B m T H) :
    Calls Try.prog 11 #[.agg #[.slice A n c, .slice B m d]] w fun e w' => e = .returned (.bool (decide (Right n m T))) ∧ Below w.heap.size w w' := by
  have HH := Lib.hid h
  clear h
  go_enter Try.func11, Try.ntmps11
  by_cases n1 : (0 : Int) < n
  · by_cases n2 : (n : Int) ≤ 4096
    · by_cases n3 : m = n
      · subst n3
        have eg : ∀ args w, (callFunc 19 args).run Try.prog w = .ok (.enter 19 args) w := enters_of Try.func19 (by kernel_rfl) rfl
        have hC : ∀ W, Below w.heap.size w W → w.heap.size + 1 < W.heap.size → W.cell? ⟨w.heap.size + 1, 0, none⟩ = some (.int .i64 m) → Calls Try.prog 18 #[.slice A m c, .func (.func 19) #[] #[.pointer (some ⟨w.heap.size + 1, 0, none⟩)]] W
            fun e w' => e = .returned (.bool (T.any fun x => decide (x < 0) || decide ((m : Int) ≤ x))) ∧ Below W.heap.size W w' := fun W hW hlt hcell =>
          contains_func T m HH.out.1 (by omega) A c _ _ _ W eg (HH.out.2.2.1.next hW) (closureR m _ W hlt hcell)
        have HC := Lib.hid hC
        have hR : decide (Right m m T) = !(T.any fun x => decide (x < 0) || decide ((m : Int) ≤ x)) := by
          rw [Bool.eq_iff_iff]
          simp only [decide_eq_true_eq, Bool.not_eq_true', List.any_eq_false, Bool.or_eq_true, not_or]
          unfold Right
          constructor
          · intro h x hx; have := h.2.2.2 x hx; omega
          · intro h; exact ⟨by omega, by omega, rfl, fun x hx => by have := h x hx; omega⟩
        have HR := Lib.hid hR
        clear hC hR eg
        generalize (T.any fun x => decide (x < 0) || decide ((m : Int) ≤ x)) = r at HC HR
        go_wp2_with fail
        refine (HC.out _ (by (repeat (first | exact Below.refl _ _ | assumption | (refine Below.setCell ?_ (by first | (simp; done) | (simp; omega) | omega) _) | (refine Below.alloc ?_ (by first | (simp; done) | (simp; omega) | omega) _) | (refine Below.drew ?_) | (refine Below.drewN ?_ _) | (refine Below.trans ?_ (Below.mono (by assumption) (by first | (simp; done) | (simp; omega) | omega)))))) (by simp) (by simp [go_sem])).mono ?_
        rintro e w' ⟨rfl, hb⟩
        have HB := Lib.hid hb
        clear hb
        go_wp2
        go_ret
        exact ⟨by rw [HR.out]; rfl, (show Below w.heap.size w _ from by (repeat (first | exact Below.refl _ _ | assumption | (refine Below.setCell ?_ (by first | (simp; done) | (simp; omega) | omega) _) | (refine Below.alloc ?_ (by first | (simp; done) | (simp; omega) | omega) _) | (refine Below.drew ?_) | (refine Below.drewN ?_ _) | (refine Below.trans ?_ (Below.mono (by assumption) (by first | (simp; done) | (simp; omega) | omega)))))).trans (HB.out.mono (by simp; omega))⟩
      · have n4 : ¬ (m : Int) = n := by omega
        have hR : decide (Right n m T) = false := decide_eq_false fun h => n3 h.2.2.1
        rw [hR]
        go_wp2
        go_ret
        exact ⟨rfl, by (repeat (first | exact Below.refl _ _ | assumption | (refine Below.setCell ?_ (by first | (simp; done) | (simp; omega) | omega) _) | (refine Below.alloc ?_ (by first | (simp; done) | (simp; omega) | omega) _) | (refine Below.drew ?_) | (refine Below.drewN ?_ _) | (refine Below.trans ?_ (Below.mono (by assumption) (by first | (simp; done) | (simp; omega) | omega)))))⟩
    · have hR : decide (Right n m T) = false := decide_eq_false fun h => by have := h.2.1; omega
      rw [hR]
      go_wp2
      go_ret
      exact ⟨rfl, by (repeat (first | exact Below.refl _ _ | assumption | (refine Below.setCell ?_ (by first | (simp; done) | (simp; omega) | omega) _) | (refine Below.alloc ?_ (by first | (simp; done) | (simp; omega) | omega) _) | (refine Below.drew ?_) | (refine Below.drewN ?_ _) | (refine Below.trans ?_ (Below.mono (by assumption) (by first | (simp; done) | (simp; omega) | omega)))))⟩
  · have hR : decide (Right n m T) = false := decide_eq_false fun h => by have := h.1; omega
    rw [hR]
    go_wp2
    go_ret
    exact ⟨rfl, by (repeat (first | exact Below.refl _ _ | assumption | (refine Below.setCell ?_ (by first | (simp; done) | (simp; omega) | omega) _) | (refine Below.alloc ?_ (by first | (simp; done) | (simp; omega) | omega) _) | (refine Below.drew ?_) | (refine Below.drewN ?_ _) | (refine Below.trans ?_ (Below.mono (by assumption) (by first | (simp; done) | (simp; omega) | omega)))))⟩

end Go.Proofs.Ytapanoalhhlphaa.Vec
