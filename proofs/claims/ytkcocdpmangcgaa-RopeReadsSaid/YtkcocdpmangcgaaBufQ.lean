
/- The library's Search, SearchInts; how many line feeds stand ahead of a place. -/
import Derived.Test.YtkcocdpmangcgaaBufS
import Derived.Shelf.GgClosure.Gives
namespace Go.Proofs.Ytkcocdpmangcgaa.Buf
set_option linter.unusedSimpArgs false
set_option linter.unusedVariables false
open Go Go.RowKit Go.Lib
open Go.Proofs.Ytkcocdpmangcgaa.Vec (SlI)
attribute [local go_sem] lt_add1 lt_self1 size_ne size_ne' size_ne1 size_ne1'

set_option maxRecDepth 100000 in
set_option maxHeartbeats 1000000 in
theorem search_any (n : Nat) (hn : n ≤ 1099511627776) (g : Nat) (lb : Array Value) (p : Nat → Bool) (w : World) (eg : ∀ args w, (callFunc g args).run Try.prog w = .ok (.enter g args) w)
    (hp : ∀ W i, Below w.heap.size w W → i < n → Calls Try.prog g (#[.int .i64 (i : Nat)] ++ lb) W fun e w' => e = .returned (.bool (p i)) ∧ Below W.heap.size W w')
    (mono : ∀ a b, a ≤ b → b < n → p a = true → p b = true) :
    Calls Try.prog 107 #[.int .i64 n, .func (.func g) #[] lb] w fun e w' => ∃ r : Nat, e = .returned (.int .i64 r) ∧ r ≤ n ∧ (∀ a, a < r → p a = false) ∧ (∀ a, r ≤ a → a < n → p a = true) ∧ Below w.heap.size w w' := by
  have HP := Lib.hid hp
  have HM := Lib.hid mono
  clear hp mono
  go_enter Try.func107, Try.ntmps107
  go_wp2_with fail
  go_loopw [5, 6] (fun i j wr => ∃ a b : Nat, i = .int .i64 a ∧ j = .int .i64 b ∧ a ≤ b ∧ b ≤ n ∧ (∀ x, x < a → p x = false) ∧ (∀ x, b ≤ x → x < n → p x = true) ∧ Below w.heap.size w wr) (fun i j _ => (intOf j).toNat - (intOf i).toNat)
  case atStart => exact ⟨0, n, rfl, rfl, by omega, by omega, fun x h => by omega, fun x h1 h2 => by omega, Below.refl _ _⟩
  case round =>
    obtain ⟨a, b, rfl, rfl, hab, hbn, h1, h2, hb⟩ := hrel
    have H := Lib.hid (And.intro h1 (And.intro h2 hb))
    clear h1 h2 hb
    by_cases hlt : (a : Int) < b
    · obtain ⟨m, hm⟩ : ∃ m : Nat, m = (a + b) / 2 := ⟨_, rfl⟩
      have e1 : IntKind.i64.wrap ((a : Int) + b) = a + b := IntWalk.i64_in _ (by omega)
      have hme : ((a : Int) + b) / 2 = (m : Int) := by omega
      have hml : a ≤ m ∧ m < b := by omega
      obtain ⟨hm1, hm2⟩ := hml
      have hc := HP.out wr m H.out.2.2 (by omega)
      cases hpm : p m
      · rw [hpm] at hc
        have HC := Lib.hid hc
        have HF := Lib.hid (show ∀ x, x < m + 1 → p x = false from fun x hx => by
          cases hpx : p x
          · rfl
          · exact absurd (HM.out x m (by omega) (by omega) hpx) (by rw [hpm]; simp))
        have HX := Lib.hid hme
        clear hc hpm hm hme
        go_upto_region 4 with fail
        rw [HX.out]
        go_wp2_with fail
        refine HC.out.mono ?_
        rintro e w' ⟨rfl, hb'⟩
        have HB := Lib.hid (H.out.2.2.trans (hb'.mono H.out.2.2.size))
        have e2 : IntKind.i64.wrap ((m : Int) + 1) = (m : Int) + 1 := IntWalk.i64_in _ (by omega)
        clear hb'
        go_wp2
        go_roundw
        case rel => exact ⟨m + 1, b, by go_num, rfl, by omega, hbn, HF.out, H.out.2.1, HB.out⟩
        case measure => simp [intOf]; omega
      · rw [hpm] at hc
        have HC := Lib.hid hc
        have HF := Lib.hid (show ∀ x, m ≤ x → x < n → p x = true from fun x h1 h2 => HM.out m x h1 h2 hpm)
        have HX := Lib.hid hme
        clear hc hpm hm hme
        go_upto_region 4 with fail
        rw [HX.out]
        go_wp2_with fail
        refine HC.out.mono ?_
        rintro e w' ⟨rfl, hb'⟩
        have HB := Lib.hid (H.out.2.2.trans (hb'.mono H.out.2.2.size))
        clear hb'
        go_wp2
        go_roundw
        case rel => exact ⟨a, m, rfl, rfl, by omega, by omega, H.out.1, HF.out, HB.out⟩
        case measure => simp [intOf]; omega
    · have e : a = b := by omega
      subst e
      go_wp2
      go_ret
      exact ⟨a, rfl, hbn, H.out.1, H.out.2.1, H.out.2.2⟩

open Go.Proofs.Ytkcocdpmangcgaa.Vec (iv) in
/-- the closure of SearchInts. -/
theorem closure_any (xs : List Int) (b off c B1 B2 : Nat) (x : Int) (w : World) (hB1 : B1 < w.heap.size) (hB2 : B2 < w.heap.size) (hb : b < w.heap.size)
    (hc1 : w.cell? ⟨B1, 0, none⟩ = some (.slice (some ⟨b, off, none⟩) xs.length c)) (hc2 : w.cell? ⟨B2, 0, none⟩ = some (.int .i64 x)) (hcs : ∀ i, i < xs.length → w.cell? ⟨b, off + i, none⟩ = some (iv xs i)) (hn : xs.length ≤ 1099511627776) :
    ∀ (W : World) (i : Nat), Below w.heap.size w W → i < xs.length → Calls Try.prog 108 (#[.int .i64 (i : Nat)] ++ #[.pointer (some ⟨B1, 0, none⟩), .pointer (some ⟨B2, 0, none⟩)]) W fun e w' => e = .returned (.bool (decide (x ≤ xs.getD i 0))) ∧ Below W.heap.size W w' := by
  intro W i hW hi
  have g1 := (hW.cell (p := ⟨B1, 0, none⟩) hB1).trans hc1
  have g2 := (hW.cell (p := ⟨B2, 0, none⟩) hB2).trans hc2
  have g3 : W.cell? ⟨b, off + i, none⟩ = some (.int .i64 (xs.getD i 0)) := (hW.cell (p := ⟨b, _, none⟩) hb).trans (hcs i hi)
  have hi0 : (0 : Int) ≤ i := by omega
  have hi1 : (i : Int) < xs.length := by omega
  clear hc1 hc2 hcs hW
  generalize xs.getD i 0 = y at g3
  show Calls Try.prog 108 #[.int .i64 (i : Nat), .pointer (some ⟨B1, 0, none⟩), .pointer (some ⟨B2, 0, none⟩)] W _
  go_enter Try.func108, Try.ntmps108
  go_upto_region 1 with fail
  go_quiet (fail)
  go_wp2
  go_ret
  exact ⟨ret_bool (by simp), by (repeat (first | exact Below.refl _ _ | assumption | (refine Below.setCell ?_ (by first | (simp; done) | (simp; omega) | omega) _) | (refine Below.alloc ?_ (by first | (simp; done) | (simp; omega) | omega) _) | (refine Below.drew ?_) | (refine Below.drewN ?_ _) | (refine Below.trans ?_ (Below.mono (by assumption) (by first | (simp; done) | (simp; omega) | omega)))))⟩

theorem count_split (F : List Int) (x : Int) (r : Nat) (hr : r ≤ F.length) (h1 : ∀ a, a < r → F.getD a 0 < x) (h2 : ∀ a, r ≤ a → a < F.length → x ≤ F.getD a 0) : F.countP (fun f => decide (f < x)) = r := by
  have e : F = F.take r ++ F.drop r := (List.take_append_drop r F).symm
  rw [e, List.countP_append]
  have c1 : (F.take r).countP (fun f => decide (f < x)) = (F.take r).length := by
    rw [List.countP_eq_length]
    intro f hf
    obtain ⟨i, hi, rfl⟩ := List.mem_iff_getElem.1 hf
    have hi' : i < r := by simp at hi; omega
    have := h1 i hi'
    simp only [List.getD, List.getElem?_eq_getElem (show i < F.length by omega), Option.getD_some] at this
    simpa using this
  have c2 : (F.drop r).countP (fun f => decide (f < x)) = 0 := by
    rw [List.countP_eq_zero]
    intro f hf
    obtain ⟨i, hi, rfl⟩ := List.mem_iff_getElem.1 hf
    have hi' : r + i < F.length := by simp at hi; omega
    have := h2 (r + i) (by omega) hi'
    simp only [List.getD, List.getElem?_eq_getElem hi', Option.getD_some] at this
    simp; omega
  rw [c1, c2]
  simp; omega

open Go.Proofs.Ytkcocdpmangcgaa.Vec (iv) in
set_option maxRecDepth 100000 in
set_option maxHeartbeats 1000000 in
theorem searchInts_any (xs : List Int) (A : Option Addr) (c : Nat) (x : Int) (w : World) (hs : SlI w w.heap.size xs.length A (iv xs)) (hn : xs.length ≤ 1099511627776) (hm : ∀ a b, a ≤ b → b < xs.length → xs.getD a 0 ≤ xs.getD b 0) :
    Calls Try.prog 105 #[.slice A xs.length c, .int .i64 x] w fun e w' => e = .returned (.int .i64 (xs.countP fun f => decide (f < x))) ∧ Below w.heap.size w w' := by
  have eg : ∀ args w, (callFunc 108 args).run Try.prog w = .ok (.enter 108 args) w := enters_of Try.func108 (by kernel_rfl) rfl
  have hS : ∀ W : World, Below w.heap.size w W → w.heap.size + 1 < W.heap.size → W.cell? ⟨w.heap.size, 0, none⟩ = some (.slice A xs.length c) → W.cell? ⟨w.heap.size + 1, 0, none⟩ = some (.int .i64 x) →
      Calls Try.prog 107 #[.int .i64 xs.length, .func (.func 108) #[] #[.pointer (some ⟨w.heap.size, 0, none⟩), .pointer (some ⟨w.heap.size + 1, 0, none⟩)]] W fun e w' => e = .returned (.int .i64 (xs.countP fun f => decide (f < x))) ∧ Below W.heap.size W w' := by
    intro W hW hlt h1 h2
    refine (search_any xs.length hn 108 #[.pointer (some ⟨w.heap.size, 0, none⟩), .pointer (some ⟨w.heap.size + 1, 0, none⟩)] (fun i => decide (x ≤ xs.getD i 0)) W eg ?_ ?_).mono ?_
    · intro W2 i hW2 hi
      obtain ⟨b, off, rfl, hb, hcs⟩ := hs (by omega)
      exact closure_any xs b off c w.heap.size (w.heap.size + 1) x W (by omega) (by omega) (by omega) h1 h2 (fun i hi => (hW.cell (p := ⟨b, _, none⟩) hb).trans (hcs i hi)) hn W2 i hW2 hi
    · intro a b h1 h2 h3
      have := hm a b h1 h2
      simp only [decide_eq_true_eq] at h3 ⊢
      omega
    · rintro e w' ⟨r, rfl, hr, h1, h2, hb⟩
      refine ⟨?_, hb⟩
      rw [count_split xs x r hr (fun a ha => by have := h1 a ha; simpa using this) (fun a h3 h4 => by have := h2 a h3 h4; simpa using this)]
  have HS := Lib.hid hS
  clear hS hs hm
  generalize (xs.countP fun f => decide (f < x)) = r at HS ⊢
  go_enter Try.func105, Try.ntmps105
  go_wp2_with fail
  refine (HS.out _ (by (repeat (first | exact Below.refl _ _ | assumption | (refine Below.setCell ?_ (by first | (simp; done) | (simp; omega) | omega) _) | (refine Below.alloc ?_ (by first | (simp; done) | (simp; omega) | omega) _) | (refine Below.drew ?_) | (refine Below.drewN ?_ _) | (refine Below.trans ?_ (Below.mono (by assumption) (by first | (simp; done) | (simp; omega) | omega)))))) (by simp) (by simp [go_sem]) (by simp [go_sem])).mono ?_
  rintro e w' ⟨rfl, hb⟩
  have HB := Lib.hid hb
  clear hb
  go_wp2
  go_ret
  exact ⟨rfl, (show Below w.heap.size w _ from by (repeat (first | exact Below.refl _ _ | assumption | (refine Below.setCell ?_ (by first | (simp; done) | (simp; omega) | omega) _) | (refine Below.alloc ?_ (by first | (simp; done) | (simp; omega) | omega) _) | (refine Below.drew ?_) | (refine Below.drewN ?_ _) | (refine Below.trans ?_ (Below.mono (by assumption) (by first | (simp; done) | (simp; omega) | omega)))))).trans (HB.out.mono (by simp; omega))⟩
end Go.Proofs.Ytkcocdpmangcgaa.Buf
