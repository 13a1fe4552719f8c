/- The page's Const and Then. -/
import Derived.Test.YtloljnpnoohglaaVecH
import Derived.Test.YtloljnpnoohglaaVecT
import Derived.Test.YtloljnpnoohglaaSl
import Derived.Deep.AppendLies
import Derived.Deep.RegionHeld3
namespace Go.Proofs.Ytloljnpnoohglaa.Vec
set_option linter.unusedSimpArgs false
set_option linter.unusedVariables false
open Go Go.RowKit
attribute [local go_sem] lt_add1 lt_self1 size_ne size_ne' size_ne1 size_ne1'

set_option maxRecDepth 100000 in
set_option maxHeartbeats 1000000 in
theorem rconst_any (n m : Nat) (hn0 : 1 ≤ n) (hn1 : n ≤ 1099511627776) (T : List Int) (H : List Bool) (A B : Option Addr) (c d : Nat) (w : World) (h : FunAt w A n B m T H) :
    Calls Try.prog 38 #[.agg #[.slice A n c, .slice B m d]] w fun e w' => e = .returned (.int .i64 (if AllOne T then T.getD 0 0 else -1)) ∧ Below w.heap.size w w' := by
  have HH := Lib.hid h
  have hl0 : T.length = n := h.1
  obtain ⟨b1, o1, rfl, hbl1, hc1⟩ := h.2.2.1 (by omega)
  clear h
  have f0 : w.cell? ⟨b1, o1, none⟩ = some (.int .i64 (T.getD 0 0)) := by have := hc1 0 (by omega); rw [Nat.add_zero] at this; exact this
  have hb1 : Below w.heap.size w (w.alloc (.cells #[.slice (some ⟨b1, o1, none⟩) n c, .slice B m d] 60)) := by (repeat (first | exact Below.refl _ _ | assumption | (refine Below.setCell ?_ (by first | (simp; done) | (simp; omega) | omega) _) | (refine Below.alloc ?_ (by first | (simp; done) | (simp; omega) | omega) _) | (refine Below.drew ?_) | (refine Below.drewN ?_ _) | (refine Below.trans ?_ (Below.mono (by assumption) (by first | (simp; done) | (simp; omega) | omega)))))
  have hz1 : w.heap.size < (w.alloc (.cells #[.slice (some ⟨b1, o1, none⟩) n c, .slice B m d] 60)).heap.size := by simp
  have q0 : (w.alloc (.cells #[.slice (some ⟨b1, o1, none⟩) n c, .slice B m d] 60)).cell? ⟨w.heap.size, 0, none⟩ = some (.slice (some ⟨b1, o1, none⟩) n c) := World.cell?_alloc_new w _ _ 0
  have HC := Lib.hid hc1
  generalize hR : (if AllOne T then T.getD 0 0 else -1) = R
  have hR1 : ∀ x ∈ T, x ≠ T.getD 0 0 → R = -1 := fun x hx h => by rw [← hR]; exact if_neg fun ha => h (ha x hx)
  have hR2 : (∀ s ∈ T, s = T.getD 0 0) → R = T.getD 0 0 := fun h => by rw [← hR]; exact if_pos h
  generalize T.getD 0 0 = t0 at hR1 hR2 f0
  have HR := Lib.hid (And.intro hR1 hR2)
  clear hc1 hR hR1 hR2
  go_enter Try.func38, Try.ntmps38
  go_wp2_with fail
  generalize w.alloc (.cells #[.slice (some ⟨b1, o1, none⟩) n c, .slice B m d] 60) = W at hb1 hz1 q0 ⊢
  have HB := Lib.hid hb1
  have hbW : b1 < W.heap.size := by omega
  have g0 := (hb1.cell (p := ⟨b1, o1, none⟩) hbl1).trans f0
  clear hb1 f0
  go_loopw [3] (fun i wr => ∃ k : Nat, k ≤ n ∧ i = .int .i64 k ∧ (∀ s ∈ T.take k, s = t0) ∧ Below W.heap.size W wr) (fun i _ => n - (intOf i).toNat)
  case atStart => exact ⟨0, by omega, rfl, by simp, Below.refl _ _⟩
  case round =>
    obtain ⟨k, hk, rfl, hall, hb⟩ := hrel
    have HA := Lib.hid hall
    have p0 := (hb.cell (p := ⟨w.heap.size, 0, none⟩) hz1).trans q0
    have p1 := (hb.cell (p := ⟨b1, o1, none⟩) hbW).trans g0
    have hzr : w.heap.size < wr.heap.size := Nat.lt_of_lt_of_le hz1 hb.size
    have hbr : b1 < wr.heap.size := Nat.lt_of_lt_of_le hbW hb.size
    have HBr := Lib.hid (And.intro hb (HB.out.trans (hb.mono (by omega))))
    have hn2 : (0 : Int) < n := by omega
    clear hall hb q0 g0
    by_cases hlt : k < n
    · have hlen : k < T.length := by omega
      have hmem : T.getD k 0 ∈ T := by simp only [List.getD, List.getElem?_eq_getElem hlen, Option.getD_some]; exact List.getElem_mem hlen
      have f1 : wr.cell? ⟨b1, o1 + k, none⟩ = some (.int .i64 (T.getD k 0)) := (HBr.out.2.cell (p := ⟨b1, _, none⟩) hbl1).trans (HC.out k hlt)
      have htk : T.take (k + 1) = T.take k ++ [T.getD k 0] := by
        rw [List.take_add_one, List.getElem?_eq_getElem hlen]
        simp [List.getD, hlen]
      have HT := Lib.hid (And.intro hmem htk)
      have hk0 : (0 : Int) ≤ k := by omega
      have hk1 : (k : Int) < n := by omega
      generalize T.getD k 0 = x at f1 HT
      clear hmem htk
      by_cases hxt : x = t0
      · subst hxt
        go_upto_region 4 with fail
        go_quiet (fail)
        go_wp2
        go_roundw
        case rel =>
          refine ⟨k + 1, by omega, by go_num, fun s hs => ?_, Below.drewN HBr.out.1 _⟩
          rw [HT.out.2] at hs
          rcases List.mem_append.1 hs with h | h
          · exact HA.out s h
          · exact List.mem_singleton.1 h
        case measure => simp [intOf]; omega
      · go_upto_region 4 with fail
        go_quiet (fail)
        go_wp2
        go_ret
        exact ⟨by rw [HR.out.1 x HT.out.1 hxt]; rfl, Below.drewN HBr.out.2 _⟩
    · have e : k = n := by omega
      subst e
      have HX := Lib.hid (HR.out.2 fun s hs => HA.out s (by rwa [List.take_of_length_le (by omega)]))
      go_wp2
      go_ret
      exact ⟨by rw [HX.out]; rfl, HBr.out.2⟩
end Go.Proofs.Ytloljnpnoohglaa.Vec
