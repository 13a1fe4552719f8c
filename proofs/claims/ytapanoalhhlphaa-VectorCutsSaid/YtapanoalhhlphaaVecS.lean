
/- Are two functions alike: the page's answer. -/
import Derived.Test.YtapanoalhhlphaaVecR
namespace Go.Proofs.Ytapanoalhhlphaa.Vec
set_option linter.unusedSimpArgs false
set_option linter.unusedVariables false
open Go Go.RowKit
attribute [local go_sem] lt_add1 lt_self1 size_ne size_ne' size_ne1 size_ne1'

theorem list_split {α : Type} [DecidableEq α] (d : α) (xs ys : List α) (hl : xs.length = ys.length) (k : Nat) (hk : k < xs.length) (hne : xs.getD k d ≠ ys.getD k d) : xs ≠ ys := fun e => hne (by rw [e])

set_option maxRecDepth 100000 in
set_option maxHeartbeats 2000000 in
theorem rsame_any (n m n' m' : Nat) (T T' : List Int) (H H' : List Bool) (A B A' B' : Option Addr) (c d c' d' : Nat) (w : World) (h : FunAt w A n B m T H) (h' : FunAt w A' n' B' m' T' H') (hn : n ≤ 1099511627776) (hm : m ≤ 1099511627776) (hn' : n' ≤ 1099511627776) (hm' : m' ≤ 1099511627776) :
    Calls Try.prog 9 #[.agg #[.slice A n c, .slice B m d], .agg #[.slice A' n' c', .slice B' m' d']] w fun e w' => e = .returned (.bool (decide (T = T' ∧ H = H'))) ∧ Below w.heap.size w w' := by
  have HH := Lib.hid (And.intro h h')
  clear h h'
  go_enter Try.func9, Try.ntmps9
  by_cases n1 : n = n'
  · by_cases n2 : m = m'
    · subst n1 n2
      go_wp2_with fail
      have hb1 : Below w.heap.size w ((w.alloc (.cells #[.slice A n c, .slice B m d] 29)).alloc (.cells #[.slice A' n c', .slice B' m d'] 29)) := by (repeat (first | exact Below.refl _ _ | assumption | (refine Below.setCell ?_ (by first | (simp; done) | (simp; omega) | omega) _) | (refine Below.alloc ?_ (by first | (simp; done) | (simp; omega) | omega) _) | (refine Below.drew ?_) | (refine Below.drewN ?_ _) | (refine Below.trans ?_ (Below.mono (by assumption) (by first | (simp; done) | (simp; omega) | omega)))))
      have hz1 : w.heap.size + 1 < ((w.alloc (.cells #[.slice A n c, .slice B m d] 29)).alloc (.cells #[.slice A' n c', .slice B' m d'] 29)).heap.size := by simp
      have q0 : ∀ o, ((w.alloc (.cells #[.slice A n c, .slice B m d] 29)).alloc (.cells #[.slice A' n c', .slice B' m d'] 29)).cell? ⟨w.heap.size, o, none⟩ = #[Value.slice A n c, .slice B m d][o]? := fun o => by
        rw [World.cell?_of_block (a := ⟨w.heap.size, o, none⟩) (heap_alloc_old _ _ (by simp))]
        exact World.cell?_alloc_new w _ _ o
      have q1 : ∀ o, ((w.alloc (.cells #[.slice A n c, .slice B m d] 29)).alloc (.cells #[.slice A' n c', .slice B' m d'] 29)).cell? ⟨w.heap.size + 1, o, none⟩ = #[Value.slice A' n c', .slice B' m d'][o]? := fun o => by
        have := World.cell?_alloc_new (w.alloc (.cells #[.slice A n c, .slice B m d] 29)) #[Value.slice A' n c', .slice B' m d'] 29 o
        have e : (w.alloc (.cells #[.slice A n c, .slice B m d] 29)).heap.size = w.heap.size + 1 := Array.size_push _
        rwa [e] at this
      have p0 := q0 0
      have p1 := q0 1
      have p2 := q1 0
      have p3 := q1 1
      simp only [List.getElem?_toArray, List.getElem?_cons_zero, List.getElem?_cons_succ] at p0 p1 p2 p3
      clear q0 q1
      generalize (w.alloc (.cells #[.slice A n c, .slice B m d] 29)).alloc (.cells #[.slice A' n c', .slice B' m d'] 29) = W at hb1 hz1 p0 p1 p2 p3 ⊢
      have hz0 : w.heap.size < W.heap.size := by omega
      have HB := Lib.hid hb1
      clear hb1
      go_loopw [5] (fun i wr => ∃ k : Nat, k ≤ n ∧ i = .int .i64 k ∧ T.take k = T'.take k ∧ Below W.heap.size W wr) (fun i _ => n - (intOf i).toNat)
      case atStart => exact ⟨0, by omega, rfl, by simp, Below.refl _ _⟩
      case round =>
        obtain ⟨k, hk, rfl, ht, hb⟩ := hrel
        have HT := Lib.hid (And.intro ht hb)
        have g0 := (hb.cell (p := ⟨w.heap.size, 0, none⟩) hz0).trans p0
        have g1 := (hb.cell (p := ⟨w.heap.size, 1, none⟩) hz0).trans p1
        have g2 := (hb.cell (p := ⟨w.heap.size + 1, 0, none⟩) hz1).trans p2
        have g3 := (hb.cell (p := ⟨w.heap.size + 1, 1, none⟩) hz1).trans p3
        have hzr0 : w.heap.size < wr.heap.size := Nat.lt_of_lt_of_le hz0 hb.size
        have hzr1 : w.heap.size + 1 < wr.heap.size := Nat.lt_of_lt_of_le hz1 hb.size
        have HBr := Lib.hid (HB.out.trans (hb.mono (by omega)))
        clear ht hb p0 p1 p2 p3
        by_cases hlt : k < n
        · obtain ⟨b1, o1, rfl, hb1, hc1⟩ := HH.out.1.2.2.1 (by omega)
          obtain ⟨b2, o2, rfl, hb2, hc2⟩ := HH.out.2.2.2.1 (by omega)
          have f1 : wr.cell? ⟨b1, o1 + k, none⟩ = some (.int .i64 (T.getD k 0)) := (HBr.out.cell (p := ⟨b1, _, none⟩) hb1).trans (hc1 k hlt)
          have f2 : wr.cell? ⟨b2, o2 + k, none⟩ = some (.int .i64 (T'.getD k 0)) := (HBr.out.cell (p := ⟨b2, _, none⟩) hb2).trans (hc2 k hlt)
          have hts := take_eq_succ 0 T T' k (by have := HH.out.1.1; omega) (by have := HH.out.2.1; omega)
          have hne : T.getD k 0 ≠ T'.getD k 0 → ¬ (T = T' ∧ H = H') := fun h e => h (by rw [e.1])
          have HTS := Lib.hid (And.intro hts hne)
          have hk0 : (0 : Int) ≤ k := by omega
          have hk1 : (k : Int) < n := by omega
          have hs1 : b1 < wr.heap.size := by omega
          have hs2 : b2 < wr.heap.size := by omega
          generalize T.getD k 0 = x at f1 HTS
          generalize T'.getD k 0 = y at f2 HTS
          clear hc1 hc2 hts hne
          by_cases hxy : x = y
          · subst hxy
            go_upto_region 6 with fail
            go_quiet (fail)
            go_wp2
            go_roundw
            case rel => exact ⟨k + 1, by omega, by go_num, HTS.out.1.2 ⟨HT.out.1, rfl⟩, Below.drewN HT.out.2 _⟩
            case measure => simp [intOf]; omega
          · go_upto_region 6 with fail
            go_quiet (fail)
            go_wp2
            go_ret
            exact ⟨ret_bool (by simp only [decide_eq_false (HTS.out.2 hxy)]), Below.drewN HBr.out _⟩
        · have e : k = n := by omega
          subst e
          have hTT : T = T' := by
            have := HT.out.1
            rwa [List.take_of_length_le (by have := HH.out.1.1; omega), List.take_of_length_le (by have := HH.out.2.1; omega)] at this
          have HTT := Lib.hid hTT
          clear hTT
          go_wp2_with fail
          go_loopw [6] (fun i w2 => ∃ j : Nat, j ≤ m ∧ i = .int .i64 j ∧ H.take j = H'.take j ∧ Below wr.heap.size wr w2) (fun i _ => m - (intOf i).toNat)
          case atStart => exact ⟨0, by omega, rfl, by simp, Below.refl _ _⟩
          case round =>
            obtain ⟨j, hj, rfl, ht, hb⟩ := hrel
            have HT2 := Lib.hid (And.intro ht hb)
            have g0 := (hb.cell (p := ⟨w.heap.size, 0, none⟩) hzr0).trans g0
            have g1 := (hb.cell (p := ⟨w.heap.size, 1, none⟩) hzr0).trans g1
            have g2 := (hb.cell (p := ⟨w.heap.size + 1, 0, none⟩) hzr1).trans g2
            have g3 := (hb.cell (p := ⟨w.heap.size + 1, 1, none⟩) hzr1).trans g3
            have hzr0 : w.heap.size < wr.heap.size := Nat.lt_of_lt_of_le hzr0 hb.size
            have hzr1 : w.heap.size + 1 < wr.heap.size := Nat.lt_of_lt_of_le hzr1 hb.size
            have HB2 := Lib.hid (HBr.out.trans (hb.mono (by omega)))
            clear ht hb
            by_cases hlt2 : j < m
            · obtain ⟨b1, o1, rfl, hb1, hc1⟩ := HH.out.1.2.2.2 (by omega)
              obtain ⟨b2, o2, rfl, hb2, hc2⟩ := HH.out.2.2.2.2 (by omega)
              have f1 : wr.cell? ⟨b1, o1 + j, none⟩ = some (.bool (H.getD j false)) := (HB2.out.cell (p := ⟨b1, _, none⟩) hb1).trans (hc1 j hlt2)
              have f2 : wr.cell? ⟨b2, o2 + j, none⟩ = some (.bool (H'.getD j false)) := (HB2.out.cell (p := ⟨b2, _, none⟩) hb2).trans (hc2 j hlt2)
              have hts := take_eq_succ false H H' j (by have := HH.out.1.2.1; omega) (by have := HH.out.2.2.1; omega)
              have hne : H.getD j false ≠ H'.getD j false → ¬ (T = T' ∧ H = H') := fun h e => h (by rw [e.2])
              have HTS := Lib.hid (And.intro hts hne)
              have hk0 : (0 : Int) ≤ j := by omega
              have hk1 : (j : Int) < m := by omega
              have hs1 : b1 < wr.heap.size := by omega
              have hs2 : b2 < wr.heap.size := by omega
              generalize H.getD j false = x at f1 HTS
              generalize H'.getD j false = y at f2 HTS
              clear hc1 hc2 hts hne
              by_cases hxy : x = y
              · subst hxy
                go_upto_region 11 with fail
                go_quiet (fail)
                go_wp2
                go_roundw
                case rel => exact ⟨j + 1, by omega, by go_num, HTS.out.1.2 ⟨HT2.out.1, rfl⟩, Below.drewN HT2.out.2 _⟩
                case measure => simp [intOf]; omega
              · have hxy2 : (x == y) = false := by simpa using hxy
                go_upto_region 11 with fail
                go_quiet (fail)
                go_wp2
                go_ret
                exact ⟨ret_bool (by simp only [decide_eq_false (HTS.out.2 hxy)]), Below.drewN HB2.out _⟩
            · have e : j = m := by omega
              subst e
              have hHH : H = H' := by
                have := HT2.out.1
                rwa [List.take_of_length_le (by have := HH.out.1.2.1; omega), List.take_of_length_le (by have := HH.out.2.2.1; omega)] at this
              have hd : decide (T = T' ∧ H = H') = true := decide_eq_true ⟨HTT.out, hHH⟩
              have HD := Lib.hid hd
              clear hd hHH
              go_wp2
              go_ret
              exact ⟨by rw [HD.out]; rfl, HB2.out⟩
    · have n3 : ¬ (m : Int) = m' := by omega
      have hd : decide (T = T' ∧ H = H') = false := decide_eq_false fun h => n2 (by rw [← HH.out.1.2.1, ← HH.out.2.2.1, h.2])
      rw [hd]
      subst n1
      go_wp2
      go_ret
      exact ⟨rfl, by (repeat (first | exact Below.refl _ _ | assumption | (refine Below.setCell ?_ (by first | (simp; done) | (simp; omega) | omega) _) | (refine Below.alloc ?_ (by first | (simp; done) | (simp; omega) | omega) _) | (refine Below.drew ?_) | (refine Below.drewN ?_ _) | (refine Below.trans ?_ (Below.mono (by assumption) (by first | (simp; done) | (simp; omega) | omega)))))⟩
  · have n3 : ¬ (n : Int) = n' := by omega
    have hd : decide (T = T' ∧ H = H') = false := decide_eq_false fun h => n1 (by rw [← HH.out.1.1, ← HH.out.2.1, h.1])
    rw [hd]
    go_wp2
    go_ret
    exact ⟨rfl, by (repeat (first | exact Below.refl _ _ | assumption | (refine Below.setCell ?_ (by first | (simp; done) | (simp; omega) | omega) _) | (refine Below.alloc ?_ (by first | (simp; done) | (simp; omega) | omega) _) | (refine Below.drew ?_) | (refine Below.drewN ?_ _) | (refine Below.trans ?_ (Below.mono (by assumption) (by first | (simp; done) | (simp; omega) | omega)))))⟩
end Go.Proofs.Ytapanoalhhlphaa.Vec
