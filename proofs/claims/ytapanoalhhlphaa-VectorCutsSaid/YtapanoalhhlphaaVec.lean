
/- The library's Equal at numbers and at truths. -/
import Derived.Test.YtapanoalhhlphaaVecK
namespace Go.Proofs.Ytapanoalhhlphaa.Vec
set_option linter.unusedSimpArgs false
set_option linter.unusedVariables false
open Go Go.RowKit
attribute [local go_sem] lt_add1 lt_self1 size_ne size_ne' size_ne1 size_ne1'

set_option maxHeartbeats 1000000 in
theorem equal_int (xs ys : List Int) (A B : Option Addr) (c d : Nat) (w : World) (h1 : SlI w w.heap.size xs.length A (iv xs)) (h2 : SlI w w.heap.size ys.length B (iv ys)) (hx : xs.length ≤ 9223372036854775807) (hy : ys.length ≤ 9223372036854775807) :
    Calls Try.prog 20 #[.slice A xs.length c, .slice B ys.length d] w fun e w' => e = .returned (.bool (decide (xs = ys))) ∧ Below w.heap.size w w' := by
  have H1 := Lib.hid h1
  have H2 := Lib.hid h2
  clear h1 h2
  go_enter Try.func20, Try.ntmps20
  by_cases hl : xs.length = ys.length
  · have hl' : (xs.length : Int) = ys.length := by omega
    go_wp2_with fail
    go_loopw [13] (fun i wr => ∃ k : Nat, k ≤ xs.length ∧ i = .int .i64 k ∧ xs.take k = ys.take k ∧ Below w.heap.size w wr) (fun i _ => xs.length - (intOf i).toNat)
    case atStart => exact ⟨0, by omega, rfl, by simp, Below.refl _ _⟩
    case round =>
      obtain ⟨k, hk, rfl, ht, hb⟩ := hrel
      have HT := Lib.hid ht
      have HB := Lib.hid hb
      clear ht hb
      by_cases hkl : k < xs.length
      · obtain ⟨b1, o1, rfl, hb1, hc1⟩ := H1.out (by omega)
        obtain ⟨b2, o2, rfl, hb2, hc2⟩ := H2.out (by omega)
        have f1 : wr.cell? ⟨b1, o1 + k, none⟩ = some (.int .i64 (xs.getD k 0)) := (HB.out.cell (p := ⟨b1, _, none⟩) hb1).trans (hc1 k (by omega))
        have f2 : wr.cell? ⟨b2, o2 + k, none⟩ = some (.int .i64 (ys.getD k 0)) := (HB.out.cell (p := ⟨b2, _, none⟩) hb2).trans (hc2 k (by omega))
        have hts := take_eq_succ 0 xs ys k hkl (by omega)
        have HTS := Lib.hid hts
        have hk0 : (0 : Int) ≤ k := by omega
        have hk1 : (k : Int) < xs.length := by omega
        have hk2 : (k : Int) < ys.length := by omega
        have hne : xs.getD k 0 ≠ ys.getD k 0 → xs ≠ ys := fun h e => h (by rw [e])
        have HNE := Lib.hid hne
        have hs1 : b1 < wr.heap.size := Nat.lt_of_lt_of_le hb1 HB.out.size
        have hs2 : b2 < wr.heap.size := Nat.lt_of_lt_of_le hb2 HB.out.size
        generalize xs.getD k 0 = x at f1 HTS HNE
        generalize ys.getD k 0 = y at f2 HTS HNE
        clear hc1 hc2 hts hne
        by_cases hxy : x = y
        · subst hxy
          go_upto_region 6 with fail
          go_quiet (fail)
          go_wp2
          go_roundw
          case rel => exact ⟨k + 1, by omega, by go_num, HTS.out.2 ⟨HT.out, rfl⟩, Below.drewN HB.out _⟩
          case measure => simp [intOf]; omega
        · go_upto_region 6 with fail
          go_quiet (fail)
          go_wp2
          go_ret
          exact ⟨ret_bool (by simp [HNE.out hxy]), Below.drewN HB.out _⟩
      · obtain rfl : k = xs.length := by omega
        have he : xs = ys := by have := HT.out; rwa [List.take_length, hl, List.take_length] at this
        go_wp2
        go_ret
        exact ⟨ret_bool (by simp [he]), HB.out⟩
  · have hl' : ¬ (xs.length : Int) = ys.length := by omega
    have hne : xs ≠ ys := fun e => hl (by rw [e])
    go_wp2
    go_ret
    exact ⟨ret_bool (by simp [hne]), Below.refl _ _⟩
set_option maxHeartbeats 1000000 in
theorem equal_bool (xs ys : List Bool) (A B : Option Addr) (c d : Nat) (w : World) (h1 : SlI w w.heap.size xs.length A (bv xs)) (h2 : SlI w w.heap.size ys.length B (bv ys)) (hx : xs.length ≤ 9223372036854775807) (hy : ys.length ≤ 9223372036854775807) :
    Calls Try.prog 21 #[.slice A xs.length c, .slice B ys.length d] w fun e w' => e = .returned (.bool (decide (xs = ys))) ∧ Below w.heap.size w w' := by
  have H1 := Lib.hid h1
  have H2 := Lib.hid h2
  clear h1 h2
  go_enter Try.func21, Try.ntmps21
  by_cases hl : xs.length = ys.length
  · have hl' : (xs.length : Int) = ys.length := by omega
    go_wp2_with fail
    go_loopw [13] (fun i wr => ∃ k : Nat, k ≤ xs.length ∧ i = .int .i64 k ∧ xs.take k = ys.take k ∧ Below w.heap.size w wr) (fun i _ => xs.length - (intOf i).toNat)
    case atStart => exact ⟨0, by omega, rfl, by simp, Below.refl _ _⟩
    case round =>
      obtain ⟨k, hk, rfl, ht, hb⟩ := hrel
      have HT := Lib.hid ht
      have HB := Lib.hid hb
      clear ht hb
      by_cases hkl : k < xs.length
      · obtain ⟨b1, o1, rfl, hb1, hc1⟩ := H1.out (by omega)
        obtain ⟨b2, o2, rfl, hb2, hc2⟩ := H2.out (by omega)
        have f1 : wr.cell? ⟨b1, o1 + k, none⟩ = some (.bool (xs.getD k false)) := (HB.out.cell (p := ⟨b1, _, none⟩) hb1).trans (hc1 k (by omega))
        have f2 : wr.cell? ⟨b2, o2 + k, none⟩ = some (.bool (ys.getD k false)) := (HB.out.cell (p := ⟨b2, _, none⟩) hb2).trans (hc2 k (by omega))
        have hts := take_eq_succ false xs ys k hkl (by omega)
        have HTS := Lib.hid hts
        have hk0 : (0 : Int) ≤ k := by omega
        have hk1 : (k : Int) < xs.length := by omega
        have hk2 : (k : Int) < ys.length := by omega
        have hne : xs.getD k false ≠ ys.getD k false → xs ≠ ys := fun h e => h (by rw [e])
        have HNE := Lib.hid hne
        have hs1 : b1 < wr.heap.size := Nat.lt_of_lt_of_le hb1 HB.out.size
        have hs2 : b2 < wr.heap.size := Nat.lt_of_lt_of_le hb2 HB.out.size
        generalize xs.getD k false = x at f1 HTS HNE
        generalize ys.getD k false = y at f2 HTS HNE
        clear hc1 hc2 hts hne
        by_cases hxy : x = y
        · subst hxy
          go_upto_region 6 with fail
          go_quiet (fail)
          go_wp2
          go_roundw
          case rel => exact ⟨k + 1, by omega, by go_num, HTS.out.2 ⟨HT.out, rfl⟩, Below.drewN HB.out _⟩
          case measure => simp [intOf]; omega
        · have hxy2 : (x == y) = false := by simpa using hxy
          go_upto_region 6 with fail
          go_quiet (fail)
          go_wp2
          go_ret
          exact ⟨ret_bool (by simp [HNE.out hxy]), Below.drewN HB.out _⟩
      · obtain rfl : k = xs.length := by omega
        have he : xs = ys := by have := HT.out; rwa [List.take_length, hl, List.take_length] at this
        go_wp2
        go_ret
        exact ⟨ret_bool (by simp [he]), HB.out⟩
  · have hl' : ¬ (xs.length : Int) = ys.length := by omega
    have hne : xs ≠ ys := fun e => hl (by rw [e])
    go_wp2
    go_ret
    exact ⟨ret_bool (by simp [hne]), Below.refl _ _⟩
end Go.Proofs.Ytapanoalhhlphaa.Vec
