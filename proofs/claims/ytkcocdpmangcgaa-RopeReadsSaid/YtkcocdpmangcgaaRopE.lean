
/- Layer 22's document: texts by their numbers: Has, Span, Replace, Digits. */ -/
import Derived.Test.YtkcocdpmangcgaaRopO
import Derived.BigQuiet
namespace Go.Proofs.Ytkcocdpmangcgaa.Rp
set_option linter.unusedSimpArgs false
set_option linter.unusedVariables false
open Go Go.RowKit
attribute [local go_sem] lt_add1 lt_self1 size_ne size_ne' size_ne1 size_ne1'
attribute [local irreducible] wpGrow wpThr

/-- a slice of texts. -/
def SlS (w : World) (v : Value) (ls : List ByteArray) : Prop := ∃ A c, v = .slice A ls.length c ∧ (0 < ls.length → ∃ b off, A = some ⟨b, off, none⟩ ∧ b < w.heap.size ∧ ∀ i, i < ls.length → w.cell? ⟨b, off + i, none⟩ = some (.string (ls.getD i ⟨#[]⟩)))
theorem SlS.below {w w' : World} {v : Value} {ls : List ByteArray} (h : SlS w v ls) (hb : Below w.heap.size w w') : SlS w' v ls := by
  obtain ⟨A, c, rfl, h⟩ := h
  refine ⟨A, c, rfl, fun h0 => ?_⟩
  obtain ⟨b, off, e, hl, hc⟩ := h h0
  exact ⟨b, off, e, Nat.lt_of_lt_of_le hl hb.size, fun i hi => (hb.cell (p := ⟨b, _, none⟩) hl).trans (hc i hi)⟩
theorem SlS.of_own {w : World} {base : Nat} {v : Value} {ls : List ByteArray} (h : w.ownsRow base 9 1 v ls.length (ls.map Value.string)) : SlS w v ls := by
  obtain ⟨A, c, rfl, _, hs⟩ := SlAt.of_own h
  refine ⟨A, c, rfl, fun h0 => ?_⟩
  obtain ⟨b, off, e, hb, hc⟩ := hs h0
  refine ⟨b, off, e, hb, fun i hi => ?_⟩
  have := hc i 0 hi (by omega)
  simp only [Nat.mul_one, Nat.add_zero] at this
  rw [this]
  simp [List.getD, hi]

def hasB (n : Nat) (i : Int) : Bool := decide (0 ≤ i) && decide (i < n)
def spanR (ls : List ByteArray) (i a n : Int) : Int := if hasB ls.length i = true then spanV (ls.getD i.toNat ⟨#[]⟩).size a n else 7
def repS (x : ByteArray) (a n : Int) (t : ByteArray) : ByteArray := x.extract 0 a.toNat ++ t ++ x.extract (a + n).toNat x.size
theorem repS_list (x t : ByteArray) {a n : Int} (h0 : 0 ≤ a) (h1 : 0 ≤ n) (h2 : a + n ≤ x.size) : (repS x a n t).data.toList = x.data.toList.take a.toNat ++ t.data.toList ++ x.data.toList.drop (a.toNat + n.toNat) := by
  have hx : x.data.toList.length = x.size := rfl
  unfold repS
  rw [ByteArray.data_append, ByteArray.data_append, Array.toList_append, Array.toList_append, extract_list, extract_list]
  rw [List.drop_zero, Nat.sub_zero, List.take_of_length_le (i := x.size - (a + n).toNat) (by rw [List.length_drop]; omega), show (a + n).toNat = a.toNat + n.toNat by omega]

set_option maxHeartbeats 1000000 in
theorem has_any (v : Value) (ls : List ByteArray) (i : Int) (w : World) (h : SlS w v ls) (hn : ls.length ≤ 1000000) :
    Calls Try.prog 36 #[.agg #[v], .int .i64 i] w fun e w' => e = .returned (.bool (hasB ls.length i)) ∧ Below w.heap.size w w' := by
  obtain ⟨A, c, rfl, _⟩ := h
  have hb : Below w.heap.size w (w.alloc (.cells #[.slice A ls.length c] 61)) := (Below.refl _ _).alloc (Nat.le_refl _) _
  have HB := Lib.hid hb
  clear hb
  generalize ls.length = n at hn HB ⊢
  by_cases h0 : 0 ≤ i
  · by_cases h1 : i < n
    · have e : hasB n i = true := by simp [hasB, h0, h1]
      rw [e]
      go_enter Try.func36, Try.ntmps36
      go_wp2
      go_ret
      exact ⟨rfl, HB.out⟩
    · have e : hasB n i = false := by simp [hasB, h1]
      rw [e]
      go_enter Try.func36, Try.ntmps36
      go_wp2
      go_ret
      exact ⟨rfl, HB.out⟩
  · have e : hasB n i = false := by simp [hasB, h0]
    rw [e]
    go_enter Try.func36, Try.ntmps36
    go_wp2
    go_ret
    exact ⟨rfl, HB.out⟩

set_option maxHeartbeats 4000000 in
theorem span_any (v : Value) (ls : List ByteArray) (i a n : Int) (w : World) (h : SlS w v ls) (hn : ls.length ≤ 1000000) (hs : ∀ x ∈ ls, x.size ≤ 1000000) :
    Calls Try.prog 41 #[.agg #[v], .int .i64 i, .int .i64 a, .int .i64 n] w fun e w' => e = .returned (.int .i64 (spanR ls i a n)) ∧ Below w.heap.size w w' := by
  have hb0 : Below w.heap.size w (w.alloc (.cells #[v] 61)) := (Below.refl _ _).alloc (Nat.le_refl _) _
  have hk0 : (w.alloc (.cells #[v] 61)).heap[w.heap.size]? = some (.cells #[v] 61 (0, 0)) := heap_alloc_new _ _
  have HH := Lib.hid (fun w' (hb : Below w.heap.size w w') => has_any v ls i w' (h.below hb) hn)
  have H0 := Lib.hid (And.intro hb0 hk0)
  have HS := Lib.hid (And.intro h hs)
  obtain ⟨A, c, rfl, hc⟩ := h
  have HC := Lib.hid hc
  clear hb0 hk0 hs hc
  by_cases hh : hasB ls.length i = true
  · rw [hh] at HH
    obtain ⟨k, rfl⟩ : ∃ k : Nat, i = k := ⟨i.toNat, by simp [hasB] at hh; omega⟩
    have hk : k < ls.length := by simp [hasB] at hh; exact hh
    have hsp : spanR ls k a n = spanV (ls.getD k ⟨#[]⟩).size a n := by unfold spanR; rw [if_pos hh, Int.toNat_natCast]
    rw [hsp]
    have hx : (ls.getD k ⟨#[]⟩).size ≤ 1000000 := HS.out.2 _ (by simp [List.getD, hk])
    obtain ⟨b, off, rfl, hbl, hcs⟩ := HC.out (by omega)
    have hcell := hcs k hk
    have HX := Lib.hid hcell
    clear hcs hcell hsp
    generalize ls.getD k ⟨#[]⟩ = x at hx HX ⊢
    have hk' : (k : Int) < ls.length := by omega
    generalize ls.length = m at *
    have key : ∀ r : Int, spanV x.size a n = r → Calls Try.prog 41 #[.agg #[.slice (some ⟨b, off, none⟩) m c], .int .i64 k, .int .i64 a, .int .i64 n] w fun e w' => e = .returned (.int .i64 r) ∧ Below w.heap.size w w' := by
      intro r hr
      have hz : (x.size : Int) ≤ 1000000 := by omega
      have cases5 : (a < 0) ∨ (¬ a < 0 ∧ n < 0) ∨ (¬ a < 0 ∧ ¬ n < 0 ∧ x.size < a) ∨ (¬ a < 0 ∧ ¬ n < 0 ∧ ¬ x.size < a ∧ x.size - a < n) ∨ (¬ a < 0 ∧ ¬ n < 0 ∧ ¬ x.size < a ∧ ¬ x.size - a < n) := by omega
      rcases cases5 with h1 | ⟨h1, h2⟩ | ⟨h1, h2, h3⟩ | ⟨h1, h2, h3, h4⟩ | ⟨h1, h2, h3, h4⟩
      all_goals
        have er : r = (if a < 0 ∨ n < 0 ∨ x.size < a ∨ x.size - a < n then 2 else 0) := by rw [← hr]; unfold spanV; rfl
        first | rw [if_pos (by omega)] at er | rw [if_neg (by omega)] at er
        subst er
        clear hr
        go_enter Try.func41, Try.ntmps41
        go_wp2_with fail
        ((with_reducible refine (HH.out _ H0.out.1).mono ?_); rintro e w1 ⟨rfl, hb1⟩)
        have hb2 := H0.out.1.trans (hb1.mono H0.out.1.size)
        have f0 : w1.cell? ⟨b, off + k, none⟩ = some (.string x) := (hb2.cell (p := ⟨b, _, none⟩) hbl).trans HX.out
        have f1 : w1.cell? ⟨w.heap.size, 0, none⟩ = some (.slice (some ⟨b, off, none⟩) m c) := cell_of_row w1 _ 0 _ _ (0, 0) ((hb1.block _ (Array.getElem?_eq_some_iff.1 H0.out.2).1).trans H0.out.2)
        have HB2 := Lib.hid hb2
        clear hb1 hb2
        go_wp2
        go_ret
        exact ⟨rfl, HB2.out⟩
    exact key _ rfl
  · have hf : hasB ls.length i = false := by simpa using hh
    have hsp : spanR ls i a n = 7 := by unfold spanR; rw [if_neg hh]
    rw [hsp]
    rw [hf] at HH
    generalize ls.length = m at *
    go_enter Try.func41, Try.ntmps41
    go_wp2_with fail
    ((with_reducible refine (HH.out _ H0.out.1).mono ?_); rintro e w1 ⟨rfl, hb1⟩)
    have HB2 := Lib.hid (H0.out.1.trans (hb1.mono H0.out.1.size))
    clear hb1
    go_wp2
    go_ret
    exact ⟨rfl, HB2.out⟩

set_option maxHeartbeats 4000000 in
theorem refrep_any (v : Value) (ls : List ByteArray) (i a n : Int) (t : ByteArray) (w : World) (h : SlS w v ls) (hn : ls.length ≤ 1000000) (hs : ∀ x ∈ ls, x.size ≤ 1000000) (ht : t.size ≤ 1000000) :
    Calls Try.prog 76 #[.agg #[v], .int .i64 i, .int .i64 a, .int .i64 n, .string t] w fun e w' =>
      e = .returned (if spanR ls i a n = 0 then .tuple #[.string (repS (ls.getD i.toNat ⟨#[]⟩) a n t), .int .i64 0] else .tuple #[.string ⟨#[]⟩, .int .i64 (spanR ls i a n)]) ∧ Below w.heap.size w w' := by
  have hb0 : Below w.heap.size w (w.alloc (.cells #[v] 61)) := (Below.refl _ _).alloc (Nat.le_refl _) _
  have hk0 : (w.alloc (.cells #[v] 61)).heap[w.heap.size]? = some (.cells #[v] 61 (0, 0)) := heap_alloc_new _ _
  have HH := Lib.hid (fun w' (hb : Below w.heap.size w w') => span_any v ls i a n w' (h.below hb) hn hs)
  have H0 := Lib.hid (And.intro hb0 hk0)
  have HS := Lib.hid (And.intro h hs)
  obtain ⟨A, c, rfl, hc⟩ := h
  have HC := Lib.hid hc
  clear hb0 hk0 hs hc
  by_cases hsp : spanR ls i a n = 0
  · rw [if_pos hsp]
    rw [hsp] at HH
    have hh : hasB ls.length i = true := by
      unfold spanR at hsp
      split at hsp
      · assumption
      · omega
    have hv : spanV (ls.getD i.toNat ⟨#[]⟩).size a n = 0 := by unfold spanR at hsp; rwa [if_pos hh] at hsp
    obtain ⟨k, rfl⟩ : ∃ k : Nat, i = k := ⟨i.toNat, by simp [hasB] at hh; omega⟩
    have hk : k < ls.length := by simp [hasB] at hh; exact hh
    rw [Int.toNat_natCast] at hv ⊢
    have hx : (ls.getD k ⟨#[]⟩).size ≤ 1000000 := HS.out.2 _ (by simp [List.getD, hk])
    obtain ⟨b, off, rfl, hbl, hcs⟩ := HC.out (by omega)
    have hcell := hcs k hk
    have HX := Lib.hid hcell
    clear hcs hcell hsp hh
    generalize ls.getD k ⟨#[]⟩ = x at hx HX hv ⊢
    have hk' : (k : Int) < ls.length := by omega
    generalize ls.length = m at *
    have hin : 0 ≤ a ∧ 0 ≤ n ∧ a + n ≤ x.size := by unfold spanV at hv; split at hv <;> omega
    obtain ⟨h1, h2, h3⟩ := hin
    have h4 : a ≤ x.size := by omega
    unfold repS
    clear hv
    go_enter Try.func76, Try.ntmps76
    go_wp2_with fail
    ((with_reducible refine (HH.out _ H0.out.1).mono ?_); rintro e w1 ⟨rfl, hb1⟩)
    have hb2 := H0.out.1.trans (hb1.mono H0.out.1.size)
    have f0 : w1.cell? ⟨b, off + k, none⟩ = some (.string x) := (hb2.cell (p := ⟨b, _, none⟩) hbl).trans HX.out
    have f1 : w1.cell? ⟨w.heap.size, 0, none⟩ = some (.slice (some ⟨b, off, none⟩) m c) := cell_of_row w1 _ 0 _ _ (0, 0) ((hb1.block _ (Array.getElem?_eq_some_iff.1 H0.out.2).1).trans H0.out.2)
    have HB2 := Lib.hid hb2
    clear hb1 hb2
    go_upto_region 5 with fail
    go_quiet (fail)
    all_goals
      go_wp2
      go_ret2
      refine ⟨rfl, ?_⟩
      have hb := HB2.out
      (repeat (first | exact Below.refl _ _ | assumption | (refine Below.setCell ?_ (by first | (simp; done) | (simp; omega) | omega) _) | (refine Below.alloc ?_ (by first | (simp; done) | (simp; omega) | omega) _) | (refine Below.drew ?_) | (refine Below.drewN ?_ _) | (refine Below.trans ?_ (Below.mono (by assumption) (by first | (simp; done) | (simp; omega) | omega)))))
  · rw [if_neg hsp]
    generalize spanR ls i a n = r at *
    have hr : (r != 0) = true := by simp [hsp]
    go_enter Try.func76, Try.ntmps76
    go_wp2_with fail
    ((with_reducible refine (HH.out _ H0.out.1).mono ?_); rintro e w1 ⟨rfl, hb1⟩)
    have HB2 := Lib.hid (H0.out.1.trans (hb1.mono H0.out.1.size))
    clear hb1
    go_wp2
    go_ret2
    exact ⟨rfl, HB2.out⟩

/-- binary digits. -/
theorem digits_half (k n : Nat) (h : 0 < n) : digits (k + 1) n = digits k (n / 2) + 1 := by simp only [digits]; rw [if_neg (by omega)]
set_option maxHeartbeats 1000000 in
theorem digits_any (n : Nat) (hn : n ≤ 1000000) (w : World) : Calls Try.prog 77 #[.int .i64 n] w fun e w' => e = .returned (.int .i64 (digits 64 n)) ∧ w = w' := by
  go_enter Try.func77, Try.ntmps77
  go_wp2
  go_loop [0, 3] (fun x k => ∃ (m j : Nat), x = .int .i64 m ∧ k = .int .i64 j ∧ m ≤ 1000000 ∧ j ≤ 64 ∧ m < 2 ^ (64 - j) ∧ j + digits (64 - j) m = digits 64 n) (fun x _ => (intOf x).toNat)
  case atStart => exact ⟨n, 0, rfl, rfl, hn, by omega, by omega, by simp⟩
  case round =>
    obtain ⟨m, j, rfl, rfl, hm, hj, hp, hd⟩ := hrel
    by_cases h0 : 0 < m
    · have hj2 : j < 64 := by
        rcases Nat.lt_or_ge j 64 with h | h
        · exact h
        · rw [show 64 - j = 0 by omega] at hp; omega
      have h0' : (0 : Int) < m := by omega
      have HD := Lib.hid (And.intro hp hd)
      clear hp hd
      go_wp2
      go_round
      case rel =>
        obtain ⟨hp, hd⟩ := HD.out
        refine ⟨m / 2, j + 1, by go_num, by go_num, by omega, by omega, ?_, ?_⟩
        · rw [show 64 - j = (64 - (j + 1)) + 1 by omega, Nat.pow_succ] at hp; omega
        · rw [show 64 - j = (64 - (j + 1)) + 1 by omega, digits_half _ _ h0] at hd; omega
      case measure => simp [intOf]; omega
    · obtain rfl : m = 0 := by omega
      go_wp2
      go_ret
      refine ⟨?_, rfl⟩
      have : digits (64 - j) 0 = 0 := by cases (64 - j) <;> simp [digits]
      rw [← hd, this]
      rfl
end Go.Proofs.Ytkcocdpmangcgaa.Rp
