/- The walk of the page's example of arenas, and of ArenaWhole. -/
import Derived.Test.YtloljnpnoohglaaArena
namespace Go.Proofs.Ytloljnpnoohglaa.Ar
set_option linter.unusedSimpArgs false
set_option linter.unusedVariables false
open Go Go.RowKit
attribute [local go_sem] lt_add1 lt_self1 size_ne size_ne' size_ne1 size_ne1'

theorem foot_ge {B g : Nat} {r : Option Nat} (hg : B ≤ g) (hr : ∀ b, r = some b → B ≤ b) : ∀ b, foot g r b → B ≤ b := fun b h => h.elim (fun e => e ▸ hg) (hr b)

set_option maxHeartbeats 1000000 in
theorem awake_any (w : World) : Calls Try.prog 22 #[] w fun e w' => e = .returned (.bool true) ∧ Below w.heap.size w w' := by
  go_enter Try.func22, Try.ntmps22
  go_wp2_with fail
  refine (new_any _).mono ?_
  rintro e w1 ⟨rfl, ha, hb, hz⟩
  have hF0 : ∀ b, foot w.heap.size none b → w.heap.size ≤ b := foot_ge (Nat.le_refl _) (fun _ h => by cases h)
  have H1 := Lib.hid (And.intro ha hb)
  have HF0 := Lib.hid hF0
  have hz1 : w.heap.size < w1.heap.size := by omega
  clear ha hb hz hF0
  go_wp2_with fail
  refine (leaf_any _ _ _ 0 3 1 _ H1.out.1 (by simp [small])).mono ?_
  rintro e w2 hq
  obtain ⟨r2, rfl, ha2, hf2⟩ : ∃ r', e = .returned (.tuple #[.int .i64 1, .int .i64 0]) ∧ Arena w2 w.heap.size r' [leafK 0 3 1] ∧ Fr w1 (foot w.heap.size none) w2 (foot w.heap.size r') := by
    rcases hq with ⟨h, _⟩ | ⟨_, r', rfl, ha, hf⟩
    · simp [leafBad] at h
    · exact ⟨r', rfl, ha, hf⟩
  have hb2 := hf2.below H1.out.2 HF0.out (by omega)
  have hF2 := hf2.ge HF0.out (by omega)
  have H2 := Lib.hid (And.intro ha2 (And.intro hb2 hF2))
  have hz2 : w.heap.size < w2.heap.size := by have := hf2.size; omega
  clear hq ha2 hf2 hb2 hF2 H1 HF0 hz1
  go_wp2_with fail
  refine (pair_any _ _ _ 1 1 _ H2.out.1 (by simp [small])).mono ?_
  rintro e w3 hq
  have e1 : pairK [leafK 0 3 1] 1 1 = ⟨1, 1, 0, 6, 2, 2, 2⟩ := by simp [pairK, getK, getS, leafK, wrap64]
  obtain ⟨r3, rfl, ha3, hf3⟩ : ∃ r', e = .returned (.tuple #[.int .i64 2, .int .i64 0]) ∧ Arena w3 w.heap.size r' [leafK 0 3 1, ⟨1, 1, 0, 6, 2, 2, 2⟩] ∧ Fr w2 (foot w.heap.size r2) w3 (foot w.heap.size r') := by
    rcases hq with ⟨h, _⟩ | ⟨_, h, _⟩ | ⟨_, _, r', rfl, ha, hf⟩
    · simp [getB, getS] at h
    · simp [getK, getS, leafK, wrap64] at h
    · rw [e1] at ha; exact ⟨r', rfl, ha, hf⟩
  have hb3 := hf3.below H2.out.2.1 H2.out.2.2 (by omega)
  have H3 := Lib.hid (And.intro ha3 hb3)
  have hz3 : w.heap.size < w3.heap.size := by have := hf3.size; omega
  clear hq ha3 hf3 hb3 H2 hz2 e1
  go_wp2_with fail
  refine (get_any _ _ _ 2 _ H3.out.1 (by simp [small])).mono ?_
  rintro e w4 ⟨rfl, hb4⟩
  have e2 : getK [leafK 0 3 1, ⟨1, 1, 0, 6, 2, 2, 2⟩] 2 = ⟨1, 1, 0, 6, 2, 2, 2⟩ := by simp [getK, getS]
  have e3 : getB [leafK 0 3 1, ⟨1, 1, 0, 6, 2, 2, 2⟩] 2 = true := by simp [getB, getS]
  rw [e2, e3]
  simp only [Knot.val]
  have H4 := Lib.hid (And.intro (H3.out.1.below hb4) (H3.out.2.trans (hb4.mono (by omega))))
  have hz4 : w.heap.size < w4.heap.size := by have := hb4.size; omega
  clear hb4 H3 hz3 e2 e3
  go_wp2_with (go_at_call 24; ((with_reducible refine (len_any _ _ _ _ (H4.out.1.below (by (repeat (first | exact Below.refl _ _ | assumption | (refine Below.setCell ?_ (by first | (simp; done) | (simp; omega) | omega) _) | (refine Below.alloc ?_ (by first | (simp; done) | (simp; omega) | omega) _) | (refine Below.drew ?_) | (refine Below.drewN ?_ _) | (refine Below.trans ?_ (Below.mono (by assumption) (by first | (simp; done) | (simp; omega) | omega)))))))).mono ?_); rintro e w5 ⟨rfl, rfl⟩))
  go_ret
  exact ⟨rfl, H4.out.2.alloc (by omega) _⟩

theorem getK_at {ks : List Knot} {i : Int} {k : Nat} (hi : i = (k : Int) + 1) (hk : k < ks.length) : getK ks i = ks.getD k Knot.zero ∧ getB ks i = true := by
  subst hi
  have : getS ks ((k : Int) + 1) = (ks.getD k Knot.zero, true) := by unfold getS; rw [if_pos (by omega)]; congr 2; omega
  rw [getK, getB, this]
  exact ⟨rfl, rfl⟩

set_option maxRecDepth 100000 in
set_option maxHeartbeats 2000000 in
theorem whole_walk (n : Int) (D : Int) (hD0 : 0 ≤ D) (hD1 : D ≤ 255) (w : World) : Calls Try.prog 8 #[.int .i64 n, .int .u8 D] w fun e w' => e = .returned (.bool true) ∧ Below w.heap.size w w' := by
  go_enter Try.func8, Try.ntmps8
  go_wp2_with fail
  refine (awake_any _).mono ?_
  rintro e w0 ⟨rfl, hb0⟩
  have HB0 := Lib.hid hb0
  clear hb0
  go_wp2_with fail
  refine (new_any _).mono ?_
  rintro e w1 ⟨rfl, ha, hb, hz⟩
  have hbs := HB0.out.size
  have H1 := Lib.hid (And.intro ha (And.intro (HB0.out.trans (hb.mono hbs)) (foot_ge (B := w.heap.size) (g := w0.heap.size) (r := none) hbs (fun _ h => by cases h))))
  have hz1 : w0.heap.size < w1.heap.size := by omega
  generalize w0.heap.size = g at hbs H1 hz1 ⊢
  clear ha hb hz HB0
  go_wp2_with fail
  refine (leaf_any _ _ _ 0 n 0 _ H1.out.1 (by simp [small])).mono ?_
  rintro e w2 hq
  cases hbad : leafBad 0 n 0
  · obtain ⟨r2, rfl, ha2, hf2⟩ : ∃ r', e = .returned (.tuple #[.int .i64 1, .int .i64 0]) ∧ Arena w2 g r' [leafK 0 n 0] ∧ Fr w1 (foot g none) w2 (foot g r') := by
      rcases hq with ⟨h, _⟩ | ⟨_, r', rfl, ha, hf⟩
      · rw [hbad] at h; cases h
      · exact ⟨r', rfl, ha, hf⟩
    have hb2 := hf2.below H1.out.2.1 H1.out.2.2 (by omega)
    have hF2 := hf2.ge H1.out.2.2 (by omega)
    have H2 := Lib.hid (And.intro ha2 (And.intro hb2 hF2))
    have hz2 : g < w2.heap.size := by have := hf2.size; omega
    have hn1 : 1 ≤ n ∧ n ≤ 1048576 := by simp [leafBad] at hbad; omega
    obtain ⟨hn1, hn2⟩ := hn1
    clear hq ha2 hf2 hb2 hF2 H1 hz1 hbad
    go_wp2_with fail
    go_loopw [6, 8, 9] (fun at_ sz i wr => ∃ (k : Nat) (S : Int) (ks : List Knot) (r : Option Nat), k ≤ 47 ∧ at_ = .int .i64 ((k : Int) + 1) ∧ sz = .int .i64 S ∧ i = .int .i64 k ∧ 1 ≤ S ∧ S ≤ 1099511627776 ∧ g < wr.heap.size ∧
        ks.length = k + 1 ∧ (ks.getD k Knot.zero).len = S ∧ (ks.getD k Knot.zero).high = (k : Int) + 1 ∧ Arena wr g r ks ∧ Below w.heap.size w wr ∧ (∀ b, foot g r b → w.heap.size ≤ b)) (fun _ _ i _ => 48 - (intOf i).toNat)
    case atStart => exact ⟨0, n, [leafK 0 n 0], r2, by omega, rfl, rfl, rfl, by omega, by omega, hz2, rfl, rfl, rfl, H2.out.1, H2.out.2.1, H2.out.2.2⟩
    case round =>
      obtain ⟨k, S, ks, r, hk, rfl, rfl, rfl, hS1, hS2, hzr, hlen, hl, hh, ha, hb, hF⟩ := hrel
      have HA := Lib.hid (And.intro ha (And.intro hb hF))
      have HL := Lib.hid (And.intro hlen (And.intro hl hh))
      clear ha hb hF hlen hl hh
      by_cases hlt : (k : Int) < D % 48
      · obtain ⟨hlen, hl, hh⟩ := HL.out
        obtain ⟨gk, gb⟩ := getK_at (ks := ks) (i := (k : Int) + 1) (k := k) rfl (by omega)
        have hlen2 : ∀ w', Arena w' g r ks → Calls Try.prog 24 #[.pointer (some ⟨g, 0, none⟩)] w' fun e w'' => e = .returned (.int .i64 ((k : Int) + 1)) ∧ w' = w'' := fun w' ha => by
          have := len_any g r ks w' ha
          rwa [hlen] at this
        have HL2 := Lib.hid hlen2
        have HG := Lib.hid (And.intro gk gb)
        have hw2 : 549755813888 < S → 1099511627776 < wrap64 (S + S) := fun h => by unfold wrap64; omega
        have hw3 : wrap64 (S + S) = S + S := by unfold wrap64; omega
        have HW := Lib.hid (And.intro hw2 hw3)
        clear hlen hl hh hlen2 gk gb hw2 hw3
        go_wp2_with fail
        refine (pair_any g r ks ((k : Int) + 1) ((k : Int) + 1) wr HA.out.1 (by have := HL.out.1; unfold small; omega)).mono ?_
        rintro e w3 hq
        rw [HG.out.1, HG.out.2, HL.out.2.1, HW.out.2] at hq
        by_cases hS : 549755813888 < S
        · obtain ⟨rfl, hb3⟩ : e = .returned (.tuple #[.int .i64 0, .int .i64 4]) ∧ Below wr.heap.size wr w3 := by
            rcases hq with ⟨h, _⟩ | ⟨_, _, h⟩ | ⟨_, h, _⟩
            · cases h
            · exact h
            · omega
          have HA3 := Lib.hid (And.intro (HA.out.1.below hb3) (HA.out.2.1.trans (hb3.mono HA.out.2.1.size)))
          clear hq hb3
          go_wp2_with (go_at_call 24; ((with_reducible refine (HL2.out _ HA3.out.1).mono ?_); rintro e w5 ⟨rfl, rfl⟩))
          go_ret
          exact ⟨rfl, HA3.out.2⟩
        · obtain ⟨r3, rfl, ha3, hf3⟩ : ∃ r', e = .returned (.tuple #[.int .i64 ((k : Int) + 2), .int .i64 0]) ∧ Arena w3 g r' (ks ++ [pairK ks ((k : Int) + 1) ((k : Int) + 1)]) ∧ Fr wr (foot g r) w3 (foot g r') := by
            rcases hq with ⟨h, _⟩ | ⟨_, h, _⟩ | ⟨_, _, r', rfl, ha, hf⟩
            · cases h
            · omega
            · exact ⟨r', by rw [HL.out.1]; simp; omega, ha, hf⟩
          have hb3 := hf3.below HA.out.2.1 HA.out.2.2 HA.out.2.1.size
          have hF3 := hf3.ge HA.out.2.2 HA.out.2.1.size
          have HA3 := Lib.hid (And.intro ha3 (And.intro hb3 hF3))
          have hz3 : g < w3.heap.size := by have := hf3.size; omega
          have hgd : (ks ++ [pairK ks ((k : Int) + 1) ((k : Int) + 1)]).getD (k + 1) Knot.zero = pairK ks ((k : Int) + 1) ((k : Int) + 1) := by simp [List.getD, HL.out.1]
          have hlk : (ks ++ [pairK ks ((k : Int) + 1) ((k : Int) + 1)]).length = k + 2 := by simp [HL.out.1]
          have hpl : (pairK ks ((k : Int) + 1) ((k : Int) + 1)).len = S + S := by unfold pairK; simp only [HG.out.1, HL.out.2.1]; exact HW.out.2
          have hph : (pairK ks ((k : Int) + 1) ((k : Int) + 1)).high = (k : Int) + 2 := by unfold pairK; simp only [HG.out.1, HL.out.2.2]; unfold wrap64; omega
          obtain ⟨gk2, gb2⟩ := getK_at (ks := ks ++ [pairK ks ((k : Int) + 1) ((k : Int) + 1)]) (i := (k : Int) + 2) (k := k + 1) (by omega) (by omega)
          have hget := get_any g r3 _ ((k : Int) + 2) w3 ha3 (by rw [hlk]; unfold small; omega)
          rw [gk2, gb2, hgd] at hget
          generalize pairK ks ((k : Int) + 1) ((k : Int) + 1) = pk at hget HA3 hgd hlk hpl hph
          unfold Knot.val at hget
          rw [hpl, hph] at hget
          have HGET := Lib.hid hget
          have HD := Lib.hid (And.intro hgd (And.intro hlk (And.intro hpl hph)))
          clear hq ha3 hf3 hb3 hF3 gk2 gb2 hget hgd hlk hpl hph HL2 HW
          go_wp2_with fail
          ((with_reducible refine HGET.out.mono ?_); rintro e w4 ⟨rfl, hb4⟩)
          have HA4 := Lib.hid (And.intro (HA3.out.1.below hb4) (And.intro (HA3.out.2.1.trans (hb4.mono HA3.out.2.1.size)) HA3.out.2.2))
          have hz4 : g < w4.heap.size := by have := hb4.size; omega
          clear hb4
          go_wp2
          go_roundw
          case rel =>
            refine ⟨k + 1, S + S, _, r3, ?_, by go_num, by go_num, by go_num, by omega, by omega, by simp; omega, HD.out.2.1, by rw [HD.out.1]; exact HD.out.2.2.1, by rw [HD.out.1, HD.out.2.2.2]; omega, HA4.out.1.below (by (repeat (first | exact Below.refl _ _ | assumption | (refine Below.setCell ?_ (by first | (simp; done) | (simp; omega) | omega) _) | (refine Below.alloc ?_ (by first | (simp; done) | (simp; omega) | omega) _) | (refine Below.drew ?_) | (refine Below.drewN ?_ _) | (refine Below.trans ?_ (Below.mono (by assumption) (by first | (simp; done) | (simp; omega) | omega)))))), HA4.out.2.1.alloc HA4.out.2.1.size _, HA4.out.2.2⟩
            omega
          case measure => simp [intOf]; omega
      · go_wp2
        go_ret
        exact ⟨rfl, HA.out.2.1⟩
  · obtain ⟨rfl, rfl⟩ : e = .returned (.tuple #[.int .i64 0, .int .i64 1]) ∧ w1 = w2 := by
      rcases hq with ⟨_, h⟩ | ⟨h, _⟩
      · exact h
      · rw [hbad] at h; cases h
    have hn : n < 1 ∨ 1048576 < n := by simp [leafBad] at hbad; omega
    clear hq hbad
    rcases hn with hn | hn
    · go_wp2
      go_ret
      exact ⟨rfl, H1.out.2.1⟩
    · by_cases h0 : n < 1
      · omega
      · go_wp2
        go_ret
        exact ⟨rfl, H1.out.2.1⟩
end Go.Proofs.Ytloljnpnoohglaa.Ar
