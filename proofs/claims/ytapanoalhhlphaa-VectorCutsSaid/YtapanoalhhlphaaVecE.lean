
/- Vectors of texts: the page's answers, of plain lists. -/
import Derived.Test.YtapanoalhhlphaaPVx3
import Derived.Test.YtapanoalhhlphaaPVx4
import Derived.Test.YtapanoalhhlphaaEv
import Derived.Test.YtapanoalhhlphaaVecX
namespace Go.Proofs.Ytapanoalhhlphaa.VPure
set_option linter.unusedSimpArgs false
set_option linter.unusedVariables false
open Go.RowKit Go.Proofs.Ytapanoalhhlphaa.PV Go.Proofs.YtapanoalhhlphaaW.PrintWords Go.Proofs.YtapanoalhhlphaaW.PrintLast Go.Proofs.YtapanoalhhlphaaW.PrintMore Go.Proofs.Ytapanoalhhlphaa.EvK Go.Proofs.Ytapanoalhhlphaa.Vec
set_option linter.unusedVariables false

theorem drop_cons (l : List Int) (i : Nat) (h : i < l.length) : l.drop i = rd l (i : Int) :: l.drop (i + 1) := by
  rw [List.drop_eq_getElem_cons h, rd_get l i h]
theorem within_cons (x : Int) (l : List Int) (n : Int) : Within (x :: l) n ↔ (0 ≤ x ∧ x < n) ∧ Within l n := by
  unfold Within
  simp
theorem r1 (m : Nat) (wd st : Int) (C N : List Int) (Ac : List Bool) (hn : N.length ≤ 1000000) : ∀ (d i : Nat), N.length - i = d → i ≤ N.length →
    Ev (fun q => tattingref12_Right.l1 q (m : Int) (i : Int) C wd st N Ac) (decide (Within (N.drop i) m)) := by
  intro d
  induction d with
  | zero =>
    intro i hd hi
    refine Ev.succ ?_
    simp only [tattingref12_Right.l1]
    refine Ev.neg (by omega) (Ev.at_ ?_)
    rw [List.drop_eq_nil_of_le (by omega)]
    rfl
  | succ d ih =>
    intro i hd hi
    refine Ev.succ ?_
    simp only [tattingref12_Right.l1]
    refine Ev.pos (by omega) (Ev.pos (by omega) ?_)
    rw [drop_cons N i (by omega)]
    by_cases c1 : rd N (i : Int) < 0
    · exact Ev.pos c1 (Ev.at_ (decide_eq_false fun h => by have := ((within_cons _ _ _).1 h).1; omega).symm)
    by_cases c2 : rd N (i : Int) ≥ (m : Int)
    · exact Ev.neg c1 (Ev.pos c2 (Ev.at_ (decide_eq_false fun h => by have := ((within_cons _ _ _).1 h).1; omega).symm))
    refine Ev.neg c1 (Ev.neg c2 ?_)
    rw [w64 _ (by omega) (by omega)]
    have h := ih (i + 1) (by omega) (by omega)
    rwa [show decide (Within (rd N (i : Int) :: N.drop (i + 1)) (m : Int)) = decide (Within (N.drop (i + 1)) (m : Int)) from decide_eq_decide.2 ⟨fun h => ((within_cons _ _ _).1 h).2, fun h => (within_cons _ _ _).2 ⟨by omega, h⟩⟩]
theorem r0 (m : Nat) (wd st : Int) (C N : List Int) (Ac : List Bool) (hn : N.length ≤ 1000000) (hc : C.length ≤ 1000000) : ∀ (d i : Nat), C.length - i = d → i ≤ C.length →
    Ev (fun q => tattingref12_Right.l0 q (m : Int) (i : Int) C wd st N Ac) (decide (Within (C.drop i) wd ∧ Within N m)) := by
  intro d
  induction d with
  | zero =>
    intro i hd hi
    refine Ev.succ ?_
    simp only [tattingref12_Right.l0]
    refine Ev.neg (by omega) ?_
    have h := r1 m wd st C N Ac hn N.length 0 (by omega) (by omega)
    rw [List.drop_zero] at h
    rw [List.drop_eq_nil_of_le (by omega)]
    rwa [show decide (Within [] wd ∧ Within N (m : Int)) = decide (Within N (m : Int)) from decide_eq_decide.2 ⟨fun h => h.2, fun h => ⟨fun _ hx => by simp at hx, h⟩⟩]
  | succ d ih =>
    intro i hd hi
    refine Ev.succ ?_
    simp only [tattingref12_Right.l0]
    refine Ev.pos (by omega) (Ev.pos (by omega) ?_)
    rw [drop_cons C i (by omega)]
    by_cases c1 : rd C (i : Int) < 0
    · exact Ev.pos c1 (Ev.at_ (decide_eq_false fun h => by have := ((within_cons _ _ _).1 h.1).1; omega).symm)
    by_cases c2 : rd C (i : Int) ≥ wd
    · exact Ev.neg c1 (Ev.pos c2 (Ev.at_ (decide_eq_false fun h => by have := ((within_cons _ _ _).1 h.1).1; omega).symm))
    refine Ev.neg c1 (Ev.neg c2 ?_)
    rw [w64 _ (by omega) (by omega)]
    have h := ih (i + 1) (by omega) (by omega)
    rwa [show decide (Within (rd C (i : Int) :: C.drop (i + 1)) wd ∧ Within N (m : Int)) = decide (Within (C.drop (i + 1)) wd ∧ Within N (m : Int)) from decide_eq_decide.2 ⟨fun h => ⟨((within_cons _ _ _).1 h.1).2, h.2⟩, fun h => ⟨(within_cons _ _ _).2 ⟨by omega, h.1⟩, h.2⟩⟩]
theorem right12 (wd st : Int) (C N : List Int) (Ac : List Bool) (hn : N.length ≤ 4000) (hc : C.length ≤ 300) (hm : Ac.length ≤ 12) :
    Ev (fun q => tattingref12_Right.f q C wd st N Ac) (decide (DRight C.length N.length Ac.length wd st C N)) := by
  have hout : ∀ (hf : ¬ DRight C.length N.length Ac.length wd st C N), Ev (fun q => tattingref12_Right.j0 q (Ac.length : Int) true C wd st N Ac) (decide (DRight C.length N.length Ac.length wd st C N)) := fun hf => by
    refine Ev.succ ?_
    simp only [tattingref12_Right.j0]
    exact Ev.pos trivial (Ev.at_ (decide_eq_false hf).symm)
  unfold tattingref12_Right.f
  by_cases a1 : (C.length : Int) = 259
  rotate_left
  · exact Ev.neg a1 (hout fun h => a1 (by have := h.1; omega))
  refine Ev.pos a1 ?_
  by_cases a2 : wd < 1
  · exact Ev.pos a2 (hout fun h => by have := h.2.1; omega)
  refine Ev.neg a2 ?_
  by_cases a3 : wd > 259
  · exact Ev.pos a3 (hout fun h => by have := h.2.2.1; omega)
  refine Ev.neg a3 ?_
  by_cases a4 : (Ac.length : Int) < 1
  · exact Ev.pos a4 (hout fun h => by have := h.2.2.2.1; omega)
  refine Ev.neg a4 (Ev.neg (by omega) ?_)
  have hmul : 0 ≤ (Ac.length : Int) * wd ∧ (Ac.length : Int) * wd ≤ 12 * 259 := ⟨Int.mul_nonneg (by omega) (by omega), Int.mul_le_mul (by omega) (by omega) (by omega) (by omega)⟩
  rw [w64 _ (by omega) (by omega)]
  by_cases b1 : (N.length : Int) = (Ac.length : Int) * wd
  rotate_left
  · exact Ev.neg b1 (hout fun h => b1 h.2.2.2.2.2.1)
  refine Ev.pos b1 ?_
  by_cases b2 : st < 0
  · exact Ev.pos b2 (hout fun h => by have := h.2.2.2.2.2.2.1; omega)
  refine Ev.neg b2 ?_
  by_cases b3 : st ≥ (Ac.length : Int)
  · rw [decide_eq_true b3]
    exact hout fun h => by have := h.2.2.2.2.2.2.2.1; omega
  rw [decide_eq_false b3]
  refine Ev.succ ?_
  simp only [tattingref12_Right.j0]
  refine Ev.neg (by decide) ?_
  have h := r0 Ac.length wd st C N Ac (by omega) (by omega) C.length 0 (by omega) (by omega)
  rw [List.drop_zero] at h
  rwa [show decide (DRight C.length N.length Ac.length wd st C N) = decide (Within C wd ∧ Within N (Ac.length : Int)) from decide_eq_decide.2 ⟨fun h => ⟨h.2.2.2.2.2.2.2.2.1, h.2.2.2.2.2.2.2.2.2⟩, fun h => ⟨by omega, by omega, by omega, by omega, by omega, b1, by omega, by omega, h.1, h.2⟩⟩]

theorem bt_tb (s : ByteArray) (k : Nat) (hk : k < s.size) : bt s (k : Int) = ((tb s).getD k 0 : Nat) := by
  unfold bt
  rw [dif_pos (by simpa using hk), tb_getD]
  have : k < s.data.size := hk
  simp only [Int.toNat_natCast, List.getD, Array.getElem?_toList, Array.getElem?_eq_getElem this, Option.getD_some]
  rfl
theorem tl1 (wd st : Int) (C N : List Int) (Ac : List Bool) (s : ByteArray) (hs : s.size ≤ 1000) (hm : Ac.length ≤ 12) (hR : DRight C.length N.length Ac.length wd st C N) (j : Nat) (hj : j < Ac.length) (X : List Int) (Y : List Bool) (hX : X.length ≤ 100) (hY : Y.length ≤ 100)
    (R : List Int × List Bool) (H : Ev (fun q => tattingref16_Text.l0 q s ((j + 1 : Nat) : Int) C wd st N Ac (X ++ [(rn C N wd Ac (tb s) j).1]) (Y ++ [(rn C N wd Ac (tb s) j).2])) R) : ∀ (d k : Nat), s.size - k = d → k ≤ s.size →
    Ev (fun q => tattingref16_Text.l1 q s (j : Int) (rn C N wd Ac ((tb s).take k) j).1 (rn C N wd Ac ((tb s).take k) j).2 (k : Int) C wd st N Ac X Y) R := by
  intro d
  induction d with
  | zero =>
    intro k hd hk
    refine Ev.succ ?_
    simp only [tattingref16_Text.l1]
    refine Ev.neg (by omega) (Ev.pos (by omega) (Ev.pos (by omega) ?_))
    rw [w64 _ (by omega) (by omega), List.take_of_length_le (by rw [tb_length]; omega)]
    exact H
  | succ d ih =>
    intro k hd hk
    have hnx := ih (k + 1) (by omega) (by omega)
    have hN : Within N (Ac.length : Int) := hR.2.2.2.2.2.2.2.2.2
    have htr := rn_rng (C := C) (wd := wd) (Ac := Ac) hN j hj (tb s) k
    have htr1 := rn_rng (C := C) (wd := wd) (Ac := Ac) hN j hj (tb s) (k + 1)
    have hb := tb_lt s k
    rw [rn_succ C N wd Ac (tb s) k (by rw [tb_length]; omega) j] at hnx htr1
    generalize rn C N wd Ac ((tb s).take k) j = p at hnx htr htr1 ⊢
    obtain ⟨t, ha⟩ := p
    refine Ev.succ ?_
    simp only [tattingref16_Text.l1]
    rw [bt_tb s k (by omega)]
    generalize (tb s).getD k 0 = b at hb hnx htr1 ⊢
    have hC : C.length = 259 := hR.1
    have hcr : 0 ≤ rd C (b : Int) ∧ rd C (b : Int) < wd := by
      rw [rd_get C b (by omega)]
      exact hR.2.2.2.2.2.2.2.2.1 C[b] (List.getElem_mem _)
    have hcd : C.getD b 0 = rd C (b : Int) := by unfold Go.Proofs.YtapanoalhhlphaaW.PrintWords.rd; rw [Int.toNat_natCast]
    unfold stp at hnx htr1
    simp only [hcd] at hnx htr1
    simp only at htr
    have hwd := hR.2.2.1
    have hmul : 0 ≤ t * wd ∧ t * wd ≤ 12 * 259 := ⟨Int.mul_nonneg htr.1 (by omega), Int.mul_le_mul (by omega) hwd (by omega) (by omega)⟩
    have h1 : (t + 1) * wd ≤ (Ac.length : Int) * wd := Int.mul_le_mul_of_nonneg_right (by omega) (by omega)
    rw [Int.add_mul] at h1
    have hnl := hR.2.2.2.2.2.1
    generalize rd C (b : Int) = cc at hcr hnx htr1 ⊢
    rw [w64 (t * wd) (by omega) (by omega), w64 (t * wd + cc) (by omega) (by omega), w64 ((k : Int) + 1) (by omega) (by omega)]
    have hrd : rd N (t * wd + cc) = N.getD (t * wd + cc).toNat 0 := rfl
    have hro : rdOf false Ac (rd N (t * wd + cc)) = Ac.getD (N.getD (t * wd + cc).toNat 0).toNat false := rfl
    rw [hro, hrd]
    refine Ev.pos (by omega) (Ev.pos (by omega) (Ev.pos (by omega) (Ev.pos (by omega) (Ev.pos (by omega) (Ev.pos (by omega) ?_)))))
    generalize N.getD (t * wd + cc).toNat 0 = t1 at hnx htr1 ⊢
    cases ha
    · refine Ev.neg (by decide) (Ev.pos htr1.1 (Ev.pos htr1.2 ?_))
      simpa using hnx
    · refine Ev.pos rfl ?_
      simpa using hnx
theorem text16 (wd st : Int) (C N : List Int) (Ac : List Bool) (s : ByteArray) (hs : s.size ≤ 1000) (hm : Ac.length ≤ 12) (hR : DRight C.length N.length Ac.length wd st C N) :
    Ev (fun q => tattingref16_Text.f q C wd st N Ac s) (textT C N wd Ac s Ac.length, textH C N wd Ac s Ac.length) := by
  have key : ∀ (d j : Nat), Ac.length - j = d → j ≤ Ac.length →
      Ev (fun q => tattingref16_Text.l0 q s (j : Int) C wd st N Ac (textT C N wd Ac s j) (textH C N wd Ac s j)) (textT C N wd Ac s Ac.length, textH C N wd Ac s Ac.length) := by
    intro d
    induction d with
    | zero =>
      intro j hd hj
      obtain rfl : j = Ac.length := by omega
      refine Ev.succ ?_
      simp only [tattingref16_Text.l0]
      exact Ev.neg (by omega) (Ev.now _)
    | succ d ih =>
      intro j hd hj
      refine Ev.succ ?_
      simp only [tattingref16_Text.l0]
      refine Ev.pos (by omega) ?_
      have h := ih (j + 1) (by omega) (by omega)
      have e1 : textT C N wd Ac s (j + 1) = textT C N wd Ac s j ++ [(rn C N wd Ac (tb s) j).1] := by simp [textT, List.range_succ]
      have e2 : textH C N wd Ac s (j + 1) = textH C N wd Ac s j ++ [(rn C N wd Ac (tb s) j).2] := by simp [textH, List.range_succ]
      rw [e1, e2] at h
      exact tl1 wd st C N Ac s hs hm hR j (by omega) _ _ (by simp [textT]; omega) (by simp [textH]; omega) _ h s.size 0 (by omega) (by omega)
  exact key Ac.length 0 (by omega) (by omega)
end Go.Proofs.Ytapanoalhhlphaa.VPure
