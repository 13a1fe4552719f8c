
/- VectorCuts, of plain lists: a text's function is that of its parts, one behind the other. -/
import Derived.Test.YtapanoalhhlphaaVecX
namespace Go.Proofs.Ytapanoalhhlphaa.Vec
set_option linter.unusedSimpArgs false
set_option linter.unusedVariables false
open Go Go.RowKit

theorem fold_hit (C N : List Int) (wd : Int) (Ac : List Bool) : ∀ (bs : List Nat) (t : Int) (h : Bool), bs.foldl (stp C N wd Ac) (t, h) = ((bs.foldl (stp C N wd Ac) (t, false)).1, h || (bs.foldl (stp C N wd Ac) (t, false)).2)
  | [], t, h => by simp
  | c :: bs, t, h => by
    rw [List.foldl_cons, List.foldl_cons]
    unfold stp
    simp only [Bool.false_or]
    generalize N.getD (t * wd + C.getD c 0).toNat 0 = t1
    generalize Ac.getD t1.toNat false = x
    have e1 := fold_hit C N wd Ac bs t1 (h || x)
    have e2 := fold_hit C N wd Ac bs t1 x
    unfold stp at e1 e2
    rw [e1, e2, Bool.or_assoc]
theorem rn_append (C N : List Int) (wd : Int) (Ac : List Bool) (b1 b2 : List Nat) (j : Nat) (h0 : 0 ≤ (rn C N wd Ac b1 j).1) :
    rn C N wd Ac (b1 ++ b2) j = ((rn C N wd Ac b2 (rn C N wd Ac b1 j).1.toNat).1, (rn C N wd Ac b1 j).2 || (rn C N wd Ac b2 (rn C N wd Ac b1 j).1.toNat).2) := by
  unfold rn at h0 ⊢
  rw [List.foldl_append, Int.toNat_of_nonneg h0]
  generalize b1.foldl (stp C N wd Ac) ((j : Int), false) = p at h0 ⊢
  obtain ⟨t, h⟩ := p
  exact fold_hit C N wd Ac b2 t h
theorem tb_append (s1 s2 : ByteArray) : tb (s1 ++ s2) = tb s1 ++ tb s2 := by
  unfold tb
  simp [ByteArray.data_append]
section
variable {C N : List Int} {wd : Int} {Ac : List Bool} {m : Nat}
theorem rn_all (hN : Within N m) (j : Nat) (hj : j < m) (bs : List Nat) : 0 ≤ (rn C N wd Ac bs j).1 ∧ (rn C N wd Ac bs j).1 < m := by
  have := rn_rng (C := C) (wd := wd) (Ac := Ac) hN j hj bs bs.length
  rwa [List.take_length] at this
theorem textT_getD (s : ByteArray) (j : Nat) (hj : j < m) : (textT C N wd Ac s m).getD j 0 = (rn C N wd Ac (tb s) j).1 := by simp [textT, List.getD, hj]
theorem textH_getD (s : ByteArray) (j : Nat) (hj : j < m) : (textH C N wd Ac s m).getD j false = (rn C N wd Ac (tb s) j).2 := by simp [textH, List.getD, hj]
theorem then_textT (hN : Within N m) (s1 s2 : ByteArray) : thenTs m (textT C N wd Ac s1 m) (textT C N wd Ac s2 m) = textT C N wd Ac (s1 ++ s2) m := by
  unfold thenTs
  conv => rhs; unfold textT
  refine List.map_congr_left fun j hj => ?_
  have hj := List.mem_range.1 hj
  have hr := rn_all (C := C) (wd := wd) (Ac := Ac) hN j hj (tb s1)
  rw [tb_append, rn_append _ _ _ _ _ _ _ hr.1]
  unfold thenT
  rw [textT_getD s1 j hj, textT_getD s2 _ (by omega)]
theorem then_textH (hN : Within N m) (s1 s2 : ByteArray) : thenHs m (textT C N wd Ac s1 m) (textH C N wd Ac s1 m) (textH C N wd Ac s2 m) = textH C N wd Ac (s1 ++ s2) m := by
  unfold thenHs
  conv => rhs; unfold textH
  refine List.map_congr_left fun j hj => ?_
  have hj := List.mem_range.1 hj
  have hr := rn_all (C := C) (wd := wd) (Ac := Ac) hN j hj (tb s1)
  rw [tb_append, rn_append _ _ _ _ _ _ _ hr.1]
  unfold thenH
  rw [textT_getD s1 j hj, textH_getD s1 j hj, textH_getD s2 _ (by omega)]
theorem text_right (h1 : 1 ≤ m) (h2 : m ≤ 4096) (hN : Within N m) (s : ByteArray) : Right m m (textT C N wd Ac s m) := by
  refine ⟨h1, h2, rfl, fun v hv => ?_⟩
  obtain ⟨j, hj, rfl⟩ := List.mem_map.1 hv
  exact rn_all (C := C) (wd := wd) (Ac := Ac) hN j (List.mem_range.1 hj) (tb s)
/-- each state to itself, and then a text. -/
theorem ident_textT (s : ByteArray) : thenTs m ((List.range m).map fun j : Nat => (j : Int)) (textT C N wd Ac s m) = textT C N wd Ac s m := by
  unfold thenTs
  conv => rhs; unfold textT
  refine List.map_congr_left fun j hj => ?_
  have hj := List.mem_range.1 hj
  unfold thenT
  rw [show ((List.range m).map fun j : Nat => (j : Int)).getD j 0 = (j : Int) by simp [List.getD, hj], Int.toNat_natCast, textT_getD s j hj]
theorem ident_textH (s : ByteArray) : thenHs m ((List.range m).map fun j : Nat => (j : Int)) (List.replicate m false) (textH C N wd Ac s m) = textH C N wd Ac s m := by
  unfold thenHs
  conv => rhs; unfold textH
  refine List.map_congr_left fun j hj => ?_
  have hj := List.mem_range.1 hj
  unfold thenH
  rw [show ((List.range m).map fun j : Nat => (j : Int)).getD j 0 = (j : Int) by simp [List.getD, hj], Int.toNat_natCast, textH_getD s j hj]
  simp [List.getD, hj]
end
end Go.Proofs.Ytapanoalhhlphaa.Vec
