
/- VectorCuts: what Text, Then, Ident and Same say of any functions, and the law of plain lists. -/
import Derived.Test.YtapanoalhhlphaaVecY
import Derived.Test.YtapanoalhhlphaaVecF
namespace Go.Proofs.Ytapanoalhhlphaa.Vec
set_option linter.unusedSimpArgs false
set_option linter.unusedVariables false
open Go Go.RowKit
attribute [local go_sem] lt_add1 lt_self1 size_ne size_ne' size_ne1 size_ne1'

/-- a function in memory. -/
def FunV (w : World) (v : Value) (T : List Int) (H : List Bool) : Prop := ∃ A c B d, v = .agg #[.slice A T.length c, .slice B H.length d] ∧ FunAt w A T.length B H.length T H
theorem FunV.next {w w' : World} {v : Value} {T : List Int} {H : List Bool} (h : FunV w v T H) (hb : Below w.heap.size w w') : FunV w' v T H := by
  obtain ⟨A, c, B, d, e, h1⟩ := h
  exact ⟨A, c, B, d, e, h1.next hb⟩
theorem FunV.none_ (w : World) : FunV w (.agg #[.slice none 0 0, .slice none 0 0]) [] [] := ⟨none, 0, none, 0, rfl, rfl, rfl, fun h => by simp at h, fun h => by simp at h⟩
def thenV (Ta : List Int) (Ha : List Bool) (Tb : List Int) (Hb : List Bool) : Int × List Int × List Bool :=
  if ¬ (Right Ta.length Ha.length Ta ∧ Right Tb.length Hb.length Tb) then (3, [], []) else if Ta.length ≠ Tb.length then (1, [], []) else (0, thenTs Ta.length Ta Tb, thenHs Ta.length Ta Ha Hb)
theorem thenTs_len (n : Nat) (a b : List Int) : (thenTs n a b).length = n := by simp [thenTs]
theorem thenHs_len (n : Nat) (a : List Int) (b c : List Bool) : (thenHs n a b c).length = n := by simp [thenHs]
theorem then2 {w : World} {va vb : Value} {Ta Tb : List Int} {Ha Hb : List Bool} (h : FunV w va Ta Ha) (h' : FunV w vb Tb Hb) :
    Calls Try.prog 12 #[va, vb] w fun e w' => ∃ v, e = .returned (.tuple #[v, .int .i64 (thenV Ta Ha Tb Hb).1]) ∧ FunV w' v (thenV Ta Ha Tb Hb).2.1 (thenV Ta Ha Tb Hb).2.2 ∧ Below w.heap.size w w' := by
  obtain ⟨A, c, B, d, rfl, h1⟩ := h
  obtain ⟨A', c', B', d', rfl, h2⟩ := h'
  refine (then_any _ _ _ _ _ _ _ _ A B A' B' c d c' d' w h1 h2).mono ?_
  rintro e w' (⟨g1, rfl, hb⟩ | ⟨g1, g2, rfl, hb⟩ | ⟨g1, g2, a, b, rfl, hf, hb⟩)
  · unfold thenV
    rw [if_pos g1]
    exact ⟨_, rfl, FunV.none_ w', hb⟩
  · unfold thenV
    rw [if_neg (fun h => h g1), if_pos g2]
    exact ⟨_, rfl, FunV.none_ w', hb⟩
  · unfold thenV
    rw [if_neg (fun h => h g1), if_neg (fun h => h g2)]
    refine ⟨_, rfl, ⟨some ⟨a, 0, none⟩, Ta.length, some ⟨b, 0, none⟩, Ta.length, ?_, ?_⟩, hb⟩
    · rw [thenTs_len, thenHs_len]
    · rw [thenTs_len, thenHs_len]; exact hf
section
variable (C N : List Int) (wd st : Int) (Ac : List Bool)
def tvT (s : ByteArray) : List Int := if DRight C.length N.length Ac.length wd st C N then textT C N wd Ac s Ac.length else []
def tvH (s : ByteArray) : List Bool := if DRight C.length N.length Ac.length wd st C N then textH C N wd Ac s Ac.length else []
theorem textT_len (s : ByteArray) (m : Nat) : (textT C N wd Ac s m).length = m := by simp [textT]
theorem textH_len (s : ByteArray) (m : Nat) : (textH C N wd Ac s m).length = m := by simp [textH]
theorem text2 (A1 A2 A3 : Option Addr) (c1 c2 c3 : Nat) (hk : C.length ≤ 1099511627776) (hn : N.length ≤ 1099511627776) (hm : Ac.length ≤ 1099511627776) (s : ByteArray) (hs : s.size ≤ 1000) (w : World) (h : DfaAt w A1 A2 A3 C.length N.length Ac.length C N Ac) :
    Calls Try.prog 7 #[.agg #[.slice A1 C.length c1, .int .i64 wd, .int .i64 st, .slice A2 N.length c2, .slice A3 Ac.length c3], .string s] w fun e w' => ∃ v, e = .returned v ∧ FunV w' v (tvT C N wd st Ac s) (tvH C N wd st Ac s) ∧ Below w.heap.size w w' := by
  refine (text_any C.length N.length Ac.length wd st C N Ac A1 A2 A3 c1 c2 c3 hk hn hm s hs w h).mono ?_
  rintro e w' (⟨g1, rfl, hb⟩ | ⟨g1, a, b, rfl, hf, hb⟩)
  · unfold tvT tvH
    rw [if_neg g1, if_neg g1]
    exact ⟨_, rfl, FunV.none_ w', hb⟩
  · unfold tvT tvH
    rw [if_pos g1, if_pos g1]
    refine ⟨_, rfl, ⟨some ⟨a, 0, none⟩, Ac.length, some ⟨b, 0, none⟩, Ac.length, ?_, ?_⟩, hb⟩
    · rw [textT_len, textH_len]
    · rw [textT_len, textH_len]; exact hf
end
def idT (m : Nat) : List Int := (List.range m).map fun j : Nat => (j : Int)
def idH (m : Nat) : List Bool := List.replicate m false
set_option maxHeartbeats 1000000 in
theorem ident_zero (w : World) : Calls Try.prog 13 #[.int .i64 0] w fun e w' => e = .returned (.agg #[.slice none 0 0, .slice none 0 0]) ∧ Below w.heap.size w w' := by
  have z0 : (w.alloc (.cells #[.slice none 0 0, .slice none 0 0] 29)).cell? ⟨w.heap.size, 0, none⟩ = some (.slice none 0 0) := World.cell?_alloc_new w _ _ 0
  have z1 : (w.alloc (.cells #[.slice none 0 0, .slice none 0 0] 29)).cell? ⟨w.heap.size, 1, none⟩ = some (.slice none 0 0) := World.cell?_alloc_new w _ _ 1
  have hb : Below w.heap.size w (w.alloc (.cells #[.slice none 0 0, .slice none 0 0] 29)) := (Below.refl _ _).alloc (Nat.le_refl _) _
  go_enter Try.func13, Try.ntmps13
  go_wp2_with fail
  refine bodyPost_ret (v := .agg #[.slice none 0 0, .slice none 0 0]) (by simp [results, Try.results13, go_sem, z0, z1]) rfl ?_
  exact ⟨rfl, by (repeat (first | exact Below.refl _ _ | assumption | (refine Below.setCell ?_ (by first | (simp; done) | (simp; omega) | omega) _) | (refine Below.alloc ?_ (by first | (simp; done) | (simp; omega) | omega) _) | (refine Below.drew ?_) | (refine Below.drewN ?_ _) | (refine Below.trans ?_ (Below.mono (by assumption) (by first | (simp; done) | (simp; omega) | omega)))))⟩
theorem sl_row {w : World} {a : Nat} {vs : Array Value} {e : TypeId} {fr : Nat × Nat} (h : w.heap[a]? = some (.cells vs e fr)) {n : Nat} {f : Nat → Value} (hf : ∀ i, i < n → vs[i]? = some (f i)) : SlI w w.heap.size n (some ⟨a, 0, none⟩) f := fun _ => ⟨a, 0, rfl, (Array.getElem?_eq_some_iff.1 h).1, fun i hi => by
  have := cell_of_row w a i _ _ fr h
  rw [Nat.zero_add, this]
  exact hf i hi⟩
theorem ident2 (m : Nat) (hm : m ≤ 4096) (w : World) : Calls Try.prog 13 #[.int .i64 m] w fun e w' => ∃ v, e = .returned v ∧ FunV w' v (idT m) (idH m) ∧ Below w.heap.size w w' := by
  by_cases h0 : m = 0
  · subst h0
    refine (ident_zero w).mono ?_
    rintro e w' ⟨rfl, hb⟩
    exact ⟨_, rfl, FunV.none_ w', hb⟩
  · refine (ident_any m (by omega) hm w).mono ?_
    rintro e w' ⟨a, b, rfl, _, _, _, ha, hb1, hb⟩
    have e1 : (idT m).length = m := by simp [idT]
    have e2 : (idH m).length = m := by simp [idH]
    refine ⟨_, rfl, ⟨some ⟨a, 0, none⟩, m, some ⟨b, 0, none⟩, m, by rw [e1, e2], rfl, rfl, ?_, ?_⟩, hb⟩
    · rw [e1]
      refine sl_row ha fun i hi => ?_
      unfold iv idT L
      simp [List.getD, hi]
    · rw [e2]
      refine sl_row hb1 fun i hi => ?_
      unfold bv idH
      simp [List.getD, hi]
theorem same2 {w : World} {va vb : Value} {Ta Tb : List Int} {Ha Hb : List Bool} (h : FunV w va Ta Ha) (h' : FunV w vb Tb Hb) (h1 : Ta.length ≤ 4096) (h2 : Ha.length ≤ 4096) (h3 : Tb.length ≤ 4096) (h4 : Hb.length ≤ 4096) :
    Calls Try.prog 14 #[va, vb] w fun e w' => e = .returned (.bool (decide (Ta = Tb ∧ Ha = Hb))) ∧ Below w.heap.size w w' := by
  obtain ⟨A, c, B, d, rfl, g1⟩ := h
  obtain ⟨A', c', B', d', rfl, g2⟩ := h'
  exact same_any _ _ _ _ Ta Tb Ha Hb A B A' B' c d c' d' w g1 g2 (by omega) (by omega) (by omega) (by omega)

/-- a function stored into its own variable. -/
def setF (w : World) (b : Nat) (v0 v1 : Value) : World := (w.setCell ⟨b, 0, none⟩ v0).setCell ⟨b, 1, none⟩ v1
theorem setF_blk {w : World} {b : Nat} {u0 u1 : Value} (h : w.heap[b]? = some (.cells #[u0, u1] 29 (0, 0))) (v0 v1 : Value) : (setF w b v0 v1).heap[b]? = some (.cells #[v0, v1] 29 (0, 0)) := by
  simp [setF, World.setCell, Array.getElem?_modify, h]
theorem setF_below {w : World} {b n : Nat} {W : World} (h : Below n W w) (hb : n ≤ b) (v0 v1 : Value) : Below n W (setF w b v0 v1) := by
  unfold setF
  iterate 2 (with_reducible refine Below.setCell ?_ ?_ _)
  all_goals first | exact h | exact hb
theorem setF_other {w : World} {b c : Nat} (h : c ≠ b) (v0 v1 : Value) : (setF w b v0 v1).heap[c]? = w.heap[c]? := by
  unfold setF
  iterate 2 rw [Below.heap_setCell _ _ _ _ h]
theorem setF_size (w : World) (b : Nat) (v0 v1 : Value) : (setF w b v0 v1).heap.size = w.heap.size := by
  unfold setF
  simp [World.setCell]
theorem wpList_storeF {ops : Array Oper} {Q : Exit → Act → World → Prop} {a : Act} {w : World} {rest : List Oper} {o : Oper} {b : Nat} {p x : Operand} {u0 u1 : Value} {A B : Option Addr} {n c m d : Nat} (hop : o.op = .store 29 p x) (hg : o.guard = none) (hd : o.dst = none)
    (hp : a.eval p = .pointer (some ⟨b, 0, none⟩)) (hx : a.eval x = .agg #[.slice A n c, .slice B m d]) (h : w.heap[b]? = some (.cells #[u0, u1] 29 (0, 0))) (hn : wpList Try.prog ops Q rest a (setF w b (.slice A n c) (.slice B m d))) : wpList Try.prog ops Q (o :: rest) a w := by
  refine wpList_plain hg fun K hK => ?_
  obtain ⟨dst, op, type, pos, after, guard⟩ := o
  simp only at hop hg hd
  subst hop hg hd
  have hf : ∀ o, w.frozen? ⟨b, o, none⟩ = false := fun o => by simp [World.frozen?, h]
  have z := fun i => cell_of_row w b i _ _ (0, 0) h
  have z0 := z 0
  have z1 := z 1
  simp only [List.getElem?_toArray, List.getElem?_cons_zero, List.getElem?_cons_succ] at z0 z1
  clear z h
  unfold Oper.wp
  unfold execOp
  simp only [hp, hx]
  clear hp hx
  have hK' := hK _ _ hn
  unfold setF at hK'
  go_simp
  exact hK'
theorem SlI.setF {w : World} {b n : Nat} {u0 u1 v0 v1 : Value} {A : Option Addr} {f : Nat → Value} (h : SlI w w.heap.size n A f) (hb : w.heap[b]? = some (.cells #[u0, u1] 29 (0, 0))) (hn : ∀ i, f i ≠ u0 ∧ f i ≠ u1) :
    SlI (Vec.setF w b v0 v1) (Vec.setF w b v0 v1).heap.size n A f := fun h0 => by
  obtain ⟨c, off, e, hlt, hcs⟩ := h h0
  have hne : c ≠ b := fun e2 => by
    subst e2
    have h1 := hcs 0 h0
    have h2 := cell_of_row w c off _ _ (0, 0) hb
    rw [Nat.add_zero, h2] at h1
    match off, h1 with
    | 0, h1 => simp at h1; exact (hn 0).1 h1.symm
    | 1, h1 => simp at h1; exact (hn 0).2 h1.symm
    | k + 2, h1 => simp at h1
  refine ⟨c, off, e, by rw [setF_size]; exact hlt, fun i hi => ?_⟩
  rw [← hcs i hi]
  exact World.cell?_of_block (a := ⟨c, off + i, none⟩) (setF_other hne v0 v1)
theorem FunV.setF {w : World} {b n c m d : Nat} {A B : Option Addr} {v0 v1 v : Value} {T : List Int} {H : List Bool} (h : FunV w v T H) (hb : w.heap[b]? = some (.cells #[.slice A n c, .slice B m d] 29 (0, 0))) : FunV (Vec.setF w b v0 v1) v T H := by
  obtain ⟨A', c', B', d', e, h1, h2, h3, h4⟩ := h
  exact ⟨A', c', B', d', e, h1, h2, h3.setF hb (fun i => by unfold iv; simp), h4.setF hb (fun i => by unfold bv; simp)⟩

/-! the law -/
section
variable {C N : List Int} {wd st : Int} {Ac : List Bool}
theorem cuts_bad (hR : ¬ DRight C.length N.length Ac.length wd st C N) (s : ByteArray) : tvT C N wd st Ac s = [] ∧ tvH C N wd st Ac s = [] := by unfold tvT tvH; rw [if_neg hR, if_neg hR]; exact ⟨rfl, rfl⟩
theorem thenV_bad (Ta : List Int) (Ha : List Bool) : thenV Ta Ha [] [] = (3, [], []) ∧ thenV [] [] Ta Ha = (3, [], []) := by
  have h0 : ¬ Right ([] : List Int).length ([] : List Bool).length [] := fun h => by have := h.1; simp at this
  unfold thenV
  rw [if_pos (fun h => h0 h.2), if_pos (fun h => h0 h.1)]
  exact ⟨rfl, rfl⟩
theorem thenV_text (hR : DRight C.length N.length Ac.length wd st C N) (s1 s2 : ByteArray) : thenV (tvT C N wd st Ac s1) (tvH C N wd st Ac s1) (tvT C N wd st Ac s2) (tvH C N wd st Ac s2) = (0, tvT C N wd st Ac (s1 ++ s2), tvH C N wd st Ac (s1 ++ s2)) := by
  obtain ⟨_, _, _, h1, h2, _, _, _, _, hN⟩ := id hR
  unfold tvT tvH
  simp only [if_pos hR]
  unfold thenV
  rw [textT_len, textH_len, textT_len, textH_len, if_neg (fun h => h ⟨text_right h1 h2 hN s1, text_right h1 h2 hN s2⟩), if_neg (fun h => h rfl), then_textT hN, then_textH hN]
theorem thenV_id (hR : DRight C.length N.length Ac.length wd st C N) (s : ByteArray) : thenV (idT Ac.length) (idH Ac.length) (tvT C N wd st Ac s) (tvH C N wd st Ac s) = (0, tvT C N wd st Ac s, tvH C N wd st Ac s) := by
  obtain ⟨_, _, _, h1, h2, _, _, _, _, hN⟩ := id hR
  have e1 : (idT Ac.length).length = Ac.length := by simp [idT]
  have e2 : (idH Ac.length).length = Ac.length := by simp [idH]
  have hr : Right Ac.length Ac.length (idT Ac.length) := ⟨h1, h2, rfl, fun v hv => by
    obtain ⟨j, hj, rfl⟩ := List.mem_map.1 hv
    have := List.mem_range.1 hj
    omega⟩
  unfold tvT tvH
  simp only [if_pos hR]
  unfold thenV
  rw [e1, e2, textT_len, textH_len, if_neg (fun h => h ⟨hr, text_right h1 h2 hN s⟩), if_neg (fun h => h rfl)]
  unfold idT idH
  rw [ident_textT, ident_textH]
theorem tv_len (s : ByteArray) (hm : Ac.length ≤ 4096) : (tvT C N wd st Ac s).length ≤ 4096 ∧ (tvH C N wd st Ac s).length ≤ 4096 := by
  unfold tvT tvH
  split
  · rw [textT_len, textH_len]; exact ⟨hm, hm⟩
  · simp
end
end Go.Proofs.Ytapanoalhhlphaa.Vec
