/- Balance: the page's Same, Bytes and Balanced; the statement's rope and high. -/
import Derived.Test.YtkcocdpmangcgaaBalV
import Derived.Deep.QuietTactic
namespace Go.Proofs.Ytkcocdpmangcgaa.Ar
set_option linter.unusedSimpArgs false
set_option linter.unusedVariables false
open Go Go.RowKit
attribute [local go_sem] lt_add1 lt_self1 size_ne size_ne' size_ne1 size_ne1'
attribute [local irreducible] wpGrow wpThr

/-- a slice that reads as pieces. -/
def RdP (w : World) (v : Value) (l : List Pc) : Prop := ∃ A c, v = .slice A l.length c ∧ SlAt w w.heap.size 2 l.length A (fun i j => (pcells (l.getD i (0, 0))).getD j undef)
theorem Owns.rd {w : World} {B : Nat} {v : Value} {l : List Pc} (h : Owns w B v l) : RdP w v l := by
  obtain ⟨A, c, rfl, hc, hs⟩ := SlAt.of_own h
  exact ⟨A, c, rfl, hs.congr fun i j hi hj => rows_getD pcells (0, 0) pcells_length l i j hi hj⟩
theorem RdP.below {w w' : World} {v : Value} {l : List Pc} (h : RdP w v l) (hb : Below w.heap.size w w') : RdP w' v l := by
  obtain ⟨A, c, e, hs⟩ := h
  exact ⟨A, c, e, (hs.below hb).more hb.size⟩
theorem RdP.nil (w : World) : RdP w (.slice none 0 0) [] := ⟨none, 0, rfl, SlAt.none_⟩

def sumP (l : List Pc) : Int := (l.map (·.2)).sum
theorem sumP_cons (p : Pc) (l : List Pc) : sumP (p :: l) = p.2 + sumP l := by simp [sumP]
theorem sumP_append (a b : List Pc) : sumP (a ++ b) = sumP a + sumP b := by simp [sumP]
theorem sumP_nonneg : ∀ {l : List Pc}, (∀ p ∈ l, 0 ≤ p.2) → 0 ≤ sumP l
  | [], _ => by simp [sumP]
  | p :: l, h => by
    have := sumP_nonneg (l := l) (fun q hq => h q (by simp [hq]))
    have := h p (by simp)
    rw [sumP_cons]
    omega
theorem sumP_take {l : List Pc} (h : ∀ p ∈ l, 0 ≤ p.2) (k : Nat) : 0 ≤ sumP (l.take k) ∧ sumP (l.take k) ≤ sumP l := by
  have e : sumP l = sumP (l.take k) + sumP (l.drop k) := by rw [← sumP_append, List.take_append_drop]
  have := sumP_nonneg (l := l.take k) (fun p hp => h p (List.mem_of_mem_take hp))
  have := sumP_nonneg (l := l.drop k) (fun p hp => h p (List.mem_of_mem_drop hp))
  omega
theorem take_snocP {l : List Pc} {k : Nat} (h : k < l.length) : l.take (k + 1) = l.take k ++ [l.getD k (0, 0)] := by
  rw [List.take_succ_eq_append_getElem h]
  simp [List.getD, h]
theorem sum_pieces (X : T) : sumP (pieces X) = X.size := by
  rw [T.size_lv]
  unfold pieces sumP
  induction X.lv with
  | nil => rfl
  | cons p l ih => simp only [List.map_cons, List.sum_cons, bytesL]; simp only [List.map_map] at ih ⊢; rw [ih]

set_option maxHeartbeats 1000000 in
theorem bytes_any (l : List Pc) (v : Value) (w : World) (hr : RdP w v l) (hn : l.length ≤ small) (hp : ∀ p ∈ l, 0 ≤ p.2) (hs : sumP l ≤ 1099511627776) :
    Calls Try.prog 19 #[v] w fun e w' => e = .returned (.int .i64 (sumP l)) ∧ w = w' := by
  obtain ⟨A, c, rfl, hc⟩ := hr
  unfold small at hn
  have HC := Lib.hid hc
  have HT := Lib.hid (sumP_take hp)
  clear hc hp
  go_enter Try.func19, Try.ntmps19
  go_wp2
  go_loop [3, 4] (fun n i => ∃ k : Nat, k ≤ l.length ∧ i = .int .i64 k ∧ n = .int .i64 (sumP (l.take k))) (fun _ i => l.length - (intOf i).toNat)
  case atStart => exact ⟨0, Nat.zero_le _, rfl, rfl⟩
  case round =>
    obtain ⟨k, hk, rfl, rfl⟩ := hrel
    have h1 := HT.out k
    by_cases hlt : k < l.length
    · obtain ⟨b, off, rfl, hb, hcs⟩ := HC.out (by omega)
      have f1 : w.cell? ⟨b, off + k * 2 + 1, none⟩ = some (.int .i64 (l.getD k (0, 0)).2) := hcs k 1 hlt (by omega)
      have h2 := HT.out (k + 1)
      have e := take_snocP hlt
      have e2 : sumP (l.take (k + 1)) = sumP (l.take k) + (l.getD k (0, 0)).2 := by rw [e, sumP_append]; simp [sumP]
      have HE := Lib.hid e2
      rw [e2] at h2
      clear hcs e e2
      generalize (l.getD k (0, 0)).2 = x at f1 h2 HE
      generalize sumP (l.take k) = s0 at h1 h2 HE ⊢
      go_wp2
      go_round
      case rel => exact ⟨k + 1, by omega, by go_num, by rw [HE.out]⟩
      case measure => simp [intOf]; omega
    · go_wp2
      go_ret
      exact ⟨ret_int (by rw [List.take_of_length_le (by omega)]), rfl⟩

set_option maxHeartbeats 1000000 in
theorem same_eq (l : List Pc) (v v2 : Value) (w : World) (hr : RdP w v l) (hr2 : RdP w v2 l) (hn : l.length ≤ small) :
    Calls Try.prog 20 #[v, v2] w fun e w' => e = .returned (.bool true) ∧ Below w.heap.size w w' := by
  obtain ⟨A, c, rfl, hc⟩ := hr
  obtain ⟨A2, c2, rfl, hc2⟩ := hr2
  unfold small at hn
  have HC := Lib.hid (And.intro hc hc2)
  clear hc hc2
  go_enter Try.func20, Try.ntmps20
  go_wp2
  go_loopw [5] (fun i wr => ∃ k : Nat, k ≤ l.length ∧ i = .int .i64 k ∧ Below w.heap.size w wr) (fun i _ => l.length - (intOf i).toNat)
  case atStart => exact ⟨0, Nat.zero_le _, rfl, Below.refl _ _⟩
  case round =>
    obtain ⟨k, hk, rfl, hbr⟩ := hrel
    have HB := Lib.hid hbr
    clear hbr
    by_cases hlt : k < l.length
    · obtain ⟨b, off, rfl, hb, hcs⟩ := HC.out.1 (by omega)
      obtain ⟨b2, off2, rfl, hb2, hcs2⟩ := HC.out.2 (by omega)
      have f0 : wr.cell? ⟨b, off + k * 2, none⟩ = some (.int .i64 (l.getD k (0, 0)).1) := (HB.out.cell (p := ⟨b, _, none⟩) hb).trans (hcs k 0 hlt (by omega))
      have f1 : wr.cell? ⟨b, off + k * 2 + 1, none⟩ = some (.int .i64 (l.getD k (0, 0)).2) := (HB.out.cell (p := ⟨b, _, none⟩) hb).trans (hcs k 1 hlt (by omega))
      have g0 : wr.cell? ⟨b2, off2 + k * 2, none⟩ = some (.int .i64 (l.getD k (0, 0)).1) := (HB.out.cell (p := ⟨b2, _, none⟩) hb2).trans (hcs2 k 0 hlt (by omega))
      have g1 : wr.cell? ⟨b2, off2 + k * 2 + 1, none⟩ = some (.int .i64 (l.getD k (0, 0)).2) := (HB.out.cell (p := ⟨b2, _, none⟩) hb2).trans (hcs2 k 1 hlt (by omega))
      have hk1 : (k : Int) < l.length := by omega
      have hk0 : (0 : Int) ≤ k := by omega
      clear hcs hcs2
      go_upto_region 6 with fail
      go_quiet (fail)
      clear f0 f1 g0 g1
      go_wp2
      go_roundw
      case rel => exact ⟨k + 1, by omega, by go_num, Below.drewN HB.out nq⟩
      case measure => simp [intOf]; omega
    · go_wp2
      go_ret
      exact ⟨rfl, HB.out⟩

set_option maxHeartbeats 400000 in
theorem lhigh_any (g : Nat) (r : Option Nat) (ks : List Knot) (t : Int) (w : World) (h : Arena w g r ks) (hn : ks.length ≤ small) :
    Calls Try.prog 27 #[.pointer (some ⟨g, 0, none⟩), .int .i64 t] w fun e w' => e = .returned (.int .i64 (getK ks t).high) ∧ Below w.heap.size w w' := by
  have G := Lib.hid (get_any g r ks t w h hn)
  unfold Knot.val at G
  generalize getK ks t = k at G ⊢
  generalize getB ks t = ok at G
  go_enter Try.func27, Try.ntmps27
  go_wp2_with fail
  refine G.out.mono ?_
  rintro e w1 ⟨rfl, hb1⟩
  have HB := Lib.hid hb1
  have hz := hb1.size
  clear hb1 G
  go_wp2
  go_ret
  exact ⟨rfl, HB.out.alloc hz _⟩

/-- a number as a rope's. -/
def ropeOf (k : Int) (n : Nat) (raw : Bool) : Int := if raw then k else k % ((n : Int) + 1)
theorem ropeOf_in (k : Int) (n : Nat) : 0 ≤ ropeOf k n false ∧ ropeOf k n false ≤ n := by
  unfold ropeOf
  simp only [Bool.false_eq_true, if_false]
  have := Int.emod_nonneg k (show (n : Int) + 1 ≠ 0 by omega)
  have := Int.emod_lt_of_pos k (show 0 < (n : Int) + 1 by omega)
  omega

set_option maxHeartbeats 400000 in
theorem rope_any (k : Int) (n : Nat) (raw : Bool) (w : World) (hn : n ≤ 1000) : Calls Try.prog 24 #[.int .i64 k, .int .i64 n, .bool raw] w fun e w' => e = .returned (.int .i64 (ropeOf k n raw)) ∧ w = w' := by
  cases raw
  · have hw1 : IntKind.i64.wrap ((n : Int) + 1) = (n : Int) + 1 := IntWalk.i64_in _ (by omega)
    have hz : ((n : Int) + 1 == 0) = false := by simp; omega
    have hn0 : ¬ ((n : Int) + 1 = 0) := by omega
    have hn1 : ¬ ((n : Int) + 1 = -1) := by omega
    have hb := Int.emod_nonneg k (show (n : Int) + 1 ≠ 0 by omega)
    have hb2 := Int.emod_lt_of_pos k (show 0 < (n : Int) + 1 by omega)
    have ht : -((n : Int) + 1) < k.tmod ((n : Int) + 1) ∧ k.tmod ((n : Int) + 1) < (n : Int) + 1 := by
      have h1 := Int.tmod_lt_of_pos k (show 0 < (n : Int) + 1 by omega)
      have h2 := Int.lt_tmod_of_pos k (show 0 < (n : Int) + 1 by omega)
      omega
    have he : (k.tmod ((n : Int) + 1) + n + 1) % ((n : Int) + 1) = k % ((n : Int) + 1) := by
      have e1 : k.tmod ((n : Int) + 1) + n + 1 = k.tmod ((n : Int) + 1) + ((n : Int) + 1) := by omega
      rw [e1, Int.add_emod_right]
      have e2 := Int.mul_tdiv_add_tmod k ((n : Int) + 1)
      conv => rhs; rw [← e2]
      rw [Int.mul_add_emod_self_left]
    have HE := Lib.hid he
    have hx1 : IntKind.i64.wrap (k.tmod ((n : Int) + 1)) = k.tmod ((n : Int) + 1) := IntWalk.i64_in _ (by omega)
    have hx2 : IntKind.i64.wrap (k.tmod ((n : Int) + 1) + n) = k.tmod ((n : Int) + 1) + n := IntWalk.i64_in _ (by omega)
    have hx3 : IntKind.i64.wrap (k.tmod ((n : Int) + 1) + n + 1) = k.tmod ((n : Int) + 1) + n + 1 := IntWalk.i64_in _ (by omega)
    clear he
    unfold ropeOf
    simp only [Bool.false_eq_true, if_false]
    go_enter Try.func24, Try.ntmps24
    go_wp2
    go_ret
    exact ⟨ret_int HE.out, rfl⟩
  · go_enter Try.func24, Try.ntmps24
    go_wp2
    go_ret
    exact ⟨rfl, rfl⟩

/-- what the page's Balanced leaves. -/
def BalP (w : World) (b : Bool) (e : Ending) (w' : World) : Prop := e = .returned (.bool b) ∧ Below w.heap.size w w'
theorem getD_high {ks : List Knot} {i : Nat} {X : T} (h : Is ks ((i : Int) + 1) X) (hi : i < ks.length) : (ks.getD i Knot.zero).high = X.high := by
  rw [← (getK_at (ks := ks) (i := (i : Int) + 1) rfl hi).1]
  exact h.knot.2.1

set_option maxRecDepth 100000 in
set_option maxHeartbeats 4000000 in
theorem rbal_any (ks : List Knot) (hwf : WF ks) (hks : ks.length ≤ small) (A : Option Addr) (cap : Nat) : ∀ (m : Nat) (t : Int) (X : T), X.cnt ≤ m → Is ks t X → ∀ w, madeAt w A ks →
    Calls Try.prog 23 #[.slice A ks.length cap, .int .i64 t] w (BalP w (balB X)) := by
  intro m
  induction m with
  | zero => intro t X hm; have := T.cnt_pos X; omega
  | succ m ih =>
  intro t X hm ht w hw
  cases X with
  | nil =>
    obtain rfl := ht.nil_
    unfold small at hks
    clear ht hm ih hw
    go_enter Try.func23, Try.ntmps23
    go_wp2
    go_ret
    exact ⟨rfl, Below.refl _ _⟩
  | leaf o n f =>
    obtain ⟨i, b, off, rfl, hi, rfl, hb, f0, f1, f2, f3, f4⟩ := made_leaf hw ht
    unfold small at hks
    have hi1 : IntKind.i64.wrap (i : Int) = i := IntWalk.i64_in _ (by omega)
    have hi0 : (0 : Int) ≤ i := by omega
    have hi2 : (i : Int) < ks.length := by omega
    have hz : ((i : Int) + 1 == 0) = false := by simp; omega
    clear ht hm ih hw
    go_enter Try.func23, Try.ntmps23
    go_wp2
    go_ret
    exact ⟨rfl, Below.refl _ _⟩
  | node L R =>
    have HM := Lib.hid hw
    have okX := ht.ok hwf
    have bl := T.bounds okX.1
    have br := T.bounds okX.2.1
    obtain ⟨i, b, off, l, r, rfl, hi, rfl, hb, hI1, hI2, hli, hri, f0, f1, f2, f3, f4⟩ := made_node hw ht
    simp only [T.cnt] at hm
    have IL := Lib.hid (fun w (hw : madeAt w (some ⟨b, off, none⟩) ks) => ih _ L (by omega) hI1 w hw)
    have IR := Lib.hid (fun w (hw : madeAt w (some ⟨b, off, none⟩) ks) => ih _ R (by omega) hI2 w hw)
    have hl := fun w (hw : madeAt w (some ⟨b, off, none⟩) ks) => high_any ks hwf hks (some ⟨b, off, none⟩) cap l (by omega) w hw
    have hr := fun w (hw : madeAt w (some ⟨b, off, none⟩) ks) => high_any ks hwf hks (some ⟨b, off, none⟩) cap r (by omega) w hw
    simp only [getD_high hI1 (by omega)] at hl
    simp only [getD_high hI2 (by omega)] at hr
    have HL := Lib.hid hl
    have HR := Lib.hid hr
    have hx : 0 ≤ L.high ∧ L.high ≤ 1099511627776 := by omega
    have hy : 0 ≤ R.high ∧ R.high ≤ 1099511627776 := by omega
    obtain ⟨hx0, hx1⟩ := hx
    obtain ⟨hy0, hy1⟩ := hy
    unfold small at hks
    have hi1 : IntKind.i64.wrap (i : Int) = i := IntWalk.i64_in _ (by omega)
    have hi0 : (0 : Int) ≤ i := by omega
    have hi2 : (i : Int) < ks.length := by omega
    have hz : ((i : Int) + 1 == 0) = false := by simp; omega
    have hz2 : ((l : Int) + 1 == 0) = false := by simp; omega
    simp only [balB]
    clear ht hm ih hw hl hr okX hI1 hI2 bl br
    generalize balB L = bL at IL ⊢
    generalize balB R = bR at IR ⊢
    generalize L.high = x at HL hx0 hx1 ⊢
    generalize R.high = y at HR hy0 hy1 ⊢
    have hwr : IntKind.i64.wrap (x - y) = x - y := IntWalk.i64_in _ (by omega)
    go_enter Try.func23, Try.ntmps23
    go_wp2_with fail
    have hb0 : Below w.heap.size w (w.alloc (.cells #[.int .i64 ((l : Int) + 1), .int .i64 ((r : Int) + 1), .int .i64 0, .int .i64 0, .int .i64 0] 112)) := (Below.refl _ _).alloc (Nat.le_refl _) _
    have hk : (w.alloc (.cells #[.int .i64 ((l : Int) + 1), .int .i64 ((r : Int) + 1), .int .i64 0, .int .i64 0, .int .i64 0] 112)).heap[w.heap.size]? = some (.cells #[.int .i64 ((l : Int) + 1), .int .i64 ((r : Int) + 1), .int .i64 0, .int .i64 0, .int .i64 0] 112 (0, 0)) := heap_alloc_new _ _
    have HB := Lib.hid (And.intro hb0 (And.intro hk (HM.out.below hb0)))
    clear hb0 hk f0 f1 f2 f3 f4 HM
    generalize w.alloc (.cells #[.int .i64 ((l : Int) + 1), .int .i64 ((r : Int) + 1), .int .i64 0, .int .i64 0, .int .i64 0] 112) = W at HB ⊢
    have hbw : w.heap.size < W.heap.size := (Array.getElem?_eq_some_iff.1 HB.out.2.1).1
    generalize hbk : w.heap.size = bk at HB hbw ⊢
    have c0 : W.cell? ⟨bk, 0, none⟩ = some (.int .i64 ((l : Int) + 1)) := cell_of_row W bk 0 _ _ (0, 0) HB.out.2.1
    have c1 : W.cell? ⟨bk, 1, none⟩ = some (.int .i64 ((r : Int) + 1)) := cell_of_row W bk 1 _ _ (0, 0) HB.out.2.1
    refine wp_region_grow 10 (by kernel_rfl) (by kernel_rfl) ?_
    simp only [List.take_succ_cons, List.take_zero, List.drop_succ_cons, List.drop_zero, List.take_nil, List.drop_nil]
    iterate 3 ((refine wpGrow_val' rfl rfl ?_; apply Exists.intro; refine ⟨fun w1 hw1 => ?_, ?_⟩); (have hc1 := hw1.cell; go_simp; exact growUpon_ok rfl); (refine wpGrow_at (by (simp only [Act.put, List.setIfInBounds_toArray, List.set_cons_succ, List.set_cons_zero]) <;> exact rfl) ?_))
    (refine wpGrow_val' rfl rfl ?_; apply Exists.intro; refine ⟨fun w1 hw1 => ?_, ?_⟩)
    · go_simp
      exact growUpon_call (HL.out _ (HB.out.2.2.below hw1.below))
    (refine wpGrow_at (by (simp only [Act.put, List.setIfInBounds_toArray, List.set_cons_succ, List.set_cons_zero]) <;> exact rfl) ?_)
    iterate 3 ((refine wpGrow_val' rfl rfl ?_; apply Exists.intro; refine ⟨fun w1 hw1 => ?_, ?_⟩); (have hc1 := hw1.cell; go_simp; exact growUpon_ok rfl); (refine wpGrow_at (by (simp only [Act.put, List.setIfInBounds_toArray, List.set_cons_succ, List.set_cons_zero]) <;> exact rfl) ?_))
    (refine wpGrow_val' rfl rfl ?_; apply Exists.intro; refine ⟨fun w1 hw1 => ?_, ?_⟩)
    · go_simp
      exact growUpon_call (HR.out _ (HB.out.2.2.below hw1.below))
    (refine wpGrow_at (by (simp only [Act.put, List.setIfInBounds_toArray, List.set_cons_succ, List.set_cons_zero]) <;> exact rfl) ?_)
    iterate 2 ((refine wpGrow_val' rfl rfl ?_; apply Exists.intro; refine ⟨fun w1 hw1 => ?_, ?_⟩); (have hc1 := hw1.cell; go_simp; exact growUpon_ok rfl); (refine wpGrow_at (by (simp only [Act.put, List.setIfInBounds_toArray, List.set_cons_succ, List.set_cons_zero]) <;> exact rfl) ?_))
    refine wpGrow_nil ?_
    intro w2 hD
    have HD := Lib.hid hD.below
    clear hD
    have hd0 : w2.cell? ⟨bk, 0, none⟩ = some (.int .i64 ((l : Int) + 1)) := (HD.out.cell (p := ⟨bk, 0, none⟩) hbw).trans c0
    have hd1 : w2.cell? ⟨bk, 1, none⟩ = some (.int .i64 ((r : Int) + 1)) := (HD.out.cell (p := ⟨bk, 1, none⟩) hbw).trans c1
    have HD2 := Lib.hid (And.intro (HB.out.1.trans (HD.out.mono (by omega))) (HB.out.2.2.below HD.out))
    clear c0 c1
    have hbk2 : bk < w2.heap.size := by have := HD.out.size; omega
    by_cases h1 : -1 ≤ x - y
    · by_cases h2 : x - y ≤ 1
      · have E := Lib.hid (show (decide (x ≤ y + 1) && decide (y ≤ x + 1)) = true by simp; omega)
        go_wp2_with fail
        ((with_reducible refine (IL.out _ HD2.out.2).mono ?_); rintro e w3 ⟨rfl, hb3⟩)
        have HD3 := Lib.hid (And.intro (HD2.out.1.trans (hb3.mono (by have := HD2.out.1.size; omega))) (HD2.out.2.below hb3))
        have he1 : w3.cell? ⟨bk, 1, none⟩ = some (.int .i64 ((r : Int) + 1)) := (hb3.cell (p := ⟨bk, 1, none⟩) hbk2).trans hd1
        clear hb3 hd0 hd1
        subst hbk
        cases bL
        · go_wp2
          go_ret
          exact ⟨rfl, HD3.out.1⟩
        · go_wp2_with fail
          ((with_reducible refine (IR.out _ HD3.out.2).mono ?_); rintro e w4 ⟨rfl, hb4⟩)
          have HD4 := Lib.hid (HD3.out.1.trans (hb4.mono HD3.out.1.size))
          clear hb4 he1
          cases bR
          · go_wp2
            go_ret
            exact ⟨rfl, HD4.out⟩
          · go_wp2
            go_ret
            exact ⟨ret_bool (by rw [E.out]; rfl), HD4.out⟩
      · have E := Lib.hid (show (decide (x ≤ y + 1) && decide (y ≤ x + 1)) = false by simp; omega)
        have h2' : decide (x - y ≤ 1) = false := by simpa using h2
        clear hd0 hd1
        subst hbk
        go_wp2
        go_ret
        exact ⟨ret_bool (by rw [E.out, Bool.and_false]), HD2.out.1⟩
    · have E := Lib.hid (show (decide (x ≤ y + 1) && decide (y ≤ x + 1)) = false by simp; omega)
      have h1' : decide (-1 ≤ x - y) = false := by simpa using h1
      clear hd0 hd1
      subst hbk
      go_wp2
      go_ret
      exact ⟨ret_bool (by rw [E.out, Bool.and_false]), HD2.out.1⟩

set_option maxRecDepth 100000 in
set_option maxHeartbeats 400000 in
theorem rbal_none (n cap : Nat) (A : Option Addr) (t : Int) (w : World) (h : t < 0 ∨ (n : Int) < t) (hn : n ≤ small) : Calls Try.prog 23 #[.slice A n cap, .int .i64 t] w fun e w' => e = .returned (.bool false) ∧ w = w' := by
  by_cases h1 : t < 0
  · go_enter Try.func23, Try.ntmps23
    clear h
    go_wp2
    go_ret
    exact ⟨rfl, rfl⟩
  · have h2 : (n : Int) < t := by omega
    clear h
    go_enter Try.func23, Try.ntmps23
    go_wp2
    go_ret
    exact ⟨rfl, rfl⟩
end Go.Proofs.Ytkcocdpmangcgaa.Ar
