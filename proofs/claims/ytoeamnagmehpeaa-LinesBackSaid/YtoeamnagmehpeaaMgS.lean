/- Layer 24: lines of a text: how many line feeds stand ahead of a place, where they stand, from where to where a line goes; plain. */ -/
import Derived.Test.YtoeamnagmehpeaaMgH
import Derived.Test.YtoeamnagmehpeaaMgA
import Derived.Deep.DeepCutAuto
import Derived.Test.YtoeamnagmehpeaaProg
import Derived.KernelRfl
import Derived.OpenShut
import Derived.WideKeyPair
namespace Go.Proofs.Ytoeamnagmehpeaa.Ln
set_option linter.unusedSimpArgs false
set_option linter.unusedVariables false
open Go Go.RowKit Go.Proofs.Ytoeamnagmehpeaa.Rp
open Go.Proofs.Ytoeamnagmehpeaa.Buf (lfs lfs_append lfs_bounds lfs_sorted lfs_take)

/-- line feeds ahead of a place. -/
def aheadL (y : List UInt8) (a : Int) : Int := (lfs 0 (y.take a.toNat)).length
def feedsL (y : List UInt8) : Int := (lfs 0 y).length
/-- where a line feed stands. -/
def posL (y : List UInt8) (n : Int) : Int := (lfs 0 y).getD n.toNat 0
theorem lfs_len_app (a b : List UInt8) : (lfs 0 (a ++ b)).length = (lfs 0 a).length + (lfs 0 b).length := lfs_len_append a b
theorem aheadL_append (a b : List UInt8) (x : Int) : aheadL (a ++ b) x = aheadL a x + aheadL b (x - a.length) := by
  unfold aheadL
  rw [List.take_append, lfs_len_app, show (x - (a.length : Int)).toNat = x.toNat - a.length by omega]
  omega
theorem aheadL_all {y : List UInt8} {a : Int} (h : (y.length : Int) ≤ a) : aheadL y a = feedsL y := by
  unfold aheadL feedsL
  rw [List.take_of_length_le (by omega)]
theorem aheadL_low {y : List UInt8} {a : Int} (h : a ≤ 0) : aheadL y a = 0 := by
  unfold aheadL
  rw [show a.toNat = 0 by omega]
  rfl
theorem lfs_two (y : List UInt8) (a : Nat) : lfs 0 y = lfs 0 (y.take a) ++ lfs (y.take a).length (y.drop a) := by
  conv => lhs; rw [← List.take_append_drop a y]
  rw [lfs_append, Nat.zero_add]
theorem aheadL_bd (y : List UInt8) (a : Int) : 0 ≤ aheadL y a ∧ aheadL y a ≤ feedsL y := by
  unfold aheadL feedsL
  have := congrArg List.length (lfs_two y a.toNat)
  rw [List.length_append] at this
  omega
theorem feedsL_le (y : List UInt8) : 0 ≤ feedsL y ∧ feedsL y ≤ y.length := by
  unfold feedsL
  have := Buf.lfs_length 0 y
  omega
theorem feedsL_append (a b : List UInt8) : feedsL (a ++ b) = feedsL a + feedsL b := by unfold feedsL; rw [lfs_len_app]; omega
theorem posL_left {a b : List UInt8} {n : Int} (h0 : 0 ≤ n) (h1 : n < feedsL a) : posL (a ++ b) n = posL a n := by
  unfold posL feedsL at *
  rw [lfs_append]
  simp only [List.getD]
  rw [List.getElem?_append_left (by omega)]
theorem posL_right {a b : List UInt8} {n : Int} (h0 : feedsL a ≤ n) (h1 : n < feedsL a + feedsL b) : posL (a ++ b) n = a.length + posL b (n - feedsL a) := by
  unfold posL feedsL at *
  have hs := Buf.lfs_shift a.length 0 b
  rw [Nat.add_zero] at hs
  rw [lfs_append, Nat.zero_add, hs]
  simp only [List.getD]
  rw [List.getElem?_append_right (by omega), List.getElem?_map, show n.toNat - (lfs 0 a).length = (n - ((lfs 0 a).length : Int)).toNat by omega]
  have hlt : (n - ((lfs 0 a).length : Int)).toNat < (lfs 0 b).length := by omega
  rw [List.getElem?_eq_getElem hlt]
  rfl
theorem posL_mem {y : List UInt8} {n : Int} (h0 : 0 ≤ n) (h1 : n < feedsL y) : 0 ≤ posL y n ∧ posL y n < y.length := by
  unfold posL feedsL at *
  have hlt : n.toNat < (lfs 0 y).length := by omega
  have := lfs_bounds 0 y ((lfs 0 y).getD n.toNat 0) (by simp [List.getD, hlt])
  omega
/-- a line feed stands ahead of a place, or not. -/
theorem pos_iff {y : List UInt8} {n a : Int} (h0 : 0 ≤ n) (h1 : n < feedsL y) (ha0 : 0 ≤ a) (ha : a ≤ y.length) : posL y n < a ↔ n < aheadL y a := by
  unfold posL feedsL aheadL at *
  have htl : (y.take a.toNat).length = a.toNat := by rw [List.length_take]; omega
  have e := lfs_two y a.toNat
  have hlt : n.toNat < (lfs 0 y).length := by omega
  by_cases hc : n.toNat < (lfs 0 (y.take a.toNat)).length
  · have hm : (lfs 0 y).getD n.toNat 0 ∈ lfs 0 (y.take a.toNat) := by
      rw [e]
      simp only [List.getD]
      rw [List.getElem?_append_left hc, List.getElem?_eq_getElem hc]
      simp
    have := lfs_bounds 0 (y.take a.toNat) _ hm
    rw [htl] at this
    exact ⟨fun _ => by omega, fun _ => by omega⟩
  · have hc2 : n.toNat - (lfs 0 (y.take a.toNat)).length < (lfs (y.take a.toNat).length (y.drop a.toNat)).length := by
      have := congrArg List.length e
      rw [List.length_append] at this
      omega
    have hm : (lfs 0 y).getD n.toNat 0 ∈ lfs (y.take a.toNat).length (y.drop a.toNat) := by
      rw [e]
      simp only [List.getD]
      rw [List.getElem?_append_right (by omega), List.getElem?_eq_getElem hc2]
      simp
    have := lfs_bounds _ _ _ hm
    rw [htl] at this
    exact ⟨fun _ => by omega, fun _ => by omega⟩

/-! lines -/
def fromL (y : List UInt8) (c : Int) : Int := if c ≤ 0 then 0 else posL y (c - 1) + 1
def toL (y : List UInt8) (c : Int) : Int := if c < feedsL y then posL y c else y.length
def spanL (y : List UInt8) (line : Int) : Int × Int × Bool := if line < 1 ∨ feedsL y + 1 < line then (0, 0, false) else (fromL y (line - 1), toL y (line - 1), true)
theorem at_span {y : List UInt8} {a : Int} (h0 : 0 ≤ a) (h1 : a ≤ y.length) : 0 ≤ fromL y (aheadL y a) ∧ fromL y (aheadL y a) ≤ a ∧ a ≤ toL y (aheadL y a) := by
  have hb := aheadL_bd y a
  unfold fromL toL
  refine ⟨?_, ?_, ?_⟩
  · split
    · omega
    · have := posL_mem (y := y) (n := aheadL y a - 1) (by omega) (by omega); omega
  · split
    · omega
    · have := (pos_iff (y := y) (n := aheadL y a - 1) (by omega) (by omega) h0 h1).2 (by omega); omega
  · split
    · next h =>
      have := (pos_iff (y := y) (n := aheadL y a) (by omega) h h0 h1)
      omega
    · exact h1
theorem span_bd {y : List UInt8} {c : Int} (h0 : 0 ≤ c) (h1 : c ≤ feedsL y) : 0 ≤ fromL y c ∧ fromL y c ≤ toL y c ∧ toL y c ≤ y.length := by
  unfold fromL toL
  have hp := fun (h : ¬ c ≤ 0) => posL_mem (y := y) (n := c - 1) (by omega) (by omega)
  have hq := fun (h : c < feedsL y) => posL_mem (y := y) (n := c) (by omega) h
  refine ⟨?_, ?_, ?_⟩
  · split
    · omega
    · have := hp (by omega); omega
  · split
    · split
      · have := hq (by assumption); omega
      · omega
    · next hc =>
      have h3 := hp hc
      split
      · next h =>
        have h2 := hq h
        have h4 := pos_iff (y := y) (n := c - 1) (a := posL y c) (by omega) (by omega) (by omega) (by omega)
        have h5 := pos_iff (y := y) (n := c) (a := posL y c) (by omega) h (by omega) (by omega)
        -- the next line feed stands behind
        have h6 := pos_iff (y := y) (n := c) (a := posL y c + 1) (by omega) h (by omega) (by omega)
        have h7 := pos_iff (y := y) (n := c - 1) (a := posL y (c - 1) + 1) (by omega) (by omega) (by omega) (by omega)
        by_cases hlt : posL y (c - 1) < posL y c
        · omega
        · exfalso
          have hs := lfs_sorted 0 y
          have ha : (c - 1).toNat < (lfs 0 y).length := by unfold feedsL at h; omega
          have hb : c.toNat < (lfs 0 y).length := by unfold feedsL at h; omega
          have := List.pairwise_iff_getElem.1 hs (c - 1).toNat c.toNat ha hb (by omega)
          unfold posL at hlt
          simp only [List.getD, List.getElem?_eq_getElem ha, List.getElem?_eq_getElem hb, Option.getD_some] at hlt
          exact hlt this
      · omega
  · split
    · have := hq (by assumption); omega
    · omega
theorem span_at {y : List UInt8} {a c : Int} (h0 : 0 ≤ c) (h1 : c ≤ feedsL y) (h2 : fromL y c ≤ a) (h3 : a ≤ toL y c) : 0 ≤ a ∧ a ≤ y.length ∧ aheadL y a = c := by
  have hb := span_bd h0 h1
  have ha0 : 0 ≤ a := by omega
  have ha1 : a ≤ y.length := by omega
  refine ⟨ha0, ha1, ?_⟩
  have hbd := aheadL_bd y a
  have k1 : c ≤ aheadL y a := by
    unfold fromL at h2
    split at h2
    · omega
    · have := (pos_iff (y := y) (n := c - 1) (by omega) (by omega) ha0 ha1).1 (by omega); omega
  have k2 : aheadL y a ≤ c := by
    unfold toL at h3
    split at h3
    · next h =>
      have := pos_iff (y := y) (n := c) (by omega) h ha0 ha1
      omega
    · omega
  omega

/-! the page's line and column -/
def atF (y : List UInt8) : Int × Int := y.foldl (fun p c => if c = 10 then (p.1 + 1, 1) else (p.1, p.2 + 1)) (1, 1)
theorem atF_snoc (y : List UInt8) (c : UInt8) : atF (y ++ [c]) = if c = 10 then ((atF y).1 + 1, 1) else ((atF y).1, (atF y).2 + 1) := by unfold atF; rw [List.foldl_append]; rfl
theorem ahead_succ {y : List UInt8} {i : Nat} (h : i < y.length) : aheadL y (i + 1 : Nat) = aheadL y i + (if y.getD i 0 = 10 then 1 else 0) ∧ (y.getD i 0 = 10 → posL y (aheadL y i) = i ∧ aheadL y i < feedsL y) := by
  have e := lfs_take 0 y i h
  have hl := congrArg List.length e
  rw [List.length_append] at hl
  constructor
  · unfold aheadL
    simp only [Int.toNat_natCast]
    rw [hl]
    split <;> simp
  · intro hc
    rw [if_pos hc] at e
    have e2 := lfs_two y (i + 1)
    unfold posL aheadL feedsL
    simp only [Int.toNat_natCast]
    rw [e2, e, List.append_assoc]
    constructor
    · simp only [List.getD]
      rw [List.getElem?_append_right (Nat.le_refl _), Nat.sub_self]
      simp
    · simp only [List.length_append, List.length_cons]
      omega
theorem atF_take {y : List UInt8} : ∀ {i : Nat}, i ≤ y.length → atF (y.take i) = (aheadL y i + 1, (i : Int) - fromL y (aheadL y i) + 1)
  | 0, _ => by
    have : aheadL y ((0 : Nat) : Int) = 0 := aheadL_low (by simp)
    rw [this]
    simp [atF, fromL]
  | i + 1, h => by
    have ih := atF_take (y := y) (i := i) (by omega)
    obtain ⟨a1, a2⟩ := ahead_succ (y := y) (i := i) (by omega)
    have htk : y.take (i + 1) = y.take i ++ [y.getD i 0] := by
      rw [List.take_succ_eq_append_getElem (by omega)]
      simp [List.getD, show i < y.length by omega]
    have hb := aheadL_bd y i
    rw [htk, atF_snoc, ih, a1]
    by_cases hc : y.getD i 0 = 10
    · obtain ⟨p1, p2⟩ := a2 hc
      rw [if_pos hc, if_pos hc]
      refine Prod.ext rfl ?_
      simp only
      unfold fromL
      rw [if_neg (by omega), show aheadL y i + 1 - 1 = aheadL y i by omega, p1]
      omega
    · rw [if_neg hc, if_neg hc]
      refine Prod.ext (by simp) ?_
      simp only [Int.add_zero]
      omega
/-- the place of a line's column. -/
def placeL (y : List UInt8) (line col : Int) : Int := if (spanL y line).2.2 = true ∧ 1 ≤ col ∧ col - 1 ≤ (spanL y line).2.1 - (spanL y line).1 then (spanL y line).1 + col - 1 else -1
theorem place_found {y : List UInt8} {i : Nat} {line col : Int} (h : i ≤ y.length) (e : atF (y.take i) = (line, col)) : placeL y line col = i := by
  rw [atF_take h] at e
  have e1 : aheadL y i + 1 = line := congrArg Prod.fst e
  have e2 : (i : Int) - fromL y (aheadL y i) + 1 = col := congrArg Prod.snd e
  have hb := aheadL_bd y i
  have hs := at_span (y := y) (a := i) (by omega) (by omega)
  have hsp : spanL y line = (fromL y (aheadL y i), toL y (aheadL y i), true) := by
    unfold spanL
    rw [if_neg (by omega), show line - 1 = aheadL y i by omega]
  unfold placeL
  rw [hsp]
  simp only
  rw [if_pos ⟨trivial, by omega, by omega⟩]
  omega
theorem place_none {y : List UInt8} {line col : Int} (h : ∀ i : Nat, i ≤ y.length → atF (y.take i) ≠ (line, col)) : placeL y line col = -1 := by
  unfold placeL
  rw [if_neg]
  rintro ⟨h1, h2, h3⟩
  unfold spanL at h1 h3
  by_cases hl : line < 1 ∨ feedsL y + 1 < line
  · rw [if_pos hl] at h1; cases h1
  · rw [if_neg hl] at h3
    simp only at h3
    have hb := span_bd (y := y) (c := line - 1) (by omega) (by omega)
    obtain ⟨g1, g2, g3⟩ := span_at (y := y) (a := fromL y (line - 1) + col - 1) (c := line - 1) (by omega) (by omega) (by omega) (by omega)
    refine h (fromL y (line - 1) + col - 1).toNat (by omega) ?_
    rw [atF_take (by omega), show (((fromL y (line - 1) + col - 1).toNat : Nat) : Int) = fromL y (line - 1) + col - 1 by omega, g3]
    refine Prod.ext ?_ ?_
    · simp only; omega
    · simp only; omega
/-- a place's line and column lead back to it. -/
theorem place_back {y : List UInt8} {a : Int} (h0 : 0 ≤ a) (h1 : a ≤ y.length) : placeL y (aheadL y a + 1) (a - fromL y (aheadL y a) + 1) = a := by
  have := place_found (y := y) (i := a.toNat) (line := aheadL y a + 1) (col := a - fromL y (aheadL y a) + 1) (by omega) (by rw [atF_take (by omega), show ((a.toNat : Nat) : Int) = a by omega])
  omega
/-- a line's text. -/
def lineL (y : List UInt8) (c : Int) : List UInt8 := (y.drop (fromL y c).toNat).take (toL y c - fromL y c).toNat
def lineB (s : ByteArray) (c : Int) : ByteArray := s.extract (fromL s.data.toList c).toNat (toL s.data.toList c).toNat
theorem lineB_list (s : ByteArray) {c : Int} (h0 : 0 ≤ c) (h1 : c ≤ feedsL s.data.toList) : (lineB s c).data.toList = lineL s.data.toList c := by
  have hb := span_bd h0 h1
  unfold lineB lineL
  rw [extract_list]
  congr 1
  omega
end Go.Proofs.Ytoeamnagmehpeaa.Ln


/- Layer 24: ahead, feed, span walked. */ -/
namespace Go.Proofs.Ytoeamnagmehpeaa.Ln
set_option linter.unusedSimpArgs false
set_option linter.unusedVariables false
open Go Go.RowKit Go.Proofs.Ytoeamnagmehpeaa.Rp
open Go.Proofs.Ytoeamnagmehpeaa.Ar (T Is Ext WF Knot getK getB getS Arena resAr small leafK pairK)
open Go.Proofs.Ytoeamnagmehpeaa.Buf (feedsV feedV feedB)
attribute [local go_sem] lt_add1 lt_self1 size_ne size_ne' size_ne1 size_ne1'
attribute [local irreducible] wpGrow wpThr

section
variable (gs gb ga : Nat) (rb rf q : Option Nat) (S : ByteArray) (ks : List Knot)
theorem feedsL_txt {X : T} (h : Rp.Good S X) : X.feeds = feedsL (txt S X) := good_feeds h

set_option maxHeartbeats 1000000 in
theorem ahead_zero (t a : Int) (w : World) (h : St w gs gb ga rb rf q S ks) (hks : ks.length ≤ small) (hz : getB ks t = false ∨ a ≤ 0) :
    Calls Try.prog 76 #[.pointer (some ⟨gs, 0, none⟩), .int .i64 t, .int .i64 a] w fun e w' => e = .returned (.int .i64 0) ∧ Below w.heap.size w w' := by
  have G := Lib.hid (rknot_any gs gb ga rb rf q S ks w t h hks)
  unfold Knot.val at G
  clear h
  generalize getK ks t = kn at G
  cases hb : getB ks t
  · rw [hb] at G
    clear hz
    go_enter Try.func76, Try.ntmps76
    go_wp2_with fail
    ((with_reducible refine G.out.mono ?_); rintro e w1 ⟨rfl, hb1⟩)
    have HB := Lib.hid (hb1.alloc hb1.size (.cells #[.int .i64 kn.left, .int .i64 kn.right, .int .i64 kn.off, .int .i64 kn.len, .int .i64 kn.high, .int .i64 kn.leaves, .int .i64 kn.feeds] 50))
    clear hb1
    go_wp2_with fail
    go_ret
    exact ⟨rfl, HB.out⟩
  · rw [hb] at G
    have ha : a ≤ 0 := by
      rcases hz with h | h
      · rw [hb] at h; cases h
      · exact h
    clear hz
    go_enter Try.func76, Try.ntmps76
    go_wp2_with fail
    ((with_reducible refine G.out.mono ?_); rintro e w1 ⟨rfl, hb1⟩)
    have HB := Lib.hid (hb1.alloc hb1.size (.cells #[.int .i64 kn.left, .int .i64 kn.right, .int .i64 kn.off, .int .i64 kn.len, .int .i64 kn.high, .int .i64 kn.leaves, .int .i64 kn.feeds] 50))
    clear hb1
    go_wp2_with fail
    go_ret
    exact ⟨rfl, HB.out⟩

set_option maxHeartbeats 1000000 in
theorem ahead_all (t a : Int) (w : World) (h : St w gs gb ga rb rf q S ks) (hks : ks.length ≤ small) (hb : getB ks t = true) (h0 : 0 < a) (ha : (getK ks t).len ≤ a) :
    Calls Try.prog 76 #[.pointer (some ⟨gs, 0, none⟩), .int .i64 t, .int .i64 a] w fun e w' => e = .returned (.int .i64 (getK ks t).feeds) ∧ Below w.heap.size w w' := by
  have G := Lib.hid (rknot_any gs gb ga rb rf q S ks w t h hks)
  unfold Knot.val at G
  rw [hb] at G
  clear h hb
  generalize getK ks t = kn at G ha
  have h0' : ¬ a ≤ 0 := by omega
  obtain ⟨x1, x2, x3, x4, x5, x6, x7⟩ := kn
  simp only at G ha ⊢
  go_enter Try.func76, Try.ntmps76
  go_wp2_with fail
  ((with_reducible refine G.out.mono ?_); rintro e w1 ⟨rfl, hb1⟩)
  have HB := Lib.hid (hb1.alloc hb1.size (.cells #[.int .i64 x1, .int .i64 x2, .int .i64 x3, .int .i64 x4, .int .i64 x5, .int .i64 x6, .int .i64 x7] 50))
  clear hb1
  go_wp2_with fail
  go_ret
  exact ⟨rfl, HB.out⟩

set_option maxHeartbeats 2000000 in
theorem ahead_leaf (t a o n f : Int) (w : World) (h : St w gs gb ga rb rf q S ks) (hks : ks.length ≤ small) (hS : S.size ≤ 1000000) (hX : Is ks t (.leaf o n f)) (hg : Rp.Good S (.leaf o n f)) (h0 : 0 < a) (ha : a < n) :
    Calls Try.prog 76 #[.pointer (some ⟨gs, 0, none⟩), .int .i64 t, .int .i64 a] w fun e w' => e = .returned (.int .i64 (aheadL (txt S (.leaf o n f)) a)) ∧ Below w.heap.size w w' := by
  obtain ⟨g1, g2, g3, g4⟩ := good_leaf.1 hg
  simp only at g1 g2 g3 g4
  obtain ⟨e1, e2, _⟩ := hX.leaf_
  have G := Lib.hid (rknot_any gs gb ga rb rf q S ks w t h hks)
  rw [e1, e2] at G
  unfold Knot.val leafK at G
  have HFE := Lib.hid (fun k w' (hb : Below w.heap.size w w') => rfeed_any gs gb ga rb rf q S ks w' o a k (h.below hb) hS)
  have hF : aheadL (txt S (.leaf o n f)) a = feedsV S o a := by
    rw [feedsV_piece g1 (by omega) (by omega), txt_leaf]
    unfold aheadL
    rw [(cutS_part (S := S) (o := o) (n := n) (a := a) (by omega) (by omega) g1).1]
  have hfb := feedsV_bd (S := S) (o := o) (n := a) g1 (by omega) (by omega)
  rw [hF]
  have hFB : ∀ k : Nat, feedB S o a k = decide ((k : Int) < feedsV S o a) := fun k => by
    unfold feedB
    simp
  have HFB := Lib.hid hFB
  obtain ⟨m, hm⟩ : ∃ m : Nat, feedsV S o a = m := ⟨(feedsV S o a).toNat, by omega⟩
  rw [hm] at HFB
  rw [hm] at hfb ⊢
  simp only at G
  clear h hX hg hF hFB hm e1 e2 g4
  have h0' : ¬ a ≤ 0 := by omega
  have ha' : ¬ a ≥ n := by omega
  go_enter Try.func76, Try.ntmps76
  go_wp2_with fail
  ((with_reducible refine G.out.mono ?_); rintro e w1 ⟨rfl, hb1⟩)
  have hb1a := hb1.alloc hb1.size (.cells #[.int .i64 0, .int .i64 0, .int .i64 o, .int .i64 n, .int .i64 1, .int .i64 1, .int .i64 f] 50)
  have hk1 : (w1.alloc (.cells #[.int .i64 0, .int .i64 0, .int .i64 o, .int .i64 n, .int .i64 1, .int .i64 1, .int .i64 f] 50)).heap[w1.heap.size]? = some (.cells #[.int .i64 0, .int .i64 0, .int .i64 o, .int .i64 n, .int .i64 1, .int .i64 1, .int .i64 f] 50 (0, 0)) := heap_alloc_new _ _
  go_upto_region 4 with fail
  have H1 := Lib.hid (And.intro hb1a hk1)
  clear hb1 hb1a hk1
  generalize w1.alloc (.cells #[.int .i64 0, .int .i64 0, .int .i64 o, .int .i64 n, .int .i64 1, .int .i64 1, .int .i64 f] 50) = W at H1 ⊢
  generalize w1.heap.size = kb at H1 ⊢
  have c0 := cell_of_row W kb 0 _ _ (0, 0) H1.out.2
  have c2 := cell_of_row W kb 2 _ _ (0, 0) H1.out.2
  have c3 := cell_of_row W kb 3 _ _ (0, 0) H1.out.2
  have cl := (Array.getElem?_eq_some_iff.1 H1.out.2).1
  simp only [List.getElem?_toArray, List.getElem?_cons_zero, List.getElem?_cons_succ] at c0 c2 c3
  go_wp2_with fail
  ((with_reducible refine (HFE.out 0 _ H1.out.1).mono ?_); rintro e w2 ⟨rfl, hb2⟩)
  have H2 := Lib.hid hb2
  have d2 : ∀ x : Bw W, x.w.cell? ⟨kb, 2, none⟩ = some (.int .i64 o) := fun x => (x.h.cell (p := ⟨kb, _, none⟩) cl).trans c2
  have dl : ∀ x : Bw W, kb < x.w.heap.size := fun x => Nat.lt_of_lt_of_le cl x.h.size
  clear hb2 c0 c2 c3
  go_wp2_with fail
  have HFB0 : Hid (feedB S o a 0 = decide ((0 : Int) < m)) := Lib.hid (HFB.out 0)
  go_loopw [9, 11] (fun n ok wr => ∃ k : Nat, n = .int .i64 k ∧ ok = .bool (decide ((k : Int) < m)) ∧ k ≤ m ∧ Below W.heap.size W wr) (fun n _ _ => m - (intOf n).toNat)
  case atStart => exact ⟨0, rfl, by rw [HFB0.out]; rfl, by omega, H2.out⟩
  case round =>
    obtain ⟨k, rfl, rfl, hk, hbr⟩ := hrel
    have HBR := Lib.hid hbr
    have e2 := d2 ⟨wr, hbr⟩
    have el := dl ⟨wr, hbr⟩
    simp only at e2 el
    clear hbr
    by_cases hkm : k < m
    · have hd : decide ((k : Int) < m) = true := by simp; omega
      rw [hd]
      have HF := Lib.hid (HFE.out ((k : Int) + 1) wr (H1.out.1.trans (HBR.out.mono H1.out.1.size)))
      have hq : feedB S o a ((k : Int) + 1) = decide ((k : Int) + 1 < m) := HFB.out (k + 1)
      rw [hq] at HF
      have HQ := Lib.hid hq
      clear hq
      generalize hdd : decide ((k : Int) + 1 < m) = dd at HF
      have HDD := Lib.hid hdd
      clear hdd
      go_wp2_with fail
      ((with_reducible refine HF.out.mono ?_); rintro e w3 ⟨rfl, hb3⟩)
      have HB3 := Lib.hid (HBR.out.trans (hb3.mono HBR.out.size))
      clear hb3
      go_wp2_with fail
      go_roundw
      case rel => exact ⟨k + 1, by go_num, by rw [← HDD.out]; rfl, by omega, HB3.out⟩
      case measure => simp [intOf]; omega
    · obtain rfl : k = m := by omega
      have hd : decide ((k : Int) < k) = false := by simp
      rw [hd]
      go_wp2_with fail
      go_ret
      exact ⟨rfl, H1.out.1.trans (HBR.out.mono H1.out.1.size)⟩
end
end Go.Proofs.Ytoeamnagmehpeaa.Ln


/- Layer 24: ahead, feed and span of any rope. */ -/
namespace Go.Proofs.Ytoeamnagmehpeaa.Ln
set_option linter.unusedSimpArgs false
set_option linter.unusedVariables false
open Go Go.RowKit Go.Proofs.Ytoeamnagmehpeaa.Rp
open Go.Proofs.Ytoeamnagmehpeaa.Ar (T Is Ext WF Knot getK getB getS Arena resAr small leafK pairK)
open Go.Proofs.Ytoeamnagmehpeaa.Buf (feedsV feedV feedB)
attribute [local go_sem] lt_add1 lt_self1 size_ne size_ne' size_ne1 size_ne1'
attribute [local irreducible] wpGrow wpThr

section
variable (gs gb ga : Nat) (rb rf q : Option Nat) (S : ByteArray) (ks : List Knot)
set_option maxRecDepth 100000 in
set_option maxHeartbeats 2000000 in
theorem ahead_any (hw : WF ks) (hks : ks.length ≤ small) (hS : S.size ≤ 1000000) : ∀ (X : T) (t a : Int) (w : World), Is ks t X → Rp.Good S X → St w gs gb ga rb rf q S ks → -4398046511104 ≤ a → a ≤ 4398046511104 →
    Calls Try.prog 76 #[.pointer (some ⟨gs, 0, none⟩), .int .i64 t, .int .i64 a] w fun e w' => e = .returned (.int .i64 (aheadL (txt S X) a)) ∧ Below w.heap.size w w' := by
  intro X
  induction X with
  | nil =>
    intro t a w hX hg h h0 h1
    have e : aheadL (txt S .nil) a = 0 := by rw [txt_nil]; unfold aheadL; simp [Buf.lfs]
    rw [e]
    obtain rfl := hX.nil_
    exact ahead_zero gs gb ga rb rf q S ks 0 a w h hks (.inl (by simp [getB, getS]))
  | leaf o n f =>
    intro t a w hX hg h h0 h1
    have hl := txt_length hg
    by_cases ha : a ≤ 0
    · rw [aheadL_low ha]
      exact ahead_zero gs gb ga rb rf q S ks t a w h hks (.inr ha)
    · by_cases ha2 : n ≤ a
      · have hk := hX.knot
        rw [aheadL_all (by rw [hl]; exact ha2), ← feedsL_txt S hg, ← hk.2.2.2.1]
        exact ahead_all gs gb ga rb rf q S ks t a w h hks hX.leaf_.2.1 (by omega) (by rw [hk.1]; exact ha2)
      · exact ahead_leaf gs gb ga rb rf q S ks t a o n f w h hks hS hX hg (by omega) (by omega)
  | node L R ihL ihR =>
    intro t a w hX hg h h0 h1
    have hl := txt_length hg
    have hok := hX.ok hw
    have hbd := T.bounds hok
    by_cases ha : a ≤ 0
    · rw [aheadL_low ha]
      exact ahead_zero gs gb ga rb rf q S ks t a w h hks (.inr ha)
    · by_cases ha2 : (T.node L R).size ≤ a
      · have hk := hX.knot
        obtain ⟨l, r, _, _, _, _, hb, _⟩ := hX.node_
        rw [aheadL_all (by rw [hl]; exact ha2), ← feedsL_txt S hg, ← hk.2.2.2.1]
        exact ahead_all gs gb ga rb rf q S ks t a w h hks hb (by omega) (by rw [hk.1]; exact ha2)
      · obtain ⟨l, r, l1, r1, hL, hR, hb, _, _, _, ek⟩ := hX.node_
        obtain ⟨g1, g2⟩ := good_node.1 hg
        have hlL := txt_length g1
        have hbL := T.bounds (hL.ok hw)
        rw [txt_node, aheadL_append, hlL]
        have G := Lib.hid (rknot_any gs gb ga rb rf q S ks w t h hks)
        rw [ek, hb] at G
        unfold Knot.val at G
        simp only at G
        have HSZ := Lib.hid (fun w' (hb : Below w.heap.size w w') => rsize_is gs gb ga rb rf q S ks w' l L hL (h.below hb) hks)
        have HL := Lib.hid (fun w' (hb : Below w.heap.size w w') => ihL l a w' hL g1 (h.below hb) h0 h1)
        have HRR := Lib.hid (fun w' (hb : Below w.heap.size w w') => ihR r (a - L.size) w' hR g2 (h.below hb) (by omega) (by omega))
        have ha3 : ¬ a ≥ L.size + R.size := by have : (T.node L R).size = L.size + R.size := rfl; omega
        have hl0 : ¬ l = 0 := by omega
        have hl0' : (l == 0) = false := by simp [hl0]
        have hbb := aheadL_bd (txt S L) a
        have hbb2 := feedsL_le (txt S L)
        have hbc := aheadL_bd (txt S R) (a - L.size)
        have hbc2 := feedsL_le (txt S R)
        have hlR := txt_length g2
        have hbR := T.bounds (hR.ok hw)
        have hwr : IntKind.i64.wrap (a - L.size) = a - L.size := IntWalk.i64_in _ (by omega)
        have hA : 0 ≤ aheadL (txt S L) a ∧ aheadL (txt S L) a ≤ 1099511627776 := by omega
        have hB : 0 ≤ aheadL (txt S R) (a - L.size) ∧ aheadL (txt S R) (a - L.size) ≤ 1099511627776 := by omega
        clear hbb hbb2 hbc hbc2 hlR hlL hbR hX hg hL hR g1 g2 hok hbd hl ihL ihR h ek hb ha2
        generalize aheadL (txt S L) a = x at HL hA ⊢
        generalize aheadL (txt S R) (a - L.size) = y at HRR hB ⊢
        have hwx : IntKind.i64.wrap (x + y) = x + y := IntWalk.i64_in _ (by omega)
        generalize L.size + R.size = z at G ha3
        generalize 1 + max L.high R.high = z2 at G
        generalize L.many + R.many = z3 at G
        generalize L.feeds + R.feeds = z4 at G
        generalize hms : L.size = m at HSZ HRR hwr
        have ha' : ¬ a ≤ 0 := ha
        clear hbL hms
        go_enter Try.func76, Try.ntmps76
        go_wp2_with fail
        ((with_reducible refine G.out.mono ?_); rintro e w1 ⟨rfl, hb1⟩)
        have hb1a := hb1.alloc hb1.size (.cells #[.int .i64 l, .int .i64 r, .int .i64 0, .int .i64 z, .int .i64 z2, .int .i64 z3, .int .i64 z4] 50)
        have hk1 : (w1.alloc (.cells #[.int .i64 l, .int .i64 r, .int .i64 0, .int .i64 z, .int .i64 z2, .int .i64 z3, .int .i64 z4] 50)).heap[w1.heap.size]? = some (.cells #[.int .i64 l, .int .i64 r, .int .i64 0, .int .i64 z, .int .i64 z2, .int .i64 z3, .int .i64 z4] 50 (0, 0)) := heap_alloc_new _ _
        go_upto_region 4 with fail
        have H1 := Lib.hid (And.intro hb1a hk1)
        clear hb1 hb1a hk1
        generalize w1.alloc (.cells #[.int .i64 l, .int .i64 r, .int .i64 0, .int .i64 z, .int .i64 z2, .int .i64 z3, .int .i64 z4] 50) = W at H1 ⊢
        generalize w1.heap.size = kb at H1 ⊢
        have c0 := cell_of_row W kb 0 _ _ (0, 0) H1.out.2
        have c1 := cell_of_row W kb 1 _ _ (0, 0) H1.out.2
        have c3 := cell_of_row W kb 3 _ _ (0, 0) H1.out.2
        have cl := (Array.getElem?_eq_some_iff.1 H1.out.2).1
        simp only [List.getElem?_toArray, List.getElem?_cons_zero, List.getElem?_cons_succ] at c0 c1 c3
        have d0 := Bw.cell cl c0
        have d1 := Bw.cell cl c1
        have dl := Bw.lt cl
        go_wp2_with fail
        ((with_reducible refine (HSZ.out _ H1.out.1).mono ?_); rintro e w2 ⟨rfl, hb2⟩)
        have H2 := Lib.hid hb2
        have HL2 := Lib.hid (fun w' (hb : Below W.heap.size W w') => HL.out w' (H1.out.1.trans (hb.mono H1.out.1.size)))
        have HR2 := Lib.hid (fun w' (hb : Below W.heap.size W w') => HRR.out w' (H1.out.1.trans (hb.mono H1.out.1.size)))
        clear hb2 c0 c1 c3
        go_wp2_with fail
        refine wp_region_wd (fun w' => Below W.heap.size W w') (by kernel_rfl) (by kernel_rfl) H2.out.drew ?_
        repeat (go_big_quiet_step (first | with_reducible exact Bw.call (HL2.out _ (Wd.h _)) | with_reducible exact Bw.call (HR2.out _ (Wd.h _))))
        refine wpQuiet_nil (wd_all ?_)
        intro w5 hb5
        have H5 := Lib.hid hb5
        clear hb5
        go_wp2_with fail
        go_ret
        exact ⟨rfl, H1.out.1.trans (H5.out.mono H1.out.1.size)⟩

set_option maxRecDepth 100000 in
set_option maxHeartbeats 2000000 in
theorem feed_any (hw : WF ks) (hks : ks.length ≤ small) (hS : S.size ≤ 1000000) : ∀ (X : T) (t n : Int) (w : World), Is ks t X → Rp.Good S X → St w gs gb ga rb rf q S ks → 0 ≤ n → n < X.feeds →
    Calls Try.prog 110 #[.pointer (some ⟨gs, 0, none⟩), .int .i64 t, .int .i64 n] w fun e w' => e = .returned (.int .i64 (posL (txt S X) n)) ∧ Below w.heap.size w w' := by
  intro X
  induction X with
  | nil => intro t n w hX hg h h0 h1; simp [T.feeds] at h1; omega
  | leaf o m f =>
    intro t n w hX hg h h0 h1
    obtain ⟨g1, g2, g3, g4⟩ := good_leaf.1 hg
    simp only at g1 g2 g3 g4
    obtain ⟨e1, e2, _⟩ := hX.leaf_
    have G := Lib.hid (rknot_any gs gb ga rb rf q S ks w t h hks)
    rw [e1, e2] at G
    unfold Knot.val leafK at G
    simp only at G
    have hfs := feedsL_txt S hg
    have hmem := posL_mem (y := txt S (.leaf o m f)) h0 (by rw [← hfs]; exact h1)
    have hl := txt_length hg
    have hsz : (T.leaf o m f).size = m := rfl
    have hfe : (T.leaf o m f).feeds = f := rfl
    have hfv : feedV S o m n = o + posL (txt S (.leaf o m f)) n := by
      obtain ⟨o', rfl⟩ : ∃ o' : Nat, o = o' := ⟨o.toNat, by omega⟩
      obtain ⟨m', rfl⟩ : ∃ m' : Nat, m = m' := ⟨m.toNat, by omega⟩
      obtain ⟨n', rfl⟩ : ∃ n' : Nat, n = n' := ⟨n.toNat, by omega⟩
      have ht : txt S (.leaf (o' : Int) (m' : Int) f) = (S.extract o' (o' + m')).data.toList := by
        rw [txt_leaf, extract_list, Nat.add_sub_cancel_left]
        unfold cutS
        simp
      have hp := Buf.feed_piece S o' m' n' (by omega) (by rw [← ht]; rw [hfe] at hfs; unfold feedsL at hfs; omega)
      unfold feedV
      rw [if_pos ⟨h0, by rw [← g4]; exact h1⟩]
      simp only [Int.toNat_natCast]
      rw [hp, ht]
      unfold posL
      simp
    have HFE := Lib.hid (fun w' (hb : Below w.heap.size w w') => rfeed_any gs gb ga rb rf q S ks w' o m n (h.below hb) hS)
    rw [hfv] at HFE
    generalize feedB S o m n = fb at HFE
    generalize posL (txt S (.leaf o m f)) n = p at HFE hmem ⊢
    have hwr : IntKind.i64.wrap (o + p - o) = p := by rw [IntWalk.i64_in _ (by omega)]; omega
    clear h hX hg e1 e2 g4 hfs hfv hfe hsz
    go_enter Try.func110, Try.ntmps110
    go_wp2_with fail
    ((with_reducible refine G.out.mono ?_); rintro e w1 ⟨rfl, hb1⟩)
    have hb1a := hb1.alloc hb1.size (.cells #[.int .i64 0, .int .i64 0, .int .i64 o, .int .i64 m, .int .i64 1, .int .i64 1, .int .i64 f] 50)
    have hk1 : (w1.alloc (.cells #[.int .i64 0, .int .i64 0, .int .i64 o, .int .i64 m, .int .i64 1, .int .i64 1, .int .i64 f] 50)).heap[w1.heap.size]? = some (.cells #[.int .i64 0, .int .i64 0, .int .i64 o, .int .i64 m, .int .i64 1, .int .i64 1, .int .i64 f] 50 (0, 0)) := heap_alloc_new _ _
    go_upto_region 2 with fail
    have H1 := Lib.hid (And.intro hb1a hk1)
    clear hb1 hb1a hk1
    generalize w1.alloc (.cells #[.int .i64 0, .int .i64 0, .int .i64 o, .int .i64 m, .int .i64 1, .int .i64 1, .int .i64 f] 50) = W at H1 ⊢
    generalize w1.heap.size = kb at H1 ⊢
    have c0 := cell_of_row W kb 0 _ _ (0, 0) H1.out.2
    have c2 := cell_of_row W kb 2 _ _ (0, 0) H1.out.2
    have c3 := cell_of_row W kb 3 _ _ (0, 0) H1.out.2
    have cl := (Array.getElem?_eq_some_iff.1 H1.out.2).1
    simp only [List.getElem?_toArray, List.getElem?_cons_zero, List.getElem?_cons_succ] at c0 c2 c3
    go_wp2_with fail
    ((with_reducible refine (HFE.out _ H1.out.1).mono ?_); rintro e w2 ⟨rfl, hb2⟩)
    have H2 := Lib.hid (H1.out.1.trans (hb2.mono H1.out.1.size))
    have d2 : w2.cell? ⟨kb, 2, none⟩ = some (.int .i64 o) := (hb2.cell (p := ⟨kb, _, none⟩) cl).trans c2
    have dl : kb < w2.heap.size := Nat.lt_of_lt_of_le cl hb2.size
    clear hb2 c0 c2 c3 cl
    go_wp2_with fail
    go_ret
    exact ⟨rfl, H2.out⟩
  | node L R ihL ihR =>
    intro t n w hX hg h h0 h1
    obtain ⟨l, r, l1, r1, hL, hR, hb, _, _, _, ek⟩ := hX.node_
    obtain ⟨g1, g2⟩ := good_node.1 hg
    have hlL := txt_length g1
    have hfL := feedsL_txt S g1
    have hfR := feedsL_txt S g2
    have hok := hX.ok hw
    have hbX := T.bounds hok
    have hbL := T.bounds (hL.ok hw)
    have hbR := T.bounds (hR.ok hw)
    have hsX : (T.node L R).size = L.size + R.size := rfl
    have hfX : (T.node L R).feeds = L.feeds + R.feeds := rfl
    have G := Lib.hid (rknot_any gs gb ga rb rf q S ks w t h hks)
    rw [ek, hb] at G
    unfold Knot.val at G
    simp only at G
    have hk := hL.knot
    have GL := Lib.hid (fun w' (hb : Below w.heap.size w w') => rknot_any gs gb ga rb rf q S ks w' l (h.below hb) hks)
    unfold Knot.val at GL
    rw [hk.1, hk.2.2.2.1] at GL
    generalize getB ks l = bl at GL
    generalize getK ks l = kl at GL
    have hl0 : ¬ l = 0 := by omega
    have hl0' : (l == 0) = false := by simp [hl0]
    have HH := Lib.hid (And.intro h (And.intro hL (And.intro hR (And.intro g1 g2))))
    rw [txt_node]
    generalize L.size + R.size = z at G
    generalize 1 + max L.high R.high = z2 at G
    generalize L.many + R.many = z3 at G
    generalize L.feeds + R.feeds = z4 at G
    obtain ⟨x1, x2, x3, x4, x5, x6, x7⟩ := kl
    simp only at GL
    have HW := Lib.hid (And.intro ihL ihR)
    by_cases hc : n < L.feeds
    · rw [posL_left h0 (by rw [← hfL]; exact hc)]
      have HL := Lib.hid (fun w' (hb : Below w.heap.size w w') => ihL l n w' hL g1 (h.below hb) h0 hc)
      generalize posL (txt S L) n = p at HL ⊢
      generalize hfe : L.feeds = lf at GL hc
      generalize hms : L.size = m at GL
      clear hX hg hL hR g1 g2 hok hbX hbL hbR h ek hb ihL ihR hlL hfL hfR hsX hfX hk hfe hms
      go_enter Try.func110, Try.ntmps110
      go_wp2_with fail
      ((with_reducible refine G.out.mono ?_); rintro e w1 ⟨rfl, hb1⟩)
      have hb1a := hb1.alloc hb1.size (.cells #[.int .i64 l, .int .i64 r, .int .i64 0, .int .i64 z, .int .i64 z2, .int .i64 z3, .int .i64 z4] 50)
      have hk1 : (w1.alloc (.cells #[.int .i64 l, .int .i64 r, .int .i64 0, .int .i64 z, .int .i64 z2, .int .i64 z3, .int .i64 z4] 50)).heap[w1.heap.size]? = some (.cells #[.int .i64 l, .int .i64 r, .int .i64 0, .int .i64 z, .int .i64 z2, .int .i64 z3, .int .i64 z4] 50 (0, 0)) := heap_alloc_new _ _
      go_upto_region 2 with fail
      have H1 := Lib.hid (And.intro hb1a hk1)
      clear hb1 hb1a hk1
      generalize w1.alloc (.cells #[.int .i64 l, .int .i64 r, .int .i64 0, .int .i64 z, .int .i64 z2, .int .i64 z3, .int .i64 z4] 50) = W at H1 ⊢
      generalize w1.heap.size = kb at H1 ⊢
      have c0 := cell_of_row W kb 0 _ _ (0, 0) H1.out.2
      have cl := (Array.getElem?_eq_some_iff.1 H1.out.2).1
      simp only [List.getElem?_toArray, List.getElem?_cons_zero, List.getElem?_cons_succ] at c0
      go_wp2_with fail
      ((with_reducible refine (GL.out _ H1.out.1).mono ?_); rintro e w2 ⟨rfl, hb2⟩)
      have hb2a := hb2.alloc hb2.size (.cells #[.int .i64 x1, .int .i64 x2, .int .i64 x3, .int .i64 m, .int .i64 x5, .int .i64 x6, .int .i64 lf] 50)
      have hk2 : (w2.alloc (.cells #[.int .i64 x1, .int .i64 x2, .int .i64 x3, .int .i64 m, .int .i64 x5, .int .i64 x6, .int .i64 lf] 50)).heap[w2.heap.size]? = some (.cells #[.int .i64 x1, .int .i64 x2, .int .i64 x3, .int .i64 m, .int .i64 x5, .int .i64 x6, .int .i64 lf] 50 (0, 0)) := heap_alloc_new _ _
      go_upto_region 6 with fail
      have H2 := Lib.hid (And.intro (H1.out.1.trans (hb2a.mono H1.out.1.size)) hk2)
      have d0 := (hb2a.cell (p := ⟨kb, 0, none⟩) cl).trans c0
      have dl := Nat.lt_of_lt_of_le cl hb2a.size
      clear hb2 hb2a hk2 c0 cl
      generalize w2.alloc (.cells #[.int .i64 x1, .int .i64 x2, .int .i64 x3, .int .i64 m, .int .i64 x5, .int .i64 x6, .int .i64 lf] 50) = W2 at H2 d0 dl ⊢
      generalize w2.heap.size = kc at H2 ⊢
      have f6 := cell_of_row W2 kc 6 _ _ (0, 0) H2.out.2
      have fl := (Array.getElem?_eq_some_iff.1 H2.out.2).1
      simp only [List.getElem?_toArray, List.getElem?_cons_zero, List.getElem?_cons_succ] at f6
      go_wp2_with fail
      ((with_reducible refine (HL.out _ H2.out.1).mono ?_); rintro e w3 ⟨rfl, hb3⟩)
      have H3 := Lib.hid (H2.out.1.trans (hb3.mono H2.out.1.size))
      clear hb3 d0 dl f6 fl
      go_wp2_with fail
      go_ret
      exact ⟨rfl, H3.out⟩
    · rw [posL_right (by rw [← hfL]; omega) (by rw [← hfL, ← hfR]; omega), hlL, ← hfL]
      have HRR := Lib.hid (fun w' (hb : Below w.heap.size w w') => ihR r (n - L.feeds) w' hR g2 (h.below hb) (by omega) (by omega))
      have hmem := posL_mem (y := txt S R) (n := n - L.feeds) (by omega) (by rw [← hfR]; omega)
      have hlR := txt_length g2
      have hp : 0 ≤ posL (txt S R) (n - L.feeds) ∧ posL (txt S R) (n - L.feeds) ≤ 1099511627776 := by omega
      generalize posL (txt S R) (n - L.feeds) = p at HRR hp ⊢
      have hwr : IntKind.i64.wrap (n - L.feeds) = n - L.feeds := IntWalk.i64_in _ (by omega)
      have hwp : IntKind.i64.wrap (L.size + p) = L.size + p := IntWalk.i64_in _ (by omega)
      generalize hfe : L.feeds = lf at GL hc HRR hwr
      generalize hms : L.size = m at GL hwp ⊢
      clear hX hg hL hR g1 g2 hok hbX hbL hbR h ek hb ihL ihR hlL hfL hfR hsX hfX hk hfe hms hmem hlR
      go_enter Try.func110, Try.ntmps110
      go_wp2_with fail
      ((with_reducible refine G.out.mono ?_); rintro e w1 ⟨rfl, hb1⟩)
      have hb1a := hb1.alloc hb1.size (.cells #[.int .i64 l, .int .i64 r, .int .i64 0, .int .i64 z, .int .i64 z2, .int .i64 z3, .int .i64 z4] 50)
      have hk1 : (w1.alloc (.cells #[.int .i64 l, .int .i64 r, .int .i64 0, .int .i64 z, .int .i64 z2, .int .i64 z3, .int .i64 z4] 50)).heap[w1.heap.size]? = some (.cells #[.int .i64 l, .int .i64 r, .int .i64 0, .int .i64 z, .int .i64 z2, .int .i64 z3, .int .i64 z4] 50 (0, 0)) := heap_alloc_new _ _
      go_upto_region 2 with fail
      have H1 := Lib.hid (And.intro hb1a hk1)
      clear hb1 hb1a hk1
      generalize w1.alloc (.cells #[.int .i64 l, .int .i64 r, .int .i64 0, .int .i64 z, .int .i64 z2, .int .i64 z3, .int .i64 z4] 50) = W at H1 ⊢
      generalize w1.heap.size = kb at H1 ⊢
      have c0 := cell_of_row W kb 0 _ _ (0, 0) H1.out.2
      have c1 := cell_of_row W kb 1 _ _ (0, 0) H1.out.2
      have cl := (Array.getElem?_eq_some_iff.1 H1.out.2).1
      simp only [List.getElem?_toArray, List.getElem?_cons_zero, List.getElem?_cons_succ] at c0 c1
      go_wp2_with fail
      ((with_reducible refine (GL.out _ H1.out.1).mono ?_); rintro e w2 ⟨rfl, hb2⟩)
      have hb2a := hb2.alloc hb2.size (.cells #[.int .i64 x1, .int .i64 x2, .int .i64 x3, .int .i64 m, .int .i64 x5, .int .i64 x6, .int .i64 lf] 50)
      have hk2 : (w2.alloc (.cells #[.int .i64 x1, .int .i64 x2, .int .i64 x3, .int .i64 m, .int .i64 x5, .int .i64 x6, .int .i64 lf] 50)).heap[w2.heap.size]? = some (.cells #[.int .i64 x1, .int .i64 x2, .int .i64 x3, .int .i64 m, .int .i64 x5, .int .i64 x6, .int .i64 lf] 50 (0, 0)) := heap_alloc_new _ _
      go_upto_region 6 with fail
      have H2 := Lib.hid (And.intro (H1.out.1.trans (hb2a.mono H1.out.1.size)) hk2)
      have e1 := (hb2a.cell (p := ⟨kb, 1, none⟩) cl).trans c1
      have el := Nat.lt_of_lt_of_le cl hb2a.size
      clear hb2 hb2a hk2 c0 c1 cl
      generalize w2.alloc (.cells #[.int .i64 x1, .int .i64 x2, .int .i64 x3, .int .i64 m, .int .i64 x5, .int .i64 x6, .int .i64 lf] 50) = W2 at H2 e1 el ⊢
      generalize w2.heap.size = kc at H2 ⊢
      have f3 := cell_of_row W2 kc 3 _ _ (0, 0) H2.out.2
      have f6 := cell_of_row W2 kc 6 _ _ (0, 0) H2.out.2
      have fl := (Array.getElem?_eq_some_iff.1 H2.out.2).1
      simp only [List.getElem?_toArray, List.getElem?_cons_zero, List.getElem?_cons_succ] at f3 f6
      have d1 := Bw.cell el e1
      have d3 := Bw.cell fl f3
      have d6 := Bw.cell fl f6
      have dl := Bw.lt el
      have dm := Bw.lt fl
      have HR2 := Lib.hid (fun w' (hb : Below W2.heap.size W2 w') => HRR.out w' (H2.out.1.trans (hb.mono H2.out.1.size)))
      clear e1 f3
      go_wp2_with fail
      refine wp_region_wd (fun w' => Below W2.heap.size W2 w') (by kernel_rfl) (by kernel_rfl) ((Below.refl _ _).drew) ?_
      repeat (go_big_quiet_step (with_reducible exact Bw.call (HR2.out _ (Wd.h _))))
      refine wpQuiet_nil (wd_all ?_)
      intro w5 hb5
      have H5 := Lib.hid (H2.out.1.trans (hb5.mono H2.out.1.size))
      clear hb5
      go_wp2_with fail
      go_ret
      exact ⟨rfl, H5.out⟩
end
end Go.Proofs.Ytoeamnagmehpeaa.Ln


/- Layer 24: span, Count, At, Place, Text of any rope. */ -/
namespace Go.Proofs.Ytoeamnagmehpeaa.Ln
set_option linter.unusedSimpArgs false
set_option linter.unusedVariables false
open Go Go.RowKit Go.Proofs.Ytoeamnagmehpeaa.Rp
open Go.Proofs.Ytoeamnagmehpeaa.Ar (T Is Ext WF Knot getK getB getS Arena resAr small leafK pairK)
attribute [local go_sem] lt_add1 lt_self1 size_ne size_ne' size_ne1 size_ne1'
attribute [local irreducible] wpGrow wpThr

section
variable (gs gb ga : Nat) (rb rf q : Option Nat) (S : ByteArray) (ks : List Knot)
set_option maxRecDepth 100000 in
set_option maxHeartbeats 2000000 in
theorem span_any (hw : WF ks) (hks : ks.length ≤ small) (hS : S.size ≤ 1000000) (X : T) (t line : Int) (w : World) (hX : Is ks t X) (hg : Rp.Good S X) (h : St w gs gb ga rb rf q S ks) :
    Calls Try.prog 77 #[.pointer (some ⟨gs, 0, none⟩), .int .i64 t, .int .i64 line] w fun e w' => e = .returned (.tuple #[.int .i64 (spanL (txt S X) line).1, .int .i64 (spanL (txt S X) line).2.1, .bool (spanL (txt S X) line).2.2]) ∧ Below w.heap.size w w' := by
  have G := Lib.hid (rknot_any gs gb ga rb rf q S ks w t h hks)
  unfold Knot.val at G
  have hk := hX.knot
  have hf := feedsL_txt S hg
  have hl := txt_length hg
  have hbd := T.bounds (hX.ok hw)
  rw [hk.1, hk.2.2.2.1, hf] at G
  have HFD := Lib.hid (fun n w' (hb : Below w.heap.size w w') (h0 : 0 ≤ n) (h1 : n < feedsL (txt S X)) => feed_any gs gb ga rb rf q S ks hw hks hS X t n w' hX hg (h.below hb) h0 (by rw [hf]; exact h1))
  have HPM := Lib.hid (fun n (h0 : 0 ≤ n) (h1 : n < feedsL (txt S X)) => posL_mem (y := txt S X) h0 h1)
  have hfb := feedsL_le (txt S X)
  rw [← hl] at G
  generalize txt S X = y at G HFD HPM hfb hl hf ⊢
  have hyl : (y.length : Int) ≤ 1099511627776 := by omega
  generalize getB ks t = bt at G
  generalize getK ks t = kn at G
  obtain ⟨x1, x2, x3, x4, x5, x6, x7⟩ := kn
  simp only at G
  clear h hX hg hk hf hl hbd
  unfold spanL
  generalize hF : feedsL y = F at *
  have HF := Lib.hid hF
  clear hF
  have hwF : IntKind.i64.wrap (F + 1) = F + 1 := IntWalk.i64_in _ (by omega)
  by_cases hbad : line < 1 ∨ F + 1 < line
  · rw [if_pos hbad]
    simp only
    have key : line < 1 ∨ (¬ line < 1 ∧ line > F + 1) := by omega
    clear hbad
    rcases key with c1 | ⟨c1, c2⟩
    all_goals
      go_enter Try.func77, Try.ntmps77
      go_wp2_with fail
      ((with_reducible refine G.out.mono ?_); rintro e w1 ⟨rfl, hb1⟩)
      have hb1a := hb1.alloc hb1.size (.cells #[.int .i64 x1, .int .i64 x2, .int .i64 x3, .int .i64 y.length, .int .i64 x5, .int .i64 x6, .int .i64 F] 50)
      have hk1 : (w1.alloc (.cells #[.int .i64 x1, .int .i64 x2, .int .i64 x3, .int .i64 y.length, .int .i64 x5, .int .i64 x6, .int .i64 F] 50)).heap[w1.heap.size]? = some (.cells #[.int .i64 x1, .int .i64 x2, .int .i64 x3, .int .i64 y.length, .int .i64 x5, .int .i64 x6, .int .i64 F] 50 (0, 0)) := heap_alloc_new _ _
      go_upto_region 2 with fail
      have H1 := Lib.hid (And.intro hb1a hk1)
      clear hb1 hb1a hk1
      generalize w1.alloc (.cells #[.int .i64 x1, .int .i64 x2, .int .i64 x3, .int .i64 y.length, .int .i64 x5, .int .i64 x6, .int .i64 F] 50) = W at H1 ⊢
      generalize w1.heap.size = kb at H1 ⊢
      have c6 := cell_of_row W kb 6 _ _ (0, 0) H1.out.2
      have cl := (Array.getElem?_eq_some_iff.1 H1.out.2).1
      simp only [List.getElem?_toArray, List.getElem?_cons_zero, List.getElem?_cons_succ] at c6
      go_wp2_with fail
      refine bodyPost_ret (v := .tuple #[.int .i64 0, .int .i64 0, .bool false]) (by simp [results, Try.results77, go_sem]) rfl ?_
      exact ⟨rfl, H1.out.1⟩
  · rw [if_neg hbad]
    have c1 : ¬ line < 1 := by omega
    have c2 : ¬ line > F + 1 := by omega
    simp only
    unfold fromL toL
    rw [HF.out, show line - 1 - 1 = line - 2 by omega]
    generalize hfr : (if line - 1 ≤ 0 then 0 else posL y (line - 2) + 1) = fr
    generalize hto : (if line - 1 < F then posL y (line - 1) else (y.length : Int)) = to_
    have HFR := Lib.hid hfr
    have HTO := Lib.hid hto
    clear hbad hfr hto
    go_enter Try.func77, Try.ntmps77
    go_wp2_with fail
    ((with_reducible refine G.out.mono ?_); rintro e w1 ⟨rfl, hb1⟩)
    have hb1a := hb1.alloc hb1.size (.cells #[.int .i64 x1, .int .i64 x2, .int .i64 x3, .int .i64 y.length, .int .i64 x5, .int .i64 x6, .int .i64 F] 50)
    have hk1 : (w1.alloc (.cells #[.int .i64 x1, .int .i64 x2, .int .i64 x3, .int .i64 y.length, .int .i64 x5, .int .i64 x6, .int .i64 F] 50)).heap[w1.heap.size]? = some (.cells #[.int .i64 x1, .int .i64 x2, .int .i64 x3, .int .i64 y.length, .int .i64 x5, .int .i64 x6, .int .i64 F] 50 (0, 0)) := heap_alloc_new _ _
    go_upto_region 2 with fail
    have H1 := Lib.hid (And.intro hb1a hk1)
    clear hb1 hb1a hk1
    generalize w1.alloc (.cells #[.int .i64 x1, .int .i64 x2, .int .i64 x3, .int .i64 y.length, .int .i64 x5, .int .i64 x6, .int .i64 F] 50) = W at H1 ⊢
    generalize w1.heap.size = kb at H1 ⊢
    have c6 := cell_of_row W kb 6 _ _ (0, 0) H1.out.2
    have c3 := cell_of_row W kb 3 _ _ (0, 0) H1.out.2
    have cl := (Array.getElem?_eq_some_iff.1 H1.out.2).1
    simp only [List.getElem?_toArray, List.getElem?_cons_zero, List.getElem?_cons_succ] at c6 c3
    have d6 := Bw.cell cl c6
    have d3 := Bw.cell cl c3
    have dl := Bw.lt cl
    go_wp2_with fail
    refine wp_region_wd (fun w' => Below W.heap.size W w') (by kernel_rfl) (by kernel_rfl) ((Below.refl _ _).drew) ?_
    repeat (go_big_quiet_step (fail))
    refine wpQuiet_nil (wd_all ?_)
    intro w2 hb2
    have H2 := Lib.hid (And.intro hb2 (H1.out.1.trans (hb2.mono H1.out.1.size)))
    clear hb2 c6 c3
    by_cases c3 : line > 1
    · have hm := HPM.out (line - 2) (by omega) (by omega)
      have HC := Lib.hid (HFD.out (line - 2) w2 H2.out.2 (by omega) (by omega))
      have hw2 : IntKind.i64.wrap (line - 2) = line - 2 := IntWalk.i64_in _ (by omega)
      have hfr := HFR.out
      rw [if_neg (show ¬ line - 1 ≤ 0 by omega)] at hfr
      have HFR2 := Lib.hid hfr
      clear hfr
      generalize posL y (line - 2) = p at HC hm HFR2
      have hw3 : IntKind.i64.wrap (p + 1) = p + 1 := IntWalk.i64_in _ (by omega)
      go_wp2_with fail
      ((with_reducible refine HC.out.mono ?_); rintro e w3 ⟨rfl, hb3⟩)
      have H3 := Lib.hid (And.intro (H2.out.1.trans (hb3.mono H2.out.1.size)) (H2.out.2.trans (hb3.mono H2.out.2.size)))
      have e6 := d6 ⟨w3, H3.out.1⟩
      have el := dl ⟨w3, H3.out.1⟩
      simp only at e6 el
      clear hb3
      by_cases c4 : line ≤ F
      · have hm2 := HPM.out (line - 1) (by omega) (by omega)
        have HC2 := Lib.hid (HFD.out (line - 1) w3 H3.out.2 (by omega) (by omega))
        have hw4 : IntKind.i64.wrap (line - 1) = line - 1 := IntWalk.i64_in _ (by omega)
        have hto := HTO.out
        rw [if_pos (show line - 1 < F by omega)] at hto
        have HTO2 := Lib.hid hto
        clear hto
        generalize posL y (line - 1) = p2 at HC2 hm2 HTO2
        go_wp2_with fail
        ((with_reducible refine HC2.out.mono ?_); rintro e w4 ⟨rfl, hb4⟩)
        have H4 := Lib.hid (H3.out.2.trans (hb4.mono H3.out.2.size))
        clear hb4
        go_wp2_with fail
        refine bodyPost_ret (v := .tuple #[.int .i64 (p + 1), .int .i64 p2, .bool true]) (by simp [results, Try.results77, go_sem]) rfl ?_
        exact ⟨by rw [← HFR2.out, ← HTO2.out], H4.out⟩
      · have hto := HTO.out
        rw [if_neg (show ¬ line - 1 < F by omega)] at hto
        have HTO2 := Lib.hid hto
        clear hto
        go_wp2_with fail
        refine bodyPost_ret (v := .tuple #[.int .i64 (p + 1), .int .i64 y.length, .bool true]) (by simp [results, Try.results77, go_sem]) rfl ?_
        exact ⟨by rw [← HFR2.out, ← HTO2.out], H3.out.2⟩
    · have e6 := d6 ⟨w2, H2.out.1⟩
      have el := dl ⟨w2, H2.out.1⟩
      simp only at e6 el
      have hfr := HFR.out
      rw [if_pos (show line - 1 ≤ 0 by omega)] at hfr
      have HFR2 := Lib.hid hfr
      clear hfr
      by_cases c4 : line ≤ F
      · have hm2 := HPM.out (line - 1) (by omega) (by omega)
        have HC2 := Lib.hid (HFD.out (line - 1) w2 H2.out.2 (by omega) (by omega))
        have hw4 : IntKind.i64.wrap (line - 1) = line - 1 := IntWalk.i64_in _ (by omega)
        have hto := HTO.out
        rw [if_pos (show line - 1 < F by omega)] at hto
        have HTO2 := Lib.hid hto
        clear hto
        generalize posL y (line - 1) = p2 at HC2 hm2 HTO2
        go_wp2_with fail
        ((with_reducible refine HC2.out.mono ?_); rintro e w4 ⟨rfl, hb4⟩)
        have H4 := Lib.hid (H2.out.2.trans (hb4.mono H2.out.2.size))
        clear hb4
        go_wp2_with fail
        refine bodyPost_ret (v := .tuple #[.int .i64 0, .int .i64 p2, .bool true]) (by simp [results, Try.results77, go_sem]) rfl ?_
        exact ⟨by rw [← HFR2.out, ← HTO2.out], H4.out⟩
      · have hto := HTO.out
        rw [if_neg (show ¬ line - 1 < F by omega)] at hto
        have HTO2 := Lib.hid hto
        clear hto
        go_wp2_with fail
        refine bodyPost_ret (v := .tuple #[.int .i64 0, .int .i64 y.length, .bool true]) (by simp [results, Try.results77, go_sem]) rfl ?_
        exact ⟨by rw [← HFR2.out, ← HTO2.out], H2.out.2⟩
end
end Go.Proofs.Ytoeamnagmehpeaa.Ln


/- Layer 24: Count, At, Place, Text of any rope, and of what is none. */ -/
namespace Go.Proofs.Ytoeamnagmehpeaa.Ln
set_option linter.unusedSimpArgs false
set_option linter.unusedVariables false
open Go Go.RowKit Go.Proofs.Ytoeamnagmehpeaa.Rp
open Go.Proofs.Ytoeamnagmehpeaa.Ar (T Is Ext WF Knot getK getB getS Arena resAr small leafK pairK)
attribute [local go_sem] lt_add1 lt_self1 size_ne size_ne' size_ne1 size_ne1'
attribute [local irreducible] wpGrow wpThr

/-- Size says that there is no rope. -/
abbrev NoRope (s : Option Addr) (t : Int) (w : World) : Prop := Calls Try.prog 20 #[.pointer s, .int .i64 t] w fun e w' => e = .returned (.tuple #[.int .i64 0, .int .i64 7]) ∧ Below w.heap.size w w'
set_option maxHeartbeats 1000000 in
theorem count_none (s : Option Addr) (t : Int) (w : World) (h : NoRope s t w) : Calls Try.prog 31 #[.pointer s, .int .i64 t] w fun e w' => e = .returned (.tuple #[.int .i64 0, .int .i64 7]) ∧ Below w.heap.size w w' := by
  have HZ := Lib.hid h
  clear h
  go_enter Try.func31, Try.ntmps31
  go_wp2_with fail
  ((with_reducible refine HZ.out.mono ?_); rintro e w1 ⟨rfl, hb⟩)
  have HB := Lib.hid hb
  clear hb
  go_wp2
  go_ret2
  exact ⟨rfl, HB.out⟩
set_option maxHeartbeats 1000000 in
theorem at_none (s : Option Addr) (t a : Int) (w : World) (h : NoRope s t w) : Calls Try.prog 26 #[.pointer s, .int .i64 t, .int .i64 a] w fun e w' => e = .returned (.tuple #[.int .i64 0, .int .i64 0, .int .i64 7]) ∧ Below w.heap.size w w' := by
  have HZ := Lib.hid h
  clear h
  go_enter Try.func26, Try.ntmps26
  go_wp2_with fail
  ((with_reducible refine HZ.out.mono ?_); rintro e w1 ⟨rfl, hb⟩)
  have HB := Lib.hid hb
  clear hb
  go_wp2
  refine bodyPost_ret (v := .tuple #[.int .i64 0, .int .i64 0, .int .i64 7]) (by simp [results, Try.results26, go_sem]) rfl ?_
  exact ⟨rfl, HB.out⟩
set_option maxHeartbeats 1000000 in
theorem place_no (s : Option Addr) (t a b : Int) (w : World) (h : NoRope s t w) : Calls Try.prog 27 #[.pointer s, .int .i64 t, .int .i64 a, .int .i64 b] w fun e w' => e = .returned (.tuple #[.int .i64 0, .int .i64 7]) ∧ Below w.heap.size w w' := by
  have HZ := Lib.hid h
  clear h
  go_enter Try.func27, Try.ntmps27
  go_wp2_with fail
  ((with_reducible refine HZ.out.mono ?_); rintro e w1 ⟨rfl, hb⟩)
  have HB := Lib.hid hb
  clear hb
  go_wp2
  go_ret2
  exact ⟨rfl, HB.out⟩
set_option maxHeartbeats 1000000 in
theorem text_none (s : Option Addr) (t a : Int) (w : World) (h : NoRope s t w) : Calls Try.prog 32 #[.pointer s, .int .i64 t, .int .i64 a] w fun e w' => e = .returned (.tuple #[.string ⟨#[]⟩, .int .i64 7]) ∧ Below w.heap.size w w' := by
  have HZ := Lib.hid h
  clear h
  go_enter Try.func32, Try.ntmps32
  go_wp2_with fail
  ((with_reducible refine HZ.out.mono ?_); rintro e w1 ⟨rfl, hb⟩)
  have HB := Lib.hid hb
  clear hb
  go_wp2
  go_ret2
  exact ⟨rfl, HB.out⟩

/-- a rope in memory, with its text. -/
structure Rop (gs gb ga : Nat) (rb rf q : Option Nat) (S : ByteArray) (ks : List Knot) (t : Int) (y : List UInt8) (w : World) : Prop where
  st : St w gs gb ga rb rf q S ks
  wf : WF ks
  ks_ : ks.length ≤ small
  S_ : S.size ≤ 1000000
  ex : ∃ X, Is ks t X ∧ Rp.Good S X ∧ txt S X = y
section
variable {gs gb ga : Nat} {rb rf q : Option Nat} {S : ByteArray} {ks : List Knot} {t : Int} {y : List UInt8} {w w' : World}
theorem Rop.below (h : Rop gs gb ga rb rf q S ks t y w) (hb : Below w.heap.size w w') : Rop gs gb ga rb rf q S ks t y w' := ⟨h.st.below hb, h.wf, h.ks_, h.S_, h.ex⟩
theorem Rop.len (h : Rop gs gb ga rb rf q S ks t y w) : (y.length : Int) ≤ 1099511627776 := by
  obtain ⟨X, h1, h2, rfl⟩ := h.ex
  have := txt_length h2
  have := T.bounds (h1.ok h.wf)
  omega
theorem Rop.size (h : Rop gs gb ga rb rf q S ks t y w) : Calls Try.prog 20 #[.pointer (some ⟨gs, 0, none⟩), .int .i64 t] w fun e w' => e = .returned (.tuple #[.int .i64 y.length, .int .i64 0]) ∧ Below w.heap.size w w' := by
  obtain ⟨X, h1, h2, rfl⟩ := h.ex
  rw [txt_length h2]
  exact rsize_is gs gb ga rb rf q S ks w t X h1 h.st h.ks_
theorem Rop.span (h : Rop gs gb ga rb rf q S ks t y w) (line : Int) : Calls Try.prog 77 #[.pointer (some ⟨gs, 0, none⟩), .int .i64 t, .int .i64 line] w fun e w' => e = .returned (.tuple #[.int .i64 (spanL y line).1, .int .i64 (spanL y line).2.1, .bool (spanL y line).2.2]) ∧ Below w.heap.size w w' := by
  obtain ⟨X, h1, h2, rfl⟩ := h.ex
  exact span_any gs gb ga rb rf q S ks h.wf h.ks_ h.S_ X t line w h1 h2 h.st
theorem Rop.ahead (h : Rop gs gb ga rb rf q S ks t y w) (a : Int) (h0 : 0 ≤ a) (h1 : a ≤ y.length) : Calls Try.prog 76 #[.pointer (some ⟨gs, 0, none⟩), .int .i64 t, .int .i64 a] w fun e w' => e = .returned (.int .i64 (aheadL y a)) ∧ Below w.heap.size w w' := by
  have hl := h.len
  obtain ⟨X, h2, h3, rfl⟩ := h.ex
  exact ahead_any gs gb ga rb rf q S ks h.wf h.ks_ h.S_ X t a w h2 h3 h.st (by omega) (by omega)
theorem Rop.read (h : Rop gs gb ga rb rf q S ks t y w) (a n : Int) : Calls Try.prog 21 #[.pointer (some ⟨gs, 0, none⟩), .int .i64 t, .int .i64 a, .int .i64 n] w fun e w' => e = .returned (.tuple #[.string ⟨(readV y a n).1.toArray⟩, .int .i64 (readV y a n).2]) ∧ Below w.heap.size w w' := by
  obtain ⟨X, h1, h2, rfl⟩ := h.ex
  exact rread_any gs gb ga rb rf q S ks w t a n X h.wf h1 h2 h.st h.ks_ h.S_

set_option maxHeartbeats 1000000 in
theorem count_any (h : Rop gs gb ga rb rf q S ks t y w) : Calls Try.prog 31 #[.pointer (some ⟨gs, 0, none⟩), .int .i64 t] w fun e w' => e = .returned (.tuple #[.int .i64 (feedsL y + 1), .int .i64 0]) ∧ Below w.heap.size w w' := by
  have HZ := Lib.hid h.size
  have hfl := feedsL_le y
  have hln := h.len
  have HK := Lib.hid (show ∀ w', Below w.heap.size w w' → ∃ x1 x2 x3 x4 x5 x6 b, Calls Try.prog 23 #[.pointer (some ⟨gs, 0, none⟩), .int .i64 t] w' fun e w'' => e = .returned (.tuple #[.agg #[.int .i64 x1, .int .i64 x2, .int .i64 x3, .int .i64 x4, .int .i64 x5, .int .i64 x6, .int .i64 (feedsL y)], .bool b]) ∧ Below w'.heap.size w' w'' from fun w' hb => by
    obtain ⟨X, h1, h2, h3⟩ := h.ex
    have hk := h1.knot
    have G := rknot_any gs gb ga rb rf q S ks w' t (h.st.below hb) h.ks_
    unfold Knot.val at G
    rw [hk.2.2.2.1, feedsL_txt S h2, h3] at G
    exact ⟨_, _, _, _, _, _, _, G⟩)
  clear h
  generalize feedsL y = F at *
  have hwF : IntKind.i64.wrap (F + 1) = F + 1 := IntWalk.i64_in _ (by omega)
  go_enter Try.func31, Try.ntmps31
  go_wp2_with fail
  ((with_reducible refine HZ.out.mono ?_); rintro e w1 ⟨rfl, hb1⟩)
  obtain ⟨x1, x2, x3, x4, x5, x6, bt, hG⟩ := HK.out w1 hb1
  have G := Lib.hid hG
  have H1 := Lib.hid hb1
  clear hG hb1
  go_wp2_with fail
  ((with_reducible refine G.out.mono ?_); rintro e w2 ⟨rfl, hb2⟩)
  have H2 := Lib.hid (H1.out.trans ((hb2.alloc hb2.size (.cells #[.int .i64 x1, .int .i64 x2, .int .i64 x3, .int .i64 x4, .int .i64 x5, .int .i64 x6, .int .i64 F] 50)).mono H1.out.size))
  clear hb2
  go_wp2_with fail
  go_ret2
  exact ⟨rfl, H2.out⟩
set_option maxHeartbeats 1000000 in
theorem at_out (a : Int) (h : Rop gs gb ga rb rf q S ks t y w) (ha : a < 0 ∨ (y.length : Int) < a) : Calls Try.prog 26 #[.pointer (some ⟨gs, 0, none⟩), .int .i64 t, .int .i64 a] w fun e w' => e = .returned (.tuple #[.int .i64 0, .int .i64 0, .int .i64 2]) ∧ Below w.heap.size w w' := by
  have HZ := Lib.hid h.size
  clear h
  have key : a < 0 ∨ (¬ a < 0 ∧ a > y.length) := by omega
  clear ha
  rcases key with c1 | ⟨c1, c2⟩
  all_goals
    go_enter Try.func26, Try.ntmps26
    go_wp2_with fail
    ((with_reducible refine HZ.out.mono ?_); rintro e w1 ⟨rfl, hb⟩)
    have HB := Lib.hid hb
    clear hb
    go_wp2
    refine bodyPost_ret (v := .tuple #[.int .i64 0, .int .i64 0, .int .i64 2]) (by simp [results, Try.results26, go_sem]) rfl ?_
    exact ⟨rfl, HB.out⟩
set_option maxHeartbeats 1000000 in
theorem at_any (a : Int) (h : Rop gs gb ga rb rf q S ks t y w) (h0 : 0 ≤ a) (h1 : a ≤ y.length) : Calls Try.prog 26 #[.pointer (some ⟨gs, 0, none⟩), .int .i64 t, .int .i64 a] w fun e w' => e = .returned (.tuple #[.int .i64 (aheadL y a + 1), .int .i64 (a - fromL y (aheadL y a) + 1), .int .i64 0]) ∧ Below w.heap.size w w' := by
  have HZ := Lib.hid h.size
  have HA := Lib.hid (fun w' (hb : Below w.heap.size w w') => (h.below hb).ahead a h0 h1)
  have HS := Lib.hid (fun w' (hb : Below w.heap.size w w') => (h.below hb).span (aheadL y a + 1))
  have hb := aheadL_bd y a
  have hfl := feedsL_le y
  have hln := h.len
  have hsp : spanL y (aheadL y a + 1) = (fromL y (aheadL y a), toL y (aheadL y a), true) := by
    unfold spanL
    rw [if_neg (by omega), show aheadL y a + 1 - 1 = aheadL y a by omega]
  rw [hsp] at HS
  simp only at HS
  have hat := at_span h0 h1
  generalize fromL y (aheadL y a) = fr at *
  generalize toL y (aheadL y a) = to_ at *
  generalize aheadL y a = c at *
  have hw1 : IntKind.i64.wrap (c + 1) = c + 1 := IntWalk.i64_in _ (by omega)
  have hw2 : IntKind.i64.wrap (a - fr) = a - fr := IntWalk.i64_in _ (by omega)
  have hw3 : IntKind.i64.wrap (a - fr + 1) = a - fr + 1 := IntWalk.i64_in _ (by omega)
  have c1 : ¬ a < 0 := by omega
  have c2 : ¬ a > y.length := by omega
  clear h hsp
  go_enter Try.func26, Try.ntmps26
  go_wp2_with fail
  ((with_reducible refine HZ.out.mono ?_); rintro e w1 ⟨rfl, hb1⟩)
  have H1 := Lib.hid hb1
  clear hb1
  go_wp2_with fail
  ((with_reducible refine (HA.out _ H1.out).mono ?_); rintro e w2 ⟨rfl, hb2⟩)
  have H2 := Lib.hid (H1.out.trans (hb2.mono H1.out.size))
  clear hb2
  go_wp2_with fail
  ((with_reducible refine (HS.out _ H2.out).mono ?_); rintro e w3 ⟨rfl, hb3⟩)
  have H3 := Lib.hid (H2.out.trans (hb3.mono H2.out.size))
  clear hb3
  go_wp2_with fail
  refine bodyPost_ret (v := .tuple #[.int .i64 (c + 1), .int .i64 (a - fr + 1), .int .i64 0]) (by simp [results, Try.results26, go_sem]) rfl ?_
  exact ⟨rfl, H3.out⟩

/-- what Place says. -/
def placeV (y : List UInt8) (line col : Int) : Int × Int := if (spanL y line).2.2 = true ∧ 1 ≤ col ∧ col - 1 ≤ (spanL y line).2.1 - (spanL y line).1 then ((spanL y line).1 + col - 1, 0) else (0, 2)
theorem spanL_bd (y : List UInt8) (line : Int) : 0 ≤ (spanL y line).1 ∧ (spanL y line).1 ≤ (spanL y line).2.1 ∧ (spanL y line).2.1 ≤ y.length := by
  unfold spanL
  split
  · simp
  · exact span_bd (by omega) (by omega)
theorem placeV_eq (y : List UInt8) (line col : Int) : (placeL y line col < 0 → placeV y line col = (0, 2)) ∧ (0 ≤ placeL y line col → placeV y line col = (placeL y line col, 0)) := by
  have hb := spanL_bd y line
  unfold placeL placeV
  split
  · next h => exact ⟨fun h2 => by omega, fun _ => rfl⟩
  · next h => exact ⟨fun _ => rfl, fun h2 => by omega⟩
set_option maxHeartbeats 1000000 in
theorem place_any (line col : Int) (h : Rop gs gb ga rb rf q S ks t y w) (hc : -9223372036854775808 ≤ col ∧ col ≤ 9223372036854775807) : Calls Try.prog 27 #[.pointer (some ⟨gs, 0, none⟩), .int .i64 t, .int .i64 line, .int .i64 col] w fun e w' => e = .returned (.tuple #[.int .i64 (placeV y line col).1, .int .i64 (placeV y line col).2]) ∧ Below w.heap.size w w' := by
  have HZ := Lib.hid h.size
  have HS := Lib.hid (fun w' (hb : Below w.heap.size w w') => (h.below hb).span line)
  have hln := h.len
  have hb := spanL_bd y line
  unfold placeV
  generalize spanL y line = sp at *
  obtain ⟨fr, to_, ok⟩ := sp
  simp only at HS hb ⊢
  clear h
  have hw2 : IntKind.i64.wrap (to_ - fr) = to_ - fr := IntWalk.i64_in _ (by omega)
  have key : ok = false ∨ (ok = true ∧ col < 1) ∨ (ok = true ∧ ¬ col < 1 ∧ col - 1 > to_ - fr) ∨ (ok = true ∧ ¬ col < 1 ∧ ¬ (col - 1 > to_ - fr)) := by
    cases ok
    · exact .inl rfl
    · right
      by_cases h1 : col < 1
      · exact .inl ⟨rfl, h1⟩
      · by_cases h2 : col - 1 > to_ - fr
        · exact .inr (.inl ⟨rfl, h1, h2⟩)
        · exact .inr (.inr ⟨rfl, h1, h2⟩)
  rcases key with rfl | ⟨rfl, c1⟩ | ⟨rfl, c1, c2⟩ | ⟨rfl, c1, c2⟩
  · rw [if_neg (by simp)]
    simp only
    go_enter Try.func27, Try.ntmps27
    go_wp2_with fail
    ((with_reducible refine HZ.out.mono ?_); rintro e w1 ⟨rfl, hb1⟩)
    have H1 := Lib.hid hb1
    clear hb1
    go_wp2_with fail
    ((with_reducible refine (HS.out _ H1.out).mono ?_); rintro e w2 ⟨rfl, hb2⟩)
    have H2 := Lib.hid (H1.out.trans (hb2.mono H1.out.size))
    clear hb2
    go_wp2_with fail
    go_ret2
    exact ⟨rfl, H2.out⟩
  · rw [if_neg (by omega)]
    simp only
    go_enter Try.func27, Try.ntmps27
    go_wp2_with fail
    ((with_reducible refine HZ.out.mono ?_); rintro e w1 ⟨rfl, hb1⟩)
    have H1 := Lib.hid hb1
    clear hb1
    go_wp2_with fail
    ((with_reducible refine (HS.out _ H1.out).mono ?_); rintro e w2 ⟨rfl, hb2⟩)
    have H2 := Lib.hid (H1.out.trans (hb2.mono H1.out.size))
    clear hb2
    go_wp2_with fail
    go_ret2
    exact ⟨rfl, H2.out⟩
  · have hw1 : IntKind.i64.wrap (col - 1) = col - 1 := IntWalk.i64_in _ (by omega)
    rw [if_neg (by omega)]
    simp only
    go_enter Try.func27, Try.ntmps27
    go_wp2_with fail
    ((with_reducible refine HZ.out.mono ?_); rintro e w1 ⟨rfl, hb1⟩)
    have H1 := Lib.hid hb1
    clear hb1
    go_wp2_with fail
    ((with_reducible refine (HS.out _ H1.out).mono ?_); rintro e w2 ⟨rfl, hb2⟩)
    have H2 := Lib.hid (H1.out.trans (hb2.mono H1.out.size))
    clear hb2
    go_wp2_with fail
    go_ret2
    exact ⟨rfl, H2.out⟩
  · have hw1 : IntKind.i64.wrap (col - 1) = col - 1 := IntWalk.i64_in _ (by omega)
    have hw3 : IntKind.i64.wrap (fr + col) = fr + col := IntWalk.i64_in _ (by omega)
    have hw4 : IntKind.i64.wrap (fr + col - 1) = fr + col - 1 := IntWalk.i64_in _ (by omega)
    rw [if_pos ⟨rfl, by omega, by omega⟩]
    simp only
    go_enter Try.func27, Try.ntmps27
    go_wp2_with fail
    ((with_reducible refine HZ.out.mono ?_); rintro e w1 ⟨rfl, hb1⟩)
    have H1 := Lib.hid hb1
    clear hb1
    go_wp2_with fail
    ((with_reducible refine (HS.out _ H1.out).mono ?_); rintro e w2 ⟨rfl, hb2⟩)
    have H2 := Lib.hid (H1.out.trans (hb2.mono H1.out.size))
    clear hb2
    go_wp2_with fail
    go_ret2
    exact ⟨rfl, H2.out⟩
set_option maxHeartbeats 1000000 in
theorem text_out (line : Int) (h : Rop gs gb ga rb rf q S ks t y w) (hc : line < 1 ∨ feedsL y + 1 < line) : Calls Try.prog 32 #[.pointer (some ⟨gs, 0, none⟩), .int .i64 t, .int .i64 line] w fun e w' => e = .returned (.tuple #[.string ⟨#[]⟩, .int .i64 2]) ∧ Below w.heap.size w w' := by
  have HZ := Lib.hid h.size
  have HS := Lib.hid (fun w' (hb : Below w.heap.size w w') => (h.below hb).span line)
  have hsp : spanL y line = (0, 0, false) := by unfold spanL; rw [if_pos hc]
  rw [hsp] at HS
  clear h hsp hc
  simp only at HS
  go_enter Try.func32, Try.ntmps32
  go_wp2_with fail
  ((with_reducible refine HZ.out.mono ?_); rintro e w1 ⟨rfl, hb1⟩)
  have H1 := Lib.hid hb1
  clear hb1
  go_wp2_with fail
  ((with_reducible refine (HS.out _ H1.out).mono ?_); rintro e w2 ⟨rfl, hb2⟩)
  have H2 := Lib.hid (H1.out.trans (hb2.mono H1.out.size))
  clear hb2
  go_wp2_with fail
  go_ret2
  exact ⟨rfl, H2.out⟩
set_option maxHeartbeats 1000000 in
theorem text_any (c : Int) (h : Rop gs gb ga rb rf q S ks t y w) (h0 : 0 ≤ c) (h1 : c ≤ feedsL y) (hy : y.length ≤ 1000000) : Calls Try.prog 32 #[.pointer (some ⟨gs, 0, none⟩), .int .i64 t, .int .i64 (c + 1)] w fun e w' => e = .returned (.tuple #[.string ⟨(lineL y c).toArray⟩, .int .i64 0]) ∧ Below w.heap.size w w' := by
  have HZ := Lib.hid h.size
  have HS := Lib.hid (fun w' (hb : Below w.heap.size w w') => (h.below hb).span (c + 1))
  have hb := span_bd h0 h1
  have hsp : spanL y (c + 1) = (fromL y c, toL y c, true) := by
    unfold spanL
    rw [if_neg (by omega), show c + 1 - 1 = c by omega]
  rw [hsp] at HS
  have HR := Lib.hid (fun w' (hb : Below w.heap.size w w') => (h.below hb).read (fromL y c) (toL y c - fromL y c))
  have hrd : readV y (fromL y c) (toL y c - fromL y c) = (lineL y c, 0) := by
    unfold readV lineL
    have e : spanV y.length (fromL y c) (toL y c - fromL y c) = 0 := by unfold spanV; rw [if_neg (by omega)]
    rw [e, if_neg (by decide), if_neg (by omega)]
  rw [hrd] at HR
  simp only at HS HR
  clear h hsp hrd
  generalize lineL y c = ln at HR ⊢
  generalize fromL y c = fr at *
  generalize toL y c = to_ at *
  have hw1 : IntKind.i64.wrap (to_ - fr) = to_ - fr := IntWalk.i64_in _ (by omega)
  go_enter Try.func32, Try.ntmps32
  go_wp2_with fail
  ((with_reducible refine HZ.out.mono ?_); rintro e w1 ⟨rfl, hb1⟩)
  have H1 := Lib.hid hb1
  clear hb1
  go_wp2_with fail
  ((with_reducible refine (HS.out _ H1.out).mono ?_); rintro e w2 ⟨rfl, hb2⟩)
  have H2 := Lib.hid (H1.out.trans (hb2.mono H1.out.size))
  clear hb2
  go_wp2_with fail
  ((with_reducible refine (HR.out _ H2.out).mono ?_); rintro e w3 ⟨rfl, hb3⟩)
  have H3 := Lib.hid (H2.out.trans (hb3.mono H2.out.size))
  clear hb3
  go_wp2_with fail
  go_ret2
  exact ⟨rfl, H3.out⟩
end
end Go.Proofs.Ytoeamnagmehpeaa.Ln


/- Opening a pair of numbers. -/
namespace Go.Proofs.Ytoeamnagmehpeaa.Buf
set_option linter.unusedSimpArgs false
set_option linter.unusedVariables false
open Go Go.RowKit Go.ChangeShapes
theorem pair_key : Go.WideMaps.ArrKey Try.prog 55 3 2 := ⟨Try.underlying55, by kernel_rfl, by kernel_rfl, by kernel_rfl⟩
end Go.Proofs.Ytoeamnagmehpeaa.Buf
