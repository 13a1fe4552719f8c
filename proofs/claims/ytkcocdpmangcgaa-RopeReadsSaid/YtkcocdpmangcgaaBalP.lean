
/- Ropes as trees: what an arena's knots of a number are; what joins and cuts make of trees. Plain Lean. -/
import Derived.Test.YtkcocdpmangcgaaMade
namespace Go.Proofs.Ytkcocdpmangcgaa.Ar
set_option linter.unusedSimpArgs false
set_option linter.unusedVariables false
open Go Go.RowKit

/-- a leaf: from where on, how many bytes, how many line feeds. -/
abbrev Lf := Int × Int × Int

inductive T where
  | nil
  | leaf (o n f : Int)
  | node (l r : T)

def bytesL : List Lf → Int
  | [] => 0
  | p :: l => p.2.1 + bytesL l
theorem bytesL_append (a b : List Lf) : bytesL (a ++ b) = bytesL a + bytesL b := by
  induction a with
  | nil => simp [bytesL]
  | cons p a ih => simp [bytesL, ih]; omega

namespace T
def lv : T → List Lf
  | nil => []
  | leaf o n f => [(o, n, f)]
  | node l r => l.lv ++ r.lv
def high : T → Int
  | nil => 0
  | leaf _ _ _ => 1
  | node l r => 1 + max l.high r.high
def size : T → Int
  | nil => 0
  | leaf _ n _ => n
  | node l r => l.size + r.size
def many : T → Int
  | nil => 0
  | leaf _ _ _ => 1
  | node l r => l.many + r.many
def feeds : T → Int
  | nil => 0
  | leaf _ _ f => f
  | node l r => l.feeds + r.feeds
def bal : T → Prop
  | nil => True
  | leaf _ _ _ => True
  | node l r => l.bal ∧ r.bal ∧ l.high ≤ r.high + 1 ∧ r.high ≤ l.high + 1
def ok : T → Prop
  | nil => True
  | leaf o n f => 0 ≤ o ∧ 1 ≤ n ∧ n ≤ 1048576 ∧ o + n ≤ 1099511627776 ∧ 0 ≤ f ∧ f ≤ n
  | node l r => l.ok ∧ r.ok ∧ 0 < l.size ∧ 0 < r.size ∧ l.size + r.size ≤ 1099511627776
theorem size_lv (X : T) : X.size = bytesL X.lv := by
  induction X with
  | nil => rfl
  | leaf o n f => simp [size, lv, bytesL]
  | node l r hl hr => simp [size, lv, bytesL_append, hl, hr]
theorem many_lv (X : T) : X.many = X.lv.length := by
  induction X with
  | nil => rfl
  | leaf o n f => rfl
  | node l r hl hr => simp [many, lv, hl, hr]
theorem bounds : ∀ {X : T}, X.ok → X.size ≤ 1099511627776 ∧ 0 ≤ X.many ∧ X.many ≤ X.size ∧ 0 ≤ X.high ∧ X.high ≤ X.many ∧ 0 ≤ X.feeds ∧ X.feeds ≤ X.size ∧ (0 < X.size → 1 ≤ X.many ∧ 1 ≤ X.high)
  | nil, _ => by simp [size, many, high, feeds]
  | leaf o n f, h => by simp only [ok] at h; simp only [size, many, high, feeds]; omega
  | node l r, h => by
    simp only [ok] at h
    obtain ⟨h1, h2, h3, h4, h5⟩ := h
    have a := bounds h1
    have b := bounds h2
    simp only [size, many, high, feeds]
    omega
theorem nil_of_size {X : T} (h : X.ok) (h0 : X.size ≤ 0) : X = nil := by
  cases X with
  | nil => rfl
  | leaf o n f => simp only [ok] at h; simp only [size] at h0; omega
  | node l r => simp only [ok] at h; simp only [size] at h0; omega
theorem high_node (l r : T) : l.high + 1 ≤ (node l r).high ∧ r.high + 1 ≤ (node l r).high ∧ ((node l r).high = l.high + 1 ∨ (node l r).high = r.high + 1) := by
  simp only [high]
  omega
/-- all its leaves have bytes. -/
theorem pos {X : T} (h : X.ok) : ∀ p ∈ X.lv, 1 ≤ p.2.1 := by
  induction X with
  | nil => simp [lv]
  | leaf o n f => simp only [ok] at h; intro p hp; simp [lv] at hp; subst hp; simp; omega
  | node l r hl hr =>
    simp only [ok] at h
    intro p hp
    simp [lv] at hp
    exact hp.elim (hl h.1 p) (hr h.2.1 p)
end T

/-! what a number is a tree of -/
inductive Is (ks : List Knot) : Int → T → Prop where
  | nil {t : Int} (ht : t = 0) : Is ks t .nil
  | leaf {t : Int} (i : Nat) {o n f : Int} (ht : t = (i : Int) + 1) (hi : i < ks.length) (hl : isLeaf (ks.getD i Knot.zero)) (ho : (ks.getD i Knot.zero).off = o) (hn : (ks.getD i Knot.zero).len = n) (hf : (ks.getD i Knot.zero).feeds = f) : Is ks t (.leaf o n f)
  | node {t : Int} (i l r : Nat) {L R : T} (ht : t = (i : Int) + 1) (hi : i < ks.length) (hp : isPair ks i (ks.getD i Knot.zero) l r) (hL : Is ks ((l : Int) + 1) L) (hR : Is ks ((r : Int) + 1) R) : Is ks t (.node L R)

section
variable {ks ks' : List Knot} {t l r : Int} {X L R : T}
theorem getD_app {new : List Knot} {i : Nat} (h : i < ks.length) : (ks ++ new).getD i Knot.zero = ks.getD i Knot.zero := by
  simp [List.getD, List.getElem?_append_left h]
theorem Is.app (h : Is ks t X) (new : List Knot) : Is (ks ++ new) t X := by
  induction h with
  | nil ht => exact .nil ht
  | leaf i ht hi hl ho hn hf => exact .leaf i ht (by simp; omega) (by rwa [getD_app hi]) (by rwa [getD_app hi]) (by rwa [getD_app hi]) (by rwa [getD_app hi])
  | node i l r ht hi hp hL hR iL iR =>
    refine .node i l r ht (by simp; omega) ?_ iL iR
    rw [getD_app hi]
    unfold isPair at hp ⊢
    rwa [getD_app (by omega), getD_app (by omega)]
theorem Is.range (h : Is ks t X) : 0 ≤ t ∧ t ≤ ks.length := by
  cases h with
  | nil ht => omega
  | leaf i ht hi => omega
  | node i l r ht hi => omega
/-- the knot's numbers are the tree's. -/
theorem Is.knot (h : Is ks t X) : (getK ks t).len = X.size ∧ (getK ks t).high = X.high ∧ (getK ks t).leaves = X.many ∧ (getK ks t).feeds = X.feeds ∧ (getB ks t = true ∨ t = 0) := by
  induction h with
  | nil ht => subst ht; simp [getK, getB, getS, Knot.zero, T.size, T.high, T.many, T.feeds]
  | leaf i ht hi hl ho hn hf =>
    obtain ⟨g1, g2⟩ := getK_at ht hi
    rw [g1, g2]
    obtain ⟨_, _, _, _, _, _, h1, h2, _⟩ := hl
    exact ⟨hn, h1, h2, hf, by simp⟩
  | @node t i l r L R ht hi hp hL hR iL iR =>
    obtain ⟨g1, g2⟩ := getK_at ht hi
    obtain ⟨_, _, hl, hr, _, h1, _, h2, h3, h4⟩ := hp
    have gl := (getK_at (ks := ks) (i := (l : Int) + 1) rfl (by omega)).1
    have gr := (getK_at (ks := ks) (i := (r : Int) + 1) rfl (by omega)).1
    rw [gl] at iL
    rw [gr] at iR
    rw [g1, g2]
    simp only [T.size, T.high, T.many, T.feeds]
    refine ⟨?_, ?_, ?_, ?_, by simp⟩
    · rw [h1, iL.1, iR.1]
    · rw [h2, iL.2.1, iR.2.1]
    · rw [h3, iL.2.2.1, iR.2.2.1]
    · rw [h4, iL.2.2.2.1, iR.2.2.2.1]
theorem Is.ok (h : Is ks t X) (hw : WF ks) : X.ok := by
  induction h with
  | nil ht => trivial
  | leaf i ht hi hl ho hn hf =>
    obtain ⟨_, _, h1, h2, h3, h4, _, _, h5, h6⟩ := hl
    simp only [T.ok]
    omega
  | @node t i l r L R ht hi hp hL hR iL iR =>
    obtain ⟨_, _, hl, hr, _, h1, h7, _⟩ := hp
    have gl := (getK_at (ks := ks) (i := (l : Int) + 1) rfl (by omega)).1
    have gr := (getK_at (ks := ks) (i := (r : Int) + 1) rfl (by omega)).1
    have sl := hL.knot.1
    have sr := hR.knot.1
    have bl := hw.bounds l (by omega)
    have br := hw.bounds r (by omega)
    rw [gl] at sl
    rw [gr] at sr
    exact ⟨iL, iR, by omega, by omega, by omega⟩
theorem Is.ex (hw : WF ks) : ∀ i : Nat, i ≤ ks.length → ∃ X, Is ks (i : Int) X := by
  intro i
  induction i using Nat.strongRecOn with
  | _ i ih =>
    intro hi
    cases i with
    | zero => exact ⟨_, .nil rfl⟩
    | succ i =>
      rcases hw i (by omega) with hl | ⟨l, r, hp⟩
      · exact ⟨_, .leaf i (by omega) (by omega) hl rfl rfl rfl⟩
      · obtain ⟨L, hL⟩ := ih (l + 1) (by have := hp.2.2.1; omega) (by have := hp.2.2.1; omega)
        obtain ⟨R, hR⟩ := ih (r + 1) (by have := hp.2.2.2.1; omega) (by have := hp.2.2.2.1; omega)
        exact ⟨_, .node i l r (by omega) (by omega) hp hL hR⟩
theorem Is.pos (h : Is ks t X) (hw : WF ks) (h0 : t ≠ 0) : 0 < X.size := by
  cases h with
  | nil ht => exact absurd ht h0
  | leaf i ht hi hl ho hn hf => obtain ⟨_, _, _, h1, _⟩ := hl; simp only [T.size]; omega
  | node i l r ht hi hp hL hR =>
    have a := hL.ok hw
    have := Is.ok (.node i l r ht hi hp hL hR) hw
    simp only [T.ok] at this
    simp only [T.size]
    omega
theorem Is.zero (h : Is ks 0 X) : X = .nil := by
  cases h with
  | nil ht => rfl
  | leaf i ht => omega
  | node i l r ht => omega
theorem Is.nil_ (h : Is ks t .nil) : t = 0 := by cases h with | nil ht => exact ht
theorem Is.leaf_ {o n f : Int} (h : Is ks t (.leaf o n f)) : getK ks t = leafK o n f ∧ getB ks t = true ∧ 1 ≤ t := by
  cases h with
  | leaf i ht hi hl ho hn hf =>
    obtain ⟨g1, g2⟩ := getK_at ht hi
    obtain ⟨h1, h2, _, _, _, _, h3, h4, _⟩ := hl
    rw [g1, g2]
    refine ⟨?_, rfl, by omega⟩
    generalize ks.getD i Knot.zero = k at *
    cases k
    simp only at *
    subst h1 h2 ho hn hf h3 h4
    rfl
theorem Is.node_ (h : Is ks t (.node L R)) : ∃ l r : Int, 1 ≤ l ∧ 1 ≤ r ∧ Is ks l L ∧ Is ks r R ∧ getB ks t = true ∧ 1 ≤ t ∧ l < t ∧ r < t ∧
    getK ks t = ⟨l, r, 0, L.size + R.size, 1 + max L.high R.high, L.many + R.many, L.feeds + R.feeds⟩ := by
  have hk := h.knot
  cases h with
  | node i l r ht hi hp hL hR =>
    obtain ⟨g1, g2⟩ := getK_at ht hi
    obtain ⟨h1, h2, hl, hr, h3, _⟩ := hp
    refine ⟨(l : Int) + 1, (r : Int) + 1, by omega, by omega, hL, hR, g2, by omega, by omega, by omega, ?_⟩
    rw [g1] at hk
    rw [g1]
    obtain ⟨k1, k2, k3, k4, _⟩ := hk
    generalize ks.getD i Knot.zero = k at h1 h2 h3 k1 k2 k3 k4 ⊢
    cases k
    simp only at h1 h2 h3 k1 k2 k3 k4
    subst h1 h2 h3 k1 k2 k3 k4
    rfl

/-! new knots -/
def lfs (ks : List Knot) : Nat := (ks.filter fun k => decide (k.left = 0)).length
theorem lfs_append (a b : List Knot) : lfs (a ++ b) = lfs a + lfs b := by simp [lfs]
/-- so many knots more, of which so many are leaves. -/
def Ext (ks ks' : List Knot) (n m : Nat) : Prop := ∃ new, ks' = ks ++ new ∧ new.length = n ∧ lfs new = m
theorem Ext.refl (ks : List Knot) : Ext ks ks 0 0 := ⟨[], by simp, rfl, rfl⟩
theorem Ext.trans {ks'' : List Knot} {n m n' m' : Nat} (h : Ext ks ks' n m) (h' : Ext ks' ks'' n' m') : Ext ks ks'' (n + n') (m + m') := by
  obtain ⟨a, rfl, rfl, rfl⟩ := h
  obtain ⟨b, rfl, rfl, rfl⟩ := h'
  exact ⟨a ++ b, by simp, by simp, lfs_append a b⟩
theorem Ext.len {n m : Nat} (h : Ext ks ks' n m) : ks'.length = ks.length + n := by obtain ⟨a, rfl, rfl, rfl⟩ := h; simp
theorem Is.ext {n m : Nat} (h : Is ks t X) (he : Ext ks ks' n m) : Is ks' t X := by obtain ⟨a, rfl, _⟩ := he; exact h.app a
theorem Ext.one_leaf (ks : List Knot) (o n f : Int) : Ext ks (ks ++ [leafK o n f]) 1 1 := ⟨_, rfl, rfl, rfl⟩
theorem Ext.one_pair (ks : List Knot) (h : 1 ≤ l) : Ext ks (ks ++ [pairK ks l r]) 1 0 := by
  refine ⟨_, rfl, rfl, ?_⟩
  simp [lfs, pairK]
  omega

theorem Is.getB_ (h : Is ks t X) (hw : WF ks) (h0 : 0 < X.size) : getB ks t = true ∧ 1 ≤ t := by
  cases X with
  | nil => simp [T.size] at h0
  | leaf o n f => exact ⟨h.leaf_.2.1, h.leaf_.2.2⟩
  | node a b => obtain ⟨l, r, _, _, _, _, h1, h2, _⟩ := h.node_; exact ⟨h1, h2⟩
theorem Is.mk_leaf (hw : WF ks) {o n f : Int} (hb : leafBad o n f = false) : WF (ks ++ [leafK o n f]) ∧ Is (ks ++ [leafK o n f]) ((ks.length + 1 : Nat) : Int) (.leaf o n f) := by
  refine ⟨hw.leaf hb, .leaf ks.length (by omega) (by simp) ?_ ?_ ?_ ?_⟩
  · rw [getD_append_last]
    have h := hw.leaf hb ks.length (by simp)
    rw [getD_append_last] at h
    rcases h with h | ⟨a, b, h, _⟩
    · exact h
    · simp [leafK] at h; omega
  all_goals (rw [getD_append_last]; rfl)
theorem Is.mk_pair (hw : WF ks) (hl : Is ks l L) (hr : Is ks r R) (h1 : 0 < L.size) (h2 : 0 < R.size) (h3 : L.size + R.size ≤ 1099511627776) :
    (getB ks l && getB ks r) = true ∧ wrap64 ((getK ks l).len + (getK ks r).len) ≤ 1099511627776 ∧ WF (ks ++ [pairK ks l r]) ∧ Is (ks ++ [pairK ks l r]) ((ks.length + 1 : Nat) : Int) (.node L R) ∧ Ext ks (ks ++ [pairK ks l r]) 1 0 := by
  have bl := hl.getB_ hw h1
  have br := hr.getB_ hw h2
  have hlen : wrap64 ((getK ks l).len + (getK ks r).len) ≤ 1099511627776 := by
    rw [hl.knot.1, hr.knot.1]
    unfold wrap64
    omega
  obtain ⟨hwf, a, b, rfl, rfl, ha, hb, hp⟩ := hw.pair bl.1 br.1 hlen
  refine ⟨by rw [bl.1, br.1]; rfl, hlen, hwf, .node ks.length a b (by omega) (by simp) ?_ (hl.app _) (hr.app _), Ext.one_pair ks bl.2⟩
  rw [getD_append_last]
  unfold isPair at hp ⊢
  rwa [getD_append_left (by omega), getD_append_left (by omega)]
end

/-! joins -/
structure JoinOk (L R X : T) (n : Nat) : Prop where
  lv : X.lv = L.lv ++ R.lv
  ok : X.ok
  cost : (n : Int) ≤ 1 + 3 * (L.high + R.high)
  even : L.bal → R.bal → X.bal ∧ L.high ≤ X.high ∧ R.high ≤ X.high ∧ (X.high ≤ L.high + 1 ∨ X.high ≤ R.high + 1) ∧ (n ≤ 1 ∨ (n : Int) + 2 ≤ 3 * (L.high - R.high) ∨ (n : Int) + 2 ≤ 3 * (R.high - L.high))

section
variable {L R X K a b c k1 k2 m1 m2 : T} {n : Nat}
theorem JoinOk.size (h : JoinOk L R X n) : X.size = L.size + R.size := by rw [T.size_lv, h.lv, bytesL_append, ← T.size_lv, ← T.size_lv]
theorem JoinOk.many (h : JoinOk L R X n) : X.many = L.many + R.many := by rw [T.many_lv, h.lv, T.many_lv, T.many_lv]; simp
theorem JoinOk.nil_left (h : R.ok) : JoinOk .nil R R 0 := by
  have := T.bounds h
  exact ⟨rfl, h, by simp [T.high]; omega, fun _ hb => ⟨hb, by simp [T.high]; omega, by omega, by omega, by omega⟩⟩
theorem JoinOk.nil_right (h : L.ok) : JoinOk L .nil L 0 := by
  have := T.bounds h
  exact ⟨by simp [T.lv], h, by simp [T.high]; omega, fun hb _ => ⟨hb, by omega, by simp [T.high]; omega, by omega, by omega⟩⟩
theorem JoinOk.pair (h1 : L.ok) (h2 : R.ok) (h3 : 0 < L.size) (h4 : 0 < R.size) (h5 : L.size + R.size ≤ 1099511627776) (h6 : L.high ≤ R.high + 1) (h7 : R.high ≤ L.high + 1) : JoinOk L R (.node L R) 1 := by
  have := T.bounds h1
  have := T.bounds h2
  refine ⟨rfl, ⟨h1, h2, h3, h4, h5⟩, by omega, fun b1 b2 => ?_⟩
  simp only [T.high, T.bal]
  refine ⟨⟨b1, b2, h6, h7⟩, ?_, ?_, ?_, ?_⟩ <;> omega

theorem left_size (h : JoinOk b R K n) (hs : (T.node a b).size + R.size ≤ 1099511627776) (h1 : (T.node a b).ok) (h2 : R.ok) : a.ok ∧ 0 < a.size ∧ K.ok ∧ 0 < K.size ∧ a.size + K.size ≤ 1099511627776 := by
  have := h.size
  have := (T.bounds h2).2.1
  have := (T.bounds h2).2.2.1
  simp only [T.ok] at h1
  simp only [T.size] at hs
  exact ⟨h1.1, h1.2.2.1, h.ok, by omega, by omega⟩
theorem JoinOk.left1 (h : JoinOk b R K n) (h1 : (T.node a b).ok) (h2 : R.ok) (hs : (T.node a b).size + R.size ≤ 1099511627776) (h3 : R.high + 1 < (T.node a b).high) (h4 : K.high ≤ a.high + 1) : JoinOk (.node a b) R (.node a K) (n + 1) := by
  obtain ⟨g1, g2, g3, g4, g5⟩ := left_size h hs h1 h2
  have ba := T.bounds g1
  have bb := T.bounds h1.2.1
  have br := T.bounds h2
  refine ⟨by simp [T.lv, h.lv], ⟨g1, g3, g2, g4, g5⟩, ?_, fun b1 b2 => ?_⟩
  · have := h.cost
    simp only [T.high]
    omega
  · simp only [T.bal] at b1
    obtain ⟨e1, e2, e3, e4, e5⟩ := h.even b1.2.1 b2
    simp only [T.high, T.bal] at h3 ⊢
    refine ⟨⟨b1.1, e1, ?_, ?_⟩, ?_, ?_, ?_, ?_⟩ <;> omega
theorem JoinOk.left3 (h : JoinOk b R (.node k1 k2) n) (h1 : (T.node a b).ok) (h2 : R.ok) (hs : (T.node a b).size + R.size ≤ 1099511627776) (h3 : R.high + 1 < (T.node a b).high) (h4 : a.high + 1 < (T.node k1 k2).high) (h5 : k1.high ≤ k2.high) : JoinOk (.node a b) R (.node (.node a k1) k2) (n + 2) := by
  obtain ⟨g1, g2, g3, g4, g5⟩ := left_size h hs h1 h2
  have ba := T.bounds g1
  have bb := T.bounds h1.2.1
  have br := T.bounds h2
  have c1 := T.bounds g3.1
  have c2 := T.bounds g3.2.1
  refine ⟨by have := h.lv; simp [T.lv] at this ⊢; exact this, ?_, ?_, fun b1 b2 => ?_⟩
  · simp only [T.ok, T.size] at g3 g5 ⊢
    exact ⟨⟨g1, g3.1, g2, g3.2.2.1, by omega⟩, g3.2.1, by omega, by omega, by omega⟩
  · have := h.cost
    simp only [T.high]
    omega
  · simp only [T.bal] at b1
    obtain ⟨e1, e2, e3, e4, e5⟩ := h.even b1.2.1 b2
    simp only [T.high, T.bal] at h3 h4 e1 e2 e3 e4 ⊢
    refine ⟨⟨⟨b1.1, e1.1, ?_, ?_⟩, e1.2.1, ?_, ?_⟩, ?_, ?_, ?_, ?_⟩ <;> omega
theorem JoinOk.left2 (h : JoinOk b R (.node (.node m1 m2) k2) n) (h1 : (T.node a b).ok) (h2 : R.ok) (hs : (T.node a b).size + R.size ≤ 1099511627776) (h3 : R.high + 1 < (T.node a b).high) (h4 : a.high + 1 < (T.node (.node m1 m2) k2).high) (h5 : k2.high < (T.node m1 m2).high) :
    JoinOk (.node a b) R (.node (.node a m1) (.node m2 k2)) (n + 3) := by
  obtain ⟨g1, g2, g3, g4, g5⟩ := left_size h hs h1 h2
  have ba := T.bounds g1
  have bb := T.bounds h1.2.1
  have br := T.bounds h2
  have c1 := T.bounds g3.1.1
  have c3 := T.bounds g3.1.2.1
  have c2 := T.bounds g3.2.1
  refine ⟨by have := h.lv; simp [T.lv] at this ⊢; exact this, ?_, ?_, fun b1 b2 => ?_⟩
  · simp only [T.ok, T.size] at g3 g5 ⊢
    exact ⟨⟨g1, g3.1.1, g2, g3.1.2.2.1, by omega⟩, ⟨g3.1.2.1, g3.2.1, g3.1.2.2.2.1, by omega, by omega⟩, by omega, by omega, by omega⟩
  · have := h.cost
    have := T.high_node a b
    omega
  · simp only [T.bal] at b1
    obtain ⟨e1, e2, e3, e4, e5⟩ := h.even b1.2.1 b2
    have n1 := T.high_node a b
    have n2 := T.high_node m1 m2
    have n3 := T.high_node (.node m1 m2) k2
    simp only [T.bal] at e1
    have kk : (T.node (.node m1 m2) k2).high = a.high + 2 := by omega
    have k3 : (T.node m1 m2).high = a.high + 1 := by omega
    have k4 : k2.high = a.high := by omega
    have k5 : m1.high ≤ a.high ∧ a.high ≤ m1.high + 1 := by omega
    have k6 : m2.high ≤ a.high ∧ a.high ≤ m2.high + 1 := by omega
    have k7 : (T.node a m1).high = a.high + 1 := by have := T.high_node a m1; omega
    have k8 : (T.node m2 k2).high = a.high + 1 := by have := T.high_node m2 k2; omega
    have k9 : (T.node (.node a m1) (.node m2 k2)).high = a.high + 2 := by have := T.high_node (.node a m1) (.node m2 k2); omega
    have l1 : (T.node a b).high = a.high + 2 := by omega
    have l2 : b.high = a.high + 1 := by omega
    clear n1 n2 n3 h5 h4 k3 kk
    rw [k9, l1]
    simp only [T.bal]
    rw [k7, k8]
    refine ⟨⟨⟨b1.1, e1.1.1, ?_, ?_⟩, ⟨e1.1.2.1, e1.2.1, ?_, ?_⟩, ?_, ?_⟩, ?_, ?_, ?_, ?_⟩ <;> omega

theorem right_size (h : JoinOk L a K n) (hs : L.size + (T.node a b).size ≤ 1099511627776) (h1 : (T.node a b).ok) (h2 : L.ok) : b.ok ∧ 0 < b.size ∧ K.ok ∧ 0 < K.size ∧ K.size + b.size ≤ 1099511627776 := by
  have := h.size
  have := (T.bounds h2).2.1
  have := (T.bounds h2).2.2.1
  simp only [T.ok] at h1
  simp only [T.size] at hs
  exact ⟨h1.2.1, h1.2.2.2.1, h.ok, by omega, by omega⟩
theorem JoinOk.right1 (h : JoinOk L a K n) (h1 : (T.node a b).ok) (h2 : L.ok) (hs : L.size + (T.node a b).size ≤ 1099511627776) (h3 : L.high + 1 < (T.node a b).high) (h4 : K.high ≤ b.high + 1) : JoinOk L (.node a b) (.node K b) (n + 1) := by
  obtain ⟨g1, g2, g3, g4, g5⟩ := right_size h hs h1 h2
  have ba := T.bounds g1
  have bb := T.bounds h1.1
  have br := T.bounds h2
  refine ⟨by simp [T.lv, h.lv], ⟨g3, g1, g4, g2, g5⟩, ?_, fun b2 b1 => ?_⟩
  · have := h.cost
    simp only [T.high]
    omega
  · simp only [T.bal] at b1
    obtain ⟨e1, e2, e3, e4, e5⟩ := h.even b2 b1.1
    simp only [T.high, T.bal] at h3 ⊢
    refine ⟨⟨e1, b1.2.1, ?_, ?_⟩, ?_, ?_, ?_, ?_⟩ <;> omega
theorem JoinOk.right3 (h : JoinOk L a (.node k1 k2) n) (h1 : (T.node a b).ok) (h2 : L.ok) (hs : L.size + (T.node a b).size ≤ 1099511627776) (h3 : L.high + 1 < (T.node a b).high) (h4 : b.high + 1 < (T.node k1 k2).high) (h5 : k2.high ≤ k1.high) : JoinOk L (.node a b) (.node k1 (.node k2 b)) (n + 2) := by
  obtain ⟨g1, g2, g3, g4, g5⟩ := right_size h hs h1 h2
  have ba := T.bounds g1
  have bb := T.bounds h1.1
  have br := T.bounds h2
  have c1 := T.bounds g3.1
  have c2 := T.bounds g3.2.1
  refine ⟨by have := h.lv; simp only [T.lv] at this ⊢; rw [← List.append_assoc, ← List.append_assoc, this], ?_, ?_, fun b2 b1 => ?_⟩
  · simp only [T.ok, T.size] at g3 g5 ⊢
    exact ⟨g3.1, ⟨g3.2.1, g1, by omega, by omega, by omega⟩, by omega, by omega, by omega⟩
  · have := h.cost
    simp only [T.high]
    omega
  · simp only [T.bal] at b1
    obtain ⟨e1, e2, e3, e4, e5⟩ := h.even b2 b1.1
    simp only [T.high, T.bal] at h3 h4 e1 e2 e3 e4 ⊢
    refine ⟨⟨e1.1, ⟨e1.2.1, b1.2.1, ?_, ?_⟩, ?_, ?_⟩, ?_, ?_, ?_, ?_⟩ <;> omega
theorem JoinOk.right2 (h : JoinOk L a (.node k1 (.node m1 m2)) n) (h1 : (T.node a b).ok) (h2 : L.ok) (hs : L.size + (T.node a b).size ≤ 1099511627776) (h3 : L.high + 1 < (T.node a b).high) (h4 : b.high + 1 < (T.node k1 (.node m1 m2)).high) (h5 : k1.high < (T.node m1 m2).high) :
    JoinOk L (.node a b) (.node (.node k1 m1) (.node m2 b)) (n + 3) := by
  obtain ⟨g1, g2, g3, g4, g5⟩ := right_size h hs h1 h2
  have ba := T.bounds g1
  have bb := T.bounds h1.1
  have br := T.bounds h2
  have c1 := T.bounds g3.2.1.1
  have c3 := T.bounds g3.2.1.2.1
  have c2 := T.bounds g3.1
  refine ⟨by have := h.lv; simp only [T.lv] at this ⊢; rw [← List.append_assoc, ← List.append_assoc, ← this]; simp, ?_, ?_, fun b2 b1 => ?_⟩
  · simp only [T.ok, T.size] at g3 g5 ⊢
    exact ⟨⟨g3.1, g3.2.1.1, by omega, by omega, by omega⟩, ⟨g3.2.1.2.1, g1, by omega, by omega, by omega⟩, by omega, by omega, by omega⟩
  · have := h.cost
    have := T.high_node a b
    omega
  · simp only [T.bal] at b1
    obtain ⟨e1, e2, e3, e4, e5⟩ := h.even b2 b1.1
    have n1 := T.high_node a b
    have n2 := T.high_node m1 m2
    have n3 := T.high_node k1 (.node m1 m2)
    simp only [T.bal] at e1
    have kk : (T.node k1 (.node m1 m2)).high = b.high + 2 := by omega
    have k3 : (T.node m1 m2).high = b.high + 1 := by omega
    have k4 : k1.high = b.high := by omega
    have k5 : m1.high ≤ b.high ∧ b.high ≤ m1.high + 1 := by omega
    have k6 : m2.high ≤ b.high ∧ b.high ≤ m2.high + 1 := by omega
    have k7 : (T.node k1 m1).high = b.high + 1 := by have := T.high_node k1 m1; omega
    have k8 : (T.node m2 b).high = b.high + 1 := by have := T.high_node m2 b; omega
    have k9 : (T.node (.node k1 m1) (.node m2 b)).high = b.high + 2 := by have := T.high_node (.node k1 m1) (.node m2 b); omega
    have l1 : (T.node a b).high = b.high + 2 := by omega
    have l2 : a.high = b.high + 1 := by omega
    clear n1 n2 n3 h5 h4 k3 kk
    rw [k9, l1]
    simp only [T.bal]
    rw [k7, k8]
    refine ⟨⟨⟨e1.1, e1.2.1.1, ?_, ?_⟩, ⟨e1.2.1.2.1, b1.2.1, ?_, ?_⟩, ?_, ?_⟩, ?_, ?_, ?_, ?_⟩ <;> omega
end

/-! cuts -/
def cutL (f : Int → Int → Int) : List Lf → Int → List Lf × List Lf
  | [], _ => ([], [])
  | p :: ps, at_ =>
    if p.2.1 ≤ at_ then (p :: (cutL f ps (at_ - p.2.1)).1, (cutL f ps (at_ - p.2.1)).2)
    else if 0 < at_ then ([(p.1, at_, f p.1 at_)], (p.1 + at_, p.2.1 - at_, f (p.1 + at_) (p.2.1 - at_)) :: ps)
    else ([], p :: ps)
section
variable {f : Int → Int → Int}
theorem cutL_cons (p : Lf) (ps : List Lf) (at_ : Int) : cutL f (p :: ps) at_ = if p.2.1 ≤ at_ then (p :: (cutL f ps (at_ - p.2.1)).1, (cutL f ps (at_ - p.2.1)).2)
    else if 0 < at_ then ([(p.1, at_, f p.1 at_)], (p.1 + at_, p.2.1 - at_, f (p.1 + at_) (p.2.1 - at_)) :: ps)
    else ([], p :: ps) := rfl
theorem cutL_zero : ∀ {l : List Lf}, (∀ p ∈ l, 1 ≤ p.2.1) → cutL f l 0 = ([], l)
  | [], _ => rfl
  | p :: l, h => by
    have := h p (by simp)
    rw [cutL_cons]
    rw [if_neg (by omega), if_neg (by omega)]
theorem cutL_all : ∀ {l : List Lf} {n : Int}, (∀ p ∈ l, 1 ≤ p.2.1) → bytesL l ≤ n → cutL f l n = (l, [])
  | [], _, _, _ => rfl
  | p :: l, n, h, hn => by
    have hb : 0 ≤ bytesL l := by
      clear hn
      induction l with
      | nil => simp [bytesL]
      | cons q l ih =>
        have := ih (fun x hx => h x (by simp at hx ⊢; rcases hx with hx | hx <;> simp [hx]))
        have := h q (by simp)
        simp only [bytesL]
        omega
    simp only [bytesL] at hn
    have := h p (by simp)
    rw [cutL_cons]
    rw [if_pos (by omega), cutL_all (fun q hq => h q (by simp [hq])) (by omega)]
theorem cutL_right : ∀ {l l2 : List Lf} {n : Int}, (∀ p ∈ l, 1 ≤ p.2.1) → bytesL l ≤ n → cutL f (l ++ l2) n = (l ++ (cutL f l2 (n - bytesL l)).1, (cutL f l2 (n - bytesL l)).2)
  | [], l2, n, _, _ => by simp [bytesL]
  | p :: l, l2, n, h, hn => by
    have hb : 0 ≤ bytesL l := by
      clear hn
      induction l with
      | nil => simp [bytesL]
      | cons q l ih =>
        have := ih (fun x hx => h x (by simp at hx ⊢; rcases hx with hx | hx <;> simp [hx]))
        have := h q (by simp)
        simp only [bytesL]
        omega
    simp only [bytesL] at hn
    have := h p (by simp)
    rw [List.cons_append]
    rw [cutL_cons]
    rw [if_pos (by omega), cutL_right (fun q hq => h q (by simp [hq])) (by omega)]
    have e : n - p.2.1 - bytesL l = n - bytesL (p :: l) := by simp only [bytesL]; omega
    rw [e]
    rfl
theorem cutL_left : ∀ {l l2 : List Lf} {n : Int}, (∀ p ∈ l, 1 ≤ p.2.1) → 0 ≤ n → n < bytesL l → cutL f (l ++ l2) n = ((cutL f l n).1, (cutL f l n).2 ++ l2)
  | [], l2, n, _, h0, hn => by simp [bytesL] at hn; omega
  | p :: l, l2, n, h, h0, hn => by
    simp only [bytesL] at hn
    rw [List.cons_append, cutL_cons, cutL_cons]
    by_cases h1 : p.2.1 ≤ n
    · rw [if_pos h1, if_pos h1, cutL_left (fun q hq => h q (by simp [hq])) (by omega) (by omega)]
    · rw [if_neg h1, if_neg h1]
      by_cases h2 : 0 < n
      · rw [if_pos h2, if_pos h2]; rfl
      · rw [if_neg h2, if_neg h2]; rfl
/-- up to the end of the first part. -/
theorem cutL_left' {l l2 : List Lf} {n : Int} (h : ∀ p ∈ l, 1 ≤ p.2.1) (h2 : ∀ p ∈ l2, 1 ≤ p.2.1) (h0 : 0 ≤ n) (hn : n ≤ bytesL l) : cutL f (l ++ l2) n = ((cutL f l n).1, (cutL f l n).2 ++ l2) := by
  by_cases e : n < bytesL l
  · exact cutL_left h h0 e
  · rw [cutL_right h (by omega), cutL_all h (by omega), show n - bytesL l = 0 by omega, cutL_zero h2]
    simp
theorem cutL_count : ∀ (l : List Lf) (n : Int), (cutL f l n).1.length + (cutL f l n).2.length ≤ l.length + 1
  | [], _ => by simp [cutL]
  | p :: l, n => by
    rw [cutL_cons]
    by_cases h1 : p.2.1 ≤ n
    · rw [if_pos h1]; have := cutL_count l (n - p.2.1); simp; omega
    · rw [if_neg h1]
      by_cases h2 : 0 < n
      · rw [if_pos h2]; simp; omega
      · rw [if_neg h2]; simp
end

structure SplitOk (f : Int → Int → Int) (X A B : T) (at_ : Int) (n m : Nat) : Prop where
  cut : (A.lv, B.lv) = cutL f X.lv at_
  oka : A.ok
  okb : B.ok
  leaves : m ≤ 2
  cost : X.many ≤ 1000 → (n : Int) ≤ 4000 * X.high
  even : X.bal → A.bal ∧ B.bal ∧ A.high ≤ X.high ∧ B.high ≤ X.high ∧ (n : Int) ≤ X.high + 3 * (A.high + B.high)
section
variable {f : Int → Int → Int} {L R X A B : T} {at_ : Int} {n m k : Nat}
theorem SplitOk.many (h : SplitOk f X A B at_ n m) : A.many + B.many ≤ X.many + 1 := by
  have e1 : A.lv = (cutL f X.lv at_).1 := congrArg Prod.fst h.cut
  have e2 : B.lv = (cutL f X.lv at_).2 := congrArg Prod.snd h.cut
  have := cutL_count (f := f) X.lv at_
  rw [T.many_lv, T.many_lv, T.many_lv, e1, e2]
  omega
theorem SplitOk.zero (h : X.ok) : SplitOk f X .nil X 0 0 0 := by
  have := T.bounds h
  exact ⟨by rw [cutL_zero (T.pos h)]; rfl, trivial, h, by omega, fun _ => by omega, fun hb => ⟨trivial, hb, by simp [T.high]; omega, by omega, by simp [T.high]; omega⟩⟩
theorem SplitOk.all (h : X.ok) : SplitOk f X X .nil X.size 0 0 := by
  have := T.bounds h
  exact ⟨by rw [cutL_all (T.pos h) (by rw [T.size_lv]; omega)]; rfl, h, trivial, by omega, fun _ => by omega, fun hb => ⟨hb, trivial, by omega, by simp [T.high]; omega, by simp [T.high]; omega⟩⟩
theorem SplitOk.leaf {o l fd : Int} (h : (T.leaf o l fd).ok) (h0 : 0 < at_) (h1 : at_ < l) (f1 : 0 ≤ f o at_ ∧ f o at_ ≤ at_) (f2 : 0 ≤ f (o + at_) (l - at_) ∧ f (o + at_) (l - at_) ≤ l - at_) :
    SplitOk f (.leaf o l fd) (.leaf o at_ (f o at_)) (.leaf (o + at_) (l - at_) (f (o + at_) (l - at_))) at_ 2 2 := by
  simp only [T.ok] at h
  refine ⟨?_, ?_, ?_, by omega, fun _ => by simp [T.high], fun _ => ⟨trivial, trivial, by simp [T.high], by simp [T.high], by simp [T.high]⟩⟩
  · simp only [T.lv]
    rw [cutL_cons]
    rw [if_neg (by simp; omega), if_pos h0]
  all_goals (simp only [T.ok]; omega)
theorem SplitOk.right (h : SplitOk f R A B (at_ - L.size) n m) (hj : JoinOk L A X k) (h1 : (T.node L R).ok) (h2 : L.size < at_) : SplitOk f (.node L R) X B at_ (n + k) m := by
  have hm := h.many
  have bl := T.bounds h1.1
  have br := T.bounds h1.2.1
  have ba := T.bounds h.oka
  have bb := T.bounds h.okb
  have bx := T.bounds h1
  refine ⟨?_, hj.ok, h.okb, h.leaves, fun hM => ?_, fun hb => ?_⟩
  · have e1 : A.lv = (cutL f R.lv (at_ - L.size)).1 := congrArg Prod.fst h.cut
    have e2 : B.lv = (cutL f R.lv (at_ - L.size)).2 := congrArg Prod.snd h.cut
    simp only [T.lv]
    rw [cutL_right (T.pos h1.1) (by rw [← T.size_lv]; omega), ← T.size_lv, ← e1, ← e2, hj.lv]
  · have := hj.cost
    simp only [T.many] at hM hm bx
    have := h.cost (by omega)
    simp only [T.high] at bx ⊢
    omega
  · simp only [T.bal] at hb
    obtain ⟨e1, e2, e3, e4, e5⟩ := h.even hb.2.1
    obtain ⟨j1, j2, j3, j4, j5⟩ := hj.even hb.1 e1
    simp only [T.high]
    refine ⟨j1, e2, ?_, ?_, ?_⟩ <;> omega
theorem SplitOk.left (h : SplitOk f L A B at_ n m) (hj : JoinOk B R X k) (h1 : (T.node L R).ok) (h0 : 0 ≤ at_) (h2 : at_ ≤ L.size) : SplitOk f (.node L R) A X at_ (n + k) m := by
  have hm := h.many
  have bl := T.bounds h1.1
  have br := T.bounds h1.2.1
  have ba := T.bounds h.oka
  have bb := T.bounds h.okb
  have bx := T.bounds h1
  refine ⟨?_, h.oka, hj.ok, h.leaves, fun hM => ?_, fun hb => ?_⟩
  · have e1 : A.lv = (cutL f L.lv at_).1 := congrArg Prod.fst h.cut
    have e2 : B.lv = (cutL f L.lv at_).2 := congrArg Prod.snd h.cut
    simp only [T.lv]
    rw [cutL_left' (T.pos h1.1) (T.pos h1.2.1) h0 (by rw [← T.size_lv]; omega), ← e1, ← e2, hj.lv]
  · have := hj.cost
    simp only [T.many] at hM hm bx
    have := h.cost (by omega)
    simp only [T.high] at bx ⊢
    omega
  · simp only [T.bal] at hb
    obtain ⟨e1, e2, e3, e4, e5⟩ := h.even hb.1
    obtain ⟨j1, j2, j3, j4, j5⟩ := hj.even e2 hb.2.1
    simp only [T.high]
    refine ⟨e1, j1, ?_, ?_, ?_⟩ <;> omega
end
end Go.Proofs.Ytkcocdpmangcgaa.Ar
