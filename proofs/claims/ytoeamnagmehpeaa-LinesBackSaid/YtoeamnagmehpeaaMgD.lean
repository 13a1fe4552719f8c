/- Ropes as trees: what an arena's knots of a number are; what joins and cuts make of trees. Plain Lean. -/
import Derived.Test.YtoeamnagmehpeaaMgB
import Derived.Test.YtoeamnagmehpeaaMgA
namespace Go.Proofs.Ytoeamnagmehpeaa.Ar
set_option linter.unusedSimpArgs false
set_option linter.unusedVariables false
open Go Go.RowKit

/-- a leaf: from where on, how many bytes, how many line feeds. -/
abbrev Lf := Int × Int × Int

inductive T where
  | nil
  | leaf (o n f : Int)
  | node (l r : T)

def bytesL : List Lf → Int
  | [] => 0
  | p :: l => p.2.1 + bytesL l
theorem bytesL_append (a b : List Lf) : bytesL (a ++ b) = bytesL a + bytesL b := by
  induction a with
  | nil => simp [bytesL]
  | cons p a ih => simp [bytesL, ih]; omega

namespace T
def lv : T → List Lf
  | nil => []
  | leaf o n f => [(o, n, f)]
  | node l r => l.lv ++ r.lv
def high : T → Int
  | nil => 0
  | leaf _ _ _ => 1
  | node l r => 1 + max l.high r.high
def size : T → Int
  | nil => 0
  | leaf _ n _ => n
  | node l r => l.size + r.size
def many : T → Int
  | nil => 0
  | leaf _ _ _ => 1
  | node l r => l.many + r.many
def feeds : T → Int
  | nil => 0
  | leaf _ _ f => f
  | node l r => l.feeds + r.feeds
def bal : T → Prop
  | nil => True
  | leaf _ _ _ => True
  | node l r => l.bal ∧ r.bal ∧ l.high ≤ r.high + 1 ∧ r.high ≤ l.high + 1
def ok : T → Prop
  | nil => True
  | leaf o n f => 0 ≤ o ∧ 1 ≤ n ∧ n ≤ 1048576 ∧ o + n ≤ 1099511627776 ∧ 0 ≤ f ∧ f ≤ n
  | node l r => l.ok ∧ r.ok ∧ 0 < l.size ∧ 0 < r.size ∧ l.size + r.size ≤ 1099511627776
theorem size_lv (X : T) : X.size = bytesL X.lv := by
  induction X with
  | nil => rfl
  | leaf o n f => simp [size, lv, bytesL]
  | node l r hl hr => simp [size, lv, bytesL_append, hl, hr]
theorem many_lv (X : T) : X.many = X.lv.length := by
  induction X with
  | nil => rfl
  | leaf o n f => rfl
  | node l r hl hr => simp [many, lv, hl, hr]
theorem bounds : ∀ {X : T}, X.ok → X.size ≤ 1099511627776 ∧ 0 ≤ X.many ∧ X.many ≤ X.size ∧ 0 ≤ X.high ∧ X.high ≤ X.many ∧ 0 ≤ X.feeds ∧ X.feeds ≤ X.size ∧ (0 < X.size → 1 ≤ X.many ∧ 1 ≤ X.high)
  | nil, _ => by simp [size, many, high, feeds]
  | leaf o n f, h => by simp only [ok] at h; simp only [size, many, high, feeds]; omega
  | node l r, h => by
    simp only [ok] at h
    obtain ⟨h1, h2, h3, h4, h5⟩ := h
    have a := bounds h1
    have b := bounds h2
    simp only [size, many, high, feeds]
    omega
theorem nil_of_size {X : T} (h : X.ok) (h0 : X.size ≤ 0) : X = nil := by
  cases X with
  | nil => rfl
  | leaf o n f => simp only [ok] at h; simp only [size] at h0; omega
  | node l r => simp only [ok] at h; simp only [size] at h0; omega
theorem high_node (l r : T) : l.high + 1 ≤ (node l r).high ∧ r.high + 1 ≤ (node l r).high ∧ ((node l r).high = l.high + 1 ∨ (node l r).high = r.high + 1) := by
  simp only [high]
  omega
/-- all its leaves have bytes. -/
theorem pos {X : T} (h : X.ok) : ∀ p ∈ X.lv, 1 ≤ p.2.1 := by
  induction X with
  | nil => simp [lv]
  | leaf o n f => simp only [ok] at h; intro p hp; simp [lv] at hp; subst hp; simp; omega
  | node l r hl hr =>
    simp only [ok] at h
    intro p hp
    simp [lv] at hp
    exact hp.elim (hl h.1 p) (hr h.2.1 p)
end T

/-! what a number is a tree of -/
inductive Is (ks : List Knot) : Int → T → Prop where
  | nil {t : Int} (ht : t = 0) : Is ks t .nil
  | leaf {t : Int} (i : Nat) {o n f : Int} (ht : t = (i : Int) + 1) (hi : i < ks.length) (hl : isLeaf (ks.getD i Knot.zero)) (ho : (ks.getD i Knot.zero).off = o) (hn : (ks.getD i Knot.zero).len = n) (hf : (ks.getD i Knot.zero).feeds = f) : Is ks t (.leaf o n f)
  | node {t : Int} (i l r : Nat) {L R : T} (ht : t = (i : Int) + 1) (hi : i < ks.length) (hp : isPair ks i (ks.getD i Knot.zero) l r) (hL : Is ks ((l : Int) + 1) L) (hR : Is ks ((r : Int) + 1) R) : Is ks t (.node L R)

section
variable {ks ks' : List Knot} {t l r : Int} {X L R : T}
theorem getD_app {new : List Knot} {i : Nat} (h : i < ks.length) : (ks ++ new).getD i Knot.zero = ks.getD i Knot.zero := by
  simp [List.getD, List.getElem?_append_left h]
theorem Is.app (h : Is ks t X) (new : List Knot) : Is (ks ++ new) t X := by
  induction h with
  | nil ht => exact .nil ht
  | leaf i ht hi hl ho hn hf => exact .leaf i ht (by simp; omega) (by rwa [getD_app hi]) (by rwa [getD_app hi]) (by rwa [getD_app hi]) (by rwa [getD_app hi])
  | node i l r ht hi hp hL hR iL iR =>
    refine .node i l r ht (by simp; omega) ?_ iL iR
    rw [getD_app hi]
    unfold isPair at hp ⊢
    rwa [getD_app (by omega), getD_app (by omega)]
theorem Is.range (h : Is ks t X) : 0 ≤ t ∧ t ≤ ks.length := by
  cases h with
  | nil ht => omega
  | leaf i ht hi => omega
  | node i l r ht hi => omega
/-- the knot's numbers are the tree's. -/
theorem Is.knot (h : Is ks t X) : (getK ks t).len = X.size ∧ (getK ks t).high = X.high ∧ (getK ks t).leaves = X.many ∧ (getK ks t).feeds = X.feeds ∧ (getB ks t = true ∨ t = 0) := by
  induction h with
  | nil ht => subst ht; simp [getK, getB, getS, Knot.zero, T.size, T.high, T.many, T.feeds]
  | leaf i ht hi hl ho hn hf =>
    obtain ⟨g1, g2⟩ := getK_at ht hi
    rw [g1, g2]
    obtain ⟨_, _, _, _, _, _, h1, h2, _⟩ := hl
    exact ⟨hn, h1, h2, hf, by simp⟩
  | @node t i l r L R ht hi hp hL hR iL iR =>
    obtain ⟨g1, g2⟩ := getK_at ht hi
    obtain ⟨_, _, hl, hr, _, h1, _, h2, h3, h4⟩ := hp
    have gl := (getK_at (ks := ks) (i := (l : Int) + 1) rfl (by omega)).1
    have gr := (getK_at (ks := ks) (i := (r : Int) + 1) rfl (by omega)).1
    rw [gl] at iL
    rw [gr] at iR
    rw [g1, g2]
    simp only [T.size, T.high, T.many, T.feeds]
    refine ⟨?_, ?_, ?_, ?_, by simp⟩
    · rw [h1, iL.1, iR.1]
    · rw [h2, iL.2.1, iR.2.1]
    · rw [h3, iL.2.2.1, iR.2.2.1]
    · rw [h4, iL.2.2.2.1, iR.2.2.2.1]
theorem Is.ok (h : Is ks t X) (hw : WF ks) : X.ok := by
  induction h with
  | nil ht => trivial
  | leaf i ht hi hl ho hn hf =>
    obtain ⟨_, _, h1, h2, h3, h4, _, _, h5, h6⟩ := hl
    simp only [T.ok]
    omega
  | @node t i l r L R ht hi hp hL hR iL iR =>
    obtain ⟨_, _, hl, hr, _, h1, h7, _⟩ := hp
    have gl := (getK_at (ks := ks) (i := (l : Int) + 1) rfl (by omega)).1
    have gr := (getK_at (ks := ks) (i := (r : Int) + 1) rfl (by omega)).1
    have sl := hL.knot.1
    have sr := hR.knot.1
    have bl := hw.bounds l (by omega)
    have br := hw.bounds r (by omega)
    rw [gl] at sl
    rw [gr] at sr
    exact ⟨iL, iR, by omega, by omega, by omega⟩
theorem Is.ex (hw : WF ks) : ∀ i : Nat, i ≤ ks.length → ∃ X, Is ks (i : Int) X := by
  intro i
  induction i using Nat.strongRecOn with
  | _ i ih =>
    intro hi
    cases i with
    | zero => exact ⟨_, .nil rfl⟩
    | succ i =>
      rcases hw i (by omega) with hl | ⟨l, r, hp⟩
      · exact ⟨_, .leaf i (by omega) (by omega) hl rfl rfl rfl⟩
      · obtain ⟨L, hL⟩ := ih (l + 1) (by have := hp.2.2.1; omega) (by have := hp.2.2.1; omega)
        obtain ⟨R, hR⟩ := ih (r + 1) (by have := hp.2.2.2.1; omega) (by have := hp.2.2.2.1; omega)
        exact ⟨_, .node i l r (by omega) (by omega) hp hL hR⟩
theorem Is.pos (h : Is ks t X) (hw : WF ks) (h0 : t ≠ 0) : 0 < X.size := by
  cases h with
  | nil ht => exact absurd ht h0
  | leaf i ht hi hl ho hn hf => obtain ⟨_, _, _, h1, _⟩ := hl; simp only [T.size]; omega
  | node i l r ht hi hp hL hR =>
    have a := hL.ok hw
    have := Is.ok (.node i l r ht hi hp hL hR) hw
    simp only [T.ok] at this
    simp only [T.size]
    omega
theorem Is.zero (h : Is ks 0 X) : X = .nil := by
  cases h with
  | nil ht => rfl
  | leaf i ht => omega
  | node i l r ht => omega
theorem Is.nil_ (h : Is ks t .nil) : t = 0 := by cases h with | nil ht => exact ht
theorem Is.leaf_ {o n f : Int} (h : Is ks t (.leaf o n f)) : getK ks t = leafK o n f ∧ getB ks t = true ∧ 1 ≤ t := by
  cases h with
  | leaf i ht hi hl ho hn hf =>
    obtain ⟨g1, g2⟩ := getK_at ht hi
    obtain ⟨h1, h2, _, _, _, _, h3, h4, _⟩ := hl
    rw [g1, g2]
    refine ⟨?_, rfl, by omega⟩
    generalize ks.getD i Knot.zero = k at *
    cases k
    simp only at *
    subst h1 h2 ho hn hf h3 h4
    rfl
theorem Is.node_ (h : Is ks t (.node L R)) : ∃ l r : Int, 1 ≤ l ∧ 1 ≤ r ∧ Is ks l L ∧ Is ks r R ∧ getB ks t = true ∧ 1 ≤ t ∧ l < t ∧ r < t ∧
    getK ks t = ⟨l, r, 0, L.size + R.size, 1 + max L.high R.high, L.many + R.many, L.feeds + R.feeds⟩ := by
  have hk := h.knot
  cases h with
  | node i l r ht hi hp hL hR =>
    obtain ⟨g1, g2⟩ := getK_at ht hi
    obtain ⟨h1, h2, hl, hr, h3, _⟩ := hp
    refine ⟨(l : Int) + 1, (r : Int) + 1, by omega, by omega, hL, hR, g2, by omega, by omega, by omega, ?_⟩
    rw [g1] at hk
    rw [g1]
    obtain ⟨k1, k2, k3, k4, _⟩ := hk
    generalize ks.getD i Knot.zero = k at h1 h2 h3 k1 k2 k3 k4 ⊢
    cases k
    simp only at h1 h2 h3 k1 k2 k3 k4
    subst h1 h2 h3 k1 k2 k3 k4
    rfl

/-! new knots -/
def lfs (ks : List Knot) : Nat := (ks.filter fun k => decide (k.left = 0)).length
theorem lfs_append (a b : List Knot) : lfs (a ++ b) = lfs a + lfs b := by simp [lfs]
/-- so many knots more, of which so many are leaves. -/
def Ext (ks ks' : List Knot) (n m : Nat) : Prop := ∃ new, ks' = ks ++ new ∧ new.length = n ∧ lfs new = m
theorem Ext.refl (ks : List Knot) : Ext ks ks 0 0 := ⟨[], by simp, rfl, rfl⟩
theorem Ext.trans {ks'' : List Knot} {n m n' m' : Nat} (h : Ext ks ks' n m) (h' : Ext ks' ks'' n' m') : Ext ks ks'' (n + n') (m + m') := by
  obtain ⟨a, rfl, rfl, rfl⟩ := h
  obtain ⟨b, rfl, rfl, rfl⟩ := h'
  exact ⟨a ++ b, by simp, by simp, lfs_append a b⟩
theorem Ext.len {n m : Nat} (h : Ext ks ks' n m) : ks'.length = ks.length + n := by obtain ⟨a, rfl, rfl, rfl⟩ := h; simp
theorem Is.ext {n m : Nat} (h : Is ks t X) (he : Ext ks ks' n m) : Is ks' t X := by obtain ⟨a, rfl, _⟩ := he; exact h.app a
theorem Ext.one_leaf (ks : List Knot) (o n f : Int) : Ext ks (ks ++ [leafK o n f]) 1 1 := ⟨_, rfl, rfl, rfl⟩
theorem Ext.one_pair (ks : List Knot) (h : 1 ≤ l) : Ext ks (ks ++ [pairK ks l r]) 1 0 := by
  refine ⟨_, rfl, rfl, ?_⟩
  simp [lfs, pairK]
  omega

theorem Is.getB_ (h : Is ks t X) (hw : WF ks) (h0 : 0 < X.size) : getB ks t = true ∧ 1 ≤ t := by
  cases X with
  | nil => simp [T.size] at h0
  | leaf o n f => exact ⟨h.leaf_.2.1, h.leaf_.2.2⟩
  | node a b => obtain ⟨l, r, _, _, _, _, h1, h2, _⟩ := h.node_; exact ⟨h1, h2⟩
theorem Is.mk_leaf (hw : WF ks) {o n f : Int} (hb : leafBad o n f = false) : WF (ks ++ [leafK o n f]) ∧ Is (ks ++ [leafK o n f]) ((ks.length + 1 : Nat) : Int) (.leaf o n f) := by
  refine ⟨hw.leaf hb, .leaf ks.length (by omega) (by simp) ?_ ?_ ?_ ?_⟩
  · rw [getD_append_last]
    have h := hw.leaf hb ks.length (by simp)
    rw [getD_append_last] at h
    rcases h with h | ⟨a, b, h, _⟩
    · exact h
    · simp [leafK] at h; omega
  all_goals (rw [getD_append_last]; rfl)
theorem Is.mk_pair (hw : WF ks) (hl : Is ks l L) (hr : Is ks r R) (h1 : 0 < L.size) (h2 : 0 < R.size) (h3 : L.size + R.size ≤ 1099511627776) :
    (getB ks l && getB ks r) = true ∧ wrap64 ((getK ks l).len + (getK ks r).len) ≤ 1099511627776 ∧ WF (ks ++ [pairK ks l r]) ∧ Is (ks ++ [pairK ks l r]) ((ks.length + 1 : Nat) : Int) (.node L R) ∧ Ext ks (ks ++ [pairK ks l r]) 1 0 := by
  have bl := hl.getB_ hw h1
  have br := hr.getB_ hw h2
  have hlen : wrap64 ((getK ks l).len + (getK ks r).len) ≤ 1099511627776 := by
    rw [hl.knot.1, hr.knot.1]
    unfold wrap64
    omega
  obtain ⟨hwf, a, b, rfl, rfl, ha, hb, hp⟩ := hw.pair bl.1 br.1 hlen
  refine ⟨by rw [bl.1, br.1]; rfl, hlen, hwf, .node ks.length a b (by omega) (by simp) ?_ (hl.app _) (hr.app _), Ext.one_pair ks bl.2⟩
  rw [getD_append_last]
  unfold isPair at hp ⊢
  rwa [getD_append_left (by omega), getD_append_left (by omega)]
end

/-! joins -/
structure JoinOk (L R X : T) (n : Nat) : Prop where
  lv : X.lv = L.lv ++ R.lv
  ok : X.ok
  cost : (n : Int) ≤ 1 + 3 * (L.high + R.high)
  even : L.bal → R.bal → X.bal ∧ L.high ≤ X.high ∧ R.high ≤ X.high ∧ (X.high ≤ L.high + 1 ∨ X.high ≤ R.high + 1) ∧ (n ≤ 1 ∨ (n : Int) + 2 ≤ 3 * (L.high - R.high) ∨ (n : Int) + 2 ≤ 3 * (R.high - L.high))

section
variable {L R X K a b c k1 k2 m1 m2 : T} {n : Nat}
theorem JoinOk.size (h : JoinOk L R X n) : X.size = L.size + R.size := by rw [T.size_lv, h.lv, bytesL_append, ← T.size_lv, ← T.size_lv]
theorem JoinOk.many (h : JoinOk L R X n) : X.many = L.many + R.many := by rw [T.many_lv, h.lv, T.many_lv, T.many_lv]; simp
theorem JoinOk.nil_left (h : R.ok) : JoinOk .nil R R 0 := by
  have := T.bounds h
  exact ⟨rfl, h, by simp [T.high]; omega, fun _ hb => ⟨hb, by simp [T.high]; omega, by omega, by omega, by omega⟩⟩
theorem JoinOk.nil_right (h : L.ok) : JoinOk L .nil L 0 := by
  have := T.bounds h
  exact ⟨by simp [T.lv], h, by simp [T.high]; omega, fun hb _ => ⟨hb, by omega, by simp [T.high]; omega, by omega, by omega⟩⟩
theorem JoinOk.pair (h1 : L.ok) (h2 : R.ok) (h3 : 0 < L.size) (h4 : 0 < R.size) (h5 : L.size + R.size ≤ 1099511627776) (h6 : L.high ≤ R.high + 1) (h7 : R.high ≤ L.high + 1) : JoinOk L R (.node L R) 1 := by
  have := T.bounds h1
  have := T.bounds h2
  refine ⟨rfl, ⟨h1, h2, h3, h4, h5⟩, by omega, fun b1 b2 => ?_⟩
  simp only [T.high, T.bal]
  refine ⟨⟨b1, b2, h6, h7⟩, ?_, ?_, ?_, ?_⟩ <;> omega

theorem left_size (h : JoinOk b R K n) (hs : (T.node a b).size + R.size ≤ 1099511627776) (h1 : (T.node a b).ok) (h2 : R.ok) : a.ok ∧ 0 < a.size ∧ K.ok ∧ 0 < K.size ∧ a.size + K.size ≤ 1099511627776 := by
  have := h.size
  have := (T.bounds h2).2.1
  have := (T.bounds h2).2.2.1
  simp only [T.ok] at h1
  simp only [T.size] at hs
  exact ⟨h1.1, h1.2.2.1, h.ok, by omega, by omega⟩
theorem JoinOk.left1 (h : JoinOk b R K n) (h1 : (T.node a b).ok) (h2 : R.ok) (hs : (T.node a b).size + R.size ≤ 1099511627776) (h3 : R.high + 1 < (T.node a b).high) (h4 : K.high ≤ a.high + 1) : JoinOk (.node a b) R (.node a K) (n + 1) := by
  obtain ⟨g1, g2, g3, g4, g5⟩ := left_size h hs h1 h2
  have ba := T.bounds g1
  have bb := T.bounds h1.2.1
  have br := T.bounds h2
  refine ⟨by simp [T.lv, h.lv], ⟨g1, g3, g2, g4, g5⟩, ?_, fun b1 b2 => ?_⟩
  · have := h.cost
    simp only [T.high]
    omega
  · simp only [T.bal] at b1
    obtain ⟨e1, e2, e3, e4, e5⟩ := h.even b1.2.1 b2
    simp only [T.high, T.bal] at h3 ⊢
    refine ⟨⟨b1.1, e1, ?_, ?_⟩, ?_, ?_, ?_, ?_⟩ <;> omega
theorem JoinOk.left3 (h : JoinOk b R (.node k1 k2) n) (h1 : (T.node a b).ok) (h2 : R.ok) (hs : (T.node a b).size + R.size ≤ 1099511627776) (h3 : R.high + 1 < (T.node a b).high) (h4 : a.high + 1 < (T.node k1 k2).high) (h5 : k1.high ≤ k2.high) : JoinOk (.node a b) R (.node (.node a k1) k2) (n + 2) := by
  obtain ⟨g1, g2, g3, g4, g5⟩ := left_size h hs h1 h2
  have ba := T.bounds g1
  have bb := T.bounds h1.2.1
  have br := T.bounds h2
  have c1 := T.bounds g3.1
  have c2 := T.bounds g3.2.1
  refine ⟨by have := h.lv; simp [T.lv] at this ⊢; exact this, ?_, ?_, fun b1 b2 => ?_⟩
  · simp only [T.ok, T.size] at g3 g5 ⊢
    exact ⟨⟨g1, g3.1, g2, g3.2.2.1, by omega⟩, g3.2.1, by omega, by omega, by omega⟩
  · have := h.cost
    simp only [T.high]
    omega
  · simp only [T.bal] at b1
    obtain ⟨e1, e2, e3, e4, e5⟩ := h.even b1.2.1 b2
    simp only [T.high, T.bal] at h3 h4 e1 e2 e3 e4 ⊢
    refine ⟨⟨⟨b1.1, e1.1, ?_, ?_⟩, e1.2.1, ?_, ?_⟩, ?_, ?_, ?_, ?_⟩ <;> omega
theorem JoinOk.left2 (h : JoinOk b R (.node (.node m1 m2) k2) n) (h1 : (T.node a b).ok) (h2 : R.ok) (hs : (T.node a b).size + R.size ≤ 1099511627776) (h3 : R.high + 1 < (T.node a b).high) (h4 : a.high + 1 < (T.node (.node m1 m2) k2).high) (h5 : k2.high < (T.node m1 m2).high) :
    JoinOk (.node a b) R (.node (.node a m1) (.node m2 k2)) (n + 3) := by
  obtain ⟨g1, g2, g3, g4, g5⟩ := left_size h hs h1 h2
  have ba := T.bounds g1
  have bb := T.bounds h1.2.1
  have br := T.bounds h2
  have c1 := T.bounds g3.1.1
  have c3 := T.bounds g3.1.2.1
  have c2 := T.bounds g3.2.1
  refine ⟨by have := h.lv; simp [T.lv] at this ⊢; exact this, ?_, ?_, fun b1 b2 => ?_⟩
  · simp only [T.ok, T.size] at g3 g5 ⊢
    exact ⟨⟨g1, g3.1.1, g2, g3.1.2.2.1, by omega⟩, ⟨g3.1.2.1, g3.2.1, g3.1.2.2.2.1, by omega, by omega⟩, by omega, by omega, by omega⟩
  · have := h.cost
    have := T.high_node a b
    omega
  · simp only [T.bal] at b1
    obtain ⟨e1, e2, e3, e4, e5⟩ := h.even b1.2.1 b2
    have n1 := T.high_node a b
    have n2 := T.high_node m1 m2
    have n3 := T.high_node (.node m1 m2) k2
    simp only [T.bal] at e1
    have kk : (T.node (.node m1 m2) k2).high = a.high + 2 := by omega
    have k3 : (T.node m1 m2).high = a.high + 1 := by omega
    have k4 : k2.high = a.high := by omega
    have k5 : m1.high ≤ a.high ∧ a.high ≤ m1.high + 1 := by omega
    have k6 : m2.high ≤ a.high ∧ a.high ≤ m2.high + 1 := by omega
    have k7 : (T.node a m1).high = a.high + 1 := by have := T.high_node a m1; omega
    have k8 : (T.node m2 k2).high = a.high + 1 := by have := T.high_node m2 k2; omega
    have k9 : (T.node (.node a m1) (.node m2 k2)).high = a.high + 2 := by have := T.high_node (.node a m1) (.node m2 k2); omega
    have l1 : (T.node a b).high = a.high + 2 := by omega
    have l2 : b.high = a.high + 1 := by omega
    clear n1 n2 n3 h5 h4 k3 kk
    rw [k9, l1]
    simp only [T.bal]
    rw [k7, k8]
    refine ⟨⟨⟨b1.1, e1.1.1, ?_, ?_⟩, ⟨e1.1.2.1, e1.2.1, ?_, ?_⟩, ?_, ?_⟩, ?_, ?_, ?_, ?_⟩ <;> omega

theorem right_size (h : JoinOk L a K n) (hs : L.size + (T.node a b).size ≤ 1099511627776) (h1 : (T.node a b).ok) (h2 : L.ok) : b.ok ∧ 0 < b.size ∧ K.ok ∧ 0 < K.size ∧ K.size + b.size ≤ 1099511627776 := by
  have := h.size
  have := (T.bounds h2).2.1
  have := (T.bounds h2).2.2.1
  simp only [T.ok] at h1
  simp only [T.size] at hs
  exact ⟨h1.2.1, h1.2.2.2.1, h.ok, by omega, by omega⟩
theorem JoinOk.right1 (h : JoinOk L a K n) (h1 : (T.node a b).ok) (h2 : L.ok) (hs : L.size + (T.node a b).size ≤ 1099511627776) (h3 : L.high + 1 < (T.node a b).high) (h4 : K.high ≤ b.high + 1) : JoinOk L (.node a b) (.node K b) (n + 1) := by
  obtain ⟨g1, g2, g3, g4, g5⟩ := right_size h hs h1 h2
  have ba := T.bounds g1
  have bb := T.bounds h1.1
  have br := T.bounds h2
  refine ⟨by simp [T.lv, h.lv], ⟨g3, g1, g4, g2, g5⟩, ?_, fun b2 b1 => ?_⟩
  · have := h.cost
    simp only [T.high]
    omega
  · simp only [T.bal] at b1
    obtain ⟨e1, e2, e3, e4, e5⟩ := h.even b2 b1.1
    simp only [T.high, T.bal] at h3 ⊢
    refine ⟨⟨e1, b1.2.1, ?_, ?_⟩, ?_, ?_, ?_, ?_⟩ <;> omega
theorem JoinOk.right3 (h : JoinOk L a (.node k1 k2) n) (h1 : (T.node a b).ok) (h2 : L.ok) (hs : L.size + (T.node a b).size ≤ 1099511627776) (h3 : L.high + 1 < (T.node a b).high) (h4 : b.high + 1 < (T.node k1 k2).high) (h5 : k2.high ≤ k1.high) : JoinOk L (.node a b) (.node k1 (.node k2 b)) (n + 2) := by
  obtain ⟨g1, g2, g3, g4, g5⟩ := right_size h hs h1 h2
  have ba := T.bounds g1
  have bb := T.bounds h1.1
  have br := T.bounds h2
  have c1 := T.bounds g3.1
  have c2 := T.bounds g3.2.1
  refine ⟨by have := h.lv; simp only [T.lv] at this ⊢; rw [← List.append_assoc, ← List.append_assoc, this], ?_, ?_, fun b2 b1 => ?_⟩
  · simp only [T.ok, T.size] at g3 g5 ⊢
    exact ⟨g3.1, ⟨g3.2.1, g1, by omega, by omega, by omega⟩, by omega, by omega, by omega⟩
  · have := h.cost
    simp only [T.high]
    omega
  · simp only [T.bal] at b1
    obtain ⟨e1, e2, e3, e4, e5⟩ := h.even b2 b1.1
    simp only [T.high, T.bal] at h3 h4 e1 e2 e3 e4 ⊢
    refine ⟨⟨e1.1, ⟨e1.2.1, b1.2.1, ?_, ?_⟩, ?_, ?_⟩, ?_, ?_, ?_, ?_⟩ <;> omega
theorem JoinOk.right2 (h : JoinOk L a (.node k1 (.node m1 m2)) n) (h1 : (T.node a b).ok) (h2 : L.ok) (hs : L.size + (T.node a b).size ≤ 1099511627776) (h3 : L.high + 1 < (T.node a b).high) (h4 : b.high + 1 < (T.node k1 (.node m1 m2)).high) (h5 : k1.high < (T.node m1 m2).high) :
    JoinOk L (.node a b) (.node (.node k1 m1) (.node m2 b)) (n + 3) := by
  obtain ⟨g1, g2, g3, g4, g5⟩ := right_size h hs h1 h2
  have ba := T.bounds g1
  have bb := T.bounds h1.1
  have br := T.bounds h2
  have c1 := T.bounds g3.2.1.1
  have c3 := T.bounds g3.2.1.2.1
  have c2 := T.bounds g3.1
  refine ⟨by have := h.lv; simp only [T.lv] at this ⊢; rw [← List.append_assoc, ← List.append_assoc, ← this]; simp, ?_, ?_, fun b2 b1 => ?_⟩
  · simp only [T.ok, T.size] at g3 g5 ⊢
    exact ⟨⟨g3.1, g3.2.1.1, by omega, by omega, by omega⟩, ⟨g3.2.1.2.1, g1, by omega, by omega, by omega⟩, by omega, by omega, by omega⟩
  · have := h.cost
    have := T.high_node a b
    omega
  · simp only [T.bal] at b1
    obtain ⟨e1, e2, e3, e4, e5⟩ := h.even b2 b1.1
    have n1 := T.high_node a b
    have n2 := T.high_node m1 m2
    have n3 := T.high_node k1 (.node m1 m2)
    simp only [T.bal] at e1
    have kk : (T.node k1 (.node m1 m2)).high = b.high + 2 := by omega
    have k3 : (T.node m1 m2).high = b.high + 1 := by omega
    have k4 : k1.high = b.high := by omega
    have k5 : m1.high ≤ b.high ∧ b.high ≤ m1.high + 1 := by omega
    have k6 : m2.high ≤ b.high ∧ b.high ≤ m2.high + 1 := by omega
    have k7 : (T.node k1 m1).high = b.high + 1 := by have := T.high_node k1 m1; omega
    have k8 : (T.node m2 b).high = b.high + 1 := by have := T.high_node m2 b; omega
    have k9 : (T.node (.node k1 m1) (.node m2 b)).high = b.high + 2 := by have := T.high_node (.node k1 m1) (.node m2 b); omega
    have l1 : (T.node a b).high = b.high + 2 := by omega
    have l2 : a.high = b.high + 1 := by omega
    clear n1 n2 n3 h5 h4 k3 kk
    rw [k9, l1]
    simp only [T.bal]
    rw [k7, k8]
    refine ⟨⟨⟨e1.1, e1.2.1.1, ?_, ?_⟩, ⟨e1.2.1.2.1, b1.2.1, ?_, ?_⟩, ?_, ?_⟩, ?_, ?_, ?_, ?_⟩ <;> omega
end

/-! cuts -/
def cutL (f : Int → Int → Int) : List Lf → Int → List Lf × List Lf
  | [], _ => ([], [])
  | p :: ps, at_ =>
    if p.2.1 ≤ at_ then (p :: (cutL f ps (at_ - p.2.1)).1, (cutL f ps (at_ - p.2.1)).2)
    else if 0 < at_ then ([(p.1, at_, f p.1 at_)], (p.1 + at_, p.2.1 - at_, f (p.1 + at_) (p.2.1 - at_)) :: ps)
    else ([], p :: ps)
section
variable {f : Int → Int → Int}
theorem cutL_cons (p : Lf) (ps : List Lf) (at_ : Int) : cutL f (p :: ps) at_ = if p.2.1 ≤ at_ then (p :: (cutL f ps (at_ - p.2.1)).1, (cutL f ps (at_ - p.2.1)).2)
    else if 0 < at_ then ([(p.1, at_, f p.1 at_)], (p.1 + at_, p.2.1 - at_, f (p.1 + at_) (p.2.1 - at_)) :: ps)
    else ([], p :: ps) := rfl
theorem cutL_zero : ∀ {l : List Lf}, (∀ p ∈ l, 1 ≤ p.2.1) → cutL f l 0 = ([], l)
  | [], _ => rfl
  | p :: l, h => by
    have := h p (by simp)
    rw [cutL_cons]
    rw [if_neg (by omega), if_neg (by omega)]
theorem cutL_all : ∀ {l : List Lf} {n : Int}, (∀ p ∈ l, 1 ≤ p.2.1) → bytesL l ≤ n → cutL f l n = (l, [])
  | [], _, _, _ => rfl
  | p :: l, n, h, hn => by
    have hb : 0 ≤ bytesL l := by
      clear hn
      induction l with
      | nil => simp [bytesL]
      | cons q l ih =>
        have := ih (fun x hx => h x (by simp at hx ⊢; rcases hx with hx | hx <;> simp [hx]))
        have := h q (by simp)
        simp only [bytesL]
        omega
    simp only [bytesL] at hn
    have := h p (by simp)
    rw [cutL_cons]
    rw [if_pos (by omega), cutL_all (fun q hq => h q (by simp [hq])) (by omega)]
theorem cutL_right : ∀ {l l2 : List Lf} {n : Int}, (∀ p ∈ l, 1 ≤ p.2.1) → bytesL l ≤ n → cutL f (l ++ l2) n = (l ++ (cutL f l2 (n - bytesL l)).1, (cutL f l2 (n - bytesL l)).2)
  | [], l2, n, _, _ => by simp [bytesL]
  | p :: l, l2, n, h, hn => by
    have hb : 0 ≤ bytesL l := by
      clear hn
      induction l with
      | nil => simp [bytesL]
      | cons q l ih =>
        have := ih (fun x hx => h x (by simp at hx ⊢; rcases hx with hx | hx <;> simp [hx]))
        have := h q (by simp)
        simp only [bytesL]
        omega
    simp only [bytesL] at hn
    have := h p (by simp)
    rw [List.cons_append]
    rw [cutL_cons]
    rw [if_pos (by omega), cutL_right (fun q hq => h q (by simp [hq])) (by omega)]
    have e : n - p.2.1 - bytesL l = n - bytesL (p :: l) := by simp only [bytesL]; omega
    rw [e]
    rfl
theorem cutL_left : ∀ {l l2 : List Lf} {n : Int}, (∀ p ∈ l, 1 ≤ p.2.1) → 0 ≤ n → n < bytesL l → cutL f (l ++ l2) n = ((cutL f l n).1, (cutL f l n).2 ++ l2)
  | [], l2, n, _, h0, hn => by simp [bytesL] at hn; omega
  | p :: l, l2, n, h, h0, hn => by
    simp only [bytesL] at hn
    rw [List.cons_append, cutL_cons, cutL_cons]
    by_cases h1 : p.2.1 ≤ n
    · rw [if_pos h1, if_pos h1, cutL_left (fun q hq => h q (by simp [hq])) (by omega) (by omega)]
    · rw [if_neg h1, if_neg h1]
      by_cases h2 : 0 < n
      · rw [if_pos h2, if_pos h2]; rfl
      · rw [if_neg h2, if_neg h2]; rfl
/-- up to the end of the first part. -/
theorem cutL_left' {l l2 : List Lf} {n : Int} (h : ∀ p ∈ l, 1 ≤ p.2.1) (h2 : ∀ p ∈ l2, 1 ≤ p.2.1) (h0 : 0 ≤ n) (hn : n ≤ bytesL l) : cutL f (l ++ l2) n = ((cutL f l n).1, (cutL f l n).2 ++ l2) := by
  by_cases e : n < bytesL l
  · exact cutL_left h h0 e
  · rw [cutL_right h (by omega), cutL_all h (by omega), show n - bytesL l = 0 by omega, cutL_zero h2]
    simp
theorem cutL_count : ∀ (l : List Lf) (n : Int), (cutL f l n).1.length + (cutL f l n).2.length ≤ l.length + 1
  | [], _ => by simp [cutL]
  | p :: l, n => by
    rw [cutL_cons]
    by_cases h1 : p.2.1 ≤ n
    · rw [if_pos h1]; have := cutL_count l (n - p.2.1); simp; omega
    · rw [if_neg h1]
      by_cases h2 : 0 < n
      · rw [if_pos h2]; simp; omega
      · rw [if_neg h2]; simp
end

structure SplitOk (f : Int → Int → Int) (X A B : T) (at_ : Int) (n m : Nat) : Prop where
  cut : (A.lv, B.lv) = cutL f X.lv at_
  oka : A.ok
  okb : B.ok
  leaves : m ≤ 2
  cost : X.many ≤ 1000 → (n : Int) ≤ 4000 * X.high
  even : X.bal → A.bal ∧ B.bal ∧ A.high ≤ X.high ∧ B.high ≤ X.high ∧ (n : Int) ≤ X.high + 3 * (A.high + B.high)
section
variable {f : Int → Int → Int} {L R X A B : T} {at_ : Int} {n m k : Nat}
theorem SplitOk.many (h : SplitOk f X A B at_ n m) : A.many + B.many ≤ X.many + 1 := by
  have e1 : A.lv = (cutL f X.lv at_).1 := congrArg Prod.fst h.cut
  have e2 : B.lv = (cutL f X.lv at_).2 := congrArg Prod.snd h.cut
  have := cutL_count (f := f) X.lv at_
  rw [T.many_lv, T.many_lv, T.many_lv, e1, e2]
  omega
theorem SplitOk.zero (h : X.ok) : SplitOk f X .nil X 0 0 0 := by
  have := T.bounds h
  exact ⟨by rw [cutL_zero (T.pos h)]; rfl, trivial, h, by omega, fun _ => by omega, fun hb => ⟨trivial, hb, by simp [T.high]; omega, by omega, by simp [T.high]; omega⟩⟩
theorem SplitOk.all (h : X.ok) : SplitOk f X X .nil X.size 0 0 := by
  have := T.bounds h
  exact ⟨by rw [cutL_all (T.pos h) (by rw [T.size_lv]; omega)]; rfl, h, trivial, by omega, fun _ => by omega, fun hb => ⟨hb, trivial, by omega, by simp [T.high]; omega, by simp [T.high]; omega⟩⟩
theorem SplitOk.leaf {o l fd : Int} (h : (T.leaf o l fd).ok) (h0 : 0 < at_) (h1 : at_ < l) (f1 : 0 ≤ f o at_ ∧ f o at_ ≤ at_) (f2 : 0 ≤ f (o + at_) (l - at_) ∧ f (o + at_) (l - at_) ≤ l - at_) :
    SplitOk f (.leaf o l fd) (.leaf o at_ (f o at_)) (.leaf (o + at_) (l - at_) (f (o + at_) (l - at_))) at_ 2 2 := by
  simp only [T.ok] at h
  refine ⟨?_, ?_, ?_, by omega, fun _ => by simp [T.high], fun _ => ⟨trivial, trivial, by simp [T.high], by simp [T.high], by simp [T.high]⟩⟩
  · simp only [T.lv]
    rw [cutL_cons]
    rw [if_neg (by simp; omega), if_pos h0]
  all_goals (simp only [T.ok]; omega)
theorem SplitOk.right (h : SplitOk f R A B (at_ - L.size) n m) (hj : JoinOk L A X k) (h1 : (T.node L R).ok) (h2 : L.size < at_) : SplitOk f (.node L R) X B at_ (n + k) m := by
  have hm := h.many
  have bl := T.bounds h1.1
  have br := T.bounds h1.2.1
  have ba := T.bounds h.oka
  have bb := T.bounds h.okb
  have bx := T.bounds h1
  refine ⟨?_, hj.ok, h.okb, h.leaves, fun hM => ?_, fun hb => ?_⟩
  · have e1 : A.lv = (cutL f R.lv (at_ - L.size)).1 := congrArg Prod.fst h.cut
    have e2 : B.lv = (cutL f R.lv (at_ - L.size)).2 := congrArg Prod.snd h.cut
    simp only [T.lv]
    rw [cutL_right (T.pos h1.1) (by rw [← T.size_lv]; omega), ← T.size_lv, ← e1, ← e2, hj.lv]
  · have := hj.cost
    simp only [T.many] at hM hm bx
    have := h.cost (by omega)
    simp only [T.high] at bx ⊢
    omega
  · simp only [T.bal] at hb
    obtain ⟨e1, e2, e3, e4, e5⟩ := h.even hb.2.1
    obtain ⟨j1, j2, j3, j4, j5⟩ := hj.even hb.1 e1
    simp only [T.high]
    refine ⟨j1, e2, ?_, ?_, ?_⟩ <;> omega
theorem SplitOk.left (h : SplitOk f L A B at_ n m) (hj : JoinOk B R X k) (h1 : (T.node L R).ok) (h0 : 0 ≤ at_) (h2 : at_ ≤ L.size) : SplitOk f (.node L R) A X at_ (n + k) m := by
  have hm := h.many
  have bl := T.bounds h1.1
  have br := T.bounds h1.2.1
  have ba := T.bounds h.oka
  have bb := T.bounds h.okb
  have bx := T.bounds h1
  refine ⟨?_, h.oka, hj.ok, h.leaves, fun hM => ?_, fun hb => ?_⟩
  · have e1 : A.lv = (cutL f L.lv at_).1 := congrArg Prod.fst h.cut
    have e2 : B.lv = (cutL f L.lv at_).2 := congrArg Prod.snd h.cut
    simp only [T.lv]
    rw [cutL_left' (T.pos h1.1) (T.pos h1.2.1) h0 (by rw [← T.size_lv]; omega), ← e1, ← e2, hj.lv]
  · have := hj.cost
    simp only [T.many] at hM hm bx
    have := h.cost (by omega)
    simp only [T.high] at bx ⊢
    omega
  · simp only [T.bal] at hb
    obtain ⟨e1, e2, e3, e4, e5⟩ := h.even hb.1
    obtain ⟨j1, j2, j3, j4, j5⟩ := hj.even e2 hb.2.1
    simp only [T.high]
    refine ⟨e1, j1, ?_, ?_, ?_⟩ <;> omega
end
end Go.Proofs.Ytoeamnagmehpeaa.Ar


/- Balance: size, height, the joiner's pair and get, left and right. -/
namespace Go.Proofs.Ytoeamnagmehpeaa.Ar
set_option linter.unusedSimpArgs false
set_option linter.unusedVariables false
open Go Go.RowKit
attribute [local go_sem] lt_add1 lt_self1 size_ne size_ne' size_ne1 size_ne1'
attribute [local irreducible] wpGrow wpThr

/-- an arena of so many knots as a resource. -/
def resAr (g : Nat) : Res (List Knot) where
  at_ := fun w F ks => ∃ r, F = foot g r ∧ Arena w g r ks
  below := fun ⟨r, e, h⟩ hb => ⟨r, e, h.below hb⟩
  lt := fun ⟨r, e, h⟩ b hb => by subst e; exact hb.elim (fun e => e ▸ h.lt) h.row_lt

set_option maxHeartbeats 400000 in
theorem size_any (g : Nat) (r : Option Nat) (ks : List Knot) (t : Int) (w : World) (h : Arena w g r ks) (hn : ks.length ≤ small) :
    Calls Try.prog 70 #[.pointer (some ⟨g, 0, none⟩), .int .i64 t] w fun e w' => e = .returned (.tuple #[.int .i64 (getK ks t).len, .bool (getB ks t || t == 0)]) ∧ Below w.heap.size w w' := by
  have G := Lib.hid (get_any g r ks t w h hn)
  unfold Knot.val at G
  generalize getK ks t = k at G ⊢
  cases hb : getB ks t
  all_goals
    rw [hb] at G
    clear hb
    go_enter Try.func70, Try.ntmps70
    go_wp2_with fail
    refine G.out.mono ?_
    rintro e w1 ⟨rfl, hb1⟩
    have HB := Lib.hid hb1
    have hz := hb1.size
    clear hb1 G
  · by_cases h0 : t = 0
    · subst h0
      go_wp2
      go_ret2
      exact ⟨rfl, HB.out.alloc hz _⟩
    · have h1 : (t == 0) = false := by simpa using h0
      go_wp2
      go_ret2
      exact ⟨by rw [h1]; rfl, HB.out.alloc hz _⟩
  · go_wp2
    go_ret2
    exact ⟨rfl, HB.out.alloc hz _⟩

set_option maxHeartbeats 400000 in
theorem bhigh_any (g : Nat) (r : Option Nat) (ks : List Knot) (t : Int) (w : World) (h : Arena w g r ks) (hn : ks.length ≤ small) :
    Calls Try.prog 108 #[.pointer (some ⟨g, 0, none⟩), .int .i64 t] w fun e w' => e = .returned (.int .i64 (getK ks t).high) ∧ Below w.heap.size w w' := by
  have G := Lib.hid (get_any g r ks t w h hn)
  unfold Knot.val at G
  generalize getK ks t = k at G ⊢
  generalize getB ks t = ok at G
  go_enter Try.func108, Try.ntmps108
  go_wp2_with fail
  refine G.out.mono ?_
  rintro e w1 ⟨rfl, hb1⟩
  have HB := Lib.hid hb1
  have hz := hb1.size
  clear hb1 G
  go_wp2
  go_ret
  exact ⟨rfl, HB.out.alloc hz _⟩

set_option maxHeartbeats 400000 in
theorem jget_any (g : Nat) (r : Option Nat) (ks : List Knot) (t : Int) (w : World) (h : Arena w g r ks) (hn : ks.length ≤ small) :
    Calls Try.prog 131 #[.agg #[.pointer (some ⟨g, 0, none⟩)], .int .i64 t] w fun e w' => e = .returned (getK ks t).val ∧ Below w.heap.size w w' := by
  have G := Lib.hid (fun w' (ha : Arena w' g r ks) => get_any g r ks t w' ha hn)
  have HA := Lib.hid h
  have hlt := h.lt
  clear h
  unfold Knot.val at G ⊢
  generalize getK ks t = k at G ⊢
  generalize getB ks t = ok at G
  go_enter Try.func131, Try.ntmps131
  go_wp2_with fail
  refine (G.out _ (HA.out.below (by (repeat (first | exact Below.refl _ _ | assumption | (refine Below.setCell ?_ (by first | (simp; done) | (simp; omega) | omega) _) | (refine Below.alloc ?_ (by first | (simp; done) | (simp; omega) | omega) _) | (refine Below.drew ?_) | (refine Below.drewN ?_ _) | (refine Below.trans ?_ (Below.mono (by assumption) (by first | (simp; done) | (simp; omega) | omega)))))))).mono ?_
  rintro e w1 ⟨rfl, hb1⟩
  have hz := hb1.size
  simp at hz
  have hz1 : w.heap.size + 1 < w1.heap.size := by omega
  have hz2 : w.heap.size < w1.heap.size := by omega
  have HB := Lib.hid ((((Below.refl w.heap.size w).alloc (Nat.le_refl _) (.cells #[.pointer (some ⟨g, 0, none⟩)] 177)).alloc (by simp) (.cells #[.int .i64 0, .int .i64 0, .int .i64 0, .int .i64 0, .int .i64 0, .int .i64 0, .int .i64 0] 50)).trans (hb1.mono (by simp; omega)))
  have q : w1.heap[w.heap.size + 1]? = some (.cells #[.int .i64 0, .int .i64 0, .int .i64 0, .int .i64 0, .int .i64 0, .int .i64 0, .int .i64 0] 50) := by
    rw [hb1.block _ (by simp)]
    have e : w.heap.size + 1 = (w.alloc (.cells #[.pointer (some ⟨g, 0, none⟩)] 177)).heap.size := by simp
    rw [e]
    exact heap_alloc_new _ _
  have z := fun i => cell_of_row w1 (w.heap.size + 1) i _ _ (0, 0) q
  have z0 := z 0
  have z1 := z 1
  have z2 := z 2
  have z3 := z 3
  have z4 := z 4
  have z5 := z 5
  have z6 := z 6
  simp only [List.getElem?_toArray, List.getElem?_cons_zero, List.getElem?_cons_succ] at z0 z1 z2 z3 z4 z5 z6
  have hf2 : ∀ o, w1.frozen? ⟨w.heap.size + 1, o, none⟩ = false := fun o => by simp [World.frozen?, q]
  clear hb1 G q z HA
  go_wp2
  refine bodyPost_ret (v := .agg #[.int .i64 k.left, .int .i64 k.right, .int .i64 k.off, .int .i64 k.len, .int .i64 k.high, .int .i64 k.leaves, .int .i64 k.feeds]) ?_ ?_ ⟨?_, ?_⟩
  · simp [results, Try.results131, go_sem, *]
  · rfl
  · rfl
  · have hbl := HB.out
    refine Below.alloc ?_ (by simp; omega) _
    iterate 7 (with_reducible refine Below.setCell ?_ ?_ _)
    all_goals first | exact hbl | exact Nat.le_succ _

/-! a boxed joiner; a boxed knot -/
def blkJ (w : World) (b g : Nat) : Prop := w.heap[b]? = some (.cells #[.pointer (some ⟨g, 0, none⟩)] 177 (0, 0))
def blkK (w : World) (b : Nat) (k : Knot) : Prop := w.heap[b]? = some (.cells #[.int .i64 k.left, .int .i64 k.right, .int .i64 k.off, .int .i64 k.len, .int .i64 k.high, .int .i64 k.leaves, .int .i64 k.feeds] 50 (0, 0))
section
variable {w w' : World} {b g : Nat} {k : Knot} {F F' : Nat → Prop}
theorem blkJ.lt (h : blkJ w b g) : b < w.heap.size := (Array.getElem?_eq_some_iff.1 h).1
theorem blkK.lt (h : blkK w b k) : b < w.heap.size := (Array.getElem?_eq_some_iff.1 h).1
theorem blkJ.below (h : blkJ w b g) (hb : Below w.heap.size w w') : blkJ w' b g := (hb.block b h.lt).trans h
theorem blkK.below (h : blkK w b k) (hb : Below w.heap.size w w') : blkK w' b k := (hb.block b h.lt).trans h
theorem blkJ.fr (h : blkJ w b g) (hf : Fr w F w' F') (hn : ¬ F b) : blkJ w' b g := (hf.keep b h.lt hn).trans h
theorem blkK.fr (h : blkK w b k) (hf : Fr w F w' F') (hn : ¬ F b) : blkK w' b k := (hf.keep b h.lt hn).trans h
theorem blkJ.c (h : blkJ w b g) : w.cell? ⟨b, 0, none⟩ = some (.pointer (some ⟨g, 0, none⟩)) := cell_of_row w b 0 _ _ (0, 0) h
theorem blkK.c0 (h : blkK w b k) : w.cell? ⟨b, 0, none⟩ = some (.int .i64 k.left) := cell_of_row w b 0 _ _ (0, 0) h
theorem blkK.c1 (h : blkK w b k) : w.cell? ⟨b, 1, none⟩ = some (.int .i64 k.right) := cell_of_row w b 1 _ _ (0, 0) h
theorem blkK.c2 (h : blkK w b k) : w.cell? ⟨b, 2, none⟩ = some (.int .i64 k.off) := cell_of_row w b 2 _ _ (0, 0) h
theorem blkK.c3 (h : blkK w b k) : w.cell? ⟨b, 3, none⟩ = some (.int .i64 k.len) := cell_of_row w b 3 _ _ (0, 0) h
theorem blkK.c4 (h : blkK w b k) : w.cell? ⟨b, 4, none⟩ = some (.int .i64 k.high) := cell_of_row w b 4 _ _ (0, 0) h
theorem blkK.c5 (h : blkK w b k) : w.cell? ⟨b, 5, none⟩ = some (.int .i64 k.leaves) := cell_of_row w b 5 _ _ (0, 0) h
theorem blkK.c6 (h : blkK w b k) : w.cell? ⟨b, 6, none⟩ = some (.int .i64 k.feeds) := cell_of_row w b 6 _ _ (0, 0) h
end

/-- a knot stored, field by field. -/
def setK (w : World) (b : Nat) (k : Knot) : World := ((((((w.setCell ⟨b, 0, none⟩ (.int .i64 k.left)).setCell ⟨b, 1, none⟩ (.int .i64 k.right)).setCell ⟨b, 2, none⟩ (.int .i64 k.off)).setCell ⟨b, 3, none⟩ (.int .i64 k.len)).setCell ⟨b, 4, none⟩ (.int .i64 k.high)).setCell ⟨b, 5, none⟩ (.int .i64 k.leaves)).setCell ⟨b, 6, none⟩ (.int .i64 k.feeds)
theorem setK_blk {w : World} {b : Nat} {v0 v1 v2 v3 v4 v5 v6 : Value} (h : w.heap[b]? = some (.cells #[v0, v1, v2, v3, v4, v5, v6] 50 (0, 0))) (k : Knot) : blkK (setK w b k) b k := by
  simp [blkK, setK, World.setCell, Array.getElem?_modify, h]
theorem setK_below {w : World} {b n : Nat} {W : World} (h : Below n W w) (hb : n ≤ b) (k : Knot) : Below n W (setK w b k) := by
  unfold setK
  iterate 7 (with_reducible refine Below.setCell ?_ ?_ _)
  all_goals first | exact h | exact hb
theorem setK_other {w : World} {b c : Nat} (h : c ≠ b) (k : Knot) : (setK w b k).heap[c]? = w.heap[c]? := by
  unfold setK
  iterate 7 rw [Below.heap_setCell _ _ _ _ h]
theorem setK_size (w : World) (b : Nat) (k : Knot) : (setK w b k).heap.size = w.heap.size := by
  unfold setK
  simp [World.setCell]

/-- a pair of two that are there, and are not too long. -/
def mkp (ks : List Knot) (L R : T) (v : Value) (ks' : List Knot) : Prop := v = .int .i64 (ks.length + 1 : Nat) ∧ WF ks' ∧ Is ks' ((ks.length + 1 : Nat) : Int) (.node L R) ∧ Ext ks ks' 1 0

set_option maxHeartbeats 400000 in
theorem jpair_any (g : Nat) (ks : List Knot) (l r : Int) (L R : T) (hw : WF ks) (hl : Is ks l L) (hr : Is ks r R) (h1 : 0 < L.size) (h2 : 0 < R.size) (h3 : L.size + R.size ≤ 1099511627776) (hn : ks.length ≤ small) :
    Does Try.prog (resAr g) 134 #[.agg #[.pointer (some ⟨g, 0, none⟩)], .int .i64 l, .int .i64 r] ks (mkp ks L R) := by
  obtain ⟨m1, m2, m3, m4, m5⟩ := Is.mk_pair hw hl hr h1 h2 h3
  have HM := Lib.hid (And.intro m3 (And.intro m4 m5))
  rintro w F ⟨q, rfl, ha⟩
  have HP := Lib.hid (fun w' (ha : Arena w' g q ks) => pair_any g q ks l r w' ha hn)
  have H1 := Lib.hid (And.intro m1 m2)
  have HA := Lib.hid ha
  have hlt := ha.lt
  clear ha m1 m2 m3 m4 m5 hw hl hr h1 h2 h3 hn
  go_enter Try.func134, Try.ntmps134
  go_wp2_with fail
  refine (HP.out _ (HA.out.below (by (repeat (first | exact Below.refl _ _ | assumption | (refine Below.setCell ?_ (by first | (simp; done) | (simp; omega) | omega) _) | (refine Below.alloc ?_ (by first | (simp; done) | (simp; omega) | omega) _) | (refine Below.drew ?_) | (refine Below.drewN ?_ _) | (refine Below.trans ?_ (Below.mono (by assumption) (by first | (simp; done) | (simp; omega) | omega)))))))).mono ?_
  rintro e w1 hq
  obtain ⟨q', rfl, ha1, hf1⟩ : ∃ q', e = .returned (.tuple #[.int .i64 (ks.length + 1 : Nat), .int .i64 0]) ∧ Arena w1 g q' (ks ++ [pairK ks l r]) ∧ Fr (w.alloc (.cells #[.pointer (some ⟨g, 0, none⟩)] 177)) (foot g q) w1 (foot g q') := by
    rcases hq with ⟨h, _⟩ | ⟨_, h, _⟩ | ⟨_, _, h⟩
    · rw [H1.out.1] at h; cases h
    · have := H1.out.2; omega
    · exact h
  have HF := Lib.hid ((Fr.of_below (F := foot g q) ((Below.refl w.heap.size w).alloc (Nat.le_refl _) (.cells #[.pointer (some ⟨g, 0, none⟩)] 177))).trans hf1)
  have HA1 := Lib.hid ha1
  clear hq ha1 hf1
  go_wp2
  go_ret
  exact ⟨_, _, _, rfl, ⟨rfl, HM.out⟩, ⟨q', rfl, HA1.out⟩, HF.out⟩
end Go.Proofs.Ytoeamnagmehpeaa.Ar


/- Balance: the joiner's left. -/
namespace Go.Proofs.Ytoeamnagmehpeaa.Ar
set_option linter.unusedSimpArgs false
set_option linter.unusedVariables false
open Go Go.RowKit
attribute [local go_sem] lt_add1 lt_self1 size_ne size_ne' size_ne1 size_ne1'
attribute [local irreducible] wpGrow wpThr

/-- what left makes of two. -/
def lefP (ks : List Knot) (L K : T) (v : Value) (ks' : List Knot) : Prop := ∃ (t : Int) (X : T) (n : Nat), v = .int .i64 t ∧ Is ks' t X ∧ WF ks' ∧ Ext ks ks' n 0 ∧
  ((K.high ≤ L.high + 1 ∧ X = .node L K ∧ n = 1) ∨
   (∃ k1 k2, K = .node k1 k2 ∧ L.high + 1 < K.high ∧ k1.high ≤ k2.high ∧ X = .node (.node L k1) k2 ∧ n = 2) ∨
   (∃ m1 m2 k2, K = .node (.node m1 m2) k2 ∧ L.high + 1 < K.high ∧ k2.high < (T.node m1 m2).high ∧ X = .node (.node L m1) (.node m2 k2) ∧ n = 3))

structure JK (w W : World) (g : Nat) (q : Option Nat) (ks : List Knot) (bj bk : Nat) (k : Knot) : Prop where
  ar : Arena W g q ks
  bl : Below w.heap.size w W
  j : blkJ W bj g
  k : blkK W bk k
  gj : w.heap.size ≤ bj
  gk : w.heap.size ≤ bk
theorem JK.below {w W W' : World} {g : Nat} {q : Option Nat} {ks : List Knot} {bj bk : Nat} {k : Knot} (h : JK w W g q ks bj bk k) (hb : Below W.heap.size W W') : JK w W' g q ks bj bk k :=
  ⟨h.ar.below hb, h.bl.trans (hb.mono h.bl.size), h.j.below hb, h.k.below hb, h.gj, h.gk⟩

set_option maxHeartbeats 4000000 in
theorem left_any (g : Nat) (ks : List Knot) (l r : Int) (L K : T) (hw : WF ks) (hl : Is ks l L) (hr : Is ks r K) (h1 : 0 < L.size) (h2 : 0 < K.size) (h3 : L.size + K.size ≤ 1099511627776) (hn : ks.length + 3 ≤ small) :
    Does Try.prog (resAr g) 132 #[.agg #[.pointer (some ⟨g, 0, none⟩)], .int .i64 l, .int .i64 r] ks (lefP ks L K) := by
  rintro w F ⟨q, rfl, ha⟩
  have hkL := hl.knot.2.1
  have hkK := hr.knot.2.1
  have okL := hl.ok hw
  have okK := hr.ok hw
  have bL := T.bounds okL
  have bK := T.bounds okK
  have hlt := ha.lt
  have HG := Lib.hid (fun w' (ha : Arena w' g q ks) => jget_any g q ks r w' ha (by unfold small at hn ⊢; omega))
  have HH := Lib.hid (fun (t : Int) w' (ha : Arena w' g q ks) => bhigh_any g q ks t w' ha (by unfold small at hn ⊢; omega))
  have H0 := Lib.hid (And.intro hl (And.intro hr (And.intro hw (And.intro okL okK))))
  have HA := Lib.hid ha
  have hLh : 0 ≤ L.high ∧ L.high ≤ 1099511627776 := by omega
  have hKh : 0 ≤ K.high ∧ K.high ≤ 1099511627776 := by omega
  obtain ⟨hL0, hL1⟩ := hLh
  obtain ⟨hK0, hK1⟩ := hKh
  have hwr : IntKind.i64.wrap (L.high + 1) = L.high + 1 := IntWalk.i64_in _ (by omega)
  have hkr : (getK ks r).high = K.high := hkK
  have HL := Lib.hid hkL
  unfold Knot.val at HG
  clear ha hkL hkK hl hr hw okL okK bL bK
  have HKR := Lib.hid hkr
  clear hkr
  have HKN := Lib.hid (Eq.refl (getK ks r))
  generalize hk : getK ks r = k at HG HKR
  have HKK := Lib.hid hk
  clear hk HKN
  go_enter Try.func132, Try.ntmps132
  go_wp2_with fail
  refine (HG.out _ (HA.out.below (by (repeat (first | exact Below.refl _ _ | assumption | (refine Below.setCell ?_ (by first | (simp; done) | (simp; omega) | omega) _) | (refine Below.alloc ?_ (by first | (simp; done) | (simp; omega) | omega) _) | (refine Below.drew ?_) | (refine Below.drewN ?_ _) | (refine Below.trans ?_ (Below.mono (by assumption) (by first | (simp; done) | (simp; omega) | omega)))))))).mono ?_
  rintro e w1 ⟨rfl, hb1⟩
  have HJ : Hid (JK w (w1.alloc (.cells #[.int .i64 k.left, .int .i64 k.right, .int .i64 k.off, .int .i64 k.len, .int .i64 k.high, .int .i64 k.leaves, .int .i64 k.feeds] 50)) g q ks w.heap.size w1.heap.size k) := by
    have hb0 : Below w.heap.size w (w.alloc (.cells #[.pointer (some ⟨g, 0, none⟩)] 177)) := (Below.refl _ _).alloc (Nat.le_refl _) _
    have j0 : blkJ (w.alloc (.cells #[.pointer (some ⟨g, 0, none⟩)] 177)) w.heap.size g := heap_alloc_new _ _
    have hb2 : Below w1.heap.size w1 (w1.alloc (.cells #[.int .i64 k.left, .int .i64 k.right, .int .i64 k.off, .int .i64 k.len, .int .i64 k.high, .int .i64 k.leaves, .int .i64 k.feeds] 50)) := (Below.refl _ _).alloc (Nat.le_refl _) _
    have hb01 := hb0.trans (hb1.mono hb0.size)
    exact Lib.hid ⟨((HA.out.below hb0).below hb1).below hb2, hb01.trans (hb2.mono hb01.size), (j0.below hb1).below hb2, heap_alloc_new _ _, Nat.le_refl _, hb01.size⟩
  clear hb1
  go_wp2_with fail
  generalize w1.alloc (.cells #[.int .i64 k.left, .int .i64 k.right, .int .i64 k.off, .int .i64 k.len, .int .i64 k.high, .int .i64 k.leaves, .int .i64 k.feeds] 50) = W at HJ ⊢
  generalize hbj : w.heap.size = bj at HJ ⊢
  generalize w1.heap.size = bk at HJ ⊢
  have HNF := Lib.hid (fun b (hb : bj ≤ b) => (show ¬ foot g q b from fun hf => by
    subst hbj
    rcases hf with rfl | e
    · omega
    · have := HA.out.row_lt e; omega))
  by_cases hc : K.high ≤ L.high + 1
  · have c4 : W.cell? ⟨bk, 4, none⟩ = some (.int .i64 K.high) := by rw [← HKR.out]; exact HJ.out.k.c4
    have cj := HJ.out.j.c
    have hltj := HJ.out.j.lt
    have hltk := HJ.out.k.lt
    refine wp_region_grow 9 (by kernel_rfl) (by kernel_rfl) ?_
    simp only [List.take_succ_cons, List.take_zero, List.drop_succ_cons, List.drop_zero, List.take_nil, List.drop_nil]
    iterate 5 ((refine wpGrow_val' rfl rfl ?_; apply Exists.intro; refine ⟨fun w1 hw1 => ?_, ?_⟩); (have hc1 := hw1.cell; go_simp; exact growUpon_ok rfl); (refine wpGrow_at (by (simp only [Act.put, List.setIfInBounds_toArray, List.set_cons_succ, List.set_cons_zero]) <;> exact rfl) ?_))
    (refine wpGrow_val' rfl rfl ?_; apply Exists.intro; refine ⟨fun w1 hw1 => ?_, ?_⟩)
    · go_simp
      have := HH.out l _ (HJ.out.ar.below hw1.below)
      rw [HL.out] at this
      exact growUpon_call this
    (refine wpGrow_at (by (simp only [Act.put, List.setIfInBounds_toArray, List.set_cons_succ, List.set_cons_zero]) <;> exact rfl) ?_)
    iterate 3 ((refine wpGrow_val' rfl rfl ?_; apply Exists.intro; refine ⟨fun w1 hw1 => ?_, ?_⟩); (have hc1 := hw1.cell; go_simp; exact growUpon_ok rfl); (refine wpGrow_at (by (simp only [Act.put, List.setIfInBounds_toArray, List.set_cons_succ, List.set_cons_zero]) <;> exact rfl) ?_))
    refine wpGrow_nil ?_
    intro w2 hD
    have HJ2 := Lib.hid (HJ.out.below hD.below)
    have cj := HJ2.out.j.c
    clear hD c4 HJ
    obtain ⟨i1, i2, i3, i4, i5⟩ := H0.out
    have HP := Lib.hid (jpair_any g ks l r L K i3 i1 i2 h1 h2 h3 (by unfold small at hn ⊢; omega) w2 _ ⟨q, rfl, HJ2.out.ar⟩)
    clear i1 i2 i3 i4 i5
    go_wp2_with fail
    refine HP.out.mono ?_
    rintro e w3 ⟨v, ks', F', rfl, ⟨rfl, p1, p2, p3⟩, ha, hf⟩
    have HE := Lib.hid (And.intro p1 (And.intro p2 (And.intro p3 (And.intro ha hf))))
    clear p1 p2 p3 ha hf HP cj
    go_wp2
    go_ret
    obtain ⟨p1, p2, p3, ha, hf⟩ := HE.out
    exact ⟨_, ks', F', rfl, ⟨_, _, 1, rfl, p2, p1, p3, .inl ⟨hc, rfl, rfl⟩⟩, ha, (Fr.of_below HJ2.out.bl).trans hf⟩
  · have hK : ∃ k1 k2, K = .node k1 k2 := by
      cases K with
      | nil => simp [T.high] at hc; omega
      | leaf o n f => simp [T.high] at hc; omega
      | node k1 k2 => exact ⟨k1, k2, rfl⟩
    obtain ⟨k1, k2, rfl⟩ := hK
    obtain ⟨l', r', e1, e2, hI1, hI2, _, _, _, _, hkn⟩ := H0.out.2.1.node_
    have hkl : k.left = l' := by rw [← HKK.out, hkn]
    have hkr : k.right = r' := by rw [← HKK.out, hkn]
    have g1 := hI1.knot.2.1
    have g2 := hI2.knot.2.1
    have HI := Lib.hid (And.intro hI1 (And.intro hI2 (And.intro hkl (And.intro hkr (And.intro g1 g2)))))
    have ok1 : k1.ok ∧ k2.ok ∧ 0 < k1.size ∧ 0 < k2.size ∧ (T.node k1 k2).size = k1.size + k2.size := by
      have := H0.out.2.2.2.2
      exact ⟨this.1, this.2.1, this.2.2.1, this.2.2.2.1, rfl⟩
    obtain ⟨ok1, ok2, s1, s2, s3⟩ := ok1
    have hc' : L.high + 1 < (T.node k1 k2).high := by omega
    have b1 := T.bounds ok1
    have b2 := T.bounds ok2
    have HOK := Lib.hid (And.intro ok1 ok2)
    clear hI1 hI2 hkn hkl hkr g1 g2 ok1 ok2 e1 e2
    have c4 : W.cell? ⟨bk, 4, none⟩ = some (.int .i64 (T.node k1 k2).high) := by rw [← HKR.out]; exact HJ.out.k.c4
    generalize hNe : (T.node k1 k2).high = hN at c4 hc hc' hK0 hK1 HKR
    have HNE := Lib.hid hNe
    clear hNe
    have cj := HJ.out.j.c
    have hltj := HJ.out.j.lt
    have hltk := HJ.out.k.lt
    refine wp_region_grow 9 (by kernel_rfl) (by kernel_rfl) ?_
    simp only [List.take_succ_cons, List.take_zero, List.drop_succ_cons, List.drop_zero, List.take_nil, List.drop_nil]
    iterate 5 ((refine wpGrow_val' rfl rfl ?_; apply Exists.intro; refine ⟨fun w1 hw1 => ?_, ?_⟩); (have hc1 := hw1.cell; go_simp; exact growUpon_ok rfl); (refine wpGrow_at (by (simp only [Act.put, List.setIfInBounds_toArray, List.set_cons_succ, List.set_cons_zero]) <;> exact rfl) ?_))
    (refine wpGrow_val' rfl rfl ?_; apply Exists.intro; refine ⟨fun w1 hw1 => ?_, ?_⟩)
    · go_simp
      have := HH.out l _ (HJ.out.ar.below hw1.below)
      rw [HL.out] at this
      exact growUpon_call this
    (refine wpGrow_at (by (simp only [Act.put, List.setIfInBounds_toArray, List.set_cons_succ, List.set_cons_zero]) <;> exact rfl) ?_)
    iterate 3 ((refine wpGrow_val' rfl rfl ?_; apply Exists.intro; refine ⟨fun w1 hw1 => ?_, ?_⟩); (have hc1 := hw1.cell; go_simp; exact growUpon_ok rfl); (refine wpGrow_at (by (simp only [Act.put, List.setIfInBounds_toArray, List.set_cons_succ, List.set_cons_zero]) <;> exact rfl) ?_))
    refine wpGrow_nil ?_
    intro w2 hD
    have HJ2 := Lib.hid (HJ.out.below hD.below)
    clear hD c4 HJ cj hltj hltk
    have c0 : w2.cell? ⟨bk, 0, none⟩ = some (.int .i64 l') := by rw [← HI.out.2.2.1]; exact HJ2.out.k.c0
    have c1 : w2.cell? ⟨bk, 1, none⟩ = some (.int .i64 r') := by rw [← HI.out.2.2.2.1]; exact HJ2.out.k.c1
    have cj := HJ2.out.j.c
    have hltj := HJ2.out.j.lt
    have hltk := HJ2.out.k.lt
    go_wp2_with fail
    refine wp_region_grow 12 (by kernel_rfl) (by kernel_rfl) ?_
    simp only [List.take_succ_cons, List.take_zero, List.drop_succ_cons, List.drop_zero, List.take_nil, List.drop_nil]
    iterate 4 ((refine wpGrow_val' rfl rfl ?_; apply Exists.intro; refine ⟨fun w1 hw1 => ?_, ?_⟩); (have hc1 := hw1.cell; go_simp; exact growUpon_ok rfl); (refine wpGrow_at (by (simp only [Act.put, List.setIfInBounds_toArray, List.set_cons_succ, List.set_cons_zero]) <;> exact rfl) ?_))
    (refine wpGrow_val' rfl rfl ?_; apply Exists.intro; refine ⟨fun w1 hw1 => ?_, ?_⟩)
    · go_simp
      have := HH.out l' _ (HJ2.out.ar.below hw1.below)
      rw [HI.out.2.2.2.2.1] at this
      exact growUpon_call this
    (refine wpGrow_at (by (simp only [Act.put, List.setIfInBounds_toArray, List.set_cons_succ, List.set_cons_zero]) <;> exact rfl) ?_)
    iterate 4 ((refine wpGrow_val' rfl rfl ?_; apply Exists.intro; refine ⟨fun w1 hw1 => ?_, ?_⟩); (have hc1 := hw1.cell; go_simp; exact growUpon_ok rfl); (refine wpGrow_at (by (simp only [Act.put, List.setIfInBounds_toArray, List.set_cons_succ, List.set_cons_zero]) <;> exact rfl) ?_))
    (refine wpGrow_val' rfl rfl ?_; apply Exists.intro; refine ⟨fun w1 hw1 => ?_, ?_⟩)
    · go_simp
      have := HH.out r' _ (HJ2.out.ar.below hw1.below)
      rw [HI.out.2.2.2.2.2] at this
      exact growUpon_call this
    (refine wpGrow_at (by (simp only [Act.put, List.setIfInBounds_toArray, List.set_cons_succ, List.set_cons_zero]) <;> exact rfl) ?_)
    iterate 2 ((refine wpGrow_val' rfl rfl ?_; apply Exists.intro; refine ⟨fun w1 hw1 => ?_, ?_⟩); (have hc1 := hw1.cell; go_simp; exact growUpon_ok rfl); (refine wpGrow_at (by (simp only [Act.put, List.setIfInBounds_toArray, List.set_cons_succ, List.set_cons_zero]) <;> exact rfl) ?_))
    refine wpGrow_nil ?_
    intro w4 hD
    have HJ4 := Lib.hid (HJ2.out.below hD.below)
    clear hD HJ2 c0 c1 cj hltj hltk
    have c0 : w4.cell? ⟨bk, 0, none⟩ = some (.int .i64 l') := by rw [← HI.out.2.2.1]; exact HJ4.out.k.c0
    have c1 : w4.cell? ⟨bk, 1, none⟩ = some (.int .i64 r') := by rw [← HI.out.2.2.2.1]; exact HJ4.out.k.c1
    have cj := HJ4.out.j.c
    have hltj := HJ4.out.j.lt
    have hltk := HJ4.out.k.lt
    have hnj := HNF.out bj (Nat.le_refl _)
    have hnk := HNF.out bk (by subst hbj; exact HJ4.out.gk)
    by_cases hd : k2.high < k1.high
    · have hK : ∃ m1 m2, k1 = .node m1 m2 := by
        cases k1 with
        | nil => simp [T.high] at hd; omega
        | leaf o n f => simp [T.high] at hd; omega
        | node m1 m2 => exact ⟨m1, m2, rfl⟩
      obtain ⟨m1, m2, rfl⟩ := hK
      obtain ⟨l2, r2, e1, e2, hI1, hI2, _, _, _, _, hkn⟩ := HI.out.1.node_
      have ok1 : m1.ok ∧ m2.ok ∧ 0 < m1.size ∧ 0 < m2.size ∧ (T.node m1 m2).size = m1.size + m2.size := by
        have := HOK.out.1
        exact ⟨this.1, this.2.1, this.2.2.1, this.2.2.2.1, rfl⟩
      obtain ⟨ok1, ok2, s4, s5, s6⟩ := ok1
      have HI2 := Lib.hid (And.intro hI1 hI2)
      have HG2 := Lib.hid (fun w' (ha : Arena w' g q ks) => jget_any g q ks l' w' ha (by unfold small at hn ⊢; omega))
      rw [hkn] at HG2
      unfold Knot.val at HG2
      simp only at HG2
      clear hI1 hI2 hkn ok1 ok2 e1 e2 b1 b2
      generalize hMe : (T.node m1 m2).high = hM at hd
      have HME := Lib.hid hMe
      clear hMe
      generalize m1.size + m2.size = z1 at HG2
      generalize 1 + max m1.high m2.high = z2 at HG2
      generalize m1.many + m2.many = z3 at HG2
      generalize m1.feeds + m2.feeds = z4 at HG2
      have hd' : decide (k2.high < hM) = true := by simpa using hd
      go_wp2_with fail
      ((with_reducible refine (HG2.out _ HJ4.out.ar).mono ?_); rintro e w5 ⟨rfl, hb5⟩)
      have HJ6 : Hid (JK w (w5.alloc (.cells #[.int .i64 l2, .int .i64 r2, .int .i64 0, .int .i64 z1, .int .i64 z2, .int .i64 z3, .int .i64 z4] 50)) g q ks bj bk k ∧ blkK (w5.alloc (.cells #[.int .i64 l2, .int .i64 r2, .int .i64 0, .int .i64 z1, .int .i64 z2, .int .i64 z3, .int .i64 z4] 50)) w5.heap.size ⟨l2, r2, 0, z1, z2, z3, z4⟩ ∧ bj ≤ w5.heap.size) :=
        Lib.hid ⟨(HJ4.out.below hb5).below ((Below.refl _ _).alloc (Nat.le_refl _) _), heap_alloc_new _ _, by have := hb5.size; omega⟩
      clear hb5 c0 c1 cj hnj hnk hltj hltk HG2
      go_wp2_with fail
      generalize w5.alloc (.cells #[.int .i64 l2, .int .i64 r2, .int .i64 0, .int .i64 z1, .int .i64 z2, .int .i64 z3, .int .i64 z4] 50) = w6 at HJ6 ⊢
      generalize w5.heap.size = bm at HJ6 ⊢
      have HR : Hid (∀ s bs w1, (resCls (resAr g) w6 (foot g q)).In s bs w1 → w1.cell? ⟨bj, 0, none⟩ = some (.pointer (some ⟨g, 0, none⟩)) ∧ w1.cell? ⟨bk, 1, none⟩ = some (.int .i64 r') ∧ w1.cell? ⟨bm, 0, none⟩ = some (.int .i64 l2) ∧ w1.cell? ⟨bm, 1, none⟩ = some (.int .i64 r2)) := Lib.hid (fun s bs w1 hw1 =>
        ⟨(resCls_cell hw1 HJ6.out.1.j.lt (HNF.out bj (Nat.le_refl _)) 0).trans HJ6.out.1.j.c, (resCls_cell hw1 HJ6.out.1.k.lt (HNF.out bk (by subst hbj; exact HJ6.out.1.gk)) 1).trans (by rw [← HI.out.2.2.2.1]; exact HJ6.out.1.k.c1),
          (resCls_cell hw1 HJ6.out.2.1.lt (HNF.out bm HJ6.out.2.2) 0).trans HJ6.out.2.1.c0, (resCls_cell hw1 HJ6.out.2.1.lt (HNF.out bm HJ6.out.2.2) 1).trans HJ6.out.2.1.c1⟩)
      refine wp_region_thr (resCls (resAr g) w6 (foot g q)) ks 14 [0, 1, 2, 3, 4, 6, 7, 8, 9, 10, 5, 11, 12, 13] _ (by kernel_rfl) (by kernel_rfl) (by kernel_rfl) rfl (resCls_start ⟨q, rfl, HJ6.out.1.ar⟩) ?_
      (simp only [List.filterMap_cons, List.filterMap_nil, List.getElem?_cons_zero, List.getElem?_cons_succ, List.drop_succ_cons, List.drop_zero, List.drop_nil])
      iterate 10 ((refine wpThr_val rfl rfl rfl ?_; apply Exists.intro; refine ⟨fun s1 bs1 w1 hb1 hw1 => ?_, ?_⟩); (have hc1 := HR.out s1 bs1 w1 hw1; go_simp; exact growUpon_ok rfl); (refine wpThr_at (by (simp only [Act.put, List.setIfInBounds_toArray, List.set_cons_succ, List.set_cons_zero]) <;> exact rfl) ?_))
      refine wpThr_call (mkp ks L m1) rfl rfl rfl ?_ ?_
      · intro bs1 w1 hb1 hw1
        go_simp
        exact resCls_upon (jpair_any g ks l l2 L m1 H0.out.2.2.1 H0.out.1 HI2.out.1 h1 s4 (by omega) (by unfold small at hn ⊢; omega)) hw1
      rintro v ks1 ⟨rfl, p1, p2, p3⟩
      (refine wpThr_at (by (simp only [Act.put, List.setIfInBounds_toArray, List.set_cons_succ, List.set_cons_zero]) <;> exact rfl) ?_)
      refine wpThr_call (fun v ks' => mkp ks1 m2 k2 v ks' ∧ Is ks' ((ks.length + 1 : Nat) : Int) (.node L m1)) rfl rfl rfl ?_ ?_
      · intro bs1 w1 hb1 hw1
        go_simp
        have hlen := p3.len
        exact resCls_upon ((jpair_any g ks1 r2 r' m2 k2 p1 (HI2.out.2.ext p3) (HI.out.2.1.ext p3) s5 s2 (by omega) (by unfold small at hn ⊢; omega)).mono fun v ks' h => ⟨h, p2.ext h.2.2.2⟩) hw1
      rintro v ks2 ⟨⟨rfl, p4, p5, p6⟩, p7⟩
      (refine wpThr_at (by (simp only [Act.put, List.setIfInBounds_toArray, List.set_cons_succ, List.set_cons_zero]) <;> exact rfl) ?_)
      refine wpThr_call (mkp ks2 (.node L m1) (.node m2 k2)) rfl rfl rfl ?_ ?_
      · intro bs1 w1 hb1 hw1
        go_simp
        have hlen := p3.len
        have hlen2 := p6.len
        exact resCls_upon (jpair_any g ks2 _ _ (.node L m1) (.node m2 k2) p4 p7 p5 (by simp only [T.size]; omega) (by simp only [T.size]; omega) (by simp only [T.size]; omega) (by unfold small at hn ⊢; omega)) hw1
      rintro v ks3 ⟨rfl, p8, p9, p10⟩
      (refine wpThr_at (by (simp only [Act.put, List.setIfInBounds_toArray, List.set_cons_succ, List.set_cons_zero]) <;> exact rfl) ?_)
      ((refine wpThr_val rfl rfl rfl ?_; apply Exists.intro; refine ⟨fun s1 bs1 w1 hb1 hw1 => ?_, ?_⟩); (have hc1 := HR.out s1 bs1 w1 hw1; go_simp; exact growUpon_ok rfl); (refine wpThr_at (by (simp only [Act.put, List.setIfInBounds_toArray, List.set_cons_succ, List.set_cons_zero]) <;> exact rfl) ?_))
      refine wpThr_nil ?_
      rintro w7 ⟨F', ha, hf, _⟩
      have HE := Lib.hid (And.intro p8 (And.intro p9 (And.intro ((p3.trans p6).trans p10) (And.intro ha hf))))
      clear p1 p2 p3 p4 p5 p6 p7 p8 p9 p10 ha hf
      go_wp2
      go_ret
      obtain ⟨p1, p2, p3, ha, hf⟩ := HE.out
      exact ⟨_, ks3, F', rfl, ⟨_, _, 3, rfl, p2, p1, p3, .inr (.inr ⟨m1, m2, k2, rfl, by rw [HNE.out]; exact hc', by rw [HME.out]; exact hd, rfl, rfl⟩)⟩, ha, (Fr.of_below HJ6.out.1.bl).trans hf⟩
    · go_wp2_with fail
      have HR : Hid (∀ s bs w1, (resCls (resAr g) w4 (foot g q)).In s bs w1 → w1.cell? ⟨bj, 0, none⟩ = some (.pointer (some ⟨g, 0, none⟩)) ∧ w1.cell? ⟨bk, 0, none⟩ = some (.int .i64 l') ∧ w1.cell? ⟨bk, 1, none⟩ = some (.int .i64 r')) := Lib.hid (fun s bs w1 hw1 =>
        ⟨(resCls_cell hw1 hltj hnj 0).trans cj, (resCls_cell hw1 hltk hnk 0).trans c0, (resCls_cell hw1 hltk hnk 1).trans c1⟩)
      clear c0 c1 cj
      refine wp_region_thr (resCls (resAr g) w4 (foot g q)) ks 10 [0, 1, 2, 3, 4, 6, 7, 5, 8, 9] _ (by kernel_rfl) (by kernel_rfl) (by kernel_rfl) rfl (resCls_start ⟨q, rfl, HJ4.out.ar⟩) ?_
      (simp only [List.filterMap_cons, List.filterMap_nil, List.getElem?_cons_zero, List.getElem?_cons_succ, List.drop_succ_cons, List.drop_zero, List.drop_nil])
      iterate 7 ((refine wpThr_val rfl rfl rfl ?_; apply Exists.intro; refine ⟨fun s1 bs1 w1 hb1 hw1 => ?_, ?_⟩); (have hc1 := HR.out s1 bs1 w1 hw1; go_simp; exact growUpon_ok rfl); (refine wpThr_at (by (simp only [Act.put, List.setIfInBounds_toArray, List.set_cons_succ, List.set_cons_zero]) <;> exact rfl) ?_))
      refine wpThr_call (mkp ks L k1) rfl rfl rfl ?_ ?_
      · intro bs1 w1 hb1 hw1
        go_simp
        exact resCls_upon (jpair_any g ks l l' L k1 H0.out.2.2.1 H0.out.1 HI.out.1 h1 s1 (by omega) (by unfold small at hn ⊢; omega)) hw1
      rintro v ks1 ⟨rfl, p1, p2, p3⟩
      (refine wpThr_at (by (simp only [Act.put, List.setIfInBounds_toArray, List.set_cons_succ, List.set_cons_zero]) <;> exact rfl) ?_)
      refine wpThr_call (mkp ks1 (.node L k1) k2) rfl rfl rfl ?_ ?_
      · intro bs1 w1 hb1 hw1
        go_simp
        have hlen := p3.len
        exact resCls_upon (jpair_any g ks1 _ r' (.node L k1) k2 p1 p2 (HI.out.2.1.ext p3) (by simp only [T.size]; omega) s2 (by simp only [T.size]; omega) (by unfold small at hn ⊢; omega)) hw1
      rintro v ks2 ⟨rfl, p4, p5, p6⟩
      (refine wpThr_at (by (simp only [Act.put, List.setIfInBounds_toArray, List.set_cons_succ, List.set_cons_zero]) <;> exact rfl) ?_)
      ((refine wpThr_val rfl rfl rfl ?_; apply Exists.intro; refine ⟨fun s1 bs1 w1 hb1 hw1 => ?_, ?_⟩); (have hc1 := HR.out s1 bs1 w1 hw1; go_simp; exact growUpon_ok rfl); (refine wpThr_at (by (simp only [Act.put, List.setIfInBounds_toArray, List.set_cons_succ, List.set_cons_zero]) <;> exact rfl) ?_))
      refine wpThr_nil ?_
      rintro w5 ⟨F', ha, hf, _⟩
      have HE := Lib.hid (And.intro p4 (And.intro p5 (And.intro (p3.trans p6) (And.intro ha hf))))
      clear p1 p2 p3 p4 p5 p6 ha hf
      go_wp2
      go_ret
      obtain ⟨p1, p2, p3, ha, hf⟩ := HE.out
      exact ⟨_, ks2, F', rfl, ⟨_, _, 2, rfl, p2, p1, p3, .inr (.inl ⟨k1, k2, rfl, by rw [HNE.out]; exact hc', by omega, rfl, rfl⟩)⟩, ha, (Fr.of_below HJ4.out.bl).trans hf⟩
end Go.Proofs.Ytoeamnagmehpeaa.Ar


/- Balance: the joiner's right. -/
namespace Go.Proofs.Ytoeamnagmehpeaa.Ar
set_option linter.unusedSimpArgs false
set_option linter.unusedVariables false
open Go Go.RowKit
attribute [local go_sem] lt_add1 lt_self1 size_ne size_ne' size_ne1 size_ne1'
attribute [local irreducible] wpGrow wpThr

/-- what right makes of two. -/
def rigP (ks : List Knot) (K R : T) (v : Value) (ks' : List Knot) : Prop := ∃ (t : Int) (X : T) (n : Nat), v = .int .i64 t ∧ Is ks' t X ∧ WF ks' ∧ Ext ks ks' n 0 ∧
  ((K.high ≤ R.high + 1 ∧ X = .node K R ∧ n = 1) ∨
   (∃ k1 k2, K = .node k1 k2 ∧ R.high + 1 < K.high ∧ k2.high ≤ k1.high ∧ X = .node k1 (.node k2 R) ∧ n = 2) ∨
   (∃ k1 m1 m2, K = .node k1 (.node m1 m2) ∧ R.high + 1 < K.high ∧ k1.high < (T.node m1 m2).high ∧ X = .node (.node k1 m1) (.node m2 R) ∧ n = 3))

set_option maxHeartbeats 4000000 in
theorem right_any (g : Nat) (ks : List Knot) (r l : Int) (K L : T) (hw : WF ks) (hr : Is ks r K) (hl : Is ks l L) (h2 : 0 < K.size) (h1 : 0 < L.size) (h3 : K.size + L.size ≤ 1099511627776) (hn : ks.length + 3 ≤ small) :
    Does Try.prog (resAr g) 133 #[.agg #[.pointer (some ⟨g, 0, none⟩)], .int .i64 r, .int .i64 l] ks (rigP ks K L) := by
  rintro w F ⟨q, rfl, ha⟩
  have hkL := hl.knot.2.1
  have hkK := hr.knot.2.1
  have okL := hl.ok hw
  have okK := hr.ok hw
  have bL := T.bounds okL
  have bK := T.bounds okK
  have hlt := ha.lt
  have HG := Lib.hid (fun w' (ha : Arena w' g q ks) => jget_any g q ks r w' ha (by unfold small at hn ⊢; omega))
  have HH := Lib.hid (fun (t : Int) w' (ha : Arena w' g q ks) => bhigh_any g q ks t w' ha (by unfold small at hn ⊢; omega))
  have H0 := Lib.hid (And.intro hl (And.intro hr (And.intro hw (And.intro okL okK))))
  have HA := Lib.hid ha
  have hLh : 0 ≤ L.high ∧ L.high ≤ 1099511627776 := by omega
  have hKh : 0 ≤ K.high ∧ K.high ≤ 1099511627776 := by omega
  obtain ⟨hL0, hL1⟩ := hLh
  obtain ⟨hK0, hK1⟩ := hKh
  have hwr : IntKind.i64.wrap (L.high + 1) = L.high + 1 := IntWalk.i64_in _ (by omega)
  have hkr : (getK ks r).high = K.high := hkK
  have HL := Lib.hid hkL
  unfold Knot.val at HG
  clear ha hkL hkK hl hr hw okL okK bL bK
  have HKR := Lib.hid hkr
  clear hkr
  have HKN := Lib.hid (Eq.refl (getK ks r))
  generalize hk : getK ks r = k at HG HKR
  have HKK := Lib.hid hk
  clear hk HKN
  go_enter Try.func133, Try.ntmps133
  go_wp2_with fail
  refine (HG.out _ (HA.out.below (by (repeat (first | exact Below.refl _ _ | assumption | (refine Below.setCell ?_ (by first | (simp; done) | (simp; omega) | omega) _) | (refine Below.alloc ?_ (by first | (simp; done) | (simp; omega) | omega) _) | (refine Below.drew ?_) | (refine Below.drewN ?_ _) | (refine Below.trans ?_ (Below.mono (by assumption) (by first | (simp; done) | (simp; omega) | omega)))))))).mono ?_
  rintro e w1 ⟨rfl, hb1⟩
  have HJ : Hid (JK w (w1.alloc (.cells #[.int .i64 k.left, .int .i64 k.right, .int .i64 k.off, .int .i64 k.len, .int .i64 k.high, .int .i64 k.leaves, .int .i64 k.feeds] 50)) g q ks w.heap.size w1.heap.size k) := by
    have hb0 : Below w.heap.size w (w.alloc (.cells #[.pointer (some ⟨g, 0, none⟩)] 177)) := (Below.refl _ _).alloc (Nat.le_refl _) _
    have j0 : blkJ (w.alloc (.cells #[.pointer (some ⟨g, 0, none⟩)] 177)) w.heap.size g := heap_alloc_new _ _
    have hb2 : Below w1.heap.size w1 (w1.alloc (.cells #[.int .i64 k.left, .int .i64 k.right, .int .i64 k.off, .int .i64 k.len, .int .i64 k.high, .int .i64 k.leaves, .int .i64 k.feeds] 50)) := (Below.refl _ _).alloc (Nat.le_refl _) _
    have hb01 := hb0.trans (hb1.mono hb0.size)
    exact Lib.hid ⟨((HA.out.below hb0).below hb1).below hb2, hb01.trans (hb2.mono hb01.size), (j0.below hb1).below hb2, heap_alloc_new _ _, Nat.le_refl _, hb01.size⟩
  clear hb1
  go_wp2_with fail
  generalize w1.alloc (.cells #[.int .i64 k.left, .int .i64 k.right, .int .i64 k.off, .int .i64 k.len, .int .i64 k.high, .int .i64 k.leaves, .int .i64 k.feeds] 50) = W at HJ ⊢
  generalize hbj : w.heap.size = bj at HJ ⊢
  generalize w1.heap.size = bk at HJ ⊢
  have HNF := Lib.hid (fun b (hb : bj ≤ b) => (show ¬ foot g q b from fun hf => by
    subst hbj
    rcases hf with rfl | e
    · omega
    · have := HA.out.row_lt e; omega))
  by_cases hc : K.high ≤ L.high + 1
  · have c4 : W.cell? ⟨bk, 4, none⟩ = some (.int .i64 K.high) := by rw [← HKR.out]; exact HJ.out.k.c4
    have cj := HJ.out.j.c
    have hltj := HJ.out.j.lt
    have hltk := HJ.out.k.lt
    refine wp_region_grow 9 (by kernel_rfl) (by kernel_rfl) ?_
    simp only [List.take_succ_cons, List.take_zero, List.drop_succ_cons, List.drop_zero, List.take_nil, List.drop_nil]
    iterate 5 ((refine wpGrow_val' rfl rfl ?_; apply Exists.intro; refine ⟨fun w1 hw1 => ?_, ?_⟩); (have hc1 := hw1.cell; go_simp; exact growUpon_ok rfl); (refine wpGrow_at (by (simp only [Act.put, List.setIfInBounds_toArray, List.set_cons_succ, List.set_cons_zero]) <;> exact rfl) ?_))
    (refine wpGrow_val' rfl rfl ?_; apply Exists.intro; refine ⟨fun w1 hw1 => ?_, ?_⟩)
    · go_simp
      have := HH.out l _ (HJ.out.ar.below hw1.below)
      rw [HL.out] at this
      exact growUpon_call this
    (refine wpGrow_at (by (simp only [Act.put, List.setIfInBounds_toArray, List.set_cons_succ, List.set_cons_zero]) <;> exact rfl) ?_)
    iterate 3 ((refine wpGrow_val' rfl rfl ?_; apply Exists.intro; refine ⟨fun w1 hw1 => ?_, ?_⟩); (have hc1 := hw1.cell; go_simp; exact growUpon_ok rfl); (refine wpGrow_at (by (simp only [Act.put, List.setIfInBounds_toArray, List.set_cons_succ, List.set_cons_zero]) <;> exact rfl) ?_))
    refine wpGrow_nil ?_
    intro w2 hD
    have HJ2 := Lib.hid (HJ.out.below hD.below)
    have cj := HJ2.out.j.c
    clear hD c4 HJ
    obtain ⟨i1, i2, i3, i4, i5⟩ := H0.out
    have HP := Lib.hid (jpair_any g ks r l K L i3 i2 i1 h2 h1 h3 (by unfold small at hn ⊢; omega) w2 _ ⟨q, rfl, HJ2.out.ar⟩)
    clear i1 i2 i3 i4 i5
    go_wp2_with fail
    refine HP.out.mono ?_
    rintro e w3 ⟨v, ks', F', rfl, ⟨rfl, p1, p2, p3⟩, ha, hf⟩
    have HE := Lib.hid (And.intro p1 (And.intro p2 (And.intro p3 (And.intro ha hf))))
    clear p1 p2 p3 ha hf HP cj
    go_wp2
    go_ret
    obtain ⟨p1, p2, p3, ha, hf⟩ := HE.out
    exact ⟨_, ks', F', rfl, ⟨_, _, 1, rfl, p2, p1, p3, .inl ⟨hc, rfl, rfl⟩⟩, ha, (Fr.of_below HJ2.out.bl).trans hf⟩
  · have hK : ∃ k1 k2, K = .node k1 k2 := by
      cases K with
      | nil => simp [T.high] at hc; omega
      | leaf o n f => simp [T.high] at hc; omega
      | node k1 k2 => exact ⟨k1, k2, rfl⟩
    obtain ⟨k1, k2, rfl⟩ := hK
    obtain ⟨l', r', e1, e2, hI1, hI2, _, _, _, _, hkn⟩ := H0.out.2.1.node_
    have hkl : k.left = l' := by rw [← HKK.out, hkn]
    have hkr : k.right = r' := by rw [← HKK.out, hkn]
    have g1 := hI1.knot.2.1
    have g2 := hI2.knot.2.1
    have HI := Lib.hid (And.intro hI1 (And.intro hI2 (And.intro hkl (And.intro hkr (And.intro g1 g2)))))
    have ok1 : k1.ok ∧ k2.ok ∧ 0 < k1.size ∧ 0 < k2.size ∧ (T.node k1 k2).size = k1.size + k2.size := by
      have := H0.out.2.2.2.2
      exact ⟨this.1, this.2.1, this.2.2.1, this.2.2.2.1, rfl⟩
    obtain ⟨ok1, ok2, s1, s2, s3⟩ := ok1
    have hc' : L.high + 1 < (T.node k1 k2).high := by omega
    have b1 := T.bounds ok1
    have b2 := T.bounds ok2
    have HOK := Lib.hid (And.intro ok1 ok2)
    clear hI1 hI2 hkn hkl hkr g1 g2 ok1 ok2 e1 e2
    have c4 : W.cell? ⟨bk, 4, none⟩ = some (.int .i64 (T.node k1 k2).high) := by rw [← HKR.out]; exact HJ.out.k.c4
    generalize hNe : (T.node k1 k2).high = hN at c4 hc hc' hK0 hK1 HKR
    have HNE := Lib.hid hNe
    clear hNe
    have cj := HJ.out.j.c
    have hltj := HJ.out.j.lt
    have hltk := HJ.out.k.lt
    refine wp_region_grow 9 (by kernel_rfl) (by kernel_rfl) ?_
    simp only [List.take_succ_cons, List.take_zero, List.drop_succ_cons, List.drop_zero, List.take_nil, List.drop_nil]
    iterate 5 ((refine wpGrow_val' rfl rfl ?_; apply Exists.intro; refine ⟨fun w1 hw1 => ?_, ?_⟩); (have hc1 := hw1.cell; go_simp; exact growUpon_ok rfl); (refine wpGrow_at (by (simp only [Act.put, List.setIfInBounds_toArray, List.set_cons_succ, List.set_cons_zero]) <;> exact rfl) ?_))
    (refine wpGrow_val' rfl rfl ?_; apply Exists.intro; refine ⟨fun w1 hw1 => ?_, ?_⟩)
    · go_simp
      have := HH.out l _ (HJ.out.ar.below hw1.below)
      rw [HL.out] at this
      exact growUpon_call this
    (refine wpGrow_at (by (simp only [Act.put, List.setIfInBounds_toArray, List.set_cons_succ, List.set_cons_zero]) <;> exact rfl) ?_)
    iterate 3 ((refine wpGrow_val' rfl rfl ?_; apply Exists.intro; refine ⟨fun w1 hw1 => ?_, ?_⟩); (have hc1 := hw1.cell; go_simp; exact growUpon_ok rfl); (refine wpGrow_at (by (simp only [Act.put, List.setIfInBounds_toArray, List.set_cons_succ, List.set_cons_zero]) <;> exact rfl) ?_))
    refine wpGrow_nil ?_
    intro w2 hD
    have HJ2 := Lib.hid (HJ.out.below hD.below)
    clear hD c4 HJ cj hltj hltk
    have c0 : w2.cell? ⟨bk, 0, none⟩ = some (.int .i64 l') := by rw [← HI.out.2.2.1]; exact HJ2.out.k.c0
    have c1 : w2.cell? ⟨bk, 1, none⟩ = some (.int .i64 r') := by rw [← HI.out.2.2.2.1]; exact HJ2.out.k.c1
    have cj := HJ2.out.j.c
    have hltj := HJ2.out.j.lt
    have hltk := HJ2.out.k.lt
    go_wp2_with fail
    refine wp_region_grow 12 (by kernel_rfl) (by kernel_rfl) ?_
    simp only [List.take_succ_cons, List.take_zero, List.drop_succ_cons, List.drop_zero, List.take_nil, List.drop_nil]
    iterate 4 ((refine wpGrow_val' rfl rfl ?_; apply Exists.intro; refine ⟨fun w1 hw1 => ?_, ?_⟩); (have hc1 := hw1.cell; go_simp; exact growUpon_ok rfl); (refine wpGrow_at (by (simp only [Act.put, List.setIfInBounds_toArray, List.set_cons_succ, List.set_cons_zero]) <;> exact rfl) ?_))
    (refine wpGrow_val' rfl rfl ?_; apply Exists.intro; refine ⟨fun w1 hw1 => ?_, ?_⟩)
    · go_simp
      have := HH.out r' _ (HJ2.out.ar.below hw1.below)
      rw [HI.out.2.2.2.2.2] at this
      exact growUpon_call this
    (refine wpGrow_at (by (simp only [Act.put, List.setIfInBounds_toArray, List.set_cons_succ, List.set_cons_zero]) <;> exact rfl) ?_)
    iterate 4 ((refine wpGrow_val' rfl rfl ?_; apply Exists.intro; refine ⟨fun w1 hw1 => ?_, ?_⟩); (have hc1 := hw1.cell; go_simp; exact growUpon_ok rfl); (refine wpGrow_at (by (simp only [Act.put, List.setIfInBounds_toArray, List.set_cons_succ, List.set_cons_zero]) <;> exact rfl) ?_))
    (refine wpGrow_val' rfl rfl ?_; apply Exists.intro; refine ⟨fun w1 hw1 => ?_, ?_⟩)
    · go_simp
      have := HH.out l' _ (HJ2.out.ar.below hw1.below)
      rw [HI.out.2.2.2.2.1] at this
      exact growUpon_call this
    (refine wpGrow_at (by (simp only [Act.put, List.setIfInBounds_toArray, List.set_cons_succ, List.set_cons_zero]) <;> exact rfl) ?_)
    iterate 2 ((refine wpGrow_val' rfl rfl ?_; apply Exists.intro; refine ⟨fun w1 hw1 => ?_, ?_⟩); (have hc1 := hw1.cell; go_simp; exact growUpon_ok rfl); (refine wpGrow_at (by (simp only [Act.put, List.setIfInBounds_toArray, List.set_cons_succ, List.set_cons_zero]) <;> exact rfl) ?_))
    refine wpGrow_nil ?_
    intro w4 hD
    have HJ4 := Lib.hid (HJ2.out.below hD.below)
    clear hD HJ2 c0 c1 cj hltj hltk
    have c0 : w4.cell? ⟨bk, 0, none⟩ = some (.int .i64 l') := by rw [← HI.out.2.2.1]; exact HJ4.out.k.c0
    have c1 : w4.cell? ⟨bk, 1, none⟩ = some (.int .i64 r') := by rw [← HI.out.2.2.2.1]; exact HJ4.out.k.c1
    have cj := HJ4.out.j.c
    have hltj := HJ4.out.j.lt
    have hltk := HJ4.out.k.lt
    have hnj := HNF.out bj (Nat.le_refl _)
    have hnk := HNF.out bk (by subst hbj; exact HJ4.out.gk)
    by_cases hd : k1.high < k2.high
    · have hK : ∃ m1 m2, k2 = .node m1 m2 := by
        cases k2 with
        | nil => simp [T.high] at hd; omega
        | leaf o n f => simp [T.high] at hd; omega
        | node m1 m2 => exact ⟨m1, m2, rfl⟩
      obtain ⟨m1, m2, rfl⟩ := hK
      obtain ⟨l2, r2, e1, e2, hI1, hI2, _, _, _, _, hkn⟩ := HI.out.2.1.node_
      have ok1 : m1.ok ∧ m2.ok ∧ 0 < m1.size ∧ 0 < m2.size ∧ (T.node m1 m2).size = m1.size + m2.size := by
        have := HOK.out.2
        exact ⟨this.1, this.2.1, this.2.2.1, this.2.2.2.1, rfl⟩
      obtain ⟨ok1, ok2, s4, s5, s6⟩ := ok1
      have HI2 := Lib.hid (And.intro hI1 hI2)
      have HG2 := Lib.hid (fun w' (ha : Arena w' g q ks) => jget_any g q ks r' w' ha (by unfold small at hn ⊢; omega))
      rw [hkn] at HG2
      unfold Knot.val at HG2
      simp only at HG2
      clear hI1 hI2 hkn ok1 ok2 e1 e2 b1 b2
      generalize hMe : (T.node m1 m2).high = hM at hd
      have HME := Lib.hid hMe
      clear hMe
      generalize m1.size + m2.size = z1 at HG2
      generalize 1 + max m1.high m2.high = z2 at HG2
      generalize m1.many + m2.many = z3 at HG2
      generalize m1.feeds + m2.feeds = z4 at HG2
      have hd' : decide (k1.high < hM) = true := by simpa using hd
      go_wp2_with fail
      ((with_reducible refine (HG2.out _ HJ4.out.ar).mono ?_); rintro e w5 ⟨rfl, hb5⟩)
      have HJ6 : Hid (JK w (w5.alloc (.cells #[.int .i64 l2, .int .i64 r2, .int .i64 0, .int .i64 z1, .int .i64 z2, .int .i64 z3, .int .i64 z4] 50)) g q ks bj bk k ∧ blkK (w5.alloc (.cells #[.int .i64 l2, .int .i64 r2, .int .i64 0, .int .i64 z1, .int .i64 z2, .int .i64 z3, .int .i64 z4] 50)) w5.heap.size ⟨l2, r2, 0, z1, z2, z3, z4⟩ ∧ bj ≤ w5.heap.size) :=
        Lib.hid ⟨(HJ4.out.below hb5).below ((Below.refl _ _).alloc (Nat.le_refl _) _), heap_alloc_new _ _, by have := hb5.size; omega⟩
      clear hb5 c0 c1 cj hnj hnk hltj hltk HG2
      go_wp2_with fail
      generalize w5.alloc (.cells #[.int .i64 l2, .int .i64 r2, .int .i64 0, .int .i64 z1, .int .i64 z2, .int .i64 z3, .int .i64 z4] 50) = w6 at HJ6 ⊢
      generalize w5.heap.size = bm at HJ6 ⊢
      have HR : Hid (∀ s bs w1, (resCls (resAr g) w6 (foot g q)).In s bs w1 → w1.cell? ⟨bj, 0, none⟩ = some (.pointer (some ⟨g, 0, none⟩)) ∧ w1.cell? ⟨bk, 0, none⟩ = some (.int .i64 l') ∧ w1.cell? ⟨bm, 0, none⟩ = some (.int .i64 l2) ∧ w1.cell? ⟨bm, 1, none⟩ = some (.int .i64 r2)) := Lib.hid (fun s bs w1 hw1 =>
        ⟨(resCls_cell hw1 HJ6.out.1.j.lt (HNF.out bj (Nat.le_refl _)) 0).trans HJ6.out.1.j.c, (resCls_cell hw1 HJ6.out.1.k.lt (HNF.out bk (by subst hbj; exact HJ6.out.1.gk)) 0).trans (by rw [← HI.out.2.2.1]; exact HJ6.out.1.k.c0),
          (resCls_cell hw1 HJ6.out.2.1.lt (HNF.out bm HJ6.out.2.2) 0).trans HJ6.out.2.1.c0, (resCls_cell hw1 HJ6.out.2.1.lt (HNF.out bm HJ6.out.2.2) 1).trans HJ6.out.2.1.c1⟩)
      refine wp_region_thr (resCls (resAr g) w6 (foot g q)) ks 14 [0, 1, 2, 3, 4, 5, 7, 8, 9, 10, 6, 11, 12, 13] _ (by kernel_rfl) (by kernel_rfl) (by kernel_rfl) rfl (resCls_start ⟨q, rfl, HJ6.out.1.ar⟩) ?_
      (simp only [List.filterMap_cons, List.filterMap_nil, List.getElem?_cons_zero, List.getElem?_cons_succ, List.drop_succ_cons, List.drop_zero, List.drop_nil])
      iterate 10 ((refine wpThr_val rfl rfl rfl ?_; apply Exists.intro; refine ⟨fun s1 bs1 w1 hb1 hw1 => ?_, ?_⟩); (have hc1 := HR.out s1 bs1 w1 hw1; go_simp; exact growUpon_ok rfl); (refine wpThr_at (by (simp only [Act.put, List.setIfInBounds_toArray, List.set_cons_succ, List.set_cons_zero]) <;> exact rfl) ?_))
      refine wpThr_call (mkp ks k1 m1) rfl rfl rfl ?_ ?_
      · intro bs1 w1 hb1 hw1
        go_simp
        exact resCls_upon (jpair_any g ks l' l2 k1 m1 H0.out.2.2.1 HI.out.1 HI2.out.1 s1 s4 (by omega) (by unfold small at hn ⊢; omega)) hw1
      rintro v ks1 ⟨rfl, p1, p2, p3⟩
      (refine wpThr_at (by (simp only [Act.put, List.setIfInBounds_toArray, List.set_cons_succ, List.set_cons_zero]) <;> exact rfl) ?_)
      refine wpThr_call (fun v ks' => mkp ks1 m2 L v ks' ∧ Is ks' ((ks.length + 1 : Nat) : Int) (.node k1 m1)) rfl rfl rfl ?_ ?_
      · intro bs1 w1 hb1 hw1
        go_simp
        have hlen := p3.len
        exact resCls_upon ((jpair_any g ks1 r2 l m2 L p1 (HI2.out.2.ext p3) (H0.out.1.ext p3) s5 h1 (by omega) (by unfold small at hn ⊢; omega)).mono fun v ks' h => ⟨h, p2.ext h.2.2.2⟩) hw1
      rintro v ks2 ⟨⟨rfl, p4, p5, p6⟩, p7⟩
      (refine wpThr_at (by (simp only [Act.put, List.setIfInBounds_toArray, List.set_cons_succ, List.set_cons_zero]) <;> exact rfl) ?_)
      refine wpThr_call (mkp ks2 (.node k1 m1) (.node m2 L)) rfl rfl rfl ?_ ?_
      · intro bs1 w1 hb1 hw1
        go_simp
        have hlen := p3.len
        have hlen2 := p6.len
        exact resCls_upon (jpair_any g ks2 _ _ (.node k1 m1) (.node m2 L) p4 p7 p5 (by simp only [T.size]; omega) (by simp only [T.size]; omega) (by simp only [T.size]; omega) (by unfold small at hn ⊢; omega)) hw1
      rintro v ks3 ⟨rfl, p8, p9, p10⟩
      (refine wpThr_at (by (simp only [Act.put, List.setIfInBounds_toArray, List.set_cons_succ, List.set_cons_zero]) <;> exact rfl) ?_)
      ((refine wpThr_val rfl rfl rfl ?_; apply Exists.intro; refine ⟨fun s1 bs1 w1 hb1 hw1 => ?_, ?_⟩); (have hc1 := HR.out s1 bs1 w1 hw1; go_simp; exact growUpon_ok rfl); (refine wpThr_at (by (simp only [Act.put, List.setIfInBounds_toArray, List.set_cons_succ, List.set_cons_zero]) <;> exact rfl) ?_))
      refine wpThr_nil ?_
      rintro w7 ⟨F', ha, hf, _⟩
      have HE := Lib.hid (And.intro p8 (And.intro p9 (And.intro ((p3.trans p6).trans p10) (And.intro ha hf))))
      clear p1 p2 p3 p4 p5 p6 p7 p8 p9 p10 ha hf
      go_wp2
      go_ret
      obtain ⟨p1, p2, p3, ha, hf⟩ := HE.out
      exact ⟨_, ks3, F', rfl, ⟨_, _, 3, rfl, p2, p1, p3, .inr (.inr ⟨k1, m1, m2, rfl, by rw [HNE.out]; exact hc', by rw [HME.out]; exact hd, rfl, rfl⟩)⟩, ha, (Fr.of_below HJ6.out.1.bl).trans hf⟩
    · go_wp2_with fail
      have HR : Hid (∀ s bs w1, (resCls (resAr g) w4 (foot g q)).In s bs w1 → w1.cell? ⟨bj, 0, none⟩ = some (.pointer (some ⟨g, 0, none⟩)) ∧ w1.cell? ⟨bk, 0, none⟩ = some (.int .i64 l') ∧ w1.cell? ⟨bk, 1, none⟩ = some (.int .i64 r')) := Lib.hid (fun s bs w1 hw1 =>
        ⟨(resCls_cell hw1 hltj hnj 0).trans cj, (resCls_cell hw1 hltk hnk 0).trans c0, (resCls_cell hw1 hltk hnk 1).trans c1⟩)
      clear c0 c1 cj
      refine wp_region_thr (resCls (resAr g) w4 (foot g q)) ks 10 [0, 1, 2, 3, 4, 5, 6, 7, 8, 9] _ (by kernel_rfl) (by kernel_rfl) (by kernel_rfl) rfl (resCls_start ⟨q, rfl, HJ4.out.ar⟩) ?_
      (simp only [List.filterMap_cons, List.filterMap_nil, List.getElem?_cons_zero, List.getElem?_cons_succ, List.drop_succ_cons, List.drop_zero, List.drop_nil])
      iterate 7 ((refine wpThr_val rfl rfl rfl ?_; apply Exists.intro; refine ⟨fun s1 bs1 w1 hb1 hw1 => ?_, ?_⟩); (have hc1 := HR.out s1 bs1 w1 hw1; go_simp; exact growUpon_ok rfl); (refine wpThr_at (by (simp only [Act.put, List.setIfInBounds_toArray, List.set_cons_succ, List.set_cons_zero]) <;> exact rfl) ?_))
      refine wpThr_call (mkp ks k2 L) rfl rfl rfl ?_ ?_
      · intro bs1 w1 hb1 hw1
        go_simp
        exact resCls_upon (jpair_any g ks r' l k2 L H0.out.2.2.1 HI.out.2.1 H0.out.1 s2 h1 (by omega) (by unfold small at hn ⊢; omega)) hw1
      rintro v ks1 ⟨rfl, p1, p2, p3⟩
      (refine wpThr_at (by (simp only [Act.put, List.setIfInBounds_toArray, List.set_cons_succ, List.set_cons_zero]) <;> exact rfl) ?_)
      refine wpThr_call (mkp ks1 k1 (.node k2 L)) rfl rfl rfl ?_ ?_
      · intro bs1 w1 hb1 hw1
        go_simp
        have hlen := p3.len
        exact resCls_upon (jpair_any g ks1 l' _ k1 (.node k2 L) p1 (HI.out.1.ext p3) p2 s1 (by simp only [T.size]; omega) (by simp only [T.size]; omega) (by unfold small at hn ⊢; omega)) hw1
      rintro v ks2 ⟨rfl, p4, p5, p6⟩
      (refine wpThr_at (by (simp only [Act.put, List.setIfInBounds_toArray, List.set_cons_succ, List.set_cons_zero]) <;> exact rfl) ?_)
      ((refine wpThr_val rfl rfl rfl ?_; apply Exists.intro; refine ⟨fun s1 bs1 w1 hb1 hw1 => ?_, ?_⟩); (have hc1 := HR.out s1 bs1 w1 hw1; go_simp; exact growUpon_ok rfl); (refine wpThr_at (by (simp only [Act.put, List.setIfInBounds_toArray, List.set_cons_succ, List.set_cons_zero]) <;> exact rfl) ?_))
      refine wpThr_nil ?_
      rintro w5 ⟨F', ha, hf, _⟩
      have HE := Lib.hid (And.intro p4 (And.intro p5 (And.intro (p3.trans p6) (And.intro ha hf))))
      clear p1 p2 p3 p4 p5 p6 ha hf
      go_wp2
      go_ret
      obtain ⟨p1, p2, p3, ha, hf⟩ := HE.out
      exact ⟨_, ks2, F', rfl, ⟨_, _, 2, rfl, p2, p1, p3, .inr (.inl ⟨k1, k2, rfl, by rw [HNE.out]; exact hc', by omega, rfl, rfl⟩)⟩, ha, (Fr.of_below HJ4.out.bl).trans hf⟩
end Go.Proofs.Ytoeamnagmehpeaa.Ar


/- Balance: the joiner's join. -/
namespace Go.Proofs.Ytoeamnagmehpeaa.Ar
set_option linter.unusedSimpArgs false
set_option linter.unusedVariables false
open Go Go.RowKit
attribute [local go_sem] lt_add1 lt_self1 size_ne size_ne' size_ne1 size_ne1'
attribute [local irreducible] wpGrow wpThr

/-- what join makes of two. -/
def joinP (ks : List Knot) (l r : Int) (L R : T) (v : Value) (ks' : List Knot) : Prop := ∃ (t : Int) (X : T) (n : Nat), v = .int .i64 t ∧ Is ks' t X ∧ WF ks' ∧ Ext ks ks' n 0 ∧ JoinOk L R X n ∧ (l = 0 → t = r) ∧ (r = 0 → t = l)

section
variable {ks ks1 ks2 : List Knot} {a b L R X K : T} {n : Nat} {v : Value} {l r : Int}
theorem lef_join (he : Ext ks ks1 n 0) (h : JoinOk b R X n) (h1 : (T.node a b).ok) (h2 : R.ok) (hs : (T.node a b).size + R.size ≤ 1099511627776) (h3 : R.high + 1 < (T.node a b).high) (hl : l ≠ 0) (hr : r ≠ 0) (hp : lefP ks1 a X v ks2) : joinP ks l r (.node a b) R v ks2 := by
  obtain ⟨t, Y, n', rfl, i1, i2, i3, h4⟩ := hp
  rcases h4 with ⟨h4, rfl, rfl⟩ | ⟨k1, k2, rfl, h4, h5, rfl, rfl⟩ | ⟨m1, m2, k2, rfl, h4, h5, rfl, rfl⟩
  · exact ⟨t, _, _, rfl, i1, i2, he.trans i3, h.left1 h1 h2 hs h3 h4, fun e => absurd e hl, fun e => absurd e hr⟩
  · exact ⟨t, _, _, rfl, i1, i2, he.trans i3, h.left3 h1 h2 hs h3 h4 h5, fun e => absurd e hl, fun e => absurd e hr⟩
  · exact ⟨t, _, _, rfl, i1, i2, he.trans i3, h.left2 h1 h2 hs h3 h4 h5, fun e => absurd e hl, fun e => absurd e hr⟩
theorem rig_join (he : Ext ks ks1 n 0) (h : JoinOk L a X n) (h1 : (T.node a b).ok) (h2 : L.ok) (hs : L.size + (T.node a b).size ≤ 1099511627776) (h3 : L.high + 1 < (T.node a b).high) (hl : l ≠ 0) (hr : r ≠ 0) (hp : rigP ks1 X b v ks2) : joinP ks l r L (.node a b) v ks2 := by
  obtain ⟨t, Y, n', rfl, i1, i2, i3, h4⟩ := hp
  rcases h4 with ⟨h4, rfl, rfl⟩ | ⟨k1, k2, rfl, h4, h5, rfl, rfl⟩ | ⟨k1, m1, m2, rfl, h4, h5, rfl, rfl⟩
  · exact ⟨t, _, _, rfl, i1, i2, he.trans i3, h.right1 h1 h2 hs h3 h4, fun e => absurd e hl, fun e => absurd e hr⟩
  · exact ⟨t, _, _, rfl, i1, i2, he.trans i3, h.right3 h1 h2 hs h3 h4 h5, fun e => absurd e hl, fun e => absurd e hr⟩
  · exact ⟨t, _, _, rfl, i1, i2, he.trans i3, h.right2 h1 h2 hs h3 h4 h5, fun e => absurd e hl, fun e => absurd e hr⟩
end

/-- a knot stored into its own variable. -/
theorem wpList_storeK {ops : Array Oper} {Q : Exit → Act → World → Prop} {a : Act} {w : World} {rest : List Oper} {o : Oper} {b : Nat} {k : Knot} {p x : Operand} {v0 v1 v2 v3 v4 v5 v6 : Value} (hop : o.op = .store 50 p x) (hg : o.guard = none) (hd : o.dst = none)
    (hp : a.eval p = .pointer (some ⟨b, 0, none⟩)) (hx : a.eval x = .agg #[.int .i64 k.left, .int .i64 k.right, .int .i64 k.off, .int .i64 k.len, .int .i64 k.high, .int .i64 k.leaves, .int .i64 k.feeds])
    (h : w.heap[b]? = some (.cells #[v0, v1, v2, v3, v4, v5, v6] 50 (0, 0))) (hn : wpList Try.prog ops Q rest a (setK w b k)) : wpList Try.prog ops Q (o :: rest) a w := by
  refine wpList_plain hg fun K hK => ?_
  obtain ⟨dst, op, type, pos, after, guard⟩ := o
  simp only at hop hg hd
  subst hop hg hd
  have hf : ∀ o, w.frozen? ⟨b, o, none⟩ = false := fun o => by simp [World.frozen?, h]
  have z := fun i => cell_of_row w b i _ _ (0, 0) h
  have z0 := z 0
  have z1 := z 1
  have z2 := z 2
  have z3 := z 3
  have z4 := z 4
  have z5 := z 5
  have z6 := z 6
  simp only [List.getElem?_toArray, List.getElem?_cons_zero, List.getElem?_cons_succ] at z0 z1 z2 z3 z4 z5 z6
  clear z h
  unfold Oper.wp
  unfold execOp
  simp only [hp, hx]
  clear hp hx
  have hK' := hK _ _ hn
  unfold setK at hK'
  go_simp
  exact hK'

def T.cnt : T → Nat
  | .nil => 1
  | .leaf _ _ _ => 1
  | .node l r => l.cnt + r.cnt + 1
theorem T.cnt_pos (X : T) : 1 ≤ X.cnt := by cases X <;> simp [T.cnt]
structure JX (w W : World) (g : Nat) (q : Option Nat) (ks : List Knot) (bj bx by_ : Nat) (x y : Knot) : Prop where
  ar : Arena W g q ks
  bl : Below w.heap.size w W
  j : blkJ W bj g
  x : blkK W bx x
  y : blkK W by_ y
  gj : w.heap.size ≤ bj
  gx : w.heap.size ≤ bx
  gy : w.heap.size ≤ by_

set_option maxHeartbeats 4000000 in
theorem join_any (g : Nat) : ∀ (m : Nat) (ks : List Knot) (l r : Int) (L R : T), L.cnt + R.cnt ≤ m → WF ks → Is ks l L → Is ks r R → L.size + R.size ≤ 1099511627776 → (ks.length : Int) + 1 + 3 * (L.high + R.high) ≤ 1073741824 →
    Does Try.prog (resAr g) 102 #[.agg #[.pointer (some ⟨g, 0, none⟩)], .int .i64 l, .int .i64 r] ks (joinP ks l r L R) := by
  intro m
  induction m with
  | zero => intro ks l r L R hm; have := T.cnt_pos L; omega
  | succ m ih =>
  intro ks l r L R hm hw hl hr h3 hn
  rintro w F ⟨q, rfl, ha⟩
  have IH := Lib.hid ih
  have HM := Lib.hid hm
  have okL := hl.ok hw
  have okR := hr.ok hw
  have bL := T.bounds okL
  have bR := T.bounds okR
  have hlt := ha.lt
  have hks : ks.length ≤ small := by unfold small; omega
  have HG1 := Lib.hid (fun w' (ha : Arena w' g q ks) => jget_any g q ks l w' ha hks)
  have HG2 := Lib.hid (fun w' (ha : Arena w' g q ks) => jget_any g q ks r w' ha hks)
  have H0 := Lib.hid (And.intro hl (And.intro hr (And.intro hw (And.intro okL okR))))
  have HA := Lib.hid ha
  have HX := Lib.hid hl.knot.2.1
  have HY := Lib.hid hr.knot.2.1
  unfold Knot.val at HG1 HG2
  clear ih hm ha hl hr hw okL okR
  generalize hx : getK ks l = x at HG1 HX
  have HXX := Lib.hid hx
  clear hx
  generalize hy : getK ks r = y at HG2 HY
  have HYY := Lib.hid hy
  clear hy
  have hb0 : Below w.heap.size w (w.alloc (.cells #[.pointer (some ⟨g, 0, none⟩)] 177)) := (Below.refl _ _).alloc (Nat.le_refl _) _
  have j0 : blkJ (w.alloc (.cells #[.pointer (some ⟨g, 0, none⟩)] 177)) w.heap.size g := heap_alloc_new _ _
  have HB0 := Lib.hid (And.intro hb0 (And.intro j0 (HA.out.below hb0)))
  clear hb0 j0
  go_enter Try.func102, Try.ntmps102
  go_wp2_with fail
  generalize w.alloc (.cells #[.pointer (some ⟨g, 0, none⟩)] 177) = W0 at HB0 ⊢
  generalize hbj : w.heap.size = bj at HB0 ⊢
  have cj := HB0.out.2.1.c
  have hltj := HB0.out.2.1.lt
  refine wp_region_grow 8 (by kernel_rfl) (by kernel_rfl) ?_
  simp only [List.take_succ_cons, List.take_zero, List.drop_succ_cons, List.drop_zero, List.take_nil, List.drop_nil]
  iterate 2 ((refine wpGrow_val' rfl rfl ?_; apply Exists.intro; refine ⟨fun w1 hw1 => ?_, ?_⟩); (have hc1 := hw1.cell; go_simp; exact growUpon_ok rfl); (refine wpGrow_at (by (simp only [Act.put, List.setIfInBounds_toArray, List.set_cons_succ, List.set_cons_zero]) <;> exact rfl) ?_))
  (refine wpGrow_val' rfl rfl ?_; apply Exists.intro; refine ⟨fun w1 hw1 => ?_, ?_⟩)
  · go_simp
    exact growUpon_call (HG1.out _ (HB0.out.2.2.below hw1.below))
  (refine wpGrow_at (by (simp only [Act.put, List.setIfInBounds_toArray, List.set_cons_succ, List.set_cons_zero]) <;> exact rfl) ?_)
  iterate 2 ((refine wpGrow_val' rfl rfl ?_; apply Exists.intro; refine ⟨fun w1 hw1 => ?_, ?_⟩); (have hc1 := hw1.cell; go_simp; exact growUpon_ok rfl); (refine wpGrow_at (by (simp only [Act.put, List.setIfInBounds_toArray, List.set_cons_succ, List.set_cons_zero]) <;> exact rfl) ?_))
  (refine wpGrow_val' rfl rfl ?_; apply Exists.intro; refine ⟨fun w1 hw1 => ?_, ?_⟩)
  · go_simp
    exact growUpon_call (HG2.out _ (HB0.out.2.2.below hw1.below))
  (refine wpGrow_at (by (simp only [Act.put, List.setIfInBounds_toArray, List.set_cons_succ, List.set_cons_zero]) <;> exact rfl) ?_)
  refine wpGrow_make (O := .cells #[.int .i64 0, .int .i64 0, .int .i64 0, .int .i64 0, .int .i64 0, .int .i64 0, .int .i64 0] 50) rfl (by kernel_rfl) (fun bx hbx hfx => ?_)
  (refine wpGrow_at (by (simp only [Act.put, List.setIfInBounds_toArray, List.set_cons_succ, List.set_cons_zero]) <;> exact rfl) ?_)
  refine wpGrow_make (O := .cells #[.int .i64 0, .int .i64 0, .int .i64 0, .int .i64 0, .int .i64 0, .int .i64 0, .int .i64 0] 50) rfl (by kernel_rfl) (fun by_ hby hfy => ?_)
  (refine wpGrow_at (by (simp only [Act.put, List.setIfInBounds_toArray, List.set_cons_succ, List.set_cons_zero]) <;> exact rfl) ?_)
  refine wpGrow_nil ?_
  intro w2 hD
  have hne : bx ≠ by_ := hfy _ List.mem_cons_self
  have hne' : by_ ≠ bx := Ne.symm hne
  have ax := (hD.at_ _ (List.mem_cons_of_mem _ List.mem_cons_self)).2
  have ay := (hD.at_ _ List.mem_cons_self).2
  refine wpList_storeK (k := x) rfl rfl rfl rfl rfl ax ?_
  refine wpList_storeK (k := y) rfl rfl rfl rfl rfl ((setK_other hne' x).trans ay) ?_
  refine wpList_nil ?_
  refine world_as (fun W => Hid (JX w W g q ks bj bx by_ x y)) ?_ ?_
  · subst hbj
    have hB2 := HB0.out.1.trans (hD.below.mono HB0.out.1.size)
    have hb := Below.trans HB0.out.1 (setK_below (setK_below (hD.below.mono HB0.out.1.size) (show w.heap.size ≤ bx by have := HB0.out.1.size; omega) x) (show w.heap.size ≤ by_ by have := HB0.out.1.size; omega) y)
    have hD3 := setK_below (setK_below hD.below hbx x) hby y
    refine Lib.hid ⟨HB0.out.2.2.below hD3, hb, HB0.out.2.1.below hD3, ?_, setK_blk ((setK_other hne' x).trans ay) y, Nat.le_refl _, by have := HB0.out.1.size; omega, by have := HB0.out.1.size; omega⟩
    have := setK_blk ax x
    unfold blkK at this ⊢
    rwa [setK_other hne y]
  intro W HJ
  clear hD ax ay hfx hfy cj hltj HB0
  have HNF := Lib.hid (fun b (hb : bj ≤ b) => (show ¬ foot g q b from fun hf => by
    subst hbj
    rcases hf with rfl | e
    · omega
    · have := HA.out.row_lt e; omega))
  by_cases hl0 : l = 0
  · subst hl0
    go_wp2
    go_ret
    obtain ⟨i1, i2, i3, i4, i5⟩ := H0.out
    obtain rfl := i1.zero
    exact ⟨_, ks, _, rfl, ⟨r, R, 0, rfl, i2, i3, Ext.refl ks, JoinOk.nil_left i5, fun _ => rfl, fun e => e⟩, ⟨q, rfl, HJ.out.ar⟩, Fr.of_below HJ.out.bl⟩
  · by_cases hr0 : r = 0
    · subst hr0
      have hl1 : (l == 0) = false := by simpa using hl0
      go_wp2
      go_ret
      obtain ⟨i1, i2, i3, i4, i5⟩ := H0.out
      obtain rfl := i2.zero
      exact ⟨_, ks, _, rfl, ⟨l, L, 0, rfl, i1, i3, Ext.refl ks, JoinOk.nil_right i4, fun e => e, fun _ => rfl⟩, ⟨q, rfl, HJ.out.ar⟩, Fr.of_below HJ.out.bl⟩
    · have hl1 : (l == 0) = false := by simpa using hl0
      have hr1 : (r == 0) = false := by simpa using hr0
      have s1 : 0 < L.size := H0.out.1.pos H0.out.2.2.1 hl0
      have s2 : 0 < R.size := H0.out.2.1.pos H0.out.2.2.1 hr0
      have hLh : 1 ≤ L.high ∧ L.high ≤ 1099511627776 := by omega
      have hRh : 1 ≤ R.high ∧ R.high ≤ 1099511627776 := by omega
      obtain ⟨hL0, hL1⟩ := hLh
      obtain ⟨hR0, hR1⟩ := hRh
      have x4 : W.cell? ⟨bx, 4, none⟩ = some (.int .i64 L.high) := by rw [← HX.out]; exact HJ.out.x.c4
      have y4 : W.cell? ⟨by_, 4, none⟩ = some (.int .i64 R.high) := by rw [← HY.out]; exact HJ.out.y.c4
      have cj := HJ.out.j.c
      have hltj := HJ.out.j.lt
      have hltx := HJ.out.x.lt
      have hlty := HJ.out.y.lt
      have hnj := HNF.out bj (Nat.le_refl _)
      have hnx := HNF.out bx (by subst hbj; exact HJ.out.gx)
      have hny := HNF.out by_ (by subst hbj; exact HJ.out.gy)
      have HBD := Lib.hid (And.intro bL bR)
      clear bL bR
      by_cases hc : R.high + 1 < L.high
      · have hK : ∃ a b, L = .node a b := by
          cases L with
          | nil => simp [T.high] at hL0
          | leaf o n f => simp [T.high] at hc; omega
          | node a b => exact ⟨a, b, rfl⟩
        obtain ⟨a, b, rfl⟩ := hK
        obtain ⟨l', r', e1, e2, hI1, hI2, _, _, _, _, hkn⟩ := H0.out.1.node_
        have hkl : x.left = l' := by rw [← HXX.out, hkn]
        have hkr : x.right = r' := by rw [← HXX.out, hkn]
        have x0 : W.cell? ⟨bx, 0, none⟩ = some (.int .i64 l') := by rw [← hkl]; exact HJ.out.x.c0
        have x1 : W.cell? ⟨bx, 1, none⟩ = some (.int .i64 r') := by rw [← hkr]; exact HJ.out.x.c1
        have HI := Lib.hid (And.intro hI1 hI2)
        clear hkl hkr hkn hI1 hI2
        have HC := Lib.hid hc
        generalize hLe : (T.node a b).high = hLn at x4 hc hL0 hL1
        have HLE := Lib.hid hLe
        clear hLe
        go_wp2_with fail
        have HR : Hid (∀ s bs w1, (resCls (resAr g) W (foot g q)).In s bs w1 → w1.cell? ⟨bj, 0, none⟩ = some (.pointer (some ⟨g, 0, none⟩)) ∧ w1.cell? ⟨bx, 0, none⟩ = some (.int .i64 l') ∧ w1.cell? ⟨bx, 1, none⟩ = some (.int .i64 r')) := Lib.hid (fun s bs w1 hw1 =>
          ⟨(resCls_cell hw1 hltj hnj 0).trans cj, (resCls_cell hw1 hltx hnx 0).trans x0, (resCls_cell hw1 hltx hnx 1).trans x1⟩)
        clear x0 x1 cj x4 y4
        have okN := H0.out.2.2.2.1
        simp only [T.ok] at okN
        obtain ⟨oka, okb, sa, sb, sab⟩ := okN
        have hab := T.high_node a b
        have ba := (T.bounds oka).2.2.2.1
        have bb := (T.bounds okb).2.2.2.1
        have hcn : (T.node a b).cnt = a.cnt + b.cnt + 1 := rfl
        have hsz : (T.node a b).size = a.size + b.size := rfl
        have hmm := HM.out
        refine wp_region_thr (resCls (resAr g) W (foot g q)) ks 10 [0, 1, 2, 3, 4, 5, 6, 7, 8, 9] _ (by kernel_rfl) (by kernel_rfl) (by kernel_rfl) rfl (resCls_start ⟨q, rfl, HJ.out.ar⟩) ?_
        (simp only [List.filterMap_cons, List.filterMap_nil, List.getElem?_cons_zero, List.getElem?_cons_succ, List.drop_succ_cons, List.drop_zero, List.drop_nil])
        iterate 7 ((refine wpThr_val rfl rfl rfl ?_; apply Exists.intro; refine ⟨fun s1 bs1 w1 hb1 hw1 => ?_, ?_⟩); (have hc1 := HR.out s1 bs1 w1 hw1; go_simp; exact growUpon_ok rfl); (refine wpThr_at (by (simp only [Act.put, List.setIfInBounds_toArray, List.set_cons_succ, List.set_cons_zero]) <;> exact rfl) ?_))
        refine wpThr_call (joinP ks r' r b R) rfl rfl rfl ?_ ?_
        · intro bs1 w1 hb1 hw1
          go_simp
          exact resCls_upon (IH.out ks r' r b R (by omega) H0.out.2.2.1 HI.out.2 H0.out.2.1 (by omega) (by omega)) hw1
        rintro v ks1 ⟨t, X, n, rfl, p1, p2, p3, p4, _, _⟩
        (refine wpThr_at (by (simp only [Act.put, List.setIfInBounds_toArray, List.set_cons_succ, List.set_cons_zero]) <;> exact rfl) ?_)
        have hX := p4.size
        have hcost := p4.cost
        have hlen := p3.len
        refine wpThr_call (lefP ks1 a X) rfl rfl rfl ?_ ?_
        · intro bs1 w1 hb1 hw1
          go_simp
          exact resCls_upon (left_any g ks1 l' t a X p2 (HI.out.1.ext p3) p1 sa (by omega) (by omega) (by unfold small; omega)) hw1
        rintro v ks2 hp
        (refine wpThr_at (by (simp only [Act.put, List.setIfInBounds_toArray, List.set_cons_succ, List.set_cons_zero]) <;> exact rfl) ?_)
        have hj := lef_join p3 p4 H0.out.2.2.2.1 H0.out.2.2.2.2 h3 (by rw [HLE.out]; exact hc) hl0 hr0 hp
        obtain ⟨t', Y, n', rfl, hrest⟩ := hj
        ((refine wpThr_val rfl rfl rfl ?_; apply Exists.intro; refine ⟨fun s1 bs1 w1 hb1 hw1 => ?_, ?_⟩); (have hc1 := HR.out s1 bs1 w1 hw1; go_simp; exact growUpon_ok rfl); (refine wpThr_at (by (simp only [Act.put, List.setIfInBounds_toArray, List.set_cons_succ, List.set_cons_zero]) <;> exact rfl) ?_))
        refine wpThr_nil ?_
        rintro w5 ⟨F', ha, hf, _⟩
        have HE := Lib.hid (And.intro hrest (And.intro ha hf))
        clear hrest ha hf hp p1 p2 p3 p4 hX hcost hlen
        go_wp2
        go_ret
        obtain ⟨hrest, ha, hf⟩ := HE.out
        exact ⟨_, ks2, F', rfl, ⟨t', Y, n', rfl, hrest⟩, ha, (Fr.of_below HJ.out.bl).trans hf⟩
      · by_cases hd : L.high + 1 < R.high
        · have hK : ∃ a b, R = .node a b := by
            cases R with
            | nil => simp [T.high] at hR0
            | leaf o n f => simp [T.high] at hd; omega
            | node a b => exact ⟨a, b, rfl⟩
          obtain ⟨a, b, rfl⟩ := hK
          obtain ⟨l', r', e1, e2, hI1, hI2, _, _, _, _, hkn⟩ := H0.out.2.1.node_
          have hkl : y.left = l' := by rw [← HYY.out, hkn]
          have hkr : y.right = r' := by rw [← HYY.out, hkn]
          have x0 : W.cell? ⟨by_, 0, none⟩ = some (.int .i64 l') := by rw [← hkl]; exact HJ.out.y.c0
          have x1 : W.cell? ⟨by_, 1, none⟩ = some (.int .i64 r') := by rw [← hkr]; exact HJ.out.y.c1
          have HI := Lib.hid (And.intro hI1 hI2)
          clear hkl hkr hkn hI1 hI2
          generalize hLe : (T.node a b).high = hLn at y4 hc hd hR0 hR1
          have HLE := Lib.hid hLe
          clear hLe
          go_wp2_with fail
          have HR : Hid (∀ s bs w1, (resCls (resAr g) W (foot g q)).In s bs w1 → w1.cell? ⟨bj, 0, none⟩ = some (.pointer (some ⟨g, 0, none⟩)) ∧ w1.cell? ⟨by_, 0, none⟩ = some (.int .i64 l') ∧ w1.cell? ⟨by_, 1, none⟩ = some (.int .i64 r')) := Lib.hid (fun s bs w1 hw1 =>
            ⟨(resCls_cell hw1 hltj hnj 0).trans cj, (resCls_cell hw1 hlty hny 0).trans x0, (resCls_cell hw1 hlty hny 1).trans x1⟩)
          clear x0 x1 cj x4 y4
          have okN := H0.out.2.2.2.2
          simp only [T.ok] at okN
          obtain ⟨oka, okb, sa, sb, sab⟩ := okN
          have hab := T.high_node a b
          have ba := (T.bounds oka).2.2.2.1
          have bb := (T.bounds okb).2.2.2.1
          have hcn : (T.node a b).cnt = a.cnt + b.cnt + 1 := rfl
          have hsz : (T.node a b).size = a.size + b.size := rfl
          have hmm := HM.out
          refine wp_region_thr (resCls (resAr g) W (foot g q)) ks 10 [0, 1, 2, 3, 4, 6, 7, 5, 8, 9] _ (by kernel_rfl) (by kernel_rfl) (by kernel_rfl) rfl (resCls_start ⟨q, rfl, HJ.out.ar⟩) ?_
          (simp only [List.filterMap_cons, List.filterMap_nil, List.getElem?_cons_zero, List.getElem?_cons_succ, List.drop_succ_cons, List.drop_zero, List.drop_nil])
          iterate 7 ((refine wpThr_val rfl rfl rfl ?_; apply Exists.intro; refine ⟨fun s1 bs1 w1 hb1 hw1 => ?_, ?_⟩); (have hc1 := HR.out s1 bs1 w1 hw1; go_simp; exact growUpon_ok rfl); (refine wpThr_at (by (simp only [Act.put, List.setIfInBounds_toArray, List.set_cons_succ, List.set_cons_zero]) <;> exact rfl) ?_))
          refine wpThr_call (joinP ks l l' L a) rfl rfl rfl ?_ ?_
          · intro bs1 w1 hb1 hw1
            go_simp
            exact resCls_upon (IH.out ks l l' L a (by omega) H0.out.2.2.1 H0.out.1 HI.out.1 (by omega) (by omega)) hw1
          rintro v ks1 ⟨t, X, n, rfl, p1, p2, p3, p4, _, _⟩
          (refine wpThr_at (by (simp only [Act.put, List.setIfInBounds_toArray, List.set_cons_succ, List.set_cons_zero]) <;> exact rfl) ?_)
          have hX := p4.size
          have hcost := p4.cost
          have hlen := p3.len
          refine wpThr_call (rigP ks1 X b) rfl rfl rfl ?_ ?_
          · intro bs1 w1 hb1 hw1
            go_simp
            exact resCls_upon (right_any g ks1 t r' X b p2 p1 (HI.out.2.ext p3) (by omega) sb (by omega) (by unfold small; omega)) hw1
          rintro v ks2 hp
          (refine wpThr_at (by (simp only [Act.put, List.setIfInBounds_toArray, List.set_cons_succ, List.set_cons_zero]) <;> exact rfl) ?_)
          have hj := rig_join p3 p4 H0.out.2.2.2.2 H0.out.2.2.2.1 h3 (by rw [HLE.out]; exact hd) hl0 hr0 hp
          obtain ⟨t', Y, n', rfl, hrest⟩ := hj
          ((refine wpThr_val rfl rfl rfl ?_; apply Exists.intro; refine ⟨fun s1 bs1 w1 hb1 hw1 => ?_, ?_⟩); (have hc1 := HR.out s1 bs1 w1 hw1; go_simp; exact growUpon_ok rfl); (refine wpThr_at (by (simp only [Act.put, List.setIfInBounds_toArray, List.set_cons_succ, List.set_cons_zero]) <;> exact rfl) ?_))
          refine wpThr_nil ?_
          rintro w5 ⟨F', ha, hf, _⟩
          have HE := Lib.hid (And.intro hrest (And.intro ha hf))
          clear hrest ha hf hp p1 p2 p3 p4 hX hcost hlen
          go_wp2
          go_ret
          obtain ⟨hrest, ha, hf⟩ := HE.out
          exact ⟨_, ks2, F', rfl, ⟨t', Y, n', rfl, hrest⟩, ha, (Fr.of_below HJ.out.bl).trans hf⟩
        · have HP := Lib.hid (jpair_any g ks l r L R H0.out.2.2.1 H0.out.1 H0.out.2.1 s1 s2 h3 hks W _ ⟨q, rfl, HJ.out.ar⟩)
          go_wp2_with fail
          ((with_reducible refine HP.out.mono ?_); rintro e w3 ⟨v, ks', F', rfl, ⟨rfl, p1, p2, p3⟩, ha, hf⟩)
          have HE := Lib.hid (And.intro p1 (And.intro p2 (And.intro p3 (And.intro ha hf))))
          clear p1 p2 p3 ha hf x4 y4 cj
          go_wp2
          go_ret
          obtain ⟨p1, p2, p3, ha, hf⟩ := HE.out
          exact ⟨_, ks', F', rfl, ⟨_, _, 1, rfl, p2, p1, p3, JoinOk.pair H0.out.2.2.2.1 H0.out.2.2.2.2 s1 s2 h3 (by omega) (by omega), fun e => absurd e hl0, fun e => absurd e hr0⟩, ha, (Fr.of_below HJ.out.bl).trans hf⟩
end Go.Proofs.Ytoeamnagmehpeaa.Ar


/- A knot stored into its own variable, inside a region that draws. -/
namespace Go.Proofs.Ytoeamnagmehpeaa.Ar
set_option linter.unusedSimpArgs false
set_option linter.unusedVariables false
open Go Go.RowKit
attribute [local go_sem] lt_add1 lt_self1 size_ne size_ne' size_ne1 size_ne1'
attribute [local irreducible] wpGrow wpThr wpSto

theorem storeK_run {a : Act} {w : World} {o : Oper} {b : Nat} {k : Knot} {p x : Operand} {v0 v1 v2 v3 v4 v5 v6 : Value} (hop : o.op = .store 50 p x)
    (hp : a.eval p = .pointer (some ⟨b, 0, none⟩)) (hx : a.eval x = .agg #[.int .i64 k.left, .int .i64 k.right, .int .i64 k.off, .int .i64 k.len, .int .i64 k.high, .int .i64 k.leaves, .int .i64 k.feeds])
    (h : w.heap[b]? = some (.cells #[v0, v1, v2, v3, v4, v5, v6] 50 (0, 0))) : (execOp a.eval o).run Try.prog w = .ok .skip (setK w b k) := by
  obtain ⟨dst, op, type, pos, after, guard⟩ := o
  simp only at hop
  subst hop
  have hf : ∀ o, w.frozen? ⟨b, o, none⟩ = false := fun o => by simp [World.frozen?, h]
  have z := fun i => cell_of_row w b i _ _ (0, 0) h
  have z0 := z 0
  have z1 := z 1
  have z2 := z 2
  have z3 := z 3
  have z4 := z 4
  have z5 := z 5
  have z6 := z 6
  simp only [List.getElem?_toArray, List.getElem?_cons_zero, List.getElem?_cons_succ] at z0 z1 z2 z3 z4 z5 z6
  clear z h
  unfold execOp
  simp only [hp, hx]
  clear hp hx
  unfold setK
  go_simp
theorem setAt_K {w : World} {b : Nat} {k : Knot} {v0 v1 v2 v3 v4 v5 v6 : Value} (h : w.heap[b]? = some (.cells #[v0, v1, v2, v3, v4, v5, v6] 50 (0, 0))) : SetAt w b (.cells #[.int .i64 k.left, .int .i64 k.right, .int .i64 k.off, .int .i64 k.len, .int .i64 k.high, .int .i64 k.leaves, .int .i64 k.feeds] 50 (0, 0)) (setK w b k) := by
  have hb0 : Below 0 w (setK w b k) := setK_below (Below.refl 0 w) (Nat.zero_le _) k
  exact ⟨hb0.os, hb0.tape, hb0.output, setK_size w b k, fun j hj => setK_other hj k, setK_blk h k⟩
theorem wpSto_storeK {ops : Array Oper} {W : World} {Q : Act → List (Nat × Obj) → Prop} {o : Oper} {rest : List Oper} {a : Act} {bs : List (Nat × Obj)} {b : Nat} {k : Knot} {p x : Operand} {v0 v1 v2 v3 v4 v5 v6 : Value} (hop : o.op = .store 50 p x) (hg : o.guard = none)
    (hp : a.eval p = .pointer (some ⟨b, 0, none⟩)) (hx : a.eval x = .agg #[.int .i64 k.left, .int .i64 k.right, .int .i64 k.off, .int .i64 k.len, .int .i64 k.high, .int .i64 k.leaves, .int .i64 k.feeds])
    (hb : (b, Obj.cells #[v0, v1, v2, v3, v4, v5, v6] 50 (0, 0)) ∈ bs)
    (h : wpSto Try.prog ops W Q rest (a.put o.dst undef) (updB bs b (.cells #[.int .i64 k.left, .int .i64 k.right, .int .i64 k.off, .int .i64 k.len, .int .i64 k.high, .int .i64 k.leaves, .int .i64 k.feeds] 50 (0, 0)))) : wpSto Try.prog ops W Q (o :: rest) a bs :=
  wpSto_store (by unfold isStore; rw [hop]) hg hb (fun w hD => ⟨_, storeK_run hop hp hx (hD.at_ _ hb).2, setAt_K (hD.at_ _ hb).2⟩) h
theorem makes_knot {o : Oper} (h : o.op = .alloc 50) : makes Try.prog o = some (.cells #[.int .i64 0, .int .i64 0, .int .i64 0, .int .i64 0, .int .i64 0, .int .i64 0, .int .i64 0] 50 (0, 0)) := by
  have e : makes Try.prog { o with op := .alloc 50 } = some (.cells #[.int .i64 0, .int .i64 0, .int .i64 0, .int .i64 0, .int .i64 0, .int .i64 0, .int .i64 0] 50 (0, 0)) := by kernel_rfl
  rw [← h] at e
  exact e
theorem wpSto_makeK {ops : Array Oper} {W : World} {Q : Act → List (Nat × Obj) → Prop} {o : Oper} {rest : List Oper} {a : Act} {bs : List (Nat × Obj)} (hg : o.guard = none) (ho : o.op = .alloc 50)
    (h : ∀ b, W.heap.size ≤ b → (∀ x ∈ bs, x.1 ≠ b) → wpSto Try.prog ops W Q rest (a.put o.dst (.pointer (some ⟨b, 0, none⟩))) ((b, .cells #[.int .i64 0, .int .i64 0, .int .i64 0, .int .i64 0, .int .i64 0, .int .i64 0, .int .i64 0] 50 (0, 0)) :: bs)) : wpSto Try.prog ops W Q (o :: rest) a bs :=
  wpSto_make hg (makes_knot ho) h
end Go.Proofs.Ytoeamnagmehpeaa.Ar
