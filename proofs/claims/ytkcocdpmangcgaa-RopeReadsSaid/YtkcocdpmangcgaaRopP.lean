
/- Ropes over a buffer's bytes: texts of trees; what cuts and joins make of them. Plain Lean. -/
import Derived.Test.YtkcocdpmangcgaaBalP
import Derived.Test.YtkcocdpmangcgaaBufF
namespace Go.Proofs.Ytkcocdpmangcgaa.Rp
set_option linter.unusedSimpArgs false
set_option linter.unusedVariables false
open Go Go.RowKit
open Go.Proofs.Ytkcocdpmangcgaa.Ar (T Lf cutL JoinOk SplitOk bytesL)
open Go.Proofs.Ytkcocdpmangcgaa.Buf (lfs cnt feedsV thereB)

/-- the bytes of a piece. -/
def cutS (S : ByteArray) (o n : Int) : List UInt8 := (S.data.toList.drop o.toNat).take n.toNat
def txtL (S : ByteArray) : List Lf → List UInt8
  | [] => []
  | p :: l => cutS S p.1 p.2.1 ++ txtL S l
/-- a rope's text. -/
def txt (S : ByteArray) (X : T) : List UInt8 := txtL S X.lv
/-- a leaf's piece is there, and its line feeds are counted. -/
def lfOK (S : ByteArray) (p : Lf) : Prop := 0 ≤ p.1 ∧ 1 ≤ p.2.1 ∧ p.1 + p.2.1 ≤ S.size ∧ p.2.2 = feedsV S p.1 p.2.1
def Good (S : ByteArray) (X : T) : Prop := ∀ p ∈ X.lv, lfOK S p

theorem cutS_length {S : ByteArray} {o n : Int} (h0 : 0 ≤ o) (h1 : 0 ≤ n) (h2 : o + n ≤ S.size) : ((cutS S o n).length : Int) = n := by
  have : S.data.toList.length = S.size := rfl
  unfold cutS
  rw [List.length_take, List.length_drop, this]
  omega
theorem txtL_append (S : ByteArray) (a b : List Lf) : txtL S (a ++ b) = txtL S a ++ txtL S b := by
  induction a with
  | nil => rfl
  | cons p a ih => simp [txtL, ih]
theorem txtL_length {S : ByteArray} : ∀ {l : List Lf}, (∀ p ∈ l, lfOK S p) → ((txtL S l).length : Int) = bytesL l
  | [], _ => rfl
  | p :: l, h => by
    obtain ⟨h1, h2, h3, _⟩ := h p (by simp)
    have := cutS_length h1 (by omega) h3
    have := txtL_length (l := l) (fun q hq => h q (by simp [hq]))
    simp only [txtL, bytesL, List.length_append]
    omega
theorem txt_length {S : ByteArray} {X : T} (h : Good S X) : ((txt S X).length : Int) = X.size := by rw [T.size_lv]; exact txtL_length h
theorem txt_nil (S : ByteArray) : txt S .nil = [] := rfl
theorem txt_leaf (S : ByteArray) (o n f : Int) : txt S (.leaf o n f) = cutS S o n := by simp [txt, T.lv, txtL]
theorem txt_node (S : ByteArray) (L R : T) : txt S (.node L R) = txt S L ++ txt S R := by simp [txt, T.lv, txtL_append]
theorem Good.nil (S : ByteArray) : Good S .nil := fun p hp => by simp [T.lv] at hp
theorem good_leaf {S : ByteArray} {o n f : Int} : Good S (.leaf o n f) ↔ lfOK S (o, n, f) := by simp [Good, T.lv]
theorem good_node {S : ByteArray} {L R : T} : Good S (.node L R) ↔ Good S L ∧ Good S R := by
  simp only [Good, T.lv, List.mem_append]
  exact ⟨fun h => ⟨fun p hp => h p (.inl hp), fun p hp => h p (.inr hp)⟩, fun h p hp => hp.elim (h.1 p) (h.2 p)⟩
theorem JoinOk_txt {S : ByteArray} {L R X : T} {n : Nat} (h : JoinOk L R X n) : txt S X = txt S L ++ txt S R := by unfold txt; rw [h.lv, txtL_append]
theorem JoinOk_good {S : ByteArray} {L R X : T} {n : Nat} (h : JoinOk L R X n) (hl : Good S L) (hr : Good S R) : Good S X := fun p hp => by
  rw [h.lv] at hp
  exact (List.mem_append.1 hp).elim (hl p) (hr p)

/-! line feeds of a piece -/
theorem extract_list (S : ByteArray) (a b : Nat) : (S.extract a b).data.toList = (S.data.toList.drop a).take (b - a) := by
  rw [ByteArray.data_extract, Array.toList_extract]

theorem feedsV_piece {S : ByteArray} {o n : Int} (h0 : 0 ≤ o) (h1 : 0 ≤ n) (h2 : o + n ≤ S.size) : feedsV S o n = (lfs 0 (cutS S o n)).length := by
  have hb : thereB S.size o n = true := by simp [thereB]; omega
  obtain ⟨a, rfl⟩ : ∃ a : Nat, o = a := ⟨o.toNat, by omega⟩
  obtain ⟨m, rfl⟩ : ∃ m : Nat, n = m := ⟨n.toNat, by omega⟩
  have hc := Go.Proofs.Ytkcocdpmangcgaa.Buf.cnt_piece S a m (by omega)
  rw [extract_list, Nat.add_sub_cancel_left] at hc
  unfold feedsV
  rw [if_pos hb, hc]
  unfold cutS
  simp only [Int.toNat_natCast]
  omega
theorem lfs_len (n m : Nat) (l : List UInt8) : (lfs n l).length = (lfs m l).length := by
  induction l generalizing n m with
  | nil => rfl
  | cons c l ih =>
    simp only [lfs]
    split
    · simp only [List.length_cons]; rw [ih (n + 1) (m + 1)]
    · exact ih _ _
theorem lfs_len_append (a b : List UInt8) : (lfs 0 (a ++ b)).length = (lfs 0 a).length + (lfs 0 b).length := by
  rw [Go.Proofs.Ytkcocdpmangcgaa.Buf.lfs_append, List.length_append, lfs_len (0 + a.length) 0]
theorem good_feeds {S : ByteArray} : ∀ {X : T}, Good S X → X.feeds = (lfs 0 (txt S X)).length
  | .nil, _ => rfl
  | .leaf o n f, h => by
    obtain ⟨h1, h2, h3, h4⟩ := good_leaf.1 h
    simp only at h1 h2 h3 h4
    rw [txt_leaf, ← feedsV_piece h1 (by omega) h3]
    exact h4
  | .node L R, h => by
    obtain ⟨h1, h2⟩ := good_node.1 h
    rw [txt_node, lfs_len_append]
    simp only [T.feeds]
    rw [good_feeds h1, good_feeds h2]
    omega
theorem feedsV_bd {S : ByteArray} {o n : Int} (h0 : 0 ≤ o) (h1 : 0 ≤ n) (h2 : o + n ≤ S.size) : 0 ≤ feedsV S o n ∧ feedsV S o n ≤ n := by
  rw [feedsV_piece h0 h1 h2]
  have := Go.Proofs.Ytkcocdpmangcgaa.Buf.lfs_length 0 (cutS S o n)
  have := cutS_length h0 h1 h2
  omega

/-! more bytes behind -/
theorem cutS_grow {S s : ByteArray} {o n : Int} (h0 : 0 ≤ o) (h1 : 0 ≤ n) (h2 : o + n ≤ S.size) : cutS (S ++ s) o n = cutS S o n := by
  have e : S.data.toList.length = S.size := rfl
  unfold cutS
  rw [ByteArray.data_append, Array.toList_append, List.drop_append_of_le_length (by omega), List.take_append_of_le_length (by rw [List.length_drop]; omega)]
theorem lfOK_grow {S s : ByteArray} {p : Lf} (h : lfOK S p) : lfOK (S ++ s) p := by
  obtain ⟨h1, h2, h3, h4⟩ := h
  have hz : (S ++ s).size = S.size + s.size := ByteArray.size_append
  refine ⟨h1, h2, by omega, ?_⟩
  rw [feedsV_piece h1 (by omega) (by omega), cutS_grow h1 (by omega) h3, ← feedsV_piece h1 (by omega) h3]
  exact h4
theorem Good.grow {S s : ByteArray} {X : T} (h : Good S X) : Good (S ++ s) X := fun p hp => lfOK_grow (h p hp)
theorem txtL_grow {S s : ByteArray} : ∀ {l : List Lf}, (∀ p ∈ l, lfOK S p) → txtL (S ++ s) l = txtL S l
  | [], _ => rfl
  | p :: l, h => by
    obtain ⟨h1, h2, h3, _⟩ := h p (by simp)
    simp only [txtL]
    rw [cutS_grow h1 (by omega) h3, txtL_grow (fun q hq => h q (by simp [hq]))]
theorem txt_grow {S s : ByteArray} {X : T} (h : Good S X) : txt (S ++ s) X = txt S X := txtL_grow h
theorem cutS_new (S s : ByteArray) : cutS (S ++ s) S.size s.size = s.data.toList := by
  have e : S.data.toList.length = S.size := rfl
  have e2 : s.data.toList.length = s.size := rfl
  unfold cutS
  simp only [Int.toNat_natCast]
  rw [ByteArray.data_append, Array.toList_append, ← e, List.drop_left, ← e2, List.take_length]

/-! cuts -/
theorem cutS_part {S : ByteArray} {o n a : Int} (h0 : 0 ≤ a) (h1 : a ≤ n) (h2 : 0 ≤ o) : cutS S o a = (cutS S o n).take a.toNat ∧ cutS S (o + a) (n - a) = (cutS S o n).drop a.toNat := by
  unfold cutS
  refine ⟨?_, ?_⟩
  · rw [List.take_take, Nat.min_eq_left (by omega)]
  · rw [List.drop_take, List.drop_drop]
    congr 1
    · omega
    · congr 1
      omega
theorem cutL_txt {S : ByteArray} : ∀ {l : List Lf} {a : Int}, (∀ p ∈ l, lfOK S p) → 0 ≤ a → (∀ p ∈ (cutL (feedsV S) l a).1, lfOK S p) ∧ (∀ p ∈ (cutL (feedsV S) l a).2, lfOK S p) ∧
    txtL S (cutL (feedsV S) l a).1 = (txtL S l).take a.toNat ∧ txtL S (cutL (feedsV S) l a).2 = (txtL S l).drop a.toNat
  | [], a, _, _ => by simp [cutL, txtL]
  | p :: l, a, h, h0 => by
    have hp := h p (by simp)
    obtain ⟨h1, h2, h3, h4⟩ := hp
    have hl := cutS_length h1 (show 0 ≤ p.2.1 by omega) h3
    rw [Go.Proofs.Ytkcocdpmangcgaa.Ar.cutL_cons]
    by_cases c1 : p.2.1 ≤ a
    · obtain ⟨i1, i2, i3, i4⟩ := cutL_txt (l := l) (a := a - p.2.1) (fun q hq => h q (by simp [hq])) (by omega)
      simp only [if_pos c1, txtL]
      refine ⟨fun q hq => ?_, i2, ?_, ?_⟩
      · rcases List.mem_cons.1 hq with rfl | hq
        · exact ⟨h1, h2, h3, h4⟩
        · exact i1 q hq
      · rw [i3, List.take_append, List.take_of_length_le (show (cutS S p.1 p.2.1).length ≤ a.toNat by omega), show a.toNat - (cutS S p.1 p.2.1).length = (a - p.2.1).toNat by omega]
      · rw [i4, List.drop_append, List.drop_of_length_le (show (cutS S p.1 p.2.1).length ≤ a.toNat by omega), List.nil_append, show a.toNat - (cutS S p.1 p.2.1).length = (a - p.2.1).toNat by omega]
    · simp only [if_neg c1]
      by_cases c2 : 0 < a
      · simp only [if_pos c2, txtL, List.append_nil]
        obtain ⟨e1, e2⟩ := cutS_part (S := S) (o := p.1) (n := p.2.1) (a := a) h0 (by omega) h1
        refine ⟨fun q hq => ?_, fun q hq => ?_, ?_, ?_⟩
        · simp only [List.mem_singleton] at hq
          subst hq
          exact ⟨h1, by simp only; omega, by simp only; omega, rfl⟩
        · rcases List.mem_cons.1 hq with rfl | hq
          · exact ⟨by simp only; omega, by simp only; omega, by simp only; omega, rfl⟩
          · exact h q (by simp [hq])
        · rw [e1, List.take_append_of_le_length (show a.toNat ≤ (cutS S p.1 p.2.1).length by omega)]
        · rw [e2, List.drop_append_of_le_length (show a.toNat ≤ (cutS S p.1 p.2.1).length by omega)]
      · have : a = 0 := by omega
        subst this
        simp only [if_neg c2, txtL]
        exact ⟨(fun q hq => by simp at hq), h, by simp, by simp⟩
theorem SplitOk_txt {S : ByteArray} {X A B : T} {a : Int} {n m : Nat} (h : SplitOk (feedsV S) X A B a n m) (hg : Good S X) (h0 : 0 ≤ a) : Good S A ∧ Good S B ∧ txt S A = (txt S X).take a.toNat ∧ txt S B = (txt S X).drop a.toNat := by
  obtain ⟨i1, i2, i3, i4⟩ := cutL_txt (S := S) (l := X.lv) (a := a) hg h0
  have e1 : A.lv = (cutL (feedsV S) X.lv a).1 := congrArg Prod.fst h.cut
  have e2 : B.lv = (cutL (feedsV S) X.lv a).2 := congrArg Prod.snd h.cut
  refine ⟨fun p hp => i1 p (e1 ▸ hp), fun p hp => i2 p (e2 ▸ hp), ?_, ?_⟩
  · unfold txt; rw [e1]; exact i3
  · unfold txt; rw [e2]; exact i4

/-! heights of balanced ropes -/
def digits : Nat → Nat → Nat
  | 0, _ => 0
  | k + 1, n => if n = 0 then 0 else digits k (n / 2) + 1
/-- a balanced rope of height h has at least 2 ^ (h / 2) leaves. -/
theorem many_pow : ∀ {X : T}, X.ok → X.bal → 0 < X.size → 2 ^ (X.high.toNat / 2) ≤ X.many.toNat ∧ 1 ≤ X.high
  | .nil, _, _, h => by simp [T.size] at h
  | .leaf o n f, _, _, _ => by simp [T.high, T.many]
  | .node L R, hok, hb, _ => by
    obtain ⟨o1, o2, o3, o4, _⟩ := hok
    obtain ⟨b1, b2, b3, b4⟩ := hb
    obtain ⟨p1, q1⟩ := many_pow o1 b1 o3
    obtain ⟨p2, q2⟩ := many_pow o2 b2 o4
    have mL := T.bounds o1
    have mR := T.bounds o2
    have hn := T.high_node L R
    refine ⟨?_, by omega⟩
    simp only [T.many]
    have hk : (T.node L R).high.toNat / 2 ≤ L.high.toNat / 2 + 1 ∧ (T.node L R).high.toNat / 2 ≤ R.high.toNat / 2 + 1 := by omega
    have hp1 : 2 ^ ((T.node L R).high.toNat / 2) ≤ 2 * 2 ^ (L.high.toNat / 2) := by
      rw [← Nat.pow_succ']; exact Nat.pow_le_pow_right (by omega) hk.1
    have hp2 : 2 ^ ((T.node L R).high.toNat / 2) ≤ 2 * 2 ^ (R.high.toNat / 2) := by
      rw [← Nat.pow_succ']; exact Nat.pow_le_pow_right (by omega) hk.2
    have : (L.many + R.many).toNat = L.many.toNat + R.many.toNat := by omega
    omega
end Go.Proofs.Ytkcocdpmangcgaa.Rp
