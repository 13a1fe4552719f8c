/- Ropes over a buffer's bytes: texts of trees; what cuts and joins make of them. Plain Lean. -/
import Derived.Test.YtoeamnagmehpeaaMgD
import Derived.Test.YtoeamnagmehpeaaMgC
import Derived.Test.YtoeamnagmehpeaaMgE
import Derived.Test.YtoeamnagmehpeaaMgA
import Derived.Shelf.Strings.BuilderK
import Derived.Test.YtoeamnagmehpeaaShelf
namespace Go.Proofs.Ytoeamnagmehpeaa.Rp
set_option linter.unusedSimpArgs false
set_option linter.unusedVariables false
open Go Go.RowKit
open Go.Proofs.Ytoeamnagmehpeaa.Ar (T Lf cutL JoinOk SplitOk bytesL)
open Go.Proofs.Ytoeamnagmehpeaa.Buf (lfs cnt feedsV thereB)

/-- the bytes of a piece. -/
def cutS (S : ByteArray) (o n : Int) : List UInt8 := (S.data.toList.drop o.toNat).take n.toNat
def txtL (S : ByteArray) : List Lf → List UInt8
  | [] => []
  | p :: l => cutS S p.1 p.2.1 ++ txtL S l
/-- a rope's text. -/
def txt (S : ByteArray) (X : T) : List UInt8 := txtL S X.lv
/-- a leaf's piece is there, and its line feeds are counted. -/
def lfOK (S : ByteArray) (p : Lf) : Prop := 0 ≤ p.1 ∧ 1 ≤ p.2.1 ∧ p.1 + p.2.1 ≤ S.size ∧ p.2.2 = feedsV S p.1 p.2.1
def Good (S : ByteArray) (X : T) : Prop := ∀ p ∈ X.lv, lfOK S p

theorem cutS_length {S : ByteArray} {o n : Int} (h0 : 0 ≤ o) (h1 : 0 ≤ n) (h2 : o + n ≤ S.size) : ((cutS S o n).length : Int) = n := by
  have : S.data.toList.length = S.size := rfl
  unfold cutS
  rw [List.length_take, List.length_drop, this]
  omega
theorem txtL_append (S : ByteArray) (a b : List Lf) : txtL S (a ++ b) = txtL S a ++ txtL S b := by
  induction a with
  | nil => rfl
  | cons p a ih => simp [txtL, ih]
theorem txtL_length {S : ByteArray} : ∀ {l : List Lf}, (∀ p ∈ l, lfOK S p) → ((txtL S l).length : Int) = bytesL l
  | [], _ => rfl
  | p :: l, h => by
    obtain ⟨h1, h2, h3, _⟩ := h p (by simp)
    have := cutS_length h1 (by omega) h3
    have := txtL_length (l := l) (fun q hq => h q (by simp [hq]))
    simp only [txtL, bytesL, List.length_append]
    omega
theorem txt_length {S : ByteArray} {X : T} (h : Good S X) : ((txt S X).length : Int) = X.size := by rw [T.size_lv]; exact txtL_length h
theorem txt_nil (S : ByteArray) : txt S .nil = [] := rfl
theorem txt_leaf (S : ByteArray) (o n f : Int) : txt S (.leaf o n f) = cutS S o n := by simp [txt, T.lv, txtL]
theorem txt_node (S : ByteArray) (L R : T) : txt S (.node L R) = txt S L ++ txt S R := by simp [txt, T.lv, txtL_append]
theorem Good.nil (S : ByteArray) : Good S .nil := fun p hp => by simp [T.lv] at hp
theorem good_leaf {S : ByteArray} {o n f : Int} : Good S (.leaf o n f) ↔ lfOK S (o, n, f) := by simp [Good, T.lv]
theorem good_node {S : ByteArray} {L R : T} : Good S (.node L R) ↔ Good S L ∧ Good S R := by
  simp only [Good, T.lv, List.mem_append]
  exact ⟨fun h => ⟨fun p hp => h p (.inl hp), fun p hp => h p (.inr hp)⟩, fun h p hp => hp.elim (h.1 p) (h.2 p)⟩
theorem JoinOk_txt {S : ByteArray} {L R X : T} {n : Nat} (h : JoinOk L R X n) : txt S X = txt S L ++ txt S R := by unfold txt; rw [h.lv, txtL_append]
theorem JoinOk_good {S : ByteArray} {L R X : T} {n : Nat} (h : JoinOk L R X n) (hl : Good S L) (hr : Good S R) : Good S X := fun p hp => by
  rw [h.lv] at hp
  exact (List.mem_append.1 hp).elim (hl p) (hr p)

/-! line feeds of a piece -/
theorem extract_list (S : ByteArray) (a b : Nat) : (S.extract a b).data.toList = (S.data.toList.drop a).take (b - a) := by
  rw [ByteArray.data_extract, Array.toList_extract]

theorem feedsV_piece {S : ByteArray} {o n : Int} (h0 : 0 ≤ o) (h1 : 0 ≤ n) (h2 : o + n ≤ S.size) : feedsV S o n = (lfs 0 (cutS S o n)).length := by
  have hb : thereB S.size o n = true := by simp [thereB]; omega
  obtain ⟨a, rfl⟩ : ∃ a : Nat, o = a := ⟨o.toNat, by omega⟩
  obtain ⟨m, rfl⟩ : ∃ m : Nat, n = m := ⟨n.toNat, by omega⟩
  have hc := Go.Proofs.Ytoeamnagmehpeaa.Buf.cnt_piece S a m (by omega)
  rw [extract_list, Nat.add_sub_cancel_left] at hc
  unfold feedsV
  rw [if_pos hb, hc]
  unfold cutS
  simp only [Int.toNat_natCast]
  omega
theorem lfs_len (n m : Nat) (l : List UInt8) : (lfs n l).length = (lfs m l).length := by
  induction l generalizing n m with
  | nil => rfl
  | cons c l ih =>
    simp only [lfs]
    split
    · simp only [List.length_cons]; rw [ih (n + 1) (m + 1)]
    · exact ih _ _
theorem lfs_len_append (a b : List UInt8) : (lfs 0 (a ++ b)).length = (lfs 0 a).length + (lfs 0 b).length := by
  rw [Go.Proofs.Ytoeamnagmehpeaa.Buf.lfs_append, List.length_append, lfs_len (0 + a.length) 0]
theorem good_feeds {S : ByteArray} : ∀ {X : T}, Good S X → X.feeds = (lfs 0 (txt S X)).length
  | .nil, _ => rfl
  | .leaf o n f, h => by
    obtain ⟨h1, h2, h3, h4⟩ := good_leaf.1 h
    simp only at h1 h2 h3 h4
    rw [txt_leaf, ← feedsV_piece h1 (by omega) h3]
    exact h4
  | .node L R, h => by
    obtain ⟨h1, h2⟩ := good_node.1 h
    rw [txt_node, lfs_len_append]
    simp only [T.feeds]
    rw [good_feeds h1, good_feeds h2]
    omega
theorem feedsV_bd {S : ByteArray} {o n : Int} (h0 : 0 ≤ o) (h1 : 0 ≤ n) (h2 : o + n ≤ S.size) : 0 ≤ feedsV S o n ∧ feedsV S o n ≤ n := by
  rw [feedsV_piece h0 h1 h2]
  have := Go.Proofs.Ytoeamnagmehpeaa.Buf.lfs_length 0 (cutS S o n)
  have := cutS_length h0 h1 h2
  omega

/-! more bytes behind -/
theorem cutS_grow {S s : ByteArray} {o n : Int} (h0 : 0 ≤ o) (h1 : 0 ≤ n) (h2 : o + n ≤ S.size) : cutS (S ++ s) o n = cutS S o n := by
  have e : S.data.toList.length = S.size := rfl
  unfold cutS
  rw [ByteArray.data_append, Array.toList_append, List.drop_append_of_le_length (by omega), List.take_append_of_le_length (by rw [List.length_drop]; omega)]
theorem lfOK_grow {S s : ByteArray} {p : Lf} (h : lfOK S p) : lfOK (S ++ s) p := by
  obtain ⟨h1, h2, h3, h4⟩ := h
  have hz : (S ++ s).size = S.size + s.size := ByteArray.size_append
  refine ⟨h1, h2, by omega, ?_⟩
  rw [feedsV_piece h1 (by omega) (by omega), cutS_grow h1 (by omega) h3, ← feedsV_piece h1 (by omega) h3]
  exact h4
theorem Good.grow {S s : ByteArray} {X : T} (h : Good S X) : Good (S ++ s) X := fun p hp => lfOK_grow (h p hp)
theorem txtL_grow {S s : ByteArray} : ∀ {l : List Lf}, (∀ p ∈ l, lfOK S p) → txtL (S ++ s) l = txtL S l
  | [], _ => rfl
  | p :: l, h => by
    obtain ⟨h1, h2, h3, _⟩ := h p (by simp)
    simp only [txtL]
    rw [cutS_grow h1 (by omega) h3, txtL_grow (fun q hq => h q (by simp [hq]))]
theorem txt_grow {S s : ByteArray} {X : T} (h : Good S X) : txt (S ++ s) X = txt S X := txtL_grow h
theorem cutS_new (S s : ByteArray) : cutS (S ++ s) S.size s.size = s.data.toList := by
  have e : S.data.toList.length = S.size := rfl
  have e2 : s.data.toList.length = s.size := rfl
  unfold cutS
  simp only [Int.toNat_natCast]
  rw [ByteArray.data_append, Array.toList_append, ← e, List.drop_left, ← e2, List.take_length]

/-! cuts -/
theorem cutS_part {S : ByteArray} {o n a : Int} (h0 : 0 ≤ a) (h1 : a ≤ n) (h2 : 0 ≤ o) : cutS S o a = (cutS S o n).take a.toNat ∧ cutS S (o + a) (n - a) = (cutS S o n).drop a.toNat := by
  unfold cutS
  refine ⟨?_, ?_⟩
  · rw [List.take_take, Nat.min_eq_left (by omega)]
  · rw [List.drop_take, List.drop_drop]
    congr 1
    · omega
    · congr 1
      omega
theorem cutL_txt {S : ByteArray} : ∀ {l : List Lf} {a : Int}, (∀ p ∈ l, lfOK S p) → 0 ≤ a → (∀ p ∈ (cutL (feedsV S) l a).1, lfOK S p) ∧ (∀ p ∈ (cutL (feedsV S) l a).2, lfOK S p) ∧
    txtL S (cutL (feedsV S) l a).1 = (txtL S l).take a.toNat ∧ txtL S (cutL (feedsV S) l a).2 = (txtL S l).drop a.toNat
  | [], a, _, _ => by simp [cutL, txtL]
  | p :: l, a, h, h0 => by
    have hp := h p (by simp)
    obtain ⟨h1, h2, h3, h4⟩ := hp
    have hl := cutS_length h1 (show 0 ≤ p.2.1 by omega) h3
    rw [Go.Proofs.Ytoeamnagmehpeaa.Ar.cutL_cons]
    by_cases c1 : p.2.1 ≤ a
    · obtain ⟨i1, i2, i3, i4⟩ := cutL_txt (l := l) (a := a - p.2.1) (fun q hq => h q (by simp [hq])) (by omega)
      simp only [if_pos c1, txtL]
      refine ⟨fun q hq => ?_, i2, ?_, ?_⟩
      · rcases List.mem_cons.1 hq with rfl | hq
        · exact ⟨h1, h2, h3, h4⟩
        · exact i1 q hq
      · rw [i3, List.take_append, List.take_of_length_le (show (cutS S p.1 p.2.1).length ≤ a.toNat by omega), show a.toNat - (cutS S p.1 p.2.1).length = (a - p.2.1).toNat by omega]
      · rw [i4, List.drop_append, List.drop_of_length_le (show (cutS S p.1 p.2.1).length ≤ a.toNat by omega), List.nil_append, show a.toNat - (cutS S p.1 p.2.1).length = (a - p.2.1).toNat by omega]
    · simp only [if_neg c1]
      by_cases c2 : 0 < a
      · simp only [if_pos c2, txtL, List.append_nil]
        obtain ⟨e1, e2⟩ := cutS_part (S := S) (o := p.1) (n := p.2.1) (a := a) h0 (by omega) h1
        refine ⟨fun q hq => ?_, fun q hq => ?_, ?_, ?_⟩
        · simp only [List.mem_singleton] at hq
          subst hq
          exact ⟨h1, by simp only; omega, by simp only; omega, rfl⟩
        · rcases List.mem_cons.1 hq with rfl | hq
          · exact ⟨by simp only; omega, by simp only; omega, by simp only; omega, rfl⟩
          · exact h q (by simp [hq])
        · rw [e1, List.take_append_of_le_length (show a.toNat ≤ (cutS S p.1 p.2.1).length by omega)]
        · rw [e2, List.drop_append_of_le_length (show a.toNat ≤ (cutS S p.1 p.2.1).length by omega)]
      · have : a = 0 := by omega
        subst this
        simp only [if_neg c2, txtL]
        exact ⟨(fun q hq => by simp at hq), h, by simp, by simp⟩
theorem SplitOk_txt {S : ByteArray} {X A B : T} {a : Int} {n m : Nat} (h : SplitOk (feedsV S) X A B a n m) (hg : Good S X) (h0 : 0 ≤ a) : Good S A ∧ Good S B ∧ txt S A = (txt S X).take a.toNat ∧ txt S B = (txt S X).drop a.toNat := by
  obtain ⟨i1, i2, i3, i4⟩ := cutL_txt (S := S) (l := X.lv) (a := a) hg h0
  have e1 : A.lv = (cutL (feedsV S) X.lv a).1 := congrArg Prod.fst h.cut
  have e2 : B.lv = (cutL (feedsV S) X.lv a).2 := congrArg Prod.snd h.cut
  refine ⟨fun p hp => i1 p (e1 ▸ hp), fun p hp => i2 p (e2 ▸ hp), ?_, ?_⟩
  · unfold txt; rw [e1]; exact i3
  · unfold txt; rw [e2]; exact i4

/-! heights of balanced ropes -/
def digits : Nat → Nat → Nat
  | 0, _ => 0
  | k + 1, n => if n = 0 then 0 else digits k (n / 2) + 1
/-- a balanced rope of height h has at least 2 ^ (h / 2) leaves. -/
theorem many_pow : ∀ {X : T}, X.ok → X.bal → 0 < X.size → 2 ^ (X.high.toNat / 2) ≤ X.many.toNat ∧ 1 ≤ X.high
  | .nil, _, _, h => by simp [T.size] at h
  | .leaf o n f, _, _, _ => by simp [T.high, T.many]
  | .node L R, hok, hb, _ => by
    obtain ⟨o1, o2, o3, o4, _⟩ := hok
    obtain ⟨b1, b2, b3, b4⟩ := hb
    obtain ⟨p1, q1⟩ := many_pow o1 b1 o3
    obtain ⟨p2, q2⟩ := many_pow o2 b2 o4
    have mL := T.bounds o1
    have mR := T.bounds o2
    have hn := T.high_node L R
    refine ⟨?_, by omega⟩
    simp only [T.many]
    have hk : (T.node L R).high.toNat / 2 ≤ L.high.toNat / 2 + 1 ∧ (T.node L R).high.toNat / 2 ≤ R.high.toNat / 2 + 1 := by omega
    have hp1 : 2 ^ ((T.node L R).high.toNat / 2) ≤ 2 * 2 ^ (L.high.toNat / 2) := by
      rw [← Nat.pow_succ']; exact Nat.pow_le_pow_right (by omega) hk.1
    have hp2 : 2 ^ ((T.node L R).high.toNat / 2) ≤ 2 * 2 ^ (R.high.toNat / 2) := by
      rw [← Nat.pow_succ']; exact Nat.pow_le_pow_right (by omega) hk.2
    have : (L.many + R.many).toNat = L.many.toNat + R.many.toNat := by omega
    omega
end Go.Proofs.Ytoeamnagmehpeaa.Rp


/- A store of ropes in memory: a buffer and an arena; its small functions. -/
namespace Go.Proofs.Ytoeamnagmehpeaa.Rp
set_option linter.unusedSimpArgs false
set_option linter.unusedVariables false
open Go Go.RowKit
open Go.Proofs.Ytoeamnagmehpeaa.Ar (T Is Ext WF Knot getK getB Arena resAr small splitP JoinP)
open Go.Proofs.Ytoeamnagmehpeaa.Buf (BufS feedsV thereB)
attribute [local go_sem] lt_add1 lt_self1 size_ne size_ne' size_ne1 size_ne1'
attribute [local irreducible] wpGrow wpThr

/-- a store: a struct of two pointers, a buffer and an arena beside each other. -/
structure St (w : World) (gs gb ga : Nat) (rb rf q : Option Nat) (S : ByteArray) (ks : List Knot) : Prop where
  blk : w.heap[gs]? = some (.cells #[.pointer (some ⟨gb, 0, none⟩), .pointer (some ⟨ga, 0, none⟩)] 125 (0, 0))
  buf : BufS w gb rb rf S
  ar : Arena w ga q ks
  ap : ∀ b, Buf.foot gb rb rf b → ¬ Ar.foot ga q b
  sb : ¬ Buf.foot gb rb rf gs
  sa : ¬ Ar.foot ga q gs
def sfoot (gb ga : Nat) (rb rf q : Option Nat) (b : Nat) : Prop := Buf.foot gb rb rf b ∨ Ar.foot ga q b

section
variable {w w' : World} {gs gb ga : Nat} {rb rf q : Option Nat} {S : ByteArray} {ks : List Knot}
theorem ar_lt {w : World} {ga : Nat} {q : Option Nat} {ks : List Knot} (h : Arena w ga q ks) {b : Nat} (hb : Ar.foot ga q b) : b < w.heap.size := by
  rcases hb with rfl | e
  · exact h.lt
  · exact h.row_lt e
theorem St.lt (h : St w gs gb ga rb rf q S ks) : gs < w.heap.size := (Array.getElem?_eq_some_iff.1 h.blk).1
theorem St.foot_lt (h : St w gs gb ga rb rf q S ks) {b : Nat} (hb : sfoot gb ga rb rf q b) : b < w.heap.size := hb.elim (Buf.Buf.lt_foot h.buf) (ar_lt h.ar)
theorem St.below (h : St w gs gb ga rb rf q S ks) (hb : Below w.heap.size w w') : St w' gs gb ga rb rf q S ks := ⟨(hb.block gs h.lt).trans h.blk, Buf.Buf.below h.buf hb, h.ar.below hb, h.ap, h.sb, h.sa⟩
theorem St.c (h : St w gs gb ga rb rf q S ks) : w.cell? ⟨gs, 0, none⟩ = some (.pointer (some ⟨gb, 0, none⟩)) ∧ w.cell? ⟨gs, 1, none⟩ = some (.pointer (some ⟨ga, 0, none⟩)) := ⟨cell_of_row w gs 0 _ _ (0, 0) h.blk, cell_of_row w gs 1 _ _ (0, 0) h.blk⟩
theorem St.gb_lt (h : St w gs gb ga rb rf q S ks) : gb < w.heap.size := Buf.Buf.lt h.buf
theorem St.ga_lt (h : St w gs gb ga rb rf q S ks) : ga < w.heap.size := h.ar.lt
/-- the arena turns, the rest stays. -/
theorem St.arena {q' : Option Nat} {ks' : List Knot} (h : St w gs gb ga rb rf q S ks) (ha : Arena w' ga q' ks') (hf : Fr w (Ar.foot ga q) w' (Ar.foot ga q')) : St w' gs gb ga rb rf q' S ks' ∧ Fr w (sfoot gb ga rb rf q) w' (sfoot gb ga rb rf q') := by
  refine ⟨⟨hf.block h.blk h.sa, Buf.Buf.keep h.buf hf h.ap, ha, fun b hb hn => ?_, h.sb, hf.out h.lt h.sa⟩, hf.weaken (fun b hb => .inr hb) (fun b hb => hb.elim (fun e => .inr (.inl e)) .inl)⟩
  exact hf.out (Buf.Buf.lt_foot h.buf hb) (h.ap b hb) hn
/-- the buffer turns, the rest stays. -/
theorem St.buffer {rb' rf' : Option Nat} {S' : ByteArray} (h : St w gs gb ga rb rf q S ks) (hb : BufS w' gb rb' rf' S') (hf : Fr w (Buf.foot gb rb rf) w' (Buf.foot gb rb' rf')) : St w' gs gb ga rb' rf' q S' ks ∧ Fr w (sfoot gb ga rb rf q) w' (sfoot gb ga rb' rf' q) := by
  refine ⟨⟨hf.block h.blk h.sb, hb, h.ar.keep hf (fun b h1 h2 => h.ap b h2 h1), fun b h1 h2 => ?_, hf.out h.lt h.sb, h.sa⟩, hf.weaken (fun b hb => .inl hb) (fun b hb => hb.elim .inl (fun e => .inr (.inr e)))⟩
  exact hf.out (ar_lt h.ar h2) (fun e => h.ap b e h2) h1
end

/-- a store as a resource. -/
abbrev Sst := ByteArray × List Knot
def resSt (gs gb ga : Nat) : Res Sst where
  at_ := fun w F s => ∃ rb rf q, F = sfoot gb ga rb rf q ∧ St w gs gb ga rb rf q s.1 s.2
  below := fun h hb => by obtain ⟨rb, rf, q, e, h⟩ := h; exact ⟨rb, rf, q, e, h.below hb⟩
  lt := fun h b hb => by obtain ⟨rb, rf, q, rfl, h⟩ := h; exact h.foot_lt hb
theorem resSt_at {w : World} {gs gb ga : Nat} {rb rf q : Option Nat} {S : ByteArray} {ks : List Knot} (h : St w gs gb ga rb rf q S ks) : (resSt gs gb ga).at_ w (sfoot gb ga rb rf q) (S, ks) := ⟨rb, rf, q, rfl, h⟩

/-- what is done to the arena is done to the store. -/
theorem does_ar {gs gb ga : Nat} {f : Nat} {args : Array Value} {S : ByteArray} {ks : List Knot} {Post : Value → List Knot → Prop} (h : Does Try.prog (resAr ga) f args ks Post) : Does Try.prog (resSt gs gb ga) f args (S, ks) (fun v s' => s'.1 = S ∧ Post v s'.2) := by
  rintro w F ⟨rb, rf, q, rfl, hs⟩
  refine (h.run w _ ⟨q, rfl, hs.ar⟩).mono ?_
  rintro e w' ⟨v, ks', F', he, hp, ⟨q', rfl, ha⟩, hf⟩
  obtain ⟨h1, h2⟩ := hs.arena ha hf
  exact ⟨v, (S, ks'), _, he, ⟨rfl, hp⟩, resSt_at h1, h2⟩

/-! the feeds that a cut asks for -/
def inB (S : ByteArray) (o n : Int) : Prop := 0 ≤ o ∧ 0 ≤ n ∧ o + n ≤ S.size
theorem feeds_ok (S : ByteArray) : Ar.FdOk (inB S) (feedsV S) := ⟨fun {o n} h => feedsV_bd h.1 h.2.1 h.2.2, fun {o n a} h h1 h2 => ⟨⟨h.1, by omega, by have := h.2.2; omega⟩, ⟨by have := h.1; omega, by omega, by have := h.2.2; omega⟩⟩⟩
theorem feeds_eg : ∀ args w, (callFunc 68 args).run Try.prog w = .ok (.enter 68 args) w := enters_of Try.func68 (by kernel_rfl) rfl
theorem feeds_clo {w : World} {gs gb ga : Nat} {rb rf q : Option Nat} {S : ByteArray} {ks : List Knot} (h : St w gs gb ga rb rf q S ks) (hS : S.size ≤ 1000000) : Ar.Clo 68 #[.pointer (some ⟨gb, 0, none⟩)] (inB S) (feedsV S) w (Ar.foot ga q) := fun w' F' hf o n _ =>
  Buf.feeds_any gb rb rf S o n w' (Buf.Buf.keep h.buf hf h.ap) hS
theorem does_cut {gs gb ga : Nat} {f : Nat} {args : Array Value} {S : ByteArray} {ks : List Knot} {Post : Value → List Knot → Prop} (hS : S.size ≤ 1000000) (h : Does Try.prog (Ar.resCl ga 68 #[.pointer (some ⟨gb, 0, none⟩)] (inB S) (feedsV S)) f args ks Post) :
    Does Try.prog (resSt gs gb ga) f args (S, ks) (fun v s' => s'.1 = S ∧ Post v s'.2) := by
  rintro w F ⟨rb, rf, q, rfl, hs⟩
  refine (h.run w _ (Ar.resCl_at hs.ar (feeds_clo hs hS))).mono ?_
  rintro e w' ⟨v, ks', F', he, hp, ⟨⟨q', rfl, ha⟩, _⟩, hf⟩
  obtain ⟨h1, h2⟩ := hs.arena ha hf
  exact ⟨v, (S, ks'), _, he, ⟨rfl, hp⟩, resSt_at h1, h2⟩

/-! small functions -/
set_option maxHeartbeats 400000 in
theorem rnew_any (w : World) : Calls Try.prog 48 #[] w fun e w' => ∃ gs gb ga, e = .returned (.pointer (some ⟨gs, 0, none⟩)) ∧ St w' gs gb ga none none none ⟨#[]⟩ [] ∧ Below w.heap.size w w' ∧ w.heap.size ≤ gs ∧ w.heap.size ≤ gb ∧ w.heap.size ≤ ga := by
  go_enter Try.func48, Try.ntmps48
  go_wp2_with fail
  refine (Buf.new_any _).mono ?_
  rintro e w1 ⟨rfl, h1, hb1, hz1⟩
  have H1 := Lib.hid (And.intro h1 hb1)
  have hs1 : w.heap.size < w1.heap.size := by omega
  clear h1 hb1 hz1
  go_wp2_with fail
  refine (Ar.new_any _).mono ?_
  rintro e w2 ⟨rfl, h2, hb2, hz2⟩
  have H2 := Lib.hid (And.intro h2 hb2)
  have hs2 : w1.heap.size < w2.heap.size := by omega
  clear h2 hb2 hz2
  go_wp2
  go_ret
  have hb3 : Below w2.heap.size w2 (w2.alloc (.cells #[.pointer (some ⟨w.heap.size, 0, none⟩), .pointer (some ⟨w1.heap.size, 0, none⟩)] 125)) := (Below.refl _ _).alloc (Nat.le_refl _) _
  have hb12 := H1.out.2.trans (H2.out.2.mono H1.out.2.size)
  refine ⟨w2.heap.size, w.heap.size, w1.heap.size, rfl, ⟨heap_alloc_new _ _, Buf.Buf.below (Buf.Buf.below H1.out.1 H2.out.2) hb3, H2.out.1.below hb3, fun b h1 h2 => ?_, fun h => ?_, fun h => ?_⟩, hb12.trans (hb3.mono hb12.size), by omega, Nat.le_refl _, by omega⟩
  · rcases h1 with e | e | e
    · rcases h2 with e2 | e2
      · omega
      · cases e2
    · cases e
    · cases e
  · rcases h with e | e | e
    · omega
    · cases e
    · cases e
  · rcases h with e | e
    · omega
    · cases e

section
variable (gs gb ga : Nat) (rb rf q : Option Nat) (S : ByteArray) (ks : List Knot) (w : World)
set_option maxHeartbeats 400000 in
theorem rsize_nil (t : Int) : Calls Try.prog 20 #[.pointer none, .int .i64 t] w fun e w' => e = .returned (.tuple #[.int .i64 0, .int .i64 7]) ∧ w = w' := by
  go_enter Try.func20, Try.ntmps20
  go_wp2
  go_ret2
  exact ⟨rfl, rfl⟩
set_option maxHeartbeats 400000 in
theorem rsize_any (t : Int) (h : St w gs gb ga rb rf q S ks) (hn : ks.length ≤ small) : Calls Try.prog 20 #[.pointer (some ⟨gs, 0, none⟩), .int .i64 t] w fun e w' =>
    e = .returned (if (getB ks t || t == 0) = true then .tuple #[.int .i64 (getK ks t).len, .int .i64 0] else .tuple #[.int .i64 0, .int .i64 7]) ∧ Below w.heap.size w w' := by
  obtain ⟨c0, c1⟩ := h.c
  have hlt := h.lt
  have HZ := Lib.hid (Ar.size_any ga q ks t w h.ar hn)
  clear h hn
  generalize (getB ks t || t == 0) = ok at HZ ⊢
  generalize (getK ks t).len = n at HZ ⊢
  cases ok
  · simp only [Bool.false_eq_true, if_false]
    go_enter Try.func20, Try.ntmps20
    go_wp2_with fail
    ((with_reducible refine HZ.out.mono ?_); rintro e w1 ⟨rfl, hb⟩)
    have HB := Lib.hid hb
    clear hb
    go_wp2
    go_ret2
    exact ⟨rfl, HB.out⟩
  · simp only [if_true]
    go_enter Try.func20, Try.ntmps20
    go_wp2_with fail
    ((with_reducible refine HZ.out.mono ?_); rintro e w1 ⟨rfl, hb⟩)
    have HB := Lib.hid hb
    clear hb
    go_wp2
    go_ret2
    exact ⟨rfl, HB.out⟩
end
end Go.Proofs.Ytoeamnagmehpeaa.Rp


/- A store's functions that only read: Knot, Knots, Bytes, Feed, Balanced, span; of a nil store nothing is there. -/
namespace Go.Proofs.Ytoeamnagmehpeaa.Rp
set_option linter.unusedSimpArgs false
set_option linter.unusedVariables false
open Go Go.RowKit
open Go.Proofs.Ytoeamnagmehpeaa.Ar (T Is Ext WF Knot getK getB Arena resAr small)
open Go.Proofs.Ytoeamnagmehpeaa.Buf (BufS feedsV feedV feedB thereB sliceV)
attribute [local go_sem] lt_add1 lt_self1 size_ne size_ne' size_ne1 size_ne1'
attribute [local irreducible] wpGrow wpThr

section
variable (gs gb ga : Nat) (rb rf q : Option Nat) (S : ByteArray) (ks : List Knot) (w : World)

set_option maxHeartbeats 400000 in
theorem rknot_nil (t : Int) : Calls Try.prog 23 #[.pointer none, .int .i64 t] w fun e w' => e = .returned (.tuple #[Knot.zero.val, .bool false]) ∧ Below w.heap.size w w' := by
  go_enter Try.func23, Try.ntmps23
  go_wp2
  exact bodyPost_ret (v := .tuple #[Knot.zero.val, .bool false]) (by simp [results, Try.results23, go_sem, Ar.Knot.val, Ar.Knot.zero]) rfl ⟨rfl, by (repeat (first | exact Below.refl _ _ | assumption | (refine Below.setCell ?_ (by first | (simp; done) | (simp; omega) | omega) _) | (refine Below.alloc ?_ (by first | (simp; done) | (simp; omega) | omega) _) | (refine Below.drew ?_) | (refine Below.drewN ?_ _) | (refine Below.trans ?_ (Below.mono (by assumption) (by first | (simp; done) | (simp; omega) | omega)))))⟩

set_option maxHeartbeats 1000000 in
theorem rknot_any (t : Int) (h : St w gs gb ga rb rf q S ks) (hn : ks.length ≤ small) : Calls Try.prog 23 #[.pointer (some ⟨gs, 0, none⟩), .int .i64 t] w fun e w' =>
    e = .returned (.tuple #[(getK ks t).val, .bool (getB ks t)]) ∧ Below w.heap.size w w' := by
  have H := Lib.hid h
  obtain ⟨c0, c1⟩ := h.c
  have hlt := h.lt
  have G := Lib.hid (fun w' (ha : Arena w' ga q ks) => Ar.get_any ga q ks t w' ha hn)
  unfold Ar.Knot.val at G ⊢
  clear h hn
  generalize getK ks t = k at G ⊢
  generalize getB ks t = ok at G ⊢
  go_enter Try.func23, Try.ntmps23
  go_wp2_with fail
  have hb0 : Below w.heap.size w (w.alloc (.cells #[.int .i64 0, .int .i64 0, .int .i64 0, .int .i64 0, .int .i64 0, .int .i64 0, .int .i64 0] 50)) := (Below.refl _ _).alloc (Nat.le_refl _) _
  ((with_reducible refine (G.out _ (H.out.ar.below hb0)).mono ?_); rintro e w1 ⟨rfl, hb1⟩)
  have hz := hb1.size
  simp at hz
  have hz2 : w.heap.size < w1.heap.size := by omega
  have HB := Lib.hid (hb0.trans (hb1.mono hb0.size))
  have qq : w1.heap[w.heap.size]? = some (.cells #[.int .i64 0, .int .i64 0, .int .i64 0, .int .i64 0, .int .i64 0, .int .i64 0, .int .i64 0] 50) := by
    rw [hb1.block _ (by simp)]
    exact heap_alloc_new _ _
  have z := fun i => cell_of_row w1 w.heap.size i _ _ (0, 0) qq
  have z0 := z 0
  have z1 := z 1
  have z2 := z 2
  have z3 := z 3
  have z4 := z 4
  have z5 := z 5
  have z6 := z 6
  simp only [List.getElem?_toArray, List.getElem?_cons_zero, List.getElem?_cons_succ] at z0 z1 z2 z3 z4 z5 z6
  have hf2 : ∀ o, w1.frozen? ⟨w.heap.size, o, none⟩ = false := fun o => by simp [World.frozen?, qq]
  clear hb1 G qq z H c0 c1 hb0
  go_wp2
  refine bodyPost_ret (v := .tuple #[.agg #[.int .i64 k.left, .int .i64 k.right, .int .i64 k.off, .int .i64 k.len, .int .i64 k.high, .int .i64 k.leaves, .int .i64 k.feeds], .bool ok]) ?_ ?_ ⟨?_, ?_⟩
  · simp [results, Try.results23, go_sem, *]
  · rfl
  · rfl
  · have hbl := HB.out
    iterate 7 (with_reducible refine Below.setCell ?_ ?_ _)
    all_goals first | exact hbl | exact Nat.le_refl _

set_option maxHeartbeats 400000 in
theorem rknots_nil : Calls Try.prog 22 #[.pointer none] w fun e w' => e = .returned (.int .i64 0) ∧ w = w' := by
  go_enter Try.func22, Try.ntmps22
  go_wp2
  go_ret
  exact ⟨rfl, rfl⟩
set_option maxHeartbeats 400000 in
theorem rknots_any (h : St w gs gb ga rb rf q S ks) : Calls Try.prog 22 #[.pointer (some ⟨gs, 0, none⟩)] w fun e w' => e = .returned (.int .i64 ks.length) ∧ w = w' := by
  obtain ⟨c0, c1⟩ := h.c
  have hlt := h.lt
  have G := Lib.hid (Ar.len_any ga q ks w h.ar)
  clear h
  go_enter Try.func22, Try.ntmps22
  go_wp2_with (go_at_call 73; ((with_reducible refine G.out.mono ?_); rintro e w1 ⟨rfl, rfl⟩))
  go_ret
  exact ⟨rfl, rfl⟩

set_option maxHeartbeats 400000 in
theorem rbytes_nil (o n : Int) : Calls Try.prog 99 #[.pointer none, .agg #[.int .i64 o, .int .i64 n]] w fun e w' => e = .returned (.string ⟨#[]⟩) ∧ Below w.heap.size w w' := by
  go_enter Try.func99, Try.ntmps99
  go_wp2
  go_ret
  exact ⟨rfl, by (repeat (first | exact Below.refl _ _ | assumption | (refine Below.setCell ?_ (by first | (simp; done) | (simp; omega) | omega) _) | (refine Below.alloc ?_ (by first | (simp; done) | (simp; omega) | omega) _) | (refine Below.drew ?_) | (refine Below.drewN ?_ _) | (refine Below.trans ?_ (Below.mono (by assumption) (by first | (simp; done) | (simp; omega) | omega)))))⟩
set_option maxHeartbeats 1000000 in
theorem rbytes_any (o n : Int) (h : St w gs gb ga rb rf q S ks) (hS : S.size ≤ 1000000) : Calls Try.prog 99 #[.pointer (some ⟨gs, 0, none⟩), .agg #[.int .i64 o, .int .i64 n]] w fun e w' =>
    e = .returned (.string (sliceV S o n)) ∧ Below w.heap.size w w' := by
  have hb0 : Below w.heap.size w (w.alloc (.cells #[.int .i64 o, .int .i64 n] 173)) := (Below.refl _ _).alloc (Nat.le_refl _) _
  have hk0 : (w.alloc (.cells #[.int .i64 o, .int .i64 n] 173)).heap[w.heap.size]? = some (.cells #[.int .i64 o, .int .i64 n] 173 (0, 0)) := heap_alloc_new _ _
  have hlt := h.lt
  have H := Lib.hid (And.intro (h.below hb0) (And.intro hb0 hk0))
  clear h hb0 hk0
  have HSL := Lib.hid (fun w' (hw : BufS w' gb rb rf S) => Buf.slice_any gb rb rf S _ o n w' hw hS)
  generalize sliceV S o n = v at HSL ⊢
  generalize thereB S.size o n = b at HSL
  go_enter Try.func99, Try.ntmps99
  go_wp2_with fail
  generalize w.alloc (.cells #[.int .i64 o, .int .i64 n] 173) = W at H ⊢
  have hbp := (Array.getElem?_eq_some_iff.1 H.out.2.2).1
  have p0 : W.cell? ⟨w.heap.size, 0, none⟩ = some (.int .i64 o) := cell_of_row W _ 0 _ _ (0, 0) H.out.2.2
  have p1 : W.cell? ⟨w.heap.size, 1, none⟩ = some (.int .i64 n) := cell_of_row W _ 1 _ _ (0, 0) H.out.2.2
  obtain ⟨c0, c1⟩ := H.out.1.c
  have hltW := H.out.1.lt
  refine wp_region_grow 14 (by kernel_rfl) (by kernel_rfl) ?_
  simp only [List.take_succ_cons, List.take_zero, List.drop_succ_cons, List.drop_zero, List.take_nil, List.drop_nil]
  iterate 8 ((refine wpGrow_val' rfl rfl ?_; apply Exists.intro; refine ⟨fun w1 hw1 => ?_, ?_⟩); (have hc1 := hw1.cell; go_simp; exact growUpon_ok rfl); (refine wpGrow_at (by (simp only [Act.put, List.setIfInBounds_toArray, List.set_cons_succ, List.set_cons_zero]) <;> exact rfl) ?_))
  (refine wpGrow_val' rfl rfl ?_; apply Exists.intro; refine ⟨fun w1 hw1 => ?_, ?_⟩)
  · go_simp
    exact growUpon_call ((HSL.out _ (H.out.1.below hw1.below).buf).mono fun e w' ⟨h1, h2⟩ => ⟨h1, h2 ▸ Below.refl _ _⟩)
  (refine wpGrow_at (by (simp only [Act.put, List.setIfInBounds_toArray, List.set_cons_succ, List.set_cons_zero]) <;> exact rfl) ?_)
  iterate 5 ((refine wpGrow_val' rfl rfl ?_; apply Exists.intro; refine ⟨fun w1 hw1 => ?_, ?_⟩); (have hc1 := hw1.cell; go_simp; exact growUpon_ok rfl); (refine wpGrow_at (by (simp only [Act.put, List.setIfInBounds_toArray, List.set_cons_succ, List.set_cons_zero]) <;> exact rfl) ?_))
  refine wpGrow_nil ?_
  intro w2 hD
  have HD := Lib.hid (H.out.2.1.trans (hD.below.mono H.out.2.1.size))
  clear hD p0 p1 c0 c1
  go_wp2
  go_ret
  exact ⟨rfl, HD.out⟩

set_option maxHeartbeats 400000 in
theorem rfeed_nil (o n k : Int) : Calls Try.prog 109 #[.pointer none, .agg #[.int .i64 o, .int .i64 n], .int .i64 k] w fun e w' => e = .returned (.tuple #[.int .i64 0, .bool false]) ∧ Below w.heap.size w w' := by
  go_enter Try.func109, Try.ntmps109
  go_wp2
  go_ret2
  exact ⟨rfl, by (repeat (first | exact Below.refl _ _ | assumption | (refine Below.setCell ?_ (by first | (simp; done) | (simp; omega) | omega) _) | (refine Below.alloc ?_ (by first | (simp; done) | (simp; omega) | omega) _) | (refine Below.drew ?_) | (refine Below.drewN ?_ _) | (refine Below.trans ?_ (Below.mono (by assumption) (by first | (simp; done) | (simp; omega) | omega)))))⟩
set_option maxHeartbeats 1000000 in
theorem rfeed_any (o n k : Int) (h : St w gs gb ga rb rf q S ks) (hS : S.size ≤ 1000000) : Calls Try.prog 109 #[.pointer (some ⟨gs, 0, none⟩), .agg #[.int .i64 o, .int .i64 n], .int .i64 k] w fun e w' =>
    e = .returned (.tuple #[.int .i64 (feedV S o n k), .bool (feedB S o n k)]) ∧ Below w.heap.size w w' := by
  have hb0 : Below w.heap.size w (w.alloc (.cells #[.int .i64 o, .int .i64 n] 173)) := (Below.refl _ _).alloc (Nat.le_refl _) _
  have hk0 : (w.alloc (.cells #[.int .i64 o, .int .i64 n] 173)).heap[w.heap.size]? = some (.cells #[.int .i64 o, .int .i64 n] 173 (0, 0)) := heap_alloc_new _ _
  have hlt := h.lt
  have H := Lib.hid (And.intro (h.below hb0) (And.intro hb0 hk0))
  clear h hb0 hk0
  have HSL := Lib.hid (fun w' (hw : BufS w' gb rb rf S) => Buf.feed_any gb rb rf S o n k w' hw hS)
  generalize feedV S o n k = v at HSL ⊢
  generalize feedB S o n k = b at HSL ⊢
  go_enter Try.func109, Try.ntmps109
  go_wp2_with fail
  generalize w.alloc (.cells #[.int .i64 o, .int .i64 n] 173) = W at H ⊢
  have hbp := (Array.getElem?_eq_some_iff.1 H.out.2.2).1
  have p0 : W.cell? ⟨w.heap.size, 0, none⟩ = some (.int .i64 o) := cell_of_row W _ 0 _ _ (0, 0) H.out.2.2
  have p1 : W.cell? ⟨w.heap.size, 1, none⟩ = some (.int .i64 n) := cell_of_row W _ 1 _ _ (0, 0) H.out.2.2
  obtain ⟨c0, c1⟩ := H.out.1.c
  have hltW := H.out.1.lt
  refine wp_region_grow 14 (by kernel_rfl) (by kernel_rfl) ?_
  simp only [List.take_succ_cons, List.take_zero, List.drop_succ_cons, List.drop_zero, List.take_nil, List.drop_nil]
  iterate 9 ((refine wpGrow_val' rfl rfl ?_; apply Exists.intro; refine ⟨fun w1 hw1 => ?_, ?_⟩); (have hc1 := hw1.cell; go_simp; exact growUpon_ok rfl); (refine wpGrow_at (by (simp only [Act.put, List.setIfInBounds_toArray, List.set_cons_succ, List.set_cons_zero]) <;> exact rfl) ?_))
  (refine wpGrow_val' rfl rfl ?_; apply Exists.intro; refine ⟨fun w1 hw1 => ?_, ?_⟩)
  · go_simp
    exact growUpon_call (HSL.out _ (H.out.1.below hw1.below).buf)
  (refine wpGrow_at (by (simp only [Act.put, List.setIfInBounds_toArray, List.set_cons_succ, List.set_cons_zero]) <;> exact rfl) ?_)
  iterate 4 ((refine wpGrow_val' rfl rfl ?_; apply Exists.intro; refine ⟨fun w1 hw1 => ?_, ?_⟩); (have hc1 := hw1.cell; go_simp; exact growUpon_ok rfl); (refine wpGrow_at (by (simp only [Act.put, List.setIfInBounds_toArray, List.set_cons_succ, List.set_cons_zero]) <;> exact rfl) ?_))
  refine wpGrow_nil ?_
  intro w2 hD
  have HD := Lib.hid (H.out.2.1.trans (hD.below.mono H.out.2.1.size))
  clear hD p0 p1 c0 c1
  go_wp2
  go_ret2
  exact ⟨rfl, HD.out⟩

set_option maxHeartbeats 400000 in
theorem rbal_nil (t : Int) : Calls Try.prog 24 #[.pointer none, .int .i64 t] w fun e w' => e = .returned (.bool false) ∧ w = w' := by
  go_enter Try.func24, Try.ntmps24
  go_wp2
  go_ret
  exact ⟨rfl, rfl⟩
set_option maxHeartbeats 400000 in
theorem rbal_any (t : Int) (X : T) (hw : WF ks) (ht : Is ks t X) (h : St w gs gb ga rb rf q S ks) (hn : ks.length ≤ small) : Calls Try.prog 24 #[.pointer (some ⟨gs, 0, none⟩), .int .i64 t] w fun e w' =>
    e = .returned (.bool (Ar.balB X)) ∧ Below w.heap.size w w' := by
  obtain ⟨c0, c1⟩ := h.c
  have hlt := h.lt
  have G := Lib.hid (Ar.balanced_any ga q ks t X hw ht hn w h.ar)
  clear h hw ht
  generalize Ar.balB X = b at G ⊢
  go_enter Try.func24, Try.ntmps24
  go_wp2_with fail
  ((with_reducible refine G.out.mono ?_); rintro e w1 ⟨rfl, hb⟩)
  have HB := Lib.hid hb
  clear hb
  cases b
  · go_wp2
    go_ret
    exact ⟨rfl, HB.out⟩
  · go_wp2
    go_ret
    exact ⟨rfl, HB.out⟩

theorem rsize_is (t : Int) (X : T) (ht : Is ks t X) (h : St w gs gb ga rb rf q S ks) (hn : ks.length ≤ small) : Calls Try.prog 20 #[.pointer (some ⟨gs, 0, none⟩), .int .i64 t] w fun e w' =>
    e = .returned (.tuple #[.int .i64 X.size, .int .i64 0]) ∧ Below w.heap.size w w' := by
  have := rsize_any gs gb ga rb rf q S ks w t h hn
  rw [if_pos (Ar.is_there ht), ht.knot.1] at this
  exact this
theorem rsize_none (t : Int) (ht : t < 0 ∨ (ks.length : Int) < t) (h : St w gs gb ga rb rf q S ks) (hn : ks.length ≤ small) : Calls Try.prog 20 #[.pointer (some ⟨gs, 0, none⟩), .int .i64 t] w fun e w' =>
    e = .returned (.tuple #[.int .i64 0, .int .i64 7]) ∧ Below w.heap.size w w' := by
  have := rsize_any gs gb ga rb rf q S ks w t h hn
  have hs : Ar.getS ks t = (Knot.zero, false) := by unfold Ar.getS; rw [if_neg (by omega)]
  have hz : (t == 0) = false := by simp; omega
  rw [show (getB ks t || t == 0) = false by rw [getB, hs, hz]; rfl] at this
  simpa using this

/-- what span answers where the rope has so many bytes. -/
def spanV (size at_ n : Int) : Int := if at_ < 0 ∨ n < 0 ∨ size < at_ ∨ size - at_ < n then 2 else 0
set_option maxHeartbeats 1000000 in
theorem rspan_any (t a n z : Int) (hz0 : 0 ≤ z) (hz1 : z ≤ 1099511627776) (hsz : Calls Try.prog 20 #[.pointer (some ⟨gs, 0, none⟩), .int .i64 t] w fun e w' => e = .returned (.tuple #[.int .i64 z, .int .i64 0]) ∧ Below w.heap.size w w') :
    Calls Try.prog 66 #[.pointer (some ⟨gs, 0, none⟩), .int .i64 t, .int .i64 a, .int .i64 n] w fun e w' => e = .returned (.int .i64 (spanV z a n)) ∧ Below w.heap.size w w' := by
  have HZ := Lib.hid hsz
  clear hsz
  have key : (a < 0) ∨ (¬ a < 0 ∧ n < 0) ∨ (¬ a < 0 ∧ ¬ n < 0 ∧ z < a) ∨ (¬ a < 0 ∧ ¬ n < 0 ∧ ¬ z < a ∧ z - a < n) ∨ (¬ a < 0 ∧ ¬ n < 0 ∧ ¬ z < a ∧ ¬ z - a < n) := by omega
  rcases key with h1 | ⟨h1, h2⟩ | ⟨h1, h2, h3⟩ | ⟨h1, h2, h3, h4⟩ | ⟨h1, h2, h3, h4⟩
  case inr.inr.inr.inr =>
    have e : spanV z a n = 0 := by unfold spanV; rw [if_neg (by omega)]
    rw [e]
    go_enter Try.func66, Try.ntmps66
    go_wp2_with fail
    ((with_reducible refine HZ.out.mono ?_); rintro e w1 ⟨rfl, hb⟩)
    have HB := Lib.hid hb
    clear hb
    go_wp2
    go_ret
    exact ⟨rfl, HB.out⟩
  all_goals
    have e : spanV z a n = 2 := by unfold spanV; rw [if_pos (by omega)]
    rw [e]
    clear e
    go_enter Try.func66, Try.ntmps66
    go_wp2_with fail
    ((with_reducible refine HZ.out.mono ?_); rintro e w1 ⟨rfl, hb⟩)
    have HB := Lib.hid hb
    clear hb
    go_wp2
    go_ret
    exact ⟨rfl, HB.out⟩
set_option maxHeartbeats 400000 in
theorem rspan_none (s : Option Addr) (t a n : Int) (hsz : Calls Try.prog 20 #[.pointer s, .int .i64 t] w fun e w' => e = .returned (.tuple #[.int .i64 0, .int .i64 7]) ∧ Below w.heap.size w w') :
    Calls Try.prog 66 #[.pointer s, .int .i64 t, .int .i64 a, .int .i64 n] w fun e w' => e = .returned (.int .i64 7) ∧ Below w.heap.size w w' := by
  have HZ := Lib.hid hsz
  clear hsz
  go_enter Try.func66, Try.ntmps66
  go_wp2_with fail
  ((with_reducible refine HZ.out.mono ?_); rintro e w1 ⟨rfl, hb⟩)
  have HB := Lib.hid hb
  clear hb
  go_wp2
  go_ret
  exact ⟨rfl, HB.out⟩
end
end Go.Proofs.Ytoeamnagmehpeaa.Rp


/- (*strings.Builder).copyCheck and WriteString at this dump: the shelf's laying cannot lay them here (a refused branch). -/
namespace Go.Proofs.Ytoeamnagmehpeaa.Bld
set_option linter.unusedSimpArgs false
set_option linter.unusedVariables false
open Go Go.RowKit

set_option maxHeartbeats 1000000 in
set_option maxRecDepth 100000 in
theorem used (b : Nat) (w : World) (h0 : w.cell? ⟨b, 0, none⟩ = some (.pointer (some ⟨b, 0, none⟩))) :
    Calls Try.prog 136 #[.pointer (some ⟨b, 0, none⟩)] w fun e w' => e = .returned (.tuple #[]) ∧ w' = w := by
  have hz : (Try.prog.info? 133).map (·.size) = some 2 := by kernel_rfl
  obtain ⟨j, hj, _⟩ := Option.map_eq_some_iff.1 hz
  go_enter Try.func136, Try.ntmps136
  go_wp2
  rw [Lib.run_neq_ptr_same w _ Try.underlying130 hj]
  go_wp2
  go_end0
  exact ⟨rfl, rfl⟩

set_option maxHeartbeats 1000000 in
set_option maxRecDepth 100000 in
theorem fresh (b : Nat) (w : World) (h0 : w.cell? ⟨b, 0, none⟩ = some (.pointer none)) (hsh : w.shape? b = some (133, 2)) (hfz : w.frozen? ⟨b, 0, none⟩ = false) :
    Calls Try.prog 136 #[.pointer (some ⟨b, 0, none⟩)] w fun e w' => e = .returned (.tuple #[]) ∧ w' = w.setCell ⟨b, 0, none⟩ (.pointer (some ⟨b, 0, none⟩)) := by
  have hz : (Try.prog.info? 133).map (·.size) = some 2 := by kernel_rfl
  have hl : liesAt Try.prog Try.prog.depth 133 (2 / Try.prog.cellsOf 133) 0 133 1 = true := by kernel_rfl
  obtain ⟨j, hj, hjs⟩ := Option.map_eq_some_iff.1 hz
  go_enter Try.func136, Try.ntmps136
  go_wp2
  rw [Lib.run_to_unsafe w ⟨b, 0, none⟩ Try.underlying130 Try.underlying229 hj (by rw [hjs]; decide) hsh (Nat.zero_lt_succ 1)]
  simp only [Result.andThen]
  rw [Oper.upon_value]
  go_wp2
  rw [run_callFunc_extern Try.func149 (by kernel_rfl) (by kernel_rfl) (by kernel_rfl) (e := Extern.AbiNoEscape.same) (by kernel_rfl)]
  rw [Lib.run_noEscape]
  simp only [Result.andThen]
  rw [Oper.upon_value]
  go_wp2
  rw [Lib.run_from_unsafe w ⟨b, 0, none⟩ Try.underlying229 Try.underlying130 hj hsh hl]
  simp only [Result.andThen]
  rw [Oper.upon_value]
  go_wp2
  go_end0
  exact ⟨rfl, rfl⟩

theorem copyCheck (B b : Nat) (bs : List Value) (w : World) (h : Lib.IsBuilderF 133 5 B b bs w) :
    Calls Try.prog 136 #[.pointer (some ⟨b, 0, none⟩)] w fun e w' => e = .returned (.tuple #[]) ∧ (Lib.BuilderAtF 133 5 B b (.pointer (some ⟨b, 0, none⟩)) bs w' ∧ Below B w w' ∧ Lib.OthersKept 5 (some b) w w') := by
  rcases h with h | h
  · refine (fresh b w h.cell0 h.shape h.frozen0).mono ?_
    rintro e w' ⟨rfl, rfl⟩
    exact ⟨rfl, h.used _, (Below.refl B w).setCell (p := ⟨b, 0, none⟩) h.1 _, (Lib.OthersKept.refl _ _ w).setCell ⟨b, 0, none⟩ rfl _⟩
  · refine (used b w h.cell0).mono ?_
    rintro e w' ⟨rfl, rfl⟩
    exact ⟨rfl, h, Below.refl B _, Lib.OthersKept.refl _ _ _⟩

set_option maxHeartbeats 2000000 in
set_option maxRecDepth 100000 in
theorem write (B b : Nat) (bs : List Value) (s : ByteArray) (w : World) (h : Lib.IsBuilderF 133 5 B b bs w) (hlen : bs.length + s.size ≤ 140737488355328) (hBw : B ≤ w.heap.size) :
    Calls Try.prog 105 #[.pointer (some ⟨b, 0, none⟩), .string s] w fun e w' => e = .returned (.tuple #[.int .i64 s.size, .nilIface]) ∧ (Lib.BuilderAtF 133 5 B b (.pointer (some ⟨b, 0, none⟩)) (bs ++ Lib.strCells s) w' ∧ Below B w w' ∧ Lib.OthersKept 5 (some b) w w') := by
  have hinf : (Try.prog.info? 5).map (fun i => (i.zero, i.size, i.bytes)) = some (some (.int .u8 0), 1, 1) := by kernel_rfl
  obtain ⟨i0, hi, hz0, hz1, hz2⟩ := info_parts hinf
  have eg : ∀ args w, (callFunc 136 args).run Try.prog w = .ok (.enter 136 args) w := enters_of Try.func136 (by kernel_rfl) rfl
  go_enter Try.func105, Try.ntmps105
  go_wp2_with (go_at_fn 136; refine (copyCheck B b bs _ h).mono ?_)
  rintro e w1 ⟨rfl, h1, hb1, hk1⟩
  obtain ⟨hB, v, hbk, hown, hne⟩ := h1
  have c0 : w1.cell? ⟨b, 0, none⟩ = some (.pointer (some ⟨b, 0, none⟩)) := by rw [Lib.cell_of_heap hbk]; rfl
  have c1 : w1.cell? ⟨b, 1, none⟩ = some v := by rw [Lib.cell_of_heap hbk]; rfl
  go_wp2_with (at_builtin; refine Lib.wpList_append_own_stringF _ rfl _ _ 131 9 rfl B 5 i0 Try.underlying131 Try.underlying9 hi hz0 hz1 hz2 _ _ _ rfl hown s rfl ?c3 ?c4 ?c5 ?_)
  case c3 => unfold maxLen; omega
  case c4 => omega
  case c5 => have := hb1.size; omega
  intro v' w2 hown' hgrow _
  have hlt : b < w1.heap.size := by
    rcases Nat.lt_or_ge b w1.heap.size with h' | h'
    · exact h'
    · simp [Array.getElem?_eq_none h'] at hbk
  have hb2 : w2.heap[b]? = some (.cells #[.pointer (some ⟨b, 0, none⟩), v] 133 (0, 0)) := by
    rw [hgrow.block b hlt (fun e => hne e.symm)]
    exact hbk
  have d0 : w2.cell? ⟨b, 0, none⟩ = some (.pointer (some ⟨b, 0, none⟩)) := by rw [Lib.cell_of_heap hb2]; rfl
  have d1 : w2.cell? ⟨b, 1, none⟩ = some v := by rw [Lib.cell_of_heap hb2]; rfl
  have f1 : w2.frozen? ⟨b, 1, none⟩ = false := Lib.frozen_of_heap hb2 1
  obtain ⟨ao, n', cap, rfl⟩ : ∃ ao n' cap, v' = .slice ao n' cap := by
    rcases hown'.2 with ⟨hv, _⟩ | ⟨g, cap, cur, fz, hv, _⟩
    · exact ⟨_, _, _, hv⟩
    · exact ⟨_, _, _, hv⟩
  go_wp2
  go_ret2
  refine ⟨rfl, ?_, ?_, (hk1.grown hgrow (Lib.ownsRowF_kind hown)).setCell ⟨b, 1, none⟩ rfl _⟩
  · exact Lib.BuilderAtF.put (T := 133) (e := 5) hB hb2 (bs' := bs ++ Lib.strCells s) (by simpa [Lib.strCells_length] using hown') (by decide)
  · exact (hb1.grown hgrow (by have := hb1.size; omega) (fun k hk => (hown.lt k hk).1)).setCell (p := ⟨b, 1, none⟩) hB _

/-- String: the text, and nothing else but bytes and the builder turned. -/
theorem text (B b : Nat) (l : List UInt8) (w : World) (h : Lib.IsBuilderF 133 5 B b (Lib.byteCells l) w) (hBw : B ≤ w.heap.size) :
    Calls Try.prog 72 #[.pointer (some ⟨b, 0, none⟩)] w fun e w' => e = .returned (.string ⟨l.toArray⟩) ∧ Below B w w' := (Try.Builder_String_any_k B b l w h hBw).mono fun _ _ h => ⟨h.1, h.2.2.1⟩
end Go.Proofs.Ytoeamnagmehpeaa.Bld


/- A store's reading: read (over a tree), Read, Byte. */ -/
namespace Go.Proofs.Ytoeamnagmehpeaa.Rp
set_option linter.unusedSimpArgs false
set_option linter.unusedVariables false
open Go Go.RowKit
open Go.Proofs.Ytoeamnagmehpeaa.Ar (T Is Ext WF Knot getK getB Arena resAr small leafK blkK)
open Go.Proofs.Ytoeamnagmehpeaa.Buf (BufS feedsV feedV feedB thereB sliceV)
attribute [local go_sem] lt_add1 lt_self1 size_ne size_ne' size_ne1 size_ne1'
attribute [local irreducible] wpGrow wpThr

theorem sliceV_cut {S : ByteArray} {o n : Int} (h0 : 0 ≤ o) (h1 : 0 ≤ n) (h2 : o + n ≤ S.size) : (sliceV S o n).data.toList = cutS S o n := by
  have hb : thereB S.size o n = true := by simp [thereB]; omega
  unfold sliceV
  rw [if_pos hb, extract_list]
  unfold cutS
  congr 1
  omega

/-! a builder in a world that has grown -/
theorem bld_below {T e : TypeId} {B b : Nat} {bs : List Value} {w w' : World} (h : Lib.IsBuilderF T e B b bs w) (hb : Below w.heap.size w w') : Lib.IsBuilderF T e B b bs w' := by
  have key : ∀ p, Lib.BuilderAtF T e B b p bs w → Lib.BuilderAtF T e B b p bs w' := by
    intro p hp
    have hlt := hp.lt
    obtain ⟨hB, v, hk, hown, hne⟩ := hp
    refine ⟨hB, v, (hb.block b hlt).trans hk, ⟨hown.1, ?_⟩, hne⟩
    rcases hown.2 with h | ⟨g, cap, cur, fz, hv, hg, hgk, rest⟩
    · exact .inl h
    · exact .inr ⟨g, cap, cur, fz, hv, hg, (hb.block g (Array.getElem?_eq_some_iff.1 hgk).1).trans hgk, rest⟩
  exact h.elim (fun h => .inl (key _ h)) (fun h => .inr (key _ h))
theorem others_below {e : TypeId} {b : Option Nat} {w w' : World} (hb : Below w.heap.size w w') : Lib.OthersKept e b w w' := fun k o hk _ _ => (hb.block k (Array.getElem?_eq_some_iff.1 hk).1).trans hk
theorem bld_lt {T e : TypeId} {B b : Nat} {bs : List Value} {w : World} (h : Lib.IsBuilderF T e B b bs w) : b < w.heap.size := h.elim (fun h => h.lt) (fun h => h.lt)

/-- where read stands: w0 before the builder was made; bs the builder's bytes. -/
structure RS (w0 : World) (b : Nat) (l : List UInt8) (w : World) : Prop where
  bl : Below w0.heap.size w0 w
  bd : Lib.IsBuilderF 133 5 w0.heap.size b (Lib.byteCells l) w
/-- what read hands back. -/
structure RSP (w0 : World) (b : Nat) (l : List UInt8) (w w' : World) : Prop where
  rs : RS w0 b l w'
  ok : Lib.OthersKept 5 (some b) w w'
section
variable {w0 w w' w2 : World} {b : Nat} {l l' : List UInt8}
theorem RS.below (h : RS w0 b l w) (hb : Below w.heap.size w w') : RS w0 b l w' := ⟨h.bl.trans (hb.mono h.bl.size), bld_below h.bd hb⟩
theorem RS.lt (h : RS w0 b l w) : b < w.heap.size := bld_lt h.bd
theorem RSP.of_below (h : RS w0 b l w) (hb : Below w.heap.size w w') : RSP w0 b l w w' := ⟨h.below hb, others_below hb⟩
theorem RSP.trans (h : RSP w0 b l w w') (h' : RSP w0 b l' w' w2) : RSP w0 b l' w w2 := ⟨h'.1, h.2.trans h'.2⟩
theorem RSP.blk (h : RSP w0 b l w w') {k : Nat} {x : Knot} (hx : blkK w k x) (hne : k ≠ b) : blkK w' k x :=
  h.2 k _ hx (fun e => hne (Option.some.inj e)) (fun c fz e => by injection e with _ e _; exact absurd e (by decide))
end

theorem take_one (a b : List UInt8) {z at_ n : Int} (hz : (a.length : Int) = z) (h0 : 0 ≤ at_) (h1 : at_ + n ≤ z) (h2 : 0 ≤ n) : ((a ++ b).drop at_.toNat).take n.toNat = (a.drop at_.toNat).take (min n (z - at_)).toNat := by
  rw [List.drop_append_of_le_length (by omega), List.take_append_of_le_length (by rw [List.length_drop]; omega), show min n (z - at_) = n by omega]
theorem take_snd (a b : List UInt8) {z at_ n : Int} (hz : (a.length : Int) = z) (h0 : 0 ≤ at_) (h1 : z ≤ at_) : ((a ++ b).drop at_.toNat).take n.toNat = (b.drop (max (at_ - z) 0).toNat).take (at_ + n - max at_ z).toNat := by
  rw [List.drop_append, List.drop_of_length_le (show a.length ≤ at_.toNat by omega), List.nil_append, show max at_ z = at_ by omega, show at_ + n - at_ = n by omega, show at_.toNat - a.length = (max (at_ - z) 0).toNat by omega]
theorem take_two (a b : List UInt8) {z at_ n : Int} (hz : (a.length : Int) = z) (h0 : 0 ≤ at_) (h1 : at_ < z) (h2 : z < at_ + n) :
    ((a ++ b).drop at_.toNat).take n.toNat = (a.drop at_.toNat).take (min n (z - at_)).toNat ++ (b.drop (max (at_ - z) 0).toNat).take (at_ + n - max at_ z).toNat := by
  rw [List.drop_append_of_le_length (by omega), List.take_append, show min n (z - at_) = z - at_ by omega, show max (at_ - z) 0 = 0 by omega, show max at_ z = z by omega, List.length_drop]
  rw [List.take_of_length_le (i := n.toNat) (by rw [List.length_drop]; omega), List.take_of_length_le (i := (z - at_).toNat) (by rw [List.length_drop]; omega), show n.toNat - (a.length - at_.toNat) = (at_ + n - z).toNat by omega]
  simp

section
variable {gs gb ga : Nat} {rb rf q : Option Nat} {S : ByteArray} {ks : List Knot} {w0 : World} {b : Nat}
abbrev readC (gs b : Nat) (t a n : Int) : Array Value := #[.pointer (some ⟨gs, 0, none⟩), .pointer (some ⟨b, 0, none⟩), .int .i64 t, .int .i64 a, .int .i64 n]

set_option maxHeartbeats 1000000 in
theorem read_zero (h : St w0 gs gb ga rb rf q S ks) (hks : ks.length ≤ small) (t a n : Int) (hn : n = 0 ∨ getB ks t = false) (l : List UInt8) (w : World) (hr : RS w0 b l w) :
    Calls Try.prog 71 #[.pointer (some ⟨gs, 0, none⟩), .pointer (some ⟨b, 0, none⟩), .int .i64 t, .int .i64 a, .int .i64 n] w fun e w' => e = .returned (.tuple #[]) ∧ RSP w0 b l w w' := by
  have G := Lib.hid (rknot_any gs gb ga rb rf q S ks w t ⟨(hr.bl.block gs h.lt).trans h.blk, Buf.Buf.below h.buf (hr.bl), h.ar.below hr.bl, h.ap, h.sb, h.sa⟩ hks)
  have HR := Lib.hid hr
  unfold Knot.val at G
  clear h hr hks
  generalize getK ks t = k at G
  generalize getB ks t = ok at G hn
  go_enter Try.func71, Try.ntmps71
  go_wp2_with fail
  ((with_reducible refine G.out.mono ?_); rintro e w1 ⟨rfl, hb1⟩)
  have hb := hb1.alloc hb1.size (.cells #[.int .i64 k.left, .int .i64 k.right, .int .i64 k.off, .int .i64 k.len, .int .i64 k.high, .int .i64 k.leaves, .int .i64 k.feeds] 50)
  have HB := Lib.hid (RSP.of_below HR.out hb)
  clear hb1 hb
  rcases hn with rfl | rfl
  · cases ok
    all_goals
      go_wp2
      (first | go_end0 | refine bodyPost_ret (v := .tuple #[]) (by simp [results, Try.results71, go_sem]) rfl ?_)
      exact ⟨rfl, HB.out⟩
  · go_wp2
    (first | go_end0 | refine bodyPost_ret (v := .tuple #[]) (by simp [results, Try.results71, go_sem]) rfl ?_)
    exact ⟨rfl, HB.out⟩

set_option maxHeartbeats 2000000 in
theorem read_leaf (h : St w0 gs gb ga rb rf q S ks) (hks : ks.length ≤ small) (hS : S.size ≤ 1000000) (t o m f a n : Int) (ht : Is ks t (.leaf o m f)) (hg : lfOK S (o, m, f)) (ha : 0 ≤ a) (hn : 1 ≤ n) (hm : a + n ≤ m) (l : List UInt8) (hl : l.length ≤ 100000000000) (w : World) (hr : RS w0 b l w) :
    Calls Try.prog 71 #[.pointer (some ⟨gs, 0, none⟩), .pointer (some ⟨b, 0, none⟩), .int .i64 t, .int .i64 a, .int .i64 n] w fun e w' => e = .returned (.tuple #[]) ∧ RSP w0 b (l ++ ((cutS S o m).drop a.toNat).take n.toNat) w w' := by
  obtain ⟨gk, gbt, _⟩ := ht.leaf_
  obtain ⟨o0, o1, o2, -⟩ := hg
  simp only at o0 o1 o2
  have hSt := Lib.hid (fun w (hr : Below w0.heap.size w0 w) => (⟨(hr.block gs h.lt).trans h.blk, Buf.Buf.below h.buf hr, h.ar.below hr, h.ap, h.sb, h.sa⟩ : St w gs gb ga rb rf q S ks))
  have G := Lib.hid (rknot_any gs gb ga rb rf q S ks w t (hSt.out w hr.bl) hks)
  have HR := Lib.hid hr
  rw [gk, gbt] at G
  unfold Knot.val leafK at G
  simp only at G
  have HS := Lib.hid (fun w' (hr : Below w0.heap.size w0 w') => rbytes_any gs gb ga rb rf q S ks w' (o + a) n (hSt.out w' hr) hS)
  have hcut : ((cutS S o m).drop a.toNat).take n.toNat = (sliceV S (o + a) n).data.toList := by
    rw [sliceV_cut (by omega) (by omega) (by omega)]
    unfold cutS
    rw [List.drop_take, List.drop_drop, List.take_take]
    congr 1
    · omega
    · congr 1
      omega
  rw [hcut]
  have hsz : (sliceV S (o + a) n).size ≤ 1000000 := by
    have h1 : (sliceV S (o + a) n).size = (sliceV S (o + a) n).data.toList.length := rfl
    have := cutS_length (S := S) (o := o + a) (n := n) (by omega) (by omega) (by omega)
    rw [h1, sliceV_cut (by omega) (by omega) (by omega)]
    omega
  generalize sliceV S (o + a) n = s at HS hsz ⊢
  clear h hr hks gk gbt ht hcut
  go_enter Try.func71, Try.ntmps71
  go_wp2_with fail
  ((with_reducible refine G.out.mono ?_); rintro e w1 ⟨rfl, hb1⟩)
  have hb := hb1.alloc hb1.size (.cells #[.int .i64 0, .int .i64 0, .int .i64 o, .int .i64 m, .int .i64 1, .int .i64 1, .int .i64 f] 50)
  have HB := Lib.hid (RSP.of_below HR.out hb)
  clear hb1 hb
  go_wp2_with (go_at_call 99; ((with_reducible refine (HS.out _ HB.out.1.bl).mono ?_); rintro e w2 ⟨rfl, hb2⟩))
  have HB2 := Lib.hid (HB.out.trans (RSP.of_below HB.out.1 hb2))
  clear hb2 HB
  go_wp2_with (go_at_call 105; ((with_reducible refine (Bld.write _ b _ s _ HB2.out.1.bd (by rw [Lib.byteCells_length]; omega) HB2.out.1.bl.size).mono ?_); rintro e w3 ⟨rfl, hbd, hbl, hok⟩))
  have HB3 : RSP w0 b (l ++ s.data.toList) w w3 := by
    refine ⟨⟨HB2.out.1.bl.trans hbl, ?_⟩, HB2.out.2.trans hok⟩
    rw [Lib.byteCells_append]
    exact .inr hbd
  have HB3 := Lib.hid HB3
  clear hbd hbl hok
  go_wp2
  (first | go_end0 | refine bodyPost_ret (v := .tuple #[]) (by simp [results, Try.results71, go_sem]) rfl ?_)
  exact ⟨rfl, HB3.out⟩

theorem blk_load {w : World} {k : Nat} {x : Knot} (h : blkK w k x) : w.cell? ⟨k, 0, none⟩ = some (.int .i64 x.left) ∧ w.cell? ⟨k, 1, none⟩ = some (.int .i64 x.right) ∧ k < w.heap.size := ⟨h.c0, h.c1, h.lt⟩
set_option maxHeartbeats 4000000 in
theorem read_node (h : St w0 gs gb ga rb rf q S ks) (hw : WF ks) (hks : ks.length ≤ small) (t a n : Int) (L R : T) (ht : Is ks t (.node L R)) (hg : Good S (.node L R)) (ha : 0 ≤ a) (hn : 1 ≤ n) (hm : a + n ≤ L.size + R.size) (l : List UInt8) (w : World) (hr : RS w0 b l w)
    (iL : ∀ t' a' n' l' w', Is ks t' L → 0 ≤ a' → 0 ≤ n' → a' + n' ≤ L.size → (l'.length : Int) + n' ≤ (l.length : Int) + n → RS w0 b l' w' → Calls Try.prog 71 #[.pointer (some ⟨gs, 0, none⟩), .pointer (some ⟨b, 0, none⟩), .int .i64 t', .int .i64 a', .int .i64 n'] w' fun e w'' => e = .returned (.tuple #[]) ∧ RSP w0 b (l' ++ ((txt S L).drop a'.toNat).take n'.toNat) w' w'')
    (iR : ∀ t' a' n' l' w', Is ks t' R → 0 ≤ a' → 0 ≤ n' → a' + n' ≤ R.size → (l'.length : Int) + n' ≤ (l.length : Int) + n → RS w0 b l' w' → Calls Try.prog 71 #[.pointer (some ⟨gs, 0, none⟩), .pointer (some ⟨b, 0, none⟩), .int .i64 t', .int .i64 a', .int .i64 n'] w' fun e w'' => e = .returned (.tuple #[]) ∧ RSP w0 b (l' ++ ((txt S R).drop a'.toNat).take n'.toNat) w' w'') :
    Calls Try.prog 71 #[.pointer (some ⟨gs, 0, none⟩), .pointer (some ⟨b, 0, none⟩), .int .i64 t, .int .i64 a, .int .i64 n] w fun e w' => e = .returned (.tuple #[]) ∧ RSP w0 b (l ++ ((txt S (.node L R)).drop a.toNat).take n.toNat) w w' := by
  have hgL : ((txt S L).length : Int) = L.size := txt_length (good_node.1 hg).1
  obtain ⟨l', r', e1, e2, hI1, hI2, gbt, _, _, _, gk⟩ := ht.node_
  have okN := ht.ok hw
  simp only [T.ok] at okN
  have hbL : 0 ≤ L.size ∧ L.size ≤ 1099511627776 ∧ 0 ≤ R.size ∧ L.size + R.size ≤ 1099511627776 := by omega
  have hSt := Lib.hid (fun w (hr : Below w0.heap.size w0 w) => (⟨(hr.block gs h.lt).trans h.blk, Buf.Buf.below h.buf hr, h.ar.below hr, h.ap, h.sb, h.sa⟩ : St w gs gb ga rb rf q S ks))
  have G := Lib.hid (rknot_any gs gb ga rb rf q S ks w t (hSt.out w hr.bl) hks)
  have HR := Lib.hid hr
  rw [gk, gbt] at G
  unfold Knot.val at G
  simp only at G
  have HZ := Lib.hid (fun w' (hr : Below w0.heap.size w0 w') => Ar.size_any ga q ks l' w' (hSt.out w' hr).ar hks)
  rw [Ar.is_there hI1, hI1.knot.1] at HZ
  rw [txt_node]
  have HI := Lib.hid (And.intro (fun a' n' lx w' => iL l' a' n' lx w' hI1) (fun a' n' lx w' => iR r' a' n' lx w' hI2))
  clear h hr hks gk gbt ht hI1 hI2 okN iL iR hg hw e2
  generalize txt S L = xL at hgL HI ⊢
  generalize txt S R = xR at HI ⊢
  generalize L.size = z at hgL HI hbL HZ G hm
  generalize R.size = zr at HI hbL G hm
  generalize 1 + max L.high R.high = z2 at G
  generalize L.many + R.many = z3 at G
  generalize L.feeds + R.feeds = z4 at G
  have HN := Lib.hid (And.intro hgL (And.intro ha (And.intro hn (And.intro hm hbL))))
  go_enter Try.func71, Try.ntmps71
  go_wp2_with fail
  ((with_reducible refine G.out.mono ?_); rintro e w1 ⟨rfl, hb1⟩)
  have hb := hb1.alloc hb1.size (.cells #[.int .i64 l', .int .i64 r', .int .i64 0, .int .i64 (z + zr), .int .i64 z2, .int .i64 z3, .int .i64 z4] 50)
  have hx : blkK (w1.alloc (.cells #[.int .i64 l', .int .i64 r', .int .i64 0, .int .i64 (z + zr), .int .i64 z2, .int .i64 z3, .int .i64 z4] 50)) w1.heap.size ⟨l', r', 0, z + zr, z2, z3, z4⟩ := heap_alloc_new _ _
  have hne : w1.heap.size ≠ b := by have := HR.out.lt; have := hb1.size; omega
  have HB := Lib.hid (RSP.of_below HR.out hb)
  have HX := Lib.hid (And.intro hx hne)
  clear hb1 hb hx hne
  go_upto_region 4 with fail
  generalize w1.heap.size = kb at HX ⊢
  generalize w1.alloc (.cells #[.int .i64 l', .int .i64 r', .int .i64 0, .int .i64 (z + zr), .int .i64 z2, .int .i64 z3, .int .i64 z4] 50) = W at HB HX ⊢
  have hStW := Lib.hid (hSt.out W HB.out.rs.bl)
  obtain ⟨c0, c1⟩ := hStW.out.c
  have hltW := hStW.out.lt
  obtain ⟨x0, x1, hbp⟩ := blk_load HX.out.1
  simp only at x0 x1
  refine wp_region_grow 12 (by kernel_rfl) (by kernel_rfl) ?_
  simp only [List.take_succ_cons, List.take_zero, List.drop_succ_cons, List.drop_zero, List.take_nil, List.drop_nil]
  iterate 6 ((refine wpGrow_val' rfl rfl ?_; apply Exists.intro; refine ⟨fun w1 hw1 => ?_, ?_⟩); (have hc1 := hw1.cell; go_simp; exact growUpon_ok rfl); (refine wpGrow_at (by (simp only [Act.put, List.setIfInBounds_toArray, List.set_cons_succ, List.set_cons_zero]) <;> exact rfl) ?_))
  (refine wpGrow_val' rfl rfl ?_; apply Exists.intro; refine ⟨fun w1 hw1 => ?_, ?_⟩)
  · go_simp
    exact growUpon_call (HZ.out _ (HB.out.rs.bl.trans (hw1.below.mono HB.out.rs.bl.size)))
  (refine wpGrow_at (by (simp only [Act.put, List.setIfInBounds_toArray, List.set_cons_succ, List.set_cons_zero]) <;> exact rfl) ?_)
  iterate 5 ((refine wpGrow_val' rfl rfl ?_; apply Exists.intro; refine ⟨fun w1 hw1 => ?_, ?_⟩); (have hc1 := hw1.cell; go_simp; exact growUpon_ok rfl); (refine wpGrow_at (by (simp only [Act.put, List.setIfInBounds_toArray, List.set_cons_succ, List.set_cons_zero]) <;> exact rfl) ?_))
  refine wpGrow_nil ?_
  intro w2 hD
  have HB2 := Lib.hid (HB.out.trans (RSP.of_below HB.out.1 hD.below))
  have HX2 := Lib.hid (And.intro (HX.out.1.below hD.below) HX.out.2)
  clear hD x0 x1 hbp c0 c1 hltW hStW HX HB
  obtain ⟨x0, x1, hbp⟩ := blk_load HX2.out.1
  simp only at x0 x1
  obtain ⟨hz0, hz1, hz2, hz3⟩ := hbL
  clear hgL
  by_cases c1 : a + n ≤ z
  · have c2 : a < z := by omega
    go_wp2_with fail
    ((with_reducible refine (HI.out.1 a (min n (z - a)) l _ ha (by omega) (by omega) (by omega) HB2.out.rs).mono ?_); rintro e w3 ⟨rfl, h3⟩)
    have HB3 := Lib.hid (HB2.out.trans h3)
    clear h3
    go_wp2
    (first | go_end0 | refine bodyPost_ret (v := .tuple #[]) (by simp [results, Try.results71, go_sem]) rfl ?_)
    rw [take_one xL xR HN.out.1 ha c1 (by omega)]
    exact ⟨rfl, HB3.out⟩
  · by_cases c2 : a < z
    · go_wp2_with fail
      ((with_reducible refine (HI.out.1 a (min n (z - a)) l _ ha (by omega) (by omega) (by omega) HB2.out.rs).mono ?_); rintro e w3 ⟨rfl, h3⟩)
      have HX3 := Lib.hid (h3.blk HX2.out.1 HX2.out.2)
      have HB3 := Lib.hid (HB2.out.trans h3)
      have hlen : (l ++ (xL.drop a.toNat).take (min n (z - a)).toNat).length = l.length + (min n (z - a)).toNat := by
        have := HN.out.1
        rw [List.length_append, List.length_take, List.length_drop]
        omega
      clear h3 x0 x1 hbp HX2 HB2
      obtain ⟨x0, x1, hbp⟩ := blk_load HX3.out
      simp only at x0 x1
      go_wp2_with fail
      ((with_reducible refine (HI.out.2 (max (a - z) 0) (a + n - max a z) _ _ (by omega) (by omega) (by omega) (by rw [hlen]; omega) HB3.out.rs).mono ?_); rintro e w4 ⟨rfl, h4⟩)
      have HB4 := Lib.hid (HB3.out.trans h4)
      clear h4
      go_wp2
      (first | go_end0 | refine bodyPost_ret (v := .tuple #[]) (by simp [results, Try.results71, go_sem]) rfl ?_)
      rw [take_two xL xR HN.out.1 ha c2 (by omega), ← List.append_assoc]
      exact ⟨rfl, HB4.out⟩
    · go_wp2_with fail
      ((with_reducible refine (HI.out.2 (max (a - z) 0) (a + n - max a z) l _ (by omega) (by omega) (by omega) (by omega) HB2.out.rs).mono ?_); rintro e w4 ⟨rfl, h4⟩)
      have HB4 := Lib.hid (HB2.out.trans h4)
      clear h4
      go_wp2
      (first | go_end0 | refine bodyPost_ret (v := .tuple #[]) (by simp [results, Try.results71, go_sem]) rfl ?_)
      rw [take_snd xL xR HN.out.1 ha (by omega)]
      exact ⟨rfl, HB4.out⟩

theorem read_any (h : St w0 gs gb ga rb rf q S ks) (hw : WF ks) (hks : ks.length ≤ small) (hS : S.size ≤ 1000000) : ∀ (X : T) (t a n : Int) (l : List UInt8) (w : World), Is ks t X → Good S X → 0 ≤ a → 0 ≤ n → a + n ≤ X.size → (l.length : Int) + n ≤ 100000000000 → RS w0 b l w →
    Calls Try.prog 71 #[.pointer (some ⟨gs, 0, none⟩), .pointer (some ⟨b, 0, none⟩), .int .i64 t, .int .i64 a, .int .i64 n] w fun e w' => e = .returned (.tuple #[]) ∧ RSP w0 b (l ++ ((txt S X).drop a.toNat).take n.toNat) w w' := by
  have z0 : ∀ (X : T) (t a n : Int) (l : List UInt8) (w : World), n = 0 → RS w0 b l w → Calls Try.prog 71 #[.pointer (some ⟨gs, 0, none⟩), .pointer (some ⟨b, 0, none⟩), .int .i64 t, .int .i64 a, .int .i64 n] w fun e w' => e = .returned (.tuple #[]) ∧ RSP w0 b (l ++ ((txt S X).drop a.toNat).take n.toNat) w w' := by
    intro X t a n l w hn hr
    have := read_zero h hks t a n (.inl hn) l w hr
    rw [hn] at this ⊢
    simpa using this
  intro X
  induction X with
  | nil => intro t a n l w ht hg ha hn hm hl hr; exact z0 _ _ _ _ _ _ (by simp only [T.size] at hm; omega) hr
  | leaf o m f =>
    intro t a n l w ht hg ha hn hm hl hr
    by_cases h0 : n = 0
    · exact z0 _ _ _ _ _ _ h0 hr
    · have := read_leaf h hks hS t o m f a n ht (good_leaf.1 hg) ha (by omega) (by simpa only [T.size] using hm) l (by omega) w hr
      rwa [txt_leaf]
  | node L R iL iR =>
    intro t a n l w ht hg ha hn hm hl hr
    by_cases h0 : n = 0
    · exact z0 _ _ _ _ _ _ h0 hr
    · exact read_node h hw hks t a n L R ht hg ha (by omega) (by simpa only [T.size] using hm) l w hr
        (fun t' a' n' l' w' h1 h2 h3 h4 h5 h6 => iL t' a' n' l' w' h1 (good_node.1 hg).1 h2 h3 h4 (by omega) h6)
        (fun t' a' n' l' w' h1 h2 h3 h4 h5 h6 => iR t' a' n' l' w' h1 (good_node.1 hg).2 h2 h3 h4 (by omega) h6)
end
end Go.Proofs.Ytoeamnagmehpeaa.Rp


/- A store's Read and Byte. -/
namespace Go.Proofs.Ytoeamnagmehpeaa.Rp
set_option linter.unusedSimpArgs false
set_option linter.unusedVariables false
open Go Go.RowKit
open Go.Proofs.Ytoeamnagmehpeaa.Ar (T Is Ext WF Knot getK getB Arena resAr small)
open Go.Proofs.Ytoeamnagmehpeaa.Buf (BufS feedsV feedV feedB thereB sliceV)
attribute [local go_sem] lt_add1 lt_self1 size_ne size_ne' size_ne1 size_ne1'
attribute [local irreducible] wpGrow wpThr

/-- a new builder. -/
theorem RS.new (w : World) : RS w w.heap.size [] (w.alloc (.cells #[.pointer none, .slice none 0 0] 133)) :=
  ⟨(Below.refl _ _).alloc (Nat.le_refl _) _, .inl ⟨Nat.le_refl _, _, heap_alloc_new _ _, World.ownsRowF_nil _ _ _ _, by simp [Value.ownBlock]⟩⟩

/-- what a read answers where the rope has the bytes x. -/
def readV (x : List UInt8) (a n : Int) : List UInt8 × Int := if spanV x.length a n ≠ 0 then ([], spanV x.length a n) else if 1048576 < n then ([], 4) else ((x.drop a.toNat).take n.toNat, 0)

section
variable (gs gb ga : Nat) (rb rf q : Option Nat) (S : ByteArray) (ks : List Knot) (w : World)
set_option maxHeartbeats 1000000 in
/-- span said no. -/
theorem rread_err (s : Option Addr) (t a n c : Int) (hc : c ≠ 0) (hsp : Calls Try.prog 66 #[.pointer s, .int .i64 t, .int .i64 a, .int .i64 n] w fun e w' => e = .returned (.int .i64 c) ∧ Below w.heap.size w w') :
    Calls Try.prog 21 #[.pointer s, .int .i64 t, .int .i64 a, .int .i64 n] w fun e w' => e = .returned (.tuple #[.string ⟨#[]⟩, .int .i64 c]) ∧ Below w.heap.size w w' := by
  have HZ := Lib.hid hsp
  clear hsp
  go_enter Try.func21, Try.ntmps21
  go_wp2_with fail
  ((with_reducible refine HZ.out.mono ?_); rintro e w1 ⟨rfl, hb⟩)
  have HB := Lib.hid hb
  clear hb
  go_wp2
  go_ret2
  exact ⟨rfl, HB.out⟩

set_option maxHeartbeats 1000000 in
theorem rread_ok (t a n : Int) (X : T) (hw : WF ks) (ht : Is ks t X) (hg : Good S X) (h : St w gs gb ga rb rf q S ks) (hks : ks.length ≤ small) (hS : S.size ≤ 1000000) (hs : spanV X.size a n = 0)
    (hsp : Calls Try.prog 66 #[.pointer (some ⟨gs, 0, none⟩), .int .i64 t, .int .i64 a, .int .i64 n] w fun e w' => e = .returned (.int .i64 0) ∧ Below w.heap.size w w') :
    Calls Try.prog 21 #[.pointer (some ⟨gs, 0, none⟩), .int .i64 t, .int .i64 a, .int .i64 n] w fun e w' =>
      e = .returned (if 1048576 < n then .tuple #[.string ⟨#[]⟩, .int .i64 4] else .tuple #[.string ⟨(((txt S X).drop a.toNat).take n.toNat).toArray⟩, .int .i64 0]) ∧ Below w.heap.size w w' := by
  have HZ := Lib.hid hsp
  have hin : 0 ≤ a ∧ 0 ≤ n ∧ a + n ≤ X.size := by unfold spanV at hs; split at hs <;> omega
  have HSt := Lib.hid h
  obtain ⟨h0, h1, h2⟩ := hin
  have HRD := Lib.hid (fun (w1 : World) (hb : Below w.heap.size w w1) (hn : n ≤ 1048576) => read_any (b := w1.heap.size) (HSt.out.below hb) hw hks hS X t a n [] (w1.alloc (.cells #[.pointer none, .slice none 0 0] 133)) ht hg h0 h1 h2 (by simp only [List.length_nil]; omega) (RS.new w1))
  clear hsp hs hw ht hg h hks hS
  simp only [List.nil_append] at HRD
  generalize ((txt S X).drop a.toNat).take n.toNat = x at HRD ⊢
  clear h2
  by_cases hn : 1048576 < n
  · rw [if_pos hn]
    go_enter Try.func21, Try.ntmps21
    go_wp2_with fail
    ((with_reducible refine HZ.out.mono ?_); rintro e w1 ⟨rfl, hb⟩)
    have HB := Lib.hid hb
    clear hb
    go_wp2
    go_ret2
    exact ⟨rfl, HB.out⟩
  · rw [if_neg hn]
    go_enter Try.func21, Try.ntmps21
    go_wp2_with fail
    ((with_reducible refine HZ.out.mono ?_); rintro e w1 ⟨rfl, hb⟩)
    have HB := Lib.hid hb
    have HW := Lib.hid hb.size
    clear hb
    go_wp2_with (go_at_call 71; ((with_reducible refine (HRD.out _ HB.out (by omega)).mono ?_); rintro e w2 ⟨rfl, h2⟩))
    have HB2 := Lib.hid (And.intro h2.rs ((HB.out.trans (h2.rs.bl.mono HW.out))))
    clear h2
    go_wp2_with (go_at_call 72; ((with_reducible refine (Bld.text _ _ x _ HB2.out.1.bd HB2.out.1.bl.size).mono ?_); rintro e w3 ⟨rfl, h3⟩))
    have HB3 := Lib.hid (HB2.out.2.trans (h3.mono HW.out))
    clear h3
    go_wp2
    go_ret2
    exact ⟨rfl, HB3.out⟩

/-- Read of a rope. -/
theorem rread_any (t a n : Int) (X : T) (hw : WF ks) (ht : Is ks t X) (hg : Good S X) (h : St w gs gb ga rb rf q S ks) (hks : ks.length ≤ small) (hS : S.size ≤ 1000000) :
    Calls Try.prog 21 #[.pointer (some ⟨gs, 0, none⟩), .int .i64 t, .int .i64 a, .int .i64 n] w fun e w' =>
      e = .returned (.tuple #[.string ⟨(readV (txt S X) a n).1.toArray⟩, .int .i64 (readV (txt S X) a n).2]) ∧ Below w.heap.size w w' := by
  have hl := txt_length hg
  have hok := ht.ok hw
  have hz : 0 ≤ X.size ∧ X.size ≤ 1099511627776 := by have := T.bounds hok; omega
  have hsp := rspan_any gs w t a n X.size hz.1 hz.2 (rsize_is gs gb ga rb rf q S ks w t X ht h hks)
  unfold readV
  rw [hl]
  by_cases hs : spanV X.size a n = 0
  · rw [hs] at hsp
    have := rread_ok gs gb ga rb rf q S ks w t a n X hw ht hg h hks hS hs hsp
    rw [if_neg (by omega)]
    split
    · next h1 => simpa [h1] using this
    · next h1 => simpa [h1] using this
  · rw [if_pos hs]
    exact rread_err w _ t a n _ hs hsp
theorem rread_none (t a n : Int) (ht : t < 0 ∨ (ks.length : Int) < t) (h : St w gs gb ga rb rf q S ks) (hks : ks.length ≤ small) :
    Calls Try.prog 21 #[.pointer (some ⟨gs, 0, none⟩), .int .i64 t, .int .i64 a, .int .i64 n] w fun e w' => e = .returned (.tuple #[.string ⟨#[]⟩, .int .i64 7]) ∧ Below w.heap.size w w' :=
  rread_err w _ t a n 7 (by decide) (rspan_none w _ t a n (rsize_none gs gb ga rb rf q S ks w t ht h hks))
theorem rread_nil (t a n : Int) : Calls Try.prog 21 #[.pointer none, .int .i64 t, .int .i64 a, .int .i64 n] w fun e w' => e = .returned (.tuple #[.string ⟨#[]⟩, .int .i64 7]) ∧ Below w.heap.size w w' :=
  rread_err w _ t a n 7 (by decide) (rspan_none w _ t a n ((rsize_nil w t).mono fun e w' h => ⟨h.1, h.2 ▸ Below.refl _ _⟩))

end
end Go.Proofs.Ytoeamnagmehpeaa.Rp
