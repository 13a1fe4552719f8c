
/- Line feeds of a buffer, and of a text. -/
import Derived.Test.YtkcocdpmangcgaaBufQ
namespace Go.Proofs.Ytkcocdpmangcgaa.Buf
set_option linter.unusedSimpArgs false
set_option linter.unusedVariables false
open Go Go.RowKit Go.Lib
open Go.Proofs.Ytkcocdpmangcgaa.Vec (SlI iv)
attribute [local go_sem] lt_add1 lt_self1 size_ne size_ne' size_ne1 size_ne1'
attribute [local irreducible] wpGrow

/-! ### What line feeds are -/
theorem lfs_bounds : ∀ (n : Nat) (l : List UInt8) (f : Int), f ∈ lfs n l → (n : Int) ≤ f ∧ f < (n + l.length : Nat)
  | n, [], f, h => by simp [lfs] at h
  | n, c :: l, f, h => by
    have ih := lfs_bounds (n + 1) l f
    simp only [lfs] at h
    split at h
    · rcases List.mem_cons.1 h with rfl | h
      · simp only [List.length_cons]; omega
      · have := ih h; simp only [List.length_cons]; omega
    · have := ih h; simp only [List.length_cons]; omega
theorem lfs_sorted : ∀ (n : Nat) (l : List UInt8), (lfs n l).Pairwise (· < ·)
  | n, [] => by simp [lfs]
  | n, c :: l => by
    have ih := lfs_sorted (n + 1) l
    simp only [lfs]
    split
    · refine List.pairwise_cons.2 ⟨fun f hf => ?_, ih⟩
      have := (lfs_bounds (n + 1) l f hf).1
      omega
    · exact ih
theorem lfs_mono (n : Nat) (l : List UInt8) (a b : Nat) (hab : a ≤ b) (hb : b < (lfs n l).length) : (lfs n l).getD a 0 ≤ (lfs n l).getD b 0 := by
  have ha : a < (lfs n l).length := by omega
  simp only [List.getD, List.getElem?_eq_getElem ha, List.getElem?_eq_getElem hb, Option.getD_some]
  rcases Nat.lt_or_ge a b with h | h
  · have := List.pairwise_iff_getElem.1 (lfs_sorted n l) a b ha hb h
    omega
  · have e : a = b := by omega
    subst e
    exact Int.le_refl _
theorem lfs_shift : ∀ (n m : Nat) (l : List UInt8), lfs (n + m) l = (lfs m l).map (fun f => (n : Int) + f)
  | n, m, [] => by simp [lfs]
  | n, m, c :: l => by
    have ih := lfs_shift n (m + 1) l
    rw [← Nat.add_assoc] at ih
    simp only [lfs]
    split
    · rw [List.map_cons, ih]
      simp
    · exact ih

def cnt (S : ByteArray) (x : Int) : Nat := (lfs 0 S.data.toList).countP fun f => decide (f < x)
theorem countP_low {l : List Int} {x : Int} (h : ∀ f ∈ l, f < x) : l.countP (fun f => decide (f < x)) = l.length := by
  rw [List.countP_eq_length]
  intro f hf
  simpa using h f hf
theorem countP_high {l : List Int} {x : Int} (h : ∀ f ∈ l, x ≤ f) : l.countP (fun f => decide (f < x)) = 0 := by
  rw [List.countP_eq_zero]
  intro f hf
  have := h f hf
  simp; omega
/-- as many line feeds stand ahead of a place as the bytes ahead of it have. -/
theorem cnt_at (S : ByteArray) (o : Nat) (ho : o ≤ S.size) : cnt S o = (lfs 0 (S.data.toList.take o)).length := by
  have hl : S.data.toList.length = S.size := rfl
  have e : S.data.toList = S.data.toList.take o ++ S.data.toList.drop o := (List.take_append_drop o _).symm
  unfold cnt
  rw [e, lfs_append, List.countP_append]
  have e1 : (S.data.toList.take o).length = o := by simp; omega
  rw [List.take_append_of_le_length (by omega), List.take_take, Nat.min_self, e1]
  rw [countP_low fun f hf => ?_, countP_high fun f hf => ?_, Nat.add_zero]
  · have := lfs_bounds _ _ f hf
    omega
  · have := (lfs_bounds _ _ f hf).2
    rw [e1] at this
    omega
/-- the line feeds of a piece among those of the whole. -/
theorem lfs_piece (S : ByteArray) (o m : Nat) (hom : o + m ≤ S.size) : lfs 0 S.data.toList = lfs 0 (S.data.toList.take o) ++ ((lfs 0 (S.extract o (o + m)).data.toList).map (fun f => (o : Int) + f) ++ lfs (o + m) (S.data.toList.drop (o + m))) := by
  have hl : S.data.toList.length = S.size := rfl
  have e1 : (S.data.toList.take o).length = o := by simp; omega
  have ex : (S.extract o (o + m)).data.toList = (S.data.toList.drop o).take m := by simp [ByteArray.data_extract, List.drop_take, Nat.add_sub_cancel_left]
  have e : S.data.toList = S.data.toList.take o ++ ((S.data.toList.drop o).take m ++ S.data.toList.drop (o + m)) := by
    rw [← List.drop_drop, List.take_append_drop, List.take_append_drop]
  have e2 : ((S.data.toList.drop o).take m).length = m := by simp; omega
  conv => lhs; rw [e]
  rw [lfs_append, lfs_append, e1, e2, Nat.zero_add, ex]
  congr 2
  have := lfs_shift o 0 ((S.data.toList.drop o).take m)
  rwa [Nat.add_zero] at this
theorem cnt_piece (S : ByteArray) (o m : Nat) (hom : o + m ≤ S.size) : cnt S ((o : Int) + m) = cnt S o + (lfs 0 (S.extract o (o + m)).data.toList).length := by
  have h1 := cnt_at S o (by omega)
  have h2 := cnt_at S (o + m) hom
  have hl : S.data.toList.length = S.size := rfl
  rw [Int.natCast_add] at h2
  rw [h2, h1]
  have ex : (S.extract o (o + m)).data.toList = (S.data.toList.drop o).take m := by simp [ByteArray.data_extract, List.drop_take, Nat.add_sub_cancel_left]
  have e : S.data.toList.take (o + m) = S.data.toList.take o ++ (S.data.toList.drop o).take m := List.take_add
  have e1 : (S.data.toList.take o).length = o := by simp; omega
  rw [e, lfs_append, List.length_append, e1, Nat.zero_add, ex]
  have := lfs_shift o 0 ((S.data.toList.drop o).take m)
  rw [Nat.add_zero] at this
  rw [this, List.length_map]
theorem feed_piece (S : ByteArray) (o m k : Nat) (hom : o + m ≤ S.size) (hk : k < (lfs 0 (S.extract o (o + m)).data.toList).length) :
    (lfs 0 S.data.toList).getD (cnt S o + k) 0 = o + (lfs 0 (S.extract o (o + m)).data.toList).getD k 0 := by
  rw [cnt_at S o (by omega), lfs_piece S o m hom]
  simp only [List.getD]
  rw [List.getElem?_append_right (by omega), Nat.add_sub_cancel_left, List.getElem?_append_left (by simpa using hk), List.getElem?_map, List.getElem?_eq_getElem hk]
  rfl
theorem cnt_le (S : ByteArray) (x : Int) : cnt S x ≤ S.size := by
  have h1 : cnt S x ≤ (lfs 0 S.data.toList).length := List.countP_le_length
  have h2 := lfs_length 0 S.data.toList
  have hl : S.data.toList.length = S.size := rfl
  omega

/-! ### ahead, Feeds, Feed -/
theorem own_iv {w : World} {A : Option Addr} {c : Nat} {F : List Int} (h : w.ownsRow 0 3 1 (.slice A F.length c) F.length (F.map (Value.int .i64))) : SlI w w.heap.size F.length A (iv F) := fun hn => by
  obtain ⟨b, e, hb, hc⟩ := own_cells h hn
  refine ⟨b, 0, e, hb, fun i hi => ?_⟩
  rw [Nat.zero_add, hc i hi]
  simp [iv, List.getD, hi]

set_option maxHeartbeats 1000000 in
theorem ahead_any (g : Nat) (rb rf : Option Nat) (S : ByteArray) (x : Int) (w : World) (h : BufS w g rb rf S) (hS : S.size ≤ 1000000) :
    Calls Try.prog 102 #[.pointer (some ⟨g, 0, none⟩), .int .i64 x] w fun e w' => e = .returned (.int .i64 (cnt S x)) ∧ Below w.heap.size w w' := by
  obtain ⟨A, c, A', c', h1, h2, hc, hc', _, ho, _, _⟩ := Buf.open_ h
  have hl := lfs_length 0 S.data.toList
  have hl2 : S.data.toList.length = S.size := rfl
  have HC := Lib.hid (searchInts_any (lfs 0 S.data.toList) A' c' x w (own_iv ho) (by omega) (fun a b => lfs_mono 0 _ a b))
  clear ho hl hl2
  unfold cnt
  generalize (lfs 0 S.data.toList).countP (fun f => decide (f < x)) = r at HC ⊢
  generalize (lfs 0 S.data.toList).length = n at HC h2
  go_enter Try.func102, Try.ntmps102
  go_wp2_with fail
  refine HC.out.mono ?_
  rintro e w' ⟨rfl, hb⟩
  go_wp2
  go_ret
  exact ⟨rfl, hb⟩

theorem feeds_nil (off k : Int) (w : World) : Calls Try.prog 87 #[.pointer none, .int .i64 off, .int .i64 k] w fun e w' => e = .returned (.int .i64 (-1)) ∧ w = w' := by
  go_enter Try.func87, Try.ntmps87
  go_wp2_with fail
  refine (there_nil _ _ _).mono ?_
  rintro e w' ⟨rfl, rfl⟩
  go_wp2
  go_ret
  exact ⟨rfl, rfl⟩
def feedsV (S : ByteArray) (off k : Int) : Int := if thereB S.size off k then (cnt S (off + k) : Int) - cnt S off else -1
set_option maxHeartbeats 1000000 in
theorem feeds_any (g : Nat) (rb rf : Option Nat) (S : ByteArray) (off k : Int) (w : World) (h : BufS w g rb rf S) (hS : S.size ≤ 1000000) :
    Calls Try.prog 87 #[.pointer (some ⟨g, 0, none⟩), .int .i64 off, .int .i64 k] w fun e w' => e = .returned (.int .i64 (feedsV S off k)) ∧ Below w.heap.size w w' := by
  have H := Lib.hid h
  have HT := Lib.hid (there_any _ _ _ _ _ off k _ (show Buf w g rb rf S _ from h) (by omega))
  clear h
  cases hth : thereB S.size off k
  · rw [hth] at HT
    have e1 : feedsV S off k = -1 := by simp [feedsV, hth]
    rw [e1]
    go_enter Try.func87, Try.ntmps87
    go_wp2_with fail
    refine HT.out.mono ?_
    rintro e w' ⟨rfl, rfl⟩
    go_wp2
    go_ret
    exact ⟨rfl, Below.refl _ _⟩
  · have hr : 0 ≤ off ∧ 0 ≤ k ∧ off ≤ S.size ∧ k ≤ S.size - off := by simp [thereB] at hth; omega
    rw [hth] at HT
    have e1 : feedsV S off k = (cnt S (off + k) : Int) - cnt S off := by simp [feedsV, hth]
    rw [e1]
    have hw : IntKind.i64.wrap (off + k) = off + k := IntWalk.i64_in _ (by omega)
    have hw2 : IntKind.i64.wrap ((cnt S (off + k) : Int) - cnt S off) = (cnt S (off + k) : Int) - cnt S off := IntWalk.i64_in _ (by have := cnt_le S (off + k); have := cnt_le S off; omega)
    have HA := Lib.hid (fun (W : World) (x : Int) (hW : BufS W g rb rf S) => ahead_any g rb rf S x W hW hS)
    clear hth e1
    go_enter Try.func87, Try.ntmps87
    go_wp2_with fail
    refine HT.out.mono ?_
    rintro e w' ⟨rfl, rfl⟩
    go_wp2_with fail
    refine (HA.out _ _ H.out).mono ?_
    rintro e w1 ⟨rfl, hb1⟩
    have HB := Lib.hid hb1
    clear hb1
    go_wp2_with fail
    refine (HA.out _ _ (Buf.below H.out HB.out)).mono ?_
    rintro e w2 ⟨rfl, hb2⟩
    have HB2 := Lib.hid (HB.out.trans (hb2.mono HB.out.size))
    clear hb2
    go_wp2
    go_ret
    exact ⟨rfl, HB2.out⟩
theorem feed_nil (off m k : Int) (w : World) : Calls Try.prog 88 #[.pointer none, .int .i64 off, .int .i64 m, .int .i64 k] w fun e w' => e = .returned (.tuple #[.int .i64 0, .bool false]) ∧ w = w' := by
  go_enter Try.func88, Try.ntmps88
  by_cases h1 : k < 0
  · go_wp2
    go_ret2
    exact ⟨rfl, rfl⟩
  · go_wp2_with (go_at_call 87; refine (feeds_nil _ _ _).mono ?_; rintro e w' ⟨rfl, rfl⟩)
    have h2 : (-1 : Int) ≤ k := by omega
    go_wp2
    go_ret2
    exact ⟨rfl, rfl⟩
end Go.Proofs.Ytkcocdpmangcgaa.Buf
