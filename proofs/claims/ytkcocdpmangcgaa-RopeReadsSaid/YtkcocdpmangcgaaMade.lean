
/- What is made of an arena by deeds; the page's own numbers of a knot. -/
import Derived.Test.YtkcocdpmangcgaaArenaB
namespace Go.Proofs.Ytkcocdpmangcgaa.Ar
set_option linter.unusedSimpArgs false
set_option linter.unusedVariables false
open Go Go.RowKit
attribute [local go_sem] lt_add1 lt_self1 size_ne size_ne' size_ne1 size_ne1'

/-- A knot as it may be: a leaf, or a pair of two that lie ahead of it. -/
def isLeaf (k : Knot) : Prop := k.left = 0 ∧ k.right = 0 ∧ 0 ≤ k.off ∧ 1 ≤ k.len ∧ k.len ≤ 1048576 ∧ k.off + k.len ≤ 1099511627776 ∧ k.high = 1 ∧ k.leaves = 1 ∧ 0 ≤ k.feeds ∧ k.feeds ≤ k.len
def isPair (ks : List Knot) (i : Nat) (k : Knot) (l r : Nat) : Prop := k.left = (l : Int) + 1 ∧ k.right = (r : Int) + 1 ∧ l < i ∧ r < i ∧ k.off = 0 ∧ k.len = (ks.getD l Knot.zero).len + (ks.getD r Knot.zero).len ∧ k.len ≤ 1099511627776 ∧
  k.high = 1 + max (ks.getD l Knot.zero).high (ks.getD r Knot.zero).high ∧ k.leaves = (ks.getD l Knot.zero).leaves + (ks.getD r Knot.zero).leaves ∧ k.feeds = (ks.getD l Knot.zero).feeds + (ks.getD r Knot.zero).feeds
def WF (ks : List Knot) : Prop := ∀ i, i < ks.length → isLeaf (ks.getD i Knot.zero) ∨ ∃ l r, isPair ks i (ks.getD i Knot.zero) l r

theorem WF.bounds {ks : List Knot} (h : WF ks) : ∀ i, i < ks.length → 1 ≤ (ks.getD i Knot.zero).len ∧ (ks.getD i Knot.zero).len ≤ 1099511627776 ∧ 1 ≤ (ks.getD i Knot.zero).leaves ∧ (ks.getD i Knot.zero).leaves ≤ (ks.getD i Knot.zero).len ∧
    1 ≤ (ks.getD i Knot.zero).high ∧ (ks.getD i Knot.zero).high ≤ (ks.getD i Knot.zero).leaves ∧ 0 ≤ (ks.getD i Knot.zero).feeds ∧ (ks.getD i Knot.zero).feeds ≤ (ks.getD i Knot.zero).len := by
  intro i
  induction i using Nat.strongRecOn with
  | _ i ih =>
    intro hi
    rcases h i hi with hl | ⟨l, r, hp⟩
    · obtain ⟨_, _, _, h1, h2, _, h3, h4, h5, h6⟩ := hl
      omega
    · obtain ⟨_, _, hl, hr, _, h1, h2, h3, h4, h5⟩ := hp
      have a := ih l hl (by omega)
      have b := ih r hr (by omega)
      omega

theorem getD_append_left {ks : List Knot} {k : Knot} {i : Nat} (h : i < ks.length) : (ks ++ [k]).getD i Knot.zero = ks.getD i Knot.zero := by
  simp [List.getD, List.getElem?_append_left h]
theorem getD_append_last {ks : List Knot} {k : Knot} : (ks ++ [k]).getD ks.length Knot.zero = k := by simp [List.getD]
theorem WF.leaf {ks : List Knot} (h : WF ks) {off n f : Int} (hb : leafBad off n f = false) : WF (ks ++ [leafK off n f]) := by
  intro i hi
  by_cases e : i < ks.length
  · rw [getD_append_left e]
    rcases h i e with hl | ⟨l, r, hp⟩
    · exact .inl hl
    · refine .inr ⟨l, r, ?_⟩
      unfold isPair at hp ⊢
      rwa [getD_append_left (by omega), getD_append_left (by omega)]
  · obtain rfl : i = ks.length := by simp at hi; omega
    rw [getD_append_last]
    simp [leafBad] at hb
    exact .inl ⟨rfl, rfl, by simp only [leafK]; omega, by simp only [leafK]; omega, by simp only [leafK]; omega, by simp only [leafK]; omega, rfl, rfl, by simp only [leafK]; omega, by simp only [leafK]; omega⟩
theorem WF.pair {ks : List Knot} (h : WF ks) {l r : Int} (hl : getB ks l = true) (hr : getB ks r = true) (hlen : wrap64 ((getK ks l).len + (getK ks r).len) ≤ 1099511627776) :
    WF (ks ++ [pairK ks l r]) ∧ ∃ a b : Nat, l = (a : Int) + 1 ∧ r = (b : Int) + 1 ∧ a < ks.length ∧ b < ks.length ∧ isPair ks ks.length (pairK ks l r) a b := by
  have open_ : ∀ i : Int, getB ks i = true → ∃ a : Nat, i = (a : Int) + 1 ∧ a < ks.length := fun i hi => by
    unfold getB getS at hi
    split at hi
    · exact ⟨(i - 1).toNat, by omega, by omega⟩
    · cases hi
  obtain ⟨a, rfl, ha⟩ := open_ l hl
  obtain ⟨b, rfl, hb⟩ := open_ r hr
  have ga := (getK_at (ks := ks) rfl ha).1
  have gb := (getK_at (ks := ks) rfl hb).1
  have ba := h.bounds a ha
  have bb := h.bounds b hb
  have hp : isPair ks ks.length (pairK ks ((a : Int) + 1) ((b : Int) + 1)) a b := by
    rw [ga, gb] at hlen
    unfold isPair pairK
    simp only [ga, gb]
    unfold wrap64 at hlen ⊢
    refine ⟨trivial, trivial, ha, hb, trivial, ?_, ?_, ?_, ?_, ?_⟩ <;> omega
  refine ⟨?_, a, b, rfl, rfl, ha, hb, hp⟩
  intro i hi
  by_cases e : i < ks.length
  · rw [getD_append_left e]
    rcases h i e with hl | ⟨l, r, hp⟩
    · exact .inl hl
    · refine .inr ⟨l, r, ?_⟩
      unfold isPair at hp ⊢
      rwa [getD_append_left (by omega), getD_append_left (by omega)]
  · obtain rfl : i = ks.length := by simp at hi; omega
    rw [getD_append_last]
    refine .inr ⟨a, b, ?_⟩
    unfold isPair at hp ⊢
    rwa [getD_append_left ha, getD_append_left hb]

/-- how a knot was made. -/
def mcells (k : Knot) : List Value := [.int .i64 k.left, .int .i64 k.right, .int .i64 k.off, .int .i64 (if k.left = 0 then k.len else 0), .int .i64 (if k.left = 0 then k.feeds else 0)]
def madeAt (w : World) (A : Option Addr) (ks : List Knot) : Prop := SlAt w w.heap.size 5 ks.length A (fun i j => (mcells (ks.getD i Knot.zero)).getD j undef)
theorem madeAt.below {w w' : World} {A : Option Addr} {ks : List Knot} (h : madeAt w A ks) (hb : Below w.heap.size w w') : madeAt w' A ks := (SlAt.below h hb).more hb.size
theorem madeAt.rows {w : World} {A : Option Addr} {ks : List Knot} (h : madeAt w A ks) {i : Nat} (hi : i < ks.length) : ∃ b off, A = some ⟨b, off, none⟩ ∧ b < w.heap.size ∧
    w.cell? ⟨b, off + i * 5, none⟩ = some (.int .i64 (ks.getD i Knot.zero).left) ∧ w.cell? ⟨b, off + i * 5 + 1, none⟩ = some (.int .i64 (ks.getD i Knot.zero).right) ∧ w.cell? ⟨b, off + i * 5 + 2, none⟩ = some (.int .i64 (ks.getD i Knot.zero).off) ∧
    w.cell? ⟨b, off + i * 5 + 3, none⟩ = some (.int .i64 (if (ks.getD i Knot.zero).left = 0 then (ks.getD i Knot.zero).len else 0)) ∧ w.cell? ⟨b, off + i * 5 + 4, none⟩ = some (.int .i64 (if (ks.getD i Knot.zero).left = 0 then (ks.getD i Knot.zero).feeds else 0)) := by
  obtain ⟨b, off, e, hb, hc⟩ := h (by omega)
  exact ⟨b, off, e, hb, hc i 0 hi (by omega), hc i 1 hi (by omega), hc i 2 hi (by omega), hc i 3 hi (by omega), hc i 4 hi (by omega)⟩

set_option maxHeartbeats 1000000 in
theorem leaves_any (ks : List Knot) (hwf : WF ks) (hn : ks.length ≤ small) (A : Option Addr) (cap : Nat) : ∀ i : Nat, i < ks.length → ∀ w, madeAt w A ks →
    Calls Try.prog 63 #[.slice A ks.length cap, .int .i64 ((i : Int) + 1)] w fun e w' => e = .returned (.int .i64 (ks.getD i Knot.zero).leaves) ∧ Below w.heap.size w w' := by
  unfold small at hn
  intro i
  induction i using Nat.strongRecOn with
  | _ i ih =>
    intro hi w hm
    have IH := Lib.hid ih
    have HM := Lib.hid hm
    obtain ⟨b, off, rfl, hb, f0, f1, f2, f3, f4⟩ := hm.rows hi
    have HB := Lib.hid (hwf.bounds i hi)
    have hi1 : IntKind.i64.wrap (i : Int) = i := IntWalk.i64_in _ (by omega)
    have hi0 : (0 : Int) ≤ i := by omega
    have hi2 : (i : Int) < ks.length := by omega
    have hi3 : ((i : Int)).toNat = i := by omega
    clear hm ih
    rcases hwf i hi with hl | ⟨l, r, hp⟩
    · obtain ⟨h1, _, _, _, _, _, h7, h8, _⟩ := hl
      rw [h1] at f0
      simp only [if_pos h1] at f3 f4
      rw [h8]
      generalize ks.getD i Knot.zero = k at f1 f2 f3 f4 ⊢
      clear h1 h7 h8 hi3
      go_enter Try.func63, Try.ntmps63
      go_wp2
      go_ret
      exact ⟨rfl, Below.refl _ _⟩
    · obtain ⟨h1, h2, hl, hr, _, h6, _, h7, h8, h9⟩ := hp
      have bl := hwf.bounds l (by omega)
      have br := hwf.bounds r (by omega)
      have he : IntKind.i64.wrap ((ks.getD l Knot.zero).leaves + (ks.getD r Knot.zero).leaves) = (ks.getD i Knot.zero).leaves := by have := HB.out; exact (IntWalk.i64_in _ (by omega)).trans (by omega)
      rw [h1] at f0
      rw [h2] at f1
      rw [← he]
      have hz : ((l : Int) + 1 == 0) = false := by simp; omega
      have il := fun w1 hw1 => IH.out l hl (by omega) w1 (HM.out.below hw1)
      have ir := fun w1 hw1 => IH.out r hr (by omega) w1 (HM.out.below hw1)
      generalize (ks.getD l Knot.zero).leaves = x at il ⊢
      generalize (ks.getD r Knot.zero).leaves = y at ir ⊢
      have IL := Lib.hid il
      have IR := Lib.hid ir
      clear h1 h2 h6 h7 h8 h9 bl br he il ir IH HB f2 f3 f4 hi3
      go_enter Try.func63, Try.ntmps63
      go_wp2_with fail
      refine wp_region_grow 18 (by kernel_rfl) (by kernel_rfl) ?_
      simp only [List.take_succ_cons, List.take_zero, List.drop_succ_cons, List.drop_zero, List.take_nil, List.drop_nil]
      iterate 7 ((refine wpGrow_val' rfl rfl ?_; apply Exists.intro; refine ⟨fun w1 hw1 => ?_, ?_⟩); (have hc1 := hw1.cell; go_simp; exact growUpon_ok rfl); (refine wpGrow_at (by (simp only [Act.put, List.setIfInBounds_toArray, List.set_cons_succ, List.set_cons_zero]) <;> exact rfl) ?_))
      (refine wpGrow_val' rfl rfl ?_; apply Exists.intro; refine ⟨fun w1 hw1 => ?_, ?_⟩)
      · go_simp
        exact growUpon_call (IL.out _ hw1.below)
      (refine wpGrow_at (by (simp only [Act.put, List.setIfInBounds_toArray, List.set_cons_succ, List.set_cons_zero]) <;> exact rfl) ?_)
      iterate 7 ((refine wpGrow_val' rfl rfl ?_; apply Exists.intro; refine ⟨fun w1 hw1 => ?_, ?_⟩); (have hc1 := hw1.cell; go_simp; exact growUpon_ok rfl); (refine wpGrow_at (by (simp only [Act.put, List.setIfInBounds_toArray, List.set_cons_succ, List.set_cons_zero]) <;> exact rfl) ?_))
      (refine wpGrow_val' rfl rfl ?_; apply Exists.intro; refine ⟨fun w1 hw1 => ?_, ?_⟩)
      · go_simp
        exact growUpon_call (IR.out _ hw1.below)
      (refine wpGrow_at (by (simp only [Act.put, List.setIfInBounds_toArray, List.set_cons_succ, List.set_cons_zero]) <;> exact rfl) ?_)
      iterate 2 ((refine wpGrow_val' rfl rfl ?_; apply Exists.intro; refine ⟨fun w1 hw1 => ?_, ?_⟩); (have hc1 := hw1.cell; go_simp; exact growUpon_ok rfl); (refine wpGrow_at (by (simp only [Act.put, List.setIfInBounds_toArray, List.set_cons_succ, List.set_cons_zero]) <;> exact rfl) ?_))
      refine wpGrow_nil ?_
      intro w2 hD
      have hbl := Lib.hid hD.below
      clear hD
      go_wp2
      go_ret
      exact ⟨rfl, hbl.out⟩

set_option maxHeartbeats 1000000 in
theorem high_any (ks : List Knot) (hwf : WF ks) (hn : ks.length ≤ small) (A : Option Addr) (cap : Nat) : ∀ i : Nat, i < ks.length → ∀ w, madeAt w A ks →
    Calls Try.prog 70 #[.slice A ks.length cap, .int .i64 ((i : Int) + 1)] w fun e w' => e = .returned (.int .i64 (ks.getD i Knot.zero).high) ∧ Below w.heap.size w w' := by
  unfold small at hn
  intro i
  induction i using Nat.strongRecOn with
  | _ i ih =>
    intro hi w hm
    have IH := Lib.hid ih
    have HM := Lib.hid hm
    obtain ⟨b, off, rfl, hb, f0, f1, f2, f3, f4⟩ := hm.rows hi
    have HB := Lib.hid (hwf.bounds i hi)
    have hi1 : IntKind.i64.wrap (i : Int) = i := IntWalk.i64_in _ (by omega)
    have hi0 : (0 : Int) ≤ i := by omega
    have hi2 : (i : Int) < ks.length := by omega
    have hi3 : ((i : Int)).toNat = i := by omega
    clear hm ih
    rcases hwf i hi with hl | ⟨l, r, hp⟩
    · obtain ⟨h1, _, _, _, _, _, h7, h8, _⟩ := hl
      rw [h1] at f0
      simp only [if_pos h1] at f3 f4
      rw [h7]
      generalize ks.getD i Knot.zero = k at f1 f2 f3 f4 ⊢
      clear h1 h7 h8 hi3
      go_enter Try.func70, Try.ntmps70
      go_wp2
      go_ret
      exact ⟨rfl, Below.refl _ _⟩
    · obtain ⟨h1, h2, hl, hr, _, h6, _, h7, h8, h9⟩ := hp
      have bl := hwf.bounds l (by omega)
      have br := hwf.bounds r (by omega)
      have he : IntKind.i64.wrap (1 + max (ks.getD l Knot.zero).high (ks.getD r Knot.zero).high) = (ks.getD i Knot.zero).high := by have := HB.out; exact (IntWalk.i64_in _ (by omega)).trans (by omega)
      rw [h1] at f0
      rw [h2] at f1
      rw [← he]
      have hz : ((l : Int) + 1 == 0) = false := by simp; omega
      have il := fun w1 hw1 => IH.out l hl (by omega) w1 (HM.out.below hw1)
      have ir := fun w1 hw1 => IH.out r hr (by omega) w1 (HM.out.below hw1)
      generalize (ks.getD l Knot.zero).high = x at il ⊢
      generalize (ks.getD r Knot.zero).high = y at ir ⊢
      have IL := Lib.hid il
      have IR := Lib.hid ir
      clear h1 h2 h6 h7 h8 h9 bl br he il ir IH HB f2 f3 f4 hi3
      by_cases hm : y ≤ x
      all_goals
        first | rw [Int.max_eq_left hm] | rw [Int.max_eq_right (by omega)]
        go_enter Try.func70, Try.ntmps70
        go_wp2_with fail
        refine wp_region_grow 19 (by kernel_rfl) (by kernel_rfl) ?_
        simp only [List.take_succ_cons, List.take_zero, List.drop_succ_cons, List.drop_zero, List.take_nil, List.drop_nil]
        iterate 7 ((refine wpGrow_val' rfl rfl ?_; apply Exists.intro; refine ⟨fun w1 hw1 => ?_, ?_⟩); (have hc1 := hw1.cell; go_simp; exact growUpon_ok rfl); (refine wpGrow_at (by (simp only [Act.put, List.setIfInBounds_toArray, List.set_cons_succ, List.set_cons_zero]) <;> exact rfl) ?_))
        (refine wpGrow_val' rfl rfl ?_; apply Exists.intro; refine ⟨fun w1 hw1 => ?_, ?_⟩)
        · go_simp
          exact growUpon_call (IL.out _ hw1.below)
        (refine wpGrow_at (by (simp only [Act.put, List.setIfInBounds_toArray, List.set_cons_succ, List.set_cons_zero]) <;> exact rfl) ?_)
        iterate 7 ((refine wpGrow_val' rfl rfl ?_; apply Exists.intro; refine ⟨fun w1 hw1 => ?_, ?_⟩); (have hc1 := hw1.cell; go_simp; exact growUpon_ok rfl); (refine wpGrow_at (by (simp only [Act.put, List.setIfInBounds_toArray, List.set_cons_succ, List.set_cons_zero]) <;> exact rfl) ?_))
        (refine wpGrow_val' rfl rfl ?_; apply Exists.intro; refine ⟨fun w1 hw1 => ?_, ?_⟩)
        · go_simp
          exact growUpon_call (IR.out _ hw1.below)
        (refine wpGrow_at (by (simp only [Act.put, List.setIfInBounds_toArray, List.set_cons_succ, List.set_cons_zero]) <;> exact rfl) ?_)
        iterate 3 ((refine wpGrow_val' rfl rfl ?_; apply Exists.intro; refine ⟨fun w1 hw1 => ?_, ?_⟩); (have hc1 := hw1.cell; go_simp; exact growUpon_ok rfl); (refine wpGrow_at (by (simp only [Act.put, List.setIfInBounds_toArray, List.set_cons_succ, List.set_cons_zero]) <;> exact rfl) ?_))
        refine wpGrow_nil ?_
        intro w2 hD
        have hbl := Lib.hid hD.below
        clear hD
        go_wp2
        go_ret
        exact ⟨rfl, hbl.out⟩
end Go.Proofs.Ytkcocdpmangcgaa.Ar
