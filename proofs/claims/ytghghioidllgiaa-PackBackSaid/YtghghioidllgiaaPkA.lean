/- The page's example of packed functions. -/
import Derived.Test.YtghghioidllgiaaPkI
namespace Go.Proofs.Ytghghioidllgiaa.Pk
set_option linter.unusedSimpArgs false
set_option linter.unusedVariables false
open Go Go.RowKit
open Go.Proofs.Ytghghioidllgiaa.Vec (SlI iv bv FunAt Right right_any rright_any rsame_any)
attribute [local go_sem] lt_add1 lt_self1 size_ne size_ne' size_ne1 size_ne1'
attribute [local irreducible] wpGrow

theorem key_any (n m : Nat) (T : List Int) (H : List Bool) (A B : Option Addr) (c d : Nat) (w : World) (h : FunAt w A n B m T H) (hR : Right n m T) :
    Calls Try.prog 41 #[.agg #[.slice A n c, .slice B m d]] w fun e w' => e = .returned (.string (str (pack n T H))) ∧ Below w.heap.size w w' := by
  have HP := Lib.hid (fun (V : World) (hV : Below w.heap.size w V) => put_any n m T H A B c d V (h.next hV))
  have HR := Lib.hid hR
  clear h hR
  go_enter Try.func41, Try.ntmps41
  go_wp2_with fail
  refine (HP.out _ (by (repeat (first | exact Below.refl _ _ | assumption | (refine Below.setCell ?_ (by first | (simp; done) | (simp; omega) | omega) _) | (refine Below.alloc ?_ (by first | (simp; done) | (simp; omega) | omega) _) | (refine Below.drew ?_) | (refine Below.drewN ?_ _) | (refine Below.trans ?_ (Below.mono (by assumption) (by first | (simp; done) | (simp; omega) | omega))))))).mono ?_
  rintro e w1 hp
  rcases hp with ⟨hn, _⟩ | ⟨_, g, cp, rfl, ho, hb⟩
  · exact absurd HR.out hn
  have hcv := conv_own ho
  have HB := Lib.hid (show Below w.heap.size w w1 from (show Below w.heap.size w _ from by (repeat (first | exact Below.refl _ _ | assumption | (refine Below.setCell ?_ (by first | (simp; done) | (simp; omega) | omega) _) | (refine Below.alloc ?_ (by first | (simp; done) | (simp; omega) | omega) _) | (refine Below.drew ?_) | (refine Below.drewN ?_ _) | (refine Below.trans ?_ (Below.mono (by assumption) (by first | (simp; done) | (simp; omega) | omega)))))).trans (hb.mono (by simp)))
  clear hb ho
  go_wp2
  go_ret
  exact ⟨rfl, HB.out⟩

theorem two_cases {P : Nat → Prop} (h0 : P 0) (h1 : P 1) : ∀ i, i < 2 → P i := fun i hi => by
  match i, hi with
  | 0, _ => exact h0
  | 1, _ => exact h1
theorem FunAt.of_rows {w : World} {a b n : Nat} {R1 R2 : Array Value} {T : List Int} {H : List Bool} (ha : w.heap[a]? = some (.cells R1 3 (0, 0))) (hb : w.heap[b]? = some (.cells R2 4 (0, 0))) (hT : T.length = n) (hH : H.length = n)
    (h1 : ∀ i, i < n → R1[i]? = some (iv T i)) (h2 : ∀ i, i < n → R2[i]? = some (bv H i)) : FunAt w (some ⟨a, 0, none⟩) n (some ⟨b, 0, none⟩) n T H :=
  ⟨hT, hH, fun _ => ⟨a, 0, rfl, (Array.getElem?_eq_some_iff.1 ha).1, fun i hi => by rw [Nat.zero_add, cell_of_row w a i _ _ (0, 0) ha]; exact h1 i hi⟩,
    fun _ => ⟨b, 0, rfl, (Array.getElem?_eq_some_iff.1 hb).1, fun i hi => by rw [Nat.zero_add, cell_of_row w b i _ _ (0, 0) hb]; exact h2 i hi⟩⟩
theorem OwnF.fun_ {B a b k : Nat} {w : World} {T : List Int} {H : List Bool} (h : OwnF B w a b k T H) (hT : T.length = k) (hH : H.length = k) : FunAt w (some ⟨a, 0, none⟩) k (some ⟨b, 0, none⟩) k T H := by
  refine ⟨hT, hH, fun _ => ⟨a, 0, rfl, (h.1.lt a rfl).2, fun i hi => ?_⟩, fun _ => ⟨b, 0, rfl, (h.2.lt b rfl).2, fun i hi => ?_⟩⟩
  · rw [Nat.zero_add, h.1.cellAt i (by omega)]
    have : i < T.length := by omega
    simp [iv, List.getD, this]
  · rw [Nat.zero_add, h.2.cellAt i (by omega)]
    have : i < H.length := by omega
    simp [bv, List.getD, this]

set_option maxRecDepth 100000 in
set_option maxHeartbeats 4000000 in
theorem awake_any (w : World) : Calls Try.prog 13 #[] w fun e w' => e = .returned (.bool true) ∧ Below w.heap.size w w' := by
  have hR2 : Right 2 2 [1, 1] := by decide
  have hpk : pack 2 [1, 1] [false, true] = [0, 2, 1, 1, 2] := by decide
  have hsz : siz 2 = 5 := by decide
  have hge : gerr [0, 2, 1, 1, 2, 9] = 0 := by decide
  have hcn : cnt [0, 2, 1, 1, 2, 9] = 2 := by decide
  have hTs : getTs [0, 2, 1, 1, 2, 9] 2 = [1, 1] := by decide
  have hHs : getHs [0, 2, 1, 1, 2, 9] 2 = [false, true] := by decide
  have hst : str [0, 2, 1, 1, 2] = ⟨#[0, 2, 1, 1, 2]⟩ := by decide +kernel
  have HK := Lib.hid (And.intro hR2 (And.intro hpk (And.intro hsz (And.intro hge (And.intro hcn (And.intro hTs (And.intro hHs hst)))))))
  clear hR2 hpk hsz hge hcn hTs hHs hst
  go_enter Try.func13, Try.ntmps13
  go_upto_region 2 with fail
  generalize hW : ((w.alloc (.cells #[.int .i64 1, .int .i64 1] 3)).alloc (.cells #[.bool false, .bool true] 4)).alloc (.cells #[.slice (some ⟨w.heap.size, 0, none⟩) 2 2, .slice (some ⟨w.heap.size + 1, 0, none⟩) 2 2] 27) = W
  have ha : W.heap[w.heap.size]? = some (.cells #[.int .i64 1, .int .i64 1] 3 (0, 0)) := by
    subst hW; (repeat (first | exact at_alloc (by first | rfl | (simp; done) | (simp; omega)) | refine at_old ?_ (by first | (simp; done) | (simp; omega))))
  have hb : W.heap[w.heap.size + 1]? = some (.cells #[.bool false, .bool true] 4 (0, 0)) := by
    subst hW; (repeat (first | exact at_alloc (by first | rfl | (simp; done) | (simp; omega)) | refine at_old ?_ (by first | (simp; done) | (simp; omega))))
  have hx : W.heap[w.heap.size + 1 + 1]? = some (.cells #[.slice (some ⟨w.heap.size, 0, none⟩) 2 2, .slice (some ⟨w.heap.size + 1, 0, none⟩) 2 2] 27 (0, 0)) := by
    subst hW; exact at_alloc (by simp)
  have hbel : Below w.heap.size w W := by subst hW; (repeat (first | exact Below.refl _ _ | assumption | (refine Below.setCell ?_ (by first | (simp; done) | (simp; omega) | omega) _) | (refine Below.alloc ?_ (by first | (simp; done) | (simp; omega) | omega) _) | (refine Below.drew ?_) | (refine Below.drewN ?_ _) | (refine Below.trans ?_ (Below.mono (by assumption) (by first | (simp; done) | (simp; omega) | omega)))))
  have hz : w.heap.size + 1 + 1 < W.heap.size := by subst hW; simp
  have hA : FunAt W (some ⟨w.heap.size, 0, none⟩) 2 (some ⟨w.heap.size + 1, 0, none⟩) 2 [1, 1] [false, true] := FunAt.of_rows ha hb rfl rfl (two_cases rfl rfl) (two_cases rfl rfl)
  have y0 := cell_of_row W (w.heap.size + 1 + 1) 0 _ _ (0, 0) hx
  have y1 := cell_of_row W (w.heap.size + 1 + 1) 1 _ _ (0, 0) hx
  simp only [List.getElem?_toArray, List.getElem?_cons_zero, List.getElem?_cons_succ] at y0 y1
  have HA := Lib.hid (And.intro hA hbel)
  clear hW ha hb hx hA hbel
  go_wp2_with fail
  refine (put_any 2 2 [1, 1] [false, true] _ _ 2 2 W HA.out.1).mono ?_
  rintro e w1 hp
  rcases hp with ⟨hn, _⟩ | ⟨_, g, cp, rfl, ho, hb⟩
  · exact absurd HK.out.1 hn
  rw [HK.out.2.1, HK.out.2.2.1] at ho
  rw [HK.out.2.2.1]
  have y0 := (hb.cell (p := ⟨_, 0, none⟩) hz).trans y0
  have y1 := (hb.cell (p := ⟨_, 1, none⟩) hz).trans y1
  have hz := Nat.lt_of_lt_of_le hz hb.size
  have hg := (ho.lt g rfl).2
  have HB := Lib.hid (And.intro (HA.out.1.next hb) (And.intro (HA.out.2.trans (hb.mono HA.out.2.size)) (own_bytes ho)))
  clear hb ho
  go_wp2_with fail
  have hrow : SlI (w1.alloc (.cells #[.int .u8 0, .int .u8 2, .int .u8 1, .int .u8 1, .int .u8 2, .int .u8 9] 5)) (w1.alloc (.cells #[.int .u8 0, .int .u8 2, .int .u8 1, .int .u8 1, .int .u8 2, .int .u8 9] 5)).heap.size 6 (some ⟨w1.heap.size, 0, none⟩) (yv [0, 2, 1, 1, 2, 9]) := fun _ =>
    ⟨w1.heap.size, 0, rfl, by simp, fun i hi => by
      rw [Nat.zero_add, World.cell?_alloc_new]
      match i, hi with
      | 0, _ => rfl
      | 1, _ => rfl
      | 2, _ => rfl
      | 3, _ => rfl
      | 4, _ => rfl
      | 5, _ => rfl⟩
  refine (get_any [0, 2, 1, 1, 2, 9] 6 rfl (Byt.of _ (by decide)) (by omega) _ 6 (by omega) _ hrow).mono ?_
  rintro e w2 hp
  rcases hp with ⟨hn, _⟩ | ⟨_, a, b, rfl, ho, hb⟩
  · exact absurd HK.out.2.2.2.1 hn
  rw [HK.out.2.2.2.2.1, HK.out.2.2.2.2.2.1, HK.out.2.2.2.2.2.2.1] at ho
  rw [HK.out.2.2.2.2.1, HK.out.2.2.1]
  have hb1 : Below w1.heap.size w1 w2 := (show Below w1.heap.size w1 _ from by (repeat (first | exact Below.refl _ _ | assumption | (refine Below.setCell ?_ (by first | (simp; done) | (simp; omega) | omega) _) | (refine Below.alloc ?_ (by first | (simp; done) | (simp; omega) | omega) _) | (refine Below.drew ?_) | (refine Below.drewN ?_ _) | (refine Below.trans ?_ (Below.mono (by assumption) (by first | (simp; done) | (simp; omega) | omega)))))).trans (hb.mono (by simp))
  have y0 := (hb1.cell (p := ⟨_, 0, none⟩) hz).trans y0
  have y1 := (hb1.cell (p := ⟨_, 1, none⟩) hz).trans y1
  have hz := Nat.lt_of_lt_of_le hz hb1.size
  have hf2 := ho.fun_ rfl rfl
  have HB := Lib.hid (And.intro (HB.out.1.next hb1) (And.intro (HB.out.2.1.trans (hb1.mono HB.out.2.1.size)) (And.intro HB.out.2.2.1 (fun i hi => (hb1.cell (p := ⟨g, _, none⟩) hg).trans (HB.out.2.2.2 i hi)))))
  have HF := Lib.hid hf2
  have hg := Nat.lt_of_lt_of_le hg hb1.size
  clear hb ho hb1 hf2 hrow
  go_upto_region 4 with fail
  have hz0 : (w2.alloc (.cells #[.slice (some ⟨a, 0, none⟩) 2 2, .slice (some ⟨b, 0, none⟩) 2 2] 27)).cell? ⟨w2.heap.size, 0, none⟩ = some (.slice (some ⟨a, 0, none⟩) 2 2) := World.cell?_alloc_new w2 _ _ 0
  have hz1 : (w2.alloc (.cells #[.slice (some ⟨a, 0, none⟩) 2 2, .slice (some ⟨b, 0, none⟩) 2 2] 27)).cell? ⟨w2.heap.size, 1, none⟩ = some (.slice (some ⟨b, 0, none⟩) 2 2) := World.cell?_alloc_new w2 _ _ 1
  have hbA : Below w2.heap.size w2 (w2.alloc (.cells #[.slice (some ⟨a, 0, none⟩) 2 2, .slice (some ⟨b, 0, none⟩) 2 2] 27)) := by (repeat (first | exact Below.refl _ _ | assumption | (refine Below.setCell ?_ (by first | (simp; done) | (simp; omega) | omega) _) | (refine Below.alloc ?_ (by first | (simp; done) | (simp; omega) | omega) _) | (refine Below.drew ?_) | (refine Below.drewN ?_ _) | (refine Below.trans ?_ (Below.mono (by assumption) (by first | (simp; done) | (simp; omega) | omega)))))
  have y0 := (hbA.cell (p := ⟨_, 0, none⟩) hz).trans y0
  have y1 := (hbA.cell (p := ⟨_, 1, none⟩) hz).trans y1
  have hz := Nat.lt_of_lt_of_le hz hbA.size
  have hzx : w2.heap.size < (w2.alloc (.cells #[.slice (some ⟨a, 0, none⟩) 2 2, .slice (some ⟨b, 0, none⟩) 2 2] 27)).heap.size := by simp
  have HB := Lib.hid (And.intro (HB.out.1.next hbA) (And.intro (HB.out.2.1.trans (hbA.mono HB.out.2.1.size)) (And.intro HB.out.2.2.1 (fun i hi => (hbA.cell (p := ⟨g, _, none⟩) hg).trans (HB.out.2.2.2 i hi)))))
  have HF := Lib.hid (HF.out.next hbA)
  have hg := Nat.lt_of_lt_of_le hg hbA.size
  generalize w2.alloc (.cells #[.slice (some ⟨a, 0, none⟩) 2 2, .slice (some ⟨b, 0, none⟩) 2 2] 27) = W4 at hz0 hz1 y0 y1 hz hzx HB HF hg ⊢
  generalize w2.heap.size = x4 at hz0 hz1 hzx ⊢
  clear hbA
  have HCV := Lib.hid (fun (V : World) (hV : Below W4.heap.size W4 V) => conv_bytes V g 0 5 cp [0, 2, 1, 1, 2] HB.out.2.2.1 (fun i hi => (hV.cell (p := ⟨g, _, none⟩) hg).trans (HB.out.2.2.2 i hi)))
  rw [HK.out.2.2.2.2.2.2.2] at HCV
  have HSA := Lib.hid (fun (V : World) (hV : Below W4.heap.size W4 V) => show Calls Try.prog 16 _ V fun e w' => e = .returned (.bool true) ∧ Below V.heap.size V w' from
    rsame_any 2 2 2 2 [1, 1] [1, 1] [false, true] [false, true] (some ⟨w.heap.size, 0, none⟩) (some ⟨w.heap.size + 1, 0, none⟩) (some ⟨a, 0, none⟩) (some ⟨b, 0, none⟩) 2 2 2 2 V (HB.out.1.next hV) (HF.out.next hV) (by omega) (by omega) (by omega) (by omega))
  have HKY := Lib.hid (fun (V : World) (hV : Below W4.heap.size W4 V) => key_any 2 2 [1, 1] [false, true] (some ⟨w.heap.size, 0, none⟩) (some ⟨w.heap.size + 1, 0, none⟩) 2 2 V (HB.out.1.next hV) HK.out.1)
  rw [HK.out.2.1, HK.out.2.2.2.2.2.2.2] at HKY
  have HBE := Lib.hid HB.out.2.1
  clear HB HF
  refine wp_region_grow 28 (by kernel_rfl) (by kernel_rfl) ?_
  simp only [List.take_succ_cons, List.take_zero, List.drop_succ_cons, List.drop_zero, List.take_nil, List.drop_nil]
  iterate 4 ((refine wpGrow_val' rfl rfl ?_; apply Exists.intro; refine ⟨fun w1 hw1 => ?_, ?_⟩); (have hc1 := hw1.cell; go_simp; exact growUpon_ok rfl); (refine wpGrow_at (by (simp only [Act.put, List.setIfInBounds_toArray, List.set_cons_succ, List.set_cons_zero]) <;> exact rfl) ?_))
  (refine wpGrow_val' rfl rfl ?_; apply Exists.intro; refine ⟨fun w1 hw1 => ?_, ?_⟩)
  · have hcv := HCV.out w1 hw1.below
    go_simp
    exact growUpon_ok rfl
  (refine wpGrow_at (by (simp only [Act.put, List.setIfInBounds_toArray, List.set_cons_succ, List.set_cons_zero]) <;> exact rfl) ?_)
  iterate 13 ((refine wpGrow_val' rfl rfl ?_; apply Exists.intro; refine ⟨fun w1 hw1 => ?_, ?_⟩); (have hc1 := hw1.cell; go_simp; exact growUpon_ok rfl); (refine wpGrow_at (by (simp only [Act.put, List.setIfInBounds_toArray, List.set_cons_succ, List.set_cons_zero]) <;> exact rfl) ?_))
  (refine wpGrow_val' rfl rfl ?_; apply Exists.intro; refine ⟨fun w1 hw1 => ?_, ?_⟩)
  · go_simp
    exact growUpon_call (HSA.out _ hw1.below)
  (refine wpGrow_at (by (simp only [Act.put, List.setIfInBounds_toArray, List.set_cons_succ, List.set_cons_zero]) <;> exact rfl) ?_)
  iterate 3 ((refine wpGrow_val' rfl rfl ?_; apply Exists.intro; refine ⟨fun w1 hw1 => ?_, ?_⟩); (have hc1 := hw1.cell; go_simp; exact growUpon_ok rfl); (refine wpGrow_at (by (simp only [Act.put, List.setIfInBounds_toArray, List.set_cons_succ, List.set_cons_zero]) <;> exact rfl) ?_))
  (refine wpGrow_val' rfl rfl ?_; apply Exists.intro; refine ⟨fun w1 hw1 => ?_, ?_⟩)
  · go_simp
    exact growUpon_call (HKY.out _ hw1.below)
  (refine wpGrow_at (by (simp only [Act.put, List.setIfInBounds_toArray, List.set_cons_succ, List.set_cons_zero]) <;> exact rfl) ?_)
  ((refine wpGrow_val' rfl rfl ?_; apply Exists.intro; refine ⟨fun w1 hw1 => ?_, ?_⟩); (have hc1 := hw1.cell; go_simp; exact growUpon_ok rfl); (refine wpGrow_at (by (simp only [Act.put, List.setIfInBounds_toArray, List.set_cons_succ, List.set_cons_zero]) <;> exact rfl) ?_))
  (refine wpGrow_val' rfl rfl ?_; apply Exists.intro; refine ⟨fun w1 hw1 => ?_, ?_⟩)
  · have hcv := HCV.out w1 hw1.below
    go_simp
    exact growUpon_ok rfl
  (refine wpGrow_at (by (simp only [Act.put, List.setIfInBounds_toArray, List.set_cons_succ, List.set_cons_zero]) <;> exact rfl) ?_)
  iterate 3 ((refine wpGrow_val' rfl rfl ?_; apply Exists.intro; refine ⟨fun w1 hw1 => ?_, ?_⟩); (have hc1 := hw1.cell; go_simp; exact growUpon_ok rfl); (refine wpGrow_at (by (simp only [Act.put, List.setIfInBounds_toArray, List.set_cons_succ, List.set_cons_zero]) <;> exact rfl) ?_))
  refine wpGrow_nil ?_
  intro w7 hD
  have hb7 := Lib.hid (HBE.out.trans (hD.below.mono HBE.out.size))
  clear hD
  go_wp2
  go_ret
  exact ⟨rfl, hb7.out⟩
end Go.Proofs.Ytghghioidllgiaa.Pk
