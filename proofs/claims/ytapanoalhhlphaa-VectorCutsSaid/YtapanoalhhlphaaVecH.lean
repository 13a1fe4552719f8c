
/- Then. -/
import Derived.Test.YtapanoalhhlphaaVecI
namespace Go.Proofs.Ytapanoalhhlphaa.Vec
set_option linter.unusedSimpArgs false
set_option linter.unusedVariables false
open Go Go.RowKit
attribute [local go_sem] lt_add1 lt_self1 size_ne size_ne' size_ne1 size_ne1'

/-- a row, its first k entries new. -/
def mix (f g : Nat → Value) (k n : Nat) : Array Value := ((List.range n).map fun j => if j < k then f j else g j).toArray
theorem mix_size (f g : Nat → Value) (k n : Nat) : (mix f g k n).size = n := by simp [mix]
theorem mix_get (f g : Nat → Value) (k n j : Nat) (hj : j < n) : (mix f g k n)[j]? = some (if j < k then f j else g j) := by simp [mix, hj]
theorem mix_set (f g : Nat → Value) (k n : Nat) (hk : k < n) : (mix f g k n).setIfInBounds k (f k) = mix f g (k + 1) n := by
  refine Array.ext (by simp [mix]) fun j h1 h2 => ?_
  have hj : j < n := by simpa [mix] using h2
  rw [Array.getElem_setIfInBounds (by rw [mix_size]; exact hj)]
  by_cases e : k = j
  · subst e; simp [mix]
  · simp only [if_neg e]
    simp [mix]
    have : (j < k + 1) ↔ (j < k) := by omega
    simp [this]
theorem L_mix (n : Nat) (f : Nat → Value) : L n n = mix f (fun j => .int .i64 j) 0 n := by
  refine Array.ext (by simp [L, mix]) fun j h1 h2 => ?_
  have hj : j < n := by simpa [mix] using h2
  simp [L, mix, hj]
theorem rep_mix (n : Nat) (f : Nat → Value) : Array.replicate n (Value.bool false) = mix f (fun _ => .bool false) 0 n := by
  refine Array.ext (by simp [mix]) fun j h1 h2 => ?_
  simp [mix]

/-- what Then's walk has: the two arguments' boxes, the result's, the new function's, its two rows. -/
structure TS (B : Nat) (a0 w : World) (x a b n : Nat) (V1 V2 R1 R2 : Array Value) : Prop where
  xa : x ≠ a
  xb : x ≠ b
  ab : a ≠ b
  lx : B + 2 < x
  la : B + 2 < a
  lb : B + 2 < b
  v1 : w.heap[B]? = some (.cells V1 29 (0, 0))
  v2 : w.heap[B + 1]? = some (.cells V2 29 (0, 0))
  vr : w.heap[B + 2]? = some (.cells #[.slice none 0 0, .slice none 0 0] 29 (0, 0))
  bx : w.heap[x]? = some (.cells #[.slice (some ⟨a, 0, none⟩) n n, .slice (some ⟨b, 0, none⟩) n n] 29 (0, 0))
  ra : w.heap[a]? = some (.cells R1 3 (0, 0))
  rb : w.heap[b]? = some (.cells R2 4 (0, 0))
  bel : Below B a0 w
section
variable {B : Nat} {a0 w : World} {x a b n : Nat} {V1 V2 R1 R2 : Array Value}
theorem TS.seta (h : TS B a0 w x a b n V1 V2 R1 R2) (i : Nat) (v : Value) : TS B a0 (w.setCell ⟨a, i, none⟩ v) x a b n V1 V2 (R1.setIfInBounds i v) R2 := by
  have hla := h.la
  refine ⟨h.xa, h.xb, h.ab, h.lx, h.la, h.lb, ?_, ?_, ?_, ?_, heap_setCell_same _ _ _ _ _ _ h.ra, ?_, h.bel.setCell (by show B ≤ a; omega) _⟩
  · rw [heap_setCell_other _ _ _ _ (by show B ≠ a; omega)]; exact h.v1
  · rw [heap_setCell_other _ _ _ _ (by show B + 1 ≠ a; omega)]; exact h.v2
  · rw [heap_setCell_other _ _ _ _ (by show B + 2 ≠ a; omega)]; exact h.vr
  · rw [heap_setCell_other _ _ _ _ h.xa]; exact h.bx
  · rw [heap_setCell_other _ _ _ _ (fun e => h.ab e.symm)]; exact h.rb
theorem TS.setb (h : TS B a0 w x a b n V1 V2 R1 R2) (i : Nat) (v : Value) : TS B a0 (w.setCell ⟨b, i, none⟩ v) x a b n V1 V2 R1 (R2.setIfInBounds i v) := by
  have hlb := h.lb
  refine ⟨h.xa, h.xb, h.ab, h.lx, h.la, h.lb, ?_, ?_, ?_, ?_, ?_, heap_setCell_same _ _ _ _ _ _ h.rb, h.bel.setCell (by show B ≤ b; omega) _⟩
  · rw [heap_setCell_other _ _ _ _ (by show B ≠ b; omega)]; exact h.v1
  · rw [heap_setCell_other _ _ _ _ (by show B + 1 ≠ b; omega)]; exact h.v2
  · rw [heap_setCell_other _ _ _ _ (by show B + 2 ≠ b; omega)]; exact h.vr
  · rw [heap_setCell_other _ _ _ _ h.xb]; exact h.bx
  · rw [heap_setCell_other _ _ _ _ h.ab]; exact h.ra
theorem TS.drewN (h : TS B a0 w x a b n V1 V2 R1 R2) (q : Nat) : TS B a0 (w.drewN q) x a b n V1 V2 R1 R2 := ⟨h.xa, h.xb, h.ab, h.lx, h.la, h.lb, h.v1, h.v2, h.vr, h.bx, h.ra, h.rb, Below.drewN h.bel q⟩
theorem TS.drew (h : TS B a0 w x a b n V1 V2 R1 R2) : TS B a0 w.drew x a b n V1 V2 R1 R2 := ⟨h.xa, h.xb, h.ab, h.lx, h.la, h.lb, h.v1, h.v2, h.vr, h.bx, h.ra, h.rb, h.bel.drew⟩
end

def thenT (Ta Tb : List Int) (j : Nat) : Int := Tb.getD (Ta.getD j 0).toNat 0
def thenH (Ta : List Int) (Ha Hb : List Bool) (j : Nat) : Bool := Ha.getD j false || Hb.getD (Ta.getD j 0).toNat false
def thenTs (n : Nat) (Ta Tb : List Int) : List Int := (List.range n).map (thenT Ta Tb)
def thenHs (n : Nat) (Ta : List Int) (Ha Hb : List Bool) : List Bool := (List.range n).map (thenH Ta Ha Hb)

theorem TS.fin {B : Nat} {a0 w : World} {x a b n : Nat} {V1 V2 : Array Value} {Ta Tb : List Int} {Ha Hb : List Bool} (h : TS B a0 w x a b n V1 V2 (mix (fun j => .int .i64 (thenT Ta Tb j)) (fun j => .int .i64 j) n n) (mix (fun j => .bool (thenH Ta Ha Hb j)) (fun _ => .bool false) n n)) :
    FunAt w (some ⟨a, 0, none⟩) n (some ⟨b, 0, none⟩) n (thenTs n Ta Tb) (thenHs n Ta Ha Hb) := by
  refine ⟨by simp [thenTs], by simp [thenHs], fun _ => ⟨a, 0, rfl, (Array.getElem?_eq_some_iff.1 h.ra).1, fun i hi => ?_⟩, fun _ => ⟨b, 0, rfl, (Array.getElem?_eq_some_iff.1 h.rb).1, fun i hi => ?_⟩⟩
  · rw [Nat.zero_add, cell_of_row w a i _ _ (0, 0) h.ra, mix_get _ _ _ _ _ hi, if_pos hi]
    simp [iv, thenTs, hi]
  · rw [Nat.zero_add, cell_of_row w b i _ _ (0, 0) h.rb, mix_get _ _ _ _ _ hi, if_pos hi]
    simp [bv, thenHs, hi]

/-- what Then answers. -/
def ThenPost (n m n' m' : Nat) (Ta Tb : List Int) (Ha Hb : List Bool) (w : World) (e : Ending) (w' : World) : Prop :=
  (¬ (Right n m Ta ∧ Right n' m' Tb) ∧ e = .returned (.tuple #[.agg #[.slice none 0 0, .slice none 0 0], .int .i64 3]) ∧ Below w.heap.size w w') ∨
  ((Right n m Ta ∧ Right n' m' Tb) ∧ n ≠ n' ∧ e = .returned (.tuple #[.agg #[.slice none 0 0, .slice none 0 0], .int .i64 1]) ∧ Below w.heap.size w w') ∨
  ((Right n m Ta ∧ Right n' m' Tb) ∧ n = n' ∧ ∃ a b, e = .returned (.tuple #[.agg #[.slice (some ⟨a, 0, none⟩) n n, .slice (some ⟨b, 0, none⟩) n n], .int .i64 0]) ∧ FunAt w' (some ⟨a, 0, none⟩) n (some ⟨b, 0, none⟩) n (thenTs n Ta Tb) (thenHs n Ta Ha Hb) ∧ Below w.heap.size w w')

/-- the three boxes at Then's beginning. -/
structure B3 (B : Nat) (a0 w : World) (V1 V2 : Array Value) : Prop where
  v1 : w.heap[B]? = some (.cells V1 29 (0, 0))
  v2 : w.heap[B + 1]? = some (.cells V2 29 (0, 0))
  vr : w.heap[B + 2]? = some (.cells #[.slice none 0 0, .slice none 0 0] 29 (0, 0))
  bel : Below B a0 w
  lt : B + 2 < w.heap.size
theorem B3.below {B : Nat} {a0 w w' : World} {V1 V2 : Array Value} (h : B3 B a0 w V1 V2) (hb : Below w.heap.size w w') : B3 B a0 w' V1 V2 := by
  have hl := h.lt
  exact ⟨(hb.block _ (by omega)).trans h.v1, (hb.block _ (by omega)).trans h.v2, (hb.block _ hl).trans h.vr, h.bel.trans (hb.mono (by omega)), Nat.lt_of_lt_of_le hl hb.size⟩

set_option maxRecDepth 100000 in
set_option maxHeartbeats 2000000 in
theorem then_any (n m n' m' : Nat) (Ta Tb : List Int) (Ha Hb : List Bool) (A B A' B' : Option Addr) (c d c' d' : Nat) (w : World) (h : FunAt w A n B m Ta Ha) (h' : FunAt w A' n' B' m' Tb Hb) :
    Calls Try.prog 12 #[.agg #[.slice A n c, .slice B m d], .agg #[.slice A' n' c', .slice B' m' d']] w fun e w' => ThenPost n m n' m' Ta Tb Ha Hb w e w' := by
  have HH := Lib.hid (And.intro h h')
  clear h h'
  have hb3 : B3 w.heap.size w (((w.alloc (.cells #[.slice A n c, .slice B m d] 29)).alloc (.cells #[.slice A' n' c', .slice B' m' d'] 29)).alloc (.cells #[.slice none 0 0, .slice none 0 0] 29)) #[.slice A n c, .slice B m d] #[.slice A' n' c', .slice B' m' d'] := by
    constructor
    all_goals first | (simp; done) | (simp; omega) | ((repeat (first | exact at_alloc (by first | rfl | (simp; done) | (simp; omega)) | refine at_old ?_ (by first | (simp; done) | (simp; omega)))); done) | ((repeat (first | exact Below.refl _ _ | assumption | (refine Below.setCell ?_ (by first | (simp; done) | (simp; omega) | omega) _) | (refine Below.alloc ?_ (by first | (simp; done) | (simp; omega) | omega) _) | (refine Below.drew ?_) | (refine Below.drewN ?_ _) | (refine Below.trans ?_ (Below.mono (by assumption) (by first | (simp; done) | (simp; omega) | omega))))); done)
  have HR := Lib.hid (fun (W : World) (hW : Below w.heap.size w W) => right_any n m Ta Ha A B c d W (HH.out.1.next hW))
  have HR' := Lib.hid (fun (W : World) (hW : Below w.heap.size w W) => right_any n' m' Tb Hb A' B' c' d' W (HH.out.2.next hW))
  go_enter Try.func12, Try.ntmps12
  go_wp2_with fail
  generalize ((w.alloc (.cells #[.slice A n c, .slice B m d] 29)).alloc (.cells #[.slice A' n' c', .slice B' m' d'] 29)).alloc (.cells #[.slice none 0 0, .slice none 0 0] 29) = W3 at hb3 ⊢
  refine (HR.out _ hb3.bel).mono ?_
  rintro e w4 ⟨rfl, hb4⟩
  have HB4 := Lib.hid (hb3.below hb4)
  clear hb3 hb4
  have g2 := cell_of_row w4 (w.heap.size + 1) 0 _ _ (0, 0) HB4.out.v2
  have g3 := cell_of_row w4 (w.heap.size + 1) 1 _ _ (0, 0) HB4.out.v2
  simp only [List.getElem?_toArray, List.getElem?_cons_zero, List.getElem?_cons_succ] at g2 g3
  have hr1 : Right n m Ta ∨ ¬ Right n m Ta := Decidable.em _
  rcases hr1 with hr1 | hr1
  · have HR1 := Lib.hid hr1
    rw [decide_eq_true hr1]
    clear hr1
    go_wp2_with fail
    refine (HR'.out _ HB4.out.bel).mono ?_
    rintro e WW ⟨rfl, hb5⟩
    have HB := Lib.hid (HB4.out.below hb5)
    clear hb5 g2 g3
    have hr2 : Right n' m' Tb ∨ ¬ Right n' m' Tb := Decidable.em _
    rcases hr2 with hr2 | hr2
    · have HR2 := Lib.hid hr2
      rw [decide_eq_true hr2]
      clear hr2
      have g0 := cell_of_row WW w.heap.size 0 _ _ (0, 0) HB.out.v1
      have g2 := cell_of_row WW (w.heap.size + 1) 0 _ _ (0, 0) HB.out.v2
      simp only [List.getElem?_toArray, List.getElem?_cons_zero, List.getElem?_cons_succ] at g0 g2
      by_cases hnn : n = n'
      · subst hnn
        have hn1 := HR1.out.1
        have hn2 := HR1.out.2.1
        go_wp2_with fail
        refine (ident_any n hn1 hn2 _).mono ?_
        rintro e w6 ⟨a, b, rfl, hab, hla, hlb, hra, hrb, hb6⟩
        have HB6 := Lib.hid (And.intro (HB.out.below hb6) (And.intro hra hrb))
        have hl := HB.out.lt
        have hsz : WW.heap.size ≤ w6.heap.size := hb6.size
        have hl6 := (HB6.out.1).lt
        have hlta : a < w6.heap.size := (Array.getElem?_eq_some_iff.1 hra).1
        have hltb : b < w6.heap.size := (Array.getElem?_eq_some_iff.1 hrb).1
        clear hra hrb hb6 g0 g2
        have hts : TS w.heap.size w (w6.alloc (.cells #[.slice (some ⟨a, 0, none⟩) n n, .slice (some ⟨b, 0, none⟩) n n] 29)) w6.heap.size a b n #[.slice A n c, .slice B m d] #[.slice A' n c', .slice B' m' d'] (L n n) (Array.replicate n (.bool false)) := by
          refine ⟨by omega, by omega, hab, by omega, by omega, by omega, at_old HB6.out.1.v1 (by omega), at_old HB6.out.1.v2 (by omega), at_old HB6.out.1.vr (by omega), at_alloc rfl, at_old HB6.out.2.1 hlta, at_old HB6.out.2.2 hltb, HB6.out.1.bel.alloc (by omega) _⟩
        rw [L_mix n (fun j => .int .i64 (thenT Ta Tb j)), rep_mix n (fun j => .bool (thenH Ta Ha Hb j))] at hts
        have g0 : (w6.alloc (.cells #[.slice (some ⟨a, 0, none⟩) n n, .slice (some ⟨b, 0, none⟩) n n] 29)).cell? ⟨w.heap.size, 0, none⟩ = some (.slice A n c) := cell_of_row _ w.heap.size 0 _ _ (0, 0) hts.v1
        have HT := Lib.hid hts
        clear hts
        go_wp2_with fail
        generalize w6.alloc (.cells #[.slice (some ⟨a, 0, none⟩) n n, .slice (some ⟨b, 0, none⟩) n n] 29) = W7 at HT g0 ⊢
        generalize w6.heap.size = x at HT ⊢
        go_loopw [35] (fun i wr => ∃ k : Nat, k ≤ n ∧ i = .int .i64 k ∧ TS w.heap.size w wr x a b n #[.slice A n c, .slice B m d] #[.slice A' n c', .slice B' m' d'] (mix (fun j => .int .i64 (thenT Ta Tb j)) (fun j => .int .i64 j) k n) (mix (fun j => .bool (thenH Ta Ha Hb j)) (fun _ => .bool false) k n)) (fun i _ => n - (intOf i).toNat)
        case atStart => exact ⟨0, by omega, rfl, HT.out⟩
        case round =>
          obtain ⟨k, hk, rfl, hts⟩ := hrel
          have H := Lib.hid hts
          have x0 := cell_of_row wr x 0 _ _ (0, 0) hts.bx
          have x1 := cell_of_row wr x 1 _ _ (0, 0) hts.bx
          have z0 := cell_of_row wr w.heap.size 0 _ _ (0, 0) hts.v1
          have z1 := cell_of_row wr w.heap.size 1 _ _ (0, 0) hts.v1
          have y0 := cell_of_row wr (w.heap.size + 1) 0 _ _ (0, 0) hts.v2
          have y1 := cell_of_row wr (w.heap.size + 1) 1 _ _ (0, 0) hts.v2
          simp only [List.getElem?_toArray, List.getElem?_cons_zero, List.getElem?_cons_succ] at x0 x1 z0 z1 y0 y1
          by_cases hlt : k < n
          · have hmn : m = n := HR1.out.2.2.1
            have hmn' : m' = n := HR2.out.2.2.1
            subst hmn hmn'
            have hlen : k < Ta.length := by have := HH.out.1.1; omega
            have hmem : Ta.getD k 0 ∈ Ta := by simp only [List.getD, List.getElem?_eq_getElem hlen, Option.getD_some]; exact List.getElem_mem hlen
            have hrg := HR1.out.2.2.2 _ hmem
            obtain ⟨b1, o1, rfl, hbl1, hc1⟩ := HH.out.1.2.2.1 (by omega)
            obtain ⟨b2, o2, rfl, hbl2, hc2⟩ := HH.out.1.2.2.2 (by omega)
            obtain ⟨b3, o3, rfl, hbl3, hc3⟩ := HH.out.2.2.2.1 (by omega)
            obtain ⟨b4, o4, rfl, hbl4, hc4⟩ := HH.out.2.2.2.2 (by omega)
            have f1 : wr.cell? ⟨b1, o1 + k, none⟩ = some (.int .i64 (Ta.getD k 0)) := (hts.bel.cell (p := ⟨b1, _, none⟩) hbl1).trans (hc1 k hlt)
            have f2 : wr.cell? ⟨b2, o2 + k, none⟩ = some (.bool (Ha.getD k false)) := (hts.bel.cell (p := ⟨b2, _, none⟩) hbl2).trans (hc2 k hlt)
            have hv1 : thenT Ta Tb k = Tb.getD (Ta.getD k 0).toNat 0 := rfl
            have hv2 : thenH Ta Ha Hb k = (Ha.getD k false || Hb.getD (Ta.getD k 0).toNat false) := rfl
            obtain ⟨q, hq⟩ : ∃ q : Nat, Ta.getD k 0 = q := ⟨(Ta.getD k 0).toNat, by omega⟩
            have hqn : q < m' := by omega
            have f3 : wr.cell? ⟨b3, o3 + q, none⟩ = some (.int .i64 (Tb.getD q 0)) := (hts.bel.cell (p := ⟨b3, _, none⟩) hbl3).trans (hc3 q hqn)
            have f4 : wr.cell? ⟨b4, o4 + q, none⟩ = some (.bool (Hb.getD q false)) := (hts.bel.cell (p := ⟨b4, _, none⟩) hbl4).trans (hc4 q hqn)
            rw [hq] at f1 hv1 hv2
            simp only [Int.toNat_natCast] at hv1 hv2
            have a0 : wr.cell? ⟨a, k, none⟩ = some (.int .i64 k) := by
              rw [cell_of_row wr a k _ _ (0, 0) hts.ra, mix_get _ _ _ _ _ hlt]; simp
            have af : wr.frozen? ⟨a, k, none⟩ = false := by simp [World.frozen?, hts.ra]
            have c0 : wr.cell? ⟨b, k, none⟩ = some (.bool false) := by
              rw [cell_of_row wr b k _ _ (0, 0) hts.rb, mix_get _ _ _ _ _ hlt]; simp
            have cf : wr.frozen? ⟨b, k, none⟩ = false := by simp [World.frozen?, hts.rb]
            have s1 := (hts.seta k (.int .i64 (thenT Ta Tb k))).setb k (.bool (thenH Ta Ha Hb k))
            have s2 := (hts.setb k (.bool (thenH Ta Ha Hb k))).seta k (.int .i64 (thenT Ta Tb k))
            rw [mix_set (fun j => .int .i64 (thenT Ta Tb j)) _ k m' hlt, mix_set (fun j => .bool (thenH Ta Ha Hb j)) _ k m' hlt, hv1, hv2] at s1 s2
            have S1 := Lib.hid s1
            have S2 := Lib.hid s2
            have hk0 : (0 : Int) ≤ k := by omega
            have hk1 : (k : Int) < m' := by omega
            have hq0 : (0 : Int) ≤ q := by omega
            have hq1 : (q : Int) < m' := by omega
            have hxa := hts.xa
            have hxb := hts.xb
            have hab := hts.ab
            have hlx := hts.lx
            have hla' := hts.la
            have hlb' := hts.lb
            generalize Tb.getD q 0 = t at f3 S1 S2
            generalize Hb.getD q false = hh at f4 S1 S2
            generalize Ha.getD k false = ha at f2 S1 S2
            clear hc1 hc2 hc3 hc4 s1 s2 hv1 hv2 hq hrg hmem hts
            go_upto_region 9 with fail
            cases ha
            · go_region
              have SX := Lib.hid S1.out.drew
              clear f1 f2 f3 f4 a0 af c0 cf
              go_wp2
              go_roundw
              case rel => exact ⟨k + 1, by omega, by go_num, SX.out⟩
              case measure => simp [intOf]; omega
            · go_region
              have SX := Lib.hid S1.out.drew
              clear f1 f2 f3 f4 a0 af c0 cf
              go_wp2
              go_roundw
              case rel => exact ⟨k + 1, by omega, by go_num, SX.out⟩
              case measure => simp [intOf]; omega
          · have e : k = n := by omega
            subst e
            have r0 := cell_of_row wr (w.heap.size + 2) 0 _ _ (0, 0) hts.vr
            have r1 := cell_of_row wr (w.heap.size + 2) 1 _ _ (0, 0) hts.vr
            simp only [List.getElem?_toArray, List.getElem?_cons_zero, List.getElem?_cons_succ] at r0 r1
            have rf : ∀ o, wr.frozen? ⟨w.heap.size + 2, o, none⟩ = false := fun o => by simp [World.frozen?, hts.vr]
            have hla' := hts.la
            have hlb' := hts.lb
            have hbe : Below w.heap.size w ((wr.setCell ⟨w.heap.size + 2, 0, none⟩ (.slice (some ⟨a, 0, none⟩) k k)).setCell ⟨w.heap.size + 2, 1, none⟩ (.slice (some ⟨b, 0, none⟩) k k)) := (hts.bel.setCell (by show w.heap.size ≤ w.heap.size + 2; omega) _).setCell (by show w.heap.size ≤ w.heap.size + 2; omega) _
            have hfun := (hts.fin (Ta := Ta) (Tb := Tb) (Ha := Ha) (Hb := Hb))
            have hfun2 : FunAt ((wr.setCell ⟨w.heap.size + 2, 0, none⟩ (.slice (some ⟨a, 0, none⟩) k k)).setCell ⟨w.heap.size + 2, 1, none⟩ (.slice (some ⟨b, 0, none⟩) k k)) (some ⟨a, 0, none⟩) k (some ⟨b, 0, none⟩) k (thenTs k Ta Tb) (thenHs k Ta Ha Hb) := by
              have hc : ∀ y o, y ≠ w.heap.size + 2 → ((wr.setCell ⟨w.heap.size + 2, 0, none⟩ (.slice (some ⟨a, 0, none⟩) k k)).setCell ⟨w.heap.size + 2, 1, none⟩ (.slice (some ⟨b, 0, none⟩) k k)).cell? ⟨y, o, none⟩ = wr.cell? ⟨y, o, none⟩ := fun y o hy => by
                rw [World.cell?_of_block (a := ⟨y, o, none⟩) (heap_setCell_other _ _ _ _ hy), World.cell?_of_block (a := ⟨y, o, none⟩) (heap_setCell_other _ _ _ _ hy)]
              refine ⟨hfun.1, hfun.2.1, fun hn => ?_, fun hn => ?_⟩
              · obtain ⟨b', o', e, hb', hc'⟩ := hfun.2.2.1 hn
                cases e
                exact ⟨a, 0, rfl, by simpa using hb', fun i hi => (hc a _ (by omega)).trans (hc' i hi)⟩
              · obtain ⟨b', o', e, hb', hc'⟩ := hfun.2.2.2 hn
                cases e
                exact ⟨b, 0, rfl, by simpa using hb', fun i hi => (hc b _ (by omega)).trans (hc' i hi)⟩
            have HX := Lib.hid (And.intro hbe hfun2)
            clear hbe hfun hfun2 hts
            go_wp2
            refine bodyPost_ret (v := .tuple #[.agg #[.slice (some ⟨a, 0, none⟩) k k, .slice (some ⟨b, 0, none⟩) k k], .int .i64 0]) ?_ rfl (.inr (.inr ⟨⟨HR1.out, HR2.out⟩, rfl, a, b, rfl, HX.out.2, HX.out.1⟩))
            simp [results, Try.results12, go_sem, *]
      · have hnn' : ¬ (n : Int) = n' := by omega
        clear g0 g2
        have g0 := cell_of_row WW w.heap.size 0 _ _ (0, 0) HB.out.v1
        have g2 := cell_of_row WW (w.heap.size + 1) 0 _ _ (0, 0) HB.out.v2
        simp only [List.getElem?_toArray, List.getElem?_cons_zero, List.getElem?_cons_succ] at g0 g2
        have hl := HB.out.lt
        have r0 := cell_of_row WW (w.heap.size + 2) 0 _ _ (0, 0) HB.out.vr
        have r1 := cell_of_row WW (w.heap.size + 2) 1 _ _ (0, 0) HB.out.vr
        simp only [List.getElem?_toArray, List.getElem?_cons_zero, List.getElem?_cons_succ] at r0 r1
        have rf : ∀ o, WW.frozen? ⟨w.heap.size + 2, o, none⟩ = false := fun o => by simp [World.frozen?, HB.out.vr]
        have hbe : Below w.heap.size w ((WW.setCell ⟨w.heap.size + 2, 0, none⟩ (.slice none 0 0)).setCell ⟨w.heap.size + 2, 1, none⟩ (.slice none 0 0)) := (HB.out.bel.setCell (by show w.heap.size ≤ w.heap.size + 2; omega) _).setCell (by show w.heap.size ≤ w.heap.size + 2; omega) _
        have HX := Lib.hid hbe
        clear hbe
        go_wp2
        refine bodyPost_ret (v := .tuple #[.agg #[.slice none 0 0, .slice none 0 0], .int .i64 1]) ?_ rfl (.inr (.inl ⟨⟨HR1.out, HR2.out⟩, hnn, rfl, HX.out⟩))
        simp [results, Try.results12, go_sem, *]
    · have HR2 := Lib.hid hr2
      rw [decide_eq_false hr2]
      clear hr2
      have hl := HB.out.lt
      have r0 := cell_of_row WW (w.heap.size + 2) 0 _ _ (0, 0) HB.out.vr
      have r1 := cell_of_row WW (w.heap.size + 2) 1 _ _ (0, 0) HB.out.vr
      simp only [List.getElem?_toArray, List.getElem?_cons_zero, List.getElem?_cons_succ] at r0 r1
      have rf : ∀ o, WW.frozen? ⟨w.heap.size + 2, o, none⟩ = false := fun o => by simp [World.frozen?, HB.out.vr]
      have hbe : Below w.heap.size w ((WW.setCell ⟨w.heap.size + 2, 0, none⟩ (.slice none 0 0)).setCell ⟨w.heap.size + 2, 1, none⟩ (.slice none 0 0)) := (HB.out.bel.setCell (by show w.heap.size ≤ w.heap.size + 2; omega) _).setCell (by show w.heap.size ≤ w.heap.size + 2; omega) _
      have HX := Lib.hid hbe
      clear hbe
      go_wp2
      refine bodyPost_ret (v := .tuple #[.agg #[.slice none 0 0, .slice none 0 0], .int .i64 3]) ?_ rfl (.inl ⟨fun h => HR2.out h.2, rfl, HX.out⟩)
      simp [results, Try.results12, go_sem, *]
  · have HR1 := Lib.hid hr1
    rw [decide_eq_false hr1]
    have HB := HB4
    clear hr1 g2 g3
    have hl := HB.out.lt
    have r0 := cell_of_row w4 (w.heap.size + 2) 0 _ _ (0, 0) HB.out.vr
    have r1 := cell_of_row w4 (w.heap.size + 2) 1 _ _ (0, 0) HB.out.vr
    simp only [List.getElem?_toArray, List.getElem?_cons_zero, List.getElem?_cons_succ] at r0 r1
    have rf : ∀ o, w4.frozen? ⟨w.heap.size + 2, o, none⟩ = false := fun o => by simp [World.frozen?, HB.out.vr]
    have hbe : Below w.heap.size w ((w4.setCell ⟨w.heap.size + 2, 0, none⟩ (.slice none 0 0)).setCell ⟨w.heap.size + 2, 1, none⟩ (.slice none 0 0)) := (HB.out.bel.setCell (by show w.heap.size ≤ w.heap.size + 2; omega) _).setCell (by show w.heap.size ≤ w.heap.size + 2; omega) _
    have HX := Lib.hid hbe
    clear hbe
    go_wp2
    refine bodyPost_ret (v := .tuple #[.agg #[.slice none 0 0, .slice none 0 0], .int .i64 3]) ?_ rfl (.inl ⟨fun h => HR1.out h.1, rfl, HX.out⟩)
    simp [results, Try.results12, go_sem, *]
end Go.Proofs.Ytapanoalhhlphaa.Vec
