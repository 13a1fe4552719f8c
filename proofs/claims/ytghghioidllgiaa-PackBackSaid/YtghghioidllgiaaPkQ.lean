/- Put: the walk. -/
import Derived.Test.YtghghioidllgiaaPkP
import Derived.Deep.DeepCutAuto
namespace Go.Proofs.Ytghghioidllgiaa.Pk
set_option linter.unusedSimpArgs false
set_option linter.unusedVariables false
open Go Go.RowKit
open Go.Proofs.Ytghghioidllgiaa.Vec (SlI iv bv FunAt Right right_any)
attribute [local go_sem] lt_add1 lt_self1 size_ne size_ne' size_ne1 size_ne1'

/-- what Put answers. -/
def PutPost (n m : Nat) (T : List Int) (H : List Bool) (w : World) (e : Ending) (w' : World) : Prop :=
  (¬ Right n m T ∧ e = .returned (.tuple #[.slice none 0 0, .int .i64 3]) ∧ Below w.heap.size w w') ∨
  (Right n m T ∧ ∃ g cp, e = .returned (.tuple #[.slice (some ⟨g, 0, none⟩) (siz n) cp, .int .i64 0]) ∧ w'.ownsRow w.heap.size 5 1 (.slice (some ⟨g, 0, none⟩) (siz n) cp) (siz n) (yb (pack n T H)) ∧ Below w.heap.size w w')

/-- the hits' bytes, of the first i entries. -/
def hrow (H : List Bool) (i q : Nat) : Array Value := ((List.range q).map fun j => Value.int .u8 (hitb H i j : Nat)).toArray
theorem hrow_size (H : List Bool) (i q : Nat) : (hrow H i q).size = q := by simp [hrow]
theorem hrow_get (H : List Bool) (i q j : Nat) (hj : j < q) : (hrow H i q)[j]? = some (.int .u8 (hitb H i j : Nat)) := by simp [hrow, hj]
theorem hrow_zero (H : List Bool) (q : Nat) : Array.replicate q (Value.int .u8 0) = hrow H 0 q := by
  refine Array.ext (by simp [hrow]) fun j h1 h2 => ?_
  simp [hrow, hitb_zero]
theorem hrow_skip (H : List Bool) (i q : Nat) (h : H.getD i false = false) : hrow H (i + 1) q = hrow H i q := by
  unfold hrow
  congr 2
  funext j
  rw [hitb_skip H i j (.inl h)]
theorem hrow_set (H : List Bool) (i q : Nat) (hq : i / 8 < q) : (hrow H i q).setIfInBounds (i / 8) (.int .u8 (hitb H (i + 1) (i / 8) : Nat)) = hrow H (i + 1) q := by
  refine Array.ext (by simp [hrow]) fun j h1 h2 => ?_
  have hj : j < q := by simpa [hrow] using h2
  rw [Array.getElem_setIfInBounds (by rw [hrow_size]; exact hj)]
  by_cases e : i / 8 = j
  · subst e; simp [hrow]
  · simp only [if_neg e]
    simp only [hrow, List.getElem_toArray, List.getElem_map, List.getElem_range]
    rw [hitb_skip H i j (.inr (fun h => e h.symm))]

/-- what the second loop has: the hits' block, too. -/
structure HS (B : Nat) (a0 w : World) (V : Array Value) (v : Value) (X : List Nat) (hk : Nat) (R : Array Value) : Prop where
  ps : PS B a0 w V v X
  rk : w.heap[hk]? = some (.cells R 5 (0, 0))
  gt : B < hk
  ne : v.ownBlock ≠ some hk
section
variable {B : Nat} {a0 w w1 : World} {V : Array Value} {v v' : Value} {X Y : List Nat} {hk : Nat} {R : Array Value}
theorem HS.set (h : HS B a0 w V v X hk R) (i : Nat) (u : Value) : HS B a0 (w.setCell ⟨hk, i, none⟩ u) V v X hk (R.setIfInBounds i u) := by
  have hg := h.gt
  refine ⟨⟨?_, own_setCell h.ps.ow h.ne u, h.ps.bel.setCell (by show B ≤ hk; omega) u⟩, heap_setCell_same _ _ _ _ _ _ h.rk, hg, h.ne⟩
  rw [heap_setCell_other _ _ _ _ (by show B ≠ hk; omega)]; exact h.ps.bx
theorem HS.drew (h : HS B a0 w V v X hk R) : HS B a0 w.drew V v X hk R := ⟨⟨h.ps.bx, h.ps.ow, h.ps.bel.drew⟩, h.rk, h.gt, h.ne⟩
end

set_option maxRecDepth 100000 in
set_option maxHeartbeats 4000000 in
theorem put_any (n m : Nat) (T : List Int) (H : List Bool) (A B : Option Addr) (c d : Nat) (w : World) (h : FunAt w A n B m T H) :
    Calls Try.prog 17 #[.agg #[.slice A n c, .slice B m d]] w fun e w' => PutPost n m T H w e w' := by
  obtain ⟨iu, hiu, hu0, hu1, hu2⟩ := info_parts u8_info
  have HH := Lib.hid h
  clear h
  have hbx : (w.alloc (.cells #[.slice A n c, .slice B m d] 27)).heap[w.heap.size]? = some (.cells #[.slice A n c, .slice B m d] 27 (0, 0)) := heap_alloc_new w _
  have hbl : Below w.heap.size w (w.alloc (.cells #[.slice A n c, .slice B m d] 27)) := by (repeat (first | exact Below.refl _ _ | assumption | (refine Below.setCell ?_ (by first | (simp; done) | (simp; omega) | omega) _) | (refine Below.alloc ?_ (by first | (simp; done) | (simp; omega) | omega) _) | (refine Below.drew ?_) | (refine Below.drewN ?_ _) | (refine Below.trans ?_ (Below.mono (by assumption) (by first | (simp; done) | (simp; omega) | omega)))))
  have hlt1 : w.heap.size < (w.alloc (.cells #[.slice A n c, .slice B m d] 27)).heap.size := by simp
  go_enter Try.func17, Try.ntmps17
  go_wp2_with fail
  generalize w.alloc (.cells #[.slice A n c, .slice B m d] 27) = W1 at hbx hbl hlt1 ⊢
  have HR := Lib.hid (right_any n m T H A B c d W1 (HH.out.next hbl))
  refine HR.out.mono ?_
  rintro e w2 ⟨rfl, hb2⟩
  have hbx2 := (hb2.block w.heap.size hlt1).trans hbx
  have H2 := Lib.hid (And.intro hbx2 (hbl.trans (hb2.mono (by omega))))
  have hlt2 := Nat.lt_of_lt_of_le hlt1 hb2.size
  clear hbx hbl hb2 HR hbx2
  have x0 := cell_of_row w2 w.heap.size 0 _ _ (0, 0) H2.out.1
  have x1 := cell_of_row w2 w.heap.size 1 _ _ (0, 0) H2.out.1
  simp only [List.getElem?_toArray, List.getElem?_cons_zero, List.getElem?_cons_succ] at x0 x1
  by_cases hr : Right n m T
  case neg =>
    rw [decide_eq_false hr]
    have HN := Lib.hid hr
    clear hr
    go_wp2
    refine bodyPost_ret (v := .tuple #[.slice none 0 0, .int .i64 3]) ?_ rfl (.inl ⟨HN.out, rfl, H2.out.2⟩)
    simp [results, Try.results17, go_sem, *]
  rw [decide_eq_true hr]
  have HR := Lib.hid hr
  obtain ⟨n1, n2, rfl, _⟩ := hr
  have hsz := siz_le m n2
  have hs1 : 1 ≤ siz m := by unfold siz; omega
  go_wp2_with fail
  refine (size_any m (by omega) _).mono ?_
  rintro e w3 ⟨rfl, rfl⟩
  have hmk : ∀ W : World, (Instr.makeSlice 22 (.int .i64 0) (.int .i64 (siz m))).run Try.prog W = .ok (.slice (some ⟨W.heap.size, 0, none⟩) 0 (siz m)) (W.alloc (.cells (Array.replicate (siz m) (.int .u8 0)) 5)) := fun W => by simpa using make_bytes 0 (siz m) (by omega) (by omega) W
  have hp : PS w.heap.size w (w2.alloc (.cells (Array.replicate (siz m) (.int .u8 0)) 5)) #[.slice A m c, .slice B m d] (.slice (some ⟨w2.heap.size, 0, none⟩) 0 (siz m)) [] := by
    refine ⟨by show (w2.heap.push _)[w.heap.size]? = _; rw [Array.getElem?_push, if_neg (by omega)]; exact H2.out.1, ?_, H2.out.2.alloc (by omega) _⟩
    have := World.ownsRow_made (base := w.heap.size + 1) (e := 5) (size := 1) w2 (Array.replicate (siz m) (.int .u8 0)) (siz m) (by omega) (by unfold maxLen; omega) (by simp)
    simpa [yb] using this
  have HP := Lib.hid hp
  clear hp x0 x1
  go_wp2_with (at_builtin; refine wpList_append_lies _ rfl _ _ 22 rfl (w.heap.size + 1) 5 iu (.int .u8 0) 1 1 Try.underlying22 hiu hu0 hu1 hu2 rfl (by decide) _ _ _ rfl (HP.out.ow.alloc _) ⟨w2.heap.size + 1, 0, none⟩ 2 2 [.int .u8 ((m : Int) / 256), .int .u8 ((m : Int) % 256)] rfl rfl ?c1 ?c2 (by omega) ?c3 ?c4 ?c5 _ rfl ?_)
  case c1 => exact World.news_of_block (fr := (0, 0)) (at_alloc (by simp))
  case c2 => intro u hu; simp at hu; rcases hu with rfl | rfl <;> rfl
  case c3 => unfold maxLen; simp
  case c4 => simp
  case c5 => simp; omega
  intro q cap w4 hown hgrow hat hlt
  have hnews : ([.int .u8 ((m : Int) / 256), .int .u8 ((m : Int) % 256)] : List Value) = yb [m / 256, m % 256] := by simp [yb]
  rw [hnews] at hown
  have H4 := Lib.hid ((HP.out.alloc _).grow (Y := [m / 256, m % 256]) hgrow hown)
  have hlt4 := H4.out.lt
  have x0 := cell_of_row w4 w.heap.size 0 _ _ (0, 0) H4.out.bx
  simp only [List.getElem?_toArray, List.getElem?_cons_zero, List.getElem?_cons_succ] at x0
  have hsz4 : w2.heap.size ≤ w4.heap.size := by have := hgrow.size; simp at this; omega
  clear hown hgrow hat hlt hmk hnews HP H2
  go_wp2_with fail
  go_loopw [5, 31] (fun v i wr => ∃ (k : Nat) (q cp : Nat), k ≤ m ∧ i = .int .i64 k ∧ v = .slice (some ⟨q, 0, none⟩) (2 + k * wid m) cp ∧ PS w.heap.size w wr #[.slice A m c, .slice B m d] (.slice (some ⟨q, 0, none⟩) (2 + k * wid m) cp) ([m / 256, m % 256] ++ ents m T k)) (fun _ i _ => m - (intOf i).toNat)
  case atStart => exact ⟨0, q, cap, by omega, rfl, by simp, by simpa [ents] using H4.out⟩
  case round =>
    obtain ⟨k, q', cp, hk, rfl, rfl, hps⟩ := hrel
    have H5 := Lib.hid hps
    have hlt5 := hps.lt
    have hlen : (([m / 256, m % 256] : List Nat) ++ ents m T k).length = 2 + k * wid m := by
      rw [List.length_append, ents_length m T k (by have := HH.out.1; omega)]; rfl
    have HL := Lib.hid hlen
    clear hlen
    by_cases hlt : k < m
    · obtain ⟨b1, o1, rfl, hb1, hc1⟩ := HH.out.2.2.1 (by omega)
      have f1 : wr.cell? ⟨b1, o1 + k, none⟩ = some (.int .i64 (T.getD k 0)) := (hps.bel.cell (p := ⟨b1, _, none⟩) hb1).trans (hc1 k hlt)
      have hlk : k < T.length := by have := HH.out.1; omega
      have hmem : T.getD k 0 ∈ T := by simp only [List.getD, List.getElem?_eq_getElem hlk, Option.getD_some]; exact List.getElem_mem hlk
      have hrg := HR.out.2.2.2 _ hmem
      have hes := ents_succ m T k hlk
      obtain ⟨x, hx⟩ : ∃ x : Nat, T.getD k 0 = x := ⟨(T.getD k 0).toNat, by omega⟩
      rw [hx] at f1 hes hrg
      have hxm : x < m := by omega
      have hk0 : (0 : Int) ≤ k := by omega
      have hk1 : (k : Int) < m := by omega
      have hx0 : (0 : Int) ≤ x := by omega
      have hx1 : (x : Int) < 4096 := by omega
      have hs1 : b1 < wr.heap.size := by omega
      have HE := Lib.hid hes
      clear hc1 hmem hrg hx hes hps
      rcases wid_cases m with ⟨hm, e⟩ | ⟨hm, e⟩
      · have he : ent m (x : Int) = [x / 256] ++ [x % 256] := by unfold ent; rw [if_pos hm]; simp
        rw [e] at H5 HL ⊢
        have hwA := Lib.hid (fun W => wide_any m W)
        rw [e] at hwA
        rw [he] at HE
        go_wp2_with fail
        refine (hwA.out _).mono ?_
        rintro e1 w5 ⟨rfl, rfl⟩
        go_wp2_with (at_builtin; refine wp_app rfl _ _ rfl H5.out HL.out (by omega) rfl _ (x / 256) (by simp) rfl ?_)
        intro g1 cp1 w6 hp6
        have H6 := Lib.hid hp6
        have HL6 : (([m / 256, m % 256] ++ ents m T k) ++ [x / 256] : List Nat).length = 2 + k * 2 + 1 := by rw [List.length_append, HL.out]; rfl
        have HL6 := Lib.hid HL6
        clear hp6
        go_wp2_with (at_builtin; refine wp_app rfl _ _ rfl H6.out HL6.out (by omega) rfl _ (x % 256) (by simp) rfl ?_)
        intro g2 cp2 w7 hp7
        have H7 := Lib.hid hp7
        clear hp7
        go_wp2
        go_roundw
        case rel =>
          have e3 : 2 + (k + 1) * 2 = 2 + k * 2 + 1 + 1 := by omega
          refine ⟨k + 1, g2, cp2, by omega, by go_num, by rw [e3], ?_⟩
          rw [e3, HE.out]
          simpa using H7.out
        case measure => simp [intOf]; omega
      · have he : ent m (x : Int) = [x] := by unfold ent; rw [if_neg (by omega)]; simp
        rw [e, Nat.mul_one] at H5 HL
        rw [e]
        simp only [Nat.mul_one]
        have hwA := Lib.hid (fun W => wide_any m W)
        rw [e] at hwA
        rw [he] at HE
        have hx2 : (x : Int) < 256 := by omega
        go_wp2_with fail
        refine (hwA.out _).mono ?_
        rintro e1 w5 ⟨rfl, rfl⟩
        go_wp2_with (at_builtin; refine wp_app rfl _ _ rfl H5.out HL.out (by omega) rfl _ x (by simp) rfl ?_)
        intro g1 cp1 w6 hp6
        have H6 := Lib.hid hp6
        clear hp6
        go_wp2
        go_roundw
        case rel =>
          have e3 : 2 + (k + 1) = 2 + k + 1 := by omega
          refine ⟨k + 1, g1, cp1, by omega, by go_num, by rw [e3], ?_⟩
          rw [e3, HE.out]
          simpa using H6.out
        case measure => simp [intOf]; omega
    · obtain rfl : k = m := by omega
      have hq7 : (k + 7) / 8 ≤ 1000 := by omega
      have hmk : ∀ W : World, (Instr.makeSlice 22 (.int .i64 (((k : Int) + 7) / 8)) (.int .i64 (((k : Int) + 7) / 8))).run Try.prog W = .ok (.slice (some ⟨W.heap.size, 0, none⟩) ((k + 7) / 8) ((k + 7) / 8)) (W.alloc (.cells (Array.replicate ((k + 7) / 8) (.int .u8 0)) 5)) := fun W => by simpa using make_bytes ((k + 7) / 8) ((k + 7) / 8) (by omega) (by omega) W
      have hhs : HS w.heap.size w (wr.alloc (.cells (Array.replicate ((k + 7) / 8) (.int .u8 0)) 5)) #[.slice A k c, .slice B k d] (.slice (some ⟨q', 0, none⟩) (2 + k * wid k) cp) ([k / 256, k % 256] ++ ents k T k) wr.heap.size (hrow H 0 ((k + 7) / 8)) := by
        refine ⟨hps.alloc _, by rw [← hrow_zero]; exact heap_alloc_new _ _, hlt5, fun e => ?_⟩
        have := (hps.ow.lt _ e).2
        omega
      have x1 := cell_of_row wr w.heap.size 1 _ _ (0, 0) hps.bx
      simp only [List.getElem?_toArray, List.getElem?_cons_zero, List.getElem?_cons_succ] at x1
      have H6 := Lib.hid hhs
      clear hps hhs x0
      go_wp2_with fail
      generalize wr.alloc (.cells (Array.replicate ((k + 7) / 8) (.int .u8 0)) 5) = W6 at H6 ⊢
      generalize wr.heap.size = hkb at H6 ⊢
      generalize hQ : (k + 7) / 8 = Q at H6 hq7 ⊢
      clear hmk H4 H5 x1
      go_loopw [57] (fun i wt => ∃ j : Nat, j ≤ k ∧ i = .int .i64 j ∧ HS w.heap.size w wt #[.slice A k c, .slice B k d] (.slice (some ⟨q', 0, none⟩) (2 + k * wid k) cp) ([k / 256, k % 256] ++ ents k T k) hkb (hrow H j Q)) (fun i _ => k - (intOf i).toNat)
      case atStart => exact ⟨0, by omega, rfl, H6.out⟩
      case round =>
        obtain ⟨j, hj, rfl, hs⟩ := hrel
        have H7 := Lib.hid hs
        by_cases hlt : j < k
        · obtain ⟨b2, o2, rfl, hb2, hc2⟩ := HH.out.2.2.2 (by omega)
          have f1 : wr.cell? ⟨b2, o2 + j, none⟩ = some (.bool (H.getD j false)) := (hs.ps.bel.cell (p := ⟨b2, _, none⟩) hb2).trans (hc2 j hlt)
          have hj0 : (0 : Int) ≤ j := by omega
          have hj1 : (j : Int) < k := by omega
          have hs3 : b2 < wr.heap.size := by have := hs.ps.lt; omega
          cases hh : H.getD j false
          · have HE := Lib.hid (hrow_skip H j Q hh)
            rw [hh] at f1
            clear hc2 hs hh
            go_wp2
            go_roundw
            case rel => exact ⟨j + 1, by omega, by go_num, by rw [HE.out]; exact H7.out⟩
            case measure => simp [intOf]; omega
          · have hq : j / 8 < Q := by omega
            have HE := Lib.hid (And.intro (hitb_set H j hh) (And.intro (hrow_set H j Q hq) (hitb_part_lt H j)))
            have f2 : wr.cell? ⟨hkb, j / 8, none⟩ = some (.int .u8 (hitb H j (j / 8) : Nat)) := by
              rw [cell_of_row wr hkb _ _ _ (0, 0) hs.rk, hrow_get _ _ _ _ hq]
            have ff : wr.frozen? ⟨hkb, j / 8, none⟩ = false := by simp [World.frozen?, hs.rk]
            have hq0 : ((j : Int) / 8) < Q := by omega
            rw [hh] at f1
            have hpw : (2 : Int) ^ (j % 8) % 256 = ((2 ^ (j % 8) : Nat) : Int) := by
              have : 2 ^ (j % 8) ≤ 2 ^ 7 := Nat.pow_le_pow_right (by decide) (by omega)
              rw [show (2 : Int) ^ (j % 8) = ((2 ^ (j % 8) : Nat) : Int) by simp]
              generalize 2 ^ (j % 8) = pw at this ⊢
              omega
            have hor : bits .or .u8 (hitb H j (j / 8) : Nat) ((2 : Int) ^ (j % 8) % 256) = (hitb H (j + 1) (j / 8) : Nat) := by
              rw [hpw, or_bit _ _ (by omega) HE.out.2.2, HE.out.1]
            have hst := (hs.set (j / 8) (.int .u8 (hitb H (j + 1) (j / 8) : Nat))).drew
            rw [HE.out.2.1] at hst
            have HST := Lib.hid hst
            have HOR := Lib.hid hor
            clear hc2 hs hh hpw hor hst
            go_upto_region 18 with fail
            go_region
            rw [HOR.out]
            clear f1 f2 ff
            go_wp2
            go_roundw
            case rel => exact ⟨j + 1, by omega, by go_num, HST.out⟩
            case measure => simp [intOf]; omega
        · obtain rfl : j = k := by omega
          have hcs : (hrow H j Q).toList = yb ((List.range Q).map (hitb H j)) := by simp [hrow, yb]
          have HCS := Lib.hid hcs
          have hq1 : 1 ≤ Q := by omega
          have hszj : siz j = 2 + j * wid j + Q := by unfold siz; rw [hQ]
          have HSZ := Lib.hid hszj
          have hw2 : j * wid j ≤ 10000 := by rcases wid_cases j with ⟨_, e⟩ | ⟨_, e⟩ <;> rw [e] <;> omega
          have hlw := hs.ps.lt
          clear hs hcs hszj hsz hs1 HL
          have HL := Lib.hid (show (([j / 256, j % 256] : List Nat) ++ ents j T j).length = 2 + j * wid j from by rw [List.length_append, ents_length j T j (by have := HH.out.1; omega)]; rfl)
          have ho5 := H7.out.ps.ow
          rw [HL.out] at ho5
          have HO5 := Lib.hid ho5
          clear ho5
          go_wp2_with (at_builtin; refine wpList_append_lies _ rfl _ _ 22 rfl (w.heap.size + 1) 5 iu (.int .u8 0) 1 1 Try.underlying22 hiu hu0 hu1 hu2 rfl (by decide) _ _ _ rfl HO5.out ⟨hkb, 0, none⟩ Q Q (hrow H j Q).toList rfl (by simp [hrow_size]) (World.news_of_block (fr := (0, 0)) H7.out.rk) (by rw [HCS.out]; exact yb_one _) (by omega) ?c3 ?c4 ?c5 _ rfl ?_)
          case c3 => unfold maxLen; omega
          case c4 => omega
          case c5 => omega
          intro g cpp w8 hown hgrow hat hlt8
          have hbel := (H7.out.ps.grow (Y := (List.range Q).map (hitb H j)) hgrow (by rw [← HCS.out, HL.out]; simpa using hown)).bel
          have hown2 : w8.ownsRow w.heap.size 5 1 (.slice (some ⟨g, 0, none⟩) (siz j) cpp) (siz j) (yb (pack j T H)) := by
            have e1 : pack j T H = ([j / 256, j % 256] ++ ents j T j) ++ (List.range Q).map (hitb H j) := by unfold pack; rw [hQ]
            rw [HSZ.out, e1, yb_append, ← HCS.out]
            exact own_base hown (by omega)
          have HF := Lib.hid (And.intro hown2 hbel)
          rw [← HSZ.out]
          clear hown hgrow hat hbel hown2 hw2
          go_wp2
          trace_state
          refine bodyPost_ret (v := .tuple #[.slice (some ⟨g, 0, none⟩) (siz j) cpp, .int .i64 0]) ?_ rfl (.inr ⟨HR.out, g, cpp, rfl, HF.out.1, HF.out.2⟩)
          simp [results, Try.results17, go_sem, *]
end Go.Proofs.Ytghghioidllgiaa.Pk
