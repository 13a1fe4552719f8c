/- The page's Put. -/
import Derived.Test.YtghghioidllgiaaPkQ
namespace Go.Proofs.Ytghghioidllgiaa.Pk
set_option linter.unusedSimpArgs false
set_option linter.unusedVariables false
open Go Go.RowKit
open Go.Proofs.Ytghghioidllgiaa.Vec (SlI iv bv FunAt Right right_any)
attribute [local go_sem] lt_add1 lt_self1 size_ne size_ne' size_ne1 size_ne1'

theorem bitsum_succ (f : Nat → Bool) (t : Nat) : bitsum f (t + 1) = bitsum f t + if f t then 2 ^ t else 0 := rfl

set_option maxRecDepth 100000 in
set_option maxHeartbeats 4000000 in
theorem rput_any (m : Nat) (T : List Int) (H : List Bool) (A B : Option Addr) (c d : Nat) (w : World) (h : FunAt w A m B m T H) (hR : Right m m T) :
    Calls Try.prog 42 #[.agg #[.slice A m c, .slice B m d]] w fun e w' => ∃ g cp, e = .returned (.slice (some ⟨g, 0, none⟩) (siz m) cp) ∧ w'.ownsRow w.heap.size 5 1 (.slice (some ⟨g, 0, none⟩) (siz m) cp) (siz m) (yb (pack m T H)) ∧ Below w.heap.size w w' := by
  obtain ⟨iu, hiu, hu0, hu1, hu2⟩ := info_parts u8_info
  have HH := Lib.hid h
  have HR := Lib.hid hR
  obtain ⟨n1, n2, _, _⟩ := hR
  clear h
  have hps : PS w.heap.size w ((w.alloc (.cells #[.slice A m c, .slice B m d] 27)).alloc (.cells #[.int .u8 ((m : Int) / 256), .int .u8 ((m : Int) % 256)] 5)) #[.slice A m c, .slice B m d] (.slice (some ⟨w.heap.size + 1, 0, none⟩) 2 2) [m / 256, m % 256] := by
    refine ⟨at_old (heap_alloc_new w _) (by simp), ?_, by (repeat (first | exact Below.refl _ _ | assumption | (refine Below.setCell ?_ (by first | (simp; done) | (simp; omega) | omega) _) | (refine Below.alloc ?_ (by first | (simp; done) | (simp; omega) | omega) _) | (refine Below.drew ?_) | (refine Below.drewN ?_ _) | (refine Below.trans ?_ (Below.mono (by assumption) (by first | (simp; done) | (simp; omega) | omega)))))⟩
    have := World.ownsRow_lit (base := w.heap.size + 1) (e := 5) (size := 1) (w.alloc (.cells #[.slice A m c, .slice B m d] 27)) #[.int .u8 ((m : Int) / 256), .int .u8 ((m : Int) % 256)] 2 (by simp) (by decide) (by simp)
    simpa [yb] using this
  have x0 : ((w.alloc (.cells #[.slice A m c, .slice B m d] 27)).alloc (.cells #[.int .u8 ((m : Int) / 256), .int .u8 ((m : Int) % 256)] 5)).cell? ⟨w.heap.size, 0, none⟩ = some (.slice A m c) := cell_of_row _ w.heap.size 0 _ _ (0, 0) hps.bx
  have H4 := Lib.hid hps
  clear hps
  go_enter Try.func42, Try.ntmps42
  go_wp2_with fail
  generalize (w.alloc (.cells #[.slice A m c, .slice B m d] 27)).alloc (.cells #[.int .u8 ((m : Int) / 256), .int .u8 ((m : Int) % 256)] 5) = W4 at H4 x0 ⊢
  generalize w.heap.size + 1 = q at H4 ⊢
  go_loopw [4, 5] (fun v i wr => ∃ (k : Nat) (q cp : Nat), k ≤ m ∧ i = .int .i64 k ∧ v = .slice (some ⟨q, 0, none⟩) (2 + k * wid m) cp ∧ PS w.heap.size w wr #[.slice A m c, .slice B m d] (.slice (some ⟨q, 0, none⟩) (2 + k * wid m) cp) ([m / 256, m % 256] ++ ents m T k)) (fun _ i _ => m - (intOf i).toNat)
  case atStart => exact ⟨0, q, 2, by omega, rfl, by simp, by simpa [ents] using H4.out⟩
  case round =>
    obtain ⟨k, q', cp, hk, rfl, rfl, hps⟩ := hrel
    have H5 := Lib.hid hps
    have hlt5 := hps.lt
    have hlen : (([m / 256, m % 256] : List Nat) ++ ents m T k).length = 2 + k * wid m := by
      rw [List.length_append, ents_length m T k (by have := HH.out.1; omega)]; rfl
    have HL := Lib.hid hlen
    clear hlen
    have x0 := cell_of_row wr w.heap.size 0 _ _ (0, 0) hps.bx
    have x1 := cell_of_row wr w.heap.size 1 _ _ (0, 0) hps.bx
    simp only [List.getElem?_toArray, List.getElem?_cons_zero, List.getElem?_cons_succ] at x0 x1
    by_cases hlt : k < m
    · obtain ⟨b1, o1, rfl, hb1, hc1⟩ := HH.out.2.2.1 (by omega)
      have f0 : w.cell? ⟨b1, o1 + k, none⟩ = some (.int .i64 (T.getD k 0)) := hc1 k hlt
      have hlk : k < T.length := by have := HH.out.1; omega
      have hmem : T.getD k 0 ∈ T := by simp only [List.getD, List.getElem?_eq_getElem hlk, Option.getD_some]; exact List.getElem_mem hlk
      have hrg := HR.out.2.2.2 _ hmem
      have hes := ents_succ m T k hlk
      obtain ⟨x, hx⟩ : ∃ x : Nat, T.getD k 0 = x := ⟨(T.getD k 0).toNat, by omega⟩
      rw [hx] at f0 hes hrg
      have f1 := (hps.bel.cell (p := ⟨b1, _, none⟩) hb1).trans f0
      have hxm : x < m := by omega
      have hk0 : (0 : Int) ≤ k := by omega
      have hk1 : (k : Int) < m := by omega
      have hx0 : (0 : Int) ≤ x := by omega
      have hx1 : (x : Int) < 4096 := by omega
      have hs1 : b1 < wr.heap.size := by omega
      have HE := Lib.hid hes
      have HF := Lib.hid f0
      clear hc1 hmem hrg hx hes hps f0
      rcases wid_cases m with ⟨hm, e⟩ | ⟨hm, e⟩
      · have he : ent m (x : Int) = [x / 256] ++ [x % 256] := by unfold ent; rw [if_pos hm]; simp
        rw [e] at H5 HL ⊢
        rw [he] at HE
        have hm2 : (256 : Int) < m := by omega
        go_wp2_with (at_builtin; refine wp_app rfl _ _ rfl H5.out HL.out (by omega) rfl _ (x / 256) (by simp) rfl ?_)
        intro g1 cp1 w6 hp6
        have H6 := Lib.hid hp6
        have HL6 := Lib.hid (show ((([m / 256, m % 256] : List Nat) ++ ents m T k) ++ [x / 256]).length = 2 + k * 2 + 1 by rw [List.length_append, HL.out]; rfl)
        have x0 := cell_of_row w6 w.heap.size 0 _ _ (0, 0) hp6.bx
        simp only [List.getElem?_toArray, List.getElem?_cons_zero, List.getElem?_cons_succ] at x0
        have f1 := (hp6.bel.cell (p := ⟨b1, _, none⟩) hb1).trans HF.out
        have hs1 : b1 < w6.heap.size := by have := hp6.lt; omega
        have hlt6 := hp6.lt
        clear hp6
        go_wp2_with (at_builtin; refine wp_app rfl _ _ rfl H6.out HL6.out (by omega) rfl _ (x % 256) (by simp) rfl ?_)
        intro g2 cp2 w7 hp7
        have H7 := Lib.hid hp7
        clear hp7
        go_wp2
        go_roundw
        case rel =>
          have e3 : 2 + (k + 1) * 2 = 2 + k * 2 + 1 + 1 := by omega
          refine ⟨k + 1, g2, cp2, by omega, by go_num, by rw [e3], ?_⟩
          rw [e3, HE.out]
          simpa using H7.out
        case measure => simp [intOf]; omega
      · have he : ent m (x : Int) = [x] := by unfold ent; rw [if_neg (by omega)]; simp
        rw [e, Nat.mul_one] at H5 HL
        rw [e]
        simp only [Nat.mul_one]
        rw [he] at HE
        have hx2 : (x : Int) < 256 := by omega
        have hm2 : ¬ (256 : Int) < m := by omega
        have hx3 : (x : Int) % 256 = x := by omega
        go_wp2_with (at_builtin; refine wp_app rfl _ _ rfl H5.out HL.out (by omega) rfl _ x (by first | rfl | simp) rfl ?_)
        intro g1 cp1 w6 hp6
        have H6 := Lib.hid hp6
        clear hp6
        go_wp2
        go_roundw
        case rel =>
          have e3 : 2 + (k + 1) = 2 + k + 1 := by omega
          refine ⟨k + 1, g1, cp1, by omega, by go_num, by rw [e3], ?_⟩
          rw [e3, HE.out]
          simpa using H6.out
        case measure => simp [intOf]; omega
    · obtain rfl : k = m := by omega
      clear hps x0 x1
      go_wp2_with fail
      go_loopw [4, 6] (fun v i wt => ∃ (a q cp : Nat), a ≤ (k + 7) / 8 ∧ i = .int .i64 (8 * (a : Int)) ∧ v = .slice (some ⟨q, 0, none⟩) (2 + k * wid k + a) cp ∧ PS w.heap.size w wt #[.slice A k c, .slice B k d] (.slice (some ⟨q, 0, none⟩) (2 + k * wid k + a) cp) ([k / 256, k % 256] ++ ents k T k ++ (List.range a).map (hitb H k))) (fun _ i _ => k + 8 - (intOf i).toNat)
      case atStart => exact ⟨0, q', cp, by omega, rfl, by simp, by simpa using H5.out⟩
      case round =>
        obtain ⟨a, q2, cp2, ha, rfl, rfl, hps⟩ := hrel
        have H6 := Lib.hid hps
        have hlt6 := hps.lt
        have hlen : (([k / 256, k % 256] : List Nat) ++ ents k T k ++ (List.range a).map (hitb H k)).length = 2 + k * wid k + a := by
          rw [List.length_append, HL.out]; simp
        have HL2 := Lib.hid hlen
        have x1 := cell_of_row wr w.heap.size 1 _ _ (0, 0) hps.bx
        simp only [List.getElem?_toArray, List.getElem?_cons_zero, List.getElem?_cons_succ] at x1
        have hw2 : k * wid k ≤ 10000 := by rcases wid_cases k with ⟨_, e⟩ | ⟨_, e⟩ <;> rw [e] <;> omega
        by_cases hlt : 8 * a < k
        · obtain ⟨b2, o2, rfl, hb2, hc2⟩ := HH.out.2.2.2 (by omega)
          have hcB : ∀ i, i < k → wr.cell? ⟨b2, o2 + i, none⟩ = some (.bool (H.getD i false)) := fun i hi => (hps.bel.cell (p := ⟨b2, _, none⟩) hb2).trans (hc2 i hi)
          have HC := Lib.hid hcB
          have hs2 : b2 < wr.heap.size := by omega
          have ha1 : (8 * (a : Int)) < k := by omega
          clear hc2 hcB hps hlen
          go_wp2_with fail
          go_loopw [7, 8, 9] (fun s o j wt => ∃ r : Nat, r ≤ 8 ∧ s = .int .i64 (bitsum (fun r => decide (8 * a + r < k) && H.getD (8 * a + r) false) r : Nat) ∧ o = .int .i64 (2 ^ r : Nat) ∧ j = .int .i64 (8 * (a : Int) + r) ∧ wr = wt) (fun _ _ j _ => 8 * a + 8 - (intOf j).toNat)
          case atStart => exact ⟨0, by omega, rfl, rfl, by simp, rfl⟩
          case round =>
            obtain ⟨r, hr, rfl, rfl, rfl, rfl⟩ := hrel
            obtain ⟨jj, hjj⟩ : ∃ jj : Nat, jj = 8 * a + r := ⟨_, rfl⟩
            rw [show 8 * (a : Int) + r = (jj : Int) by omega]
            have hsum := bitsum_succ (fun r => decide (8 * a + r < k) && H.getD (8 * a + r) false) r
            have hsl := bitsum_lt (fun r => decide (8 * a + r < k) && H.getD (8 * a + r) false) r
            have hpl : 2 ^ r ≤ 2 ^ 8 := Nat.pow_le_pow_right (by decide) hr
            have hps : 2 ^ (r + 1) = 2 ^ r * 2 := Nat.pow_succ ..
            have h8 : hitb H k a = bitsum (fun r => decide (8 * a + r < k) && H.getD (8 * a + r) false) 8 := rfl
            have hlb := hitb_lt H k a
            have H8 := Lib.hid (And.intro h8 hlb)
            clear h8 hlb
            rcases Nat.lt_or_ge r 8 with hr8 | hr8
            · simp only [← hjj] at hsum
              have HS := Lib.hid hsum
              have HP := Lib.hid hps
              have HJ := Lib.hid hjj
              have hj1 : (jj : Int) < 8 * a + 8 := by omega
              have hj0 : (0 : Int) ≤ jj := by omega
              clear hsum hps hjj
              by_cases hjk : jj < k
              · have f2 := HC.out jj hjk
                have hjk1 : (jj : Int) < k := by omega
                rw [decide_eq_true hjk, Bool.true_and] at HS
                generalize bitsum (fun r => decide (8 * a + r < k) && H.getD (8 * a + r) false) r = sm at hsl HS ⊢
                generalize 2 ^ r = pw at hsl hpl HS HP ⊢
                cases hh : H.getD jj false
                · rw [hh] at f2 HS
                  go_wp2
                  go_roundw
                  case rel => exact ⟨r + 1, by omega, by rw [HS.out]; rfl, by rw [HP.out]; go_num, by have hjj := HJ.out; go_num, by first | rfl | trivial⟩
                  case measure => have hjj := HJ.out; simp [intOf]; omega
                · rw [hh] at f2 HS
                  go_wp2
                  go_roundw
                  case rel => exact ⟨r + 1, by omega, by rw [HS.out]; go_num, by rw [HP.out]; go_num, by have hjj := HJ.out; go_num, by first | rfl | trivial⟩
                  case measure => have hjj := HJ.out; simp [intOf]; omega
              · have hjk1 : ¬ (jj : Int) < k := by omega
                rw [decide_eq_false hjk, Bool.false_and] at HS
                generalize bitsum (fun r => decide (8 * a + r < k) && H.getD (8 * a + r) false) r = sm at hsl HS ⊢
                generalize 2 ^ r = pw at hsl hpl HS HP ⊢
                go_wp2
                go_roundw
                case rel => exact ⟨r + 1, by omega, by rw [HS.out]; rfl, by rw [HP.out]; go_num, by have hjj := HJ.out; go_num, by first | rfl | trivial⟩
                case measure => have hjj := HJ.out; simp [intOf]; omega
            · obtain rfl : r = 8 := by omega
              rw [← H8.out.1]
              have hj1 : ¬ (jj : Int) < 8 * a + 8 := by omega
              have hbl := H8.out.2
              clear hsum hsl hpl hps
              generalize hb : hitb H k a = hbv at hbl ⊢
              go_wp2_with (at_builtin; refine wp_app rfl _ _ rfl H6.out HL2.out (by omega) rfl _ hbv (by first | rfl | simp) rfl ?_)
              intro g1 cp1 w6 hp6
              have H7 := Lib.hid hp6
              clear hp6
              go_wp2
              go_roundw
              case rel =>
                refine ⟨a + 1, g1, cp1, by omega, by go_num, by rfl, ?_⟩
                have := H7.out
                have e : ([k / 256, k % 256] : List Nat) ++ ents k T k ++ (List.range (a + 1)).map (hitb H k) = ([k / 256, k % 256] ++ ents k T k ++ (List.range a).map (hitb H k)) ++ [hitb H k a] := by simp [List.range_succ]
                rw [e, hb, show 2 + k * wid k + (a + 1) = 2 + k * wid k + a + 1 from rfl]
                simpa using this
              case measure => simp [intOf]; omega
        · have ea : a = (k + 7) / 8 := by omega
          have hes : siz k = 2 + k * wid k + a := by unfold siz; rw [ea]
          have hpk : pack k T H = [k / 256, k % 256] ++ ents k T k ++ (List.range a).map (hitb H k) := by unfold pack; rw [ea]
          have hown := hps.ow
          rw [HL2.out, ← hpk, ← hes] at hown
          have HF := Lib.hid (And.intro (own_base (base' := w.heap.size) hown (by omega)) hps.bel)
          have ha1 : ¬ (8 * (a : Int)) < k := by omega
          rw [← hes]
          clear hown hps hpk hes
          go_wp2
          go_ret
          exact ⟨_, _, rfl, HF.out.1, HF.out.2⟩
end Go.Proofs.Ytghghioidllgiaa.Pk
