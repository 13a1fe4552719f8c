/- The walk of ArenaStays: over what Build hands back. -/
import Derived.Test.YtloljnpnoohglaaDeedD
import Derived.Test.YtloljnpnoohglaaLate
namespace Go.Proofs.Ytloljnpnoohglaa.Ar
set_option linter.unusedSimpArgs false
set_option linter.unusedVariables false
open Go Go.RowKit
attribute [local go_sem] lt_add1 lt_self1 size_ne size_ne' size_ne1 size_ne1'
attribute [local irreducible] wpGrow

/-- an arena, and beside it the row of what was read of it. -/
structure Was (w : World) (B g : Nat) (r : Option Nat) (ks' : List Knot) (v : Value) (ks : List Knot) : Prop where
  ar : Arena w g r ks'
  row : w.ownsRow B 42 7 v ks.length (ks.flatMap kcells)
  apart : ∀ b, v.ownBlock = some b → ¬ foot g r b
  ge : ∀ b, foot g r b → B ≤ b
section
variable {w w' : World} {B g : Nat} {r r' : Option Nat} {ks ks' ks'' : List Knot} {v : Value}
theorem Was.below (h : Was w B g r ks' v ks) (hb : Below w.heap.size w w') : Was w' B g r ks' v ks := ⟨h.ar.below hb, own_below h.row hb, h.apart, h.ge⟩
theorem Was.step (h : Was w B g r ks' v ks) (hB : B ≤ w.heap.size) (ha : Arena w' g r' ks'') (hf : Fr w (foot g r) w' (foot g r')) : Was w' B g r' ks'' v ks :=
  ⟨ha, hf.own h.row h.apart, fun b hb => hf.out (h.row.lt b hb).2 (h.apart b hb), hf.ge h.ge hB⟩
theorem Was.app {q cap : Nat} {k : Knot} (h : Was w B g r ks' v ks) (hr : w'.ownsRow B 42 7 (.slice (some ⟨q, 0, none⟩) (ks.length + 1) cap) (ks.length + 1) (ks.flatMap kcells ++ kcells k)) (hg : w.grownBy w' v.ownBlock) (hat : v.ownBlock = some q ∨ q = w.heap.size) :
    Was w' B g r ks' (.slice (some ⟨q, 0, none⟩) (ks.length + 1) cap) (ks ++ [k]) := by
  have hfl : ∀ b, foot g r b → b < w.heap.size := fun b hb => hb.elim (fun e => e ▸ h.ar.lt) (fun e => h.ar.row_lt e)
  have hfn : ∀ b, foot g r b → ¬ v.ownBlock = some b := fun b hb e => h.apart b e hb
  refine ⟨?_, ?_, fun b hb hf => ?_, h.ge⟩
  · exact h.ar.keep (F := fun b => v.ownBlock = some b) (F' := fun _ => False) ⟨hg.os, hg.tape, hg.output, hg.size, fun b hl hn => hg.block b hl (fun e => hn e.symm), fun _ h => h.elim⟩ hfn
  · rw [List.length_append, List.flatMap_append, List.flatMap_cons, List.flatMap_nil, List.append_nil]; exact hr
  · simp [Value.ownBlock] at hb
    subst hb
    rcases hat with e | e
    · exact h.apart _ e hf
    · have := hfl _ hf; omega
end

theorem leaf_more (g : Nat) (r : Option Nat) (ks : List Knot) (off n f : Int) (w : World) (h : Arena w g r ks) (hn : ks.length ≤ small) :
    Calls Try.prog 27 #[.pointer (some ⟨g, 0, none⟩), .int .i64 off, .int .i64 n, .int .i64 f] w fun e w' => ∃ v1 v2 r' ex, e = .returned (.tuple #[v1, v2]) ∧ ex.length ≤ 1 ∧ Arena w' g r' (ks ++ ex) ∧ Fr w (foot g r) w' (foot g r') := by
  refine (leaf_any g r ks off n f w h hn).mono ?_
  rintro e w' (⟨_, rfl, rfl⟩ | ⟨_, r', rfl, ha, hf⟩)
  · exact ⟨_, _, r, [], rfl, by simp, by simpa using h, Fr.refl _ _⟩
  · exact ⟨_, _, r', _, rfl, by simp, ha, hf⟩
theorem pair_more (g : Nat) (r : Option Nat) (ks : List Knot) (x y : Int) (w : World) (h : Arena w g r ks) (hn : ks.length ≤ small) :
    Calls Try.prog 28 #[.pointer (some ⟨g, 0, none⟩), .int .i64 x, .int .i64 y] w fun e w' => ∃ v1 v2 r' ex, e = .returned (.tuple #[v1, v2]) ∧ ex.length ≤ 1 ∧ Arena w' g r' (ks ++ ex) ∧ Fr w (foot g r) w' (foot g r') := by
  refine (pair_any g r ks x y w h hn).mono ?_
  rintro e w' (⟨_, rfl, hb⟩ | ⟨_, _, rfl, hb⟩ | ⟨_, _, r', rfl, ha, hf⟩)
  · exact ⟨_, _, r, [], rfl, by simp, by simpa using h.below hb, Fr.of_below hb⟩
  · exact ⟨_, _, r, [], rfl, by simp, by simpa using h.below hb, Fr.of_below hb⟩
  · exact ⟨_, _, r', _, rfl, by simp, ha, hf⟩

theorem take_one {ks : List Knot} {j : Nat} (h : j < ks.length) : ks.take (j + 1) = ks.take j ++ [ks.getD j Knot.zero] := by
  rw [List.take_add_one]
  simp [List.getD, h]

set_option maxRecDepth 100000 in
set_option maxHeartbeats 8000000 in
theorem stays_walk (n : Nat) (A : Option Addr) (cap : Nat) (l2 : List Deed) (A2 : Option Addr) (cap2 : Nat) (i : Int) (w : World)
    (hs2 : SlAt w w.heap.size 4 l2.length A2 (fun i j => (dcells (l2.getD i Deed.zero)).getD j undef))
    (hb : ∀ w1, Below w.heap.size w w1 → Calls Try.prog 23 #[.slice A n cap] w1 fun e w' => ∃ v, e = .returned v ∧ Built w1 w' v) :
    Calls Try.prog 7 #[.slice A n cap, .slice A2 l2.length cap2, .int .i64 i] w fun e w' => e = .returned (.bool true) ∧ Below w.heap.size w w' := by
  obtain ⟨i0, hi, hz0, hz1, hz2⟩ := info_parts knot_info
  have HB := Lib.hid hb
  have HS := Lib.hid hs2
  clear hb hs2
  go_enter Try.func7, Try.ntmps7
  go_wp2_with fail
  refine (awake_any _).mono ?_
  rintro e w0 ⟨rfl, hb0⟩
  have HB0 := Lib.hid hb0
  clear hb0
  go_wp2_with fail
  refine (HB.out _ HB0.out).mono ?_
  rintro e w1 ⟨v, rfl, g, r, ks, B, c, rfl, hh, hwf, hks, hb1⟩
  have hw1 : Was w1 w.heap.size g r ks (.slice none 0 0) [] := ⟨hh.ar, World.ownsRow_nil _ _ _ _, fun b h => (by cases h), fun b hf => Nat.le_trans HB0.out.size (hh.ge b hf)⟩
  have H1 := Lib.hid (And.intro hw1 (HB0.out.trans (hb1.mono HB0.out.size)))
  clear hh hwf hb1 hw1 HB HB0
  go_wp2_with fail
  go_loopw [10, 11] (fun v i wr => ∃ (j : Nat) (Q : Option Addr) (c : Nat), j ≤ ks.length ∧ v = .slice Q j c ∧ i = .int .i64 ((j : Int) + 1) ∧ Was wr w.heap.size g r ks (.slice Q j c) (ks.take j) ∧ Below w.heap.size w wr) (fun _ i _ => ks.length + 1 - (intOf i).toNat)
  case atStart => exact ⟨0, none, 0, by omega, rfl, rfl, H1.out.1, H1.out.2⟩
  case round =>
    obtain ⟨j, Q, cq, hj, rfl, rfl, hw, hbw⟩ := hrel
    have H := Lib.hid (And.intro hw hbw)
    clear hw hbw H1
    by_cases hlt : (j : Int) + 1 ≤ ks.length
    · have hjl : j < ks.length := by omega
      obtain ⟨gk, gb⟩ := getK_at (ks := ks) (i := (j : Int) + 1) (k := j) rfl hjl
      have hget := get_any g r ks ((j : Int) + 1) wr H.out.1.ar (by unfold small; omega)
      rw [gk, gb] at hget
      have htk := take_one hjl
      generalize ks.getD j Knot.zero = k at hget htk
      unfold Knot.val at hget
      have HG := Lib.hid hget
      have HT := Lib.hid htk
      clear hget gk gb htk
      go_wp2_with fail
      ((with_reducible refine HG.out.mono ?_); rintro e w4 ⟨rfl, hb4⟩)
      have HA := Lib.hid (And.intro (H.out.1.below hb4) (H.out.2.trans (hb4.mono H.out.2.size)))
      clear hb4 HG H
      go_upto_region 9 with fail
      generalize hW : w4.alloc (.cells #[.int .i64 k.left, .int .i64 k.right, .int .i64 k.off, .int .i64 k.len, .int .i64 k.high, .int .i64 k.leaves, .int .i64 k.feeds] 42) = W
      have hb5 : Below w4.heap.size w4 W := by subst hW; (repeat (first | exact Below.refl _ _ | assumption | (refine Below.setCell ?_ (by first | (simp; done) | (simp; omega) | omega) _) | (refine Below.alloc ?_ (by first | (simp; done) | (simp; omega) | omega) _) | (refine Below.drew ?_) | (refine Below.drewN ?_ _) | (refine Below.trans ?_ (Below.mono (by assumption) (by first | (simp; done) | (simp; omega) | omega)))))
      have hs5 : w4.heap.size < W.heap.size := by subst hW; simp
      have q : ∀ o, W.cell? ⟨w4.heap.size, o, none⟩ = #[Value.int .i64 k.left, .int .i64 k.right, .int .i64 k.off, .int .i64 k.len, .int .i64 k.high, .int .i64 k.leaves, .int .i64 k.feeds][o]? := fun o => by subst hW; exact World.cell?_alloc_new w4 _ _ o
      have q0 := q 0
      have q1 := q 1
      have q2 := q 2
      have q3 := q 3
      have q4 := q 4
      have q5 := q 5
      have q6 := q 6
      simp only [List.getElem?_toArray, List.getElem?_cons_zero, List.getElem?_cons_succ] at q0 q1 q2 q3 q4 q5 q6
      have H5 := Lib.hid (And.intro (HA.out.1.below hb5) (HA.out.2.trans (hb5.mono HA.out.2.size)))
      have hlj : (ks.take j).length = j := by simp; omega
      have hrow := H5.out.1.row
      rw [hlj] at hrow
      have HR := Lib.hid hrow
      have HLJ := Lib.hid hlj
      clear hW q hb5 HA hrow hlj
      go_wp2_with (at_builtin; refine wpList_append_lies _ rfl _ _ 47 rfl w.heap.size 42 i0 (Knot.zero.val) 7 56 Try.underlying47 hi hz0 hz1 hz2 rfl (by decide) _ _ _ rfl (HR.out.alloc _) ⟨W.heap.size, 0, none⟩ 1 1 (kcells k) rfl rfl ?c1 ?c2 (by omega) ?c3 ?c4 ?c5 _ rfl ?_)
      case c1 => exact World.news_of_block (fr := (0, 0)) (heap_alloc_new W _)
      case c2 => intro u hu; simp [kcells] at hu; rcases hu with rfl | rfl | rfl | rfl | rfl | rfl | rfl <;> rfl
      case c3 => unfold maxLen; omega
      case c4 => have := HLJ.out; omega
      case c5 => have := HLJ.out; have := H5.out.2.size; simp; omega
      intro qb capq w6 hown6 hgrow hat hlt6
      have HH6 := Was.app (k := k) (H5.out.1.below (by (repeat (first | exact Below.refl _ _ | assumption | (refine Below.setCell ?_ (by first | (simp; done) | (simp; omega) | omega) _) | (refine Below.alloc ?_ (by first | (simp; done) | (simp; omega) | omega) _) | (refine Below.drew ?_) | (refine Below.drewN ?_ _) | (refine Below.trans ?_ (Below.mono (by assumption) (by first | (simp; done) | (simp; omega) | omega))))))) (by rw [HLJ.out]; exact hown6) hgrow (by simpa using hat)
      rw [← HT.out, HLJ.out] at HH6
      have HB6 := grow_below (B := w.heap.size) (H5.out.2.alloc H5.out.2.size _) hgrow (HR.out.alloc _) (Nat.le_refl _) (by have := H5.out.2.size; simp; omega)
      have H6 := Lib.hid (And.intro HH6 HB6)
      clear HH6 HB6 hgrow hat hown6 H5 HR q0 q1 q2 q3 q4 q5 q6
      go_wp2
      go_roundw
      case rel => exact ⟨j + 1, some ⟨qb, 0, none⟩, capq, by omega, by go_num, by go_num, H6.out.1, H6.out.2⟩
      case measure => simp [intOf]; omega
    · obtain rfl : j = ks.length := by omega
      have hw2 := H.out.1
      rw [List.take_length] at hw2
      have H2 := Lib.hid (And.intro hw2 H.out.2)
      clear hw2 H
      go_wp2_with fail
      go_loopw [14] (fun i w2 => ∃ (k : Nat) (r2 : Option Nat) (ex : List Knot), k ≤ 30 ∧ i = .int .i64 k ∧ ex.length ≤ k ∧ Was w2 w.heap.size g r2 (ks ++ ex) (.slice Q ks.length cq) ks ∧ Below w.heap.size w w2) (fun i _ => 30 - (intOf i).toNat)
      case atStart => exact ⟨0, r, [], by omega, rfl, by simp, by simpa using H2.out.1, H2.out.2⟩
      case round =>
        obtain ⟨k, r2, ex, hk, rfl, hex, hw3, hbw⟩ := hrel
        have H := Lib.hid (And.intro hw3 hbw)
        have hz2 : w.heap.size ≤ wr.heap.size := hbw.size
        have hsm : (ks ++ ex).length ≤ small := by simp [small]; omega
        have HSM := Lib.hid hsm
        clear hw3 hbw H2 hsm
        by_cases hgo : k < l2.length ∧ k < 30
        · obtain ⟨hkl, hk30⟩ := hgo
          obtain ⟨b, off, rfl, hbl, hcs⟩ := HS.out (by omega)
          have f0 : wr.cell? ⟨b, off + k * 4, none⟩ = some (.bool (l2.getD k Deed.zero).leaf) := (H.out.2.cell (p := ⟨b, _, none⟩) hbl).trans (hcs k 0 hkl (by omega))
          have f1 : wr.cell? ⟨b, off + k * 4 + 1, none⟩ = some (.int .i64 (l2.getD k Deed.zero).a) := (H.out.2.cell (p := ⟨b, _, none⟩) hbl).trans (hcs k 1 hkl (by omega))
          have f2 : wr.cell? ⟨b, off + k * 4 + 2, none⟩ = some (.int .i64 (l2.getD k Deed.zero).b) := (H.out.2.cell (p := ⟨b, _, none⟩) hbl).trans (hcs k 2 hkl (by omega))
          have f3 : wr.cell? ⟨b, off + k * 4 + 3, none⟩ = some (.int .i64 (l2.getD k Deed.zero).c) := (H.out.2.cell (p := ⟨b, _, none⟩) hbl).trans (hcs k 3 hkl (by omega))
          generalize l2.getD k Deed.zero = d at f0 f1 f2 f3
          obtain ⟨lf, da, db, dc⟩ := d
          simp only at f0 f1 f2 f3
          have hbw : b < wr.heap.size := by omega
          have hk0 : (0 : Int) ≤ k := by omega
          have hkl' : (k : Int) < l2.length := by omega
          clear hcs
          cases lf
          · go_upto_region 15 with fail
            refine wp_region_growL 11 (by kernel_rfl) (by kernel_rfl) ?_
            simp only [List.take_succ_cons, List.take_zero, List.drop_succ_cons, List.drop_zero, List.take_nil, List.drop_nil]
            iterate 11 ((refine wpGrow_val' rfl rfl ?_; apply Exists.intro; refine ⟨fun w1 hw1 => ?_, ?_⟩); (have hc1 := hw1.cell; go_simp; exact growUpon_ok rfl); (refine wpGrow_at (by (simp only [Act.put, List.setIfInBounds_toArray, List.set_cons_succ, List.set_cons_zero]) <;> exact rfl) ?_))
            refine wpGrow_nil ?_
            intro w3 hD
            have H3 := Lib.hid (And.intro (H.out.1.below hD.below) (H.out.2.trans (hD.below.mono H.out.2.size)))
            clear hD f0 f1 f2 f3 H
            go_wp2_with fail
            refine (pair_more g r2 (ks ++ ex) da db _ H3.out.1.ar HSM.out).mono ?_
            rintro e w4 ⟨v1, v2, r3, ex3, rfl, hx3, ha3, hf3⟩
            rw [List.append_assoc] at ha3
            have H4 := Lib.hid (And.intro (H3.out.1.step H3.out.2.size ha3 hf3) (hf3.below H3.out.2 H3.out.1.ge H3.out.2.size))
            clear ha3 hf3 H3
            go_wp2
            go_roundw
            case rel => exact ⟨k + 1, r3, ex ++ ex3, by omega, by go_num, by simp; omega, H4.out.1, H4.out.2⟩
            case measure => simp [intOf]; omega
          · go_upto_region 14 with fail
            refine wp_region_growL 16 (by kernel_rfl) (by kernel_rfl) ?_
            simp only [List.take_succ_cons, List.take_zero, List.drop_succ_cons, List.drop_zero, List.take_nil, List.drop_nil]
            iterate 16 ((refine wpGrow_val' rfl rfl ?_; apply Exists.intro; refine ⟨fun w1 hw1 => ?_, ?_⟩); (have hc1 := hw1.cell; go_simp; exact growUpon_ok rfl); (refine wpGrow_at (by (simp only [Act.put, List.setIfInBounds_toArray, List.set_cons_succ, List.set_cons_zero]) <;> exact rfl) ?_))
            refine wpGrow_nil ?_
            intro w3 hD
            have H3 := Lib.hid (And.intro (H.out.1.below hD.below) (H.out.2.trans (hD.below.mono H.out.2.size)))
            clear hD f0 f1 f2 f3 H
            go_wp2_with fail
            refine (leaf_more g r2 (ks ++ ex) da db dc _ H3.out.1.ar HSM.out).mono ?_
            rintro e w4 ⟨v1, v2, r3, ex3, rfl, hx3, ha3, hf3⟩
            rw [List.append_assoc] at ha3
            have H4 := Lib.hid (And.intro (H3.out.1.step H3.out.2.size ha3 hf3) (hf3.below H3.out.2 H3.out.1.ge H3.out.2.size))
            clear ha3 hf3 H3
            go_wp2
            go_roundw
            case rel => exact ⟨k + 1, r3, ex ++ ex3, by omega, by go_num, by simp; omega, H4.out.1, H4.out.2⟩
            case measure => simp [intOf]; omega
        · go_upto_region 11 with fail
          go_cut [58] (fun v wx => v = .bool false ∧ wr = wx)
          case first =>
            by_cases hend : l2.length ≤ k
            · go_wp2_with fail
              go_meet
              exact ⟨rfl, rfl⟩
            · obtain rfl : k = 30 := by omega
              go_wp2_with fail
              go_meet
              exact ⟨rfl, rfl⟩
          case rest =>
          obtain ⟨rfl, rfl⟩ := hcut
          go_wp2_with fail
          go_loopw [15] (fun i w3 => ∃ (j : Nat), j ≤ ks.length ∧ i = .int .i64 ((j : Int) + 1) ∧ Was w3 w.heap.size g r2 (ks ++ ex) (.slice Q ks.length cq) ks ∧ Below w.heap.size w w3) (fun i _ => ks.length + 1 - (intOf i).toNat)
          case atStart => exact ⟨0, by omega, rfl, H.out.1, H.out.2⟩
          case round =>
            obtain ⟨j, hj, rfl, hw4, hbw⟩ := hrel
            have H3 := Lib.hid (And.intro hw4 hbw)
            clear hw4 hbw H
            by_cases hlt : (j : Int) + 1 ≤ ks.length
            · have hjl : j < ks.length := by omega
              obtain ⟨gk, gb⟩ := getK_at (ks := ks ++ ex) (i := (j : Int) + 1) (k := j) rfl (by simp; omega)
              have hget := get_any g r2 (ks ++ ex) ((j : Int) + 1) wr H3.out.1.ar HSM.out
              have happ : (ks ++ ex).getD j Knot.zero = ks.getD j Knot.zero := by simp [List.getD, List.getElem?_append_left hjl]
              rw [gk, gb, happ] at hget
              obtain ⟨A', c', eq, _, hsl⟩ := SlAt.of_own H3.out.1.row
              cases eq
              have hsl := hsl.congr fun i j hi hj => rows_getD kcells Knot.zero kcells_length ks i j hi hj
              obtain ⟨b, off, rfl, hbl, hcs⟩ := hsl (by omega)
              have c0 : wr.cell? ⟨b, off + j * 7, none⟩ = some (.int .i64 (ks.getD j Knot.zero).left) := hcs j 0 hjl (by omega)
              have c1 : wr.cell? ⟨b, off + j * 7 + 1, none⟩ = some (.int .i64 (ks.getD j Knot.zero).right) := hcs j 1 hjl (by omega)
              have c2 : wr.cell? ⟨b, off + j * 7 + 2, none⟩ = some (.int .i64 (ks.getD j Knot.zero).off) := hcs j 2 hjl (by omega)
              have c3 : wr.cell? ⟨b, off + j * 7 + 3, none⟩ = some (.int .i64 (ks.getD j Knot.zero).len) := hcs j 3 hjl (by omega)
              have c4 : wr.cell? ⟨b, off + j * 7 + 4, none⟩ = some (.int .i64 (ks.getD j Knot.zero).high) := hcs j 4 hjl (by omega)
              have c5 : wr.cell? ⟨b, off + j * 7 + 5, none⟩ = some (.int .i64 (ks.getD j Knot.zero).leaves) := hcs j 5 hjl (by omega)
              have c6 : wr.cell? ⟨b, off + j * 7 + 6, none⟩ = some (.int .i64 (ks.getD j Knot.zero).feeds) := hcs j 6 hjl (by omega)
              generalize ks.getD j Knot.zero = k1 at hget c0 c1 c2 c3 c4 c5 c6
              unfold Knot.val at hget
              have HG := Lib.hid hget
              clear hget gk gb hcs hsl happ
              go_wp2_with fail
              ((with_reducible refine HG.out.mono ?_); rintro e w4 ⟨rfl, hb4⟩)
              have HA := Lib.hid (And.intro (H3.out.1.below hb4) (H3.out.2.trans (hb4.mono H3.out.2.size)))
              have c0 := (hb4.cell (p := ⟨b, _, none⟩) hbl).trans c0
              have c1 := (hb4.cell (p := ⟨b, _, none⟩) hbl).trans c1
              have c2 := (hb4.cell (p := ⟨b, _, none⟩) hbl).trans c2
              have c3 := (hb4.cell (p := ⟨b, _, none⟩) hbl).trans c3
              have c4 := (hb4.cell (p := ⟨b, _, none⟩) hbl).trans c4
              have c5 := (hb4.cell (p := ⟨b, _, none⟩) hbl).trans c5
              have c6 := (hb4.cell (p := ⟨b, _, none⟩) hbl).trans c6
              have hbl4 : b < w4.heap.size := Nat.lt_of_lt_of_le hbl hb4.size
              clear hb4 HG H3
              go_upto_region 20 with fail
              generalize hW : w4.alloc (.cells #[.int .i64 k1.left, .int .i64 k1.right, .int .i64 k1.off, .int .i64 k1.len, .int .i64 k1.high, .int .i64 k1.leaves, .int .i64 k1.feeds] 42) = W
              have hb5 : Below w4.heap.size w4 W := by subst hW; (repeat (first | exact Below.refl _ _ | assumption | (refine Below.setCell ?_ (by first | (simp; done) | (simp; omega) | omega) _) | (refine Below.alloc ?_ (by first | (simp; done) | (simp; omega) | omega) _) | (refine Below.drew ?_) | (refine Below.drewN ?_ _) | (refine Below.trans ?_ (Below.mono (by assumption) (by first | (simp; done) | (simp; omega) | omega)))))
              have hs5 : w4.heap.size < W.heap.size := by subst hW; simp
              have q : ∀ o, W.cell? ⟨w4.heap.size, o, none⟩ = #[Value.int .i64 k1.left, .int .i64 k1.right, .int .i64 k1.off, .int .i64 k1.len, .int .i64 k1.high, .int .i64 k1.leaves, .int .i64 k1.feeds][o]? := fun o => by subst hW; exact World.cell?_alloc_new w4 _ _ o
              have q0 := q 0
              have q1 := q 1
              have q2 := q 2
              have q3 := q 3
              have q4 := q 4
              have q5 := q 5
              have q6 := q 6
              simp only [List.getElem?_toArray, List.getElem?_cons_zero, List.getElem?_cons_succ] at q0 q1 q2 q3 q4 q5 q6
              have c0 := (hb5.cell (p := ⟨b, _, none⟩) hbl4).trans c0
              have c1 := (hb5.cell (p := ⟨b, _, none⟩) hbl4).trans c1
              have c2 := (hb5.cell (p := ⟨b, _, none⟩) hbl4).trans c2
              have c3 := (hb5.cell (p := ⟨b, _, none⟩) hbl4).trans c3
              have c4 := (hb5.cell (p := ⟨b, _, none⟩) hbl4).trans c4
              have c5 := (hb5.cell (p := ⟨b, _, none⟩) hbl4).trans c5
              have c6 := (hb5.cell (p := ⟨b, _, none⟩) hbl4).trans c6
              have hbl5 : b < W.heap.size := by omega
              have H5 := Lib.hid (And.intro (HA.out.1.below hb5) (HA.out.2.trans (hb5.mono HA.out.2.size)))
              have hi1 : IntKind.i64.wrap (j : Int) = j := IntWalk.i64_in _ (by omega)
              have hi0 : (0 : Int) ≤ j := by omega
              have hi2 : (j : Int) < ks.length := by omega
              clear hW q hb5 HA
              refine wp_region_grow 11 (by kernel_rfl) (by kernel_rfl) ?_
              simp only [List.take_succ_cons, List.take_zero, List.drop_succ_cons, List.drop_zero, List.take_nil, List.drop_nil]
              iterate 11 ((refine wpGrow_val' rfl rfl ?_; apply Exists.intro; refine ⟨fun w1 hw1 => ?_, ?_⟩); (have hc1 := hw1.cell; go_simp; exact growUpon_ok rfl); (refine wpGrow_at (by (simp only [Act.put, List.setIfInBounds_toArray, List.set_cons_succ, List.set_cons_zero]) <;> exact rfl) ?_))
              refine wpGrow_nil ?_
              intro w6 hD
              have H6 := Lib.hid (And.intro (H5.out.1.below hD.below) (H5.out.2.trans (hD.below.mono H5.out.2.size)))
              clear hD q0 q1 q2 q3 q4 q5 q6 c0 c1 c2 c3 c4 c5 c6 H5
              go_wp2
              go_roundw
              case rel => exact ⟨j + 1, by omega, by go_num, H6.out.1, H6.out.2⟩
              case measure => simp [intOf]; omega
            · have hget := get_any g r2 (ks ++ ex) i wr H3.out.1.ar HSM.out
              have hgs : (getB (ks ++ ex) i = true ∧ 1 ≤ i ∧ i ≤ (ks ++ ex).length) ∨ (getB (ks ++ ex) i = false ∧ getK (ks ++ ex) i = Knot.zero ∧ ¬ (1 ≤ i ∧ i ≤ (ks ++ ex).length)) := by
                by_cases h : 1 ≤ i ∧ i ≤ (ks ++ ex).length
                · exact .inl ⟨by simp only [getB, getS, if_pos h], h⟩
                · exact .inr ⟨by simp only [getB, getS, if_neg h], by simp only [getK, getS, if_neg h], h⟩
              generalize getK (ks ++ ex) i = K1 at hget hgs
              generalize getB (ks ++ ex) i = B1 at hget hgs
              unfold Knot.val at hget
              have HG := Lib.hid hget
              have HGS := Lib.hid hgs
              clear hget hgs
              go_wp2_with fail
              ((with_reducible refine HG.out.mono ?_); rintro e w4 ⟨rfl, hb4⟩)
              have H4 := Lib.hid (And.intro (H3.out.1.ar.below hb4) (H3.out.2.trans (hb4.mono H3.out.2.size)))
              clear hb4 HG H3
              go_wp2_with fail
              generalize hW : w4.alloc (.cells #[.int .i64 K1.left, .int .i64 K1.right, .int .i64 K1.off, .int .i64 K1.len, .int .i64 K1.high, .int .i64 K1.leaves, .int .i64 K1.feeds] 42) = W
              have hb5 : Below w4.heap.size w4 W := by subst hW; (repeat (first | exact Below.refl _ _ | assumption | (refine Below.setCell ?_ (by first | (simp; done) | (simp; omega) | omega) _) | (refine Below.alloc ?_ (by first | (simp; done) | (simp; omega) | omega) _) | (refine Below.drew ?_) | (refine Below.drewN ?_ _) | (refine Below.trans ?_ (Below.mono (by assumption) (by first | (simp; done) | (simp; omega) | omega)))))
              have hs5 : w4.heap.size < W.heap.size := by subst hW; simp
              have q : ∀ o, W.cell? ⟨w4.heap.size, o, none⟩ = #[Value.int .i64 K1.left, .int .i64 K1.right, .int .i64 K1.off, .int .i64 K1.len, .int .i64 K1.high, .int .i64 K1.leaves, .int .i64 K1.feeds][o]? := fun o => by subst hW; exact World.cell?_alloc_new w4 _ _ o
              have H5 := Lib.hid (And.intro (H4.out.1.below hb5) (H4.out.2.trans (hb5.mono H4.out.2.size)))
              have Q5 := Lib.hid q
              clear hW q hb5 H4
              refine (get_nil i _).mono ?_
              rintro e w6 ⟨rfl, hb6⟩
              have H6 := Lib.hid (And.intro (H5.out.1.below hb6) (H5.out.2.trans (hb6.mono H5.out.2.size)))
              have q : ∀ o, w6.cell? ⟨w4.heap.size, o, none⟩ = #[Value.int .i64 K1.left, .int .i64 K1.right, .int .i64 K1.off, .int .i64 K1.len, .int .i64 K1.high, .int .i64 K1.leaves, .int .i64 K1.feeds][o]? := fun o => (hb6.cell (p := ⟨_, _, none⟩) hs5).trans (Q5.out o)
              have hs6 : w4.heap.size < w6.heap.size := Nat.lt_of_lt_of_le hs5 hb6.size
              have Q6 := Lib.hid q
              clear q hb6 H5 Q5
              simp only [Knot.val, Knot.zero]
              go_wp2_with fail
              generalize hW : w6.alloc (.cells #[.int .i64 0, .int .i64 0, .int .i64 0, .int .i64 0, .int .i64 0, .int .i64 0, .int .i64 0] 42) = W2
              have hb7 : Below w6.heap.size w6 W2 := by subst hW; (repeat (first | exact Below.refl _ _ | assumption | (refine Below.setCell ?_ (by first | (simp; done) | (simp; omega) | omega) _) | (refine Below.alloc ?_ (by first | (simp; done) | (simp; omega) | omega) _) | (refine Below.drew ?_) | (refine Below.drewN ?_ _) | (refine Below.trans ?_ (Below.mono (by assumption) (by first | (simp; done) | (simp; omega) | omega)))))
              have H7 := Lib.hid (And.intro (H6.out.1.below hb7) (H6.out.2.trans (hb7.mono H6.out.2.size)))
              have q : ∀ o, W2.cell? ⟨w4.heap.size, o, none⟩ = #[Value.int .i64 K1.left, .int .i64 K1.right, .int .i64 K1.off, .int .i64 K1.len, .int .i64 K1.high, .int .i64 K1.leaves, .int .i64 K1.feeds][o]? := fun o => (hb7.cell (p := ⟨_, _, none⟩) hs6).trans (Q6.out o)
              have q0 := q 0
              have q1 := q 1
              have q2 := q 2
              have q3 := q 3
              have q4 := q 4
              have q5 := q 5
              have q6 := q 6
              simp only [List.getElem?_toArray, List.getElem?_cons_zero, List.getElem?_cons_succ] at q0 q1 q2 q3 q4 q5 q6
              clear hW q hb7 H6 Q6
              refine (leaf_nil 0 1 0 _).mono ?_
              rintro e w8 ⟨rfl, rfl⟩
              go_wp2_with fail
              refine (pair_nil 1 1 _).mono ?_
              rintro e w8 ⟨rfl, rfl⟩
              rcases HGS.out with ⟨rfl, h1, h2⟩ | ⟨rfl, rfl, hno⟩
              · rw [List.length_append] at h2
                go_wp2_with (go_at_call 24; first | ((with_reducible refine (len_nil _).mono ?_); rintro e w5 ⟨rfl, rfl⟩) | ((with_reducible refine (len_any _ _ _ _ H7.out.1).mono ?_); rintro e w5 ⟨rfl, rfl⟩))
                go_ret
                exact ⟨rfl, H7.out.2⟩
              · simp only [Knot.zero] at q0 q1 q2 q3 q4 q5 q6
                by_cases h1 : 1 ≤ i
                · have h2 : decide (i ≤ (ks.length : Int) + ex.length) = false := decide_eq_false fun h => hno ⟨h1, by rw [List.length_append]; omega⟩
                  clear hno
                  go_wp2_with (go_at_call 24; first | ((with_reducible refine (len_nil _).mono ?_); rintro e w5 ⟨rfl, rfl⟩) | ((with_reducible refine (len_any _ _ _ _ H7.out.1).mono ?_); rintro e w5 ⟨rfl, rfl⟩))
                  go_ret
                  exact ⟨rfl, H7.out.2⟩
                · clear hno
                  go_wp2_with (go_at_call 24; first | ((with_reducible refine (len_nil _).mono ?_); rintro e w5 ⟨rfl, rfl⟩) | ((with_reducible refine (len_any _ _ _ _ H7.out.1).mono ?_); rintro e w5 ⟨rfl, rfl⟩))
                  go_ret
                  exact ⟨rfl, H7.out.2⟩
end Go.Proofs.Ytloljnpnoohglaa.Ar
