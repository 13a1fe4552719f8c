
/- The page's clock: Drop. -/
import Derived.Test.YtohjhbhbpflokaaClkX
import Derived.Deep.RegionLaw
namespace Go.Proofs.Ytohjhbhbpflokaa.Ck
set_option linter.unusedSimpArgs false
set_option linter.unusedVariables false
open Go Go.RowKit Go.Shelf
set_option linter.unusedVariables false
attribute [local go_sem] lt_add1 lt_self1 size_ne size_ne' size_ne1 size_ne1'
/-- a step of a drawn region: a row behind an own row. -/
theorem step_app {w : World} {ops : Array Oper} {o : Oper} {a : Act} {K : Act → World → Prop} {Q : Exit → Act → World → Prop} {E : Prop} (hgd : o.guard = none) (s x : Operand) (ho : o.op = Op.call { callee := Callee.builtin Builtin.append, args := #[s, x], argTypes := #[38, 38] })
    {B : Nat} {v r : Value} (xs ys : List CE) (hs : a.eval s = v) (hx : a.eval x = r) (hv : OwnE w B v xs) (hr : OwnE w 0 r ys) (h63 : xs.length + ys.length ≤ 100000) (hB : B ≤ w.heap.size) (H : Nat) (hH : w.heap.size = H) (N : Nat) (hN : (xs ++ ys).length = N)
    (hK : ∀ A cp w', OwnE w' B (.slice A N cp) (xs ++ ys) → w.grownBy w' v.ownBlock → ((Value.slice A N cp).ownBlock = v.ownBlock ∨ (Value.slice A N cp).ownBlock = some H) → K (a.put o.dst (.slice A N cp)) w') :
    if Region.wanted o (yielded ops a.tmps) = true then Oper.wp Try.prog o a w K Q else E := by
  have hw : Region.wanted o (yielded ops a.tmps) = true := by simp [Region.wanted, hgd]
  rw [if_pos hw]
  obtain ⟨v', w', h1, h2, h3, h5⟩ := run_app hv hr h63 hB
  obtain ⟨A, cp, rfl⟩ := h2.form
  rw [hN] at h1 h2 h5
  unfold Oper.wp
  rw [run_exec_append ho hs hx (h1 _)]
  exact hK A cp w' h2 h3 (by rw [← hH]; exact h5)
/-- what stands in Drop's loop. -/
structure DI (w : World) (x zz : Nat) (mo : Int) (p : Int → Bool) (s : CS) (A : Option Addr) (cp k : Nat) (r' : Value) (wr : World) : Prop where
  vx : VarAt wr x (.slice A s.row.length cp) s.hand mo
  vy : VarAt wr (x + 1) (.slice none 0 0) 0 0
  vz : VarAt wr zz r' (keepH p s.row s.hand k) mo
  src : OwnE wr 0 (.slice A s.row.length cp) s.row
  own : OwnE wr (x + 2) r' (keepR p s.row k)
  ne : r'.ownBlock ≠ some zz
  bel : Below w.heap.size w wr
/-- .. ahead of the append. -/
structure DJ (w : World) (x zz : Nat) (mo : Int) (p : Int → Bool) (s : CS) (A : Option Addr) (cp k : Nat) (r' : Value) (wr : World) : Prop where
  vx : VarAt wr x (.slice A s.row.length cp) s.hand mo
  vy : VarAt wr (x + 1) (.slice none 0 0) 0 0
  vz : VarAt wr zz r' (keepH p s.row s.hand (k + 1)) mo
  src : OwnE wr 0 (.slice A s.row.length cp) s.row
  own : OwnE wr (x + 2) r' (keepR p s.row k)
  ne : r'.ownBlock ≠ some zz
  bel : Below w.heap.size w wr
theorem DJ.push {w w4 w9 : World} {x zz N k cp cp9 : Nat} {mo : Int} {p : Int → Bool} {s : CS} {A A9 : Option Addr} {r' : Value} {O : Obj} {e : CE} (h : DJ w x zz mo p s A cp k r' w4) (hk : keepR p s.row (k + 1) = keepR p s.row k ++ [e]) (hsl : ∀ b, (Value.slice A s.row.length cp).ownBlock = some b → b < x) (hxe : w.heap.size = x) (hzx : x + 1 < zz)
    (hg : (w4.alloc O).drew.grownBy w9 r'.ownBlock) (hat : (Value.slice A9 N cp9).ownBlock = r'.ownBlock ∨ (Value.slice A9 N cp9).ownBlock = some (w4.heap.size + 1)) (ho : OwnE w9 (x + 2) (.slice A9 N cp9) (keepR p s.row k ++ [e])) : DI w x zz mo p s A cp (k + 1) (.slice A9 N cp9) (w9.setCell ⟨zz, 0, none⟩ (.slice A9 N cp9)) := by
  have hg' : (w4.alloc O).grownBy w9 r'.ownBlock := ⟨hg.os, hg.tape, hg.output, hg.size, hg.block⟩
  have hro : ∀ b, r'.ownBlock = some b → x + 2 ≤ b ∧ b < w4.heap.size := fun b e => World.ownsRow.lt h.own b e
  have hzl := h.vz.cells.2.2.2.1
  have hne : (Value.slice A9 N cp9).ownBlock ≠ some zz := fun e => by
    rcases hat with e9 | e9
    · exact h.ne (e9 ▸ e)
    · rw [e] at e9
      have : zz = w4.heap.size + 1 := by simpa using e9
      omega
  have hsrc : OwnE w9 0 (.slice A s.row.length cp) s.row := by
    have hf : Fr w4 (fun b => r'.ownBlock = some b) w9 (fun b => r'.ownBlock = some b) := ⟨hg.os, hg.tape, hg.output, by have := hg.size; simp at this; omega, fun b hb hn => grown_keep hg' hb hn, fun b hb => .inl hb⟩
    exact hf.own h.src (fun b hb e => by have := hsl b hb; have := (hro b e).1; omega)
  have hb9 : Below w.heap.size w w9 := grown_bel hg' h.bel (fun b e => by have := (hro b e).1; omega)
  exact ⟨(h.vx.grown hg' (fun e => by have := (hro _ e).1; omega)).other (by omega), (h.vy.grown hg' (fun e => by have := (hro _ e).1; omega)).other (by omega), (h.vz.grown hg' h.ne).set0, hsrc.other (fun e => by have := hsl _ e; omega), by rw [hk]; exact ho.other hne, hne, hb9.setCell (by show _ ≤ zz; omega) _⟩
set_option maxHeartbeats 8000000 in
set_option maxRecDepth 100000 in
theorem refdrop_any (r : Value) (s : CS) (mo by_ rest : Int) (w : World) (hb0 : by_ ≠ 0) (hb1 : by_ ≠ -1) (hok : s.Ok) (hs : s.row.length ≤ 900) (h : OwnE w 0 r s.row) : Calls Try.prog 24 #[refV r s.hand mo, .int .i64 by_, .int .i64 rest] w fun e w' => ∃ r', e = .returned (.tuple #[refV r' (dropS s (restP by_ rest)).1.hand mo, .int .i64 ((dropS s (restP by_ rest)).2 : Nat)]) ∧ OwnE w' 0 r' (dropS s (restP by_ rest)).1.row ∧ Below w.heap.size w w' ∧ (∀ b, r'.ownBlock = some b → r.ownBlock = some b ∨ w.heap.size ≤ b) := by
  obtain ⟨A, cp, rfl⟩ := h.form
  have HO := Lib.hid h
  clear h
  unfold refV
  go_enter Try.func24, Try.ntmps24
  go_upto_region 1 with fail
  have HB := Lib.hid (Beg.mk0 (hand := s.hand) (mo := mo) HO.out)
  generalize (w.alloc (.cells #[.slice A s.row.length cp, .int .i64 s.hand, .int .i64 mo] 40)).alloc (.cells #[.slice none 0 0, .int .i64 0, .int .i64 0] 40) = w1 at HB ⊢
  obtain ⟨x, hx⟩ : ∃ x, w.heap.size = x := ⟨_, rfl⟩
  rw [hx] at HB
  rw [hx]
  clear hx
  obtain ⟨c0, c1, c2, hxl, hxf⟩ := HB.out.vx.cells
  clear hxf
  go_upto_region 2 with fail
  have hsl : ∀ b, (Value.slice A s.row.length cp).ownBlock = some b → b < x := fun b e => by have := (World.ownsRow.lt HO.out b e).2; have := HB.out.eq; omega
  have HSL := Lib.hid hsl
  clear hsl
  have H0 : Hid (DI w x w1.heap.size mo (restP by_ rest) s A cp 0 (.slice none 0 0) (w1.alloc (.cells #[.slice none 0 0, .int .i64 0, .int .i64 mo] 40))) := by
    have hba : Below w1.heap.size w1 (w1.alloc (.cells #[.slice none 0 0, .int .i64 0, .int .i64 mo] 40)) := (Below.refl _ _).alloc (Nat.le_refl _) _
    refine Lib.hid ⟨HB.out.vx.below hba, HB.out.vy.below hba, ?_, HB.out.own.below hba, ?_, by simp [Value.ownBlock], HB.out.bel.trans (hba.mono HB.out.bel.size)⟩
    · rw [keepH_0]; exact VarAt.new _ _ _ _
    · rw [keepR_0]; exact World.ownsRow_nil _ _ _ 3
  have hzx : x + 1 < w1.heap.size := HB.out.vy.cells.2.2.2.1
  have hx0 : w.heap.size ≤ x + 1 := by have := HB.out.eq; omega
  have hz0 : w.heap.size ≤ w1.heap.size := HB.out.bel.size
  have hxe := HB.out.eq
  clear c0 c1 c2 hxl
  generalize w1.alloc (.cells #[.slice none 0 0, .int .i64 0, .int .i64 mo] 40) = w3 at H0 ⊢
  generalize w1.heap.size = zz at H0 hzx hz0 ⊢
  go_wp2_with fail
  go_loopw [9, 10] (fun many i wr => ∃ (k : Nat) (r' : Value), k ≤ s.row.length ∧ i = .int .i64 k ∧ many = .int .i64 ((k - (keepR (restP by_ rest) s.row k).length : Nat)) ∧ Hid (DI w x zz mo (restP by_ rest) s A cp k r' wr)) (fun _ i _ => s.row.length - (intOf i).toNat)
  case atStart => exact ⟨0, _, Nat.zero_le _, rfl, by rw [keepR_0]; rfl, H0⟩
  case round =>
    obtain ⟨k, r', hk, rfl, rfl, HH⟩ := hrel
    obtain ⟨A', cp', rfl⟩ := HH.out.own.form
    obtain ⟨a0, a1, a2, hal, _⟩ := HH.out.vx.cells
    obtain ⟨c0, c1, c2, hzl, hzf⟩ := HH.out.vz.cells
    have hkl := keepR_le (restP by_ rest) s.row k
    have hkh := keepH_le (restP by_ rest) s.row s.hand k
    by_cases hks : k < s.row.length
    · obtain ⟨e, he⟩ : ∃ e, s.row[k]? = some e := ⟨_, List.getElem?_eq_getElem hks⟩
      have hks' : (k : Int) < s.row.length := by omega
      obtain ⟨g, cap, e1, _, hgl, d0, d1, d2, _⟩ := HH.out.src.cells he
      obtain ⟨rfl, rfl⟩ : A = some ⟨g, 0, none⟩ ∧ cp = cap := by simpa using e1
      have hgx : g < x := HSL.out g rfl
      have HK := Lib.hid (And.intro he (And.intro (keepR_succ (p := restP by_ rest) he) (keepH_succ (p := restP by_ rest) (h := s.hand) he)))
      clear e1 he
      by_cases hp : restP by_ rest e.key = true
      · have hp' : (e.key.tmod by_ == rest) = true := hp
        have H1 : Hid (keepR (restP by_ rest) s.row (k + 1) = keepR (restP by_ rest) s.row k ∧ keepH (restP by_ rest) s.row s.hand (k + 1) = keepH (restP by_ rest) s.row s.hand k) := Lib.hid ⟨by rw [HK.out.2.1, if_pos hp], by rw [HK.out.2.2, if_neg (by simp [hp])]⟩
        have hwk : IntKind.i64.wrap (((k - (keepR (restP by_ rest) s.row k).length : Nat) : Int) + 1) = ((k - (keepR (restP by_ rest) s.row k).length : Nat) : Int) + 1 := IntWalk.i64_in _ (by omega)
        have HP := Lib.hid hp
        clear hp
        go_wp2_with fail
        go_roundw
        case rel =>
          refine ⟨k + 1, .slice A' (keepR (restP by_ rest) s.row k).length cp', by omega, by go_num, ?_, Lib.hid ?_⟩
          · rw [H1.out.1]; congr 1; omega
          · have h := HH.out
            exact ⟨h.vx, h.vy, by rw [H1.out.2]; exact h.vz, h.src, by rw [H1.out.1]; exact h.own, h.ne, h.bel⟩
        case measure => simp [intOf]; omega
      · have hp' : (e.key.tmod by_ == rest) = false := by simpa [restP] using hp
        have hpf : restP by_ rest e.key = false := by simpa using hp
        have H1 : Hid (keepR (restP by_ rest) s.row (k + 1) = keepR (restP by_ rest) s.row k ++ [e]) := Lib.hid (by rw [HK.out.2.1, hpf]; rfl)
        by_cases hh : k < s.hand
        · have hh' : (k : Int) < s.hand := by omega
          have H2 : Hid (keepH (restP by_ rest) s.row s.hand (k + 1) = keepH (restP by_ rest) s.row s.hand k + 1) := Lib.hid (by rw [HK.out.2.2, if_pos ⟨hpf, hh⟩])
          have hwk : IntKind.i64.wrap ((keepH (restP by_ rest) s.row s.hand k : Int) + 1) = (keepH (restP by_ rest) s.row s.hand k : Int) + 1 := IntWalk.i64_in _ (by omega)
          clear hp hpf
          go_upto_region 10 with fail
          have HJ : Hid (DJ w x zz mo (restP by_ rest) s (some ⟨g, 0, none⟩) cp k (.slice A' (keepR (restP by_ rest) s.row k).length cp') (wr.setCell ⟨zz, 1, none⟩ (.int .i64 ((keepH (restP by_ rest) s.row s.hand k : Int) + 1)))) := by
            have h := HH.out
            refine Lib.hid ⟨h.vx.other (by omega), h.vy.other (by omega), ?_, h.src.other (fun e => by have := HSL.out _ e; omega), h.own.other h.ne, h.ne, h.bel.setCell hz0 _⟩
            rw [H2.out]
            exact h.vz.set1
          clear a0 a1 a2 hal c0 c1 c2 hzl hzf d0 d1 d2 hgl
          generalize wr.setCell ⟨zz, 1, none⟩ (.int .i64 ((keepH (restP by_ rest) s.row s.hand k : Int) + 1)) = w4 at HJ ⊢
          obtain ⟨a0, a1, a2, hal, _⟩ := HJ.out.vx.cells
          obtain ⟨c0, c1, c2, hzl, hzf⟩ := HJ.out.vz.cells
          obtain ⟨g', cap', e1, _, hgl, d0, d1, d2, _⟩ := HJ.out.src.cells HK.out.1
          obtain ⟨rfl, rfl⟩ : g = g' ∧ cp = cap' := by simp at e1; exact e1
          have zf0 := hzf 0
          have hone : OwnE ((w4.alloc (.cells #[.int .i64 e.key, .string e.val, .bool e.used] 65)).drew) 0 (.slice (some ⟨w4.heap.size, 0, none⟩) 1 1) [e] := by
            have h1 : OwnE (w4.alloc (.cells #[.int .i64 e.key, .string e.val, .bool e.used] 65)) 0 (.slice (some ⟨w4.heap.size, 0, none⟩) 1 1) [e] := ⟨rfl, .inr ⟨w4.heap.size, 1, _, rfl, Nat.zero_le _, heap_alloc_new _ _, Nat.le_refl _, (by unfold maxLen; omega), rfl, rfl⟩⟩
            exact h1.below ((Below.refl _ _).drew)
          have HN := Lib.hid (And.intro hone ((HJ.out.own.below ((Below.refl _ _).alloc (Nat.le_refl _) (.cells #[.int .i64 e.key, .string e.val, .bool e.used] 65))).below ((Below.refl _ _).drew)))
          have hzn : (Value.slice A' (keepR (restP by_ rest) s.row k).length cp').ownBlock ≠ some zz := HJ.out.ne
          have hbsz : x + 2 ≤ w4.heap.size + 1 := by omega
          have HZN := Lib.hid hzn
          clear e1 hone hzn
          have HLN : Hid ((keepR (restP by_ rest) s.row k ++ [e]).length = (keepR (restP by_ rest) s.row k).length + 1) := Lib.hid (by simp)
          generalize (keepR (restP by_ rest) s.row k).length = nk at *
          go_region_law (refine step_app (by rfl) _ _ (by rfl) (B := x + 2) (v := .slice A' nk cp') (r := .slice (some ⟨w4.heap.size, 0, none⟩) 1 1) (keepR (restP by_ rest) s.row k) [e] (by rfl) (by rfl) HN.out.2 HN.out.1 (by have := HLN.out; simp at this ⊢; omega) (by simp; omega) (w4.heap.size + 1) (by simp) (nk + 1) HLN.out ?_; intro A9 cp9 w9 ho9 hg9 hat9; have s0 : w9.cell? ⟨zz, 0, none⟩ = some (.slice A' nk cp') := (World.cell?_of_block (a := ⟨zz, 0, none⟩) (grown_keep (w := w4) ⟨hg9.os, hg9.tape, hg9.output, hg9.size, hg9.block⟩ hzl HZN.out)).trans c0; have f0 : w9.frozen? ⟨zz, 0, none⟩ = false := (World.frozen?_of_block (a := ⟨zz, 0, none⟩) (grown_keep (w := w4) ⟨hg9.os, hg9.tape, hg9.output, hg9.size, hg9.block⟩ hzl HZN.out)).trans zf0)
          all_goals
            have HI := Lib.hid (HJ.out.push H1.out HSL.out hxe hzx hg9 hat9 ho9)
            clear hg9 hat9 ho9 s0 f0
            go_wp2_with fail
            go_roundw
            case rel => exact ⟨k + 1, .slice A9 (nk + 1) cp9, by omega, by go_num, by rw [H1.out, HLN.out]; congr 1; omega, HI⟩
            case measure => simp [intOf]; omega
        · have hh' : ¬ ((k : Int) < s.hand) := by omega
          have H2 : Hid (keepH (restP by_ rest) s.row s.hand (k + 1) = keepH (restP by_ rest) s.row s.hand k) := Lib.hid (by rw [HK.out.2.2, if_neg (fun h => hh h.2)])
          clear hp hpf
          go_upto_region 10 with fail
          have HJ : Hid (DJ w x zz mo (restP by_ rest) s (some ⟨g, 0, none⟩) cp k (.slice A' (keepR (restP by_ rest) s.row k).length cp') wr) := by
            have h := HH.out
            exact Lib.hid ⟨h.vx, h.vy, by rw [H2.out]; exact h.vz, h.src, h.own, h.ne, h.bel⟩
          clear a0 a1 a2 hal c0 c1 c2 hzl hzf d0 d1 d2 hgl
          generalize wr = w4 at HJ ⊢
          obtain ⟨a0, a1, a2, hal, _⟩ := HJ.out.vx.cells
          obtain ⟨c0, c1, c2, hzl, hzf⟩ := HJ.out.vz.cells
          obtain ⟨g', cap', e1, _, hgl, d0, d1, d2, _⟩ := HJ.out.src.cells HK.out.1
          obtain ⟨rfl, rfl⟩ : g = g' ∧ cp = cap' := by simp at e1; exact e1
          have zf0 := hzf 0
          have hone : OwnE ((w4.alloc (.cells #[.int .i64 e.key, .string e.val, .bool e.used] 65)).drew) 0 (.slice (some ⟨w4.heap.size, 0, none⟩) 1 1) [e] := by
            have h1 : OwnE (w4.alloc (.cells #[.int .i64 e.key, .string e.val, .bool e.used] 65)) 0 (.slice (some ⟨w4.heap.size, 0, none⟩) 1 1) [e] := ⟨rfl, .inr ⟨w4.heap.size, 1, _, rfl, Nat.zero_le _, heap_alloc_new _ _, Nat.le_refl _, (by unfold maxLen; omega), rfl, rfl⟩⟩
            exact h1.below ((Below.refl _ _).drew)
          have HN := Lib.hid (And.intro hone ((HJ.out.own.below ((Below.refl _ _).alloc (Nat.le_refl _) (.cells #[.int .i64 e.key, .string e.val, .bool e.used] 65))).below ((Below.refl _ _).drew)))
          have hzn : (Value.slice A' (keepR (restP by_ rest) s.row k).length cp').ownBlock ≠ some zz := HJ.out.ne
          have hbsz : x + 2 ≤ w4.heap.size + 1 := by omega
          have HZN := Lib.hid hzn
          clear e1 hone hzn
          have HLN : Hid ((keepR (restP by_ rest) s.row k ++ [e]).length = (keepR (restP by_ rest) s.row k).length + 1) := Lib.hid (by simp)
          generalize (keepR (restP by_ rest) s.row k).length = nk at *
          go_region_law (refine step_app (by rfl) _ _ (by rfl) (B := x + 2) (v := .slice A' nk cp') (r := .slice (some ⟨w4.heap.size, 0, none⟩) 1 1) (keepR (restP by_ rest) s.row k) [e] (by rfl) (by rfl) HN.out.2 HN.out.1 (by have := HLN.out; simp at this ⊢; omega) (by simp; omega) (w4.heap.size + 1) (by simp) (nk + 1) HLN.out ?_; intro A9 cp9 w9 ho9 hg9 hat9; have s0 : w9.cell? ⟨zz, 0, none⟩ = some (.slice A' nk cp') := (World.cell?_of_block (a := ⟨zz, 0, none⟩) (grown_keep (w := w4) ⟨hg9.os, hg9.tape, hg9.output, hg9.size, hg9.block⟩ hzl HZN.out)).trans c0; have f0 : w9.frozen? ⟨zz, 0, none⟩ = false := (World.frozen?_of_block (a := ⟨zz, 0, none⟩) (grown_keep (w := w4) ⟨hg9.os, hg9.tape, hg9.output, hg9.size, hg9.block⟩ hzl HZN.out)).trans zf0)
          all_goals
            have HI := Lib.hid (HJ.out.push H1.out HSL.out hxe hzx hg9 hat9 ho9)
            clear hg9 hat9 ho9 s0 f0
            go_wp2_with fail
            go_roundw
            case rel => exact ⟨k + 1, .slice A9 (nk + 1) cp9, by omega, by go_num, by rw [H1.out, HLN.out]; congr 1; omega, HI⟩
            case measure => simp [intOf]; omega
    · have hks' : ¬ ((k : Int) < s.row.length) := by omega
      have hall : keepR (restP by_ rest) s.row k = s.row.filter (fun e => !restP by_ rest e.key) := keepR_all (by omega)
      have hkh2 : keepH (restP by_ rest) s.row s.hand k = stay (restP by_ rest) s.row s.hand := keepH_all (by omega)
      have hkk : k = s.row.length := by omega
      have hd : dropS s (restP by_ rest) = (⟨keepR (restP by_ rest) s.row k, if (keepR (restP by_ rest) s.row k).length ≤ keepH (restP by_ rest) s.row s.hand k then 0 else keepH (restP by_ rest) s.row s.hand k, s.most⟩, k - (keepR (restP by_ rest) s.row k).length) := by
        rw [hall, hkh2, hkk]; rfl
      have HD := Lib.hid hd
      obtain ⟨y0, y1, y2, hyl, hyf⟩ := HH.out.vy.cells
      have HO5 := Lib.hid HH.out.own
      have HB5 := Lib.hid HH.out.bel
      have n1 : (Value.slice A' (keepR (restP by_ rest) s.row k).length cp').ownBlock ≠ some (x + 1) := fun e => by have := (World.ownsRow.lt HH.out.own _ e).1; omega
      have hne := HH.out.ne
      have HN1 := Lib.hid (And.intro n1 hne)
      clear hall hkh2 hd n1 hne hxe
      have hzy : ¬ zz = x + 1 := by omega
      by_cases hge : (keepR (restP by_ rest) s.row k).length ≤ keepH (restP by_ rest) s.row s.hand k
      · rw [if_pos hge] at HD
        generalize keepR (restP by_ rest) s.row k = L at *
        generalize keepH (restP by_ rest) s.row s.hand k = hd at *
        have hge' : (L.length : Int) ≤ hd := by omega
        go_wp2_with fail
        rw [HD.out]
        refine bodyPost_ret (v := .tuple #[.agg #[.slice A' L.length cp', .int .i64 0, .int .i64 mo], .int .i64 ((k - L.length : Nat))]) (by simp [results, Try.results24, go_sem, *]) rfl ⟨_, rfl, ?_, ?_, ?_⟩
        · exact ((((HO5.out.other HN1.out.2).other HN1.out.1).other HN1.out.1).other HN1.out.1).base (Nat.zero_le _)
        · exact (((HB5.out.setCell hz0 _).setCell hx0 _).setCell hx0 _).setCell hx0 _
        · exact fun b e => .inr (by have := (World.ownsRow.lt HO5.out b e).1; have := HB.out.eq; omega)
      · rw [if_neg hge] at HD
        generalize keepR (restP by_ rest) s.row k = L at *
        generalize keepH (restP by_ rest) s.row s.hand k = hd at *
        have hge' : ¬ ((L.length : Int) ≤ hd) := by omega
        go_wp2_with fail
        rw [HD.out]
        refine bodyPost_ret (v := .tuple #[.agg #[.slice A' L.length cp', .int .i64 hd, .int .i64 mo], .int .i64 ((k - L.length : Nat))]) (by simp [results, Try.results24, go_sem, *]) rfl ⟨_, rfl, ?_, ?_, ?_⟩
        · exact (((HO5.out.other HN1.out.1).other HN1.out.1).other HN1.out.1).base (Nat.zero_le _)
        · exact ((HB5.out.setCell hx0 _).setCell hx0 _).setCell hx0 _
        · exact fun b e => .inr (by have := (World.ownsRow.lt HO5.out b e).1; have := HB.out.eq; omega)
end Go.Proofs.Ytohjhbhbpflokaa.Ck
