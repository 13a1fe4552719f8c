/- Two slices of numbers that grow side by side; a slice of one number written out. */ -/
import Derived.Test.YtoeamnagmehpeaaMgL
import Derived.Test.YtoeamnagmehpeaaMgK
import Derived.Test.YtoeamnagmehpeaaMgA
import Derived.Test.YtoeamnagmehpeaaMgG
namespace Go.Proofs.Ytoeamnagmehpeaa.Kp
set_option linter.unusedSimpArgs false
set_option linter.unusedVariables false
open Go Go.RowKit Go.Proofs.Ytoeamnagmehpeaa.Rp Go.Proofs.Ytoeamnagmehpeaa.Wk
open Go.Proofs.Ytoeamnagmehpeaa.Ar (T Is Ext WF Knot getK getB getS Arena resAr small)

theorem intq_info : (Try.prog.info? 3).map (fun i => (i.zero, i.size, i.bytes)) = some (some (.int .i64 0), 1, 8) := by kernel_rfl
/-- numbers in a row of one's own. -/
def OwnI (w : World) (B : Nat) (v : Value) (l : List Int) : Prop := w.ownsRow B 3 1 v l.length (l.map (Value.int .i64))
/-- two of them. -/
def stII (B : Nat) (v1 : Value) (l1 : List Int) (v2 : Value) (l2 : List Int) : PSt where
  at_ := fun w F => (∀ b, F b ↔ (v1.ownBlock = some b ∨ v2.ownBlock = some b)) ∧ OwnI w B v1 l1 ∧ OwnI w B v2 l2 ∧ ∀ b, v1.ownBlock = some b → v2.ownBlock ≠ some b
  below := fun h hb => ⟨h.1, own_below h.2.1 hb, own_below h.2.2.1 hb, h.2.2.2⟩
  lt := fun h b hb => ((h.1 b).1 hb).elim (fun e => (World.ownsRow.lt h.2.1 b e).2) (fun e => (World.ownsRow.lt h.2.2.1 b e).2)
theorem stII_swap {B : Nat} {v1 v2 : Value} {l1 l2 : List Int} {w : World} {F : Nat → Prop} (h : (stII B v1 l1 v2 l2).at_ w F) : (stII B v2 l2 v1 l1).at_ w F :=
  ⟨fun b => (h.1 b).trans Or.comm, h.2.2.1, h.2.1, fun b e e' => h.2.2.2 b e' e⟩

theorem app_core {w : World} {F : Nat → Prop} {o : Oper} {a : Act} {B b : Nat} {l1 l2 : List Int} {x : Int} {v1 v2 : Value} {s1 x1 : Operand} (ha : (stII B v1 l1 v2 l2).at_ w F) (hblk : w.heap[b]? = some (.cells #[.int .i64 x] 3 (0, 0)))
    (hB : B ≤ w.heap.size) (hl : l1.length ≤ 100000) (ho : o.op = .call { callee := .builtin .append, args := #[s1, x1], argTypes := #[23, 23] }) (hs : a.eval s1 = v1) (hx : a.eval x1 = .slice (some ⟨b, 0, none⟩) 1 1) :
    ∃ u w' F', (execOp a.eval o).run Try.prog w = .ok (.value u) w' ∧ (stII B u (l1 ++ [x]) v2 l2).at_ w' F' ∧ Fr w F w' F' := by
  obtain ⟨hF, h1, h2, hne⟩ := ha
  obtain ⟨i0, hi, hz0, hz1, hz2⟩ := info_parts intq_info
  obtain ⟨g, cap, w', hr, g1, g2, g3, g4⟩ := run_append_lies (P := Try.prog) w 23 o.type B 3 i0 (.int .i64 0) 1 8 Try.underlying23 hi hz0 hz1 hz2 rfl (by decide) v1 l1.length _ h1 ⟨b, 0, none⟩ 1 1 [.int .i64 x] rfl
    (fun j u hj => by
      cases j with
      | zero => simp at hj; subst hj; exact cell_of_row w b 0 _ _ (0, 0) hblk
      | succ j => simp at hj) (fun u hu => by simp at hu; subst hu; rfl) (by decide) (by unfold maxLen; omega) (by omega) hB w.heap.size rfl
  have hg2 : ∀ c, v2.ownBlock = some c → c ≠ g := fun c e he => by
    subst he
    rcases g3 with e3 | e3
    · exact hne _ e3 e
    · have := (World.ownsRow.lt h2 c e).2; omega
  refine ⟨_, w', fun k => k = g ∨ v2.ownBlock = some k, run_exec_append ho hs hx hr, ⟨fun k => ?_, ?_, ?_, ?_⟩, ?_⟩
  · simp [Value.ownBlock, eq_comm]
  · unfold OwnI
    rw [List.length_append, List.map_append]
    exact g1
  · refine World.ownsRow.kept h2 g2 ?_
    cases e : v2.ownBlock with
    | none => exact .inl rfl
    | some c => exact .inr fun e' => hne c e'.symm e
  · intro k hk e
    simp [Value.ownBlock] at hk
    exact hg2 k e hk.symm
  · refine ⟨g2.os, g2.tape, g2.output, g2.size, fun k hk hn => g2.block k hk (fun e => hn ((hF k).2 (.inl e.symm))), fun k hk => ?_⟩
    rcases hk with rfl | e
    · rcases g3 with e3 | e3
      · exact .inl ((hF _).2 (.inl e3))
      · exact .inr (by omega)
    · exact .inl ((hF k).2 (.inr e))

section
variable {W w : World} {F0 : Nat → Prop} {bs : Made} {o : Oper} {a : Act} {B b : Nat} {l1 l2 : List Int} {x : Int} {v1 v2 : Value} {s1 x1 : Operand}
theorem thx_of_thr {σ : Type} {P : Program} {C : Cls σ W} {Post : Value → σ → Prop} {r : Result Next} (h : thrUpon P C bs Post w r) : thxUpon P C bs Post w r := by
  cases r with
  | ok n w' => cases n <;> first | exact h | exact h.elim
  | halt x w' => exact h
theorem thx_app1 (hw : (resCls resAny W F0).In (stII B v1 l1 v2 l2) bs w) (hm : (b, Obj.cells #[.int .i64 x] 3 (0, 0)) ∈ bs) (hB : B ≤ W.heap.size) (hl : l1.length ≤ 100000)
    (ho : o.op = .call { callee := .builtin .append, args := #[s1, x1], argTypes := #[23, 23] }) (hs : a.eval s1 = v1) (hx : a.eval x1 = .slice (some ⟨b, 0, none⟩) 1 1) :
    thxUpon Try.prog (resCls resAny W F0) bs (fun u s' => s' = stII B u (l1 ++ [x]) v2 l2) w ((execOp a.eval o).run Try.prog w) :=
  thx_of_thr (resCls_ok hw fun F ha hf hmem => by
    obtain ⟨u, w', F', h1, h2, h3⟩ := app_core ha (hmem _ hm).2 (Nat.le_trans hB hf.size) hl ho hs hx
    exact ⟨u, w', _, F', h1, rfl, h2, h3⟩)
theorem thx_app2 (hw : (resCls resAny W F0).In (stII B v1 l1 v2 l2) bs w) (hm : (b, Obj.cells #[.int .i64 x] 3 (0, 0)) ∈ bs) (hB : B ≤ W.heap.size) (hl : l2.length ≤ 100000)
    (ho : o.op = .call { callee := .builtin .append, args := #[s1, x1], argTypes := #[23, 23] }) (hs : a.eval s1 = v2) (hx : a.eval x1 = .slice (some ⟨b, 0, none⟩) 1 1) :
    thxUpon Try.prog (resCls resAny W F0) bs (fun u s' => s' = stII B v1 l1 u (l2 ++ [x])) w ((execOp a.eval o).run Try.prog w) :=
  thx_of_thr (resCls_ok hw fun F ha hf hmem => by
    obtain ⟨u, w', F', h1, h2, h3⟩ := app_core (stII_swap ha) (hmem _ hm).2 (Nat.le_trans hB hf.size) hl ho hs hx
    exact ⟨u, w', _, F', h1, rfl, stII_swap h2, h3⟩)
/-- a slice of one number written out. -/
theorem mkA_int (hg : o.guard = none) (ho : o.op = .buildSlice 23 1 #[(0, x1)]) (hx : a.eval x1 = .int .i64 x) : MkA Try.prog o a (.cells #[.int .i64 x] 3 (0, 0)) (some 1) := by
  obtain ⟨i0, hi, hz0, hz1, hz2⟩ := info_parts intq_info
  refine ⟨hg, fun w => ?_⟩
  obtain ⟨dst, op, type, pos, after, guard⟩ := o
  simp only at ho
  subst ho
  revert hx
  generalize a.eval = ρ
  intro hx
  simp [execOp, Instr.buildSlice, Go.underlying, Go.sizeOf, typeInfo, Try.underlying23, hi, hz0, hz1, newRow, Instr.fill, mval, hx, go_sem]
end
end Go.Proofs.Ytoeamnagmehpeaa.Kp


/- Layer 26's law: roots. -/
namespace Go.Proofs.Ytoeamnagmehpeaa.Kp
set_option linter.unusedSimpArgs false
set_option linter.unusedVariables false
open Go Go.RowKit Go.Proofs.Ytoeamnagmehpeaa.Rp Go.Proofs.Ytoeamnagmehpeaa.Wk
open Go.Proofs.Ytoeamnagmehpeaa.Ar (T Is Ext WF Knot getK getB getS Arena resAr small)
attribute [local go_sem] lt_add1 lt_self1 size_ne size_ne' size_ne1 size_ne1'
attribute [local irreducible] wpGrow wpThr wpThx

def place (n : Nat) (p : Int) : Int := (p.tmod n + n).tmod n
theorem place_range {n : Nat} (p : Int) (h : 0 < n) : 0 ≤ place n p ∧ place n p < n := by
  unfold place
  have h1 : -(n : Int) < p.tmod n := Int.lt_tmod_of_pos _ (by omega)
  exact ⟨Int.tmod_nonneg _ (by omega), Int.tmod_lt_of_pos _ (by omega)⟩
def places (n : Nat) (l : List Int) : List Int := (l.take 8).map (place n)
def rootsL (Ts l : List Int) : List Int := (places Ts.length l).map fun k => Ts.getD k.toNat 0

set_option maxRecDepth 100000 in
set_option maxHeartbeats 4000000 in
theorem roots_any (w : World) (b : Nat) (x0 x2 Tv pv : Value) (Ts pick : List Int) (hb : w.heap[b]? = some (.cells #[x0, Tv, x2] 39 (0, 0))) (hT : SlN w Tv Ts) (hn : Ts.length ≤ 1000000) (hp : 0 < Ts.length) (hv : SlN w pv pick) (hpk : pick.length ≤ 9223372036854775807) :
    Calls Try.prog 16 #[.pointer (some ⟨b, 0, none⟩), pv] w fun e w' => ∃ v1 v2, e = .returned (.tuple #[v1, v2]) ∧ OwnI w' w.heap.size v1 (places Ts.length pick) ∧ OwnI w' w.heap.size v2 (rootsL Ts pick) ∧ (∀ k, v1.ownBlock = some k → v2.ownBlock ≠ some k) ∧ Below w.heap.size w w' := by
  obtain ⟨A, c, rfl, hcT⟩ := hT
  obtain ⟨A2, c2, rfl, hcP⟩ := hv
  obtain ⟨tb, toff, rfl, htb, hcs⟩ := hcT hp
  have hblt := (Array.getElem?_eq_some_iff.1 hb).1
  have hc1 := cell_of_row w b 1 _ _ (0, 0) hb
  simp only [List.getElem?_toArray, List.getElem?_cons_zero, List.getElem?_cons_succ] at hc1
  have HT := Lib.hid (And.intro hc1 (And.intro hblt (And.intro htb hcs)))
  have HP := Lib.hid hcP
  have hn' : (Ts.length : Int) ≤ 1000000 := by omega
  have hp' : (0 : Int) < Ts.length := by omega
  have hne : (Ts.length : Int) ≠ 0 := by omega
  have hne2 : ((Ts.length : Int) == 0) = false := beq_false_of_ne hne
  have hpk' : (pick.length : Int) ≤ 9223372036854775807 := by omega
  clear hb hc1 hblt htb hcs hcP hcT
  go_enter Try.func16, Try.ntmps16
  go_wp2_with fail
  have HI := Lib.hid ((⟨fun _ => by simp [Value.ownBlock], World.ownsRow_nil w w.heap.size _ 1, World.ownsRow_nil w w.heap.size _ 1, fun k e => by simp [Value.ownBlock] at e⟩ : (stII w.heap.size (.slice none 0 0) [] (.slice none 0 0) []).at_ w (fun _ => False)))
  go_loopw [6, 7, 8] (fun v1 v2 i wr => ∃ (k : Nat) (F : Nat → Prop), i = .int .i64 k ∧ k ≤ 8 ∧ k ≤ pick.length ∧ Hid ((stII w.heap.size v1 ((pick.take k).map (place Ts.length)) v2 (((pick.take k).map (place Ts.length)).map fun k => Ts.getD k.toNat 0)).at_ wr F ∧ Fr w (fun _ => False) wr F)) (fun _ _ i _ => 8 - (intOf i).toNat)
  case atStart => exact ⟨0, fun _ => False, rfl, by omega, by omega, Lib.hid ⟨HI.out, Fr.of_below (Below.refl _ _)⟩⟩
  case round =>
    obtain ⟨k, F, rfl, hk8, hkp, HK⟩ := hrel
    by_cases hkn : k < pick.length
    · have hkn' : (k : Int) < pick.length := by omega
      by_cases hk : k < 8
      · have hk' : (k : Int) < 8 := by omega
        obtain ⟨pb, poff, rfl, hpb, hps⟩ := HP.out (by omega)
        have f0 : wr.cell? ⟨pb, poff + k, none⟩ = some (.int .i64 (pick.getD k 0)) := (HK.out.2.cell hpb id (poff + k)).trans (hps k hkn)
        have fl : pb < wr.heap.size := HK.out.2.lt hpb
        have f1 : wr.cell? ⟨b, 1, none⟩ = some (.slice (some ⟨tb, toff, none⟩) Ts.length c) := (HK.out.2.cell HT.out.2.1 id 1).trans HT.out.1
        have fl1 : b < wr.heap.size := HK.out.2.lt HT.out.2.1
        have htk : pick.take (k + 1) = pick.take k ++ [pick.getD k 0] := by
          rw [List.take_succ_eq_append_getElem hkn]
          simp [List.getD, hkn]
        have HTK := Lib.hid htk
        clear htk hps
        generalize pick.getD k 0 = p at f0 HTK
        have h1 : -(Ts.length : Int) < p.tmod Ts.length := Int.lt_tmod_of_pos _ hp'
        have h1' : p.tmod Ts.length < Ts.length := Int.tmod_lt_of_pos _ hp'
        have e1 : IntKind.i64.wrap (p.tmod Ts.length) = p.tmod Ts.length := IntWalk.i64_in _ (by omega)
        have e2 : IntKind.i64.wrap (p.tmod Ts.length + Ts.length) = p.tmod Ts.length + Ts.length := IntWalk.i64_in _ (by omega)
        have hr := place_range (n := Ts.length) p hp
        have e3 : IntKind.i64.wrap ((p.tmod Ts.length + Ts.length).tmod Ts.length) = (p.tmod Ts.length + Ts.length).tmod Ts.length := IntWalk.i64_in _ (by unfold place at hr; omega)
        have hpl : (p.tmod Ts.length + Ts.length).tmod Ts.length = place Ts.length p := rfl
        have b0 : ∀ x : Bw wr, x.w.cell? ⟨pb, poff + k, none⟩ = some (.int .i64 p) := fun x => (x.h.cell (p := ⟨pb, _, none⟩) fl).trans f0
        have b1 : ∀ x : Bw wr, x.w.cell? ⟨b, 1, none⟩ = some (.slice (some ⟨tb, toff, none⟩) Ts.length c) := fun x => (x.h.cell (p := ⟨b, _, none⟩) fl1).trans f1
        have b2 : ∀ x : Bw wr, pb < x.w.heap.size := fun x => Nat.lt_of_lt_of_le fl x.h.size
        have b3 : ∀ x : Bw wr, b < x.w.heap.size := fun x => Nat.lt_of_lt_of_le fl1 x.h.size
        clear f0 f1 fl fl1 hr
        go_wp2_with fail
        refine wp_region_wd (fun w' => Below wr.heap.size wr w') (by kernel_rfl) (by kernel_rfl) ((Below.refl _ _).drew) ?_
        repeat (go_big_quiet_step (fail))
        refine wpQuiet_nil (wd_all ?_)
        intro w6 hb6
        have HB6 := Lib.hid hb6
        clear hb6
        go_wp2_with fail
        have hb6 := HB6.out
        have HS6 := Lib.hid (And.intro ((stII (w.heap.size) u6 ((pick.take k).map (place Ts.length)) u7 (((pick.take k).map (place Ts.length)).map fun k => Ts.getD k.toNat 0)).below HK.out.1 hb6) (HK.out.2.trans (Fr.of_below hb6)))
        clear hb6
        obtain ⟨z, hz⟩ : ∃ z : Nat, place Ts.length p = (z : Int) := ⟨(place Ts.length p).toNat, by have := (place_range (n := Ts.length) p hp).1; omega⟩
        have hzl : z < Ts.length := by have := (place_range (n := Ts.length) p hp).2; omega
        have hzl' : (z : Int) < Ts.length := by omega
        have HZ := Lib.hid hz
        obtain ⟨tz, htz⟩ : ∃ tz, Ts.getD z 0 = tz := ⟨_, rfl⟩
        have HTZ := Lib.hid htz
        rw [hz]
        clear hz htz
        have HR : Hid (∀ s bs w1, (resCls resAny w6 F).In s bs w1 → w1.cell? ⟨b, 1, none⟩ = some (.slice (some ⟨tb, toff, none⟩) Ts.length c) ∧ w1.cell? ⟨tb, toff + z, none⟩ = some (.int .i64 tz) ∧ b < w1.heap.size ∧ tb < w1.heap.size) := Lib.hid (fun s bs w1 hw1 => by
          have hsz := ((resCls resAny w6 F).fresh hw1).1
          have g1 := HS6.out.2.lt HT.out.2.1
          have g2 := HS6.out.2.lt HT.out.2.2.1
          exact ⟨(resCls_cell hw1 g1 (HS6.out.2.out HT.out.2.1 id) 1).trans ((HS6.out.2.cell HT.out.2.1 id 1).trans HT.out.1),
            (resCls_cell hw1 g2 (HS6.out.2.out HT.out.2.2.1 id) (toff + z)).trans ((HS6.out.2.cell HT.out.2.2.1 id (toff + z)).trans ((HT.out.2.2.2 z hzl).trans (by rw [HTZ.out]))), by omega, by omega⟩)
        have hB : w.heap.size ≤ w6.heap.size := HS6.out.2.size
        have hl1 : ((pick.take k).map (place Ts.length)).length ≤ 100000 := by simp; omega
        have hl2 : (((pick.take k).map (place Ts.length)).map fun k => Ts.getD k.toNat 0).length ≤ 100000 := by simp; omega
        have HTKZ : Hid ((pick.take (k + 1)).map (place Ts.length) = (pick.take k).map (place Ts.length) ++ [(z : Int)]) := Lib.hid (by rw [HTK.out, List.map_append, List.map_cons, List.map_nil, HZ.out])
        generalize (pick.take k).map (place Ts.length) = L1 at HS6 HK hl1 hl2 HTKZ
        generalize hL2 : (L1.map fun k => Ts.getD k.toNat 0) = L2 at HS6 HK hl2
        refine wp_region_thx' (resCls resAny w6 F) (fun _ => True) (stII w.heap.size u6 L1 u7 L2) [(0, []), (1, []), (4, []), (5, []), (6, []), (7, []), (8, []), (9, []), (10, []), (11, []), (2, []), (3, [12]), (12, []), (13, []), (14, []), (15, [])] _ (by kernel_rfl) (by kernel_rfl) (by kernel_rfl) (by kernel_rfl) rfl (resCls_start (R := resAny) HS6.out.1) ?_
        (simp only [List.filterMap_cons, List.filterMap_nil, List.getElem?_cons_zero, List.getElem?_cons_succ, Option.map_some])
        iterate 4 ((refine wpThx_pure rfl rfl rfl rfl ?_; apply Exists.intro; refine ⟨fun w1 => ?_, ?_⟩); (go_simp; exact growUpon_ok rfl); (refine wpThx_at (by (simp only [Act.put, mval, List.setIfInBounds_toArray, List.set_cons_succ, List.set_cons_zero]) <;> exact rfl) ?_))
        iterate 3 ((refine wpThx_val rfl rfl rfl rfl trivial ?_; apply Exists.intro; refine ⟨fun s1 bs1 w1 hp1 hb1 hw1 => ?_, ?_⟩); (have hc1 := HR.out s1 bs1 w1 hw1; go_simp; exact growUpon_ok rfl); (refine wpThx_at (by (simp only [Act.put, mval, List.setIfInBounds_toArray, List.set_cons_succ, List.set_cons_zero]) <;> exact rfl) ?_))
        ((refine wpThx_pure rfl rfl rfl rfl ?_; apply Exists.intro; refine ⟨fun w1 => ?_, ?_⟩); (go_simp; exact growUpon_ok rfl); (refine wpThx_at (by (simp only [Act.put, mval, List.setIfInBounds_toArray, List.set_cons_succ, List.set_cons_zero]) <;> exact rfl) ?_))
        iterate 2 ((refine wpThx_val rfl rfl rfl rfl trivial ?_; apply Exists.intro; refine ⟨fun s1 bs1 w1 hp1 hb1 hw1 => ?_, ?_⟩); (have hc1 := HR.out s1 bs1 w1 hw1; go_simp; exact growUpon_ok rfl); (refine wpThx_at (by (simp only [Act.put, mval, List.setIfInBounds_toArray, List.set_cons_succ, List.set_cons_zero]) <;> exact rfl) ?_))
        refine wpThx_mk rfl (mkA_int (x := z) (x1 := .tmp 43) rfl rfl rfl) (fun b1 hb1 hf1 => ?_)
        (refine wpThx_at (by (simp only [Act.put, mval, List.setIfInBounds_toArray, List.set_cons_succ, List.set_cons_zero]) <;> exact rfl) ?_)
        refine wpThx_side (fun j hj oj hoj => ?_) ?_
        · obtain rfl : j = 12 := by simpa using hj
          cases hoj
          exact ⟨_, _, mkA_int (x := tz) (x1 := .tmp 53) rfl rfl rfl⟩
        refine wpThx_call (fun v s' => s' = stII w.heap.size v (L1 ++ [(z : Int)]) u7 L2) rfl rfl rfl (fun bs1 w1 hb1' hw1 => thx_app1 (b := b1) hw1 (hb1' _ (by simp)) hB hl1 rfl rfl rfl) (fun _ _ _ _ => trivial) ?_
        rintro v3 s3 rfl
        (refine wpThx_at (by (simp only [Act.put, mval, List.setIfInBounds_toArray, List.set_cons_succ, List.set_cons_zero]) <;> exact rfl) ?_)
        refine wpThx_mk rfl (mkA_int (x := tz) (x1 := .tmp 53) rfl rfl rfl) (fun b2 hb2 hf2 => ?_)
        (refine wpThx_at (by (simp only [Act.put, mval, List.setIfInBounds_toArray, List.set_cons_succ, List.set_cons_zero]) <;> exact rfl) ?_)
        refine wpThx_call (fun v s' => s' = stII w.heap.size v3 (L1 ++ [(z : Int)]) v (L2 ++ [tz])) rfl rfl rfl (fun bs1 w1 hb1' hw1 => thx_app2 (b := b2) hw1 (hb1' _ (by simp)) hB hl2 rfl rfl rfl) (fun _ _ _ _ => trivial) ?_
        rintro v4 s4 rfl
        (refine wpThx_at (by (simp only [Act.put, mval, List.setIfInBounds_toArray, List.set_cons_succ, List.set_cons_zero]) <;> exact rfl) ?_)
        iterate 2 ((refine wpThx_pure rfl rfl rfl rfl ?_; apply Exists.intro; refine ⟨fun w1 => ?_, ?_⟩); (go_simp; exact growUpon_ok rfl); (refine wpThx_at (by (simp only [Act.put, mval, List.setIfInBounds_toArray, List.set_cons_succ, List.set_cons_zero]) <;> exact rfl) ?_))
        refine wpThx_nil ?_
        intro w7 hw7
        obtain ⟨F7, ha7, hf7, _⟩ := hw7
        have H7 := Lib.hid (And.intro ha7 (HS6.out.2.trans hf7))
        have HL2 := Lib.hid hL2
        clear ha7 hf7 hL2 HR HS6 HK
        go_wp2_with fail
        go_roundw
        case rel =>
          refine ⟨k + 1, F7, by go_num, by omega, by omega, Lib.hid ⟨?_, H7.out.2⟩⟩
          have htz := HTZ.out
          subst htz
          rw [HTKZ.out, List.map_append, HL2.out]
          exact H7.out.1
        case measure => simp [intOf]; omega
      · have hk' : ¬ ((k : Int) < 8) := by omega
        have he : (pick.take k).map (place Ts.length) = places Ts.length pick := by unfold places; rw [show k = 8 by omega]
        rw [he] at HK
        go_wp2_with fail
        refine bodyPost_ret (v := .tuple #[u6, u7]) (by simp [results, Try.results16, go_sem]) rfl ?_
        exact ⟨u6, u7, rfl, HK.out.1.2.1, HK.out.1.2.2.1, HK.out.1.2.2.2, HK.out.2.below (Below.refl _ _) (fun b h => h.elim) (Nat.le_refl _)⟩
    · have hkn' : ¬ ((k : Int) < pick.length) := by omega
      have he : (pick.take k).map (place Ts.length) = places Ts.length pick := by
        unfold places
        rw [List.take_of_length_le (by omega), List.take_of_length_le (by omega)]
      rw [he] at HK
      go_wp2_with fail
      refine bodyPost_ret (v := .tuple #[u6, u7]) (by simp [results, Try.results16, go_sem]) rfl ?_
      exact ⟨u6, u7, rfl, HK.out.1.2.1, HK.out.1.2.2.1, HK.out.1.2.2.2, HK.out.2.below (Below.refl _ _) (fun b h => h.elim) (Nat.le_refl _)⟩
end Go.Proofs.Ytoeamnagmehpeaa.Kp


/- A store's Pair. */ -/
namespace Go.Proofs.Ytoeamnagmehpeaa.Kp
set_option linter.unusedSimpArgs false
set_option linter.unusedVariables false
open Go Go.RowKit Go.Proofs.Ytoeamnagmehpeaa.Rp
open Go.Proofs.Ytoeamnagmehpeaa.Ar (T Is Ext WF Knot getK getB Arena resAr small foot pairK leafK leafBad)
open Go.Proofs.Ytoeamnagmehpeaa.Buf (BufS feedsV feedV feedB thereB sliceV)
attribute [local go_sem] lt_add1 lt_self1 size_ne size_ne' size_ne1 size_ne1'
attribute [local irreducible] wpGrow wpThr

def mkq (ks : List Knot) (L R : T) (v : Value) (ks' : List Knot) : Prop := v = .tuple #[.int .i64 (ks.length + 1 : Nat), .int .i64 0] ∧ WF ks' ∧ Is ks' ((ks.length + 1 : Nat) : Int) (.node L R) ∧ Ext ks ks' 1 0
theorem pair_mk (g : Nat) (ks : List Knot) (l r : Int) (L R : T) (hw : WF ks) (hl : Is ks l L) (hr : Is ks r R) (h1 : 0 < L.size) (h2 : 0 < R.size) (h3 : L.size + R.size ≤ 1099511627776) (hn : ks.length ≤ small) :
    Does Try.prog (resAr g) 130 #[.pointer (some ⟨g, 0, none⟩), .int .i64 l, .int .i64 r] ks (mkq ks L R) := by
  obtain ⟨m1, m2, m3, m4, m5⟩ := Is.mk_pair hw hl hr h1 h2 h3
  rintro w F ⟨q, rfl, ha⟩
  refine (Ar.pair_any g q ks l r w ha hn).mono ?_
  rintro e w1 hq
  rcases hq with ⟨h, _⟩ | ⟨_, h, _⟩ | ⟨_, _, q', rfl, h4, h5⟩
  · rw [m1] at h; cases h
  · omega
  · exact ⟨_, _, _, rfl, ⟨rfl, m3, m4, m5⟩, ⟨q', rfl, h4⟩, h5⟩

set_option maxHeartbeats 1000000 in
theorem rpair_does (gs gb ga : Nat) (S : ByteArray) (ks : List Knot) (l r : Int) (L R : T) (hw : WF ks) (hl : Is ks l L) (hr : Is ks r R) (h1 : 0 < L.size) (h2 : 0 < R.size) (h3 : L.size + R.size ≤ 1099511627776) (hn : ks.length ≤ small) :
    Does Try.prog (resSt gs gb ga) 100 #[.pointer (some ⟨gs, 0, none⟩), .int .i64 l, .int .i64 r] (S, ks) (fun v s' => s'.1 = S ∧ mkq ks L R v s'.2) := by
  rintro w F ⟨rb, rf, q, rfl, h⟩
  have HL := Lib.hid ((does_ar (gs := gs) (gb := gb) (S := S) (pair_mk ga ks l r L R hw hl hr h1 h2 h3 hn)).run w _ (resSt_at h))
  obtain ⟨c0, c1⟩ := h.c
  have hlt := h.lt
  clear h hw hl hr h1 h2 h3 hn
  go_enter Try.func100, Try.ntmps100
  go_wp2_with fail
  ((with_reducible refine HL.out.mono ?_); rintro e w1 ⟨v, s', F', rfl, ⟨p1, rfl, p2⟩, p3, p4⟩)
  have HE := Lib.hid (And.intro p1 (And.intro p2 (And.intro p3 p4)))
  clear p1 p2 p3 p4 c0 c1 hlt HL
  go_wp2_with fail
  go_ret2
  exact ⟨_, s', F', rfl, ⟨HE.out.1, rfl, HE.out.2.1⟩, HE.out.2.2.1, HE.out.2.2.2⟩

/-! the same, where the knots are told. -/
theorem leaf_det (g : Nat) (ks : List Knot) (o n f : Int) (hok : (T.leaf o n f).ok) (hn : ks.length ≤ small) : Does Try.prog (resAr g) 91 #[.pointer (some ⟨g, 0, none⟩), .int .i64 o, .int .i64 n, .int .i64 f] ks (fun v ks' => v = .tuple #[.int .i64 (ks.length + 1 : Nat), .int .i64 0] ∧ ks' = ks ++ [leafK o n f]) := by
  rintro w F ⟨q, rfl, ha⟩
  simp only [T.ok] at hok
  have hb : leafBad o n f = false := by simp [leafBad]; omega
  refine (Ar.leaf_any g q ks o n f w ha hn).mono ?_
  rintro e w' (⟨h, _⟩ | ⟨_, q', rfl, h1, h2⟩)
  · rw [hb] at h; cases h
  · exact ⟨_, _, _, rfl, ⟨rfl, rfl⟩, ⟨q', rfl, h1⟩, h2⟩
theorem pair_det (g : Nat) (ks : List Knot) (l r : Int) (L R : T) (hw : WF ks) (hl : Is ks l L) (hr : Is ks r R) (h1 : 0 < L.size) (h2 : 0 < R.size) (h3 : L.size + R.size ≤ 1099511627776) (hn : ks.length ≤ small) :
    Does Try.prog (resAr g) 130 #[.pointer (some ⟨g, 0, none⟩), .int .i64 l, .int .i64 r] ks (fun v ks' => v = .tuple #[.int .i64 (ks.length + 1 : Nat), .int .i64 0] ∧ ks' = ks ++ [pairK ks l r]) := by
  obtain ⟨m1, m2, m3, m4, m5⟩ := Is.mk_pair hw hl hr h1 h2 h3
  rintro w F ⟨q, rfl, ha⟩
  refine (Ar.pair_any g q ks l r w ha hn).mono ?_
  rintro e w1 hq
  rcases hq with ⟨h, _⟩ | ⟨_, h, _⟩ | ⟨_, _, q', rfl, h4, h5⟩
  · rw [m1] at h; cases h
  · omega
  · exact ⟨_, _, _, rfl, ⟨rfl, rfl⟩, ⟨q', rfl, h4⟩, h5⟩

set_option maxHeartbeats 1000000 in
theorem rpair_det (gs gb ga : Nat) (S : ByteArray) (ks : List Knot) (l r : Int) (L R : T) (hw : WF ks) (hl : Is ks l L) (hr : Is ks r R) (h1 : 0 < L.size) (h2 : 0 < R.size) (h3 : L.size + R.size ≤ 1099511627776) (hn : ks.length ≤ small) :
    Does Try.prog (resSt gs gb ga) 100 #[.pointer (some ⟨gs, 0, none⟩), .int .i64 l, .int .i64 r] (S, ks) (fun v s' => s'.1 = S ∧ (v = .tuple #[.int .i64 (ks.length + 1 : Nat), .int .i64 0] ∧ s'.2 = ks ++ [pairK ks l r])) := by
  rintro w F ⟨rb, rf, q, rfl, h⟩
  have HL := Lib.hid ((does_ar (gs := gs) (gb := gb) (S := S) (pair_det ga ks l r L R hw hl hr h1 h2 h3 hn)).run w _ (resSt_at h))
  obtain ⟨c0, c1⟩ := h.c
  have hlt := h.lt
  clear h hw hl hr h1 h2 h3 hn
  go_enter Try.func100, Try.ntmps100
  go_wp2_with fail
  ((with_reducible refine HL.out.mono ?_); rintro e w1 ⟨v, s', F', rfl, ⟨p1, rfl, p2⟩, p3, p4⟩)
  have HE := Lib.hid (And.intro p1 (And.intro p2 (And.intro p3 p4)))
  clear p1 p2 p3 p4 c0 c1 hlt HL
  go_wp2_with fail
  go_ret2
  exact ⟨_, s', F', rfl, ⟨HE.out.1, rfl, HE.out.2.1⟩, HE.out.2.2.1, HE.out.2.2.2⟩

set_option maxHeartbeats 2000000 in
theorem rmake_det (gs gb ga : Nat) (S : ByteArray) (ks : List Knot) (s : ByteArray) (hs : s.size ≠ 0) (hw : WF ks) (hn : ks.length + 1 ≤ small) (hS : S.size + s.size ≤ 1000000) : Does Try.prog (resSt gs gb ga) 49 #[.pointer (some ⟨gs, 0, none⟩), .string s] (S, ks) (fun v s' => v = .tuple #[.int .i64 (ks.length + 1 : Nat), .int .i64 0] ∧ s' = (S ++ s, ks ++ [leafK S.size s.size (feedsV (S ++ s) S.size s.size)])) := by
  rintro w F ⟨rb, rf, q, rfl, h⟩
  have hne : s.toList.isEmpty = false := by
    rw [Lib.toList_data, List.isEmpty_eq_false_iff]
    exact fun e => hs (by rw [show s.size = s.data.toList.length from rfl, e]; rfl)
  have hz : (S ++ s).size = S.size + s.size := ByteArray.size_append
  have hfb := feedsV_bd (S := S ++ s) (o := S.size) (n := s.size) (by omega) (by omega) (by omega)
  have HF := Lib.hid hfb
  have HA := Lib.hid (And.intro h hw)
  obtain ⟨c0, c1⟩ := h.c
  have hlt := h.lt
  have HADD := Lib.hid (Buf.add_any gb rb rf S s w h.buf hS)
  have HZ := Lib.hid hz
  have HSZ := Lib.hid (And.intro hS hs)
  have hs1 : s.size ≤ 1000000 := by omega
  have hs2 : 1 ≤ s.size := by omega
  have hs3 : S.size ≤ 1000000 := by omega
  clear h hw hfb hz
  go_enter Try.func49, Try.ntmps49
  go_wp2_with fail
  ((with_reducible refine HADD.out.mono ?_); rintro e w1 ⟨rb', rf', rfl, hb1, hf1⟩)
  obtain ⟨h1, h2⟩ := HA.out.1.buffer hb1 hf1
  have HB := Lib.hid (And.intro h1 h2)
  clear hb1 hf1 h1 h2 c0 c1 hlt HADD hne hs
  go_wp2_with fail
  have HR : Hid (∀ s' bs w', (resCls (resSt gs gb ga) w1 (sfoot gb ga rb' rf' q)).In s' bs w' → w'.cell? ⟨gs, 0, none⟩ = some (.pointer (some ⟨gb, 0, none⟩)) ∧ w'.cell? ⟨gs, 1, none⟩ = some (.pointer (some ⟨ga, 0, none⟩))) := Lib.hid (fun s' bs w' hw' =>
    ⟨(resCls_cell hw' HB.out.1.lt (fun e => e.elim HB.out.1.sb HB.out.1.sa) 0).trans HB.out.1.c.1, (resCls_cell hw' HB.out.1.lt (fun e => e.elim HB.out.1.sb HB.out.1.sa) 1).trans HB.out.1.c.2⟩)
  refine wp_region_thr (resCls (resSt gs gb ga) w1 (sfoot gb ga rb' rf' q)) (S ++ s, ks) 20 [0, 1, 2, 3, 4, 5, 6, 7, 8, 9, 10, 11, 12, 13, 14, 15, 16, 17, 18, 19] _ (by kernel_rfl) (by kernel_rfl) (by kernel_rfl) rfl (resCls_start (resSt_at HB.out.1)) ?_
  (simp only [List.filterMap_cons, List.filterMap_nil, List.getElem?_cons_zero, List.getElem?_cons_succ, List.drop_succ_cons, List.drop_zero, List.drop_nil])
  iterate 14 ((refine wpThr_val rfl rfl rfl ?_; apply Exists.intro; refine ⟨fun s1 bs1 w1 hb1 hw1 => ?_, ?_⟩); (have hc1 := HR.out s1 bs1 w1 hw1; go_simp; exact growUpon_ok rfl); (refine wpThr_at (by (simp only [Act.put, List.setIfInBounds_toArray, List.set_cons_succ, List.set_cons_zero]) <;> exact rfl) ?_))
  refine wpThr_call (fun v s' => v = .int .i64 (feedsV (S ++ s) S.size s.size) ∧ s' = (S ++ s, ks)) rfl rfl rfl ?_ ?_
  · intro bs1 w1 hb1 hw1
    go_simp
    exact resCls_upon (rfeeds_does gs gb ga (S ++ s) ks S.size s.size (by rw [HZ.out]; exact HSZ.out.1)) hw1
  rintro v st ⟨rfl, rfl⟩
  (refine wpThr_at (by (simp only [Act.put, List.setIfInBounds_toArray, List.set_cons_succ, List.set_cons_zero]) <;> exact rfl) ?_)
  have hok : (T.leaf S.size s.size (feedsV (S ++ s) S.size s.size)).ok := by
    have := HF.out
    simp only [T.ok]
    omega
  have HL := Lib.hid (does_ar (gs := gs) (gb := gb) (S := S ++ s) (leaf_det ga ks S.size s.size (feedsV (S ++ s) S.size s.size) hok (by omega)))
  have HF2 := Lib.hid (rfl : mkT S s = mkT S s)
  clear hok
  generalize hfd : feedsV (S ++ s) S.size s.size = fd at HL ⊢
  have HFD := Lib.hid hfd
  clear hfd
  refine wpThr_call (fun v s' => s'.1 = S ++ s ∧ (v = .tuple #[.int .i64 (ks.length + 1 : Nat), .int .i64 0] ∧ s'.2 = ks ++ [leafK S.size s.size fd])) rfl rfl rfl ?_ ?_
  · intro bs1 w1 hb1 hw1
    go_simp
    exact resCls_upon HL.out hw1
  rintro v ⟨S2, ks2⟩ ⟨rfl, rfl, p1⟩
  simp only at p1
  (refine wpThr_at (by (simp only [Act.put, List.setIfInBounds_toArray, List.set_cons_succ, List.set_cons_zero]) <;> exact rfl) ?_)
  iterate 4 ((refine wpThr_val rfl rfl rfl ?_; apply Exists.intro; refine ⟨fun s1 bs1 w1 hb1 hw1 => ?_, ?_⟩); (have hc1 := HR.out s1 bs1 w1 hw1; go_simp; exact growUpon_ok rfl); (refine wpThr_at (by (simp only [Act.put, List.setIfInBounds_toArray, List.set_cons_succ, List.set_cons_zero]) <;> exact rfl) ?_))
  refine wpThr_nil ?_
  rintro w2 ⟨F2, ha2, hf2, _⟩
  have HE := Lib.hid (And.intro p1 (And.intro ha2 (HB.out.2.trans hf2)))
  clear p1 ha2 hf2 HR
  go_wp2
  go_ret2
  obtain ⟨p1, ha2, hf2⟩ := HE.out
  refine ⟨_, rfl, S ++ s, ks2, ⟨rfl, rfl, ?_⟩, F2, ha2, hf2⟩
  rw [p1, HFD.out]

end Go.Proofs.Ytoeamnagmehpeaa.Kp


/- The mover: a store that is made anew, the map of what is moved, the store it is moved from, and where the three are told. */ -/
namespace Go.Proofs.Ytoeamnagmehpeaa.Kp
set_option linter.unusedSimpArgs false
set_option linter.unusedVariables false
open Go Go.RowKit Go.Proofs.Ytoeamnagmehpeaa.Rp Go.Proofs.Ytoeamnagmehpeaa.Wk
open Go.Proofs.Ytoeamnagmehpeaa.Ar (T Is Ext WF Knot getK getB getS Arena resAr small)

/-- a store, with the block that tells it. -/
def resTo (ts tb ta : Nat) : Res Sst where
  at_ := fun w F s => ∃ F1, (∀ b, F b ↔ (F1 b ∨ b = ts)) ∧ (resSt ts tb ta).at_ w F1 s
  below := fun {w w' F s} h hb => by
    obtain ⟨F1, h1, h2⟩ := h
    exact ⟨F1, h1, (resSt ts tb ta).below h2 hb⟩
  lt := fun {w F s} h b hb => by
    obtain ⟨F1, h1, h2⟩ := h
    rcases (h1 b).1 hb with h | rfl
    · exact (resSt _ tb ta).lt h2 b h
    · obtain ⟨rb, rf, q, _, h⟩ := h2; exact h.lt
theorem keepsTo (ts tb ta : Nat) : Keeps (resTo ts tb ta) := by
  intro w w' F G G' s h hf hd
  obtain ⟨F1, h1, rb, rf, q, rfl, h⟩ := h
  exact ⟨_, h1, rb, rf, q, rfl, Rp.St.keep h hf (fun k hk => hd k ((h1 k).2 (.inl hk))) (hd ts ((h1 ts).2 (.inr rfl)))⟩
theorem does_To {ts tb ta : Nat} {f : FuncId} {args : Array Value} {s : Sst} {Post : Value → Sst → Prop} (h : Does Try.prog (resSt ts tb ta) f args s Post) : Does Try.prog (resTo ts tb ta) f args s Post := by
  rintro w F ⟨F1, h1, h2⟩
  refine (h.run w F1 h2).mono ?_
  rintro e w' ⟨v, s', F', he, hp, ha, hf⟩
  exact ⟨v, s', fun b => F' b ∨ b = ts, he, hp, ⟨F', fun b => Iff.rfl, ha⟩, hf.weaken (fun b hb => (h1 b).2 (.inl hb)) (fun b hb => hb.elim .inl (fun e => .inr ((h1 b).2 (.inr e))))⟩

/-- a block that nobody changes. -/
def boxC (bv : Nat) (O : Obj) (w : World) (F : Nat → Prop) : Prop := w.heap[bv]? = some O ∧ ¬ F bv
theorem boxC_fr {bv : Nat} {O : Obj} {w w' : World} {F F' : Nat → Prop} (h : boxC bv O w F) (hf : Fr w F w' F') : boxC bv O w' F' :=
  ⟨hf.block h.1 h.2, hf.out (Array.getElem?_eq_some_iff.1 h.1).1 h.2⟩

section
variable (bv : Nat) (O : Obj) (bt ts tb ta gs gb ga : Nat) (rb rf q : Option Nat) (S : ByteArray) (ks : List Knot)
def resMv : Res (Vs Sst) := (resV (resTo ts tb ta) bt gs gb ga rb rf q S ks).with_ (boxC bv O) (fun h hf => boxC_fr h hf)
/-- one moved more is told. -/
theorem resMv_put {w w' : World} {F : Nat → Prop} {f f' : Int → Option Int} {n : Nat} {s : Sst} (h : (resMv bv O bt ts tb ta gs gb ga rb rf q S ks).at_ w F ((f, n), s)) (hm : MapI w' bt (n + 1) f') (hg : w.grownBy w' (some bt)) :
    (resMv bv O bt ts tb ta gs gb ga rb rf q S ks).at_ w' F ((f', n + 1), s) ∧ Fr w F w' F := by
  obtain ⟨h1, h2⟩ := resV_put (resTo ts tb ta) bt gs gb ga rb rf q S ks (keepsB (keepsTo ts tb ta) _ _ _ _ _ _ _) h.1 hm hg
  exact ⟨⟨h1, boxC_fr h.2 h2⟩, h2⟩
/-- another map beside it. -/
theorem keepsMv {bm : Nat} (hne : bv ≠ bm) : KeepsB (resMv bv O bt ts tb ta gs gb ga rb rf q S ks) bm gs gb ga rb rf q := by
  intro w w' F s h hf hn hs hg
  obtain ⟨h0, hb1, hb2⟩ := h
  obtain ⟨F1, h1, h2, h3, h4, h5⟩ := resV_of _ _ _ _ _ _ _ _ _ _ h0
  refine ⟨resV_mk _ _ _ _ _ _ _ _ _ _ h1 (keepsTo ts tb ta h2 hf fun b hb (e : b = bm) => hn (by rw [← e]; exact (h1 b).2 (.inl hb))) h3 (h4.fr hf fun e => hn ((h1 bm).2 (.inr e.symm))) ⟨Rp.St.keep h5.1 hf hs hg, h5.2⟩, hf.block hb1 hne, hb2⟩
/-- what is done to the new store. -/
theorem does_Mv {f : FuncId} {args : Array Value} {s : Sst} {m : (Int → Option Int) × Nat} {Post : Value → Sst → Prop} (h : Does Try.prog (resSt ts tb ta) f args s Post) :
    Does Try.prog (resMv bv O bt ts tb ta gs gb ga rb rf q S ks) f args (m, s) (fun v s' => Post v s'.2 ∧ s'.1 = m) :=
  (does_V (resTo ts tb ta) bt gs gb ga rb rf q S ks (does_To h)).with_
end

section
variable {w : World} {b n : Nat} {f : Int → Option Int}
theorem run_putI {o : Oper} {a : Act} (m x v : Operand) (hop : o.op = Op.mapUpdate 114 m x v) {k z : Int}
    (hm : a.eval m = .map (some b)) (h : MapI w b n f) (hn : n < 1000000) (hx : a.eval x = .int .i64 k) (hv : a.eval v = .int .i64 z) (hk : i64ok k) (hz : i64ok z) :
    ∃ w', (execOp a.eval o).run Try.prog w = .ok .skip w' ∧ MapI w' b (n + 1) (putF f k z) ∧ w.grownBy w' (some b) := by
  obtain ⟨D, h1, h2, hat⟩ := h.ex
  obtain ⟨w', hrun, r1, r2⟩ := World.ownsMap.update h1 (Maps.int_keyed int_under) map_under (by unfold maxLen; omega) (key := .int .i64 k) (val := .int .i64 z) (Maps.keyOf_int_mk int_under hk) (plainElem_int int_under hz)
  refine ⟨w', ?_, MapI.put_ r1 h2 hat, r2⟩
  simp [execOp, hop, hm, hx, hv, hrun, Result.andThen]
end

theorem thx_putMv {bv : Nat} {O : Obj} {bt ts tb ta gs gb ga : Nat} {rb rf q : Option Nat} {S : ByteArray} {ks : List Knot} {W w : World} {F0 : Nat → Prop} {bs : Made} {o : Oper} {a : Act} {m x v : Operand} {f : Int → Option Int} {n : Nat} {s : Sst} {k z : Int}
    (hw : (resCls (resMv bv O bt ts tb ta gs gb ga rb rf q S ks) W F0).In ((f, n), s) bs w) (hop : o.op = Op.mapUpdate 114 m x v)
    (hm : a.eval m = .map (some bt)) (hn : n < 1000000) (hx : a.eval x = .int .i64 k) (hv : a.eval v = .int .i64 z) (hk : i64ok k) (hz : i64ok z) :
    thxUpon Try.prog (resCls (resMv bv O bt ts tb ta gs gb ga rb rf q S ks) W F0) bs (fun _ s' => s' = ((putF f k z, n + 1), s)) w ((execOp a.eval o).run Try.prog w) := by
  obtain ⟨F, ha, hf, hb⟩ := hw
  obtain ⟨F1, g1, g2, g3, g4, g5⟩ := resV_of _ _ _ _ _ _ _ _ _ _ ha.1
  obtain ⟨w', hr, h1, h2⟩ := run_putI m x v hop hm g4 hn hx hv hk hz
  obtain ⟨h3, h4⟩ := resMv_put bv O bt ts tb ta gs gb ga rb rf q S ks ha h1 h2
  rw [hr]
  refine ⟨_, rfl, F, h3, hf.trans h4, fun y hy => ?_⟩
  obtain ⟨p1, p2, p3⟩ := hb y hy
  exact ⟨p1, (h4.keep _ (Array.getElem?_eq_some_iff.1 p2).1 p3).trans p2, p3⟩
end Go.Proofs.Ytoeamnagmehpeaa.Kp


/- The mover moves a leaf. */ -/
namespace Go.Proofs.Ytoeamnagmehpeaa.Kp
set_option linter.unusedSimpArgs false
set_option linter.unusedVariables false
open Go Go.RowKit Go.Proofs.Ytoeamnagmehpeaa.Rp Go.Proofs.Ytoeamnagmehpeaa.Wk
open Go.Proofs.Ytoeamnagmehpeaa.Ar (T Is Ext WF Knot getK getB getS Arena resAr small leafK)
open Go.Proofs.Ytoeamnagmehpeaa.Buf (BufS feedsV feedV feedB thereB sliceV)
attribute [local go_sem] lt_add1 lt_self1 size_ne size_ne' size_ne1 size_ne1'
attribute [local irreducible] wpGrow wpThr wpThx

def mvO (gs ts bt : Nat) : Obj := .cells #[.pointer (some ⟨gs, 0, none⟩), .pointer (some ⟨ts, 0, none⟩), .map (some bt)] 119 (0, 0)
set_option maxRecDepth 100000 in
set_option maxHeartbeats 4000000 in
theorem move_leaf (bv bt ts tb ta gs gb ga : Nat) (rb rf q : Option Nat) (S S' : ByteArray) (ks ks' : List Knot) (i : Int) (kn : Knot) (f : Int → Option Int) (n : Nat) (hl : kn.left = 0) (hi : i64ok i) (hn : n < 1000000) (hw : WF ks') (hk : ks'.length + 1 ≤ small)
    (hS : S.size ≤ 1000000) (h0 : (sliceV S kn.off kn.len).size ≠ 0) (hS' : S'.size + (sliceV S kn.off kn.len).size ≤ 1000000) :
    Does Try.prog (resMv bv (mvO gs ts bt) bt ts tb ta gs gb ga rb rf q S ks) 65 #[.pointer (some ⟨bv, 0, none⟩), .int .i64 i, kn.val] ((f, n), (S', ks'))
      (fun v s' => v = .tuple #[] ∧ s' = ((putF f i (ks'.length + 1 : Nat), n + 1), (S' ++ sliceV S kn.off kn.len, ks' ++ [leafK S'.size (sliceV S kn.off kn.len).size (feedsV (S' ++ sliceV S kn.off kn.len) S'.size (sliceV S kn.off kn.len).size)]))) := by
  rintro w F h
  have HH := Lib.hid h
  have HMK := Lib.hid (does_Mv bv (mvO gs ts bt) bt ts tb ta gs gb ga rb rf q S ks (m := (f, n)) (rmake_det ts tb ta S' ks' (sliceV S kn.off kn.len) h0 hw hk hS'))
  have HPI := Lib.hid (And.intro hi (And.intro hn (i64ok_of (k := ((ks'.length + 1 : Nat) : Int)) (by omega) (by unfold small at hk; omega))))
  have HSZ := Lib.hid hS
  generalize hQ : (sliceV S kn.off kn.len) = tx at *
  have HQ := Lib.hid hQ
  generalize S' ++ tx = S2 at *
  generalize ks' ++ [leafK S'.size tx.size (feedsV S2 S'.size tx.size)] = ks2 at *
  clear h h0 hw hk hS' hS hi hn hQ
  obtain ⟨left, right, off, len, high, leaves, feeds⟩ := kn
  simp only at hl HQ
  subst hl
  unfold Knot.val
  simp only
  go_enter Try.func65, Try.ntmps65
  go_wp2_with fail
  have hb0 : Below w.heap.size w (w.alloc (.cells #[.int .i64 0, .int .i64 right, .int .i64 off, .int .i64 len, .int .i64 high, .int .i64 leaves, .int .i64 feeds] 50)) := (Below.refl _ _).alloc (Nat.le_refl _) _
  have hkb : (w.alloc (.cells #[.int .i64 0, .int .i64 right, .int .i64 off, .int .i64 len, .int .i64 high, .int .i64 leaves, .int .i64 feeds] 50)).heap[w.heap.size]? = some (.cells #[.int .i64 0, .int .i64 right, .int .i64 off, .int .i64 len, .int .i64 high, .int .i64 leaves, .int .i64 feeds] 50 (0, 0)) := heap_alloc_new _ _
  have HB := Lib.hid (And.intro hb0 (And.intro hkb (And.intro ((resMv bv (mvO gs ts bt) bt ts tb ta gs gb ga rb rf q S ks).below HH.out hb0) (fun e => Nat.lt_irrefl _ ((resMv bv (mvO gs ts bt) bt ts tb ta gs gb ga rb rf q S ks).lt HH.out w.heap.size e)))))
  clear hb0 hkb
  generalize w.alloc (.cells #[.int .i64 0, .int .i64 right, .int .i64 off, .int .i64 len, .int .i64 high, .int .i64 leaves, .int .i64 feeds] 50) = W at HB ⊢
  have hfr : Fr w F W F := Fr.of_below HB.out.1
  have HF := Lib.hid hfr
  clear hfr
  generalize w.heap.size = kb at HB ⊢
  have HR : Hid (∀ s bs w1, (resCls (resMv bv (mvO gs ts bt) bt ts tb ta gs gb ga rb rf q S ks) W F).In s bs w1 → (w1.cell? ⟨bv, 0, none⟩ = some (.pointer (some ⟨gs, 0, none⟩)) ∧ w1.cell? ⟨bv, 1, none⟩ = some (.pointer (some ⟨ts, 0, none⟩)) ∧ w1.cell? ⟨bv, 2, none⟩ = some (.map (some bt))) ∧ w1.cell? ⟨kb, 2, none⟩ = some (.int .i64 off) ∧ w1.cell? ⟨kb, 3, none⟩ = some (.int .i64 len)) := Lib.hid (fun s bs w1 hw1 => by
    obtain ⟨_, g2, g3, g4⟩ := HB.out
    have hbx : W.heap[bv]? = some (.cells #[.pointer (some ⟨gs, 0, none⟩), .pointer (some ⟨ts, 0, none⟩), .map (some bt)] 119 (0, 0)) := g3.2.1
    have l1 := (Array.getElem?_eq_some_iff.1 hbx).1
    have l2 := (Array.getElem?_eq_some_iff.1 g2).1
    exact ⟨⟨(resCls_cell hw1 l1 g3.2.2 0).trans (cell_of_row W bv 0 _ _ (0, 0) hbx), (resCls_cell hw1 l1 g3.2.2 1).trans (cell_of_row W bv 1 _ _ (0, 0) hbx), (resCls_cell hw1 l1 g3.2.2 2).trans (cell_of_row W bv 2 _ _ (0, 0) hbx)⟩,
      (resCls_cell hw1 l2 g4 2).trans (cell_of_row W kb 2 _ _ (0, 0) g2), (resCls_cell hw1 l2 g4 3).trans (cell_of_row W kb 3 _ _ (0, 0) g2)⟩)
  have HBY := Lib.hid (show Does Try.prog (resMv bv (mvO gs ts bt) bt ts tb ta gs gb ga rb rf q S ks) 99 #[.pointer (some ⟨gs, 0, none⟩), .agg #[.int .i64 off, .int .i64 len]] ((f, n), (S', ks')) (fun v s' => v = .string tx ∧ s' = ((f, n), (S', ks'))) from Does.of_below fun w F ha => by
    obtain ⟨F1, g1, g2, g3, g4, g5⟩ := resV_of _ _ _ _ _ _ _ _ _ _ ha.1
    have h6 := rbytes_any gs gb ga rb rf q S ks w off len g5.1 HSZ.out
    rw [HQ.out] at h6
    exact h6)
  refine wp_region_thx' (resCls (resMv bv (mvO gs ts bt) bt ts tb ta gs gb ga rb rf q S ks) W F) (fun _ => True) ((f, n), (S', ks')) ((List.range 24).map fun i => (i, [])) _ (by kernel_rfl) (by kernel_rfl) (by kernel_rfl) (by kernel_rfl) rfl (resCls_start HB.out.2.2.1) ?_
  simp only [List.range, List.range.loop, List.map_cons, List.map_nil]
  (simp only [List.filterMap_cons, List.filterMap_nil, List.getElem?_cons_zero, List.getElem?_cons_succ, Option.map_some])
  ((refine wpThx_pure rfl rfl rfl rfl ?_; apply Exists.intro; refine ⟨fun w1 => ?_, ?_⟩); (go_simp; exact growUpon_ok rfl); (refine wpThx_at (by (simp only [Act.put, mval, List.setIfInBounds_toArray, List.set_cons_succ, List.set_cons_zero]) <;> exact rfl) ?_))
  iterate 3 ((refine wpThx_val rfl rfl rfl rfl trivial ?_; apply Exists.intro; refine ⟨fun s1 bs1 w1 hp1 hb1 hw1 => ?_, ?_⟩); (have hc1 := HR.out s1 bs1 w1 hw1; go_simp; exact growUpon_ok rfl); (refine wpThx_at (by (simp only [Act.put, mval, List.setIfInBounds_toArray, List.set_cons_succ, List.set_cons_zero]) <;> exact rfl) ?_))
  iterate 2 ((refine wpThx_pure rfl rfl rfl rfl ?_; apply Exists.intro; refine ⟨fun w1 => ?_, ?_⟩); (go_simp; exact growUpon_ok rfl); (refine wpThx_at (by (simp only [Act.put, mval, List.setIfInBounds_toArray, List.set_cons_succ, List.set_cons_zero]) <;> exact rfl) ?_))
  iterate 3 ((refine wpThx_val rfl rfl rfl rfl trivial ?_; apply Exists.intro; refine ⟨fun s1 bs1 w1 hp1 hb1 hw1 => ?_, ?_⟩); (have hc1 := HR.out s1 bs1 w1 hw1; go_simp; exact growUpon_ok rfl); (refine wpThx_at (by (simp only [Act.put, mval, List.setIfInBounds_toArray, List.set_cons_succ, List.set_cons_zero]) <;> exact rfl) ?_))
  ((refine wpThx_pure rfl rfl rfl rfl ?_; apply Exists.intro; refine ⟨fun w1 => ?_, ?_⟩); (go_simp; exact growUpon_ok rfl); (refine wpThx_at (by (simp only [Act.put, mval, List.setIfInBounds_toArray, List.set_cons_succ, List.set_cons_zero]) <;> exact rfl) ?_))
  iterate 8 ((refine wpThx_val rfl rfl rfl rfl trivial ?_; apply Exists.intro; refine ⟨fun s1 bs1 w1 hp1 hb1 hw1 => ?_, ?_⟩); (have hc1 := HR.out s1 bs1 w1 hw1; go_simp; exact growUpon_ok rfl); (refine wpThx_at (by (simp only [Act.put, mval, List.setIfInBounds_toArray, List.set_cons_succ, List.set_cons_zero]) <;> exact rfl) ?_))
  refine wpThx_call (fun v s' => v = .string tx ∧ s' = ((f, n), (S', ks'))) rfl rfl rfl (fun bs1 w1 hb1 hw1 => by
    go_simp
    exact thx_of_thr (resCls_upon HBY.out hw1)) (fun _ _ _ _ => trivial) ?_
  rintro v st ⟨rfl, rfl⟩
  (refine wpThx_at (by (simp only [Act.put, mval, List.setIfInBounds_toArray, List.set_cons_succ, List.set_cons_zero]) <;> exact rfl) ?_)
  refine wpThx_call (fun v s' => v = .tuple #[.int .i64 (ks'.length + 1 : Nat), .int .i64 0] ∧ s' = ((f, n), (S2, ks2))) rfl rfl rfl (fun bs1 w1 hb1 hw1 => by
    go_simp
    exact thx_of_thr (resCls_upon (Does.mono HMK.out fun v s' h => ⟨h.1.1, Prod.ext h.2 h.1.2⟩) hw1)) (fun _ _ _ _ => trivial) ?_
  rintro v st ⟨rfl, rfl⟩
  (refine wpThx_at (by (simp only [Act.put, mval, List.setIfInBounds_toArray, List.set_cons_succ, List.set_cons_zero]) <;> exact rfl) ?_)
  iterate 3 ((refine wpThx_pure rfl rfl rfl rfl ?_; apply Exists.intro; refine ⟨fun w1 => ?_, ?_⟩); (go_simp; exact growUpon_ok rfl); (refine wpThx_at (by (simp only [Act.put, mval, List.setIfInBounds_toArray, List.set_cons_succ, List.set_cons_zero]) <;> exact rfl) ?_))
  refine wpThx_call (fun _ s' => s' = ((putF f i (ks'.length + 1 : Nat), n + 1), (S2, ks2))) rfl rfl rfl (fun bs1 w1 hb1 hw1 => thx_putMv hw1 rfl rfl HPI.out.2.1 rfl rfl HPI.out.1 HPI.out.2.2) (fun _ _ _ _ => trivial) ?_
  rintro v st rfl
  (refine wpThx_at (by (simp only [Act.put, mval, List.setIfInBounds_toArray, List.set_cons_succ, List.set_cons_zero]) <;> exact rfl) ?_)
  refine wpThx_nil ?_
  rintro w2 ⟨F2, ha2, hf2, _⟩
  have HE := Lib.hid (And.intro ha2 (HF.out.trans hf2))
  clear ha2 hf2 HR
  go_wp2
  refine bodyPost_ret (v := .tuple #[]) (by simp [results, Try.results65, go_sem]) rfl ?_
  exact ⟨_, _, F2, rfl, ⟨rfl, rfl⟩, HE.out.1, HE.out.2⟩
end Go.Proofs.Ytoeamnagmehpeaa.Kp
