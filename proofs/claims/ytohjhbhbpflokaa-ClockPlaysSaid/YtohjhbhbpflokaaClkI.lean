
/- Put, where there is no room. -/
import Derived.Test.YtohjhbhbpflokaaClkH
namespace Go.Proofs.Ytohjhbhbpflokaa.Ck
set_option linter.unusedSimpArgs false
set_option linter.unusedVariables false
open Go Go.RowKit Go.WideElems Go.MapKept Go.ChangeMaps Go.ChangeShapes Go.WideShapes
set_option linter.unusedVariables false
attribute [local go_sem] lt_add1 lt_self1 size_ne size_ne' size_ne1 size_ne1'
theorem setBlock_fr {w : World} {b : Nat} (O : Obj) : Fr w (fun k => k = b) (setBlock w b O) (fun k => k = b) :=
  ⟨rfl, rfl, rfl, by simp [setBlock], fun k hk hn => by
    simp only [setBlock]
    rw [Array.getElem?_setIfInBounds_ne (fun e => hn e.symm)], fun k hk => .inl hk⟩
theorem CkRaw.full {c m g cp n i : Nat} {w w7 : World} {F : Nat → Prop} {s : CS} {e : CE} {k : Int} {v : ByteArray} (h : CkRaw c m g cp w F s n) (hn : n + 1 ≤ 1000) (hk : i64ok k) (he : s.row[i]? = some e) (hno : k ∉ keys s.row)
    (hB : CkBlk w7 c m (.slice (some ⟨g, 0, none⟩) s.row.length cp) s.hand s.most) (ho : w7.ownsRow 0 55 3 (.slice (some ⟨g, 0, none⟩) (s.row.set i ⟨k, v, true⟩).length cp) (s.row.set i ⟨k, v, true⟩).length ((s.row.set i ⟨k, v, true⟩).flatMap ec))
    (hM : MapI w7 m (n + 1) (putF (delF (kF (keys s.row)) e.key) k i)) : CkRaw c m g cp w7 F { s with row := s.row.set i ⟨k, v, true⟩ } (n + 1) := by
  have hi := (List.getElem?_eq_some_iff.1 he).1
  have hks : keys (s.row.set i ⟨k, v, true⟩) = (keys s.row).set i k := keys_set' _ _ _
  refine ⟨h.foot, h.cm, h.gc, h.gm, ?_, ho, ?_, ⟨⟨?_, ?_, ?_⟩, ?_, hn, ?_, h.good.most⟩⟩
  · simp only [List.length_set]
    exact hB
  · have e1 : kF (keys (s.row.set i ⟨k, v, true⟩)) = putF (delF (kF (keys s.row)) e.key) k i := by
      rw [hks, kF_set h.good.ok.nodup hno (keys_get he)]
      rfl
    simp only [e1]
    exact hM
  · rw [hks]; exact nodup_set h.good.ok.nodup hno
  · rcases h.good.ok.hand with a | ⟨a, a2⟩
    · exact Or.inl (by simpa using a)
    · rw [a2] at hi; simp at hi
  · simpa using h.good.ok.most
  · have := h.good.le
    simp
    omega
  · intro j hj
    rw [hks] at hj
    rcases List.mem_or_eq_of_mem_set hj with a | a
    · exact h.good.keys j a
    · rw [a]; exact hk
set_option maxHeartbeats 8000000 in
set_option maxRecDepth 100000 in
/-- of a new key, where there is no room. -/
theorem put_full (c : Nat) (s : CS) (n : Nat) (k : Int) (v : ByteArray) (hk : i64ok k) (hn : n + 1 ≤ 1000) (hm : ¬ s.most = 0) (hx : kx (keys s.row) k = none) (hrm : ¬ s.row.length < s.most) : Does Try.prog (resCk c) 8 #[.pointer (some ⟨c, 0, none⟩), .int .i64 k, .string v] (s, n)
    (fun _ s' => s' = (putS s k v, n + 1)) := by
  rintro w F h
  have hkf : kF (keys s.row) k = none := by unfold kF; rw [hx]; rfl
  have hp : 0 < s.row.length := by omega
  obtain ⟨m, g, cp, hr⟩ := (resCk_of h).raw hp
  have hm' : (((s.most : Nat) : Int) == 0) = false := by simpa using hm
  have hrm' : ¬ ((s.row.length : Int) < s.most) := by omega
  have hps : putS s k v = { s with row := (victim s.row s.hand).1.set (victim s.row s.hand).2 ⟨k, v, true⟩, hand := ((victim s.row s.hand).2 + 1) % s.row.length } := by
    unfold putS
    rw [if_neg hm, hx]
    simp only
    rw [if_neg hrm]
  have hokp := putS_ok hr.good.ok k v
  have HP := Lib.hid (And.intro hps hokp)
  have hsm : s.row.length ≤ 1000 := Nat.le_trans hr.good.le hr.good.small
  have HR := Lib.hid hr
  obtain ⟨c0, c1, c2, c3, hlt, hgl, hfc, hfg⟩ := hr.cells
  clear h hr hps hfc hfg c0 c2 hokp
  go_enter Try.func8, Try.ntmps8
  go_upto_region 2 with fail
  have hb1 : Below w.heap.size w (w.alloc (.cells #[.int .i64 k, .string v, .bool true] 55)) := (Below.refl _ _).alloc (Nat.le_refl _) _
  have x0 := heap_alloc_new w (.cells #[.int .i64 k, .string v, .bool true] 55)
  have HW := Lib.hid (And.intro (HR.out.below hb1) (And.intro (Fr.of_below hb1 : Fr w F _ F) (show ¬ F w.heap.size from fun h => Nat.lt_irrefl _ ((resCk c).lt HR.out.at_ _ h))))
  clear hb1 c1 c3 hlt hgl HR
  generalize w.alloc (.cells #[.int .i64 k, .string v, .bool true] 55) = W at x0 HW ⊢
  generalize w.heap.size = bx at x0 HW ⊢
  have y0 := cell_of_row W bx 0 _ _ (0, 0) x0
  have y1 := cell_of_row W bx 1 _ _ (0, 0) x0
  have y2 := cell_of_row W bx 2 _ _ (0, 0) x0
  simp only [List.getElem?_toArray, List.getElem?_cons_zero, List.getElem?_cons_succ] at y0 y1 y2
  have xlt := (Array.getElem?_eq_some_iff.1 x0).1
  obtain ⟨c0, c1, c2, c3, hlt, hgl, hfc, hfg⟩ := HW.out.1.cells
  have hlk := HW.out.1.map.look_ok hk
  rw [hkf] at hlk
  simp only [Option.getD_none, Option.isSome_none] at hlk
  go_upto_region 5 with fail
  go_region
  have HW2 := Lib.hid (And.intro (HW.out.1.below ((Below.refl _ _).drew)) (And.intro ((HW.out.2.1).trans (Fr.of_below ((Below.refl _ _).drew))) (And.intro HW.out.2.2 (show W.drew.heap[bx]? = _ from x0))))
  have xlt2 : bx < W.drew.heap.size := xlt
  clear c0 c1 c2 c3 hlt hgl hfc hfg y0 y1 y2 xlt x0 HW hlk
  generalize W.drew = W2 at HW2 xlt2 ⊢
  go_upto_region 9 with fail
  ((with_reducible refine ((victim_any c s n hp).run W2 F (resCk_to HW2.out.1.at_)).mono ?_); rintro _ w3 ⟨_, _, F3, rfl, ⟨rfl, rfl⟩, hat3, hf3⟩)
  have hpos := ok_pos HW2.out.1.good.ok hp
  obtain ⟨hky, hl3, _, hi⟩ := victim_vd hpos
  have hps := HP.out
  clear HP
  generalize (victim s.row s.hand).1 = row3 at hky hl3 hat3 hps ⊢
  generalize (victim s.row s.hand).2 = i at hi hat3 hps ⊢
  obtain ⟨m3, g3, cp3, hr3⟩ := (resCk_of hat3).raw (by show 0 < row3.length; omega)
  obtain ⟨e, he⟩ : ∃ e, row3[i]? = some e := ⟨_, List.getElem?_eq_getElem (by omega)⟩
  have hx3 := hf3.block HW2.out.2.2.2 HW2.out.2.2.1
  have H3 := Lib.hid (And.intro hr3 (And.intro he (And.intro (HW2.out.2.1.trans hf3) (And.intro hx3 (And.intro hps (And.intro hky (hf3.out xlt2 HW2.out.2.2.1)))))))
  obtain ⟨c0, c1, c2, c3, hlt, hgl, hfc, hfg⟩ := hr3.cells
  obtain ⟨d0, d1, d2, _⟩ := row_cells hr3.own he
  have hik : i64ok e.key := hr3.good.keys _ (List.mem_map_of_mem (List.mem_of_getElem? he))
  obtain ⟨W4, hdel0, hM4, hT4⟩ := (hr3.map.below ((Below.refl _ _).drew)).drop hik 0
  have hdel : ∀ ty, (Builtin.delete_ #[50, 3] ty #[.map (some m3), .int .i64 e.key]).run Try.prog w3.drew = .ok (.tuple #[]) W4 := fun ty => hdel0
  have H4 := Lib.hid (And.intro hM4 hT4)
  simp only at c0
  rw [hl3] at c0
  clear hdel0 hM4 hT4 hat3 hf3 hps hpos hr3 he hx3 hky HW2 hfc
  go_wp2_with fail
  go_region
  clear hdel c0 c1 c2 c3 hlt hgl hfg d0 d1 d2
  have hfT : Fr w3 (fun b => b = m3) W4 (fun b => b = m3) := (Fr.of_below ((Below.refl _ _).drew)).trans (turned_fr H4.out.2)
  have hcm := H3.out.1.cm
  have hgm := H3.out.1.gm
  have hgc := H3.out.1.gc
  have hnf := H3.out.2.2.2.2.2.2
  have hmb : ¬ bx = m3 := fun e => hnf ((H3.out.1.foot bx).2 (.inr (.inl e)))
  have hbg : ¬ bx = g3 := fun e => hnf ((H3.out.1.foot bx).2 (.inr (.inr e)))
  have hbc : ¬ bx = c := fun e => hnf ((H3.out.1.foot bx).2 (.inl e))
  have hi3 : i < row3.length := by omega
  have hB4 : CkBlk W4 c m3 (.slice (some ⟨g3, 0, none⟩) row3.length cp3) i s.most := hfT.block H3.out.1.blk hcm
  have ho4 := hfT.own H3.out.1.own (fun b hb e => hgm (by simp [Value.ownBlock] at hb; omega))
  obtain ⟨d0, d1, d2, hgl⟩ := row_cells ho4 H3.out.2.1
  have hb4 := hB4
  unfold CkBlk at hb4
  have c0 := cell_of_row W4 c 0 _ _ (0, 0) hb4
  have c1 := cell_of_row W4 c 1 _ _ (0, 0) hb4
  have hlt := (Array.getElem?_eq_some_iff.1 hb4).1
  have hx4 := hfT.block H3.out.2.2.2.1 hmb
  have y0 := cell_of_row W4 bx 0 _ _ (0, 0) hx4
  have y1 := cell_of_row W4 bx 1 _ _ (0, 0) hx4
  have y2 := cell_of_row W4 bx 2 _ _ (0, 0) hx4
  have xlt := (Array.getElem?_eq_some_iff.1 hx4).1
  simp only [List.getElem?_toArray, List.getElem?_cons_zero, List.getElem?_cons_succ] at c0 c1 y0 y1 y2
  have hfg : ∀ o, W4.frozen? ⟨g3, o, none⟩ = false := fun o => by
    rcases ho4.2 with ⟨q, _⟩ | ⟨g', cap', cur, q1, q2, q3, _⟩
    · simp at q
    · obtain ⟨rfl, rfl⟩ : g3 = g' ∧ cp3 = cap' := by simpa using q1
      simp [World.frozen?, q3]
  have hno : k ∉ keys row3 := by rw [H3.out.2.2.2.2.2.1]; exact kx_none.1 hx
  have hdk : delF (kF (keys row3)) e.key k = none := by
    unfold delF
    by_cases e1 : k = e.key
    · rw [if_pos e1]
    · rw [if_neg e1]; unfold kF; rw [kx_none.2 hno]; rfl
  have hfE := setE_fr W4 g3 i ⟨k, v, true⟩
  have hM5 := (H4.out.1.fr hfE (fun e => hgm e.symm)).below ((Below.refl _ _).drew)
  obtain ⟨v0, st, O, _, hME, hES⟩ := hM5.entry (by omega) hk hdk
  have hi64 : i64ok (i : Int) := i64ok_of (by omega) (by omega)
  obtain ⟨es5, ck5, hb5⟩ : ∃ es ck, (setE W4 g3 i ⟨k, v, true⟩).drew.heap[m3]? = some (.map es ck) := by
    obtain ⟨D, ⟨es, ck, q1, _⟩, _⟩ := hM5.ex
    exact ⟨es, ck, q1⟩
  obtain ⟨W6, hW6⟩ : ∃ W6, W6 = setBlock (setE W4 g3 i ⟨k, v, true⟩).drew m3 O := ⟨_, rfl⟩
  rw [← hW6] at hME
  obtain ⟨O2, hrun2, hM8⟩ := hES W6 i (by rw [hW6]; exact heap_setBlock_same hb5 _) hi64
  have hfW6 : Fr W4 (fun b => b = g3 ∨ b = m3) W6 (fun b => b = g3 ∨ b = m3) := by
    rw [hW6]
    exact ((hfE.weaken (fun b hb => .inl hb) (fun b hb => .inr hb)).trans (Fr.of_below ((Below.refl _ _).drew))).trans ((setBlock_fr O).weaken (fun b hb => .inr hb) (fun b hb => .inr hb))
  have ho6 : W6.ownsRow 0 55 3 (.slice (some ⟨g3, 0, none⟩) (row3.set i ⟨k, v, true⟩).length cp3) (row3.set i ⟨k, v, true⟩).length ((row3.set i ⟨k, v, true⟩).flatMap ec) := by
    rw [hW6]
    exact (setBlock_fr O).own (own_below (own_setE ho4 hi3 ⟨k, v, true⟩) ((Below.refl _ _).drew)) (fun b hb e => hgm (by simp [Value.ownBlock] at hb; omega))
  obtain ⟨W8, hW8⟩ : ∃ W8, W8 = setBlock W6 m3 O2 := ⟨_, rfl⟩
  rw [← hW8] at hrun2 hM8
  have hfW8 : Fr W6 (fun b => b = m3) W8 (fun b => b = m3) := by rw [hW8]; exact setBlock_fr O2
  have hR8 := H3.out.1.full (v := v) (by omega) hk H3.out.2.1 hno (w7 := W8) (hfW8.block (hfW6.block hB4 (fun e => e.elim (fun e => hgc e.symm) hcm)) hcm) (hfW8.own ho6 (fun b hb e => hgm (by simp [Value.ownBlock] at hb; omega))) hM8
  have hfoot := H3.out.1.foot
  have hall : Fr w F W8 F3 := ((H3.out.2.2.1.trans (hfT.weaken (fun b hb => (hfoot b).2 (.inr (.inl hb))) (fun b hb => .inr hb))).trans (hfW6.weaken (fun b hb => (hfoot b).2 (.inr (hb.elim .inr .inl))) (fun b hb => .inr hb))).trans (hfW8.weaken (fun b hb => (hfoot b).2 (.inr (.inl hb))) (fun b hb => .inr hb))
  have H8 := Lib.hid (And.intro hR8 hall)
  have hME2 : (Instr.mapEntry 50 (.map (some m3)) (.int .i64 k)).run Try.prog (((W4.setCell ⟨g3, i * 3, none⟩ (.int .i64 k)).setCell ⟨g3, i * 3 + 1, none⟩ (.string v)).setCell ⟨g3, i * 3 + 2, none⟩ (.bool true)).drew = .ok (.tuple #[v0, goInt st]) W6 := hME
  have hiI : (i : Int) < row3.length := by omega
  clear hB4 ho4 hb4 hx4 hno hdk hfE hM5 hES hb5 hW6 hfW6 ho6 hW8 hfW8 hR8 hall hfoot hfT hM8 hnf hME
  unfold goInt at *
  go_upto_region 10 with fail
  go_region
  clear hrun2 hME2 d0 d1 d2 c0 c1 y0 y1 y2 hfg
  have hl8 : (row3.set i (⟨k, v, true⟩ : CE)).length = s.row.length := by rw [List.length_set]; exact hl3
  have hp8 : 0 < ({ row := row3.set i ⟨k, v, true⟩, hand := i, most := s.most } : CS).row.length := by show 0 < (row3.set i (⟨k, v, true⟩ : CE)).length; omega
  have HO := Lib.hid (on_raw c { row := row3.set i ⟨k, v, true⟩, hand := i, most := s.most } (n + 1) hp8 W8 F3 H8.out.1.at_)
  have ho := on_at hp8 (H8.out.1.at_) ((H8.out.1.foot c).2 (.inl rfl))
  have HA := Lib.hid ho
  clear ho
  go_wp2_with fail
  ((with_reducible refine HO.out.mono ?_); rintro _ w9 ⟨⟨u, rfl⟩, hw9⟩)
  have H9 := Lib.hid (show CkAt c w9 F3 (putS s k v, n + 1) ∧ Fr w F w9 F3 from by
    rw [hw9, H3.out.2.2.2.2.1.1, ← hl8]
    exact ⟨HA.out.1, H8.out.2.trans HA.out.2⟩)
  clear hw9
  go_wp2_with fail
  go_end0
  exact ⟨_, _, F3, rfl, rfl, H9.out.1, H9.out.2⟩
theorem put_any (c : Nat) (s : CS) (n : Nat) (k : Int) (v : ByteArray) (hk : i64ok k) (hn : n + 1 ≤ 1000) : Does Try.prog (resCk c) 8 #[.pointer (some ⟨c, 0, none⟩), .int .i64 k, .string v] (s, n)
    (fun _ s' => ∃ n', n' ≤ n + 1 ∧ s' = (putS s k v, n')) := by
  by_cases hm : s.most = 0
  · exact (put_zero c s n k v hm).mono fun _ s' h => ⟨n, by omega, h⟩
  · cases hx : kx (keys s.row) k with
    | some i => exact (put_old c s n k v hk hm i hx).mono fun _ s' h => ⟨n, by omega, h⟩
    | none =>
      by_cases hr : s.row.length < s.most
      · exact (put_room c s n k v hk hn hx hr).mono fun _ s' h => ⟨n + 1, by omega, h⟩
      · exact (put_full c s n k v hk hn hm hx hr).mono fun _ s' h => ⟨n + 1, by omega, h⟩
end Go.Proofs.Ytohjhbhbpflokaa.Ck
