
/- Drop. -/
import Derived.Test.YtohjhbhbpflokaaClkE
namespace Go.Proofs.Ytohjhbhbpflokaa.Ck
set_option linter.unusedSimpArgs false
set_option linter.unusedVariables false
open Go Go.RowKit
set_option linter.unusedVariables false
attribute [local go_sem] lt_add1 lt_self1 size_ne size_ne' size_ne1 size_ne1'
theorem CkAt.fr {c : Nat} {w w' : World} {F G G' : Nat → Prop} {x : CS × Nat} (h : CkAt c w F x) (hf : Fr w G w' G') (hd : ∀ b, F b → ¬ G b) : CkAt c w' F x := by
  obtain ⟨v, m, h1, h2, h3, h4, h5, h6, h7, h8⟩ := h
  exact ⟨v, m, h1, h2, h3, h4, hf.block h5 (hd c ((h1 c).2 (.inl rfl))), hf.own h6 (fun b hb => hd b ((h1 b).2 (.inr (.inr hb)))), h7.fr hf (hd m ((h1 m).2 (.inr (.inl rfl)))), h8⟩
theorem drop_nil (fv : Value) (w : World) : Calls Try.prog 15 #[.pointer none, fv] w fun e w' => e = .returned (.int .i64 0) ∧ Below w.heap.size w w' := by
  go_enter Try.func15, Try.ntmps15
  go_wp2_with fail
  go_ret
  exact ⟨rfl, Below.refl _ _⟩
section
variable {σ : Type} (R : Res σ) (kf : Nat) (pre caps : Array Value) (p : Int → Bool) (sgs : Nat → σ)
/-- a resource that stays as long as nothing of its own is written. -/
structure KeepsR : Prop where
  keep : ∀ {w w' : World} {F G G' : Nat → Prop} {x : σ}, R.at_ w F x → Fr w G w' G' → (∀ b, F b → ¬ G b) → R.at_ w' F x
/-- what holds in Drop's loop. -/
structure DropI (s : CS) (w : World) (G : Nat → Prop) (k k2 : Nat) (out : Value) (wr : World) (Gk : Nat → Prop) : Prop where
  rs : R.at_ wr Gk (sgs k2)
  own : wr.ownsRow w.heap.size 55 3 out (keepR p s.row k).length ((keepR p s.row k).flatMap ec)
  og : ∀ b, out.ownBlock = some b → ¬ Gk b
  fr : Fr w G wr (fun b => Gk b ∨ out.ownBlock = some b)
theorem DropI.call {s : CS} {w wr w2 : World} {G Gk G2 : Nat → Prop} {k k2 : Nat} {out : Value} (h : DropI R p sgs s w G k k2 out wr Gk) (hf : Fr wr Gk w2 G2) (ha : R.at_ w2 G2 (sgs (k2 + 1))) : DropI R p sgs s w G k (k2 + 1) out w2 G2 :=
  ⟨ha, hf.own h.own h.og, fun b e => hf.out (h.own.lt b e).2 (h.og b e), h.fr.trans (hf.weaken (fun b hb => .inl hb) (fun b hb => hb.elim .inl (fun e => .inr (.inr e))))⟩
theorem DropI.below {s : CS} {w wr w2 : World} {G Gk : Nat → Prop} {k k2 : Nat} {out : Value} (h : DropI R p sgs s w G k k2 out wr Gk) (hb : Below wr.heap.size wr w2) : DropI R p sgs s w G k k2 out w2 Gk :=
  ⟨R.below h.rs hb, own_below h.own hb, h.og, h.fr.trans (Fr.of_below hb)⟩
theorem DropI.push {s : CS} {w wr w7 : World} {G Gk : Nat → Prop} {k k2 g cap : Nat} {out : Value} {e : CE} {L : List CE} (hL : keepR p s.row k = L) (hkp : KeepsR R) (h : DropI R p sgs s w G k k2 out wr Gk) (he : s.row[k]? = some e) (hp : p e.key = false) (hf : Fr wr (fun b => out.ownBlock = some b) w7 (fun b => b = g))
    (ho : w7.ownsRow w.heap.size 55 3 (.slice (some ⟨g, 0, none⟩) (L.length + 1) cap) (L.length + 1) (L.flatMap ec ++ ec e)) : DropI R p sgs s w G (k + 1) k2 (.slice (some ⟨g, 0, none⟩) (L.length + 1) cap) w7 Gk := by
  have hk : keepR p s.row (k + 1) = L ++ [e] := by rw [keepR_succ he, hp, hL]; rfl
  refine ⟨hkp.keep h.rs hf (fun b hb e => h.og b e hb), ?_, fun b e hb => ?_, h.fr.trans (hf.weaken (fun b hb => .inr hb) (fun b hb => hb.elim (fun hb => .inr (.inl hb)) (fun e => .inl (by simpa [Value.ownBlock, eq_comm] using e))))⟩
  · rw [hk, List.length_append, List.flatMap_append]
    simpa using ho
  · have e : g = b := by simpa [Value.ownBlock] using e
    subst e
    rcases hf.new g rfl with e1 | e1
    · exact h.og g e1 hb
    · have := R.lt h.rs g hb; omega
theorem DropI.skip {s : CS} {w wr : World} {G Gk : Nat → Prop} {k k2 : Nat} {out : Value} {e : CE} (h : DropI R p sgs s w G k k2 out wr Gk) (he : s.row[k]? = some e) (hp : p e.key = true) : DropI R p sgs s w G (k + 1) k2 out wr Gk := by
  have hk : keepR p s.row (k + 1) = keepR p s.row k := by rw [keepR_succ he, hp]; rfl
  exact ⟨h.rs, by rw [hk]; exact h.own, h.og, h.fr⟩
set_option maxHeartbeats 8000000 in
set_option maxRecDepth 100000 in
theorem drop_any (hkp : KeepsR R) (eg : ∀ args w, (callFunc kf args).run Try.prog w = .ok (.enter kf args) w) (c : Nat) (s : CS) (n : Nat) (w : World) (F G : Nat → Prop) (h : CkAt c w F (s, n)) (hR : R.at_ w G (sgs 0)) (hdis : ∀ b, F b → ¬ G b)
    (hdo : ∀ (i : Nat) (k : Int), (keys s.row)[i]? = some k → Does Try.prog R kf (pre ++ (#[.int .i64 k] ++ caps)) (sgs i) (fun v s' => v = .bool (p k) ∧ s' = sgs (i + 1))) :
    Calls Try.prog 15 #[.pointer (some ⟨c, 0, none⟩), .func (.func kf) pre caps] w fun e w' => ∃ F' G' n', e = .returned (.int .i64 ((dropS s p).2 : Nat)) ∧ CkAt c w' F' ((dropS s p).1, n') ∧ n' ≤ n ∧ R.at_ w' G' (sgs s.row.length) ∧ (∀ b, F' b → ¬ G' b) ∧ Fr w (fun b => F b ∨ G b) w' (fun b => F' b ∨ G' b) := by
  obtain ⟨v, m, h1, h2, h3, h4, h5, h6, h7, h8⟩ := id h
  obtain ⟨A, cp, rfl, _, _⟩ := SlAt.of_own h6
  have c0 := cell_of_row w c 0 _ _ (0, 0) h5
  have c2 := cell_of_row w c 2 _ _ (0, 0) h5
  have hlt := (Array.getElem?_eq_some_iff.1 h5).1
  simp only [List.getElem?_toArray, List.getElem?_cons_zero, List.getElem?_cons_succ] at c0 c2
  have hsm : s.row.length ≤ 1000 := Nat.le_trans h8.le h8.small
  obtain ⟨i0, hi, hz0, hz1, hz2⟩ := info_parts ent_info
  have H0 := Lib.hid (show DropI R p sgs s w G 0 0 (.slice none 0 0) w G from ⟨hR, by rw [keepR_0]; exact World.ownsRow_nil _ _ _ 3, fun b e => by simp [Value.ownBlock] at e, (Fr.refl w G).weaken (fun b hb => hb) (fun b hb => hb.elim .inl (fun e => by simp [Value.ownBlock] at e))⟩)
  have HD := Lib.hid hdo
  have hcG : ¬ G c := hdis c ((h1 c).2 (.inl rfl))
  have HO := Lib.hid (And.intro h6 (And.intro h1 (And.intro h5 (And.intro h2 (And.intro h3 (And.intro h4 (And.intro hdis (And.intro h7 (And.intro h8 hkp)))))))))
  clear h hR hdis hdo h1 h2 h3 h4 h5 h6 h7 h8
  go_enter Try.func15, Try.ntmps15
  go_wp2_with fail
  go_loopw [5, 6, 17] (fun out hd i wr => ∃ (k : Nat) (Gk : Nat → Prop), k ≤ s.row.length ∧ i = .int .i64 k ∧ hd = .int .i64 (keepH p s.row s.hand k) ∧ Hid (DropI R p sgs s w G k k out wr Gk)) (fun _ _ i _ => s.row.length - (intOf i).toNat)
  case atStart => exact ⟨0, G, Nat.zero_le _, rfl, by rw [keepH_0]; rfl, H0⟩
  case round =>
    obtain ⟨k, Gk, hk, rfl, rfl, HB⟩ := hrel
    by_cases hks : k < s.row.length
    · obtain ⟨e, he⟩ : ∃ e, s.row[k]? = some e := ⟨_, List.getElem?_eq_getElem hks⟩
      have hks' : (k : Int) < s.row.length := by omega
      obtain ⟨g, cp', e1, _, hg⟩ := World.ownsRow.form HO.out.1 (by omega)
      obtain ⟨rfl, rfl⟩ : A = some ⟨g, 0, none⟩ ∧ cp = cp' := by simpa using e1
      have hgG : ¬ G g := HO.out.2.2.2.2.2.2.1 g ((HO.out.2.1 g).2 (.inr (.inr rfl)))
      obtain ⟨d0, d1, d2, dg⟩ := row_cells HO.out.1 he
      have hb := HB.out.fr
      have b0 := (hb.cell dg hgG (k * 3)).trans d0
      have b1 := (hb.cell dg hgG (k * 3 + 1)).trans d1
      have b2 := (hb.cell dg hgG (k * 3 + 2)).trans d2
      have bg := hb.lt dg
      have HK := Lib.hid (And.intro (keys_get he) (And.intro he hgG))
      clear d0 d1 d2 e1 hb hgG he
      go_upto_region 8 with fail
      have hw1 : Below wr.heap.size wr (wr.alloc (.cells #[.int .i64 e.key, .string e.val, .bool e.used] 55)) := (Below.refl _ _).alloc (Nat.le_refl _) _
      have x0 := heap_alloc_new wr (.cells #[.int .i64 e.key, .string e.val, .bool e.used] 55)
      have H1 := Lib.hid (And.intro (HB.out.below R p sgs hw1) (And.intro (show ¬ Gk wr.heap.size from fun h => Nat.lt_irrefl _ (R.lt HB.out.rs _ h)) (show ∀ b, u5.ownBlock = some b → b < wr.heap.size from fun b e => (HB.out.own.lt b e).2)))
      have hbx : w.heap.size ≤ wr.heap.size := HB.out.fr.size
      clear hw1 HB H0
      generalize wr.alloc (.cells #[.int .i64 e.key, .string e.val, .bool e.used] 55) = W at x0 H1 ⊢
      generalize wr.heap.size = bx at x0 H1 hbx ⊢
      have y0 := cell_of_row W bx 0 _ _ (0, 0) x0
      simp only [List.getElem?_toArray, List.getElem?_cons_zero, List.getElem?_cons_succ] at y0
      have xlt := (Array.getElem?_eq_some_iff.1 x0).1
      have HX := Lib.hid x0
      clear x0 b0 b1 b2
      have hcal : Does Try.prog R kf (pre.push (.int .i64 e.key) ++ caps) (sgs k) (fun v s' => v = .bool (p e.key) ∧ s' = sgs (k + 1)) := by
        have h := HD.out k e.key HK.out.1
        rwa [show pre ++ (#[Value.int .i64 e.key] ++ caps) = pre.push (.int .i64 e.key) ++ caps by simp] at h
      have HC := Lib.hid hcal
      clear hcal
      go_wp2_with fail
      ((with_reducible refine (HC.out.run W Gk H1.out.1.rs).mono ?_); rintro _ w2 ⟨_, _, G2, rfl, ⟨rfl, rfl⟩, ha2, hf2⟩)
      have x2 := hf2.block HX.out H1.out.2.1
      have xl2 := (Array.getElem?_eq_some_iff.1 x2).1
      have z0 := cell_of_row w2 bx 0 _ _ (0, 0) x2
      have z1 := cell_of_row w2 bx 1 _ _ (0, 0) x2
      have z2 := cell_of_row w2 bx 2 _ _ (0, 0) x2
      have H2 := Lib.hid (H1.out.1.call R p sgs hf2 ha2)
      have hc2 : w2.heap[c]? = some (.cells #[.slice (some ⟨g, 0, none⟩) s.row.length cp, .map (some m), .int .i64 s.hand, .int .i64 s.most] 53 (0, 0)) := H2.out.fr.block HO.out.2.2.1 hcG
      have k2 := cell_of_row w2 c 2 _ _ (0, 0) hc2
      have kl := (Array.getElem?_eq_some_iff.1 hc2).1
      simp only [List.getElem?_toArray, List.getElem?_cons_zero, List.getElem?_cons_succ] at z0 z1 z2 k2
      have hkl := keepR_le p s.row k
      have hkh := keepH_le p s.row s.hand k
      have hbz := H2.out.fr.size
      clear x2 ha2 hf2 hc2 y0 xlt
      by_cases hp : p e.key = true
      · have hH : keepH p s.row s.hand (k + 1) = keepH p s.row s.hand k := by rw [keepH_succ HK.out.2.1, if_neg (by simp [hp])]
        have HH := Lib.hid hH
        clear hH
        go_wp2_with fail
        go_roundw
        case rel => exact ⟨k + 1, G2, by omega, by go_num, by rw [HH.out], Lib.hid (H2.out.skip R p sgs HK.out.2.1 hp)⟩
        case measure => simp [intOf]; omega
      · have hp' : p e.key = false := by simpa using hp
        have HP := Lib.hid hp'
        have hown := H2.out.own
        obtain ⟨A5, c5, rfl, hc5, _⟩ := SlAt.of_own hown
        have hwk : IntKind.i64.wrap ((keepH p s.row s.hand k : Int) + 1) = (keepH p s.row s.hand k : Int) + 1 := IntWalk.i64_in _ (by omega)
        have hdec : ((k : Int) < s.hand) = (k < s.hand) := by simp
        by_cases hh : k < s.hand
        · have hH : keepH p s.row s.hand (k + 1) = keepH p s.row s.hand k + 1 := by rw [keepH_succ HK.out.2.1, if_pos ⟨hp', hh⟩]
          have HH := Lib.hid hH
          clear hH
          generalize keepH p s.row s.hand k = kh at *
          go_upto_region 11 with fail
          clear hp hp' hdec
          obtain ⟨L, hL⟩ : ∃ L, keepR p s.row k = L := ⟨_, rfl⟩
          rw [hL] at hown hkl
          rw [hL]
          have HL := Lib.hid hL
          clear hL
          go_wp2_with (at_builtin; refine wpList_append_lies _ rfl _ _ 51 rfl w.heap.size 55 i0 (.agg #[.int .i64 0, .string ⟨#[]⟩, .bool false]) 3 32 Try.underlying51 hi hz0 hz1 hz2 rfl (by decide) (.slice A5 L.length c5) L.length (L.flatMap ec) rfl (World.ownsRow.alloc hown _) ⟨w2.heap.size, 0, none⟩ 1 1 (ec e) rfl rfl ?c1 ?c2 (by omega) ?c3 ?c4 ?c5 _ rfl ?_)
          case c1 => exact World.news_of_block (fr := (0, 0)) (heap_alloc_new w2 _)
          case c2 => intro u hu; simp [ec] at hu; rcases hu with rfl | rfl | rfl <;> rfl
          case c3 => unfold maxLen; omega
          case c4 => omega
          case c5 => simp; omega
          intro g7 cap7 w7 hown7 hgrow hat7 hlt7
          have hf7 := push_fr hgrow hat7
          have H7 := Lib.hid (And.intro hf7 hown7)
          clear hown7 hgrow hat7 hlt7 hf7 hown
          go_wp2_with fail
          go_roundw
          case rel => exact ⟨k + 1, G2, by omega, by go_num, by first | (rw [HH.out]; done) | (rw [HH.out]; rfl), Lib.hid (DropI.push R p sgs HL.out HO.out.2.2.2.2.2.2.2.2.2 (HL.out ▸ H2.out) HK.out.2.1 HP.out H7.out.1 H7.out.2)⟩
          case measure => simp [intOf]; omega
        · have hH : keepH p s.row s.hand (k + 1) = keepH p s.row s.hand k := by rw [keepH_succ HK.out.2.1, if_neg (fun h => hh h.2)]
          have HH := Lib.hid hH
          clear hH
          generalize keepH p s.row s.hand k = kh at *
          go_upto_region 11 with fail
          clear hp hp' hdec
          obtain ⟨L, hL⟩ : ∃ L, keepR p s.row k = L := ⟨_, rfl⟩
          rw [hL] at hown hkl
          rw [hL]
          have HL := Lib.hid hL
          clear hL
          go_wp2_with (at_builtin; refine wpList_append_lies _ rfl _ _ 51 rfl w.heap.size 55 i0 (.agg #[.int .i64 0, .string ⟨#[]⟩, .bool false]) 3 32 Try.underlying51 hi hz0 hz1 hz2 rfl (by decide) (.slice A5 L.length c5) L.length (L.flatMap ec) rfl (World.ownsRow.alloc hown _) ⟨w2.heap.size, 0, none⟩ 1 1 (ec e) rfl rfl ?c1 ?c2 (by omega) ?c3 ?c4 ?c5 _ rfl ?_)
          case c1 => exact World.news_of_block (fr := (0, 0)) (heap_alloc_new w2 _)
          case c2 => intro u hu; simp [ec] at hu; rcases hu with rfl | rfl | rfl <;> rfl
          case c3 => unfold maxLen; omega
          case c4 => omega
          case c5 => simp; omega
          intro g7 cap7 w7 hown7 hgrow hat7 hlt7
          have hf7 := push_fr hgrow hat7
          have H7 := Lib.hid (And.intro hf7 hown7)
          clear hown7 hgrow hat7 hlt7 hf7 hown
          go_wp2_with fail
          go_roundw
          case rel => exact ⟨k + 1, G2, by omega, by go_num, by first | (rw [HH.out]; done) | (rw [HH.out]; rfl), Lib.hid (DropI.push R p sgs HL.out HO.out.2.2.2.2.2.2.2.2.2 (HL.out ▸ H2.out) HK.out.2.1 HP.out H7.out.1 H7.out.2)⟩
          case measure => simp [intOf]; omega
    · have hks' : ¬ ((k : Int) < s.row.length) := by omega
      obtain ⟨A5, c5, rfl, hc5, _⟩ := SlAt.of_own HB.out.own
      have hb := HB.out.fr
      have hcw := hb.block HO.out.2.2.1 hcG
      have d0 := cell_of_row wr c 0 _ _ (0, 0) hcw
      have dl := (Array.getElem?_eq_some_iff.1 hcw).1
      simp only [List.getElem?_toArray, List.getElem?_cons_zero, List.getElem?_cons_succ] at d0
      have hF := HO.out.2.1
      have hmG : ¬ G m := HO.out.2.2.2.2.2.2.1 m ((hF m).2 (.inr (.inl rfl)))
      have hcm : c ≠ m := HO.out.2.2.2.1
      have hmw : m < w.heap.size := HO.out.2.2.2.2.2.2.2.1.lt
      have hgood : Good s n := HO.out.2.2.2.2.2.2.2.2.1
      have hkl : (keepR p s.row k).length ≤ s.row.length := Nat.le_trans (keepR_le p s.row k) hk
      have hall : keepR p s.row k = s.row.filter (fun e => !p e.key) := keepR_all (by omega)
      have hkh : keepH p s.row s.hand k = stay p s.row s.hand := keepH_all (by omega)
      have hob : ∀ b, (Value.slice A5 (keepR p s.row k).length c5).ownBlock = some b → w.heap.size ≤ b := fun b e => (HB.out.own.lt b e).1
      have hsub : (keys (keepR p s.row k)).Sublist (keys s.row) := by rw [hall]; exact (List.filter_sublist).map _
      have hlay := lay_any c m (.slice A s.row.length cp) (.slice A5 (keepR p s.row k).length c5) s.hand s.most n (keepH p s.row s.hand k) _ (keepR p s.row k) wr hcw (HO.out.2.2.2.2.2.2.2.1.fr hb hmG) hcm (own_base HB.out.own (Nat.zero_le _))
        (fun e => by have := hob c e; omega) (fun e => by have := hob m e; omega) (by omega) (fun j hj => hgood.keys j (hsub.subset hj)) (hgood.ok.nodup.sublist hsub)
      have HL := Lib.hid hlay
      have HE := Lib.hid (And.intro hF (And.intro hmG (And.intro hcm (And.intro hmw (And.intro hgood (And.intro hall (And.intro hkh (And.intro hob hsub))))))))
      have hwk : IntKind.i64.wrap ((s.row.length : Int) - (keepR p s.row k).length) = ((s.row.length - (keepR p s.row k).length : Nat) : Int) := by rw [IntWalk.i64_in _ (by omega)]; omega
      have hkk : k = s.row.length := by omega
      have HKK := Lib.hid hkk
      clear hlay hcw hF hmG hmw hgood hall hkh hob hsub hb hkk
      go_wp2_with fail
      ((with_reducible refine HL.out.mono ?_); rintro _ w5 ⟨⟨u, rfl⟩, hB5, hM5, hf5⟩)
      have H5 := Lib.hid (And.intro hB5 (And.intro hM5 hf5))
      clear hB5 hM5 hf5
      go_wp2_with fail
      go_ret
      obtain ⟨hF, hmG, hcm, hmw, hgood, hall, hkh, hob, hsub⟩ := HE.out
      obtain ⟨hB5, hM5, hf5⟩ := H5.out
      have hd1 : (dropS s p).1 = ⟨keepR p s.row k, if (keepR p s.row k).length ≤ keepH p s.row s.hand k then 0 else keepH p s.row s.hand k, s.most⟩ := by rw [hall, hkh]; rfl
      have hd2 : (dropS s p).2 = s.row.length - (keepR p s.row k).length := by rw [hall]; rfl
      have hok := dropS_ok hgood.ok p
      rw [hd1] at hok
      rw [hd1, hd2]
      have hcw : c < w.heap.size := hlt
      have hg5 : ∀ b, (b = c ∨ b = m) → ¬ Gk b := fun b hb => hb.elim (fun e => by subst e; exact fun hg => HB.out.fr.out hcw hcG (.inl hg)) (fun e => by subst e; exact fun hg => HB.out.fr.out hmw hmG (.inl hg))
      have hob5 : ∀ b, (Value.slice A5 (keepR p s.row k).length c5).ownBlock = some b → b ≠ c ∧ b ≠ m := fun b e => ⟨fun e2 => by have := hob b e; omega, fun e2 => by have := hob b e; omega⟩
      have hle := hgood.le
      refine ⟨fun b => b = c ∨ b = m ∨ (Value.slice A5 (keepR p s.row k).length c5).ownBlock = some b, Gk, (keepR p s.row k).length, rfl, ⟨.slice A5 (keepR p s.row k).length c5, m, fun b => Iff.rfl, hcm, fun e => (hob5 c e).1 rfl, fun e => (hob5 m e).2 rfl, hB5, ?_, hM5, ⟨hok, Nat.le_refl _, ?_, fun j hj => hgood.keys j (hsub.subset hj), hgood.most⟩⟩, by omega, ?_, ?_, ?_⟩
      · exact own_base (hf5.own HB.out.own (fun b e hb => hb.elim (hob5 b e).1 (hob5 b e).2)) (Nat.zero_le _)
      · exact Nat.le_trans (by omega) hgood.small
      · rw [← HKK.out]
        exact HO.out.2.2.2.2.2.2.2.2.2.keep HB.out.rs hf5 (fun b hb e => hg5 b e hb)
      · intro b hb
        rcases hb with e | e | e
        · exact hg5 b (.inl e)
        · exact hg5 b (.inr e)
        · exact HB.out.og b e
      · have a1 : Fr w (fun b => F b ∨ G b) wr (fun b => (b = c ∨ b = m ∨ (Value.slice A5 (keepR p s.row k).length c5).ownBlock = some b) ∨ Gk b) := HB.out.fr.weaken (fun b hb => .inr hb) (fun b hb => by
          rcases hb with (e | e | e) | e
          · exact .inr (.inl ((hF b).2 (.inl e)))
          · exact .inr (.inl ((hF b).2 (.inr (.inl e))))
          · exact .inl (.inr e)
          · exact .inl (.inl e))
        exact a1.trans (hf5.weaken (fun b hb => .inl (hb.elim .inl (fun e => .inr (.inl e)))) (fun b hb => .inr hb))
end
end Go.Proofs.Ytohjhbhbpflokaa.Ck
