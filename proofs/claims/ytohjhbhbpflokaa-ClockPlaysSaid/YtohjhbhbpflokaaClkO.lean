
/- ClockNone. -/
import Derived.Test.YtohjhbhbpflokaaClkN
import Derived.Test.YtohjhbhbpflokaaQui2
namespace Go.Proofs.Ytohjhbhbpflokaa.Ck
set_option linter.unusedSimpArgs false
set_option linter.unusedVariables false
open Go Go.RowKit Go.Shelf
set_option linter.unusedVariables false
attribute [local go_sem] lt_add1 lt_self1 size_ne size_ne' size_ne1 size_ne1'
theorem rest_at {w : World} {by_ : Int} : (resRest w.heap.size by_ 0).at_ (w.alloc (.cells #[.int .i64 by_, .int .i64 0, .int .i64 0] 46)) (fun b => b = w.heap.size) 0 :=
  ⟨fun b => Iff.rfl, heap_alloc_new _ _⟩
theorem i64_hi {k : Int} (h : i64ok k) : k < 9223372036854775808 ∧ -9223372036854775808 ≤ k := by
  unfold i64ok at h
  simp only [Lit.wf, Bool.and_eq_true, decide_eq_true_eq] at h
  have e1 : IntKind.i64.min = -9223372036854775808 := by decide
  have e2 : IntKind.i64.max = 9223372036854775807 := by decide
  rw [e1, e2] at h
  omega
theorem restP_one (k : Int) : restP 1 0 k = true := by simp [restP]
theorem rest_drop (x : Nat) (by_ rest : Int) (hb : by_ ≠ 0) (hb1 : by_ ≠ -1) (c : Nat) (s : CS) (n : Nat) (w : World) (F G : Nat → Prop) (h : CkAt c w F (s, n)) (hR : (resRest x by_ rest).at_ w G 0) (hdis : ∀ b, F b → ¬ G b) :
    Calls Try.prog 15 #[.pointer (some ⟨c, 0, none⟩), .func (.func 16) #[.pointer (some ⟨x, 0, none⟩)] #[]] w fun e w' => ∃ F' G' n', e = .returned (.int .i64 ((dropS s (restP by_ rest)).2 : Nat)) ∧ CkAt c w' F' ((dropS s (restP by_ rest)).1, n') ∧ n' ≤ n ∧ (resRest x by_ rest).at_ w' G' s.row.length ∧ (∀ b, F' b → ¬ G' b) ∧ Fr w (fun b => F b ∨ G b) w' (fun b => F' b ∨ G' b) := by
  have hsm : s.row.length ≤ 1000 := Nat.le_trans h.good.le h.good.small
  exact drop_any (resRest x by_ rest) 16 #[.pointer (some ⟨x, 0, none⟩)] #[] (restP by_ rest) (fun i => i) (rest_keeps x by_ rest) rest_eg c s n w F G h hR hdis (fun i k hi => by
    have hl := (List.getElem?_eq_some_iff.1 hi).1
    have hl' : i < s.row.length := by simpa [keys] using hl
    have := rest_does x by_ rest k i hb hb1 (by omega)
    simpa using this)
set_option maxHeartbeats 8000000 in
set_option maxRecDepth 100000 in
theorem none_walk (w : World) (most k : Int) (v : ByteArray) (hm : most < 9223372036854775808) (hk : i64ok k) : Calls Try.prog 5 #[.int .i64 most, .int .i64 k, .string v] w fun e w' => e = .returned (.bool true) ∧ Below w.heap.size w w' := by
  have HA := Lib.hid awake_any
  go_enter Try.func5, Try.ntmps5
  go_wp2_with fail
  ((with_reducible refine (HA.out w).mono ?_); rintro _ w1 ⟨rfl, hb1⟩)
  have HB1 := Lib.hid hb1
  clear hb1
  go_wp2_with fail
  ((with_reducible refine (put_nil k v _).mono ?_); rintro _ w2 ⟨⟨u2, rfl⟩, hb2⟩)
  have hx2 : w2.heap[w1.heap.size]? = some (.cells #[.int .i64 1, .int .i64 0, .int .i64 0] 46 (0, 0)) := (hb2.block _ (by simp)).trans (heap_alloc_new _ _)
  have HB2 := Lib.hid (show Below w.heap.size w w2 from (HB1.out.alloc HB1.out.size _).trans (hb2.mono (by have := HB1.out.size; simp; omega)))
  clear hb2
  generalize w1.heap.size = x at hx2 ⊢
  go_wp2_with fail
  ((with_reducible refine (get_nil k _).mono ?_); rintro _ w3 ⟨rfl, hb3⟩)
  have hx3 := (hb3.block x (Array.getElem?_eq_some_iff.1 hx2).1).trans hx2
  have c2 := cell_of_row w3 x 2 _ _ (0, 0) hx3
  have xlt := (Array.getElem?_eq_some_iff.1 hx3).1
  simp only [List.getElem?_toArray, List.getElem?_cons_zero, List.getElem?_cons_succ] at c2
  have HB3 := Lib.hid (HB2.out.trans (hb3.mono HB2.out.size))
  clear hb3 hx2 hx3
  go_upto_region 7 with fail
  have LN := Lib.hid len_nil
  have KN := Lib.hid keys_nil
  have EN := Lib.hid evict_nil
  have DN := Lib.hid drop_nil
  refine wp_region_wd (fun w' => Below w3.heap.size w3 w') (by kernel_rfl) (by kernel_rfl) ((Below.refl _ _).drew) ?_
  have b2 := Bw.cell xlt c2
  have bl := Bw.lt xlt
  repeat (go_big_quiet_step (with_reducible first | exact Bw.call (LN.out _) | exact Bw.call (KN.out _) | exact Bw.call (EN.out _ _) | exact Bw.call (DN.out _ _)))
  refine wpQuiet_nil (wd_all ?_)
  intro w5 hb5
  have HB5 := Lib.hid (HB3.out.trans (hb5.mono HB3.out.size))
  clear hb5 b2 bl LN KN EN DN
  go_wp2_with fail
  ((with_reducible refine (new_any most _ hm).mono ?_); rintro _ w6 ⟨c, F6, rfl, ha, hF, hb⟩)
  have H6 := Lib.hid (Law.new ha hF hb)
  have HB6 := Lib.hid (HB5.out.trans (hb.mono HB5.out.size))
  clear ha hF hb
  go_wp2_with fail
  ((with_reducible refine ((put_any c (newS most) 0 k v hk (by decide)).run w6 F6 (resCk_to H6.out.ck)).mono ?_); rintro _ w7 ⟨u7, _, F7, rfl, ⟨n7, hn7, rfl⟩, ha, hf⟩)
  have H7 := Lib.hid (H6.out.step ha hf)
  clear ha hf
  go_wp2_with fail
  ((with_reducible refine ((get_any c (putS (newS most) k v) n7 k hk).run w7 F7 (resCk_to H7.out.ck)).mono ?_); rintro _ w8 ⟨_, _, F8, rfl, ⟨rfl, rfl⟩, ha, hf⟩)
  have H8 := Lib.hid (H7.out.step ha hf)
  clear ha hf
  by_cases hpos : 0 < most
  · have hg : (getS (putS (newS most) k v) k).2 = (v, true) := get_put (newS_ok most) (newS_pos hpos) k v
    have hp := put_new hpos k v
    have hs8 : (getS (putS (newS most) k v) k).1 = ⟨[⟨k, v, true⟩], 0, (max most 0).toNat⟩ := by
      rw [hp]
      simp [getS, kx, keys, CE.mk1]
    rw [hg]
    rw [hs8] at H8
    have hpos' : ¬ most < 1 := by omega
    clear hg hp hs8
    go_upto_region 14 with fail
    have h0 : Below w8.heap.size w8 (w8.alloc (.cells #[.int .i64 1, .int .i64 0, .int .i64 0] 46)) := (Below.refl _ _).alloc (Nat.le_refl _) _
    have hR := rest_at (w := w8) (by_ := 1)
    have H9 := Lib.hid (And.intro (H8.out.below h0) (And.intro hR (show ∀ b, F8 b → ¬ b = w8.heap.size from fun b hb e => by have := (resCk c).lt H8.out.ck b hb; omega)))
    have hy5 : w5.heap.size ≤ w8.heap.size := H8.out.bel.size
    have HY := Lib.hid hy5
    go_wp2_with fail
    clear h0 hR hy5
    generalize w8.alloc (.cells #[.int .i64 1, .int .i64 0, .int .i64 0] 46) = w9 at H9 ⊢
    generalize w8.heap.size = y at H9 HY ⊢
    ((with_reducible refine ((evict_any c ⟨[⟨k, v, true⟩], 0, (max most 0).toNat⟩ n7 (-1)).run w9 F8 (resCk_to H9.out.1.ck)).mono ?_); rintro _ w10 ⟨_, _, F10, rfl, ⟨rfl, n10, hn10, rfl⟩, ha, hf⟩)
    rw [evict_neg] at ha ⊢
    have hd8 := H9.out.2.2
    have hR10 := (rest_keeps y 1 0).keep H9.out.2.1 hf (fun b hb h => hd8 b h hb)
    have hy : y < w9.heap.size := (resRest y 1 0).lt H9.out.2.1 y rfl
    have H10 := Lib.hid (And.intro (H9.out.1.step ha hf) (And.intro hR10 (show ∀ b, F10 b → ¬ b = y from fun b hb e => by
      subst e
      exact hf.out hy (fun h => hd8 b h rfl) hb)))
    clear ha hf hd8 hR10 hy
    go_wp2_with fail
    ((with_reducible refine (rest_drop y 1 0 (by decide) (by decide) c _ n10 w10 F10 _ H10.out.1.ck H10.out.2.1 H10.out.2.2).mono ?_); rintro _ w11 ⟨F11, G11, n11, rfl, hck, hn11, hRR, hdis, hfr⟩)
    have hp1 : (fun e : CE => !restP 1 0 e.key) = fun _ => false := by funext e; rw [restP_one]; rfl
    have hd : dropS ⟨[⟨k, v, true⟩], 0, (max most 0).toNat⟩ (restP 1 0) = (⟨[], 0, (max most 0).toNat⟩, 1) := by
      unfold dropS stay layS
      simp only [hp1]
      simp
    rw [hd] at hck ⊢
    have hyy := hRR.2
    have e2 := cell_of_row w11 y 2 _ _ (0, 0) hyy
    have yl := (Array.getElem?_eq_some_iff.1 hyy).1
    simp only [List.getElem?_toArray, List.getElem?_cons_zero, List.getElem?_cons_succ, List.length_cons, List.length_nil] at e2
    have hb11 : Below w.heap.size w w11 := by
      have h1 := H10.out.1.bel
      have h2 := hfr.below h1 (fun b hb => hb.elim (H10.out.1.ge b) (fun e => by rw [e]; exact HY.out)) (Nat.le_trans H10.out.1.sz h1.size)
      exact HB5.out.trans (h2.mono HB5.out.size)
    have H11 := Lib.hid (And.intro hck hb11)
    clear hck hRR hdis hfr hp1 hd hyy hb11
    go_wp2_with fail
    ((with_reducible refine (len_raw H11.out.1).mono ?_); rintro _ w12 ⟨rfl, hb12⟩)
    have HB12 := Lib.hid (H11.out.2.trans (hb12.mono H11.out.2.size))
    clear hb12
    go_wp2_with fail
    go_ret
    exact ⟨rfl, HB12.out⟩
  · have hz := newS_zero hpos
    have hp : putS (newS most) k v = newS most := put_none hz k v
    have hg : getS (newS most) k = (newS most, ⟨#[]⟩, false) := getS_none rfl
    rw [hp, hg]
    rw [hp, hg] at H8
    have hpos' : most < 1 := by omega
    clear hp hg
    go_wp2_with fail
    ((with_reducible refine (len_raw H8.out.ck).mono ?_); rintro _ w9 ⟨rfl, hb9⟩)
    have H9 := Lib.hid (H8.out.below hb9)
    clear hb9
    have hl : (newS most).row.length = 0 := rfl
    rw [hl]
    clear hl
    go_wp2_with fail
    ((with_reducible refine ((evict_any c (newS most) n7 3).run w9 F8 (resCk_to H9.out.ck)).mono ?_); rintro _ w10 ⟨_, _, F10, rfl, ⟨rfl, n10, hn10, rfl⟩, ha, hf⟩)
    have he : (evictS (newS most) 3).2 = 0 := rfl
    have H10 := Lib.hid (H9.out.step ha hf)
    rw [he]
    clear ha hf he
    go_wp2_with fail
    go_ret
    exact ⟨rfl, HB5.out.trans (H10.out.bel.mono HB5.out.size)⟩
end Go.Proofs.Ytohjhbhbpflokaa.Ck
