
/- A store of ropes in memory: a buffer and an arena; its small functions. -/
import Derived.Test.YtkcocdpmangcgaaRopP
import Derived.Test.YtkcocdpmangcgaaBufG
import Derived.Test.YtkcocdpmangcgaaBalT
import Derived.Test.YtkcocdpmangcgaaBalX
namespace Go.Proofs.Ytkcocdpmangcgaa.Rp
set_option linter.unusedSimpArgs false
set_option linter.unusedVariables false
open Go Go.RowKit
open Go.Proofs.Ytkcocdpmangcgaa.Ar (T Is Ext WF Knot getK getB Arena resAr small splitP JoinP)
open Go.Proofs.Ytkcocdpmangcgaa.Buf (BufS feedsV thereB)
attribute [local go_sem] lt_add1 lt_self1 size_ne size_ne' size_ne1 size_ne1'
attribute [local irreducible] wpGrow wpThr

/-- a store: a struct of two pointers, a buffer and an arena beside each other. -/
structure St (w : World) (gs gb ga : Nat) (rb rf q : Option Nat) (S : ByteArray) (ks : List Knot) : Prop where
  blk : w.heap[gs]? = some (.cells #[.pointer (some ⟨gb, 0, none⟩), .pointer (some ⟨ga, 0, none⟩)] 126 (0, 0))
  buf : BufS w gb rb rf S
  ar : Arena w ga q ks
  ap : ∀ b, Buf.foot gb rb rf b → ¬ Ar.foot ga q b
  sb : ¬ Buf.foot gb rb rf gs
  sa : ¬ Ar.foot ga q gs
def sfoot (gb ga : Nat) (rb rf q : Option Nat) (b : Nat) : Prop := Buf.foot gb rb rf b ∨ Ar.foot ga q b

section
variable {w w' : World} {gs gb ga : Nat} {rb rf q : Option Nat} {S : ByteArray} {ks : List Knot}
theorem ar_lt {w : World} {ga : Nat} {q : Option Nat} {ks : List Knot} (h : Arena w ga q ks) {b : Nat} (hb : Ar.foot ga q b) : b < w.heap.size := by
  rcases hb with rfl | e
  · exact h.lt
  · exact h.row_lt e
theorem St.lt (h : St w gs gb ga rb rf q S ks) : gs < w.heap.size := (Array.getElem?_eq_some_iff.1 h.blk).1
theorem St.foot_lt (h : St w gs gb ga rb rf q S ks) {b : Nat} (hb : sfoot gb ga rb rf q b) : b < w.heap.size := hb.elim (Buf.Buf.lt_foot h.buf) (ar_lt h.ar)
theorem St.below (h : St w gs gb ga rb rf q S ks) (hb : Below w.heap.size w w') : St w' gs gb ga rb rf q S ks := ⟨(hb.block gs h.lt).trans h.blk, Buf.Buf.below h.buf hb, h.ar.below hb, h.ap, h.sb, h.sa⟩
theorem St.c (h : St w gs gb ga rb rf q S ks) : w.cell? ⟨gs, 0, none⟩ = some (.pointer (some ⟨gb, 0, none⟩)) ∧ w.cell? ⟨gs, 1, none⟩ = some (.pointer (some ⟨ga, 0, none⟩)) := ⟨cell_of_row w gs 0 _ _ (0, 0) h.blk, cell_of_row w gs 1 _ _ (0, 0) h.blk⟩
theorem St.gb_lt (h : St w gs gb ga rb rf q S ks) : gb < w.heap.size := Buf.Buf.lt h.buf
theorem St.ga_lt (h : St w gs gb ga rb rf q S ks) : ga < w.heap.size := h.ar.lt
/-- the arena turns, the rest stays. -/
theorem St.arena {q' : Option Nat} {ks' : List Knot} (h : St w gs gb ga rb rf q S ks) (ha : Arena w' ga q' ks') (hf : Fr w (Ar.foot ga q) w' (Ar.foot ga q')) : St w' gs gb ga rb rf q' S ks' ∧ Fr w (sfoot gb ga rb rf q) w' (sfoot gb ga rb rf q') := by
  refine ⟨⟨hf.block h.blk h.sa, Buf.Buf.keep h.buf hf h.ap, ha, fun b hb hn => ?_, h.sb, hf.out h.lt h.sa⟩, hf.weaken (fun b hb => .inr hb) (fun b hb => hb.elim (fun e => .inr (.inl e)) .inl)⟩
  exact hf.out (Buf.Buf.lt_foot h.buf hb) (h.ap b hb) hn
/-- the buffer turns, the rest stays. -/
theorem St.buffer {rb' rf' : Option Nat} {S' : ByteArray} (h : St w gs gb ga rb rf q S ks) (hb : BufS w' gb rb' rf' S') (hf : Fr w (Buf.foot gb rb rf) w' (Buf.foot gb rb' rf')) : St w' gs gb ga rb' rf' q S' ks ∧ Fr w (sfoot gb ga rb rf q) w' (sfoot gb ga rb' rf' q) := by
  refine ⟨⟨hf.block h.blk h.sb, hb, h.ar.keep hf (fun b h1 h2 => h.ap b h2 h1), fun b h1 h2 => ?_, hf.out h.lt h.sb, h.sa⟩, hf.weaken (fun b hb => .inl hb) (fun b hb => hb.elim .inl (fun e => .inr (.inr e)))⟩
  exact hf.out (ar_lt h.ar h2) (fun e => h.ap b e h2) h1
end

/-- a store as a resource. -/
abbrev Sst := ByteArray × List Knot
def resSt (gs gb ga : Nat) : Res Sst where
  at_ := fun w F s => ∃ rb rf q, F = sfoot gb ga rb rf q ∧ St w gs gb ga rb rf q s.1 s.2
  below := fun h hb => by obtain ⟨rb, rf, q, e, h⟩ := h; exact ⟨rb, rf, q, e, h.below hb⟩
  lt := fun h b hb => by obtain ⟨rb, rf, q, rfl, h⟩ := h; exact h.foot_lt hb
theorem resSt_at {w : World} {gs gb ga : Nat} {rb rf q : Option Nat} {S : ByteArray} {ks : List Knot} (h : St w gs gb ga rb rf q S ks) : (resSt gs gb ga).at_ w (sfoot gb ga rb rf q) (S, ks) := ⟨rb, rf, q, rfl, h⟩

/-- what is done to the arena is done to the store. -/
theorem does_ar {gs gb ga : Nat} {f : Nat} {args : Array Value} {S : ByteArray} {ks : List Knot} {Post : Value → List Knot → Prop} (h : Does Try.prog (resAr ga) f args ks Post) : Does Try.prog (resSt gs gb ga) f args (S, ks) (fun v s' => s'.1 = S ∧ Post v s'.2) := by
  rintro w F ⟨rb, rf, q, rfl, hs⟩
  refine (h.run w _ ⟨q, rfl, hs.ar⟩).mono ?_
  rintro e w' ⟨v, ks', F', he, hp, ⟨q', rfl, ha⟩, hf⟩
  obtain ⟨h1, h2⟩ := hs.arena ha hf
  exact ⟨v, (S, ks'), _, he, ⟨rfl, hp⟩, resSt_at h1, h2⟩

/-! the feeds that a cut asks for -/
def inB (S : ByteArray) (o n : Int) : Prop := 0 ≤ o ∧ 0 ≤ n ∧ o + n ≤ S.size
theorem feeds_ok (S : ByteArray) : Ar.FdOk (inB S) (feedsV S) := ⟨fun {o n} h => feedsV_bd h.1 h.2.1 h.2.2, fun {o n a} h h1 h2 => ⟨⟨h.1, by omega, by have := h.2.2; omega⟩, ⟨by have := h.1; omega, by omega, by have := h.2.2; omega⟩⟩⟩
theorem feeds_eg : ∀ args w, (callFunc 87 args).run Try.prog w = .ok (.enter 87 args) w := enters_of Try.func87 (by kernel_rfl) rfl
theorem feeds_clo {w : World} {gs gb ga : Nat} {rb rf q : Option Nat} {S : ByteArray} {ks : List Knot} (h : St w gs gb ga rb rf q S ks) (hS : S.size ≤ 1000000) : Ar.Clo 87 #[.pointer (some ⟨gb, 0, none⟩)] (inB S) (feedsV S) w (Ar.foot ga q) := fun w' F' hf o n _ =>
  Buf.feeds_any gb rb rf S o n w' (Buf.Buf.keep h.buf hf h.ap) hS
theorem does_cut {gs gb ga : Nat} {f : Nat} {args : Array Value} {S : ByteArray} {ks : List Knot} {Post : Value → List Knot → Prop} (hS : S.size ≤ 1000000) (h : Does Try.prog (Ar.resCl ga 87 #[.pointer (some ⟨gb, 0, none⟩)] (inB S) (feedsV S)) f args ks Post) :
    Does Try.prog (resSt gs gb ga) f args (S, ks) (fun v s' => s'.1 = S ∧ Post v s'.2) := by
  rintro w F ⟨rb, rf, q, rfl, hs⟩
  refine (h.run w _ (Ar.resCl_at hs.ar (feeds_clo hs hS))).mono ?_
  rintro e w' ⟨v, ks', F', he, hp, ⟨⟨q', rfl, ha⟩, _⟩, hf⟩
  obtain ⟨h1, h2⟩ := hs.arena ha hf
  exact ⟨v, (S, ks'), _, he, ⟨rfl, hp⟩, resSt_at h1, h2⟩

/-! small functions -/
set_option maxHeartbeats 400000 in
theorem rnew_any (w : World) : Calls Try.prog 73 #[] w fun e w' => ∃ gs gb ga, e = .returned (.pointer (some ⟨gs, 0, none⟩)) ∧ St w' gs gb ga none none none ⟨#[]⟩ [] ∧ Below w.heap.size w w' ∧ w.heap.size ≤ gs ∧ w.heap.size ≤ gb ∧ w.heap.size ≤ ga := by
  go_enter Try.func73, Try.ntmps73
  go_wp2_with fail
  refine (Buf.new_any _).mono ?_
  rintro e w1 ⟨rfl, h1, hb1, hz1⟩
  have H1 := Lib.hid (And.intro h1 hb1)
  have hs1 : w.heap.size < w1.heap.size := by omega
  clear h1 hb1 hz1
  go_wp2_with fail
  refine (Ar.new_any _).mono ?_
  rintro e w2 ⟨rfl, h2, hb2, hz2⟩
  have H2 := Lib.hid (And.intro h2 hb2)
  have hs2 : w1.heap.size < w2.heap.size := by omega
  clear h2 hb2 hz2
  go_wp2
  go_ret
  have hb3 : Below w2.heap.size w2 (w2.alloc (.cells #[.pointer (some ⟨w.heap.size, 0, none⟩), .pointer (some ⟨w1.heap.size, 0, none⟩)] 126)) := (Below.refl _ _).alloc (Nat.le_refl _) _
  have hb12 := H1.out.2.trans (H2.out.2.mono H1.out.2.size)
  refine ⟨w2.heap.size, w.heap.size, w1.heap.size, rfl, ⟨heap_alloc_new _ _, Buf.Buf.below (Buf.Buf.below H1.out.1 H2.out.2) hb3, H2.out.1.below hb3, fun b h1 h2 => ?_, fun h => ?_, fun h => ?_⟩, hb12.trans (hb3.mono hb12.size), by omega, Nat.le_refl _, by omega⟩
  · rcases h1 with e | e | e
    · rcases h2 with e2 | e2
      · omega
      · cases e2
    · cases e
    · cases e
  · rcases h with e | e | e
    · omega
    · cases e
    · cases e
  · rcases h with e | e
    · omega
    · cases e

section
variable (gs gb ga : Nat) (rb rf q : Option Nat) (S : ByteArray) (ks : List Knot) (w : World)
set_option maxHeartbeats 400000 in
theorem rsize_nil (t : Int) : Calls Try.prog 40 #[.pointer none, .int .i64 t] w fun e w' => e = .returned (.tuple #[.int .i64 0, .int .i64 7]) ∧ w = w' := by
  go_enter Try.func40, Try.ntmps40
  go_wp2
  go_ret2
  exact ⟨rfl, rfl⟩
set_option maxHeartbeats 400000 in
theorem rsize_any (t : Int) (h : St w gs gb ga rb rf q S ks) (hn : ks.length ≤ small) : Calls Try.prog 40 #[.pointer (some ⟨gs, 0, none⟩), .int .i64 t] w fun e w' =>
    e = .returned (if (getB ks t || t == 0) = true then .tuple #[.int .i64 (getK ks t).len, .int .i64 0] else .tuple #[.int .i64 0, .int .i64 7]) ∧ Below w.heap.size w w' := by
  obtain ⟨c0, c1⟩ := h.c
  have hlt := h.lt
  have HZ := Lib.hid (Ar.size_any ga q ks t w h.ar hn)
  clear h hn
  generalize (getB ks t || t == 0) = ok at HZ ⊢
  generalize (getK ks t).len = n at HZ ⊢
  cases ok
  · simp only [Bool.false_eq_true, if_false]
    go_enter Try.func40, Try.ntmps40
    go_wp2_with fail
    ((with_reducible refine HZ.out.mono ?_); rintro e w1 ⟨rfl, hb⟩)
    have HB := Lib.hid hb
    clear hb
    go_wp2
    go_ret2
    exact ⟨rfl, HB.out⟩
  · simp only [if_true]
    go_enter Try.func40, Try.ntmps40
    go_wp2_with fail
    ((with_reducible refine HZ.out.mono ?_); rintro e w1 ⟨rfl, hb⟩)
    have HB := Lib.hid hb
    clear hb
    go_wp2
    go_ret2
    exact ⟨rfl, HB.out⟩
end
end Go.Proofs.Ytkcocdpmangcgaa.Rp
