
/- Layer 22's law: both, a store with its ropes and the document's texts; of, number, Begin. */ -/
import Derived.Test.YtkcocdpmangcgaaRopE
namespace Go.Proofs.Ytkcocdpmangcgaa.Rp
set_option linter.unusedSimpArgs false
set_option linter.unusedVariables false
open Go Go.RowKit
open Go.Proofs.Ytkcocdpmangcgaa.Ar (T Is Ext WF Knot getK getB Arena resAr small)
attribute [local go_sem] lt_add1 lt_self1 size_ne size_ne' size_ne1 size_ne1'
attribute [local irreducible] wpGrow wpThr

structure Dd where
  of_ : Int
  at_ : Int
  del : Int
  text : ByteArray
  raw : Bool
def Dd.zero : Dd := ⟨0, 0, 0, ⟨#[]⟩, false⟩
instance : Inhabited Dd := ⟨Dd.zero⟩
def ddc (d : Dd) : List Value := [.int .i64 d.of_, .int .i64 d.at_, .int .i64 d.del, .string d.text, .bool d.raw]

/-- both, as plain values. -/
structure Bst where
  S : ByteArray
  ks : List Knot
  Ts : List Int
  Ls : List ByteArray
/-- both in memory: w0 is the world in which the law began. -/
structure BI (w0 : World) (b gs gb ga : Nat) (rb rf q : Option Nat) (Tv Lv : Value) (s : Bst) (w : World) : Prop where
  blk : w.heap[b]? = some (.cells #[.pointer (some ⟨gs, 0, none⟩), Tv, Lv] 63 (0, 0))
  st : St w gs gb ga rb rf q s.S s.ks
  tr : w.ownsRow w0.heap.size 3 1 Tv s.Ts.length (s.Ts.map (Value.int .i64))
  lr : w.ownsRow w0.heap.size 9 1 Lv s.Ls.length (s.Ls.map Value.string)
  nb : ¬ sfoot gb ga rb rf q b
  nbt : Tv.ownBlock ≠ some b
  nbl : Lv.ownBlock ≠ some b
  nt : ∀ k, Tv.ownBlock = some k → ¬ sfoot gb ga rb rf q k
  nl : ∀ k, Lv.ownBlock = some k → ¬ sfoot gb ga rb rf q k
  ntl : ∀ k, Tv.ownBlock = some k → Lv.ownBlock ≠ some k
  ntg : Tv.ownBlock ≠ some gs
  nlg : Lv.ownBlock ≠ some gs
  nbg : b ≠ gs
  bl : Below w0.heap.size w0 w
  geb : w0.heap.size ≤ b
  gef : ∀ k, sfoot gb ga rb rf q k → w0.heap.size ≤ k
section
variable {w0 w w' : World} {b gs gb ga : Nat} {rb rf q rb' rf' q' : Option Nat} {Tv Lv : Value} {s : Bst} {S' : ByteArray} {ks' : List Knot}
theorem BI.lt (h : BI w0 b gs gb ga rb rf q Tv Lv s w) : b < w.heap.size := (Array.getElem?_eq_some_iff.1 h.blk).1
theorem BI.below (h : BI w0 b gs gb ga rb rf q Tv Lv s w) (hb : Below w.heap.size w w') : BI w0 b gs gb ga rb rf q Tv Lv s w' :=
  ⟨(hb.block b h.lt).trans h.blk, h.st.below hb, own_below h.tr hb, own_below h.lr hb, h.nb, h.nbt, h.nbl, h.nt, h.nl, h.ntl, h.ntg, h.nlg, h.nbg, h.bl.trans (hb.mono h.bl.size), h.geb, h.gef⟩
/-- the store turns. -/
theorem BI.store (h : BI w0 b gs gb ga rb rf q Tv Lv s w) (hs : St w' gs gb ga rb' rf' q' S' ks') (hf : Fr w (sfoot gb ga rb rf q) w' (sfoot gb ga rb' rf' q')) : BI w0 b gs gb ga rb' rf' q' Tv Lv ⟨S', ks', s.Ts, s.Ls⟩ w' :=
  ⟨hf.block h.blk h.nb, hs, hf.own h.tr h.nt, hf.own h.lr h.nl, hf.out h.lt h.nb, h.nbt, h.nbl, fun k hk => hf.out (h.tr.lt k hk).2 (h.nt k hk), fun k hk => hf.out (h.lr.lt k hk).2 (h.nl k hk), h.ntl, h.ntg, h.nlg, h.nbg, hf.below h.bl h.gef h.bl.size, h.geb, hf.ge h.gef h.bl.size⟩
theorem BI.c (h : BI w0 b gs gb ga rb rf q Tv Lv s w) : w.cell? ⟨b, 0, none⟩ = some (.pointer (some ⟨gs, 0, none⟩)) ∧ w.cell? ⟨b, 1, none⟩ = some Tv ∧ w.cell? ⟨b, 2, none⟩ = some Lv :=
  ⟨cell_of_row w b 0 _ _ (0, 0) h.blk, cell_of_row w b 1 _ _ (0, 0) h.blk, cell_of_row w b 2 _ _ (0, 0) h.blk⟩
theorem BI.sl (h : BI w0 b gs gb ga rb rf q Tv Lv s w) : SlS w Lv s.Ls := SlS.of_own h.lr
/-- a slice of numbers. -/
def SlN (w : World) (v : Value) (l : List Int) : Prop := ∃ A c, v = .slice A l.length c ∧ (0 < l.length → ∃ b off, A = some ⟨b, off, none⟩ ∧ b < w.heap.size ∧ ∀ i, i < l.length → w.cell? ⟨b, off + i, none⟩ = some (.int .i64 (l.getD i 0)))
theorem BI.sn (h : BI w0 b gs gb ga rb rf q Tv Lv s w) : SlN w Tv s.Ts := by
  obtain ⟨A, c, rfl, _, hs⟩ := SlAt.of_own h.tr
  refine ⟨A, c, rfl, fun h0 => ?_⟩
  obtain ⟨k, off, e, hb, hc⟩ := hs h0
  refine ⟨k, off, e, hb, fun i hi => ?_⟩
  have := hc i 0 hi (by omega)
  simp only [Nat.mul_one, Nat.add_zero] at this
  rw [this]
  simp [List.getD, hi]
end

def numV (l : List Int) (i : Int) : Int := if i < 0 then -1 else l.getD i.toNat 0
def ofV (n : Nat) (d : Dd) : Int := if d.raw = true ∧ (d.of_ < 0 ∨ (n : Int) ≤ d.of_) then -1 else (d.of_.tmod n + n).tmod n
theorem ofV_range {n : Nat} (d : Dd) (h : 0 < n) : -1 ≤ ofV n d ∧ ofV n d < n := by
  unfold ofV
  split
  · omega
  · have h1 : -(n : Int) < d.of_.tmod n := Int.lt_tmod_of_pos _ (by omega)
    have h2 : 0 ≤ (d.of_.tmod n + n).tmod n := Int.tmod_nonneg _ (by omega)
    have h3 : (d.of_.tmod n + n).tmod n < n := Int.tmod_lt_of_pos _ (by omega)
    omega

set_option maxHeartbeats 1000000 in
theorem number_any (w : World) (w0 : World) (b gs gb ga : Nat) (rb rf q : Option Nat) (Tv Lv : Value) (s : Bst) (i : Int) (h : BI w0 b gs gb ga rb rf q Tv Lv s w) (hn : s.Ts.length ≤ 1000000) (hi : i < s.Ts.length) :
    Calls Try.prog 37 #[.pointer (some ⟨b, 0, none⟩), .int .i64 i] w fun e w' => e = .returned (.int .i64 (numV s.Ts i)) ∧ w = w' := by
  obtain ⟨c0, c1, c2⟩ := h.c
  have hlt := h.lt
  obtain ⟨A, c, rfl, hc⟩ := h.sn
  have HC := Lib.hid hc
  clear hc h
  by_cases h0 : i < 0
  · have e : numV s.Ts i = -1 := by unfold numV; rw [if_pos h0]
    rw [e]
    go_enter Try.func37, Try.ntmps37
    go_wp2
    go_ret
    exact ⟨rfl, rfl⟩
  · obtain ⟨k, rfl⟩ : ∃ k : Nat, i = k := ⟨i.toNat, by omega⟩
    have hk : k < s.Ts.length := by omega
    have e : numV s.Ts k = s.Ts.getD k 0 := by unfold numV; rw [if_neg h0, Int.toNat_natCast]
    rw [e]
    obtain ⟨x, off, rfl, hx, hcs⟩ := HC.out (by omega)
    have f0 := hcs k hk
    clear hcs e
    generalize s.Ts.getD k 0 = r at f0 ⊢
    generalize s.Ts.length = m at *
    go_enter Try.func37, Try.ntmps37
    go_wp2
    go_ret
    exact ⟨rfl, rfl⟩

set_option maxHeartbeats 2000000 in
theorem of_any (w : World) (w0 : World) (b gs gb ga : Nat) (rb rf q : Option Nat) (Tv Lv : Value) (s : Bst) (d : Dd) (h : BI w0 b gs gb ga rb rf q Tv Lv s w) (hn : s.Ts.length ≤ 1000000) (hp : 0 < s.Ts.length) :
    Calls Try.prog 75 #[.pointer (some ⟨b, 0, none⟩), .agg #[.int .i64 d.of_, .int .i64 d.at_, .int .i64 d.del, .string d.text, .bool d.raw]] w fun e w' => e = .returned (.int .i64 (ofV s.Ts.length d)) ∧ Below w.heap.size w w' := by
  obtain ⟨c0, c1, c2⟩ := h.c
  have hlt := h.lt
  obtain ⟨A, c, rfl, _⟩ := h.sn
  have hb0 : Below w.heap.size w (w.alloc (.cells #[.int .i64 d.of_, .int .i64 d.at_, .int .i64 d.del, .string d.text, .bool d.raw] 54)) := (Below.refl _ _).alloc (Nat.le_refl _) _
  have HB := Lib.hid hb0
  clear h hb0
  generalize s.Ts.length = n at *
  obtain ⟨o, at_, del, text, raw⟩ := d
  simp only at HB ⊢
  have hn' : (n : Int) ≤ 1000000 := by omega
  have hp' : (0 : Int) < n := by omega
  have h1 : -(n : Int) < o.tmod n := Int.lt_tmod_of_pos _ hp'
  have h1' : o.tmod n < n := Int.tmod_lt_of_pos _ hp'
  have hne : (n : Int) ≠ 0 := by omega
  have hne2 : ((n : Int) == 0) = false := by simp; omega
  have e1 : IntKind.i64.wrap (o.tmod n) = o.tmod n := IntWalk.i64_in _ (by omega)
  have e2 : IntKind.i64.wrap (o.tmod n + n) = o.tmod n + n := IntWalk.i64_in _ (by omega)
  have h3 : 0 ≤ (o.tmod n + n).tmod n := Int.tmod_nonneg _ (by omega)
  have h4 : (o.tmod n + n).tmod n < n := Int.tmod_lt_of_pos _ hp'
  have e3 : IntKind.i64.wrap ((o.tmod n + n).tmod n) = (o.tmod n + n).tmod n := IntWalk.i64_in _ (by omega)
  have HT := Lib.hid (rfl : ofV n ⟨o, at_, del, text, raw⟩ = ofV n ⟨o, at_, del, text, raw⟩)
  by_cases hbad : raw = true ∧ (o < 0 ∨ (n : Int) ≤ o)
  · have e : ofV n ⟨o, at_, del, text, raw⟩ = -1 := by unfold ofV; rw [if_pos hbad]
    rw [e]
    obtain ⟨rfl, hb⟩ := hbad
    rcases hb with hb | hb
    · go_enter Try.func75, Try.ntmps75
      go_wp2
      go_ret
      exact ⟨rfl, HB.out⟩
    · have hb2 : ¬ o < 0 := by omega
      go_enter Try.func75, Try.ntmps75
      go_wp2
      go_ret
      exact ⟨rfl, HB.out⟩
  · have e : ofV n ⟨o, at_, del, text, raw⟩ = (o.tmod n + n).tmod n := by unfold ofV; rw [if_neg hbad]
    rw [e]
    cases raw
    · go_enter Try.func75, Try.ntmps75
      go_wp2
      go_ret
      exact ⟨by rw [show (o.tmod n + n).tmod n = o.tmod n % n by rw [Int.tmod_eq_emod_of_nonneg (by omega), Int.add_emod_right]]; rfl, HB.out⟩
    · have hb2 : ¬ o < 0 := by simp at hbad; omega
      have hb3 : o < n := by simp at hbad; omega
      go_enter Try.func75, Try.ntmps75
      go_wp2
      go_ret
      exact ⟨by rw [show o.tmod n + n = wrap64 (o % n + n) by rw [← Int.tmod_eq_emod_of_nonneg (by omega)]; unfold wrap64; omega]; rfl, HB.out⟩
end Go.Proofs.Ytkcocdpmangcgaa.Rp
