/- Layer 22's document: texts by their numbers: Has, Span, Replace, Digits. */ -/
import Derived.Test.YtoeamnagmehpeaaMgG
import Derived.BigQuiet
import Derived.Test.YtoeamnagmehpeaaMgA
import Derived.OpenShut
import Derived.Lib.SmallJoins
import Derived.ChangeArms
import Derived.WideKeyPair
namespace Go.Proofs.Ytoeamnagmehpeaa.Rp
set_option linter.unusedSimpArgs false
set_option linter.unusedVariables false
open Go Go.RowKit
attribute [local go_sem] lt_add1 lt_self1 size_ne size_ne' size_ne1 size_ne1'
attribute [local irreducible] wpGrow wpThr

/-- a slice of texts. -/
def SlS (w : World) (v : Value) (ls : List ByteArray) : Prop := ∃ A c, v = .slice A ls.length c ∧ (0 < ls.length → ∃ b off, A = some ⟨b, off, none⟩ ∧ b < w.heap.size ∧ ∀ i, i < ls.length → w.cell? ⟨b, off + i, none⟩ = some (.string (ls.getD i ⟨#[]⟩)))
theorem SlS.below {w w' : World} {v : Value} {ls : List ByteArray} (h : SlS w v ls) (hb : Below w.heap.size w w') : SlS w' v ls := by
  obtain ⟨A, c, rfl, h⟩ := h
  refine ⟨A, c, rfl, fun h0 => ?_⟩
  obtain ⟨b, off, e, hl, hc⟩ := h h0
  exact ⟨b, off, e, Nat.lt_of_lt_of_le hl hb.size, fun i hi => (hb.cell (p := ⟨b, _, none⟩) hl).trans (hc i hi)⟩
theorem SlS.of_own {w : World} {base : Nat} {v : Value} {ls : List ByteArray} (h : w.ownsRow base 9 1 v ls.length (ls.map Value.string)) : SlS w v ls := by
  obtain ⟨A, c, rfl, _, hs⟩ := SlAt.of_own h
  refine ⟨A, c, rfl, fun h0 => ?_⟩
  obtain ⟨b, off, e, hb, hc⟩ := hs h0
  refine ⟨b, off, e, hb, fun i hi => ?_⟩
  have := hc i 0 hi (by omega)
  simp only [Nat.mul_one, Nat.add_zero] at this
  rw [this]
  simp [List.getD, hi]

def hasB (n : Nat) (i : Int) : Bool := decide (0 ≤ i) && decide (i < n)
def spanR (ls : List ByteArray) (i a n : Int) : Int := if hasB ls.length i = true then spanV (ls.getD i.toNat ⟨#[]⟩).size a n else 7
def repS (x : ByteArray) (a n : Int) (t : ByteArray) : ByteArray := x.extract 0 a.toNat ++ t ++ x.extract (a + n).toNat x.size
theorem repS_list (x t : ByteArray) {a n : Int} (h0 : 0 ≤ a) (h1 : 0 ≤ n) (h2 : a + n ≤ x.size) : (repS x a n t).data.toList = x.data.toList.take a.toNat ++ t.data.toList ++ x.data.toList.drop (a.toNat + n.toNat) := by
  have hx : x.data.toList.length = x.size := rfl
  unfold repS
  rw [ByteArray.data_append, ByteArray.data_append, Array.toList_append, Array.toList_append, extract_list, extract_list]
  rw [List.drop_zero, Nat.sub_zero, List.take_of_length_le (i := x.size - (a + n).toNat) (by rw [List.length_drop]; omega), show (a + n).toNat = a.toNat + n.toNat by omega]

set_option maxHeartbeats 1000000 in
theorem has_any (v : Value) (ls : List ByteArray) (i : Int) (w : World) (h : SlS w v ls) (hn : ls.length ≤ 1000000) :
    Calls Try.prog 146 #[.agg #[v], .int .i64 i] w fun e w' => e = .returned (.bool (hasB ls.length i)) ∧ Below w.heap.size w w' := by
  obtain ⟨A, c, rfl, _⟩ := h
  have hb : Below w.heap.size w (w.alloc (.cells #[.slice A ls.length c] 37)) := (Below.refl _ _).alloc (Nat.le_refl _) _
  have HB := Lib.hid hb
  clear hb
  generalize ls.length = n at hn HB ⊢
  by_cases h0 : 0 ≤ i
  · by_cases h1 : i < n
    · have e : hasB n i = true := by simp [hasB, h0, h1]
      rw [e]
      go_enter Try.func146, Try.ntmps146
      go_wp2
      go_ret
      exact ⟨rfl, HB.out⟩
    · have e : hasB n i = false := by simp [hasB, h1]
      rw [e]
      go_enter Try.func146, Try.ntmps146
      go_wp2
      go_ret
      exact ⟨rfl, HB.out⟩
  · have e : hasB n i = false := by simp [hasB, h0]
    rw [e]
    go_enter Try.func146, Try.ntmps146
    go_wp2
    go_ret
    exact ⟨rfl, HB.out⟩

set_option maxHeartbeats 4000000 in
theorem span_any (v : Value) (ls : List ByteArray) (i a n : Int) (w : World) (h : SlS w v ls) (hn : ls.length ≤ 1000000) (hs : ∀ x ∈ ls, x.size ≤ 1000000) :
    Calls Try.prog 128 #[.agg #[v], .int .i64 i, .int .i64 a, .int .i64 n] w fun e w' => e = .returned (.int .i64 (spanR ls i a n)) ∧ Below w.heap.size w w' := by
  have hb0 : Below w.heap.size w (w.alloc (.cells #[v] 37)) := (Below.refl _ _).alloc (Nat.le_refl _) _
  have hk0 : (w.alloc (.cells #[v] 37)).heap[w.heap.size]? = some (.cells #[v] 37 (0, 0)) := heap_alloc_new _ _
  have HH := Lib.hid (fun w' (hb : Below w.heap.size w w') => has_any v ls i w' (h.below hb) hn)
  have H0 := Lib.hid (And.intro hb0 hk0)
  have HS := Lib.hid (And.intro h hs)
  obtain ⟨A, c, rfl, hc⟩ := h
  have HC := Lib.hid hc
  clear hb0 hk0 hs hc
  by_cases hh : hasB ls.length i = true
  · rw [hh] at HH
    obtain ⟨k, rfl⟩ : ∃ k : Nat, i = k := ⟨i.toNat, by simp [hasB] at hh; omega⟩
    have hk : k < ls.length := by simp [hasB] at hh; exact hh
    have hsp : spanR ls k a n = spanV (ls.getD k ⟨#[]⟩).size a n := by unfold spanR; rw [if_pos hh, Int.toNat_natCast]
    rw [hsp]
    have hx : (ls.getD k ⟨#[]⟩).size ≤ 1000000 := HS.out.2 _ (by simp [List.getD, hk])
    obtain ⟨b, off, rfl, hbl, hcs⟩ := HC.out (by omega)
    have hcell := hcs k hk
    have HX := Lib.hid hcell
    clear hcs hcell hsp
    generalize ls.getD k ⟨#[]⟩ = x at hx HX ⊢
    have hk' : (k : Int) < ls.length := by omega
    generalize ls.length = m at *
    have key : ∀ r : Int, spanV x.size a n = r → Calls Try.prog 128 #[.agg #[.slice (some ⟨b, off, none⟩) m c], .int .i64 k, .int .i64 a, .int .i64 n] w fun e w' => e = .returned (.int .i64 r) ∧ Below w.heap.size w w' := by
      intro r hr
      have hz : (x.size : Int) ≤ 1000000 := by omega
      have cases5 : (a < 0) ∨ (¬ a < 0 ∧ n < 0) ∨ (¬ a < 0 ∧ ¬ n < 0 ∧ x.size < a) ∨ (¬ a < 0 ∧ ¬ n < 0 ∧ ¬ x.size < a ∧ x.size - a < n) ∨ (¬ a < 0 ∧ ¬ n < 0 ∧ ¬ x.size < a ∧ ¬ x.size - a < n) := by omega
      rcases cases5 with h1 | ⟨h1, h2⟩ | ⟨h1, h2, h3⟩ | ⟨h1, h2, h3, h4⟩ | ⟨h1, h2, h3, h4⟩
      all_goals
        have er : r = (if a < 0 ∨ n < 0 ∨ x.size < a ∨ x.size - a < n then 2 else 0) := by rw [← hr]; unfold spanV; rfl
        first | rw [if_pos (by omega)] at er | rw [if_neg (by omega)] at er
        subst er
        clear hr
        go_enter Try.func128, Try.ntmps128
        go_wp2_with fail
        ((with_reducible refine (HH.out _ H0.out.1).mono ?_); rintro e w1 ⟨rfl, hb1⟩)
        have hb2 := H0.out.1.trans (hb1.mono H0.out.1.size)
        have f0 : w1.cell? ⟨b, off + k, none⟩ = some (.string x) := (hb2.cell (p := ⟨b, _, none⟩) hbl).trans HX.out
        have f1 : w1.cell? ⟨w.heap.size, 0, none⟩ = some (.slice (some ⟨b, off, none⟩) m c) := cell_of_row w1 _ 0 _ _ (0, 0) ((hb1.block _ (Array.getElem?_eq_some_iff.1 H0.out.2).1).trans H0.out.2)
        have HB2 := Lib.hid hb2
        clear hb1 hb2
        go_wp2
        go_ret
        exact ⟨rfl, HB2.out⟩
    exact key _ rfl
  · have hf : hasB ls.length i = false := by simpa using hh
    have hsp : spanR ls i a n = 7 := by unfold spanR; rw [if_neg hh]
    rw [hsp]
    rw [hf] at HH
    generalize ls.length = m at *
    go_enter Try.func128, Try.ntmps128
    go_wp2_with fail
    ((with_reducible refine (HH.out _ H0.out.1).mono ?_); rintro e w1 ⟨rfl, hb1⟩)
    have HB2 := Lib.hid (H0.out.1.trans (hb1.mono H0.out.1.size))
    clear hb1
    go_wp2
    go_ret
    exact ⟨rfl, HB2.out⟩

set_option maxHeartbeats 4000000 in
theorem refrep_any (v : Value) (ls : List ByteArray) (i a n : Int) (t : ByteArray) (w : World) (h : SlS w v ls) (hn : ls.length ≤ 1000000) (hs : ∀ x ∈ ls, x.size ≤ 1000000) (ht : t.size ≤ 1000000) :
    Calls Try.prog 97 #[.agg #[v], .int .i64 i, .int .i64 a, .int .i64 n, .string t] w fun e w' =>
      e = .returned (if spanR ls i a n = 0 then .tuple #[.string (repS (ls.getD i.toNat ⟨#[]⟩) a n t), .int .i64 0] else .tuple #[.string ⟨#[]⟩, .int .i64 (spanR ls i a n)]) ∧ Below w.heap.size w w' := by
  have hb0 : Below w.heap.size w (w.alloc (.cells #[v] 37)) := (Below.refl _ _).alloc (Nat.le_refl _) _
  have hk0 : (w.alloc (.cells #[v] 37)).heap[w.heap.size]? = some (.cells #[v] 37 (0, 0)) := heap_alloc_new _ _
  have HH := Lib.hid (fun w' (hb : Below w.heap.size w w') => span_any v ls i a n w' (h.below hb) hn hs)
  have H0 := Lib.hid (And.intro hb0 hk0)
  have HS := Lib.hid (And.intro h hs)
  obtain ⟨A, c, rfl, hc⟩ := h
  have HC := Lib.hid hc
  clear hb0 hk0 hs hc
  by_cases hsp : spanR ls i a n = 0
  · rw [if_pos hsp]
    rw [hsp] at HH
    have hh : hasB ls.length i = true := by
      unfold spanR at hsp
      split at hsp
      · assumption
      · omega
    have hv : spanV (ls.getD i.toNat ⟨#[]⟩).size a n = 0 := by unfold spanR at hsp; rwa [if_pos hh] at hsp
    obtain ⟨k, rfl⟩ : ∃ k : Nat, i = k := ⟨i.toNat, by simp [hasB] at hh; omega⟩
    have hk : k < ls.length := by simp [hasB] at hh; exact hh
    rw [Int.toNat_natCast] at hv ⊢
    have hx : (ls.getD k ⟨#[]⟩).size ≤ 1000000 := HS.out.2 _ (by simp [List.getD, hk])
    obtain ⟨b, off, rfl, hbl, hcs⟩ := HC.out (by omega)
    have hcell := hcs k hk
    have HX := Lib.hid hcell
    clear hcs hcell hsp hh
    generalize ls.getD k ⟨#[]⟩ = x at hx HX hv ⊢
    have hk' : (k : Int) < ls.length := by omega
    generalize ls.length = m at *
    have hin : 0 ≤ a ∧ 0 ≤ n ∧ a + n ≤ x.size := by unfold spanV at hv; split at hv <;> omega
    obtain ⟨h1, h2, h3⟩ := hin
    have h4 : a ≤ x.size := by omega
    unfold repS
    clear hv
    go_enter Try.func97, Try.ntmps97
    go_wp2_with fail
    ((with_reducible refine (HH.out _ H0.out.1).mono ?_); rintro e w1 ⟨rfl, hb1⟩)
    have hb2 := H0.out.1.trans (hb1.mono H0.out.1.size)
    have f0 : w1.cell? ⟨b, off + k, none⟩ = some (.string x) := (hb2.cell (p := ⟨b, _, none⟩) hbl).trans HX.out
    have f1 : w1.cell? ⟨w.heap.size, 0, none⟩ = some (.slice (some ⟨b, off, none⟩) m c) := cell_of_row w1 _ 0 _ _ (0, 0) ((hb1.block _ (Array.getElem?_eq_some_iff.1 H0.out.2).1).trans H0.out.2)
    have HB2 := Lib.hid hb2
    clear hb1 hb2
    go_upto_region 5 with fail
    go_quiet (fail)
    all_goals
      go_wp2
      go_ret2
      refine ⟨rfl, ?_⟩
      have hb := HB2.out
      (repeat (first | exact Below.refl _ _ | assumption | (refine Below.setCell ?_ (by first | (simp; done) | (simp; omega) | omega) _) | (refine Below.alloc ?_ (by first | (simp; done) | (simp; omega) | omega) _) | (refine Below.drew ?_) | (refine Below.drewN ?_ _) | (refine Below.trans ?_ (Below.mono (by assumption) (by first | (simp; done) | (simp; omega) | omega)))))
  · rw [if_neg hsp]
    generalize spanR ls i a n = r at *
    have hr : (r != 0) = true := by simp [hsp]
    go_enter Try.func97, Try.ntmps97
    go_wp2_with fail
    ((with_reducible refine (HH.out _ H0.out.1).mono ?_); rintro e w1 ⟨rfl, hb1⟩)
    have HB2 := Lib.hid (H0.out.1.trans (hb1.mono H0.out.1.size))
    clear hb1
    go_wp2
    go_ret2
    exact ⟨rfl, HB2.out⟩

/-- binary digits. -/
theorem digits_half (k n : Nat) (h : 0 < n) : digits (k + 1) n = digits k (n / 2) + 1 := by simp only [digits]; rw [if_neg (by omega)]
set_option maxHeartbeats 1000000 in
theorem digits_any (n : Nat) (hn : n ≤ 1000000) (w : World) : Calls Try.prog 98 #[.int .i64 n] w fun e w' => e = .returned (.int .i64 (digits 64 n)) ∧ w = w' := by
  go_enter Try.func98, Try.ntmps98
  go_wp2
  go_loop [0, 3] (fun x k => ∃ (m j : Nat), x = .int .i64 m ∧ k = .int .i64 j ∧ m ≤ 1000000 ∧ j ≤ 64 ∧ m < 2 ^ (64 - j) ∧ j + digits (64 - j) m = digits 64 n) (fun x _ => (intOf x).toNat)
  case atStart => exact ⟨n, 0, rfl, rfl, hn, by omega, by omega, by simp⟩
  case round =>
    obtain ⟨m, j, rfl, rfl, hm, hj, hp, hd⟩ := hrel
    by_cases h0 : 0 < m
    · have hj2 : j < 64 := by
        rcases Nat.lt_or_ge j 64 with h | h
        · exact h
        · rw [show 64 - j = 0 by omega] at hp; omega
      have h0' : (0 : Int) < m := by omega
      have HD := Lib.hid (And.intro hp hd)
      clear hp hd
      go_wp2
      go_round
      case rel =>
        obtain ⟨hp, hd⟩ := HD.out
        refine ⟨m / 2, j + 1, by go_num, by go_num, by omega, by omega, ?_, ?_⟩
        · rw [show 64 - j = (64 - (j + 1)) + 1 by omega, Nat.pow_succ] at hp; omega
        · rw [show 64 - j = (64 - (j + 1)) + 1 by omega, digits_half _ _ h0] at hd; omega
      case measure => simp [intOf]; omega
    · obtain rfl : m = 0 := by omega
      go_wp2
      go_ret
      refine ⟨?_, rfl⟩
      have : digits (64 - j) 0 = 0 := by cases (64 - j) <;> simp [digits]
      rw [← hd, this]
      rfl
end Go.Proofs.Ytoeamnagmehpeaa.Rp


/- Layer 22's law: both, a store with its ropes and the document's texts; of, number, Begin. */ -/
namespace Go.Proofs.Ytoeamnagmehpeaa.Rp
set_option linter.unusedSimpArgs false
set_option linter.unusedVariables false
open Go Go.RowKit
open Go.Proofs.Ytoeamnagmehpeaa.Ar (T Is Ext WF Knot getK getB Arena resAr small)
attribute [local go_sem] lt_add1 lt_self1 size_ne size_ne' size_ne1 size_ne1'
attribute [local irreducible] wpGrow wpThr

structure Dd where
  of_ : Int
  at_ : Int
  del : Int
  text : ByteArray
  raw : Bool
def Dd.zero : Dd := ⟨0, 0, 0, ⟨#[]⟩, false⟩
instance : Inhabited Dd := ⟨Dd.zero⟩
def ddc (d : Dd) : List Value := [.int .i64 d.of_, .int .i64 d.at_, .int .i64 d.del, .string d.text, .bool d.raw]

/-- both, as plain values. -/
structure Bst where
  S : ByteArray
  ks : List Knot
  Ts : List Int
  Ls : List ByteArray
/-- both in memory: w0 is the world in which the law began. -/
structure BI (w0 : World) (b gs gb ga : Nat) (rb rf q : Option Nat) (Tv Lv : Value) (s : Bst) (w : World) : Prop where
  blk : w.heap[b]? = some (.cells #[.pointer (some ⟨gs, 0, none⟩), Tv, Lv] 39 (0, 0))
  st : St w gs gb ga rb rf q s.S s.ks
  tr : w.ownsRow w0.heap.size 3 1 Tv s.Ts.length (s.Ts.map (Value.int .i64))
  lr : w.ownsRow w0.heap.size 9 1 Lv s.Ls.length (s.Ls.map Value.string)
  nb : ¬ sfoot gb ga rb rf q b
  nbt : Tv.ownBlock ≠ some b
  nbl : Lv.ownBlock ≠ some b
  nt : ∀ k, Tv.ownBlock = some k → ¬ sfoot gb ga rb rf q k
  nl : ∀ k, Lv.ownBlock = some k → ¬ sfoot gb ga rb rf q k
  ntl : ∀ k, Tv.ownBlock = some k → Lv.ownBlock ≠ some k
  ntg : Tv.ownBlock ≠ some gs
  nlg : Lv.ownBlock ≠ some gs
  nbg : b ≠ gs
  bl : Below w0.heap.size w0 w
  geb : w0.heap.size ≤ b
  gef : ∀ k, sfoot gb ga rb rf q k → w0.heap.size ≤ k
section
variable {w0 w w' : World} {b gs gb ga : Nat} {rb rf q rb' rf' q' : Option Nat} {Tv Lv : Value} {s : Bst} {S' : ByteArray} {ks' : List Knot}
theorem BI.lt (h : BI w0 b gs gb ga rb rf q Tv Lv s w) : b < w.heap.size := (Array.getElem?_eq_some_iff.1 h.blk).1
theorem BI.below (h : BI w0 b gs gb ga rb rf q Tv Lv s w) (hb : Below w.heap.size w w') : BI w0 b gs gb ga rb rf q Tv Lv s w' :=
  ⟨(hb.block b h.lt).trans h.blk, h.st.below hb, own_below h.tr hb, own_below h.lr hb, h.nb, h.nbt, h.nbl, h.nt, h.nl, h.ntl, h.ntg, h.nlg, h.nbg, h.bl.trans (hb.mono h.bl.size), h.geb, h.gef⟩
/-- the store turns. -/
theorem BI.store (h : BI w0 b gs gb ga rb rf q Tv Lv s w) (hs : St w' gs gb ga rb' rf' q' S' ks') (hf : Fr w (sfoot gb ga rb rf q) w' (sfoot gb ga rb' rf' q')) : BI w0 b gs gb ga rb' rf' q' Tv Lv ⟨S', ks', s.Ts, s.Ls⟩ w' :=
  ⟨hf.block h.blk h.nb, hs, hf.own h.tr h.nt, hf.own h.lr h.nl, hf.out h.lt h.nb, h.nbt, h.nbl, fun k hk => hf.out (h.tr.lt k hk).2 (h.nt k hk), fun k hk => hf.out (h.lr.lt k hk).2 (h.nl k hk), h.ntl, h.ntg, h.nlg, h.nbg, hf.below h.bl h.gef h.bl.size, h.geb, hf.ge h.gef h.bl.size⟩
theorem BI.c (h : BI w0 b gs gb ga rb rf q Tv Lv s w) : w.cell? ⟨b, 0, none⟩ = some (.pointer (some ⟨gs, 0, none⟩)) ∧ w.cell? ⟨b, 1, none⟩ = some Tv ∧ w.cell? ⟨b, 2, none⟩ = some Lv :=
  ⟨cell_of_row w b 0 _ _ (0, 0) h.blk, cell_of_row w b 1 _ _ (0, 0) h.blk, cell_of_row w b 2 _ _ (0, 0) h.blk⟩
theorem BI.sl (h : BI w0 b gs gb ga rb rf q Tv Lv s w) : SlS w Lv s.Ls := SlS.of_own h.lr
/-- a slice of numbers. -/
def SlN (w : World) (v : Value) (l : List Int) : Prop := ∃ A c, v = .slice A l.length c ∧ (0 < l.length → ∃ b off, A = some ⟨b, off, none⟩ ∧ b < w.heap.size ∧ ∀ i, i < l.length → w.cell? ⟨b, off + i, none⟩ = some (.int .i64 (l.getD i 0)))
theorem BI.sn (h : BI w0 b gs gb ga rb rf q Tv Lv s w) : SlN w Tv s.Ts := by
  obtain ⟨A, c, rfl, _, hs⟩ := SlAt.of_own h.tr
  refine ⟨A, c, rfl, fun h0 => ?_⟩
  obtain ⟨k, off, e, hb, hc⟩ := hs h0
  refine ⟨k, off, e, hb, fun i hi => ?_⟩
  have := hc i 0 hi (by omega)
  simp only [Nat.mul_one, Nat.add_zero] at this
  rw [this]
  simp [List.getD, hi]
end

def numV (l : List Int) (i : Int) : Int := if i < 0 then -1 else l.getD i.toNat 0
def ofV (n : Nat) (d : Dd) : Int := if d.raw = true ∧ (d.of_ < 0 ∨ (n : Int) ≤ d.of_) then -1 else (d.of_.tmod n + n).tmod n
theorem ofV_range {n : Nat} (d : Dd) (h : 0 < n) : -1 ≤ ofV n d ∧ ofV n d < n := by
  unfold ofV
  split
  · omega
  · have h1 : -(n : Int) < d.of_.tmod n := Int.lt_tmod_of_pos _ (by omega)
    have h2 : 0 ≤ (d.of_.tmod n + n).tmod n := Int.tmod_nonneg _ (by omega)
    have h3 : (d.of_.tmod n + n).tmod n < n := Int.tmod_lt_of_pos _ (by omega)
    omega

set_option maxHeartbeats 1000000 in
theorem number_any (w : World) (w0 : World) (b gs gb ga : Nat) (rb rf q : Option Nat) (Tv Lv : Value) (s : Bst) (i : Int) (h : BI w0 b gs gb ga rb rf q Tv Lv s w) (hn : s.Ts.length ≤ 1000000) (hi : i < s.Ts.length) :
    Calls Try.prog 96 #[.pointer (some ⟨b, 0, none⟩), .int .i64 i] w fun e w' => e = .returned (.int .i64 (numV s.Ts i)) ∧ w = w' := by
  obtain ⟨c0, c1, c2⟩ := h.c
  have hlt := h.lt
  obtain ⟨A, c, rfl, hc⟩ := h.sn
  have HC := Lib.hid hc
  clear hc h
  by_cases h0 : i < 0
  · have e : numV s.Ts i = -1 := by unfold numV; rw [if_pos h0]
    rw [e]
    go_enter Try.func96, Try.ntmps96
    go_wp2
    go_ret
    exact ⟨rfl, rfl⟩
  · obtain ⟨k, rfl⟩ : ∃ k : Nat, i = k := ⟨i.toNat, by omega⟩
    have hk : k < s.Ts.length := by omega
    have e : numV s.Ts k = s.Ts.getD k 0 := by unfold numV; rw [if_neg h0, Int.toNat_natCast]
    rw [e]
    obtain ⟨x, off, rfl, hx, hcs⟩ := HC.out (by omega)
    have f0 := hcs k hk
    clear hcs e
    generalize s.Ts.getD k 0 = r at f0 ⊢
    generalize s.Ts.length = m at *
    go_enter Try.func96, Try.ntmps96
    go_wp2
    go_ret
    exact ⟨rfl, rfl⟩

set_option maxHeartbeats 2000000 in
theorem of_any (w : World) (w0 : World) (b gs gb ga : Nat) (rb rf q : Option Nat) (Tv Lv : Value) (s : Bst) (d : Dd) (h : BI w0 b gs gb ga rb rf q Tv Lv s w) (hn : s.Ts.length ≤ 1000000) (hp : 0 < s.Ts.length) :
    Calls Try.prog 95 #[.pointer (some ⟨b, 0, none⟩), .agg #[.int .i64 d.of_, .int .i64 d.at_, .int .i64 d.del, .string d.text, .bool d.raw]] w fun e w' => e = .returned (.int .i64 (ofV s.Ts.length d)) ∧ Below w.heap.size w w' := by
  obtain ⟨c0, c1, c2⟩ := h.c
  have hlt := h.lt
  obtain ⟨A, c, rfl, _⟩ := h.sn
  have hb0 : Below w.heap.size w (w.alloc (.cells #[.int .i64 d.of_, .int .i64 d.at_, .int .i64 d.del, .string d.text, .bool d.raw] 25)) := (Below.refl _ _).alloc (Nat.le_refl _) _
  have HB := Lib.hid hb0
  clear h hb0
  generalize s.Ts.length = n at *
  obtain ⟨o, at_, del, text, raw⟩ := d
  simp only at HB ⊢
  have hn' : (n : Int) ≤ 1000000 := by omega
  have hp' : (0 : Int) < n := by omega
  have h1 : -(n : Int) < o.tmod n := Int.lt_tmod_of_pos _ hp'
  have h1' : o.tmod n < n := Int.tmod_lt_of_pos _ hp'
  have hne : (n : Int) ≠ 0 := by omega
  have hne2 : ((n : Int) == 0) = false := by simp; omega
  have e1 : IntKind.i64.wrap (o.tmod n) = o.tmod n := IntWalk.i64_in _ (by omega)
  have e2 : IntKind.i64.wrap (o.tmod n + n) = o.tmod n + n := IntWalk.i64_in _ (by omega)
  have h3 : 0 ≤ (o.tmod n + n).tmod n := Int.tmod_nonneg _ (by omega)
  have h4 : (o.tmod n + n).tmod n < n := Int.tmod_lt_of_pos _ hp'
  have e3 : IntKind.i64.wrap ((o.tmod n + n).tmod n) = (o.tmod n + n).tmod n := IntWalk.i64_in _ (by omega)
  have HT := Lib.hid (rfl : ofV n ⟨o, at_, del, text, raw⟩ = ofV n ⟨o, at_, del, text, raw⟩)
  by_cases hbad : raw = true ∧ (o < 0 ∨ (n : Int) ≤ o)
  · have e : ofV n ⟨o, at_, del, text, raw⟩ = -1 := by unfold ofV; rw [if_pos hbad]
    rw [e]
    obtain ⟨rfl, hb⟩ := hbad
    rcases hb with hb | hb
    · go_enter Try.func95, Try.ntmps95
      go_wp2
      go_ret
      exact ⟨rfl, HB.out⟩
    · have hb2 : ¬ o < 0 := by omega
      go_enter Try.func95, Try.ntmps95
      go_wp2
      go_ret
      exact ⟨rfl, HB.out⟩
  · have e : ofV n ⟨o, at_, del, text, raw⟩ = (o.tmod n + n).tmod n := by unfold ofV; rw [if_neg hbad]
    rw [e]
    cases raw
    · go_enter Try.func95, Try.ntmps95
      go_wp2
      go_ret
      exact ⟨by rw [show (o.tmod n + n).tmod n = o.tmod n % n by rw [Int.tmod_eq_emod_of_nonneg (by omega), Int.add_emod_right]]; rfl, HB.out⟩
    · have hb2 : ¬ o < 0 := by simp at hbad; omega
      have hb3 : o < n := by simp at hbad; omega
      go_enter Try.func95, Try.ntmps95
      go_wp2
      go_ret
      exact ⟨by rw [show o.tmod n + n = wrap64 (o % n + n) by rw [← Int.tmod_eq_emod_of_nonneg (by omega)]; unfold wrap64; omega]; rfl, HB.out⟩
end Go.Proofs.Ytoeamnagmehpeaa.Rp


/- Layer 22's law: what holds behind deeds; Replace where it is allowed, whatever the text; both as a resource. */ -/
namespace Go.Proofs.Ytoeamnagmehpeaa.Rp
set_option linter.unusedSimpArgs false
set_option linter.unusedVariables false
open Go Go.RowKit
open Go.Proofs.Ytoeamnagmehpeaa.Ar (T Is Ext WF Knot getK getB Arena resAr small)
attribute [local go_sem] lt_add1 lt_self1 size_ne size_ne' size_ne1 size_ne1'
attribute [local irreducible] wpGrow wpThr

theorem digits_ge : ∀ (k j n : Nat), j < k → 2 ^ j ≤ n → j + 1 ≤ digits k n
  | 0, j, n, h, _ => by omega
  | k + 1, 0, n, _, h => by
    simp only [digits]
    rw [if_neg (by simp at h; omega)]
    omega
  | k + 1, j + 1, n, h, hp => by
    have h1 : 2 ^ j ≤ n / 2 := by rw [Nat.pow_succ] at hp; omega
    have h2 := digits_ge k j (n / 2) (by omega) h1
    have h3 : n ≠ 0 := by
      rintro rfl
      have : 0 < 2 ^ (j + 1) := Nat.pos_of_ne_zero (by simp)
      omega
    simp only [digits]
    rw [if_neg h3]
    omega
theorem cost_ok {X : T} {N : Nat} (hok : X.ok) (hb : X.bal) (hN : (N : Int) ≤ 20 * X.high + 20) (hm : X.many ≤ 1000000) : (N : Int) ≤ 64 * (digits 64 (X.many + 2).toNat : Nat) := by
  have hbd := T.bounds hok
  by_cases h0 : 0 < X.size
  · obtain ⟨h1, h2⟩ := many_pow hok hb h0
    have h3 : X.high.toNat / 2 < 64 := by
      rcases Nat.lt_or_ge (X.high.toNat / 2) 64 with h | h
      · exact h
      · have : 2 ^ 64 ≤ 2 ^ (X.high.toNat / 2) := Nat.pow_le_pow_right (by omega) h
        omega
    have := digits_ge 64 (X.high.toNat / 2) (X.many + 2).toNat h3 (by omega)
    omega
  · have : X = .nil := Ar.T.nil_of_size hok (by omega)
    subst this
    have : digits 64 ((T.nil).many + 2).toNat = 2 := by decide
    rw [this]
    simp [T.high] at hN
    omega

/-! Replace where it is allowed -/
def RepC (S : ByteArray) (ks : List Knot) (t : Int) (X : T) (a n : Int) (x : ByteArray) (v : Value) (s' : Sst) : Prop :=
  ∃ (t2 : Int) (Y : T) (N M : Nat), v = .tuple #[.int .i64 t2, .int .i64 0] ∧ s'.1 = S ++ x ∧ WF s'.2 ∧ Is s'.2 t2 Y ∧ Ext ks s'.2 N M ∧ M ≤ 5 ∧ Good s'.1 Y ∧
    txt s'.1 Y = (txt S X).take a.toNat ++ x.data.toList ++ (txt S X).drop (a.toNat + n.toNat) ∧ Y.bal ∧ (N : Int) ≤ 20 * X.high + 20 ∧ (n = 0 ∧ x.size = 0 → t2 = t ∧ N = 0)
theorem append_empty (S : ByteArray) : S ++ (⟨#[]⟩ : ByteArray) = S :=
  Go.Proofs.Ytoeamnagmehpeaa.Buf.bytes_ext (by rw [ByteArray.data_append, Array.toList_append]; exact List.append_nil _)
theorem empty_of_size {x : ByteArray} (h : x.size = 0) : x = ⟨#[]⟩ := Go.Proofs.Ytoeamnagmehpeaa.Buf.bytes_ext (by rw [List.length_eq_zero_iff.1 (show x.data.toList.length = 0 from h)])
section
variable (gs gb ga : Nat) (S : ByteArray) (ks : List Knot)
set_option maxHeartbeats 1000000 in
theorem rrep_same (t a : Int) (X : T) (hw : WF ks) (ht : Is ks t X) (hg : Good S X) (hks : ks.length ≤ 1000000) (hX : X.size ≤ 1000000) (hs : spanV X.size a 0 = 0) (hb : X.bal) :
    Does Try.prog (resSt gs gb ga) 19 #[.pointer (some ⟨gs, 0, none⟩), .int .i64 t, .int .i64 a, .int .i64 0, .string ⟨#[]⟩] (S, ks) (RepC S ks t X a 0 ⟨#[]⟩) := by
  rintro w F ⟨rb, rf, q, rfl, h⟩
  have hok := ht.ok hw
  have hbX := T.bounds hok
  have hsp := rspan_any gs w t a 0 X.size (by omega) (by omega) (rsize_is gs gb ga rb rf q S ks w t X ht h (by unfold small; omega))
  rw [hs] at hsp
  have HSP := Lib.hid hsp
  have HSZ := Lib.hid (fun w' (h : St w' gs gb ga rb rf q S ks) => rsize_is gs gb ga rb rf q S ks w' t X ht h (by unfold small; omega))
  have HH := Lib.hid (And.intro h (And.intro hw (And.intro ht (And.intro hg (And.intro hb hbX)))))
  have hz0 : 0 ≤ X.size := by omega
  clear h hw ht hg hks hsp hs hok hbX hb
  have HZ : Hid (∀ z, X.size = z → X.size = z) := Lib.hid (fun _ h => h)
  generalize X.size = z at HSZ hX hz0
  go_enter Try.func19, Try.ntmps19
  go_wp2_with fail
  ((with_reducible refine HSP.out.mono ?_); rintro e w1 ⟨rfl, hb1⟩)
  have HB1 := Lib.hid (And.intro hb1 (HH.out.1.below hb1))
  clear hb1
  go_wp2_with fail
  ((with_reducible refine (HSZ.out _ HB1.out.2).mono ?_); rintro e w2 ⟨rfl, hb2⟩)
  have HB2 := Lib.hid (And.intro (HB1.out.1.trans (hb2.mono HB1.out.1.size)) (HB1.out.2.below hb2))
  clear hb2
  go_wp2
  go_ret2
  obtain ⟨_, hw, ht, hg, hb, hbX⟩ := HH.out
  refine ⟨_, (S, ks), _, rfl, ⟨t, X, 0, 0, rfl, (append_empty S).symm, hw, ht, Ext.refl _, by omega, hg, ?_, hb, by omega, fun _ => ⟨rfl, rfl⟩⟩, resSt_at HB2.out.2, Fr.of_below HB2.out.1⟩
  simp [List.take_append_drop]

theorem rrepC (t a n : Int) (X : T) (x : ByteArray) (hw : WF ks) (ht : Is ks t X) (hg : Good S X) (hb : X.bal) (hks : ks.length ≤ 1000000) (hS : S.size + x.size ≤ 1000000) (hX : X.size ≤ 900) (hs : spanV X.size a n = 0) :
    Does Try.prog (resSt gs gb ga) 19 #[.pointer (some ⟨gs, 0, none⟩), .int .i64 t, .int .i64 a, .int .i64 n, .string x] (S, ks) (RepC S ks t X a n x) := by
  have hm := T.bounds (ht.ok hw)
  by_cases hne : n = 0 ∧ x.size = 0
  · obtain ⟨rfl, hx⟩ := hne
    rw [empty_of_size hx]
    exact rrep_same gs gb ga S ks t a X hw ht hg hks (by omega) hs hb
  · refine (rrep_some gs gb ga S ks t a n X x hw ht hg (by omega) hks hS (by omega) hs hne).mono ?_
    rintro v s' ⟨h1, t2, Y, N, M, h2, h3, h4, h5, h6, h7, h8, h9⟩
    exact ⟨t2, Y, N, M, h2, h1, h3, h4, h5, h6, h7, h8, (h9 hb).1, (h9 hb).2, fun h => absurd h hne⟩
end

/-! what holds behind so many deeds -/
structure Inv (s : Bst) (k : Nat) : Prop where
  len : s.Ts.length = s.Ls.length
  pos : 0 < s.Ts.length
  le : s.Ts.length ≤ k + 1
  wf : WF s.ks
  kn : s.ks.length ≤ 20000 * k
  sz : s.S.size ≤ 20 * k
  ropes : ∀ i, i < s.Ts.length → ∃ X, Is s.ks (s.Ts.getD i 0) X ∧ Good s.S X ∧ X.bal ∧ txt s.S X = (s.Ls.getD i ⟨#[]⟩).data.toList ∧ X.size ≤ 20 * k
theorem Inv.more {s : Bst} {k m : Nat} (h : Inv s k) (hm : k ≤ m) : Inv s m := ⟨h.len, h.pos, by have := h.le; omega, h.wf, by have := h.kn; omega, by have := h.sz; omega, fun i hi => by
  obtain ⟨X, h1, h2, h3, h4, h5⟩ := h.ropes i hi
  exact ⟨X, h1, h2, h3, h4, by omega⟩⟩
theorem getD_snoc {α : Type} (l : List α) (x d : α) (i : Nat) : (l ++ [x]).getD i d = if i = l.length then x else l.getD i d := by
  simp only [List.getD, List.getElem?_append]
  split
  · next h => rw [if_neg (by omega)]
  · next h =>
    by_cases e : i = l.length
    · subst e; simp
    · rw [if_neg e, List.getElem?_eq_none (by simp; omega), List.getElem?_eq_none (by omega)]
/-- a rope more. -/
theorem Inv.deed {s : Bst} {k i : Nat} {a n t2 : Int} {x y : ByteArray} {X : T} {v : Value} {S' : ByteArray} {ks' : List Knot} (h : Inv s k) (hk : k ≤ 45) (hi : i < s.Ts.length) (hX : Is s.ks (s.Ts.getD i 0) X) (hx : txt s.S X = (s.Ls.getD i ⟨#[]⟩).data.toList) (hxs : X.size ≤ 20 * k) (hg : Good s.S X) (hok : X.ok)
    (h0 : 0 ≤ a) (h1 : 0 ≤ n) (h2 : a + n ≤ X.size) (hx20 : x.size ≤ 20) (hr : RepC s.S s.ks (s.Ts.getD i 0) X a n x (.tuple #[.int .i64 t2, .int .i64 0]) (S', ks')) (hy : y = repS (s.Ls.getD i ⟨#[]⟩) a n x) : Inv ⟨S', ks', s.Ts ++ [t2], s.Ls ++ [y]⟩ (k + 1) := by
  obtain ⟨t2', Y, N, M, e, r1, r2, r3, r4, r5, r6, r7, r8, r9, _⟩ := hr
  simp only at r1 r2 r3 r4 r6 r7
  obtain rfl : t2 = t2' := by simpa using e
  have hlk := r4.len
  have hb := T.bounds hok
  have hz : S'.size = s.S.size + x.size := by rw [r1, ByteArray.size_append]
  have hlx := txt_length hg
  have hlx2 : ((s.Ls.getD i ⟨#[]⟩).size : Int) = X.size := by rw [← hlx, hx]; rfl
  have hyl : y.data.toList = (txt s.S X).take a.toNat ++ x.data.toList ++ (txt s.S X).drop (a.toNat + n.toNat) := by rw [hy, repS_list _ _ h0 h1 (by omega), hx]
  refine ⟨by simp [h.len], by simp, by have := h.le; simp; omega, r2, by have := h.kn; simp only; omega, by have := h.sz; simp only; omega, fun j hj => ?_⟩
  simp only [List.length_append, List.length_cons, List.length_nil] at hj
  simp only
  rw [getD_snoc, getD_snoc, ← h.len]
  by_cases ej : j = s.Ts.length
  · rw [if_pos ej, if_pos ej]
    refine ⟨Y, r3, r6, r8, by rw [r7, hyl], ?_⟩
    have := txt_length r6
    rw [r7] at this
    simp only [List.length_append, List.length_take, List.length_drop] at this
    have e2 : x.data.toList.length = x.size := rfl
    omega
  · rw [if_neg ej, if_neg ej]
    obtain ⟨Z, z1, z2, z3, z4, z5⟩ := h.ropes j (by omega)
    exact ⟨Z, z1.ext r4, by rw [r1]; exact z2.grow, z3, by rw [r1, txt_grow z2, z4], by omega⟩

/-! both as a resource -/
def resBS (w0 : World) (b gs gb ga : Nat) (Tv Lv : Value) (Ts : List Int) (Ls : List ByteArray) : Res Sst where
  at_ := fun w F s => ∃ rb rf q, F = sfoot gb ga rb rf q ∧ BI w0 b gs gb ga rb rf q Tv Lv ⟨s.1, s.2, Ts, Ls⟩ w
  below := fun h hb => by obtain ⟨rb, rf, q, e, h⟩ := h; exact ⟨rb, rf, q, e, h.below hb⟩
  lt := fun h b hb => by obtain ⟨rb, rf, q, rfl, h⟩ := h; exact h.st.foot_lt hb
theorem does_bs {w0 : World} {b gs gb ga : Nat} {Tv Lv : Value} {Ts : List Int} {Ls : List ByteArray} {f : Nat} {args : Array Value} {s : Sst} {Post : Value → Sst → Prop} (h : Does Try.prog (resSt gs gb ga) f args s Post) : Does Try.prog (resBS w0 b gs gb ga Tv Lv Ts Ls) f args s Post := by
  rintro w F ⟨rb, rf, q, rfl, hb⟩
  refine (h.run w _ (resSt_at hb.st)).mono ?_
  rintro e w' ⟨v, s', F', he, hp, ha, hf⟩
  obtain ⟨rb', rf', q', rfl, st⟩ := st_of ha
  exact ⟨v, s', _, he, hp, ⟨rb', rf', q', rfl, hb.store st hf⟩, hf⟩
theorem bs_of {w0 w : World} {b gs gb ga : Nat} {Tv Lv : Value} {Ts : List Int} {Ls : List ByteArray} {F : Nat → Prop} {s : Sst} (h : (resBS w0 b gs gb ga Tv Lv Ts Ls).at_ w F s) : ∃ rb rf q, F = sfoot gb ga rb rf q ∧ BI w0 b gs gb ga rb rf q Tv Lv ⟨s.1, s.2, Ts, Ls⟩ w := h
end Go.Proofs.Ytoeamnagmehpeaa.Rp


/- Layer 22's law: a rope and a text more, in memory. */ -/
namespace Go.Proofs.Ytoeamnagmehpeaa.Rp
set_option linter.unusedSimpArgs false
set_option linter.unusedVariables false
open Go Go.RowKit
open Go.Proofs.Ytoeamnagmehpeaa.Ar (T Is Ext WF Knot getK getB Arena resAr small)

section
variable {w0 w w' w8 w9 : World} {b gs gb ga : Nat} {rb rf q : Option Nat} {Tv Lv : Value} {s : Bst} {S : ByteArray} {ks : List Knot} {F F' : Nat → Prop}
theorem St.keep (h : St w gs gb ga rb rf q S ks) (hf : Fr w F w' F') (hn : ∀ k, sfoot gb ga rb rf q k → ¬ F k) (hg : ¬ F gs) : St w' gs gb ga rb rf q S ks :=
  ⟨hf.block h.blk hg, Buf.Buf.keep h.buf hf (fun b hb => hn b (.inl hb)), h.ar.keep hf (fun b hb => hn b (.inr hb)), h.ap, h.sb, h.sa⟩
theorem set_block {w : World} {p : Addr} {v : Value} {k : Nat} (h : k ≠ p.block) : (w.setCell p v).heap[k]? = w.heap[k]? := by
  simp only [World.setCell, Array.getElem?_modify]
  rw [if_neg (fun e => h e.symm)]
/-- an append to a row of its own, stored into a block of its own. -/
theorem fr_push {v : Value} {g i : Nat} {u : Value} (hg : w8.grownBy w9 v.ownBlock) (hat : v.ownBlock = some g ∨ g = w8.heap.size) : Fr w8 (fun k => k = b ∨ v.ownBlock = some k) (w9.setCell ⟨b, i, none⟩ u) (fun k => k = b ∨ k = g) :=
  ⟨hg.os, hg.tape, hg.output, by rw [World.size_setCell]; exact hg.size, fun k hk hn => by
    rw [set_block (fun e => hn (.inl e))]
    exact hg.block k hk (fun e => hn (.inr e.symm)), fun k hk => by
    rcases hk with rfl | rfl
    · exact .inl (.inl rfl)
    · rcases hat with e | e
      · exact .inl (.inr e)
      · exact .inr (by omega)⟩
theorem BI.pushT {g n cap : Nat} {t : Int} (h : BI w0 b gs gb ga rb rf q Tv Lv s w) (hb : Below w.heap.size w w8) (hn : n = s.Ts.length + 1) (ho : w9.ownsRow w0.heap.size 3 1 (.slice (some ⟨g, 0, none⟩) n cap) n (s.Ts.map (Value.int .i64) ++ [.int .i64 t]))
    (hg : w8.grownBy w9 Tv.ownBlock) (hat : Tv.ownBlock = some g ∨ g = w8.heap.size) : BI w0 b gs gb ga rb rf q (.slice (some ⟨g, 0, none⟩) n cap) Lv ⟨s.S, s.ks, s.Ts ++ [t], s.Ls⟩ (w9.setCell ⟨b, 1, none⟩ (.slice (some ⟨g, 0, none⟩) n cap)) := by
  have h8 := h.below hb
  have hf := fr_push (b := b) (i := 1) (u := .slice (some ⟨g, 0, none⟩) n cap) hg hat
  have hgb : g ≠ b := by
    rintro rfl
    rcases hat with e | e
    · exact h8.nbt e
    · have := h8.lt; omega
  refine ⟨?_, h8.st.keep hf ?_ ?_, ?_, hf.own h8.lr ?_, h8.nb, ?_, h8.nbl, ?_, h8.nl, ?_, ?_, h8.nlg, h8.nbg, hf.below h8.bl ?_ h8.bl.size, h8.geb, h8.gef⟩
  · have e : w9.heap[b]? = _ := (hg.block b h8.lt (fun e => h8.nbt e.symm)).trans h8.blk
    simp [World.setCell, Array.getElem?_modify, e]
  · rintro k hk (rfl | e)
    · exact h8.nb hk
    · exact h8.nt k e hk
  · rintro (e | e)
    · exact h8.nbg e.symm
    · exact h8.ntg e
  · have := own_setCell ho (p := ⟨b, 1, none⟩) (by simp only [Value.ownBlock]; intro e; exact hgb (by simpa using e)) (.slice (some ⟨g, 0, none⟩) n cap)
    simp only [List.length_append, List.length_cons, List.length_nil, List.map_append, List.map_cons, List.map_nil]
    rw [show s.Ts.length + (0 + 1) = n by omega]
    exact this
  · rintro k hk (rfl | e)
    · exact h8.nbl hk
    · exact h8.ntl k e hk
  · simp only [Value.ownBlock]; intro e; exact hgb (by simpa using e)
  · simp only [Value.ownBlock]
    rintro k hk
    obtain rfl : g = k := by simpa using hk
    rcases hat with e | e
    · exact h8.nt g e
    · intro hs; have := h8.st.foot_lt hs; omega
  · simp only [Value.ownBlock]
    rintro k hk
    obtain rfl : g = k := by simpa using hk
    rcases hat with e | e
    · exact h8.ntl g e
    · intro hs; have := (h8.lr.lt g hs).2; omega
  · simp only [Value.ownBlock]
    intro e
    obtain rfl : g = gs := by simpa using e
    rcases hat with e | e
    · exact h8.ntg e
    · have := h8.st.lt; omega
  · rintro k (rfl | e)
    · exact h8.geb
    · exact (h8.tr.lt k e).1
theorem BI.pushL {g n cap : Nat} {t : ByteArray} (h : BI w0 b gs gb ga rb rf q Tv Lv s w) (hb : Below w.heap.size w w8) (hn : n = s.Ls.length + 1) (ho : w9.ownsRow w0.heap.size 9 1 (.slice (some ⟨g, 0, none⟩) n cap) n (s.Ls.map Value.string ++ [.string t]))
    (hg : w8.grownBy w9 Lv.ownBlock) (hat : Lv.ownBlock = some g ∨ g = w8.heap.size) : BI w0 b gs gb ga rb rf q Tv (.slice (some ⟨g, 0, none⟩) n cap) ⟨s.S, s.ks, s.Ts, s.Ls ++ [t]⟩ (w9.setCell ⟨b, 2, none⟩ (.slice (some ⟨g, 0, none⟩) n cap)) := by
  have h8 := h.below hb
  have hf := fr_push (b := b) (i := 2) (u := .slice (some ⟨g, 0, none⟩) n cap) hg hat
  have hgb : g ≠ b := by
    rintro rfl
    rcases hat with e | e
    · exact h8.nbl e
    · have := h8.lt; omega
  refine ⟨?_, h8.st.keep hf ?_ ?_, hf.own h8.tr ?_, ?_, h8.nb, h8.nbt, ?_, h8.nt, ?_, ?_, h8.ntg, ?_, h8.nbg, hf.below h8.bl ?_ h8.bl.size, h8.geb, h8.gef⟩
  · have e : w9.heap[b]? = _ := (hg.block b h8.lt (fun e => h8.nbl e.symm)).trans h8.blk
    simp [World.setCell, Array.getElem?_modify, e]
  · rintro k hk (rfl | e)
    · exact h8.nb hk
    · exact h8.nl k e hk
  · rintro (e | e)
    · exact h8.nbg e.symm
    · exact h8.nlg e
  · rintro k hk (rfl | e)
    · exact h8.nbt hk
    · exact h8.ntl k hk e
  · have := own_setCell ho (p := ⟨b, 2, none⟩) (by simp only [Value.ownBlock]; intro e; exact hgb (by simpa using e)) (.slice (some ⟨g, 0, none⟩) n cap)
    simp only [List.length_append, List.length_cons, List.length_nil, List.map_append, List.map_cons, List.map_nil]
    rw [show s.Ls.length + (0 + 1) = n by omega]
    exact this
  · simp only [Value.ownBlock]; intro e; exact hgb (by simpa using e)
  · simp only [Value.ownBlock]
    rintro k hk
    obtain rfl : g = k := by simpa using hk
    rcases hat with e | e
    · exact h8.nl g e
    · intro hs; have := h8.st.foot_lt hs; omega
  · simp only [Value.ownBlock]
    rintro k hk e
    obtain rfl : g = k := by simpa using e
    rcases hat with e | e
    · exact h8.ntl g hk e
    · have := (h8.tr.lt g hk).2; omega
  · simp only [Value.ownBlock]
    intro e
    obtain rfl : g = gs := by simpa using e
    rcases hat with e | e
    · exact h8.nlg e
    · have := h8.st.lt; omega
  · rintro k (rfl | e)
    · exact h8.geb
    · exact (h8.lr.lt k e).1
end
theorem int_info : (Try.prog.info? 3).map (fun i => (i.zero, i.size, i.bytes)) = some (some (.int .i64 0), 1, 8) := by kernel_rfl
theorem str_info : (Try.prog.info? 9).map (fun i => (i.zero, i.size, i.bytes)) = some (some (.string ⟨#[]⟩), 1, 16) := by kernel_rfl
end Go.Proofs.Ytoeamnagmehpeaa.Rp


/- Opening a slice of a store's deeds. -/
namespace Go.Proofs.Ytoeamnagmehpeaa.Rp
set_option linter.unusedSimpArgs false
set_option linter.unusedVariables false
open Go Go.RowKit Go.ChangeShapes Go.WideShapes Go.Joins Go.Deep

theorem cells_dd : Try.prog.cellsOf 25 = 5 := by kernel_rfl
theorem cells_int : Try.prog.cellsOf 3 = 1 := by kernel_rfl
theorem cells_bool : Try.prog.cellsOf 4 = 1 := by kernel_rfl
theorem cells_string : Try.prog.cellsOf 9 = 1 := by kernel_rfl
section
variable {H : Type} {enc : TypeId × Value → H} {P : Program} {w : World} {base : Nat} {spare : Nat → Bool} {held : Bool}
theorem struct5 {t : TypeId} {f0 f1 f2 f3 f4 : Field} {fuel : Nat} {cs : List Value} {x : DataW H × List MemPlace} (ht : P.underlying t = some (.struct #[f0, f1, f2, f3, f4])) (h : DataW.trod enc P w base spare held fuel t cs = some x) :
    ∃ y0 y1 y2 y3 y4 n, cs.length = P.cellsOf t ∧ DataW.trod enc P w base spare held n f0.type ((cs.drop f0.offset).take (P.cellsOf f0.type)) = some y0 ∧
      DataW.trod enc P w base spare held n f1.type ((cs.drop f1.offset).take (P.cellsOf f1.type)) = some y1 ∧ DataW.trod enc P w base spare held n f2.type ((cs.drop f2.offset).take (P.cellsOf f2.type)) = some y2 ∧
      DataW.trod enc P w base spare held n f3.type ((cs.drop f3.offset).take (P.cellsOf f3.type)) = some y3 ∧ DataW.trod enc P w base spare held n f4.type ((cs.drop f4.offset).take (P.cellsOf f4.type)) = some y4 := by
  obtain ⟨xs, n, _, rfl, hl, hlen, hf⟩ := DataW.trod_struct ht h
  match xs, hlen with
  | [y0, y1, y2, y3, y4], _ => exact ⟨y0, y1, y2, y3, y4, n, hl, by simpa using hf 0 f0 rfl, by simpa using hf 1 f1 rfl, by simpa using hf 2 f2 rfl, by simpa using hf 3 f3 rfl, by simpa using hf 4 f4 rfl⟩
end

set_option maxRecDepth 100000 in
theorem dec_dd {H : Type} {enc : TypeId × Value → H} {W : World} {base : Nat} {spare : Nat → Bool} {held : Bool} (n : Nat) (cs : List Value) (y : DataW H × List MemPlace)
    (h : DataW.trod enc Try.prog W base spare held n 25 cs = some y) : ∃ x : Dd, cs = ddc x ∧ x.text.size ≤ 2 ^ 63 - 1 := by
  obtain ⟨y0, y1, y2, y3, y4, m, hl, h0, h1, h2, h3, h4⟩ := struct5 Try.underlying25 h
  rw [cells_dd] at hl
  obtain ⟨c0, c1, c2, c3, c4, rfl⟩ := list5 hl
  simp only [cells_int, cells_bool, cells_string, List.drop_zero, List.drop_succ_cons, List.take_succ_cons, List.take_zero] at h0 h1 h2 h3 h4
  obtain ⟨a, e0, _, wa⟩ := DataW.trod_int Try.underlying3 h0
  obtain ⟨b, e1, _, wb⟩ := DataW.trod_int Try.underlying3 h1
  obtain ⟨c, e2, _, wc⟩ := DataW.trod_int Try.underlying3 h2
  obtain ⟨x, e3, _, ws⟩ := DataW.trod_string Try.underlying9 h3
  obtain ⟨f, e4, _⟩ := DataW.trod_bool Try.underlying4 h4
  simp only [List.cons.injEq, and_true] at e0 e1 e2 e3 e4
  subst e0 e1 e2 e3 e4
  unfold maxLen at ws
  exact ⟨⟨a, b, c, x, f⟩, rfl, by simpa using ws⟩

/-! one deed -/
theorem arr5 {α : Type} {cs : Array α} (h : cs.size = 5) : ∃ c0 c1 c2 c3 c4, cs = #[c0, c1, c2, c3, c4] := by
  obtain ⟨l⟩ := cs
  match l, h with
  | [c0, c1, c2, c3, c4], _ => exact ⟨c0, c1, c2, c3, c4, rfl⟩
section
variable {H : Type} {enc : TypeId × Value → H} {P : Program} {w : World} {base : Nat} {spare : Nat → Bool} {held : Bool}
theorem agg5 {r : Reach} {b0 : Nat} {t : TypeId} {f0 f1 f2 f3 f4 : Field} {v : Value} {d : DataW H} {p : List MemPlace} (hs : P.underlying t = some (.struct #[f0, f1, f2, f3, f4])) (hone : oneCellFields P #[f0, f1, f2, f3, f4] = true) (hC : P.cellsOf t = 5)
    (hv : Value.okWide P w r b0 t v) (h : DataW.Trod enc P w base spare held t v d p) :
    ∃ (v0 v1 v2 v3 v4 : Value) (y0 y1 y2 y3 y4 : DataW H × List MemPlace) (n : Nat), v = .agg #[v0, v1, v2, v3, v4] ∧
      DataW.trod enc P w base spare held n f0.type [v0] = some y0 ∧ DataW.trod enc P w base spare held n f1.type [v1] = some y1 ∧ DataW.trod enc P w base spare held n f2.type [v2] = some y2 ∧ DataW.trod enc P w base spare held n f3.type [v3] = some y3 ∧ DataW.trod enc P w base spare held n f4.type [v4] = some y4 := by
  obtain ⟨cs, rfl, hsz⟩ := okWide_struct hs hv
  obtain ⟨c0, c1, c2, c3, c4, rfl⟩ := arr5 (hsz.trans hC)
  obtain ⟨fuel, hf⟩ := h
  obtain ⟨y0, y1, y2, y3, y4, n, _, h0, h1, h2, h3, h4⟩ := struct5 hs hf
  obtain ⟨o0, k0⟩ := hone_of hone 0 f0 rfl
  obtain ⟨o1, k1⟩ := hone_of hone 1 f1 rfl
  obtain ⟨o2, k2⟩ := hone_of hone 2 f2 rfl
  obtain ⟨o3, k3⟩ := hone_of hone 3 f3 rfl
  obtain ⟨o4, k4⟩ := hone_of hone 4 f4 rfl
  exact ⟨c0, c1, c2, c3, c4, y0, y1, y2, y3, y4, n, rfl, by simpa [Value.cells, o0, k0] using h0, by simpa [Value.cells, o1, k1] using h1, by simpa [Value.cells, o2, k2] using h2, by simpa [Value.cells, o3, k3] using h3, by simpa [Value.cells, o4, k4] using h4⟩
end
set_option maxRecDepth 100000 in
theorem open_dd {H : Type} {enc : TypeId × Value → H} {W : World} {base : Nat} {spare : Nat → Bool} {held : Bool} {b0 : Nat} {r : Reach} {v : Value} {d : DataW H} {p : List MemPlace} (hv : Value.okWide Try.prog W r b0 25 v) (h : DataW.Trod enc Try.prog W base spare held 25 v d p) :
    ∃ x : Dd, v = .agg #[.int .i64 x.of_, .int .i64 x.at_, .int .i64 x.del, .string x.text, .bool x.raw] ∧ x.text.size ≤ 2 ^ 63 - 1 := by
  obtain ⟨v0, v1, v2, v3, v4, y0, y1, y2, y3, y4, k, rfl, h0, h1, h2, h3, h4⟩ := agg5 Try.underlying25 (by kernel_rfl) cells_dd hv h
  obtain ⟨a, e0, _, wa⟩ := DataW.trod_int Try.underlying3 h0
  obtain ⟨b, e1, _, wb⟩ := DataW.trod_int Try.underlying3 h1
  obtain ⟨c, e2, _, wc⟩ := DataW.trod_int Try.underlying3 h2
  obtain ⟨x, e3, _, ws⟩ := DataW.trod_string Try.underlying9 h3
  obtain ⟨f, e4, _⟩ := DataW.trod_bool Try.underlying4 h4
  simp only [List.cons.injEq, and_true] at e0 e1 e2 e3 e4
  subst e0 e1 e2 e3 e4
  unfold maxLen at ws
  exact ⟨⟨a, b, c, x, f⟩, rfl, by simpa using ws⟩
end Go.Proofs.Ytoeamnagmehpeaa.Rp


/- Opening a slice of numbers. -/
namespace Go.Proofs.Ytoeamnagmehpeaa.Ints
set_option linter.unusedSimpArgs false
set_option linter.unusedVariables false
open Go Go.RowKit Go.ChangeShapes

theorem cells_int : Try.prog.cellsOf 3 = 1 := by kernel_rfl
theorem dec_int {H : Type} {enc : TypeId × Value → H} {W : World} {base : Nat} {spare : Nat → Bool} {held : Bool} (n : Nat) (cs : List Value) (y : DataW H × List MemPlace)
    (h : DataW.trod enc Try.prog W base spare held n 3 cs = some y) : ∃ x : Int, cs = [.int .i64 x] ∧ (Lit.int .i64 x).wf = true := by
  obtain ⟨s, h1, _, hw⟩ := DataW.trod_int Try.underlying3 h
  exact ⟨s, h1, hw⟩
theorem sn_of_at {w : World} {A : Option Addr} {l : List Int} {c : Nat} (h : SlAt w w.heap.size 1 l.length A (fun i j => ([Value.int .i64 (l.getD i default)]).getD j undef)) : Rp.SlN w (.slice A l.length c) l :=
  ⟨A, c, rfl, fun hn => by
    obtain ⟨b, off, e, hb, hc⟩ := h hn
    refine ⟨b, off, e, hb, fun j hj => ?_⟩
    have := hc j 0 hj (by omega)
    rw [show off + j = off + (j * 1 + 0) by omega, this]
    rfl⟩
end Go.Proofs.Ytoeamnagmehpeaa.Ints
