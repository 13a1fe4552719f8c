
/- Where each state goes by a text: the program's answer. -/
import Derived.Test.YtapanoalhhlphaaVecH
import Derived.Test.YtapanoalhhlphaaVecD
import Derived.Lib.ConvBytes
namespace Go.Proofs.Ytapanoalhhlphaa.Vec
set_option linter.unusedSimpArgs false
set_option linter.unusedVariables false
open Go Go.RowKit
attribute [local go_sem] lt_add1 lt_self1 size_ne size_ne' size_ne1 size_ne1'

/-- one byte from a state, with a hit or without. -/
def stp (C N : List Int) (wd : Int) (Ac : List Bool) (p : Int × Bool) (c : Nat) : Int × Bool :=
  (N.getD (p.1 * wd + C.getD c 0).toNat 0, p.2 || Ac.getD (N.getD (p.1 * wd + C.getD c 0).toNat 0).toNat false)
def rn (C N : List Int) (wd : Int) (Ac : List Bool) (bs : List Nat) (j : Nat) : Int × Bool := bs.foldl (stp C N wd Ac) ((j : Int), false)
theorem rn_succ (C N : List Int) (wd : Int) (Ac : List Bool) (bs : List Nat) (k : Nat) (hk : k < bs.length) (j : Nat) : rn C N wd Ac (bs.take (k + 1)) j = stp C N wd Ac (rn C N wd Ac (bs.take k) j) (bs.getD k 0) := by
  unfold rn
  rw [List.take_add_one, List.getElem?_eq_getElem hk, List.foldl_append]
  simp [List.getD, hk]
theorem stp_rng {C N : List Int} {wd : Int} {Ac : List Bool} {m : Nat} (h1 : 1 ≤ m) (hN : Within N m) (p : Int × Bool) (c : Nat) : 0 ≤ (stp C N wd Ac p c).1 ∧ (stp C N wd Ac p c).1 < m := by
  unfold stp
  show 0 ≤ N.getD _ 0 ∧ N.getD _ 0 < m
  generalize (p.1 * wd + C.getD c 0).toNat = q
  by_cases hq : q < N.length
  · have := hN N[q] (List.getElem_mem hq)
    simpa [List.getD, hq] using this
  · have e : N.getD q 0 = 0 := by simp [List.getD, List.getElem?_eq_none (Nat.le_of_not_lt hq)]
    rw [e]
    omega
theorem rn_rng {C N : List Int} {wd : Int} {Ac : List Bool} {m : Nat} (hN : Within N m) (j : Nat) (hj : j < m) (bs : List Nat) : ∀ k, 0 ≤ (rn C N wd Ac (bs.take k) j).1 ∧ (rn C N wd Ac (bs.take k) j).1 < m
  | 0 => by
    show (0 : Int) ≤ (j : Int) ∧ (j : Int) < m
    omega
  | k + 1 => by
    by_cases hk : k < bs.length
    · rw [rn_succ _ _ _ _ _ k hk]
      exact stp_rng (by omega) hN _ _
    · have e : bs.take (k + 1) = bs.take k := by rw [List.take_of_length_le (by omega), List.take_of_length_le (by omega)]
      rw [e]
      exact rn_rng hN j hj bs k
theorem mix_next (f g h : Nat → Value) (n : Nat) : mix f g n n = mix h f 0 n := by
  refine Array.ext (by simp [mix]) fun j h1 h2 => ?_
  have hj : j < n := by simpa [mix] using h2
  simp [mix, hj]

/-- what Text's walk has: the automaton's box, the result's, the new function's, its two rows, the text's bytes. -/
structure VS (B : Nat) (a0 w : World) (x a b y n : Nat) (V R1 R2 : Array Value) (O : Obj) : Prop where
  xa : x ≠ a
  xb : x ≠ b
  ab : a ≠ b
  ya : y ≠ a
  yb : y ≠ b
  lx : B + 1 < x
  la : B + 1 < a
  lb : B + 1 < b
  v1 : w.heap[B]? = some (.cells V 25 (0, 0))
  vr : w.heap[B + 1]? = some (.cells #[.slice none 0 0, .slice none 0 0] 29 (0, 0))
  bx : w.heap[x]? = some (.cells #[.slice (some ⟨a, 0, none⟩) n n, .slice (some ⟨b, 0, none⟩) n n] 29 (0, 0))
  ra : w.heap[a]? = some (.cells R1 3 (0, 0))
  rb : w.heap[b]? = some (.cells R2 4 (0, 0))
  ry : w.heap[y]? = some O
  bel : Below B a0 w
section
variable {B : Nat} {a0 w : World} {x a b y n : Nat} {V R1 R2 : Array Value} {O : Obj}
theorem VS.seta (h : VS B a0 w x a b y n V R1 R2 O) (i : Nat) (v : Value) : VS B a0 (w.setCell ⟨a, i, none⟩ v) x a b y n V (R1.setIfInBounds i v) R2 O := by
  have hla := h.la
  refine ⟨h.xa, h.xb, h.ab, h.ya, h.yb, h.lx, h.la, h.lb, ?_, ?_, ?_, heap_setCell_same _ _ _ _ _ _ h.ra, ?_, ?_, h.bel.setCell (by show B ≤ a; omega) _⟩
  · rw [heap_setCell_other _ _ _ _ (by show B ≠ a; omega)]; exact h.v1
  · rw [heap_setCell_other _ _ _ _ (by show B + 1 ≠ a; omega)]; exact h.vr
  · rw [heap_setCell_other _ _ _ _ h.xa]; exact h.bx
  · rw [heap_setCell_other _ _ _ _ (fun e => h.ab e.symm)]; exact h.rb
  · rw [heap_setCell_other _ _ _ _ h.ya]; exact h.ry
theorem VS.setb (h : VS B a0 w x a b y n V R1 R2 O) (i : Nat) (v : Value) : VS B a0 (w.setCell ⟨b, i, none⟩ v) x a b y n V R1 (R2.setIfInBounds i v) O := by
  have hlb := h.lb
  refine ⟨h.xa, h.xb, h.ab, h.ya, h.yb, h.lx, h.la, h.lb, ?_, ?_, ?_, ?_, heap_setCell_same _ _ _ _ _ _ h.rb, ?_, h.bel.setCell (by show B ≤ b; omega) _⟩
  · rw [heap_setCell_other _ _ _ _ (by show B ≠ b; omega)]; exact h.v1
  · rw [heap_setCell_other _ _ _ _ (by show B + 1 ≠ b; omega)]; exact h.vr
  · rw [heap_setCell_other _ _ _ _ h.xb]; exact h.bx
  · rw [heap_setCell_other _ _ _ _ h.ab]; exact h.ra
  · rw [heap_setCell_other _ _ _ _ h.yb]; exact h.ry
theorem VS.drew (h : VS B a0 w x a b y n V R1 R2 O) : VS B a0 w.drew x a b y n V R1 R2 O := ⟨h.xa, h.xb, h.ab, h.ya, h.yb, h.lx, h.la, h.lb, h.v1, h.vr, h.bx, h.ra, h.rb, h.ry, h.bel.drew⟩
end

/-- a text's bytes. -/
def tb (s : ByteArray) : List Nat := s.data.toList.map (·.toNat)
theorem tb_length (s : ByteArray) : (tb s).length = s.size := by simp [tb]
theorem tb_getD (s : ByteArray) (j : Nat) : (tb s).getD j 0 = (s.data.toList.getD j 0).toNat := by
  unfold tb
  rw [List.getD, List.getD, List.getElem?_map]
  cases s.data.toList[j]? <;> rfl
theorem tb_lt (s : ByteArray) (j : Nat) : (tb s).getD j 0 < 256 := by rw [tb_getD]; exact UInt8.toNat_lt _

def textT (C N : List Int) (wd : Int) (Ac : List Bool) (s : ByteArray) (m : Nat) : List Int := (List.range m).map fun j => (rn C N wd Ac (tb s) j).1
def textH (C N : List Int) (wd : Int) (Ac : List Bool) (s : ByteArray) (m : Nat) : List Bool := (List.range m).map fun j => (rn C N wd Ac (tb s) j).2
/-- what Text answers. -/
def TextPost (k n m : Nat) (wd st : Int) (C N : List Int) (Ac : List Bool) (s : ByteArray) (w : World) (e : Ending) (w' : World) : Prop :=
  (¬ DRight k n m wd st C N ∧ e = .returned (.agg #[.slice none 0 0, .slice none 0 0]) ∧ Below w.heap.size w w') ∨
  (DRight k n m wd st C N ∧ ∃ a b, e = .returned (.agg #[.slice (some ⟨a, 0, none⟩) m m, .slice (some ⟨b, 0, none⟩) m m]) ∧ FunAt w' (some ⟨a, 0, none⟩) m (some ⟨b, 0, none⟩) m (textT C N wd Ac s m) (textH C N wd Ac s m) ∧ Below w.heap.size w w')

structure B2 (B : Nat) (a0 w : World) (V : Array Value) : Prop where
  v1 : w.heap[B]? = some (.cells V 25 (0, 0))
  vr : w.heap[B + 1]? = some (.cells #[.slice none 0 0, .slice none 0 0] 29 (0, 0))
  bel : Below B a0 w
  lt : B + 1 < w.heap.size
theorem B2.below {B : Nat} {a0 w w' : World} {V : Array Value} (h : B2 B a0 w V) (hb : Below w.heap.size w w') : B2 B a0 w' V := by
  have hl := h.lt
  exact ⟨(hb.block _ (by omega)).trans h.v1, (hb.block _ hl).trans h.vr, h.bel.trans (hb.mono (by omega)), Nat.lt_of_lt_of_le hl hb.size⟩

def fT (C N : List Int) (wd : Int) (Ac : List Bool) (s : ByteArray) (k : Nat) (j : Nat) : Value := .int .i64 (rn C N wd Ac ((tb s).take k) j).1
def fH (C N : List Int) (wd : Int) (Ac : List Bool) (s : ByteArray) (k : Nat) (j : Nat) : Value := .bool (rn C N wd Ac ((tb s).take k) j).2
set_option maxRecDepth 100000 in
set_option maxHeartbeats 4000000 in
theorem text_any (k n m : Nat) (wd st : Int) (C N : List Int) (Ac : List Bool) (A1 A2 A3 : Option Addr) (c1 c2 c3 : Nat) (hk : k ≤ 1099511627776) (hn : n ≤ 1099511627776) (hm : m ≤ 1099511627776) (s : ByteArray) (hs : s.size ≤ 1000) (w : World) (h : DfaAt w A1 A2 A3 k n m C N Ac) :
    Calls Try.prog 7 #[.agg #[.slice A1 k c1, .int .i64 wd, .int .i64 st, .slice A2 n c2, .slice A3 m c3], .string s] w fun e w' => TextPost k n m wd st C N Ac s w e w' := by
  have HH := Lib.hid h
  clear h
  have hb2 : B2 w.heap.size w ((w.alloc (.cells #[.slice A1 k c1, .int .i64 wd, .int .i64 st, .slice A2 n c2, .slice A3 m c3] 25)).alloc (.cells #[.slice none 0 0, .slice none 0 0] 29)) #[.slice A1 k c1, .int .i64 wd, .int .i64 st, .slice A2 n c2, .slice A3 m c3] := by
    constructor
    all_goals first | (simp; done) | (simp; omega) | ((repeat (first | exact at_alloc (by first | rfl | (simp; done) | (simp; omega)) | refine at_old ?_ (by first | (simp; done) | (simp; omega)))); done) | ((repeat (first | exact Below.refl _ _ | assumption | (refine Below.setCell ?_ (by first | (simp; done) | (simp; omega) | omega) _) | (refine Below.alloc ?_ (by first | (simp; done) | (simp; omega) | omega) _) | (refine Below.drew ?_) | (refine Below.drewN ?_ _) | (refine Below.trans ?_ (Below.mono (by assumption) (by first | (simp; done) | (simp; omega) | omega))))); done)
  have HR := Lib.hid (fun (W : World) (hW : Below w.heap.size w W) => dright_any k n m wd st C N Ac A1 A2 A3 c1 c2 c3 hk hn hm W (HH.out.next hW))
  go_enter Try.func7, Try.ntmps7
  go_wp2_with fail
  generalize (w.alloc (.cells #[.slice A1 k c1, .int .i64 wd, .int .i64 st, .slice A2 n c2, .slice A3 m c3] 25)).alloc (.cells #[.slice none 0 0, .slice none 0 0] 29) = W3 at hb2 ⊢
  refine (HR.out _ hb2.bel).mono ?_
  rintro e w4 ⟨rfl, hb4⟩
  have HB4 := Lib.hid (hb2.below hb4)
  clear hb2 hb4
  have hr1 : DRight k n m wd st C N ∨ ¬ DRight k n m wd st C N := Decidable.em _
  rcases hr1 with hr1 | hr1
  rotate_left
  · have HR1 := Lib.hid hr1
    rw [decide_eq_false hr1]
    clear hr1
    have r0 := cell_of_row w4 (w.heap.size + 1) 0 _ _ (0, 0) HB4.out.vr
    have r1 := cell_of_row w4 (w.heap.size + 1) 1 _ _ (0, 0) HB4.out.vr
    simp only [List.getElem?_toArray, List.getElem?_cons_zero, List.getElem?_cons_succ] at r0 r1
    have rf : ∀ o, w4.frozen? ⟨w.heap.size + 1, o, none⟩ = false := fun o => by simp [World.frozen?, HB4.out.vr]
    have hbe : Below w.heap.size w ((w4.setCell ⟨w.heap.size + 1, 0, none⟩ (.slice none 0 0)).setCell ⟨w.heap.size + 1, 1, none⟩ (.slice none 0 0)) := (HB4.out.bel.setCell (by show w.heap.size ≤ w.heap.size + 1; omega) _).setCell (by show w.heap.size ≤ w.heap.size + 1; omega) _
    have HX := Lib.hid hbe
    clear hbe
    go_wp2
    refine bodyPost_ret (v := .agg #[.slice none 0 0, .slice none 0 0]) ?_ rfl (.inl ⟨HR1.out, rfl, HX.out⟩)
    simp [results, Try.results7, go_sem, *]
  have HR1 := Lib.hid hr1
  rw [decide_eq_true hr1]
  clear hr1
  have z4 := cell_of_row w4 w.heap.size 4 _ _ (0, 0) HB4.out.v1
  simp only [List.getElem?_toArray, List.getElem?_cons_zero, List.getElem?_cons_succ] at z4
  have hm1 := HR1.out.2.2.2.1
  have hm2 := HR1.out.2.2.2.2.1
  go_wp2_with fail
  refine (ident_any m hm1 hm2 _).mono ?_
  rintro e w6 ⟨a, b, rfl, hab, hla, hlb, hra, hrb, hb6⟩
  have HB6 := Lib.hid (And.intro (HB4.out.below hb6) (And.intro hra hrb))
  have hl := HB4.out.lt
  have hsz : w4.heap.size ≤ w6.heap.size := hb6.size
  have hl6 := (HB6.out.1).lt
  have hlta : a < w6.heap.size := (Array.getElem?_eq_some_iff.1 hra).1
  have hltb : b < w6.heap.size := (Array.getElem?_eq_some_iff.1 hrb).1
  clear hra hrb hb6 z4
  have hcv : ∀ W : World, (convert 9 43 (.string s)).run Try.prog W = .ok (.slice (some ⟨W.heap.size, 0, none⟩) s.size (grownCap W s.size 0 5)) (Lib.bytesWorld W 5 s) := fun W => Lib.run_convert_string_bytes W 9 43 5 s Try.underlying9 Try.underlying43 Try.underlying5
  have hts : VS w.heap.size w (Lib.bytesWorld (w6.alloc (.cells #[.slice (some ⟨a, 0, none⟩) m m, .slice (some ⟨b, 0, none⟩) m m] 29)) 5 s) w6.heap.size a b (w6.heap.size + 1) m #[.slice A1 k c1, .int .i64 wd, .int .i64 st, .slice A2 n c2, .slice A3 m c3]
      (mix (fT C N wd Ac s 1) (fT C N wd Ac s 0) 0 m) (mix (fH C N wd Ac s 1) (fH C N wd Ac s 0) 0 m)
      (.cells (Lib.bytesCells (w6.alloc (.cells #[.slice (some ⟨a, 0, none⟩) m m, .slice (some ⟨b, 0, none⟩) m m] 29)) 5 s) 5 ((Lib.bytesCells (w6.alloc (.cells #[.slice (some ⟨a, 0, none⟩) m m, .slice (some ⟨b, 0, none⟩) m m] 29)) 5 s).size, (Lib.bytesCells (w6.alloc (.cells #[.slice (some ⟨a, 0, none⟩) m m, .slice (some ⟨b, 0, none⟩) m m] 29)) 5 s).size + 1)) := by
    have hsz2 : (w6.alloc (.cells #[.slice (some ⟨a, 0, none⟩) m m, .slice (some ⟨b, 0, none⟩) m m] 29)).heap.size = w6.heap.size + 1 := by simp
    have hold : ∀ i, i < w6.heap.size + 1 → (Lib.bytesWorld (w6.alloc (.cells #[.slice (some ⟨a, 0, none⟩) m m, .slice (some ⟨b, 0, none⟩) m m] 29)) 5 s).heap[i]? = (w6.alloc (.cells #[.slice (some ⟨a, 0, none⟩) m m, .slice (some ⟨b, 0, none⟩) m m] 29)).heap[i]? := fun i hi => Lib.bytesWorld_at_old _ 5 s i (by rw [hsz2]; exact hi)
    have hnew := Lib.bytesWorld_at_new (w6.alloc (.cells #[.slice (some ⟨a, 0, none⟩) m m, .slice (some ⟨b, 0, none⟩) m m] 29)) 5 s
    rw [hsz2] at hnew
    have e1 := L_mix m (fT C N wd Ac s 1)
    have e2 := rep_mix m (fH C N wd Ac s 1)
    have hra := HB6.out.2.1
    have hrb := HB6.out.2.2
    rw [e1] at hra
    rw [e2] at hrb
    refine ⟨by omega, by omega, hab, by omega, by omega, by omega, by omega, by omega, (hold _ (by omega)).trans (at_old HB6.out.1.v1 (by omega)), (hold _ (by omega)).trans (at_old HB6.out.1.vr (by omega)), (hold _ (by omega)).trans (at_alloc rfl), (hold _ (by omega)).trans (at_old hra hlta), (hold _ (by omega)).trans (at_old hrb hltb), hnew, ?_⟩
    exact (HB6.out.1.bel.alloc (by omega) _).trans ⟨rfl, rfl, rfl, by rw [Lib.bytesWorld_size]; omega, fun i hi => Lib.bytesWorld_at_old _ 5 s i (by omega)⟩
  have hby : ∀ i, i < s.size → (Lib.bytesWorld (w6.alloc (.cells #[.slice (some ⟨a, 0, none⟩) m m, .slice (some ⟨b, 0, none⟩) m m] 29)) 5 s).cell? ⟨w6.heap.size + 1, i, none⟩ = some (.int .u8 ((tb s).getD i 0 : Nat)) := fun i hi => by
    have := Lib.bytesWorld_cell (w6.alloc (.cells #[.slice (some ⟨a, 0, none⟩) m m, .slice (some ⟨b, 0, none⟩) m m] 29)) 5 s i hi
    rw [show (w6.alloc (.cells #[.slice (some ⟨a, 0, none⟩) m m, .slice (some ⟨b, 0, none⟩) m m] 29)).heap.size = w6.heap.size + 1 by simp] at this
    rw [this, tb_getD]
  have HT := Lib.hid hts
  have HBY := Lib.hid hby
  clear hts hby HB6
  go_wp2_with fail
  clear hcv
  generalize (Obj.cells (Lib.bytesCells (w6.alloc (.cells #[.slice (some ⟨a, 0, none⟩) m m, .slice (some ⟨b, 0, none⟩) m m] 29)) 5 s) 5 ((Lib.bytesCells (w6.alloc (.cells #[.slice (some ⟨a, 0, none⟩) m m, .slice (some ⟨b, 0, none⟩) m m] 29)) 5 s).size, (Lib.bytesCells (w6.alloc (.cells #[.slice (some ⟨a, 0, none⟩) m m, .slice (some ⟨b, 0, none⟩) m m] 29)) 5 s).size + 1)) = O at HT
  generalize grownCap (w6.alloc (.cells #[.slice (some ⟨a, 0, none⟩) m m, .slice (some ⟨b, 0, none⟩) m m] 29)) s.size 0 5 = cap
  generalize Lib.bytesWorld (w6.alloc (.cells #[.slice (some ⟨a, 0, none⟩) m m, .slice (some ⟨b, 0, none⟩) m m] 29)) 5 s = W7 at HT HBY ⊢
  generalize w6.heap.size + 1 = y at HT HBY ⊢
  generalize w6.heap.size = x at HT ⊢ hsz hl6 hlta hltb
  clear hl6 hsz hlta hltb hl
  go_loopw [22] (fun i wr => ∃ q : Nat, q ≤ s.size ∧ i = .int .i64 q ∧ VS w.heap.size w wr x a b y m #[.slice A1 k c1, .int .i64 wd, .int .i64 st, .slice A2 n c2, .slice A3 m c3] (mix (fT C N wd Ac s (q + 1)) (fT C N wd Ac s q) 0 m) (mix (fH C N wd Ac s (q + 1)) (fH C N wd Ac s q) 0 m) O) (fun i _ => s.size - (intOf i).toNat)
  case atStart => exact ⟨0, by omega, rfl, HT.out⟩
  case round =>
    obtain ⟨q, hq, rfl, hts⟩ := hrel
    have H := Lib.hid hts
    by_cases hlt : q < s.size
    · have hq0 : (0 : Int) ≤ q := by omega
      have hq1 : (q : Int) < s.size := by omega
      have y0 : wr.cell? ⟨y, q, none⟩ = some (.int .u8 ((tb s).getD q 0 : Nat)) := by
        rw [← HBY.out q hlt]
        exact World.cell?_of_block (hts.ry.trans HT.out.ry.symm)
      have z0 := cell_of_row wr w.heap.size 0 _ _ (0, 0) hts.v1
      have x0 := cell_of_row wr x 0 _ _ (0, 0) hts.bx
      simp only [List.getElem?_toArray, List.getElem?_cons_zero, List.getElem?_cons_succ] at z0 x0
      have hb256 := tb_lt s q
      have hk : k = 259 := HR1.out.1
      subst hk
      obtain ⟨b1, o1, rfl, hbl1, hc1⟩ := HH.out.2.2.2.1 (by omega)
      generalize hbb : (tb s).getD q 0 = by_ at y0 hb256
      have f1 : wr.cell? ⟨b1, o1 + by_, none⟩ = some (.int .i64 (C.getD by_ 0)) := (hts.bel.cell (p := ⟨b1, _, none⟩) hbl1).trans (hc1 by_ (by omega))
      have hcr : 0 ≤ C.getD by_ 0 ∧ C.getD by_ 0 < wd := by
        have hl : by_ < C.length := by have := HH.out.1; omega
        have := HR1.out.2.2.2.2.2.2.2.2.1 C[by_] (List.getElem_mem hl)
        simpa [List.getD, hl] using this
      have HBB := Lib.hid hbb
      generalize hcc : C.getD by_ 0 = cc at f1 hcr
      have HCC := Lib.hid hcc
      clear hts hc1 hbb hcc
      have hby0 : (0 : Int) ≤ by_ := by omega
      have hby1 : (by_ : Int) < 259 := by omega
      go_wp2_with fail
      clear f1 y0 z0 x0
      go_loopw [34] (fun i wr => ∃ u : Nat, u ≤ m ∧ i = .int .i64 u ∧ VS w.heap.size w wr x a b y m #[.slice (some ⟨b1, o1, none⟩) 259 c1, .int .i64 wd, .int .i64 st, .slice A2 n c2, .slice A3 m c3] (mix (fT C N wd Ac s (q + 1)) (fT C N wd Ac s q) u m) (mix (fH C N wd Ac s (q + 1)) (fH C N wd Ac s q) u m) O) (fun i _ => m - (intOf i).toNat)
      case atStart => exact ⟨0, by omega, rfl, H.out⟩
      case round =>
        obtain ⟨u, hu, rfl, hts⟩ := hrel
        by_cases hlu : u < m
        · have x0 := cell_of_row wr x 0 _ _ (0, 0) hts.bx
          have x1 := cell_of_row wr x 1 _ _ (0, 0) hts.bx
          have z1 := cell_of_row wr w.heap.size 1 _ _ (0, 0) hts.v1
          have z3 := cell_of_row wr w.heap.size 3 _ _ (0, 0) hts.v1
          have z4 := cell_of_row wr w.heap.size 4 _ _ (0, 0) hts.v1
          simp only [List.getElem?_toArray, List.getElem?_cons_zero, List.getElem?_cons_succ] at x0 x1 z1 z3 z4
          have hNw : Within N m := HR1.out.2.2.2.2.2.2.2.2.2
          have htr := rn_rng (C := C) (wd := wd) (Ac := Ac) hNw u hlu (tb s) q
          have htr1 := rn_rng (C := C) (wd := wd) (Ac := Ac) hNw u hlu (tb s) (q + 1)
          have hstep := rn_succ C N wd Ac (tb s) q (by rw [tb_length]; exact hlt) u
          rw [HBB.out] at hstep
          have hv1 : fT C N wd Ac s (q + 1) u = .int .i64 (rn C N wd Ac ((tb s).take (q + 1)) u).1 := rfl
          have hv2 : fH C N wd Ac s (q + 1) u = .bool (rn C N wd Ac ((tb s).take (q + 1)) u).2 := rfl
          have hw1 : fT C N wd Ac s q u = .int .i64 (rn C N wd Ac ((tb s).take q) u).1 := rfl
          have hw2 : fH C N wd Ac s q u = .bool (rn C N wd Ac ((tb s).take q) u).2 := rfl
          have a0 : wr.cell? ⟨a, u, none⟩ = some (fT C N wd Ac s q u) := by
            rw [cell_of_row wr a u _ _ (0, 0) hts.ra, mix_get _ _ _ _ _ hlu]; simp
          have c0 : wr.cell? ⟨b, u, none⟩ = some (fH C N wd Ac s q u) := by
            rw [cell_of_row wr b u _ _ (0, 0) hts.rb, mix_get _ _ _ _ _ hlu]; simp
          rw [hw1] at a0
          rw [hw2] at c0
          have af : wr.frozen? ⟨a, u, none⟩ = false := by simp [World.frozen?, hts.ra]
          have s1 := hts.seta u (fT C N wd Ac s (q + 1) u)
          rw [mix_set (fT C N wd Ac s (q + 1)) _ u m hlu, hv1] at s1
          rw [hstep] at htr1 hv1 hv2 s1
          generalize rn C N wd Ac ((tb s).take q) u = p0 at a0 c0 htr hstep htr1 hv1 hv2 hw2 s1
          obtain ⟨t, ha⟩ := p0
          have W2 := Lib.hid (show fH C N wd Ac s q u = .bool ha from hw2)
          have hq2 : 0 ≤ t * wd + cc ∧ t * wd + cc < n := by
            have h0 : 0 ≤ t * wd := Int.mul_nonneg htr.1 (by omega)
            have h1 : (t + 1) * wd ≤ m * wd := Int.mul_le_mul_of_nonneg_right (by omega) (by omega)
            rw [Int.add_mul] at h1
            have := HR1.out.2.2.2.2.2.1
            omega
          have hwd := HR1.out.2.2.1
          have hmul : 0 ≤ t * wd ∧ t * wd ≤ 4096 * 259 := ⟨Int.mul_nonneg htr.1 (by omega), Int.mul_le_mul (by have := htr.2; simp only at this; omega) hwd (by omega) (by omega)⟩
          obtain ⟨r, hr⟩ : ∃ r : Nat, t * wd + cc = r := ⟨(t * wd + cc).toNat, by omega⟩
          have hst : stp C N wd Ac (t, ha) by_ = (N.getD r 0, ha || Ac.getD (N.getD r 0).toNat false) := by
            unfold stp
            simp only [HCC.out, hr, Int.toNat_natCast]
          rw [hst] at htr1 hv1 hv2 s1
          generalize htw : t * wd = tw at hq2 hmul hr
          obtain ⟨hmul0, hmul1⟩ := hmul
          have hr0 : (0 : Int) ≤ r := by omega
          have hr1 : (r : Int) < n := by omega
          obtain ⟨b3, o3, rfl, hbl3, hc3⟩ := HH.out.2.2.2.2.1 (by omega)
          obtain ⟨b4, o4, rfl, hbl4, hc4⟩ := HH.out.2.2.2.2.2 (by omega)
          have f3 : wr.cell? ⟨b3, o3 + r, none⟩ = some (.int .i64 (N.getD r 0)) := (hts.bel.cell (p := ⟨b3, _, none⟩) hbl3).trans (hc3 r (by omega))
          generalize N.getD r 0 = t1 at htr1 hv1 hv2 s1 f3
          obtain ⟨t1, rfl⟩ : ∃ v : Nat, t1 = v := ⟨t1.toNat, by have := htr1.1; simp only at this; omega⟩
          have ht1 : t1 < m := by have := htr1.2; simp only at this; omega
          rw [Int.toNat_natCast] at hv1 hv2 htr1 s1
          have hW := (s1.drew)
          have S1 := Lib.hid hW
          have V1 := Lib.hid hv1
          have V2 := Lib.hid hv2
          have hts0 := hts.bel
          have HC4 := Lib.hid hc4
          have hu0 : (0 : Int) ≤ u := by omega
          have hu1 : (u : Int) < m := by omega
          clear hts s1 hW hv1 hv2 hw1 hw2 hc3 hc4 hstep hst htr htr1
          go_upto_region 11 with fail
          go_region
          clear x0 x1 z1 z3 z4 a0 c0 af f3 hts0
          generalize (wr.setCell ⟨a, u, none⟩ (.int .i64 t1)).drew = w12 at S1 ⊢
          have x0 := cell_of_row w12 x 0 _ _ (0, 0) S1.out.bx
          have x1 := cell_of_row w12 x 1 _ _ (0, 0) S1.out.bx
          have z4 := cell_of_row w12 w.heap.size 4 _ _ (0, 0) S1.out.v1
          simp only [List.getElem?_toArray, List.getElem?_cons_zero, List.getElem?_cons_succ] at x0 x1 z4
          have a0 : w12.cell? ⟨a, u, none⟩ = some (.int .i64 t1) := by
            rw [cell_of_row w12 a u _ _ (0, 0) S1.out.ra, mix_get _ _ _ _ _ hlu, if_pos (by omega), V1.out]
          have c0 : w12.cell? ⟨b, u, none⟩ = some (.bool ha) := by
            rw [cell_of_row w12 b u _ _ (0, 0) S1.out.rb, mix_get _ _ _ _ _ hlu, if_neg (by omega), W2.out]
          have cf : w12.frozen? ⟨b, u, none⟩ = false := by simp [World.frozen?, S1.out.rb]
          have f4 : w12.cell? ⟨b4, o4 + t1, none⟩ = some (.bool (Ac.getD t1 false)) := (S1.out.bel.cell (p := ⟨b4, _, none⟩) hbl4).trans (HC4.out t1 ht1)
          have s2 := S1.out.setb u (fH C N wd Ac s (q + 1) u)
          rw [mix_set (fH C N wd Ac s (q + 1)) _ u m hlu, V2.out] at s2
          have ht10 : (0 : Int) ≤ t1 := by omega
          have ht11 : (t1 : Int) < m := by omega
          generalize Ac.getD t1 false = hh at f4 s2
          have S2 := Lib.hid s2
          have hxa := S1.out.xa
          have hxb := S1.out.xb
          have hab2 := S1.out.ab
          clear s2
          go_upto_region 12 with fail
          cases ha
          · go_region
            have SX := Lib.hid S2.out.drew
            clear x0 x1 z4 a0 c0 cf f4
            go_wp2
            go_roundw
            case rel => exact ⟨u + 1, by omega, by go_num, SX.out⟩
            case measure => simp [intOf]; omega
          · go_region
            have SX := Lib.hid S2.out.drew
            clear x0 x1 z4 a0 c0 cf f4
            go_wp2
            go_roundw
            case rel => exact ⟨u + 1, by omega, by go_num, SX.out⟩
            case measure => simp [intOf]; omega
        · have e : u = m := by omega
          subst e
          have hts2 := hts
          rw [mix_next _ _ (fT C N wd Ac s (q + 1 + 1)) u, mix_next _ _ (fH C N wd Ac s (q + 1 + 1)) u] at hts2
          have H2 := Lib.hid hts2
          clear hts hts2
          go_wp2
          go_roundw
          case rel => exact ⟨q + 1, by omega, by go_num, H2.out⟩
          case measure => simp [intOf]; omega
    · have e : q = s.size := by omega
      subst e
      have x0 := cell_of_row wr x 0 _ _ (0, 0) hts.bx
      have x1 := cell_of_row wr x 1 _ _ (0, 0) hts.bx
      have r0 := cell_of_row wr (w.heap.size + 1) 0 _ _ (0, 0) hts.vr
      have r1 := cell_of_row wr (w.heap.size + 1) 1 _ _ (0, 0) hts.vr
      simp only [List.getElem?_toArray, List.getElem?_cons_zero, List.getElem?_cons_succ] at x0 x1 r0 r1
      have rf : ∀ o, wr.frozen? ⟨w.heap.size + 1, o, none⟩ = false := fun o => by simp [World.frozen?, hts.vr]
      have hla' := hts.la
      have hlb' := hts.lb
      have hlx := hts.lx
      have hbe : Below w.heap.size w ((wr.setCell ⟨w.heap.size + 1, 0, none⟩ (.slice (some ⟨a, 0, none⟩) m m)).setCell ⟨w.heap.size + 1, 1, none⟩ (.slice (some ⟨b, 0, none⟩) m m)) := (hts.bel.setCell (by show w.heap.size ≤ w.heap.size + 1; omega) _).setCell (by show w.heap.size ≤ w.heap.size + 1; omega) _
      have htk : (tb s).take s.size = tb s := List.take_of_length_le (by rw [tb_length]; omega)
      have hfun2 : FunAt ((wr.setCell ⟨w.heap.size + 1, 0, none⟩ (.slice (some ⟨a, 0, none⟩) m m)).setCell ⟨w.heap.size + 1, 1, none⟩ (.slice (some ⟨b, 0, none⟩) m m)) (some ⟨a, 0, none⟩) m (some ⟨b, 0, none⟩) m (textT C N wd Ac s m) (textH C N wd Ac s m) := by
        have hc : ∀ y o, y ≠ w.heap.size + 1 → ((wr.setCell ⟨w.heap.size + 1, 0, none⟩ (.slice (some ⟨a, 0, none⟩) m m)).setCell ⟨w.heap.size + 1, 1, none⟩ (.slice (some ⟨b, 0, none⟩) m m)).cell? ⟨y, o, none⟩ = wr.cell? ⟨y, o, none⟩ := fun y o hy => by
          rw [World.cell?_of_block (a := ⟨y, o, none⟩) (heap_setCell_other _ _ _ _ hy), World.cell?_of_block (a := ⟨y, o, none⟩) (heap_setCell_other _ _ _ _ hy)]
        refine ⟨by simp [textT], by simp [textH], fun _ => ⟨a, 0, rfl, by simpa using (Array.getElem?_eq_some_iff.1 hts.ra).1, fun i hi => ?_⟩, fun _ => ⟨b, 0, rfl, by simpa using (Array.getElem?_eq_some_iff.1 hts.rb).1, fun i hi => ?_⟩⟩
        · rw [Nat.zero_add, hc a _ (by omega), cell_of_row wr a i _ _ (0, 0) hts.ra, mix_get _ _ _ _ _ hi, if_neg (by omega)]
          simp [iv, textT, fT, htk, hi]
        · rw [Nat.zero_add, hc b _ (by omega), cell_of_row wr b i _ _ (0, 0) hts.rb, mix_get _ _ _ _ _ hi, if_neg (by omega)]
          simp [bv, textH, fH, htk, hi]
      have HX := Lib.hid (And.intro hbe hfun2)
      clear hbe hfun2 hts htk
      go_wp2
      refine bodyPost_ret (v := .agg #[.slice (some ⟨a, 0, none⟩) m m, .slice (some ⟨b, 0, none⟩) m m]) ?_ rfl (.inr ⟨HR1.out, a, b, rfl, HX.out.2, HX.out.1⟩)
      simp [results, Try.results7, go_sem, *]
end Go.Proofs.Ytapanoalhhlphaa.Vec
