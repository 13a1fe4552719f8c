/- A byte's bounds. */ -/
import Derived.WalkKit
import Derived.ChangeShapes
import Derived.Test.YtkcocdpmangcgaaMgP
import Derived.Laws.BytesArg
namespace Go.Proofs.Ytkcocdpmangcgaa
set_option linter.unusedSimpArgs false
set_option linter.unusedVariables false
open Go
theorem u8_bd {x : Int} (h : (Lit.int .u8 x).wf = true) : 0 ≤ x ∧ x ≤ 255 := by
  simp only [Lit.wf, Bool.and_eq_true, decide_eq_true_eq] at h
  have h1 : IntKind.u8.min = 0 := by decide
  have h2 : IntKind.u8.max = 255 := by decide
  rw [h1, h2] at h
  exact h
end Go.Proofs.Ytkcocdpmangcgaa


/- Layer 23's laws: WalkGoes. */ -/
namespace Go.Proofs.Ytkcocdpmangcgaa.Wk
set_option linter.unusedSimpArgs false
set_option linter.unusedVariables false
open Go Go.RowKit Go.Proofs.Ytkcocdpmangcgaa.Rp
open Go.Proofs.Ytkcocdpmangcgaa.Ar (T Is Ext WF Knot getK getB getS Arena resAr small leafK T.cnt T.cnt_pos)
attribute [local go_sem] lt_add1 lt_self1 size_ne size_ne' size_ne1 size_ne1'
attribute [local irreducible] wpGrow wpThr

/-! two beside one another -/
section
variable {σ1 σ2 : Type} (R1 : Res σ1) (R2 : Res σ2)
def resPr : Res (σ1 × σ2) where
  at_ := fun w F s => ∃ F1 F2, (∀ b, F b ↔ (F1 b ∨ F2 b)) ∧ (∀ b, F1 b → ¬ F2 b) ∧ R1.at_ w F1 s.1 ∧ R2.at_ w F2 s.2
  below := fun {w w' F s} h hb => by
    obtain ⟨F1, F2, h1, h2, h3, h4⟩ := h
    exact ⟨F1, F2, h1, h2, R1.below h3 hb, R2.below h4 hb⟩
  lt := fun {w F s} h b hb => by
    obtain ⟨F1, F2, h1, h2, h3, h4⟩ := h
    exact ((h1 b).1 hb).elim (R1.lt h3 b) (R2.lt h4 b)
theorem keepsPr (k1 : Keeps R1) (k2 : Keeps R2) : Keeps (resPr R1 R2) := by
  intro w w' F G G' s h hf hd
  obtain ⟨F1, F2, h1, h2, h3, h4⟩ := h
  exact ⟨F1, F2, h1, h2, k1 h3 hf (fun b hb => hd b ((h1 b).2 (.inl hb))), k2 h4 hf (fun b hb => hd b ((h1 b).2 (.inr hb)))⟩
theorem does_fst (k2 : Keeps R2) {P : Program} {f : FuncId} {args : Array Value} {s1 : σ1} {s2 : σ2} {Post : Value → σ1 → Prop} (h : Does P R1 f args s1 Post) : Does P (resPr R1 R2) f args (s1, s2) (fun v s' => Post v s'.1 ∧ s'.2 = s2) := by
  rintro w F ⟨F1, F2, h1, h2, h3, h4⟩
  refine (h.run w F1 h3).mono ?_
  rintro e w' ⟨v, s', F1', he, hp, ha, hf⟩
  refine ⟨v, (s', s2), fun b => F1' b ∨ F2 b, he, ⟨hp, rfl⟩, ⟨F1', F2, fun b => Iff.rfl, fun b hb hb2 => ?_, ha, k2 h4 hf (fun b hb e => h2 b e hb)⟩, ?_⟩
  · exact hf.out (R2.lt h4 b hb2) (fun e => h2 b e hb2) hb
  · exact hf.weaken (fun b hb => (h1 b).2 (.inl hb)) (fun b hb => hb.elim .inl (fun e => .inr ((h1 b).2 (.inr e))))
theorem does_snd (k1 : Keeps R1) {P : Program} {f : FuncId} {args : Array Value} {s1 : σ1} {s2 : σ2} {Post : Value → σ2 → Prop} (h : Does P R2 f args s2 Post) : Does P (resPr R1 R2) f args (s1, s2) (fun v s' => Post v s'.2 ∧ s'.1 = s1) := by
  rintro w F ⟨F1, F2, h1, h2, h3, h4⟩
  refine (h.run w F2 h4).mono ?_
  rintro e w' ⟨v, s', F2', he, hp, ha, hf⟩
  refine ⟨v, (s1, s'), fun b => F1 b ∨ F2' b, he, ⟨hp, rfl⟩, ⟨F1, F2', fun b => Iff.rfl, fun b hb hb2 => ?_, k1 h3 hf (fun b hb e => h2 b hb e), ha⟩, ?_⟩
  · exact hf.out (R1.lt h3 b hb) (fun e => h2 b hb e) hb2
  · exact hf.weaken (fun b hb => (h1 b).2 (.inr hb)) (fun b hb => hb.elim (fun e => .inr ((h1 b).2 (.inl e))) .inl)
end
def go1 (s : (List UInt8 × Nat) × (List UInt8 × Nat)) (c : UInt8) : ((List UInt8 × Nat) × (List UInt8 × Nat)) × Bool := (((goTake s.1 c).1, s.2), (goTake s.1 c).2)
def go2 (s : (List UInt8 × Nat) × (List UInt8 × Nat)) (c : UInt8) : ((List UInt8 × Nat) × (List UInt8 × Nat)) × Bool := ((s.1, (goTake s.2 c).1), (goTake s.2 c).2)
theorem eat_go1 : ∀ (l : List UInt8) (a b : List UInt8 × Nat), eat go1 (a, b) l = (((eat goTake a l).1, b), (eat goTake a l).2.1, (eat goTake a l).2.2)
  | [], a, b => rfl
  | c :: l, a, b => by
    simp only [eat, go1]
    by_cases h : (goTake a c).2 = true
    · simp only [h, if_true]; rw [eat_go1 l]
    · simp only [h, Bool.false_eq_true, if_false]
theorem eat_go2 : ∀ (l : List UInt8) (a b : List UInt8 × Nat), eat go2 (a, b) l = ((a, (eat goTake b l).1), (eat goTake b l).2.1, (eat goTake b l).2.2)
  | [], a, b => rfl
  | c :: l, a, b => by
    simp only [eat, go2]
    by_cases h : (goTake b c).2 = true
    · simp only [h, if_true]; rw [eat_go2 l]
    · simp only [h, Bool.false_eq_true, if_false]
theorem eat_take : ∀ (l a : List UInt8) (m : Nat), (eat goTake (a, m) l).1 = (a ++ l.take (max (m - a.length) 1), m) ∧ (eat goTake (a, m) l).2.2 = min (max (m - a.length) 1) l.length
  | [], a, m => by simp [eat]
  | c :: l, a, m => by
    simp only [eat, goTake]
    by_cases h : a.length + 1 < m
    · have ih := eat_take l (a ++ [c]) m
      simp only [List.length_append, List.length_cons, List.length_nil, Nat.zero_add] at ih
      simp only [h, decide_true, if_true]
      rw [ih.1, ih.2]
      obtain ⟨k, hk⟩ : ∃ k, m - a.length = k + 2 := ⟨m - a.length - 2, by omega⟩
      have e1 : max (m - a.length) 1 = k + 2 := by omega
      have e2 : max (m - (a.length + 1)) 1 = k + 1 := by omega
      rw [e1, e2]
      refine ⟨by simp, ?_⟩
      simp only [List.length_cons]
      omega
    · simp only [h, decide_false, Bool.false_eq_true, if_false]
      have e1 : max (m - a.length) 1 = 1 := by omega
      rw [e1]
      refine ⟨by simp, ?_⟩
      simp only [List.length_cons]
      omega
theorem take_eg : ∀ args w, (callFunc 45 args).run Try.prog w = .ok (.enter 45 args) w := enters_of Try.func45 (by kernel_rfl) rfl

theorem bytes_back : ∀ l : List UInt8, l.map ((fun n : Int => UInt8.ofNat n.toNat) ∘ fun x : UInt8 => ((x.toNat : Nat) : Int)) = l
  | [] => rfl
  | c :: l => by
    rw [List.map_cons, bytes_back l]
    simp
/-- the bytes of a taker as a text. -/
theorem conv_bv {w : World} {A : Option Addr} {c : Nat} {l : List UInt8} (h : w.ownsRow 0 5 1 (.slice A l.length c) l.length (bv l)) : ∀ w', Below w.heap.size w w' → (convert 82 9 (.slice A l.length c)).run Try.prog w' = .ok (.string ⟨l.toArray⟩) w' := by
  intro w' hb
  have h' := own_below h hb
  rcases h'.2 with ⟨e, e0⟩ | ⟨g, cap, cur, e, _, hg, _, _, _, ht⟩
  · simp at e
    obtain ⟨rfl, hl, rfl⟩ := e
    obtain rfl : l = [] := by simpa using hl
    exact run_convert_bytes_nil (P := Try.prog) w' 82 5 Try.underlying82 Try.underlying5 0 0 9 Try.underlying9
  · simp at e
    obtain ⟨rfl, rfl⟩ := e
    have hc : ∀ j, j < l.length → w'.cell? ⟨g, j, none⟩ = (bv l)[j]? := fun j hj => World.ownsRow.cellAt h' j (by omega)
    have := run_convert_bytes_arg (P := Try.prog) w' 82 5 Try.underlying82 Try.underlying5 g 0 l.length c (l.map fun x => ((x.toNat : Nat) : Int)) (by simp)
    have h2 := this (fun i hi => by
      rw [Nat.zero_add, hc i hi]
      simp [bv, List.getD, hi]) 9 Try.underlying9
    have e : strOfNums (l.map fun x => ((x.toNat : Nat) : Int)) = ⟨l.toArray⟩ := Buf.bytes_ext (by rw [strOfNums_data, List.map_map]; exact bytes_back l)
    rw [h2, e]

/-- two takers begin. -/
theorem takers_start (gs gb ga : Nat) (rb rf q : Option Nat) (S : ByteArray) (ks : List Knot) (w : World) (h : St w gs gb ga rb rf q S ks) (m : Nat) :
    (resE (resPr (resSI 84 w.heap.size) (resSI 84 (w.heap.size + 1))) gs gb ga rb rf q S ks).at_ ((w.alloc (.cells #[.slice none 0 0, .int .i64 m] 84)).alloc (.cells #[.slice none 0 0, .int .i64 m] 84)) (fun b => b = w.heap.size ∨ b = w.heap.size + 1) (([], m), ([], m)) := by
  have hb : Below w.heap.size w ((w.alloc (.cells #[.slice none 0 0, .int .i64 m] 84)).alloc (.cells #[.slice none 0 0, .int .i64 m] 84)) := ((Below.refl _ _).alloc (Nat.le_refl _) _).alloc (by simp) _
  refine ⟨⟨fun b => b = w.heap.size, fun b => b = w.heap.size + 1, fun b => Iff.rfl, fun b h1 h2 => by omega, ⟨.slice none 0 0, fun b => by simp [Value.ownBlock], by simp [Value.ownBlock], ?_, World.ownsRow_nil _ _ _ _⟩, ⟨.slice none 0 0, fun b => by simp [Value.ownBlock], by simp [Value.ownBlock], ?_, World.ownsRow_nil _ _ _ _⟩⟩, h.below hb, fun k hk e => ?_, fun e => ?_⟩
  · exact (Below.heap_alloc _ _ w.heap.size (by simp)).trans (heap_alloc_new _ _)
  · have e : w.heap.size + 1 = (w.alloc (.cells #[.slice none 0 0, .int .i64 m] 84)).heap.size := by simp
    rw [e]
    exact heap_alloc_new _ _
  · have := h.foot_lt hk; omega
  · have := h.lt; omega

/-- what the law's two calls leave, where the place is in the text, or not. -/
def fwL (y : ByteArray) (p : Int) : List UInt8 := if 0 ≤ p ∧ p ≤ y.size then y.data.toList.drop p.toNat else []
def bkL (y : ByteArray) (p : Int) : List UInt8 := if 0 ≤ p ∧ p ≤ y.size then (y.data.toList.take p.toNat).reverse else []

set_option maxRecDepth 100000 in
set_option maxHeartbeats 4000000 in
theorem goes_walk (l : List Dd) (p : Int) (m : Nat) (hm : m ≤ 255) (A : Option Addr) (cap : Nat) (w : World) (hs : ddAt w A l) (hl : ∀ d ∈ l, d.text.size ≤ 2 ^ 63 - 1) :
    Calls Try.prog 9 #[.slice A l.length cap, .int .i64 p, .int .u8 m] w fun e w' => e = .returned (.bool true) ∧ Below w.heap.size w w' := by
  have HS := Lib.hid hs
  clear hs
  go_enter Try.func9, Try.ntmps9
  go_wp2_with fail
  ((with_reducible refine (awake23 _).mono ?_); rintro e w1 ⟨rfl, hb1⟩)
  have HBL := Lib.hid (build_any l A cap w1 ((HS.out.below hb1).more hb1.size) hl)
  have H1 := Lib.hid hb1
  clear hb1 HS
  go_wp2_with fail
  ((with_reducible refine HBL.out.mono ?_); rintro e W ⟨v, rfl, ⟨b, gs, gb, ga, rb, rf, q, Tv, Lv, s, rfl, hB, hI⟩⟩)
  have HB := Lib.hid (And.intro (H1.out.trans (hB.bl.mono H1.out.size)) (And.intro hB hI))
  clear hB hI HBL H1
  obtain ⟨At, ct, hTv, hT⟩ := HB.out.2.1.sn
  obtain ⟨Al, cl, hLv, hL⟩ := HB.out.2.1.sl
  have hc := HB.out.2.1.c
  rw [hTv, hLv] at hc
  have c0 := Bw.cell HB.out.2.1.lt hc.1
  have c1 := Bw.cell HB.out.2.1.lt hc.2.1
  have c2 := Bw.cell HB.out.2.1.lt hc.2.2
  have hltb := Bw.lt HB.out.2.1.lt
  have hlen := HB.out.2.2.len
  have hn41 := HB.out.2.2.le
  have hn1 := HB.out.2.2.pos
  obtain ⟨tb, toff, rfl, htl, htc⟩ := hT (by omega)
  obtain ⟨lb, loff, rfl, hll, hlc⟩ := hL (by omega)
  have dl1 := Bw.lt htl
  have dl2 := Bw.lt hll
  have HT := Lib.hid (And.intro (fun k hk => Bw.cell htl (htc k hk)) (fun k hk => Bw.cell hll (hlc k hk)))
  have HLEN := Lib.hid hlen
  rw [← hlen] at c2
  have hks := HB.out.2.2.ks_small (by omega)
  have hS := HB.out.2.2.S_small (by omega)
  clear hTv hLv hT hL hc hlen htc hlc htl hll
  obtain ⟨n, hn⟩ : ∃ n, n = s.Ts.length := ⟨_, rfl⟩
  rw [← hn] at c1 c2 hn41 hn1
  have HN := Lib.hid hn
  clear hn
  have hnn : (n : Int) ≤ 41 := by omega
  have hm' : (m : Int) ≤ 255 := by omega
  go_wp2_with fail
  go_loopw [8] (fun i wr => ∃ k : Nat, i = .int .i64 k ∧ k ≤ n ∧ Below W.heap.size W wr) (fun i _ => n - (intOf i).toNat)
  case atStart => exact ⟨0, rfl, by omega, Below.refl _ _⟩
  case round =>
    obtain ⟨k, rfl, hk, hbr⟩ := hrel
    have e1 : wr.cell? ⟨b, 1, none⟩ = _ := c1 ⟨wr, hbr⟩
    have e2 : wr.cell? ⟨b, 2, none⟩ = _ := c2 ⟨wr, hbr⟩
    have eb : b < wr.heap.size := hltb ⟨wr, hbr⟩
    have HBR := Lib.hid hbr
    clear hbr
    by_cases hkn : k < n
    · have hkn' : (k : Int) < n := by omega
      obtain ⟨X, hX⟩ := HB.out.2.2.ri (k := k) (by rw [← HN.out]; exact hkn) W b gs gb ga rb rf q
      have dk1 := HT.out.1 k (by rw [← HN.out]; exact hkn)
      have dk2 := HT.out.2 k (by rw [← HLEN.out, ← HN.out]; exact hkn)
      have el : wr.cell? ⟨lb, loff + k, none⟩ = _ := dk2 ⟨wr, HBR.out⟩
      have ell : lb < wr.heap.size := dl2 ⟨wr, HBR.out⟩
      have hXle := hX.le
      have hst := (HB.out.2.1.below HBR.out).st
      have hyz : (s.Ls.getD k ⟨#[]⟩).size ≤ 800 := by have := hX.size; omega
      have hfl : FwdL s.S X p = fwL (s.Ls.getD k ⟨#[]⟩) p := by unfold FwdL fwL; rw [hX.txt, hX.size]
      have hbl : BckL s.S X p = bkL (s.Ls.getD k ⟨#[]⟩) p := by unfold BckL bkL; rw [hX.txt, hX.size]
      have hf := Forward_does (resPr (resSI 84 wr.heap.size) (resSI 84 (wr.heap.size + 1))) gs 45 (.pointer (some ⟨wr.heap.size, 0, none⟩)) gb ga rb rf q s.S s.ks go1 (fun z => z.1.1.length) (keepsPr _ _ (keepsSI _ _) (keepsSI _ _)) (fun z c => by simp [go1, goTake]) take_eg
        (fun z c hz => (does_fst _ _ (keepsSI _ _) (take_does wr.heap.size z.1 c hz)).mono (fun v s' h => ⟨h.1.1, Prod.ext h.1.2 h.2⟩)) HB.out.2.2.wf hks hS X (s.Ts.getD k 0) p (([], m), ([], m)) hX.is_ hX.good (by simp; omega)
      rw [hfl, eat_go1, (eat_take _ [] m).1, (eat_take _ [] m).2] at hf
      have hg := fun (z : (List UInt8 × Nat) × (List UInt8 × Nat)) (hz : z.1.1.length ≤ 1000) => Back_does (resPr (resSI 84 wr.heap.size) (resSI 84 (wr.heap.size + 1))) gs 45 (.pointer (some ⟨wr.heap.size + 1, 0, none⟩)) gb ga rb rf q s.S s.ks go2 (fun z => z.2.1.length) (keepsPr _ _ (keepsSI _ _) (keepsSI _ _)) (fun z c => by simp [go2, goTake]) take_eg
        (fun z c hz => (does_snd _ _ (keepsSI _ _) (take_does (wr.heap.size + 1) z.2 c hz)).mono (fun v s' h => ⟨h.1.1, Prod.ext h.2 h.1.2⟩)) HB.out.2.2.wf hks hS X (s.Ts.getD k 0) p (z.1, ([], m)) hX.is_ hX.good (by simp; omega)
      rw [hbl] at hg
      simp only [eat_go2, (eat_take _ [] m).1, (eat_take _ [] m).2, List.nil_append, List.length_nil, Nat.sub_zero] at hf hg
      have hs0 := takers_start gs gb ga rb rf q s.S s.ks wr hst m
      have hb0 : Below wr.heap.size wr ((wr.alloc (.cells #[.slice none 0 0, .int .i64 m] 84)).alloc (.cells #[.slice none 0 0, .int .i64 m] 84)) := ((Below.refl _ _).alloc (Nat.le_refl _) _).alloc (by simp) _
      have HF := Lib.hid (And.intro hf (And.intro hg (And.intro hs0 hb0)))
      clear hX hXle hst hfl hbl hf hg hs0 hb0
      generalize s.Ts.getD k 0 = t at dk1 HF
      generalize s.Ls.getD k ⟨#[]⟩ = y at dk2 HF hyz el
      go_upto_region 11 with fail
      obtain ⟨cf, hcf⟩ : ∃ cf, cf = min (max m 1) (fwL y p).length := ⟨_, rfl⟩
      obtain ⟨cb, hcb⟩ : ∃ cb, cb = min (max m 1) (bkL y p).length := ⟨_, rfl⟩
      generalize hW2 : (wr.alloc (.cells #[.slice none 0 0, .int .i64 m] 84)).alloc (.cells #[.slice none 0 0, .int .i64 m] 84) = W2 at HF ⊢
      have hw2z : W2.heap.size = wr.heap.size + 2 := by rw [← hW2]; simp
      have HBW2 : Hid (Below W.heap.size W W2) := Lib.hid (HBR.out.trans (HF.out.2.2.2.mono HBR.out.size))
      have HQ := Lib.hid (And.intro hcf (And.intro hcb HF.out.2.2.1))
      have HF1 := Lib.hid HF.out.1
      have HG1 := Lib.hid (HF.out.2.1 (((fwL y p).take (max m 1), m), ([], m)) (by simp only [List.length_take]; omega))
      rw [← hcf] at HF1
      rw [← hcb] at HG1
      clear hW2 hcf hcb e1 e2 eb el ell HF
      have hwz : wr.heap.size < W2.heap.size := by omega
      have hwz1 : wr.heap.size + 1 < W2.heap.size := by omega
      have hwb : b < wr.heap.size := hltb ⟨wr, HBR.out⟩
      have hwt : tb < wr.heap.size := dl1 ⟨wr, HBR.out⟩
      have HR : Hid (∀ s' bs w', (resCls (resE (resPr (resSI 84 wr.heap.size) (resSI 84 (wr.heap.size + 1))) gs gb ga rb rf q s.S s.ks) W2 (fun b => b = wr.heap.size ∨ b = wr.heap.size + 1)).In s' bs w' → w'.cell? ⟨b, 0, none⟩ = some (.pointer (some ⟨gs, 0, none⟩)) ∧ w'.cell? ⟨b, 1, none⟩ = some (.slice (some ⟨tb, toff, none⟩) n ct) ∧ w'.cell? ⟨tb, toff + k, none⟩ = some (.int .i64 t)) := Lib.hid (fun s' bs w' hw' =>
        ⟨(resCls_cell hw' (by omega) (by omega) 0).trans (c0 ⟨W2, HBW2.out⟩), (resCls_cell hw' (by omega) (by omega) 1).trans (c1 ⟨W2, HBW2.out⟩), (resCls_cell hw' (by omega) (by omega) (toff + k)).trans (dk1 ⟨W2, HBW2.out⟩)⟩)
      refine wp_region_thr (resCls (resE (resPr (resSI 84 wr.heap.size) (resSI 84 (wr.heap.size + 1))) gs gb ga rb rf q s.S s.ks) W2 (fun b => b = wr.heap.size ∨ b = wr.heap.size + 1)) (([], m), ([], m)) 32 [0, 1, 2, 3, 4, 5, 6, 7, 8, 9, 10, 11, 12, 13, 15, 16, 17, 18, 19, 20, 21, 22, 23, 24, 25, 26, 27, 28, 14, 29, 30, 31] _ (by kernel_rfl) (by kernel_rfl) (by kernel_rfl) rfl (resCls_start HQ.out.2.2) ?_
      (simp only [List.filterMap_cons, List.filterMap_nil, List.getElem?_cons_zero, List.getElem?_cons_succ, List.drop_succ_cons, List.drop_zero, List.drop_nil])
      iterate 28 ((refine wpThr_val rfl rfl rfl ?_; apply Exists.intro; refine ⟨fun s1 bs1 w1 hb1 hw1 => ?_, ?_⟩); (have hc1 := HR.out s1 bs1 w1 hw1; go_simp; exact growUpon_ok rfl); (refine wpThr_at (by (simp only [Act.put, List.setIfInBounds_toArray, List.set_cons_succ, List.set_cons_zero]) <;> exact rfl) ?_))
      refine wpThr_call (fun v s' => v = .int .i64 cf ∧ s' = (((fwL y p).take (max m 1), m), ([], m))) rfl rfl rfl ?_ ?_
      · intro bs1 w1 hb1 hw1
        go_simp
        with_reducible exact resCls_upon HF1.out hw1
      rintro v st ⟨rfl, rfl⟩
      (refine wpThr_at (by (simp only [Act.put, List.setIfInBounds_toArray, List.set_cons_succ, List.set_cons_zero]) <;> exact rfl) ?_)
      refine wpThr_call (fun v s' => v = .int .i64 cb ∧ s' = (((fwL y p).take (max m 1), m), ((bkL y p).take (max m 1), m))) rfl rfl rfl ?_ ?_
      · intro bs1 w1 hb1 hw1
        go_simp
        with_reducible exact resCls_upon HG1.out hw1
      rintro v st ⟨rfl, rfl⟩
      (refine wpThr_at (by (simp only [Act.put, List.setIfInBounds_toArray, List.set_cons_succ, List.set_cons_zero]) <;> exact rfl) ?_)
      iterate 2 ((refine wpThr_val rfl rfl rfl ?_; apply Exists.intro; refine ⟨fun s1 bs1 w1 hb1 hw1 => ?_, ?_⟩); (have hc1 := HR.out s1 bs1 w1 hw1; go_simp; exact growUpon_ok rfl); (refine wpThr_at (by (simp only [Act.put, List.setIfInBounds_toArray, List.set_cons_succ, List.set_cons_zero]) <;> exact rfl) ?_))
      refine wpThr_nil ?_
      rintro w5 ⟨F5, ha5, hf5, _⟩
      obtain ⟨⟨G1, G2, _, _, q1, q2⟩, _⟩ := ha5
      obtain ⟨v1, _, _, q13, q14⟩ := resSI_of q1
      obtain ⟨v2, _, _, q23, q24⟩ := resSI_of q2
      have hla : ((fwL y p).take (max m 1)).length = cf := by rw [HQ.out.1, List.length_take]
      have hlb : ((bkL y p).take (max m 1)).length = cb := by rw [HQ.out.2.1, List.length_take]
      obtain ⟨A1, k1, rfl, _, _⟩ := SlAt.of_own q14
      obtain ⟨A2, k2, rfl, _, hy2⟩ := SlAt.of_own q24
      have hcv := conv_bv q14
      simp only at hcv q13 q23 hy2
      rw [hla] at hcv q13
      rw [hlb] at q23 hy2
      have hbw5 : Below W.heap.size W w5 := hf5.below HBW2.out (fun b hb => by have := HBR.out.size; omega) HBW2.out.size
      have x0 := Bw.cell (o := 0) (Array.getElem?_eq_some_iff.1 q13).1 (cell_of_row w5 _ 0 _ _ (0, 0) q13)
      have y0 := Bw.cell (o := 0) (Array.getElem?_eq_some_iff.1 q23).1 (cell_of_row w5 _ 0 _ _ (0, 0) q23)
      have xl := Bw.lt (Array.getElem?_eq_some_iff.1 q13).1
      have yl := Bw.lt (Array.getElem?_eq_some_iff.1 q23).1
      simp at x0 y0
      have H5 := Lib.hid (And.intro hbw5 hy2)
      have HCV := Lib.hid hcv
      have fx : w5.cell? ⟨wr.heap.size, 0, none⟩ = _ := x0 ⟨w5, Below.refl _ _⟩
      have fy : w5.cell? ⟨wr.heap.size + 1, 0, none⟩ = _ := y0 ⟨w5, Below.refl _ _⟩
      have fxl : wr.heap.size < w5.heap.size := xl ⟨w5, Below.refl _ _⟩
      have fyl : wr.heap.size + 1 < w5.heap.size := yl ⟨w5, Below.refl _ _⟩
      have hcfn : (cf : Int) ≤ 1000 := by have h := HQ.out.1; omega
      have hcbn : (cb : Int) ≤ 1000 := by have h := HQ.out.2.1; omega
      have HX := Lib.hid (And.intro hwz hwz1)
      clear q1 q2 q13 q14 q23 q24 hcv hy2 hbw5 hf5 HR hla hlb HF1 HG1 hwz hwz1 hwb hwt hw2z
      generalize hbx : wr.heap.size = bx at *
      have hyz' : (y.size : Int) ≤ 800 := by omega
      by_cases hp : 0 ≤ p ∧ p ≤ y.size
      · obtain ⟨hp0, hp1⟩ := hp
        have hcf : cf = min (max m 1) (y.size - p.toNat) := by
          have h := HQ.out.1
          unfold fwL at h
          rw [if_pos ⟨hp0, hp1⟩, List.length_drop] at h
          exact h
        have hcb : cb = min (max m 1) p.toNat := by
          have h := HQ.out.2.1
          unfold bkL at h
          rw [if_pos ⟨hp0, hp1⟩, List.length_reverse, List.length_take] at h
          have e : y.data.toList.length = y.size := rfl
          rw [e] at h
          omega
        have hup : min (max (m : Int) 1) ((y.size : Int) - p) = cf := by omega
        have hdn : min (max (m : Int) 1) p = cb := by omega
        have hcfp : p + cf ≤ y.size := by omega
        have hcbp : (cb : Int) ≤ p := by omega
        have hstr : (⟨((fwL y p).take (max m 1)).toArray⟩ : ByteArray) = y.extract p.toNat (p + cf).toNat := by
          refine Buf.bytes_ext ?_
          rw [extract_list]
          unfold fwL
          rw [if_pos ⟨hp0, hp1⟩]
          simp only
          rw [show (p + (cf : Int)).toNat - p.toNat = cf by omega, hcf]
          have e : (y.data.toList.drop p.toNat).length = y.size - p.toNat := by rw [List.length_drop]; rfl
          rw [← e]
          rcases Nat.le_total (max m 1) (y.data.toList.drop p.toNat).length with h | h
          · rw [Nat.min_eq_left h]
          · rw [Nat.min_eq_right h, List.take_of_length_le h, List.take_of_length_le (Nat.le_refl _)]
        rw [hstr] at HCV
        have hconv : ∀ x : Bw w5, (convert 82 9 (.slice A1 cf k1)).run Try.prog x.w = .ok (.string (y.extract p.toNat (p + cf).toNat)) x.w := fun x => HCV.out x.w x.h
        have hsl := fun wx => run_slice_string (P := Try.prog) wx 9 y .i64 .i64 p (p + cf) Try.underlying9 hp0 (by omega) hcfp
        have hdb : ∀ j, j < cb → ((bkL y p).take (max m 1)).getD j 0 = y.data.toList.getD (p.toNat - 1 - j) 0 := by
          intro j hj
          have e : y.data.toList.length = y.size := rfl
          unfold bkL
          rw [if_pos ⟨hp0, hp1⟩]
          simp only [List.getD]
          rw [List.getElem?_take_of_lt (by omega), List.getElem?_reverse (by rw [List.length_take]; omega), List.length_take, List.getElem?_take_of_lt (by omega)]
          congr 2
          omega
        have HDB := Lib.hid hdb
        have HEQ := Lib.hid (And.intro hcf hcb)
        clear hstr hcf hcb hdb
        go_upto_region 19 with fail
        clear fx fy fxl fyl
        refine wp_region_wd (fun w' => Below w5.heap.size w5 w') (by kernel_rfl) (by kernel_rfl) (Bw.start w5) ?_
        repeat (go_big_quiet_step (fail))
        refine wpQuiet_nil (wd_all ?_)
        intro w6 hb6
        have HB6 := Lib.hid hb6
        clear hb6 hsl hconv
        go_wp2_with fail
        go_loopw [16] (fun i wz => ∃ j : Nat, i = .int .i64 j ∧ j ≤ cb ∧ Below w5.heap.size w5 wz) (fun i _ => cb - (intOf i).toNat)
        case atStart => exact ⟨0, rfl, Nat.zero_le _, HB6.out⟩
        case round =>
          obtain ⟨j, rfl, hj, hbj⟩ := hrel
          have HBJ := Lib.hid hbj
          clear hbj
          by_cases hjn : j < cb
          · have hjn' : (j : Int) < cb := by omega
            obtain ⟨gy, oy, rfl, hgy, hcy⟩ := H5.out.2 (by omega)
            have hcell : w5.cell? ⟨gy, oy + (j * 1 + 0), none⟩ = some ((bv ((bkL y p).take (max m 1))).getD (j * 1 + 0) undef) := hcy j 0 hjn (by omega)
            have hlt : j < ((bkL y p).take (max m 1)).length := by rw [List.length_take, ← HQ.out.2.1]; exact hjn
            have hbvv : (bv ((bkL y p).take (max m 1))).getD (j * 1 + 0) undef = .int .u8 ((((bkL y p).take (max m 1)).getD j 0).toNat : Nat) := by
              simp only [Nat.mul_one, Nat.add_zero, bv, List.getD, List.getElem?_map, List.getElem?_eq_getElem hlt, Option.map_some, Option.getD_some]
            rw [hbvv, HDB.out j hjn] at hcell
            simp only [Nat.mul_one, Nat.add_zero] at hcell
            have gb' : ∀ (h : (p.toNat - 1 - j) < y.size), y[p.toNat - 1 - j] = y.data.toList.getD (p.toNat - 1 - j) 0 := by
              intro h
              have e : (p.toNat - 1 - j) < y.data.toList.length := h
              rw [List.getD, List.getElem?_eq_getElem e]
              rfl
            have hi1 : (p - 1 - (j : Int)).toNat = p.toNat - 1 - j := by omega
            have hi2 : 0 ≤ p - 1 - (j : Int) := by omega
            have hi3 : p - 1 - (j : Int) < y.size := by omega
            have q0 := Bw.cell hgy hcell
            have ql := Bw.lt hgy
            clear hcy hcell hlt hbvv
            generalize y.data.toList.getD (p.toNat - 1 - j) 0 = c at gb' q0
            go_wp2_with fail
            refine wp_region_wd (fun w' => Below w5.heap.size w5 w') (by kernel_rfl) (by kernel_rfl) HBJ.out.drew ?_
            repeat (go_big_quiet_step (fail))
            refine wpQuiet_nil (wd_all ?_)
            intro w7 hb7
            have HB7 := Lib.hid hb7
            clear hb7
            go_wp2_with fail
            go_roundw
            case rel => exact ⟨j + 1, by go_num, by omega, HB7.out⟩
            case measure => simp [intOf]; omega
          · have hjn' : ¬ ((j : Int) < cb) := by omega
            go_wp2_with fail
            go_roundw
            case rel => exact ⟨k + 1, by go_num, by omega, H5.out.1.trans (HBJ.out.mono H5.out.1.size)⟩
            case measure => simp [intOf]; omega
      · have hz : cf = 0 ∧ cb = 0 := by
          have h1 := HQ.out.1
          have h2 := HQ.out.2.1
          unfold fwL at h1
          unfold bkL at h2
          rw [if_neg hp] at h1 h2
          simp at h1 h2
          exact ⟨h1, h2⟩
        obtain ⟨rfl, rfl⟩ := hz
        rcases Int.lt_or_le p 0 with h0 | h0
        · clear hp
          go_wp2_with fail
          go_roundw
          case rel => exact ⟨k + 1, by go_num, by omega, H5.out.1⟩
          case measure => simp [intOf]; omega
        · have h1 : (y.size : Int) < p := by omega
          have h0' : ¬ p < 0 := by omega
          clear hp
          go_wp2_with fail
          go_roundw
          case rel => exact ⟨k + 1, by go_num, by omega, H5.out.1⟩
          case measure => simp [intOf]; omega
    · have hkn' : ¬ ((k : Int) < n) := by omega
      have HA1 := Lib.hid (fun fv w' (hb : Below W.heap.size W w') => Forward_err w' _ (-1) 0 _ 7 fv (by decide) (rsize_none gs gb ga rb rf q s.S s.ks w' (-1) (.inl (by decide)) (HB.out.2.1.below hb).st hks))
      have HA2 := Lib.hid (fun fv w' (hb : Below W.heap.size W w') => Back_err w' _ ((s.ks.length : Int) + 1) 0 _ 7 fv (by decide) (rsize_none gs gb ga rb rf q s.S s.ks w' _ (.inr (by omega)) (HB.out.2.1.below hb).st hks))
      have HA3 := Lib.hid (fun fv w' => Forward_err w' none 0 0 _ 7 fv (by decide) (rsize_nilB w' 0))
      have HKN := Lib.hid (fun w' (hb : Below W.heap.size W w') => rknots_any gs gb ga rb rf q s.S s.ks w' (HB.out.2.1.below hb).st)
      have hksn : (s.ks.length : Int) ≤ 1073741824 := by unfold small at hks; omega
      have hwr1 : IntKind.i64.wrap ((s.ks.length : Int) + 1) = (s.ks.length : Int) + 1 := IntWalk.i64_in _ (by omega)
      generalize s.ks.length = kz at HA2 HKN hksn hwr1
      go_upto_region 27 with fail
      clear e1 e2 eb
      refine wp_region_wd (fun w' => Below W.heap.size W w') (by kernel_rfl) (by kernel_rfl) (HBR.out.alloc HBR.out.size _).drew ?_
      repeat (go_big_quiet_step (first | (with_reducible exact Bw.call (HA1.out _ _ (Wd.h _))) | (with_reducible exact Bw.call (HA2.out _ _ (Wd.h _))) | (with_reducible exact Bw.call (HA3.out _ _)) | (with_reducible exact Bw.same (HKN.out _ (Wd.h _)))))
      refine wpQuiet_nil (wd_all ?_)
      intro w5 hb5
      have HB5 := Lib.hid hb5
      clear hb5
      go_wp2_with fail
      go_ret
      exact ⟨rfl, HB.out.1.trans (HB5.out.mono HB.out.1.size)⟩
theorem goes_walk' (l : List Dd) (p x : Int) (h0 : 0 ≤ x) (h1 : x ≤ 255) (A : Option Addr) (cap : Nat) (w : World) (hs : ddAt w A l) (hl : ∀ d ∈ l, d.text.size ≤ 2 ^ 63 - 1) :
    Calls Try.prog 9 #[.slice A l.length cap, .int .i64 p, .int .u8 x] w fun e w' => e = .returned (.bool true) ∧ Below w.heap.size w w' := by
  obtain ⟨m, rfl⟩ : ∃ m : Nat, x = m := ⟨x.toNat, by omega⟩
  exact goes_walk l p m (by omega) A cap w hs hl
end Go.Proofs.Ytkcocdpmangcgaa.Wk
