/- The page's Get: the walk. -/
import Derived.Test.YtghghioidllgiaaPkI
namespace Go.Proofs.Ytghghioidllgiaa.Pk
set_option linter.unusedSimpArgs false
set_option linter.unusedVariables false
open Go Go.RowKit
open Go.Proofs.Ytghghioidllgiaa.Vec (SlI iv bv FunAt Right right_any rright_any)
attribute [local go_sem] lt_add1 lt_self1 size_ne size_ne' size_ne1 size_ne1'
attribute [local irreducible] wpGrow

def tsv (bs : List Nat) (k t : Nat) : List Value := (List.range t).map fun i => .int .i64 (getT bs k i : Nat)
def hsv (bs : List Nat) (k t : Nat) : List Value := (List.range t).map fun i => .bool (getH bs k i)
/-- what the page's Get answers. -/
def RGetPost (bs : List Nat) (w : World) (e : Ending) (w' : World) : Prop :=
  (gerr bs ≠ 0 ∧ e = .returned (.tuple #[.agg #[.slice none 0 0, .slice none 0 0], .int .i64 0, .int .i64 (gerr bs : Nat)]) ∧ Below w.heap.size w w') ∨
  (gerr bs = 0 ∧ ∃ P Q cp cq, e = .returned (.tuple #[.agg #[.slice P (cnt bs) cp, .slice Q (cnt bs) cq], .int .i64 (siz (cnt bs)), .int .i64 0]) ∧
    (w'.ownsRow w.heap.size 3 1 (.slice P (cnt bs) cp) (cnt bs) (tsv bs (cnt bs) (cnt bs)) ∧ w'.ownsRow w.heap.size 4 1 (.slice Q (cnt bs) cq) (cnt bs) (hsv bs (cnt bs) (cnt bs))) ∧ Below w.heap.size w w')
theorem tsv_length (bs : List Nat) (k t : Nat) : (tsv bs k t).length = t := by simp [tsv]
theorem hsv_length (bs : List Nat) (k t : Nat) : (hsv bs k t).length = t := by simp [hsv]
theorem tsv_succ (bs : List Nat) (k t : Nat) : tsv bs k (t + 1) = tsv bs k t ++ [.int .i64 (getT bs k t : Nat)] := by simp [tsv, List.range_succ]
theorem hsv_succ (bs : List Nat) (k t : Nat) : hsv bs k (t + 1) = hsv bs k t ++ [.bool (getH bs k t)] := by simp [hsv, List.range_succ]

theorem own_fun {w : World} {base k c1 c2 : Nat} {A1 A2 : Option Addr} {bs : List Nat} (o1 : w.ownsRow base 3 1 (.slice A1 k c1) k (tsv bs k k)) (o2 : w.ownsRow base 4 1 (.slice A2 k c2) k (hsv bs k k)) : FunAt w A1 k A2 k (getTs bs k) (getHs bs k) := by
  refine ⟨getTs_length _ _, getHs_length _ _, fun hn => ?_, fun hn => ?_⟩
  · obtain ⟨A', c', e, _, hs⟩ := SlAt.of_own o1
    cases e
    obtain ⟨b', off', rfl, hb', hc'⟩ := hs hn
    refine ⟨b', off', rfl, hb', fun i hi => ?_⟩
    have := hc' i 0 hi (by omega)
    rw [Nat.mul_one, Nat.add_zero] at this
    rw [this]
    simp [iv, getTs, tsv, hi]
  · obtain ⟨A', c', e, _, hs⟩ := SlAt.of_own o2
    cases e
    obtain ⟨b', off', rfl, hb', hc'⟩ := hs hn
    refine ⟨b', off', rfl, hb', fun i hi => ?_⟩
    have := hc' i 0 hi (by omega)
    rw [Nat.mul_one, Nat.add_zero] at this
    rw [this]
    simp [bv, getHs, hsv, hi]
theorem Two.fun_ {B : Nat} {a0 w : World} {x k c1 c2 : Nat} {A1 A2 : Option Addr} {bs : List Nat} (h : Two B a0 w x (.slice A1 k c1) (.slice A2 k c2) (tsv bs k k) (hsv bs k k)) : FunAt w A1 k A2 k (getTs bs k) (getHs bs k) := by
  have o1 := h.o1
  have o2 := h.o2
  rw [tsv_length] at o1
  rw [hsv_length] at o2
  exact own_fun o1 o2
theorem Two.out {B : Nat} {a0 w : World} {x k c1 c2 : Nat} {A1 A2 : Option Addr} {bs : List Nat} (h : Two B a0 w x (.slice A1 k c1) (.slice A2 k c2) (tsv bs k k) (hsv bs k k)) (u v : Value) :
    (((w.setCell ⟨B, 0, none⟩ u).setCell ⟨B, 1, none⟩ v).ownsRow B 3 1 (.slice A1 k c1) k (tsv bs k k) ∧ ((w.setCell ⟨B, 0, none⟩ u).setCell ⟨B, 1, none⟩ v).ownsRow B 4 1 (.slice A2 k c2) k (hsv bs k k)) ∧ Below B a0 ((w.setCell ⟨B, 0, none⟩ u).setCell ⟨B, 1, none⟩ v) := by
  have o1 := h.o1
  have o2 := h.o2
  rw [tsv_length] at o1
  rw [hsv_length] at o2
  have n1 : (Value.slice A1 k c1).ownBlock ≠ some B := fun e => by have := (o1.lt B e).1; omega
  have n2 : (Value.slice A2 k c2).ownBlock ≠ some B := fun e => by have := (o2.lt B e).1; omega
  exact ⟨⟨own_base (own_setCell (own_setCell o1 n1 _) n1 _) (by omega), own_base (own_setCell (own_setCell o2 n2 _) n2 _) (by omega)⟩, (h.bel.setCell (Nat.le_refl _) _).setCell (Nat.le_refl _) _⟩

set_option maxRecDepth 100000 in
set_option maxHeartbeats 4000000 in
theorem rget_any (bs : List Nat) (n : Nat) (hn : bs.length = n) (hB : Byt bs) (hbig : n ≤ 1000000) (A : Option Addr) (c : Nat) (hc : n ≤ c) (w : World) (h : SlI w w.heap.size n A (yv bs)) :
    Calls Try.prog 15 #[.slice A n c] w fun e w' => RGetPost bs w e w' := by
  have HH := Lib.hid (And.intro h (And.intro hB hn))
  clear h hB hn
  go_enter Try.func15, Try.ntmps15
  have hb0 : Box0 w.heap.size w (w.alloc (.cells #[.slice none 0 0, .slice none 0 0] 27)) := ⟨heap_alloc_new w _, by (repeat (first | exact Below.refl _ _ | assumption | (refine Below.setCell ?_ (by first | (simp; done) | (simp; omega) | omega) _) | (refine Below.alloc ?_ (by first | (simp; done) | (simp; omega) | omega) _) | (refine Below.drew ?_) | (refine Below.drewN ?_ _) | (refine Below.trans ?_ (Below.mono (by assumption) (by first | (simp; done) | (simp; omega) | omega)))))⟩
  by_cases n1 : n < 2
  · have hge : gerr bs = 10 := by unfold gerr; rw [if_pos (by have := HH.out.2.2; omega)]
    have HG := Lib.hid hge
    clear hge
    have hn1 : (n : Int) < 2 := by omega
    go_wp2
    refine bodyPost_ret (v := .tuple #[.agg #[.slice none 0 0, .slice none 0 0], .int .i64 0, .int .i64 10]) ?_ rfl (.inl ⟨by rw [HG.out]; decide, by rw [HG.out]; rfl, by (repeat (first | exact Below.refl _ _ | assumption | (refine Below.setCell ?_ (by first | (simp; done) | (simp; omega) | omega) _) | (refine Below.alloc ?_ (by first | (simp; done) | (simp; omega) | omega) _) | (refine Below.drew ?_) | (refine Below.drewN ?_ _) | (refine Below.trans ?_ (Below.mono (by assumption) (by first | (simp; done) | (simp; omega) | omega)))))⟩)
    simp [results, Try.results15, go_sem, *]
  have hn1 : ¬ (n : Int) < 2 := by omega
  obtain ⟨b1, o1, rfl, hb1, hc1⟩ := HH.out.1 (by omega)
  have f0 : w.cell? ⟨b1, o1 + 0, none⟩ = some (.int .u8 (bs.getD 0 0 : Nat)) := hc1 0 (by omega)
  have f1 : w.cell? ⟨b1, o1 + 1, none⟩ = some (.int .u8 (bs.getD 1 0 : Nat)) := hc1 1 (by omega)
  have y0 := HH.out.2.1 0
  have y1 := HH.out.2.1 1
  have hkk : cnt bs = bs.getD 0 0 * 256 + bs.getD 1 0 := rfl
  generalize bs.getD 0 0 = p0 at f0 y0 hkk
  generalize bs.getD 1 0 = p1 at f1 y1 hkk
  have g0 := (hb0.bel.cell (p := ⟨b1, _, none⟩) hb1).trans f0
  have g1 := (hb0.bel.cell (p := ⟨b1, _, none⟩) hb1).trans f1
  have hb1' : b1 < (w.alloc (.cells #[.slice none 0 0, .slice none 0 0] 27)).heap.size := by simp; omega
  rw [Nat.add_zero] at g0
  have hi0 : (0 : Int) < n := by omega
  have hi1 : (1 : Int) < n := by omega
  have HB := Lib.hid hb0
  have HC := Lib.hid hc1
  have HK := Lib.hid hkk
  clear hb0 f0 f1 hc1 hkk
  go_upto_region 3 with fail
  generalize (w.alloc (.cells #[.slice none 0 0, .slice none 0 0] 27)) = W1 at HB g0 g1 hb1' ⊢
  go_quiet (fail)
  have HB := Lib.hid (HB.out.drewN nq)
  have hB1 : b1 < (W1.drewN nq).heap.size := hb1'
  generalize W1.drewN nq = W2 at HB hB1 ⊢
  have hge : gerr bs = if cnt bs = 0 ∨ 4096 < cnt bs then 3 else if n < siz (cnt bs) then 10 else if Right (cnt bs) (cnt bs) (getTs bs (cnt bs)) ∧ Clean bs (cnt bs) then 0 else 3 := by
    unfold gerr
    rw [HH.out.2.2, if_neg n1]
  have hbox0 := cell_of_row W2 w.heap.size 0 _ _ (0, 0) HB.out.box
  have hbox1 := cell_of_row W2 w.heap.size 1 _ _ (0, 0) HB.out.box
  simp only [List.getElem?_toArray, List.getElem?_cons_zero, List.getElem?_cons_succ] at hbox0 hbox1
  have hbf : ∀ o, W2.frozen? ⟨w.heap.size, o, none⟩ = false := fun o => by simp [World.frozen?, HB.out.box]
  have hset : Below w.heap.size w ((W2.setCell ⟨w.heap.size, 0, none⟩ (.slice none 0 0)).setCell ⟨w.heap.size, 1, none⟩ (.slice none 0 0)) := (HB.out.bel.setCell (Nat.le_refl _) _).setCell (Nat.le_refl _) _
  have HS := Lib.hid hset
  have HG := Lib.hid hge
  clear hge hset g0 g1 hb1'
  have HP := Lib.hid (show ∀ (w' : World) (e : Ending), (gerr bs ≠ 0 ∧ e = .returned (.tuple #[.agg #[.slice none 0 0, .slice none 0 0], .int .i64 0, .int .i64 (gerr bs : Nat)]) ∧ Below w.heap.size w w') → RGetPost bs w e w' from fun _ _ h => .inl h)
  have hkv : (p0 : Int) * 256 + p1 = (cnt bs : Nat) := by rw [HK.out]; omega
  rw [hkv]
  clear hkv HK
  generalize hk : cnt bs = k at HG ⊢
  have HK2 := Lib.hid hk
  clear hk
  by_cases hbad : k = 0 ∨ 4096 < k
  · rw [if_pos hbad] at HG
    have hkbad : ¬ (k : Int) < 1 → (4096 : Int) < k := fun h => by omega
    by_cases k0 : (k : Int) < 1
    · clear hkbad
      go_wp2
      refine bodyPost_ret (v := .tuple #[.agg #[.slice none 0 0, .slice none 0 0], .int .i64 0, .int .i64 3]) ?_ rfl (HP.out _ _ ⟨by rw [HG.out]; decide, by rw [HG.out]; rfl, HS.out⟩)
      simp [results, Try.results15, go_sem, *]
    · have k1 := hkbad k0
      clear hkbad
      go_wp2
      refine bodyPost_ret (v := .tuple #[.agg #[.slice none 0 0, .slice none 0 0], .int .i64 0, .int .i64 3]) ?_ rfl (HP.out _ _ ⟨by rw [HG.out]; decide, by rw [HG.out]; rfl, HS.out⟩)
      simp [results, Try.results15, go_sem, *]
  rw [if_neg hbad] at HG
  have k1 : 1 ≤ k := by omega
  have k2 : k ≤ 4096 := by omega
  have hsl := siz_le k k2
  clear hbad
  have k0 : ¬ (k : Int) < 1 := by omega
  have k3 : ¬ (4096 : Int) < k := by omega
  go_upto_if 36 with fail
  go_cut [6] (fun v wx => v = .int .i64 (wid k : Nat) ∧ W2 = wx)
  case first =>
    rcases wid_cases k with ⟨h, e⟩ | ⟨h, e⟩
    · have h1 : (256 : Int) < k := by omega
      go_wp2_with fail
      go_meet
      exact ⟨by rw [e]; rfl, rfl⟩
    · have h1 : ¬ (256 : Int) < k := by omega
      go_wp2_with fail
      go_meet
      exact ⟨by rw [e]; rfl, rfl⟩
  case rest =>
  obtain ⟨rfl, rfl⟩ := hcut
  have hm : IntKind.i64.wrap ((wid k : Nat) * (k : Int)) = ((k * wid k : Nat) : Int) := by
    rw [IntWalk.i64_in _ (by rcases wid_cases k with ⟨_, e⟩ | ⟨_, e⟩ <;> rw [e] <;> omega), Int.mul_comm]
    simp
  have hkw : k * wid k ≤ 10000 := by rcases wid_cases k with ⟨_, e⟩ | ⟨_, e⟩ <;> rw [e] <;> omega
  have hsz : siz k = 2 + k * wid k + (k + 7) / 8 := rfl
  have HSZ := Lib.hid hsz
  have hall : (2 : Int) + (k * wid k : Nat) + ((k : Int) + 7) / 8 = (siz k : Nat) := by rw [hsz]; omega
  clear hsz
  generalize hsk : siz k = sz at hall hsl HG HSZ ⊢
  have HSK := Lib.hid hsk
  clear hsk
  have htm : ∀ t : Nat, t < k → IntKind.i64.wrap ((wid k : Nat) * (t : Int)) = ((t * wid k : Nat) : Int) ∧ t * wid k + wid k ≤ k * wid k := fun t ht => by
    refine ⟨?_, by rw [← Nat.succ_mul]; exact Nat.mul_le_mul_right _ ht⟩
    rw [IntWalk.i64_in _ (by rcases wid_cases k with ⟨_, e⟩ | ⟨_, e⟩ <;> rw [e] <;> omega), Int.mul_comm]
    simp
  have hgt : ∀ t : Nat, (wid k = 2 ∧ getT bs k t = bs.getD (2 + t * wid k) 0 * 256 + bs.getD (2 + t * wid k + 1) 0) ∨ (wid k = 1 ∧ getT bs k t = bs.getD (2 + t * wid k) 0) := fun t => by
    unfold getT
    rcases wid_cases k with ⟨_, e⟩ | ⟨_, e⟩
    · left
      refine ⟨e, ?_⟩
      rw [e]
      show (part bs k t 0 * 256 + bs.getD (2 + t * wid k + 0) 0) * 256 + bs.getD (2 + t * wid k + 1) 0 = _
      rw [e]
      simp [part]
    · right
      refine ⟨e, ?_⟩
      rw [e]
      show part bs k t 0 * 256 + bs.getD (2 + t * wid k + 0) 0 = _
      rw [e]
      simp [part]
  have hgh : ∀ t : Nat, getH bs k t = decide (bs.getD (2 + k * wid k + t / 8) 0 / 2 ^ (t % 8) % 2 = 1) := fun _ => rfl
  have HTM := Lib.hid htm
  have HGT := Lib.hid hgt
  have HGH := Lib.hid hgh
  clear htm hgt hgh
  generalize k * wid k = kw at hm hkw hall HSZ HTM HGH ⊢
  generalize wid k = wk at hm HTM HGT ⊢
  by_cases n2 : n < sz
  · rw [if_pos n2] at HG
    have n3 : (n : Int) < sz := by omega
    go_wp2
    refine bodyPost_ret (v := .tuple #[.agg #[.slice none 0 0, .slice none 0 0], .int .i64 0, .int .i64 10]) ?_ rfl (HP.out _ _ ⟨by rw [HG.out]; decide, by rw [HG.out]; rfl, HS.out⟩)
    simp [results, Try.results15, go_sem, *]
  rw [if_neg n2] at HG
  have n3 : ¬ (n : Int) < sz := by omega
  have h2 : Two w.heap.size w (W2.alloc (.cells #[.slice none 0 0, .slice none 0 0] 27)) W2.heap.size (.slice none 0 0) (.slice none 0 0) (tsv bs k 0) (hsv bs k 0) := by
    have hlt := (Array.getElem?_eq_some_iff.1 HB.out.box).1
    exact ⟨at_old HB.out.box hlt, hlt, at_alloc rfl, World.ownsRow_nil _ _ _ _, World.ownsRow_nil _ _ _ _, HB.out.bel.alloc (by omega) _⟩
  have H2 := Lib.hid h2
  clear h2 hbox0 hbox1 hbf HS
  go_wp2_with fail
  generalize W2.alloc (.cells #[.slice none 0 0, .slice none 0 0] 27) = W3 at H2 ⊢
  generalize W2.heap.size = x at H2 ⊢
  clear HB hB1
  go_loopw [9] (fun i wr => ∃ (t : Nat) (v1 v2 : Value), t ≤ k ∧ i = .int .i64 t ∧ Two w.heap.size w wr x v1 v2 (tsv bs k t) (hsv bs k t)) (fun i _ => k - (intOf i).toNat)
  case atStart => exact ⟨0, _, _, by omega, rfl, H2.out⟩
  case round =>
    obtain ⟨t, v1, v2, ht, rfl, htw⟩ := hrel
    obtain ⟨A1, c1, rfl, _, _⟩ := SlAt.of_own htw.o1
    obtain ⟨A2, c2, rfl, _, _⟩ := SlAt.of_own htw.o2
    rw [tsv_length, hsv_length] at htw
    have HT := Lib.hid htw
    have x0 := cell_of_row wr x 0 _ _ (0, 0) htw.bx
    have x1 := cell_of_row wr x 1 _ _ (0, 0) htw.bx
    simp only [List.getElem?_toArray, List.getElem?_cons_zero, List.getElem?_cons_succ] at x0 x1
    have hxl := htw.ltx
    by_cases hlt : t < k
    · obtain ⟨htm, htb⟩ := HTM.out t hlt
      have hgt := HGT.out t
      have HGJ := Lib.hid (HGH.out t)
      generalize t * wk = tw at htm htb hgt
      have hwk : 1 ≤ wk ∧ wk ≤ 2 := by rcases hgt with h | h <;> omega
      have hin : 2 + tw < n ∧ 2 + tw + wk ≤ n ∧ 2 + kw + t / 8 < n := by have := HSZ.out; omega
      have f2 : wr.cell? ⟨b1, o1 + (2 + tw), none⟩ = some (.int .u8 (bs.getD (2 + tw) 0 : Nat)) := (htw.bel.cell (p := ⟨b1, _, none⟩) hb1).trans (HC.out _ hin.1)
      have HF3 := Lib.hid (show ∀ w', Below w.heap.size w w' → w'.cell? ⟨b1, o1 + (2 + kw + t / 8), none⟩ = some (.int .u8 (bs.getD (2 + kw + t / 8) 0 : Nat)) from fun w' hb => (hb.cell (p := ⟨b1, _, none⟩) hb1).trans (HC.out _ hin.2.2))
      have hy2 := HH.out.2.1 (2 + tw)
      have hy3 := HH.out.2.1 (2 + tw + 1)
      have hy4 := HH.out.2.1 (2 + kw + t / 8)
      have hf4 : wk = 2 → wr.cell? ⟨b1, o1 + (2 + tw + 1), none⟩ = some (.int .u8 (bs.getD (2 + tw + 1) 0 : Nat)) := fun h => (htw.bel.cell (p := ⟨b1, _, none⟩) hb1).trans (HC.out _ (by omega))
      have hs1 : b1 < wr.heap.size := by have := htw.ltx; have := htw.lx; omega
      generalize bs.getD (2 + tw) 0 = y2 at f2 hy2 hgt
      generalize bs.getD (2 + tw + 1) 0 = y3 at hf4 hy3 hgt
      generalize bs.getD (2 + kw + t / 8) 0 = y4 at hy4 HF3 HGJ
      have hts := tsv_succ bs k t
      have hhs := hsv_succ bs k t
      have HTS := Lib.hid (And.intro hts hhs)
      generalize getT bs k t = gt at hgt HTS
      generalize getH bs k t = gh at HGJ HTS
      have ht0 : (0 : Int) ≤ t := by omega
      have ht1 : (t : Int) < k := by omega
      have hi2 : (2 : Int) + tw < n := by omega
      have hi4 : (2 : Int) + kw + (t : Int) / 8 < n := by omega
      have hyi2 : (y2 : Int) < 256 := by omega
      have hyi4 : (y4 : Int) < 256 := by omega
      have HGTt := Lib.hid (And.intro hgt (And.intro hf4 hin))
      clear hgt hf4 hts hhs htw hin
      go_upto_if 65 with fail
      go_cut [11] (fun v wx => v = .int .i64 (gt : Nat) ∧ wr = wx)
      case first =>
        rcases HGTt.out.1 with ⟨e, h⟩ | ⟨e, h⟩
        · subst e
          have f4 := HGTt.out.2.1 rfl
          have hi3 : (2 : Int) + tw + 1 < n := by have := HGTt.out.2.2; omega
          go_wp2_with fail
          go_meet
          exact ⟨by rw [h]; simp, rfl⟩
        · subst e
          go_wp2_with fail
          go_meet
          exact ⟨by rw [h], rfl⟩
      case rest =>
      obtain ⟨rfl, rfl⟩ := hcut
      clear f2 htm
      go_wp2_with (at_builtin; refine wp_app1 rfl _ _ rfl HT.out (tsv_length _ _ _) (by omega) rfl _ _ rfl rfl ?_)
      intro g3 cap3 w5 hcel hfz hT5 hxl5
      have z0 := (hcel 0).trans x0
      have zf := hfz 0
      have H5 := Lib.hid hT5
      clear hcel hfz hT5 x0 x1
      go_upto_region 21 with fail
      have f4 := HF3.out _ H5.out.bel
      have hs5 : b1 < (w5.setCell ⟨x, 0, none⟩ (.slice (some ⟨g3, 0, none⟩) (t + 1) cap3)).heap.size := by have := H5.out.ltx; have := H5.out.lx; omega
      have hxl6 := H5.out.ltx
      generalize w5.setCell ⟨x, 0, none⟩ (.slice (some ⟨g3, 0, none⟩) (t + 1) cap3) = W5 at H5 f4 hs5 hxl6 ⊢
      clear z0 zf hxl5
      go_wp2_with fail
      clear f4
      go_loopw [12, 13] (fun h j wt => ∃ r : Nat, r ≤ t % 8 ∧ h = .int .i64 (y4 / 2 ^ r : Nat) ∧ j = .int .i64 r ∧ W5 = wt) (fun _ j _ => t % 8 - (intOf j).toNat)
      case atStart => exact ⟨0, by omega, by simp, rfl, rfl⟩
      case round =>
        obtain ⟨r, hr, rfl, rfl, rfl⟩ := hrel
        have hdv : y4 / 2 ^ (r + 1) = y4 / 2 ^ r / 2 := by rw [Nat.pow_succ, Nat.div_div_eq_div_mul]
        have hle : y4 / 2 ^ r ≤ y4 := Nat.div_le_self _ _
        have HDV := Lib.hid hdv
        clear hdv
        rcases Nat.lt_or_ge r (t % 8) with hr8 | hr8
        · generalize y4 / 2 ^ r = q at hle HDV ⊢
          have hr9 : (r : Int) < (t : Int) % 8 := by omega
          go_wp2
          go_roundw
          case rel => exact ⟨r + 1, by omega, by rw [HDV.out]; simp, by go_num, by first | rfl | trivial⟩
          case measure => simp [intOf]; omega
        · have er : r = t % 8 := by omega
          have hgj := HGJ.out
          rw [← er] at hgj
          have hr9 : ¬ (r : Int) < (t : Int) % 8 := by omega
          generalize y4 / 2 ^ r = q at hle hgj ⊢
          have hq : ((q : Int) % 2 == 1) = gh := by
            rw [hgj, Bool.eq_iff_iff]
            simp only [beq_iff_eq, decide_eq_true_eq]
            omega
          have HQ := Lib.hid hq
          have x1 := cell_of_row W5 x 1 _ _ (0, 0) H5.out.bx
          simp only [List.getElem?_toArray, List.getElem?_cons_zero, List.getElem?_cons_succ] at x1
          clear er hr8 hr hq hgj
          go_wp2_with (at_builtin; refine wp_app2 rfl _ _ rfl H5.out (hsv_length _ _ _) (by omega) rfl _ gh (by rw [← HQ.out]) rfl ?_)
          intro g6 cap6 w6 hcel hfz hT6 hxl6
          have z1 := (hcel 1).trans x1
          have zf := hfz 1
          have H6 := hT6
          rw [← HTS.out.1, ← HTS.out.2] at H6
          have H6 := Lib.hid H6
          clear hcel hfz hT6 x1
          go_wp2
          go_roundw
          case rel => exact ⟨t + 1, _, _, by omega, by go_num, H6.out⟩
          case measure => simp [intOf]; omega
    · obtain rfl : t = k := by omega
      have hft := htw.fun_
      have HRA := Lib.hid (fun (V : World) (hV : Below wr.heap.size wr V) => rright_any t t (getTs bs t) (getHs bs t) A1 A2 c1 c2 V ((HT.out.below hV).fun_))
      have hpb := pack_back bs HH.out.2.1 t HK2.out (by rw [HSK.out, HH.out.2.2]; omega)
      rw [HSK.out] at hpb
      have hlt' : ¬ (t : Int) < t := by omega
      have hsc : (sz : Int) ≤ c := by omega
      have HCV := Lib.hid (show ∀ w', Below w.heap.size w w' → (convert 22 9 (.slice (some ⟨b1, o1, none⟩) sz c)).run Try.prog w' = .ok (.string (str (bs.take sz))) w' from fun w' hb => conv_bytes w' b1 o1 sz c (bs.take sz) (by rw [List.length_take, HH.out.2.2]; omega) (fun i hi => by
        rw [(hb.cell (p := ⟨b1, _, none⟩) hb1).trans (HC.out i (by omega))]
        unfold yv
        congr 3
        simp only [List.getD, List.getElem?_take_of_lt hi]))
      clear htw hft
      by_cases hrt : Right t t (getTs bs t)
      case neg =>
        have hge : gerr bs = 3 := by rw [HG.out, if_neg (fun h => hrt h.1)]
        have HGE := Lib.hid hge
        rw [decide_eq_false hrt] at HRA
        clear hge hrt
        go_upto_region 27 with fail
        refine wp_region_grow 13 (by kernel_rfl) (by kernel_rfl) ?_
        simp only [List.take_succ_cons, List.take_zero, List.drop_succ_cons, List.drop_zero, List.take_nil, List.drop_nil]
        ((refine wpGrow_val' rfl rfl ?_; apply Exists.intro; refine ⟨fun w1 hw1 => ?_, ?_⟩); (have hc1 := hw1.cell; go_simp; exact growUpon_ok rfl); (refine wpGrow_at (by (simp only [Act.put, List.setIfInBounds_toArray, List.set_cons_succ, List.set_cons_zero]) <;> exact rfl) ?_))
        (refine wpGrow_val' rfl rfl ?_; apply Exists.intro; refine ⟨fun w1 hw1 => ?_, ?_⟩)
        · go_simp
          exact growUpon_call (HRA.out _ hw1.below)
        (refine wpGrow_at (by (simp only [Act.put, List.setIfInBounds_toArray, List.set_cons_succ, List.set_cons_zero]) <;> exact rfl) ?_)
        iterate 2 ((refine wpGrow_val' rfl rfl ?_; apply Exists.intro; refine ⟨fun w1 hw1 => ?_, ?_⟩); (have hc1 := hw1.cell; go_simp; exact growUpon_ok rfl); (refine wpGrow_at (by (simp only [Act.put, List.setIfInBounds_toArray, List.set_cons_succ, List.set_cons_zero]) <;> exact rfl) ?_))
        iterate 8 (refine wpGrow_pass rfl ?_; (refine wpGrow_at (by (simp only [Act.put, List.setIfInBounds_toArray, List.set_cons_succ, List.set_cons_zero]) <;> exact rfl) ?_))
        ((refine wpGrow_val' rfl rfl ?_; apply Exists.intro; refine ⟨fun w1 hw1 => ?_, ?_⟩); (have hc1 := hw1.cell; go_simp; exact growUpon_ok rfl); (refine wpGrow_at (by (simp only [Act.put, List.setIfInBounds_toArray, List.set_cons_succ, List.set_cons_zero]) <;> exact rfl) ?_))
        refine wpGrow_nil ?_
        intro w7 hD
        have H7 := Lib.hid (HT.out.below hD.below)
        clear hD
        have z0 := cell_of_row w7 w.heap.size 0 _ _ (0, 0) H7.out.box
        have z1 := cell_of_row w7 w.heap.size 1 _ _ (0, 0) H7.out.box
        simp only [List.getElem?_toArray, List.getElem?_cons_zero, List.getElem?_cons_succ] at z0 z1
        have zf : ∀ o, w7.frozen? ⟨w.heap.size, o, none⟩ = false := fun o => by simp [World.frozen?, H7.out.box]
        have HSB := Lib.hid (show Below w.heap.size w ((w7.setCell ⟨w.heap.size, 0, none⟩ (.slice none 0 0)).setCell ⟨w.heap.size, 1, none⟩ (.slice none 0 0)) from (H7.out.bel.setCell (Nat.le_refl _) _).setCell (Nat.le_refl _) _)
        clear x0 x1
        go_wp2_with fail
        refine bodyPost_ret (v := .tuple #[.agg #[.slice none 0 0, .slice none 0 0], .int .i64 0, .int .i64 3]) ?_ rfl (HP.out _ _ ⟨by rw [HGE.out]; decide, by rw [HGE.out]; rfl, HSB.out⟩)
        simp [results, Try.results15, go_sem, *]
      rw [decide_eq_true hrt] at HRA
      have HRT := Lib.hid hrt
      have HPU := Lib.hid (fun (V : World) (hV : Below wr.heap.size wr V) => rput_any t (getTs bs t) (getHs bs t) A1 A2 c1 c2 V ((HT.out.below hV).fun_) HRT.out)
      rw [HSK.out] at HPU
      by_cases hcl : Clean bs t
      · rw [hpb.2 hcl] at HPU
        have hge : gerr bs = 0 := by rw [HG.out, if_pos ⟨hrt, hcl⟩]
        have HGE := Lib.hid hge
        clear hge hrt hcl hpb
        go_upto_region 27 with fail
        go_region_with (first
          | (go_at_call 40; refine (HRA.out _ (Below.drew (Below.refl _ _))).mono ?_; rintro e7 w7 ⟨rfl, hb7⟩; have HB7 := Lib.hid (show Below wr.heap.size wr w7 from (Below.drew (Below.refl _ _)).trans hb7); have H7 := Lib.hid (HT.out.below HB7.out); have x0 := cell_of_row w7 x 0 _ _ (0, 0) H7.out.bx; have x1 := cell_of_row w7 x 1 _ _ (0, 0) H7.out.bx; simp only [List.getElem?_toArray, List.getElem?_cons_zero, List.getElem?_cons_succ] at x0 x1; have hxl := H7.out.ltx; have hcv := HCV.out w7 H7.out.bel; clear hb7)
          | (go_at_call 42; refine (HPU.out _ (by first | exact HB7.out | (exact HB7.out.drew))).mono ?_; rintro e8 w8 ⟨g8, cp8, rfl, hown8, hb8⟩; have H8 := Lib.hid (H7.out.below hb8); have hcv8 := HCV.out w8 H8.out.bel; have hcw8 := conv_own hown8; have x0 := cell_of_row w8 x 0 _ _ (0, 0) H8.out.bx; have x1 := cell_of_row w8 x 1 _ _ (0, 0) H8.out.bx; have z0 := cell_of_row w8 w.heap.size 0 _ _ (0, 0) H8.out.box; have z1 := cell_of_row w8 w.heap.size 1 _ _ (0, 0) H8.out.box; simp only [List.getElem?_toArray, List.getElem?_cons_zero, List.getElem?_cons_succ] at x0 x1 z0 z1; have zf : (∀ o, w8.frozen? ⟨w.heap.size, o, none⟩ = false) := (fun o => by simp [World.frozen?, H8.out.box]); have hxl := H8.out.ltx; clear hown8 hb8))
        all_goals
          go_wp2_with fail
          refine bodyPost_ret (v := .tuple #[.agg #[.slice A1 t c1, .slice A2 t c2], .int .i64 sz, .int .i64 0]) ?_ rfl (.inr ⟨HGE.out, A1, A2, c1, c2, by rw [HK2.out, HSK.out], by rw [HK2.out]; exact (H8.out.out _ _).1, (H8.out.out _ _).2⟩)
          simp [results, Try.results15, go_sem, *]
      · have hge : gerr bs = 3 := by rw [HG.out, if_neg (fun h => hcl h.2)]
        have HGE := Lib.hid hge
        have hby := pack_byte t (getTs bs t) (getHs bs t) (by omega) hrt.2.2.2
        have hne : str (pack t (getTs bs t) (getHs bs t)) ≠ str (bs.take sz) := fun h => hcl (hpb.1 (str_inj hby (fun y hy => by
          have := HH.out.2.1
          obtain ⟨i, hi, rfl⟩ := List.mem_iff_getElem.1 (List.mem_of_mem_take hy)
          have h2 := this i
          simpa [List.getD, hi] using h2) h))
        have hnl : ¬ (str (pack t (getTs bs t) (getHs bs t))).toList = (str (bs.take sz)).toList := fun h => hne (by
          have h3 : (str (pack t (getTs bs t) (getHs bs t))).data.toList = (str (bs.take sz)).data.toList := by simpa [ByteArray.toList_eq] using h
          exact ByteArray.ext (Array.ext' h3))
        have hnb : ((str (pack t (getTs bs t) (getHs bs t))).toList == (str (bs.take sz)).toList) = false := by simpa using hnl
        have hnb2 : ((str (pack t (getTs bs t) (getHs bs t))).toList != (str (bs.take sz)).toList) = true := by simpa using hnl
        clear hge hrt hcl hpb hne hnl hby
        go_upto_region 27 with fail
        go_region_with (first
          | (go_at_call 40; refine (HRA.out _ (Below.drew (Below.refl _ _))).mono ?_; rintro e7 w7 ⟨rfl, hb7⟩; have HB7 := Lib.hid (show Below wr.heap.size wr w7 from (Below.drew (Below.refl _ _)).trans hb7); have H7 := Lib.hid (HT.out.below HB7.out); have x0 := cell_of_row w7 x 0 _ _ (0, 0) H7.out.bx; have x1 := cell_of_row w7 x 1 _ _ (0, 0) H7.out.bx; simp only [List.getElem?_toArray, List.getElem?_cons_zero, List.getElem?_cons_succ] at x0 x1; have hxl := H7.out.ltx; have hcv := HCV.out w7 H7.out.bel; clear hb7)
          | (go_at_call 42; refine (HPU.out _ (by first | exact HB7.out | (exact HB7.out.drew))).mono ?_; rintro e8 w8 ⟨g8, cp8, rfl, hown8, hb8⟩; have H8 := Lib.hid (H7.out.below hb8); have hcv8 := HCV.out w8 H8.out.bel; have hcw8 := conv_own hown8; have x0 := cell_of_row w8 x 0 _ _ (0, 0) H8.out.bx; have x1 := cell_of_row w8 x 1 _ _ (0, 0) H8.out.bx; have z0 := cell_of_row w8 w.heap.size 0 _ _ (0, 0) H8.out.box; have z1 := cell_of_row w8 w.heap.size 1 _ _ (0, 0) H8.out.box; simp only [List.getElem?_toArray, List.getElem?_cons_zero, List.getElem?_cons_succ] at x0 x1 z0 z1; have zf : (∀ o, w8.frozen? ⟨w.heap.size, o, none⟩ = false) := (fun o => by simp [World.frozen?, H8.out.box]); have hxl := H8.out.ltx; clear hown8 hb8))
        all_goals
          go_wp2_with fail
          refine bodyPost_ret (v := .tuple #[.agg #[.slice none 0 0, .slice none 0 0], .int .i64 0, .int .i64 3]) ?_ rfl (HP.out _ _ ⟨by rw [HGE.out]; decide, by rw [HGE.out]; rfl, (H8.out.bel.setCell (Nat.le_refl _) _).setCell (Nat.le_refl _) _⟩)
          simp [results, Try.results15, go_sem, *]
end Go.Proofs.Ytghghioidllgiaa.Pk
