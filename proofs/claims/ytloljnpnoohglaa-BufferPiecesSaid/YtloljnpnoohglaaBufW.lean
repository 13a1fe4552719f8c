/- The walks of the buffer's example, of BufferNone, BufferAdds. -/
import Derived.Test.YtloljnpnoohglaaBufL
namespace Go.Proofs.Ytloljnpnoohglaa.Buf
set_option linter.unusedSimpArgs false
set_option linter.unusedVariables false
open Go Go.RowKit Go.Lib
open Go.Proofs.Ytloljnpnoohglaa.Vec (SlI iv)
attribute [local go_sem] lt_add1 lt_self1 size_ne size_ne' size_ne1 size_ne1'
attribute [local irreducible] wpGrow

theorem foot_ge {B g : Nat} {rb rf : Option Nat} (hg : B ≤ g) (hb : ∀ b, rb = some b → B ≤ b) (hf : ∀ b, rf = some b → B ≤ b) : ∀ b, foot g rb rf b → B ≤ b := fun b h => by
  rcases h with rfl | e | e
  · exact hg
  · exact hb b e
  · exact hf b e

/-- a buffer that the law made: all that it has lies behind B. -/
structure Own (B : Nat) (a w : World) (g : Nat) (rb rf : Option Nat) (S : ByteArray) : Prop where
  buf : BufS w g rb rf S
  ge : ∀ b, foot g rb rf b → B ≤ b
  bel : Below B a w
  le : B ≤ w.heap.size
section
variable {B g : Nat} {a w w' : World} {rb rf rb' rf' : Option Nat} {S S' : ByteArray}
theorem Own.below (h : Own B a w g rb rf S) (hb : Below w.heap.size w w') : Own B a w' g rb rf S := ⟨Buf.below h.buf hb, h.ge, h.bel.trans (hb.mono h.le), Nat.le_trans h.le hb.size⟩
theorem Own.step (h : Own B a w g rb rf S) (hb : BufS w' g rb' rf' S') (hf : Fr w (foot g rb rf) w' (foot g rb' rf')) : Own B a w' g rb' rf' S' := ⟨hb, hf.ge h.ge h.le, hf.below h.bel h.ge h.le, Nat.le_trans h.le hf.size⟩
theorem Own.new (h : BufS w' w.heap.size none none S) (hb : Below B a w) (hle : B ≤ w.heap.size) (hb2 : Below w.heap.size w w') : Own B a w' w.heap.size none none S :=
  ⟨h, foot_ge hle (fun _ h => by cases h) (fun _ h => by cases h), hb.trans (hb2.mono hle), Nat.le_trans hle hb2.size⟩
end

set_option maxRecDepth 100000 in
set_option maxHeartbeats 1000000 in
theorem awake_any (w : World) : Calls Try.prog 40 #[] w fun e w' => e = .returned (.bool true) ∧ Below w.heap.size w w' := by
  go_enter Try.func40, Try.ntmps40
  go_wp2_with fail
  refine (new_any _).mono ?_
  rintro e w1 ⟨rfl, hb, hbel, hz⟩
  have H1 := Lib.hid (Own.new hb (Below.refl _ w) (Nat.le_refl _) hbel)
  generalize hgg : w.heap.size = g at H1 ⊢
  clear hb hbel hz
  go_wp2_with fail
  refine (add_any _ _ _ _ ⟨#[97, 98]⟩ _ H1.out.buf (by decide)).mono ?_
  rintro e w2 ⟨rb2, rf2, rfl, hb2, hf2⟩
  have H2 := Lib.hid (H1.out.step hb2 hf2)
  clear hb2 hf2 H1
  go_wp2_with fail
  refine (add_any _ _ _ _ ⟨#[99, 10]⟩ _ H2.out.buf (by decide)).mono ?_
  rintro e w3 ⟨rb3, rf3, rfl, hb3, hf3⟩
  have H3 := Lib.hid (H2.out.step hb3 hf3)
  clear hb3 hf3 H2
  have eS : (⟨#[]⟩ : ByteArray) ++ ⟨#[97, 98]⟩ ++ ⟨#[99, 10]⟩ = ⟨#[97, 98, 99, 10]⟩ := by decide
  rw [eS] at H3
  have z1 : (⟨#[]⟩ : ByteArray).size = 0 := rfl
  have z2 : ((⟨#[]⟩ : ByteArray) ++ ⟨#[97, 98]⟩).size = 2 := by decide
  go_wp2_with fail
  refine (feed_any _ _ _ _ 0 4 0 _ H3.out.buf (by decide)).mono ?_
  rintro e w4 ⟨rfl, hb4⟩
  have H4 := Lib.hid (H3.out.below hb4)
  clear hb4 H3
  have v1 : feedV ⟨#[97, 98, 99, 10]⟩ 0 4 0 = 3 := by decide
  have v2 : feedB ⟨#[97, 98, 99, 10]⟩ 0 4 0 = true := by decide
  rw [v1, v2]
  go_wp2_with fail
  refine (slice_any _ _ _ _ _ 1 2 _ H4.out.buf (by decide)).mono ?_
  rintro e w5 ⟨rfl, rfl⟩
  have v3 : sliceV ⟨#[97, 98, 99, 10]⟩ 1 2 = ⟨#[98, 99]⟩ := by decide
  have v4 : thereB (⟨#[97, 98, 99, 10]⟩ : ByteArray).size 1 2 = true := by decide
  have v5 : feedsV ⟨#[97, 98, 99, 10]⟩ 0 4 = 1 := by decide
  rw [v3, v4]
  have HL := Lib.hid (len_any _ _ _ _ _ _ H4.out.buf)
  have HF := Lib.hid (feeds_any _ _ _ _ 0 4 _ H4.out.buf (by decide))
  rw [v5] at HF
  clear v1 v2 v3 v4 v5
  go_wp2_with (first | (go_at_call 45; refine HL.out.mono ?_; rintro e w5 ⟨rfl, rfl⟩) | (go_at_call 49; refine HF.out.mono ?_; rintro e w6 ⟨rfl, hb6⟩))
  go_ret
  refine ⟨rfl, ?_⟩
  rw [hgg]
  exact (H4.out.below (by assumption)).bel

set_option maxRecDepth 100000 in
set_option maxHeartbeats 1000000 in
theorem none_walk (s : ByteArray) (a b : Int) (w : World) : Calls Try.prog 12 #[.string s, .agg #[.int .i64 a, .int .i64 b]] w fun e w' => e = .returned (.bool true) ∧ Below w.heap.size w w' := by
  go_enter Try.func12, Try.ntmps12
  go_wp2_with fail
  have hbW : Below w.heap.size w (w.alloc (.cells #[.int .i64 a, .int .i64 b] 81)) := by (repeat (first | exact Below.refl _ _ | assumption | (refine Below.setCell ?_ (by first | (simp; done) | (simp; omega) | omega) _) | (refine Below.alloc ?_ (by first | (simp; done) | (simp; omega) | omega) _) | (refine Below.drew ?_) | (refine Below.drewN ?_ _) | (refine Below.trans ?_ (Below.mono (by assumption) (by first | (simp; done) | (simp; omega) | omega)))))
  have hsW : w.heap.size < (w.alloc (.cells #[.int .i64 a, .int .i64 b] 81)).heap.size := by simp
  have q0 : (w.alloc (.cells #[.int .i64 a, .int .i64 b] 81)).cell? ⟨w.heap.size, 0, none⟩ = some (.int .i64 a) := World.cell?_alloc_new w _ _ 0
  have q1 : (w.alloc (.cells #[.int .i64 a, .int .i64 b] 81)).cell? ⟨w.heap.size, 1, none⟩ = some (.int .i64 b) := World.cell?_alloc_new w _ _ 1
  generalize w.alloc (.cells #[.int .i64 a, .int .i64 b] 81) = W at hbW hsW q0 q1 ⊢
  refine (awake_any _).mono ?_
  rintro e w0 ⟨rfl, hb0⟩
  have f0 := (hb0.cell (p := ⟨w.heap.size, 0, none⟩) hsW).trans q0
  have f1 := (hb0.cell (p := ⟨w.heap.size, 1, none⟩) hsW).trans q1
  have HB := Lib.hid (hbW.trans (hb0.mono (by omega)))
  clear hbW q0 q1 hb0
  go_wp2_with fail
  refine (at_nil _ _).mono ?_
  rintro e w1 ⟨rfl, rfl⟩
  go_wp2_with fail
  refine (slice_nil _ _ _).mono ?_
  rintro e w1 ⟨rfl, rfl⟩
  go_wp2_with fail
  refine (feed_nil _ _ _ _).mono ?_
  rintro e w1 ⟨rfl, rfl⟩
  go_wp2_with fail
  refine (add_nil _ _).mono ?_
  rintro e w1 ⟨rfl, rfl⟩
  go_wp2_with (first | (go_at_call 45; refine (len_nil _).mono ?_; rintro e w5 ⟨rfl, rfl⟩) | (go_at_call 49; refine (feeds_nil _ _ _).mono ?_; rintro e w6 ⟨rfl, rfl⟩))
  go_ret
  exact ⟨rfl, HB.out⟩

theorem append_size (a b : ByteArray) : (a ++ b).size = a.size + b.size := ByteArray.size_append
/-- all texts, one behind the other. -/
def cat (l : List ByteArray) : ByteArray := l.foldl (· ++ ·) ⟨#[]⟩
theorem cat_snoc (l : List ByteArray) (s : ByteArray) : cat (l ++ [s]) = cat l ++ s := by simp [cat, List.foldl_append]
theorem cat_take (l : List ByteArray) (k : Nat) (hk : k < l.length) : cat (l.take (k + 1)) = cat (l.take k) ++ l.getD k ⟨#[]⟩ := by
  rw [List.take_add_one, List.getElem?_eq_getElem hk, Option.toList_some, cat_snoc]
  simp [List.getD, hk]
theorem few_size (l : List ByteArray) (k : Nat) (hk : k < (fewL l).length) : ((fewL l).getD k ⟨#[]⟩).size ≤ 60 := by
  clear hk
  unfold fewL
  rw [List.getD, List.getElem?_map]
  cases (l.take 20)[k]? with
  | none => decide
  | some x => simp [cut60, ByteArray.size_extract]; omega
theorem few_len (l : List ByteArray) : (fewL l).length ≤ 20 := by simp [fewL]; omega
theorem whole (S : ByteArray) : thereB S.size 0 S.size = true ∧ sliceV S 0 S.size = S := by
  have h : thereB S.size 0 S.size = true := by simp [thereB]
  refine ⟨h, ?_⟩
  unfold sliceV
  rw [if_pos h]
  refine bytes_ext ?_
  simp [ByteArray.data_extract]
theorem at_in (S : ByteArray) (k : Nat) (hk : k < S.size) : atV S k = (S[k].toNat : Int) ∧ atB S k = true := by
  have h' : k < S.data.toList.length := hk
  refine ⟨?_, by simp [atB]; omega⟩
  unfold atV
  rw [if_pos (by omega)]
  have e : S.data.toList.getD (k : Int).toNat 0 = S[k] := by
    simp only [Int.toNat_natCast, List.getD, List.getElem?_eq_getElem h', Option.getD_some]
    rfl
  rw [e]

set_option maxRecDepth 100000 in
set_option maxHeartbeats 2000000 in
theorem adds_walk (l0 : List ByteArray) (A0 : Option Addr) (cap0 : Nat) (w : World) (hs : SlI w w.heap.size l0.length A0 (sv l0)) : Calls Try.prog 10 #[.slice A0 l0.length cap0] w fun e w' => e = .returned (.bool true) ∧ Below w.heap.size w w' := by
  have HS := Lib.hid hs
  clear hs
  go_enter Try.func10, Try.ntmps10
  go_wp2_with fail
  refine (awake_any _).mono ?_
  rintro e w0 ⟨rfl, hb0⟩
  have HB0 := Lib.hid hb0
  clear hb0
  go_wp2_with fail
  refine (few_any l0 A0 cap0 _ (HS.out.next HB0.out)).mono ?_
  rintro e w1 ⟨Q, c, rfl, hq, hb1⟩
  have hfl := few_len l0
  have hfs := few_size l0
  have HQ := Lib.hid (And.intro hq (And.intro (HB0.out.trans (hb1.mono HB0.out.size)) hfs))
  clear hq hb1 HB0 HS hfs
  generalize fewL l0 = l at HQ hfl ⊢
  go_wp2_with fail
  refine (new_any _).mono ?_
  rintro e w2 ⟨rfl, hb, hbel, hz⟩
  have H2 := Lib.hid (Own.new hb HQ.out.2.1 HQ.out.2.1.size hbel)
  have HQ2 := Lib.hid (HQ.out.1.below hbel)
  have hBw : w1.heap.size ≤ w2.heap.size := by omega
  have hge : ∀ b, foot w1.heap.size none none b → w1.heap.size ≤ b := foot_ge (Nat.le_refl _) (fun _ h => by cases h) (fun _ h => by cases h)
  have HG2 := Lib.hid hge
  generalize hgg : w1.heap.size = g at H2 HQ2 HG2 hBw ⊢
  clear hb hbel hz hge
  go_wp2_with fail
  go_loopw [4, 5] (fun v i wr => ∃ (k : Nat) (rb rf : Option Nat), k ≤ l.length ∧ i = .int .i64 k ∧ v = .string (cat (l.take k)) ∧ (cat (l.take k)).size ≤ 60 * k ∧ Own w.heap.size w wr g rb rf (cat (l.take k)) ∧ SlI wr g l.length Q (sv l) ∧ g ≤ wr.heap.size ∧ (∀ b, foot g rb rf b → g ≤ b)) (fun _ i _ => l.length - (intOf i).toNat)
  case atStart => exact ⟨0, none, none, by omega, rfl, rfl, (by rw [List.take_zero]; decide), H2.out, HQ2.out, hBw, HG2.out⟩
  case round =>
    obtain ⟨k, rb, rf, hk, rfl, rfl, hsz, ho, hsl, hgz, hfg⟩ := hrel
    have H := Lib.hid (And.intro ho (And.intro hsl hfg))
    clear ho hsl H2 HQ2 hfg HG2
    by_cases hks : k < l.length
    · obtain ⟨b, off, rfl, hbl, hcs⟩ := H.out.2.1 (by omega)
      have f1 : wr.cell? ⟨b, off + k, none⟩ = some (.string (l.getD k ⟨#[]⟩)) := hcs k hks
      have hct := cat_take l k hks
      have hss := HQ.out.2.2 k hks
      have hk0 : (0 : Int) ≤ k := by omega
      have hk1 : (k : Int) < l.length := by omega
      have HC := Lib.hid hct
      generalize l.getD k ⟨#[]⟩ = s at f1 HC hss
      generalize hS : cat (l.take k) = S at HC H hsz
      clear hcs hct
      go_wp2_with fail
      refine (add_any _ _ _ S s _ H.out.1.buf (by omega)).mono ?_
      rintro e w4 ⟨rb4, rf4, rfl, hb4, hf4⟩
      have f1 : w4.cell? ⟨b, off + k, none⟩ = some (.string s) := (hf4.cell (by omega) (fun hf => by have := H.out.2.2 b hf; omega) _).trans f1
      have hbw4 : b < w4.heap.size := hf4.lt (by omega)
      have hgz4 : g ≤ w4.heap.size := Nat.le_trans hgz hf4.size
      have hfg4 := hf4.ge H.out.2.2 hgz
      have hsl4 : SlI w4 g l.length (some ⟨b, off, none⟩) (sv l) := fun hn => by
        obtain ⟨b', off', e, hl', hc'⟩ := H.out.2.1 hn
        exact ⟨b', off', e, hl', fun i hi => (hf4.cell (by omega) (fun hf => by have := H.out.2.2 b' hf; omega) _).trans (hc' i hi)⟩
      have hsum : (S ++ s).size = S.size + s.size := append_size S s
      have H4 := Lib.hid (And.intro (H.out.1.step hb4 hf4) (And.intro hsl4 hfg4))
      have hwh := whole (S ++ s)
      have hsi : (((S ++ s).size : Nat) : Int) = (S.size : Int) + s.size := by rw [hsum]; omega
      have hslc := slice_any g rb4 rf4 (S ++ s) _ 0 (S ++ s).size w4 H4.out.1.buf (by rw [hsum]; omega)
      rw [hwh.1, hwh.2, hsi] at hslc
      have hlen := len_any g rb4 rf4 (S ++ s) _ w4 H4.out.1.buf
      rw [hsi] at hlen
      have HSL := Lib.hid hslc
      have HL := Lib.hid hlen
      have HSS := Lib.hid hsum
      clear hb4 hf4 H hsum hsl4 hfg4 hwh hsi hslc hlen
      go_wp2_with fail
      refine HSL.out.mono ?_
      rintro e w5 ⟨rfl, rfl⟩
      go_wp2_with (go_at_call 45; refine HL.out.mono ?_; rintro e w5 ⟨rfl, rfl⟩)
      go_roundw
      case rel => exact ⟨k + 1, rb4, rf4, by omega, by go_num, by rw [HC.out], by rw [HC.out, HSS.out]; omega, by rw [HC.out]; exact H4.out.1, H4.out.2.1, hgz4, H4.out.2.2⟩
      case measure => simp [intOf]; omega
    · obtain rfl : k = l.length := by omega
      generalize hS : cat (l.take l.length) = S at H hsz
      have hS1 : S.size ≤ 1200 := by omega
      go_wp2_with fail
      go_loopw [8] (fun i w3 => ∃ j : Nat, j ≤ S.size ∧ i = .int .i64 j ∧ wr = w3) (fun i _ => S.size - (intOf i).toNat)
      case atStart => exact ⟨0, by omega, rfl, rfl⟩
      case round =>
        obtain ⟨j, hj, rfl, rfl⟩ := hrel
        by_cases hjs : j < S.size
        · have hat := at_any g rb rf S _ j _ H.out.1.buf (by omega)
          rw [(at_in S j hjs).1, (at_in S j hjs).2] at hat
          have HA := Lib.hid hat
          have hj0 : (0 : Int) ≤ j := by omega
          have hj1 : (j : Int) < S.size := by omega
          clear hat
          go_wp2_with fail
          refine HA.out.mono ?_
          rintro e w5 ⟨rfl, rfl⟩
          go_wp2
          go_roundw
          case rel => exact ⟨j + 1, by omega, by go_num, by first | rfl | trivial⟩
          case measure => simp [intOf]; omega
        · have hj1 : ¬ (j : Int) < S.size := by omega
          go_wp2
          go_ret
          exact ⟨rfl, H.out.1.bel⟩
end Go.Proofs.Ytloljnpnoohglaa.Buf
