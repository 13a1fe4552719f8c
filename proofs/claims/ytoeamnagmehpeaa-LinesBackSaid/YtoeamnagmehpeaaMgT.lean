/- Layer 24: the page's At, Place, Lines. */ -/
import Derived.Test.YtoeamnagmehpeaaMgS
import Derived.Test.YtoeamnagmehpeaaMgH
import Derived.Test.YtoeamnagmehpeaaMgM
import Derived.Test.YtoeamnagmehpeaaMgK
import Derived.Test.YtoeamnagmehpeaaMgJ
namespace Go.Proofs.Ytoeamnagmehpeaa.Ln
set_option linter.unusedSimpArgs false
set_option linter.unusedVariables false
open Go Go.RowKit Go.Proofs.Ytoeamnagmehpeaa.Rp
open Go.Proofs.Ytoeamnagmehpeaa.Ar (T Is Ext WF Knot getK getB getS Arena resAr small)
open Go.Proofs.Ytoeamnagmehpeaa.Buf (byte_ten)
attribute [local go_sem] lt_add1 lt_self1 size_ne size_ne' size_ne1 size_ne1'
attribute [local irreducible] wpGrow wpThr

theorem atF_bd {y : List UInt8} {i : Nat} (h : i ≤ y.length) : 1 ≤ (atF (y.take i)).1 ∧ (atF (y.take i)).1 ≤ y.length + 1 ∧ 1 ≤ (atF (y.take i)).2 ∧ (atF (y.take i)).2 ≤ y.length + 1 := by
  have hb := aheadL_bd y i
  have hf := feedsL_le y
  have hs := at_span (y := y) (a := i) (by omega) (by omega)
  rw [atF_take h]
  simp only
  omega

set_option maxHeartbeats 1000000 in
theorem refat_any (s : ByteArray) (a : Nat) (w : World) (ha : a ≤ s.size) (hs : s.size ≤ 1000000) : Calls Try.prog 29 #[.string s, .int .i64 a] w fun e w' => e = .returned (.tuple #[.int .i64 (atF (s.data.toList.take a)).1, .int .i64 (atF (s.data.toList.take a)).2]) ∧ Below w.heap.size w w' := by
  have hl : s.data.toList.length = s.size := rfl
  go_enter Try.func29, Try.ntmps29
  go_wp2_with fail
  go_loopw [6, 7, 8] (fun p c i wr => ∃ k : Nat, k ≤ a ∧ p = .int .i64 (atF (s.data.toList.take k)).1 ∧ c = .int .i64 (atF (s.data.toList.take k)).2 ∧ i = .int .i64 k ∧ Below w.heap.size w wr) (fun _ _ i _ => a - (intOf i).toNat)
  case atStart => exact ⟨0, by omega, rfl, rfl, rfl, Below.refl _ _⟩
  case round =>
    obtain ⟨k, hk, rfl, rfl, rfl, hb⟩ := hrel
    have HB := Lib.hid hb
    clear hb
    by_cases hka : k < a
    · have hks : k < s.size := by omega
      have hbd := atF_bd (y := s.data.toList) (i := k) (by omega)
      rw [hl] at hbd
      have htk : s.data.toList.take (k + 1) = s.data.toList.take k ++ [s.data.toList.getD k 0] := by
        have h' : k < s.data.toList.length := hks
        rw [List.take_succ_eq_append_getElem h']
        simp only [List.getD, List.getElem?_eq_getElem h', Option.getD_some]
      have hsn : atF (s.data.toList.take (k + 1)) = if s.data.toList.getD k 0 = 10 then ((atF (s.data.toList.take k)).1 + 1, 1) else ((atF (s.data.toList.take k)).1, (atF (s.data.toList.take k)).2 + 1) := by rw [htk, atF_snoc]
      have hten := byte_ten (s.data.toList.getD k 0)
      have hk0 : (0 : Int) ≤ k := by omega
      have hk1 : (k : Int) < s.size := by omega
      have hka' : (k : Int) < a := by omega
      have hget : s.data.toList.getD k 0 = s[k] := by
        have h' : k < s.data.toList.length := hks
        simp only [List.getD, List.getElem?_eq_getElem h', Option.getD_some]
        rfl
      rw [hget] at hsn hten
      have HT := Lib.hid (And.intro hsn hten)
      clear hsn hten hget htk
      generalize atF (s.data.toList.take k) = pc at *
      obtain ⟨p, c⟩ := pc
      simp only at hbd
      have hw1 : IntKind.i64.wrap (c + 1) = c + 1 := IntWalk.i64_in _ (by omega)
      have hw2 : IntKind.i64.wrap (p + 1) = p + 1 := IntWalk.i64_in _ (by omega)
      by_cases h10 : ((s[k].toNat : Nat) : Int) = 10
      · have e := HT.out.1
        rw [if_pos (HT.out.2.2 h10)] at e
        have HE := Lib.hid e
        clear e
        go_wp2
        go_roundw
        case rel => exact ⟨k + 1, by omega, by rw [HE.out], by rw [HE.out], by go_num, HB.out⟩
        case measure => simp [intOf]; omega
      · have h10' : (((s[k].toNat : Nat) : Int) == 10) = false := by simpa using h10
        have e := HT.out.1
        rw [if_neg (fun h => h10 (HT.out.2.1 h))] at e
        have HE := Lib.hid e
        clear e
        go_wp2
        go_roundw
        case rel => exact ⟨k + 1, by omega, by rw [HE.out], by rw [HE.out], by go_num, HB.out⟩
        case measure => simp [intOf]; omega
    · obtain rfl : k = a := by omega
      have hka' : ¬ ((k : Int) < k) := by omega
      go_wp2
      go_ret2
      exact ⟨rfl, HB.out⟩

set_option maxHeartbeats 1000000 in
theorem refplace_any (s : ByteArray) (line col : Int) (w : World) (hs : s.size ≤ 1000000) : Calls Try.prog 28 #[.string s, .int .i64 line, .int .i64 col] w fun e w' => e = .returned (.int .i64 (placeL s.data.toList line col)) ∧ Below w.heap.size w w' := by
  have hl : s.data.toList.length = s.size := rfl
  have hpf := fun (i : Nat) (h : i ≤ s.size) (e : atF (s.data.toList.take i) = (line, col)) => place_found (y := s.data.toList) (i := i) (by omega) e
  have hpn := fun (h : ∀ i : Nat, i ≤ s.size → atF (s.data.toList.take i) ≠ (line, col)) => place_none (y := s.data.toList) (line := line) (col := col) h
  have HP := Lib.hid (And.intro hpf hpn)
  clear hpf hpn
  go_enter Try.func28, Try.ntmps28
  go_wp2_with fail
  go_loopw [7] (fun i wr => ∃ k : Nat, k ≤ s.size + 1 ∧ i = .int .i64 k ∧ (∀ j : Nat, j < k → atF (s.data.toList.take j) ≠ (line, col)) ∧ Below w.heap.size w wr) (fun i _ => s.size + 1 - (intOf i).toNat)
  case atStart => exact ⟨0, by omega, rfl, fun j hj => by omega, Below.refl _ _⟩
  case round =>
    obtain ⟨k, hk, rfl, hno, hb⟩ := hrel
    have HB := Lib.hid (And.intro hb hno)
    clear hb hno
    by_cases hks : k ≤ s.size
    · have hks' : (k : Int) ≤ s.size := by omega
      have HA := Lib.hid (fun w' => refat_any s k w' hks hs)
      obtain ⟨pc, hpc⟩ : ∃ pc, atF (s.data.toList.take k) = pc := ⟨_, rfl⟩
      rw [hpc] at HA
      have HPC := Lib.hid hpc
      clear hpc
      obtain ⟨p, c⟩ := pc
      simp only at HA
      by_cases h1 : p = line
      · by_cases h2 : c = col
        · subst h1 h2
          go_wp2_with fail
          ((with_reducible refine (HA.out wr).mono ?_); rintro e w2 ⟨rfl, hb2⟩)
          have H2 := Lib.hid (HB.out.1.trans (hb2.mono HB.out.1.size))
          clear hb2
          go_wp2_with fail
          go_ret
          exact ⟨by rw [HP.out.1 k hks HPC.out]; rfl, H2.out⟩
        · have h2' : (c == col) = false := by simp [h2]
          subst h1
          go_wp2_with fail
          ((with_reducible refine (HA.out wr).mono ?_); rintro e w2 ⟨rfl, hb2⟩)
          have H2 := Lib.hid (HB.out.1.trans (hb2.mono HB.out.1.size))
          clear hb2
          go_wp2_with fail
          go_roundw
          case rel => exact ⟨k + 1, by omega, by go_num, fun j hj => by
            by_cases e : j = k
            · subst e; rw [HPC.out]; intro e2; exact h2 (congrArg Prod.snd e2)
            · exact HB.out.2 j (by omega), H2.out⟩
          case measure => simp [intOf]; omega
      · have h1' : (p == line) = false := by simp [h1]
        go_wp2_with fail
        ((with_reducible refine (HA.out wr).mono ?_); rintro e w2 ⟨rfl, hb2⟩)
        have H2 := Lib.hid (HB.out.1.trans (hb2.mono HB.out.1.size))
        clear hb2
        go_wp2_with fail
        go_roundw
        case rel => exact ⟨k + 1, by omega, by go_num, fun j hj => by
          by_cases e : j = k
          · subst e; rw [HPC.out]; intro e2; exact h1 (congrArg Prod.fst e2)
          · exact HB.out.2 j (by omega), H2.out⟩
        case measure => simp [intOf]; omega
    · have hks' : ¬ ((k : Int) ≤ s.size) := by omega
      go_wp2_with fail
      go_ret
      exact ⟨by rw [HP.out.2 fun i hi => HB.out.2 i (by omega)]; rfl, HB.out.1⟩
/-- the page's lines. -/
def linesB (s : ByteArray) (n : Nat) : List ByteArray := (List.range n).map fun c : Nat => lineB s c
theorem linesB_snoc (s : ByteArray) (n : Nat) : linesB s (n + 1) = linesB s n ++ [lineB s n] := by unfold linesB; rw [List.range_succ, List.map_append]; rfl
theorem linesB_len (s : ByteArray) (n : Nat) : (linesB s n).length = n := by unfold linesB; simp
def OwnS (w : World) (B : Nat) (v : Value) (l : List ByteArray) : Prop := w.ownsRow B 9 1 v l.length (l.map Value.string)
theorem push_fr {w w7 : World} {g : Nat} {O : Obj} {v : Value} (hgrow : (w.alloc O).grownBy w7 v.ownBlock) (hat : v.ownBlock = some g ∨ g = w.heap.size + 1) : Fr w (fun b => v.ownBlock = some b) w7 (fun b => b = g) :=
  ⟨hgrow.os, hgrow.tape, hgrow.output, by have := hgrow.size; simp at this; omega, fun b hb hn => (hgrow.block b (by simp; omega) (fun e => hn e.symm)).trans (Below.heap_alloc _ _ b hb), fun b e => by
    subst e
    rcases hat with e | e
    · exact .inl e
    · right; omega⟩

set_option maxHeartbeats 2000000 in
theorem reflines_any (s : ByteArray) (w : World) (hs : s.size ≤ 1000000) : Calls Try.prog 30 #[.string s] w fun e w' => ∃ v, e = .returned v ∧ OwnS w' w.heap.size v (linesB s (feedsL s.data.toList + 1).toNat) ∧ Below w.heap.size w w' := by
  have hl : s.data.toList.length = s.size := rfl
  have hfl := feedsL_le s.data.toList
  obtain ⟨i0, hi, hz0, hz1, hz2⟩ := info_parts str_info
  go_enter Try.func30, Try.ntmps30
  go_wp2_with fail
  go_loopw [3, 4, 5] (fun out fr i wr => ∃ k : Nat, k ≤ s.size ∧ fr = .int .i64 (fromL s.data.toList (aheadL s.data.toList k)) ∧ i = .int .i64 k ∧ Hid (OwnS wr w.heap.size out (linesB s (aheadL s.data.toList k).toNat) ∧ Below w.heap.size w wr)) (fun _ _ i _ => s.size - (intOf i).toNat)
  case atStart =>
    have e : aheadL s.data.toList ((0 : Nat) : Int) = 0 := aheadL_low (by simp)
    exact ⟨0, by omega, by rw [e]; rfl, rfl, Lib.hid ⟨by rw [e]; exact World.ownsRow_nil _ _ _ 1, Below.refl _ _⟩⟩
  case round =>
    obtain ⟨k, hk, rfl, rfl, HB⟩ := hrel
    by_cases hks : k < s.size
    · have hah := ahead_succ (y := s.data.toList) (i := k) (by omega)
      have hat := at_span (y := s.data.toList) (a := k) (by omega) (by omega)
      have hbd := aheadL_bd s.data.toList k
      have hten := byte_ten (s.data.toList.getD k 0)
      have hk0 : (0 : Int) ≤ k := by omega
      have hk1 : (k : Int) < s.size := by omega
      have hget : s.data.toList.getD k 0 = s[k] := by
        have h' : k < s.data.toList.length := hks
        simp only [List.getD, List.getElem?_eq_getElem h', Option.getD_some]
        rfl
      rw [hget] at hah hten
      have HT := Lib.hid (And.intro hah hten)
      clear hah hten hget
      obtain ⟨c, hc⟩ : ∃ c : Nat, aheadL s.data.toList k = c := ⟨(aheadL s.data.toList k).toNat, by omega⟩
      obtain ⟨f, hf⟩ : ∃ f : Nat, fromL s.data.toList c = f := ⟨(fromL s.data.toList c).toNat, by rw [hc] at hat; omega⟩
      rw [hc] at HB HT hat hbd
      rw [hf] at hat
      rw [hc, hf]
      simp only [Int.toNat_natCast] at HB
      have HC := Lib.hid (And.intro hc hf)
      have hfk : (f : Int) ≤ k := hat.2.1
      have hf0 : (0 : Int) ≤ f := by omega
      have hks2 : (k : Int) ≤ s.size := by omega
      clear hc hf
      by_cases h10 : ((s[k].toNat : Nat) : Int) = 10
      · have h10t := HT.out.2.2 h10
        obtain ⟨e1, e2⟩ := HT.out.1
        rw [if_pos h10t] at e1
        obtain ⟨e3, e4⟩ := e2 h10t
        have hto : toL s.data.toList c = k := by unfold toL; rw [if_pos e4]; exact e3
        have hln : lineB s c = s.extract f k := by unfold lineB; rw [HC.out.2, hto]; simp
        have HE := Lib.hid (And.intro e1 (And.intro e3 hln))
        clear e1 e2 e3 e4 hto hln
        have hown := HB.out.1
        unfold OwnS at hown
        have hlen : (linesB s c).length ≤ 1000000 := by rw [linesB_len]; omega
        have hbz := HB.out.2.size
        go_wp2_with (at_builtin; refine wpList_append_lies _ rfl _ _ 35 rfl w.heap.size 9 i0 (.string ⟨#[]⟩) 1 16 Try.underlying35 hi hz0 hz1 hz2 rfl (by decide) u3 (linesB s c).length ((linesB s c).map Value.string) rfl (World.ownsRow.alloc hown _) ⟨wr.heap.size, 0, none⟩ 1 1 [.string (s.extract f k)] rfl rfl ?c1 ?c2 (by omega) ?c3 ?c4 ?c5 _ rfl ?_)
        case c1 => exact World.news_of_block (fr := (0, 0)) (heap_alloc_new wr _)
        case c2 => intro u hu; simp at hu; rcases hu with rfl; rfl
        case c3 => unfold maxLen; omega
        case c4 => omega
        case c5 => simp; omega
        intro g cap w7 hown7 hgrow hat7 hlt7
        have hf7 := push_fr hgrow hat7
        have H7 := Lib.hid (show OwnS w7 w.heap.size (.slice (some ⟨g, 0, none⟩) ((linesB s c).length + 1) cap) (linesB s (c + 1)) ∧ Below w.heap.size w w7 from ⟨by
          unfold OwnS
          rw [linesB_snoc, List.length_append, List.map_append, HE.out.2.2]
          exact hown7, hf7.below HB.out.2 (fun b e => (World.ownsRow.lt hown b e).1) hbz⟩)
        clear hown hown7 hgrow hat7 hlt7 hf7
        have hwk : IntKind.i64.wrap ((k : Int) + 1) = (k : Int) + 1 := IntWalk.i64_in _ (by omega)
        go_wp2_with fail
        go_roundw
        case rel =>
          have e1 : aheadL s.data.toList ((k + 1 : Nat) : Int) = ((c + 1 : Nat) : Int) := by rw [HE.out.1]; rfl
          refine ⟨k + 1, by omega, ?_, by go_num, ?_⟩
          · rw [e1]
            unfold fromL
            rw [if_neg (by omega), show ((c + 1 : Nat) : Int) - 1 = c by omega, HE.out.2.1]
          · rw [e1]; exact H7
        case measure => simp [intOf]; omega
      · have h10' : (((s[k].toNat : Nat) : Int) == 10) = false := by simpa using h10
        have e1 := HT.out.1.1
        rw [if_neg (fun h => h10 (HT.out.2.1 h)), Int.add_zero] at e1
        have HE := Lib.hid e1
        clear e1
        go_wp2_with fail
        go_roundw
        case rel =>
          refine ⟨k + 1, by omega, ?_, by go_num, ?_⟩
          · rw [HE.out, HC.out.2]
          · rw [HE.out]; simp only [Int.toNat_natCast]; exact HB
        case measure => simp [intOf]; omega
    · obtain rfl : k = s.size := by omega
      have hks' : ¬ ((s.size : Int) < s.size) := by omega
      have hall : aheadL s.data.toList (s.size : Nat) = feedsL s.data.toList := aheadL_all (by rw [hl]; exact Int.le_refl _)
      have hat := at_span (y := s.data.toList) (a := s.size) (by omega) (by rw [hl]; exact Int.le_refl _)
      obtain ⟨c, hc⟩ : ∃ c : Nat, feedsL s.data.toList = c := ⟨(feedsL s.data.toList).toNat, by omega⟩
      obtain ⟨f, hf⟩ : ∃ f : Nat, fromL s.data.toList c = f := ⟨(fromL s.data.toList c).toNat, by rw [hall, hc] at hat; omega⟩
      rw [hall, hc] at HB hat
      rw [hf] at hat
      rw [hall, hc, hf]
      simp only [Int.toNat_natCast] at HB
      have hto : toL s.data.toList c = s.size := by unfold toL; rw [if_neg (by omega), hl]
      have hln : lineB s c = s.extract f s.size := by unfold lineB; rw [hf, hto]; simp
      have HE := Lib.hid (And.intro hc hln)
      have hfk : (f : Int) ≤ s.size := hat.2.1
      have hf0 : (0 : Int) ≤ f := by omega
      have hc9 : c ≤ 1000000 := by omega
      clear hall hc hf hto hln hfl hat
      have hown := HB.out.1
      unfold OwnS at hown
      have hlen : (linesB s c).length ≤ 1000000 := by rw [linesB_len]; omega
      have hbz := HB.out.2.size
      go_wp2_with (at_builtin; refine wpList_append_lies _ rfl _ _ 35 rfl w.heap.size 9 i0 (.string ⟨#[]⟩) 1 16 Try.underlying35 hi hz0 hz1 hz2 rfl (by decide) u3 (linesB s c).length ((linesB s c).map Value.string) rfl (World.ownsRow.alloc hown _) ⟨wr.heap.size, 0, none⟩ 1 1 [.string (s.extract f s.size)] rfl rfl ?c1 ?c2 (by omega) ?c3 ?c4 ?c5 _ rfl ?_)
      case c2 => rfl
      case c3 => unfold maxLen; omega
      case c4 => omega
      case c5 => first | omega | (simp; omega)
      intro g cap w7 hown7 hgrow hat7 hlt7
      have hf7 := push_fr hgrow hat7
      have H7 := Lib.hid (show OwnS w7 w.heap.size (.slice (some ⟨g, 0, none⟩) ((linesB s c).length + 1) cap) (linesB s (c + 1)) ∧ Below w.heap.size w w7 from ⟨by
        unfold OwnS
        rw [linesB_snoc, List.length_append, List.map_append, HE.out.2]
        exact hown7, hf7.below HB.out.2 (fun b e => (World.ownsRow.lt hown b e).1) hbz⟩)
      clear hown hown7 hgrow hat7 hlt7 hf7
      go_wp2_with fail
      go_ret
      exact ⟨_, rfl, by rw [HE.out.1]; exact H7.out.1, H7.out.2⟩
end Go.Proofs.Ytoeamnagmehpeaa.Ln


/- Layer 24's laws: the page's example; LinesPlaces. */ -/
namespace Go.Proofs.Ytoeamnagmehpeaa.Ln
set_option linter.unusedSimpArgs false
set_option linter.unusedVariables false
open Go Go.RowKit Go.Proofs.Ytoeamnagmehpeaa.Rp
open Go.Proofs.Ytoeamnagmehpeaa.Ar (T Is Ext WF Knot getK getB getS Arena resAr small leafK pairK)
attribute [local go_sem] lt_add1 lt_self1 size_ne size_ne' size_ne1 size_ne1'
attribute [local irreducible] wpGrow wpThr

theorem i64_bd {k : Int} (h : i64ok k) : -9223372036854775808 ≤ k ∧ k ≤ 9223372036854775807 := by
  unfold i64ok at h
  simp only [Lit.wf, Bool.and_eq_true, decide_eq_true_eq] at h
  have e1 : IntKind.i64.min = -9223372036854775808 := by decide
  have e2 : IntKind.i64.max = 9223372036854775807 := by decide
  rw [e1, e2] at h
  exact h
def anb : ByteArray := ⟨#[97, 10, 98]⟩
theorem eqN : ((⟨#[]⟩ ++ ⟨#[97, 10, 98]⟩ : ByteArray), [] ++ [leafK (ByteArray.size ⟨#[]⟩) (ByteArray.size ⟨#[97, 10, 98]⟩) (Buf.feedsV (⟨#[]⟩ ++ ⟨#[97, 10, 98]⟩) (ByteArray.size ⟨#[]⟩) (ByteArray.size ⟨#[97, 10, 98]⟩))]) = (anb, [leafK 0 3 1]) := by kernel_rfl
theorem wfN : WF [leafK 0 3 1] := fun i hi => by
  left
  have hi : i < 1 := hi
  obtain rfl : i = 0 := by omega
  exact ⟨rfl, rfl, by decide, by decide, by decide, by decide, rfl, rfl, by decide, by decide⟩
theorem isN : Is [leafK 0 3 1] 1 (.leaf 0 3 1) := .leaf 0 (by decide) (by decide) ⟨rfl, rfl, by decide, by decide, by decide, by decide, rfl, rfl, by decide, by decide⟩ rfl rfl rfl
theorem goodN : Rp.Good anb (.leaf 0 3 1) := good_leaf.2 ⟨by decide, by decide, by decide, by decide⟩

set_option maxRecDepth 100000 in
set_option maxHeartbeats 2000000 in
theorem awake24 (w : World) : Calls Try.prog 25 #[] w fun e w' => e = .returned (.bool true) ∧ Below w.heap.size w w' := by
  go_enter Try.func25, Try.ntmps25
  go_wp2_with fail
  ((with_reducible refine (rnew_any _).mono ?_); rintro e w1 ⟨gs, gb, ga, rfl, h1, hb1, g1, g2, g3⟩)
  have hF1 : ∀ b, sfoot gb ga none none none b → w.heap.size ≤ b := by
    intro b hb
    rcases hb with (rfl | e | e) | (rfl | e)
    · exact g2
    · cases e
    · cases e
    · exact g3
    · cases e
  have H1 := Lib.hid (And.intro h1 (And.intro hb1 hF1))
  clear h1 hb1 g1 g2 g3 hF1
  have HM := Lib.hid ((Kp.rmake_det gs gb ga ⟨#[]⟩ [] ⟨#[97, 10, 98]⟩ (by decide) wf_nil (by simp [small]) (by decide)).run w1 _ (resSt_at H1.out.1))
  go_wp2_with fail
  ((with_reducible refine HM.out.mono ?_); rintro e w2 ⟨v, s2, F2, rfl, ⟨rfl, rfl⟩, ha2, hf2⟩)
  have hB2 := hf2.below H1.out.2.1 H1.out.2.2 H1.out.2.1.size
  rw [eqN] at ha2
  obtain ⟨rb, rf, q, rfl, st2⟩ := st_of ha2
  simp only at st2
  have hR : Rop gs gb ga rb rf q anb [leafK 0 3 1] 1 [97, 10, 98] w2 := ⟨st2, wfN, by simp [small], by decide, .leaf 0 3 1, isN, goodN, by decide⟩
  have HC := Lib.hid (fun w' (hb : Below w2.heap.size w2 w') => count_any (hR.below hb))
  have HA := Lib.hid (fun w' (hb : Below w2.heap.size w2 w') => at_any 2 (hR.below hb) (by decide) (by decide))
  have HT := Lib.hid (fun w' (hb : Below w2.heap.size w2 w') => text_any 1 (hR.below hb) (by decide) (by decide) (by decide))
  rw [show feedsL [97, 10, 98] + 1 = 2 from by decide] at HC
  rw [show aheadL [97, 10, 98] 2 = 1 from by decide, show fromL [97, 10, 98] 1 = 2 from by decide, show (1 : Int) + 1 = 2 from by decide, show (2 : Int) - 2 + 1 = 1 from by decide] at HA
  rw [show lineL [97, 10, 98] 1 = [98] from by decide, show (1 : Int) + 1 = 2 from by decide] at HT
  have H2 := Lib.hid hB2
  clear hB2 ha2 hf2 HM hR st2
  go_wp2_with fail
  ((with_reducible refine (HC.out _ (Below.refl _ _)).mono ?_); rintro e w3 ⟨rfl, hb3⟩)
  have H3 := Lib.hid hb3
  clear hb3
  go_wp2_with fail
  ((with_reducible refine (HA.out _ H3.out).mono ?_); rintro e w4 ⟨rfl, hb4⟩)
  have H4 := Lib.hid (H3.out.trans (hb4.mono H3.out.size))
  clear hb4
  go_wp2_with fail
  ((with_reducible refine (HT.out _ H4.out).mono ?_); rintro e w5 ⟨rfl, hb5⟩)
  have H5 := Lib.hid (H4.out.trans (hb5.mono H4.out.size))
  clear hb5
  go_wp2_with fail
  go_ret
  exact ⟨rfl, H2.out.trans (H5.out.mono H2.out.size)⟩

/-- one of the ropes. -/
theorem Inv.rop {s : Bst} (h : Inv s 40) {k : Nat} (hk : k < s.Ts.length) {w : World} {gs gb ga : Nat} {rb rf q : Option Nat} (hs : St w gs gb ga rb rf q s.S s.ks) : Rop gs gb ga rb rf q s.S s.ks (s.Ts.getD k 0) (s.Ls.getD k ⟨#[]⟩).data.toList w ∧ (s.Ls.getD k ⟨#[]⟩).size ≤ 800 := by
  obtain ⟨X, h1, h2, h3, h4, h5⟩ := h.ropes k hk
  have := txt_length h2
  rw [h4] at this
  have e : (s.Ls.getD k ⟨#[]⟩).data.toList.length = (s.Ls.getD k ⟨#[]⟩).size := rfl
  exact ⟨⟨hs, h.wf, h.ks_small (by omega), h.S_small (by omega), X, h1, h2, h4⟩, by omega⟩

set_option maxRecDepth 100000 in
set_option maxHeartbeats 4000000 in
theorem places_walk (l : List Dd) (a x1 x2 : Int) (A : Option Addr) (cap : Nat) (w : World) (hs : ddAt w A l) (hl : ∀ d ∈ l, d.text.size ≤ 2 ^ 63 - 1) (hx2 : i64ok x2) :
    Calls Try.prog 5 #[.slice A l.length cap, .int .i64 a, .agg #[.int .i64 x1, .int .i64 x2]] w fun e w' => e = .returned (.bool true) ∧ Below w.heap.size w w' := by
  have hcb := i64_bd hx2
  have hb0 : Below w.heap.size w (w.alloc (.cells #[.int .i64 x1, .int .i64 x2] 55)) := (Below.refl _ _).alloc (Nat.le_refl _) _
  have hk0 : (w.alloc (.cells #[.int .i64 x1, .int .i64 x2] 55)).heap[w.heap.size]? = some (.cells #[.int .i64 x1, .int .i64 x2] 55 (0, 0)) := heap_alloc_new _ _
  have hs0 : ddAt (w.alloc (.cells #[.int .i64 x1, .int .i64 x2] 55)) A l := (hs.below hb0).more hb0.size
  have HS := Lib.hid (And.intro hs0 (And.intro hb0 hk0))
  clear hs hs0 hb0 hk0
  go_enter Try.func5, Try.ntmps5
  go_wp2_with fail
  ((with_reducible refine (awake24 _).mono ?_); rintro e w1 ⟨rfl, hb1⟩)
  have HBL := Lib.hid (build_any l A cap w1 ((HS.out.1.below hb1).more hb1.size) hl)
  have H1 := Lib.hid (And.intro (HS.out.2.1.trans (hb1.mono HS.out.2.1.size)) ((hb1.block _ (Array.getElem?_eq_some_iff.1 HS.out.2.2).1).trans HS.out.2.2))
  clear hb1 HS
  go_wp2_with fail
  ((with_reducible refine HBL.out.mono ?_); rintro e W ⟨v, rfl, ⟨b, gs, gb, ga, rb, rf, q, Tv, Lv, s, rfl, hB, hI⟩⟩)
  have hkd := (hB.bl.block _ (Array.getElem?_eq_some_iff.1 H1.out.2).1).trans H1.out.2
  have hkl := (Array.getElem?_eq_some_iff.1 hkd).1
  have z0 := Bw.cell hkl (cell_of_row W _ 0 _ _ (0, 0) hkd)
  have z1 := Bw.cell hkl (cell_of_row W _ 1 _ _ (0, 0) hkd)
  have zl := Bw.lt hkl
  simp only [List.getElem?_toArray, List.getElem?_cons_zero, List.getElem?_cons_succ] at z0 z1
  have HB := Lib.hid (And.intro (H1.out.1.trans (hB.bl.mono H1.out.1.size)) (And.intro hB hI))
  clear hB hI HBL H1 hkd hkl
  obtain ⟨At, ct, hTv, hT⟩ := HB.out.2.1.sn
  obtain ⟨Al, cl, hLv, hL⟩ := HB.out.2.1.sl
  have hc := HB.out.2.1.c
  rw [hTv, hLv] at hc
  have c0 := Bw.cell HB.out.2.1.lt hc.1
  have c1 := Bw.cell HB.out.2.1.lt hc.2.1
  have c2 := Bw.cell HB.out.2.1.lt hc.2.2
  have hltb := Bw.lt HB.out.2.1.lt
  have HT := Lib.hid (And.intro hT hL)
  have hlen := HB.out.2.2.len
  have hn41 := HB.out.2.2.le
  have HLEN := Lib.hid hlen
  rw [← hlen] at c2
  clear hTv hLv hT hL hc hlen
  obtain ⟨n, hn⟩ : ∃ n, n = s.Ts.length := ⟨_, rfl⟩
  rw [← hn] at c1 c2 hn41
  have HN := Lib.hid hn
  clear hn
  generalize w.heap.size = kd at z0 z1 zl
  go_wp2_with fail
  go_loopw [8] (fun i wr => ∃ k : Nat, i = .int .i64 k ∧ k ≤ n ∧ Below W.heap.size W wr) (fun i _ => n - (intOf i).toNat)
  case atStart => exact ⟨0, rfl, by omega, Below.refl _ _⟩
  case round =>
    obtain ⟨k, rfl, hk, hbr⟩ := hrel
    have e0 : wr.cell? ⟨b, 0, none⟩ = _ := c0 ⟨wr, hbr⟩
    have e1 : wr.cell? ⟨b, 1, none⟩ = _ := c1 ⟨wr, hbr⟩
    have e2 : wr.cell? ⟨b, 2, none⟩ = _ := c2 ⟨wr, hbr⟩
    have eb : b < wr.heap.size := hltb ⟨wr, hbr⟩
    have HBR := Lib.hid hbr
    clear hbr
    by_cases hkn : k < n
    · have hkn2 : k < s.Ts.length := by rw [← HN.out]; exact hkn
      obtain ⟨tb, toff, rfl, htl, htc⟩ := HT.out.1 (by omega)
      obtain ⟨lb, loff, rfl, hll, hlc⟩ := HT.out.2 (by rw [← HLEN.out]; omega)
      have d1 := Bw.cell htl (htc k hkn2)
      have d2 := Bw.cell hll (hlc k (by rw [← HLEN.out]; exact hkn2))
      have dl1 := Bw.lt htl
      have dl2 := Bw.lt hll
      have HRP := Lib.hid (fun w' (hb : Below W.heap.size W w') => (Inv.rop HB.out.2.2 hkn2 (HB.out.2.1.below hb).st).1)
      have hy8 := (Inv.rop HB.out.2.2 hkn2 HB.out.2.1.st).2
      have e4 := d2 ⟨wr, HBR.out⟩
      have el4 := dl2 ⟨wr, HBR.out⟩
      simp only at e4 el4
      clear htc hlc htl hll
      generalize s.Ts.getD k 0 = t at d1 HRP
      generalize s.Ls.getD k ⟨#[]⟩ = y at d2 HRP hy8 e4
      have hyl : y.data.toList.length = y.size := rfl
      have hkn' : (k : Int) < n := by omega
      have HPL := Lib.hid (fun w' (hb : Below W.heap.size W w') => place_any x1 x2 (HRP.out w' hb) hcb)
      have HRF := Lib.hid (fun w' => refplace_any y x1 x2 w' (by omega))
      obtain ⟨V, hV⟩ : ∃ V, placeL y.data.toList x1 x2 = V := ⟨_, rfl⟩
      have hpv := placeV_eq y.data.toList x1 x2
      rw [hV] at hpv HRF
      obtain ⟨l1, l2, l3, hAT, hin⟩ : ∃ l1 l2 l3 : Int, (∀ w', Below W.heap.size W w' → Calls Try.prog 26 #[.pointer (some ⟨gs, 0, none⟩), .int .i64 t, .int .i64 a] w' fun e w'' => e = .returned (.tuple #[.int .i64 l1, .int .i64 l2, .int .i64 l3]) ∧ Below w'.heap.size w' w'') ∧
          (((a < 0 ∨ (¬ a < 0 ∧ a > y.size)) ∧ l1 = 0 ∧ l2 = 0 ∧ l3 = 2) ∨ (¬ a < 0 ∧ ¬ a > y.size ∧ l3 = 0 ∧ ∀ w', Calls Try.prog 29 #[.string y, .int .i64 a] w' fun e w'' => e = .returned (.tuple #[.int .i64 l1, .int .i64 l2]) ∧ Below w'.heap.size w' w'')) := by
        by_cases hA : a < 0 ∨ (y.data.toList.length : Int) < a
        · exact ⟨0, 0, 2, fun w' hb => at_out a (HRP.out w' hb) hA, .inl ⟨by omega, rfl, rfl, rfl⟩⟩
        · refine ⟨_, _, 0, fun w' hb => at_any a (HRP.out w' hb) (by omega) (by omega), .inr ⟨by omega, by omega, rfl, fun w' => ?_⟩⟩
          have h1 := refat_any y a.toNat w' (by omega) (by omega)
          rw [atF_take (by omega), show ((a.toNat : Nat) : Int) = a by omega] at h1
          exact h1
      have HAT := Lib.hid hAT
      clear hAT
      by_cases hneg : V < 0
      · rw [hpv.1 hneg] at HPL
        simp only at HPL
        have hnn : ¬ V ≥ 0 := by omega
        have HIN := Lib.hid hin
        clear hpv hin HRP
        go_wp2_with fail
        refine wp_region_wd (fun w' => Below W.heap.size W w') (by kernel_rfl) (by kernel_rfl) HBR.out.drew ?_
        repeat (go_big_quiet_step (with_reducible exact Bw.call (HAT.out _ (Wd.h _))))
        refine wpQuiet_nil (wd_all ?_)
        intro w3 hb3
        have HB3 := Lib.hid hb3
        clear hb3
        go_wp2_with fail
        refine wp_region_wd (fun w' => Below W.heap.size W w') (by kernel_rfl) (by kernel_rfl) HB3.out.drew ?_
        repeat (go_big_quiet_step (with_reducible exact Bw.call (HPL.out _ (Wd.h _))))
        refine wpQuiet_nil (wd_all ?_)
        intro w4 hb4
        have HB4 := Lib.hid hb4
        have f0 := z0 ⟨w4, hb4⟩
        have f1 := z1 ⟨w4, hb4⟩
        have fl := zl ⟨w4, hb4⟩
        simp only at f0 f1 fl
        clear hb4 e0 e1 e2 eb e4 el4
        go_wp2_with fail
        ((with_reducible refine (HRF.out w4).mono ?_); rintro e w5 ⟨rfl, hb5⟩)
        have HB5 := Lib.hid (HB4.out.trans (hb5.mono HB4.out.size))
        clear hb5 f0 f1 fl
        rcases HIN.out with ⟨hA, g1, g2, g3⟩ | ⟨hA1, hA2, g3, hRA⟩
        · subst g1 g2 g3
          rcases hA with hA | ⟨hA1, hA2⟩
          all_goals
            go_wp2_with fail
            go_roundw
            case rel => exact ⟨k + 1, by go_num, by omega, HB5.out⟩
            case measure => simp [intOf]; omega
        · subst g3
          have HRA := Lib.hid hRA
          clear hRA
          go_wp2_with fail
          ((with_reducible refine (HRA.out w5).mono ?_); rintro e w6 ⟨rfl, hb6⟩)
          have HB6 := Lib.hid (HB5.out.trans (hb6.mono HB5.out.size))
          clear hb6
          go_wp2_with fail
          go_roundw
          case rel => exact ⟨k + 1, by go_num, by omega, HB6.out⟩
          case measure => simp [intOf]; omega
      · rw [hpv.2 (by omega)] at HPL
        simp only [hV] at HPL
        have hnn : V ≥ 0 := by omega
        have HIN := Lib.hid hin
        clear hpv hin HRP
        go_wp2_with fail
        refine wp_region_wd (fun w' => Below W.heap.size W w') (by kernel_rfl) (by kernel_rfl) HBR.out.drew ?_
        repeat (go_big_quiet_step (with_reducible exact Bw.call (HAT.out _ (Wd.h _))))
        refine wpQuiet_nil (wd_all ?_)
        intro w3 hb3
        have HB3 := Lib.hid hb3
        clear hb3
        go_wp2_with fail
        refine wp_region_wd (fun w' => Below W.heap.size W w') (by kernel_rfl) (by kernel_rfl) HB3.out.drew ?_
        repeat (go_big_quiet_step (with_reducible exact Bw.call (HPL.out _ (Wd.h _))))
        refine wpQuiet_nil (wd_all ?_)
        intro w4 hb4
        have HB4 := Lib.hid hb4
        have f0 := z0 ⟨w4, hb4⟩
        have f1 := z1 ⟨w4, hb4⟩
        have fl := zl ⟨w4, hb4⟩
        simp only at f0 f1 fl
        clear hb4 e0 e1 e2 eb e4 el4
        go_wp2_with fail
        ((with_reducible refine (HRF.out w4).mono ?_); rintro e w5 ⟨rfl, hb5⟩)
        have HB5 := Lib.hid (HB4.out.trans (hb5.mono HB4.out.size))
        clear hb5 f0 f1 fl
        rcases HIN.out with ⟨hA, g1, g2, g3⟩ | ⟨hA1, hA2, g3, hRA⟩
        · subst g1 g2 g3
          rcases hA with hA | ⟨hA1, hA2⟩
          all_goals
            go_wp2_with fail
            go_roundw
            case rel => exact ⟨k + 1, by go_num, by omega, HB5.out⟩
            case measure => simp [intOf]; omega
        · subst g3
          have HRA := Lib.hid hRA
          clear hRA
          go_wp2_with fail
          ((with_reducible refine (HRA.out w5).mono ?_); rintro e w6 ⟨rfl, hb6⟩)
          have HB6 := Lib.hid (HB5.out.trans (hb6.mono HB5.out.size))
          clear hb6
          go_wp2_with fail
          go_roundw
          case rel => exact ⟨k + 1, by go_num, by omega, HB6.out⟩
          case measure => simp [intOf]; omega
    · have hkn' : ¬ ((k : Int) < n) := by omega
      go_wp2_with fail
      go_ret
      exact ⟨rfl, HB.out.1.trans (HBR.out.mono HB.out.1.size)⟩
end Go.Proofs.Ytoeamnagmehpeaa.Ln
