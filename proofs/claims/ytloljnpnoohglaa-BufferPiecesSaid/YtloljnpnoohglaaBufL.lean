/- The law's own look at the texts: few. -/
import Derived.Test.YtloljnpnoohglaaBufG
import Derived.Deep.RegionLaw
import Derived.Deep.RegionHeld3
namespace Go.Proofs.Ytloljnpnoohglaa.Buf
set_option linter.unusedSimpArgs false
set_option linter.unusedVariables false
open Go Go.RowKit Go.Lib
open Go.Proofs.Ytloljnpnoohglaa.Vec (SlI iv)
attribute [local go_sem] lt_add1 lt_self1 size_ne size_ne' size_ne1 size_ne1'
attribute [local irreducible] wpGrow

def sv (l : List ByteArray) (i : Nat) : Value := .string (l.getD i ⟨#[]⟩)
def cut60 (s : ByteArray) : ByteArray := s.extract 0 (min s.size 60)
def fewL (l : List ByteArray) : List ByteArray := (l.take 20).map cut60
theorem str_info : (Try.prog.info? 9).map (fun i => (i.zero, i.size, i.bytes)) = some (some (.string ⟨#[]⟩), 1, 16) := by kernel_rfl

theorem own_sv {w : World} {base : Nat} {A : Option Addr} {c : Nat} {F : List ByteArray} (h : w.ownsRow base 9 1 (.slice A F.length c) F.length (F.map Value.string)) : SlI w w.heap.size F.length A (sv F) := fun hn => by
  obtain ⟨b, e, hb, hc⟩ := own_cells h hn
  refine ⟨b, 0, e, hb, fun i hi => ?_⟩
  rw [Nat.zero_add, hc i hi]
  simp [sv, List.getD, hi]
theorem take_map_succ (l : List ByteArray) (k : Nat) (hk : k < l.length) : (l.take (k + 1)).map cut60 = (l.take k).map cut60 ++ [cut60 (l.getD k ⟨#[]⟩)] := by
  rw [List.take_add_one, List.map_append]
  simp [List.getD, hk]

set_option maxRecDepth 100000 in
set_option maxHeartbeats 2000000 in
theorem few_any (l : List ByteArray) (A : Option Addr) (cap : Nat) (w : World) (hs : SlI w w.heap.size l.length A (sv l)) :
    Calls Try.prog 41 #[.slice A l.length cap] w fun e w' => ∃ Q c, e = .returned (.slice Q (fewL l).length c) ∧ SlI w' w'.heap.size (fewL l).length Q (sv (fewL l)) ∧ Below w.heap.size w w' := by
  obtain ⟨i0, hi, hz0, hz1, hz2⟩ := info_parts str_info
  have HS := Lib.hid hs
  clear hs
  go_enter Try.func41, Try.ntmps41
  go_wp2_with fail
  go_loopw [3, 4] (fun v i wr => ∃ (k : Nat) (Q : Option Addr) (c : Nat), k ≤ 20 ∧ k ≤ l.length ∧ i = .int .i64 k ∧ v = .slice Q k c ∧ wr.ownsRow w.heap.size 9 1 (.slice Q k c) k (((l.take k).map cut60).map Value.string) ∧ Below w.heap.size w wr) (fun _ i _ => 20 - (intOf i).toNat)
  case atStart => exact ⟨0, none, 0, by omega, by omega, rfl, rfl, World.ownsRow_nil _ _ _ _, Below.refl _ _⟩
  case round =>
    obtain ⟨k, Q, c, hk20, hkl, rfl, rfl, ho, hb⟩ := hrel
    have H := Lib.hid (And.intro ho hb)
    have hzr := hb.size
    clear ho hb
    by_cases hgo : k < l.length ∧ k < 20
    · obtain ⟨hk1, hk2⟩ := hgo
      obtain ⟨b, off, rfl, hbl, hcs⟩ := HS.out (by omega)
      have f1 : wr.cell? ⟨b, off + k, none⟩ = some (.string (l.getD k ⟨#[]⟩)) := (H.out.2.cell (p := ⟨b, _, none⟩) hbl).trans (hcs k hk1)
      have hts := take_map_succ l k hk1
      have HT := Lib.hid hts
      have hbw : b < wr.heap.size := by omega
      have hk0 : (0 : Int) ≤ k := by omega
      have hk3 : (k : Int) < l.length := by omega
      generalize l.getD k ⟨#[]⟩ = s at f1 HT
      clear hts hcs
      have hm0 : (if (s.size : Nat) ≤ 60 then s.size else 60) ≤ s.size := by split <;> omega
      have hm1 : min s.size 60 = (if s.size ≤ 60 then s.size else 60) := Nat.min_def
      generalize (if s.size ≤ 60 then s.size else 60) = m at hm0 hm1
      have hmn : min (s.size : Int) 60 = (m : Int) := by omega
      have HM := Lib.hid hm1
      clear hm1
      go_upto_region 5 with fail
      go_region_law ((refine step_append_lies _ (by rfl) _ _ _ (by rfl) w.heap.size 9 i0 _ 1 16 Try.underlying71 hi hz0 hz1 hz2 rfl (by omega) (.slice Q k c) k (((l.take k).map cut60).map Value.string) (by rfl) ((H.out.1.alloc _).drew) ⟨wr.heap.size, 0, none⟩ 1 1 [.string (s.extract 0 m)] (by rfl) (by rfl) (World.news_of_block (fr := (0, 0)) (heap_alloc_new wr _)) (by intro u hu; simp at hu; rcases hu with rfl; rfl) (by omega) (by unfold maxLen; omega) (by omega) (by simp; omega) (wr.heap.size + 1) (by simp) ?_; intro q2 cap w1 hown1 hgrow hat hlt2))
      all_goals
        have ho2 := hown1
        rw [show s.extract 0 m = cut60 s by unfold cut60; rw [HM.out], show ((l.take k).map cut60).map Value.string ++ [Value.string (cut60 s)] = ((l.take (k + 1)).map cut60).map Value.string by rw [HT.out, List.map_append]; rfl] at ho2
        have HB5 := grow_below (B := w.heap.size) (show Below w.heap.size w _ from by have := H.out.2; (repeat (first | exact Below.refl _ _ | assumption | (refine Below.setCell ?_ (by first | (simp; done) | (simp; omega) | omega) _) | (refine Below.alloc ?_ (by first | (simp; done) | (simp; omega) | omega) _) | (refine Below.drew ?_) | (refine Below.drewN ?_ _) | (refine Below.trans ?_ (Below.mono (by assumption) (by first | (simp; done) | (simp; omega) | omega)))))) hgrow ((H.out.1.alloc _).drew) (Nat.le_refl _) (by simp; omega)
        have H5 := Lib.hid (And.intro ho2 HB5)
        clear ho2 HB5 hown1 hgrow hat
        go_wp2
        go_roundw
        case rel => exact ⟨k + 1, some ⟨q2, 0, none⟩, _, by omega, by omega, by go_num, rfl, H5.out.1, H5.out.2⟩
        case measure => simp [intOf]; omega
    · have hend : k = (fewL l).length := by simp [fewL]; omega
      have ho := H.out.1
      have hfw : (l.take k).map cut60 = fewL l := by
        unfold fewL
        by_cases h20 : k = 20
        · rw [h20]
        · have e : k = l.length := by omega
          rw [List.take_of_length_le (by omega), List.take_of_length_le (by omega)]
      rw [hfw] at ho
      have HE := Lib.hid (And.intro hend ho)
      clear hend ho hfw
      go_upto_region 3 with fail
      go_cut [12] (fun v wx => v = .bool false ∧ wr = wx)
      case first =>
        by_cases hkl2 : l.length ≤ k
        · go_wp2_with fail
          go_meet
          exact ⟨rfl, rfl⟩
        · obtain rfl : k = 20 := by omega
          go_wp2_with fail
          go_meet
          exact ⟨rfl, rfl⟩
      case rest =>
      obtain ⟨rfl, rfl⟩ := hcut
      go_wp2
      go_ret
      obtain ⟨e, ho⟩ := HE.out
      subst e
      exact ⟨_, _, rfl, own_sv ho, H.out.2⟩
end Go.Proofs.Ytloljnpnoohglaa.Buf
