
/- lay. -/
import Derived.Test.YtohjhbhbpflokaaClkY
import Derived.Deep.DeepCutAuto
namespace Go.Proofs.Ytohjhbhbpflokaa.Ck
set_option linter.unusedSimpArgs false
set_option linter.unusedVariables false
open Go Go.RowKit Go.WideElems Go.MapKept Go.ChangeMaps Go.ChangeShapes Go.WideShapes
set_option linter.unusedVariables false
attribute [local go_sem] lt_add1 lt_self1 size_ne size_ne' size_ne1 size_ne1'
theorem turned_fr {w w' : World} {b : Nat} (h : w.mapTurned w' b) : Fr w (fun k => k = b) w' (fun k => k = b) := by
  obtain ⟨es, c, es', c', hb, rfl⟩ := h
  refine ⟨rfl, rfl, rfl, by simp [setBlock], fun k hk hn => ?_, fun k hk => .inl hk⟩
  simp only [setBlock]
  rw [Array.getElem?_setIfInBounds_ne (fun e => hn e.symm)]
theorem grown_fr {w w' : World} {b : Nat} (h : w.grownBy w' (some b)) : Fr w (fun k => k = b) w' (fun k => k = b) :=
  ⟨h.os, h.tape, h.output, h.size, fun k hk hn => h.block k hk (fun e => hn (by simpa using e)), fun k hk => .inl hk⟩
/-- a clock's block, its row elsewhere. -/
def CkBlk (w : World) (c m : Nat) (v : Value) (hd mo : Nat) : Prop := w.heap[c]? = some (.cells #[v, .map (some m), .int .i64 hd, .int .i64 mo] 53 (0, 0))
set_option maxHeartbeats 2000000 in
theorem lay_any (c m : Nat) (v v' : Value) (hd mo n hand : Nat) (f : Int → Option Int) (row : List CE) (w : World) (hB : CkBlk w c m v hd mo) (hM : MapI w m n f) (hcm : c ≠ m)
    (hown : w.ownsRow 0 55 3 v' row.length (row.flatMap ec)) (hc : v'.ownBlock ≠ some c) (hm : v'.ownBlock ≠ some m) (hlen : row.length ≤ 1000) (hk : ∀ k ∈ keys row, i64ok k) (hnd : (keys row).Nodup) :
    Calls Try.prog 19 #[.pointer (some ⟨c, 0, none⟩), v', .int .i64 hand] w fun e w' => (∃ u, e = .returned u) ∧ CkBlk w' c m v' (if row.length ≤ hand then 0 else hand) mo ∧ MapI w' m row.length (kF (keys row)) ∧ Fr w (fun b => b = c ∨ b = m) w' (fun b => b = c ∨ b = m) := by
  obtain ⟨A, cp, rfl, _, _⟩ := SlAt.of_own hown
  have c0 := cell_of_row w c 0 _ _ (0, 0) hB
  have c1 := cell_of_row w c 1 _ _ (0, 0) hB
  have c2 := cell_of_row w c 2 _ _ (0, 0) hB
  have hlt := (Array.getElem?_eq_some_iff.1 hB).1
  have hfz : ∀ o, w.frozen? ⟨c, o, none⟩ = false := fun o => by unfold CkBlk at hB; simp [World.frozen?, hB]
  have f0 := hfz 0
  have f2 := hfz 2
  simp only [List.getElem?_toArray, List.getElem?_cons_zero, List.getElem?_cons_succ] at c0 c1 c2
  have hcm' : ¬ m = c := fun e => hcm e.symm
  have HH := Lib.hid (And.intro hB (And.intro hM (And.intro hown (And.intro hc (And.intro hm (And.intro hk hnd))))))
  clear hfz hB hM hown hc hm hk hnd
  have hk1 : ∀ hand' : Nat, Hid (CkBlk ((w.setCell ⟨c, 0, none⟩ (.slice A row.length cp)).setCell ⟨c, 2, none⟩ (.int .i64 hand')) c m (.slice A row.length cp) hand' mo) := fun hand' => by
    refine Lib.hid ?_
    have h1 := heap_setCell_same w c 0 _ _ (.slice A row.length cp) HH.out.1
    have h2 := heap_setCell_same _ c 2 _ _ (.int .i64 hand') h1
    unfold CkBlk
    rw [h2]
    simp
  go_enter Try.func19, Try.ntmps19
  have hset : ∀ (W : World) (o : Nat) (u : Value), Fr w (fun b => b = c ∨ b = m) W (fun b => b = c ∨ b = m) → MapI W m n f → W.ownsRow 0 55 3 (.slice A row.length cp) row.length (row.flatMap ec) →
      Fr w (fun b => b = c ∨ b = m) (W.setCell ⟨c, o, none⟩ u) (fun b => b = c ∨ b = m) ∧ MapI (W.setCell ⟨c, o, none⟩ u) m n f ∧ (W.setCell ⟨c, o, none⟩ u).ownsRow 0 55 3 (.slice A row.length cp) row.length (row.flatMap ec) :=
    fun W o u h1 h2 h3 => ⟨h1.trans (fr_cell (F := fun b => b = c ∨ b = m) (.inl rfl)), h2.fr (fr_cell (F := fun b => b = c) rfl) hcm', own_setCell h3 HH.out.2.2.2.1 _⟩
  have HS := Lib.hid hset
  clear hset
  go_upto_region 3 with fail
  all_goals
    refine world_as (fun W => Hid (CkBlk W c m (.slice A row.length cp) (if row.length ≤ hand then 0 else hand) mo ∧ Fr w (fun b => b = c ∨ b = m) W (fun b => b = c ∨ b = m) ∧ MapI W m n f ∧ W.ownsRow 0 55 3 (.slice A row.length cp) row.length (row.flatMap ec))) ?_ ?_
    · have a1 := HS.out w 0 (.slice A row.length cp) (Fr.refl _ _) HH.out.2.1 HH.out.2.2.1
      have a2 := HS.out _ 2 (.int .i64 hand) a1.1 a1.2.1 a1.2.2
      first
        | (rw [if_pos (by assumption)]
           have a3 := HS.out _ 2 (.int .i64 (0 : Nat)) a2.1 a2.2.1 a2.2.2
           refine Lib.hid ⟨?_, a3⟩
           have h2 := heap_setCell_same _ c 2 _ _ (.int .i64 (0 : Nat)) (hk1 hand).out
           unfold CkBlk
           exact h2.trans (by simp))
        | (rw [if_neg (by assumption)]
           exact Lib.hid ⟨(hk1 hand).out, a2⟩)
    intro W HW
    have d1 := cell_of_row W c 1 _ _ (0, 0) HW.out.1
    have dlt := (Array.getElem?_eq_some_iff.1 HW.out.1).1
    simp only [List.getElem?_toArray, List.getElem?_cons_zero, List.getElem?_cons_succ] at d1
    obtain ⟨W2, hcl, hM2, hT2⟩ := MapI.clear HW.out.2.2.1
    have HT := Lib.hid (And.intro hM2 hT2)
    clear hM2 hT2 c0 c1 c2 f0 f2 hlt hk1 HS
    have hfT := turned_fr HT.out.2
    have HQ := Lib.hid (show CkBlk W2 c m (.slice A row.length cp) (if row.length ≤ hand then 0 else hand) mo ∧ Fr w (fun b => b = c ∨ b = m) W2 (fun b => b = c ∨ b = m) ∧ W2.ownsRow 0 55 3 (.slice A row.length cp) row.length (row.flatMap ec) ∧ MapI W2 m 0 (fun _ => none) from
      ⟨hfT.block HW.out.1 hcm, HW.out.2.1.trans (hfT.weaken (fun b hb => .inr hb) (fun b hb => .inr hb)), hfT.own HW.out.2.2.2 (fun b hb e => HH.out.2.2.2.2.1 (e ▸ hb)), HT.out.1⟩)
    clear hfT
    go_wp2_with fail
    clear hcl HT d1 dlt HW
    go_loopw [29] (fun i wr => ∃ k : Nat, k ≤ row.length ∧ i = .int .i64 k ∧ Hid (MapI wr m k (kF (keys (row.take k))) ∧ Fr W2 (fun b => b = m) wr (fun b => b = m))) (fun i _ => row.length - (intOf i).toNat)
    case atStart => exact ⟨0, Nat.zero_le _, rfl, Lib.hid ⟨HQ.out.2.2.2, Fr.refl _ _⟩⟩
    case round =>
      obtain ⟨k, hk, rfl, HB⟩ := hrel
      by_cases hks : k < row.length
      · obtain ⟨e, he⟩ : ∃ e, row[k]? = some e := ⟨_, List.getElem?_eq_getElem hks⟩
        have hks' : (k : Int) < row.length := by omega
        obtain ⟨g, cp', e1, _, hg⟩ := World.ownsRow.form HQ.out.2.2.1 (by omega)
        obtain ⟨rfl, rfl⟩ : A = some ⟨g, 0, none⟩ ∧ cp = cp' := by simpa using e1
        have hgm : ¬ g = m := fun e => HH.out.2.2.2.2.1 (by rw [e]; rfl)
        obtain ⟨d0, d1, d2, dg⟩ := row_cells HQ.out.2.2.1 he
        have hb := HB.out.2
        have b0 := (hb.cell dg hgm (k * 3)).trans d0
        have b1 := (hb.cell dg hgm (k * 3 + 1)).trans d1
        have b2 := (hb.cell dg hgm (k * 3 + 2)).trans d2
        have bg := hb.lt dg
        have c1 := cell_of_row wr c 1 _ _ (0, 0) (hb.block HQ.out.1 hcm)
        have hlt := (Array.getElem?_eq_some_iff.1 (hb.block HQ.out.1 hcm)).1
        simp only [List.getElem?_toArray, List.getElem?_cons_zero, List.getElem?_cons_succ] at c1
        have hkey : i64ok e.key := HH.out.2.2.2.2.2.1 _ (List.mem_map_of_mem (List.mem_of_getElem? he))
        have hi64 : i64ok (k : Int) := i64ok_of (by omega) (by omega)
        have hkt := kF_take HH.out.2.2.2.2.2.2 (keys_get he)
        have htk : ∀ j, (keys row).take j = keys (row.take j) := fun j => by simp [keys, List.map_take]
        rw [htk, htk] at hkt
        have HK := Lib.hid hkt
        clear d0 d1 d2 e1 hb hkt htk
        go_upto_region 7 with fail
        have hw7 : Below wr.heap.size wr (wr.alloc (.cells #[.int .i64 e.key, .string e.val, .bool e.used] 55)).drew := ((Below.refl _ _).alloc (Nat.le_refl _) _).drew
        obtain ⟨W8, hput, hM8, hG8⟩ := (HB.out.1.below hw7).put (by omega) hkey hi64
        have H8 := Lib.hid (show MapI W8 m (k + 1) (kF (keys (row.take (k + 1)))) ∧ Fr W2 (fun b => b = m) W8 (fun b => b = m) from ⟨by rw [HK.out]; exact hM8, (HB.out.2.trans (Fr.of_below hw7)).trans (grown_fr hG8)⟩)
        clear hM8 hG8 hw7 hkey hi64
        go_region
        go_wp2_with fail
        go_roundw
        case rel => exact ⟨k + 1, by omega, by go_num, H8⟩
        case measure => simp [intOf]; omega
      · have hks' : ¬ ((k : Int) < row.length) := by omega
        have htk : row.take k = row := List.take_of_length_le (by omega)
        have hkk : k = row.length := by omega
        rw [htk, hkk] at HB
        have hfin : CkBlk wr c m (.slice A row.length cp) (if row.length ≤ hand then 0 else hand) mo := HB.out.2.block HQ.out.1 hcm
        first | rw [if_pos (by assumption)] at hfin | rw [if_neg (by assumption)] at hfin
        have HF := Lib.hid hfin
        clear hfin
        go_wp2_with fail
        go_end0
        exact ⟨⟨_, rfl⟩, HF.out, HB.out.1, HQ.out.2.1.trans (HB.out.2.weaken (fun b hb => .inr hb) (fun b hb => .inr hb))⟩
end Go.Proofs.Ytohjhbhbpflokaa.Ck
