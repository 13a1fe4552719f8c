
/- A buffer that only grows: what is read of it. -/
import Derived.Test.YtkcocdpmangcgaaBufA
import Derived.Laws.Slices
import Derived.Laws.Strings2
import Derived.Laws.Strings3
namespace Go.Proofs.Ytkcocdpmangcgaa.Buf
set_option linter.unusedSimpArgs false
set_option linter.unusedVariables false
open Go Go.RowKit Go.Lib
open Go.Proofs.Ytkcocdpmangcgaa.Vec (SlI)
attribute [local go_sem] lt_add1 lt_self1 size_ne size_ne' size_ne1 size_ne1'

def atV (S : ByteArray) (i : Int) : Int := if 0 ≤ i ∧ i < S.size then ((S.data.toList.getD i.toNat 0).toNat : Int) else 0
def atB (S : ByteArray) (i : Int) : Bool := decide (0 ≤ i ∧ i < S.size)
theorem slice_nil (off k : Int) (w : World) : Calls Try.prog 83 #[.pointer none, .int .i64 off, .int .i64 k] w fun e w' => e = .returned (.tuple #[.string ⟨#[]⟩, .bool false]) ∧ w = w' := by
  go_enter Try.func83, Try.ntmps83
  go_wp2_with fail
  refine (there_nil _ _ _).mono ?_
  rintro e w' ⟨rfl, rfl⟩
  go_wp2
  go_ret2
  exact ⟨rfl, rfl⟩

def sliceV (S : ByteArray) (off k : Int) : ByteArray := if thereB S.size off k then S.extract off.toNat (off.toNat + k.toNat) else ⟨#[]⟩
theorem bytes_ext {x y : ByteArray} (h : x.data.toList = y.data.toList) : x = y := by
  obtain ⟨⟨a⟩⟩ := x
  obtain ⟨⟨b⟩⟩ := y
  simp at h
  rw [h]
theorem ofNat_byte (b : UInt8) : UInt8.ofNat (((b.toNat : Nat) : Int).toNat) = b := by simp
theorem strOfNums_extract (S : ByteArray) (o m : Nat) : strOfNums (((S.data.toList.drop o).take m).map fun b => ((b.toNat : Nat) : Int)) = S.extract o (o + m) := by
  refine bytes_ext ?_
  rw [strOfNums_data, List.map_map]
  have e : ((fun n : Int => UInt8.ofNat n.toNat) ∘ fun b : UInt8 => ((b.toNat : Nat) : Int)) = id := by funext b; exact ofNat_byte b
  rw [e, List.map_id]
  simp [ByteArray.data_extract, List.drop_take, Nat.add_sub_cancel_left]
theorem conv_piece (S : ByteArray) (o m : Nat) (hom : o + m ≤ S.size) (w : World) (b c : Nat) (hcs : ∀ i, i < S.size → w.cell? ⟨b, i, none⟩ = some ((strCells S).getD i undef)) :
    (convert 82 9 (.slice (some ⟨b, o, none⟩) m c)).run Try.prog w = .ok (.string (S.extract o (o + m))) w := by
  have hl : S.data.toList.length = S.size := rfl
  have := run_convert_bytes_arg (P := Try.prog) w 82 5 Try.underlying82 Try.underlying5 b o m c (((S.data.toList.drop o).take m).map fun b => ((b.toNat : Nat) : Int)) (by simp; omega) (fun i hi => by
    rw [hcs (o + i) (by omega), strCells_getD S (o + i) (by omega)]
    have h1 : i < ((S.data.toList.drop o).take m).length := by simp; omega
    have h2 : o + i < S.data.toList.length := by omega
    simp only [List.getD, List.getElem?_map, List.getElem?_eq_getElem h1, List.getElem?_eq_getElem h2, Option.map_some, Option.getD_some]
    congr 3
    simp) 9 Try.underlying9
  rw [strOfNums_extract] at this
  exact this

set_option maxRecDepth 100000 in
set_option maxHeartbeats 1000000 in
theorem slice_any (g : Nat) (rb rf : Option Nat) (S : ByteArray) (F : List Int) (off k : Int) (w : World) (h : Buf w g rb rf S F) (hS : S.size ≤ 1000000) :
    Calls Try.prog 83 #[.pointer (some ⟨g, 0, none⟩), .int .i64 off, .int .i64 k] w fun e w' => e = .returned (.tuple #[.string (sliceV S off k), .bool (thereB S.size off k)]) ∧ w = w' := by
  have H := Lib.hid h
  obtain ⟨A, c, A', c', h1, h2, hc, hc', ho, _, _, _⟩ := h.open_
  have HO := Lib.hid ho
  clear h ho
  have HT := Lib.hid (there_any _ _ _ _ _ off k _ H.out (by omega))
  cases hth : thereB S.size off k
  · rw [hth] at HT
    have e1 : sliceV S off k = ⟨#[]⟩ := by simp [sliceV, hth]
    rw [e1]
    go_enter Try.func83, Try.ntmps83
    go_wp2_with fail
    refine HT.out.mono ?_
    rintro e w' ⟨rfl, rfl⟩
    go_wp2
    go_ret2
    exact ⟨rfl, rfl⟩
  · have hr : 0 ≤ off ∧ 0 ≤ k ∧ off ≤ S.size ∧ k ≤ S.size - off := by simp [thereB] at hth; omega
    obtain ⟨o, rfl⟩ : ∃ o : Nat, off = o := ⟨off.toNat, by omega⟩
    obtain ⟨m, rfl⟩ : ∃ m : Nat, k = m := ⟨k.toNat, by omega⟩
    rw [hth] at HT
    have e1 : sliceV S o m = S.extract o (o + m) := by simp [sliceV, hth]
    rw [e1]
    have hw : IntKind.i64.wrap ((o : Int) + m) = o + m := IntWalk.i64_in _ (by omega)
    have hom : o + m ≤ S.size := by omega
    clear hth e1
    rcases HO.out.2 with ⟨hnil, h0⟩ | ⟨b, cap, cur, hsome, _, hh, _⟩
    · injection hnil with ha _ hc0
      subst ha hc0
      rw [h0] at h1
      obtain rfl : o = 0 := by omega
      obtain rfl : m = 0 := by omega
      have e2 : S.extract 0 (0 + 0) = ⟨#[]⟩ := bytes_ext (by simp [ByteArray.data_extract])
      rw [e2]
      have hconv := run_convert_bytes_nil (P := Try.prog) w 82 5 Try.underlying82 Try.underlying5 0 0 9 Try.underlying9
      go_enter Try.func83, Try.ntmps83
      go_wp2_with fail
      refine HT.out.mono ?_
      rintro e w' ⟨rfl, rfl⟩
      go_wp2
      go_ret2
      exact ⟨rfl, rfl⟩
    · cases hsome
      have hcs : ∀ i, i < S.size → w.cell? ⟨b, i, none⟩ = some ((strCells S).getD i undef) := fun i hi => by
        obtain ⟨b', e, _, hcs⟩ := own_cells HO.out (by omega)
        cases e
        exact hcs i hi
      by_cases hoc : o = c
      · obtain rfl : m = 0 := by omega
        have hconv := conv_piece S 0 0 (by omega) w b 0 hcs
        have e2 : S.extract 0 (0 + 0) = S.extract o (o + 0) := bytes_ext (by simp [ByteArray.data_extract])
        rw [e2] at hconv
        generalize S.extract o (o + 0) = X at hconv ⊢
        clear hcs
        subst hoc
        go_enter Try.func83, Try.ntmps83
        go_wp2_with fail
        refine HT.out.mono ?_
        rintro e w' ⟨rfl, rfl⟩
        go_wp2
        go_ret2
        exact ⟨rfl, rfl⟩
      · have hconv := conv_piece S o m hom w b (c - o) hcs
        generalize S.extract o (o + m) = X at hconv ⊢
        clear hcs
        go_enter Try.func83, Try.ntmps83
        go_wp2_with fail
        refine HT.out.mono ?_
        rintro e w' ⟨rfl, rfl⟩
        go_wp2
        go_ret2
        exact ⟨rfl, rfl⟩
end Go.Proofs.Ytkcocdpmangcgaa.Buf
