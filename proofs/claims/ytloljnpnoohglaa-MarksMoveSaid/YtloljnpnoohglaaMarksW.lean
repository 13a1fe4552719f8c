/- The walks of package marks: what Shift, Move and Back compute; of any input. -/
import Derived.Test.YtloljnpnoohglaaProg
import Derived.WalkKit
import Derived.KernelRfl
import Derived.BigQuiet
import Derived.Deep.QuietTactic
import Derived.Test.YtloljnpnoohglaaKit
namespace Go.Proofs.Ytloljnpnoohglaa.Marks
set_option linter.unusedSimpArgs false
set_option linter.unusedVariables false
open Go.RowKit

def mv (m : Int) (r : Bool) (a o i : Int) : Int :=
  if m < a then m else if m = a ∧ r = false then m else if wrap64 (a + o) ≤ m then wrap64 (m + wrap64 (i - o)) else a

set_option maxHeartbeats 400000 in
theorem shift_any (m : Int) (r : Bool) (a o i : Int) (w : World) :
    Calls Try.prog 21 #[.agg #[.int .i64 m, .bool r], .int .i64 a, .int .i64 o, .int .i64 i] w fun e w' => e = .returned (.agg #[.int .i64 (mv m r a o i), .bool r]) ∧ Below w.heap.size w w' := by
  go_enter Try.func21, Try.ntmps21
  go_wp2
  all_goals
    refine bodyPost_ret (v := .agg #[.int .i64 (mv m r a o i), .bool r]) ?_ rfl ⟨rfl, ((Below.refl _ _).alloc (Nat.le_refl _) _).alloc (by simp) _⟩
    simp [results, Try.results21, go_sem]
    unfold mv
    (repeat' split) <;> simp_all <;> omega

set_option maxHeartbeats 400000 in
theorem move_any (m : Int) (r : Bool) (a o : Int) (s : ByteArray) (w : World) :
    Calls Try.prog 17 #[.agg #[.int .i64 m, .bool r], .agg #[.int .i64 a, .int .i64 o, .string s]] w fun e w' => e = .returned (.agg #[.int .i64 (mv m r a o s.size), .bool r]) ∧ Below w.heap.size w w' := by
  go_enter Try.func17, Try.ntmps17
  go_wp2_with (go_at_call 21; refine (shift_any _ _ _ _ _ _).mono ?_; rintro e w' ⟨rfl, hb⟩; obtain ⟨hc, hf⟩ := bcell hb; have hz : w.heap.size + 3 ≤ w'.heap.size := by have := hb.size; simp at this; omega)
  refine bodyPost_ret (v := .agg #[.int .i64 (mv m r a o s.size), .bool r]) (by simp [results, Try.results17, go_sem, hc]) rfl ⟨rfl, ?_⟩
  exact (((((((Below.refl _ _).alloc (Nat.le_refl _) _).alloc (by simp) _).alloc (by simp; omega) _).trans (hb.mono (by simp; omega)))).setCell (by simp; omega) _).setCell (by simp; omega) _

set_option maxHeartbeats 400000 in
theorem back_any (m : Int) (r : Bool) (a o : Int) (s : ByteArray) (w : World) :
    Calls Try.prog 18 #[.agg #[.int .i64 m, .bool r], .agg #[.int .i64 a, .int .i64 o, .string s]] w fun e w' => e = .returned (.agg #[.int .i64 (mv m r a s.size o), .bool r]) ∧ Below w.heap.size w w' := by
  go_enter Try.func18, Try.ntmps18
  go_wp2_with (go_at_call 21; refine (shift_any _ _ _ _ _ _).mono ?_; rintro e w' ⟨rfl, hb⟩; obtain ⟨hc, hf⟩ := bcell hb; have hz : w.heap.size + 3 ≤ w'.heap.size := by have := hb.size; simp at this; omega)
  refine bodyPost_ret (v := .agg #[.int .i64 (mv m r a s.size o), .bool r]) (by simp [results, Try.results18, go_sem, hc]) rfl ⟨rfl, ?_⟩
  exact (((((((Below.refl _ _).alloc (Nat.le_refl _) _).alloc (by simp) _).alloc (by simp; omega) _).trans (hb.mono (by simp; omega)))).setCell (by simp; omega) _).setCell (by simp; omega) _

/-- are all from 0 to below 2^60? -/
def nearB (l : List Int) : Bool := l.all fun x => decide (0 ≤ x ∧ x < 1152921504606846976)

theorem nearB_no {l : List Int} {k : Nat} (hk : k < l.length) (h : ¬ (0 ≤ l.getD k 0 ∧ l.getD k 0 < 1152921504606846976)) : nearB l = false := by
  unfold nearB
  rw [List.all_eq_false]
  refine ⟨l[k], List.getElem_mem hk, ?_⟩
  simpa [List.getD, hk] using h

theorem nearB_yes {l : List Int} (h : ∀ j, j < l.length → 0 ≤ l.getD j 0 ∧ l.getD j 0 < 1152921504606846976) : nearB l = true := by
  unfold nearB
  rw [List.all_eq_true]
  intro x hx
  obtain ⟨j, hj, rfl⟩ := List.mem_iff_getElem.1 hx
  have := h j hj
  simpa [List.getD, hj] using this

set_option maxHeartbeats 400000 in
theorem near_any (b : Nat) (l : List Int) (w : World) (hl : l.length ≤ 9223372036854775807) (hc : ∀ j, j < l.length → w.cell? ⟨b, j, none⟩ = some (.int .i64 (l.getD j 0))) :
    Calls Try.prog 16 #[.slice (some ⟨b, 0, none⟩) l.length l.length] w fun e w' => e = .returned (.bool (nearB l)) ∧ w = w' := by
  have HC := Lib.hid hc
  clear hc
  go_enter Try.func16, Try.ntmps16
  go_wp2
  go_loop [3] (fun i => ∃ k : Nat, k ≤ l.length ∧ i = .int .i64 k ∧ ∀ j, j < k → 0 ≤ l.getD j 0 ∧ l.getD j 0 < 1152921504606846976) (fun i => l.length - (intOf i).toNat)
  case atStart => exact ⟨0, Nat.zero_le _, rfl, fun j hj => absurd hj (by omega)⟩
  case round =>
    obtain ⟨k, hk, rfl, hall⟩ := hrel
    have HA := Lib.hid hall
    clear hall
    by_cases hlt : k < l.length
    · have hck := HC.out k hlt
      obtain ⟨x, hx⟩ : ∃ x, x = l.getD k 0 := ⟨_, rfl⟩
      rw [← hx] at hck
      have HX := Lib.hid hx
      clear hx
      by_cases h0 : x < 0
      · go_wp2
        go_ret
        exact ⟨ret_bool (nearB_no hlt (by rw [← HX.out]; omega)).symm, rfl⟩
      · by_cases h1 : 1152921504606846976 ≤ x
        · go_wp2
          go_ret
          exact ⟨ret_bool (nearB_no hlt (by rw [← HX.out]; omega)).symm, rfl⟩
        · go_wp2
          go_round
          case rel =>
            refine ⟨k + 1, by omega, by go_num, fun j hj => ?_⟩
            by_cases e : j = k
            · subst e; rw [← HX.out]; omega
            · exact HA.out j (by omega)
          case measure => simp [intOf]; omega
    · go_wp2
      go_ret
      exact ⟨ret_bool (nearB_yes (fun j hj => HA.out j (by omega))).symm, rfl⟩

end Go.Proofs.Ytloljnpnoohglaa.Marks
