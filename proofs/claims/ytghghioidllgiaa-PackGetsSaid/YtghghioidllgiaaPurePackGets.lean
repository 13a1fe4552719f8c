/- Of any bytes the program and the page tell the same function, how many bytes it has, and the same error; no condition beyond the statement's own. -/
import Derived.Test.YtghghioidllgiaaPKx1
import Derived.Test.YtghghioidllgiaaEv
namespace Go.Proofs.Ytghghioidllgiaa.Pure
set_option linter.unusedSimpArgs false
set_option linter.unusedVariables false
open Go.RowKit Go.Proofs.Ytghghioidllgiaa.PK Go.Proofs.YtghghioidllgiaaW.PrintWords Go.Proofs.YtghghioidllgiaaW.PrintLast Go.Proofs.YtghghioidllgiaaW.PrintMore Go.Proofs.Ytghghioidllgiaa.EvK

theorem PackGets : tattinglaw17_PackGets.Pure := by
  intro l0 _ _ hw
  have hB := wf_B hw
  have hmn : mn (l0.length : Int) 1500 = ((min l0.length 1500 : Nat) : Int) := by unfold mn; split <;> omega
  have hb : (∀ x ∈ l0.take (min l0.length 1500), 0 ≤ x ∧ x < 256) ∧ (l0.take (min l0.length 1500)).length ≤ 1000000 := ⟨hB.take _, by rw [List.length_take]; omega⟩
  unfold tattinglaw17_PackGets.f tattinglaw17_awake.f
  simp only [Option.bind_some, if_true]
  rw [hmn, Int.toNat_natCast, if_pos (by omega), if_pos (by omega)]
  unfold pack_Get.f tattingref17_Get.f
  rw [if_pos hb]
  simp only [Option.bind_some]
  have hsame : ∀ (T : List Int) (H : List Bool), T.length ≤ 1000000 → H.length ≤ 1000000 → tattingref16_Same.f T H T H = some true := fun T H h1 h2 => by
    unfold tattingref16_Same.f
    rw [if_pos ⟨by omega, by omega, by omega, by omega⟩]
    simp
  by_cases c : Pk.gerr (byts (l0.take (min l0.length 1500))) = 0
  · rw [if_pos c]
    have hk : Pk.cnt (byts (l0.take (min l0.length 1500))) ≤ 4096 := by
      have h := c
      unfold Pk.gerr at h
      by_cases c1 : (byts (l0.take (min l0.length 1500))).length < 2
      · rw [if_pos c1] at h; omega
      · rw [if_neg c1] at h
        by_cases c2 : Pk.cnt (byts (l0.take (min l0.length 1500))) = 0 ∨ 4096 < Pk.cnt (byts (l0.take (min l0.length 1500)))
        · rw [if_pos c2] at h; omega
        · omega
    rw [hsame _ _ (by rw [Pk.getTs_length]; omega) (by rw [Pk.getHs_length]; omega)]
    simp
  · rw [if_neg c]
    rw [hsame _ _ (by simp) (by simp)]
    simp
end Go.Proofs.Ytghghioidllgiaa.Pure
