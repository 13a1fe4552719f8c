/- PackBack: the walk of the statement itself, over the given contracts. -/
import Derived.Test.YtghghioidllgiaaPKx1
import Derived.Test.YtghghioidllgiaaPkY
import Derived.Test.YtghghioidllgiaaFunC
import Derived.Deep.AppendLies
import Derived.Deep.DeepCutAuto
import Derived.RegionTactic
import Derived.ChangeAlike
namespace Go.Proofs.Ytghghioidllgiaa.KBack
set_option linter.unusedSimpArgs false
set_option linter.unusedVariables false
open Go.RowKit Go.Proofs.Ytghghioidllgiaa.PK Go.Proofs.YtghghioidllgiaaW.PrintWords Go.Proofs.YtghghioidllgiaaW.PrintLast Go.Proofs.YtghghioidllgiaaW.PrintMore
set_option linter.unusedVariables false

theorem C_take {α : Type} {d : Kd α} {w : World} {A : Option Addr} {xs : List α} (h : d.C w A xs.length xs) (n : Nat) (hn : n ≤ xs.length) : d.C w A n (xs.take n) := by
  refine ⟨by rw [List.length_take]; omega, by have := h.2.1; omega, fun h0 => ?_⟩
  obtain ⟨ad, e, hc⟩ := h.2.2 (by omega)
  refine ⟨ad, e, fun j p hj => hc j p ?_⟩
  have hlt : j < n := by have := (List.getElem?_eq_some_iff.1 hj).1; rw [List.length_take] at this; omega
  rwa [List.getElem?_take_of_lt hlt] at hj

theorem get_ok {n : Nat} {T : List Int} {H : List Bool} {M : List Int} (hR : Vec.Right n n T) (hT : T.length = n) (hH : H.length = n) (hM : ∀ x ∈ M, 0 ≤ x ∧ x < 256) (hl : M.length ≤ 60) :
    pack_Get.f ((Pk.pack n T H).map (fun x : Nat => (x : Int)) ++ M) = some (T, H, ((Pk.pack n T H).length : Int), 0) := by
  have hb : byts ((Pk.pack n T H).map (fun x : Nat => (x : Int)) ++ M) = Pk.pack n T H ++ byts M := by
    unfold byts
    rw [List.map_append, List.map_map]
    simp [Function.comp_def]
  have hM2 : ∀ x ∈ byts M, x < 256 := fun x hx => by
    unfold byts at hx
    obtain ⟨y, hy, rfl⟩ := List.mem_map.1 hx
    have := hM y hy
    omega
  have hpb := Pk.pack_byte n T H hR.2.1 (by simpa using hR.2.2.2)
  have hs := Pk.siz_le n hR.2.1
  have hpl := Pk.pack_length n T H hT
  have hB : Pk.Byt (Pk.pack n T H ++ byts M) := Pk.Byt.of _ fun x hx => by
    rcases List.mem_append.1 hx with h | h
    · exact hpb x h
    · exact hM2 x h
  unfold pack_Get.f
  rw [if_pos ⟨fun x hx => by
    rcases List.mem_append.1 hx with h | h
    · obtain ⟨y, hy, rfl⟩ := List.mem_map.1 h
      have := hpb y hy
      omega
    · exact hM x h, by rw [List.length_append, List.length_map]; omega⟩, hb, Pk.put_get hR hT hH hM2, if_pos rfl, Pk.put_cnt hR.2.1, Pk.put_Ts hT (fun s h => (hR.2.2.2 s h).1) hB, Pk.put_Hs hT hH, hpl]
theorem get_few {n : Nat} {T : List Int} {H : List Bool} (hR : Vec.Right n n T) (hT : T.length = n) :
    pack_Get.f (((Pk.pack n T H).map (fun x : Nat => (x : Int))).take ((Pk.pack n T H).length - 1)) = some ([], [], 0, 10) := by
  have hb : byts (((Pk.pack n T H).map (fun x : Nat => (x : Int))).take ((Pk.pack n T H).length - 1)) = (Pk.pack n T H).take ((Pk.pack n T H).length - 1) := by
    unfold byts
    rw [← List.map_take, List.map_map]
    simp [Function.comp_def]
  have hpb := Pk.pack_byte n T H hR.2.1 (by simpa using hR.2.2.2)
  have hs := Pk.siz_le n hR.2.1
  have hpl := Pk.pack_length n T H hT
  unfold pack_Get.f
  rw [if_pos ⟨fun x hx => by
    obtain ⟨y, hy, rfl⟩ := List.mem_map.1 (List.mem_of_mem_take hx)
    have := hpb y hy
    omega, by rw [List.length_take, List.length_map]; omega⟩, hb, Pk.put_less hR.1 hR.2.1 hT]
  rfl

set_option maxHeartbeats 4000000 in
set_option maxRecDepth 100000 in
theorem back_calls (T : List Int) (H : List Bool) (A B : Option Addr) (c d : Nat) (M0 : List Int) (Am : Option Addr) (cm : Nat) (w : World) (hf : Vec.FunC w A c B d T H)
    (hr0 : Kd.C (Kd.int .u8) w Am M0.length M0) (hc0 : M0.length ≤ cm) (hM0 : ∀ x ∈ M0, 0 ≤ x ∧ x < 256) :
    Calls Try.prog 4 #[.agg #[.slice A T.length c, .slice B H.length d], .slice Am M0.length cm] w fun e w' => e = .returned (.bool true) ∧ Below w.heap.size w w' := by
  obtain ⟨Q, hQ, hQ60, hQm⟩ : ∃ Q : Nat, Q ≤ M0.length ∧ Q ≤ 60 ∧ min (M0.length : Int) 60 = (Q : Int) := ⟨min M0.length 60, by omega, by omega, by omega⟩
  have HF := Lib.hid hf
  have HR := Lib.hid (C_take hr0 Q hQ)
  have HM := Lib.hid (show ∀ x ∈ M0.take Q, 0 ≤ x ∧ x < 256 from fun x hx => hM0 x (List.mem_of_mem_take hx))
  have HL := Lib.hid (show (M0.take Q).length = Q by rw [List.length_take]; omega)
  have hcQ : Q ≤ cm := by omega
  clear hr0 hM0 hf
  generalize M0.take Q = M at HR HM HL
  have hq0 : (0 : Int) ≤ Q := by omega
  have hq1 : (Q : Int) ≤ cm := by omega
  go_enter Try.func4, Try.ntmps4
  go_wp2_with fail
  have hx : (w.alloc (.cells #[.slice A T.length c, .slice B H.length d] 27)).cell? ⟨w.heap.size, 0, none⟩ = some (.slice A T.length c) := World.cell?_alloc_new w _ _ 0
  have hx1 : (w.alloc (.cells #[.slice A T.length c, .slice B H.length d] 27)).cell? ⟨w.heap.size, 1, none⟩ = some (.slice B H.length d) := World.cell?_alloc_new w _ _ 1
  have HB0 := Lib.hid (show Below w.heap.size w (w.alloc (.cells #[.slice A T.length c, .slice B H.length d] 27)) from (Below.refl _ _).alloc (Nat.le_refl _) _)
  have hz : w.heap.size < (w.alloc (.cells #[.slice A T.length c, .slice B H.length d] 27)).heap.size := by simp
  generalize w.alloc (.cells #[.slice A T.length c, .slice B H.length d] 27) = W0 at hx hx1 HB0 hz ⊢
  refine (tattinglaw17_awake.calls true _ rfl).mono ?_
  rintro e w1 ⟨rfl, hb⟩
  have hx := (hb.cell (p := ⟨w.heap.size, 0, none⟩) hz).trans hx
  have hx1 := (hb.cell (p := ⟨w.heap.size, 1, none⟩) hz).trans hx1
  have hz := Nat.lt_of_lt_of_le hz hb.size
  have HB1 := Lib.hid (HB0.out.trans (hb.mono HB0.out.size))
  clear hb HB0
  by_cases c1 : (600 : Int) < T.length
  · go_wp2_with fail
    go_ret
    exact ⟨rfl, HB1.out⟩
  by_cases c2 : (600 : Int) < H.length
  · go_wp2_with fail
    go_ret
    exact ⟨rfl, HB1.out⟩
  by_cases hg : Pk.gerr (byts M) = 0
  rotate_left
  · have hgf : pack_Get.f M = some ([], [], 0, (Pk.gerr (byts M) : Int)) := by
      unfold pack_Get.f
      rw [if_pos ⟨HM.out, by rw [HL.out]; omega⟩, if_neg hg]
    have hge : ¬ (Pk.gerr (byts M) : Int) = 0 := by omega
    generalize (Pk.gerr (byts M) : Int) = er at hgf hge
    have HGF := Lib.hid hgf
    have hge' : (er == 0) = false := by simp [hge]
    clear hgf hg
    go_wp2_with fail
    refine (calls_at_len (L := M) HL.out (pack_Get.calls Am cm M _ _ _ _ _ (by rw [HL.out]; exact Kd.C_below HR.out HB1.out) (by rw [HL.out]; exact hcQ) HGF.out)).mono ?_
    rintro e w2 ⟨v2, u2, rfl, hr, hs, hb⟩
    obtain ⟨A2, d2, rfl⟩ := Kd.R_slice hr
    obtain ⟨B2, g2, rfl⟩ := Kd.R_slice hs
    have hx := (hb.cell (p := ⟨w.heap.size, 0, none⟩) hz).trans hx
    have hx1 := (hb.cell (p := ⟨w.heap.size, 1, none⟩) hz).trans hx1
    have hz := Nat.lt_of_lt_of_le hz hb.size
    have HB2 := Lib.hid (HB1.out.trans (hb.mono HB1.out.size))
    clear hr hs hb HB1
    go_upto_region 7 with fail
    have hb := (Below.refl w2.heap.size w2).alloc (Nat.le_refl _) (.cells #[.slice A2 0 d2, .slice B2 0 g2] 27)
    have hx := (hb.cell (p := ⟨w.heap.size, 0, none⟩) hz).trans hx
    have hx1 := (hb.cell (p := ⟨w.heap.size, 1, none⟩) hz).trans hx1
    have hz := Nat.lt_of_lt_of_le hz hb.size
    have HB2 := Lib.hid (HB2.out.trans (hb.mono HB2.out.size))
    clear hb
    generalize w2.alloc (.cells #[.slice A2 0 d2, .slice B2 0 g2] 27) = w2 at hx hx1 hz HB2 ⊢
    go_wp2_with fail
    have HT := Lib.hid (And.intro c1 c2)
    by_cases hR : Vec.Right T.length H.length T
    rotate_left
    · refine (pack_Put.calls A c T B d H [] 3 _ (Kd.C_below HF.out.1 HB2.out) HF.out.2.1 (Kd.C_below HF.out.2.2.1 HB2.out) HF.out.2.2.2 (by unfold pack_Put.f; rw [if_neg hR])).mono ?_
      rintro e w3 ⟨v3, rfl, hr, hb⟩
      obtain ⟨A3, c3, rfl⟩ := Kd.R_slice hr
      have HB3 := Lib.hid (HB2.out.trans (hb.mono HB2.out.size))
      clear hb hr
      go_wp2_with fail
      go_ret
      exact ⟨rfl, HB3.out⟩
    have hHT : H.length = T.length := hR.2.2.1
    have hget := get_ok (H := H) (by rw [hHT] at hR; exact hR) rfl hHT HM.out (by rw [HL.out]; exact hQ60)
    have hfew := get_few (H := H) (by rw [hHT] at hR; exact hR) rfl
    obtain ⟨p, hp⟩ : ∃ p, (Pk.pack T.length T H).length = p + 1 := ⟨(Pk.pack T.length T H).length - 1, by rw [Pk.pack_length _ _ _ rfl]; unfold Pk.siz; omega⟩
    have hp2 : p ≤ 10000 := by have := Pk.pack_length T.length T H rfl; have := Pk.siz_le T.length hR.2.1; omega
    have hPL : ((Pk.pack T.length T H).map (fun x : Nat => (x : Int))).length = p + 1 := by rw [List.length_map, hp]
    rw [hp] at hget hfew
    have HHT := Lib.hid hHT
    clear hHT
    refine (pack_Put.calls A c T B d H ((Pk.pack T.length T H).map (fun x : Nat => (x : Int))) 0 _ (Kd.C_below HF.out.1 HB2.out) HF.out.2.1 (Kd.C_below HF.out.2.2.1 HB2.out) HF.out.2.2.2 (by unfold pack_Put.f; rw [if_pos hR])).mono ?_
    rintro e w3 ⟨v3, rfl, hr, hb⟩
    generalize (Pk.pack T.length T H).map (fun x : Nat => (x : Int)) = P at hget hfew hPL hr
    obtain ⟨A3, c3, e3, hc3, hC3⟩ := Kd.R_reads hr
    rw [hPL] at e3 hc3 hC3
    subst e3
    have hx := (hb.cell (p := ⟨w.heap.size, 0, none⟩) hz).trans hx
    have hx1 := (hb.cell (p := ⟨w.heap.size, 1, none⟩) hz).trans hx1
    have hz := Nat.lt_of_lt_of_le hz hb.size
    have HB3 := Lib.hid (HB2.out.trans (hb.mono HB2.out.size))
    have HC3 := Lib.hid (And.intro hc3 hC3)
    have HG := Lib.hid (And.intro hget hfew)
    have HPL := Lib.hid hPL
    clear hb hr hc3 hC3 HB2 hget hfew hPL hp
    go_upto_region 14 with fail
    have hown0 : (w3.alloc (.cells #[] 5)).ownsRow w3.heap.size 5 1 (.slice (some ⟨w3.heap.size, 0, none⟩) 0 0) ([] : List Int).length (nums .u8 []) := by
      have := World.ownsRow_lit (base := w3.heap.size) (e := 5) (size := 1) w3 #[] 0 (by omega) (by unfold maxLen; omega) rfl
      simpa [nums] using this
    have HO0 := Lib.hid hown0
    have HFR := Lib.hid (show ReadsInt (w3.alloc (.cells #[] 5)) .u8 A3 (p + 1) P from ReadsInt.allocS (readsInt_of.2 (Kd.reads_of_C HC3.out.2)) _)
    clear hown0
    go_wp2_with (at_builtin; refine print_append_row (w0 := w3) w3.heap.size rfl _ _ 22 5 .u8 1 rfl Try.underlying22 ?c1 (by decide) _ [] P _ _ _ rfl rfl HO0.out HFR.out ?c2 ?c3 ?c4 ?_)
    case c1 => exact info5
    case c2 => exact (Below.refl _ _).alloc (by omega) _
    case c3 => simp
    case c4 => simp; omega
    intro v4 w4 hown hb _ hat
    have hlt4 : w3.heap.size ≤ w4.heap.size := hb.size
    have HO4 := Lib.hid hown
    have HB4 := Lib.hid hb
    have HM4 := Lib.hid (show ReadsInt w4 .u8 Am Q M from readsInt_of.2 (Kd.reads_of_C (Kd.C_below HR.out ((HB3.out.trans (hb.mono HB3.out.size))))))
    clear hown hb hat HO0 HFR
    go_wp2_with (at_builtin; refine print_append_row (w0 := w3) w3.heap.size rfl _ _ 22 5 .u8 1 rfl Try.underlying22 ?c1 (by decide) _ P M _ _ _ rfl rfl HO4.out HM4.out HB4.out ?c3 ?c4 ?_)
    case c1 => exact info5
    case c3 => omega
    case c4 => have := HPL.out; omega
    intro v5 w5 hown hb _ hat
    have hlt5 : w3.heap.size ≤ w5.heap.size := hb.size
    have hown' : w5.ownsRow w3.heap.size 5 1 v5 (P ++ M).length (encs (Value.int .u8) (P ++ M)) := by
      rw [List.length_append]
      exact hown
    obtain ⟨A5, c5, e5, hc5, hC5⟩ := Kd.R_reads (Kd.R_of_own (enc := Value.int .u8) (h1 := fun _ => rfl) (ok := fun _ => True) hown' (fun _ _ => trivial))
    have hC5 : (Kd.int .u8).C w5 A5 (P ++ M).length (P ++ M) := hC5
    rw [List.length_append] at e5
    subst e5
    clear hown'
    have hx := (hb.cell (p := ⟨w.heap.size, 0, none⟩) hz).trans hx
    have hx1 := (hb.cell (p := ⟨w.heap.size, 1, none⟩) hz).trans hx1
    have hz := Nat.lt_of_lt_of_le hz hb.size
    have HC3 := Lib.hid (And.intro HC3.out.1 (Kd.C_below HC3.out.2 hb))
    have HC5 := Lib.hid (And.intro hc5 hC5)
    have HB5 := Lib.hid (HB3.out.trans (hb.mono HB3.out.size))
    clear hown hb hat HO4 HB4 HM4 HB3 hc5 hC5
    go_wp2_with fail
    refine (calls_at_len (L := P ++ M) List.length_append (pack_Get.calls A5 c5 (P ++ M) T H _ _ _ HC5.out.2 HC5.out.1 HG.out.1)).mono ?_
    rintro e w6 ⟨v6, u6, rfl, hr, hs, hb⟩
    obtain ⟨A6, c6, rfl, hc6, hC6⟩ := Kd.R_reads hr
    obtain ⟨B6, d6, rfl, hd6, hD6⟩ := Kd.R_reads hs
    have hx := (hb.cell (p := ⟨w.heap.size, 0, none⟩) hz).trans hx
    have hx1 := (hb.cell (p := ⟨w.heap.size, 1, none⟩) hz).trans hx1
    have hz := Nat.lt_of_lt_of_le hz hb.size
    have HC3 := Lib.hid (And.intro HC3.out.1 (Kd.C_below HC3.out.2 hb))
    have HC6 := Lib.hid (And.intro (And.intro hc6 hC6) (And.intro hd6 hD6))
    have HB6 := Lib.hid (HB5.out.trans (hb.mono HB5.out.size))
    clear hr hs hb hc6 hC6 hd6 hD6 HC5 HB5
    go_upto_region 15 with fail
    have hy : (w6.alloc (.cells #[.slice A6 T.length c6, .slice B6 H.length d6] 27)).cell? ⟨w6.heap.size, 0, none⟩ = some (.slice A6 T.length c6) := World.cell?_alloc_new w6 _ _ 0
    have hy1 : (w6.alloc (.cells #[.slice A6 T.length c6, .slice B6 H.length d6] 27)).cell? ⟨w6.heap.size, 1, none⟩ = some (.slice B6 H.length d6) := World.cell?_alloc_new w6 _ _ 1
    have hzy : w6.heap.size < (w6.alloc (.cells #[.slice A6 T.length c6, .slice B6 H.length d6] 27)).heap.size := by simp
    have hb := (Below.refl w6.heap.size w6).alloc (Nat.le_refl _) (.cells #[.slice A6 T.length c6, .slice B6 H.length d6] 27)
    have hx := (hb.cell (p := ⟨w.heap.size, 0, none⟩) hz).trans hx
    have hx1 := (hb.cell (p := ⟨w.heap.size, 1, none⟩) hz).trans hx1
    have hz := Nat.lt_of_lt_of_le hz hb.size
    have HC3 := Lib.hid (And.intro HC3.out.1 (Kd.C_below HC3.out.2 hb))
    have HC6 := Lib.hid (And.intro (And.intro HC6.out.1.1 (Kd.C_below HC6.out.1.2 hb)) (And.intro HC6.out.2.1 (Kd.C_below HC6.out.2.2 hb)))
    have HB7 := Lib.hid (HB6.out.trans (hb.mono HB6.out.size))
    generalize hgg : w6.heap.size = g at hy hy1 hzy ⊢
    generalize w6.alloc (.cells #[.slice A6 T.length c6, .slice B6 H.length d6] 27) = w7 at hx hx1 hz hy hy1 hzy HC3 HC6 HB7 ⊢
    clear hb HB6 hgg
    have hp0 : (0 : Int) ≤ (p : Int) := by omega
    have hp1 : (p : Int) ≤ c3 := by have := HC3.out.1; omega
    go_wp2_with fail
    have hl8 : (P.take p).length = p := by rw [List.length_take, HPL.out]; omega
    have hC8 : (Kd.int .u8).C w7 A3 p (P.take p) := C_take (by rw [HPL.out]; exact HC3.out.2) p (by rw [HPL.out]; omega)
    refine (calls_at_len (L := P.take p) hl8 (pack_Get.calls A3 c3 (P.take p) [] [] 0 10 w7 (by rw [hl8]; exact hC8) (by rw [hl8]; omega) HG.out.2)).mono ?_
    rintro e w8 ⟨v8, u8, rfl, hr, hs, hb⟩
    obtain ⟨A8, c8, rfl⟩ := Kd.R_slice hr
    obtain ⟨B8, d8, rfl⟩ := Kd.R_slice hs
    have hx := (hb.cell (p := ⟨w.heap.size, 0, none⟩) hz).trans hx
    have hx1 := (hb.cell (p := ⟨w.heap.size, 1, none⟩) hz).trans hx1
    have hz := Nat.lt_of_lt_of_le hz hb.size
    have hy := (hb.cell (p := ⟨g, 0, none⟩) hzy).trans hy
    have hy1 := (hb.cell (p := ⟨g, 1, none⟩) hzy).trans hy1
    have hzy := Nat.lt_of_lt_of_le hzy hb.size
    have HC6 := Lib.hid (And.intro (And.intro HC6.out.1.1 (Kd.C_below HC6.out.1.2 hb)) (And.intro HC6.out.2.1 (Kd.C_below HC6.out.2.2 hb)))
    have HB8 := Lib.hid (HB7.out.trans (hb.mono HB7.out.size))
    clear hr hs hb HB7 HC3 hC8 hl8
    go_upto_region 16 with fail
    have hb := (Below.refl w8.heap.size w8).alloc (Nat.le_refl _) (.cells #[.slice A8 0 c8, .slice B8 0 d8] 27)
    have hx := (hb.cell (p := ⟨w.heap.size, 0, none⟩) hz).trans hx
    have hx1 := (hb.cell (p := ⟨w.heap.size, 1, none⟩) hz).trans hx1
    have hy := (hb.cell (p := ⟨g, 0, none⟩) hzy).trans hy
    have hy1 := (hb.cell (p := ⟨g, 1, none⟩) hzy).trans hy1
    have HC6 := Lib.hid (And.intro (And.intro HC6.out.1.1 (Kd.C_below HC6.out.1.2 hb)) (And.intro HC6.out.2.1 (Kd.C_below HC6.out.2.2 hb)))
    have HB9 := Lib.hid (HB8.out.trans (hb.mono HB8.out.size))
    generalize w8.alloc (.cells #[.slice A8 0 c8, .slice B8 0 d8] 27) = w9 at hx hx1 hy hy1 HC6 HB9 ⊢
    clear hb HB8 hz hzy
    go_wp2_with fail
    refine (tattingref16_Same.calls A c T B d H A6 c6 T B6 d6 H true _ (Kd.C_below HF.out.1 HB9.out) HF.out.2.1 (Kd.C_below HF.out.2.2.1 HB9.out) HF.out.2.2.2 HC6.out.1.2 HC6.out.1.1 HC6.out.2.2 HC6.out.2.1 (by unfold tattingref16_Same.f; have := HT.out; rw [if_pos ⟨by omega, by omega, by omega, by omega⟩]; simp)).mono ?_
    rintro e w10 ⟨rfl, hb⟩
    have HB10 := Lib.hid (HB9.out.trans (hb.mono HB9.out.size))
    clear hb HB9
    go_wp2_with fail
    go_ret
    exact ⟨rfl, HB10.out⟩
  · obtain ⟨hR0, hpk, hle⟩ := Pk.get_put (byts_byt HM.out) hg
    have hgf : pack_Get.f M = some (Pk.getTs (byts M) (Pk.cnt (byts M)), Pk.getHs (byts M) (Pk.cnt (byts M)), (Pk.siz (Pk.cnt (byts M)) : Int), 0) := by
      unfold pack_Get.f
      rw [if_pos ⟨HM.out, by rw [HL.out]; omega⟩, if_pos hg]
    have hpf : pack_Put.f (Pk.getTs (byts M) (Pk.cnt (byts M))) (Pk.getHs (byts M) (Pk.cnt (byts M))) = some (M.take (Pk.siz (Pk.cnt (byts M))), 0) := by
      unfold pack_Put.f
      rw [Pk.getTs_length, Pk.getHs_length, if_pos hR0, hpk]
      unfold byts
      rw [← List.map_take, List.map_map]
      have : (M.take (Pk.siz (Pk.cnt (M.map Int.toNat)))).map ((fun x : Nat => (x : Int)) ∘ Int.toNat) = M.take (Pk.siz (Pk.cnt (M.map Int.toNat))) := by
        conv => rhs; rw [← List.map_id (M.take (Pk.siz (Pk.cnt (M.map Int.toNat))))]
        refine List.map_congr_left fun x hx => ?_
        have := (HM.out x (List.mem_of_mem_take hx)).1
        simp only [Function.comp, id]
        omega
      rw [this]
    rw [byts_length, HL.out] at hle
    generalize Pk.siz (Pk.cnt (byts M)) = S at hgf hpf hle
    generalize Pk.getTs (byts M) (Pk.cnt (byts M)) = Tz at hgf hpf
    generalize Pk.getHs (byts M) (Pk.cnt (byts M)) = Hz at hgf hpf
    have HGF := Lib.hid (And.intro hgf hpf)
    have hSl : (M.take S).length = S := by rw [List.length_take, HL.out]; omega
    have HSL := Lib.hid hSl
    have hS0 : (0 : Int) ≤ S := by omega
    have hS1 : (S : Int) ≤ cm := by omega
    have HRS := Lib.hid (C_take (by rw [HL.out]; exact HR.out) S (by rw [HL.out]; exact hle))
    clear hgf hpf hg hR0 hpk hSl
    go_wp2_with fail
    refine (calls_at_len (L := M) HL.out (pack_Get.calls Am cm M _ _ _ _ _ (by rw [HL.out]; exact Kd.C_below HR.out HB1.out) (by rw [HL.out]; exact hcQ) HGF.out.1)).mono ?_
    rintro e w2 ⟨v2, u2, rfl, hr, hs, hb⟩
    obtain ⟨A2, d2, rfl, hd2, hA2⟩ := Kd.R_reads hr
    obtain ⟨B2, g2, rfl, hg2, hB2⟩ := Kd.R_reads hs
    have hx := (hb.cell (p := ⟨w.heap.size, 0, none⟩) hz).trans hx
    have hx1 := (hb.cell (p := ⟨w.heap.size, 1, none⟩) hz).trans hx1
    have hz := Nat.lt_of_lt_of_le hz hb.size
    have HB2 := Lib.hid (HB1.out.trans (hb.mono HB1.out.size))
    have HZ := Lib.hid (And.intro (And.intro hd2 hA2) (And.intro hg2 hB2))
    clear hr hs hb HB1 hd2 hA2 hg2 hB2
    go_upto_region 7 with fail
    have hy : (w2.alloc (.cells #[.slice A2 Tz.length d2, .slice B2 Hz.length g2] 27)).cell? ⟨w2.heap.size, 0, none⟩ = some (.slice A2 Tz.length d2) := World.cell?_alloc_new w2 _ _ 0
    have hy1 : (w2.alloc (.cells #[.slice A2 Tz.length d2, .slice B2 Hz.length g2] 27)).cell? ⟨w2.heap.size, 1, none⟩ = some (.slice B2 Hz.length g2) := World.cell?_alloc_new w2 _ _ 1
    have hb := (Below.refl w2.heap.size w2).alloc (Nat.le_refl _) (.cells #[.slice A2 Tz.length d2, .slice B2 Hz.length g2] 27)
    have hx := (hb.cell (p := ⟨w.heap.size, 0, none⟩) hz).trans hx
    have hx1 := (hb.cell (p := ⟨w.heap.size, 1, none⟩) hz).trans hx1
    have hz := Nat.lt_of_lt_of_le hz hb.size
    have HZ := Lib.hid (And.intro (And.intro HZ.out.1.1 (Kd.C_below HZ.out.1.2 hb)) (And.intro HZ.out.2.1 (Kd.C_below HZ.out.2.2 hb)))
    have HB2 := Lib.hid (HB2.out.trans (hb.mono HB2.out.size))
    clear hb
    generalize w2.alloc (.cells #[.slice A2 Tz.length d2, .slice B2 Hz.length g2] 27) = w3 at hx hx1 hy hy1 hz HZ HB2 ⊢
    generalize w2.heap.size = g at hy hy1 ⊢
    go_wp2_with fail
    refine (pack_Put.calls A2 d2 Tz B2 g2 Hz (M.take S) 0 _ HZ.out.1.2 HZ.out.1.1 HZ.out.2.2 HZ.out.2.1 HGF.out.2).mono ?_
    rintro e w4 ⟨v4, rfl, hr, hb⟩
    obtain ⟨A4, c4, e4, hc4, hC4⟩ := Kd.R_reads hr
    rw [HSL.out] at e4 hC4
    subst e4
    have hx := (hb.cell (p := ⟨w.heap.size, 0, none⟩) hz).trans hx
    have hx1 := (hb.cell (p := ⟨w.heap.size, 1, none⟩) hz).trans hx1
    have hz := Nat.lt_of_lt_of_le hz hb.size
    have HB4 := Lib.hid (HB2.out.trans (hb.mono HB2.out.size))
    have HCA := Lib.hid (fun (V : World) (hV : Below w4.heap.size w4 V) => Kd.C_string (P := Try.prog) Try.underlying22 Try.underlying5 Try.underlying9 (c := c4) (Kd.C_below hC4 hV))
    have HCB := Lib.hid (fun (V : World) (hV : Below w4.heap.size w4 V) => Kd.C_string (P := Try.prog) Try.underlying22 Try.underlying5 Try.underlying9 (c := cm) (Kd.C_below HRS.out (HB4.out.trans (hV.mono HB4.out.size))))
    clear hr hb hc4 hC4 HB2 hy hy1 HZ
    generalize strOfNums (M.take S) = str at HCA HCB
    go_upto_region 9 with fail
    refine wp_region_grow 11 (by kernel_rfl) (by kernel_rfl) ?_
    simp only [List.take_succ_cons, List.take_zero, List.drop_succ_cons, List.drop_zero, List.take_nil, List.drop_nil]
    iterate 4 ((refine wpGrow_val' rfl rfl ?_; apply Exists.intro; refine ⟨fun w1 hw1 => ?_, ?_⟩); (have hc1 := hw1.cell; go_simp; exact growUpon_ok rfl); (refine wpGrow_at (by (simp only [Act.put, List.setIfInBounds_toArray, List.set_cons_succ, List.set_cons_zero]) <;> exact rfl) ?_))
    (refine wpGrow_val' rfl rfl ?_; apply Exists.intro; refine ⟨fun w1 hw1 => ?_, ?_⟩)
    · have hcv := HCA.out w1 hw1.below
      go_simp
      exact growUpon_ok rfl
    (refine wpGrow_at (by (simp only [Act.put, List.setIfInBounds_toArray, List.set_cons_succ, List.set_cons_zero]) <;> exact rfl) ?_)
    iterate 3 ((refine wpGrow_val' rfl rfl ?_; apply Exists.intro; refine ⟨fun w1 hw1 => ?_, ?_⟩); (have hc1 := hw1.cell; go_simp; exact growUpon_ok rfl); (refine wpGrow_at (by (simp only [Act.put, List.setIfInBounds_toArray, List.set_cons_succ, List.set_cons_zero]) <;> exact rfl) ?_))
    (refine wpGrow_val' rfl rfl ?_; apply Exists.intro; refine ⟨fun w1 hw1 => ?_, ?_⟩)
    · have hcv := HCB.out w1 hw1.below
      go_simp
      exact growUpon_ok rfl
    (refine wpGrow_at (by (simp only [Act.put, List.setIfInBounds_toArray, List.set_cons_succ, List.set_cons_zero]) <;> exact rfl) ?_)
    iterate 2 ((refine wpGrow_val' rfl rfl ?_; apply Exists.intro; refine ⟨fun w1 hw1 => ?_, ?_⟩); (have hc1 := hw1.cell; go_simp; exact growUpon_ok rfl); (refine wpGrow_at (by (simp only [Act.put, List.setIfInBounds_toArray, List.set_cons_succ, List.set_cons_zero]) <;> exact rfl) ?_))
    refine wpGrow_nil ?_
    intro w2 hD
    have hb := hD.below
    have hx := (hb.cell (p := ⟨w.heap.size, 0, none⟩) hz).trans hx
    have hx1 := (hb.cell (p := ⟨w.heap.size, 1, none⟩) hz).trans hx1
    have hz := Nat.lt_of_lt_of_le hz hb.size
    have HB2 := Lib.hid (HB4.out.trans (hb.mono HB4.out.size))
    clear hD hb HB4 HCA HCB
    go_wp2_with fail
    have HT := Lib.hid (And.intro c1 c2)
    by_cases hR : Vec.Right T.length H.length T
    rotate_left
    · refine (pack_Put.calls A c T B d H [] 3 _ (Kd.C_below HF.out.1 HB2.out) HF.out.2.1 (Kd.C_below HF.out.2.2.1 HB2.out) HF.out.2.2.2 (by unfold pack_Put.f; rw [if_neg hR])).mono ?_
      rintro e w3 ⟨v3, rfl, hr, hb⟩
      obtain ⟨A3, c3, rfl⟩ := Kd.R_slice hr
      have HB3 := Lib.hid (HB2.out.trans (hb.mono HB2.out.size))
      clear hb hr
      go_wp2_with fail
      go_ret
      exact ⟨rfl, HB3.out⟩
    have hHT : H.length = T.length := hR.2.2.1
    have hget := get_ok (H := H) (by rw [hHT] at hR; exact hR) rfl hHT HM.out (by rw [HL.out]; exact hQ60)
    have hfew := get_few (H := H) (by rw [hHT] at hR; exact hR) rfl
    obtain ⟨p, hp⟩ : ∃ p, (Pk.pack T.length T H).length = p + 1 := ⟨(Pk.pack T.length T H).length - 1, by rw [Pk.pack_length _ _ _ rfl]; unfold Pk.siz; omega⟩
    have hp2 : p ≤ 10000 := by have := Pk.pack_length T.length T H rfl; have := Pk.siz_le T.length hR.2.1; omega
    have hPL : ((Pk.pack T.length T H).map (fun x : Nat => (x : Int))).length = p + 1 := by rw [List.length_map, hp]
    rw [hp] at hget hfew
    have HHT := Lib.hid hHT
    clear hHT
    refine (pack_Put.calls A c T B d H ((Pk.pack T.length T H).map (fun x : Nat => (x : Int))) 0 _ (Kd.C_below HF.out.1 HB2.out) HF.out.2.1 (Kd.C_below HF.out.2.2.1 HB2.out) HF.out.2.2.2 (by unfold pack_Put.f; rw [if_pos hR])).mono ?_
    rintro e w3 ⟨v3, rfl, hr, hb⟩
    generalize (Pk.pack T.length T H).map (fun x : Nat => (x : Int)) = P at hget hfew hPL hr
    obtain ⟨A3, c3, e3, hc3, hC3⟩ := Kd.R_reads hr
    rw [hPL] at e3 hc3 hC3
    subst e3
    have hx := (hb.cell (p := ⟨w.heap.size, 0, none⟩) hz).trans hx
    have hx1 := (hb.cell (p := ⟨w.heap.size, 1, none⟩) hz).trans hx1
    have hz := Nat.lt_of_lt_of_le hz hb.size
    have HB3 := Lib.hid (HB2.out.trans (hb.mono HB2.out.size))
    have HC3 := Lib.hid (And.intro hc3 hC3)
    have HG := Lib.hid (And.intro hget hfew)
    have HPL := Lib.hid hPL
    clear hb hr hc3 hC3 HB2 hget hfew hPL hp
    go_upto_region 14 with fail
    have hown0 : (w3.alloc (.cells #[] 5)).ownsRow w3.heap.size 5 1 (.slice (some ⟨w3.heap.size, 0, none⟩) 0 0) ([] : List Int).length (nums .u8 []) := by
      have := World.ownsRow_lit (base := w3.heap.size) (e := 5) (size := 1) w3 #[] 0 (by omega) (by unfold maxLen; omega) rfl
      simpa [nums] using this
    have HO0 := Lib.hid hown0
    have HFR := Lib.hid (show ReadsInt (w3.alloc (.cells #[] 5)) .u8 A3 (p + 1) P from ReadsInt.allocS (readsInt_of.2 (Kd.reads_of_C HC3.out.2)) _)
    clear hown0
    go_wp2_with (at_builtin; refine print_append_row (w0 := w3) w3.heap.size rfl _ _ 22 5 .u8 1 rfl Try.underlying22 ?c1 (by decide) _ [] P _ _ _ rfl rfl HO0.out HFR.out ?c2 ?c3 ?c4 ?_)
    case c1 => exact info5
    case c2 => exact (Below.refl _ _).alloc (by omega) _
    case c3 => simp
    case c4 => simp; omega
    intro v4 w4 hown hb _ hat
    have hlt4 : w3.heap.size ≤ w4.heap.size := hb.size
    have HO4 := Lib.hid hown
    have HB4 := Lib.hid hb
    have HM4 := Lib.hid (show ReadsInt w4 .u8 Am Q M from readsInt_of.2 (Kd.reads_of_C (Kd.C_below HR.out ((HB3.out.trans (hb.mono HB3.out.size))))))
    clear hown hb hat HO0 HFR
    go_wp2_with (at_builtin; refine print_append_row (w0 := w3) w3.heap.size rfl _ _ 22 5 .u8 1 rfl Try.underlying22 ?c1 (by decide) _ P M _ _ _ rfl rfl HO4.out HM4.out HB4.out ?c3 ?c4 ?_)
    case c1 => exact info5
    case c3 => omega
    case c4 => have := HPL.out; omega
    intro v5 w5 hown hb _ hat
    have hlt5 : w3.heap.size ≤ w5.heap.size := hb.size
    have hown' : w5.ownsRow w3.heap.size 5 1 v5 (P ++ M).length (encs (Value.int .u8) (P ++ M)) := by
      rw [List.length_append]
      exact hown
    obtain ⟨A5, c5, e5, hc5, hC5⟩ := Kd.R_reads (Kd.R_of_own (enc := Value.int .u8) (h1 := fun _ => rfl) (ok := fun _ => True) hown' (fun _ _ => trivial))
    have hC5 : (Kd.int .u8).C w5 A5 (P ++ M).length (P ++ M) := hC5
    rw [List.length_append] at e5
    subst e5
    clear hown'
    have hx := (hb.cell (p := ⟨w.heap.size, 0, none⟩) hz).trans hx
    have hx1 := (hb.cell (p := ⟨w.heap.size, 1, none⟩) hz).trans hx1
    have hz := Nat.lt_of_lt_of_le hz hb.size
    have HC3 := Lib.hid (And.intro HC3.out.1 (Kd.C_below HC3.out.2 hb))
    have HC5 := Lib.hid (And.intro hc5 hC5)
    have HB5 := Lib.hid (HB3.out.trans (hb.mono HB3.out.size))
    clear hown hb hat HO4 HB4 HM4 HB3 hc5 hC5
    go_wp2_with fail
    refine (calls_at_len (L := P ++ M) List.length_append (pack_Get.calls A5 c5 (P ++ M) T H _ _ _ HC5.out.2 HC5.out.1 HG.out.1)).mono ?_
    rintro e w6 ⟨v6, u6, rfl, hr, hs, hb⟩
    obtain ⟨A6, c6, rfl, hc6, hC6⟩ := Kd.R_reads hr
    obtain ⟨B6, d6, rfl, hd6, hD6⟩ := Kd.R_reads hs
    have hx := (hb.cell (p := ⟨w.heap.size, 0, none⟩) hz).trans hx
    have hx1 := (hb.cell (p := ⟨w.heap.size, 1, none⟩) hz).trans hx1
    have hz := Nat.lt_of_lt_of_le hz hb.size
    have HC3 := Lib.hid (And.intro HC3.out.1 (Kd.C_below HC3.out.2 hb))
    have HC6 := Lib.hid (And.intro (And.intro hc6 hC6) (And.intro hd6 hD6))
    have HB6 := Lib.hid (HB5.out.trans (hb.mono HB5.out.size))
    clear hr hs hb hc6 hC6 hd6 hD6 HC5 HB5
    go_upto_region 15 with fail
    have hy : (w6.alloc (.cells #[.slice A6 T.length c6, .slice B6 H.length d6] 27)).cell? ⟨w6.heap.size, 0, none⟩ = some (.slice A6 T.length c6) := World.cell?_alloc_new w6 _ _ 0
    have hy1 : (w6.alloc (.cells #[.slice A6 T.length c6, .slice B6 H.length d6] 27)).cell? ⟨w6.heap.size, 1, none⟩ = some (.slice B6 H.length d6) := World.cell?_alloc_new w6 _ _ 1
    have hzy : w6.heap.size < (w6.alloc (.cells #[.slice A6 T.length c6, .slice B6 H.length d6] 27)).heap.size := by simp
    have hb := (Below.refl w6.heap.size w6).alloc (Nat.le_refl _) (.cells #[.slice A6 T.length c6, .slice B6 H.length d6] 27)
    have hx := (hb.cell (p := ⟨w.heap.size, 0, none⟩) hz).trans hx
    have hx1 := (hb.cell (p := ⟨w.heap.size, 1, none⟩) hz).trans hx1
    have hz := Nat.lt_of_lt_of_le hz hb.size
    have HC3 := Lib.hid (And.intro HC3.out.1 (Kd.C_below HC3.out.2 hb))
    have HC6 := Lib.hid (And.intro (And.intro HC6.out.1.1 (Kd.C_below HC6.out.1.2 hb)) (And.intro HC6.out.2.1 (Kd.C_below HC6.out.2.2 hb)))
    have HB7 := Lib.hid (HB6.out.trans (hb.mono HB6.out.size))
    generalize hgg : w6.heap.size = g at hy hy1 hzy ⊢
    generalize w6.alloc (.cells #[.slice A6 T.length c6, .slice B6 H.length d6] 27) = w7 at hx hx1 hz hy hy1 hzy HC3 HC6 HB7 ⊢
    clear hb HB6 hgg
    have hp0 : (0 : Int) ≤ (p : Int) := by omega
    have hp1 : (p : Int) ≤ c3 := by have := HC3.out.1; omega
    go_wp2_with fail
    have hl8 : (P.take p).length = p := by rw [List.length_take, HPL.out]; omega
    have hC8 : (Kd.int .u8).C w7 A3 p (P.take p) := C_take (by rw [HPL.out]; exact HC3.out.2) p (by rw [HPL.out]; omega)
    refine (calls_at_len (L := P.take p) hl8 (pack_Get.calls A3 c3 (P.take p) [] [] 0 10 w7 (by rw [hl8]; exact hC8) (by rw [hl8]; omega) HG.out.2)).mono ?_
    rintro e w8 ⟨v8, u8, rfl, hr, hs, hb⟩
    obtain ⟨A8, c8, rfl⟩ := Kd.R_slice hr
    obtain ⟨B8, d8, rfl⟩ := Kd.R_slice hs
    have hx := (hb.cell (p := ⟨w.heap.size, 0, none⟩) hz).trans hx
    have hx1 := (hb.cell (p := ⟨w.heap.size, 1, none⟩) hz).trans hx1
    have hz := Nat.lt_of_lt_of_le hz hb.size
    have hy := (hb.cell (p := ⟨g, 0, none⟩) hzy).trans hy
    have hy1 := (hb.cell (p := ⟨g, 1, none⟩) hzy).trans hy1
    have hzy := Nat.lt_of_lt_of_le hzy hb.size
    have HC6 := Lib.hid (And.intro (And.intro HC6.out.1.1 (Kd.C_below HC6.out.1.2 hb)) (And.intro HC6.out.2.1 (Kd.C_below HC6.out.2.2 hb)))
    have HB8 := Lib.hid (HB7.out.trans (hb.mono HB7.out.size))
    clear hr hs hb HB7 HC3 hC8 hl8
    go_upto_region 16 with fail
    have hb := (Below.refl w8.heap.size w8).alloc (Nat.le_refl _) (.cells #[.slice A8 0 c8, .slice B8 0 d8] 27)
    have hx := (hb.cell (p := ⟨w.heap.size, 0, none⟩) hz).trans hx
    have hx1 := (hb.cell (p := ⟨w.heap.size, 1, none⟩) hz).trans hx1
    have hy := (hb.cell (p := ⟨g, 0, none⟩) hzy).trans hy
    have hy1 := (hb.cell (p := ⟨g, 1, none⟩) hzy).trans hy1
    have HC6 := Lib.hid (And.intro (And.intro HC6.out.1.1 (Kd.C_below HC6.out.1.2 hb)) (And.intro HC6.out.2.1 (Kd.C_below HC6.out.2.2 hb)))
    have HB9 := Lib.hid (HB8.out.trans (hb.mono HB8.out.size))
    generalize w8.alloc (.cells #[.slice A8 0 c8, .slice B8 0 d8] 27) = w9 at hx hx1 hy hy1 HC6 HB9 ⊢
    clear hb HB8 hz hzy
    go_wp2_with fail
    refine (tattingref16_Same.calls A c T B d H A6 c6 T B6 d6 H true _ (Kd.C_below HF.out.1 HB9.out) HF.out.2.1 (Kd.C_below HF.out.2.2.1 HB9.out) HF.out.2.2.2 HC6.out.1.2 HC6.out.1.1 HC6.out.2.2 HC6.out.2.1 (by unfold tattingref16_Same.f; have := HT.out; rw [if_pos ⟨by omega, by omega, by omega, by omega⟩]; simp)).mono ?_
    rintro e w10 ⟨rfl, hb⟩
    have HB10 := Lib.hid (HB9.out.trans (hb.mono HB9.out.size))
    clear hb HB9
    go_wp2_with fail
    go_ret
    exact ⟨rfl, HB10.out⟩
end Go.Proofs.Ytghghioidllgiaa.KBack
