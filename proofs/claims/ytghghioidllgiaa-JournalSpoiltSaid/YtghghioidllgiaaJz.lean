/- JournalSpoilt: the walk of the statement itself, over the printed contracts. -/
import Derived.Test.YtghghioidllgiaaJy
import Derived.Test.YtghghioidllgiaaJu
import Derived.Deep.AppendLies
import Derived.Deep.DeepCutAuto
namespace Go.Proofs.Ytghghioidllgiaa.JPure
set_option linter.unusedSimpArgs false
set_option linter.unusedVariables false
open Go.RowKit Go.Proofs.Ytghghioidllgiaa.PJ Go.Proofs.YtghghioidllgiaaW.PrintWords Go.Proofs.YtghghioidllgiaaW.PrintLast Go.Proofs.YtghghioidllgiaaW.PrintMore Go.Proofs.Ytghghioidllgiaa.Raw
set_option linter.unusedVariables false

theorem C_take {α : Type} {d : Kd α} {w : World} {A : Option Addr} {xs : List α} (h : d.C w A xs.length xs) (n : Nat) (hn : n ≤ xs.length) : d.C w A n (xs.take n) := by
  refine ⟨by rw [List.length_take]; omega, by have := h.2.1; omega, fun h0 => ?_⟩
  obtain ⟨ad, e, hc⟩ := h.2.2 (by omega)
  refine ⟨ad, e, fun j p hj => hc j p ?_⟩
  have hlt : j < n := by have := (List.getElem?_eq_some_iff.1 hj).1; rw [List.length_take] at this; omega
  rwa [List.getElem?_take_of_lt hlt] at hj
/-- Go's rest, made a place. -/
theorem place (a : Int) (n : Nat) (hn : 0 < n) : ∃ i : Nat, i < n ∧ (Int.tmod a (n : Int) + (n : Int)) % (n : Int) = (i : Int) ∧ -(n : Int) < Int.tmod a (n : Int) ∧ Int.tmod a (n : Int) < (n : Int) := by
  have h1 : -(n : Int) < Int.tmod a (n : Int) := by
    have := Int.lt_tmod_of_pos a (show (0 : Int) < (n : Int) by omega)
    omega
  have h2 : Int.tmod a (n : Int) < (n : Int) := Int.tmod_lt_of_pos a (by omega)
  have h3 := Int.emod_nonneg (Int.tmod a (n : Int) + (n : Int)) (show (n : Int) ≠ 0 by omega)
  have h4 := Int.emod_lt_of_pos (Int.tmod a (n : Int) + (n : Int)) (show (0 : Int) < (n : Int) by omega)
  exact ⟨((Int.tmod a (n : Int) + (n : Int)) % (n : Int)).toNat, by omega, by omega, h1, h2⟩

set_option maxHeartbeats 4000000 in
set_option maxRecDepth 100000 in
theorem spoilt_calls (X m : List S88) (A : Option Addr) (c : Nat) (a b by_ : Int) (w : World) (ha0 : -9223372036854775808 ≤ a) (ha1 : a < 9223372036854775808) (hb0 : -9223372036854775808 ≤ b) (hb1 : b < 9223372036854775808) (hy0 : 0 ≤ by_) (hy1 : by_ < 256)
    (hr0 : Kd.C k88 w A X.length X) (hc0 : X.length ≤ c) (k1 : Nat) (e1 : tattinglaw44_few.f k1 X = some m) (hm : m.length ≤ 10) (hs : ∀ r ∈ m, Small r ∧ Wide r) :
    Calls Try.prog 8 #[.slice A X.length c, .agg #[.int .i64 a, .int .i64 b], .int .u8 by_] w fun e w' => e = .returned (.bool true) ∧ Below w.heap.size w w' := by
  have E1 := Lib.hid e1
  have HR0 := Lib.hid hr0
  have HC0 := Lib.hid hc0
  have HS := Lib.hid hs
  clear e1 hr0 hc0 hs
  go_enter Try.func8, Try.ntmps8
  go_wp2_with fail
  have hx : (w.alloc (.cells #[.int .i64 a, .int .i64 b] 54)).cell? ⟨w.heap.size, 0, none⟩ = some (.int .i64 a) := World.cell?_alloc_new w _ _ 0
  have hx1 : (w.alloc (.cells #[.int .i64 a, .int .i64 b] 54)).cell? ⟨w.heap.size, 1, none⟩ = some (.int .i64 b) := World.cell?_alloc_new w _ _ 1
  have HB0 := Lib.hid (show Below w.heap.size w (w.alloc (.cells #[.int .i64 a, .int .i64 b] 54)) from (Below.refl _ _).alloc (Nat.le_refl _) _)
  have hz : w.heap.size < (w.alloc (.cells #[.int .i64 a, .int .i64 b] 54)).heap.size := by simp
  generalize w.alloc (.cells #[.int .i64 a, .int .i64 b] 54) = W0 at hx hx1 HB0 hz ⊢
  refine (tattinglaw44_awake.calls true _ rfl).mono ?_
  rintro e w1 ⟨rfl, hb⟩
  have hx := (hb.cell (p := ⟨w.heap.size, 0, none⟩) hz).trans hx
  have hx1 := (hb.cell (p := ⟨w.heap.size, 1, none⟩) hz).trans hx1
  have hz := Nat.lt_of_lt_of_le hz hb.size
  have HB1 := Lib.hid (HB0.out.trans (hb.mono HB0.out.size))
  clear hb
  go_wp2_with fail
  refine (tattinglaw44_few.calls k1 (fun k_ => k_ < w.heap.size) _ _ X m _ (Kd.V_mk HC0.out (Kd.F_below (Kd.C_F k88_heap HR0.out) HB1.out)) E1.out).mono ?_
  rintro e w2 ⟨v2, rfl, hN, hb⟩
  obtain ⟨Am, cm, rfl, hcm, hCm⟩ := Kd.N_reads hN
  have HM := Lib.hid (And.intro hcm hCm)
  have hx := (hb.cell (p := ⟨w.heap.size, 0, none⟩) hz).trans hx
  have hx1 := (hb.cell (p := ⟨w.heap.size, 1, none⟩) hz).trans hx1
  have hz := Nat.lt_of_lt_of_le hz hb.size
  have HB2 := Lib.hid (HB1.out.trans (hb.mono HB1.out.size))
  clear hN hb hcm hCm HB0 HB1
  by_cases c1 : m.length = 0
  · have c1' : ((m.length : Int) == 0) = true := beq_iff_eq.2 (by omega)
    rw [c1]
    go_wp2
    go_ret
    exact ⟨rfl, HB2.out⟩
  by_cases c2 : by_ = 0
  · subst c2
    have c1' : ((m.length : Int) == 0) = false := beq_eq_false_iff_ne.2 (by omega)
    go_wp2
    go_ret
    exact ⟨rfl, HB2.out⟩
  have c1' : ((m.length : Int) == 0) = false := beq_eq_false_iff_ne.2 (by omega)
  have c2' : (by_ == 0) = false := by simp [c2]
  obtain ⟨i, hi, hpl, hq1, hq2⟩ := place a m.length (by omega)
  have hn0 : ¬ (m.length : Int) = 0 := by omega
  have HP := Lib.hid hpl
  clear hpl
  go_upto_region 7 with fail
  rw [HP.out]
  clear hq1 hq2 hn0 HP
  have hmi : (m.take i).length = i := by rw [List.length_take]; omega
  have hmi1 : (m.take (i + 1)).length = i + 1 := by rw [List.length_take]; omega
  have hS : ∀ r ∈ m, Small r := fun r hr => (HS.out r hr).1
  have hP := fun j => Put_f (m.take j) (by rw [List.length_take]; omega) (fun r hr => hS r (List.mem_of_mem_take hr))
  obtain ⟨k2, e2⟩ := Ev.rounds (hP i)
  obtain ⟨k3, e3⟩ := Ev.rounds (hP (i + 1))
  obtain ⟨k4, e4⟩ := Ev.rounds (Put_f m (by omega) hS)
  have hbl := frames_le m hS
  have hfl := frame_length m[i]
  have hbd := body_length m[i]
  have hsm := hS m[i] (List.getElem_mem hi)
  have hs1 := hsm.1
  have hs2 := hsm.2
  have hup : ((m.take (i + 1)).flatMap frame).length = ((m.take i).flatMap frame).length + (frame m[i]).length := by
    rw [List.take_succ_eq_append_getElem hi, List.flatMap_append, List.length_append]
    simp
  obtain ⟨q, hq, hql, hq3, hq4⟩ := place b ((frame m[i]).length - 4) (by omega)
  have hle : ((m.take i).flatMap frame).length + (frame m[i]).length ≤ (m.flatMap frame).length := by
    have e0 : m.flatMap frame = (m.take i).flatMap frame ++ (frame m[i] ++ (m.drop (i + 1)).flatMap frame) := by
      conv => lhs; rw [← List.take_append_drop i m, List.drop_eq_getElem_cons hi]
      rw [List.flatMap_append, List.flatMap_cons]
    rw [e0]; simp
  have hget := fun y h1 h2 => get_spoilt m (by omega) HS.out i hi (4 + q) y (by omega) (by omega) h1 h2
  have hsame := same_f (m.take i) (by omega) (fun y hy => by have := (hS y (List.mem_of_mem_take hy)).1; omega)
  obtain ⟨k5, e5⟩ := Ev.rounds hsame
  have hFB := frames_B m
  have HGET := Lib.hid hget
  have HFB := Lib.hid hFB
  generalize (m.take i).flatMap frame = F0 at e2 hup hle HGET
  generalize (m.take (i + 1)).flatMap frame = F1 at e3 hup
  generalize m.flatMap frame = F at e4 hle hbl HGET HFB
  generalize (frame m[i]).length = L at hup hle hfl hq hql hq3 hq4
  have E2 := Lib.hid e2
  have E3 := Lib.hid e3
  have E4 := Lib.hid e4
  have E5 := Lib.hid e5
  have HMI := Lib.hid (And.intro hmi hmi1)
  have HUP := Lib.hid hup
  have HQ := Lib.hid hql
  have hL : 10 ≤ L ∧ L ≤ 130 := by omega
  have hi0 : (0 : Int) ≤ i := by omega
  have hi1 : (i : Int) < m.length := by omega
  have hi2 : (i : Int) ≤ cm := by have := HM.out.1; omega
  have hi3 : (i : Int) + 1 ≤ cm := by have := HM.out.1; omega
  clear e2 e3 e4 e5 hmi hmi1 hup hql hP hget hsame hFB hS hsm hfl hbd hs1 hs2
  go_wp2_with fail
  refine (calls_at_len (L := m.take i) HMI.out.1 (journal_Put.calls k2 _ _ (m.take i) F0 0 0 _ (by rw [HMI.out.1]; exact C_take HM.out.2 i (by omega)) (by rw [HMI.out.1]; omega) E2.out)).mono ?_
  rintro e w3 ⟨v3, rfl, hR, hb⟩
  obtain ⟨A3, c3, rfl⟩ := Kd.R_slice hR
  have hx1 := (hb.cell (p := ⟨w.heap.size, 1, none⟩) hz).trans hx1
  have hz := Nat.lt_of_lt_of_le hz hb.size
  have HM := Lib.hid (And.intro HM.out.1 (Kd.C_below HM.out.2 hb))
  have HB3 := Lib.hid (HB2.out.trans (hb.mono HB2.out.size))
  clear hR hb HB2 hx
  go_wp2_with fail
  refine (calls_at_len (L := m.take (i + 1)) HMI.out.2 (journal_Put.calls k3 _ _ (m.take (i + 1)) F1 0 0 _ (by rw [HMI.out.2]; exact C_take HM.out.2 (i + 1) (by omega)) (by rw [HMI.out.2]; omega) E3.out)).mono ?_
  rintro e w4 ⟨v4, rfl, hR, hb⟩
  obtain ⟨A4, c4, rfl⟩ := Kd.R_slice hR
  have hx1 := (hb.cell (p := ⟨w.heap.size, 1, none⟩) hz).trans hx1
  have hz := Nat.lt_of_lt_of_le hz hb.size
  have HM := Lib.hid (And.intro HM.out.1 (Kd.C_below HM.out.2 hb))
  have HB4 := Lib.hid (HB3.out.trans (hb.mono HB3.out.size))
  clear hR hb HB3
  go_wp2_with fail
  refine (journal_Put.calls k4 _ _ m F 0 0 _ HM.out.2 HM.out.1 E4.out).mono ?_
  rintro e w5 ⟨v5, rfl, hR, hb⟩
  obtain ⟨A5, c5, rfl⟩ := Kd.R_slice hR
  have HF := Lib.hid (Kd.R_reads' hR)
  have hx1 := (hb.cell (p := ⟨w.heap.size, 1, none⟩) hz).trans hx1
  have hz := Nat.lt_of_lt_of_le hz hb.size
  have HM := Lib.hid (And.intro HM.out.1 (Kd.C_below HM.out.2 hb))
  have HB5 := Lib.hid (HB4.out.trans (hb.mono HB4.out.size))
  clear hR hb HB4
  have hlF1 : (F1.length : Int) = (F0.length : Int) + (L : Int) := by have := HUP.out; omega
  generalize hNL : L - 4 = N at hq hq3 hq4 HQ
  have hLN : L = N + 4 := by omega
  subst hLN
  have hN0 : ¬ ((N : Int) = 0) := by omega
  go_upto_region 13 with fail
  rw [show (F0.length : Int) + ((N : Int) + 4) - (F0.length : Int) - 4 = (N : Int) by omega]
  go_upto_region 14 with fail
  have hqq : Int.tmod b (N : Int) % (N : Int) = (q : Int) := by have := HQ.out; rwa [Int.add_emod_right] at this
  rw [hqq, w64 ((F0.length : Int) + 4 + (q : Int)) (by omega) (by omega), show (F0.length : Int) + 4 + (q : Int) = ((F0.length + (4 + q) : Nat) : Int) by omega]
  have hPF : F0.length + (4 + q) < F.length := by omega
  clear hq3 hq4 hN0
  generalize F0.length + (4 + q) = p at HGET hPF ⊢
  have hp0 : (0 : Int) ≤ (p : Int) := by omega
  have hp1 : (p : Int) < F.length := by omega
  have hown0 : (w5.alloc (.cells #[] 5)).ownsRow w5.heap.size 5 1 (.slice (some ⟨w5.heap.size, 0, none⟩) 0 0) ([] : List Int).length (nums .u8 []) := by
    have := World.ownsRow_lit (base := w5.heap.size) (e := 5) (size := 1) w5 #[] 0 (by omega) (by unfold maxLen; omega) rfl
    simpa [nums] using this
  have HO0 := Lib.hid hown0
  have HFR := Lib.hid (show ReadsInt (w5.alloc (.cells #[] 5)) .u8 A5 F.length F from ReadsInt.allocS (readsInt_of.2 (Kd.reads_of_C HF.out.2.2)) _)
  clear hown0
  go_wp2_with (at_builtin; refine print_append_row (w0 := w5) w5.heap.size rfl _ _ 22 5 .u8 1 rfl Try.underlying22 ?c1 (by decide) _ [] F _ _ _ rfl rfl HO0.out HFR.out ?c2 ?c3 ?c4 ?_)
  case c1 => exact info5
  case c2 => exact below_alloc (Below.refl _ _) _
  case c3 => simp
  case c4 => simp; omega
  intro v6 w6 hown hb hg hat
  obtain ⟨g, cap, rfl, hbg, hlt⟩ := hown.form (by omega)
  have hcl : F.length ≤ cap := (Kd.R_reads' (Kd.R_of_own (enc := Value.int .u8) (h1 := fun _ => rfl) (ok := fun _ => True) hown (fun _ _ => trivial))).2.1
  have hcell := own_at hown (p : Int) hp0 hp1
  rw [Int.toNat_natCast] at hcell
  obtain ⟨hcell, hfz⟩ := hcell
  have hst := own_put hown (p : Int) (bits .xor .u8 (rd F (p : Int)) by_)
  rw [Int.toNat_natCast] at hst
  have HST := Lib.hid hst
  have HOWN := Lib.hid hown
  have HM5 := HM
  have HB6 := Lib.hid (HB5.out.trans (hb.mono HB5.out.size))
  have HB5s := HB5.out.size
  have hb56 := hb
  clear hst hown hat hg hb HO0 HFR HB5
  have hy : 0 ≤ bits .xor .u8 (rd F (p : Int)) by_ ∧ bits .xor .u8 (rd F (p : Int)) by_ < 256 ∧ bits .xor .u8 (rd F (p : Int)) by_ ≠ rd F (p : Int) := by
    have hr := HFB.out.rd (p : Int)
    obtain ⟨X, hX⟩ := Int.eq_ofNat_of_zero_le hr.1
    obtain ⟨Y, rfl⟩ := Int.eq_ofNat_of_zero_le hy0
    rw [hX] at hr ⊢
    rw [u8_xor_nat X Y (by omega) (by omega)]
    have hlt : X ^^^ Y < 2 ^ 8 := Nat.xor_lt_two_pow (by omega) (by omega)
    refine ⟨by omega, by omega, fun e => ?_⟩
    have e2 : X ^^^ Y = X := by omega
    have e3 : X ^^^ (X ^^^ Y) = X ^^^ X := by rw [e2]
    rw [← Nat.xor_assoc, Nat.xor_self, Nat.zero_xor] at e3
    exact c2 (by rw [e3]; rfl)
  have HY := Lib.hid hy
  clear hy
  go_upto_region 16 with fail
  have hbs : Below w5.heap.size w6 (w6.setCell ⟨g, p, none⟩ (.int .u8 (bits .xor .u8 (rd F (p : Int)) by_))) := (Below.refl _ _).setCell hbg _
  have HB7 := Lib.hid (HB6.out.trans (hbs.mono HB5s))
  generalize bits .xor .u8 (rd F (p : Int)) by_ = y at HST HY hbs HB7 ⊢
  generalize w6.setCell ⟨g, p, none⟩ (.int .u8 y) = w7 at HST hbs HB7 ⊢
  have HM7 := Lib.hid (And.intro HM5.out.1 (Kd.C_below HM5.out.2 (hb56.trans hbs)))
  obtain ⟨k6, e6⟩ := Ev.rounds (HGET.out y ⟨HY.out.1, HY.out.2.1⟩ HY.out.2.2)
  have hCs : (Kd.int .u8).C w7 (some ⟨g, 0, none⟩) (F.set p y).length (F.set p y) := by
    have := (Kd.R_reads' (Kd.R_of_own (enc := Value.int .u8) (h1 := fun _ => rfl) (ok := fun _ => True) HST.out (fun _ _ => trivial))).2.2
    exact this
  have HCS := Lib.hid hCs
  have HCL := Lib.hid hcl
  have E6 := Lib.hid e6
  clear hCs hcl e6 HGET HST HY HM HM5 hb56 hbs HB6 hPF hx1 hcell hfz
  go_wp2_with fail
  refine (calls_at_len (L := F.set p y) List.length_set (journal_Get.calls k6 _ _ (F.set p y) (m.take i) _ _ _ HCS.out (by rw [List.length_set]; exact HCL.out) E6.out)).mono ?_
  rintro e w8 ⟨v8, rfl, hR, hb⟩
  obtain ⟨A8, c8, e8, hc8, hC8⟩ := Kd.S_reads hR
  rw [HMI.out.1] at e8 hc8 hC8
  subst e8
  have HB8 := Lib.hid (HB7.out.trans (hb.mono HB7.out.size))
  have HM8 := Lib.hid (And.intro HM7.out.1 (Kd.C_below HM7.out.2 hb))
  have HC8 := Lib.hid (And.intro hc8 hC8)
  clear hR hb hc8 hC8 HM7 HB7
  have hsm : ∀ W : World, k88.C W A8 i (m.take i) → k88.C W Am m.length m → Calls Try.prog 23 #[.slice A8 i c8, .slice Am i cm] W fun e w' => e = .returned (.bool true) ∧ Below W.heap.size W w' := fun W q1 q2 => by
    have := tattingref43_Same.calls k5 A8 c8 (m.take i) Am cm (m.take i) true W (by rw [HMI.out.1]; exact q1) (by rw [HMI.out.1]; exact HC8.out.1) (by rw [HMI.out.1]; exact C_take q2 i (by omega)) (by rw [HMI.out.1]; omega) E5.out
    rwa [HMI.out.1] at this
  have HSM := Lib.hid hsm
  clear hsm
  go_wp2_with fail
  refine (HSM.out _ HC8.out.2 HM8.out.2).mono ?_
  rintro e w9 ⟨rfl, hb⟩
  have HB9 := Lib.hid (HB8.out.trans (hb.mono HB8.out.size))
  clear hb HB8
  go_wp2_with fail
  go_ret
  exact ⟨rfl, HB9.out⟩
end Go.Proofs.Ytghghioidllgiaa.JPure
