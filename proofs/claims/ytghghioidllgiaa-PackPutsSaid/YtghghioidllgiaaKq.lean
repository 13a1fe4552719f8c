/- Packed functions: which of two stands first; PackPuts, of plain lists. -/
import Derived.Test.YtghghioidllgiaaPKx4
import Derived.Test.YtghghioidllgiaaEv
import Derived.Test.YtghghioidllgiaaFunC
namespace Go.Proofs.Ytghghioidllgiaa.KPure
set_option linter.unusedSimpArgs false
set_option linter.unusedVariables false
open Go.RowKit Go.Proofs.Ytghghioidllgiaa.PK Go.Proofs.YtghghioidllgiaaW.PrintWords Go.Proofs.YtghghioidllgiaaW.PrintLast Go.Proofs.YtghghioidllgiaaW.PrintMore Go.Proofs.Ytghghioidllgiaa.EvK
set_option linter.unusedVariables false

def cmpI (x y : Int) : Int := if x < y then -1 else if x > y then 1 else 0
theorem cmp_f (x y : Int) : cmp_Compare_int.f x y = some (cmpI x y) := by
  unfold cmp_Compare_int.f cmp_isNaN_int.f cmpI
  simp only [bne_self_eq_false, Option.bind_some, Bool.false_eq_true, if_false]
  split
  · rfl
  · split <;> rfl
theorem cmpI_zero (x y : Int) : cmpI x y = 0 ↔ x = y := by unfold cmpI; split <;> (try split) <;> omega
theorem cmpI_neg (x y : Int) : cmpI y x = - cmpI x y := by unfold cmpI; repeat' split <;> omega
theorem cmpI_rng (x y : Int) : -1 ≤ cmpI x y ∧ cmpI x y ≤ 1 := by unfold cmpI; repeat' split <;> omega
theorem order_f (x y : Int) (h : x ≠ y) : tattingref17_order.f x y = some (cmpI x y) := by
  unfold tattingref17_order.f cmpI
  by_cases c : x < y
  · rw [if_pos c, if_pos c]
  · rw [if_neg c, if_neg c, if_pos (by omega)]
def bitI (b : Bool) : Int := if b then 1 else 0
theorem bit_f (b : Bool) : pack_bit.f b = some (bitI b) := by cases b <;> rfl
/-- the first difference of two rows. -/
def lexI : List Int → List Int → Int
  | x :: xs, y :: ys => if x = y then lexI xs ys else cmpI x y
  | _, _ => 0
def lexB : List Bool → List Bool → Int
  | x :: xs, y :: ys => if x = y then lexB xs ys else cmpI (bitI x) (bitI y)
  | _, _ => 0
theorem lexI_neg : ∀ xs ys, lexI ys xs = - lexI xs ys
  | [], [] => rfl
  | [], _ :: _ => rfl
  | _ :: _, [] => rfl
  | x :: xs, y :: ys => by
    unfold lexI
    by_cases e : x = y
    · rw [if_pos e, if_pos e.symm, lexI_neg xs ys]
    · rw [if_neg e, if_neg (fun h => e h.symm), cmpI_neg]
theorem lexB_neg : ∀ xs ys, lexB ys xs = - lexB xs ys
  | [], [] => rfl
  | [], _ :: _ => rfl
  | _ :: _, [] => rfl
  | x :: xs, y :: ys => by
    unfold lexB
    by_cases e : x = y
    · rw [if_pos e, if_pos e.symm, lexB_neg xs ys]
    · rw [if_neg e, if_neg (fun h => e h.symm), cmpI_neg]
theorem lexI_rng : ∀ xs ys, -1 ≤ lexI xs ys ∧ lexI xs ys ≤ 1
  | [], [] => by simp [lexI]
  | [], _ :: _ => by simp [lexI]
  | _ :: _, [] => by simp [lexI]
  | x :: xs, y :: ys => by
    unfold lexI
    split
    · exact lexI_rng xs ys
    · exact cmpI_rng x y
theorem lexB_rng : ∀ xs ys, -1 ≤ lexB xs ys ∧ lexB xs ys ≤ 1
  | [], [] => by simp [lexB]
  | [], _ :: _ => by simp [lexB]
  | _ :: _, [] => by simp [lexB]
  | x :: xs, y :: ys => by
    unfold lexB
    split
    · exact lexB_rng xs ys
    · exact cmpI_rng _ _
theorem lexI_zero : ∀ xs ys, xs.length = ys.length → (lexI xs ys = 0 ↔ xs = ys)
  | [], [], _ => by simp [lexI]
  | [], _ :: _, h => by simp at h
  | _ :: _, [], h => by simp at h
  | x :: xs, y :: ys, h => by
    unfold lexI
    by_cases e : x = y
    · rw [if_pos e, lexI_zero xs ys (by simpa using h)]
      simp [e]
    · rw [if_neg e, cmpI_zero]
      simp [e]
theorem lexB_zero : ∀ xs ys, xs.length = ys.length → (lexB xs ys = 0 ↔ xs = ys)
  | [], [], _ => by simp [lexB]
  | [], _ :: _, h => by simp at h
  | _ :: _, [], h => by simp at h
  | x :: xs, y :: ys, h => by
    unfold lexB
    by_cases e : x = y
    · rw [if_pos e, lexB_zero xs ys (by simpa using h)]
      simp [e]
    · rw [if_neg e, cmpI_zero]
      have : bitI x ≠ bitI y := by cases x <;> cases y <;> simp_all [bitI]
      simp [e, this]
/-- which of two functions stands first. -/
def cmpH (H H' : List Bool) : Int := if H.length = H'.length then lexB H H' else cmpI H.length H'.length
def cmpF (T : List Int) (H : List Bool) (T' : List Int) (H' : List Bool) : Int :=
  if T.length = T'.length then (if lexI T T' = 0 then cmpH H H' else lexI T T') else cmpI T.length T'.length
theorem cmpH_neg (H H' : List Bool) : cmpH H' H = - cmpH H H' := by
  unfold cmpH
  by_cases e : H.length = H'.length
  · rw [if_pos e, if_pos e.symm, lexB_neg]
  · rw [if_neg e, if_neg (fun h => e h.symm), cmpI_neg]
theorem cmpF_neg (T : List Int) (H : List Bool) (T' : List Int) (H' : List Bool) : cmpF T' H' T H = - cmpF T H T' H' := by
  unfold cmpF
  by_cases e : T.length = T'.length
  · rw [if_pos e, if_pos e.symm, lexI_neg T T']
    by_cases z : lexI T T' = 0
    · rw [if_pos z, if_pos (by omega), cmpH_neg]
    · rw [if_neg z, if_neg (by omega)]
  · rw [if_neg e, if_neg (fun h => e h.symm), cmpI_neg]
theorem cmpH_zero (H H' : List Bool) : cmpH H H' = 0 ↔ H = H' := by
  unfold cmpH
  by_cases e : H.length = H'.length
  · rw [if_pos e, lexB_zero _ _ e]
  · rw [if_neg e, cmpI_zero]
    exact ⟨fun h => absurd (by omega) e, fun h => by rw [h]⟩
theorem cmpF_zero (T : List Int) (H : List Bool) (T' : List Int) (H' : List Bool) : cmpF T H T' H' = 0 ↔ (T = T' ∧ H = H') := by
  unfold cmpF
  by_cases e : T.length = T'.length
  · rw [if_pos e]
    have := lexI_zero T T' e
    by_cases z : lexI T T' = 0
    · rw [if_pos z, cmpH_zero]
      exact ⟨fun h => ⟨this.1 z, h⟩, fun h => h.2⟩
    · rw [if_neg z]
      exact ⟨fun h => absurd h z, fun h => absurd (this.2 h.1) z⟩
  · rw [if_neg e, cmpI_zero]
    exact ⟨fun h => absurd (by omega) e, fun h => by rw [h.1]⟩
theorem cmpF_rng (T : List Int) (H : List Bool) (T' : List Int) (H' : List Bool) : -1 ≤ cmpF T H T' H' ∧ cmpF T H T' H' ≤ 1 := by
  unfold cmpF cmpH
  repeat' split
  all_goals first | exact lexB_rng _ _ | exact lexI_rng _ _ | exact cmpI_rng _ _

theorem drop_cons (l : List Int) (i : Nat) (h : i < l.length) : l.drop i = rd l (i : Int) :: l.drop (i + 1) := by rw [rd_get l i h]; exact List.drop_eq_getElem_cons h
theorem rdOf_get (l : List Bool) (i : Nat) (h : i < l.length) : rdOf false l (i : Int) = l[i] := by
  unfold rdOf
  rw [Int.toNat_natCast, List.getD, List.getElem?_eq_getElem h]
  rfl
theorem drop_consB (l : List Bool) (i : Nat) (h : i < l.length) : l.drop i = rdOf false l (i : Int) :: l.drop (i + 1) := by rw [rdOf_get l i h]; exact List.drop_eq_getElem_cons h

theorem Cmp_l1 (T T' : List Int) (H H' : List Bool) (e : H.length = H'.length) (hb : H.length ≤ 1000000) : ∀ (d i : Nat), H.length - i = d → i ≤ H.length →
    Ev (fun k => pack_Cmp.l1 k (H.length : Int) (i : Int) T H T' H') (lexB (H.drop i) (H'.drop i)) := by
  intro d
  induction d with
  | zero =>
    intro i hd hi
    refine Ev.succ ?_
    simp only [pack_Cmp.l1]
    refine Ev.neg (by omega) (Ev.at_ ?_)
    rw [List.drop_eq_nil_of_le (by omega)]
    rfl
  | succ d ih =>
    intro i hd hi
    refine Ev.succ ?_
    simp only [pack_Cmp.l1, bit_f, Option.bind_some, cmp_f]
    refine Ev.pos (by omega) (Ev.pos (by omega) (Ev.pos (by omega) (Ev.pos (by omega) ?_)))
    rw [drop_consB H i (by omega), drop_consB H' i (by omega)]
    unfold lexB
    by_cases c : rdOf false H (i : Int) = rdOf false H' (i : Int)
    · rw [if_pos c]
      refine Ev.pos ((cmpI_zero _ _).2 (by rw [c])) ?_
      rw [w64 _ (by omega) (by omega)]
      exact ih (i + 1) (by omega) (by omega)
    · rw [if_neg c]
      refine Ev.neg (fun h => c ?_) (Ev.now _)
      have := (cmpI_zero _ _).1 h
      revert this
      cases rdOf false H (i : Int) <;> cases rdOf false H' (i : Int) <;> simp [bitI]
theorem Cmp_l0 (T T' : List Int) (H H' : List Bool) (e : T.length = T'.length) (hb : T.length ≤ 1000000) (hh : H.length ≤ 1000000) : ∀ (d i : Nat), T.length - i = d → i ≤ T.length →
    Ev (fun k => pack_Cmp.l0 k (T.length : Int) (i : Int) T H T' H') (if lexI (T.drop i) (T'.drop i) = 0 then cmpH H H' else lexI (T.drop i) (T'.drop i)) := by
  intro d
  induction d with
  | zero =>
    intro i hd hi
    refine Ev.succ ?_
    simp only [pack_Cmp.l0, cmp_f, Option.bind_some]
    rw [List.drop_eq_nil_of_le (show T.length ≤ i by omega), List.drop_eq_nil_of_le (show T'.length ≤ i by omega), show lexI [] [] = 0 from rfl, if_pos rfl]
    refine Ev.neg (by omega) ?_
    unfold cmpH
    by_cases c : H.length = H'.length
    · rw [if_pos c]
      refine Ev.pos ((cmpI_zero _ _).2 (by omega)) ?_
      have := Cmp_l1 T T' H H' c hh H.length 0 (by omega) (by omega)
      simpa using this
    · rw [if_neg c]
      exact Ev.neg (fun h => c (by have := (cmpI_zero _ _).1 h; omega)) (Ev.now _)
  | succ d ih =>
    intro i hd hi
    refine Ev.succ ?_
    simp only [pack_Cmp.l0, cmp_f, Option.bind_some]
    refine Ev.pos (by omega) (Ev.pos (by omega) (Ev.pos (by omega) (Ev.pos (by omega) ?_)))
    rw [drop_cons T i (by omega), drop_cons T' i (by omega)]
    have hl : lexI (rd T (i : Int) :: T.drop (i + 1)) (rd T' (i : Int) :: T'.drop (i + 1)) = if rd T (i : Int) = rd T' (i : Int) then lexI (T.drop (i + 1)) (T'.drop (i + 1)) else cmpI (rd T (i : Int)) (rd T' (i : Int)) := rfl
    rw [hl]
    by_cases c : rd T (i : Int) = rd T' (i : Int)
    · rw [if_pos c]
      refine Ev.pos ((cmpI_zero _ _).2 c) ?_
      rw [w64 _ (by omega) (by omega)]
      exact ih (i + 1) (by omega) (by omega)
    · rw [if_neg c, if_neg (fun h => c ((cmpI_zero _ _).1 h))]
      exact Ev.neg (fun h => c ((cmpI_zero _ _).1 h)) (Ev.now _)
theorem Cmp_f (T T' : List Int) (H H' : List Bool) (hb : T.length ≤ 1000000) (hh : H.length ≤ 1000000) : Ev (fun k => pack_Cmp.f k T H T' H') (cmpF T H T' H') := by
  unfold pack_Cmp.f cmpF
  simp only [cmp_f, Option.bind_some]
  by_cases c : T.length = T'.length
  · rw [if_pos c]
    refine Ev.pos ((cmpI_zero _ _).2 (by omega)) ?_
    have := Cmp_l0 T T' H H' c hb hh T.length 0 (by omega) (by omega)
    simpa using this
  · rw [if_neg c]
    exact Ev.neg (fun h => c (by have := (cmpI_zero _ _).1 h; omega)) (Ev.now _)
theorem rCmp_l1 (T T' : List Int) (H H' : List Bool) (e : H.length = H'.length) (hb : H.length ≤ 1000000) : ∀ (d i : Nat), H.length - i = d → i ≤ H.length →
    Ev (fun k => tattingref17_Cmp.l1 k (i : Int) T H T' H') (lexB (H.drop i) (H'.drop i)) := by
  intro d
  induction d with
  | zero =>
    intro i hd hi
    refine Ev.succ ?_
    simp only [tattingref17_Cmp.l1]
    refine Ev.neg (by omega) (Ev.at_ ?_)
    rw [List.drop_eq_nil_of_le (by omega)]
    rfl
  | succ d ih =>
    intro i hd hi
    refine Ev.succ ?_
    simp only [tattingref17_Cmp.l1]
    refine Ev.pos (by omega) (Ev.pos (by omega) (Ev.pos (by omega) ?_))
    rw [drop_consB H i (by omega), drop_consB H' i (by omega)]
    unfold lexB
    have ih := ih (i + 1) (by omega) (by omega)
    rw [w64 _ (by omega) (by omega)]
    cases h1 : rdOf false H (i : Int) <;> cases h2 : rdOf false H' (i : Int)
    · exact Ev.neg (by decide) (by rw [if_pos rfl]; exact ih)
    · exact Ev.pos rfl (Ev.pos rfl (Ev.at_ rfl))
    · exact Ev.pos rfl (Ev.neg (by decide) (Ev.at_ rfl))
    · exact Ev.neg (by decide) (by rw [if_pos rfl]; exact ih)
theorem rCmp_l0 (T T' : List Int) (H H' : List Bool) (e : T.length = T'.length) (hb : T.length ≤ 1000000) (hh : H.length ≤ 1000000) : ∀ (d i : Nat), T.length - i = d → i ≤ T.length →
    Ev (fun k => tattingref17_Cmp.l0 k (i : Int) T H T' H') (if lexI (T.drop i) (T'.drop i) = 0 then cmpH H H' else lexI (T.drop i) (T'.drop i)) := by
  intro d
  induction d with
  | zero =>
    intro i hd hi
    refine Ev.succ ?_
    simp only [tattingref17_Cmp.l0]
    rw [List.drop_eq_nil_of_le (show T.length ≤ i by omega), List.drop_eq_nil_of_le (show T'.length ≤ i by omega), show lexI [] [] = 0 from rfl, if_pos rfl]
    refine Ev.neg (by omega) ?_
    unfold cmpH
    by_cases c : H.length = H'.length
    · rw [if_pos c]
      refine Ev.pos (by omega) ?_
      have := rCmp_l1 T T' H H' c hh H.length 0 (by omega) (by omega)
      simpa using this
    · rw [if_neg c, order_f _ _ (by omega)]
      exact Ev.neg (by omega) (Ev.now _)
  | succ d ih =>
    intro i hd hi
    refine Ev.succ ?_
    simp only [tattingref17_Cmp.l0]
    refine Ev.pos (by omega) (Ev.pos (by omega) (Ev.pos (by omega) ?_))
    rw [drop_cons T i (by omega), drop_cons T' i (by omega)]
    have hl : lexI (rd T (i : Int) :: T.drop (i + 1)) (rd T' (i : Int) :: T'.drop (i + 1)) = if rd T (i : Int) = rd T' (i : Int) then lexI (T.drop (i + 1)) (T'.drop (i + 1)) else cmpI (rd T (i : Int)) (rd T' (i : Int)) := rfl
    rw [hl]
    by_cases c : rd T (i : Int) = rd T' (i : Int)
    · rw [if_pos c]
      refine Ev.pos c ?_
      rw [w64 _ (by omega) (by omega)]
      exact ih (i + 1) (by omega) (by omega)
    · rw [if_neg c, if_neg (fun h => c ((cmpI_zero _ _).1 h)), order_f _ _ c]
      exact Ev.neg c (Ev.now _)
theorem rCmp_f (T T' : List Int) (H H' : List Bool) (hb : T.length ≤ 1000000) (hh : H.length ≤ 1000000) : Ev (fun k => tattingref17_Cmp.f k T H T' H') (cmpF T H T' H') := by
  unfold tattingref17_Cmp.f cmpF
  by_cases c : T.length = T'.length
  · rw [if_pos c]
    refine Ev.pos (by omega) ?_
    have := rCmp_l0 T T' H H' c hb hh T.length 0 (by omega) (by omega)
    simpa using this
  · rw [if_neg c, order_f _ _ (by omega)]
    exact Ev.neg (by omega) (Ev.now _)

theorem PackPuts (T : List Int) (H : List Bool) (T' : List Int) (H' : List Bool) : ∃ k, tattinglaw17_PackPuts.f k T H T' H' = some true := by
  refine Ev.rounds (g := fun k => tattinglaw17_PackPuts.f k T H T' H') ?_
  unfold tattinglaw17_PackPuts.f
  have hout : Ev (fun k => tattinglaw17_PackPuts.j0 k true T H T' H') true := by
    refine Ev.succ ?_
    simp only [tattinglaw17_PackPuts.j0]
    exact Ev.pos trivial (Ev.now _)
  refine Ev.bind (g := fun _ => tattinglaw17_awake.f) (Ev.now true) (Ev.pos rfl ?_)
  by_cases c1 : (T.length : Int) > 600
  · exact Ev.pos c1 hout
  by_cases c2 : (T'.length : Int) > 600
  · exact Ev.neg c1 (Ev.pos c2 hout)
  by_cases c3 : (H.length : Int) > 600
  · exact Ev.neg c1 (Ev.neg c2 (Ev.pos c3 hout))
  by_cases c4 : (H'.length : Int) > 600
  · refine Ev.neg c1 (Ev.neg c2 (Ev.neg c3 ?_))
    rw [decide_eq_true c4]
    exact hout
  refine Ev.neg c1 (Ev.neg c2 (Ev.neg c3 ?_))
  rw [decide_eq_false c4]
  refine Ev.succ ?_
  simp only [tattinglaw17_PackPuts.j0]
  refine Ev.neg (by decide) ?_
  have hput : ∃ x e, pack_Put.f T H = some (x, e) ∧ ((Vec.Right T.length H.length T ∧ e = 0 ∧ x = (Pk.pack T.length T H).map (fun x : Nat => (x : Int))) ∨ (¬ Vec.Right T.length H.length T ∧ e = 3 ∧ x = [])) := by
    unfold pack_Put.f
    by_cases c : Vec.Right T.length H.length T
    · exact ⟨_, _, if_pos c, .inl ⟨c, rfl, rfl⟩⟩
    · exact ⟨_, _, if_neg c, .inr ⟨c, rfl, rfl⟩⟩
  obtain ⟨x, e, hp, hpe⟩ := hput
  rw [hp]
  refine Ev.some_ ?_
  refine Ev.bind (Cmp_f T T' H H' (by omega) (by omega)) ?_
  refine Ev.bind (rCmp_f T T' H H' (by omega) (by omega)) (Ev.pos rfl ?_)
  refine Ev.bind (Cmp_f T' T H' H (by omega) (by omega)) ?_
  refine Ev.bind (Cmp_f T T' H H' (by omega) (by omega)) ?_
  have hr := cmpF_rng T H T' H'
  refine Ev.pos (by rw [w64 _ (by omega) (by omega)]; exact cmpF_neg T H T' H') ?_
  refine Ev.bind (Cmp_f T T' H H' (by omega) (by omega)) ?_
  have hs : tattingref16_Same.f T H T' H' = some (decide (T = T' ∧ H = H')) := by
    unfold tattingref16_Same.f
    rw [if_pos ⟨by omega, by omega, by omega, by omega⟩]
  rw [hs]
  refine Ev.some_ ?_
  have hz : ((cmpF T H T' H' == 0) != decide (T = T' ∧ H = H')) = false := by
    have h := cmpF_zero T H T' H'
    by_cases c : cmpF T H T' H' = 0
    · rw [decide_eq_true (h.1 c)]; simp [c]
    · rw [decide_eq_false (fun hh => c (h.2 hh))]; simp [c]
  rw [hz]
  refine Ev.succ ?_
  simp only [tattinglaw17_PackPuts.j1]
  refine Ev.neg (by decide) ?_
  have hright : tattingref16_Right.f T H = some (decide (Vec.Right T.length H.length T)) := rfl
  rw [hright]
  refine Ev.some_ ?_
  have hkey : pack_Key.f T H = some (strOfNums x) := by unfold pack_Key.f; rw [hp]; rfl
  rw [hkey]
  rcases hpe with ⟨hR, rfl, rfl⟩ | ⟨hR, rfl, rfl⟩
  · refine Ev.pos (decide_eq_true hR) (Ev.pos rfl ?_)
    have hrp : tattingref17_Put.f T H = some ((Pk.pack T.length T H).map (fun x : Nat => (x : Int))) := by unfold tattingref17_Put.f; rw [if_pos hR]
    rw [hrp]
    refine Ev.some_ (Ev.pos rfl (Ev.some_ (Ev.at_ (by simp))))
  · refine Ev.neg (by simp [hR]) (Ev.pos rfl (Ev.pos rfl (Ev.some_ (Ev.at_ ?_))))
    decide +kernel
theorem puts_walk (T : List Int) (H : List Bool) (T' : List Int) (H' : List Bool) (A B A' B' : Option Addr) (c d c' d' : Nat) (w : World) (h : Vec.FunC w A c B d T H) (h' : Vec.FunC w A' c' B' d' T' H') :
    Calls Try.prog 12 #[.agg #[.slice A T.length c, .slice B H.length d], .agg #[.slice A' T'.length c', .slice B' H'.length d']] w fun e w' => e = .returned (.bool true) ∧ Below w.heap.size w w' := by
  obtain ⟨k, hk⟩ := PackPuts T H T' H'
  exact tattinglaw17_PackPuts.calls k A c T B d H A' c' T' B' d' H' true w h.1 h.2.1 h.2.2.1 h.2.2.2 h'.1 h'.2.1 h'.2.2.1 h'.2.2.2 hk
end Go.Proofs.Ytghghioidllgiaa.KPure
