
/- The page's clock: find, copied. -/
import Derived.Test.YtohjhbhbpflokaaClkT
import Derived.Laws.AppendOwnNone
namespace Go.Proofs.Ytohjhbhbpflokaa.Ck
set_option linter.unusedSimpArgs false
set_option linter.unusedVariables false
open Go Go.RowKit Go.Shelf
set_option linter.unusedVariables false
attribute [local go_sem] lt_add1 lt_self1 size_ne size_ne' size_ne1 size_ne1'
/-- a row of entries of the page's. -/
def OwnE (w : World) (B : Nat) (r : Value) (row : List CE) : Prop := w.ownsRow B 65 3 r row.length (row.flatMap ec)
def refV (r : Value) (hand mo : Int) : Value := .agg #[r, .int .i64 hand, .int .i64 mo]
theorem OwnE.below {w w' : World} {B : Nat} {r : Value} {row : List CE} (h : OwnE w B r row) (hb : Below w.heap.size w w') : OwnE w' B r row := own_below h hb
theorem OwnE.form {w : World} {B : Nat} {r : Value} {row : List CE} (h : OwnE w B r row) : ∃ A cp, r = .slice A row.length cp := by
  obtain ⟨A, cp, e, _, _⟩ := SlAt.of_own h
  exact ⟨A, cp, e⟩
theorem OwnE.cells {w : World} {B i : Nat} {r : Value} {row : List CE} {e : CE} (h : OwnE w B r row) (he : row[i]? = some e) : ∃ g cap, r = .slice (some ⟨g, 0, none⟩) row.length cap ∧ B ≤ g ∧ g < w.heap.size ∧
    w.cell? ⟨g, i * 3, none⟩ = some (.int .i64 e.key) ∧ w.cell? ⟨g, i * 3 + 1, none⟩ = some (.string e.val) ∧ w.cell? ⟨g, i * 3 + 2, none⟩ = some (.bool e.used) ∧ (∀ o, w.frozen? ⟨g, o, none⟩ = false) := by
  have hl := (List.getElem?_eq_some_iff.1 he).1
  obtain ⟨g, cap, rfl, h1, h2⟩ := World.ownsRow.form h (by omega)
  have h0 := own_base h (Nat.zero_le B)
  refine ⟨g, cap, rfl, h1, h2, ?_, ?_, ?_, fun o => ?_⟩
  · rw [own_at h0 (show i * 3 < row.length * 3 by omega)]; exact flat_row row i e he 0 (by omega)
  · rw [own_at h0 (show i * 3 + 1 < row.length * 3 by omega)]; exact flat_row row i e he 1 (by omega)
  · rw [own_at h0 (show i * 3 + 2 < row.length * 3 by omega)]; exact flat_row row i e he 2 (by omega)
  · rcases h0.2 with ⟨q, _⟩ | ⟨g', cap', cur, q1, q2, q3, _⟩
    · simp at q
    · obtain ⟨rfl, rfl⟩ : g = g' ∧ cap = cap' := by simpa using q1
      simp [World.frozen?, q3]
/-- where a key stands; -1: nowhere. -/
def findZ (row : List CE) (k : Int) : Int := match kx (keys row) k with | some i => i | none => -1
theorem kx_hit {row : List CE} {k : Int} {i : Nat} {e : CE} (he : row[i]? = some e) (hk : e.key = k) (hno : ∀ j, j < i → ∀ x, row[j]? = some x → x.key ≠ k) : kx (keys row) k = some i := by
  induction row generalizing i with
  | nil => simp at he
  | cons x r ih =>
    cases i with
    | zero =>
      obtain rfl : x = e := by simpa using he
      simp [keys, kx, hk]
    | succ i =>
      have h0 : x.key ≠ k := hno 0 (by omega) x rfl
      have := ih (i := i) (by simpa using he) (fun j hj y hy => hno (j + 1) (by omega) y (by simpa using hy))
      show kx (x.key :: keys r) k = _
      unfold kx
      rw [if_neg h0, this]
      rfl
theorem kx_miss {row : List CE} {k : Int} (hno : ∀ j, j < row.length → ∀ x, row[j]? = some x → x.key ≠ k) : kx (keys row) k = none := by
  rw [kx_none]
  intro hm
  obtain ⟨e, he, hk⟩ := List.mem_map.1 hm
  obtain ⟨j, hj⟩ := List.getElem?_of_mem he
  exact hno j (List.getElem?_eq_some_iff.1 hj).1 e hj hk
set_option maxHeartbeats 2000000 in
theorem find_any (r : Value) (hand mo k : Int) (row : List CE) (w : World) (hs : row.length ≤ 1000) (h : OwnE w 0 r row) : Calls Try.prog 26 #[refV r hand mo, .int .i64 k] w fun e w' => e = .returned (.int .i64 (findZ row k)) ∧ Below w.heap.size w w' := by
  obtain ⟨A, cp, rfl⟩ := h.form
  have HO := Lib.hid h
  clear h
  unfold refV
  go_enter Try.func26, Try.ntmps26
  go_upto_region 1 with fail
  have hb1 : Below w.heap.size w (w.alloc (.cells #[.slice A row.length cp, .int .i64 hand, .int .i64 mo] 40)) := (Below.refl _ _).alloc (Nat.le_refl _) _
  have x0 := cell_of_row _ w.heap.size 0 _ _ (0, 0) (heap_alloc_new w (.cells #[.slice A row.length cp, .int .i64 hand, .int .i64 mo] 40))
  have xlt : w.heap.size < (w.alloc (.cells #[.slice A row.length cp, .int .i64 hand, .int .i64 mo] 40)).heap.size := by simp
  have HO1 := Lib.hid (And.intro (HO.out.below hb1) hb1)
  simp only [List.getElem?_toArray, List.getElem?_cons_zero, List.getElem?_cons_succ] at x0
  clear hb1
  generalize w.alloc (.cells #[.slice A row.length cp, .int .i64 hand, .int .i64 mo] 40) = w1 at x0 xlt HO1 ⊢
  generalize w.heap.size = x at x0 xlt ⊢
  go_wp2_with fail
  go_loopw [5] (fun i wr => ∃ j : Nat, j ≤ row.length ∧ i = .int .i64 j ∧ w1 = wr ∧ ∀ q, q < j → ∀ e, row[q]? = some e → e.key ≠ k) (fun i _ => row.length - (intOf i).toNat)
  case atStart => exact ⟨0, Nat.zero_le _, rfl, rfl, fun q hq => absurd hq (Nat.not_lt_zero _)⟩
  case round =>
    obtain ⟨j, hj, rfl, rfl, hno⟩ := hrel
    have HN := Lib.hid hno
    clear hno
    by_cases hjl : j < row.length
    · obtain ⟨e, he⟩ : ∃ e, row[j]? = some e := ⟨_, List.getElem?_eq_getElem hjl⟩
      have hjl' : (j : Int) < row.length := by omega
      obtain ⟨g, cap, e1, _, hg, d0, d1, d2, _⟩ := HO1.out.1.cells he
      obtain ⟨rfl, rfl⟩ : A = some ⟨g, 0, none⟩ ∧ cp = cap := by simpa using e1
      clear e1 d1 d2
      have HE := Lib.hid he
      clear he
      by_cases hk : e.key = k
      · have hz : findZ row k = j := by unfold findZ; rw [kx_hit HE.out hk HN.out]
        have hk' : (e.key == k) = true := by simpa using hk
        clear hk
        go_wp2_with fail
        go_ret
        exact ⟨by first | rfl | (rw [hz]; rfl), HO1.out.2⟩
      · have hk' : (e.key == k) = false := by simpa using hk
        have HK := Lib.hid hk
        clear hk
        go_wp2_with fail
        go_roundw
        case rel => exact ⟨j + 1, by omega, by go_num, by first | rfl | trivial, fun q hq x hx => by
          by_cases e : q = j
          · subst e
            rw [HE.out] at hx
            obtain rfl := Option.some.inj hx
            exact HK.out
          · exact HN.out q (by omega) x hx⟩
        case measure => simp [intOf]; omega
    · have hjl' : ¬ ((j : Int) < row.length) := by omega
      have hz : findZ row k = -1 := by unfold findZ; rw [kx_miss (fun q hq => HN.out q (by omega))]
      go_wp2_with fail
      go_ret
      exact ⟨by first | rfl | rw [hz], HO1.out.2⟩
theorem refent_info : (Try.prog.info? 65).map (fun i => (i.zero, i.size, i.bytes)) = some (some (.agg #[.int .i64 0, .string ⟨#[]⟩, .bool false]), 3, 32) := by kernel_rfl
/-- a row behind an own row. -/
theorem run_app {w : World} {B : Nat} {v r : Value} {xs ys : List CE} (hv : OwnE w B v xs) (hr : OwnE w 0 r ys) (h63 : xs.length + ys.length ≤ 100000) (hB : B ≤ w.heap.size) :
    ∃ v' w', (∀ ty, (Builtin.append_ #[38, 38] ty #[v, r]).run Try.prog w = .ok v' w') ∧ OwnE w' B v' (xs ++ ys) ∧ w.grownBy w' v.ownBlock ∧ (v'.ownBlock = v.ownBlock ∨ v'.ownBlock = some w.heap.size) := by
  obtain ⟨i0, hi, hz0, hz1, hz2⟩ := info_parts refent_info
  have hr0 := hr
  rcases hr.2 with ⟨rfl, hn⟩ | ⟨g, cap, cur, rfl, e2, e3, e4, e5, e6, e7⟩
  · obtain rfl : ys = [] := List.eq_nil_of_length_eq_zero hn
    refine ⟨v, w, fun ty => run_append_owned_none w B _ ty _ i0 3 Try.underlying38 hi v _ _ hv, by simpa using hv, ⟨rfl, rfl, rfl, Nat.le_refl _, fun _ _ _ => rfl⟩, .inl rfl⟩
  · obtain ⟨v', w', h1, h2, h3, h4, h5⟩ := run_append_own_at (P := Try.prog) w B 38 0 65 i0 (.agg #[.int .i64 0, .string ⟨#[]⟩, .bool false]) 3 32 Try.underlying38 hi hz0 hz1 hz2 rfl (by decide) v xs.length (xs.flatMap ec) hv
      ⟨g, 0, none⟩ ys.length cap (ys.flatMap ec) (ec_flat_length ys) (fun j u hu => by
        have hj := (List.getElem?_eq_some_iff.1 hu).1
        rw [ec_flat_length] at hj
        rw [Addr.add_lit, Nat.zero_add, own_at hr0 hj]
        exact hu) (ec_one ys) (by unfold maxLen; omega) (by omega) hB
    refine ⟨v', w', fun ty => h1, ?_, h3, h5⟩
    unfold OwnE
    rw [List.length_append, List.flatMap_append]
    exact h2
theorem wpList_app {w : World} {ops : Array Oper} {rest : List Oper} {o : Oper} {a : Act} {Q : Exit → Act → World → Prop} (hgd : o.guard = none) (s x : Operand) (ho : o.op = Op.call { callee := Callee.builtin Builtin.append, args := #[s, x], argTypes := #[38, 38] })
    {B : Nat} {v r : Value} {xs ys : List CE} (hs : a.eval s = v) (hx : a.eval x = r) (hv : OwnE w B v xs) (hr : OwnE w 0 r ys) (h63 : xs.length + ys.length ≤ 100000) (hB : B ≤ w.heap.size)
    (hK : ∀ v' w', OwnE w' B v' (xs ++ ys) → w.grownBy w' v.ownBlock → (v'.ownBlock = v.ownBlock ∨ v'.ownBlock = some w.heap.size) → wpList Try.prog ops Q rest (a.put o.dst v') w') : wpList Try.prog ops Q (o :: rest) a w := by
  refine wpList_plain hgd fun K hK' => ?_
  obtain ⟨v', w', hrun, h2, h3, h4⟩ := run_app hv hr h63 hB
  unfold Oper.wp
  rw [run_exec_append ho hs hx (hrun _)]
  exact hK' _ _ (hK v' w' h2 h3 h4)
theorem ownE_empty (w : World) : OwnE (w.alloc (.cells #[] 65)) w.heap.size (.slice (some ⟨w.heap.size, 0, none⟩) 0 0) [] :=
  ⟨rfl, .inr ⟨w.heap.size, 0, #[], rfl, Nat.le_refl _, heap_alloc_new _ _, Nat.le_refl _, Nat.zero_le _, rfl, rfl⟩⟩
set_option maxHeartbeats 2000000 in
theorem copied_any (r : Value) (hand mo : Int) (row : List CE) (w : World) (hs : row.length ≤ 1000) (h : OwnE w 0 r row) : Calls Try.prog 25 #[refV r hand mo] w fun e w' => ∃ r', e = .returned (refV r' hand mo) ∧ OwnE w' w.heap.size r' row ∧ Below w.heap.size w w' := by
  obtain ⟨A, cp, rfl⟩ := h.form
  have HO := Lib.hid h
  clear h
  unfold refV
  go_enter Try.func25, Try.ntmps25
  go_upto_region 1 with fail
  have hb1 : Below w.heap.size w ((w.alloc (.cells #[.slice A row.length cp, .int .i64 hand, .int .i64 mo] 40)).alloc (.cells #[.slice none 0 0, .int .i64 0, .int .i64 0] 40)) := ((Below.refl _ _).alloc (Nat.le_refl _) _).alloc (by simp) _
  have hx : ((w.alloc (.cells #[.slice A row.length cp, .int .i64 hand, .int .i64 mo] 40)).alloc (.cells #[.slice none 0 0, .int .i64 0, .int .i64 0] 40)).heap[w.heap.size]? = some (.cells #[.slice A row.length cp, .int .i64 hand, .int .i64 mo] 40 (0, 0)) := (Below.heap_alloc _ _ _ (by simp)).trans (heap_alloc_new _ _)
  have hy := alloc2_at w (.cells #[.slice A row.length cp, .int .i64 hand, .int .i64 mo] 40) (.cells #[.slice none 0 0, .int .i64 0, .int .i64 0] 40)
  have H1 := Lib.hid (And.intro (HO.out.below hb1) hb1)
  clear hb1
  generalize (w.alloc (.cells #[.slice A row.length cp, .int .i64 hand, .int .i64 mo] 40)).alloc (.cells #[.slice none 0 0, .int .i64 0, .int .i64 0] 40) = w1 at hx hy H1 ⊢
  generalize hX : w.heap.size = x at hx hy ⊢
  have c0 := cell_of_row w1 x 0 _ _ (0, 0) hx
  have hxl := (Array.getElem?_eq_some_iff.1 hx).1
  have hyl := (Array.getElem?_eq_some_iff.1 hy).1
  simp only [List.getElem?_toArray, List.getElem?_cons_zero, List.getElem?_cons_succ] at c0
  have HX := Lib.hid (And.intro hx (And.intro hy hX))
  clear hx hy hX
  go_wp2_with (at_builtin; refine wpList_app rfl _ _ rfl (xs := []) (ys := row) (v := .slice (some ⟨w1.heap.size, 0, none⟩) 0 0) (r := .slice A row.length cp) rfl rfl (ownE_empty w1) (H1.out.1.below ((Below.refl _ _).alloc (Nat.le_refl _) (.cells #[] 65))) (by simp; omega) (by simp) ?_)
  intro v' w2 ho hg hat
  obtain ⟨A', cp', rfl⟩ := ho.form
  have hb2 : Below w1.heap.size w1 w2 := ⟨hg.os, hg.tape, hg.output, by have := hg.size; simp at this; omega, fun b hb => (hg.block b (by simp; omega) (by simp [Value.ownBlock]; omega)).trans (Below.heap_alloc _ _ b hb)⟩
  have hx2 := (hb2.block x hxl).trans HX.out.1
  have hy2 := (hb2.block (x + 1) hyl).trans HX.out.2.1
  have d0 := cell_of_row w2 x 0 _ _ (0, 0) hx2
  have d1 := cell_of_row w2 x 1 _ _ (0, 0) hx2
  have d2 := cell_of_row w2 x 2 _ _ (0, 0) hx2
  have e0 := cell_of_row w2 (x + 1) 0 _ _ (0, 0) hy2
  have e1 := cell_of_row w2 (x + 1) 1 _ _ (0, 0) hy2
  have e2 := cell_of_row w2 (x + 1) 2 _ _ (0, 0) hy2
  have fx : ∀ o, w2.frozen? ⟨x, o, none⟩ = false := fun o => by simp [World.frozen?, hx2]
  have fy : ∀ o, w2.frozen? ⟨x + 1, o, none⟩ = false := fun o => by simp [World.frozen?, hy2]
  have hxl2 := (Array.getElem?_eq_some_iff.1 hx2).1
  have hyl2 := (Array.getElem?_eq_some_iff.1 hy2).1
  simp only [List.getElem?_toArray, List.getElem?_cons_zero, List.getElem?_cons_succ] at d0 d1 d2 e0 e1 e2
  have hge : ∀ b, (Value.slice A' row.length cp').ownBlock = some b → w1.heap.size ≤ b := fun b hb => by
    rcases hat with e | e
    · rw [hb] at e; simp [Value.ownBlock] at e; omega
    · rw [hb] at e; simp at e; omega
  have H2 := Lib.hid (And.intro ho (And.intro hb2 hge))
  clear ho hg hat hb2 hge hx2 hy2 c0 hxl hyl
  go_wp2_with fail
  have hX := HX.out.2.2
  have hle : w.heap.size ≤ w1.heap.size := H1.out.2.size
  refine bodyPost_ret (v := .agg #[.slice A' row.length cp', .int .i64 hand, .int .i64 mo]) (by simp [results, Try.results25, go_sem, *]) rfl ⟨_, rfl, ?_, ?_⟩
  · have hxl : x < w1.heap.size := (Array.getElem?_eq_some_iff.1 HX.out.1).1
    have hyl : x + 1 < w1.heap.size := (Array.getElem?_eq_some_iff.1 HX.out.2.1).1
    have n0 : (Value.slice A' row.length cp').ownBlock ≠ some x := fun e => by have := H2.out.2.2 x e; omega
    have n1 : (Value.slice A' row.length cp').ownBlock ≠ some (x + 1) := fun e => by have := H2.out.2.2 _ e; omega
    exact own_base (own_setCell (own_setCell (own_setCell (own_setCell H2.out.1 n0 _) n1 _) n1 _) n1 _) hle
  · exact ((((H1.out.2.trans (H2.out.2.1.mono hle)).setCell (by show _ ≤ x; omega) _).setCell (by show _ ≤ x + 1; omega) _).setCell (by show _ ≤ x + 1; omega) _).setCell (by show _ ≤ x + 1; omega) _
end Go.Proofs.Ytohjhbhbpflokaa.Ck
