/- The page's Build: what deeds make; no knot has more than five hundred leaves. -/
import Derived.Test.YtkcocdpmangcgaaDeedD
namespace Go.Proofs.Ytkcocdpmangcgaa.Ar
set_option linter.unusedSimpArgs false
set_option linter.unusedVariables false
open Go Go.RowKit
attribute [local go_sem] lt_add1 lt_self1 size_ne size_ne' size_ne1 size_ne1'
attribute [local irreducible] wpGrow

/-- knots of at most five hundred leaves. -/
def WF5 (ks : List Knot) : Prop := WF ks ∧ ∀ i, i < ks.length → (ks.getD i Knot.zero).leaves ≤ 500
theorem WF5.nil : WF5 [] := ⟨fun i hi => by simp at hi, fun i hi => by simp at hi⟩
theorem WF5.leaf {ks : List Knot} (h : WF5 ks) {off n f : Int} (hb : leafBad off n f = false) : WF5 (ks ++ [leafK off n f]) := by
  refine ⟨h.1.leaf hb, fun i hi => ?_⟩
  by_cases e : i < ks.length
  · rw [getD_append_left e]; exact h.2 i e
  · obtain rfl : i = ks.length := by simp at hi; omega
    rw [getD_append_last]
    simp [leafK]
theorem WF5.pair {ks : List Knot} (h : WF5 ks) {l r : Int} (hl : getB ks l = true) (hr : getB ks r = true) (hlen : wrap64 ((getK ks l).len + (getK ks r).len) ≤ 1099511627776) (h5 : (getK ks l).leaves + (getK ks r).leaves ≤ 500) : WF5 (ks ++ [pairK ks l r]) := by
  refine ⟨(h.1.pair hl hr hlen).1, fun i hi => ?_⟩
  by_cases e : i < ks.length
  · rw [getD_append_left e]; exact h.2 i e
  · obtain rfl : i = ks.length := by simp at hi; omega
    rw [getD_append_last]
    obtain ⟨_, a, b, rfl, rfl, ha, hb, hp⟩ := h.1.pair hl hr hlen
    obtain ⟨_, _, _, _, _, _, _, _, h8, _⟩ := hp
    rw [(getK_at (ks := ks) rfl ha).1, (getK_at (ks := ks) rfl hb).1] at h5
    omega
/-- what Build hands back. -/
def Built5 (w w' : World) (v : Value) : Prop := ∃ g r ks B c, v = .tuple #[.pointer (some ⟨g, 0, none⟩), .slice B ks.length c, .int .i64 0] ∧ Half w' w.heap.size g r ks (.slice B ks.length c) ks ∧ WF5 ks ∧ ks.length ≤ 60 ∧ Below w.heap.size w w'

/-- what an arm asks for, closed: no tactic takes it for a fact. -/
structure Box5 (p : Prop) : Prop where
  out : p

set_option maxRecDepth 100000 in
set_option maxHeartbeats 4000000 in
/-- Build's walk up to three arms; what each asks for is named. -/
def parts5 (l : List Deed) (cap : Nat) (w : World) :
    (p1 : Prop) ×' (p2 : Prop) ×' (p3 : Prop) ×' (Box5 p1 → Box5 p2 → Box5 p3 → (∀ A : Option Addr, Hid (SlAt w w.heap.size 4 l.length A (fun i j => (dcells (l.getD i Deed.zero)).getD j undef)) → Calls Try.prog 16 #[.slice A l.length cap] w fun e w' => ∃ v, e = .returned v ∧ Built5 w w' v)) := by
  apply PSigma.mk
  apply PSigma.mk
  apply PSigma.mk
  focus
   intro h1 h2 h3 A HS
   obtain ⟨i0, hi, hz0, hz1, hz2⟩ := info_parts made_info
   go_enter Try.func16, Try.ntmps16
   go_wp2_with fail
   refine (new_any _).mono ?_
   rintro e w1 ⟨rfl, ha, hb, hz⟩
   have H1 : Half w1 w.heap.size w.heap.size none [] (.slice none 0 0) [] := ⟨ha, World.ownsRow_nil _ _ _ _, (fun b h => by cases h), foot_ge (Nat.le_refl _) (fun _ h => by cases h)⟩
   have HH := Lib.hid (And.intro H1 hb)
   have hlt : w.heap.size < w1.heap.size := by omega
   clear ha hb hz H1
   go_wp2_with fail
   go_loopw [6, 7] (fun v i wr => ∃ (k : Nat) (r : Option Nat) (ks : List Knot) (B : Option Addr) (c : Nat), k ≤ 60 ∧ i = .int .i64 k ∧ v = .slice B ks.length c ∧ ks.length ≤ k ∧ WF5 ks ∧ Half wr w.heap.size w.heap.size r ks v ks ∧ Below w.heap.size w wr ∧ w.heap.size < wr.heap.size) (fun _ i _ => 60 - (intOf i).toNat)
   case atStart => exact ⟨0, none, [], none, 0, by omega, rfl, rfl, by simp, WF5.nil, HH.out.1, HH.out.2, hlt⟩
   case round =>
     obtain ⟨k, r, ks, B, c, hk, rfl, rfl, hks, hwf, hh, hb, hlt⟩ := hrel
     have H := Lib.hid (And.intro hh (And.intro hb hwf))
     have hzz : w.heap.size ≤ wr.heap.size := hb.size
     clear hh hb hwf HH
     by_cases hgo : k < l.length ∧ k < 60
     · obtain ⟨hkl, hk60⟩ := hgo
       obtain ⟨b, off, rfl, hbl, hcs⟩ := HS.out (by omega)
       have f0 : wr.cell? ⟨b, off + k * 4, none⟩ = some (.bool (l.getD k Deed.zero).leaf) := (H.out.2.1.cell (p := ⟨b, _, none⟩) hbl).trans (hcs k 0 hkl (by omega))
       have f1 : wr.cell? ⟨b, off + k * 4 + 1, none⟩ = some (.int .i64 (l.getD k Deed.zero).a) := (H.out.2.1.cell (p := ⟨b, _, none⟩) hbl).trans (hcs k 1 hkl (by omega))
       have f2 : wr.cell? ⟨b, off + k * 4 + 2, none⟩ = some (.int .i64 (l.getD k Deed.zero).b) := (H.out.2.1.cell (p := ⟨b, _, none⟩) hbl).trans (hcs k 2 hkl (by omega))
       have f3 : wr.cell? ⟨b, off + k * 4 + 3, none⟩ = some (.int .i64 (l.getD k Deed.zero).c) := (H.out.2.1.cell (p := ⟨b, _, none⟩) hbl).trans (hcs k 3 hkl (by omega))
       generalize l.getD k Deed.zero = d at f0 f1 f2 f3
       obtain ⟨lf, da, db, dc⟩ := d
       simp only at f0 f1 f2 f3
       have hbw : b < wr.heap.size := by omega
       clear hcs
       cases lf
       · rename_i zz1 zz2 zz3 zz4
         revert i0 hi hz0 hz1 hz2 zz1 w1 zz2 zz3 zz4 wr u2 u3 u4 u8 u9 u10 u11 u12 u13 u14 u16 u17 u18 u19 u20 u21 u22 u23 u24 u25 u26 u27 u28 u29 u30 u31 u32 u33 u34 u35 u36 u37 u38 u39 u40 u41 u42 u43 u44 u45 u46 u47 u48 u49 u50 u51 u52 u53 u54 u55 u56 u57 u58 u59 u60 u61 u62 u63 u64 u65 u66 u67 u68 u69 u70 u71 u72 u73 u74 u75 u76 u77 u78 u79 u80 u81 u82 u83 u84 u85 u86 u87 u88 u89 u90 u91 u92 u93 u94 u95 u96 u97 u98 u99 u100 u101 u102 u103 u104 u105 u106 u107 u108 u109 u110 u111 u112 u113 u114 u115 u116 u117 u118 u119 u120 u121 u122 u123 u124 u125 u126 u127 u128 u129 u130 u131 u132 u133 u134 u135 u136 u137 u138 u139 u140 u141 u142 u143 u144 u145 u146 u147 u148 u149 u150 u151 u152 u153 u154 u155 u156 u157 u158 u159 u160 u161 u162 u163 u164 u165 u166 u167 u168 u169 u170 u171 u172 u173 u174 u175 u176 u177 u178 u179 u180 u181 u182 u183 u184 u185 u186 u187 u188 u189 u190 u191 u192 u193 u194 u195 u196 u197 u198 k r ks B c hk hks hlt H hzz hkl hk60 b off HS hbl da db dc f1 f2 f3 hbw f0
         exact h1.out
       · go_wp2_with fail
         have HW := H.out.1.below (Below.alloc (Below.refl _ _) (Nat.le_refl _) (.cells #[.bool true, .int .i64 da, .int .i64 db, .int .i64 dc] 110))
         refine (leaf_any _ r ks da db dc _ HW.ar (by unfold small; omega)).mono ?_
         rintro e w2 hq
         have q1 : ∀ o, (wr.alloc (.cells #[.bool true, .int .i64 da, .int .i64 db, .int .i64 dc] 110)).cell? ⟨wr.heap.size, o, none⟩ = #[Value.bool true, .int .i64 da, .int .i64 db, .int .i64 dc][o]? := fun o => World.cell?_alloc_new wr _ _ o
         have hfr : ¬ foot w.heap.size r wr.heap.size := H.out.1.fresh (Nat.le_refl _)
         have hsW : wr.heap.size < (wr.alloc (.cells #[.bool true, .int .i64 da, .int .i64 db, .int .i64 dc] 110)).heap.size := by simp
         have HWb := H.out.2.1.alloc hzz (.cells #[.bool true, .int .i64 da, .int .i64 db, .int .i64 dc] 110)
         clear f0 f1 f2 f3
         cases hbad : leafBad da db dc
         · rename_i zz1 zz2 zz3 zz4 zz5 zz6 zz7 zz8 zz9 zz10 zz11 zz12 zz13 zz14
           revert i0 hi hz0 hz1 hz2 zz1 w1 zz2 zz3 zz4 wr u2 u3 u4 u8 u9 u10 u11 u12 u13 u14 u16 u17 u18 u19 u20 u21 u22 u23 u24 u25 u26 u27 u28 u29 u30 u31 u32 u33 u34 u35 u36 u37 u38 u39 u40 u41 u42 u43 u44 u45 u46 u47 u48 u49 u50 u51 u52 u53 u54 u55 u56 u57 u58 u59 u60 u61 u62 u63 u64 u65 u66 u67 u68 u69 u70 u71 u72 u73 u74 u75 u76 u77 u78 u79 u80 u81 u82 u83 u84 u85 u86 u87 u88 u89 u90 u91 u92 u93 u94 u95 u96 u97 u98 u99 u100 u101 u102 u103 u104 u105 u106 u107 u108 u109 u110 u111 u112 u113 u114 u115 u116 u117 u118 u119 u120 u121 u122 u123 u124 u125 u126 u127 u128 u129 u130 u131 u132 u133 u134 u135 u136 u137 u138 u139 u140 u141 u142 u143 u144 u145 u146 u147 u148 u149 u150 u151 u152 u153 u154 u155 u156 u157 u158 u159 u160 u161 u162 u163 u164 u165 u166 u167 u168 u169 u170 u171 u172 u173 u174 u175 u176 u177 u178 u179 u180 u181 u182 u183 u184 u185 u186 u187 u188 u189 u190 u191 u192 u193 u194 u195 u196 u197 u198 k r ks B c hk hks hlt H hzz hkl hk60 b off HS hbl da db dc hbw zz5 zz6 zz7 zz8 zz9 zz10 zz11 zz12 zz13 zz14 HW e w2 hq q1 hfr hsW HWb hbad
           exact h2.out
         · rename_i zz1 zz2 zz3 zz4 zz5 zz6 zz7 zz8 zz9 zz10 zz11 zz12 zz13 zz14
           revert i0 hi hz0 hz1 hz2 zz1 w1 zz2 zz3 zz4 wr u2 u3 u4 u8 u9 u10 u11 u12 u13 u14 u16 u17 u18 u19 u20 u21 u22 u23 u24 u25 u26 u27 u28 u29 u30 u31 u32 u33 u34 u35 u36 u37 u38 u39 u40 u41 u42 u43 u44 u45 u46 u47 u48 u49 u50 u51 u52 u53 u54 u55 u56 u57 u58 u59 u60 u61 u62 u63 u64 u65 u66 u67 u68 u69 u70 u71 u72 u73 u74 u75 u76 u77 u78 u79 u80 u81 u82 u83 u84 u85 u86 u87 u88 u89 u90 u91 u92 u93 u94 u95 u96 u97 u98 u99 u100 u101 u102 u103 u104 u105 u106 u107 u108 u109 u110 u111 u112 u113 u114 u115 u116 u117 u118 u119 u120 u121 u122 u123 u124 u125 u126 u127 u128 u129 u130 u131 u132 u133 u134 u135 u136 u137 u138 u139 u140 u141 u142 u143 u144 u145 u146 u147 u148 u149 u150 u151 u152 u153 u154 u155 u156 u157 u158 u159 u160 u161 u162 u163 u164 u165 u166 u167 u168 u169 u170 u171 u172 u173 u174 u175 u176 u177 u178 u179 u180 u181 u182 u183 u184 u185 u186 u187 u188 u189 u190 u191 u192 u193 u194 u195 u196 u197 u198 k r ks B c hk hks hlt H hzz hkl hk60 b off HS hbl da db dc hbw zz5 zz6 zz7 zz8 zz9 zz10 zz11 zz12 zz13 zz14 HW e w2 hq q1 hfr hsW HWb hbad
           exact h3.out
     · have hend : l.length ≤ k ∨ k = 60 := by omega
       rcases hend with hend | rfl
       · go_wp2
         go_ret3
         exact ⟨_, rfl, _, r, ks, B, c, rfl, H.out.1, H.out.2.2, by omega, H.out.2.1⟩
       · by_cases h6 : 60 < l.length
         · go_wp2
           go_ret3
           exact ⟨_, rfl, _, r, ks, B, c, rfl, H.out.1, H.out.2.2, by omega, H.out.2.1⟩
         · go_wp2
           go_ret3
           exact ⟨_, rfl, _, r, ks, B, c, rfl, H.out.1, H.out.2.2, by omega, H.out.2.1⟩
set_option maxRecDepth 100000 in
set_option maxHeartbeats 4000000 in
theorem arm_pair5 (l : List Deed) (cap : Nat) (w : World) :
    (parts5 l cap w).1 := by
  intro i0 hi hz0 hz1 hz2 zz1 w1 zz2 zz3 zz4 wr u2 u3 u4 u8 u9 u10 u11 u12 u13 u14 u16 u17 u18 u19 u20 u21 u22 u23 u24 u25 u26 u27 u28 u29 u30 u31 u32 u33 u34 u35 u36 u37 u38 u39 u40 u41 u42 u43 u44 u45 u46 u47 u48 u49 u50 u51 u52 u53 u54 u55 u56 u57 u58 u59 u60 u61 u62 u63 u64 u65 u66 u67 u68 u69 u70 u71 u72 u73 u74 u75 u76 u77 u78 u79 u80 u81 u82 u83 u84 u85 u86 u87 u88 u89 u90 u91 u92 u93 u94 u95 u96 u97 u98 u99 u100 u101 u102 u103 u104 u105 u106 u107 u108 u109 u110 u111 u112 u113 u114 u115 u116 u117 u118 u119 u120 u121 u122 u123 u124 u125 u126 u127 u128 u129 u130 u131 u132 u133 u134 u135 u136 u137 u138 u139 u140 u141 u142 u143 u144 u145 u146 u147 u148 u149 u150 u151 u152 u153 u154 u155 u156 u157 u158 u159 u160 u161 u162 u163 u164 u165 u166 u167 u168 u169 u170 u171 u172 u173 u174 u175 u176 u177 u178 u179 u180 u181 u182 u183 u184 u185 u186 u187 u188 u189 u190 u191 u192 u193 u194 u195 u196 u197 u198 k r ks B c hk hks hlt H hzz hkl hk60 b off HS hbl da db dc f1 f2 f3 hbw f0
  have q1 : ∀ o, (wr.alloc (.cells #[.bool false, .int .i64 da, .int .i64 db, .int .i64 dc] 110)).cell? ⟨wr.heap.size, o, none⟩ = #[Value.bool false, .int .i64 da, .int .i64 db, .int .i64 dc][o]? := fun o => World.cell?_alloc_new wr _ _ o
  have d1 : (wr.alloc (.cells #[.bool false, .int .i64 da, .int .i64 db, .int .i64 dc] 110)).cell? ⟨wr.heap.size, 1, none⟩ = some (.int .i64 da) := q1 1
  have d2 : (wr.alloc (.cells #[.bool false, .int .i64 da, .int .i64 db, .int .i64 dc] 110)).cell? ⟨wr.heap.size, 2, none⟩ = some (.int .i64 db) := q1 2
  have HW := H.out.1.below (Below.alloc (Below.refl _ _) (Nat.le_refl _) (.cells #[.bool false, .int .i64 da, .int .i64 db, .int .i64 dc] 110))
  have hfr : ¬ foot w.heap.size r wr.heap.size := H.out.1.fresh (Nat.le_refl _)
  have hsW : wr.heap.size < (wr.alloc (.cells #[.bool false, .int .i64 da, .int .i64 db, .int .i64 dc] 110)).heap.size := by simp
  have hzW : w.heap.size ≤ (wr.alloc (.cells #[.bool false, .int .i64 da, .int .i64 db, .int .i64 dc] 110)).heap.size := by simp; omega
  have HWb := H.out.2.1.alloc hzz (.cells #[.bool false, .int .i64 da, .int .i64 db, .int .i64 dc] 110)
  have H1 := Lib.hid (And.intro HW HWb)
  clear q1 HW HWb
  go_upto_region 14 with fail
  clear f0 f1 f2 f3
  generalize wr.alloc (.cells #[.bool false, .int .i64 da, .int .i64 db, .int .i64 dc] 110) = W at d1 d2 hsW hzW H1 ⊢
  go_cut [12] (fun v wx => v = .bool (!(getB ks da && getB ks db)) ∧ W = wx)
  case first =>
    have hg1 : ∀ x : Int, getB ks x = (decide (1 ≤ x) && decide (x ≤ ks.length)) := fun x => by unfold getB getS; by_cases h : 1 ≤ x ∧ x ≤ ks.length <;> simp [h]; omega
    by_cases n1 : da < 1
    · go_wp2_with fail
      go_meet
      exact ⟨by rw [hg1, hg1]; simp; omega, rfl⟩
    · by_cases n2 : (ks.length : Int) < da
      · go_wp2_with fail
        go_meet
        exact ⟨by rw [hg1, hg1]; simp; omega, rfl⟩
      · by_cases n3 : db < 1
        · go_wp2_with fail
          go_meet
          exact ⟨by rw [hg1, hg1]; simp; omega, rfl⟩
        · by_cases n4 : (ks.length : Int) < db
          · go_wp2_with fail
            go_meet
            exact ⟨by rw [hg1, hg1]; simp; omega, rfl⟩
          · go_wp2_with fail
            go_meet
            exact ⟨by rw [hg1, hg1]; simp; omega, rfl⟩
  case rest =>
  obtain ⟨rfl, rfl⟩ := hcut
  cases hgb : getB ks da && getB ks db
  · have HG := Lib.hid hgb
    clear hgb
    simp only [Bool.not_false]
    go_wp2_with fail
    have HX := H1
    refine wp_region_grow 14 (by kernel_rfl) (by kernel_rfl) ?_
    simp only [List.take_succ_cons, List.take_zero, List.drop_succ_cons, List.drop_zero, List.take_nil, List.drop_nil]
    iterate 3 ((refine wpGrow_val' rfl rfl ?_; apply Exists.intro; refine ⟨fun w1 hw1 => ?_, ?_⟩); (have hc1 := hw1.cell; go_simp; exact growUpon_ok rfl); (refine wpGrow_at (by (simp only [Act.put, List.setIfInBounds_toArray, List.set_cons_succ, List.set_cons_zero]) <;> exact rfl) ?_))
    iterate 10 (refine wpGrow_pass rfl ?_; (refine wpGrow_at (by (simp only [Act.put, List.setIfInBounds_toArray, List.set_cons_succ, List.set_cons_zero]) <;> exact rfl) ?_))
    ((refine wpGrow_val' rfl rfl ?_; apply Exists.intro; refine ⟨fun w1 hw1 => ?_, ?_⟩); (have hc1 := hw1.cell; go_simp; exact growUpon_ok rfl); (refine wpGrow_at (by (simp only [Act.put, List.setIfInBounds_toArray, List.set_cons_succ, List.set_cons_zero]) <;> exact rfl) ?_))
    refine wpGrow_nil ?_
    intro w2 hD
    have d1 := (hD.below.cell (p := ⟨wr.heap.size, 1, none⟩) hsW).trans d1
    have d2 := (hD.below.cell (p := ⟨wr.heap.size, 2, none⟩) hsW).trans d2
    have hs2 : wr.heap.size < w2.heap.size := by have := hD.below.size; omega
    have H2 := Lib.hid (And.intro (HX.out.1.below hD.below) (HX.out.2.trans (hD.below.mono hzW)))
    clear hD
    go_wp2_with fail
    refine (pair_any _ r ks da db _ H2.out.1.ar (by unfold small; omega)).mono ?_
    rintro e w3 hq
    obtain ⟨rfl, hb3⟩ : e = .returned (.tuple #[.int .i64 0, .int .i64 2]) ∧ Below w2.heap.size w2 w3 := by
      rcases hq with ⟨_, h⟩ | ⟨h, _⟩ | ⟨h, _⟩
      · exact h
      · rw [HG.out] at h; cases h
      · rw [HG.out] at h; cases h
    have H3 := Lib.hid (And.intro (H2.out.1.below hb3) (H2.out.2.trans (hb3.mono (by omega))))
    have hlt3 : w.heap.size < w3.heap.size := by have := hb3.size; omega
    clear hq hb3 d1 d2
    go_wp2
    go_roundw
    case rel => exact ⟨k + 1, r, ks, B, c, by omega, by go_num, rfl, by omega, H.out.2.2, H3.out.1, H3.out.2, hlt3⟩
    case measure => simp [intOf]; omega
  · obtain ⟨a, d, rfl, rfl, ha, hd⟩ : ∃ a d : Nat, da = (a : Int) + 1 ∧ db = (d : Int) + 1 ∧ a < ks.length ∧ d < ks.length := by
      have e : 1 ≤ da ∧ da ≤ ks.length ∧ 1 ≤ db ∧ db ≤ ks.length := by
        simp [getB, getS] at hgb
        exact Decidable.byContradiction fun hn => by
          by_cases h1 : 1 ≤ da ∧ da ≤ (ks.length : Int)
          · by_cases h2 : 1 ≤ db ∧ db ≤ (ks.length : Int)
            · omega
            · simp [h2] at hgb
          · simp [h1] at hgb
      exact ⟨(da - 1).toNat, (db - 1).toNat, by omega, by omega, by omega, by omega⟩
    have HG := Lib.hid hgb
    have hla := leaves_any ks H.out.2.2.1 (by unfold small; omega) B c a ha
    have hld := leaves_any ks H.out.2.2.1 (by unfold small; omega) B c d hd
    have ba := H.out.2.2.1.bounds a ha
    have bd := H.out.2.2.1.bounds d hd
    have hlong : (ks.getD a Knot.zero).leaves + (ks.getD d Knot.zero).leaves ≤ 500 → wrap64 ((getK ks ((a : Int) + 1)).len + (getK ks ((d : Int) + 1)).len) ≤ 1099511627776 := fun h5 => by
      rw [(getK_at (ks := ks) rfl ha).1, (getK_at (ks := ks) rfl hd).1]
      have := H.out.2.2.1.long a ha
      have := H.out.2.2.1.long d hd
      unfold wrap64
      omega
    have hxy : (ks.getD a Knot.zero).leaves + (ks.getD d Knot.zero).leaves ≤ 500 → (getK ks ((a : Int) + 1)).leaves + (getK ks ((d : Int) + 1)).leaves ≤ 500 := fun h5 => by
      rwa [(getK_at (ks := ks) rfl ha).1, (getK_at (ks := ks) rfl hd).1]
    have HXY := Lib.hid hxy
    clear hxy
    have hx : 0 ≤ (ks.getD a Knot.zero).leaves ∧ (ks.getD a Knot.zero).leaves ≤ 1099511627776 := by omega
    have hy : 0 ≤ (ks.getD d Knot.zero).leaves ∧ (ks.getD d Knot.zero).leaves ≤ 1099511627776 := by omega
    generalize (ks.getD a Knot.zero).leaves = x at hla hlong hx HXY
    generalize (ks.getD d Knot.zero).leaves = y at hld hlong hy HXY
    obtain ⟨hx1, hx2⟩ := hx
    obtain ⟨hy1, hy2⟩ := hy
    have hw : IntKind.i64.wrap (x + y) = x + y := IntWalk.i64_in _ (by omega)
    have LA := Lib.hid hla
    have LD := Lib.hid hld
    have HL := Lib.hid hlong
    clear hgb hla hld ba bd hlong
    simp only [Bool.not_true]
    go_wp2_with fail
    refine wp_region_grow 14 (by kernel_rfl) (by kernel_rfl) ?_
    simp only [List.take_succ_cons, List.take_zero, List.drop_succ_cons, List.drop_zero, List.take_nil, List.drop_nil]
    iterate 6 ((refine wpGrow_val' rfl rfl ?_; apply Exists.intro; refine ⟨fun w1 hw1 => ?_, ?_⟩); (have hc1 := hw1.cell; go_simp; exact growUpon_ok rfl); (refine wpGrow_at (by (simp only [Act.put, List.setIfInBounds_toArray, List.set_cons_succ, List.set_cons_zero]) <;> exact rfl) ?_))
    (refine wpGrow_val' rfl rfl ?_; apply Exists.intro; refine ⟨fun w1 hw1 => ?_, ?_⟩)
    · go_simp
      exact growUpon_call (LA.out _ (H1.out.1.made'.below hw1.below))
    (refine wpGrow_at (by (simp only [Act.put, List.setIfInBounds_toArray, List.set_cons_succ, List.set_cons_zero]) <;> exact rfl) ?_)
    iterate 3 ((refine wpGrow_val' rfl rfl ?_; apply Exists.intro; refine ⟨fun w1 hw1 => ?_, ?_⟩); (have hc1 := hw1.cell; go_simp; exact growUpon_ok rfl); (refine wpGrow_at (by (simp only [Act.put, List.setIfInBounds_toArray, List.set_cons_succ, List.set_cons_zero]) <;> exact rfl) ?_))
    (refine wpGrow_val' rfl rfl ?_; apply Exists.intro; refine ⟨fun w1 hw1 => ?_, ?_⟩)
    · go_simp
      exact growUpon_call (LD.out _ (H1.out.1.made'.below hw1.below))
    (refine wpGrow_at (by (simp only [Act.put, List.setIfInBounds_toArray, List.set_cons_succ, List.set_cons_zero]) <;> exact rfl) ?_)
    iterate 3 ((refine wpGrow_val' rfl rfl ?_; apply Exists.intro; refine ⟨fun w1 hw1 => ?_, ?_⟩); (have hc1 := hw1.cell; go_simp; exact growUpon_ok rfl); (refine wpGrow_at (by (simp only [Act.put, List.setIfInBounds_toArray, List.set_cons_succ, List.set_cons_zero]) <;> exact rfl) ?_))
    refine wpGrow_nil ?_
    intro w2 hD
    have d1 := (hD.below.cell (p := ⟨wr.heap.size, 1, none⟩) hsW).trans d1
    have d2 := (hD.below.cell (p := ⟨wr.heap.size, 2, none⟩) hsW).trans d2
    have hs2 : wr.heap.size < w2.heap.size := by have := hD.below.size; omega
    have H2 := Lib.hid (And.intro (H1.out.1.below hD.below) (H1.out.2.trans (hD.below.mono hzW)))
    clear hD
    by_cases h500 : 500 < x + y
    · have hlt2 : w.heap.size < w2.heap.size := by omega
      go_wp2
      go_roundw
      case rel => exact ⟨k + 1, r, ks, B, c, by omega, by go_num, rfl, by omega, H.out.2.2, H2.out.1, H2.out.2, hlt2⟩
      case measure => simp [intOf]; omega
    · have hle : x + y ≤ 500 := by omega
      go_wp2_with fail
      refine (pair_any _ r ks ((a : Int) + 1) ((d : Int) + 1) _ H2.out.1.ar (by unfold small; omega)).mono ?_
      rintro e w4 hq
      obtain ⟨r2, rfl, ha2, hf2⟩ : ∃ r', e = .returned (.tuple #[.int .i64 (ks.length + 1 : Nat), .int .i64 0]) ∧ Arena w4 w.heap.size r' (ks ++ [pairK ks ((a : Int) + 1) ((d : Int) + 1)]) ∧ Fr w2 (foot w.heap.size r) w4 (foot w.heap.size r') := by
        rcases hq with ⟨h, _⟩ | ⟨_, h, _⟩ | ⟨_, _, h⟩
        · rw [HG.out] at h; cases h
        · have := HL.out hle; omega
        · exact h
      have d1 : w4.cell? ⟨wr.heap.size, 1, none⟩ = some (.int .i64 ((a : Int) + 1)) := (hf2.cell hs2 hfr 1).trans d1
      have d2 : w4.cell? ⟨wr.heap.size, 2, none⟩ = some (.int .i64 ((d : Int) + 1)) := (hf2.cell hs2 hfr 2).trans d2
      have hs4 : wr.heap.size < w4.heap.size := hf2.lt hs2
      have hb2 := hf2.below H2.out.2 H2.out.1.ge (by omega)
      have H3 := Lib.hid (And.intro (H2.out.1.step (by omega) ha2 hf2) hb2)
      have hgg := HG.out
      rw [Bool.and_eq_true] at hgg
      have HWF := Lib.hid (H.out.2.2.pair hgg.1 hgg.2 (HL.out hle) (HXY.out hle))
      have hmc : mcells (pairK ks ((a : Int) + 1) ((d : Int) + 1)) = [.int .i64 ((a : Int) + 1), .int .i64 ((d : Int) + 1), .int .i64 0, .int .i64 0, .int .i64 0] := by
        have : ¬ (a : Int) + 1 = 0 := by omega
        simp [mcells, pairK, this]
      clear hq ha2 hf2 hb2 hgg H2 H1 H
      go_wp2_with (at_builtin; refine wpList_append_lies _ rfl _ _ 25 rfl w.heap.size 112 i0 (.agg #[.int .i64 0, .int .i64 0, .int .i64 0, .int .i64 0, .int .i64 0]) 5 40 Try.underlying25 hi hz0 hz1 hz2 rfl (by decide) _ _ _ rfl (H3.out.1.row.alloc _) ⟨w4.heap.size, 0, none⟩ 1 1 (mcells (pairK ks ((a : Int) + 1) ((d : Int) + 1))) rfl rfl ?c1 ?c2 (by omega) ?c3 ?c4 ?c5 _ rfl ?_)
      case c1 => exact World.news_of_block (fr := (0, 0)) (heap_alloc_new w4 _)
      case c2 => intro u hu; simp [mcells] at hu; rcases hu with rfl | rfl | rfl | rfl | rfl <;> rfl
      case c3 => unfold maxLen; omega
      case c4 => omega
      case c5 => simp; omega
      intro q2 cap2 w5 hown5 hgrow hat hlt5
      have HH5 := Half.app (k := pairK ks ((a : Int) + 1) ((d : Int) + 1)) (H3.out.1.below (by (repeat (first | exact Below.refl _ _ | assumption | (refine Below.setCell ?_ (by first | (simp; done) | (simp; omega) | omega) _) | (refine Below.alloc ?_ (by first | (simp; done) | (simp; omega) | omega) _) | (refine Below.drew ?_) | (refine Below.drewN ?_ _) | (refine Below.trans ?_ (Below.mono (by assumption) (by first | (simp; done) | (simp; omega) | omega))))))) (by rw [hmc]; exact hown5) hgrow (by simpa using hat)
      have HB5 := grow_below (B := w.heap.size) (H3.out.2.alloc (by omega) _) hgrow (H3.out.1.row.alloc _) (Nat.le_refl _) (by simp; omega)
      have H4 := Lib.hid (And.intro HH5 (And.intro HB5 HWF.out))
      have hlt5 : w.heap.size < w5.heap.size := by have := hgrow.size; simp at this; omega
      clear HH5 HB5 hgrow hat hown5 H3 d1 d2
      go_wp2
      go_roundw
      case rel => exact ⟨k + 1, r2, ks ++ [(pairK ks ((a : Int) + 1) ((d : Int) + 1))], some ⟨q2, 0, none⟩, cap2, by omega, by go_num, (by simp), by simp; omega, H4.out.2.2, (by simpa using H4.out.1), H4.out.2.1, hlt5⟩
      case measure => simp [intOf]; omega

set_option maxRecDepth 100000 in
set_option maxHeartbeats 4000000 in
theorem arm_leaf5 (l : List Deed) (cap : Nat) (w : World) :
    (parts5 l cap w).2.1 := by
  intro i0 hi hz0 hz1 hz2 zz1 w1 zz2 zz3 zz4 wr u2 u3 u4 u8 u9 u10 u11 u12 u13 u14 u16 u17 u18 u19 u20 u21 u22 u23 u24 u25 u26 u27 u28 u29 u30 u31 u32 u33 u34 u35 u36 u37 u38 u39 u40 u41 u42 u43 u44 u45 u46 u47 u48 u49 u50 u51 u52 u53 u54 u55 u56 u57 u58 u59 u60 u61 u62 u63 u64 u65 u66 u67 u68 u69 u70 u71 u72 u73 u74 u75 u76 u77 u78 u79 u80 u81 u82 u83 u84 u85 u86 u87 u88 u89 u90 u91 u92 u93 u94 u95 u96 u97 u98 u99 u100 u101 u102 u103 u104 u105 u106 u107 u108 u109 u110 u111 u112 u113 u114 u115 u116 u117 u118 u119 u120 u121 u122 u123 u124 u125 u126 u127 u128 u129 u130 u131 u132 u133 u134 u135 u136 u137 u138 u139 u140 u141 u142 u143 u144 u145 u146 u147 u148 u149 u150 u151 u152 u153 u154 u155 u156 u157 u158 u159 u160 u161 u162 u163 u164 u165 u166 u167 u168 u169 u170 u171 u172 u173 u174 u175 u176 u177 u178 u179 u180 u181 u182 u183 u184 u185 u186 u187 u188 u189 u190 u191 u192 u193 u194 u195 u196 u197 u198 k r ks B c hk hks hlt H hzz hkl hk60 b off HS hbl da db dc hbw zz5 zz6 zz7 zz8 zz9 zz10 zz11 zz12 zz13 zz14 HW e w2 hq q1 hfr hsW HWb hbad
  obtain ⟨r2, rfl, ha2, hf2⟩ : ∃ r', e = .returned (.tuple #[.int .i64 (ks.length + 1 : Nat), .int .i64 0]) ∧ Arena w2 w.heap.size r' (ks ++ [leafK da db dc]) ∧ Fr (wr.alloc (.cells #[.bool true, .int .i64 da, .int .i64 db, .int .i64 dc] 110)) (foot w.heap.size r) w2 (foot w.heap.size r') := by
    rcases hq with ⟨h, _⟩ | ⟨_, h⟩
    · rw [hbad] at h; cases h
    · exact h
  have d1 : w2.cell? ⟨wr.heap.size, 1, none⟩ = some (.int .i64 da) := (hf2.cell hsW hfr 1).trans (q1 1)
  have d2 : w2.cell? ⟨wr.heap.size, 2, none⟩ = some (.int .i64 db) := (hf2.cell hsW hfr 2).trans (q1 2)
  have d3 : w2.cell? ⟨wr.heap.size, 3, none⟩ = some (.int .i64 dc) := (hf2.cell hsW hfr 3).trans (q1 3)
  have hs2 : wr.heap.size < w2.heap.size := hf2.lt hsW
  have hb2 := hf2.below HWb H.out.1.ge (by omega)
  have H2 := Lib.hid (And.intro (HW.step (by omega) ha2 hf2) hb2)
  have HWF := Lib.hid (H.out.2.2.leaf hbad)
  have hbd : ¬ da < 0 ∧ ¬ db < 1 ∧ ¬ 1048576 < db ∧ ¬ 1099511627776 - db < da ∧ ¬ dc < 0 ∧ ¬ db < dc := by simp [leafBad] at hbad; omega
  obtain ⟨n1, n2, n3, n4, n5, n6⟩ := hbd
  clear hq ha2 hf2 hb2 q1 hfr hsW HWb HW hbad H
  go_upto_region 9 with fail
  go_cut [11] (fun v wx => v = .bool false ∧ w2 = wx)
  case first =>
    go_wp2_with fail
    go_meet
    exact ⟨by first | rfl | (simp; done) | (simp; omega), rfl⟩
  case rest =>
  obtain ⟨rfl, hw9⟩ := hcut
  subst hw9
  clear n1 n2 n3 n4 n5 n6
  go_wp2_with (at_builtin; refine wpList_append_lies _ rfl _ _ 25 rfl w.heap.size 112 i0 (.agg #[.int .i64 0, .int .i64 0, .int .i64 0, .int .i64 0, .int .i64 0]) 5 40 Try.underlying25 hi hz0 hz1 hz2 rfl (by decide) _ _ _ rfl (H2.out.1.row.alloc _) ⟨w2.heap.size, 0, none⟩ 1 1 (mcells (leafK da db dc)) rfl rfl ?c1 ?c2 (by omega) ?c3 ?c4 ?c5 _ rfl ?_)
  case c1 => exact World.news_of_block (fr := (0, 0)) (heap_alloc_new w2 _)
  case c2 => intro u hu; simp [mcells] at hu; rcases hu with rfl | rfl | rfl | rfl | rfl <;> rfl
  case c3 => unfold maxLen; omega
  case c4 => omega
  case c5 => simp; omega
  intro q2 cap2 w3 hown3 hgrow hat hlt3
  have HH3 := Half.app (H2.out.1.below (by (repeat (first | exact Below.refl _ _ | assumption | (refine Below.setCell ?_ (by first | (simp; done) | (simp; omega) | omega) _) | (refine Below.alloc ?_ (by first | (simp; done) | (simp; omega) | omega) _) | (refine Below.drew ?_) | (refine Below.drewN ?_ _) | (refine Below.trans ?_ (Below.mono (by assumption) (by first | (simp; done) | (simp; omega) | omega))))))) hown3 hgrow (by simpa using hat)
  have HB3 := grow_below (B := w.heap.size) (H2.out.2.alloc (by omega) _) hgrow (H2.out.1.row.alloc _) (Nat.le_refl _) (by simp; omega)
  have H3 := Lib.hid (And.intro HH3 (And.intro HB3 HWF.out))
  have hlt3 : w.heap.size < w3.heap.size := by have := hgrow.size; simp at this; omega
  clear HH3 HB3 hgrow hat hown3 H2 d1 d2 d3
  go_wp2
  go_roundw
  case rel => exact ⟨k + 1, r2, ks ++ [(leafK da db dc)], some ⟨q2, 0, none⟩, cap2, by omega, by go_num, (by simp), by simp; omega, H3.out.2.2, (by simpa using H3.out.1), H3.out.2.1, hlt3⟩
  case measure => simp [intOf]; omega

set_option maxRecDepth 100000 in
set_option maxHeartbeats 4000000 in
theorem arm_bad5 (l : List Deed) (cap : Nat) (w : World) :
    (parts5 l cap w).2.2.1 := by
  intro i0 hi hz0 hz1 hz2 zz1 w1 zz2 zz3 zz4 wr u2 u3 u4 u8 u9 u10 u11 u12 u13 u14 u16 u17 u18 u19 u20 u21 u22 u23 u24 u25 u26 u27 u28 u29 u30 u31 u32 u33 u34 u35 u36 u37 u38 u39 u40 u41 u42 u43 u44 u45 u46 u47 u48 u49 u50 u51 u52 u53 u54 u55 u56 u57 u58 u59 u60 u61 u62 u63 u64 u65 u66 u67 u68 u69 u70 u71 u72 u73 u74 u75 u76 u77 u78 u79 u80 u81 u82 u83 u84 u85 u86 u87 u88 u89 u90 u91 u92 u93 u94 u95 u96 u97 u98 u99 u100 u101 u102 u103 u104 u105 u106 u107 u108 u109 u110 u111 u112 u113 u114 u115 u116 u117 u118 u119 u120 u121 u122 u123 u124 u125 u126 u127 u128 u129 u130 u131 u132 u133 u134 u135 u136 u137 u138 u139 u140 u141 u142 u143 u144 u145 u146 u147 u148 u149 u150 u151 u152 u153 u154 u155 u156 u157 u158 u159 u160 u161 u162 u163 u164 u165 u166 u167 u168 u169 u170 u171 u172 u173 u174 u175 u176 u177 u178 u179 u180 u181 u182 u183 u184 u185 u186 u187 u188 u189 u190 u191 u192 u193 u194 u195 u196 u197 u198 k r ks B c hk hks hlt H hzz hkl hk60 b off HS hbl da db dc hbw zz5 zz6 zz7 zz8 zz9 zz10 zz11 zz12 zz13 zz14 HW e w2 hq q1 hfr hsW HWb hbad
  obtain ⟨rfl, rfl⟩ : e = .returned (.tuple #[.int .i64 0, .int .i64 1]) ∧ wr.alloc (.cells #[.bool true, .int .i64 da, .int .i64 db, .int .i64 dc] 110) = w2 := by
    rcases hq with ⟨_, h⟩ | ⟨h, _⟩
    · exact h
    · rw [hbad] at h; cases h
  have H2 := Lib.hid (And.intro HW HWb)
  have d1 := q1 1
  have d2 := q1 2
  have d3 := q1 3
  simp only [List.getElem?_toArray, List.getElem?_cons_zero, List.getElem?_cons_succ] at d1 d2 d3
  clear hq q1 hfr HW HWb
  generalize wr.alloc (.cells #[.bool true, .int .i64 da, .int .i64 db, .int .i64 dc] 110) = W at H2 hsW d1 d2 d3 ⊢
  go_upto_region 9 with fail
  go_cut [11] (fun v wx => v = .bool true ∧ W = wx)
  case first =>
    by_cases n1 : da < 0
    · go_wp2_with fail
      go_meet
      exact ⟨rfl, rfl⟩
    · by_cases n2 : db < 1
      · go_wp2_with fail
        go_meet
        exact ⟨rfl, rfl⟩
      · by_cases n3 : 1048576 < db
        · go_wp2_with fail
          go_meet
          exact ⟨rfl, rfl⟩
        · by_cases n4 : 1099511627776 - db < da
          · go_wp2_with fail
            go_meet
            exact ⟨rfl, rfl⟩
          · by_cases n5 : dc < 0
            · go_wp2_with fail
              go_meet
              exact ⟨rfl, rfl⟩
            · have n6 : db < dc := by simp [leafBad] at hbad; omega
              go_wp2_with fail
              go_meet
              exact ⟨by first | rfl | (simp; done) | (simp; omega), rfl⟩
  case rest =>
  obtain ⟨rfl, hw9⟩ := hcut
  subst hw9
  clear hbad d1 d2 d3
  have hltW : w.heap.size < W.heap.size := by omega
  go_wp2
  go_roundw
  case rel => exact ⟨k + 1, r, ks, B, c, by omega, by go_num, rfl, by omega, H.out.2.2, H2.out.1, H2.out.2, hltW⟩
  case measure => simp [intOf]; omega

theorem build_any5 (l : List Deed) (A : Option Addr) (cap : Nat) (w : World) (hs : SlAt w w.heap.size 4 l.length A (fun i j => (dcells (l.getD i Deed.zero)).getD j undef)) :
    Calls Try.prog 16 #[.slice A l.length cap] w fun e w' => ∃ v, e = .returned v ∧ Built5 w w' v :=
  (parts5 l cap w).2.2.2 ⟨arm_pair5 l cap w⟩ ⟨arm_leaf5 l cap w⟩ ⟨arm_bad5 l cap w⟩ A (Lib.hid hs)
end Go.Proofs.Ytkcocdpmangcgaa.Ar
