
/- Layer 22's law: what holds behind deeds; Replace where it is allowed, whatever the text; both as a resource. */ -/
import Derived.Test.YtkcocdpmangcgaaRopF
namespace Go.Proofs.Ytkcocdpmangcgaa.Rp
set_option linter.unusedSimpArgs false
set_option linter.unusedVariables false
open Go Go.RowKit
open Go.Proofs.Ytkcocdpmangcgaa.Ar (T Is Ext WF Knot getK getB Arena resAr small)
attribute [local go_sem] lt_add1 lt_self1 size_ne size_ne' size_ne1 size_ne1'
attribute [local irreducible] wpGrow wpThr

theorem digits_ge : ∀ (k j n : Nat), j < k → 2 ^ j ≤ n → j + 1 ≤ digits k n
  | 0, j, n, h, _ => by omega
  | k + 1, 0, n, _, h => by
    simp only [digits]
    rw [if_neg (by simp at h; omega)]
    omega
  | k + 1, j + 1, n, h, hp => by
    have h1 : 2 ^ j ≤ n / 2 := by rw [Nat.pow_succ] at hp; omega
    have h2 := digits_ge k j (n / 2) (by omega) h1
    have h3 : n ≠ 0 := by
      rintro rfl
      have : 0 < 2 ^ (j + 1) := Nat.pos_of_ne_zero (by simp)
      omega
    simp only [digits]
    rw [if_neg h3]
    omega
theorem cost_ok {X : T} {N : Nat} (hok : X.ok) (hb : X.bal) (hN : (N : Int) ≤ 20 * X.high + 20) (hm : X.many ≤ 1000000) : (N : Int) ≤ 64 * (digits 64 (X.many + 2).toNat : Nat) := by
  have hbd := T.bounds hok
  by_cases h0 : 0 < X.size
  · obtain ⟨h1, h2⟩ := many_pow hok hb h0
    have h3 : X.high.toNat / 2 < 64 := by
      rcases Nat.lt_or_ge (X.high.toNat / 2) 64 with h | h
      · exact h
      · have : 2 ^ 64 ≤ 2 ^ (X.high.toNat / 2) := Nat.pow_le_pow_right (by omega) h
        omega
    have := digits_ge 64 (X.high.toNat / 2) (X.many + 2).toNat h3 (by omega)
    omega
  · have : X = .nil := Ar.T.nil_of_size hok (by omega)
    subst this
    have : digits 64 ((T.nil).many + 2).toNat = 2 := by decide
    rw [this]
    simp [T.high] at hN
    omega

/-! Replace where it is allowed -/
def RepC (S : ByteArray) (ks : List Knot) (t : Int) (X : T) (a n : Int) (x : ByteArray) (v : Value) (s' : Sst) : Prop :=
  ∃ (t2 : Int) (Y : T) (N M : Nat), v = .tuple #[.int .i64 t2, .int .i64 0] ∧ s'.1 = S ++ x ∧ WF s'.2 ∧ Is s'.2 t2 Y ∧ Ext ks s'.2 N M ∧ M ≤ 5 ∧ Good s'.1 Y ∧
    txt s'.1 Y = (txt S X).take a.toNat ++ x.data.toList ++ (txt S X).drop (a.toNat + n.toNat) ∧ Y.bal ∧ (N : Int) ≤ 20 * X.high + 20 ∧ (n = 0 ∧ x.size = 0 → t2 = t ∧ N = 0)
theorem append_empty (S : ByteArray) : S ++ (⟨#[]⟩ : ByteArray) = S :=
  Go.Proofs.Ytkcocdpmangcgaa.Buf.bytes_ext (by rw [ByteArray.data_append, Array.toList_append]; exact List.append_nil _)
theorem empty_of_size {x : ByteArray} (h : x.size = 0) : x = ⟨#[]⟩ := Go.Proofs.Ytkcocdpmangcgaa.Buf.bytes_ext (by rw [List.length_eq_zero_iff.1 (show x.data.toList.length = 0 from h)])
section
variable (gs gb ga : Nat) (S : ByteArray) (ks : List Knot)
set_option maxHeartbeats 1000000 in
theorem rrep_same (t a : Int) (X : T) (hw : WF ks) (ht : Is ks t X) (hg : Good S X) (hks : ks.length ≤ 1000000) (hX : X.size ≤ 1000000) (hs : spanV X.size a 0 = 0) (hb : X.bal) :
    Does Try.prog (resSt gs gb ga) 54 #[.pointer (some ⟨gs, 0, none⟩), .int .i64 t, .int .i64 a, .int .i64 0, .string ⟨#[]⟩] (S, ks) (RepC S ks t X a 0 ⟨#[]⟩) := by
  rintro w F ⟨rb, rf, q, rfl, h⟩
  have hok := ht.ok hw
  have hbX := T.bounds hok
  have hsp := rspan_any gs w t a 0 X.size (by omega) (by omega) (rsize_is gs gb ga rb rf q S ks w t X ht h (by unfold small; omega))
  rw [hs] at hsp
  have HSP := Lib.hid hsp
  have HSZ := Lib.hid (fun w' (h : St w' gs gb ga rb rf q S ks) => rsize_is gs gb ga rb rf q S ks w' t X ht h (by unfold small; omega))
  have HH := Lib.hid (And.intro h (And.intro hw (And.intro ht (And.intro hg (And.intro hb hbX)))))
  have hz0 : 0 ≤ X.size := by omega
  clear h hw ht hg hks hsp hs hok hbX hb
  have HZ : Hid (∀ z, X.size = z → X.size = z) := Lib.hid (fun _ h => h)
  generalize X.size = z at HSZ hX hz0
  go_enter Try.func54, Try.ntmps54
  go_wp2_with fail
  ((with_reducible refine HSP.out.mono ?_); rintro e w1 ⟨rfl, hb1⟩)
  have HB1 := Lib.hid (And.intro hb1 (HH.out.1.below hb1))
  clear hb1
  go_wp2_with fail
  ((with_reducible refine (HSZ.out _ HB1.out.2).mono ?_); rintro e w2 ⟨rfl, hb2⟩)
  have HB2 := Lib.hid (And.intro (HB1.out.1.trans (hb2.mono HB1.out.1.size)) (HB1.out.2.below hb2))
  clear hb2
  go_wp2
  go_ret2
  obtain ⟨_, hw, ht, hg, hb, hbX⟩ := HH.out
  refine ⟨_, (S, ks), _, rfl, ⟨t, X, 0, 0, rfl, (append_empty S).symm, hw, ht, Ext.refl _, by omega, hg, ?_, hb, by omega, fun _ => ⟨rfl, rfl⟩⟩, resSt_at HB2.out.2, Fr.of_below HB2.out.1⟩
  simp [List.take_append_drop]

theorem rrepC (t a n : Int) (X : T) (x : ByteArray) (hw : WF ks) (ht : Is ks t X) (hg : Good S X) (hb : X.bal) (hks : ks.length ≤ 1000000) (hS : S.size + x.size ≤ 1000000) (hX : X.size ≤ 900) (hs : spanV X.size a n = 0) :
    Does Try.prog (resSt gs gb ga) 54 #[.pointer (some ⟨gs, 0, none⟩), .int .i64 t, .int .i64 a, .int .i64 n, .string x] (S, ks) (RepC S ks t X a n x) := by
  have hm := T.bounds (ht.ok hw)
  by_cases hne : n = 0 ∧ x.size = 0
  · obtain ⟨rfl, hx⟩ := hne
    rw [empty_of_size hx]
    exact rrep_same gs gb ga S ks t a X hw ht hg hks (by omega) hs hb
  · refine (rrep_some gs gb ga S ks t a n X x hw ht hg (by omega) hks hS (by omega) hs hne).mono ?_
    rintro v s' ⟨h1, t2, Y, N, M, h2, h3, h4, h5, h6, h7, h8, h9⟩
    exact ⟨t2, Y, N, M, h2, h1, h3, h4, h5, h6, h7, h8, (h9 hb).1, (h9 hb).2, fun h => absurd h hne⟩
end

/-! what holds behind so many deeds -/
structure Inv (s : Bst) (k : Nat) : Prop where
  len : s.Ts.length = s.Ls.length
  pos : 0 < s.Ts.length
  le : s.Ts.length ≤ k + 1
  wf : WF s.ks
  kn : s.ks.length ≤ 20000 * k
  sz : s.S.size ≤ 20 * k
  ropes : ∀ i, i < s.Ts.length → ∃ X, Is s.ks (s.Ts.getD i 0) X ∧ Good s.S X ∧ X.bal ∧ txt s.S X = (s.Ls.getD i ⟨#[]⟩).data.toList ∧ X.size ≤ 20 * k
theorem Inv.more {s : Bst} {k m : Nat} (h : Inv s k) (hm : k ≤ m) : Inv s m := ⟨h.len, h.pos, by have := h.le; omega, h.wf, by have := h.kn; omega, by have := h.sz; omega, fun i hi => by
  obtain ⟨X, h1, h2, h3, h4, h5⟩ := h.ropes i hi
  exact ⟨X, h1, h2, h3, h4, by omega⟩⟩
theorem getD_snoc {α : Type} (l : List α) (x d : α) (i : Nat) : (l ++ [x]).getD i d = if i = l.length then x else l.getD i d := by
  simp only [List.getD, List.getElem?_append]
  split
  · next h => rw [if_neg (by omega)]
  · next h =>
    by_cases e : i = l.length
    · subst e; simp
    · rw [if_neg e, List.getElem?_eq_none (by simp; omega), List.getElem?_eq_none (by omega)]
/-- a rope more. -/
theorem Inv.deed {s : Bst} {k i : Nat} {a n t2 : Int} {x y : ByteArray} {X : T} {v : Value} {S' : ByteArray} {ks' : List Knot} (h : Inv s k) (hk : k ≤ 45) (hi : i < s.Ts.length) (hX : Is s.ks (s.Ts.getD i 0) X) (hx : txt s.S X = (s.Ls.getD i ⟨#[]⟩).data.toList) (hxs : X.size ≤ 20 * k) (hg : Good s.S X) (hok : X.ok)
    (h0 : 0 ≤ a) (h1 : 0 ≤ n) (h2 : a + n ≤ X.size) (hx20 : x.size ≤ 20) (hr : RepC s.S s.ks (s.Ts.getD i 0) X a n x (.tuple #[.int .i64 t2, .int .i64 0]) (S', ks')) (hy : y = repS (s.Ls.getD i ⟨#[]⟩) a n x) : Inv ⟨S', ks', s.Ts ++ [t2], s.Ls ++ [y]⟩ (k + 1) := by
  obtain ⟨t2', Y, N, M, e, r1, r2, r3, r4, r5, r6, r7, r8, r9, _⟩ := hr
  simp only at r1 r2 r3 r4 r6 r7
  obtain rfl : t2 = t2' := by simpa using e
  have hlk := r4.len
  have hb := T.bounds hok
  have hz : S'.size = s.S.size + x.size := by rw [r1, ByteArray.size_append]
  have hlx := txt_length hg
  have hlx2 : ((s.Ls.getD i ⟨#[]⟩).size : Int) = X.size := by rw [← hlx, hx]; rfl
  have hyl : y.data.toList = (txt s.S X).take a.toNat ++ x.data.toList ++ (txt s.S X).drop (a.toNat + n.toNat) := by rw [hy, repS_list _ _ h0 h1 (by omega), hx]
  refine ⟨by simp [h.len], by simp, by have := h.le; simp; omega, r2, by have := h.kn; simp only; omega, by have := h.sz; simp only; omega, fun j hj => ?_⟩
  simp only [List.length_append, List.length_cons, List.length_nil] at hj
  simp only
  rw [getD_snoc, getD_snoc, ← h.len]
  by_cases ej : j = s.Ts.length
  · rw [if_pos ej, if_pos ej]
    refine ⟨Y, r3, r6, r8, by rw [r7, hyl], ?_⟩
    have := txt_length r6
    rw [r7] at this
    simp only [List.length_append, List.length_take, List.length_drop] at this
    have e2 : x.data.toList.length = x.size := rfl
    omega
  · rw [if_neg ej, if_neg ej]
    obtain ⟨Z, z1, z2, z3, z4, z5⟩ := h.ropes j (by omega)
    exact ⟨Z, z1.ext r4, by rw [r1]; exact z2.grow, z3, by rw [r1, txt_grow z2, z4], by omega⟩

/-! both as a resource -/
def resBS (w0 : World) (b gs gb ga : Nat) (Tv Lv : Value) (Ts : List Int) (Ls : List ByteArray) : Res Sst where
  at_ := fun w F s => ∃ rb rf q, F = sfoot gb ga rb rf q ∧ BI w0 b gs gb ga rb rf q Tv Lv ⟨s.1, s.2, Ts, Ls⟩ w
  below := fun h hb => by obtain ⟨rb, rf, q, e, h⟩ := h; exact ⟨rb, rf, q, e, h.below hb⟩
  lt := fun h b hb => by obtain ⟨rb, rf, q, rfl, h⟩ := h; exact h.st.foot_lt hb
theorem does_bs {w0 : World} {b gs gb ga : Nat} {Tv Lv : Value} {Ts : List Int} {Ls : List ByteArray} {f : Nat} {args : Array Value} {s : Sst} {Post : Value → Sst → Prop} (h : Does Try.prog (resSt gs gb ga) f args s Post) : Does Try.prog (resBS w0 b gs gb ga Tv Lv Ts Ls) f args s Post := by
  rintro w F ⟨rb, rf, q, rfl, hb⟩
  refine (h.run w _ (resSt_at hb.st)).mono ?_
  rintro e w' ⟨v, s', F', he, hp, ha, hf⟩
  obtain ⟨rb', rf', q', rfl, st⟩ := st_of ha
  exact ⟨v, s', _, he, hp, ⟨rb', rf', q', rfl, hb.store st hf⟩, hf⟩
theorem bs_of {w0 w : World} {b gs gb ga : Nat} {Tv Lv : Value} {Ts : List Int} {Ls : List ByteArray} {F : Nat → Prop} {s : Sst} (h : (resBS w0 b gs gb ga Tv Lv Ts Ls).at_ w F s) : ∃ rb rf q, F = sfoot gb ga rb rf q ∧ BI w0 b gs gb ga rb rf q Tv Lv ⟨s.1, s.2, Ts, Ls⟩ w := h
end Go.Proofs.Ytkcocdpmangcgaa.Rp
