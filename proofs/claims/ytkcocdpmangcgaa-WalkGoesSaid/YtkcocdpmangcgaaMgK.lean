/- Layer 23: who eats bytes, one by one, as long as it likes; a walker's memory. */ -/
import Derived.Test.YtkcocdpmangcgaaMgJ
import Derived.Test.YtkcocdpmangcgaaMgA
namespace Go.Proofs.Ytkcocdpmangcgaa.Wk
set_option linter.unusedSimpArgs false
set_option linter.unusedVariables false
open Go Go.RowKit Go.Proofs.Ytkcocdpmangcgaa.Rp
open Go.Proofs.Ytkcocdpmangcgaa.Ar (T Is Ext WF Knot getK getB getS Arena resAr small)

section
variable {σ : Type} (go : σ → UInt8 → σ × Bool)
/-- a text is eaten: what is left of the eater, whether it likes more, how many bytes it had. -/
def eat : σ → List UInt8 → σ × Bool × Nat
  | s, [] => (s, true, 0)
  | s, c :: l => if (go s c).2 = true then ((eat (go s c).1 l).1, (eat (go s c).1 l).2.1, (eat (go s c).1 l).2.2 + 1) else ((go s c).1, false, 1)
theorem eat_append : ∀ (a b : List UInt8) (s : σ), eat go s (a ++ b) = if (eat go s a).2.1 = true then ((eat go (eat go s a).1 b).1, (eat go (eat go s a).1 b).2.1, (eat go s a).2.2 + (eat go (eat go s a).1 b).2.2) else eat go s a
  | [], b, s => by simp [eat]
  | c :: a, b, s => by
    simp only [List.cons_append, eat]
    by_cases h : (go s c).2 = true
    · simp only [h, if_true]
      rw [eat_append a b]
      by_cases h2 : (eat go (go s c).1 a).2.1 = true
      · simp only [h2, if_true]
        refine Prod.ext rfl (Prod.ext rfl ?_)
        simp only
        omega
      · simp only [h2, Bool.false_eq_true, if_false]
    · simp only [h, Bool.false_eq_true, if_false]
theorem eat_le : ∀ (l : List UInt8) (s : σ), (eat go s l).2.2 ≤ l.length
  | [], s => by simp [eat]
  | c :: l, s => by
    simp only [eat]
    split
    · simp only [List.length_cons]
      have := eat_le l (go s c).1
      omega
    · simp
theorem eat_all : ∀ (l : List UInt8) (s : σ), (eat go s l).2.1 = true → (eat go s l).2.2 = l.length
  | [], s, _ => by simp [eat]
  | c :: l, s, h => by
    simp only [eat] at h ⊢
    by_cases hg : (go s c).2 = true
    · simp only [hg, if_true] at h ⊢
      rw [eat_all l _ h]
      rfl
    · simp only [hg, Bool.false_eq_true, if_false] at h
/-- one byte more. -/
theorem eat_one (s : σ) (a : List UInt8) (c : UInt8) (ha : (eat go s a).2.1 = true) : eat go s (a ++ [c]) = ((go (eat go s a).1 c).1, (go (eat go s a).1 c).2, a.length + 1) := by
  rw [eat_append, if_pos ha, eat_all go a s ha]
  by_cases h : (go (eat go s a).1 c).2 = true
  · simp [eat, h]
  · simp [eat, h]
theorem eat_stop (s : σ) (a b : List UInt8) (ha : ¬ (eat go s a).2.1 = true) : eat go s (a ++ b) = eat go s a := by rw [eat_append, if_neg ha]
/-- sizes. -/
theorem eat_size (sz : σ → Nat) (hsz : ∀ s c, sz (go s c).1 ≤ sz s + 1) : ∀ (l : List UInt8) (s : σ), sz (eat go s l).1 ≤ sz s + (eat go s l).2.2
  | [], s => by simp [eat]
  | c :: l, s => by
    simp only [eat]
    have h0 := hsz s c
    split
    · have := eat_size sz hsz l (go s c).1
      simp only
      omega
    · exact h0
end

/-! memory -/
/-- what a resource tells lies in its footprint. -/
def Keeps {σ : Type} (R : Res σ) : Prop := ∀ {w w' : World} {F G G' : Nat → Prop} {s : σ}, R.at_ w F s → Fr w G w' G' → (∀ b, F b → ¬ G b) → R.at_ w' F s

section
variable {σ : Type} (R : Res σ) (bw gs kf : Nat) (rc : Value)
/-- a walker over a store, with what it does, and how many bytes it had. -/
def resWk : Res (σ × Nat) where
  at_ := fun w F s => ∃ F1, (∀ b, F b ↔ (F1 b ∨ b = bw)) ∧ R.at_ w F1 s.1 ∧ ¬ F1 bw ∧ w.heap[bw]? = some (.cells #[.pointer (some ⟨gs, 0, none⟩), .func (.func kf) #[rc] #[], .int .i64 s.2] 137 (0, 0))
  below := fun {w w' F s} h hb => by
    obtain ⟨F1, h1, h2, h3, h4⟩ := h
    exact ⟨F1, h1, R.below h2 hb, h3, (hb.block bw (Array.getElem?_eq_some_iff.1 h4).1).trans h4⟩
  lt := fun {w F s} h b hb => by
    obtain ⟨F1, h1, h2, h3, h4⟩ := h
    rcases (h1 b).1 hb with h | rfl
    · exact R.lt h2 b h
    · exact (Array.getElem?_eq_some_iff.1 h4).1
variable (gb ga : Nat) (rb rf q : Option Nat) (S : ByteArray) (ks : List Knot)
/-- the store stays as it is. -/
def stC (w : World) (F : Nat → Prop) : Prop := St w gs gb ga rb rf q S ks ∧ (∀ k, sfoot gb ga rb rf q k → ¬ F k) ∧ ¬ F gs
theorem St.keep' {w w' : World} {F F' : Nat → Prop} (h : St w gs gb ga rb rf q S ks) (hf : Fr w F w' F') (hn : ∀ k, sfoot gb ga rb rf q k → ¬ F k) (hg : ¬ F gs) : St w' gs gb ga rb rf q S ks := Rp.St.keep h hf hn hg
theorem stC_fr {w w' : World} {F F' : Nat → Prop} (h : stC gs gb ga rb rf q S ks w F) (hf : Fr w F w' F') : stC gs gb ga rb rf q S ks w' F' :=
  ⟨h.1.keep hf h.2.1 h.2.2, fun k hk => hf.out (h.1.foot_lt hk) (h.2.1 k hk), hf.out h.1.lt h.2.2⟩
def resW : Res (σ × Nat) := (resWk R bw gs kf rc).with_ (stC gs gb ga rb rf q S ks) (fun h hf => stC_fr gs gb ga rb rf q S ks h hf)
theorem resW_of {w : World} {F : Nat → Prop} {s : σ × Nat} (h : (resW R bw gs kf rc gb ga rb rf q S ks).at_ w F s) : ∃ F1, (∀ b, F b ↔ (F1 b ∨ b = bw)) ∧ R.at_ w F1 s.1 ∧ ¬ F1 bw ∧ w.heap[bw]? = some (.cells #[.pointer (some ⟨gs, 0, none⟩), .func (.func kf) #[rc] #[], .int .i64 s.2] 137 (0, 0)) ∧ stC gs gb ga rb rf q S ks w F := by
  obtain ⟨⟨F1, h1, h2, h3, h4⟩, h5⟩ := h
  exact ⟨F1, h1, h2, h3, h4, h5⟩
theorem resW_mk {w : World} {F F1 : Nat → Prop} {s : σ × Nat} (h1 : ∀ b, F b ↔ (F1 b ∨ b = bw)) (h2 : R.at_ w F1 s.1) (h3 : ¬ F1 bw) (h4 : w.heap[bw]? = some (.cells #[.pointer (some ⟨gs, 0, none⟩), .func (.func kf) #[rc] #[], .int .i64 s.2] 137 (0, 0))) (h5 : stC gs gb ga rb rf q S ks w F) : (resW R bw gs kf rc gb ga rb rf q S ks).at_ w F s := ⟨⟨F1, h1, h2, h3, h4⟩, h5⟩

set_option maxHeartbeats 1000000 in
theorem put_does (hk : Keeps R) (go : σ → UInt8 → σ × Bool) (c : UInt8) (s : σ) (m : Nat) (hm : m ≤ 10000000) (eg : ∀ args w, (callFunc kf args).run Try.prog w = .ok (.enter kf args) w)
    (hdo : Does Try.prog R kf #[rc, .int .u8 c.toNat] s (fun v s' => v = .bool (go s c).2 ∧ s' = (go s c).1)) :
    Does Try.prog (resW R bw gs kf rc gb ga rb rf q S ks) 104 #[.pointer (some ⟨bw, 0, none⟩), .int .u8 c.toNat] (s, m) (fun v s' => v = .bool (go s c).2 ∧ s' = ((go s c).1, m + 1)) := by
  rintro w F h
  obtain ⟨F1, h1, h2, h3, h4, h5⟩ := resW_of R bw gs kf rc gb ga rb rf q S ks h
  have hset : Fr w (fun b => b = bw) (w.setCell ⟨bw, 2, none⟩ (.int .i64 ((m : Int) + 1))) (fun b => b = bw) :=
    ⟨rfl, rfl, rfl, by rw [World.size_setCell]; exact Nat.le_refl _, fun b _ hn => set_block hn, fun b hb => .inl hb⟩
  have hR2 := hk h2 hset (fun b hb e => h3 (e ▸ hb))
  have hfs : Fr w F (w.setCell ⟨bw, 2, none⟩ (.int .i64 ((m : Int) + 1))) F := hset.weaken (fun b e => (h1 b).2 (.inr e)) (fun b hb => .inr hb)
  have hblk : (w.setCell ⟨bw, 2, none⟩ (.int .i64 ((m : Int) + 1))).heap[bw]? = some (.cells #[.pointer (some ⟨gs, 0, none⟩), .func (.func kf) #[rc] #[], .int .i64 ((m : Int) + 1)] 137 (0, 0)) := by
    simp [World.setCell, Array.getElem?_modify, h4]
  have HD := Lib.hid (hdo.run _ _ hR2)
  have HH := Lib.hid (And.intro h1 (And.intro h3 (And.intro hfs (And.intro hblk (stC_fr gs gb ga rb rf q S ks h5 hfs)))))
  have c1 := cell_of_row w bw 1 _ _ (0, 0) h4
  have c2 := cell_of_row w bw 2 _ _ (0, 0) h4
  have f2 : w.frozen? ⟨bw, 2, none⟩ = false := by simp [World.frozen?, h4]
  have hlt := (Array.getElem?_eq_some_iff.1 h4).1
  have hm' : (m : Int) ≤ 10000000 := by omega
  clear h h1 h2 h3 h4 h5 hset hR2 hfs hblk hdo hk
  go_enter Try.func104, Try.ntmps104
  go_wp2_with fail
  ((with_reducible refine HD.out.mono ?_); rintro e w2 ⟨v, s', F2, rfl, ⟨rfl, rfl⟩, ha2, hf2⟩)
  have HE := Lib.hid (And.intro ha2 hf2)
  clear ha2 hf2
  go_wp2
  go_ret
  obtain ⟨h1, h3, hfs, hblk, hC⟩ := HH.out
  obtain ⟨ha2, hf2⟩ := HE.out
  have hlt2 : bw < (w.setCell ⟨bw, 2, none⟩ (.int .i64 ((m : Int) + 1))).heap.size := by rw [World.size_setCell]; exact hlt
  have hft : Fr (w.setCell ⟨bw, 2, none⟩ (.int .i64 ((m : Int) + 1))) F w2 (fun b => F2 b ∨ b = bw) :=
    hf2.weaken (fun b hb => (h1 b).2 (.inl hb)) (fun b hb => hb.elim (fun h => .inl h) (fun e => .inr ((h1 b).2 (.inr e))))
  refine ⟨_, ((go s c).1, m + 1), _, rfl, ⟨rfl, rfl⟩, resW_mk R bw gs kf rc gb ga rb rf q S ks (fun b => Iff.rfl) ha2 (hf2.out hlt2 h3) ?_ (stC_fr gs gb ga rb rf q S ks hC hft), hfs.trans hft⟩
  have := hf2.block hblk h3
  rw [this]
  rfl
end
end Go.Proofs.Ytkcocdpmangcgaa.Wk


/- Layer 23: a walker goes over a text. */ -/
namespace Go.Proofs.Ytkcocdpmangcgaa.Wk
set_option linter.unusedSimpArgs false
set_option linter.unusedVariables false
open Go Go.RowKit Go.Proofs.Ytkcocdpmangcgaa.Rp
open Go.Proofs.Ytkcocdpmangcgaa.Ar (T Is Ext WF Knot getK getB getS Arena resAr small)
attribute [local go_sem] lt_add1 lt_self1 size_ne size_ne' size_ne1 size_ne1'

section
variable {σ : Type} (R : Res σ) (bw gs kf : Nat) (rc : Value) (gb ga : Nat) (rb rf q : Option Nat) (S : ByteArray) (ks : List Knot)
variable (go : σ → UInt8 → σ × Bool) (sz : σ → Nat) (hkp : Keeps R) (hsz : ∀ s c, sz (go s c).1 ≤ sz s + 1) (eg : ∀ args w, (callFunc kf args).run Try.prog w = .ok (.enter kf args) w)
  (hdo : ∀ s c, sz s + 1 ≤ 1000000 → Does Try.prog R kf #[rc, .int .u8 (c : UInt8).toNat] s (fun v s' => v = .bool (go s c).2 ∧ s' = (go s c).1))
include hkp hsz eg hdo

set_option maxHeartbeats 1000000 in
theorem textF_does (b : ByteArray) (s : σ) (m : Nat) (hs : sz s + b.size ≤ 1000000) (hm : m + b.size ≤ 10000000) :
    Does Try.prog (resW R bw gs kf rc gb ga rb rf q S ks) 100 #[.pointer (some ⟨bw, 0, none⟩), .string b, .bool false] (s, m) (fun v s' => v = .bool (eat go s (b.data.toList)).2.1 ∧ s' = ((eat go s (b.data.toList)).1, m + (eat go s (b.data.toList)).2.2)) := by
  rintro w F h
  have hlen : (b.data.toList).length = b.size := by simp
  have hget : ∀ k, k < b.size → (b.data.toList)[k]? = some (b.data.toList.getD (k) 0) := by
    intro k hk
    have e : b.data.toList.length = b.size := rfl
    have e2 : b.data.size = b.size := rfl
    simp [List.getD, List.getElem?_reverse, e, e2, hk]
    try (rw [Array.getElem?_eq_getElem (by omega)]; rfl)
  have HH := Lib.hid h
  have HG := Lib.hid (And.intro hlen hget)
  clear h hlen hget
  have hz : (b.size : Int) ≤ 1000000 := by omega
  go_enter Try.func100, Try.ntmps100
  go_wp2_with fail
  go_loopw [10] (fun i wr => ∃ (k : Nat) (Fk : Nat → Prop), i = .int .i64 k ∧ k ≤ b.size ∧ Hid ((eat go s ((b.data.toList).take k)).2.1 = true ∧ (resW R bw gs kf rc gb ga rb rf q S ks).at_ wr Fk ((eat go s ((b.data.toList).take k)).1, m + k) ∧ Fr w F wr Fk)) (fun i _ => b.size - (intOf i).toNat)
  case atStart => exact ⟨0, F, rfl, by omega, Lib.hid ⟨by simp [eat], by simpa [eat] using HH.out, Fr.refl _ _⟩⟩
  case round =>
    obtain ⟨k, Fk, rfl, hk, HK⟩ := hrel
    by_cases hkn : k < b.size
    · have hc := HG.out.2 k hkn
      have hta : (b.data.toList).take (k + 1) = (b.data.toList).take k ++ [b.data.toList.getD (k) 0] := by rw [List.take_add_one, hc]; rfl
      have hea := eat_one go s ((b.data.toList).take k) (b.data.toList.getD (k) 0) HK.out.1
      have hszk := eat_size go sz hsz ((b.data.toList).take k) s
      have hle := eat_le go ((b.data.toList).take k) s
      rw [List.length_take, HG.out.1] at hle
      have HP := Lib.hid ((put_does R bw gs kf rc gb ga rb rf q S ks hkp go (b.data.toList.getD (k) 0) (eat go s ((b.data.toList).take k)).1 (m + k) (by omega) eg (hdo _ _ (by omega))).run _ _ HK.out.2.1)
      have HE := Lib.hid (And.intro hta (And.intro hea hc))
      have hbyte : ∀ (h : (k) < b.size), b[k] = b.data.toList.getD (k) 0 := by
        intro h
        have e : (k) < b.data.toList.length := h
        rw [List.getD, List.getElem?_eq_getElem e]
        rfl
      clear hta hea hszk hle hc
      generalize b.data.toList.getD (k) 0 = c at HP HE hbyte
      have hkn' : (k : Int) < b.size := by omega
      go_wp2_with fail
      ((with_reducible refine HP.out.mono ?_); rintro e w2 ⟨v, st, F2, rfl, ⟨rfl, rfl⟩, ha2, hf2⟩)
      have H2 := Lib.hid (And.intro ha2 (HK.out.2.2.trans hf2))
      clear ha2 hf2 hbyte HP
      have hnx : eat go s ((b.data.toList).take (k + 1)) = ((go (eat go s ((b.data.toList).take k)).1 c).1, (go (eat go s ((b.data.toList).take k)).1 c).2, k + 1) := by
        rw [HE.out.1, HE.out.2.1, List.length_take, HG.out.1, Nat.min_eq_left hk]
      have HN := Lib.hid hnx
      clear hnx HE
      cases hgo : (go (eat go s ((b.data.toList).take k)).1 c).2
      · go_wp2_with fail
        go_ret
        have e1 : eat go s (b.data.toList) = eat go s ((b.data.toList).take (k + 1)) := by
          conv => lhs; rw [← List.take_append_drop (k + 1) (b.data.toList)]
          exact eat_stop go s _ _ (by rw [HN.out, hgo]; simp)
        refine ⟨.bool false, _, F2, rfl, ⟨?_, ?_⟩, H2.out.1, H2.out.2⟩
        · rw [e1, HN.out, hgo]
        · rw [e1, HN.out]
          rfl
      · go_wp2_with fail
        go_roundw
        case rel => exact ⟨k + 1, F2, by go_num, by omega, Lib.hid ⟨by rw [HN.out]; exact hgo, by rw [HN.out]; exact H2.out.1, H2.out.2⟩⟩
        case measure => simp [intOf]; omega
    · obtain rfl : k = b.size := by omega
      have e1 : (b.data.toList).take b.size = b.data.toList := List.take_of_length_le (by rw [HG.out.1]; exact Nat.le_refl _)
      rw [e1] at HK
      have hkn' : ¬ ((b.size : Int) < b.size) := by omega
      go_wp2_with fail
      go_ret
      have hal := eat_all go _ s HK.out.1
      rw [HG.out.1] at hal
      exact ⟨.bool true, rfl, _, m + b.size, ⟨by rw [HK.out.1], rfl, by rw [hal]⟩, Fk, HK.out.2.1, HK.out.2.2⟩

set_option maxHeartbeats 1000000 in
theorem textR_does (b : ByteArray) (s : σ) (m : Nat) (hs : sz s + b.size ≤ 1000000) (hm : m + b.size ≤ 10000000) :
    Does Try.prog (resW R bw gs kf rc gb ga rb rf q S ks) 100 #[.pointer (some ⟨bw, 0, none⟩), .string b, .bool true] (s, m) (fun v s' => v = .bool (eat go s (b.data.toList.reverse)).2.1 ∧ s' = ((eat go s (b.data.toList.reverse)).1, m + (eat go s (b.data.toList.reverse)).2.2)) := by
  rintro w F h
  have hlen : (b.data.toList.reverse).length = b.size := by simp
  have hget : ∀ k, k < b.size → (b.data.toList.reverse)[k]? = some (b.data.toList.getD (b.size - 1 - k) 0) := by
    intro k hk
    have e : b.data.toList.length = b.size := rfl
    have e2 : b.data.size = b.size := rfl
    simp [List.getD, List.getElem?_reverse, e, e2, hk]
    try (rw [Array.getElem?_eq_getElem (by omega)]; rfl)
  have HH := Lib.hid h
  have HG := Lib.hid (And.intro hlen hget)
  clear h hlen hget
  have hz : (b.size : Int) ≤ 1000000 := by omega
  go_enter Try.func100, Try.ntmps100
  go_wp2_with fail
  go_loopw [10] (fun i wr => ∃ (k : Nat) (Fk : Nat → Prop), i = .int .i64 k ∧ k ≤ b.size ∧ Hid ((eat go s ((b.data.toList.reverse).take k)).2.1 = true ∧ (resW R bw gs kf rc gb ga rb rf q S ks).at_ wr Fk ((eat go s ((b.data.toList.reverse).take k)).1, m + k) ∧ Fr w F wr Fk)) (fun i _ => b.size - (intOf i).toNat)
  case atStart => exact ⟨0, F, rfl, by omega, Lib.hid ⟨by simp [eat], by simpa [eat] using HH.out, Fr.refl _ _⟩⟩
  case round =>
    obtain ⟨k, Fk, rfl, hk, HK⟩ := hrel
    by_cases hkn : k < b.size
    · have hc := HG.out.2 k hkn
      have hta : (b.data.toList.reverse).take (k + 1) = (b.data.toList.reverse).take k ++ [b.data.toList.getD (b.size - 1 - k) 0] := by rw [List.take_add_one, hc]; rfl
      have hea := eat_one go s ((b.data.toList.reverse).take k) (b.data.toList.getD (b.size - 1 - k) 0) HK.out.1
      have hszk := eat_size go sz hsz ((b.data.toList.reverse).take k) s
      have hle := eat_le go ((b.data.toList.reverse).take k) s
      rw [List.length_take, HG.out.1] at hle
      have HP := Lib.hid ((put_does R bw gs kf rc gb ga rb rf q S ks hkp go (b.data.toList.getD (b.size - 1 - k) 0) (eat go s ((b.data.toList.reverse).take k)).1 (m + k) (by omega) eg (hdo _ _ (by omega))).run _ _ HK.out.2.1)
      have HE := Lib.hid (And.intro hta (And.intro hea hc))
      have hbyte : ∀ (h : (b.size - 1 - k) < b.size), b[b.size - 1 - k] = b.data.toList.getD (b.size - 1 - k) 0 := by
        intro h
        have e : (b.size - 1 - k) < b.data.toList.length := h
        rw [List.getD, List.getElem?_eq_getElem e]
        rfl
      clear hta hea hszk hle hc
      generalize b.data.toList.getD (b.size - 1 - k) 0 = c at HP HE hbyte
      have hkn' : (k : Int) < b.size := by omega
      go_wp2_with fail
      ((with_reducible refine HP.out.mono ?_); rintro e w2 ⟨v, st, F2, rfl, ⟨rfl, rfl⟩, ha2, hf2⟩)
      have H2 := Lib.hid (And.intro ha2 (HK.out.2.2.trans hf2))
      clear ha2 hf2 hbyte HP
      have hnx : eat go s ((b.data.toList.reverse).take (k + 1)) = ((go (eat go s ((b.data.toList.reverse).take k)).1 c).1, (go (eat go s ((b.data.toList.reverse).take k)).1 c).2, k + 1) := by
        rw [HE.out.1, HE.out.2.1, List.length_take, HG.out.1, Nat.min_eq_left hk]
      have HN := Lib.hid hnx
      clear hnx HE
      cases hgo : (go (eat go s ((b.data.toList.reverse).take k)).1 c).2
      · go_wp2_with fail
        go_ret
        have e1 : eat go s (b.data.toList.reverse) = eat go s ((b.data.toList.reverse).take (k + 1)) := by
          conv => lhs; rw [← List.take_append_drop (k + 1) (b.data.toList.reverse)]
          exact eat_stop go s _ _ (by rw [HN.out, hgo]; simp)
        refine ⟨.bool false, _, F2, rfl, ⟨?_, ?_⟩, H2.out.1, H2.out.2⟩
        · rw [e1, HN.out, hgo]
        · rw [e1, HN.out]
          rfl
      · go_wp2_with fail
        go_roundw
        case rel => exact ⟨k + 1, F2, by go_num, by omega, Lib.hid ⟨by rw [HN.out]; exact hgo, by rw [HN.out]; exact H2.out.1, H2.out.2⟩⟩
        case measure => simp [intOf]; omega
    · obtain rfl : k = b.size := by omega
      have e1 : (b.data.toList.reverse).take b.size = b.data.toList.reverse := List.take_of_length_le (by rw [HG.out.1]; exact Nat.le_refl _)
      rw [e1] at HK
      have hkn' : ¬ ((b.size : Int) < b.size) := by omega
      go_wp2_with fail
      go_ret
      have hal := eat_all go _ s HK.out.1
      rw [HG.out.1] at hal
      exact ⟨.bool true, rfl, _, m + b.size, ⟨by rw [HK.out.1], rfl, by rw [hal]⟩, Fk, HK.out.2.1, HK.out.2.2⟩

end
end Go.Proofs.Ytkcocdpmangcgaa.Wk
