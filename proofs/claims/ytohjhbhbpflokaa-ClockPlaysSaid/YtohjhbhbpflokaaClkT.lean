
/- A clock's deeds; texts kept by their keys. -/
import Derived.Test.YtohjhbhbpflokaaClkO
import Derived.BigRegion
import Derived.Deep.RegionWith
import Derived.Deep.CutBlock
import Derived.Deep.DeepCutAuto
namespace Go.Proofs.Ytohjhbhbpflokaa.Ck
set_option linter.unusedSimpArgs false
set_option linter.unusedVariables false
open Go Go.RowKit Go.Shelf
set_option linter.unusedVariables false
attribute [local go_sem] lt_add1 lt_self1 size_ne size_ne' size_ne1 size_ne1'
/-- a deed. -/
structure CD where
  kind : Int
  key : Int
  text : ByteArray
instance : Inhabited CD := ⟨⟨0, 0, ⟨#[]⟩⟩⟩
def cdc (d : CD) : List Value := [.int .u8 d.kind, .int .i64 d.key, .string d.text]
structure CD.Ok (d : CD) : Prop where
  lo : 0 ≤ d.kind
  hi : d.kind ≤ 255
  key : i64ok d.key
  text : d.text.size ≤ 2 ^ 63 - 1
theorem and15 (x : Int) : ∃ q : Nat, q < 16 ∧ bits BinOp.and IntKind.i64 x 15 = q := by
  refine ⟨(BitVec.ofInt 64 x).toNat % 16, Nat.mod_lt _ (by decide), ?_⟩
  show IntKind.i64.wrap ((((BitVec.ofInt 64 x) &&& (BitVec.ofInt 64 15)).toNat : Nat) : Int) = _
  have h : ((BitVec.ofInt 64 x) &&& (BitVec.ofInt 64 15)).toNat = (BitVec.ofInt 64 x).toNat % 16 := by
    rw [BitVec.toNat_and]
    have : (BitVec.ofInt 64 15).toNat = 2 ^ 4 - 1 := by decide
    rw [this, Nat.and_two_pow_sub_one_eq_mod]
  rw [h]
  exact IntWalk.i64_in _ (by omega)
/-- which text was put last, by each of sixteen keys. -/
def LastAt (w : World) (F : Nat → Prop) (g : Nat) (L : Int → Option ByteArray) : Prop :=
  ¬ F g ∧ (∃ cur, w.heap[g]? = some (.cells cur 30 (0, 0)) ∧ cur.size = 16 ∧ ∀ j : Nat, j < 16 → ∃ u, cur[j]? = some u ∧ ((L j = none ∧ u = .slice none 0 0) ∨
    ∃ v b, L j = some v ∧ u = .slice (some ⟨b, 0, none⟩) 1 1 ∧ ¬ F b ∧ b ≠ g ∧ b < w.heap.size ∧ w.cell? ⟨b, 0, none⟩ = some (.string v)))
theorem LastAt.fr {w w' : World} {F F' : Nat → Prop} {g : Nat} {L : Int → Option ByteArray} (h : LastAt w F g L) (hf : Fr w F w' F') : LastAt w' F' g L := by
  obtain ⟨h1, cur, h2, h3, h4⟩ := h
  have hl := (Array.getElem?_eq_some_iff.1 h2).1
  refine ⟨hf.out hl h1, cur, hf.block h2 h1, h3, fun j hj => ?_⟩
  obtain ⟨u, e1, e2⟩ := h4 j hj
  refine ⟨u, e1, e2.imp id ?_⟩
  rintro ⟨v, b, a1, a2, a3, a4, a5, a6⟩
  exact ⟨v, b, a1, a2, hf.out a5 a3, a4, hf.lt a5, (hf.cell a5 a3 0).trans a6⟩
theorem LastAt.below {w w' : World} {F : Nat → Prop} {g : Nat} {L : Int → Option ByteArray} (h : LastAt w F g L) (hb : Below w.heap.size w w') : LastAt w' F g L := h.fr (Fr.of_below hb)
theorem LastAt.put {w : World} {F : Nat → Prop} {g : Nat} {L : Int → Option ByteArray} (h : LastAt w F g L) (hF : ∀ b, F b → b < w.heap.size) (k : Nat) (hk : k < 16) (v : ByteArray) : LastAt ((w.alloc (.cells #[.string v] 9)).setCell ⟨g, k, none⟩ (.slice (some ⟨w.heap.size, 0, none⟩) 1 1)) F g (putL L k v) := by
  obtain ⟨h1, cur, h2, h3, h4⟩ := h
  have hl := (Array.getElem?_eq_some_iff.1 h2).1
  have hg2 : (w.alloc (.cells #[.string v] 9)).heap[g]? = some (.cells cur 30 (0, 0)) := (Below.heap_alloc _ _ g hl).trans h2
  refine ⟨h1, cur.setIfInBounds k (.slice (some ⟨w.heap.size, 0, none⟩) 1 1), heap_setCell_same _ g k _ _ _ hg2, by simpa using h3, fun j hj => ?_⟩
  by_cases e : j = k
  · subst e
    refine ⟨.slice (some ⟨w.heap.size, 0, none⟩) 1 1, by simp [h3, hj], .inr ⟨v, w.heap.size, by simp [putL], rfl, fun hf => Nat.lt_irrefl _ (hF _ hf), by omega, by simp, ?_⟩⟩
    rw [cell_other (fun e => by omega)]
    exact cell_of_row (w.alloc (.cells #[.string v] 9)) w.heap.size 0 _ _ (0, 0) (heap_alloc_new w _)
  · obtain ⟨u, e1, e2⟩ := h4 j hj
    have hne : ¬ (j : Int) = (k : Int) := by omega
    refine ⟨u, by rw [Array.getElem?_setIfInBounds_ne (fun h => e h.symm)]; exact e1, e2.imp (fun ⟨a, b⟩ => ⟨by unfold putL; rw [if_neg hne]; exact a, b⟩) ?_⟩
    rintro ⟨x, b, a1, a2, a3, a4, a5, a6⟩
    refine ⟨x, b, by unfold putL; rw [if_neg hne]; exact a1, a2, a3, a4, by simp; omega, ?_⟩
    rw [cell_other (fun e => by omega)]
    exact (((Below.refl w.heap.size w).alloc (Nat.le_refl _) (.cells #[.string v] 9)).cell (p := ⟨b, 0, none⟩) a5).trans a6
theorem LastAt.read {w : World} {F : Nat → Prop} {g : Nat} {L : Int → Option ByteArray} (h : LastAt w F g L) (k : Nat) (hk : k < 16) : g < w.heap.size ∧ (∀ o, w.frozen? ⟨g, o, none⟩ = false) ∧
    ((L k = none ∧ w.cell? ⟨g, k, none⟩ = some (.slice none 0 0)) ∨ ∃ v b, L k = some v ∧ w.cell? ⟨g, k, none⟩ = some (.slice (some ⟨b, 0, none⟩) 1 1) ∧ b < w.heap.size ∧ w.cell? ⟨b, 0, none⟩ = some (.string v)) := by
  obtain ⟨h1, cur, h2, h3, h4⟩ := h
  refine ⟨(Array.getElem?_eq_some_iff.1 h2).1, fun o => by simp [World.frozen?, h2], ?_⟩
  have hc : w.cell? ⟨g, k, none⟩ = cur[k]? := by simp [World.cell?, h2]
  obtain ⟨u, e1, e2⟩ := h4 k hk
  rw [hc, e1]
  rcases e2 with ⟨a, rfl⟩ | ⟨v, b, a1, rfl, a3, a4, a5, a6⟩
  · exact .inl ⟨a, rfl⟩
  · exact .inr ⟨v, b, a1, rfl, a5, a6⟩
theorem LastAt.made {w : World} {F : Nat → Prop} (hF : ∀ b, F b → b < w.heap.size) (cur : Array Value) (hs : cur.size = 16) (hz : ∀ j : Nat, j < 16 → cur[j]? = some (.slice none 0 0)) : LastAt (w.alloc (.cells cur 30)) F w.heap.size (fun _ => none) :=
  ⟨fun hf => Nat.lt_irrefl _ (hF _ hf), cur, heap_alloc_new _ _, hs, fun j hj => ⟨_, hz j hj, .inl ⟨rfl, rfl⟩⟩⟩
theorem strs_info : (Try.prog.info? 30).map (fun i => (i.zero, i.size, i.bytes)) = some (some (.slice none 0 0), 1, 24) := by kernel_rfl
theorem make_strs (W : World) : (Instr.makeSlice 26 (.int .i64 16) (.int .i64 16)).run Try.prog W = .ok (.slice (some ⟨W.heap.size, 0, none⟩) 16 16) (W.alloc (.cells (Array.replicate 16 (.slice none 0 0)) 30)) := by
  obtain ⟨i, hi, h0, h1, h2⟩ := info_parts strs_info
  have := run_make (P := Try.prog) W 26 30 i (.slice none 0 0) Try.underlying26 hi h0 .i64 .i64 16 16 (by omega) (by omega) (by rw [h2]; omega) (by omega)
  rw [h1] at this
  have e : madeCells (Value.slice none 0 0).cells ((16 : Int).toNat * 1) = Array.replicate 16 (.slice none 0 0) := by
    refine Array.ext (by simp [madeCells]) fun i h1 h2 => ?_
    simp [madeCells, Value.cells, Nat.mod_one]
  rw [e] at this
  simpa using this
theorem LastAt.some {w : World} {F : Nat → Prop} {g : Nat} {L : Int → Option ByteArray} (h : LastAt w F g L) (k : Nat) (hk : k < 16) : ∃ u, w.cell? ⟨g, k, none⟩ = some u := by
  rcases (h.read k hk).2.2 with ⟨_, e⟩ | ⟨_, _, _, e, _⟩
  · exact ⟨_, e⟩
  · exact ⟨_, e⟩
theorem Law.far {B : Nat} {w0 w w' : World} {c : Nat} {s : CS} {n : Nat} {F F' : Nat → Prop} (h : Law B w0 c s n w F) (hf : Fr w F w' F') {b : Nat} (hb : b < B) (o : Nat) : w'.cell? ⟨b, o, none⟩ = w.cell? ⟨b, o, none⟩ :=
  hf.cell (Nat.lt_of_lt_of_le hb (Nat.le_trans h.sz h.bel.size)) (fun hF => by have := h.ge b hF; omega) o
theorem Law.store {B : Nat} {w0 w : World} {c g o : Nat} {s : CS} {n : Nat} {F : Nat → Prop} {u : Value} (h : Law B w0 c s n w F) (hg : B ≤ g) (hF : ¬ F g) : Law B w0 c s n (w.setCell ⟨g, o, none⟩ u) F :=
  ⟨CkAt.fr h.ck (fr_cell (F := fun b => b = g) rfl) (fun b hb e => by subst e; exact hF hb), h.bel.setCell hg _, h.ge, h.sz⟩
theorem get_put0 {s : CS} (hs : s.Ok) (hm : s.most = 0) (k : Int) (v : ByteArray) : getS (putS s k v) k = (s, ⟨#[]⟩, false) := by
  rw [put_none hm]
  refine getS_none ?_
  have h0 : s.row = [] := List.eq_nil_of_length_eq_zero (by have := hs.most; omega)
  rw [h0]; rfl
set_option maxHeartbeats 8000000 in
set_option maxRecDepth 100000 in
theorem keeps_walk (w : World) (most : Int) (hm : i64ok most) (A : Option Addr) (cap : Nat) (l : List CD) (hl : l.length ≤ cap) (hcap : cap ≤ 9223372036854775807) (hg : ∀ d ∈ l, d.Ok) (hs : SlAt w w.heap.size 3 l.length A (fun i j => (cdc (l.getD i default)).getD j undef)) :
    Calls Try.prog 3 #[.int .i64 most, .slice A l.length cap] w fun e w' => e = .returned (.bool true) ∧ Below w.heap.size w w' := by
  have HA := Lib.hid awake_any
  have HS := Lib.hid (And.intro hs hg)
  clear hs hg
  go_enter Try.func3, Try.ntmps3
  go_wp2_with fail
  ((with_reducible refine (HA.out w).mono ?_); rintro _ w1 ⟨rfl, hb1⟩)
  have HB1 := Lib.hid hb1
  clear hb1
  go_wp2_with fail
  ((with_reducible refine (new_any most _ (i64_hi hm).1).mono ?_); rintro _ w2 ⟨c, F2, rfl, ha, hF, hb⟩)
  have H2 := Lib.hid (Law.new ha hF hb)
  clear ha hF hb
  have hmk := make_strs
  go_upto_region 5 with fail
  have HL := Lib.hid (LastAt.made (w := w2) (F := F2) ((resCk c).lt H2.out.ck) (Array.replicate 16 (.slice none 0 0)) (by simp) (fun j hj => by simp [hj]))
  have H3 := Lib.hid (H2.out.below ((Below.refl _ _).alloc (Nat.le_refl _) (.cells (Array.replicate 16 (.slice none 0 0)) 30)))
  clear hmk
  generalize w2.alloc (.cells (Array.replicate 16 (.slice none 0 0)) 30) = w3 at HL H3 ⊢
  have hg1 : w1.heap.size ≤ w2.heap.size := H2.out.bel.size
  generalize w2.heap.size = g at HL hg1 ⊢
  go_wp2_with fail
  go_loopw [7] (fun i wr => ∃ (k n : Nat) (s : CS) (F : Nat → Prop) (L : Int → Option ByteArray), k ≤ l.length ∧ k ≤ 80 ∧ n ≤ k ∧ i = .int .i64 k ∧ Hid (Law w1.heap.size w1 c s n wr F ∧ LastAt wr F g L ∧ Last L s ∧ s.most = (max most 0).toNat)) (fun i _ => l.length - (intOf i).toNat)
  case atStart => exact ⟨0, 0, newS most, F2, fun _ => none, Nat.zero_le _, Nat.zero_le _, Nat.zero_le _, rfl, Lib.hid ⟨H3.out, HL.out, last_new _ _, rfl⟩⟩
  case round =>
    obtain ⟨k, n, s, F, L, hk, hk80, hn, rfl, HB⟩ := hrel
    by_cases hks : k < l.length ∧ k < 80
    · obtain ⟨hkl, hk8⟩ := hks
      have hks' : (k : Int) < l.length := by omega
      have hk8' : (k : Int) < 80 := by omega
      obtain ⟨b, off, rfl, hb, hc⟩ := HS.out.1 (by omega)
      have d0 := (HB1.out.trans (HB.out.1.bel.mono HB1.out.size)).cell (p := ⟨b, off + (k * 3 + 0), none⟩) hb |>.trans (hc k 0 hkl (by omega))
      have d1 := (HB1.out.trans (HB.out.1.bel.mono HB1.out.size)).cell (p := ⟨b, off + (k * 3 + 1), none⟩) hb |>.trans (hc k 1 hkl (by omega))
      have d2 := (HB1.out.trans (HB.out.1.bel.mono HB1.out.size)).cell (p := ⟨b, off + (k * 3 + 2), none⟩) hb |>.trans (hc k 2 hkl (by omega))
      have hbl : b < wr.heap.size := Nat.lt_of_lt_of_le hb (Nat.le_trans HB1.out.size HB.out.1.bel.size)
      have hok : (l.getD k default).Ok := HS.out.2 _ (by simp [List.getD, hkl])
      simp only [cdc, List.getD_cons_zero, List.getD_cons_succ, Nat.add_zero] at d0 d1 d2
      rw [← Nat.add_assoc] at d1 d2
      generalize l.getD k default = d at d0 d1 d2 hok
      obtain ⟨kind, key, text⟩ := d
      obtain ⟨kl, kh, ki, kt⟩ := hok
      simp only at d0 d1 d2 kl kh ki kt
      clear hc
      obtain ⟨q, hq, hq15⟩ := and15 key
      go_upto_block 2 with fail
      go_cut [40] (fun _ wx => Hid (∃ (n2 : Nat) (s2 : CS) (G : Nat → Prop) (L2 : Int → Option ByteArray), n2 ≤ k + 1 ∧ Law w1.heap.size w1 c s2 n2 wx G ∧ LastAt wx G g L2 ∧ Last L2 s2 ∧ s2.most = (max most 0).toNat))
      case first =>
        have hr0 : 0 ≤ kind % 8 ∧ kind % 8 < 8 := ⟨Int.emod_nonneg _ (by decide), Int.emod_lt_of_pos _ (by decide)⟩
        have hr1 := hr0.2
        have hr2 := hr0.1
        have hql : i64ok (q : Int) := i64ok_of (by omega) (by omega)
        have hql' : (q : Int) < 16 := by omega
        have hgood := HB.out.1.ck.good
        obtain ⟨gl, gf, hL⟩ := HB.out.2.1.read q hq
        clear hr0
        go_upto_region 13 with fail
        generalize kind % 8 = r at hr1 hr2 ⊢
        by_cases h012 : r = 0 ∨ r = 1 ∨ r = 2
        · rcases h012 with rfl | rfl | rfl
          all_goals
            clear hr1 hr2
            go_wp2_with fail
            ((with_reducible refine ((put_any c s n q text hql (by omega)).run wr F (resCk_to HB.out.1.ck)).mono ?_); rintro _ w5 ⟨u5, _, F5, rfl, ⟨n5, hn5, rfl⟩, ha, hf⟩)
            have hb1 : b < w1.heap.size := Nat.lt_of_lt_of_le hb HB1.out.size
            have e2 := (HB.out.1.far hf hb1 _).trans d2
            have bl5 := hf.lt hbl
            have hL5 := HB.out.2.1.fr hf
            obtain ⟨gl5, gf5, _⟩ := hL5.read q hq
            obtain ⟨ug, cg5⟩ := hL5.some q hq
            have H5 := Lib.hid (And.intro (HB.out.1.step ha hf) hL5)
            clear ha hf hL5 d0 d1 d2 hL gl gf
            go_upto_region 18 with fail
            have H6 := Lib.hid (And.intro (Law.store (o := q) (u := .slice (some ⟨w5.heap.size, 0, none⟩) 1 1) (H5.out.1.below ((Below.refl _ _).alloc (Nat.le_refl _) (.cells #[.string text] 9))) hg1 H5.out.2.1) (H5.out.2.put ((resCk c).lt H5.out.1.ck) q hq text))
            have f2 : ((w5.alloc (.cells #[.string text] 9)).setCell ⟨g, q, none⟩ (.slice (some ⟨w5.heap.size, 0, none⟩) 1 1)).cell? ⟨b, off + k * 3 + 2, none⟩ = some (.string text) := by
              rw [cell_other (fun e => by omega)]
              exact (((Below.refl w5.heap.size w5).alloc (Nat.le_refl _) (.cells #[.string text] 9)).cell (p := ⟨b, _, none⟩) bl5).trans e2
            have bl6 : b < ((w5.alloc (.cells #[.string text] 9)).setCell ⟨g, q, none⟩ (.slice (some ⟨w5.heap.size, 0, none⟩) 1 1)).heap.size := by simp [World.setCell]; omega
            have heq : (w5.alloc (.cells #[.string text] 9)).setCell ⟨g, q, none⟩ (.slice (some ⟨w5.heap.size, 0, none⟩) 1 1) = (w5.setCell ⟨g, q, none⟩ (.slice (some ⟨w5.heap.size, 0, none⟩) 1 1)).alloc (.cells #[.string text] 9) := by simp [go_sem, gl5]
            rw [heq] at H6 f2 bl6
            clear e2 cg5 gf5 gl5 bl5 heq
            generalize (w5.setCell ⟨g, q, none⟩ (.slice (some ⟨w5.heap.size, 0, none⟩) 1 1)).alloc (.cells #[.string text] 9) = w6 at H6 f2 bl6 ⊢
            go_wp2_with fail
            ((with_reducible refine ((get_any c (putS s q text) n5 q hql).run w6 F5 (resCk_to H6.out.1.ck)).mono ?_); rintro _ w7 ⟨_, _, F7, rfl, ⟨rfl, rfl⟩, ha, hf⟩)
            have e2 := (H6.out.1.far hf hb1 _).trans f2
            have bl7 := hf.lt bl6
            have hlast := (last_get (last_put hgood.ok HB.out.2.2.1 q text) q).1
            have hmo : (getS (putS s q text) q).1.most = (max most 0).toNat := by rw [getS_most, putS_most]; exact HB.out.2.2.2
            have H7 := Lib.hid (And.intro (H6.out.1.step ha hf) (And.intro (H6.out.2.fr hf) (And.intro hlast hmo)))
            have hpl : (0 < most ∧ (getS (putS s q text) q).2 = (text, true)) ∨ (¬ 0 < most ∧ (getS (putS s q text) q).2 = (⟨#[]⟩, false)) := by
              have hmm := HB.out.2.2.2
              by_cases hpos : 0 < most
              · exact .inl ⟨hpos, get_put hgood.ok (by omega) q text⟩
              · exact .inr ⟨hpos, by rw [get_put0 hgood.ok (by omega)]⟩
            clear ha hf hlast hmo f2 bl6
            rcases hpl with ⟨hpos, hpe⟩ | ⟨hpos, hpe⟩
            · rw [hpe]
              have HPE := Lib.hid hpe
              clear hpe
              go_wp2_with fail
              go_meet
              case rel => exact Lib.hid ⟨n5, _, F7, putL L q text, by omega, H7.out.1, H7.out.2.1, H7.out.2.2.1, H7.out.2.2.2⟩
            · rw [hpe]
              have HPE := Lib.hid hpe
              clear hpe
              go_wp2_with fail
              go_meet
              case rel => exact Lib.hid ⟨n5, _, F7, putL L q text, by omega, H7.out.1, H7.out.2.1, H7.out.2.2.1, H7.out.2.2.2⟩
        · obtain ⟨n0, n1, n2⟩ : ¬ r = 0 ∧ ¬ r = 1 ∧ ¬ r = 2 := ⟨fun e => h012 (.inl e), fun e => h012 (.inr (.inl e)), fun e => h012 (.inr (.inr e))⟩
          have q0 : (r == 0) = false := by simpa using n0
          have q1 : (r == 1) = false := by simpa using n1
          have q2 : (r == 2) = false := by simpa using n2
          by_cases h6 : r = 6
          · subst h6
            clear hr1 hr2 n0 n1 n2 q0 q1 q2 h012 d0 d1 d2 hL
            go_wp2_with fail
            ((with_reducible refine ((evict_any c s n 1).run wr F (resCk_to HB.out.1.ck)).mono ?_); rintro _ w5 ⟨_, _, F5, rfl, ⟨rfl, n5, hn5, rfl⟩, ha, hf⟩)
            have he1 := evict_one s
            have hmo : (evictS s 1).1.most = (max most 0).toNat := by rw [(evictS_ok hgood.ok 1).2.2]; exact HB.out.2.2.2
            have H5 := Lib.hid (And.intro (HB.out.1.step ha hf) (And.intro (HB.out.2.1.fr hf) (And.intro (last_evict hgood.ok HB.out.2.2.1 1) hmo)))
            have he2 : ¬ (1 : Int) < ((evictS s 1).2 : Int) := by omega
            clear ha hf hmo
            go_wp2_with fail
            go_meet
            case rel => exact Lib.hid ⟨n5, _, F5, L, by omega, H5.out.1, H5.out.2.1, H5.out.2.2.1, H5.out.2.2.2⟩
          · have q6 : (r == 6) = false := by simpa using h6
            clear hr1 hr2 n0 n1 n2 h012 d0 d1 d2 hL h6
            go_wp2_with fail
            ((with_reducible refine ((get_any c s n q hql).run wr F (resCk_to HB.out.1.ck)).mono ?_); rintro _ w5 ⟨_, _, F5, rfl, ⟨rfl, rfl⟩, ha, hf⟩)
            have hlg := last_get HB.out.2.2.1 q
            have hmo : (getS s q).1.most = (max most 0).toNat := by rw [getS_most]; exact HB.out.2.2.2
            have hL5 := HB.out.2.1.fr hf
            have H5 := Lib.hid (And.intro (HB.out.1.step ha hf) (And.intro hL5 (And.intro hlg.1 hmo)))
            obtain ⟨gl5, gf5, hr5⟩ := hL5.read q hq
            have hlg2 := hlg.2
            clear ha hf hmo hlg hL5 gl gf gf5
            generalize (getS s q).1 = s5 at H5
            generalize (getS s q).2 = vo at hlg2 ⊢
            obtain ⟨v5, o5⟩ := vo
            cases o5 with
            | false =>
              clear hr5 hlg2
              go_wp2_with fail
              go_meet
              case rel => exact Lib.hid ⟨n, _, F5, L, by omega, H5.out.1, H5.out.2.1, H5.out.2.2.1, H5.out.2.2.2⟩
            | true =>
              have hlv := hlg2 rfl
              rcases hr5 with ⟨e1, _⟩ | ⟨v, bb, e1, e2, e3, e4⟩
              · rw [hlv] at e1; cases e1
              · rw [hlv] at e1
                obtain rfl : v5 = v := by simpa using e1
                clear e1 hlv hlg2
                go_wp2_with fail
                go_meet
                case rel => exact Lib.hid ⟨n, _, F5, L, by omega, H5.out.1, H5.out.2.1, H5.out.2.2.1, H5.out.2.2.2⟩
      case rest =>
        clear d0 d1 d2
        obtain ⟨n2, s2, G, L2, hn2, hR⟩ := hcut.out
        have HR := Lib.hid hR
        have hgd := hR.1.ck.good
        have hle := hgd.ok.most
        have hmo := hR.2.2.2
        clear hR hcut
        go_wp2_with fail
        ((with_reducible refine (len_raw HR.out.1.ck).mono ?_); rintro _ w5 ⟨rfl, hb5⟩)
        have H5 := Lib.hid (HR.out.1.below hb5)
        have HL5 := Lib.hid (HR.out.2.1.below hb5)
        have hl0 : (most < 0 ∧ s2.row.length = 0) ∨ (¬ most < 0 ∧ (s2.row.length : Int) ≤ most) := by omega
        clear hb5 hmo hle
        have hrun : ∀ (x : World), CkAt c x G (s2, n2) → Calls Try.prog 11 #[.pointer (some ⟨c, 0, none⟩)] x fun e w' => e = .returned (.int .i64 s2.row.length) ∧ Below x.heap.size x w' := fun x h => len_raw h
        have hkr : ∀ (x : World), CkAt c x G (s2, n2) → Calls Try.prog 12 #[.pointer (some ⟨c, 0, none⟩)] x fun e w' => ∃ A cap, e = .returned (.slice A s2.row.length cap) ∧ Below x.heap.size x w' := fun x h => (keys_any c s2 n2 x G h).mono fun e w' ⟨v, he, ho, hb⟩ => by
          obtain ⟨A, cp, e1⟩ := ho.form
          refine ⟨A, cp, ?_, hb⟩
          rw [he, e1]
          simp [keys]
        have HRN := Lib.hid (And.intro hrun hkr)
        clear hrun hkr
        have hcnt : s2.row.length ≤ 1000 := Nat.le_trans hgd.le hgd.small
        clear hgd
        rcases hl0 with ⟨hneg, h0⟩ | ⟨hneg, h0⟩
        all_goals
          try rw [h0]
          try rw [h0] at HRN
          go_wp2_with fail
          ((with_reducible refine (HRN.out.1 _ H5.out.ck).mono ?_); rintro _ w6 ⟨rfl, hb6⟩)
          have H6 := Lib.hid (H5.out.below hb6)
          have HL6 := Lib.hid (HL5.out.below hb6)
          clear hb6
          go_wp2_with fail
          ((with_reducible refine (HRN.out.2 _ H6.out.ck).mono ?_); rintro _ w7 ⟨A7, c7, rfl, hb7⟩)
          have H7 := Lib.hid (H6.out.below hb7)
          have HL7 := Lib.hid (HL6.out.below hb7)
          clear hb7
          go_wp2_with fail
          go_roundw
          case rel => exact ⟨k + 1, n2, s2, G, L2, by omega, by omega, hn2, by go_num, Lib.hid ⟨H7.out, HL7.out, HR.out.2.2.1, HR.out.2.2.2⟩⟩
          case measure => simp [intOf]; omega
    · have hks' : ¬ ((k : Int) < l.length) ∨ ((k : Int) < l.length ∧ ¬ (k : Int) < 80) := by omega
      rcases hks' with hks' | ⟨hks', hk8'⟩
      all_goals
        go_wp2_with fail
        ((with_reducible refine (len_raw HB.out.1.ck).mono ?_); rintro _ w5 ⟨rfl, hb5⟩)
        have H5 := Lib.hid (HB.out.1.below hb5)
        clear hb5
        go_wp2_with fail
        ((with_reducible refine ((evict_any c s n s.row.length).run w5 F (resCk_to H5.out.ck)).mono ?_); rintro _ w6 ⟨_, _, F6, rfl, ⟨rfl, n6, hn6, rfl⟩, ha, hf⟩)
        obtain ⟨hev1, hev2⟩ := evict_all HB.out.1.ck.good.ok
        rw [hev1]
        have H6 := Lib.hid (H5.out.step ha hf)
        have HE := Lib.hid hev2
        clear ha hf hev1 hev2
        go_wp2_with fail
        ((with_reducible refine (len_raw H6.out.ck).mono ?_); rintro _ w7 ⟨rfl, hb7⟩)
        rw [HE.out]
        have H7 := Lib.hid (H6.out.below hb7)
        clear hb7
        go_wp2_with fail
        go_ret
        exact ⟨rfl, HB1.out.trans (H7.out.bel.mono HB1.out.size)⟩
end Go.Proofs.Ytohjhbhbpflokaa.Ck
