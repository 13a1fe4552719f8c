/- Balance: the page's example. -/
import Derived.Test.YtkcocdpmangcgaaBalU
import Derived.Test.YtkcocdpmangcgaaBalT
import Derived.Test.YtkcocdpmangcgaaDeedE
namespace Go.Proofs.Ytkcocdpmangcgaa.Ar
set_option linter.unusedSimpArgs false
set_option linter.unusedVariables false
open Go Go.RowKit
attribute [local go_sem] lt_add1 lt_self1 size_ne size_ne' size_ne1 size_ne1'
attribute [local irreducible] wpGrow wpThr

/-- no line feeds. -/
def noF (_ _ : Int) : Int := 0
def anyIn (_ n : Int) : Prop := 0 ≤ n
theorem noF_ok : FdOk anyIn noF := ⟨fun {o n} h => ⟨Int.le_refl _, h⟩, fun {o n a} _ h1 h2 => ⟨by unfold anyIn; omega, by unfold anyIn; omega⟩⟩
theorem none_any (o n : Int) (w : World) : Calls Try.prog 29 #[.int .i64 o, .int .i64 n] w fun e w' => e = .returned (.int .i64 0) ∧ w = w' := by
  go_enter Try.func29, Try.ntmps29
  go_wp2
  go_ret
  exact ⟨rfl, rfl⟩
theorem none_clo (w : World) (F : Nat → Prop) : Clo 29 #[] anyIn noF w F := fun w' F' _ o n _ => (none_any o n w').mono fun e w'' ⟨h1, h2⟩ => ⟨h1, h2 ▸ Below.refl _ _⟩
theorem none_eg : ∀ args w, (callFunc 29 args).run Try.prog w = .ok (.enter 29 args) w := enters_of Try.func29 (by kernel_rfl) rfl
def resNo (g : Nat) : Res (List Knot) := resCl g 29 #[] anyIn noF
theorem resNo_at {g : Nat} {w : World} {q : Option Nat} {ks : List Knot} (ha : Arena w g q ks) : (resNo g).at_ w (foot g q) ks := resCl_at ha (none_clo _ _)

theorem split_no (g : Nat) (ks : List Knot) (t a : Int) (X : T) (hw : WF ks) (ht : Is ks t X) (h0 : 0 ≤ a) (h1 : a ≤ X.size) (hm : X.many ≤ 1000) (hn : (ks.length : Int) + 4000 * X.high ≤ 1073741824) :
    Does Try.prog (resNo g) 28 #[.pointer (some ⟨g, 0, none⟩), .int .i64 t, .int .i64 a, .func (.func 29) #[] #[]] ks (splitP noF ks X a) :=
  split_any g _ #[] anyIn noF none_eg noF_ok X.cnt ks t a X (Nat.le_refl _) hw ht h0 h1 (fun p hp => by unfold anyIn; have := T.pos (ht.ok hw) p hp; omega) hm hn

set_option maxRecDepth 100000 in
set_option maxHeartbeats 2000000 in
theorem awake21 (w : World) : Calls Try.prog 15 #[] w fun e w' => e = .returned (.bool true) ∧ Below w.heap.size w w' := by
  go_enter Try.func15, Try.ntmps15
  go_wp2_with fail
  refine (new_any _).mono ?_
  rintro e w1 ⟨rfl, ha, hb, hz⟩
  have hF0 : ∀ b, foot w.heap.size none b → w.heap.size ≤ b := foot_ge (Nat.le_refl _) (fun _ h => by cases h)
  have hwf : WF [] := fun i hi => by simp at hi
  have HL := Lib.hid ((leaf_mk w.heap.size [] 0 5 0 hwf (by simp only [T.ok]; omega) (by simp [small])).run w1 _ ⟨none, rfl, ha⟩)
  have H1 := Lib.hid (And.intro hb (And.intro hF0 ha.lt))
  have hlt : w.heap.size < w1.heap.size := by omega
  clear ha hb hz hF0 hwf
  go_wp2_with fail
  ((with_reducible refine HL.out.mono ?_); rintro e w2 ⟨v, ks, F2, rfl, ⟨rfl, p1, p2, p3⟩, ⟨q2, rfl, ha2⟩, hf2⟩)
  have hb2 := hf2.below H1.out.1 H1.out.2.1 (by omega)
  have hF2 := hf2.ge H1.out.2.1 (by omega)
  have hlen := p3.len
  simp only [List.length_nil, Nat.zero_add] at hlen p2
  have HS := Lib.hid ((split_no w.heap.size ks 1 2 (.leaf 0 5 0) p1 p2 (by omega) (by simp [T.size]) (by simp [T.many]) (by simp only [T.high]; omega)).run w2 _ (resNo_at ha2))
  have H2 := Lib.hid (And.intro hb2 (And.intro hF2 hf2.size))
  clear ha2 hf2 hb2 hF2 H1 HL p1 p2 p3
  simp only [List.length_nil, Nat.zero_add]
  go_wp2_with fail
  ((with_reducible refine HS.out.mono ?_); rintro e w3 ⟨v, ks3, F3, rfl, ⟨x, y, A, B, n, m, rfl, p1, p2, p3, p4, p5⟩, ⟨⟨q3, rfl, ha3⟩, _⟩, hf3⟩)
  have hb3 := hf3.below H2.out.1 H2.out.2.1 (by have := H2.out.2.2; omega)
  have hF3 := hf3.ge H2.out.2.1 (by have := H2.out.2.2; omega)
  have ec : (A.lv, B.lv) = ([(0, 2, 0)], [(2, 3, 0)]) := by rw [p5.cut]; rfl
  have eA : A.lv = [(0, 2, 0)] := congrArg Prod.fst ec
  have eB : B.lv = [(2, 3, 0)] := congrArg Prod.snd ec
  obtain ⟨b1, b2, b3, b4, _⟩ := p5.even trivial
  have sA : A.size = 2 := by rw [T.size_lv, eA]; rfl
  have sB : B.size = 3 := by rw [T.size_lv, eB]; rfl
  have hlen3 := p4.len
  have hcost := p5.cost (by simp [T.many])
  simp only [T.high] at b3 b4 hcost
  have HJ := Lib.hid ((Join_any w.heap.size ks3 y x B A p3 p2 p1 (by omega) (by omega)).run w3 _ ⟨q3, rfl, ha3⟩)
  have H3 := Lib.hid (And.intro hb3 (And.intro hF3 (And.intro eA (And.intro eB (And.intro b1 (And.intro b2 (And.intro hf3.size H2.out.2.2)))))))
  clear ha3 hf3 hb3 hF3 H2 HS p1 p2 p3 p4 p5 ec eA eB b1 b2 sA sB
  go_wp2_with fail
  ((with_reducible refine HJ.out.mono ?_); rintro e w4 ⟨v, ks4, F4, rfl, ⟨t, X, n2, rfl, p1, p2, p3, p4, _, _⟩, ⟨q4, rfl, ha4⟩, hf4⟩)
  have hbal := (balB_iff X).2 (p4.even H3.out.2.2.2.2.2.1 H3.out.2.2.2.2.1).1
  have hpc : pieces X = [(2, 3), (0, 2)] := by
    unfold pieces
    rw [p4.lv, H3.out.2.2.2.1, H3.out.2.2.1]
    rfl
  have hmany : X.many = 2 := by
    rw [T.many_lv, p4.lv, H3.out.2.2.2.1, H3.out.2.2.1]
    rfl
  have hlen4 := p3.len
  have hcost4 := p4.cost
  have hb4 := hf4.below H3.out.1 H3.out.2.1 (by have := H3.out.2.2.2.2.2.2; omega)
  have hks4 : ks4.length ≤ small := by unfold small; omega
  have hlv := leaves_any_b w.heap.size q4 ks4 t X p2 p1 hks4 (by omega) w4 ha4
  rw [hpc] at hlv
  have HLV := Lib.hid hlv
  have hbl := fun w' (ha : Arena w' w.heap.size q4 ks4) => balanced_any w.heap.size q4 ks4 t X p2 p1 hks4 w' ha
  rw [hbal] at hbl
  have HBL := Lib.hid hbl
  have H4 := Lib.hid (And.intro hb4 (And.intro ha4 hf4.size))
  have hsz4 : w.heap.size < w4.heap.size := by have := hf4.size; have := H3.out.2.2.2.2.2.2; omega
  clear hbal hpc hmany hlv hbl hb4 ha4 hf4 p1 p2 p3 p4 H3 HJ hcost hcost4 hlen hlen3 hlen4 b3 b4
  go_wp2_with fail
  ((with_reducible refine HLV.out.mono ?_); rintro e w5 ⟨v, rfl, ho, hb5⟩)
  obtain ⟨g, cap, rfl, hg1, hg2⟩ := World.ownsRow.form ho (by simp)
  have cells := World.ownsRow.cells ho (g := g) rfl
  have c0 : w5.cell? ⟨g, 0, none⟩ = some (.int .i64 2) := cells 0 _ rfl
  have c1 : w5.cell? ⟨g, 1, none⟩ = some (.int .i64 3) := cells 1 _ rfl
  have c2 : w5.cell? ⟨g, 2, none⟩ = some (.int .i64 0) := cells 2 _ rfl
  have c3 : w5.cell? ⟨g, 3, none⟩ = some (.int .i64 2) := cells 3 _ rfl
  have H5 := Lib.hid (And.intro (H4.out.1.trans (hb5.mono (by omega))) (H4.out.2.1.below hb5))
  clear ho hb5 cells hg1 hg2
  simp only [List.length_cons, List.length_nil]
  go_wp2_with fail
  ((with_reducible refine (HBL.out _ H5.out.2).mono ?_); rintro e w6 ⟨rfl, hb6⟩)
  have H6 := Lib.hid (H5.out.1.trans (hb6.mono H5.out.1.size))
  clear hb6 c0 c1 c2 c3
  go_wp2
  go_ret
  exact ⟨rfl, H6.out⟩
end Go.Proofs.Ytkcocdpmangcgaa.Ar
