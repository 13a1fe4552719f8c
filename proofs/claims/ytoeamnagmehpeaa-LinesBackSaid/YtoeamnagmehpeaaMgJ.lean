/- Layer 22's law: Begin; Build: both, behind deeds. */ -/
import Derived.Test.YtoeamnagmehpeaaMgI
namespace Go.Proofs.Ytoeamnagmehpeaa.Rp
set_option linter.unusedSimpArgs false
set_option linter.unusedVariables false
open Go Go.RowKit
open Go.Proofs.Ytoeamnagmehpeaa.Ar (T Is Ext WF Knot getK getB Arena resAr small)
attribute [local go_sem] lt_add1 lt_self1 size_ne size_ne' size_ne1 size_ne1'
attribute [local irreducible] wpGrow wpThr

def bst0 : Bst := ⟨⟨#[]⟩, [], [0], [⟨#[]⟩]⟩
theorem inv0 : Inv bst0 0 := ⟨rfl, by decide, by decide, wf_nil, by decide, by decide, fun i hi => by
  obtain rfl : i = 0 := by simp [bst0] at hi; exact hi
  exact ⟨.nil, .nil rfl, Good.nil _, trivial, rfl, by decide⟩⟩

set_option maxHeartbeats 1000000 in
theorem begin_any (w : World) : Calls Try.prog 60 #[] w fun e w' => ∃ b gs gb ga Tv Lv, e = .returned (.pointer (some ⟨b, 0, none⟩)) ∧ BI w b gs gb ga none none none Tv Lv bst0 w' := by
  go_enter Try.func60, Try.ntmps60
  go_wp2_with fail
  ((with_reducible refine (rnew_any _).mono ?_); rintro e w1 ⟨gs, gb, ga, rfl, h1, hb1, g1, g2, g3⟩)
  have H1 := Lib.hid (And.intro h1 (And.intro hb1 (And.intro g1 (And.intro g2 g3))))
  clear h1 hb1 g1 g2 g3
  go_wp2
  go_ret
  obtain ⟨h1, hb1, g1, g2, g3⟩ := H1.out
  have hz := hb1.size
  have hlt : ∀ k, sfoot gb ga none none none k → k < w1.heap.size := fun k hk => h1.foot_lt hk
  have hgl := h1.lt
  have b1 : Below w1.heap.size w1 (w1.alloc (.cells #[.int .i64 0] 3)) := (Below.refl _ _).alloc (Nat.le_refl _) _
  have b2 : Below w1.heap.size w1 ((w1.alloc (.cells #[.int .i64 0] 3)).alloc (.cells #[.string ⟨#[]⟩] 9)) := b1.alloc (by simp) _
  have o1 : (w1.alloc (.cells #[.int .i64 0] 3)).ownsRow w.heap.size 3 1 (.slice (some ⟨w1.heap.size, 0, none⟩) 1 1) 1 [.int .i64 0] := World.ownsRow_lit w1 #[.int .i64 0] 1 hz (by decide) rfl
  have o2 : ((w1.alloc (.cells #[.int .i64 0] 3)).alloc (.cells #[.string ⟨#[]⟩] 9)).ownsRow w.heap.size 9 1 (.slice (some ⟨w1.heap.size + 1, 0, none⟩) 1 1) 1 [.string ⟨#[]⟩] := by
    have := World.ownsRow_lit (base := w.heap.size) (e := 9) (size := 1) (w1.alloc (.cells #[.int .i64 0] 3)) #[.string ⟨#[]⟩] 1 (by simp; omega) (by decide) rfl
    simpa using this
  have hf : ∀ k, sfoot gb ga none none none k → w.heap.size ≤ k := by
    intro k hk
    rcases hk with (rfl | e | e) | (rfl | e)
    · exact g2
    · cases e
    · cases e
    · exact g3
    · cases e
  refine ⟨w1.heap.size + 2, gs, gb, ga, .slice (some ⟨w1.heap.size, 0, none⟩) 1 1, .slice (some ⟨w1.heap.size + 1, 0, none⟩) 1 1, by simp, ?_⟩
  have b3 : Below w1.heap.size w1 (((w1.alloc (.cells #[.int .i64 0] 3)).alloc (.cells #[.string ⟨#[]⟩] 9)).alloc (.cells #[.pointer (some ⟨gs, 0, none⟩), .slice (some ⟨w1.heap.size, 0, none⟩) 1 1, .slice (some ⟨w1.heap.size + 1, 0, none⟩) 1 1] 39)) := b2.alloc (by simp; omega) _
  refine ⟨?_, h1.below ?_, ?_, ?_, ?_, ?_, ?_, ?_, ?_, ?_, ?_, ?_, ?_, ?_, ?_, ?_⟩
  · have hs : w1.heap.size + 2 = ((w1.alloc (.cells #[.int .i64 0] 3)).alloc (.cells #[.string ⟨#[]⟩] 9)).heap.size := by simp
    rw [hs]
    exact heap_alloc_new _ _
  · exact b3
  · exact (o1.alloc _).alloc _
  · exact o2.alloc _
  · intro h; have := hlt _ h; omega
  · simp [Value.ownBlock]
  · simp [Value.ownBlock]
  · intro k hk h; have := hlt _ h; simp [Value.ownBlock] at hk; omega
  · intro k hk h; have := hlt _ h; simp [Value.ownBlock] at hk; omega
  · intro k hk h; simp [Value.ownBlock] at hk h; omega
  · intro h; simp [Value.ownBlock] at h; omega
  · intro h; simp [Value.ownBlock] at h; omega
  · omega
  · exact hb1.trans (b3.mono hb1.size)
  · omega
  · exact hf

/-- what Build leaves. -/
structure Built (w : World) (v : Value) (w' : World) : Prop where
  ex : ∃ b gs gb ga rb rf q Tv Lv s, v = .pointer (some ⟨b, 0, none⟩) ∧ BI w b gs gb ga rb rf q Tv Lv s w' ∧ Inv s 40
abbrev ddAt (w : World) (A : Option Addr) (l : List Dd) : Prop := SlAt w w.heap.size 5 l.length A (fun i j => (ddc (l.getD i Dd.zero)).getD j undef)

set_option maxHeartbeats 1000000 in
theorem build_any (l : List Dd) (A : Option Addr) (cap : Nat) (w : World) (hs : ddAt w A l) (hl : ∀ d ∈ l, d.text.size ≤ 2 ^ 63 - 1) :
    Calls Try.prog 15 #[.slice A l.length cap] w fun e w' => ∃ v, e = .returned v ∧ Built w v w' := by
  have HS := Lib.hid (And.intro hs hl)
  clear hs hl
  go_enter Try.func15, Try.ntmps15
  go_wp2_with fail
  ((with_reducible refine (begin_any _).mono ?_); rintro e w1 ⟨b, gs, gb, ga, Tv, Lv, rfl, h1⟩)
  have H1 := Lib.hid h1
  clear h1
  go_wp2_with fail
  go_loopw [4] (fun i wr => ∃ (k : Nat) (rb rf q : Option Nat) (Tv Lv : Value) (s : Bst), i = .int .i64 k ∧ k ≤ 40 ∧ Hid (BI w b gs gb ga rb rf q Tv Lv s wr ∧ Inv s k)) (fun i _ => 40 - (intOf i).toNat)
  case atStart => exact ⟨0, none, none, none, Tv, Lv, bst0, rfl, by omega, Lib.hid ⟨H1.out, inv0⟩⟩
  case round =>
    obtain ⟨k, rb, rf, q, Tv, Lv, s, rfl, hk, HB⟩ := hrel
    clear H1
    have hend : Built w (.pointer (some ⟨b, 0, none⟩)) wr := ⟨_, _, _, _, _, _, _, _, _, _, rfl, HB.out.1, HB.out.2.more hk⟩
    have HE := Lib.hid hend
    clear hend
    have hbl := HB.out.1.bl
    have hwz := hbl.size
    by_cases hgo : k < l.length ∧ k < 40
    · obtain ⟨hkl, hk40⟩ := hgo
      obtain ⟨bd, off, rfl, hbl0, hcs⟩ := HS.out.1 (by omega)
      have f0 : wr.cell? ⟨bd, off + k * 5, none⟩ = some (.int .i64 (l.getD k Dd.zero).of_) := (hbl.cell (p := ⟨bd, _, none⟩) hbl0).trans (hcs k 0 hkl (by omega))
      have f1 : wr.cell? ⟨bd, off + k * 5 + 1, none⟩ = some (.int .i64 (l.getD k Dd.zero).at_) := (hbl.cell (p := ⟨bd, _, none⟩) hbl0).trans (hcs k 1 hkl (by omega))
      have f2 : wr.cell? ⟨bd, off + k * 5 + 2, none⟩ = some (.int .i64 (l.getD k Dd.zero).del) := (hbl.cell (p := ⟨bd, _, none⟩) hbl0).trans (hcs k 2 hkl (by omega))
      have f3 : wr.cell? ⟨bd, off + k * 5 + 3, none⟩ = some (.string (l.getD k Dd.zero).text) := (hbl.cell (p := ⟨bd, _, none⟩) hbl0).trans (hcs k 3 hkl (by omega))
      have f4 : wr.cell? ⟨bd, off + k * 5 + 4, none⟩ = some (.bool (l.getD k Dd.zero).raw) := (hbl.cell (p := ⟨bd, _, none⟩) hbl0).trans (hcs k 4 hkl (by omega))
      have hdt : (l.getD k Dd.zero).text.size ≤ 2 ^ 63 - 1 := HS.out.2 _ (by simp [List.getD, hkl])
      have hbw : bd < wr.heap.size := by omega
      generalize l.getD k Dd.zero = d at f0 f1 f2 f3 f4 hdt
      have HDO := Lib.hid (do_any w b gs gb ga Tv Lv s rb rf q d k (by omega) HB.out.2 wr HB.out.1 hdt)
      clear hcs hdt hbl
      go_wp2_with (go_at_call 61; ((with_reducible refine HDO.out.mono ?_); rintro e w2 ⟨rfl, rb2, rf2, q2, Tv2, Lv2, s2, N, M, h2, hI2, _, _⟩; have H2 := Lib.hid (And.intro h2 hI2); clear h2 hI2))
      go_roundw
      case rel => exact ⟨k + 1, _, _, _, _, _, _, by go_num, by omega, H2⟩
      case measure => simp [intOf]; omega
    · by_cases hkl : k < l.length
      · have hk40 : ¬ ((k : Int) < 40) := by omega
        go_wp2_with fail
        go_ret
        exact ⟨_, rfl, HE.out⟩
      · have hkl' : ¬ ((k : Int) < l.length) := by omega
        go_wp2_with fail
        go_ret
        exact ⟨_, rfl, HE.out⟩
end Go.Proofs.Ytoeamnagmehpeaa.Rp


/- Layer 22's laws: RopePlays. */ -/
namespace Go.Proofs.Ytoeamnagmehpeaa.Rp
set_option linter.unusedSimpArgs false
set_option linter.unusedVariables false
open Go Go.RowKit
open Go.Proofs.Ytoeamnagmehpeaa.Ar (T Is Ext WF Knot getK getB Arena resAr small)
attribute [local go_sem] lt_add1 lt_self1 size_ne size_ne' size_ne1 size_ne1'
attribute [local irreducible] wpGrow wpThr

theorem balB_of {X : T} (h : X.bal) : Ar.balB X = true := (Ar.balB_iff X).2 h
/-- what a law asks of both: all in every world behind W. -/
structure RI (W : World) (b gs gb ga : Nat) (rb rf q : Option Nat) (s : Bst) (k : Nat) (X : T) : Prop where
  is_ : Is s.ks (s.Ts.getD k 0) X
  good : Good s.S X
  bal : X.bal
  txt : txt s.S X = (s.Ls.getD k ⟨#[]⟩).data.toList
  size : X.size = (s.Ls.getD k ⟨#[]⟩).size
  le : X.size ≤ 800
theorem Inv.ri {s : Bst} (h : Inv s 40) {k : Nat} (hk : k < s.Ts.length) (W : World) (b gs gb ga : Nat) (rb rf q : Option Nat) : ∃ X, RI W b gs gb ga rb rf q s k X := by
  obtain ⟨X, h1, h2, h3, h4, h5⟩ := h.ropes k hk
  have := txt_length h2
  rw [h4] at this
  exact ⟨X, h1, h2, h3, h4, this.symm, by omega⟩
theorem read_all {x : ByteArray} (h : x.size ≤ 800) : (⟨(readV x.data.toList 0 x.size).1.toArray⟩ : ByteArray) = x ∧ (readV x.data.toList 0 x.size).2 = 0 := by
  have e : x.data.toList.length = x.size := rfl
  have hs : spanV x.data.toList.length 0 x.size = 0 := by unfold spanV; rw [if_neg (by omega)]
  unfold readV
  rw [hs, if_neg (by decide), if_neg (by omega)]
  refine ⟨Go.Proofs.Ytoeamnagmehpeaa.Buf.bytes_ext ?_, rfl⟩
  simp
  exact List.take_of_length_le (by omega)
theorem Inv.ks_small {s : Bst} {k : Nat} (h : Inv s k) (hk : k ≤ 42) : s.ks.length ≤ small := by have := h.kn; unfold small; omega
theorem Inv.S_small {s : Bst} {k : Nat} (h : Inv s k) (hk : k ≤ 42) : s.S.size ≤ 1000000 := by have := h.sz; omega

end Go.Proofs.Ytoeamnagmehpeaa.Rp
