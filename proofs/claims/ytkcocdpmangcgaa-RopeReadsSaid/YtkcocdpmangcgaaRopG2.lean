
/- Layer 22's law: a rope and a text more, in memory. */ -/
import Derived.Test.YtkcocdpmangcgaaRopG
namespace Go.Proofs.Ytkcocdpmangcgaa.Rp
set_option linter.unusedSimpArgs false
set_option linter.unusedVariables false
open Go Go.RowKit
open Go.Proofs.Ytkcocdpmangcgaa.Ar (T Is Ext WF Knot getK getB Arena resAr small)

section
variable {w0 w w' w8 w9 : World} {b gs gb ga : Nat} {rb rf q : Option Nat} {Tv Lv : Value} {s : Bst} {S : ByteArray} {ks : List Knot} {F F' : Nat → Prop}
theorem St.keep (h : St w gs gb ga rb rf q S ks) (hf : Fr w F w' F') (hn : ∀ k, sfoot gb ga rb rf q k → ¬ F k) (hg : ¬ F gs) : St w' gs gb ga rb rf q S ks :=
  ⟨hf.block h.blk hg, Buf.Buf.keep h.buf hf (fun b hb => hn b (.inl hb)), h.ar.keep hf (fun b hb => hn b (.inr hb)), h.ap, h.sb, h.sa⟩
theorem set_block {w : World} {p : Addr} {v : Value} {k : Nat} (h : k ≠ p.block) : (w.setCell p v).heap[k]? = w.heap[k]? := by
  simp only [World.setCell, Array.getElem?_modify]
  rw [if_neg (fun e => h e.symm)]
/-- an append to a row of its own, stored into a block of its own. -/
theorem fr_push {v : Value} {g i : Nat} {u : Value} (hg : w8.grownBy w9 v.ownBlock) (hat : v.ownBlock = some g ∨ g = w8.heap.size) : Fr w8 (fun k => k = b ∨ v.ownBlock = some k) (w9.setCell ⟨b, i, none⟩ u) (fun k => k = b ∨ k = g) :=
  ⟨hg.os, hg.tape, hg.output, by rw [World.size_setCell]; exact hg.size, fun k hk hn => by
    rw [set_block (fun e => hn (.inl e))]
    exact hg.block k hk (fun e => hn (.inr e.symm)), fun k hk => by
    rcases hk with rfl | rfl
    · exact .inl (.inl rfl)
    · rcases hat with e | e
      · exact .inl (.inr e)
      · exact .inr (by omega)⟩
theorem BI.pushT {g n cap : Nat} {t : Int} (h : BI w0 b gs gb ga rb rf q Tv Lv s w) (hb : Below w.heap.size w w8) (hn : n = s.Ts.length + 1) (ho : w9.ownsRow w0.heap.size 3 1 (.slice (some ⟨g, 0, none⟩) n cap) n (s.Ts.map (Value.int .i64) ++ [.int .i64 t]))
    (hg : w8.grownBy w9 Tv.ownBlock) (hat : Tv.ownBlock = some g ∨ g = w8.heap.size) : BI w0 b gs gb ga rb rf q (.slice (some ⟨g, 0, none⟩) n cap) Lv ⟨s.S, s.ks, s.Ts ++ [t], s.Ls⟩ (w9.setCell ⟨b, 1, none⟩ (.slice (some ⟨g, 0, none⟩) n cap)) := by
  have h8 := h.below hb
  have hf := fr_push (b := b) (i := 1) (u := .slice (some ⟨g, 0, none⟩) n cap) hg hat
  have hgb : g ≠ b := by
    rintro rfl
    rcases hat with e | e
    · exact h8.nbt e
    · have := h8.lt; omega
  refine ⟨?_, h8.st.keep hf ?_ ?_, ?_, hf.own h8.lr ?_, h8.nb, ?_, h8.nbl, ?_, h8.nl, ?_, ?_, h8.nlg, h8.nbg, hf.below h8.bl ?_ h8.bl.size, h8.geb, h8.gef⟩
  · have e : w9.heap[b]? = _ := (hg.block b h8.lt (fun e => h8.nbt e.symm)).trans h8.blk
    simp [World.setCell, Array.getElem?_modify, e]
  · rintro k hk (rfl | e)
    · exact h8.nb hk
    · exact h8.nt k e hk
  · rintro (e | e)
    · exact h8.nbg e.symm
    · exact h8.ntg e
  · have := own_setCell ho (p := ⟨b, 1, none⟩) (by simp only [Value.ownBlock]; intro e; exact hgb (by simpa using e)) (.slice (some ⟨g, 0, none⟩) n cap)
    simp only [List.length_append, List.length_cons, List.length_nil, List.map_append, List.map_cons, List.map_nil]
    rw [show s.Ts.length + (0 + 1) = n by omega]
    exact this
  · rintro k hk (rfl | e)
    · exact h8.nbl hk
    · exact h8.ntl k e hk
  · simp only [Value.ownBlock]; intro e; exact hgb (by simpa using e)
  · simp only [Value.ownBlock]
    rintro k hk
    obtain rfl : g = k := by simpa using hk
    rcases hat with e | e
    · exact h8.nt g e
    · intro hs; have := h8.st.foot_lt hs; omega
  · simp only [Value.ownBlock]
    rintro k hk
    obtain rfl : g = k := by simpa using hk
    rcases hat with e | e
    · exact h8.ntl g e
    · intro hs; have := (h8.lr.lt g hs).2; omega
  · simp only [Value.ownBlock]
    intro e
    obtain rfl : g = gs := by simpa using e
    rcases hat with e | e
    · exact h8.ntg e
    · have := h8.st.lt; omega
  · rintro k (rfl | e)
    · exact h8.geb
    · exact (h8.tr.lt k e).1
theorem BI.pushL {g n cap : Nat} {t : ByteArray} (h : BI w0 b gs gb ga rb rf q Tv Lv s w) (hb : Below w.heap.size w w8) (hn : n = s.Ls.length + 1) (ho : w9.ownsRow w0.heap.size 9 1 (.slice (some ⟨g, 0, none⟩) n cap) n (s.Ls.map Value.string ++ [.string t]))
    (hg : w8.grownBy w9 Lv.ownBlock) (hat : Lv.ownBlock = some g ∨ g = w8.heap.size) : BI w0 b gs gb ga rb rf q Tv (.slice (some ⟨g, 0, none⟩) n cap) ⟨s.S, s.ks, s.Ts, s.Ls ++ [t]⟩ (w9.setCell ⟨b, 2, none⟩ (.slice (some ⟨g, 0, none⟩) n cap)) := by
  have h8 := h.below hb
  have hf := fr_push (b := b) (i := 2) (u := .slice (some ⟨g, 0, none⟩) n cap) hg hat
  have hgb : g ≠ b := by
    rintro rfl
    rcases hat with e | e
    · exact h8.nbl e
    · have := h8.lt; omega
  refine ⟨?_, h8.st.keep hf ?_ ?_, hf.own h8.tr ?_, ?_, h8.nb, h8.nbt, ?_, h8.nt, ?_, ?_, h8.ntg, ?_, h8.nbg, hf.below h8.bl ?_ h8.bl.size, h8.geb, h8.gef⟩
  · have e : w9.heap[b]? = _ := (hg.block b h8.lt (fun e => h8.nbl e.symm)).trans h8.blk
    simp [World.setCell, Array.getElem?_modify, e]
  · rintro k hk (rfl | e)
    · exact h8.nb hk
    · exact h8.nl k e hk
  · rintro (e | e)
    · exact h8.nbg e.symm
    · exact h8.nlg e
  · rintro k hk (rfl | e)
    · exact h8.nbt hk
    · exact h8.ntl k hk e
  · have := own_setCell ho (p := ⟨b, 2, none⟩) (by simp only [Value.ownBlock]; intro e; exact hgb (by simpa using e)) (.slice (some ⟨g, 0, none⟩) n cap)
    simp only [List.length_append, List.length_cons, List.length_nil, List.map_append, List.map_cons, List.map_nil]
    rw [show s.Ls.length + (0 + 1) = n by omega]
    exact this
  · simp only [Value.ownBlock]; intro e; exact hgb (by simpa using e)
  · simp only [Value.ownBlock]
    rintro k hk
    obtain rfl : g = k := by simpa using hk
    rcases hat with e | e
    · exact h8.nl g e
    · intro hs; have := h8.st.foot_lt hs; omega
  · simp only [Value.ownBlock]
    rintro k hk e
    obtain rfl : g = k := by simpa using e
    rcases hat with e | e
    · exact h8.ntl g hk e
    · have := (h8.tr.lt g hk).2; omega
  · simp only [Value.ownBlock]
    intro e
    obtain rfl : g = gs := by simpa using e
    rcases hat with e | e
    · exact h8.nlg e
    · have := h8.st.lt; omega
  · rintro k (rfl | e)
    · exact h8.geb
    · exact (h8.lr.lt k e).1
end
theorem int_info : (Try.prog.info? 3).map (fun i => (i.zero, i.size, i.bytes)) = some (some (.int .i64 0), 1, 8) := by kernel_rfl
theorem str_info : (Try.prog.info? 9).map (fun i => (i.zero, i.size, i.bytes)) = some (some (.string ⟨#[]⟩), 1, 16) := by kernel_rfl
end Go.Proofs.Ytkcocdpmangcgaa.Rp
