/-
  No cell of these rows narrows 'for every input' (looked for: loops, veiled, ifaces, maps, wideKeys, modest, calm, conditions, laid).
  DERIVED. THE GIVEN ROWS OF THIS SEAT. 12 by the template 'for every input the law returns true; each argument reads behind the call as it read before'; 0 by the template 'total and deterministic' (their statements: YtloljnpnoohglaaTotals.lean).
  GIVEN WITH THE SEED: the statements are not yours to turn. If you find one false, say at which input.
  Laid BY PROGRAM, IN A SANDBOX (cutbox-rows.mjs): the forced cells as the released guide's own fill.sh prints them over the translation a0806162082defa2… (all of the seat's roots in one cut). By AI agents, Wed Nov 11 2026. No macro, syntax, notation, axiom, sorry.
-/
import Derived.Test.YtloljnpnoohglaaChecked
import GoSem.Claim
import GoSem.ClaimJoined
import GoSem.ClaimMapViews
import Derived.JoinedTies
import Derived.KernelRfl
namespace Go.Proofs.Ytloljnpnoohglaa
/- THE CELL 'sum', in the pinned program and in every row, IS THE sha256 OF THE DUMP (.gsa) THAT YtloljnpnoohglaaProg.lean LOADS. Nothing in Lean hashes anything: it is a label: what it is worth is what the hold of that sum in a sandbox is worth. -/
noncomputable def Try.pinned : Pinned := { name := "ytloljnpnoohglaa", sum := "a0806162082defa2ffe402e672db8539ecc3cecd57bf11b5da5f7f856be8d443", checked := Try.checked }
namespace Rows
def none {H : Type} : Left H := { results := [], args := [] }

/-- 'tattinglaw34.MarksOrder': WHATEVER THE INPUT: true; the input reads as it did. -/
def marksOrderSpec : ChangeSpec := { name := "marksOrder", fn := fun _ => fun
  | [d1, d2, d3] => { results := [.lit (.bool true)], args := [d1, d2, d3] }
  | _ => none }
def marksOrderRow : OpenClaim := { program := "ytloljnpnoohglaa", sum := "a0806162082defa2ffe402e672db8539ecc3cecd57bf11b5da5f7f856be8d443", func := "tatting/tattinglaw34.MarksOrder", spec := "marksOrder", apart := false }
def MarksOrderSaid : Prop := marksOrderRow.holds Try.pinned (OpenSpec.ofChange marksOrderSpec)

/-- ITS FALSE NEIGHBOUR: 'it returns false'. Refute it at one input. -/
def marksOrderWrong : ChangeSpec := { name := "marksOrder", fn := fun _ => fun
  | [d1, d2, d3] => { results := [.lit (.bool false)], args := [d1, d2, d3] }
  | _ => none }
def MarksOrderWrongFalsely : Prop := marksOrderRow.holds Try.pinned (OpenSpec.ofChange marksOrderWrong)

/-- 'tattinglaw34.MarksText': WHATEVER THE INPUT: true; the input reads as it did. -/
def marksTextSpec : ChangeSpec := { name := "marksText", fn := fun _ => fun
  | [d1, d2, d3] => { results := [.lit (.bool true)], args := [d1, d2, d3] }
  | _ => none }
def marksTextRow : OpenClaim := { program := "ytloljnpnoohglaa", sum := "a0806162082defa2ffe402e672db8539ecc3cecd57bf11b5da5f7f856be8d443", func := "tatting/tattinglaw34.MarksText", spec := "marksText", apart := false }
def MarksTextSaid : Prop := marksTextRow.holds Try.pinned (OpenSpec.ofChange marksTextSpec)

/-- ITS FALSE NEIGHBOUR: 'it returns false'. Refute it at one input. -/
def marksTextWrong : ChangeSpec := { name := "marksText", fn := fun _ => fun
  | [d1, d2, d3] => { results := [.lit (.bool false)], args := [d1, d2, d3] }
  | _ => none }
def MarksTextWrongFalsely : Prop := marksTextRow.holds Try.pinned (OpenSpec.ofChange marksTextWrong)

/-- 'tattinglaw34.MarksMove': WHATEVER THE INPUT: true; the input reads as it did. -/
def marksMoveSpec : ChangeSpec := { name := "marksMove", fn := fun _ => fun
  | [d1, d2] => { results := [.lit (.bool true)], args := [d1, d2] }
  | _ => none }
def marksMoveRow : OpenClaim := { program := "ytloljnpnoohglaa", sum := "a0806162082defa2ffe402e672db8539ecc3cecd57bf11b5da5f7f856be8d443", func := "tatting/tattinglaw34.MarksMove", spec := "marksMove", apart := false }
def MarksMoveSaid : Prop := marksMoveRow.holds Try.pinned (OpenSpec.ofChange marksMoveSpec)

/-- ITS FALSE NEIGHBOUR: 'it returns false'. Refute it at one input. -/
def marksMoveWrong : ChangeSpec := { name := "marksMove", fn := fun _ => fun
  | [d1, d2] => { results := [.lit (.bool false)], args := [d1, d2] }
  | _ => none }
def MarksMoveWrongFalsely : Prop := marksMoveRow.holds Try.pinned (OpenSpec.ofChange marksMoveWrong)

/-- 'tattinglaw20.ArenaMakes': WHATEVER THE INPUT: true; the input reads as it did. -/
def arenaMakesSpec : ChangeSpec := { name := "arenaMakes", fn := fun _ => fun
  | [d] => { results := [.lit (.bool true)], args := [d] }
  | _ => none }
def arenaMakesRow : OpenClaim := { program := "ytloljnpnoohglaa", sum := "a0806162082defa2ffe402e672db8539ecc3cecd57bf11b5da5f7f856be8d443", func := "tatting/tattinglaw20.ArenaMakes", spec := "arenaMakes", recurses := true, apart := false }
def ArenaMakesSaid : Prop := arenaMakesRow.holds Try.pinned (OpenSpec.ofChange arenaMakesSpec)

/-- ITS FALSE NEIGHBOUR: 'it returns false'. Refute it at one input. -/
def arenaMakesWrong : ChangeSpec := { name := "arenaMakes", fn := fun _ => fun
  | [d] => { results := [.lit (.bool false)], args := [d] }
  | _ => none }
def ArenaMakesWrongFalsely : Prop := arenaMakesRow.holds Try.pinned (OpenSpec.ofChange arenaMakesWrong)

/-- 'tattinglaw20.ArenaStays': WHATEVER THE INPUT: true; the input reads as it did. -/
def arenaStaysSpec : ChangeSpec := { name := "arenaStays", fn := fun _ => fun
  | [d1, d2, d3] => { results := [.lit (.bool true)], args := [d1, d2, d3] }
  | _ => none }
def arenaStaysRow : OpenClaim := { program := "ytloljnpnoohglaa", sum := "a0806162082defa2ffe402e672db8539ecc3cecd57bf11b5da5f7f856be8d443", func := "tatting/tattinglaw20.ArenaStays", spec := "arenaStays", recurses := true, apart := false }
def ArenaStaysSaid : Prop := arenaStaysRow.holds Try.pinned (OpenSpec.ofChange arenaStaysSpec)

/-- ITS FALSE NEIGHBOUR: 'it returns false'. Refute it at one input. -/
def arenaStaysWrong : ChangeSpec := { name := "arenaStays", fn := fun _ => fun
  | [d1, d2, d3] => { results := [.lit (.bool false)], args := [d1, d2, d3] }
  | _ => none }
def ArenaStaysWrongFalsely : Prop := arenaStaysRow.holds Try.pinned (OpenSpec.ofChange arenaStaysWrong)

/-- 'tattinglaw20.ArenaWhole': WHATEVER THE INPUT: true; the input reads as it did. -/
def arenaWholeSpec : ChangeSpec := { name := "arenaWhole", fn := fun _ => fun
  | [d1, d2] => { results := [.lit (.bool true)], args := [d1, d2] }
  | _ => none }
def arenaWholeRow : OpenClaim := { program := "ytloljnpnoohglaa", sum := "a0806162082defa2ffe402e672db8539ecc3cecd57bf11b5da5f7f856be8d443", func := "tatting/tattinglaw20.ArenaWhole", spec := "arenaWhole", apart := false }
def ArenaWholeSaid : Prop := arenaWholeRow.holds Try.pinned (OpenSpec.ofChange arenaWholeSpec)

/-- ITS FALSE NEIGHBOUR: 'it returns false'. Refute it at one input. -/
def arenaWholeWrong : ChangeSpec := { name := "arenaWhole", fn := fun _ => fun
  | [d1, d2] => { results := [.lit (.bool false)], args := [d1, d2] }
  | _ => none }
def ArenaWholeWrongFalsely : Prop := arenaWholeRow.holds Try.pinned (OpenSpec.ofChange arenaWholeWrong)

/-- 'tattinglaw16.VectorThen': WHATEVER THE INPUT: true; the input reads as it did. -/
def vectorThenSpec : ChangeSpec := { name := "vectorThen", fn := fun _ => fun
  | [d1, d2, d3] => { results := [.lit (.bool true)], args := [d1, d2, d3] }
  | _ => none }
def vectorThenRow : OpenClaim := { program := "ytloljnpnoohglaa", sum := "a0806162082defa2ffe402e672db8539ecc3cecd57bf11b5da5f7f856be8d443", func := "tatting/tattinglaw16.VectorThen", spec := "vectorThen", unfollowed := true, recurses := true, apart := false }
def VectorThenSaid : Prop := vectorThenRow.holds Try.pinned (OpenSpec.ofChange vectorThenSpec)

/-- ITS FALSE NEIGHBOUR: 'it returns false'. Refute it at one input. -/
def vectorThenWrong : ChangeSpec := { name := "vectorThen", fn := fun _ => fun
  | [d1, d2, d3] => { results := [.lit (.bool false)], args := [d1, d2, d3] }
  | _ => none }
def VectorThenWrongFalsely : Prop := vectorThenRow.holds Try.pinned (OpenSpec.ofChange vectorThenWrong)

/-- 'tattinglaw19.BufferAdds': WHATEVER THE INPUT: true; the input reads as it did. -/
def bufferAddsSpec : ChangeSpec := { name := "bufferAdds", fn := fun _ => fun
  | [d] => { results := [.lit (.bool true)], args := [d] }
  | _ => none }
def bufferAddsRow : OpenClaim := { program := "ytloljnpnoohglaa", sum := "a0806162082defa2ffe402e672db8539ecc3cecd57bf11b5da5f7f856be8d443", func := "tatting/tattinglaw19.BufferAdds", spec := "bufferAdds", unfollowed := true, recurses := true, apart := false }
def BufferAddsSaid : Prop := bufferAddsRow.holds Try.pinned (OpenSpec.ofChange bufferAddsSpec)

/-- ITS FALSE NEIGHBOUR: 'it returns false'. Refute it at one input. -/
def bufferAddsWrong : ChangeSpec := { name := "bufferAdds", fn := fun _ => fun
  | [d] => { results := [.lit (.bool false)], args := [d] }
  | _ => none }
def BufferAddsWrongFalsely : Prop := bufferAddsRow.holds Try.pinned (OpenSpec.ofChange bufferAddsWrong)

/-- 'tattinglaw19.BufferPieces': WHATEVER THE INPUT: true; the input reads as it did. -/
def bufferPiecesSpec : ChangeSpec := { name := "bufferPieces", fn := fun _ => fun
  | [d1, d2, d3] => { results := [.lit (.bool true)], args := [d1, d2, d3] }
  | _ => none }
def bufferPiecesRow : OpenClaim := { program := "ytloljnpnoohglaa", sum := "a0806162082defa2ffe402e672db8539ecc3cecd57bf11b5da5f7f856be8d443", func := "tatting/tattinglaw19.BufferPieces", spec := "bufferPieces", unfollowed := true, recurses := true, apart := false }
def BufferPiecesSaid : Prop := bufferPiecesRow.holds Try.pinned (OpenSpec.ofChange bufferPiecesSpec)

/-- ITS FALSE NEIGHBOUR: 'it returns false'. Refute it at one input. -/
def bufferPiecesWrong : ChangeSpec := { name := "bufferPieces", fn := fun _ => fun
  | [d1, d2, d3] => { results := [.lit (.bool false)], args := [d1, d2, d3] }
  | _ => none }
def BufferPiecesWrongFalsely : Prop := bufferPiecesRow.holds Try.pinned (OpenSpec.ofChange bufferPiecesWrong)

/-- 'tattinglaw19.BufferNone': WHATEVER THE INPUT: true; the input reads as it did. -/
def bufferNoneSpec : ChangeSpec := { name := "bufferNone", fn := fun _ => fun
  | [d1, d2] => { results := [.lit (.bool true)], args := [d1, d2] }
  | _ => none }
def bufferNoneRow : OpenClaim := { program := "ytloljnpnoohglaa", sum := "a0806162082defa2ffe402e672db8539ecc3cecd57bf11b5da5f7f856be8d443", func := "tatting/tattinglaw19.BufferNone", spec := "bufferNone", unfollowed := true, recurses := true, apart := false }
def BufferNoneSaid : Prop := bufferNoneRow.holds Try.pinned (OpenSpec.ofChange bufferNoneSpec)

/-- ITS FALSE NEIGHBOUR: 'it returns false'. Refute it at one input. -/
def bufferNoneWrong : ChangeSpec := { name := "bufferNone", fn := fun _ => fun
  | [d1, d2] => { results := [.lit (.bool false)], args := [d1, d2] }
  | _ => none }
def BufferNoneWrongFalsely : Prop := bufferNoneRow.holds Try.pinned (OpenSpec.ofChange bufferNoneWrong)

/-- 'tattinglaw16.VectorTexts': WHATEVER THE INPUT: true; the input reads as it did. -/
def vectorTextsSpec : ChangeSpec := { name := "vectorTexts", fn := fun _ => fun
  | [d1, d2] => { results := [.lit (.bool true)], args := [d1, d2] }
  | _ => none }
def vectorTextsRow : OpenClaim := { program := "ytloljnpnoohglaa", sum := "a0806162082defa2ffe402e672db8539ecc3cecd57bf11b5da5f7f856be8d443", func := "tatting/tattinglaw16.VectorTexts", spec := "vectorTexts", unfollowed := true, recurses := true, apart := false }
def VectorTextsSaid : Prop := vectorTextsRow.holds Try.pinned (OpenSpec.ofChange vectorTextsSpec)

/-- ITS FALSE NEIGHBOUR: 'it returns false'. Refute it at one input. -/
def vectorTextsWrong : ChangeSpec := { name := "vectorTexts", fn := fun _ => fun
  | [d1, d2] => { results := [.lit (.bool false)], args := [d1, d2] }
  | _ => none }
def VectorTextsWrongFalsely : Prop := vectorTextsRow.holds Try.pinned (OpenSpec.ofChange vectorTextsWrong)

/-- 'tattinglaw16.VectorCuts': WHATEVER THE INPUT: true; the input reads as it did. -/
def vectorCutsSpec : ChangeSpec := { name := "vectorCuts", fn := fun _ => fun
  | [d1, d2] => { results := [.lit (.bool true)], args := [d1, d2] }
  | _ => none }
def vectorCutsRow : OpenClaim := { program := "ytloljnpnoohglaa", sum := "a0806162082defa2ffe402e672db8539ecc3cecd57bf11b5da5f7f856be8d443", func := "tatting/tattinglaw16.VectorCuts", spec := "vectorCuts", unfollowed := true, recurses := true, apart := false }
def VectorCutsSaid : Prop := vectorCutsRow.holds Try.pinned (OpenSpec.ofChange vectorCutsSpec)

/-- ITS FALSE NEIGHBOUR: 'it returns false'. Refute it at one input. -/
def vectorCutsWrong : ChangeSpec := { name := "vectorCuts", fn := fun _ => fun
  | [d1, d2] => { results := [.lit (.bool false)], args := [d1, d2] }
  | _ => none }
def VectorCutsWrongFalsely : Prop := vectorCutsRow.holds Try.pinned (OpenSpec.ofChange vectorCutsWrong)

/- THE SECOND FORM. 'bulk': how many values and letters a reading holds, each counted each time it is reached (what is shared counts as often as it is met; a slice's spare places count too). A statement '..UptoSaid' is the law's where the arguments, and the package variables that the reading takes, are together of bulk at most 1048576: NARROWER than '..Said'. Prove '..Said' where nothing that the law and all that it calls make is longer than what came in: it says more and counts as full. Else prove '..UptoSaid'. A law counts once. -/
mutual
def uptoBulk {H : Type} : DataW H → Nat
  | .lit (.string bytes) => bytes.length + 1
  | .lit _ => 1
  | .nil => 1
  | .ptr d => uptoBulk d + 1
  | .slice elems spare => uptoBulkAll elems + uptoBulkAll spare + 1
  | .agg parts => uptoBulkAll parts + 1
  | .iface _ d => uptoBulk d + 1
  | .map entries => uptoBulkEntries entries + 1
  | .held _ => 1
def uptoBulkAll {H : Type} : List (DataW H) → Nat
  | [] => 0
  | d :: r => uptoBulk d + uptoBulkAll r
def uptoBulkEntries {H : Type} : List (Lit × DataW H) → Nat
  | [] => 0
  | x :: r => uptoBulkEntry x + uptoBulkEntries r
def uptoBulkEntry {H : Type} : Lit × DataW H → Nat
  | (.string bytes, d) => bytes.length + uptoBulk d + 1
  | (_, d) => uptoBulk d + 1
 end
def uptoSmall : (H : Type) → List (DataW H) → Bool := fun _ ds => decide (uptoBulkAll ds ≤ 1048576)
def OpenSpec.upto (s : _root_.Go.ChangeSpec) : _root_.Go.OpenSpec := { _root_.Go.OpenSpec.ofChange s with cond := some uptoSmall }

/-- 'tattinglaw34.MarksOrder', WHERE WHAT IT READS IS OF BULK AT MOST 1048576: true; the input reads as it did. -/
def marksOrderUptoRow : OpenClaim := { program := "ytloljnpnoohglaa", sum := "a0806162082defa2ffe402e672db8539ecc3cecd57bf11b5da5f7f856be8d443", func := "tatting/tattinglaw34.MarksOrder", spec := "marksOrder", apart := false, narrowed := true }
def MarksOrderUptoSaid : Prop := marksOrderUptoRow.holds Try.pinned (OpenSpec.upto marksOrderSpec)

/-- 'tattinglaw34.MarksText', WHERE WHAT IT READS IS OF BULK AT MOST 1048576: true; the input reads as it did. -/
def marksTextUptoRow : OpenClaim := { program := "ytloljnpnoohglaa", sum := "a0806162082defa2ffe402e672db8539ecc3cecd57bf11b5da5f7f856be8d443", func := "tatting/tattinglaw34.MarksText", spec := "marksText", apart := false, narrowed := true }
def MarksTextUptoSaid : Prop := marksTextUptoRow.holds Try.pinned (OpenSpec.upto marksTextSpec)

/-- 'tattinglaw34.MarksMove', WHERE WHAT IT READS IS OF BULK AT MOST 1048576: true; the input reads as it did. -/
def marksMoveUptoRow : OpenClaim := { program := "ytloljnpnoohglaa", sum := "a0806162082defa2ffe402e672db8539ecc3cecd57bf11b5da5f7f856be8d443", func := "tatting/tattinglaw34.MarksMove", spec := "marksMove", apart := false, narrowed := true }
def MarksMoveUptoSaid : Prop := marksMoveUptoRow.holds Try.pinned (OpenSpec.upto marksMoveSpec)

/-- 'tattinglaw20.ArenaMakes', WHERE WHAT IT READS IS OF BULK AT MOST 1048576: true; the input reads as it did. -/
def arenaMakesUptoRow : OpenClaim := { program := "ytloljnpnoohglaa", sum := "a0806162082defa2ffe402e672db8539ecc3cecd57bf11b5da5f7f856be8d443", func := "tatting/tattinglaw20.ArenaMakes", spec := "arenaMakes", recurses := true, apart := false, narrowed := true }
def ArenaMakesUptoSaid : Prop := arenaMakesUptoRow.holds Try.pinned (OpenSpec.upto arenaMakesSpec)

/-- 'tattinglaw20.ArenaStays', WHERE WHAT IT READS IS OF BULK AT MOST 1048576: true; the input reads as it did. -/
def arenaStaysUptoRow : OpenClaim := { program := "ytloljnpnoohglaa", sum := "a0806162082defa2ffe402e672db8539ecc3cecd57bf11b5da5f7f856be8d443", func := "tatting/tattinglaw20.ArenaStays", spec := "arenaStays", recurses := true, apart := false, narrowed := true }
def ArenaStaysUptoSaid : Prop := arenaStaysUptoRow.holds Try.pinned (OpenSpec.upto arenaStaysSpec)

/-- 'tattinglaw20.ArenaWhole', WHERE WHAT IT READS IS OF BULK AT MOST 1048576: true; the input reads as it did. -/
def arenaWholeUptoRow : OpenClaim := { program := "ytloljnpnoohglaa", sum := "a0806162082defa2ffe402e672db8539ecc3cecd57bf11b5da5f7f856be8d443", func := "tatting/tattinglaw20.ArenaWhole", spec := "arenaWhole", apart := false, narrowed := true }
def ArenaWholeUptoSaid : Prop := arenaWholeUptoRow.holds Try.pinned (OpenSpec.upto arenaWholeSpec)

/-- 'tattinglaw16.VectorThen', WHERE WHAT IT READS IS OF BULK AT MOST 1048576: true; the input reads as it did. -/
def vectorThenUptoRow : OpenClaim := { program := "ytloljnpnoohglaa", sum := "a0806162082defa2ffe402e672db8539ecc3cecd57bf11b5da5f7f856be8d443", func := "tatting/tattinglaw16.VectorThen", spec := "vectorThen", unfollowed := true, recurses := true, apart := false, narrowed := true }
def VectorThenUptoSaid : Prop := vectorThenUptoRow.holds Try.pinned (OpenSpec.upto vectorThenSpec)

/-- 'tattinglaw19.BufferAdds', WHERE WHAT IT READS IS OF BULK AT MOST 1048576: true; the input reads as it did. -/
def bufferAddsUptoRow : OpenClaim := { program := "ytloljnpnoohglaa", sum := "a0806162082defa2ffe402e672db8539ecc3cecd57bf11b5da5f7f856be8d443", func := "tatting/tattinglaw19.BufferAdds", spec := "bufferAdds", unfollowed := true, recurses := true, apart := false, narrowed := true }
def BufferAddsUptoSaid : Prop := bufferAddsUptoRow.holds Try.pinned (OpenSpec.upto bufferAddsSpec)

/-- 'tattinglaw19.BufferPieces', WHERE WHAT IT READS IS OF BULK AT MOST 1048576: true; the input reads as it did. -/
def bufferPiecesUptoRow : OpenClaim := { program := "ytloljnpnoohglaa", sum := "a0806162082defa2ffe402e672db8539ecc3cecd57bf11b5da5f7f856be8d443", func := "tatting/tattinglaw19.BufferPieces", spec := "bufferPieces", unfollowed := true, recurses := true, apart := false, narrowed := true }
def BufferPiecesUptoSaid : Prop := bufferPiecesUptoRow.holds Try.pinned (OpenSpec.upto bufferPiecesSpec)

/-- 'tattinglaw19.BufferNone', WHERE WHAT IT READS IS OF BULK AT MOST 1048576: true; the input reads as it did. -/
def bufferNoneUptoRow : OpenClaim := { program := "ytloljnpnoohglaa", sum := "a0806162082defa2ffe402e672db8539ecc3cecd57bf11b5da5f7f856be8d443", func := "tatting/tattinglaw19.BufferNone", spec := "bufferNone", unfollowed := true, recurses := true, apart := false, narrowed := true }
def BufferNoneUptoSaid : Prop := bufferNoneUptoRow.holds Try.pinned (OpenSpec.upto bufferNoneSpec)

/-- 'tattinglaw16.VectorTexts', WHERE WHAT IT READS IS OF BULK AT MOST 1048576: true; the input reads as it did. -/
def vectorTextsUptoRow : OpenClaim := { program := "ytloljnpnoohglaa", sum := "a0806162082defa2ffe402e672db8539ecc3cecd57bf11b5da5f7f856be8d443", func := "tatting/tattinglaw16.VectorTexts", spec := "vectorTexts", unfollowed := true, recurses := true, apart := false, narrowed := true }
def VectorTextsUptoSaid : Prop := vectorTextsUptoRow.holds Try.pinned (OpenSpec.upto vectorTextsSpec)

/-- 'tattinglaw16.VectorCuts', WHERE WHAT IT READS IS OF BULK AT MOST 1048576: true; the input reads as it did. -/
def vectorCutsUptoRow : OpenClaim := { program := "ytloljnpnoohglaa", sum := "a0806162082defa2ffe402e672db8539ecc3cecd57bf11b5da5f7f856be8d443", func := "tatting/tattinglaw16.VectorCuts", spec := "vectorCuts", unfollowed := true, recurses := true, apart := false, narrowed := true }
def VectorCutsUptoSaid : Prop := vectorCutsUptoRow.holds Try.pinned (OpenSpec.upto vectorCutsSpec)

end Rows
end Go.Proofs.Ytloljnpnoohglaa
