/-
  No cell of these rows narrows 'for every input' (looked for: loops, veiled, ifaces, maps, wideKeys, modest, calm, conditions, laid).
  DERIVED. THE GIVEN ROWS OF THIS SEAT. 11 by the template 'for every input the law returns true; each argument reads behind the call as it read before'; 0 by the template 'total and deterministic' (their statements: YtoeamnagmehpeaaTotals.lean).
  GIVEN WITH THE SEED: the statements are not yours to turn. If you find one false, say at which input.
  Laid BY PROGRAM, IN A SANDBOX (cutbox-rows.mjs): the forced cells as the released guide's own fill.sh prints them over the translation 58cebd8ef7060249… (all of the seat's roots in one cut). By AI agents, Wed Nov 11 2026. No macro, syntax, notation, axiom, sorry.
-/
import Derived.Test.YtoeamnagmehpeaaChecked
import GoSem.Claim
import GoSem.ClaimJoined
import GoSem.ClaimMapViews
import Derived.JoinedTies
import Derived.KernelRfl
namespace Go.Proofs.Ytoeamnagmehpeaa
/- THE CELL 'sum', in the pinned program and in every row, IS THE sha256 OF THE DUMP (.gsa) THAT YtoeamnagmehpeaaProg.lean LOADS. Nothing in Lean hashes anything: it is a label: what it is worth is what the hold of that sum in a sandbox is worth. -/
noncomputable def Try.pinned : Pinned := { name := "ytoeamnagmehpeaa", sum := "58cebd8ef706024998ae252c1f3f75517079c7191d95bd70d3ea40202656130e", checked := Try.checked }
namespace Rows
def none {H : Type} : Left H := { results := [], args := [] }

/-- 'tattinglaw26.KeepOnce': WHATEVER THE INPUT: true; the input reads as it did. -/
def keepOnceSpec : ChangeSpec := { name := "keepOnce", fn := fun _ => fun
  | [d1, d2, d3] => { results := [.lit (.bool true)], args := [d1, d2, d3] }
  | _ => none }
def keepOnceRow : OpenClaim := { program := "ytoeamnagmehpeaa", sum := "58cebd8ef706024998ae252c1f3f75517079c7191d95bd70d3ea40202656130e", func := "tatting/tattinglaw26.KeepOnce", spec := "keepOnce", inPlace := ["internal/abi.NoEscape"], unfollowed := true, recurses := true, plainKeys := false, apart := false }
def KeepOnceSaid : Prop := keepOnceRow.holds Try.pinned (OpenSpec.ofChange keepOnceSpec)

/-- ITS FALSE NEIGHBOUR: 'it returns false'. Refute it at one input. -/
def keepOnceWrong : ChangeSpec := { name := "keepOnce", fn := fun _ => fun
  | [d1, d2, d3] => { results := [.lit (.bool false)], args := [d1, d2, d3] }
  | _ => none }
def KeepOnceWrongFalsely : Prop := keepOnceRow.holds Try.pinned (OpenSpec.ofChange keepOnceWrong)

/-- 'tattinglaw26.KeepTexts': WHATEVER THE INPUT: true; the input reads as it did. -/
def keepTextsSpec : ChangeSpec := { name := "keepTexts", fn := fun _ => fun
  | [d1, d2] => { results := [.lit (.bool true)], args := [d1, d2] }
  | _ => none }
def keepTextsRow : OpenClaim := { program := "ytoeamnagmehpeaa", sum := "58cebd8ef706024998ae252c1f3f75517079c7191d95bd70d3ea40202656130e", func := "tatting/tattinglaw26.KeepTexts", spec := "keepTexts", inPlace := ["internal/abi.NoEscape"], unfollowed := true, recurses := true, plainKeys := false, apart := false }
def KeepTextsSaid : Prop := keepTextsRow.holds Try.pinned (OpenSpec.ofChange keepTextsSpec)

/-- ITS FALSE NEIGHBOUR: 'it returns false'. Refute it at one input. -/
def keepTextsWrong : ChangeSpec := { name := "keepTexts", fn := fun _ => fun
  | [d1, d2] => { results := [.lit (.bool false)], args := [d1, d2] }
  | _ => none }
def KeepTextsWrongFalsely : Prop := keepTextsRow.holds Try.pinned (OpenSpec.ofChange keepTextsWrong)

/-- 'tattinglaw24.LinesPlaces': WHATEVER THE INPUT: true; the input reads as it did. -/
def linesPlacesSpec : ChangeSpec := { name := "linesPlaces", fn := fun _ => fun
  | [d1, d2, d3] => { results := [.lit (.bool true)], args := [d1, d2, d3] }
  | _ => none }
def linesPlacesRow : OpenClaim := { program := "ytoeamnagmehpeaa", sum := "58cebd8ef706024998ae252c1f3f75517079c7191d95bd70d3ea40202656130e", func := "tatting/tattinglaw24.LinesPlaces", spec := "linesPlaces", inPlace := ["internal/abi.NoEscape"], unfollowed := true, recurses := true, plainKeys := false, apart := false }
def LinesPlacesSaid : Prop := linesPlacesRow.holds Try.pinned (OpenSpec.ofChange linesPlacesSpec)

/-- ITS FALSE NEIGHBOUR: 'it returns false'. Refute it at one input. -/
def linesPlacesWrong : ChangeSpec := { name := "linesPlaces", fn := fun _ => fun
  | [d1, d2, d3] => { results := [.lit (.bool false)], args := [d1, d2, d3] }
  | _ => none }
def LinesPlacesWrongFalsely : Prop := linesPlacesRow.holds Try.pinned (OpenSpec.ofChange linesPlacesWrong)

/-- 'tattinglaw24.LinesTexts': WHATEVER THE INPUT: true; the input reads as it did. -/
def linesTextsSpec : ChangeSpec := { name := "linesTexts", fn := fun _ => fun
  | [d1, d2] => { results := [.lit (.bool true)], args := [d1, d2] }
  | _ => none }
def linesTextsRow : OpenClaim := { program := "ytoeamnagmehpeaa", sum := "58cebd8ef706024998ae252c1f3f75517079c7191d95bd70d3ea40202656130e", func := "tatting/tattinglaw24.LinesTexts", spec := "linesTexts", inPlace := ["internal/abi.NoEscape"], unfollowed := true, recurses := true, plainKeys := false, apart := false }
def LinesTextsSaid : Prop := linesTextsRow.holds Try.pinned (OpenSpec.ofChange linesTextsSpec)

/-- ITS FALSE NEIGHBOUR: 'it returns false'. Refute it at one input. -/
def linesTextsWrong : ChangeSpec := { name := "linesTexts", fn := fun _ => fun
  | [d1, d2] => { results := [.lit (.bool false)], args := [d1, d2] }
  | _ => none }
def LinesTextsWrongFalsely : Prop := linesTextsRow.holds Try.pinned (OpenSpec.ofChange linesTextsWrong)

/-- 'tattinglaw24.LinesBack': WHATEVER THE INPUT: true; the input reads as it did. -/
def linesBackSpec : ChangeSpec := { name := "linesBack", fn := fun _ => fun
  | [d] => { results := [.lit (.bool true)], args := [d] }
  | _ => none }
def linesBackRow : OpenClaim := { program := "ytoeamnagmehpeaa", sum := "58cebd8ef706024998ae252c1f3f75517079c7191d95bd70d3ea40202656130e", func := "tatting/tattinglaw24.LinesBack", spec := "linesBack", inPlace := ["internal/abi.NoEscape"], unfollowed := true, recurses := true, plainKeys := false, apart := false }
def LinesBackSaid : Prop := linesBackRow.holds Try.pinned (OpenSpec.ofChange linesBackSpec)

/-- ITS FALSE NEIGHBOUR: 'it returns false'. Refute it at one input. -/
def linesBackWrong : ChangeSpec := { name := "linesBack", fn := fun _ => fun
  | [d] => { results := [.lit (.bool false)], args := [d] }
  | _ => none }
def LinesBackWrongFalsely : Prop := linesBackRow.holds Try.pinned (OpenSpec.ofChange linesBackWrong)

/-- 'tattinglaw28.SummaryCosts': WHATEVER THE INPUT: true; the input reads as it did. -/
def summaryCostsSpec : ChangeSpec := { name := "summaryCosts", fn := fun _ => fun
  | [d1, d2, d3] => { results := [.lit (.bool true)], args := [d1, d2, d3] }
  | _ => none }
def summaryCostsRow : OpenClaim := { program := "ytoeamnagmehpeaa", sum := "58cebd8ef706024998ae252c1f3f75517079c7191d95bd70d3ea40202656130e", func := "tatting/tattinglaw28.SummaryCosts", spec := "summaryCosts", unfollowed := true, recurses := true, plainKeys := false, apart := false }
def SummaryCostsSaid : Prop := summaryCostsRow.holds Try.pinned (OpenSpec.ofChange summaryCostsSpec)

/-- ITS FALSE NEIGHBOUR: 'it returns false'. Refute it at one input. -/
def summaryCostsWrong : ChangeSpec := { name := "summaryCosts", fn := fun _ => fun
  | [d1, d2, d3] => { results := [.lit (.bool false)], args := [d1, d2, d3] }
  | _ => none }
def SummaryCostsWrongFalsely : Prop := summaryCostsRow.holds Try.pinned (OpenSpec.ofChange summaryCostsWrong)

/-- 'tattinglaw28.SummaryTells': WHATEVER THE INPUT: true; the input reads as it did. -/
def summaryTellsSpec : ChangeSpec := { name := "summaryTells", fn := fun _ => fun
  | [d1, d2] => { results := [.lit (.bool true)], args := [d1, d2] }
  | _ => none }
def summaryTellsRow : OpenClaim := { program := "ytoeamnagmehpeaa", sum := "58cebd8ef706024998ae252c1f3f75517079c7191d95bd70d3ea40202656130e", func := "tatting/tattinglaw28.SummaryTells", spec := "summaryTells", unfollowed := true, recurses := true, plainKeys := false, apart := false }
def SummaryTellsSaid : Prop := summaryTellsRow.holds Try.pinned (OpenSpec.ofChange summaryTellsSpec)

/-- ITS FALSE NEIGHBOUR: 'it returns false'. Refute it at one input. -/
def summaryTellsWrong : ChangeSpec := { name := "summaryTells", fn := fun _ => fun
  | [d1, d2] => { results := [.lit (.bool false)], args := [d1, d2] }
  | _ => none }
def SummaryTellsWrongFalsely : Prop := summaryTellsRow.holds Try.pinned (OpenSpec.ofChange summaryTellsWrong)

/-- 'tattinglaw28.SummaryTurns': WHATEVER THE INPUT: true; the input reads as it did. -/
def summaryTurnsSpec : ChangeSpec := { name := "summaryTurns", fn := fun _ => fun
  | [d1, d2, d3] => { results := [.lit (.bool true)], args := [d1, d2, d3] }
  | _ => none }
def summaryTurnsRow : OpenClaim := { program := "ytoeamnagmehpeaa", sum := "58cebd8ef706024998ae252c1f3f75517079c7191d95bd70d3ea40202656130e", func := "tatting/tattinglaw28.SummaryTurns", spec := "summaryTurns", unfollowed := true, recurses := true, plainKeys := false, apart := false }
def SummaryTurnsSaid : Prop := summaryTurnsRow.holds Try.pinned (OpenSpec.ofChange summaryTurnsSpec)

/-- ITS FALSE NEIGHBOUR: 'it returns false'. Refute it at one input. -/
def summaryTurnsWrong : ChangeSpec := { name := "summaryTurns", fn := fun _ => fun
  | [d1, d2, d3] => { results := [.lit (.bool false)], args := [d1, d2, d3] }
  | _ => none }
def SummaryTurnsWrongFalsely : Prop := summaryTurnsRow.holds Try.pinned (OpenSpec.ofChange summaryTurnsWrong)

/-- 'tattinglaw29.DescendCuts': WHATEVER THE INPUT: true; the input reads as it did. -/
def descendCutsSpec : ChangeSpec := { name := "descendCuts", fn := fun _ => fun
  | [d1, d2, d3] => { results := [.lit (.bool true)], args := [d1, d2, d3] }
  | _ => none }
def descendCutsRow : OpenClaim := { program := "ytoeamnagmehpeaa", sum := "58cebd8ef706024998ae252c1f3f75517079c7191d95bd70d3ea40202656130e", func := "tatting/tattinglaw29.DescendCuts", spec := "descendCuts", unfollowed := true, recurses := true, plainKeys := false, apart := false }
def DescendCutsSaid : Prop := descendCutsRow.holds Try.pinned (OpenSpec.ofChange descendCutsSpec)

/-- ITS FALSE NEIGHBOUR: 'it returns false'. Refute it at one input. -/
def descendCutsWrong : ChangeSpec := { name := "descendCuts", fn := fun _ => fun
  | [d1, d2, d3] => { results := [.lit (.bool false)], args := [d1, d2, d3] }
  | _ => none }
def DescendCutsWrongFalsely : Prop := descendCutsRow.holds Try.pinned (OpenSpec.ofChange descendCutsWrong)

/-- 'tattinglaw29.DescendNone': WHATEVER THE INPUT: true; the input reads as it did. -/
def descendNoneSpec : ChangeSpec := { name := "descendNone", fn := fun _ => fun
  | [d1, d2, d3] => { results := [.lit (.bool true)], args := [d1, d2, d3] }
  | _ => none }
def descendNoneRow : OpenClaim := { program := "ytoeamnagmehpeaa", sum := "58cebd8ef706024998ae252c1f3f75517079c7191d95bd70d3ea40202656130e", func := "tatting/tattinglaw29.DescendNone", spec := "descendNone", unfollowed := true, recurses := true, plainKeys := false, apart := false }
def DescendNoneSaid : Prop := descendNoneRow.holds Try.pinned (OpenSpec.ofChange descendNoneSpec)

/-- ITS FALSE NEIGHBOUR: 'it returns false'. Refute it at one input. -/
def descendNoneWrong : ChangeSpec := { name := "descendNone", fn := fun _ => fun
  | [d1, d2, d3] => { results := [.lit (.bool false)], args := [d1, d2, d3] }
  | _ => none }
def DescendNoneWrongFalsely : Prop := descendNoneRow.holds Try.pinned (OpenSpec.ofChange descendNoneWrong)

/-- 'tattinglaw29.DescendWays': WHATEVER THE INPUT: true; the input reads as it did. -/
def descendWaysSpec : ChangeSpec := { name := "descendWays", fn := fun _ => fun
  | [d1, d2, d3] => { results := [.lit (.bool true)], args := [d1, d2, d3] }
  | _ => none }
def descendWaysRow : OpenClaim := { program := "ytoeamnagmehpeaa", sum := "58cebd8ef706024998ae252c1f3f75517079c7191d95bd70d3ea40202656130e", func := "tatting/tattinglaw29.DescendWays", spec := "descendWays", unfollowed := true, recurses := true, plainKeys := false, apart := false }
def DescendWaysSaid : Prop := descendWaysRow.holds Try.pinned (OpenSpec.ofChange descendWaysSpec)

/-- ITS FALSE NEIGHBOUR: 'it returns false'. Refute it at one input. -/
def descendWaysWrong : ChangeSpec := { name := "descendWays", fn := fun _ => fun
  | [d1, d2, d3] => { results := [.lit (.bool false)], args := [d1, d2, d3] }
  | _ => none }
def DescendWaysWrongFalsely : Prop := descendWaysRow.holds Try.pinned (OpenSpec.ofChange descendWaysWrong)

/- THE SECOND FORM. 'bulk': how many values and letters a reading holds, each counted each time it is reached (what is shared counts as often as it is met; a slice's spare places count too). A statement '..UptoSaid' is the law's where the arguments, and the package variables that the reading takes, are together of bulk at most 1048576: NARROWER than '..Said'. Prove '..Said' where nothing that the law and all that it calls make is longer than what came in: it says more and counts as full. Else prove '..UptoSaid'. A law counts once. -/
mutual
def uptoBulk {H : Type} : DataW H → Nat
  | .lit (.string bytes) => bytes.length + 1
  | .lit _ => 1
  | .nil => 1
  | .ptr d => uptoBulk d + 1
  | .slice elems spare => uptoBulkAll elems + uptoBulkAll spare + 1
  | .agg parts => uptoBulkAll parts + 1
  | .iface _ d => uptoBulk d + 1
  | .map entries => uptoBulkEntries entries + 1
  | .held _ => 1
def uptoBulkAll {H : Type} : List (DataW H) → Nat
  | [] => 0
  | d :: r => uptoBulk d + uptoBulkAll r
def uptoBulkEntries {H : Type} : List (Lit × DataW H) → Nat
  | [] => 0
  | x :: r => uptoBulkEntry x + uptoBulkEntries r
def uptoBulkEntry {H : Type} : Lit × DataW H → Nat
  | (.string bytes, d) => bytes.length + uptoBulk d + 1
  | (_, d) => uptoBulk d + 1
 end
def uptoSmall : (H : Type) → List (DataW H) → Bool := fun _ ds => decide (uptoBulkAll ds ≤ 1048576)
def OpenSpec.upto (s : _root_.Go.ChangeSpec) : _root_.Go.OpenSpec := { _root_.Go.OpenSpec.ofChange s with cond := some uptoSmall }

/-- 'tattinglaw26.KeepOnce', WHERE WHAT IT READS IS OF BULK AT MOST 1048576: true; the input reads as it did. -/
def keepOnceUptoRow : OpenClaim := { program := "ytoeamnagmehpeaa", sum := "58cebd8ef706024998ae252c1f3f75517079c7191d95bd70d3ea40202656130e", func := "tatting/tattinglaw26.KeepOnce", spec := "keepOnce", inPlace := ["internal/abi.NoEscape"], unfollowed := true, recurses := true, plainKeys := false, apart := false, narrowed := true }
def KeepOnceUptoSaid : Prop := keepOnceUptoRow.holds Try.pinned (OpenSpec.upto keepOnceSpec)

/-- 'tattinglaw26.KeepTexts', WHERE WHAT IT READS IS OF BULK AT MOST 1048576: true; the input reads as it did. -/
def keepTextsUptoRow : OpenClaim := { program := "ytoeamnagmehpeaa", sum := "58cebd8ef706024998ae252c1f3f75517079c7191d95bd70d3ea40202656130e", func := "tatting/tattinglaw26.KeepTexts", spec := "keepTexts", inPlace := ["internal/abi.NoEscape"], unfollowed := true, recurses := true, plainKeys := false, apart := false, narrowed := true }
def KeepTextsUptoSaid : Prop := keepTextsUptoRow.holds Try.pinned (OpenSpec.upto keepTextsSpec)

/-- 'tattinglaw24.LinesPlaces', WHERE WHAT IT READS IS OF BULK AT MOST 1048576: true; the input reads as it did. -/
def linesPlacesUptoRow : OpenClaim := { program := "ytoeamnagmehpeaa", sum := "58cebd8ef706024998ae252c1f3f75517079c7191d95bd70d3ea40202656130e", func := "tatting/tattinglaw24.LinesPlaces", spec := "linesPlaces", inPlace := ["internal/abi.NoEscape"], unfollowed := true, recurses := true, plainKeys := false, apart := false, narrowed := true }
def LinesPlacesUptoSaid : Prop := linesPlacesUptoRow.holds Try.pinned (OpenSpec.upto linesPlacesSpec)

/-- 'tattinglaw24.LinesTexts', WHERE WHAT IT READS IS OF BULK AT MOST 1048576: true; the input reads as it did. -/
def linesTextsUptoRow : OpenClaim := { program := "ytoeamnagmehpeaa", sum := "58cebd8ef706024998ae252c1f3f75517079c7191d95bd70d3ea40202656130e", func := "tatting/tattinglaw24.LinesTexts", spec := "linesTexts", inPlace := ["internal/abi.NoEscape"], unfollowed := true, recurses := true, plainKeys := false, apart := false, narrowed := true }
def LinesTextsUptoSaid : Prop := linesTextsUptoRow.holds Try.pinned (OpenSpec.upto linesTextsSpec)

/-- 'tattinglaw24.LinesBack', WHERE WHAT IT READS IS OF BULK AT MOST 1048576: true; the input reads as it did. -/
def linesBackUptoRow : OpenClaim := { program := "ytoeamnagmehpeaa", sum := "58cebd8ef706024998ae252c1f3f75517079c7191d95bd70d3ea40202656130e", func := "tatting/tattinglaw24.LinesBack", spec := "linesBack", inPlace := ["internal/abi.NoEscape"], unfollowed := true, recurses := true, plainKeys := false, apart := false, narrowed := true }
def LinesBackUptoSaid : Prop := linesBackUptoRow.holds Try.pinned (OpenSpec.upto linesBackSpec)

/-- 'tattinglaw28.SummaryCosts', WHERE WHAT IT READS IS OF BULK AT MOST 1048576: true; the input reads as it did. -/
def summaryCostsUptoRow : OpenClaim := { program := "ytoeamnagmehpeaa", sum := "58cebd8ef706024998ae252c1f3f75517079c7191d95bd70d3ea40202656130e", func := "tatting/tattinglaw28.SummaryCosts", spec := "summaryCosts", unfollowed := true, recurses := true, plainKeys := false, apart := false, narrowed := true }
def SummaryCostsUptoSaid : Prop := summaryCostsUptoRow.holds Try.pinned (OpenSpec.upto summaryCostsSpec)

/-- 'tattinglaw28.SummaryTells', WHERE WHAT IT READS IS OF BULK AT MOST 1048576: true; the input reads as it did. -/
def summaryTellsUptoRow : OpenClaim := { program := "ytoeamnagmehpeaa", sum := "58cebd8ef706024998ae252c1f3f75517079c7191d95bd70d3ea40202656130e", func := "tatting/tattinglaw28.SummaryTells", spec := "summaryTells", unfollowed := true, recurses := true, plainKeys := false, apart := false, narrowed := true }
def SummaryTellsUptoSaid : Prop := summaryTellsUptoRow.holds Try.pinned (OpenSpec.upto summaryTellsSpec)

/-- 'tattinglaw28.SummaryTurns', WHERE WHAT IT READS IS OF BULK AT MOST 1048576: true; the input reads as it did. -/
def summaryTurnsUptoRow : OpenClaim := { program := "ytoeamnagmehpeaa", sum := "58cebd8ef706024998ae252c1f3f75517079c7191d95bd70d3ea40202656130e", func := "tatting/tattinglaw28.SummaryTurns", spec := "summaryTurns", unfollowed := true, recurses := true, plainKeys := false, apart := false, narrowed := true }
def SummaryTurnsUptoSaid : Prop := summaryTurnsUptoRow.holds Try.pinned (OpenSpec.upto summaryTurnsSpec)

/-- 'tattinglaw29.DescendCuts', WHERE WHAT IT READS IS OF BULK AT MOST 1048576: true; the input reads as it did. -/
def descendCutsUptoRow : OpenClaim := { program := "ytoeamnagmehpeaa", sum := "58cebd8ef706024998ae252c1f3f75517079c7191d95bd70d3ea40202656130e", func := "tatting/tattinglaw29.DescendCuts", spec := "descendCuts", unfollowed := true, recurses := true, plainKeys := false, apart := false, narrowed := true }
def DescendCutsUptoSaid : Prop := descendCutsUptoRow.holds Try.pinned (OpenSpec.upto descendCutsSpec)

/-- 'tattinglaw29.DescendNone', WHERE WHAT IT READS IS OF BULK AT MOST 1048576: true; the input reads as it did. -/
def descendNoneUptoRow : OpenClaim := { program := "ytoeamnagmehpeaa", sum := "58cebd8ef706024998ae252c1f3f75517079c7191d95bd70d3ea40202656130e", func := "tatting/tattinglaw29.DescendNone", spec := "descendNone", unfollowed := true, recurses := true, plainKeys := false, apart := false, narrowed := true }
def DescendNoneUptoSaid : Prop := descendNoneUptoRow.holds Try.pinned (OpenSpec.upto descendNoneSpec)

/-- 'tattinglaw29.DescendWays', WHERE WHAT IT READS IS OF BULK AT MOST 1048576: true; the input reads as it did. -/
def descendWaysUptoRow : OpenClaim := { program := "ytoeamnagmehpeaa", sum := "58cebd8ef706024998ae252c1f3f75517079c7191d95bd70d3ea40202656130e", func := "tatting/tattinglaw29.DescendWays", spec := "descendWays", unfollowed := true, recurses := true, plainKeys := false, apart := false, narrowed := true }
def DescendWaysUptoSaid : Prop := descendWaysUptoRow.holds Try.pinned (OpenSpec.upto descendWaysSpec)

end Rows
end Go.Proofs.Ytoeamnagmehpeaa
