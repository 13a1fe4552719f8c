/-
  No cell of these rows narrows 'for every input' (looked for: loops, veiled, ifaces, maps, wideKeys, modest, calm, conditions, laid).
  DERIVED. THE GIVEN ROWS OF THIS SEAT. 12 by the template 'for every input the law returns true; each argument reads behind the call as it read before'; 0 by the template 'total and deterministic' (their statements: YtkcocdpmangcgaaTotals.lean).
  GIVEN WITH THE SEED: the statements are not yours to turn. If you find one false, say at which input.
  Laid BY PROGRAM, IN A SANDBOX (cutbox-rows.mjs): the forced cells as the released guide's own fill.sh prints them over the translation 034bc7a725d348f4… (all of the seat's roots in one cut). By AI agents, Wed Nov 11 2026. No macro, syntax, notation, axiom, sorry.
-/
import Derived.Test.YtkcocdpmangcgaaChecked
import GoSem.Claim
import GoSem.ClaimJoined
import GoSem.ClaimMapViews
import Derived.JoinedTies
import Derived.KernelRfl
namespace Go.Proofs.Ytkcocdpmangcgaa
/- THE CELL 'sum', in the pinned program and in every row, IS THE sha256 OF THE DUMP (.gsa) THAT YtkcocdpmangcgaaProg.lean LOADS. Nothing in Lean hashes anything: it is a label: what it is worth is what the hold of that sum in a sandbox is worth. -/
noncomputable def Try.pinned : Pinned := { name := "ytkcocdpmangcgaa", sum := "034bc7a725d348f417f7da4c85174ddf3d5f81ab4e58941ca05f1fae0b41e958", checked := Try.checked }
namespace Rows
def none {H : Type} : Left H := { results := [], args := [] }

/-- 'tattinglaw21.BalanceTells': WHATEVER THE INPUT: true; the input reads as it did. -/
def balanceTellsSpec : ChangeSpec := { name := "balanceTells", fn := fun _ => fun
  | [d1, d2] => { results := [.lit (.bool true)], args := [d1, d2] }
  | _ => none }
def balanceTellsRow : OpenClaim := { program := "ytkcocdpmangcgaa", sum := "034bc7a725d348f417f7da4c85174ddf3d5f81ab4e58941ca05f1fae0b41e958", func := "tatting/tattinglaw21.BalanceTells", spec := "balanceTells", unfollowed := true, recurses := true, apart := false }
def BalanceTellsSaid : Prop := balanceTellsRow.holds Try.pinned (OpenSpec.ofChange balanceTellsSpec)

/-- ITS FALSE NEIGHBOUR: 'it returns false'. Refute it at one input. -/
def balanceTellsWrong : ChangeSpec := { name := "balanceTells", fn := fun _ => fun
  | [d1, d2] => { results := [.lit (.bool false)], args := [d1, d2] }
  | _ => none }
def BalanceTellsWrongFalsely : Prop := balanceTellsRow.holds Try.pinned (OpenSpec.ofChange balanceTellsWrong)

/-- 'tattinglaw21.BalanceJoins': WHATEVER THE INPUT: true; the input reads as it did. -/
def balanceJoinsSpec : ChangeSpec := { name := "balanceJoins", fn := fun _ => fun
  | [d1, d2, d3] => { results := [.lit (.bool true)], args := [d1, d2, d3] }
  | _ => none }
def balanceJoinsRow : OpenClaim := { program := "ytkcocdpmangcgaa", sum := "034bc7a725d348f417f7da4c85174ddf3d5f81ab4e58941ca05f1fae0b41e958", func := "tatting/tattinglaw21.BalanceJoins", spec := "balanceJoins", unfollowed := true, recurses := true, apart := false }
def BalanceJoinsSaid : Prop := balanceJoinsRow.holds Try.pinned (OpenSpec.ofChange balanceJoinsSpec)

/-- ITS FALSE NEIGHBOUR: 'it returns false'. Refute it at one input. -/
def balanceJoinsWrong : ChangeSpec := { name := "balanceJoins", fn := fun _ => fun
  | [d1, d2, d3] => { results := [.lit (.bool false)], args := [d1, d2, d3] }
  | _ => none }
def BalanceJoinsWrongFalsely : Prop := balanceJoinsRow.holds Try.pinned (OpenSpec.ofChange balanceJoinsWrong)

/-- 'tattinglaw21.BalanceSplits': WHATEVER THE INPUT: true; the input reads as it did. -/
def balanceSplitsSpec : ChangeSpec := { name := "balanceSplits", fn := fun _ => fun
  | [d1, d2, d3] => { results := [.lit (.bool true)], args := [d1, d2, d3] }
  | _ => none }
def balanceSplitsRow : OpenClaim := { program := "ytkcocdpmangcgaa", sum := "034bc7a725d348f417f7da4c85174ddf3d5f81ab4e58941ca05f1fae0b41e958", func := "tatting/tattinglaw21.BalanceSplits", spec := "balanceSplits", unfollowed := true, recurses := true, apart := false }
def BalanceSplitsSaid : Prop := balanceSplitsRow.holds Try.pinned (OpenSpec.ofChange balanceSplitsSpec)

/-- ITS FALSE NEIGHBOUR: 'it returns false'. Refute it at one input. -/
def balanceSplitsWrong : ChangeSpec := { name := "balanceSplits", fn := fun _ => fun
  | [d1, d2, d3] => { results := [.lit (.bool false)], args := [d1, d2, d3] }
  | _ => none }
def BalanceSplitsWrongFalsely : Prop := balanceSplitsRow.holds Try.pinned (OpenSpec.ofChange balanceSplitsWrong)

/-- 'tattinglaw22.RopeCosts': WHATEVER THE INPUT: true; the input reads as it did. -/
def ropeCostsSpec : ChangeSpec := { name := "ropeCosts", fn := fun _ => fun
  | [d1, d2] => { results := [.lit (.bool true)], args := [d1, d2] }
  | _ => none }
def ropeCostsRow : OpenClaim := { program := "ytkcocdpmangcgaa", sum := "034bc7a725d348f417f7da4c85174ddf3d5f81ab4e58941ca05f1fae0b41e958", func := "tatting/tattinglaw22.RopeCosts", spec := "ropeCosts", inPlace := ["internal/abi.NoEscape"], unfollowed := true, recurses := true, apart := false }
def RopeCostsSaid : Prop := ropeCostsRow.holds Try.pinned (OpenSpec.ofChange ropeCostsSpec)

/-- ITS FALSE NEIGHBOUR: 'it returns false'. Refute it at one input. -/
def ropeCostsWrong : ChangeSpec := { name := "ropeCosts", fn := fun _ => fun
  | [d1, d2] => { results := [.lit (.bool false)], args := [d1, d2] }
  | _ => none }
def RopeCostsWrongFalsely : Prop := ropeCostsRow.holds Try.pinned (OpenSpec.ofChange ropeCostsWrong)

/-- 'tattinglaw22.RopeReads': WHATEVER THE INPUT: true; the input reads as it did. -/
def ropeReadsSpec : ChangeSpec := { name := "ropeReads", fn := fun _ => fun
  | [d1, d2, d3] => { results := [.lit (.bool true)], args := [d1, d2, d3] }
  | _ => none }
def ropeReadsRow : OpenClaim := { program := "ytkcocdpmangcgaa", sum := "034bc7a725d348f417f7da4c85174ddf3d5f81ab4e58941ca05f1fae0b41e958", func := "tatting/tattinglaw22.RopeReads", spec := "ropeReads", inPlace := ["internal/abi.NoEscape"], unfollowed := true, recurses := true, apart := false }
def RopeReadsSaid : Prop := ropeReadsRow.holds Try.pinned (OpenSpec.ofChange ropeReadsSpec)

/-- ITS FALSE NEIGHBOUR: 'it returns false'. Refute it at one input. -/
def ropeReadsWrong : ChangeSpec := { name := "ropeReads", fn := fun _ => fun
  | [d1, d2, d3] => { results := [.lit (.bool false)], args := [d1, d2, d3] }
  | _ => none }
def RopeReadsWrongFalsely : Prop := ropeReadsRow.holds Try.pinned (OpenSpec.ofChange ropeReadsWrong)

/-- 'tattinglaw22.RopePlays': WHATEVER THE INPUT: true; the input reads as it did. -/
def ropePlaysSpec : ChangeSpec := { name := "ropePlays", fn := fun _ => fun
  | [d] => { results := [.lit (.bool true)], args := [d] }
  | _ => none }
def ropePlaysRow : OpenClaim := { program := "ytkcocdpmangcgaa", sum := "034bc7a725d348f417f7da4c85174ddf3d5f81ab4e58941ca05f1fae0b41e958", func := "tatting/tattinglaw22.RopePlays", spec := "ropePlays", inPlace := ["internal/abi.NoEscape"], unfollowed := true, recurses := true, apart := false }
def RopePlaysSaid : Prop := ropePlaysRow.holds Try.pinned (OpenSpec.ofChange ropePlaysSpec)

/-- ITS FALSE NEIGHBOUR: 'it returns false'. Refute it at one input. -/
def ropePlaysWrong : ChangeSpec := { name := "ropePlays", fn := fun _ => fun
  | [d] => { results := [.lit (.bool false)], args := [d] }
  | _ => none }
def RopePlaysWrongFalsely : Prop := ropePlaysRow.holds Try.pinned (OpenSpec.ofChange ropePlaysWrong)

/-- 'tattinglaw23.WalkGoes': WHATEVER THE INPUT: true; the input reads as it did. -/
def walkGoesSpec : ChangeSpec := { name := "walkGoes", fn := fun _ => fun
  | [d1, d2, d3] => { results := [.lit (.bool true)], args := [d1, d2, d3] }
  | _ => none }
def walkGoesRow : OpenClaim := { program := "ytkcocdpmangcgaa", sum := "034bc7a725d348f417f7da4c85174ddf3d5f81ab4e58941ca05f1fae0b41e958", func := "tatting/tattinglaw23.WalkGoes", spec := "walkGoes", unfollowed := true, recurses := true, apart := false }
def WalkGoesSaid : Prop := walkGoesRow.holds Try.pinned (OpenSpec.ofChange walkGoesSpec)

/-- ITS FALSE NEIGHBOUR: 'it returns false'. Refute it at one input. -/
def walkGoesWrong : ChangeSpec := { name := "walkGoes", fn := fun _ => fun
  | [d1, d2, d3] => { results := [.lit (.bool false)], args := [d1, d2, d3] }
  | _ => none }
def WalkGoesWrongFalsely : Prop := walkGoesRow.holds Try.pinned (OpenSpec.ofChange walkGoesWrong)

/-- 'tattinglaw23.WalkPieces': WHATEVER THE INPUT: true; the input reads as it did. -/
def walkPiecesSpec : ChangeSpec := { name := "walkPieces", fn := fun _ => fun
  | [d] => { results := [.lit (.bool true)], args := [d] }
  | _ => none }
def walkPiecesRow : OpenClaim := { program := "ytkcocdpmangcgaa", sum := "034bc7a725d348f417f7da4c85174ddf3d5f81ab4e58941ca05f1fae0b41e958", func := "tatting/tattinglaw23.WalkPieces", spec := "walkPieces", unfollowed := true, recurses := true, apart := false }
def WalkPiecesSaid : Prop := walkPiecesRow.holds Try.pinned (OpenSpec.ofChange walkPiecesSpec)

/-- ITS FALSE NEIGHBOUR: 'it returns false'. Refute it at one input. -/
def walkPiecesWrong : ChangeSpec := { name := "walkPieces", fn := fun _ => fun
  | [d] => { results := [.lit (.bool false)], args := [d] }
  | _ => none }
def WalkPiecesWrongFalsely : Prop := walkPiecesRow.holds Try.pinned (OpenSpec.ofChange walkPiecesWrong)

/-- 'tattinglaw23.WalkCommon': WHATEVER THE INPUT: true; the input reads as it did. -/
def walkCommonSpec : ChangeSpec := { name := "walkCommon", fn := fun _ => fun
  | [d] => { results := [.lit (.bool true)], args := [d] }
  | _ => none }
def walkCommonRow : OpenClaim := { program := "ytkcocdpmangcgaa", sum := "034bc7a725d348f417f7da4c85174ddf3d5f81ab4e58941ca05f1fae0b41e958", func := "tatting/tattinglaw23.WalkCommon", spec := "walkCommon", unfollowed := true, recurses := true, apart := false }
def WalkCommonSaid : Prop := walkCommonRow.holds Try.pinned (OpenSpec.ofChange walkCommonSpec)

/-- ITS FALSE NEIGHBOUR: 'it returns false'. Refute it at one input. -/
def walkCommonWrong : ChangeSpec := { name := "walkCommon", fn := fun _ => fun
  | [d] => { results := [.lit (.bool false)], args := [d] }
  | _ => none }
def WalkCommonWrongFalsely : Prop := walkCommonRow.holds Try.pinned (OpenSpec.ofChange walkCommonWrong)

/-- 'tattinglaw22.RopeNone': WHATEVER THE INPUT: true; the input reads as it did. -/
def ropeNoneSpec : ChangeSpec := { name := "ropeNone", fn := fun _ => fun
  | [d1, d2] => { results := [.lit (.bool true)], args := [d1, d2] }
  | _ => none }
def ropeNoneRow : OpenClaim := { program := "ytkcocdpmangcgaa", sum := "034bc7a725d348f417f7da4c85174ddf3d5f81ab4e58941ca05f1fae0b41e958", func := "tatting/tattinglaw22.RopeNone", spec := "ropeNone", inPlace := ["internal/abi.NoEscape"], unfollowed := true, recurses := true, apart := false }
def RopeNoneSaid : Prop := ropeNoneRow.holds Try.pinned (OpenSpec.ofChange ropeNoneSpec)

/-- ITS FALSE NEIGHBOUR: 'it returns false'. Refute it at one input. -/
def ropeNoneWrong : ChangeSpec := { name := "ropeNone", fn := fun _ => fun
  | [d1, d2] => { results := [.lit (.bool false)], args := [d1, d2] }
  | _ => none }
def RopeNoneWrongFalsely : Prop := ropeNoneRow.holds Try.pinned (OpenSpec.ofChange ropeNoneWrong)

/-- 'tattinglaw26.KeepOnce': WHATEVER THE INPUT: true; the input reads as it did. -/
def keepOnceSpec : ChangeSpec := { name := "keepOnce", fn := fun _ => fun
  | [d1, d2, d3] => { results := [.lit (.bool true)], args := [d1, d2, d3] }
  | _ => none }
def keepOnceRow : OpenClaim := { program := "ytkcocdpmangcgaa", sum := "034bc7a725d348f417f7da4c85174ddf3d5f81ab4e58941ca05f1fae0b41e958", func := "tatting/tattinglaw26.KeepOnce", spec := "keepOnce", inPlace := ["internal/abi.NoEscape"], unfollowed := true, recurses := true, apart := false }
def KeepOnceSaid : Prop := keepOnceRow.holds Try.pinned (OpenSpec.ofChange keepOnceSpec)

/-- ITS FALSE NEIGHBOUR: 'it returns false'. Refute it at one input. -/
def keepOnceWrong : ChangeSpec := { name := "keepOnce", fn := fun _ => fun
  | [d1, d2, d3] => { results := [.lit (.bool false)], args := [d1, d2, d3] }
  | _ => none }
def KeepOnceWrongFalsely : Prop := keepOnceRow.holds Try.pinned (OpenSpec.ofChange keepOnceWrong)

/-- 'tattinglaw26.KeepTexts': WHATEVER THE INPUT: true; the input reads as it did. -/
def keepTextsSpec : ChangeSpec := { name := "keepTexts", fn := fun _ => fun
  | [d1, d2] => { results := [.lit (.bool true)], args := [d1, d2] }
  | _ => none }
def keepTextsRow : OpenClaim := { program := "ytkcocdpmangcgaa", sum := "034bc7a725d348f417f7da4c85174ddf3d5f81ab4e58941ca05f1fae0b41e958", func := "tatting/tattinglaw26.KeepTexts", spec := "keepTexts", inPlace := ["internal/abi.NoEscape"], unfollowed := true, recurses := true, apart := false }
def KeepTextsSaid : Prop := keepTextsRow.holds Try.pinned (OpenSpec.ofChange keepTextsSpec)

/-- ITS FALSE NEIGHBOUR: 'it returns false'. Refute it at one input. -/
def keepTextsWrong : ChangeSpec := { name := "keepTexts", fn := fun _ => fun
  | [d1, d2] => { results := [.lit (.bool false)], args := [d1, d2] }
  | _ => none }
def KeepTextsWrongFalsely : Prop := keepTextsRow.holds Try.pinned (OpenSpec.ofChange keepTextsWrong)

/- THE SECOND FORM. 'bulk': how many values and letters a reading holds, each counted each time it is reached (what is shared counts as often as it is met; a slice's spare places count too). A statement '..UptoSaid' is the law's where the arguments, and the package variables that the reading takes, are together of bulk at most 1048576: NARROWER than '..Said'. Prove '..Said' where nothing that the law and all that it calls make is longer than what came in: it says more and counts as full. Else prove '..UptoSaid'. A law counts once. -/
mutual
def uptoBulk {H : Type} : DataW H → Nat
  | .lit (.string bytes) => bytes.length + 1
  | .lit _ => 1
  | .nil => 1
  | .ptr d => uptoBulk d + 1
  | .slice elems spare => uptoBulkAll elems + uptoBulkAll spare + 1
  | .agg parts => uptoBulkAll parts + 1
  | .iface _ d => uptoBulk d + 1
  | .map entries => uptoBulkEntries entries + 1
  | .held _ => 1
def uptoBulkAll {H : Type} : List (DataW H) → Nat
  | [] => 0
  | d :: r => uptoBulk d + uptoBulkAll r
def uptoBulkEntries {H : Type} : List (Lit × DataW H) → Nat
  | [] => 0
  | x :: r => uptoBulkEntry x + uptoBulkEntries r
def uptoBulkEntry {H : Type} : Lit × DataW H → Nat
  | (.string bytes, d) => bytes.length + uptoBulk d + 1
  | (_, d) => uptoBulk d + 1
 end
def uptoSmall : (H : Type) → List (DataW H) → Bool := fun _ ds => decide (uptoBulkAll ds ≤ 1048576)
def OpenSpec.upto (s : _root_.Go.ChangeSpec) : _root_.Go.OpenSpec := { _root_.Go.OpenSpec.ofChange s with cond := some uptoSmall }

/-- 'tattinglaw21.BalanceTells', WHERE WHAT IT READS IS OF BULK AT MOST 1048576: true; the input reads as it did. -/
def balanceTellsUptoRow : OpenClaim := { program := "ytkcocdpmangcgaa", sum := "034bc7a725d348f417f7da4c85174ddf3d5f81ab4e58941ca05f1fae0b41e958", func := "tatting/tattinglaw21.BalanceTells", spec := "balanceTells", unfollowed := true, recurses := true, apart := false, narrowed := true }
def BalanceTellsUptoSaid : Prop := balanceTellsUptoRow.holds Try.pinned (OpenSpec.upto balanceTellsSpec)

/-- 'tattinglaw21.BalanceJoins', WHERE WHAT IT READS IS OF BULK AT MOST 1048576: true; the input reads as it did. -/
def balanceJoinsUptoRow : OpenClaim := { program := "ytkcocdpmangcgaa", sum := "034bc7a725d348f417f7da4c85174ddf3d5f81ab4e58941ca05f1fae0b41e958", func := "tatting/tattinglaw21.BalanceJoins", spec := "balanceJoins", unfollowed := true, recurses := true, apart := false, narrowed := true }
def BalanceJoinsUptoSaid : Prop := balanceJoinsUptoRow.holds Try.pinned (OpenSpec.upto balanceJoinsSpec)

/-- 'tattinglaw21.BalanceSplits', WHERE WHAT IT READS IS OF BULK AT MOST 1048576: true; the input reads as it did. -/
def balanceSplitsUptoRow : OpenClaim := { program := "ytkcocdpmangcgaa", sum := "034bc7a725d348f417f7da4c85174ddf3d5f81ab4e58941ca05f1fae0b41e958", func := "tatting/tattinglaw21.BalanceSplits", spec := "balanceSplits", unfollowed := true, recurses := true, apart := false, narrowed := true }
def BalanceSplitsUptoSaid : Prop := balanceSplitsUptoRow.holds Try.pinned (OpenSpec.upto balanceSplitsSpec)

/-- 'tattinglaw22.RopeCosts', WHERE WHAT IT READS IS OF BULK AT MOST 1048576: true; the input reads as it did. -/
def ropeCostsUptoRow : OpenClaim := { program := "ytkcocdpmangcgaa", sum := "034bc7a725d348f417f7da4c85174ddf3d5f81ab4e58941ca05f1fae0b41e958", func := "tatting/tattinglaw22.RopeCosts", spec := "ropeCosts", inPlace := ["internal/abi.NoEscape"], unfollowed := true, recurses := true, apart := false, narrowed := true }
def RopeCostsUptoSaid : Prop := ropeCostsUptoRow.holds Try.pinned (OpenSpec.upto ropeCostsSpec)

/-- 'tattinglaw22.RopeReads', WHERE WHAT IT READS IS OF BULK AT MOST 1048576: true; the input reads as it did. -/
def ropeReadsUptoRow : OpenClaim := { program := "ytkcocdpmangcgaa", sum := "034bc7a725d348f417f7da4c85174ddf3d5f81ab4e58941ca05f1fae0b41e958", func := "tatting/tattinglaw22.RopeReads", spec := "ropeReads", inPlace := ["internal/abi.NoEscape"], unfollowed := true, recurses := true, apart := false, narrowed := true }
def RopeReadsUptoSaid : Prop := ropeReadsUptoRow.holds Try.pinned (OpenSpec.upto ropeReadsSpec)

/-- 'tattinglaw22.RopePlays', WHERE WHAT IT READS IS OF BULK AT MOST 1048576: true; the input reads as it did. -/
def ropePlaysUptoRow : OpenClaim := { program := "ytkcocdpmangcgaa", sum := "034bc7a725d348f417f7da4c85174ddf3d5f81ab4e58941ca05f1fae0b41e958", func := "tatting/tattinglaw22.RopePlays", spec := "ropePlays", inPlace := ["internal/abi.NoEscape"], unfollowed := true, recurses := true, apart := false, narrowed := true }
def RopePlaysUptoSaid : Prop := ropePlaysUptoRow.holds Try.pinned (OpenSpec.upto ropePlaysSpec)

/-- 'tattinglaw23.WalkGoes', WHERE WHAT IT READS IS OF BULK AT MOST 1048576: true; the input reads as it did. -/
def walkGoesUptoRow : OpenClaim := { program := "ytkcocdpmangcgaa", sum := "034bc7a725d348f417f7da4c85174ddf3d5f81ab4e58941ca05f1fae0b41e958", func := "tatting/tattinglaw23.WalkGoes", spec := "walkGoes", unfollowed := true, recurses := true, apart := false, narrowed := true }
def WalkGoesUptoSaid : Prop := walkGoesUptoRow.holds Try.pinned (OpenSpec.upto walkGoesSpec)

/-- 'tattinglaw23.WalkPieces', WHERE WHAT IT READS IS OF BULK AT MOST 1048576: true; the input reads as it did. -/
def walkPiecesUptoRow : OpenClaim := { program := "ytkcocdpmangcgaa", sum := "034bc7a725d348f417f7da4c85174ddf3d5f81ab4e58941ca05f1fae0b41e958", func := "tatting/tattinglaw23.WalkPieces", spec := "walkPieces", unfollowed := true, recurses := true, apart := false, narrowed := true }
def WalkPiecesUptoSaid : Prop := walkPiecesUptoRow.holds Try.pinned (OpenSpec.upto walkPiecesSpec)

/-- 'tattinglaw23.WalkCommon', WHERE WHAT IT READS IS OF BULK AT MOST 1048576: true; the input reads as it did. -/
def walkCommonUptoRow : OpenClaim := { program := "ytkcocdpmangcgaa", sum := "034bc7a725d348f417f7da4c85174ddf3d5f81ab4e58941ca05f1fae0b41e958", func := "tatting/tattinglaw23.WalkCommon", spec := "walkCommon", unfollowed := true, recurses := true, apart := false, narrowed := true }
def WalkCommonUptoSaid : Prop := walkCommonUptoRow.holds Try.pinned (OpenSpec.upto walkCommonSpec)

/-- 'tattinglaw22.RopeNone', WHERE WHAT IT READS IS OF BULK AT MOST 1048576: true; the input reads as it did. -/
def ropeNoneUptoRow : OpenClaim := { program := "ytkcocdpmangcgaa", sum := "034bc7a725d348f417f7da4c85174ddf3d5f81ab4e58941ca05f1fae0b41e958", func := "tatting/tattinglaw22.RopeNone", spec := "ropeNone", inPlace := ["internal/abi.NoEscape"], unfollowed := true, recurses := true, apart := false, narrowed := true }
def RopeNoneUptoSaid : Prop := ropeNoneUptoRow.holds Try.pinned (OpenSpec.upto ropeNoneSpec)

/-- 'tattinglaw26.KeepOnce', WHERE WHAT IT READS IS OF BULK AT MOST 1048576: true; the input reads as it did. -/
def keepOnceUptoRow : OpenClaim := { program := "ytkcocdpmangcgaa", sum := "034bc7a725d348f417f7da4c85174ddf3d5f81ab4e58941ca05f1fae0b41e958", func := "tatting/tattinglaw26.KeepOnce", spec := "keepOnce", inPlace := ["internal/abi.NoEscape"], unfollowed := true, recurses := true, apart := false, narrowed := true }
def KeepOnceUptoSaid : Prop := keepOnceUptoRow.holds Try.pinned (OpenSpec.upto keepOnceSpec)

/-- 'tattinglaw26.KeepTexts', WHERE WHAT IT READS IS OF BULK AT MOST 1048576: true; the input reads as it did. -/
def keepTextsUptoRow : OpenClaim := { program := "ytkcocdpmangcgaa", sum := "034bc7a725d348f417f7da4c85174ddf3d5f81ab4e58941ca05f1fae0b41e958", func := "tatting/tattinglaw26.KeepTexts", spec := "keepTexts", inPlace := ["internal/abi.NoEscape"], unfollowed := true, recurses := true, apart := false, narrowed := true }
def KeepTextsUptoSaid : Prop := keepTextsUptoRow.holds Try.pinned (OpenSpec.upto keepTextsSpec)

end Rows
end Go.Proofs.Ytkcocdpmangcgaa
