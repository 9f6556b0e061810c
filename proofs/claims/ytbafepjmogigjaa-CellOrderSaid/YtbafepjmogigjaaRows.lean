/-
  No cell of these rows narrows 'for every input' (looked for: loops, veiled, ifaces, maps, wideKeys, modest, calm, conditions, laid).
  DERIVED. THE GIVEN ROWS OF THIS SEAT. 14 by the template 'for every input the law returns true; each argument reads behind the call as it read before'; 0 by the template 'total and deterministic' (their statements: YtbafepjmogigjaaTotals.lean).
  GIVEN WITH THE SEED: the statements are not yours to turn. If you find one false, say at which input.
  Laid BY PROGRAM, IN A SANDBOX (cutbox-rows.mjs): the forced cells as the released guide's own fill.sh prints them over the translation 0d407a61b9922aaa… (all of the seat's roots in one cut). By AI agents, Wed Nov 11 2026. No macro, syntax, notation, axiom, sorry.
-/
import Derived.Test.YtbafepjmogigjaaChecked
import GoSem.Claim
import GoSem.ClaimJoined
import GoSem.ClaimMapViews
import Derived.JoinedTies
import Derived.KernelRfl
namespace Go.Proofs.Ytbafepjmogigjaa
/- THE CELL 'sum', in the pinned program and in every row, IS THE sha256 OF THE DUMP (.gsa) THAT YtbafepjmogigjaaProg.lean LOADS. Nothing in Lean hashes anything: it is a label: what it is worth is what the hold of that sum in a sandbox is worth. -/
noncomputable def Try.pinned : Pinned := { name := "ytbafepjmogigjaa", sum := "0d407a61b9922aaa3b0e748a45dc994744e0097b1173d1f457992da59412f1d5", checked := Try.checked }
namespace Rows
def none {H : Type} : Left H := { results := [], args := [] }

/-- 'scantlinglaw06.HistCount': WHATEVER THE INPUT: true; the input reads as it did. -/
def histCountSpec : ChangeSpec := { name := "histCount", fn := fun _ => fun
  | [d1, d2, d3] => { results := [.lit (.bool true)], args := [d1, d2, d3] }
  | _ => none }
def histCountRow : OpenClaim := { program := "ytbafepjmogigjaa", sum := "0d407a61b9922aaa3b0e748a45dc994744e0097b1173d1f457992da59412f1d5", func := "scantling/scantlinglaw06.HistCount", spec := "histCount", inPlace := ["slices.overlaps[scantling/hist.Item]"], unfollowed := true, recurses := true, apart := false }
def HistCountSaid : Prop := histCountRow.holds Try.pinned (OpenSpec.ofChange histCountSpec)

/-- ITS FALSE NEIGHBOUR: 'it returns false'. Refute it at one input. -/
def histCountWrong : ChangeSpec := { name := "histCount", fn := fun _ => fun
  | [d1, d2, d3] => { results := [.lit (.bool false)], args := [d1, d2, d3] }
  | _ => none }
def HistCountWrongFalsely : Prop := histCountRow.holds Try.pinned (OpenSpec.ofChange histCountWrong)

/-- 'scantlinglaw06.HistPlays': WHATEVER THE INPUT: true; the input reads as it did. -/
def histPlaysSpec : ChangeSpec := { name := "histPlays", fn := fun _ => fun
  | [d1, d2, d3, d4, d5, d6] => { results := [.lit (.bool true)], args := [d1, d2, d3, d4, d5, d6] }
  | _ => none }
def histPlaysRow : OpenClaim := { program := "ytbafepjmogigjaa", sum := "0d407a61b9922aaa3b0e748a45dc994744e0097b1173d1f457992da59412f1d5", func := "scantling/scantlinglaw06.HistPlays", spec := "histPlays", inPlace := ["slices.overlaps[scantling/hist.Item]"], unfollowed := true, recurses := true, apart := false }
def HistPlaysSaid : Prop := histPlaysRow.holds Try.pinned (OpenSpec.ofChange histPlaysSpec)

/-- ITS FALSE NEIGHBOUR: 'it returns false'. Refute it at one input. -/
def histPlaysWrong : ChangeSpec := { name := "histPlays", fn := fun _ => fun
  | [d1, d2, d3, d4, d5, d6] => { results := [.lit (.bool false)], args := [d1, d2, d3, d4, d5, d6] }
  | _ => none }
def HistPlaysWrongFalsely : Prop := histPlaysRow.holds Try.pinned (OpenSpec.ofChange histPlaysWrong)

/-- 'scantlinglaw06.HistOrder': WHATEVER THE INPUT: true; the input reads as it did. -/
def histOrderSpec : ChangeSpec := { name := "histOrder", fn := fun _ => fun
  | [d1, d2, d3] => { results := [.lit (.bool true)], args := [d1, d2, d3] }
  | _ => none }
def histOrderRow : OpenClaim := { program := "ytbafepjmogigjaa", sum := "0d407a61b9922aaa3b0e748a45dc994744e0097b1173d1f457992da59412f1d5", func := "scantling/scantlinglaw06.HistOrder", spec := "histOrder", inPlace := ["slices.overlaps[scantling/hist.Item]"], unfollowed := true, recurses := true, apart := false }
def HistOrderSaid : Prop := histOrderRow.holds Try.pinned (OpenSpec.ofChange histOrderSpec)

/-- ITS FALSE NEIGHBOUR: 'it returns false'. Refute it at one input. -/
def histOrderWrong : ChangeSpec := { name := "histOrder", fn := fun _ => fun
  | [d1, d2, d3] => { results := [.lit (.bool false)], args := [d1, d2, d3] }
  | _ => none }
def HistOrderWrongFalsely : Prop := histOrderRow.holds Try.pinned (OpenSpec.ofChange histOrderWrong)

/-- 'scantlinglaw16.TierFlush': WHATEVER THE INPUT: true; the input reads as it did. -/
def tierFlushSpec : ChangeSpec := { name := "tierFlush", fn := fun _ => fun
  | [d1, d2] => { results := [.lit (.bool true)], args := [d1, d2] }
  | _ => none }
def tierFlushRow : OpenClaim := { program := "ytbafepjmogigjaa", sum := "0d407a61b9922aaa3b0e748a45dc994744e0097b1173d1f457992da59412f1d5", func := "scantling/scantlinglaw16.TierFlush", spec := "tierFlush", inPlace := ["slices.overlaps[*scantling/cell.Cell]", "slices.overlaps[scantling/hist.Item]", "math/bits.Add64"], unfollowed := true, recurses := true, apart := false }
def TierFlushSaid : Prop := tierFlushRow.holds Try.pinned (OpenSpec.ofChange tierFlushSpec)

/-- ITS FALSE NEIGHBOUR: 'it returns false'. Refute it at one input. -/
def tierFlushWrong : ChangeSpec := { name := "tierFlush", fn := fun _ => fun
  | [d1, d2] => { results := [.lit (.bool false)], args := [d1, d2] }
  | _ => none }
def TierFlushWrongFalsely : Prop := tierFlushRow.holds Try.pinned (OpenSpec.ofChange tierFlushWrong)

/-- 'scantlinglaw16.TierStart': WHATEVER THE INPUT: true; the input reads as it did. -/
def tierStartSpec : ChangeSpec := { name := "tierStart", fn := fun _ => fun
  | [d1, d2] => { results := [.lit (.bool true)], args := [d1, d2] }
  | _ => none }
def tierStartRow : OpenClaim := { program := "ytbafepjmogigjaa", sum := "0d407a61b9922aaa3b0e748a45dc994744e0097b1173d1f457992da59412f1d5", func := "scantling/scantlinglaw16.TierStart", spec := "tierStart", inPlace := ["slices.overlaps[*scantling/cell.Cell]", "slices.overlaps[scantling/hist.Item]", "math/bits.Add64"], unfollowed := true, recurses := true, apart := false }
def TierStartSaid : Prop := tierStartRow.holds Try.pinned (OpenSpec.ofChange tierStartSpec)

/-- ITS FALSE NEIGHBOUR: 'it returns false'. Refute it at one input. -/
def tierStartWrong : ChangeSpec := { name := "tierStart", fn := fun _ => fun
  | [d1, d2] => { results := [.lit (.bool false)], args := [d1, d2] }
  | _ => none }
def TierStartWrongFalsely : Prop := tierStartRow.holds Try.pinned (OpenSpec.ofChange tierStartWrong)

/-- 'scantlinglaw16.TierTimes': WHATEVER THE INPUT: true; the input reads as it did. -/
def tierTimesSpec : ChangeSpec := { name := "tierTimes", fn := fun _ => fun
  | [d1, d2, d3, d4] => { results := [.lit (.bool true)], args := [d1, d2, d3, d4] }
  | _ => none }
def tierTimesRow : OpenClaim := { program := "ytbafepjmogigjaa", sum := "0d407a61b9922aaa3b0e748a45dc994744e0097b1173d1f457992da59412f1d5", func := "scantling/scantlinglaw16.TierTimes", spec := "tierTimes", inPlace := ["slices.overlaps[*scantling/cell.Cell]", "slices.overlaps[scantling/hist.Item]", "math/bits.Add64"], unfollowed := true, recurses := true, apart := false }
def TierTimesSaid : Prop := tierTimesRow.holds Try.pinned (OpenSpec.ofChange tierTimesSpec)

/-- ITS FALSE NEIGHBOUR: 'it returns false'. Refute it at one input. -/
def tierTimesWrong : ChangeSpec := { name := "tierTimes", fn := fun _ => fun
  | [d1, d2, d3, d4] => { results := [.lit (.bool false)], args := [d1, d2, d3, d4] }
  | _ => none }
def TierTimesWrongFalsely : Prop := tierTimesRow.holds Try.pinned (OpenSpec.ofChange tierTimesWrong)

/-- 'scantlinglaw16.TierWhole': WHATEVER THE INPUT: true; the input reads as it did. -/
def tierWholeSpec : ChangeSpec := { name := "tierWhole", fn := fun _ => fun
  | [d1, d2, d3] => { results := [.lit (.bool true)], args := [d1, d2, d3] }
  | _ => none }
def tierWholeRow : OpenClaim := { program := "ytbafepjmogigjaa", sum := "0d407a61b9922aaa3b0e748a45dc994744e0097b1173d1f457992da59412f1d5", func := "scantling/scantlinglaw16.TierWhole", spec := "tierWhole", inPlace := ["slices.overlaps[*scantling/cell.Cell]", "slices.overlaps[scantling/hist.Item]", "math/bits.Add64"], unfollowed := true, recurses := true, apart := false }
def TierWholeSaid : Prop := tierWholeRow.holds Try.pinned (OpenSpec.ofChange tierWholeSpec)

/-- ITS FALSE NEIGHBOUR: 'it returns false'. Refute it at one input. -/
def tierWholeWrong : ChangeSpec := { name := "tierWhole", fn := fun _ => fun
  | [d1, d2, d3] => { results := [.lit (.bool false)], args := [d1, d2, d3] }
  | _ => none }
def TierWholeWrongFalsely : Prop := tierWholeRow.holds Try.pinned (OpenSpec.ofChange tierWholeWrong)

/-- 'scantlinglaw15.CellGets': WHATEVER THE INPUT: true; the input reads as it did. -/
def cellGetsSpec : ChangeSpec := { name := "cellGets", fn := fun _ => fun
  | [d1, d2, d3, d4, d5, d6, d7] => { results := [.lit (.bool true)], args := [d1, d2, d3, d4, d5, d6, d7] }
  | _ => none }
def cellGetsRow : OpenClaim := { program := "ytbafepjmogigjaa", sum := "0d407a61b9922aaa3b0e748a45dc994744e0097b1173d1f457992da59412f1d5", func := "scantling/scantlinglaw15.CellGets", spec := "cellGets", inPlace := ["slices.overlaps[scantling/hist.Item]", "math/bits.Add64", "math/bits.Sub64"], unfollowed := true, recurses := true, named := ["math/bits.divideError", "math/bits.overflowError"], apart := false }
def CellGetsSaid : Prop := cellGetsRow.holds Try.pinned (OpenSpec.ofChange cellGetsSpec)

/-- ITS FALSE NEIGHBOUR: 'it returns false'. Refute it at one input. -/
def cellGetsWrong : ChangeSpec := { name := "cellGets", fn := fun _ => fun
  | [d1, d2, d3, d4, d5, d6, d7] => { results := [.lit (.bool false)], args := [d1, d2, d3, d4, d5, d6, d7] }
  | _ => none }
def CellGetsWrongFalsely : Prop := cellGetsRow.holds Try.pinned (OpenSpec.ofChange cellGetsWrong)

/-- 'scantlinglaw15.CellFalse': WHATEVER THE INPUT: true; the input reads as it did. -/
def cellFalseSpec : ChangeSpec := { name := "cellFalse", fn := fun _ => fun
  | [d1, d2, d3, d4, d5] => { results := [.lit (.bool true)], args := [d1, d2, d3, d4, d5] }
  | _ => none }
def cellFalseRow : OpenClaim := { program := "ytbafepjmogigjaa", sum := "0d407a61b9922aaa3b0e748a45dc994744e0097b1173d1f457992da59412f1d5", func := "scantling/scantlinglaw15.CellFalse", spec := "cellFalse", inPlace := ["slices.overlaps[scantling/hist.Item]", "math/bits.Add64", "math/bits.Sub64"], unfollowed := true, recurses := true, named := ["math/bits.divideError", "math/bits.overflowError"], apart := false }
def CellFalseSaid : Prop := cellFalseRow.holds Try.pinned (OpenSpec.ofChange cellFalseSpec)

/-- ITS FALSE NEIGHBOUR: 'it returns false'. Refute it at one input. -/
def cellFalseWrong : ChangeSpec := { name := "cellFalse", fn := fun _ => fun
  | [d1, d2, d3, d4, d5] => { results := [.lit (.bool false)], args := [d1, d2, d3, d4, d5] }
  | _ => none }
def CellFalseWrongFalsely : Prop := cellFalseRow.holds Try.pinned (OpenSpec.ofChange cellFalseWrong)

/-- 'scantlinglaw15.CellBack': WHATEVER THE INPUT: true; the input reads as it did. -/
def cellBackSpec : ChangeSpec := { name := "cellBack", fn := fun _ => fun
  | [d1, d2, d3, d4, d5] => { results := [.lit (.bool true)], args := [d1, d2, d3, d4, d5] }
  | _ => none }
def cellBackRow : OpenClaim := { program := "ytbafepjmogigjaa", sum := "0d407a61b9922aaa3b0e748a45dc994744e0097b1173d1f457992da59412f1d5", func := "scantling/scantlinglaw15.CellBack", spec := "cellBack", inPlace := ["slices.overlaps[scantling/hist.Item]", "math/bits.Add64", "math/bits.Sub64"], unfollowed := true, recurses := true, named := ["math/bits.divideError", "math/bits.overflowError"], apart := false }
def CellBackSaid : Prop := cellBackRow.holds Try.pinned (OpenSpec.ofChange cellBackSpec)

/-- ITS FALSE NEIGHBOUR: 'it returns false'. Refute it at one input. -/
def cellBackWrong : ChangeSpec := { name := "cellBack", fn := fun _ => fun
  | [d1, d2, d3, d4, d5] => { results := [.lit (.bool false)], args := [d1, d2, d3, d4, d5] }
  | _ => none }
def CellBackWrongFalsely : Prop := cellBackRow.holds Try.pinned (OpenSpec.ofChange cellBackWrong)

/-- 'scantlinglaw15.CellOrder': WHATEVER THE INPUT: true; the input reads as it did. -/
def cellOrderSpec : ChangeSpec := { name := "cellOrder", fn := fun _ => fun
  | [d1, d2, d3] => { results := [.lit (.bool true)], args := [d1, d2, d3] }
  | _ => none }
def cellOrderRow : OpenClaim := { program := "ytbafepjmogigjaa", sum := "0d407a61b9922aaa3b0e748a45dc994744e0097b1173d1f457992da59412f1d5", func := "scantling/scantlinglaw15.CellOrder", spec := "cellOrder", inPlace := ["slices.overlaps[scantling/hist.Item]", "math/bits.Add64", "math/bits.Sub64"], unfollowed := true, recurses := true, named := ["math/bits.divideError", "math/bits.overflowError"], apart := false }
def CellOrderSaid : Prop := cellOrderRow.holds Try.pinned (OpenSpec.ofChange cellOrderSpec)

/-- ITS FALSE NEIGHBOUR: 'it returns false'. Refute it at one input. -/
def cellOrderWrong : ChangeSpec := { name := "cellOrder", fn := fun _ => fun
  | [d1, d2, d3] => { results := [.lit (.bool false)], args := [d1, d2, d3] }
  | _ => none }
def CellOrderWrongFalsely : Prop := cellOrderRow.holds Try.pinned (OpenSpec.ofChange cellOrderWrong)

/-- 'scantlinglaw15.CellPlays': WHATEVER THE INPUT: true; the input reads as it did. -/
def cellPlaysSpec : ChangeSpec := { name := "cellPlays", fn := fun _ => fun
  | [d1, d2, d3, d4, d5] => { results := [.lit (.bool true)], args := [d1, d2, d3, d4, d5] }
  | _ => none }
def cellPlaysRow : OpenClaim := { program := "ytbafepjmogigjaa", sum := "0d407a61b9922aaa3b0e748a45dc994744e0097b1173d1f457992da59412f1d5", func := "scantling/scantlinglaw15.CellPlays", spec := "cellPlays", inPlace := ["slices.overlaps[scantling/hist.Item]", "math/bits.Add64", "math/bits.Sub64"], unfollowed := true, recurses := true, named := ["math/bits.divideError", "math/bits.overflowError"], apart := false }
def CellPlaysSaid : Prop := cellPlaysRow.holds Try.pinned (OpenSpec.ofChange cellPlaysSpec)

/-- ITS FALSE NEIGHBOUR: 'it returns false'. Refute it at one input. -/
def cellPlaysWrong : ChangeSpec := { name := "cellPlays", fn := fun _ => fun
  | [d1, d2, d3, d4, d5] => { results := [.lit (.bool false)], args := [d1, d2, d3, d4, d5] }
  | _ => none }
def CellPlaysWrongFalsely : Prop := cellPlaysRow.holds Try.pinned (OpenSpec.ofChange cellPlaysWrong)

/-- 'scantlinglaw15.CellMoves': WHATEVER THE INPUT: true; the input reads as it did. -/
def cellMovesSpec : ChangeSpec := { name := "cellMoves", fn := fun _ => fun
  | [d1, d2, d3, d4, d5] => { results := [.lit (.bool true)], args := [d1, d2, d3, d4, d5] }
  | _ => none }
def cellMovesRow : OpenClaim := { program := "ytbafepjmogigjaa", sum := "0d407a61b9922aaa3b0e748a45dc994744e0097b1173d1f457992da59412f1d5", func := "scantling/scantlinglaw15.CellMoves", spec := "cellMoves", inPlace := ["slices.overlaps[scantling/hist.Item]", "math/bits.Add64", "math/bits.Sub64"], unfollowed := true, recurses := true, named := ["math/bits.divideError", "math/bits.overflowError"], apart := false }
def CellMovesSaid : Prop := cellMovesRow.holds Try.pinned (OpenSpec.ofChange cellMovesSpec)

/-- ITS FALSE NEIGHBOUR: 'it returns false'. Refute it at one input. -/
def cellMovesWrong : ChangeSpec := { name := "cellMoves", fn := fun _ => fun
  | [d1, d2, d3, d4, d5] => { results := [.lit (.bool false)], args := [d1, d2, d3, d4, d5] }
  | _ => none }
def CellMovesWrongFalsely : Prop := cellMovesRow.holds Try.pinned (OpenSpec.ofChange cellMovesWrong)

/-- 'scantlinglaw16.TierBack': WHATEVER THE INPUT: true; the input reads as it did. -/
def tierBackSpec : ChangeSpec := { name := "tierBack", fn := fun _ => fun
  | [d1, d2, d3, d4] => { results := [.lit (.bool true)], args := [d1, d2, d3, d4] }
  | _ => none }
def tierBackRow : OpenClaim := { program := "ytbafepjmogigjaa", sum := "0d407a61b9922aaa3b0e748a45dc994744e0097b1173d1f457992da59412f1d5", func := "scantling/scantlinglaw16.TierBack", spec := "tierBack", inPlace := ["slices.overlaps[*scantling/cell.Cell]", "slices.overlaps[scantling/hist.Item]", "math/bits.Add64", "math/bits.Sub64"], unfollowed := true, recurses := true, apart := false }
def TierBackSaid : Prop := tierBackRow.holds Try.pinned (OpenSpec.ofChange tierBackSpec)

/-- ITS FALSE NEIGHBOUR: 'it returns false'. Refute it at one input. -/
def tierBackWrong : ChangeSpec := { name := "tierBack", fn := fun _ => fun
  | [d1, d2, d3, d4] => { results := [.lit (.bool false)], args := [d1, d2, d3, d4] }
  | _ => none }
def TierBackWrongFalsely : Prop := tierBackRow.holds Try.pinned (OpenSpec.ofChange tierBackWrong)

/- THE SECOND FORM. 'bulk': how many values and letters a reading holds, each counted each time it is reached (what is shared counts as often as it is met; a slice's spare places count too). A statement '..UptoSaid' is the law's where the arguments, and the package variables that the reading takes, are together of bulk at most 1048576: NARROWER than '..Said'. Prove '..Said' where nothing that the law and all that it calls make is longer than what came in: it says more and counts as full. Else prove '..UptoSaid'. A law counts once. -/
mutual
def uptoBulk {H : Type} : DataW H → Nat
  | .lit (.string bytes) => bytes.length + 1
  | .lit _ => 1
  | .nil => 1
  | .ptr d => uptoBulk d + 1
  | .slice elems spare => uptoBulkAll elems + uptoBulkAll spare + 1
  | .agg parts => uptoBulkAll parts + 1
  | .iface _ d => uptoBulk d + 1
  | .map entries => uptoBulkEntries entries + 1
  | .held _ => 1
def uptoBulkAll {H : Type} : List (DataW H) → Nat
  | [] => 0
  | d :: r => uptoBulk d + uptoBulkAll r
def uptoBulkEntries {H : Type} : List (Lit × DataW H) → Nat
  | [] => 0
  | x :: r => uptoBulkEntry x + uptoBulkEntries r
def uptoBulkEntry {H : Type} : Lit × DataW H → Nat
  | (.string bytes, d) => bytes.length + uptoBulk d + 1
  | (_, d) => uptoBulk d + 1
 end
def uptoSmall : (H : Type) → List (DataW H) → Bool := fun _ ds => decide (uptoBulkAll ds ≤ 1048576)
def OpenSpec.upto (s : _root_.Go.ChangeSpec) : _root_.Go.OpenSpec := { _root_.Go.OpenSpec.ofChange s with cond := some uptoSmall }

/-- 'scantlinglaw06.HistCount', WHERE WHAT IT READS IS OF BULK AT MOST 1048576: true; the input reads as it did. -/
def histCountUptoRow : OpenClaim := { program := "ytbafepjmogigjaa", sum := "0d407a61b9922aaa3b0e748a45dc994744e0097b1173d1f457992da59412f1d5", func := "scantling/scantlinglaw06.HistCount", spec := "histCount", inPlace := ["slices.overlaps[scantling/hist.Item]"], unfollowed := true, recurses := true, apart := false, narrowed := true }
def HistCountUptoSaid : Prop := histCountUptoRow.holds Try.pinned (OpenSpec.upto histCountSpec)

/-- 'scantlinglaw06.HistPlays', WHERE WHAT IT READS IS OF BULK AT MOST 1048576: true; the input reads as it did. -/
def histPlaysUptoRow : OpenClaim := { program := "ytbafepjmogigjaa", sum := "0d407a61b9922aaa3b0e748a45dc994744e0097b1173d1f457992da59412f1d5", func := "scantling/scantlinglaw06.HistPlays", spec := "histPlays", inPlace := ["slices.overlaps[scantling/hist.Item]"], unfollowed := true, recurses := true, apart := false, narrowed := true }
def HistPlaysUptoSaid : Prop := histPlaysUptoRow.holds Try.pinned (OpenSpec.upto histPlaysSpec)

/-- 'scantlinglaw06.HistOrder', WHERE WHAT IT READS IS OF BULK AT MOST 1048576: true; the input reads as it did. -/
def histOrderUptoRow : OpenClaim := { program := "ytbafepjmogigjaa", sum := "0d407a61b9922aaa3b0e748a45dc994744e0097b1173d1f457992da59412f1d5", func := "scantling/scantlinglaw06.HistOrder", spec := "histOrder", inPlace := ["slices.overlaps[scantling/hist.Item]"], unfollowed := true, recurses := true, apart := false, narrowed := true }
def HistOrderUptoSaid : Prop := histOrderUptoRow.holds Try.pinned (OpenSpec.upto histOrderSpec)

/-- 'scantlinglaw16.TierFlush', WHERE WHAT IT READS IS OF BULK AT MOST 1048576: true; the input reads as it did. -/
def tierFlushUptoRow : OpenClaim := { program := "ytbafepjmogigjaa", sum := "0d407a61b9922aaa3b0e748a45dc994744e0097b1173d1f457992da59412f1d5", func := "scantling/scantlinglaw16.TierFlush", spec := "tierFlush", inPlace := ["slices.overlaps[*scantling/cell.Cell]", "slices.overlaps[scantling/hist.Item]", "math/bits.Add64"], unfollowed := true, recurses := true, apart := false, narrowed := true }
def TierFlushUptoSaid : Prop := tierFlushUptoRow.holds Try.pinned (OpenSpec.upto tierFlushSpec)

/-- 'scantlinglaw16.TierStart', WHERE WHAT IT READS IS OF BULK AT MOST 1048576: true; the input reads as it did. -/
def tierStartUptoRow : OpenClaim := { program := "ytbafepjmogigjaa", sum := "0d407a61b9922aaa3b0e748a45dc994744e0097b1173d1f457992da59412f1d5", func := "scantling/scantlinglaw16.TierStart", spec := "tierStart", inPlace := ["slices.overlaps[*scantling/cell.Cell]", "slices.overlaps[scantling/hist.Item]", "math/bits.Add64"], unfollowed := true, recurses := true, apart := false, narrowed := true }
def TierStartUptoSaid : Prop := tierStartUptoRow.holds Try.pinned (OpenSpec.upto tierStartSpec)

/-- 'scantlinglaw16.TierTimes', WHERE WHAT IT READS IS OF BULK AT MOST 1048576: true; the input reads as it did. -/
def tierTimesUptoRow : OpenClaim := { program := "ytbafepjmogigjaa", sum := "0d407a61b9922aaa3b0e748a45dc994744e0097b1173d1f457992da59412f1d5", func := "scantling/scantlinglaw16.TierTimes", spec := "tierTimes", inPlace := ["slices.overlaps[*scantling/cell.Cell]", "slices.overlaps[scantling/hist.Item]", "math/bits.Add64"], unfollowed := true, recurses := true, apart := false, narrowed := true }
def TierTimesUptoSaid : Prop := tierTimesUptoRow.holds Try.pinned (OpenSpec.upto tierTimesSpec)

/-- 'scantlinglaw16.TierWhole', WHERE WHAT IT READS IS OF BULK AT MOST 1048576: true; the input reads as it did. -/
def tierWholeUptoRow : OpenClaim := { program := "ytbafepjmogigjaa", sum := "0d407a61b9922aaa3b0e748a45dc994744e0097b1173d1f457992da59412f1d5", func := "scantling/scantlinglaw16.TierWhole", spec := "tierWhole", inPlace := ["slices.overlaps[*scantling/cell.Cell]", "slices.overlaps[scantling/hist.Item]", "math/bits.Add64"], unfollowed := true, recurses := true, apart := false, narrowed := true }
def TierWholeUptoSaid : Prop := tierWholeUptoRow.holds Try.pinned (OpenSpec.upto tierWholeSpec)

/-- 'scantlinglaw15.CellGets', WHERE WHAT IT READS IS OF BULK AT MOST 1048576: true; the input reads as it did. -/
def cellGetsUptoRow : OpenClaim := { program := "ytbafepjmogigjaa", sum := "0d407a61b9922aaa3b0e748a45dc994744e0097b1173d1f457992da59412f1d5", func := "scantling/scantlinglaw15.CellGets", spec := "cellGets", inPlace := ["slices.overlaps[scantling/hist.Item]", "math/bits.Add64", "math/bits.Sub64"], unfollowed := true, recurses := true, named := ["math/bits.divideError", "math/bits.overflowError"], apart := false, narrowed := true }
def CellGetsUptoSaid : Prop := cellGetsUptoRow.holds Try.pinned (OpenSpec.upto cellGetsSpec)

/-- 'scantlinglaw15.CellFalse', WHERE WHAT IT READS IS OF BULK AT MOST 1048576: true; the input reads as it did. -/
def cellFalseUptoRow : OpenClaim := { program := "ytbafepjmogigjaa", sum := "0d407a61b9922aaa3b0e748a45dc994744e0097b1173d1f457992da59412f1d5", func := "scantling/scantlinglaw15.CellFalse", spec := "cellFalse", inPlace := ["slices.overlaps[scantling/hist.Item]", "math/bits.Add64", "math/bits.Sub64"], unfollowed := true, recurses := true, named := ["math/bits.divideError", "math/bits.overflowError"], apart := false, narrowed := true }
def CellFalseUptoSaid : Prop := cellFalseUptoRow.holds Try.pinned (OpenSpec.upto cellFalseSpec)

/-- 'scantlinglaw15.CellBack', WHERE WHAT IT READS IS OF BULK AT MOST 1048576: true; the input reads as it did. -/
def cellBackUptoRow : OpenClaim := { program := "ytbafepjmogigjaa", sum := "0d407a61b9922aaa3b0e748a45dc994744e0097b1173d1f457992da59412f1d5", func := "scantling/scantlinglaw15.CellBack", spec := "cellBack", inPlace := ["slices.overlaps[scantling/hist.Item]", "math/bits.Add64", "math/bits.Sub64"], unfollowed := true, recurses := true, named := ["math/bits.divideError", "math/bits.overflowError"], apart := false, narrowed := true }
def CellBackUptoSaid : Prop := cellBackUptoRow.holds Try.pinned (OpenSpec.upto cellBackSpec)

/-- 'scantlinglaw15.CellOrder', WHERE WHAT IT READS IS OF BULK AT MOST 1048576: true; the input reads as it did. -/
def cellOrderUptoRow : OpenClaim := { program := "ytbafepjmogigjaa", sum := "0d407a61b9922aaa3b0e748a45dc994744e0097b1173d1f457992da59412f1d5", func := "scantling/scantlinglaw15.CellOrder", spec := "cellOrder", inPlace := ["slices.overlaps[scantling/hist.Item]", "math/bits.Add64", "math/bits.Sub64"], unfollowed := true, recurses := true, named := ["math/bits.divideError", "math/bits.overflowError"], apart := false, narrowed := true }
def CellOrderUptoSaid : Prop := cellOrderUptoRow.holds Try.pinned (OpenSpec.upto cellOrderSpec)

/-- 'scantlinglaw15.CellPlays', WHERE WHAT IT READS IS OF BULK AT MOST 1048576: true; the input reads as it did. -/
def cellPlaysUptoRow : OpenClaim := { program := "ytbafepjmogigjaa", sum := "0d407a61b9922aaa3b0e748a45dc994744e0097b1173d1f457992da59412f1d5", func := "scantling/scantlinglaw15.CellPlays", spec := "cellPlays", inPlace := ["slices.overlaps[scantling/hist.Item]", "math/bits.Add64", "math/bits.Sub64"], unfollowed := true, recurses := true, named := ["math/bits.divideError", "math/bits.overflowError"], apart := false, narrowed := true }
def CellPlaysUptoSaid : Prop := cellPlaysUptoRow.holds Try.pinned (OpenSpec.upto cellPlaysSpec)

/-- 'scantlinglaw15.CellMoves', WHERE WHAT IT READS IS OF BULK AT MOST 1048576: true; the input reads as it did. -/
def cellMovesUptoRow : OpenClaim := { program := "ytbafepjmogigjaa", sum := "0d407a61b9922aaa3b0e748a45dc994744e0097b1173d1f457992da59412f1d5", func := "scantling/scantlinglaw15.CellMoves", spec := "cellMoves", inPlace := ["slices.overlaps[scantling/hist.Item]", "math/bits.Add64", "math/bits.Sub64"], unfollowed := true, recurses := true, named := ["math/bits.divideError", "math/bits.overflowError"], apart := false, narrowed := true }
def CellMovesUptoSaid : Prop := cellMovesUptoRow.holds Try.pinned (OpenSpec.upto cellMovesSpec)

/-- 'scantlinglaw16.TierBack', WHERE WHAT IT READS IS OF BULK AT MOST 1048576: true; the input reads as it did. -/
def tierBackUptoRow : OpenClaim := { program := "ytbafepjmogigjaa", sum := "0d407a61b9922aaa3b0e748a45dc994744e0097b1173d1f457992da59412f1d5", func := "scantling/scantlinglaw16.TierBack", spec := "tierBack", inPlace := ["slices.overlaps[*scantling/cell.Cell]", "slices.overlaps[scantling/hist.Item]", "math/bits.Add64", "math/bits.Sub64"], unfollowed := true, recurses := true, apart := false, narrowed := true }
def TierBackUptoSaid : Prop := tierBackUptoRow.holds Try.pinned (OpenSpec.upto tierBackSpec)

end Rows
end Go.Proofs.Ytbafepjmogigjaa
