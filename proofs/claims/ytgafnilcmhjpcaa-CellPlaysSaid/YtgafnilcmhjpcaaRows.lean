/-
  No cell of these rows narrows 'for every input' (looked for: loops, veiled, ifaces, maps, wideKeys, modest, calm, conditions, laid).
  DERIVED. THE GIVEN ROWS OF THIS SEAT. 6 by the template 'for every input the law returns true; each argument reads behind the call as it read before'; 0 by the template 'total and deterministic' (their statements: YtgafnilcmhjpcaaTotals.lean).
  GIVEN WITH THE SEED: the statements are not yours to turn. If you find one false, say at which input.
  Laid BY PROGRAM, IN A SANDBOX (cutbox-rows.mjs): the forced cells as the released guide's own fill.sh prints them over the translation b9cb106914a2ebfb… (all of the seat's roots in one cut). By AI agents, Wed Nov 11 2026. No macro, syntax, notation, axiom, sorry.
-/
import Derived.Test.YtgafnilcmhjpcaaChecked
import GoSem.Claim
import GoSem.ClaimJoined
import GoSem.ClaimMapViews
import Derived.JoinedTies
import Derived.KernelRfl
namespace Go.Proofs.Ytgafnilcmhjpcaa
/- THE CELL 'sum', in the pinned program and in every row, IS THE sha256 OF THE DUMP (.gsa) THAT YtgafnilcmhjpcaaProg.lean LOADS. Nothing in Lean hashes anything: it is a label: what it is worth is what the hold of that sum in a sandbox is worth. -/
noncomputable def Try.pinned : Pinned := { name := "ytgafnilcmhjpcaa", sum := "b9cb106914a2ebfbac1dda91ee2113d5191804ea19c9bc32ed6c9e8c12ae4c09", checked := Try.checked }
namespace Rows
def none {H : Type} : Left H := { results := [], args := [] }

/-- 'scantlinglaw15.CellGets': WHATEVER THE INPUT: true; the input reads as it did. -/
def cellGetsSpec : ChangeSpec := { name := "cellGets", fn := fun _ => fun
  | [d1, d2, d3, d4, d5, d6, d7] => { results := [.lit (.bool true)], args := [d1, d2, d3, d4, d5, d6, d7] }
  | _ => none }
def cellGetsRow : OpenClaim := { program := "ytgafnilcmhjpcaa", sum := "b9cb106914a2ebfbac1dda91ee2113d5191804ea19c9bc32ed6c9e8c12ae4c09", func := "scantling/scantlinglaw15.CellGets", spec := "cellGets", inPlace := ["slices.overlaps[scantling/hist.Item]", "math/bits.Add64", "math/bits.Sub64"], unfollowed := true, recurses := true, named := ["math/bits.divideError", "math/bits.overflowError"], apart := false }
def CellGetsSaid : Prop := cellGetsRow.holds Try.pinned (OpenSpec.ofChange cellGetsSpec)

/-- ITS FALSE NEIGHBOUR: 'it returns false'. Refute it at one input. -/
def cellGetsWrong : ChangeSpec := { name := "cellGets", fn := fun _ => fun
  | [d1, d2, d3, d4, d5, d6, d7] => { results := [.lit (.bool false)], args := [d1, d2, d3, d4, d5, d6, d7] }
  | _ => none }
def CellGetsWrongFalsely : Prop := cellGetsRow.holds Try.pinned (OpenSpec.ofChange cellGetsWrong)

/-- 'scantlinglaw15.CellFalse': WHATEVER THE INPUT: true; the input reads as it did. -/
def cellFalseSpec : ChangeSpec := { name := "cellFalse", fn := fun _ => fun
  | [d1, d2, d3, d4, d5] => { results := [.lit (.bool true)], args := [d1, d2, d3, d4, d5] }
  | _ => none }
def cellFalseRow : OpenClaim := { program := "ytgafnilcmhjpcaa", sum := "b9cb106914a2ebfbac1dda91ee2113d5191804ea19c9bc32ed6c9e8c12ae4c09", func := "scantling/scantlinglaw15.CellFalse", spec := "cellFalse", inPlace := ["slices.overlaps[scantling/hist.Item]", "math/bits.Add64", "math/bits.Sub64"], unfollowed := true, recurses := true, named := ["math/bits.divideError", "math/bits.overflowError"], apart := false }
def CellFalseSaid : Prop := cellFalseRow.holds Try.pinned (OpenSpec.ofChange cellFalseSpec)

/-- ITS FALSE NEIGHBOUR: 'it returns false'. Refute it at one input. -/
def cellFalseWrong : ChangeSpec := { name := "cellFalse", fn := fun _ => fun
  | [d1, d2, d3, d4, d5] => { results := [.lit (.bool false)], args := [d1, d2, d3, d4, d5] }
  | _ => none }
def CellFalseWrongFalsely : Prop := cellFalseRow.holds Try.pinned (OpenSpec.ofChange cellFalseWrong)

/-- 'scantlinglaw15.CellBack': WHATEVER THE INPUT: true; the input reads as it did. -/
def cellBackSpec : ChangeSpec := { name := "cellBack", fn := fun _ => fun
  | [d1, d2, d3, d4, d5] => { results := [.lit (.bool true)], args := [d1, d2, d3, d4, d5] }
  | _ => none }
def cellBackRow : OpenClaim := { program := "ytgafnilcmhjpcaa", sum := "b9cb106914a2ebfbac1dda91ee2113d5191804ea19c9bc32ed6c9e8c12ae4c09", func := "scantling/scantlinglaw15.CellBack", spec := "cellBack", inPlace := ["slices.overlaps[scantling/hist.Item]", "math/bits.Add64", "math/bits.Sub64"], unfollowed := true, recurses := true, named := ["math/bits.divideError", "math/bits.overflowError"], apart := false }
def CellBackSaid : Prop := cellBackRow.holds Try.pinned (OpenSpec.ofChange cellBackSpec)

/-- ITS FALSE NEIGHBOUR: 'it returns false'. Refute it at one input. -/
def cellBackWrong : ChangeSpec := { name := "cellBack", fn := fun _ => fun
  | [d1, d2, d3, d4, d5] => { results := [.lit (.bool false)], args := [d1, d2, d3, d4, d5] }
  | _ => none }
def CellBackWrongFalsely : Prop := cellBackRow.holds Try.pinned (OpenSpec.ofChange cellBackWrong)

/-- 'scantlinglaw15.CellOrder': WHATEVER THE INPUT: true; the input reads as it did. -/
def cellOrderSpec : ChangeSpec := { name := "cellOrder", fn := fun _ => fun
  | [d1, d2, d3] => { results := [.lit (.bool true)], args := [d1, d2, d3] }
  | _ => none }
def cellOrderRow : OpenClaim := { program := "ytgafnilcmhjpcaa", sum := "b9cb106914a2ebfbac1dda91ee2113d5191804ea19c9bc32ed6c9e8c12ae4c09", func := "scantling/scantlinglaw15.CellOrder", spec := "cellOrder", inPlace := ["slices.overlaps[scantling/hist.Item]", "math/bits.Add64", "math/bits.Sub64"], unfollowed := true, recurses := true, named := ["math/bits.divideError", "math/bits.overflowError"], apart := false }
def CellOrderSaid : Prop := cellOrderRow.holds Try.pinned (OpenSpec.ofChange cellOrderSpec)

/-- ITS FALSE NEIGHBOUR: 'it returns false'. Refute it at one input. -/
def cellOrderWrong : ChangeSpec := { name := "cellOrder", fn := fun _ => fun
  | [d1, d2, d3] => { results := [.lit (.bool false)], args := [d1, d2, d3] }
  | _ => none }
def CellOrderWrongFalsely : Prop := cellOrderRow.holds Try.pinned (OpenSpec.ofChange cellOrderWrong)

/-- 'scantlinglaw15.CellPlays': WHATEVER THE INPUT: true; the input reads as it did. -/
def cellPlaysSpec : ChangeSpec := { name := "cellPlays", fn := fun _ => fun
  | [d1, d2, d3, d4, d5] => { results := [.lit (.bool true)], args := [d1, d2, d3, d4, d5] }
  | _ => none }
def cellPlaysRow : OpenClaim := { program := "ytgafnilcmhjpcaa", sum := "b9cb106914a2ebfbac1dda91ee2113d5191804ea19c9bc32ed6c9e8c12ae4c09", func := "scantling/scantlinglaw15.CellPlays", spec := "cellPlays", inPlace := ["slices.overlaps[scantling/hist.Item]", "math/bits.Add64", "math/bits.Sub64"], unfollowed := true, recurses := true, named := ["math/bits.divideError", "math/bits.overflowError"], apart := false }
def CellPlaysSaid : Prop := cellPlaysRow.holds Try.pinned (OpenSpec.ofChange cellPlaysSpec)

/-- ITS FALSE NEIGHBOUR: 'it returns false'. Refute it at one input. -/
def cellPlaysWrong : ChangeSpec := { name := "cellPlays", fn := fun _ => fun
  | [d1, d2, d3, d4, d5] => { results := [.lit (.bool false)], args := [d1, d2, d3, d4, d5] }
  | _ => none }
def CellPlaysWrongFalsely : Prop := cellPlaysRow.holds Try.pinned (OpenSpec.ofChange cellPlaysWrong)

/-- 'scantlinglaw15.CellMoves': WHATEVER THE INPUT: true; the input reads as it did. -/
def cellMovesSpec : ChangeSpec := { name := "cellMoves", fn := fun _ => fun
  | [d1, d2, d3, d4, d5] => { results := [.lit (.bool true)], args := [d1, d2, d3, d4, d5] }
  | _ => none }
def cellMovesRow : OpenClaim := { program := "ytgafnilcmhjpcaa", sum := "b9cb106914a2ebfbac1dda91ee2113d5191804ea19c9bc32ed6c9e8c12ae4c09", func := "scantling/scantlinglaw15.CellMoves", spec := "cellMoves", inPlace := ["slices.overlaps[scantling/hist.Item]", "math/bits.Add64", "math/bits.Sub64"], unfollowed := true, recurses := true, named := ["math/bits.divideError", "math/bits.overflowError"], apart := false }
def CellMovesSaid : Prop := cellMovesRow.holds Try.pinned (OpenSpec.ofChange cellMovesSpec)

/-- ITS FALSE NEIGHBOUR: 'it returns false'. Refute it at one input. -/
def cellMovesWrong : ChangeSpec := { name := "cellMoves", fn := fun _ => fun
  | [d1, d2, d3, d4, d5] => { results := [.lit (.bool false)], args := [d1, d2, d3, d4, d5] }
  | _ => none }
def CellMovesWrongFalsely : Prop := cellMovesRow.holds Try.pinned (OpenSpec.ofChange cellMovesWrong)

/- THE SECOND FORM. 'bulk': how many values and letters a reading holds, each counted each time it is reached (what is shared counts as often as it is met; a slice's spare places count too). A statement '..UptoSaid' is the law's where the arguments, and the package variables that the reading takes, are together of bulk at most 1048576: NARROWER than '..Said'. Prove '..Said' where nothing that the law and all that it calls make is longer than what came in: it says more and counts as full. Else prove '..UptoSaid'. A law counts once. -/
mutual
def uptoBulk {H : Type} : DataW H → Nat
  | .lit (.string bytes) => bytes.length + 1
  | .lit _ => 1
  | .nil => 1
  | .ptr d => uptoBulk d + 1
  | .slice elems spare => uptoBulkAll elems + uptoBulkAll spare + 1
  | .agg parts => uptoBulkAll parts + 1
  | .iface _ d => uptoBulk d + 1
  | .map entries => uptoBulkEntries entries + 1
  | .held _ => 1
def uptoBulkAll {H : Type} : List (DataW H) → Nat
  | [] => 0
  | d :: r => uptoBulk d + uptoBulkAll r
def uptoBulkEntries {H : Type} : List (Lit × DataW H) → Nat
  | [] => 0
  | x :: r => uptoBulkEntry x + uptoBulkEntries r
def uptoBulkEntry {H : Type} : Lit × DataW H → Nat
  | (.string bytes, d) => bytes.length + uptoBulk d + 1
  | (_, d) => uptoBulk d + 1
 end
def uptoSmall : (H : Type) → List (DataW H) → Bool := fun _ ds => decide (uptoBulkAll ds ≤ 1048576)
def OpenSpec.upto (s : _root_.Go.ChangeSpec) : _root_.Go.OpenSpec := { _root_.Go.OpenSpec.ofChange s with cond := some uptoSmall }

/-- 'scantlinglaw15.CellGets', WHERE WHAT IT READS IS OF BULK AT MOST 1048576: true; the input reads as it did. -/
def cellGetsUptoRow : OpenClaim := { program := "ytgafnilcmhjpcaa", sum := "b9cb106914a2ebfbac1dda91ee2113d5191804ea19c9bc32ed6c9e8c12ae4c09", func := "scantling/scantlinglaw15.CellGets", spec := "cellGets", inPlace := ["slices.overlaps[scantling/hist.Item]", "math/bits.Add64", "math/bits.Sub64"], unfollowed := true, recurses := true, named := ["math/bits.divideError", "math/bits.overflowError"], apart := false, narrowed := true }
def CellGetsUptoSaid : Prop := cellGetsUptoRow.holds Try.pinned (OpenSpec.upto cellGetsSpec)

/-- 'scantlinglaw15.CellFalse', WHERE WHAT IT READS IS OF BULK AT MOST 1048576: true; the input reads as it did. -/
def cellFalseUptoRow : OpenClaim := { program := "ytgafnilcmhjpcaa", sum := "b9cb106914a2ebfbac1dda91ee2113d5191804ea19c9bc32ed6c9e8c12ae4c09", func := "scantling/scantlinglaw15.CellFalse", spec := "cellFalse", inPlace := ["slices.overlaps[scantling/hist.Item]", "math/bits.Add64", "math/bits.Sub64"], unfollowed := true, recurses := true, named := ["math/bits.divideError", "math/bits.overflowError"], apart := false, narrowed := true }
def CellFalseUptoSaid : Prop := cellFalseUptoRow.holds Try.pinned (OpenSpec.upto cellFalseSpec)

/-- 'scantlinglaw15.CellBack', WHERE WHAT IT READS IS OF BULK AT MOST 1048576: true; the input reads as it did. -/
def cellBackUptoRow : OpenClaim := { program := "ytgafnilcmhjpcaa", sum := "b9cb106914a2ebfbac1dda91ee2113d5191804ea19c9bc32ed6c9e8c12ae4c09", func := "scantling/scantlinglaw15.CellBack", spec := "cellBack", inPlace := ["slices.overlaps[scantling/hist.Item]", "math/bits.Add64", "math/bits.Sub64"], unfollowed := true, recurses := true, named := ["math/bits.divideError", "math/bits.overflowError"], apart := false, narrowed := true }
def CellBackUptoSaid : Prop := cellBackUptoRow.holds Try.pinned (OpenSpec.upto cellBackSpec)

/-- 'scantlinglaw15.CellOrder', WHERE WHAT IT READS IS OF BULK AT MOST 1048576: true; the input reads as it did. -/
def cellOrderUptoRow : OpenClaim := { program := "ytgafnilcmhjpcaa", sum := "b9cb106914a2ebfbac1dda91ee2113d5191804ea19c9bc32ed6c9e8c12ae4c09", func := "scantling/scantlinglaw15.CellOrder", spec := "cellOrder", inPlace := ["slices.overlaps[scantling/hist.Item]", "math/bits.Add64", "math/bits.Sub64"], unfollowed := true, recurses := true, named := ["math/bits.divideError", "math/bits.overflowError"], apart := false, narrowed := true }
def CellOrderUptoSaid : Prop := cellOrderUptoRow.holds Try.pinned (OpenSpec.upto cellOrderSpec)

/-- 'scantlinglaw15.CellPlays', WHERE WHAT IT READS IS OF BULK AT MOST 1048576: true; the input reads as it did. -/
def cellPlaysUptoRow : OpenClaim := { program := "ytgafnilcmhjpcaa", sum := "b9cb106914a2ebfbac1dda91ee2113d5191804ea19c9bc32ed6c9e8c12ae4c09", func := "scantling/scantlinglaw15.CellPlays", spec := "cellPlays", inPlace := ["slices.overlaps[scantling/hist.Item]", "math/bits.Add64", "math/bits.Sub64"], unfollowed := true, recurses := true, named := ["math/bits.divideError", "math/bits.overflowError"], apart := false, narrowed := true }
def CellPlaysUptoSaid : Prop := cellPlaysUptoRow.holds Try.pinned (OpenSpec.upto cellPlaysSpec)

/-- 'scantlinglaw15.CellMoves', WHERE WHAT IT READS IS OF BULK AT MOST 1048576: true; the input reads as it did. -/
def cellMovesUptoRow : OpenClaim := { program := "ytgafnilcmhjpcaa", sum := "b9cb106914a2ebfbac1dda91ee2113d5191804ea19c9bc32ed6c9e8c12ae4c09", func := "scantling/scantlinglaw15.CellMoves", spec := "cellMoves", inPlace := ["slices.overlaps[scantling/hist.Item]", "math/bits.Add64", "math/bits.Sub64"], unfollowed := true, recurses := true, named := ["math/bits.divideError", "math/bits.overflowError"], apart := false, narrowed := true }
def CellMovesUptoSaid : Prop := cellMovesUptoRow.holds Try.pinned (OpenSpec.upto cellMovesSpec)

end Rows
end Go.Proofs.Ytgafnilcmhjpcaa
