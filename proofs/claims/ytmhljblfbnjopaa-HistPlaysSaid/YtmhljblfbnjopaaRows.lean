/-
  No cell of these rows narrows 'for every input' (looked for: loops, veiled, ifaces, maps, wideKeys, modest, calm, conditions, laid).
  DERIVED. THE GIVEN ROWS OF THIS SEAT. 7 by the template 'for every input the law returns true; each argument reads behind the call as it read before'; 0 by the template 'total and deterministic' (their statements: YtmhljblfbnjopaaTotals.lean).
  GIVEN WITH THE SEED: the statements are not yours to turn. If you find one false, say at which input.
  Laid BY PROGRAM, IN A SANDBOX (cutbox-rows.mjs): the forced cells as the released guide's own fill.sh prints them over the translation 8dc5be205b247c5d… (all of the seat's roots in one cut). By AI agents, Wed Nov 11 2026. No macro, syntax, notation, axiom, sorry.
-/
import Derived.Test.YtmhljblfbnjopaaChecked
import GoSem.Claim
import GoSem.ClaimJoined
import GoSem.ClaimMapViews
import Derived.JoinedTies
import Derived.KernelRfl
namespace Go.Proofs.Ytmhljblfbnjopaa
/- THE CELL 'sum', in the pinned program and in every row, IS THE sha256 OF THE DUMP (.gsa) THAT YtmhljblfbnjopaaProg.lean LOADS. Nothing in Lean hashes anything: it is a label: what it is worth is what the hold of that sum in a sandbox is worth. -/
noncomputable def Try.pinned : Pinned := { name := "ytmhljblfbnjopaa", sum := "8dc5be205b247c5dc459284b0a0eb2540d4ce1bae6d325705c0eecd58db6791e", checked := Try.checked }
namespace Rows
def none {H : Type} : Left H := { results := [], args := [] }

/-- 'scantlinglaw06.HistGets': WHATEVER THE INPUT: true; the input reads as it did. -/
def histGetsSpec : ChangeSpec := { name := "histGets", fn := fun _ => fun
  | [d1, d2, d3, d4, d5, d6] => { results := [.lit (.bool true)], args := [d1, d2, d3, d4, d5, d6] }
  | _ => none }
def histGetsRow : OpenClaim := { program := "ytmhljblfbnjopaa", sum := "8dc5be205b247c5dc459284b0a0eb2540d4ce1bae6d325705c0eecd58db6791e", func := "scantling/scantlinglaw06.HistGets", spec := "histGets", inPlace := ["slices.overlaps[scantling/hist.Item]"], unfollowed := true, recurses := true, apart := false }
def HistGetsSaid : Prop := histGetsRow.holds Try.pinned (OpenSpec.ofChange histGetsSpec)

/-- ITS FALSE NEIGHBOUR: 'it returns false'. Refute it at one input. -/
def histGetsWrong : ChangeSpec := { name := "histGets", fn := fun _ => fun
  | [d1, d2, d3, d4, d5, d6] => { results := [.lit (.bool false)], args := [d1, d2, d3, d4, d5, d6] }
  | _ => none }
def HistGetsWrongFalsely : Prop := histGetsRow.holds Try.pinned (OpenSpec.ofChange histGetsWrong)

/-- 'scantlinglaw06.HistRank': WHATEVER THE INPUT: true; the input reads as it did. -/
def histRankSpec : ChangeSpec := { name := "histRank", fn := fun _ => fun
  | [d1, d2, d3, d4] => { results := [.lit (.bool true)], args := [d1, d2, d3, d4] }
  | _ => none }
def histRankRow : OpenClaim := { program := "ytmhljblfbnjopaa", sum := "8dc5be205b247c5dc459284b0a0eb2540d4ce1bae6d325705c0eecd58db6791e", func := "scantling/scantlinglaw06.HistRank", spec := "histRank", inPlace := ["slices.overlaps[scantling/hist.Item]"], unfollowed := true, recurses := true, apart := false }
def HistRankSaid : Prop := histRankRow.holds Try.pinned (OpenSpec.ofChange histRankSpec)

/-- ITS FALSE NEIGHBOUR: 'it returns false'. Refute it at one input. -/
def histRankWrong : ChangeSpec := { name := "histRank", fn := fun _ => fun
  | [d1, d2, d3, d4] => { results := [.lit (.bool false)], args := [d1, d2, d3, d4] }
  | _ => none }
def HistRankWrongFalsely : Prop := histRankRow.holds Try.pinned (OpenSpec.ofChange histRankWrong)

/-- 'scantlinglaw06.HistBack': WHATEVER THE INPUT: true; the input reads as it did. -/
def histBackSpec : ChangeSpec := { name := "histBack", fn := fun _ => fun
  | [d1, d2, d3, d4] => { results := [.lit (.bool true)], args := [d1, d2, d3, d4] }
  | _ => none }
def histBackRow : OpenClaim := { program := "ytmhljblfbnjopaa", sum := "8dc5be205b247c5dc459284b0a0eb2540d4ce1bae6d325705c0eecd58db6791e", func := "scantling/scantlinglaw06.HistBack", spec := "histBack", inPlace := ["slices.overlaps[scantling/hist.Item]"], unfollowed := true, recurses := true, apart := false }
def HistBackSaid : Prop := histBackRow.holds Try.pinned (OpenSpec.ofChange histBackSpec)

/-- ITS FALSE NEIGHBOUR: 'it returns false'. Refute it at one input. -/
def histBackWrong : ChangeSpec := { name := "histBack", fn := fun _ => fun
  | [d1, d2, d3, d4] => { results := [.lit (.bool false)], args := [d1, d2, d3, d4] }
  | _ => none }
def HistBackWrongFalsely : Prop := histBackRow.holds Try.pinned (OpenSpec.ofChange histBackWrong)

/-- 'scantlinglaw06.HistParts': WHATEVER THE INPUT: true; the input reads as it did. -/
def histPartsSpec : ChangeSpec := { name := "histParts", fn := fun _ => fun
  | [d1, d2, d3, d4, d5] => { results := [.lit (.bool true)], args := [d1, d2, d3, d4, d5] }
  | _ => none }
def histPartsRow : OpenClaim := { program := "ytmhljblfbnjopaa", sum := "8dc5be205b247c5dc459284b0a0eb2540d4ce1bae6d325705c0eecd58db6791e", func := "scantling/scantlinglaw06.HistParts", spec := "histParts", inPlace := ["slices.overlaps[scantling/hist.Item]"], unfollowed := true, recurses := true, apart := false }
def HistPartsSaid : Prop := histPartsRow.holds Try.pinned (OpenSpec.ofChange histPartsSpec)

/-- ITS FALSE NEIGHBOUR: 'it returns false'. Refute it at one input. -/
def histPartsWrong : ChangeSpec := { name := "histParts", fn := fun _ => fun
  | [d1, d2, d3, d4, d5] => { results := [.lit (.bool false)], args := [d1, d2, d3, d4, d5] }
  | _ => none }
def HistPartsWrongFalsely : Prop := histPartsRow.holds Try.pinned (OpenSpec.ofChange histPartsWrong)

/-- 'scantlinglaw06.HistCount': WHATEVER THE INPUT: true; the input reads as it did. -/
def histCountSpec : ChangeSpec := { name := "histCount", fn := fun _ => fun
  | [d1, d2, d3] => { results := [.lit (.bool true)], args := [d1, d2, d3] }
  | _ => none }
def histCountRow : OpenClaim := { program := "ytmhljblfbnjopaa", sum := "8dc5be205b247c5dc459284b0a0eb2540d4ce1bae6d325705c0eecd58db6791e", func := "scantling/scantlinglaw06.HistCount", spec := "histCount", inPlace := ["slices.overlaps[scantling/hist.Item]"], unfollowed := true, recurses := true, apart := false }
def HistCountSaid : Prop := histCountRow.holds Try.pinned (OpenSpec.ofChange histCountSpec)

/-- ITS FALSE NEIGHBOUR: 'it returns false'. Refute it at one input. -/
def histCountWrong : ChangeSpec := { name := "histCount", fn := fun _ => fun
  | [d1, d2, d3] => { results := [.lit (.bool false)], args := [d1, d2, d3] }
  | _ => none }
def HistCountWrongFalsely : Prop := histCountRow.holds Try.pinned (OpenSpec.ofChange histCountWrong)

/-- 'scantlinglaw06.HistPlays': WHATEVER THE INPUT: true; the input reads as it did. -/
def histPlaysSpec : ChangeSpec := { name := "histPlays", fn := fun _ => fun
  | [d1, d2, d3, d4, d5, d6] => { results := [.lit (.bool true)], args := [d1, d2, d3, d4, d5, d6] }
  | _ => none }
def histPlaysRow : OpenClaim := { program := "ytmhljblfbnjopaa", sum := "8dc5be205b247c5dc459284b0a0eb2540d4ce1bae6d325705c0eecd58db6791e", func := "scantling/scantlinglaw06.HistPlays", spec := "histPlays", inPlace := ["slices.overlaps[scantling/hist.Item]"], unfollowed := true, recurses := true, apart := false }
def HistPlaysSaid : Prop := histPlaysRow.holds Try.pinned (OpenSpec.ofChange histPlaysSpec)

/-- ITS FALSE NEIGHBOUR: 'it returns false'. Refute it at one input. -/
def histPlaysWrong : ChangeSpec := { name := "histPlays", fn := fun _ => fun
  | [d1, d2, d3, d4, d5, d6] => { results := [.lit (.bool false)], args := [d1, d2, d3, d4, d5, d6] }
  | _ => none }
def HistPlaysWrongFalsely : Prop := histPlaysRow.holds Try.pinned (OpenSpec.ofChange histPlaysWrong)

/-- 'scantlinglaw06.HistOrder': WHATEVER THE INPUT: true; the input reads as it did. -/
def histOrderSpec : ChangeSpec := { name := "histOrder", fn := fun _ => fun
  | [d1, d2, d3] => { results := [.lit (.bool true)], args := [d1, d2, d3] }
  | _ => none }
def histOrderRow : OpenClaim := { program := "ytmhljblfbnjopaa", sum := "8dc5be205b247c5dc459284b0a0eb2540d4ce1bae6d325705c0eecd58db6791e", func := "scantling/scantlinglaw06.HistOrder", spec := "histOrder", inPlace := ["slices.overlaps[scantling/hist.Item]"], unfollowed := true, recurses := true, apart := false }
def HistOrderSaid : Prop := histOrderRow.holds Try.pinned (OpenSpec.ofChange histOrderSpec)

/-- ITS FALSE NEIGHBOUR: 'it returns false'. Refute it at one input. -/
def histOrderWrong : ChangeSpec := { name := "histOrder", fn := fun _ => fun
  | [d1, d2, d3] => { results := [.lit (.bool false)], args := [d1, d2, d3] }
  | _ => none }
def HistOrderWrongFalsely : Prop := histOrderRow.holds Try.pinned (OpenSpec.ofChange histOrderWrong)

/- THE SECOND FORM. 'bulk': how many values and letters a reading holds, each counted each time it is reached (what is shared counts as often as it is met; a slice's spare places count too). A statement '..UptoSaid' is the law's where the arguments, and the package variables that the reading takes, are together of bulk at most 1048576: NARROWER than '..Said'. Prove '..Said' where nothing that the law and all that it calls make is longer than what came in: it says more and counts as full. Else prove '..UptoSaid'. A law counts once. -/
mutual
def uptoBulk {H : Type} : DataW H → Nat
  | .lit (.string bytes) => bytes.length + 1
  | .lit _ => 1
  | .nil => 1
  | .ptr d => uptoBulk d + 1
  | .slice elems spare => uptoBulkAll elems + uptoBulkAll spare + 1
  | .agg parts => uptoBulkAll parts + 1
  | .iface _ d => uptoBulk d + 1
  | .map entries => uptoBulkEntries entries + 1
  | .held _ => 1
def uptoBulkAll {H : Type} : List (DataW H) → Nat
  | [] => 0
  | d :: r => uptoBulk d + uptoBulkAll r
def uptoBulkEntries {H : Type} : List (Lit × DataW H) → Nat
  | [] => 0
  | x :: r => uptoBulkEntry x + uptoBulkEntries r
def uptoBulkEntry {H : Type} : Lit × DataW H → Nat
  | (.string bytes, d) => bytes.length + uptoBulk d + 1
  | (_, d) => uptoBulk d + 1
 end
def uptoSmall : (H : Type) → List (DataW H) → Bool := fun _ ds => decide (uptoBulkAll ds ≤ 1048576)
def OpenSpec.upto (s : _root_.Go.ChangeSpec) : _root_.Go.OpenSpec := { _root_.Go.OpenSpec.ofChange s with cond := some uptoSmall }

/-- 'scantlinglaw06.HistGets', WHERE WHAT IT READS IS OF BULK AT MOST 1048576: true; the input reads as it did. -/
def histGetsUptoRow : OpenClaim := { program := "ytmhljblfbnjopaa", sum := "8dc5be205b247c5dc459284b0a0eb2540d4ce1bae6d325705c0eecd58db6791e", func := "scantling/scantlinglaw06.HistGets", spec := "histGets", inPlace := ["slices.overlaps[scantling/hist.Item]"], unfollowed := true, recurses := true, apart := false, narrowed := true }
def HistGetsUptoSaid : Prop := histGetsUptoRow.holds Try.pinned (OpenSpec.upto histGetsSpec)

/-- 'scantlinglaw06.HistRank', WHERE WHAT IT READS IS OF BULK AT MOST 1048576: true; the input reads as it did. -/
def histRankUptoRow : OpenClaim := { program := "ytmhljblfbnjopaa", sum := "8dc5be205b247c5dc459284b0a0eb2540d4ce1bae6d325705c0eecd58db6791e", func := "scantling/scantlinglaw06.HistRank", spec := "histRank", inPlace := ["slices.overlaps[scantling/hist.Item]"], unfollowed := true, recurses := true, apart := false, narrowed := true }
def HistRankUptoSaid : Prop := histRankUptoRow.holds Try.pinned (OpenSpec.upto histRankSpec)

/-- 'scantlinglaw06.HistBack', WHERE WHAT IT READS IS OF BULK AT MOST 1048576: true; the input reads as it did. -/
def histBackUptoRow : OpenClaim := { program := "ytmhljblfbnjopaa", sum := "8dc5be205b247c5dc459284b0a0eb2540d4ce1bae6d325705c0eecd58db6791e", func := "scantling/scantlinglaw06.HistBack", spec := "histBack", inPlace := ["slices.overlaps[scantling/hist.Item]"], unfollowed := true, recurses := true, apart := false, narrowed := true }
def HistBackUptoSaid : Prop := histBackUptoRow.holds Try.pinned (OpenSpec.upto histBackSpec)

/-- 'scantlinglaw06.HistParts', WHERE WHAT IT READS IS OF BULK AT MOST 1048576: true; the input reads as it did. -/
def histPartsUptoRow : OpenClaim := { program := "ytmhljblfbnjopaa", sum := "8dc5be205b247c5dc459284b0a0eb2540d4ce1bae6d325705c0eecd58db6791e", func := "scantling/scantlinglaw06.HistParts", spec := "histParts", inPlace := ["slices.overlaps[scantling/hist.Item]"], unfollowed := true, recurses := true, apart := false, narrowed := true }
def HistPartsUptoSaid : Prop := histPartsUptoRow.holds Try.pinned (OpenSpec.upto histPartsSpec)

/-- 'scantlinglaw06.HistCount', WHERE WHAT IT READS IS OF BULK AT MOST 1048576: true; the input reads as it did. -/
def histCountUptoRow : OpenClaim := { program := "ytmhljblfbnjopaa", sum := "8dc5be205b247c5dc459284b0a0eb2540d4ce1bae6d325705c0eecd58db6791e", func := "scantling/scantlinglaw06.HistCount", spec := "histCount", inPlace := ["slices.overlaps[scantling/hist.Item]"], unfollowed := true, recurses := true, apart := false, narrowed := true }
def HistCountUptoSaid : Prop := histCountUptoRow.holds Try.pinned (OpenSpec.upto histCountSpec)

/-- 'scantlinglaw06.HistPlays', WHERE WHAT IT READS IS OF BULK AT MOST 1048576: true; the input reads as it did. -/
def histPlaysUptoRow : OpenClaim := { program := "ytmhljblfbnjopaa", sum := "8dc5be205b247c5dc459284b0a0eb2540d4ce1bae6d325705c0eecd58db6791e", func := "scantling/scantlinglaw06.HistPlays", spec := "histPlays", inPlace := ["slices.overlaps[scantling/hist.Item]"], unfollowed := true, recurses := true, apart := false, narrowed := true }
def HistPlaysUptoSaid : Prop := histPlaysUptoRow.holds Try.pinned (OpenSpec.upto histPlaysSpec)

/-- 'scantlinglaw06.HistOrder', WHERE WHAT IT READS IS OF BULK AT MOST 1048576: true; the input reads as it did. -/
def histOrderUptoRow : OpenClaim := { program := "ytmhljblfbnjopaa", sum := "8dc5be205b247c5dc459284b0a0eb2540d4ce1bae6d325705c0eecd58db6791e", func := "scantling/scantlinglaw06.HistOrder", spec := "histOrder", inPlace := ["slices.overlaps[scantling/hist.Item]"], unfollowed := true, recurses := true, apart := false, narrowed := true }
def HistOrderUptoSaid : Prop := histOrderUptoRow.holds Try.pinned (OpenSpec.upto histOrderSpec)

end Rows
end Go.Proofs.Ytmhljblfbnjopaa
