/-
  No cell of these rows narrows 'for every input' (looked for: loops, veiled, ifaces, maps, wideKeys, modest, calm, conditions, laid).
  DERIVED. THE GIVEN ROWS OF THIS SEAT. 4 by the template 'for every input the law returns true; each argument reads behind the call as it read before'; 0 by the template 'total and deterministic' (their statements: YtjlhpnnkhiojfaaTotals.lean).
  GIVEN WITH THE SEED: the statements are not yours to turn. If you find one false, say at which input.
  Laid BY PROGRAM, IN A SANDBOX (cutbox-rows.mjs): the forced cells as the released guide's own fill.sh prints them over the translation 2e2ae5a8099e1fcc… (all of the seat's roots in one cut). By AI agents, Wed Nov 11 2026. No macro, syntax, notation, axiom, sorry.
-/
import Derived.Test.YtjlhpnnkhiojfaaChecked
import GoSem.Claim
import GoSem.ClaimJoined
import GoSem.ClaimMapViews
import Derived.JoinedTies
import Derived.KernelRfl
namespace Go.Proofs.Ytjlhpnnkhiojfaa
/- THE CELL 'sum', in the pinned program and in every row, IS THE sha256 OF THE DUMP (.gsa) THAT YtjlhpnnkhiojfaaProg.lean LOADS. Nothing in Lean hashes anything: it is a label: what it is worth is what the hold of that sum in a sandbox is worth. -/
noncomputable def Try.pinned : Pinned := { name := "ytjlhpnnkhiojfaa", sum := "2e2ae5a8099e1fcc9171b897d957d3ad67976fd62e61f3578d6e1ee546e90665", checked := Try.checked }
namespace Rows
def none {H : Type} : Left H := { results := [], args := [] }

/-- 'scantlinglaw11.SlotChurn': WHATEVER THE INPUT: true; the input reads as it did. -/
def slotChurnSpec : ChangeSpec := { name := "slotChurn", fn := fun _ => fun
  | [d1, d2] => { results := [.lit (.bool true)], args := [d1, d2] }
  | _ => none }
def slotChurnRow : OpenClaim := { program := "ytjlhpnnkhiojfaa", sum := "2e2ae5a8099e1fcc9171b897d957d3ad67976fd62e61f3578d6e1ee546e90665", func := "scantling/scantlinglaw11.SlotChurn", spec := "slotChurn", unfollowed := true, recurses := true, apart := false }
def SlotChurnSaid : Prop := slotChurnRow.holds Try.pinned (OpenSpec.ofChange slotChurnSpec)

/-- ITS FALSE NEIGHBOUR: 'it returns false'. Refute it at one input. -/
def slotChurnWrong : ChangeSpec := { name := "slotChurn", fn := fun _ => fun
  | [d1, d2] => { results := [.lit (.bool false)], args := [d1, d2] }
  | _ => none }
def SlotChurnWrongFalsely : Prop := slotChurnRow.holds Try.pinned (OpenSpec.ofChange slotChurnWrong)

/-- 'scantlinglaw11.SlotLowest': WHATEVER THE INPUT: true; the input reads as it did. -/
def slotLowestSpec : ChangeSpec := { name := "slotLowest", fn := fun _ => fun
  | [d1, d2] => { results := [.lit (.bool true)], args := [d1, d2] }
  | _ => none }
def slotLowestRow : OpenClaim := { program := "ytjlhpnnkhiojfaa", sum := "2e2ae5a8099e1fcc9171b897d957d3ad67976fd62e61f3578d6e1ee546e90665", func := "scantling/scantlinglaw11.SlotLowest", spec := "slotLowest", apart := false }
def SlotLowestSaid : Prop := slotLowestRow.holds Try.pinned (OpenSpec.ofChange slotLowestSpec)

/-- ITS FALSE NEIGHBOUR: 'it returns false'. Refute it at one input. -/
def slotLowestWrong : ChangeSpec := { name := "slotLowest", fn := fun _ => fun
  | [d1, d2] => { results := [.lit (.bool false)], args := [d1, d2] }
  | _ => none }
def SlotLowestWrongFalsely : Prop := slotLowestRow.holds Try.pinned (OpenSpec.ofChange slotLowestWrong)

/-- 'scantlinglaw11.SlotPlays': WHATEVER THE INPUT: true; the input reads as it did. -/
def slotPlaysSpec : ChangeSpec := { name := "slotPlays", fn := fun _ => fun
  | [d1, d2, d3, d4] => { results := [.lit (.bool true)], args := [d1, d2, d3, d4] }
  | _ => none }
def slotPlaysRow : OpenClaim := { program := "ytjlhpnnkhiojfaa", sum := "2e2ae5a8099e1fcc9171b897d957d3ad67976fd62e61f3578d6e1ee546e90665", func := "scantling/scantlinglaw11.SlotPlays", spec := "slotPlays", apart := false }
def SlotPlaysSaid : Prop := slotPlaysRow.holds Try.pinned (OpenSpec.ofChange slotPlaysSpec)

/-- ITS FALSE NEIGHBOUR: 'it returns false'. Refute it at one input. -/
def slotPlaysWrong : ChangeSpec := { name := "slotPlays", fn := fun _ => fun
  | [d1, d2, d3, d4] => { results := [.lit (.bool false)], args := [d1, d2, d3, d4] }
  | _ => none }
def SlotPlaysWrongFalsely : Prop := slotPlaysRow.holds Try.pinned (OpenSpec.ofChange slotPlaysWrong)

/-- 'scantlinglaw11.SlotOnes': WHATEVER THE INPUT: true; the input reads as it did. -/
def slotOnesSpec : ChangeSpec := { name := "slotOnes", fn := fun _ => fun
  | [d1, d2] => { results := [.lit (.bool true)], args := [d1, d2] }
  | _ => none }
def slotOnesRow : OpenClaim := { program := "ytjlhpnnkhiojfaa", sum := "2e2ae5a8099e1fcc9171b897d957d3ad67976fd62e61f3578d6e1ee546e90665", func := "scantling/scantlinglaw11.SlotOnes", spec := "slotOnes", apart := false }
def SlotOnesSaid : Prop := slotOnesRow.holds Try.pinned (OpenSpec.ofChange slotOnesSpec)

/-- ITS FALSE NEIGHBOUR: 'it returns false'. Refute it at one input. -/
def slotOnesWrong : ChangeSpec := { name := "slotOnes", fn := fun _ => fun
  | [d1, d2] => { results := [.lit (.bool false)], args := [d1, d2] }
  | _ => none }
def SlotOnesWrongFalsely : Prop := slotOnesRow.holds Try.pinned (OpenSpec.ofChange slotOnesWrong)

/- THE SECOND FORM. 'bulk': how many values and letters a reading holds, each counted each time it is reached (what is shared counts as often as it is met; a slice's spare places count too). A statement '..UptoSaid' is the law's where the arguments, and the package variables that the reading takes, are together of bulk at most 1048576: NARROWER than '..Said'. Prove '..Said' where nothing that the law and all that it calls make is longer than what came in: it says more and counts as full. Else prove '..UptoSaid'. A law counts once. -/
mutual
def uptoBulk {H : Type} : DataW H → Nat
  | .lit (.string bytes) => bytes.length + 1
  | .lit _ => 1
  | .nil => 1
  | .ptr d => uptoBulk d + 1
  | .slice elems spare => uptoBulkAll elems + uptoBulkAll spare + 1
  | .agg parts => uptoBulkAll parts + 1
  | .iface _ d => uptoBulk d + 1
  | .map entries => uptoBulkEntries entries + 1
  | .held _ => 1
def uptoBulkAll {H : Type} : List (DataW H) → Nat
  | [] => 0
  | d :: r => uptoBulk d + uptoBulkAll r
def uptoBulkEntries {H : Type} : List (Lit × DataW H) → Nat
  | [] => 0
  | x :: r => uptoBulkEntry x + uptoBulkEntries r
def uptoBulkEntry {H : Type} : Lit × DataW H → Nat
  | (.string bytes, d) => bytes.length + uptoBulk d + 1
  | (_, d) => uptoBulk d + 1
 end
def uptoSmall : (H : Type) → List (DataW H) → Bool := fun _ ds => decide (uptoBulkAll ds ≤ 1048576)
def OpenSpec.upto (s : _root_.Go.ChangeSpec) : _root_.Go.OpenSpec := { _root_.Go.OpenSpec.ofChange s with cond := some uptoSmall }

/-- 'scantlinglaw11.SlotChurn', WHERE WHAT IT READS IS OF BULK AT MOST 1048576: true; the input reads as it did. -/
def slotChurnUptoRow : OpenClaim := { program := "ytjlhpnnkhiojfaa", sum := "2e2ae5a8099e1fcc9171b897d957d3ad67976fd62e61f3578d6e1ee546e90665", func := "scantling/scantlinglaw11.SlotChurn", spec := "slotChurn", unfollowed := true, recurses := true, apart := false, narrowed := true }
def SlotChurnUptoSaid : Prop := slotChurnUptoRow.holds Try.pinned (OpenSpec.upto slotChurnSpec)

/-- 'scantlinglaw11.SlotLowest', WHERE WHAT IT READS IS OF BULK AT MOST 1048576: true; the input reads as it did. -/
def slotLowestUptoRow : OpenClaim := { program := "ytjlhpnnkhiojfaa", sum := "2e2ae5a8099e1fcc9171b897d957d3ad67976fd62e61f3578d6e1ee546e90665", func := "scantling/scantlinglaw11.SlotLowest", spec := "slotLowest", apart := false, narrowed := true }
def SlotLowestUptoSaid : Prop := slotLowestUptoRow.holds Try.pinned (OpenSpec.upto slotLowestSpec)

/-- 'scantlinglaw11.SlotPlays', WHERE WHAT IT READS IS OF BULK AT MOST 1048576: true; the input reads as it did. -/
def slotPlaysUptoRow : OpenClaim := { program := "ytjlhpnnkhiojfaa", sum := "2e2ae5a8099e1fcc9171b897d957d3ad67976fd62e61f3578d6e1ee546e90665", func := "scantling/scantlinglaw11.SlotPlays", spec := "slotPlays", apart := false, narrowed := true }
def SlotPlaysUptoSaid : Prop := slotPlaysUptoRow.holds Try.pinned (OpenSpec.upto slotPlaysSpec)

/-- 'scantlinglaw11.SlotOnes', WHERE WHAT IT READS IS OF BULK AT MOST 1048576: true; the input reads as it did. -/
def slotOnesUptoRow : OpenClaim := { program := "ytjlhpnnkhiojfaa", sum := "2e2ae5a8099e1fcc9171b897d957d3ad67976fd62e61f3578d6e1ee546e90665", func := "scantling/scantlinglaw11.SlotOnes", spec := "slotOnes", apart := false, narrowed := true }
def SlotOnesUptoSaid : Prop := slotOnesUptoRow.holds Try.pinned (OpenSpec.upto slotOnesSpec)

end Rows
end Go.Proofs.Ytjlhpnnkhiojfaa
