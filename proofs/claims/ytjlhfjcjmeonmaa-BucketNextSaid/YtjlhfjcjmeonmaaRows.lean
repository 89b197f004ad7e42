/-
  No cell of these rows narrows 'for every input' (looked for: loops, veiled, ifaces, maps, wideKeys, modest, calm, conditions, laid).
  DERIVED. THE GIVEN ROWS OF THIS SEAT. 6 by the template 'for every input the law returns true; each argument reads behind the call as it read before'; 0 by the template 'total and deterministic' (their statements: YtjlhfjcjmeonmaaTotals.lean).
  GIVEN WITH THE SEED: the statements are not yours to turn. If you find one false, say at which input.
  Laid BY PROGRAM, IN A SANDBOX (cutbox-rows.mjs): the forced cells as the released guide's own fill.sh prints them over the translation 616aad73fb969821… (all of the seat's roots in one cut). By AI agents, Wed Nov 11 2026. No macro, syntax, notation, axiom, sorry.
-/
import Derived.Test.YtjlhfjcjmeonmaaChecked
import GoSem.Claim
import GoSem.ClaimJoined
import GoSem.ClaimMapViews
import Derived.JoinedTies
import Derived.KernelRfl
namespace Go.Proofs.Ytjlhfjcjmeonmaa
/- THE CELL 'sum', in the pinned program and in every row, IS THE sha256 OF THE DUMP (.gsa) THAT YtjlhfjcjmeonmaaProg.lean LOADS. Nothing in Lean hashes anything: it is a label: what it is worth is what the hold of that sum in a sandbox is worth. -/
noncomputable def Try.pinned : Pinned := { name := "ytjlhfjcjmeonmaa", sum := "616aad73fb9698211ab81e2ab4ed65b5de06dff5664f766c810c480e845a2e91", checked := Try.checked }
namespace Rows
def none {H : Type} : Left H := { results := [], args := [] }

/-- 'scantlinglaw05.BucketOf': WHATEVER THE INPUT: true; the input reads as it did. -/
def bucketOfSpec : ChangeSpec := { name := "bucketOf", fn := fun _ => fun
  | [d1, d2, d3, d4, d5] => { results := [.lit (.bool true)], args := [d1, d2, d3, d4, d5] }
  | _ => none }
def bucketOfRow : OpenClaim := { program := "ytjlhfjcjmeonmaa", sum := "616aad73fb9698211ab81e2ab4ed65b5de06dff5664f766c810c480e845a2e91", func := "scantling/scantlinglaw05.BucketOf", spec := "bucketOf", unfollowed := true, recurses := true, apart := false }
def BucketOfSaid : Prop := bucketOfRow.holds Try.pinned (OpenSpec.ofChange bucketOfSpec)

/-- ITS FALSE NEIGHBOUR: 'it returns false'. Refute it at one input. -/
def bucketOfWrong : ChangeSpec := { name := "bucketOf", fn := fun _ => fun
  | [d1, d2, d3, d4, d5] => { results := [.lit (.bool false)], args := [d1, d2, d3, d4, d5] }
  | _ => none }
def BucketOfWrongFalsely : Prop := bucketOfRow.holds Try.pinned (OpenSpec.ofChange bucketOfWrong)

/-- 'scantlinglaw05.BucketHolds': WHATEVER THE INPUT: true; the input reads as it did. -/
def bucketHoldsSpec : ChangeSpec := { name := "bucketHolds", fn := fun _ => fun
  | [d1, d2] => { results := [.lit (.bool true)], args := [d1, d2] }
  | _ => none }
def bucketHoldsRow : OpenClaim := { program := "ytjlhfjcjmeonmaa", sum := "616aad73fb9698211ab81e2ab4ed65b5de06dff5664f766c810c480e845a2e91", func := "scantling/scantlinglaw05.BucketHolds", spec := "bucketHolds", unfollowed := true, recurses := true, apart := false }
def BucketHoldsSaid : Prop := bucketHoldsRow.holds Try.pinned (OpenSpec.ofChange bucketHoldsSpec)

/-- ITS FALSE NEIGHBOUR: 'it returns false'. Refute it at one input. -/
def bucketHoldsWrong : ChangeSpec := { name := "bucketHolds", fn := fun _ => fun
  | [d1, d2] => { results := [.lit (.bool false)], args := [d1, d2] }
  | _ => none }
def BucketHoldsWrongFalsely : Prop := bucketHoldsRow.holds Try.pinned (OpenSpec.ofChange bucketHoldsWrong)

/-- 'scantlinglaw05.BucketRises': WHATEVER THE INPUT: true; the input reads as it did. -/
def bucketRisesSpec : ChangeSpec := { name := "bucketRises", fn := fun _ => fun
  | [d1, d2, d3] => { results := [.lit (.bool true)], args := [d1, d2, d3] }
  | _ => none }
def bucketRisesRow : OpenClaim := { program := "ytjlhfjcjmeonmaa", sum := "616aad73fb9698211ab81e2ab4ed65b5de06dff5664f766c810c480e845a2e91", func := "scantling/scantlinglaw05.BucketRises", spec := "bucketRises", unfollowed := true, recurses := true, apart := false }
def BucketRisesSaid : Prop := bucketRisesRow.holds Try.pinned (OpenSpec.ofChange bucketRisesSpec)

/-- ITS FALSE NEIGHBOUR: 'it returns false'. Refute it at one input. -/
def bucketRisesWrong : ChangeSpec := { name := "bucketRises", fn := fun _ => fun
  | [d1, d2, d3] => { results := [.lit (.bool false)], args := [d1, d2, d3] }
  | _ => none }
def BucketRisesWrongFalsely : Prop := bucketRisesRow.holds Try.pinned (OpenSpec.ofChange bucketRisesWrong)

/-- 'scantlinglaw05.BucketNext': WHATEVER THE INPUT: true; the input reads as it did. -/
def bucketNextSpec : ChangeSpec := { name := "bucketNext", fn := fun _ => fun
  | [d1, d2] => { results := [.lit (.bool true)], args := [d1, d2] }
  | _ => none }
def bucketNextRow : OpenClaim := { program := "ytjlhfjcjmeonmaa", sum := "616aad73fb9698211ab81e2ab4ed65b5de06dff5664f766c810c480e845a2e91", func := "scantling/scantlinglaw05.BucketNext", spec := "bucketNext", unfollowed := true, recurses := true, apart := false }
def BucketNextSaid : Prop := bucketNextRow.holds Try.pinned (OpenSpec.ofChange bucketNextSpec)

/-- ITS FALSE NEIGHBOUR: 'it returns false'. Refute it at one input. -/
def bucketNextWrong : ChangeSpec := { name := "bucketNext", fn := fun _ => fun
  | [d1, d2] => { results := [.lit (.bool false)], args := [d1, d2] }
  | _ => none }
def BucketNextWrongFalsely : Prop := bucketNextRow.holds Try.pinned (OpenSpec.ofChange bucketNextWrong)

/-- 'scantlinglaw05.BucketEnds': WHATEVER THE INPUT: true; the input reads as it did. -/
def bucketEndsSpec : ChangeSpec := { name := "bucketEnds", fn := fun _ => fun
  | [d1, d2] => { results := [.lit (.bool true)], args := [d1, d2] }
  | _ => none }
def bucketEndsRow : OpenClaim := { program := "ytjlhfjcjmeonmaa", sum := "616aad73fb9698211ab81e2ab4ed65b5de06dff5664f766c810c480e845a2e91", func := "scantling/scantlinglaw05.BucketEnds", spec := "bucketEnds", unfollowed := true, recurses := true, apart := false }
def BucketEndsSaid : Prop := bucketEndsRow.holds Try.pinned (OpenSpec.ofChange bucketEndsSpec)

/-- ITS FALSE NEIGHBOUR: 'it returns false'. Refute it at one input. -/
def bucketEndsWrong : ChangeSpec := { name := "bucketEnds", fn := fun _ => fun
  | [d1, d2] => { results := [.lit (.bool false)], args := [d1, d2] }
  | _ => none }
def BucketEndsWrongFalsely : Prop := bucketEndsRow.holds Try.pinned (OpenSpec.ofChange bucketEndsWrong)

/-- 'scantlinglaw05.BucketFine': WHATEVER THE INPUT: true; the input reads as it did. -/
def bucketFineSpec : ChangeSpec := { name := "bucketFine", fn := fun _ => fun
  | [d1, d2, d3] => { results := [.lit (.bool true)], args := [d1, d2, d3] }
  | _ => none }
def bucketFineRow : OpenClaim := { program := "ytjlhfjcjmeonmaa", sum := "616aad73fb9698211ab81e2ab4ed65b5de06dff5664f766c810c480e845a2e91", func := "scantling/scantlinglaw05.BucketFine", spec := "bucketFine", unfollowed := true, recurses := true, apart := false }
def BucketFineSaid : Prop := bucketFineRow.holds Try.pinned (OpenSpec.ofChange bucketFineSpec)

/-- ITS FALSE NEIGHBOUR: 'it returns false'. Refute it at one input. -/
def bucketFineWrong : ChangeSpec := { name := "bucketFine", fn := fun _ => fun
  | [d1, d2, d3] => { results := [.lit (.bool false)], args := [d1, d2, d3] }
  | _ => none }
def BucketFineWrongFalsely : Prop := bucketFineRow.holds Try.pinned (OpenSpec.ofChange bucketFineWrong)

/- THE SECOND FORM. 'bulk': how many values and letters a reading holds, each counted each time it is reached (what is shared counts as often as it is met; a slice's spare places count too). A statement '..UptoSaid' is the law's where the arguments, and the package variables that the reading takes, are together of bulk at most 1048576: NARROWER than '..Said'. Prove '..Said' where nothing that the law and all that it calls make is longer than what came in: it says more and counts as full. Else prove '..UptoSaid'. A law counts once. -/
mutual
def uptoBulk {H : Type} : DataW H → Nat
  | .lit (.string bytes) => bytes.length + 1
  | .lit _ => 1
  | .nil => 1
  | .ptr d => uptoBulk d + 1
  | .slice elems spare => uptoBulkAll elems + uptoBulkAll spare + 1
  | .agg parts => uptoBulkAll parts + 1
  | .iface _ d => uptoBulk d + 1
  | .map entries => uptoBulkEntries entries + 1
  | .held _ => 1
def uptoBulkAll {H : Type} : List (DataW H) → Nat
  | [] => 0
  | d :: r => uptoBulk d + uptoBulkAll r
def uptoBulkEntries {H : Type} : List (Lit × DataW H) → Nat
  | [] => 0
  | x :: r => uptoBulkEntry x + uptoBulkEntries r
def uptoBulkEntry {H : Type} : Lit × DataW H → Nat
  | (.string bytes, d) => bytes.length + uptoBulk d + 1
  | (_, d) => uptoBulk d + 1
 end
def uptoSmall : (H : Type) → List (DataW H) → Bool := fun _ ds => decide (uptoBulkAll ds ≤ 1048576)
def OpenSpec.upto (s : _root_.Go.ChangeSpec) : _root_.Go.OpenSpec := { _root_.Go.OpenSpec.ofChange s with cond := some uptoSmall }

/-- 'scantlinglaw05.BucketOf', WHERE WHAT IT READS IS OF BULK AT MOST 1048576: true; the input reads as it did. -/
def bucketOfUptoRow : OpenClaim := { program := "ytjlhfjcjmeonmaa", sum := "616aad73fb9698211ab81e2ab4ed65b5de06dff5664f766c810c480e845a2e91", func := "scantling/scantlinglaw05.BucketOf", spec := "bucketOf", unfollowed := true, recurses := true, apart := false, narrowed := true }
def BucketOfUptoSaid : Prop := bucketOfUptoRow.holds Try.pinned (OpenSpec.upto bucketOfSpec)

/-- 'scantlinglaw05.BucketHolds', WHERE WHAT IT READS IS OF BULK AT MOST 1048576: true; the input reads as it did. -/
def bucketHoldsUptoRow : OpenClaim := { program := "ytjlhfjcjmeonmaa", sum := "616aad73fb9698211ab81e2ab4ed65b5de06dff5664f766c810c480e845a2e91", func := "scantling/scantlinglaw05.BucketHolds", spec := "bucketHolds", unfollowed := true, recurses := true, apart := false, narrowed := true }
def BucketHoldsUptoSaid : Prop := bucketHoldsUptoRow.holds Try.pinned (OpenSpec.upto bucketHoldsSpec)

/-- 'scantlinglaw05.BucketRises', WHERE WHAT IT READS IS OF BULK AT MOST 1048576: true; the input reads as it did. -/
def bucketRisesUptoRow : OpenClaim := { program := "ytjlhfjcjmeonmaa", sum := "616aad73fb9698211ab81e2ab4ed65b5de06dff5664f766c810c480e845a2e91", func := "scantling/scantlinglaw05.BucketRises", spec := "bucketRises", unfollowed := true, recurses := true, apart := false, narrowed := true }
def BucketRisesUptoSaid : Prop := bucketRisesUptoRow.holds Try.pinned (OpenSpec.upto bucketRisesSpec)

/-- 'scantlinglaw05.BucketNext', WHERE WHAT IT READS IS OF BULK AT MOST 1048576: true; the input reads as it did. -/
def bucketNextUptoRow : OpenClaim := { program := "ytjlhfjcjmeonmaa", sum := "616aad73fb9698211ab81e2ab4ed65b5de06dff5664f766c810c480e845a2e91", func := "scantling/scantlinglaw05.BucketNext", spec := "bucketNext", unfollowed := true, recurses := true, apart := false, narrowed := true }
def BucketNextUptoSaid : Prop := bucketNextUptoRow.holds Try.pinned (OpenSpec.upto bucketNextSpec)

/-- 'scantlinglaw05.BucketEnds', WHERE WHAT IT READS IS OF BULK AT MOST 1048576: true; the input reads as it did. -/
def bucketEndsUptoRow : OpenClaim := { program := "ytjlhfjcjmeonmaa", sum := "616aad73fb9698211ab81e2ab4ed65b5de06dff5664f766c810c480e845a2e91", func := "scantling/scantlinglaw05.BucketEnds", spec := "bucketEnds", unfollowed := true, recurses := true, apart := false, narrowed := true }
def BucketEndsUptoSaid : Prop := bucketEndsUptoRow.holds Try.pinned (OpenSpec.upto bucketEndsSpec)

/-- 'scantlinglaw05.BucketFine', WHERE WHAT IT READS IS OF BULK AT MOST 1048576: true; the input reads as it did. -/
def bucketFineUptoRow : OpenClaim := { program := "ytjlhfjcjmeonmaa", sum := "616aad73fb9698211ab81e2ab4ed65b5de06dff5664f766c810c480e845a2e91", func := "scantling/scantlinglaw05.BucketFine", spec := "bucketFine", unfollowed := true, recurses := true, apart := false, narrowed := true }
def BucketFineUptoSaid : Prop := bucketFineUptoRow.holds Try.pinned (OpenSpec.upto bucketFineSpec)

end Rows
end Go.Proofs.Ytjlhfjcjmeonmaa
