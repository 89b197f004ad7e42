/-
  No cell of these rows narrows 'for every input' (looked for: loops, veiled, ifaces, maps, wideKeys, modest, calm, conditions, laid).
  DERIVED. THE GIVEN ROWS OF THIS SEAT. 6 by the template 'for every input the law returns true; each argument reads behind the call as it read before'; 0 by the template 'total and deterministic' (their statements: YtlmnniajindlgaaTotals.lean).
  GIVEN WITH THE SEED: the statements are not yours to turn. If you find one false, say at which input.
  Laid BY PROGRAM, IN A SANDBOX (cutbox-rows.mjs): the forced cells as the released guide's own fill.sh prints them over the translation a39a1857e9e39d3e… (all of the seat's roots in one cut). By AI agents, Wed Nov 11 2026. No macro, syntax, notation, axiom, sorry.
-/
import Derived.Test.YtlmnniajindlgaaChecked
import GoSem.Claim
import GoSem.ClaimJoined
import GoSem.ClaimMapViews
import Derived.JoinedTies
import Derived.KernelRfl
namespace Go.Proofs.Ytlmnniajindlgaa
/- THE CELL 'sum', in the pinned program and in every row, IS THE sha256 OF THE DUMP (.gsa) THAT YtlmnniajindlgaaProg.lean LOADS. Nothing in Lean hashes anything: it is a label: what it is worth is what the hold of that sum in a sandbox is worth. -/
noncomputable def Try.pinned : Pinned := { name := "ytlmnniajindlgaa", sum := "a39a1857e9e39d3ed75e6f750177c7f70cac88bc698e0833bab4b8426e784678", checked := Try.checked }
namespace Rows
def none {H : Type} : Left H := { results := [], args := [] }

/-- 'scantlinglaw10.LabelSplits': WHATEVER THE INPUT: true; the input reads as it did. -/
def labelSplitsSpec : ChangeSpec := { name := "labelSplits", fn := fun _ => fun
  | [d1, d2, d3, d4, d5, d6] => { results := [.lit (.bool true)], args := [d1, d2, d3, d4, d5, d6] }
  | _ => none }
def labelSplitsRow : OpenClaim := { program := "ytlmnniajindlgaa", sum := "a39a1857e9e39d3ed75e6f750177c7f70cac88bc698e0833bab4b8426e784678", func := "scantling/scantlinglaw10.LabelSplits", spec := "labelSplits", inPlace := ["slices.overlaps[scantling/api.Label]", "internal/abi.NoEscape", "internal/bytealg.IndexByteString"], unfollowed := true, recurses := true, apart := false }
def LabelSplitsSaid : Prop := labelSplitsRow.holds Try.pinned (OpenSpec.ofChange labelSplitsSpec)

/-- ITS FALSE NEIGHBOUR: 'it returns false'. Refute it at one input. -/
def labelSplitsWrong : ChangeSpec := { name := "labelSplits", fn := fun _ => fun
  | [d1, d2, d3, d4, d5, d6] => { results := [.lit (.bool false)], args := [d1, d2, d3, d4, d5, d6] }
  | _ => none }
def LabelSplitsWrongFalsely : Prop := labelSplitsRow.holds Try.pinned (OpenSpec.ofChange labelSplitsWrong)

/-- 'scantlinglaw10.LabelBack': WHATEVER THE INPUT: true; the input reads as it did. -/
def labelBackSpec : ChangeSpec := { name := "labelBack", fn := fun _ => fun
  | [d1, d2] => { results := [.lit (.bool true)], args := [d1, d2] }
  | _ => none }
def labelBackRow : OpenClaim := { program := "ytlmnniajindlgaa", sum := "a39a1857e9e39d3ed75e6f750177c7f70cac88bc698e0833bab4b8426e784678", func := "scantling/scantlinglaw10.LabelBack", spec := "labelBack", inPlace := ["slices.overlaps[scantling/api.Label]", "internal/abi.NoEscape", "internal/bytealg.IndexByteString"], unfollowed := true, recurses := true, apart := false }
def LabelBackSaid : Prop := labelBackRow.holds Try.pinned (OpenSpec.ofChange labelBackSpec)

/-- ITS FALSE NEIGHBOUR: 'it returns false'. Refute it at one input. -/
def labelBackWrong : ChangeSpec := { name := "labelBack", fn := fun _ => fun
  | [d1, d2] => { results := [.lit (.bool false)], args := [d1, d2] }
  | _ => none }
def LabelBackWrongFalsely : Prop := labelBackRow.holds Try.pinned (OpenSpec.ofChange labelBackWrong)

/-- 'scantlinglaw10.LabelLong': WHATEVER THE INPUT: true; the input reads as it did. -/
def labelLongSpec : ChangeSpec := { name := "labelLong", fn := fun _ => fun
  | [d1, d2] => { results := [.lit (.bool true)], args := [d1, d2] }
  | _ => none }
def labelLongRow : OpenClaim := { program := "ytlmnniajindlgaa", sum := "a39a1857e9e39d3ed75e6f750177c7f70cac88bc698e0833bab4b8426e784678", func := "scantling/scantlinglaw10.LabelLong", spec := "labelLong", inPlace := ["slices.overlaps[scantling/api.Label]", "internal/abi.NoEscape", "internal/bytealg.IndexByteString"], unfollowed := true, recurses := true, apart := false }
def LabelLongSaid : Prop := labelLongRow.holds Try.pinned (OpenSpec.ofChange labelLongSpec)

/-- ITS FALSE NEIGHBOUR: 'it returns false'. Refute it at one input. -/
def labelLongWrong : ChangeSpec := { name := "labelLong", fn := fun _ => fun
  | [d1, d2] => { results := [.lit (.bool false)], args := [d1, d2] }
  | _ => none }
def LabelLongWrongFalsely : Prop := labelLongRow.holds Try.pinned (OpenSpec.ofChange labelLongWrong)

/-- 'scantlinglaw10.LabelKeys': WHATEVER THE INPUT: true; the input reads as it did. -/
def labelKeysSpec : ChangeSpec := { name := "labelKeys", fn := fun _ => fun
  | [d1, d2, d3, d4, d5, d6] => { results := [.lit (.bool true)], args := [d1, d2, d3, d4, d5, d6] }
  | _ => none }
def labelKeysRow : OpenClaim := { program := "ytlmnniajindlgaa", sum := "a39a1857e9e39d3ed75e6f750177c7f70cac88bc698e0833bab4b8426e784678", func := "scantling/scantlinglaw10.LabelKeys", spec := "labelKeys", inPlace := ["slices.overlaps[scantling/api.Label]", "internal/abi.NoEscape", "internal/bytealg.IndexByteString"], unfollowed := true, recurses := true, apart := false }
def LabelKeysSaid : Prop := labelKeysRow.holds Try.pinned (OpenSpec.ofChange labelKeysSpec)

/-- ITS FALSE NEIGHBOUR: 'it returns false'. Refute it at one input. -/
def labelKeysWrong : ChangeSpec := { name := "labelKeys", fn := fun _ => fun
  | [d1, d2, d3, d4, d5, d6] => { results := [.lit (.bool false)], args := [d1, d2, d3, d4, d5, d6] }
  | _ => none }
def LabelKeysWrongFalsely : Prop := labelKeysRow.holds Try.pinned (OpenSpec.ofChange labelKeysWrong)

/-- 'scantlinglaw10.LabelSame': WHATEVER THE INPUT: true; the input reads as it did. -/
def labelSameSpec : ChangeSpec := { name := "labelSame", fn := fun _ => fun
  | [d1, d2, d3, d4] => { results := [.lit (.bool true)], args := [d1, d2, d3, d4] }
  | _ => none }
def labelSameRow : OpenClaim := { program := "ytlmnniajindlgaa", sum := "a39a1857e9e39d3ed75e6f750177c7f70cac88bc698e0833bab4b8426e784678", func := "scantling/scantlinglaw10.LabelSame", spec := "labelSame", inPlace := ["slices.overlaps[scantling/api.Label]", "internal/abi.NoEscape", "internal/bytealg.IndexByteString"], unfollowed := true, recurses := true, apart := false }
def LabelSameSaid : Prop := labelSameRow.holds Try.pinned (OpenSpec.ofChange labelSameSpec)

/-- ITS FALSE NEIGHBOUR: 'it returns false'. Refute it at one input. -/
def labelSameWrong : ChangeSpec := { name := "labelSame", fn := fun _ => fun
  | [d1, d2, d3, d4] => { results := [.lit (.bool false)], args := [d1, d2, d3, d4] }
  | _ => none }
def LabelSameWrongFalsely : Prop := labelSameRow.holds Try.pinned (OpenSpec.ofChange labelSameWrong)

/-- 'scantlinglaw10.LabelGets': WHATEVER THE INPUT: true; the input reads as it did. -/
def labelGetsSpec : ChangeSpec := { name := "labelGets", fn := fun _ => fun
  | [d1, d2] => { results := [.lit (.bool true)], args := [d1, d2] }
  | _ => none }
def labelGetsRow : OpenClaim := { program := "ytlmnniajindlgaa", sum := "a39a1857e9e39d3ed75e6f750177c7f70cac88bc698e0833bab4b8426e784678", func := "scantling/scantlinglaw10.LabelGets", spec := "labelGets", inPlace := ["slices.overlaps[scantling/api.Label]", "internal/abi.NoEscape", "internal/bytealg.IndexByteString"], unfollowed := true, recurses := true, apart := false }
def LabelGetsSaid : Prop := labelGetsRow.holds Try.pinned (OpenSpec.ofChange labelGetsSpec)

/-- ITS FALSE NEIGHBOUR: 'it returns false'. Refute it at one input. -/
def labelGetsWrong : ChangeSpec := { name := "labelGets", fn := fun _ => fun
  | [d1, d2] => { results := [.lit (.bool false)], args := [d1, d2] }
  | _ => none }
def LabelGetsWrongFalsely : Prop := labelGetsRow.holds Try.pinned (OpenSpec.ofChange labelGetsWrong)

/- THE SECOND FORM. 'bulk': how many values and letters a reading holds, each counted each time it is reached (what is shared counts as often as it is met; a slice's spare places count too). A statement '..UptoSaid' is the law's where the arguments, and the package variables that the reading takes, are together of bulk at most 1048576: NARROWER than '..Said'. Prove '..Said' where nothing that the law and all that it calls make is longer than what came in: it says more and counts as full. Else prove '..UptoSaid'. A law counts once. -/
mutual
def uptoBulk {H : Type} : DataW H → Nat
  | .lit (.string bytes) => bytes.length + 1
  | .lit _ => 1
  | .nil => 1
  | .ptr d => uptoBulk d + 1
  | .slice elems spare => uptoBulkAll elems + uptoBulkAll spare + 1
  | .agg parts => uptoBulkAll parts + 1
  | .iface _ d => uptoBulk d + 1
  | .map entries => uptoBulkEntries entries + 1
  | .held _ => 1
def uptoBulkAll {H : Type} : List (DataW H) → Nat
  | [] => 0
  | d :: r => uptoBulk d + uptoBulkAll r
def uptoBulkEntries {H : Type} : List (Lit × DataW H) → Nat
  | [] => 0
  | x :: r => uptoBulkEntry x + uptoBulkEntries r
def uptoBulkEntry {H : Type} : Lit × DataW H → Nat
  | (.string bytes, d) => bytes.length + uptoBulk d + 1
  | (_, d) => uptoBulk d + 1
 end
def uptoSmall : (H : Type) → List (DataW H) → Bool := fun _ ds => decide (uptoBulkAll ds ≤ 1048576)
def OpenSpec.upto (s : _root_.Go.ChangeSpec) : _root_.Go.OpenSpec := { _root_.Go.OpenSpec.ofChange s with cond := some uptoSmall }

/-- 'scantlinglaw10.LabelSplits', WHERE WHAT IT READS IS OF BULK AT MOST 1048576: true; the input reads as it did. -/
def labelSplitsUptoRow : OpenClaim := { program := "ytlmnniajindlgaa", sum := "a39a1857e9e39d3ed75e6f750177c7f70cac88bc698e0833bab4b8426e784678", func := "scantling/scantlinglaw10.LabelSplits", spec := "labelSplits", inPlace := ["slices.overlaps[scantling/api.Label]", "internal/abi.NoEscape", "internal/bytealg.IndexByteString"], unfollowed := true, recurses := true, apart := false, narrowed := true }
def LabelSplitsUptoSaid : Prop := labelSplitsUptoRow.holds Try.pinned (OpenSpec.upto labelSplitsSpec)

/-- 'scantlinglaw10.LabelBack', WHERE WHAT IT READS IS OF BULK AT MOST 1048576: true; the input reads as it did. -/
def labelBackUptoRow : OpenClaim := { program := "ytlmnniajindlgaa", sum := "a39a1857e9e39d3ed75e6f750177c7f70cac88bc698e0833bab4b8426e784678", func := "scantling/scantlinglaw10.LabelBack", spec := "labelBack", inPlace := ["slices.overlaps[scantling/api.Label]", "internal/abi.NoEscape", "internal/bytealg.IndexByteString"], unfollowed := true, recurses := true, apart := false, narrowed := true }
def LabelBackUptoSaid : Prop := labelBackUptoRow.holds Try.pinned (OpenSpec.upto labelBackSpec)

/-- 'scantlinglaw10.LabelLong', WHERE WHAT IT READS IS OF BULK AT MOST 1048576: true; the input reads as it did. -/
def labelLongUptoRow : OpenClaim := { program := "ytlmnniajindlgaa", sum := "a39a1857e9e39d3ed75e6f750177c7f70cac88bc698e0833bab4b8426e784678", func := "scantling/scantlinglaw10.LabelLong", spec := "labelLong", inPlace := ["slices.overlaps[scantling/api.Label]", "internal/abi.NoEscape", "internal/bytealg.IndexByteString"], unfollowed := true, recurses := true, apart := false, narrowed := true }
def LabelLongUptoSaid : Prop := labelLongUptoRow.holds Try.pinned (OpenSpec.upto labelLongSpec)

/-- 'scantlinglaw10.LabelKeys', WHERE WHAT IT READS IS OF BULK AT MOST 1048576: true; the input reads as it did. -/
def labelKeysUptoRow : OpenClaim := { program := "ytlmnniajindlgaa", sum := "a39a1857e9e39d3ed75e6f750177c7f70cac88bc698e0833bab4b8426e784678", func := "scantling/scantlinglaw10.LabelKeys", spec := "labelKeys", inPlace := ["slices.overlaps[scantling/api.Label]", "internal/abi.NoEscape", "internal/bytealg.IndexByteString"], unfollowed := true, recurses := true, apart := false, narrowed := true }
def LabelKeysUptoSaid : Prop := labelKeysUptoRow.holds Try.pinned (OpenSpec.upto labelKeysSpec)

/-- 'scantlinglaw10.LabelSame', WHERE WHAT IT READS IS OF BULK AT MOST 1048576: true; the input reads as it did. -/
def labelSameUptoRow : OpenClaim := { program := "ytlmnniajindlgaa", sum := "a39a1857e9e39d3ed75e6f750177c7f70cac88bc698e0833bab4b8426e784678", func := "scantling/scantlinglaw10.LabelSame", spec := "labelSame", inPlace := ["slices.overlaps[scantling/api.Label]", "internal/abi.NoEscape", "internal/bytealg.IndexByteString"], unfollowed := true, recurses := true, apart := false, narrowed := true }
def LabelSameUptoSaid : Prop := labelSameUptoRow.holds Try.pinned (OpenSpec.upto labelSameSpec)

/-- 'scantlinglaw10.LabelGets', WHERE WHAT IT READS IS OF BULK AT MOST 1048576: true; the input reads as it did. -/
def labelGetsUptoRow : OpenClaim := { program := "ytlmnniajindlgaa", sum := "a39a1857e9e39d3ed75e6f750177c7f70cac88bc698e0833bab4b8426e784678", func := "scantling/scantlinglaw10.LabelGets", spec := "labelGets", inPlace := ["slices.overlaps[scantling/api.Label]", "internal/abi.NoEscape", "internal/bytealg.IndexByteString"], unfollowed := true, recurses := true, apart := false, narrowed := true }
def LabelGetsUptoSaid : Prop := labelGetsUptoRow.holds Try.pinned (OpenSpec.upto labelGetsSpec)

end Rows
end Go.Proofs.Ytlmnniajindlgaa
