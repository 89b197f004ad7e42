/-
  NARROWER THAN 'FOR EVERY INPUT', by the rows' own cells (each row's printed sentence says how): SipSums: laid · SipRanks: laid · SipSame: laid · SipBounds: laid · SipBytes: laid · SipKeys: laid.
  DERIVED. THE GIVEN ROWS OF THIS SEAT. 6 by the template 'for every input the law returns true; each argument reads behind the call as it read before'; 0 by the template 'total and deterministic' (their statements: YtjlhfjcjmeonmaaDoorTotals.lean).
  GIVEN WITH THE SEED: the statements are not yours to turn. If you find one false, say at which input.
  Laid BY PROGRAM, IN A SANDBOX (cutbox-rows.mjs): the forced cells as the released guide's own fill.sh prints them over the translation e12da071fd5fdfb6… (all of the seat's roots in one cut). By AI agents, Wed Nov 11 2026. No macro, syntax, notation, axiom, sorry.
-/
import Derived.Test.YtjlhfjcjmeonmaaDoorChecked
import GoSem.Claim
import GoSem.ClaimJoined
import GoSem.ClaimMapViews
import Derived.JoinedTies
import Derived.KernelRfl
namespace Go.Proofs.YtjlhfjcjmeonmaaDoor
/- THE CELL 'sum', in the pinned program and in every row, IS THE sha256 OF THE DUMP (.gsa) THAT YtjlhfjcjmeonmaaDoorProg.lean LOADS. Nothing in Lean hashes anything: it is a label: what it is worth is what the hold of that sum in a sandbox is worth. -/
noncomputable def Tryd.pinned : Pinned := { name := "ytjlhfjcjmeonmaadoor", sum := "e12da071fd5fdfb69157d519b6e170f31421728c0d613b82d2779f5b8e0c15b3", checked := Tryd.checked }
namespace Rows
def none {H : Type} : Left H := { results := [], args := [] }

/- WHAT THE LISTED PACKAGE-LEVEL VARIABLES READ AS WHEN THE CALL BEGINS. Each datum BY PROGRAM (the guide's laid-datum.mjs) off the statement by which the dump's own 'gosem.cut.vars' lays the variable. In a bare row this is a premise. The card (YtjlhfjcjmeonmaaDoorCards.lean) ties it to the program's text. -/
def laid_math_bits_deBruijn64tab {H : Type} : DataW H := .agg [.lit (.int .u8 0), .lit (.int .u8 1), .lit (.int .u8 56), .lit (.int .u8 2), .lit (.int .u8 57), .lit (.int .u8 49), .lit (.int .u8 28), .lit (.int .u8 3), .lit (.int .u8 61), .lit (.int .u8 58), .lit (.int .u8 42), .lit (.int .u8 50), .lit (.int .u8 38), .lit (.int .u8 29), .lit (.int .u8 17), .lit (.int .u8 4), .lit (.int .u8 62), .lit (.int .u8 47), .lit (.int .u8 59), .lit (.int .u8 36), .lit (.int .u8 45), .lit (.int .u8 43), .lit (.int .u8 51), .lit (.int .u8 22), .lit (.int .u8 53), .lit (.int .u8 39), .lit (.int .u8 33), .lit (.int .u8 30), .lit (.int .u8 24), .lit (.int .u8 18), .lit (.int .u8 12), .lit (.int .u8 5), .lit (.int .u8 63), .lit (.int .u8 55), .lit (.int .u8 48), .lit (.int .u8 27), .lit (.int .u8 60), .lit (.int .u8 41), .lit (.int .u8 37), .lit (.int .u8 16), .lit (.int .u8 46), .lit (.int .u8 35), .lit (.int .u8 44), .lit (.int .u8 21), .lit (.int .u8 52), .lit (.int .u8 32), .lit (.int .u8 23), .lit (.int .u8 11), .lit (.int .u8 54), .lit (.int .u8 26), .lit (.int .u8 40), .lit (.int .u8 15), .lit (.int .u8 34), .lit (.int .u8 20), .lit (.int .u8 31), .lit (.int .u8 10), .lit (.int .u8 25), .lit (.int .u8 14), .lit (.int .u8 19), .lit (.int .u8 9), .lit (.int .u8 13), .lit (.int .u8 8), .lit (.int .u8 7), .lit (.int .u8 6)]

/-- 'scantlinglaw01.SipSums': WHATEVER THE INPUT: true; the input reads as it did. -/
def sipSumsSpec : ChangeSpec := { name := "sipSums", fn := fun _ => fun
  | [d1, d2, d3] => { results := [.lit (.bool true)], args := [d1, d2, d3] }
  | _ => none }
def sipSumsRow : OpenClaim := { program := "ytjlhfjcjmeonmaadoor", sum := "e12da071fd5fdfb69157d519b6e170f31421728c0d613b82d2779f5b8e0c15b3", func := "scantling/scantlinglaw01.SipSums", spec := "sipSums", named := ["math/bits.deBruijn64tab"], apart := false, laid := [("math/bits.deBruijn64tab", laid_math_bits_deBruijn64tab)] }
def SipSumsSaid : Prop := sipSumsRow.holds Tryd.pinned (OpenSpec.ofChange sipSumsSpec)

/-- ITS FALSE NEIGHBOUR: 'it returns false'. Refute it at one input. -/
def sipSumsWrong : ChangeSpec := { name := "sipSums", fn := fun _ => fun
  | [d1, d2, d3] => { results := [.lit (.bool false)], args := [d1, d2, d3] }
  | _ => none }
def SipSumsWrongFalsely : Prop := sipSumsRow.holds Tryd.pinned (OpenSpec.ofChange sipSumsWrong)

/-- 'scantlinglaw01.SipRanks': WHATEVER THE INPUT: true; the input reads as it did. -/
def sipRanksSpec : ChangeSpec := { name := "sipRanks", fn := fun _ => fun
  | [d1, d2, d3] => { results := [.lit (.bool true)], args := [d1, d2, d3] }
  | _ => none }
def sipRanksRow : OpenClaim := { program := "ytjlhfjcjmeonmaadoor", sum := "e12da071fd5fdfb69157d519b6e170f31421728c0d613b82d2779f5b8e0c15b3", func := "scantling/scantlinglaw01.SipRanks", spec := "sipRanks", named := ["math/bits.deBruijn64tab"], apart := false, laid := [("math/bits.deBruijn64tab", laid_math_bits_deBruijn64tab)] }
def SipRanksSaid : Prop := sipRanksRow.holds Tryd.pinned (OpenSpec.ofChange sipRanksSpec)

/-- ITS FALSE NEIGHBOUR: 'it returns false'. Refute it at one input. -/
def sipRanksWrong : ChangeSpec := { name := "sipRanks", fn := fun _ => fun
  | [d1, d2, d3] => { results := [.lit (.bool false)], args := [d1, d2, d3] }
  | _ => none }
def SipRanksWrongFalsely : Prop := sipRanksRow.holds Tryd.pinned (OpenSpec.ofChange sipRanksWrong)

/-- 'scantlinglaw01.SipSame': WHATEVER THE INPUT: true; the input reads as it did. -/
def sipSameSpec : ChangeSpec := { name := "sipSame", fn := fun _ => fun
  | [d1, d2, d3, d4, d5] => { results := [.lit (.bool true)], args := [d1, d2, d3, d4, d5] }
  | _ => none }
def sipSameRow : OpenClaim := { program := "ytjlhfjcjmeonmaadoor", sum := "e12da071fd5fdfb69157d519b6e170f31421728c0d613b82d2779f5b8e0c15b3", func := "scantling/scantlinglaw01.SipSame", spec := "sipSame", named := ["math/bits.deBruijn64tab"], apart := false, laid := [("math/bits.deBruijn64tab", laid_math_bits_deBruijn64tab)] }
def SipSameSaid : Prop := sipSameRow.holds Tryd.pinned (OpenSpec.ofChange sipSameSpec)

/-- ITS FALSE NEIGHBOUR: 'it returns false'. Refute it at one input. -/
def sipSameWrong : ChangeSpec := { name := "sipSame", fn := fun _ => fun
  | [d1, d2, d3, d4, d5] => { results := [.lit (.bool false)], args := [d1, d2, d3, d4, d5] }
  | _ => none }
def SipSameWrongFalsely : Prop := sipSameRow.holds Tryd.pinned (OpenSpec.ofChange sipSameWrong)

/-- 'scantlinglaw01.SipBounds': WHATEVER THE INPUT: true; the input reads as it did. -/
def sipBoundsSpec : ChangeSpec := { name := "sipBounds", fn := fun _ => fun
  | [d1, d2] => { results := [.lit (.bool true)], args := [d1, d2] }
  | _ => none }
def sipBoundsRow : OpenClaim := { program := "ytjlhfjcjmeonmaadoor", sum := "e12da071fd5fdfb69157d519b6e170f31421728c0d613b82d2779f5b8e0c15b3", func := "scantling/scantlinglaw01.SipBounds", spec := "sipBounds", named := ["math/bits.deBruijn64tab"], apart := false, laid := [("math/bits.deBruijn64tab", laid_math_bits_deBruijn64tab)] }
def SipBoundsSaid : Prop := sipBoundsRow.holds Tryd.pinned (OpenSpec.ofChange sipBoundsSpec)

/-- ITS FALSE NEIGHBOUR: 'it returns false'. Refute it at one input. -/
def sipBoundsWrong : ChangeSpec := { name := "sipBounds", fn := fun _ => fun
  | [d1, d2] => { results := [.lit (.bool false)], args := [d1, d2] }
  | _ => none }
def SipBoundsWrongFalsely : Prop := sipBoundsRow.holds Tryd.pinned (OpenSpec.ofChange sipBoundsWrong)

/-- 'scantlinglaw01.SipBytes': WHATEVER THE INPUT: true; the input reads as it did. -/
def sipBytesSpec : ChangeSpec := { name := "sipBytes", fn := fun _ => fun
  | [d1, d2, d3, d4, d5] => { results := [.lit (.bool true)], args := [d1, d2, d3, d4, d5] }
  | _ => none }
def sipBytesRow : OpenClaim := { program := "ytjlhfjcjmeonmaadoor", sum := "e12da071fd5fdfb69157d519b6e170f31421728c0d613b82d2779f5b8e0c15b3", func := "scantling/scantlinglaw01.SipBytes", spec := "sipBytes", named := ["math/bits.deBruijn64tab"], apart := false, laid := [("math/bits.deBruijn64tab", laid_math_bits_deBruijn64tab)] }
def SipBytesSaid : Prop := sipBytesRow.holds Tryd.pinned (OpenSpec.ofChange sipBytesSpec)

/-- ITS FALSE NEIGHBOUR: 'it returns false'. Refute it at one input. -/
def sipBytesWrong : ChangeSpec := { name := "sipBytes", fn := fun _ => fun
  | [d1, d2, d3, d4, d5] => { results := [.lit (.bool false)], args := [d1, d2, d3, d4, d5] }
  | _ => none }
def SipBytesWrongFalsely : Prop := sipBytesRow.holds Tryd.pinned (OpenSpec.ofChange sipBytesWrong)

/-- 'scantlinglaw01.SipKeys': WHATEVER THE INPUT: true; the input reads as it did. -/
def sipKeysSpec : ChangeSpec := { name := "sipKeys", fn := fun _ => fun
  | [d] => { results := [.lit (.bool true)], args := [d] }
  | _ => none }
def sipKeysRow : OpenClaim := { program := "ytjlhfjcjmeonmaadoor", sum := "e12da071fd5fdfb69157d519b6e170f31421728c0d613b82d2779f5b8e0c15b3", func := "scantling/scantlinglaw01.SipKeys", spec := "sipKeys", named := ["math/bits.deBruijn64tab"], apart := false, laid := [("math/bits.deBruijn64tab", laid_math_bits_deBruijn64tab)] }
def SipKeysSaid : Prop := sipKeysRow.holds Tryd.pinned (OpenSpec.ofChange sipKeysSpec)

/-- ITS FALSE NEIGHBOUR: 'it returns false'. Refute it at one input. -/
def sipKeysWrong : ChangeSpec := { name := "sipKeys", fn := fun _ => fun
  | [d] => { results := [.lit (.bool false)], args := [d] }
  | _ => none }
def SipKeysWrongFalsely : Prop := sipKeysRow.holds Tryd.pinned (OpenSpec.ofChange sipKeysWrong)

/- THE SECOND FORM. 'bulk': how many values and letters a reading holds, each counted each time it is reached (what is shared counts as often as it is met; a slice's spare places count too). A statement '..UptoSaid' is the law's where the arguments, and the package variables that the reading takes, are together of bulk at most 1048576: NARROWER than '..Said'. Prove '..Said' where nothing that the law and all that it calls make is longer than what came in: it says more and counts as full. Else prove '..UptoSaid'. A law counts once. -/
mutual
def uptoBulk {H : Type} : DataW H → Nat
  | .lit (.string bytes) => bytes.length + 1
  | .lit _ => 1
  | .nil => 1
  | .ptr d => uptoBulk d + 1
  | .slice elems spare => uptoBulkAll elems + uptoBulkAll spare + 1
  | .agg parts => uptoBulkAll parts + 1
  | .iface _ d => uptoBulk d + 1
  | .map entries => uptoBulkEntries entries + 1
  | .held _ => 1
def uptoBulkAll {H : Type} : List (DataW H) → Nat
  | [] => 0
  | d :: r => uptoBulk d + uptoBulkAll r
def uptoBulkEntries {H : Type} : List (Lit × DataW H) → Nat
  | [] => 0
  | x :: r => uptoBulkEntry x + uptoBulkEntries r
def uptoBulkEntry {H : Type} : Lit × DataW H → Nat
  | (.string bytes, d) => bytes.length + uptoBulk d + 1
  | (_, d) => uptoBulk d + 1
 end
def uptoSmall : (H : Type) → List (DataW H) → Bool := fun _ ds => decide (uptoBulkAll ds ≤ 1048576)
def OpenSpec.upto (s : _root_.Go.ChangeSpec) : _root_.Go.OpenSpec := { _root_.Go.OpenSpec.ofChange s with cond := some uptoSmall }

/-- 'scantlinglaw01.SipSums', WHERE WHAT IT READS IS OF BULK AT MOST 1048576: true; the input reads as it did. -/
def sipSumsUptoRow : OpenClaim := { program := "ytjlhfjcjmeonmaadoor", sum := "e12da071fd5fdfb69157d519b6e170f31421728c0d613b82d2779f5b8e0c15b3", func := "scantling/scantlinglaw01.SipSums", spec := "sipSums", named := ["math/bits.deBruijn64tab"], apart := false, laid := [("math/bits.deBruijn64tab", laid_math_bits_deBruijn64tab)], narrowed := true }
def SipSumsUptoSaid : Prop := sipSumsUptoRow.holds Tryd.pinned (OpenSpec.upto sipSumsSpec)

/-- 'scantlinglaw01.SipRanks', WHERE WHAT IT READS IS OF BULK AT MOST 1048576: true; the input reads as it did. -/
def sipRanksUptoRow : OpenClaim := { program := "ytjlhfjcjmeonmaadoor", sum := "e12da071fd5fdfb69157d519b6e170f31421728c0d613b82d2779f5b8e0c15b3", func := "scantling/scantlinglaw01.SipRanks", spec := "sipRanks", named := ["math/bits.deBruijn64tab"], apart := false, laid := [("math/bits.deBruijn64tab", laid_math_bits_deBruijn64tab)], narrowed := true }
def SipRanksUptoSaid : Prop := sipRanksUptoRow.holds Tryd.pinned (OpenSpec.upto sipRanksSpec)

/-- 'scantlinglaw01.SipSame', WHERE WHAT IT READS IS OF BULK AT MOST 1048576: true; the input reads as it did. -/
def sipSameUptoRow : OpenClaim := { program := "ytjlhfjcjmeonmaadoor", sum := "e12da071fd5fdfb69157d519b6e170f31421728c0d613b82d2779f5b8e0c15b3", func := "scantling/scantlinglaw01.SipSame", spec := "sipSame", named := ["math/bits.deBruijn64tab"], apart := false, laid := [("math/bits.deBruijn64tab", laid_math_bits_deBruijn64tab)], narrowed := true }
def SipSameUptoSaid : Prop := sipSameUptoRow.holds Tryd.pinned (OpenSpec.upto sipSameSpec)

/-- 'scantlinglaw01.SipBounds', WHERE WHAT IT READS IS OF BULK AT MOST 1048576: true; the input reads as it did. -/
def sipBoundsUptoRow : OpenClaim := { program := "ytjlhfjcjmeonmaadoor", sum := "e12da071fd5fdfb69157d519b6e170f31421728c0d613b82d2779f5b8e0c15b3", func := "scantling/scantlinglaw01.SipBounds", spec := "sipBounds", named := ["math/bits.deBruijn64tab"], apart := false, laid := [("math/bits.deBruijn64tab", laid_math_bits_deBruijn64tab)], narrowed := true }
def SipBoundsUptoSaid : Prop := sipBoundsUptoRow.holds Tryd.pinned (OpenSpec.upto sipBoundsSpec)

/-- 'scantlinglaw01.SipBytes', WHERE WHAT IT READS IS OF BULK AT MOST 1048576: true; the input reads as it did. -/
def sipBytesUptoRow : OpenClaim := { program := "ytjlhfjcjmeonmaadoor", sum := "e12da071fd5fdfb69157d519b6e170f31421728c0d613b82d2779f5b8e0c15b3", func := "scantling/scantlinglaw01.SipBytes", spec := "sipBytes", named := ["math/bits.deBruijn64tab"], apart := false, laid := [("math/bits.deBruijn64tab", laid_math_bits_deBruijn64tab)], narrowed := true }
def SipBytesUptoSaid : Prop := sipBytesUptoRow.holds Tryd.pinned (OpenSpec.upto sipBytesSpec)

/-- 'scantlinglaw01.SipKeys', WHERE WHAT IT READS IS OF BULK AT MOST 1048576: true; the input reads as it did. -/
def sipKeysUptoRow : OpenClaim := { program := "ytjlhfjcjmeonmaadoor", sum := "e12da071fd5fdfb69157d519b6e170f31421728c0d613b82d2779f5b8e0c15b3", func := "scantling/scantlinglaw01.SipKeys", spec := "sipKeys", named := ["math/bits.deBruijn64tab"], apart := false, laid := [("math/bits.deBruijn64tab", laid_math_bits_deBruijn64tab)], narrowed := true }
def SipKeysUptoSaid : Prop := sipKeysUptoRow.holds Tryd.pinned (OpenSpec.upto sipKeysSpec)

end Rows
end Go.Proofs.YtjlhfjcjmeonmaaDoor
