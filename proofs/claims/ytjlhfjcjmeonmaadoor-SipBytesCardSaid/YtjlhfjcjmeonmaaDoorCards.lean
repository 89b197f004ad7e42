/-
  DERIVED. GIVEN WITH THE SEED: THE CARDS: each row of YtjlhfjcjmeonmaaDoorRows.lean that lists a variable, with what it lists TIED to the program's text (the seventh form; the later family's looks); each row that meets fmt, with fmt's text TOLD by the authors' own Lean function (tested against real Go, not proved from fmt's source: count such statements apart). THE CARD IS WHAT COUNTS. Prove the row's statement (the work); the ties are given (YtjlhfjcjmeonmaaDoorTie.lean); close each card by the builder's one call (the guide's Derived/Test/ToyasCard.lean, 'card_holds'). Laid BY PROGRAM, IN A SANDBOX (cutbox-door.mjs). By AI agents, Wed Nov 11 2026. No macro, syntax, notation, axiom, sorry.
-/
import Derived.Test.YtjlhfjcjmeonmaaDoorRows
import GoSem.ClaimSeven
namespace Go.Proofs.YtjlhfjcjmeonmaaDoor
namespace Rows

/-- THE TIED CARD OF 'scantlinglaw01.SipSums'. -/
def sipSumsCard : Claim7 := { stood := { row := sipSumsRow, standIns := [], harness := (true, "54b563107a12f3de2a93294f38cf7c957915ae879887df0c9e86dfc531bbb7c8"), looks := false }, kinds := [], alts := [], laidByText := true, laidKinds := [.data], laidTests := true, laidLooks := .later }
def SipSumsCardSaid : Prop := Claim7.holds Tryd.pinned (.plain (OpenSpec.ofChange sipSumsSpec)) sipSumsCard

/-- THE TIED CARD OF 'scantlinglaw01.SipRanks'. -/
def sipRanksCard : Claim7 := { stood := { row := sipRanksRow, standIns := [], harness := (true, "54b563107a12f3de2a93294f38cf7c957915ae879887df0c9e86dfc531bbb7c8"), looks := false }, kinds := [], alts := [], laidByText := true, laidKinds := [.data], laidTests := true, laidLooks := .later }
def SipRanksCardSaid : Prop := Claim7.holds Tryd.pinned (.plain (OpenSpec.ofChange sipRanksSpec)) sipRanksCard

/-- THE TIED CARD OF 'scantlinglaw01.SipSame'. -/
def sipSameCard : Claim7 := { stood := { row := sipSameRow, standIns := [], harness := (true, "54b563107a12f3de2a93294f38cf7c957915ae879887df0c9e86dfc531bbb7c8"), looks := false }, kinds := [], alts := [], laidByText := true, laidKinds := [.data], laidTests := true, laidLooks := .later }
def SipSameCardSaid : Prop := Claim7.holds Tryd.pinned (.plain (OpenSpec.ofChange sipSameSpec)) sipSameCard

/-- THE TIED CARD OF 'scantlinglaw01.SipBounds'. -/
def sipBoundsCard : Claim7 := { stood := { row := sipBoundsRow, standIns := [], harness := (true, "54b563107a12f3de2a93294f38cf7c957915ae879887df0c9e86dfc531bbb7c8"), looks := false }, kinds := [], alts := [], laidByText := true, laidKinds := [.data], laidTests := true, laidLooks := .later }
def SipBoundsCardSaid : Prop := Claim7.holds Tryd.pinned (.plain (OpenSpec.ofChange sipBoundsSpec)) sipBoundsCard

/-- THE TIED CARD OF 'scantlinglaw01.SipBytes'. -/
def sipBytesCard : Claim7 := { stood := { row := sipBytesRow, standIns := [], harness := (true, "54b563107a12f3de2a93294f38cf7c957915ae879887df0c9e86dfc531bbb7c8"), looks := false }, kinds := [], alts := [], laidByText := true, laidKinds := [.data], laidTests := true, laidLooks := .later }
def SipBytesCardSaid : Prop := Claim7.holds Tryd.pinned (.plain (OpenSpec.ofChange sipBytesSpec)) sipBytesCard

/-- THE TIED CARD OF 'scantlinglaw01.SipKeys'. -/
def sipKeysCard : Claim7 := { stood := { row := sipKeysRow, standIns := [], harness := (true, "54b563107a12f3de2a93294f38cf7c957915ae879887df0c9e86dfc531bbb7c8"), looks := false }, kinds := [], alts := [], laidByText := true, laidKinds := [.data], laidTests := true, laidLooks := .later }
def SipKeysCardSaid : Prop := Claim7.holds Tryd.pinned (.plain (OpenSpec.ofChange sipKeysSpec)) sipKeysCard

/-- THE SECOND FORM's CARD OF 'scantlinglaw01.SipSums'. -/
def sipSumsUptoCard : Claim7 := { stood := { row := sipSumsUptoRow, standIns := [], harness := (true, "54b563107a12f3de2a93294f38cf7c957915ae879887df0c9e86dfc531bbb7c8"), looks := false }, kinds := [], alts := [], laidByText := true, laidKinds := [.data], laidTests := true, laidLooks := .later }
def SipSumsUptoCardSaid : Prop := Claim7.holds Tryd.pinned (.plain (OpenSpec.upto sipSumsSpec)) sipSumsUptoCard

/-- THE SECOND FORM's CARD OF 'scantlinglaw01.SipRanks'. -/
def sipRanksUptoCard : Claim7 := { stood := { row := sipRanksUptoRow, standIns := [], harness := (true, "54b563107a12f3de2a93294f38cf7c957915ae879887df0c9e86dfc531bbb7c8"), looks := false }, kinds := [], alts := [], laidByText := true, laidKinds := [.data], laidTests := true, laidLooks := .later }
def SipRanksUptoCardSaid : Prop := Claim7.holds Tryd.pinned (.plain (OpenSpec.upto sipRanksSpec)) sipRanksUptoCard

/-- THE SECOND FORM's CARD OF 'scantlinglaw01.SipSame'. -/
def sipSameUptoCard : Claim7 := { stood := { row := sipSameUptoRow, standIns := [], harness := (true, "54b563107a12f3de2a93294f38cf7c957915ae879887df0c9e86dfc531bbb7c8"), looks := false }, kinds := [], alts := [], laidByText := true, laidKinds := [.data], laidTests := true, laidLooks := .later }
def SipSameUptoCardSaid : Prop := Claim7.holds Tryd.pinned (.plain (OpenSpec.upto sipSameSpec)) sipSameUptoCard

/-- THE SECOND FORM's CARD OF 'scantlinglaw01.SipBounds'. -/
def sipBoundsUptoCard : Claim7 := { stood := { row := sipBoundsUptoRow, standIns := [], harness := (true, "54b563107a12f3de2a93294f38cf7c957915ae879887df0c9e86dfc531bbb7c8"), looks := false }, kinds := [], alts := [], laidByText := true, laidKinds := [.data], laidTests := true, laidLooks := .later }
def SipBoundsUptoCardSaid : Prop := Claim7.holds Tryd.pinned (.plain (OpenSpec.upto sipBoundsSpec)) sipBoundsUptoCard

/-- THE SECOND FORM's CARD OF 'scantlinglaw01.SipBytes'. -/
def sipBytesUptoCard : Claim7 := { stood := { row := sipBytesUptoRow, standIns := [], harness := (true, "54b563107a12f3de2a93294f38cf7c957915ae879887df0c9e86dfc531bbb7c8"), looks := false }, kinds := [], alts := [], laidByText := true, laidKinds := [.data], laidTests := true, laidLooks := .later }
def SipBytesUptoCardSaid : Prop := Claim7.holds Tryd.pinned (.plain (OpenSpec.upto sipBytesSpec)) sipBytesUptoCard

/-- THE SECOND FORM's CARD OF 'scantlinglaw01.SipKeys'. -/
def sipKeysUptoCard : Claim7 := { stood := { row := sipKeysUptoRow, standIns := [], harness := (true, "54b563107a12f3de2a93294f38cf7c957915ae879887df0c9e86dfc531bbb7c8"), looks := false }, kinds := [], alts := [], laidByText := true, laidKinds := [.data], laidTests := true, laidLooks := .later }
def SipKeysUptoCardSaid : Prop := Claim7.holds Tryd.pinned (.plain (OpenSpec.upto sipKeysSpec)) sipKeysUptoCard
end Rows
end Go.Proofs.YtjlhfjcjmeonmaaDoor
