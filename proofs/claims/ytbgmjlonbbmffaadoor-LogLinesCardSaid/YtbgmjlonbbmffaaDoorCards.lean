/-
  DERIVED. GIVEN WITH THE SEED: THE CARDS: each row of YtbgmjlonbbmffaaDoorRows.lean that lists a variable, with what it lists TIED to the program's text (the seventh form; the later family's looks); each row that meets fmt, with fmt's text TOLD by the authors' own Lean function (tested against real Go, not proved from fmt's source: count such statements apart). THE CARD IS WHAT COUNTS. Prove the row's statement (the work); the ties are given (YtbgmjlonbbmffaaDoorTie.lean); close each card by the builder's one call (the guide's Derived/Test/ToyasCard.lean, 'card_holds'). Laid BY PROGRAM, IN A SANDBOX (cutbox-door.mjs). By AI agents, Wed Nov 11 2026. No macro, syntax, notation, axiom, sorry.
-/
import Derived.Test.YtbgmjlonbbmffaaDoorRows
import GoSem.ClaimSeven
namespace Go.Proofs.YtbgmjlonbbmffaaDoor
namespace Rows

/-- THE TIED CARD OF 'bonsailaw27.LogOne'. -/
def logOneCard : Claim7 := { stood := { row := logOneRow, standIns := [], harness := (true, "c3e1f3fe5b92d9b3ee395265785ee4281ea65a72654e02fe3c41b54da2794573"), looks := false }, kinds := [], alts := [], laidByText := true, laidKinds := [.data, .data, .data], laidTests := true, laidLooks := .later }
def LogOneCardSaid : Prop := Claim7.holds Tryd.pinned (.plain (OpenSpec.ofChange logOneSpec)) logOneCard

/-- THE TIED CARD OF 'bonsailaw27.LogParts'. -/
def logPartsCard : Claim7 := { stood := { row := logPartsRow, standIns := [], harness := (true, "c3e1f3fe5b92d9b3ee395265785ee4281ea65a72654e02fe3c41b54da2794573"), looks := false }, kinds := [], alts := [], laidByText := true, laidKinds := [.data, .data, .data], laidTests := true, laidLooks := .later }
def LogPartsCardSaid : Prop := Claim7.holds Tryd.pinned (.plain (OpenSpec.ofChange logPartsSpec)) logPartsCard

/-- THE TIED CARD OF 'bonsailaw27.LogBack'. -/
def logBackCard : Claim7 := { stood := { row := logBackRow, standIns := [], harness := (true, "c3e1f3fe5b92d9b3ee395265785ee4281ea65a72654e02fe3c41b54da2794573"), looks := false }, kinds := [], alts := [], laidByText := true, laidKinds := [.data, .data, .data, .data, .pinned], laidTests := true, laidLooks := .later }
def LogBackCardSaid : Prop := Claim7.holds Tryd.pinned (.plain (OpenSpec.ofChange logBackSpec)) logBackCard

/-- THE TIED CARD OF 'bonsailaw27.LogLines'. -/
def logLinesCard : Claim7 := { stood := { row := logLinesRow, standIns := [], harness := (true, "c3e1f3fe5b92d9b3ee395265785ee4281ea65a72654e02fe3c41b54da2794573"), looks := false }, kinds := [], alts := [], laidByText := true, laidKinds := [.data, .data, .data, .data, .pinned], laidTests := true, laidLooks := .later }
def LogLinesCardSaid : Prop := Claim7.holds Tryd.pinned (.plain (OpenSpec.ofChange logLinesSpec)) logLinesCard

/-- THE SECOND FORM's CARD OF 'bonsailaw27.LogOne'. -/
def logOneUptoCard : Claim7 := { stood := { row := logOneUptoRow, standIns := [], harness := (true, "c3e1f3fe5b92d9b3ee395265785ee4281ea65a72654e02fe3c41b54da2794573"), looks := false }, kinds := [], alts := [], laidByText := true, laidKinds := [.data, .data, .data], laidTests := true, laidLooks := .later }
def LogOneUptoCardSaid : Prop := Claim7.holds Tryd.pinned (.plain (OpenSpec.upto logOneSpec)) logOneUptoCard

/-- THE SECOND FORM's CARD OF 'bonsailaw27.LogParts'. -/
def logPartsUptoCard : Claim7 := { stood := { row := logPartsUptoRow, standIns := [], harness := (true, "c3e1f3fe5b92d9b3ee395265785ee4281ea65a72654e02fe3c41b54da2794573"), looks := false }, kinds := [], alts := [], laidByText := true, laidKinds := [.data, .data, .data], laidTests := true, laidLooks := .later }
def LogPartsUptoCardSaid : Prop := Claim7.holds Tryd.pinned (.plain (OpenSpec.upto logPartsSpec)) logPartsUptoCard

/-- THE SECOND FORM's CARD OF 'bonsailaw27.LogBack'. -/
def logBackUptoCard : Claim7 := { stood := { row := logBackUptoRow, standIns := [], harness := (true, "c3e1f3fe5b92d9b3ee395265785ee4281ea65a72654e02fe3c41b54da2794573"), looks := false }, kinds := [], alts := [], laidByText := true, laidKinds := [.data, .data, .data, .data, .pinned], laidTests := true, laidLooks := .later }
def LogBackUptoCardSaid : Prop := Claim7.holds Tryd.pinned (.plain (OpenSpec.upto logBackSpec)) logBackUptoCard

/-- THE SECOND FORM's CARD OF 'bonsailaw27.LogLines'. -/
def logLinesUptoCard : Claim7 := { stood := { row := logLinesUptoRow, standIns := [], harness := (true, "c3e1f3fe5b92d9b3ee395265785ee4281ea65a72654e02fe3c41b54da2794573"), looks := false }, kinds := [], alts := [], laidByText := true, laidKinds := [.data, .data, .data, .data, .pinned], laidTests := true, laidLooks := .later }
def LogLinesUptoCardSaid : Prop := Claim7.holds Tryd.pinned (.plain (OpenSpec.upto logLinesSpec)) logLinesUptoCard
end Rows
end Go.Proofs.YtbgmjlonbbmffaaDoor
