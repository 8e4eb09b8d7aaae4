/-
  DERIVED. GIVEN WITH THE SEED: THE CARDS: each row of YtakcckdnliiieaaDoorRows.lean that lists a variable, with what it lists TIED to the program's text (the seventh form; the later family's looks); each row that meets fmt, with fmt's text TOLD by the authors' own Lean function (tested against real Go, not proved from fmt's source: count such statements apart). THE CARD IS WHAT COUNTS. Prove the row's statement (the work); the ties are given (YtakcckdnliiieaaDoorTie.lean); close each card by the builder's one call (the guide's Derived/Test/ToyasCard.lean, 'card_holds'). Laid BY PROGRAM, IN A SANDBOX (cutbox-door.mjs). By AI agents, Wed Nov 11 2026. No macro, syntax, notation, axiom, sorry.
-/
import Derived.Test.YtakcckdnliiieaaDoorRows
import GoSem.ClaimSeven
namespace Go.Proofs.YtakcckdnliiieaaDoor
namespace Rows

/-- THE TIED CARD OF 'bonsailaw01.SetTells'. -/
def setTellsCard : Claim7 := { stood := { row := setTellsRow, standIns := [], harness := (true, "3d62946ba3c2d8d1c4f87b3073421fa4cf05505a4d7a54c74da1f3b6088f7aa9"), looks := false }, kinds := [], alts := [], laidByText := true, laidKinds := [.data], laidTests := true, laidLooks := .later }
def SetTellsCardSaid : Prop := Claim7.holds Tryd.pinned (.plain (OpenSpec.ofChange setTellsSpec)) setTellsCard

/-- THE TIED CARD OF 'bonsailaw01.SetRuns'. -/
def setRunsCard : Claim7 := { stood := { row := setRunsRow, standIns := [], harness := (true, "3d62946ba3c2d8d1c4f87b3073421fa4cf05505a4d7a54c74da1f3b6088f7aa9"), looks := false }, kinds := [], alts := [], laidByText := true, laidKinds := [.data], laidTests := true, laidLooks := .later }
def SetRunsCardSaid : Prop := Claim7.holds Tryd.pinned (.plain (OpenSpec.ofChange setRunsSpec)) setRunsCard

/-- THE TIED CARD OF 'bonsailaw01.SetNames'. -/
def setNamesCard : Claim7 := { stood := { row := setNamesRow, standIns := [], harness := (true, "3d62946ba3c2d8d1c4f87b3073421fa4cf05505a4d7a54c74da1f3b6088f7aa9"), looks := false }, kinds := [], alts := [], laidByText := true, laidKinds := [.data], laidTests := true, laidLooks := .later }
def SetNamesCardSaid : Prop := Claim7.holds Tryd.pinned (.plain (OpenSpec.ofChange setNamesSpec)) setNamesCard

/-- THE TIED CARD OF 'bonsailaw01.SetOrder'. -/
def setOrderCard : Claim7 := { stood := { row := setOrderRow, standIns := [], harness := (true, "3d62946ba3c2d8d1c4f87b3073421fa4cf05505a4d7a54c74da1f3b6088f7aa9"), looks := false }, kinds := [], alts := [], laidByText := true, laidKinds := [.data], laidTests := true, laidLooks := .later }
def SetOrderCardSaid : Prop := Claim7.holds Tryd.pinned (.plain (OpenSpec.ofChange setOrderSpec)) setOrderCard

/-- THE TIED CARD OF 'bonsailaw01.SetLaws'. -/
def setLawsCard : Claim7 := { stood := { row := setLawsRow, standIns := [], harness := (true, "3d62946ba3c2d8d1c4f87b3073421fa4cf05505a4d7a54c74da1f3b6088f7aa9"), looks := false }, kinds := [], alts := [], laidByText := true, laidKinds := [.data], laidTests := true, laidLooks := .later }
def SetLawsCardSaid : Prop := Claim7.holds Tryd.pinned (.plain (OpenSpec.ofChange setLawsSpec)) setLawsCard

/-- THE TIED CARD OF 'bonsailaw01.SetParts'. -/
def setPartsCard : Claim7 := { stood := { row := setPartsRow, standIns := [], harness := (true, "3d62946ba3c2d8d1c4f87b3073421fa4cf05505a4d7a54c74da1f3b6088f7aa9"), looks := false }, kinds := [], alts := [], laidByText := true, laidKinds := [.data], laidTests := true, laidLooks := .later }
def SetPartsCardSaid : Prop := Claim7.holds Tryd.pinned (.plain (OpenSpec.ofChange setPartsSpec)) setPartsCard

/-- THE TIED CARD OF 'bonsailaw03.QuoteNames'. -/
def quoteNamesCard : Claim7 := { stood := { row := quoteNamesRow, standIns := [], harness := (true, "3d62946ba3c2d8d1c4f87b3073421fa4cf05505a4d7a54c74da1f3b6088f7aa9"), looks := false }, kinds := [], alts := [], laidByText := true, laidKinds := [.data], laidTests := true, laidLooks := .later }
def QuoteNamesCardSaid : Prop := Claim7.holds Tryd.pinned (.plain (OpenSpec.ofChange quoteNamesSpec)) quoteNamesCard

/-- THE TIED CARD OF 'bonsailaw03.QuoteTexts'. -/
def quoteTextsCard : Claim7 := { stood := { row := quoteTextsRow, standIns := [], harness := (true, "3d62946ba3c2d8d1c4f87b3073421fa4cf05505a4d7a54c74da1f3b6088f7aa9"), looks := false }, kinds := [], alts := [], laidByText := true, laidKinds := [.data], laidTests := true, laidLooks := .later }
def QuoteTextsCardSaid : Prop := Claim7.holds Tryd.pinned (.plain (OpenSpec.ofChange quoteTextsSpec)) quoteTextsCard

/-- THE TIED CARD OF 'bonsailaw03.QuoteClasses'. -/
def quoteClassesCard : Claim7 := { stood := { row := quoteClassesRow, standIns := [], harness := (true, "3d62946ba3c2d8d1c4f87b3073421fa4cf05505a4d7a54c74da1f3b6088f7aa9"), looks := false }, kinds := [], alts := [], laidByText := true, laidKinds := [.data], laidTests := true, laidLooks := .later }
def QuoteClassesCardSaid : Prop := Claim7.holds Tryd.pinned (.plain (OpenSpec.ofChange quoteClassesSpec)) quoteClassesCard

/-- THE TIED CARD OF 'bonsailaw03.QuoteBack'. -/
def quoteBackCard : Claim7 := { stood := { row := quoteBackRow, standIns := [], harness := (true, "3d62946ba3c2d8d1c4f87b3073421fa4cf05505a4d7a54c74da1f3b6088f7aa9"), looks := false }, kinds := [], alts := [], laidByText := true, laidKinds := [.data], laidTests := true, laidLooks := .later }
def QuoteBackCardSaid : Prop := Claim7.holds Tryd.pinned (.plain (OpenSpec.ofChange quoteBackSpec)) quoteBackCard

/-- THE TIED CARD OF 'bonsailaw03.QuotePlain'. -/
def quotePlainCard : Claim7 := { stood := { row := quotePlainRow, standIns := [], harness := (true, "3d62946ba3c2d8d1c4f87b3073421fa4cf05505a4d7a54c74da1f3b6088f7aa9"), looks := false }, kinds := [], alts := [], laidByText := true, laidKinds := [.data], laidTests := true, laidLooks := .later }
def QuotePlainCardSaid : Prop := Claim7.holds Tryd.pinned (.plain (OpenSpec.ofChange quotePlainSpec)) quotePlainCard

/-- THE TIED CARD OF 'bonsailaw03.QuoteShort'. -/
def quoteShortCard : Claim7 := { stood := { row := quoteShortRow, standIns := [], harness := (true, "3d62946ba3c2d8d1c4f87b3073421fa4cf05505a4d7a54c74da1f3b6088f7aa9"), looks := false }, kinds := [], alts := [], laidByText := true, laidKinds := [.data], laidTests := true, laidLooks := .later }
def QuoteShortCardSaid : Prop := Claim7.holds Tryd.pinned (.plain (OpenSpec.ofChange quoteShortSpec)) quoteShortCard

/-- THE SECOND FORM's CARD OF 'bonsailaw01.SetTells'. -/
def setTellsUptoCard : Claim7 := { stood := { row := setTellsUptoRow, standIns := [], harness := (true, "3d62946ba3c2d8d1c4f87b3073421fa4cf05505a4d7a54c74da1f3b6088f7aa9"), looks := false }, kinds := [], alts := [], laidByText := true, laidKinds := [.data], laidTests := true, laidLooks := .later }
def SetTellsUptoCardSaid : Prop := Claim7.holds Tryd.pinned (.plain (OpenSpec.upto setTellsSpec)) setTellsUptoCard

/-- THE SECOND FORM's CARD OF 'bonsailaw01.SetRuns'. -/
def setRunsUptoCard : Claim7 := { stood := { row := setRunsUptoRow, standIns := [], harness := (true, "3d62946ba3c2d8d1c4f87b3073421fa4cf05505a4d7a54c74da1f3b6088f7aa9"), looks := false }, kinds := [], alts := [], laidByText := true, laidKinds := [.data], laidTests := true, laidLooks := .later }
def SetRunsUptoCardSaid : Prop := Claim7.holds Tryd.pinned (.plain (OpenSpec.upto setRunsSpec)) setRunsUptoCard

/-- THE SECOND FORM's CARD OF 'bonsailaw01.SetNames'. -/
def setNamesUptoCard : Claim7 := { stood := { row := setNamesUptoRow, standIns := [], harness := (true, "3d62946ba3c2d8d1c4f87b3073421fa4cf05505a4d7a54c74da1f3b6088f7aa9"), looks := false }, kinds := [], alts := [], laidByText := true, laidKinds := [.data], laidTests := true, laidLooks := .later }
def SetNamesUptoCardSaid : Prop := Claim7.holds Tryd.pinned (.plain (OpenSpec.upto setNamesSpec)) setNamesUptoCard

/-- THE SECOND FORM's CARD OF 'bonsailaw01.SetOrder'. -/
def setOrderUptoCard : Claim7 := { stood := { row := setOrderUptoRow, standIns := [], harness := (true, "3d62946ba3c2d8d1c4f87b3073421fa4cf05505a4d7a54c74da1f3b6088f7aa9"), looks := false }, kinds := [], alts := [], laidByText := true, laidKinds := [.data], laidTests := true, laidLooks := .later }
def SetOrderUptoCardSaid : Prop := Claim7.holds Tryd.pinned (.plain (OpenSpec.upto setOrderSpec)) setOrderUptoCard

/-- THE SECOND FORM's CARD OF 'bonsailaw01.SetLaws'. -/
def setLawsUptoCard : Claim7 := { stood := { row := setLawsUptoRow, standIns := [], harness := (true, "3d62946ba3c2d8d1c4f87b3073421fa4cf05505a4d7a54c74da1f3b6088f7aa9"), looks := false }, kinds := [], alts := [], laidByText := true, laidKinds := [.data], laidTests := true, laidLooks := .later }
def SetLawsUptoCardSaid : Prop := Claim7.holds Tryd.pinned (.plain (OpenSpec.upto setLawsSpec)) setLawsUptoCard

/-- THE SECOND FORM's CARD OF 'bonsailaw01.SetParts'. -/
def setPartsUptoCard : Claim7 := { stood := { row := setPartsUptoRow, standIns := [], harness := (true, "3d62946ba3c2d8d1c4f87b3073421fa4cf05505a4d7a54c74da1f3b6088f7aa9"), looks := false }, kinds := [], alts := [], laidByText := true, laidKinds := [.data], laidTests := true, laidLooks := .later }
def SetPartsUptoCardSaid : Prop := Claim7.holds Tryd.pinned (.plain (OpenSpec.upto setPartsSpec)) setPartsUptoCard

/-- THE SECOND FORM's CARD OF 'bonsailaw03.QuoteNames'. -/
def quoteNamesUptoCard : Claim7 := { stood := { row := quoteNamesUptoRow, standIns := [], harness := (true, "3d62946ba3c2d8d1c4f87b3073421fa4cf05505a4d7a54c74da1f3b6088f7aa9"), looks := false }, kinds := [], alts := [], laidByText := true, laidKinds := [.data], laidTests := true, laidLooks := .later }
def QuoteNamesUptoCardSaid : Prop := Claim7.holds Tryd.pinned (.plain (OpenSpec.upto quoteNamesSpec)) quoteNamesUptoCard

/-- THE SECOND FORM's CARD OF 'bonsailaw03.QuoteTexts'. -/
def quoteTextsUptoCard : Claim7 := { stood := { row := quoteTextsUptoRow, standIns := [], harness := (true, "3d62946ba3c2d8d1c4f87b3073421fa4cf05505a4d7a54c74da1f3b6088f7aa9"), looks := false }, kinds := [], alts := [], laidByText := true, laidKinds := [.data], laidTests := true, laidLooks := .later }
def QuoteTextsUptoCardSaid : Prop := Claim7.holds Tryd.pinned (.plain (OpenSpec.upto quoteTextsSpec)) quoteTextsUptoCard

/-- THE SECOND FORM's CARD OF 'bonsailaw03.QuoteClasses'. -/
def quoteClassesUptoCard : Claim7 := { stood := { row := quoteClassesUptoRow, standIns := [], harness := (true, "3d62946ba3c2d8d1c4f87b3073421fa4cf05505a4d7a54c74da1f3b6088f7aa9"), looks := false }, kinds := [], alts := [], laidByText := true, laidKinds := [.data], laidTests := true, laidLooks := .later }
def QuoteClassesUptoCardSaid : Prop := Claim7.holds Tryd.pinned (.plain (OpenSpec.upto quoteClassesSpec)) quoteClassesUptoCard

/-- THE SECOND FORM's CARD OF 'bonsailaw03.QuoteBack'. -/
def quoteBackUptoCard : Claim7 := { stood := { row := quoteBackUptoRow, standIns := [], harness := (true, "3d62946ba3c2d8d1c4f87b3073421fa4cf05505a4d7a54c74da1f3b6088f7aa9"), looks := false }, kinds := [], alts := [], laidByText := true, laidKinds := [.data], laidTests := true, laidLooks := .later }
def QuoteBackUptoCardSaid : Prop := Claim7.holds Tryd.pinned (.plain (OpenSpec.upto quoteBackSpec)) quoteBackUptoCard

/-- THE SECOND FORM's CARD OF 'bonsailaw03.QuotePlain'. -/
def quotePlainUptoCard : Claim7 := { stood := { row := quotePlainUptoRow, standIns := [], harness := (true, "3d62946ba3c2d8d1c4f87b3073421fa4cf05505a4d7a54c74da1f3b6088f7aa9"), looks := false }, kinds := [], alts := [], laidByText := true, laidKinds := [.data], laidTests := true, laidLooks := .later }
def QuotePlainUptoCardSaid : Prop := Claim7.holds Tryd.pinned (.plain (OpenSpec.upto quotePlainSpec)) quotePlainUptoCard

/-- THE SECOND FORM's CARD OF 'bonsailaw03.QuoteShort'. -/
def quoteShortUptoCard : Claim7 := { stood := { row := quoteShortUptoRow, standIns := [], harness := (true, "3d62946ba3c2d8d1c4f87b3073421fa4cf05505a4d7a54c74da1f3b6088f7aa9"), looks := false }, kinds := [], alts := [], laidByText := true, laidKinds := [.data], laidTests := true, laidLooks := .later }
def QuoteShortUptoCardSaid : Prop := Claim7.holds Tryd.pinned (.plain (OpenSpec.upto quoteShortSpec)) quoteShortUptoCard
end Rows
end Go.Proofs.YtakcckdnliiieaaDoor
