/-
  DERIVED. GIVEN WITH THE SEED: THE CARDS: each row of YtmgfceiomfiknaaDoorRows.lean that lists a variable, with what it lists TIED to the program's text (the seventh form; the later family's looks); each row that meets fmt, with fmt's text TOLD by the authors' own Lean function (tested against real Go, not proved from fmt's source: count such statements apart). THE CARD IS WHAT COUNTS. Prove the row's statement (the work); the ties are given (YtmgfceiomfiknaaDoorTie.lean); close each card by the builder's one call (the guide's Derived/Test/ToyasCard.lean, 'card_holds'). Laid BY PROGRAM, IN A SANDBOX (cutbox-door.mjs). By AI agents, Wed Nov 11 2026. No macro, syntax, notation, axiom, sorry.
-/
import Derived.Test.YtmgfceiomfiknaaDoorRows
import GoSem.ClaimSeven
namespace Go.Proofs.YtmgfceiomfiknaaDoor
namespace Rows

/-- THE TIED CARD OF 'laws.FnExactCertificateText'. -/
def fnExactCertificateTextCard : Claim7 := { stood := { row := fnExactCertificateTextRow, standIns := [], harness := (true, "3adebeaeeddc3798a75c13f9f047d5a1c03f6293f742c9706d7304899e8e808e"), looks := false }, kinds := [], alts := [], laidByText := true, laidKinds := [.data, .data, .data], laidTests := true, laidLooks := .later }
def FnExactCertificateTextCardSaid : Prop := Claim7.holds Tryd.pinned (.plain (OpenSpec.ofChange fnExactCertificateTextSpec)) fnExactCertificateTextCard

/-- THE TIED CARD OF 'laws.FnExactNotesText'. -/
def fnExactNotesTextCard : Claim7 := { stood := { row := fnExactNotesTextRow, standIns := [], harness := (true, "3adebeaeeddc3798a75c13f9f047d5a1c03f6293f742c9706d7304899e8e808e"), looks := false }, kinds := [], alts := [], laidByText := true, laidKinds := [.data, .data, .data], laidTests := true, laidLooks := .later }
def FnExactNotesTextCardSaid : Prop := Claim7.holds Tryd.pinned (.plain (OpenSpec.ofChange fnExactNotesTextSpec)) fnExactNotesTextCard

/-- THE TIED CARD OF 'laws.FnExactClaimOf'. -/
def fnExactClaimOfCard : Claim7 := { stood := { row := fnExactClaimOfRow, standIns := [], harness := (true, "3adebeaeeddc3798a75c13f9f047d5a1c03f6293f742c9706d7304899e8e808e"), looks := false }, kinds := [], alts := [], laidByText := true, laidKinds := [.data, .data, .data], laidTests := true, laidLooks := .later }
def FnExactClaimOfCardSaid : Prop := Claim7.holds Tryd.pinned (.plain (OpenSpec.ofChange fnExactClaimOfSpec)) fnExactClaimOfCard

/-- THE SECOND FORM's CARD OF 'laws.FnExactCertificateText'. -/
def fnExactCertificateTextUptoCard : Claim7 := { stood := { row := fnExactCertificateTextUptoRow, standIns := [], harness := (true, "3adebeaeeddc3798a75c13f9f047d5a1c03f6293f742c9706d7304899e8e808e"), looks := false }, kinds := [], alts := [], laidByText := true, laidKinds := [.data, .data, .data], laidTests := true, laidLooks := .later }
def FnExactCertificateTextUptoCardSaid : Prop := Claim7.holds Tryd.pinned (.plain (OpenSpec.upto fnExactCertificateTextSpec)) fnExactCertificateTextUptoCard

/-- THE SECOND FORM's CARD OF 'laws.FnExactNotesText'. -/
def fnExactNotesTextUptoCard : Claim7 := { stood := { row := fnExactNotesTextUptoRow, standIns := [], harness := (true, "3adebeaeeddc3798a75c13f9f047d5a1c03f6293f742c9706d7304899e8e808e"), looks := false }, kinds := [], alts := [], laidByText := true, laidKinds := [.data, .data, .data], laidTests := true, laidLooks := .later }
def FnExactNotesTextUptoCardSaid : Prop := Claim7.holds Tryd.pinned (.plain (OpenSpec.upto fnExactNotesTextSpec)) fnExactNotesTextUptoCard

/-- THE SECOND FORM's CARD OF 'laws.FnExactClaimOf'. -/
def fnExactClaimOfUptoCard : Claim7 := { stood := { row := fnExactClaimOfUptoRow, standIns := [], harness := (true, "3adebeaeeddc3798a75c13f9f047d5a1c03f6293f742c9706d7304899e8e808e"), looks := false }, kinds := [], alts := [], laidByText := true, laidKinds := [.data, .data, .data], laidTests := true, laidLooks := .later }
def FnExactClaimOfUptoCardSaid : Prop := Claim7.holds Tryd.pinned (.plain (OpenSpec.upto fnExactClaimOfSpec)) fnExactClaimOfUptoCard
end Rows
end Go.Proofs.YtmgfceiomfiknaaDoor
