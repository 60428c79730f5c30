/-
  DERIVED. GIVEN WITH THE SEED: THE CARDS: each row of YtaajdkgcfoppeaaDoorRows.lean that lists a variable, with what it lists TIED to the program's text (the seventh form; the later family's looks); each row that meets fmt, with fmt's text TOLD by the authors' own Lean function (tested against real Go, not proved from fmt's source: count such statements apart). THE CARD IS WHAT COUNTS. Prove the row's statement (the work); the ties are given (YtaajdkgcfoppeaaDoorTie.lean); close each card by the builder's one call (the guide's Derived/Test/ToyasCard.lean, 'card_holds'). Laid BY PROGRAM, IN A SANDBOX (cutbox-door.mjs). By AI agents, Wed Nov 11 2026. No macro, syntax, notation, axiom, sorry.
-/
import Derived.Test.YtaajdkgcfoppeaaDoorRows
import GoSem.ClaimSeven
namespace Go.Proofs.YtaajdkgcfoppeaaDoor
namespace Rows

/-- THE TIED CARD OF 'laws.FnExactReadCertificate'. -/
def fnExactReadCertificateCard : Claim7 := { stood := { row := fnExactReadCertificateRow, standIns := [], harness := (true, "a92b46d2464dccb0d0f59d3557fe6303ee34983917235fc94acabc68c9985611"), looks := true }, kinds := [], alts := [], laidByText := true, laidKinds := [.data, .data, .data, .data, .sentinel, .sentinel, .pinned], laidTests := true, laidLooks := .later }
def FnExactReadCertificateCardSaid : Prop := Claim7.holds Tryd.pinned (.plain (OpenSpec.ofChange fnExactReadCertificateSpec)) fnExactReadCertificateCard

/-- THE SECOND FORM's CARD OF 'laws.FnExactReadCertificate'. -/
def fnExactReadCertificateUptoCard : Claim7 := { stood := { row := fnExactReadCertificateUptoRow, standIns := [], harness := (true, "a92b46d2464dccb0d0f59d3557fe6303ee34983917235fc94acabc68c9985611"), looks := true }, kinds := [], alts := [], laidByText := true, laidKinds := [.data, .data, .data, .data, .sentinel, .sentinel, .pinned], laidTests := true, laidLooks := .later }
def FnExactReadCertificateUptoCardSaid : Prop := Claim7.holds Tryd.pinned (.plain (OpenSpec.upto fnExactReadCertificateSpec)) fnExactReadCertificateUptoCard
end Rows
end Go.Proofs.YtaajdkgcfoppeaaDoor
