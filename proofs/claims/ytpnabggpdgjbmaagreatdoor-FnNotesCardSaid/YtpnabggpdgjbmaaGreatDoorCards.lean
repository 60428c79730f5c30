/-
  DERIVED. GIVEN WITH THE SEED: THE CARDS: each row of YtpnabggpdgjbmaaGreatDoorRows.lean that lists a variable, with what it lists TIED to the program's text (the seventh form; the later family's looks); each row that meets fmt, with fmt's text TOLD by the authors' own Lean function (tested against real Go, not proved from fmt's source: count such statements apart). THE CARD IS WHAT COUNTS. Prove the row's statement (the work); the ties are given (YtpnabggpdgjbmaaGreatDoorTie.lean); close each card by the builder's one call (the guide's Derived/Test/ToyasCard.lean, 'card_holds'). Laid BY PROGRAM, IN A SANDBOX (cutbox-door.mjs). By AI agents, Wed Nov 11 2026. No macro, syntax, notation, axiom, sorry.
-/
import Derived.Test.YtpnabggpdgjbmaaGreatDoorRows
import GoSem.ClaimSeven
namespace Go.Proofs.YtpnabggpdgjbmaaGreatDoor
namespace Rows

/-- THE TIED CARD OF 'laws.FnNotes'. -/
def fnNotesCard : Claim7 := { stood := { row := fnNotesRow, standIns := [], harness := (true, "c24f1e4d17862361e687cbd2992980b3f01ed2d0c66e92ba68c08e73f884b6e0"), looks := true }, kinds := [], alts := [], laidByText := true, laidKinds := [.data, .data, .data, .data, .sentinel, .sentinel, .pinned], laidTests := true, laidLooks := .later }
def FnNotesCardSaid : Prop := Claim7.holds Tryz.pinned (.plain (OpenSpec.ofChange fnNotesSpec)) fnNotesCard

/-- THE SECOND FORM's CARD OF 'laws.FnNotes'. -/
def fnNotesUptoCard : Claim7 := { stood := { row := fnNotesUptoRow, standIns := [], harness := (true, "c24f1e4d17862361e687cbd2992980b3f01ed2d0c66e92ba68c08e73f884b6e0"), looks := true }, kinds := [], alts := [], laidByText := true, laidKinds := [.data, .data, .data, .data, .sentinel, .sentinel, .pinned], laidTests := true, laidLooks := .later }
def FnNotesUptoCardSaid : Prop := Claim7.holds Tryz.pinned (.plain (OpenSpec.upto fnNotesSpec)) fnNotesUptoCard
end Rows
end Go.Proofs.YtpnabggpdgjbmaaGreatDoor
