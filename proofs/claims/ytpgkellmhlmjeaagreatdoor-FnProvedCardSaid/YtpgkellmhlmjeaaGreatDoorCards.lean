/-
  DERIVED. GIVEN WITH THE SEED: THE CARDS: each row of YtpgkellmhlmjeaaGreatDoorRows.lean that lists a variable, with what it lists TIED to the program's text (the seventh form; the later family's looks); each row that meets fmt, with fmt's text TOLD by the authors' own Lean function (tested against real Go, not proved from fmt's source: count such statements apart). THE CARD IS WHAT COUNTS. Prove the row's statement (the work); the ties are given (YtpgkellmhlmjeaaGreatDoorTie.lean); close each card by the builder's one call (the guide's Derived/Test/ToyasCard.lean, 'card_holds'). Laid BY PROGRAM, IN A SANDBOX (cutbox-door.mjs). By AI agents, Wed Nov 11 2026. No macro, syntax, notation, axiom, sorry.
-/
import Derived.Test.YtpgkellmhlmjeaaGreatDoorRows
import GoSem.ClaimSeven
namespace Go.Proofs.YtpgkellmhlmjeaaGreatDoor
namespace Rows

/-- THE TIED CARD OF 'laws.FnSound'. -/
def fnSoundCard : Claim7 := { stood := { row := fnSoundRow, standIns := [], harness := (true, "0fa224d301dfea33a033ce5574f22f49b9c0423cfcac78af5f175f588346e406"), looks := true }, kinds := [], alts := [], laidByText := true, laidKinds := [.data, .data, .data], laidTests := true, laidLooks := .later }
def FnSoundCardSaid : Prop := Claim7.holds Tryz.pinned (.plain (OpenSpec.ofChange fnSoundSpec)) fnSoundCard

/-- THE TIED CARD OF 'laws.FnProved'. -/
def fnProvedCard : Claim7 := { stood := { row := fnProvedRow, standIns := [], harness := (true, "0fa224d301dfea33a033ce5574f22f49b9c0423cfcac78af5f175f588346e406"), looks := true }, kinds := [], alts := [], laidByText := true, laidKinds := [.data, .data, .data, .data, .sentinel, .sentinel, .pinned], laidTests := true, laidLooks := .later }
def FnProvedCardSaid : Prop := Claim7.holds Tryz.pinned (.plain (OpenSpec.ofChange fnProvedSpec)) fnProvedCard

/-- THE SECOND FORM's CARD OF 'laws.FnSound'. -/
def fnSoundUptoCard : Claim7 := { stood := { row := fnSoundUptoRow, standIns := [], harness := (true, "0fa224d301dfea33a033ce5574f22f49b9c0423cfcac78af5f175f588346e406"), looks := true }, kinds := [], alts := [], laidByText := true, laidKinds := [.data, .data, .data], laidTests := true, laidLooks := .later }
def FnSoundUptoCardSaid : Prop := Claim7.holds Tryz.pinned (.plain (OpenSpec.upto fnSoundSpec)) fnSoundUptoCard

/-- THE SECOND FORM's CARD OF 'laws.FnProved'. -/
def fnProvedUptoCard : Claim7 := { stood := { row := fnProvedUptoRow, standIns := [], harness := (true, "0fa224d301dfea33a033ce5574f22f49b9c0423cfcac78af5f175f588346e406"), looks := true }, kinds := [], alts := [], laidByText := true, laidKinds := [.data, .data, .data, .data, .sentinel, .sentinel, .pinned], laidTests := true, laidLooks := .later }
def FnProvedUptoCardSaid : Prop := Claim7.holds Tryz.pinned (.plain (OpenSpec.upto fnProvedSpec)) fnProvedUptoCard
end Rows
end Go.Proofs.YtpgkellmhlmjeaaGreatDoor
