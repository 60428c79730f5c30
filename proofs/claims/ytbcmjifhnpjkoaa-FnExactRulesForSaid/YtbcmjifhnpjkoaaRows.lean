/-
  No cell of these rows narrows 'for every input' (looked for: loops, veiled, ifaces, maps, wideKeys, modest, calm, conditions, laid).
  DERIVED. THE GIVEN ROWS OF THIS SEAT. 12 by the template 'for every input the law returns true; each argument reads behind the call as it read before'; 0 by the template 'total and deterministic' (their statements: YtbcmjifhnpjkoaaTotals.lean).
  GIVEN WITH THE SEED: the statements are not yours to turn. If you find one false, say at which input.
  Laid BY PROGRAM, IN A SANDBOX (cutbox-rows.mjs): the forced cells as the released guide's own fill.sh prints them over the translation 7a8862a3849f0051… (all of the seat's roots in one cut). By AI agents, Wed Nov 11 2026. No macro, syntax, notation, axiom, sorry.
-/
import Derived.Test.YtbcmjifhnpjkoaaChecked
import GoSem.Claim
import GoSem.ClaimJoined
import GoSem.ClaimMapViews
import Derived.JoinedTies
import Derived.KernelRfl
namespace Go.Proofs.Ytbcmjifhnpjkoaa
/- THE CELL 'sum', in the pinned program and in every row, IS THE sha256 OF THE DUMP (.gsa) THAT YtbcmjifhnpjkoaaProg.lean LOADS. Nothing in Lean hashes anything: it is a label: what it is worth is what the hold of that sum in a sandbox is worth. -/
noncomputable def Try.pinned : Pinned := { name := "ytbcmjifhnpjkoaa", sum := "7a8862a3849f0051726572365a102ef4365bebfd3e3f53e51f0fc14e452b6f39", checked := Try.checked }
namespace Rows
def none {H : Type} : Left H := { results := [], args := [] }

/-- 'laws.FnExactDriftOf': WHATEVER THE INPUT: true; the input reads as it did. -/
def fnExactDriftOfSpec : ChangeSpec := { name := "fnExactDriftOf", fn := fun _ => fun
  | [d1, d2, d3] => { results := [.lit (.bool true)], args := [d1, d2, d3] }
  | _ => none }
def fnExactDriftOfRow : OpenClaim := { program := "ytbcmjifhnpjkoaa", sum := "7a8862a3849f0051726572365a102ef4365bebfd3e3f53e51f0fc14e452b6f39", func := "loop.example/g01007/laws.FnExactDriftOf", spec := "fnExactDriftOf", apart := false }
def FnExactDriftOfSaid : Prop := fnExactDriftOfRow.holds Try.pinned (OpenSpec.ofChange fnExactDriftOfSpec)

/-- ITS FALSE NEIGHBOUR: 'it returns false'. Refute it at one input. -/
def fnExactDriftOfWrong : ChangeSpec := { name := "fnExactDriftOf", fn := fun _ => fun
  | [d1, d2, d3] => { results := [.lit (.bool false)], args := [d1, d2, d3] }
  | _ => none }
def FnExactDriftOfWrongFalsely : Prop := fnExactDriftOfRow.holds Try.pinned (OpenSpec.ofChange fnExactDriftOfWrong)

/-- 'laws.FnExactTwoGears': WHATEVER THE INPUT: true; the input reads as it did. -/
def fnExactTwoGearsSpec : ChangeSpec := { name := "fnExactTwoGears", fn := fun _ => fun
  | [d1, d2, d3] => { results := [.lit (.bool true)], args := [d1, d2, d3] }
  | _ => none }
def fnExactTwoGearsRow : OpenClaim := { program := "ytbcmjifhnpjkoaa", sum := "7a8862a3849f0051726572365a102ef4365bebfd3e3f53e51f0fc14e452b6f39", func := "loop.example/g01007/laws.FnExactTwoGears", spec := "fnExactTwoGears", apart := false }
def FnExactTwoGearsSaid : Prop := fnExactTwoGearsRow.holds Try.pinned (OpenSpec.ofChange fnExactTwoGearsSpec)

/-- ITS FALSE NEIGHBOUR: 'it returns false'. Refute it at one input. -/
def fnExactTwoGearsWrong : ChangeSpec := { name := "fnExactTwoGears", fn := fun _ => fun
  | [d1, d2, d3] => { results := [.lit (.bool false)], args := [d1, d2, d3] }
  | _ => none }
def FnExactTwoGearsWrongFalsely : Prop := fnExactTwoGearsRow.holds Try.pinned (OpenSpec.ofChange fnExactTwoGearsWrong)

/-- 'laws.FnExactGearFor': WHATEVER THE INPUT: true; the input reads as it did. -/
def fnExactGearForSpec : ChangeSpec := { name := "fnExactGearFor", fn := fun _ => fun
  | [d1, d2, d3] => { results := [.lit (.bool true)], args := [d1, d2, d3] }
  | _ => none }
def fnExactGearForRow : OpenClaim := { program := "ytbcmjifhnpjkoaa", sum := "7a8862a3849f0051726572365a102ef4365bebfd3e3f53e51f0fc14e452b6f39", func := "loop.example/g01007/laws.FnExactGearFor", spec := "fnExactGearFor", apart := false }
def FnExactGearForSaid : Prop := fnExactGearForRow.holds Try.pinned (OpenSpec.ofChange fnExactGearForSpec)

/-- ITS FALSE NEIGHBOUR: 'it returns false'. Refute it at one input. -/
def fnExactGearForWrong : ChangeSpec := { name := "fnExactGearFor", fn := fun _ => fun
  | [d1, d2, d3] => { results := [.lit (.bool false)], args := [d1, d2, d3] }
  | _ => none }
def FnExactGearForWrongFalsely : Prop := fnExactGearForRow.holds Try.pinned (OpenSpec.ofChange fnExactGearForWrong)

/-- 'laws.FnExactDivisorShare': WHATEVER THE INPUT: true; the input reads as it did. -/
def fnExactDivisorShareSpec : ChangeSpec := { name := "fnExactDivisorShare", fn := fun _ => fun
  | [d] => { results := [.lit (.bool true)], args := [d] }
  | _ => none }
def fnExactDivisorShareRow : OpenClaim := { program := "ytbcmjifhnpjkoaa", sum := "7a8862a3849f0051726572365a102ef4365bebfd3e3f53e51f0fc14e452b6f39", func := "loop.example/g01007/laws.FnExactDivisorShare", spec := "fnExactDivisorShare", apart := false }
def FnExactDivisorShareSaid : Prop := fnExactDivisorShareRow.holds Try.pinned (OpenSpec.ofChange fnExactDivisorShareSpec)

/-- ITS FALSE NEIGHBOUR: 'it returns false'. Refute it at one input. -/
def fnExactDivisorShareWrong : ChangeSpec := { name := "fnExactDivisorShare", fn := fun _ => fun
  | [d] => { results := [.lit (.bool false)], args := [d] }
  | _ => none }
def FnExactDivisorShareWrongFalsely : Prop := fnExactDivisorShareRow.holds Try.pinned (OpenSpec.ofChange fnExactDivisorShareWrong)

/-- 'laws.FnExactSameDesk': WHATEVER THE INPUT: true; the input reads as it did. -/
def fnExactSameDeskSpec : ChangeSpec := { name := "fnExactSameDesk", fn := fun _ => fun
  | [d1, d2] => { results := [.lit (.bool true)], args := [d1, d2] }
  | _ => none }
def fnExactSameDeskRow : OpenClaim := { program := "ytbcmjifhnpjkoaa", sum := "7a8862a3849f0051726572365a102ef4365bebfd3e3f53e51f0fc14e452b6f39", func := "loop.example/g01007/laws.FnExactSameDesk", spec := "fnExactSameDesk", unfollowed := true, recurses := true, apart := false }
def FnExactSameDeskSaid : Prop := fnExactSameDeskRow.holds Try.pinned (OpenSpec.ofChange fnExactSameDeskSpec)

/-- ITS FALSE NEIGHBOUR: 'it returns false'. Refute it at one input. -/
def fnExactSameDeskWrong : ChangeSpec := { name := "fnExactSameDesk", fn := fun _ => fun
  | [d1, d2] => { results := [.lit (.bool false)], args := [d1, d2] }
  | _ => none }
def FnExactSameDeskWrongFalsely : Prop := fnExactSameDeskRow.holds Try.pinned (OpenSpec.ofChange fnExactSameDeskWrong)

/-- 'laws.FnExactValidDesk': WHATEVER THE INPUT: true; the input reads as it did. -/
def fnExactValidDeskSpec : ChangeSpec := { name := "fnExactValidDesk", fn := fun _ => fun
  | [d] => { results := [.lit (.bool true)], args := [d] }
  | _ => none }
def fnExactValidDeskRow : OpenClaim := { program := "ytbcmjifhnpjkoaa", sum := "7a8862a3849f0051726572365a102ef4365bebfd3e3f53e51f0fc14e452b6f39", func := "loop.example/g01007/laws.FnExactValidDesk", spec := "fnExactValidDesk", unfollowed := true, recurses := true, apart := false }
def FnExactValidDeskSaid : Prop := fnExactValidDeskRow.holds Try.pinned (OpenSpec.ofChange fnExactValidDeskSpec)

/-- ITS FALSE NEIGHBOUR: 'it returns false'. Refute it at one input. -/
def fnExactValidDeskWrong : ChangeSpec := { name := "fnExactValidDesk", fn := fun _ => fun
  | [d] => { results := [.lit (.bool false)], args := [d] }
  | _ => none }
def FnExactValidDeskWrongFalsely : Prop := fnExactValidDeskRow.holds Try.pinned (OpenSpec.ofChange fnExactValidDeskWrong)

/-- 'laws.FnExactProveRoot': WHATEVER THE INPUT: true; the input reads as it did. -/
def fnExactProveRootSpec : ChangeSpec := { name := "fnExactProveRoot", fn := fun _ => fun
  | [d] => { results := [.lit (.bool true)], args := [d] }
  | _ => none }
def fnExactProveRootRow : OpenClaim := { program := "ytbcmjifhnpjkoaa", sum := "7a8862a3849f0051726572365a102ef4365bebfd3e3f53e51f0fc14e452b6f39", func := "loop.example/g01007/laws.FnExactProveRoot", spec := "fnExactProveRoot", inPlace := ["math.sqrt"], apart := false }
def FnExactProveRootSaid : Prop := fnExactProveRootRow.holds Try.pinned (OpenSpec.ofChange fnExactProveRootSpec)

/-- ITS FALSE NEIGHBOUR: 'it returns false'. Refute it at one input. -/
def fnExactProveRootWrong : ChangeSpec := { name := "fnExactProveRoot", fn := fun _ => fun
  | [d] => { results := [.lit (.bool false)], args := [d] }
  | _ => none }
def FnExactProveRootWrongFalsely : Prop := fnExactProveRootRow.holds Try.pinned (OpenSpec.ofChange fnExactProveRootWrong)

/-- 'laws.FnExactSameNotes': WHATEVER THE INPUT: true; the input reads as it did. -/
def fnExactSameNotesSpec : ChangeSpec := { name := "fnExactSameNotes", fn := fun _ => fun
  | [d1, d2] => { results := [.lit (.bool true)], args := [d1, d2] }
  | _ => none }
def fnExactSameNotesRow : OpenClaim := { program := "ytbcmjifhnpjkoaa", sum := "7a8862a3849f0051726572365a102ef4365bebfd3e3f53e51f0fc14e452b6f39", func := "loop.example/g01007/laws.FnExactSameNotes", spec := "fnExactSameNotes", unfollowed := true, recurses := true, apart := false }
def FnExactSameNotesSaid : Prop := fnExactSameNotesRow.holds Try.pinned (OpenSpec.ofChange fnExactSameNotesSpec)

/-- ITS FALSE NEIGHBOUR: 'it returns false'. Refute it at one input. -/
def fnExactSameNotesWrong : ChangeSpec := { name := "fnExactSameNotes", fn := fun _ => fun
  | [d1, d2] => { results := [.lit (.bool false)], args := [d1, d2] }
  | _ => none }
def FnExactSameNotesWrongFalsely : Prop := fnExactSameNotesRow.holds Try.pinned (OpenSpec.ofChange fnExactSameNotesWrong)

/-- 'laws.FnExactRulesFor': WHATEVER THE INPUT: true; the input reads as it did. -/
def fnExactRulesForSpec : ChangeSpec := { name := "fnExactRulesFor", fn := fun _ => fun
  | [d1, d2] => { results := [.lit (.bool true)], args := [d1, d2] }
  | _ => none }
def fnExactRulesForRow : OpenClaim := { program := "ytbcmjifhnpjkoaa", sum := "7a8862a3849f0051726572365a102ef4365bebfd3e3f53e51f0fc14e452b6f39", func := "loop.example/g01007/laws.FnExactRulesFor", spec := "fnExactRulesFor", apart := false }
def FnExactRulesForSaid : Prop := fnExactRulesForRow.holds Try.pinned (OpenSpec.ofChange fnExactRulesForSpec)

/-- ITS FALSE NEIGHBOUR: 'it returns false'. Refute it at one input. -/
def fnExactRulesForWrong : ChangeSpec := { name := "fnExactRulesFor", fn := fun _ => fun
  | [d1, d2] => { results := [.lit (.bool false)], args := [d1, d2] }
  | _ => none }
def FnExactRulesForWrongFalsely : Prop := fnExactRulesForRow.holds Try.pinned (OpenSpec.ofChange fnExactRulesForWrong)

/-- 'laws.FnCalendars': WHATEVER THE INPUT: true; the input reads as it did. -/
def fnCalendarsSpec : ChangeSpec := { name := "fnCalendars", fn := fun _ => fun
  | [d] => { results := [.lit (.bool true)], args := [d] }
  | _ => none }
def fnCalendarsRow : OpenClaim := { program := "ytbcmjifhnpjkoaa", sum := "7a8862a3849f0051726572365a102ef4365bebfd3e3f53e51f0fc14e452b6f39", func := "loop.example/g01007/laws.FnCalendars", spec := "fnCalendars", apart := false }
def FnCalendarsSaid : Prop := fnCalendarsRow.holds Try.pinned (OpenSpec.ofChange fnCalendarsSpec)

/-- ITS FALSE NEIGHBOUR: 'it returns false'. Refute it at one input. -/
def fnCalendarsWrong : ChangeSpec := { name := "fnCalendars", fn := fun _ => fun
  | [d] => { results := [.lit (.bool false)], args := [d] }
  | _ => none }
def FnCalendarsWrongFalsely : Prop := fnCalendarsRow.holds Try.pinned (OpenSpec.ofChange fnCalendarsWrong)

/-- 'laws.FnExactProveBest': WHATEVER THE INPUT: true; the input reads as it did. -/
def fnExactProveBestSpec : ChangeSpec := { name := "fnExactProveBest", fn := fun _ => fun
  | [d1, d2] => { results := [.lit (.bool true)], args := [d1, d2] }
  | _ => none }
def fnExactProveBestRow : OpenClaim := { program := "ytbcmjifhnpjkoaa", sum := "7a8862a3849f0051726572365a102ef4365bebfd3e3f53e51f0fc14e452b6f39", func := "loop.example/g01007/laws.FnExactProveBest", spec := "fnExactProveBest", apart := false }
def FnExactProveBestSaid : Prop := fnExactProveBestRow.holds Try.pinned (OpenSpec.ofChange fnExactProveBestSpec)

/-- ITS FALSE NEIGHBOUR: 'it returns false'. Refute it at one input. -/
def fnExactProveBestWrong : ChangeSpec := { name := "fnExactProveBest", fn := fun _ => fun
  | [d1, d2] => { results := [.lit (.bool false)], args := [d1, d2] }
  | _ => none }
def FnExactProveBestWrongFalsely : Prop := fnExactProveBestRow.holds Try.pinned (OpenSpec.ofChange fnExactProveBestWrong)

/-- 'laws.FnExactDeskText': WHATEVER THE INPUT: true; the input reads as it did. -/
def fnExactDeskTextSpec : ChangeSpec := { name := "fnExactDeskText", fn := fun _ => fun
  | [d] => { results := [.lit (.bool true)], args := [d] }
  | _ => none }
def fnExactDeskTextRow : OpenClaim := { program := "ytbcmjifhnpjkoaa", sum := "7a8862a3849f0051726572365a102ef4365bebfd3e3f53e51f0fc14e452b6f39", func := "loop.example/g01007/laws.FnExactDeskText", spec := "fnExactDeskText", inPlace := ["internal/abi.NoEscape", "internal/bytealg.MakeNoZero"], unfollowed := true, recurses := true, apart := false }
def FnExactDeskTextSaid : Prop := fnExactDeskTextRow.holds Try.pinned (OpenSpec.ofChange fnExactDeskTextSpec)

/-- ITS FALSE NEIGHBOUR: 'it returns false'. Refute it at one input. -/
def fnExactDeskTextWrong : ChangeSpec := { name := "fnExactDeskText", fn := fun _ => fun
  | [d] => { results := [.lit (.bool false)], args := [d] }
  | _ => none }
def FnExactDeskTextWrongFalsely : Prop := fnExactDeskTextRow.holds Try.pinned (OpenSpec.ofChange fnExactDeskTextWrong)

/- THE SECOND FORM. 'bulk': how many values and letters a reading holds, each counted each time it is reached (what is shared counts as often as it is met; a slice's spare places count too). A statement '..UptoSaid' is the law's where the arguments, and the package variables that the reading takes, are together of bulk at most 1048576: NARROWER than '..Said'. Prove '..Said' where nothing that the law and all that it calls make is longer than what came in: it says more and counts as full. Else prove '..UptoSaid'. A law counts once. -/
mutual
def uptoBulk {H : Type} : DataW H → Nat
  | .lit (.string bytes) => bytes.length + 1
  | .lit _ => 1
  | .nil => 1
  | .ptr d => uptoBulk d + 1
  | .slice elems spare => uptoBulkAll elems + uptoBulkAll spare + 1
  | .agg parts => uptoBulkAll parts + 1
  | .iface _ d => uptoBulk d + 1
  | .map entries => uptoBulkEntries entries + 1
  | .held _ => 1
def uptoBulkAll {H : Type} : List (DataW H) → Nat
  | [] => 0
  | d :: r => uptoBulk d + uptoBulkAll r
def uptoBulkEntries {H : Type} : List (Lit × DataW H) → Nat
  | [] => 0
  | x :: r => uptoBulkEntry x + uptoBulkEntries r
def uptoBulkEntry {H : Type} : Lit × DataW H → Nat
  | (.string bytes, d) => bytes.length + uptoBulk d + 1
  | (_, d) => uptoBulk d + 1
 end
def uptoSmall : (H : Type) → List (DataW H) → Bool := fun _ ds => decide (uptoBulkAll ds ≤ 1048576)
def OpenSpec.upto (s : _root_.Go.ChangeSpec) : _root_.Go.OpenSpec := { _root_.Go.OpenSpec.ofChange s with cond := some uptoSmall }

/-- 'laws.FnExactDriftOf', WHERE WHAT IT READS IS OF BULK AT MOST 1048576: true; the input reads as it did. -/
def fnExactDriftOfUptoRow : OpenClaim := { program := "ytbcmjifhnpjkoaa", sum := "7a8862a3849f0051726572365a102ef4365bebfd3e3f53e51f0fc14e452b6f39", func := "loop.example/g01007/laws.FnExactDriftOf", spec := "fnExactDriftOf", apart := false, narrowed := true }
def FnExactDriftOfUptoSaid : Prop := fnExactDriftOfUptoRow.holds Try.pinned (OpenSpec.upto fnExactDriftOfSpec)

/-- 'laws.FnExactTwoGears', WHERE WHAT IT READS IS OF BULK AT MOST 1048576: true; the input reads as it did. -/
def fnExactTwoGearsUptoRow : OpenClaim := { program := "ytbcmjifhnpjkoaa", sum := "7a8862a3849f0051726572365a102ef4365bebfd3e3f53e51f0fc14e452b6f39", func := "loop.example/g01007/laws.FnExactTwoGears", spec := "fnExactTwoGears", apart := false, narrowed := true }
def FnExactTwoGearsUptoSaid : Prop := fnExactTwoGearsUptoRow.holds Try.pinned (OpenSpec.upto fnExactTwoGearsSpec)

/-- 'laws.FnExactGearFor', WHERE WHAT IT READS IS OF BULK AT MOST 1048576: true; the input reads as it did. -/
def fnExactGearForUptoRow : OpenClaim := { program := "ytbcmjifhnpjkoaa", sum := "7a8862a3849f0051726572365a102ef4365bebfd3e3f53e51f0fc14e452b6f39", func := "loop.example/g01007/laws.FnExactGearFor", spec := "fnExactGearFor", apart := false, narrowed := true }
def FnExactGearForUptoSaid : Prop := fnExactGearForUptoRow.holds Try.pinned (OpenSpec.upto fnExactGearForSpec)

/-- 'laws.FnExactDivisorShare', WHERE WHAT IT READS IS OF BULK AT MOST 1048576: true; the input reads as it did. -/
def fnExactDivisorShareUptoRow : OpenClaim := { program := "ytbcmjifhnpjkoaa", sum := "7a8862a3849f0051726572365a102ef4365bebfd3e3f53e51f0fc14e452b6f39", func := "loop.example/g01007/laws.FnExactDivisorShare", spec := "fnExactDivisorShare", apart := false, narrowed := true }
def FnExactDivisorShareUptoSaid : Prop := fnExactDivisorShareUptoRow.holds Try.pinned (OpenSpec.upto fnExactDivisorShareSpec)

/-- 'laws.FnExactSameDesk', WHERE WHAT IT READS IS OF BULK AT MOST 1048576: true; the input reads as it did. -/
def fnExactSameDeskUptoRow : OpenClaim := { program := "ytbcmjifhnpjkoaa", sum := "7a8862a3849f0051726572365a102ef4365bebfd3e3f53e51f0fc14e452b6f39", func := "loop.example/g01007/laws.FnExactSameDesk", spec := "fnExactSameDesk", unfollowed := true, recurses := true, apart := false, narrowed := true }
def FnExactSameDeskUptoSaid : Prop := fnExactSameDeskUptoRow.holds Try.pinned (OpenSpec.upto fnExactSameDeskSpec)

/-- 'laws.FnExactValidDesk', WHERE WHAT IT READS IS OF BULK AT MOST 1048576: true; the input reads as it did. -/
def fnExactValidDeskUptoRow : OpenClaim := { program := "ytbcmjifhnpjkoaa", sum := "7a8862a3849f0051726572365a102ef4365bebfd3e3f53e51f0fc14e452b6f39", func := "loop.example/g01007/laws.FnExactValidDesk", spec := "fnExactValidDesk", unfollowed := true, recurses := true, apart := false, narrowed := true }
def FnExactValidDeskUptoSaid : Prop := fnExactValidDeskUptoRow.holds Try.pinned (OpenSpec.upto fnExactValidDeskSpec)

/-- 'laws.FnExactProveRoot', WHERE WHAT IT READS IS OF BULK AT MOST 1048576: true; the input reads as it did. -/
def fnExactProveRootUptoRow : OpenClaim := { program := "ytbcmjifhnpjkoaa", sum := "7a8862a3849f0051726572365a102ef4365bebfd3e3f53e51f0fc14e452b6f39", func := "loop.example/g01007/laws.FnExactProveRoot", spec := "fnExactProveRoot", inPlace := ["math.sqrt"], apart := false, narrowed := true }
def FnExactProveRootUptoSaid : Prop := fnExactProveRootUptoRow.holds Try.pinned (OpenSpec.upto fnExactProveRootSpec)

/-- 'laws.FnExactSameNotes', WHERE WHAT IT READS IS OF BULK AT MOST 1048576: true; the input reads as it did. -/
def fnExactSameNotesUptoRow : OpenClaim := { program := "ytbcmjifhnpjkoaa", sum := "7a8862a3849f0051726572365a102ef4365bebfd3e3f53e51f0fc14e452b6f39", func := "loop.example/g01007/laws.FnExactSameNotes", spec := "fnExactSameNotes", unfollowed := true, recurses := true, apart := false, narrowed := true }
def FnExactSameNotesUptoSaid : Prop := fnExactSameNotesUptoRow.holds Try.pinned (OpenSpec.upto fnExactSameNotesSpec)

/-- 'laws.FnExactRulesFor', WHERE WHAT IT READS IS OF BULK AT MOST 1048576: true; the input reads as it did. -/
def fnExactRulesForUptoRow : OpenClaim := { program := "ytbcmjifhnpjkoaa", sum := "7a8862a3849f0051726572365a102ef4365bebfd3e3f53e51f0fc14e452b6f39", func := "loop.example/g01007/laws.FnExactRulesFor", spec := "fnExactRulesFor", apart := false, narrowed := true }
def FnExactRulesForUptoSaid : Prop := fnExactRulesForUptoRow.holds Try.pinned (OpenSpec.upto fnExactRulesForSpec)

/-- 'laws.FnCalendars', WHERE WHAT IT READS IS OF BULK AT MOST 1048576: true; the input reads as it did. -/
def fnCalendarsUptoRow : OpenClaim := { program := "ytbcmjifhnpjkoaa", sum := "7a8862a3849f0051726572365a102ef4365bebfd3e3f53e51f0fc14e452b6f39", func := "loop.example/g01007/laws.FnCalendars", spec := "fnCalendars", apart := false, narrowed := true }
def FnCalendarsUptoSaid : Prop := fnCalendarsUptoRow.holds Try.pinned (OpenSpec.upto fnCalendarsSpec)

/-- 'laws.FnExactProveBest', WHERE WHAT IT READS IS OF BULK AT MOST 1048576: true; the input reads as it did. -/
def fnExactProveBestUptoRow : OpenClaim := { program := "ytbcmjifhnpjkoaa", sum := "7a8862a3849f0051726572365a102ef4365bebfd3e3f53e51f0fc14e452b6f39", func := "loop.example/g01007/laws.FnExactProveBest", spec := "fnExactProveBest", apart := false, narrowed := true }
def FnExactProveBestUptoSaid : Prop := fnExactProveBestUptoRow.holds Try.pinned (OpenSpec.upto fnExactProveBestSpec)

/-- 'laws.FnExactDeskText', WHERE WHAT IT READS IS OF BULK AT MOST 1048576: true; the input reads as it did. -/
def fnExactDeskTextUptoRow : OpenClaim := { program := "ytbcmjifhnpjkoaa", sum := "7a8862a3849f0051726572365a102ef4365bebfd3e3f53e51f0fc14e452b6f39", func := "loop.example/g01007/laws.FnExactDeskText", spec := "fnExactDeskText", inPlace := ["internal/abi.NoEscape", "internal/bytealg.MakeNoZero"], unfollowed := true, recurses := true, apart := false, narrowed := true }
def FnExactDeskTextUptoSaid : Prop := fnExactDeskTextUptoRow.holds Try.pinned (OpenSpec.upto fnExactDeskTextSpec)

end Rows
end Go.Proofs.Ytbcmjifhnpjkoaa
