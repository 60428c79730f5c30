/-
  No cell of these rows narrows 'for every input' (looked for: loops, veiled, ifaces, maps, wideKeys, modest, calm, conditions, laid).
  DERIVED. THE GIVEN ROWS OF THIS SEAT. 12 by the template 'for every input the law returns true; each argument reads behind the call as it read before'; 0 by the template 'total and deterministic' (their statements: YtepbjdjhniidaaaTotals.lean).
  GIVEN WITH THE SEED: the statements are not yours to turn. If you find one false, say at which input.
  Laid BY PROGRAM, IN A SANDBOX (cutbox-rows.mjs): the forced cells as the released guide's own fill.sh prints them over the translation ddd505bf09f472b9… (all of the seat's roots in one cut). By AI agents, Wed Nov 11 2026. No macro, syntax, notation, axiom, sorry.
-/
import Derived.Test.YtepbjdjhniidaaaChecked
import GoSem.Claim
import GoSem.ClaimJoined
import GoSem.ClaimMapViews
import Derived.JoinedTies
import Derived.KernelRfl
namespace Go.Proofs.Ytepbjdjhniidaaa
/- THE CELL 'sum', in the pinned program and in every row, IS THE sha256 OF THE DUMP (.gsa) THAT YtepbjdjhniidaaaProg.lean LOADS. Nothing in Lean hashes anything: it is a label: what it is worth is what the hold of that sum in a sandbox is worth. -/
noncomputable def Try.pinned : Pinned := { name := "ytepbjdjhniidaaa", sum := "ddd505bf09f472b9b0caa6310e3677cfc3bcd13e424e15731406f74201c9c9c8", checked := Try.checked }
namespace Rows
def none {H : Type} : Left H := { results := [], args := [] }

/-- 'laws.FnExactProveLinear': WHATEVER THE INPUT: true; the input reads as it did. -/
def fnExactProveLinearSpec : ChangeSpec := { name := "fnExactProveLinear", fn := fun _ => fun
  | [d1, d2, d3] => { results := [.lit (.bool true)], args := [d1, d2, d3] }
  | _ => none }
def fnExactProveLinearRow : OpenClaim := { program := "ytepbjdjhniidaaa", sum := "ddd505bf09f472b9b0caa6310e3677cfc3bcd13e424e15731406f74201c9c9c8", func := "loop.example/g01007/laws.FnExactProveLinear", spec := "fnExactProveLinear", apart := false }
def FnExactProveLinearSaid : Prop := fnExactProveLinearRow.holds Try.pinned (OpenSpec.ofChange fnExactProveLinearSpec)

/-- ITS FALSE NEIGHBOUR: 'it returns false'. Refute it at one input. -/
def fnExactProveLinearWrong : ChangeSpec := { name := "fnExactProveLinear", fn := fun _ => fun
  | [d1, d2, d3] => { results := [.lit (.bool false)], args := [d1, d2, d3] }
  | _ => none }
def FnExactProveLinearWrongFalsely : Prop := fnExactProveLinearRow.holds Try.pinned (OpenSpec.ofChange fnExactProveLinearWrong)

/-- 'laws.FnExactCommaOf': WHATEVER THE INPUT: true; the input reads as it did. -/
def fnExactCommaOfSpec : ChangeSpec := { name := "fnExactCommaOf", fn := fun _ => fun
  | [d] => { results := [.lit (.bool true)], args := [d] }
  | _ => none }
def fnExactCommaOfRow : OpenClaim := { program := "ytepbjdjhniidaaa", sum := "ddd505bf09f472b9b0caa6310e3677cfc3bcd13e424e15731406f74201c9c9c8", func := "loop.example/g01007/laws.FnExactCommaOf", spec := "fnExactCommaOf", apart := false }
def FnExactCommaOfSaid : Prop := fnExactCommaOfRow.holds Try.pinned (OpenSpec.ofChange fnExactCommaOfSpec)

/-- ITS FALSE NEIGHBOUR: 'it returns false'. Refute it at one input. -/
def fnExactCommaOfWrong : ChangeSpec := { name := "fnExactCommaOf", fn := fun _ => fun
  | [d] => { results := [.lit (.bool false)], args := [d] }
  | _ => none }
def FnExactCommaOfWrongFalsely : Prop := fnExactCommaOfRow.holds Try.pinned (OpenSpec.ofChange fnExactCommaOfWrong)

/-- 'laws.FnExactProveGcd': WHATEVER THE INPUT: true; the input reads as it did. -/
def fnExactProveGcdSpec : ChangeSpec := { name := "fnExactProveGcd", fn := fun _ => fun
  | [d1, d2] => { results := [.lit (.bool true)], args := [d1, d2] }
  | _ => none }
def fnExactProveGcdRow : OpenClaim := { program := "ytepbjdjhniidaaa", sum := "ddd505bf09f472b9b0caa6310e3677cfc3bcd13e424e15731406f74201c9c9c8", func := "loop.example/g01007/laws.FnExactProveGcd", spec := "fnExactProveGcd", apart := false }
def FnExactProveGcdSaid : Prop := fnExactProveGcdRow.holds Try.pinned (OpenSpec.ofChange fnExactProveGcdSpec)

/-- ITS FALSE NEIGHBOUR: 'it returns false'. Refute it at one input. -/
def fnExactProveGcdWrong : ChangeSpec := { name := "fnExactProveGcd", fn := fun _ => fun
  | [d1, d2] => { results := [.lit (.bool false)], args := [d1, d2] }
  | _ => none }
def FnExactProveGcdWrongFalsely : Prop := fnExactProveGcdRow.holds Try.pinned (OpenSpec.ofChange fnExactProveGcdWrong)

/-- 'laws.FnExactDriftOf': WHATEVER THE INPUT: true; the input reads as it did. -/
def fnExactDriftOfSpec : ChangeSpec := { name := "fnExactDriftOf", fn := fun _ => fun
  | [d1, d2, d3] => { results := [.lit (.bool true)], args := [d1, d2, d3] }
  | _ => none }
def fnExactDriftOfRow : OpenClaim := { program := "ytepbjdjhniidaaa", sum := "ddd505bf09f472b9b0caa6310e3677cfc3bcd13e424e15731406f74201c9c9c8", func := "loop.example/g01007/laws.FnExactDriftOf", spec := "fnExactDriftOf", apart := false }
def FnExactDriftOfSaid : Prop := fnExactDriftOfRow.holds Try.pinned (OpenSpec.ofChange fnExactDriftOfSpec)

/-- ITS FALSE NEIGHBOUR: 'it returns false'. Refute it at one input. -/
def fnExactDriftOfWrong : ChangeSpec := { name := "fnExactDriftOf", fn := fun _ => fun
  | [d1, d2, d3] => { results := [.lit (.bool false)], args := [d1, d2, d3] }
  | _ => none }
def FnExactDriftOfWrongFalsely : Prop := fnExactDriftOfRow.holds Try.pinned (OpenSpec.ofChange fnExactDriftOfWrong)

/-- 'laws.FnExactTwoGears': WHATEVER THE INPUT: true; the input reads as it did. -/
def fnExactTwoGearsSpec : ChangeSpec := { name := "fnExactTwoGears", fn := fun _ => fun
  | [d1, d2, d3] => { results := [.lit (.bool true)], args := [d1, d2, d3] }
  | _ => none }
def fnExactTwoGearsRow : OpenClaim := { program := "ytepbjdjhniidaaa", sum := "ddd505bf09f472b9b0caa6310e3677cfc3bcd13e424e15731406f74201c9c9c8", func := "loop.example/g01007/laws.FnExactTwoGears", spec := "fnExactTwoGears", apart := false }
def FnExactTwoGearsSaid : Prop := fnExactTwoGearsRow.holds Try.pinned (OpenSpec.ofChange fnExactTwoGearsSpec)

/-- ITS FALSE NEIGHBOUR: 'it returns false'. Refute it at one input. -/
def fnExactTwoGearsWrong : ChangeSpec := { name := "fnExactTwoGears", fn := fun _ => fun
  | [d1, d2, d3] => { results := [.lit (.bool false)], args := [d1, d2, d3] }
  | _ => none }
def FnExactTwoGearsWrongFalsely : Prop := fnExactTwoGearsRow.holds Try.pinned (OpenSpec.ofChange fnExactTwoGearsWrong)

/-- 'laws.FnExactGearFor': WHATEVER THE INPUT: true; the input reads as it did. -/
def fnExactGearForSpec : ChangeSpec := { name := "fnExactGearFor", fn := fun _ => fun
  | [d1, d2, d3] => { results := [.lit (.bool true)], args := [d1, d2, d3] }
  | _ => none }
def fnExactGearForRow : OpenClaim := { program := "ytepbjdjhniidaaa", sum := "ddd505bf09f472b9b0caa6310e3677cfc3bcd13e424e15731406f74201c9c9c8", func := "loop.example/g01007/laws.FnExactGearFor", spec := "fnExactGearFor", apart := false }
def FnExactGearForSaid : Prop := fnExactGearForRow.holds Try.pinned (OpenSpec.ofChange fnExactGearForSpec)

/-- ITS FALSE NEIGHBOUR: 'it returns false'. Refute it at one input. -/
def fnExactGearForWrong : ChangeSpec := { name := "fnExactGearFor", fn := fun _ => fun
  | [d1, d2, d3] => { results := [.lit (.bool false)], args := [d1, d2, d3] }
  | _ => none }
def FnExactGearForWrongFalsely : Prop := fnExactGearForRow.holds Try.pinned (OpenSpec.ofChange fnExactGearForWrong)

/-- 'laws.FnExactDivisorShare': WHATEVER THE INPUT: true; the input reads as it did. -/
def fnExactDivisorShareSpec : ChangeSpec := { name := "fnExactDivisorShare", fn := fun _ => fun
  | [d] => { results := [.lit (.bool true)], args := [d] }
  | _ => none }
def fnExactDivisorShareRow : OpenClaim := { program := "ytepbjdjhniidaaa", sum := "ddd505bf09f472b9b0caa6310e3677cfc3bcd13e424e15731406f74201c9c9c8", func := "loop.example/g01007/laws.FnExactDivisorShare", spec := "fnExactDivisorShare", apart := false }
def FnExactDivisorShareSaid : Prop := fnExactDivisorShareRow.holds Try.pinned (OpenSpec.ofChange fnExactDivisorShareSpec)

/-- ITS FALSE NEIGHBOUR: 'it returns false'. Refute it at one input. -/
def fnExactDivisorShareWrong : ChangeSpec := { name := "fnExactDivisorShare", fn := fun _ => fun
  | [d] => { results := [.lit (.bool false)], args := [d] }
  | _ => none }
def FnExactDivisorShareWrongFalsely : Prop := fnExactDivisorShareRow.holds Try.pinned (OpenSpec.ofChange fnExactDivisorShareWrong)

/-- 'laws.FnExactSameDesk': WHATEVER THE INPUT: true; the input reads as it did. -/
def fnExactSameDeskSpec : ChangeSpec := { name := "fnExactSameDesk", fn := fun _ => fun
  | [d1, d2] => { results := [.lit (.bool true)], args := [d1, d2] }
  | _ => none }
def fnExactSameDeskRow : OpenClaim := { program := "ytepbjdjhniidaaa", sum := "ddd505bf09f472b9b0caa6310e3677cfc3bcd13e424e15731406f74201c9c9c8", func := "loop.example/g01007/laws.FnExactSameDesk", spec := "fnExactSameDesk", unfollowed := true, recurses := true, apart := false }
def FnExactSameDeskSaid : Prop := fnExactSameDeskRow.holds Try.pinned (OpenSpec.ofChange fnExactSameDeskSpec)

/-- ITS FALSE NEIGHBOUR: 'it returns false'. Refute it at one input. -/
def fnExactSameDeskWrong : ChangeSpec := { name := "fnExactSameDesk", fn := fun _ => fun
  | [d1, d2] => { results := [.lit (.bool false)], args := [d1, d2] }
  | _ => none }
def FnExactSameDeskWrongFalsely : Prop := fnExactSameDeskRow.holds Try.pinned (OpenSpec.ofChange fnExactSameDeskWrong)

/-- 'laws.FnExactValidDesk': WHATEVER THE INPUT: true; the input reads as it did. -/
def fnExactValidDeskSpec : ChangeSpec := { name := "fnExactValidDesk", fn := fun _ => fun
  | [d] => { results := [.lit (.bool true)], args := [d] }
  | _ => none }
def fnExactValidDeskRow : OpenClaim := { program := "ytepbjdjhniidaaa", sum := "ddd505bf09f472b9b0caa6310e3677cfc3bcd13e424e15731406f74201c9c9c8", func := "loop.example/g01007/laws.FnExactValidDesk", spec := "fnExactValidDesk", unfollowed := true, recurses := true, apart := false }
def FnExactValidDeskSaid : Prop := fnExactValidDeskRow.holds Try.pinned (OpenSpec.ofChange fnExactValidDeskSpec)

/-- ITS FALSE NEIGHBOUR: 'it returns false'. Refute it at one input. -/
def fnExactValidDeskWrong : ChangeSpec := { name := "fnExactValidDesk", fn := fun _ => fun
  | [d] => { results := [.lit (.bool false)], args := [d] }
  | _ => none }
def FnExactValidDeskWrongFalsely : Prop := fnExactValidDeskRow.holds Try.pinned (OpenSpec.ofChange fnExactValidDeskWrong)

/-- 'laws.FnExactProveRoot': WHATEVER THE INPUT: true; the input reads as it did. -/
def fnExactProveRootSpec : ChangeSpec := { name := "fnExactProveRoot", fn := fun _ => fun
  | [d] => { results := [.lit (.bool true)], args := [d] }
  | _ => none }
def fnExactProveRootRow : OpenClaim := { program := "ytepbjdjhniidaaa", sum := "ddd505bf09f472b9b0caa6310e3677cfc3bcd13e424e15731406f74201c9c9c8", func := "loop.example/g01007/laws.FnExactProveRoot", spec := "fnExactProveRoot", inPlace := ["math.sqrt"], apart := false }
def FnExactProveRootSaid : Prop := fnExactProveRootRow.holds Try.pinned (OpenSpec.ofChange fnExactProveRootSpec)

/-- ITS FALSE NEIGHBOUR: 'it returns false'. Refute it at one input. -/
def fnExactProveRootWrong : ChangeSpec := { name := "fnExactProveRoot", fn := fun _ => fun
  | [d] => { results := [.lit (.bool false)], args := [d] }
  | _ => none }
def FnExactProveRootWrongFalsely : Prop := fnExactProveRootRow.holds Try.pinned (OpenSpec.ofChange fnExactProveRootWrong)

/-- 'laws.FnExactSameNotes': WHATEVER THE INPUT: true; the input reads as it did. -/
def fnExactSameNotesSpec : ChangeSpec := { name := "fnExactSameNotes", fn := fun _ => fun
  | [d1, d2] => { results := [.lit (.bool true)], args := [d1, d2] }
  | _ => none }
def fnExactSameNotesRow : OpenClaim := { program := "ytepbjdjhniidaaa", sum := "ddd505bf09f472b9b0caa6310e3677cfc3bcd13e424e15731406f74201c9c9c8", func := "loop.example/g01007/laws.FnExactSameNotes", spec := "fnExactSameNotes", unfollowed := true, recurses := true, apart := false }
def FnExactSameNotesSaid : Prop := fnExactSameNotesRow.holds Try.pinned (OpenSpec.ofChange fnExactSameNotesSpec)

/-- ITS FALSE NEIGHBOUR: 'it returns false'. Refute it at one input. -/
def fnExactSameNotesWrong : ChangeSpec := { name := "fnExactSameNotes", fn := fun _ => fun
  | [d1, d2] => { results := [.lit (.bool false)], args := [d1, d2] }
  | _ => none }
def FnExactSameNotesWrongFalsely : Prop := fnExactSameNotesRow.holds Try.pinned (OpenSpec.ofChange fnExactSameNotesWrong)

/-- 'laws.FnExactRulesFor': WHATEVER THE INPUT: true; the input reads as it did. -/
def fnExactRulesForSpec : ChangeSpec := { name := "fnExactRulesFor", fn := fun _ => fun
  | [d1, d2] => { results := [.lit (.bool true)], args := [d1, d2] }
  | _ => none }
def fnExactRulesForRow : OpenClaim := { program := "ytepbjdjhniidaaa", sum := "ddd505bf09f472b9b0caa6310e3677cfc3bcd13e424e15731406f74201c9c9c8", func := "loop.example/g01007/laws.FnExactRulesFor", spec := "fnExactRulesFor", apart := false }
def FnExactRulesForSaid : Prop := fnExactRulesForRow.holds Try.pinned (OpenSpec.ofChange fnExactRulesForSpec)

/-- ITS FALSE NEIGHBOUR: 'it returns false'. Refute it at one input. -/
def fnExactRulesForWrong : ChangeSpec := { name := "fnExactRulesFor", fn := fun _ => fun
  | [d1, d2] => { results := [.lit (.bool false)], args := [d1, d2] }
  | _ => none }
def FnExactRulesForWrongFalsely : Prop := fnExactRulesForRow.holds Try.pinned (OpenSpec.ofChange fnExactRulesForWrong)

/- THE SECOND FORM. 'bulk': how many values and letters a reading holds, each counted each time it is reached (what is shared counts as often as it is met; a slice's spare places count too). A statement '..UptoSaid' is the law's where the arguments, and the package variables that the reading takes, are together of bulk at most 1048576: NARROWER than '..Said'. Prove '..Said' where nothing that the law and all that it calls make is longer than what came in: it says more and counts as full. Else prove '..UptoSaid'. A law counts once. -/
mutual
def uptoBulk {H : Type} : DataW H → Nat
  | .lit (.string bytes) => bytes.length + 1
  | .lit _ => 1
  | .nil => 1
  | .ptr d => uptoBulk d + 1
  | .slice elems spare => uptoBulkAll elems + uptoBulkAll spare + 1
  | .agg parts => uptoBulkAll parts + 1
  | .iface _ d => uptoBulk d + 1
  | .map entries => uptoBulkEntries entries + 1
  | .held _ => 1
def uptoBulkAll {H : Type} : List (DataW H) → Nat
  | [] => 0
  | d :: r => uptoBulk d + uptoBulkAll r
def uptoBulkEntries {H : Type} : List (Lit × DataW H) → Nat
  | [] => 0
  | x :: r => uptoBulkEntry x + uptoBulkEntries r
def uptoBulkEntry {H : Type} : Lit × DataW H → Nat
  | (.string bytes, d) => bytes.length + uptoBulk d + 1
  | (_, d) => uptoBulk d + 1
 end
def uptoSmall : (H : Type) → List (DataW H) → Bool := fun _ ds => decide (uptoBulkAll ds ≤ 1048576)
def OpenSpec.upto (s : _root_.Go.ChangeSpec) : _root_.Go.OpenSpec := { _root_.Go.OpenSpec.ofChange s with cond := some uptoSmall }

/-- 'laws.FnExactProveLinear', WHERE WHAT IT READS IS OF BULK AT MOST 1048576: true; the input reads as it did. -/
def fnExactProveLinearUptoRow : OpenClaim := { program := "ytepbjdjhniidaaa", sum := "ddd505bf09f472b9b0caa6310e3677cfc3bcd13e424e15731406f74201c9c9c8", func := "loop.example/g01007/laws.FnExactProveLinear", spec := "fnExactProveLinear", apart := false, narrowed := true }
def FnExactProveLinearUptoSaid : Prop := fnExactProveLinearUptoRow.holds Try.pinned (OpenSpec.upto fnExactProveLinearSpec)

/-- 'laws.FnExactCommaOf', WHERE WHAT IT READS IS OF BULK AT MOST 1048576: true; the input reads as it did. -/
def fnExactCommaOfUptoRow : OpenClaim := { program := "ytepbjdjhniidaaa", sum := "ddd505bf09f472b9b0caa6310e3677cfc3bcd13e424e15731406f74201c9c9c8", func := "loop.example/g01007/laws.FnExactCommaOf", spec := "fnExactCommaOf", apart := false, narrowed := true }
def FnExactCommaOfUptoSaid : Prop := fnExactCommaOfUptoRow.holds Try.pinned (OpenSpec.upto fnExactCommaOfSpec)

/-- 'laws.FnExactProveGcd', WHERE WHAT IT READS IS OF BULK AT MOST 1048576: true; the input reads as it did. -/
def fnExactProveGcdUptoRow : OpenClaim := { program := "ytepbjdjhniidaaa", sum := "ddd505bf09f472b9b0caa6310e3677cfc3bcd13e424e15731406f74201c9c9c8", func := "loop.example/g01007/laws.FnExactProveGcd", spec := "fnExactProveGcd", apart := false, narrowed := true }
def FnExactProveGcdUptoSaid : Prop := fnExactProveGcdUptoRow.holds Try.pinned (OpenSpec.upto fnExactProveGcdSpec)

/-- 'laws.FnExactDriftOf', WHERE WHAT IT READS IS OF BULK AT MOST 1048576: true; the input reads as it did. -/
def fnExactDriftOfUptoRow : OpenClaim := { program := "ytepbjdjhniidaaa", sum := "ddd505bf09f472b9b0caa6310e3677cfc3bcd13e424e15731406f74201c9c9c8", func := "loop.example/g01007/laws.FnExactDriftOf", spec := "fnExactDriftOf", apart := false, narrowed := true }
def FnExactDriftOfUptoSaid : Prop := fnExactDriftOfUptoRow.holds Try.pinned (OpenSpec.upto fnExactDriftOfSpec)

/-- 'laws.FnExactTwoGears', WHERE WHAT IT READS IS OF BULK AT MOST 1048576: true; the input reads as it did. -/
def fnExactTwoGearsUptoRow : OpenClaim := { program := "ytepbjdjhniidaaa", sum := "ddd505bf09f472b9b0caa6310e3677cfc3bcd13e424e15731406f74201c9c9c8", func := "loop.example/g01007/laws.FnExactTwoGears", spec := "fnExactTwoGears", apart := false, narrowed := true }
def FnExactTwoGearsUptoSaid : Prop := fnExactTwoGearsUptoRow.holds Try.pinned (OpenSpec.upto fnExactTwoGearsSpec)

/-- 'laws.FnExactGearFor', WHERE WHAT IT READS IS OF BULK AT MOST 1048576: true; the input reads as it did. -/
def fnExactGearForUptoRow : OpenClaim := { program := "ytepbjdjhniidaaa", sum := "ddd505bf09f472b9b0caa6310e3677cfc3bcd13e424e15731406f74201c9c9c8", func := "loop.example/g01007/laws.FnExactGearFor", spec := "fnExactGearFor", apart := false, narrowed := true }
def FnExactGearForUptoSaid : Prop := fnExactGearForUptoRow.holds Try.pinned (OpenSpec.upto fnExactGearForSpec)

/-- 'laws.FnExactDivisorShare', WHERE WHAT IT READS IS OF BULK AT MOST 1048576: true; the input reads as it did. -/
def fnExactDivisorShareUptoRow : OpenClaim := { program := "ytepbjdjhniidaaa", sum := "ddd505bf09f472b9b0caa6310e3677cfc3bcd13e424e15731406f74201c9c9c8", func := "loop.example/g01007/laws.FnExactDivisorShare", spec := "fnExactDivisorShare", apart := false, narrowed := true }
def FnExactDivisorShareUptoSaid : Prop := fnExactDivisorShareUptoRow.holds Try.pinned (OpenSpec.upto fnExactDivisorShareSpec)

/-- 'laws.FnExactSameDesk', WHERE WHAT IT READS IS OF BULK AT MOST 1048576: true; the input reads as it did. -/
def fnExactSameDeskUptoRow : OpenClaim := { program := "ytepbjdjhniidaaa", sum := "ddd505bf09f472b9b0caa6310e3677cfc3bcd13e424e15731406f74201c9c9c8", func := "loop.example/g01007/laws.FnExactSameDesk", spec := "fnExactSameDesk", unfollowed := true, recurses := true, apart := false, narrowed := true }
def FnExactSameDeskUptoSaid : Prop := fnExactSameDeskUptoRow.holds Try.pinned (OpenSpec.upto fnExactSameDeskSpec)

/-- 'laws.FnExactValidDesk', WHERE WHAT IT READS IS OF BULK AT MOST 1048576: true; the input reads as it did. -/
def fnExactValidDeskUptoRow : OpenClaim := { program := "ytepbjdjhniidaaa", sum := "ddd505bf09f472b9b0caa6310e3677cfc3bcd13e424e15731406f74201c9c9c8", func := "loop.example/g01007/laws.FnExactValidDesk", spec := "fnExactValidDesk", unfollowed := true, recurses := true, apart := false, narrowed := true }
def FnExactValidDeskUptoSaid : Prop := fnExactValidDeskUptoRow.holds Try.pinned (OpenSpec.upto fnExactValidDeskSpec)

/-- 'laws.FnExactProveRoot', WHERE WHAT IT READS IS OF BULK AT MOST 1048576: true; the input reads as it did. -/
def fnExactProveRootUptoRow : OpenClaim := { program := "ytepbjdjhniidaaa", sum := "ddd505bf09f472b9b0caa6310e3677cfc3bcd13e424e15731406f74201c9c9c8", func := "loop.example/g01007/laws.FnExactProveRoot", spec := "fnExactProveRoot", inPlace := ["math.sqrt"], apart := false, narrowed := true }
def FnExactProveRootUptoSaid : Prop := fnExactProveRootUptoRow.holds Try.pinned (OpenSpec.upto fnExactProveRootSpec)

/-- 'laws.FnExactSameNotes', WHERE WHAT IT READS IS OF BULK AT MOST 1048576: true; the input reads as it did. -/
def fnExactSameNotesUptoRow : OpenClaim := { program := "ytepbjdjhniidaaa", sum := "ddd505bf09f472b9b0caa6310e3677cfc3bcd13e424e15731406f74201c9c9c8", func := "loop.example/g01007/laws.FnExactSameNotes", spec := "fnExactSameNotes", unfollowed := true, recurses := true, apart := false, narrowed := true }
def FnExactSameNotesUptoSaid : Prop := fnExactSameNotesUptoRow.holds Try.pinned (OpenSpec.upto fnExactSameNotesSpec)

/-- 'laws.FnExactRulesFor', WHERE WHAT IT READS IS OF BULK AT MOST 1048576: true; the input reads as it did. -/
def fnExactRulesForUptoRow : OpenClaim := { program := "ytepbjdjhniidaaa", sum := "ddd505bf09f472b9b0caa6310e3677cfc3bcd13e424e15731406f74201c9c9c8", func := "loop.example/g01007/laws.FnExactRulesFor", spec := "fnExactRulesFor", apart := false, narrowed := true }
def FnExactRulesForUptoSaid : Prop := fnExactRulesForUptoRow.holds Try.pinned (OpenSpec.upto fnExactRulesForSpec)

end Rows
end Go.Proofs.Ytepbjdjhniidaaa
