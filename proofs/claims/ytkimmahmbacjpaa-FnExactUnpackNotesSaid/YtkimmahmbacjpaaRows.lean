/-
  No cell of these rows narrows 'for every input' (looked for: loops, veiled, ifaces, maps, wideKeys, modest, calm, conditions, laid).
  DERIVED. THE GIVEN ROWS OF THIS SEAT. 2 by the template 'for every input the law returns true; each argument reads behind the call as it read before'; 0 by the template 'total and deterministic' (their statements: YtkimmahmbacjpaaTotals.lean).
  GIVEN WITH THE SEED: the statements are not yours to turn. If you find one false, say at which input.
  Laid BY PROGRAM, IN A SANDBOX (cutbox-rows.mjs): the forced cells as the released guide's own fill.sh prints them over the translation 5c33e81a1f7d7bb0… (all of the seat's roots in one cut). By AI agents, Wed Nov 11 2026. No macro, syntax, notation, axiom, sorry.
-/
import Derived.Test.YtkimmahmbacjpaaChecked
import GoSem.Claim
import GoSem.ClaimJoined
import GoSem.ClaimMapViews
import Derived.JoinedTies
import Derived.KernelRfl
namespace Go.Proofs.Ytkimmahmbacjpaa
/- THE CELL 'sum', in the pinned program and in every row, IS THE sha256 OF THE DUMP (.gsa) THAT YtkimmahmbacjpaaProg.lean LOADS. Nothing in Lean hashes anything: it is a label: what it is worth is what the hold of that sum in a sandbox is worth. -/
noncomputable def Try.pinned : Pinned := { name := "ytkimmahmbacjpaa", sum := "5c33e81a1f7d7bb0fe53826e3e1cb5a006b24f8152de383cd1402cd5d3a4e1be", checked := Try.checked }
namespace Rows
def none {H : Type} : Left H := { results := [], args := [] }

/-- 'laws.FnExactUnpackNotes': WHATEVER THE INPUT: true; the input reads as it did. -/
def fnExactUnpackNotesSpec : ChangeSpec := { name := "fnExactUnpackNotes", fn := fun _ => fun
  | [d] => { results := [.lit (.bool true)], args := [d] }
  | _ => none }
def fnExactUnpackNotesRow : OpenClaim := { program := "ytkimmahmbacjpaa", sum := "5c33e81a1f7d7bb0fe53826e3e1cb5a006b24f8152de383cd1402cd5d3a4e1be", func := "loop.example/g01007/laws.FnExactUnpackNotes", spec := "fnExactUnpackNotes", inPlace := ["internal/abi.NoEscape", "internal/bytealg.MakeNoZero", "math.sqrt"], unfollowed := true, recurses := true, plainKeys := false, apart := false }
def FnExactUnpackNotesSaid : Prop := fnExactUnpackNotesRow.holds Try.pinned (OpenSpec.ofChange fnExactUnpackNotesSpec)

/-- ITS FALSE NEIGHBOUR: 'it returns false'. Refute it at one input. -/
def fnExactUnpackNotesWrong : ChangeSpec := { name := "fnExactUnpackNotes", fn := fun _ => fun
  | [d] => { results := [.lit (.bool false)], args := [d] }
  | _ => none }
def FnExactUnpackNotesWrongFalsely : Prop := fnExactUnpackNotesRow.holds Try.pinned (OpenSpec.ofChange fnExactUnpackNotesWrong)

/-- 'laws.FnNoteValues': WHATEVER THE INPUT: true; the input reads as it did. -/
def fnNoteValuesSpec : ChangeSpec := { name := "fnNoteValues", fn := fun _ => fun
  | [d] => { results := [.lit (.bool true)], args := [d] }
  | _ => none }
def fnNoteValuesRow : OpenClaim := { program := "ytkimmahmbacjpaa", sum := "5c33e81a1f7d7bb0fe53826e3e1cb5a006b24f8152de383cd1402cd5d3a4e1be", func := "loop.example/g01007/laws.FnNoteValues", spec := "fnNoteValues", inPlace := ["math.sqrt"], unfollowed := true, recurses := true, plainKeys := false, apart := false }
def FnNoteValuesSaid : Prop := fnNoteValuesRow.holds Try.pinned (OpenSpec.ofChange fnNoteValuesSpec)

/-- ITS FALSE NEIGHBOUR: 'it returns false'. Refute it at one input. -/
def fnNoteValuesWrong : ChangeSpec := { name := "fnNoteValues", fn := fun _ => fun
  | [d] => { results := [.lit (.bool false)], args := [d] }
  | _ => none }
def FnNoteValuesWrongFalsely : Prop := fnNoteValuesRow.holds Try.pinned (OpenSpec.ofChange fnNoteValuesWrong)

/- THE SECOND FORM. 'bulk': how many values and letters a reading holds, each counted each time it is reached (what is shared counts as often as it is met; a slice's spare places count too). A statement '..UptoSaid' is the law's where the arguments, and the package variables that the reading takes, are together of bulk at most 1048576: NARROWER than '..Said'. Prove '..Said' where nothing that the law and all that it calls make is longer than what came in: it says more and counts as full. Else prove '..UptoSaid'. A law counts once. -/
mutual
def uptoBulk {H : Type} : DataW H → Nat
  | .lit (.string bytes) => bytes.length + 1
  | .lit _ => 1
  | .nil => 1
  | .ptr d => uptoBulk d + 1
  | .slice elems spare => uptoBulkAll elems + uptoBulkAll spare + 1
  | .agg parts => uptoBulkAll parts + 1
  | .iface _ d => uptoBulk d + 1
  | .map entries => uptoBulkEntries entries + 1
  | .held _ => 1
def uptoBulkAll {H : Type} : List (DataW H) → Nat
  | [] => 0
  | d :: r => uptoBulk d + uptoBulkAll r
def uptoBulkEntries {H : Type} : List (Lit × DataW H) → Nat
  | [] => 0
  | x :: r => uptoBulkEntry x + uptoBulkEntries r
def uptoBulkEntry {H : Type} : Lit × DataW H → Nat
  | (.string bytes, d) => bytes.length + uptoBulk d + 1
  | (_, d) => uptoBulk d + 1
 end
def uptoSmall : (H : Type) → List (DataW H) → Bool := fun _ ds => decide (uptoBulkAll ds ≤ 1048576)
def OpenSpec.upto (s : _root_.Go.ChangeSpec) : _root_.Go.OpenSpec := { _root_.Go.OpenSpec.ofChange s with cond := some uptoSmall }

/-- 'laws.FnExactUnpackNotes', WHERE WHAT IT READS IS OF BULK AT MOST 1048576: true; the input reads as it did. -/
def fnExactUnpackNotesUptoRow : OpenClaim := { program := "ytkimmahmbacjpaa", sum := "5c33e81a1f7d7bb0fe53826e3e1cb5a006b24f8152de383cd1402cd5d3a4e1be", func := "loop.example/g01007/laws.FnExactUnpackNotes", spec := "fnExactUnpackNotes", inPlace := ["internal/abi.NoEscape", "internal/bytealg.MakeNoZero", "math.sqrt"], unfollowed := true, recurses := true, plainKeys := false, apart := false, narrowed := true }
def FnExactUnpackNotesUptoSaid : Prop := fnExactUnpackNotesUptoRow.holds Try.pinned (OpenSpec.upto fnExactUnpackNotesSpec)

/-- 'laws.FnNoteValues', WHERE WHAT IT READS IS OF BULK AT MOST 1048576: true; the input reads as it did. -/
def fnNoteValuesUptoRow : OpenClaim := { program := "ytkimmahmbacjpaa", sum := "5c33e81a1f7d7bb0fe53826e3e1cb5a006b24f8152de383cd1402cd5d3a4e1be", func := "loop.example/g01007/laws.FnNoteValues", spec := "fnNoteValues", inPlace := ["math.sqrt"], unfollowed := true, recurses := true, plainKeys := false, apart := false, narrowed := true }
def FnNoteValuesUptoSaid : Prop := fnNoteValuesUptoRow.holds Try.pinned (OpenSpec.upto fnNoteValuesSpec)

end Rows
end Go.Proofs.Ytkimmahmbacjpaa
