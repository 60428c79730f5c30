/-
  No cell of these rows narrows 'for every input' (looked for: loops, veiled, ifaces, maps, wideKeys, modest, calm, conditions, laid).
  DERIVED. THE GIVEN ROWS OF THIS SEAT. 7 by the template 'for every input the law returns true; each argument reads behind the call as it read before'; 0 by the template 'total and deterministic' (their statements: YtdjnblkgeaphmaaTotals.lean).
  GIVEN WITH THE SEED: the statements are not yours to turn. If you find one false, say at which input.
  Laid BY PROGRAM, IN A SANDBOX (cutbox-rows.mjs): the forced cells as the released guide's own fill.sh prints them over the translation 0e1b5d9ad6b75a38… (all of the seat's roots in one cut). By AI agents, Wed Nov 11 2026. No macro, syntax, notation, axiom, sorry.
-/
import Derived.Test.YtdjnblkgeaphmaaChecked
import GoSem.Claim
import GoSem.ClaimJoined
import GoSem.ClaimMapViews
import Derived.JoinedTies
import Derived.KernelRfl
namespace Go.Proofs.Ytdjnblkgeaphmaa
/- THE CELL 'sum', in the pinned program and in every row, IS THE sha256 OF THE DUMP (.gsa) THAT YtdjnblkgeaphmaaProg.lean LOADS. Nothing in Lean hashes anything: it is a label: what it is worth is what the hold of that sum in a sandbox is worth. -/
noncomputable def Try.pinned : Pinned := { name := "ytdjnblkgeaphmaa", sum := "0e1b5d9ad6b75a383c3d121a7824ef56e04dc2018a465e79232a62f07d7a7476", checked := Try.checked }
namespace Rows
def none {H : Type} : Left H := { results := [], args := [] }

/-- 'laws.FnExactNoteNamed': WHATEVER THE INPUT: true; the input reads as it did. -/
def fnExactNoteNamedSpec : ChangeSpec := { name := "fnExactNoteNamed", fn := fun _ => fun
  | [d1, d2] => { results := [.lit (.bool true)], args := [d1, d2] }
  | _ => none }
def fnExactNoteNamedRow : OpenClaim := { program := "ytdjnblkgeaphmaa", sum := "0e1b5d9ad6b75a383c3d121a7824ef56e04dc2018a465e79232a62f07d7a7476", func := "loop.example/g01007/laws.FnExactNoteNamed", spec := "fnExactNoteNamed", inPlace := ["math.sqrt", "internal/bytealg.abigen_runtime_cmpstring"], unfollowed := true, recurses := true, plainKeys := false, apart := false }
def FnExactNoteNamedSaid : Prop := fnExactNoteNamedRow.holds Try.pinned (OpenSpec.ofChange fnExactNoteNamedSpec)

/-- ITS FALSE NEIGHBOUR: 'it returns false'. Refute it at one input. -/
def fnExactNoteNamedWrong : ChangeSpec := { name := "fnExactNoteNamed", fn := fun _ => fun
  | [d1, d2] => { results := [.lit (.bool false)], args := [d1, d2] }
  | _ => none }
def FnExactNoteNamedWrongFalsely : Prop := fnExactNoteNamedRow.holds Try.pinned (OpenSpec.ofChange fnExactNoteNamedWrong)

/-- 'laws.FnExactDropNote': WHATEVER THE INPUT: true; the input reads as it did. -/
def fnExactDropNoteSpec : ChangeSpec := { name := "fnExactDropNote", fn := fun _ => fun
  | [d1, d2] => { results := [.lit (.bool true)], args := [d1, d2] }
  | _ => none }
def fnExactDropNoteRow : OpenClaim := { program := "ytdjnblkgeaphmaa", sum := "0e1b5d9ad6b75a383c3d121a7824ef56e04dc2018a465e79232a62f07d7a7476", func := "loop.example/g01007/laws.FnExactDropNote", spec := "fnExactDropNote", inPlace := ["math.sqrt", "internal/bytealg.abigen_runtime_cmpstring"], unfollowed := true, recurses := true, plainKeys := false, apart := false }
def FnExactDropNoteSaid : Prop := fnExactDropNoteRow.holds Try.pinned (OpenSpec.ofChange fnExactDropNoteSpec)

/-- ITS FALSE NEIGHBOUR: 'it returns false'. Refute it at one input. -/
def fnExactDropNoteWrong : ChangeSpec := { name := "fnExactDropNote", fn := fun _ => fun
  | [d1, d2] => { results := [.lit (.bool false)], args := [d1, d2] }
  | _ => none }
def FnExactDropNoteWrongFalsely : Prop := fnExactDropNoteRow.holds Try.pinned (OpenSpec.ofChange fnExactDropNoteWrong)

/-- 'laws.FnExactAddNote': WHATEVER THE INPUT: true; the input reads as it did. -/
def fnExactAddNoteSpec : ChangeSpec := { name := "fnExactAddNote", fn := fun _ => fun
  | [d1, d2] => { results := [.lit (.bool true)], args := [d1, d2] }
  | _ => none }
def fnExactAddNoteRow : OpenClaim := { program := "ytdjnblkgeaphmaa", sum := "0e1b5d9ad6b75a383c3d121a7824ef56e04dc2018a465e79232a62f07d7a7476", func := "loop.example/g01007/laws.FnExactAddNote", spec := "fnExactAddNote", inPlace := ["math.sqrt", "internal/bytealg.abigen_runtime_cmpstring", "slices.overlaps[loop.example/g01007/impl.Note]"], unfollowed := true, recurses := true, plainKeys := false, apart := false }
def FnExactAddNoteSaid : Prop := fnExactAddNoteRow.holds Try.pinned (OpenSpec.ofChange fnExactAddNoteSpec)

/-- ITS FALSE NEIGHBOUR: 'it returns false'. Refute it at one input. -/
def fnExactAddNoteWrong : ChangeSpec := { name := "fnExactAddNote", fn := fun _ => fun
  | [d1, d2] => { results := [.lit (.bool false)], args := [d1, d2] }
  | _ => none }
def FnExactAddNoteWrongFalsely : Prop := fnExactAddNoteRow.holds Try.pinned (OpenSpec.ofChange fnExactAddNoteWrong)

/-- 'laws.FnExactUnpackNotes': WHATEVER THE INPUT: true; the input reads as it did. -/
def fnExactUnpackNotesSpec : ChangeSpec := { name := "fnExactUnpackNotes", fn := fun _ => fun
  | [d] => { results := [.lit (.bool true)], args := [d] }
  | _ => none }
def fnExactUnpackNotesRow : OpenClaim := { program := "ytdjnblkgeaphmaa", sum := "0e1b5d9ad6b75a383c3d121a7824ef56e04dc2018a465e79232a62f07d7a7476", func := "loop.example/g01007/laws.FnExactUnpackNotes", spec := "fnExactUnpackNotes", inPlace := ["internal/abi.NoEscape", "internal/bytealg.MakeNoZero", "math.sqrt"], unfollowed := true, recurses := true, plainKeys := false, apart := false }
def FnExactUnpackNotesSaid : Prop := fnExactUnpackNotesRow.holds Try.pinned (OpenSpec.ofChange fnExactUnpackNotesSpec)

/-- ITS FALSE NEIGHBOUR: 'it returns false'. Refute it at one input. -/
def fnExactUnpackNotesWrong : ChangeSpec := { name := "fnExactUnpackNotes", fn := fun _ => fun
  | [d] => { results := [.lit (.bool false)], args := [d] }
  | _ => none }
def FnExactUnpackNotesWrongFalsely : Prop := fnExactUnpackNotesRow.holds Try.pinned (OpenSpec.ofChange fnExactUnpackNotesWrong)

/-- 'laws.FnRules': WHATEVER THE INPUT: true; the input reads as it did. -/
def fnRulesSpec : ChangeSpec := { name := "fnRules", fn := fun _ => fun
  | [d] => { results := [.lit (.bool true)], args := [d] }
  | _ => none }
def fnRulesRow : OpenClaim := { program := "ytdjnblkgeaphmaa", sum := "0e1b5d9ad6b75a383c3d121a7824ef56e04dc2018a465e79232a62f07d7a7476", func := "loop.example/g01007/laws.FnRules", spec := "fnRules", plainKeys := false, apart := false }
def FnRulesSaid : Prop := fnRulesRow.holds Try.pinned (OpenSpec.ofChange fnRulesSpec)

/-- ITS FALSE NEIGHBOUR: 'it returns false'. Refute it at one input. -/
def fnRulesWrong : ChangeSpec := { name := "fnRules", fn := fun _ => fun
  | [d] => { results := [.lit (.bool false)], args := [d] }
  | _ => none }
def FnRulesWrongFalsely : Prop := fnRulesRow.holds Try.pinned (OpenSpec.ofChange fnRulesWrong)

/-- 'laws.FnScales': WHATEVER THE INPUT: true; the input reads as it did. -/
def fnScalesSpec : ChangeSpec := { name := "fnScales", fn := fun _ => fun
  | [d] => { results := [.lit (.bool true)], args := [d] }
  | _ => none }
def fnScalesRow : OpenClaim := { program := "ytdjnblkgeaphmaa", sum := "0e1b5d9ad6b75a383c3d121a7824ef56e04dc2018a465e79232a62f07d7a7476", func := "loop.example/g01007/laws.FnScales", spec := "fnScales", unfollowed := true, recurses := true, plainKeys := false, apart := false }
def FnScalesSaid : Prop := fnScalesRow.holds Try.pinned (OpenSpec.ofChange fnScalesSpec)

/-- ITS FALSE NEIGHBOUR: 'it returns false'. Refute it at one input. -/
def fnScalesWrong : ChangeSpec := { name := "fnScales", fn := fun _ => fun
  | [d] => { results := [.lit (.bool false)], args := [d] }
  | _ => none }
def FnScalesWrongFalsely : Prop := fnScalesRow.holds Try.pinned (OpenSpec.ofChange fnScalesWrong)

/-- 'laws.FnNoteValues': WHATEVER THE INPUT: true; the input reads as it did. -/
def fnNoteValuesSpec : ChangeSpec := { name := "fnNoteValues", fn := fun _ => fun
  | [d] => { results := [.lit (.bool true)], args := [d] }
  | _ => none }
def fnNoteValuesRow : OpenClaim := { program := "ytdjnblkgeaphmaa", sum := "0e1b5d9ad6b75a383c3d121a7824ef56e04dc2018a465e79232a62f07d7a7476", func := "loop.example/g01007/laws.FnNoteValues", spec := "fnNoteValues", inPlace := ["math.sqrt"], unfollowed := true, recurses := true, plainKeys := false, apart := false }
def FnNoteValuesSaid : Prop := fnNoteValuesRow.holds Try.pinned (OpenSpec.ofChange fnNoteValuesSpec)

/-- ITS FALSE NEIGHBOUR: 'it returns false'. Refute it at one input. -/
def fnNoteValuesWrong : ChangeSpec := { name := "fnNoteValues", fn := fun _ => fun
  | [d] => { results := [.lit (.bool false)], args := [d] }
  | _ => none }
def FnNoteValuesWrongFalsely : Prop := fnNoteValuesRow.holds Try.pinned (OpenSpec.ofChange fnNoteValuesWrong)

/- THE SECOND FORM. 'bulk': how many values and letters a reading holds, each counted each time it is reached (what is shared counts as often as it is met; a slice's spare places count too). A statement '..UptoSaid' is the law's where the arguments, and the package variables that the reading takes, are together of bulk at most 1048576: NARROWER than '..Said'. Prove '..Said' where nothing that the law and all that it calls make is longer than what came in: it says more and counts as full. Else prove '..UptoSaid'. A law counts once. -/
mutual
def uptoBulk {H : Type} : DataW H → Nat
  | .lit (.string bytes) => bytes.length + 1
  | .lit _ => 1
  | .nil => 1
  | .ptr d => uptoBulk d + 1
  | .slice elems spare => uptoBulkAll elems + uptoBulkAll spare + 1
  | .agg parts => uptoBulkAll parts + 1
  | .iface _ d => uptoBulk d + 1
  | .map entries => uptoBulkEntries entries + 1
  | .held _ => 1
def uptoBulkAll {H : Type} : List (DataW H) → Nat
  | [] => 0
  | d :: r => uptoBulk d + uptoBulkAll r
def uptoBulkEntries {H : Type} : List (Lit × DataW H) → Nat
  | [] => 0
  | x :: r => uptoBulkEntry x + uptoBulkEntries r
def uptoBulkEntry {H : Type} : Lit × DataW H → Nat
  | (.string bytes, d) => bytes.length + uptoBulk d + 1
  | (_, d) => uptoBulk d + 1
 end
def uptoSmall : (H : Type) → List (DataW H) → Bool := fun _ ds => decide (uptoBulkAll ds ≤ 1048576)
def OpenSpec.upto (s : _root_.Go.ChangeSpec) : _root_.Go.OpenSpec := { _root_.Go.OpenSpec.ofChange s with cond := some uptoSmall }

/-- 'laws.FnExactNoteNamed', WHERE WHAT IT READS IS OF BULK AT MOST 1048576: true; the input reads as it did. -/
def fnExactNoteNamedUptoRow : OpenClaim := { program := "ytdjnblkgeaphmaa", sum := "0e1b5d9ad6b75a383c3d121a7824ef56e04dc2018a465e79232a62f07d7a7476", func := "loop.example/g01007/laws.FnExactNoteNamed", spec := "fnExactNoteNamed", inPlace := ["math.sqrt", "internal/bytealg.abigen_runtime_cmpstring"], unfollowed := true, recurses := true, plainKeys := false, apart := false, narrowed := true }
def FnExactNoteNamedUptoSaid : Prop := fnExactNoteNamedUptoRow.holds Try.pinned (OpenSpec.upto fnExactNoteNamedSpec)

/-- 'laws.FnExactDropNote', WHERE WHAT IT READS IS OF BULK AT MOST 1048576: true; the input reads as it did. -/
def fnExactDropNoteUptoRow : OpenClaim := { program := "ytdjnblkgeaphmaa", sum := "0e1b5d9ad6b75a383c3d121a7824ef56e04dc2018a465e79232a62f07d7a7476", func := "loop.example/g01007/laws.FnExactDropNote", spec := "fnExactDropNote", inPlace := ["math.sqrt", "internal/bytealg.abigen_runtime_cmpstring"], unfollowed := true, recurses := true, plainKeys := false, apart := false, narrowed := true }
def FnExactDropNoteUptoSaid : Prop := fnExactDropNoteUptoRow.holds Try.pinned (OpenSpec.upto fnExactDropNoteSpec)

/-- 'laws.FnExactAddNote', WHERE WHAT IT READS IS OF BULK AT MOST 1048576: true; the input reads as it did. -/
def fnExactAddNoteUptoRow : OpenClaim := { program := "ytdjnblkgeaphmaa", sum := "0e1b5d9ad6b75a383c3d121a7824ef56e04dc2018a465e79232a62f07d7a7476", func := "loop.example/g01007/laws.FnExactAddNote", spec := "fnExactAddNote", inPlace := ["math.sqrt", "internal/bytealg.abigen_runtime_cmpstring", "slices.overlaps[loop.example/g01007/impl.Note]"], unfollowed := true, recurses := true, plainKeys := false, apart := false, narrowed := true }
def FnExactAddNoteUptoSaid : Prop := fnExactAddNoteUptoRow.holds Try.pinned (OpenSpec.upto fnExactAddNoteSpec)

/-- 'laws.FnExactUnpackNotes', WHERE WHAT IT READS IS OF BULK AT MOST 1048576: true; the input reads as it did. -/
def fnExactUnpackNotesUptoRow : OpenClaim := { program := "ytdjnblkgeaphmaa", sum := "0e1b5d9ad6b75a383c3d121a7824ef56e04dc2018a465e79232a62f07d7a7476", func := "loop.example/g01007/laws.FnExactUnpackNotes", spec := "fnExactUnpackNotes", inPlace := ["internal/abi.NoEscape", "internal/bytealg.MakeNoZero", "math.sqrt"], unfollowed := true, recurses := true, plainKeys := false, apart := false, narrowed := true }
def FnExactUnpackNotesUptoSaid : Prop := fnExactUnpackNotesUptoRow.holds Try.pinned (OpenSpec.upto fnExactUnpackNotesSpec)

/-- 'laws.FnRules', WHERE WHAT IT READS IS OF BULK AT MOST 1048576: true; the input reads as it did. -/
def fnRulesUptoRow : OpenClaim := { program := "ytdjnblkgeaphmaa", sum := "0e1b5d9ad6b75a383c3d121a7824ef56e04dc2018a465e79232a62f07d7a7476", func := "loop.example/g01007/laws.FnRules", spec := "fnRules", plainKeys := false, apart := false, narrowed := true }
def FnRulesUptoSaid : Prop := fnRulesUptoRow.holds Try.pinned (OpenSpec.upto fnRulesSpec)

/-- 'laws.FnScales', WHERE WHAT IT READS IS OF BULK AT MOST 1048576: true; the input reads as it did. -/
def fnScalesUptoRow : OpenClaim := { program := "ytdjnblkgeaphmaa", sum := "0e1b5d9ad6b75a383c3d121a7824ef56e04dc2018a465e79232a62f07d7a7476", func := "loop.example/g01007/laws.FnScales", spec := "fnScales", unfollowed := true, recurses := true, plainKeys := false, apart := false, narrowed := true }
def FnScalesUptoSaid : Prop := fnScalesUptoRow.holds Try.pinned (OpenSpec.upto fnScalesSpec)

/-- 'laws.FnNoteValues', WHERE WHAT IT READS IS OF BULK AT MOST 1048576: true; the input reads as it did. -/
def fnNoteValuesUptoRow : OpenClaim := { program := "ytdjnblkgeaphmaa", sum := "0e1b5d9ad6b75a383c3d121a7824ef56e04dc2018a465e79232a62f07d7a7476", func := "loop.example/g01007/laws.FnNoteValues", spec := "fnNoteValues", inPlace := ["math.sqrt"], unfollowed := true, recurses := true, plainKeys := false, apart := false, narrowed := true }
def FnNoteValuesUptoSaid : Prop := fnNoteValuesUptoRow.holds Try.pinned (OpenSpec.upto fnNoteValuesSpec)

end Rows
end Go.Proofs.Ytdjnblkgeaphmaa
