/-
  No cell of these rows narrows 'for every input' (looked for: loops, veiled, ifaces, maps, wideKeys, modest, calm, conditions, laid).
  DERIVED. THE GIVEN ROWS OF THIS SEAT. 11 by the template 'for every input the law returns true; each argument reads behind the call as it read before'; 0 by the template 'total and deterministic' (their statements: YtffocmhimkgfeaaTotals.lean).
  GIVEN WITH THE SEED: the statements are not yours to turn. If you find one false, say at which input.
  Laid BY PROGRAM, IN A SANDBOX (cutbox-rows.mjs): the forced cells as the released guide's own fill.sh prints them over the translation 2acff26cc987884e… (all of the seat's roots in one cut). By AI agents, Wed Nov 11 2026. No macro, syntax, notation, axiom, sorry.
-/
import Derived.Test.YtffocmhimkgfeaaChecked
import GoSem.Claim
import GoSem.ClaimJoined
import GoSem.ClaimMapViews
import Derived.JoinedTies
import Derived.KernelRfl
namespace Go.Proofs.Ytffocmhimkgfeaa
/- THE CELL 'sum', in the pinned program and in every row, IS THE sha256 OF THE DUMP (.gsa) THAT YtffocmhimkgfeaaProg.lean LOADS. Nothing in Lean hashes anything: it is a label: what it is worth is what the hold of that sum in a sandbox is worth. -/
noncomputable def Try.pinned : Pinned := { name := "ytffocmhimkgfeaa", sum := "2acff26cc987884ec6dfd8224bb6ba1f29e1ea57c28840e81dee74abf2385509", checked := Try.checked }
namespace Rows
def none {H : Type} : Left H := { results := [], args := [] }

/-- 'laws.FnExactStepSizes': WHATEVER THE INPUT: true; the input reads as it did. -/
def fnExactStepSizesSpec : ChangeSpec := { name := "fnExactStepSizes", fn := fun _ => fun
  | [d] => { results := [.lit (.bool true)], args := [d] }
  | _ => none }
def fnExactStepSizesRow : OpenClaim := { program := "ytffocmhimkgfeaa", sum := "2acff26cc987884ec6dfd8224bb6ba1f29e1ea57c28840e81dee74abf2385509", func := "loop.example/g01007/laws.FnExactStepSizes", spec := "fnExactStepSizes", unfollowed := true, recurses := true, plainKeys := false, apart := false }
def FnExactStepSizesSaid : Prop := fnExactStepSizesRow.holds Try.pinned (OpenSpec.ofChange fnExactStepSizesSpec)

/-- ITS FALSE NEIGHBOUR: 'it returns false'. Refute it at one input. -/
def fnExactStepSizesWrong : ChangeSpec := { name := "fnExactStepSizes", fn := fun _ => fun
  | [d] => { results := [.lit (.bool false)], args := [d] }
  | _ => none }
def FnExactStepSizesWrongFalsely : Prop := fnExactStepSizesRow.holds Try.pinned (OpenSpec.ofChange fnExactStepSizesWrong)

/-- 'laws.FnRules': WHATEVER THE INPUT: true; the input reads as it did. -/
def fnRulesSpec : ChangeSpec := { name := "fnRules", fn := fun _ => fun
  | [d] => { results := [.lit (.bool true)], args := [d] }
  | _ => none }
def fnRulesRow : OpenClaim := { program := "ytffocmhimkgfeaa", sum := "2acff26cc987884ec6dfd8224bb6ba1f29e1ea57c28840e81dee74abf2385509", func := "loop.example/g01007/laws.FnRules", spec := "fnRules", plainKeys := false, apart := false }
def FnRulesSaid : Prop := fnRulesRow.holds Try.pinned (OpenSpec.ofChange fnRulesSpec)

/-- ITS FALSE NEIGHBOUR: 'it returns false'. Refute it at one input. -/
def fnRulesWrong : ChangeSpec := { name := "fnRules", fn := fun _ => fun
  | [d] => { results := [.lit (.bool false)], args := [d] }
  | _ => none }
def FnRulesWrongFalsely : Prop := fnRulesRow.holds Try.pinned (OpenSpec.ofChange fnRulesWrong)

/-- 'laws.FnGears': WHATEVER THE INPUT: true; the input reads as it did. -/
def fnGearsSpec : ChangeSpec := { name := "fnGears", fn := fun _ => fun
  | [d] => { results := [.lit (.bool true)], args := [d] }
  | _ => none }
def fnGearsRow : OpenClaim := { program := "ytffocmhimkgfeaa", sum := "2acff26cc987884ec6dfd8224bb6ba1f29e1ea57c28840e81dee74abf2385509", func := "loop.example/g01007/laws.FnGears", spec := "fnGears", plainKeys := false, apart := false }
def FnGearsSaid : Prop := fnGearsRow.holds Try.pinned (OpenSpec.ofChange fnGearsSpec)

/-- ITS FALSE NEIGHBOUR: 'it returns false'. Refute it at one input. -/
def fnGearsWrong : ChangeSpec := { name := "fnGears", fn := fun _ => fun
  | [d] => { results := [.lit (.bool false)], args := [d] }
  | _ => none }
def FnGearsWrongFalsely : Prop := fnGearsRow.holds Try.pinned (OpenSpec.ofChange fnGearsWrong)

/-- 'laws.FnExactTermsForDigits': WHATEVER THE INPUT: true; the input reads as it did. -/
def fnExactTermsForDigitsSpec : ChangeSpec := { name := "fnExactTermsForDigits", fn := fun _ => fun
  | [d1, d2, d3] => { results := [.lit (.bool true)], args := [d1, d2, d3] }
  | _ => none }
def fnExactTermsForDigitsRow : OpenClaim := { program := "ytffocmhimkgfeaa", sum := "2acff26cc987884ec6dfd8224bb6ba1f29e1ea57c28840e81dee74abf2385509", func := "loop.example/g01007/laws.FnExactTermsForDigits", spec := "fnExactTermsForDigits", plainKeys := false, apart := false }
def FnExactTermsForDigitsSaid : Prop := fnExactTermsForDigitsRow.holds Try.pinned (OpenSpec.ofChange fnExactTermsForDigitsSpec)

/-- ITS FALSE NEIGHBOUR: 'it returns false'. Refute it at one input. -/
def fnExactTermsForDigitsWrong : ChangeSpec := { name := "fnExactTermsForDigits", fn := fun _ => fun
  | [d1, d2, d3] => { results := [.lit (.bool false)], args := [d1, d2, d3] }
  | _ => none }
def FnExactTermsForDigitsWrongFalsely : Prop := fnExactTermsForDigitsRow.holds Try.pinned (OpenSpec.ofChange fnExactTermsForDigitsWrong)

/-- 'laws.FnExactDigitsOf': WHATEVER THE INPUT: true; the input reads as it did. -/
def fnExactDigitsOfSpec : ChangeSpec := { name := "fnExactDigitsOf", fn := fun _ => fun
  | [d1, d2, d3] => { results := [.lit (.bool true)], args := [d1, d2, d3] }
  | _ => none }
def fnExactDigitsOfRow : OpenClaim := { program := "ytffocmhimkgfeaa", sum := "2acff26cc987884ec6dfd8224bb6ba1f29e1ea57c28840e81dee74abf2385509", func := "loop.example/g01007/laws.FnExactDigitsOf", spec := "fnExactDigitsOf", plainKeys := false, apart := false }
def FnExactDigitsOfSaid : Prop := fnExactDigitsOfRow.holds Try.pinned (OpenSpec.ofChange fnExactDigitsOfSpec)

/-- ITS FALSE NEIGHBOUR: 'it returns false'. Refute it at one input. -/
def fnExactDigitsOfWrong : ChangeSpec := { name := "fnExactDigitsOf", fn := fun _ => fun
  | [d1, d2, d3] => { results := [.lit (.bool false)], args := [d1, d2, d3] }
  | _ => none }
def FnExactDigitsOfWrongFalsely : Prop := fnExactDigitsOfRow.holds Try.pinned (OpenSpec.ofChange fnExactDigitsOfWrong)

/-- 'laws.FnExactProvePeriod': WHATEVER THE INPUT: true; the input reads as it did. -/
def fnExactProvePeriodSpec : ChangeSpec := { name := "fnExactProvePeriod", fn := fun _ => fun
  | [d] => { results := [.lit (.bool true)], args := [d] }
  | _ => none }
def fnExactProvePeriodRow : OpenClaim := { program := "ytffocmhimkgfeaa", sum := "2acff26cc987884ec6dfd8224bb6ba1f29e1ea57c28840e81dee74abf2385509", func := "loop.example/g01007/laws.FnExactProvePeriod", spec := "fnExactProvePeriod", inPlace := ["math.sqrt"], plainKeys := false, apart := false }
def FnExactProvePeriodSaid : Prop := fnExactProvePeriodRow.holds Try.pinned (OpenSpec.ofChange fnExactProvePeriodSpec)

/-- ITS FALSE NEIGHBOUR: 'it returns false'. Refute it at one input. -/
def fnExactProvePeriodWrong : ChangeSpec := { name := "fnExactProvePeriod", fn := fun _ => fun
  | [d] => { results := [.lit (.bool false)], args := [d] }
  | _ => none }
def FnExactProvePeriodWrongFalsely : Prop := fnExactProvePeriodRow.holds Try.pinned (OpenSpec.ofChange fnExactProvePeriodWrong)

/-- 'laws.FnExactProveUnit': WHATEVER THE INPUT: true; the input reads as it did. -/
def fnExactProveUnitSpec : ChangeSpec := { name := "fnExactProveUnit", fn := fun _ => fun
  | [d] => { results := [.lit (.bool true)], args := [d] }
  | _ => none }
def fnExactProveUnitRow : OpenClaim := { program := "ytffocmhimkgfeaa", sum := "2acff26cc987884ec6dfd8224bb6ba1f29e1ea57c28840e81dee74abf2385509", func := "loop.example/g01007/laws.FnExactProveUnit", spec := "fnExactProveUnit", inPlace := ["math.sqrt"], plainKeys := false, apart := false }
def FnExactProveUnitSaid : Prop := fnExactProveUnitRow.holds Try.pinned (OpenSpec.ofChange fnExactProveUnitSpec)

/-- ITS FALSE NEIGHBOUR: 'it returns false'. Refute it at one input. -/
def fnExactProveUnitWrong : ChangeSpec := { name := "fnExactProveUnit", fn := fun _ => fun
  | [d] => { results := [.lit (.bool false)], args := [d] }
  | _ => none }
def FnExactProveUnitWrongFalsely : Prop := fnExactProveUnitRow.holds Try.pinned (OpenSpec.ofChange fnExactProveUnitWrong)

/-- 'laws.FnExactNoteNamed': WHATEVER THE INPUT: true; the input reads as it did. -/
def fnExactNoteNamedSpec : ChangeSpec := { name := "fnExactNoteNamed", fn := fun _ => fun
  | [d1, d2] => { results := [.lit (.bool true)], args := [d1, d2] }
  | _ => none }
def fnExactNoteNamedRow : OpenClaim := { program := "ytffocmhimkgfeaa", sum := "2acff26cc987884ec6dfd8224bb6ba1f29e1ea57c28840e81dee74abf2385509", func := "loop.example/g01007/laws.FnExactNoteNamed", spec := "fnExactNoteNamed", inPlace := ["math.sqrt", "internal/bytealg.abigen_runtime_cmpstring"], unfollowed := true, recurses := true, plainKeys := false, apart := false }
def FnExactNoteNamedSaid : Prop := fnExactNoteNamedRow.holds Try.pinned (OpenSpec.ofChange fnExactNoteNamedSpec)

/-- ITS FALSE NEIGHBOUR: 'it returns false'. Refute it at one input. -/
def fnExactNoteNamedWrong : ChangeSpec := { name := "fnExactNoteNamed", fn := fun _ => fun
  | [d1, d2] => { results := [.lit (.bool false)], args := [d1, d2] }
  | _ => none }
def FnExactNoteNamedWrongFalsely : Prop := fnExactNoteNamedRow.holds Try.pinned (OpenSpec.ofChange fnExactNoteNamedWrong)

/-- 'laws.FnExactDropNote': WHATEVER THE INPUT: true; the input reads as it did. -/
def fnExactDropNoteSpec : ChangeSpec := { name := "fnExactDropNote", fn := fun _ => fun
  | [d1, d2] => { results := [.lit (.bool true)], args := [d1, d2] }
  | _ => none }
def fnExactDropNoteRow : OpenClaim := { program := "ytffocmhimkgfeaa", sum := "2acff26cc987884ec6dfd8224bb6ba1f29e1ea57c28840e81dee74abf2385509", func := "loop.example/g01007/laws.FnExactDropNote", spec := "fnExactDropNote", inPlace := ["math.sqrt", "internal/bytealg.abigen_runtime_cmpstring"], unfollowed := true, recurses := true, plainKeys := false, apart := false }
def FnExactDropNoteSaid : Prop := fnExactDropNoteRow.holds Try.pinned (OpenSpec.ofChange fnExactDropNoteSpec)

/-- ITS FALSE NEIGHBOUR: 'it returns false'. Refute it at one input. -/
def fnExactDropNoteWrong : ChangeSpec := { name := "fnExactDropNote", fn := fun _ => fun
  | [d1, d2] => { results := [.lit (.bool false)], args := [d1, d2] }
  | _ => none }
def FnExactDropNoteWrongFalsely : Prop := fnExactDropNoteRow.holds Try.pinned (OpenSpec.ofChange fnExactDropNoteWrong)

/-- 'laws.FnExactPackNotes': WHATEVER THE INPUT: true; the input reads as it did. -/
def fnExactPackNotesSpec : ChangeSpec := { name := "fnExactPackNotes", fn := fun _ => fun
  | [d] => { results := [.lit (.bool true)], args := [d] }
  | _ => none }
def fnExactPackNotesRow : OpenClaim := { program := "ytffocmhimkgfeaa", sum := "2acff26cc987884ec6dfd8224bb6ba1f29e1ea57c28840e81dee74abf2385509", func := "loop.example/g01007/laws.FnExactPackNotes", spec := "fnExactPackNotes", inPlace := ["math.sqrt"], unfollowed := true, recurses := true, plainKeys := false, apart := false }
def FnExactPackNotesSaid : Prop := fnExactPackNotesRow.holds Try.pinned (OpenSpec.ofChange fnExactPackNotesSpec)

/-- ITS FALSE NEIGHBOUR: 'it returns false'. Refute it at one input. -/
def fnExactPackNotesWrong : ChangeSpec := { name := "fnExactPackNotes", fn := fun _ => fun
  | [d] => { results := [.lit (.bool false)], args := [d] }
  | _ => none }
def FnExactPackNotesWrongFalsely : Prop := fnExactPackNotesRow.holds Try.pinned (OpenSpec.ofChange fnExactPackNotesWrong)

/-- 'laws.FnExactCheckCertificate': WHATEVER THE INPUT: true; the input reads as it did. -/
def fnExactCheckCertificateSpec : ChangeSpec := { name := "fnExactCheckCertificate", fn := fun _ => fun
  | [d] => { results := [.lit (.bool true)], args := [d] }
  | _ => none }
def fnExactCheckCertificateRow : OpenClaim := { program := "ytffocmhimkgfeaa", sum := "2acff26cc987884ec6dfd8224bb6ba1f29e1ea57c28840e81dee74abf2385509", func := "loop.example/g01007/laws.FnExactCheckCertificate", spec := "fnExactCheckCertificate", inPlace := ["math.sqrt"], unfollowed := true, recurses := true, plainKeys := false, apart := false }
def FnExactCheckCertificateSaid : Prop := fnExactCheckCertificateRow.holds Try.pinned (OpenSpec.ofChange fnExactCheckCertificateSpec)

/-- ITS FALSE NEIGHBOUR: 'it returns false'. Refute it at one input. -/
def fnExactCheckCertificateWrong : ChangeSpec := { name := "fnExactCheckCertificate", fn := fun _ => fun
  | [d] => { results := [.lit (.bool false)], args := [d] }
  | _ => none }
def FnExactCheckCertificateWrongFalsely : Prop := fnExactCheckCertificateRow.holds Try.pinned (OpenSpec.ofChange fnExactCheckCertificateWrong)

/- THE SECOND FORM. 'bulk': how many values and letters a reading holds, each counted each time it is reached (what is shared counts as often as it is met; a slice's spare places count too). A statement '..UptoSaid' is the law's where the arguments, and the package variables that the reading takes, are together of bulk at most 1048576: NARROWER than '..Said'. Prove '..Said' where nothing that the law and all that it calls make is longer than what came in: it says more and counts as full. Else prove '..UptoSaid'. A law counts once. -/
mutual
def uptoBulk {H : Type} : DataW H → Nat
  | .lit (.string bytes) => bytes.length + 1
  | .lit _ => 1
  | .nil => 1
  | .ptr d => uptoBulk d + 1
  | .slice elems spare => uptoBulkAll elems + uptoBulkAll spare + 1
  | .agg parts => uptoBulkAll parts + 1
  | .iface _ d => uptoBulk d + 1
  | .map entries => uptoBulkEntries entries + 1
  | .held _ => 1
def uptoBulkAll {H : Type} : List (DataW H) → Nat
  | [] => 0
  | d :: r => uptoBulk d + uptoBulkAll r
def uptoBulkEntries {H : Type} : List (Lit × DataW H) → Nat
  | [] => 0
  | x :: r => uptoBulkEntry x + uptoBulkEntries r
def uptoBulkEntry {H : Type} : Lit × DataW H → Nat
  | (.string bytes, d) => bytes.length + uptoBulk d + 1
  | (_, d) => uptoBulk d + 1
 end
def uptoSmall : (H : Type) → List (DataW H) → Bool := fun _ ds => decide (uptoBulkAll ds ≤ 1048576)
def OpenSpec.upto (s : _root_.Go.ChangeSpec) : _root_.Go.OpenSpec := { _root_.Go.OpenSpec.ofChange s with cond := some uptoSmall }

/-- 'laws.FnExactStepSizes', WHERE WHAT IT READS IS OF BULK AT MOST 1048576: true; the input reads as it did. -/
def fnExactStepSizesUptoRow : OpenClaim := { program := "ytffocmhimkgfeaa", sum := "2acff26cc987884ec6dfd8224bb6ba1f29e1ea57c28840e81dee74abf2385509", func := "loop.example/g01007/laws.FnExactStepSizes", spec := "fnExactStepSizes", unfollowed := true, recurses := true, plainKeys := false, apart := false, narrowed := true }
def FnExactStepSizesUptoSaid : Prop := fnExactStepSizesUptoRow.holds Try.pinned (OpenSpec.upto fnExactStepSizesSpec)

/-- 'laws.FnRules', WHERE WHAT IT READS IS OF BULK AT MOST 1048576: true; the input reads as it did. -/
def fnRulesUptoRow : OpenClaim := { program := "ytffocmhimkgfeaa", sum := "2acff26cc987884ec6dfd8224bb6ba1f29e1ea57c28840e81dee74abf2385509", func := "loop.example/g01007/laws.FnRules", spec := "fnRules", plainKeys := false, apart := false, narrowed := true }
def FnRulesUptoSaid : Prop := fnRulesUptoRow.holds Try.pinned (OpenSpec.upto fnRulesSpec)

/-- 'laws.FnGears', WHERE WHAT IT READS IS OF BULK AT MOST 1048576: true; the input reads as it did. -/
def fnGearsUptoRow : OpenClaim := { program := "ytffocmhimkgfeaa", sum := "2acff26cc987884ec6dfd8224bb6ba1f29e1ea57c28840e81dee74abf2385509", func := "loop.example/g01007/laws.FnGears", spec := "fnGears", plainKeys := false, apart := false, narrowed := true }
def FnGearsUptoSaid : Prop := fnGearsUptoRow.holds Try.pinned (OpenSpec.upto fnGearsSpec)

/-- 'laws.FnExactTermsForDigits', WHERE WHAT IT READS IS OF BULK AT MOST 1048576: true; the input reads as it did. -/
def fnExactTermsForDigitsUptoRow : OpenClaim := { program := "ytffocmhimkgfeaa", sum := "2acff26cc987884ec6dfd8224bb6ba1f29e1ea57c28840e81dee74abf2385509", func := "loop.example/g01007/laws.FnExactTermsForDigits", spec := "fnExactTermsForDigits", plainKeys := false, apart := false, narrowed := true }
def FnExactTermsForDigitsUptoSaid : Prop := fnExactTermsForDigitsUptoRow.holds Try.pinned (OpenSpec.upto fnExactTermsForDigitsSpec)

/-- 'laws.FnExactDigitsOf', WHERE WHAT IT READS IS OF BULK AT MOST 1048576: true; the input reads as it did. -/
def fnExactDigitsOfUptoRow : OpenClaim := { program := "ytffocmhimkgfeaa", sum := "2acff26cc987884ec6dfd8224bb6ba1f29e1ea57c28840e81dee74abf2385509", func := "loop.example/g01007/laws.FnExactDigitsOf", spec := "fnExactDigitsOf", plainKeys := false, apart := false, narrowed := true }
def FnExactDigitsOfUptoSaid : Prop := fnExactDigitsOfUptoRow.holds Try.pinned (OpenSpec.upto fnExactDigitsOfSpec)

/-- 'laws.FnExactProvePeriod', WHERE WHAT IT READS IS OF BULK AT MOST 1048576: true; the input reads as it did. -/
def fnExactProvePeriodUptoRow : OpenClaim := { program := "ytffocmhimkgfeaa", sum := "2acff26cc987884ec6dfd8224bb6ba1f29e1ea57c28840e81dee74abf2385509", func := "loop.example/g01007/laws.FnExactProvePeriod", spec := "fnExactProvePeriod", inPlace := ["math.sqrt"], plainKeys := false, apart := false, narrowed := true }
def FnExactProvePeriodUptoSaid : Prop := fnExactProvePeriodUptoRow.holds Try.pinned (OpenSpec.upto fnExactProvePeriodSpec)

/-- 'laws.FnExactProveUnit', WHERE WHAT IT READS IS OF BULK AT MOST 1048576: true; the input reads as it did. -/
def fnExactProveUnitUptoRow : OpenClaim := { program := "ytffocmhimkgfeaa", sum := "2acff26cc987884ec6dfd8224bb6ba1f29e1ea57c28840e81dee74abf2385509", func := "loop.example/g01007/laws.FnExactProveUnit", spec := "fnExactProveUnit", inPlace := ["math.sqrt"], plainKeys := false, apart := false, narrowed := true }
def FnExactProveUnitUptoSaid : Prop := fnExactProveUnitUptoRow.holds Try.pinned (OpenSpec.upto fnExactProveUnitSpec)

/-- 'laws.FnExactNoteNamed', WHERE WHAT IT READS IS OF BULK AT MOST 1048576: true; the input reads as it did. -/
def fnExactNoteNamedUptoRow : OpenClaim := { program := "ytffocmhimkgfeaa", sum := "2acff26cc987884ec6dfd8224bb6ba1f29e1ea57c28840e81dee74abf2385509", func := "loop.example/g01007/laws.FnExactNoteNamed", spec := "fnExactNoteNamed", inPlace := ["math.sqrt", "internal/bytealg.abigen_runtime_cmpstring"], unfollowed := true, recurses := true, plainKeys := false, apart := false, narrowed := true }
def FnExactNoteNamedUptoSaid : Prop := fnExactNoteNamedUptoRow.holds Try.pinned (OpenSpec.upto fnExactNoteNamedSpec)

/-- 'laws.FnExactDropNote', WHERE WHAT IT READS IS OF BULK AT MOST 1048576: true; the input reads as it did. -/
def fnExactDropNoteUptoRow : OpenClaim := { program := "ytffocmhimkgfeaa", sum := "2acff26cc987884ec6dfd8224bb6ba1f29e1ea57c28840e81dee74abf2385509", func := "loop.example/g01007/laws.FnExactDropNote", spec := "fnExactDropNote", inPlace := ["math.sqrt", "internal/bytealg.abigen_runtime_cmpstring"], unfollowed := true, recurses := true, plainKeys := false, apart := false, narrowed := true }
def FnExactDropNoteUptoSaid : Prop := fnExactDropNoteUptoRow.holds Try.pinned (OpenSpec.upto fnExactDropNoteSpec)

/-- 'laws.FnExactPackNotes', WHERE WHAT IT READS IS OF BULK AT MOST 1048576: true; the input reads as it did. -/
def fnExactPackNotesUptoRow : OpenClaim := { program := "ytffocmhimkgfeaa", sum := "2acff26cc987884ec6dfd8224bb6ba1f29e1ea57c28840e81dee74abf2385509", func := "loop.example/g01007/laws.FnExactPackNotes", spec := "fnExactPackNotes", inPlace := ["math.sqrt"], unfollowed := true, recurses := true, plainKeys := false, apart := false, narrowed := true }
def FnExactPackNotesUptoSaid : Prop := fnExactPackNotesUptoRow.holds Try.pinned (OpenSpec.upto fnExactPackNotesSpec)

/-- 'laws.FnExactCheckCertificate', WHERE WHAT IT READS IS OF BULK AT MOST 1048576: true; the input reads as it did. -/
def fnExactCheckCertificateUptoRow : OpenClaim := { program := "ytffocmhimkgfeaa", sum := "2acff26cc987884ec6dfd8224bb6ba1f29e1ea57c28840e81dee74abf2385509", func := "loop.example/g01007/laws.FnExactCheckCertificate", spec := "fnExactCheckCertificate", inPlace := ["math.sqrt"], unfollowed := true, recurses := true, plainKeys := false, apart := false, narrowed := true }
def FnExactCheckCertificateUptoSaid : Prop := fnExactCheckCertificateUptoRow.holds Try.pinned (OpenSpec.upto fnExactCheckCertificateSpec)

end Rows
end Go.Proofs.Ytffocmhimkgfeaa
