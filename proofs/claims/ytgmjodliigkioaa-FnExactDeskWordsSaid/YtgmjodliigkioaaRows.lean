/-
  No cell of these rows narrows 'for every input' (looked for: loops, veiled, ifaces, maps, wideKeys, modest, calm, conditions, laid).
  DERIVED. THE GIVEN ROWS OF THIS SEAT. 12 by the template 'for every input the law returns true; each argument reads behind the call as it read before'; 0 by the template 'total and deterministic' (their statements: YtgmjodliigkioaaTotals.lean).
  GIVEN WITH THE SEED: the statements are not yours to turn. If you find one false, say at which input.
  Laid BY PROGRAM, IN A SANDBOX (cutbox-rows.mjs): the forced cells as the released guide's own fill.sh prints them over the translation ab3f1b7c3d60ca73… (all of the seat's roots in one cut). By AI agents, Wed Nov 11 2026. No macro, syntax, notation, axiom, sorry.
-/
import Derived.Test.YtgmjodliigkioaaChecked
import GoSem.Claim
import GoSem.ClaimJoined
import GoSem.ClaimMapViews
import Derived.JoinedTies
import Derived.KernelRfl
namespace Go.Proofs.Ytgmjodliigkioaa
/- THE CELL 'sum', in the pinned program and in every row, IS THE sha256 OF THE DUMP (.gsa) THAT YtgmjodliigkioaaProg.lean LOADS. Nothing in Lean hashes anything: it is a label: what it is worth is what the hold of that sum in a sandbox is worth. -/
noncomputable def Try.pinned : Pinned := { name := "ytgmjodliigkioaa", sum := "ab3f1b7c3d60ca7308152e6b2f864120a45447e5a146ff53dce60d87fdf0278d", checked := Try.checked }
namespace Rows
def none {H : Type} : Left H := { results := [], args := [] }

/-- 'laws.FnExactFifthOctaves': WHATEVER THE INPUT: true; the input reads as it did. -/
def fnExactFifthOctavesSpec : ChangeSpec := { name := "fnExactFifthOctaves", fn := fun _ => fun
  | [d] => { results := [.lit (.bool true)], args := [d] }
  | _ => none }
def fnExactFifthOctavesRow : OpenClaim := { program := "ytgmjodliigkioaa", sum := "ab3f1b7c3d60ca7308152e6b2f864120a45447e5a146ff53dce60d87fdf0278d", func := "loop.example/g01007/laws.FnExactFifthOctaves", spec := "fnExactFifthOctaves", apart := false }
def FnExactFifthOctavesSaid : Prop := fnExactFifthOctavesRow.holds Try.pinned (OpenSpec.ofChange fnExactFifthOctavesSpec)

/-- ITS FALSE NEIGHBOUR: 'it returns false'. Refute it at one input. -/
def fnExactFifthOctavesWrong : ChangeSpec := { name := "fnExactFifthOctaves", fn := fun _ => fun
  | [d] => { results := [.lit (.bool false)], args := [d] }
  | _ => none }
def FnExactFifthOctavesWrongFalsely : Prop := fnExactFifthOctavesRow.holds Try.pinned (OpenSpec.ofChange fnExactFifthOctavesWrong)

/-- 'laws.FnExactFifthSteps': WHATEVER THE INPUT: true; the input reads as it did. -/
def fnExactFifthStepsSpec : ChangeSpec := { name := "fnExactFifthSteps", fn := fun _ => fun
  | [d] => { results := [.lit (.bool true)], args := [d] }
  | _ => none }
def fnExactFifthStepsRow : OpenClaim := { program := "ytgmjodliigkioaa", sum := "ab3f1b7c3d60ca7308152e6b2f864120a45447e5a146ff53dce60d87fdf0278d", func := "loop.example/g01007/laws.FnExactFifthSteps", spec := "fnExactFifthSteps", apart := false }
def FnExactFifthStepsSaid : Prop := fnExactFifthStepsRow.holds Try.pinned (OpenSpec.ofChange fnExactFifthStepsSpec)

/-- ITS FALSE NEIGHBOUR: 'it returns false'. Refute it at one input. -/
def fnExactFifthStepsWrong : ChangeSpec := { name := "fnExactFifthSteps", fn := fun _ => fun
  | [d] => { results := [.lit (.bool false)], args := [d] }
  | _ => none }
def FnExactFifthStepsWrongFalsely : Prop := fnExactFifthStepsRow.holds Try.pinned (OpenSpec.ofChange fnExactFifthStepsWrong)

/-- 'laws.FnExactIsLeap': WHATEVER THE INPUT: true; the input reads as it did. -/
def fnExactIsLeapSpec : ChangeSpec := { name := "fnExactIsLeap", fn := fun _ => fun
  | [d1, d2] => { results := [.lit (.bool true)], args := [d1, d2] }
  | _ => none }
def fnExactIsLeapRow : OpenClaim := { program := "ytgmjodliigkioaa", sum := "ab3f1b7c3d60ca7308152e6b2f864120a45447e5a146ff53dce60d87fdf0278d", func := "loop.example/g01007/laws.FnExactIsLeap", spec := "fnExactIsLeap", apart := false }
def FnExactIsLeapSaid : Prop := fnExactIsLeapRow.holds Try.pinned (OpenSpec.ofChange fnExactIsLeapSpec)

/-- ITS FALSE NEIGHBOUR: 'it returns false'. Refute it at one input. -/
def fnExactIsLeapWrong : ChangeSpec := { name := "fnExactIsLeap", fn := fun _ => fun
  | [d1, d2] => { results := [.lit (.bool false)], args := [d1, d2] }
  | _ => none }
def FnExactIsLeapWrongFalsely : Prop := fnExactIsLeapRow.holds Try.pinned (OpenSpec.ofChange fnExactIsLeapWrong)

/-- 'laws.FnExactDeskWords': WHATEVER THE INPUT: true; the input reads as it did. -/
def fnExactDeskWordsSpec : ChangeSpec := { name := "fnExactDeskWords", fn := fun _ => fun
  | [] => { results := [.lit (.bool true)], args := [] }
  | _ => none }
def fnExactDeskWordsRow : OpenClaim := { program := "ytgmjodliigkioaa", sum := "ab3f1b7c3d60ca7308152e6b2f864120a45447e5a146ff53dce60d87fdf0278d", func := "loop.example/g01007/laws.FnExactDeskWords", spec := "fnExactDeskWords", apart := false }
def FnExactDeskWordsSaid : Prop := fnExactDeskWordsRow.holds Try.pinned (OpenSpec.ofChange fnExactDeskWordsSpec)

/-- ITS FALSE NEIGHBOUR: 'it returns false'. Refute it at one input. -/
def fnExactDeskWordsWrong : ChangeSpec := { name := "fnExactDeskWords", fn := fun _ => fun
  | [] => { results := [.lit (.bool false)], args := [] }
  | _ => none }
def FnExactDeskWordsWrongFalsely : Prop := fnExactDeskWordsRow.holds Try.pinned (OpenSpec.ofChange fnExactDeskWordsWrong)

/-- 'laws.FnExactDayNumber': WHATEVER THE INPUT: true; the input reads as it did. -/
def fnExactDayNumberSpec : ChangeSpec := { name := "fnExactDayNumber", fn := fun _ => fun
  | [d1, d2, d3] => { results := [.lit (.bool true)], args := [d1, d2, d3] }
  | _ => none }
def fnExactDayNumberRow : OpenClaim := { program := "ytgmjodliigkioaa", sum := "ab3f1b7c3d60ca7308152e6b2f864120a45447e5a146ff53dce60d87fdf0278d", func := "loop.example/g01007/laws.FnExactDayNumber", spec := "fnExactDayNumber", apart := false }
def FnExactDayNumberSaid : Prop := fnExactDayNumberRow.holds Try.pinned (OpenSpec.ofChange fnExactDayNumberSpec)

/-- ITS FALSE NEIGHBOUR: 'it returns false'. Refute it at one input. -/
def fnExactDayNumberWrong : ChangeSpec := { name := "fnExactDayNumber", fn := fun _ => fun
  | [d1, d2, d3] => { results := [.lit (.bool false)], args := [d1, d2, d3] }
  | _ => none }
def FnExactDayNumberWrongFalsely : Prop := fnExactDayNumberRow.holds Try.pinned (OpenSpec.ofChange fnExactDayNumberWrong)

/-- 'laws.FnExactLeapYears': WHATEVER THE INPUT: true; the input reads as it did. -/
def fnExactLeapYearsSpec : ChangeSpec := { name := "fnExactLeapYears", fn := fun _ => fun
  | [d] => { results := [.lit (.bool true)], args := [d] }
  | _ => none }
def fnExactLeapYearsRow : OpenClaim := { program := "ytgmjodliigkioaa", sum := "ab3f1b7c3d60ca7308152e6b2f864120a45447e5a146ff53dce60d87fdf0278d", func := "loop.example/g01007/laws.FnExactLeapYears", spec := "fnExactLeapYears", apart := false }
def FnExactLeapYearsSaid : Prop := fnExactLeapYearsRow.holds Try.pinned (OpenSpec.ofChange fnExactLeapYearsSpec)

/-- ITS FALSE NEIGHBOUR: 'it returns false'. Refute it at one input. -/
def fnExactLeapYearsWrong : ChangeSpec := { name := "fnExactLeapYears", fn := fun _ => fun
  | [d] => { results := [.lit (.bool false)], args := [d] }
  | _ => none }
def FnExactLeapYearsWrongFalsely : Prop := fnExactLeapYearsRow.holds Try.pinned (OpenSpec.ofChange fnExactLeapYearsWrong)

/-- 'laws.FnExactSameCertificate': WHATEVER THE INPUT: true; the input reads as it did. -/
def fnExactSameCertificateSpec : ChangeSpec := { name := "fnExactSameCertificate", fn := fun _ => fun
  | [d1, d2] => { results := [.lit (.bool true)], args := [d1, d2] }
  | _ => none }
def fnExactSameCertificateRow : OpenClaim := { program := "ytgmjodliigkioaa", sum := "ab3f1b7c3d60ca7308152e6b2f864120a45447e5a146ff53dce60d87fdf0278d", func := "loop.example/g01007/laws.FnExactSameCertificate", spec := "fnExactSameCertificate", apart := false }
def FnExactSameCertificateSaid : Prop := fnExactSameCertificateRow.holds Try.pinned (OpenSpec.ofChange fnExactSameCertificateSpec)

/-- ITS FALSE NEIGHBOUR: 'it returns false'. Refute it at one input. -/
def fnExactSameCertificateWrong : ChangeSpec := { name := "fnExactSameCertificate", fn := fun _ => fun
  | [d1, d2] => { results := [.lit (.bool false)], args := [d1, d2] }
  | _ => none }
def FnExactSameCertificateWrongFalsely : Prop := fnExactSameCertificateRow.holds Try.pinned (OpenSpec.ofChange fnExactSameCertificateWrong)

/-- 'laws.FnExactDivisorRule': WHATEVER THE INPUT: true; the input reads as it did. -/
def fnExactDivisorRuleSpec : ChangeSpec := { name := "fnExactDivisorRule", fn := fun _ => fun
  | [d1, d2] => { results := [.lit (.bool true)], args := [d1, d2] }
  | _ => none }
def fnExactDivisorRuleRow : OpenClaim := { program := "ytgmjodliigkioaa", sum := "ab3f1b7c3d60ca7308152e6b2f864120a45447e5a146ff53dce60d87fdf0278d", func := "loop.example/g01007/laws.FnExactDivisorRule", spec := "fnExactDivisorRule", apart := false }
def FnExactDivisorRuleSaid : Prop := fnExactDivisorRuleRow.holds Try.pinned (OpenSpec.ofChange fnExactDivisorRuleSpec)

/-- ITS FALSE NEIGHBOUR: 'it returns false'. Refute it at one input. -/
def fnExactDivisorRuleWrong : ChangeSpec := { name := "fnExactDivisorRule", fn := fun _ => fun
  | [d1, d2] => { results := [.lit (.bool false)], args := [d1, d2] }
  | _ => none }
def FnExactDivisorRuleWrongFalsely : Prop := fnExactDivisorRuleRow.holds Try.pinned (OpenSpec.ofChange fnExactDivisorRuleWrong)

/-- 'laws.FnExactOctaveTerms': WHATEVER THE INPUT: true; the input reads as it did. -/
def fnExactOctaveTermsSpec : ChangeSpec := { name := "fnExactOctaveTerms", fn := fun _ => fun
  | [d] => { results := [.lit (.bool true)], args := [d] }
  | _ => none }
def fnExactOctaveTermsRow : OpenClaim := { program := "ytgmjodliigkioaa", sum := "ab3f1b7c3d60ca7308152e6b2f864120a45447e5a146ff53dce60d87fdf0278d", func := "loop.example/g01007/laws.FnExactOctaveTerms", spec := "fnExactOctaveTerms", apart := false }
def FnExactOctaveTermsSaid : Prop := fnExactOctaveTermsRow.holds Try.pinned (OpenSpec.ofChange fnExactOctaveTermsSpec)

/-- ITS FALSE NEIGHBOUR: 'it returns false'. Refute it at one input. -/
def fnExactOctaveTermsWrong : ChangeSpec := { name := "fnExactOctaveTerms", fn := fun _ => fun
  | [d] => { results := [.lit (.bool false)], args := [d] }
  | _ => none }
def FnExactOctaveTermsWrongFalsely : Prop := fnExactOctaveTermsRow.holds Try.pinned (OpenSpec.ofChange fnExactOctaveTermsWrong)

/-- 'laws.FnExactRatioSteps': WHATEVER THE INPUT: true; the input reads as it did. -/
def fnExactRatioStepsSpec : ChangeSpec := { name := "fnExactRatioSteps", fn := fun _ => fun
  | [d1, d2] => { results := [.lit (.bool true)], args := [d1, d2] }
  | _ => none }
def fnExactRatioStepsRow : OpenClaim := { program := "ytgmjodliigkioaa", sum := "ab3f1b7c3d60ca7308152e6b2f864120a45447e5a146ff53dce60d87fdf0278d", func := "loop.example/g01007/laws.FnExactRatioSteps", spec := "fnExactRatioSteps", apart := false }
def FnExactRatioStepsSaid : Prop := fnExactRatioStepsRow.holds Try.pinned (OpenSpec.ofChange fnExactRatioStepsSpec)

/-- ITS FALSE NEIGHBOUR: 'it returns false'. Refute it at one input. -/
def fnExactRatioStepsWrong : ChangeSpec := { name := "fnExactRatioSteps", fn := fun _ => fun
  | [d1, d2] => { results := [.lit (.bool false)], args := [d1, d2] }
  | _ => none }
def FnExactRatioStepsWrongFalsely : Prop := fnExactRatioStepsRow.holds Try.pinned (OpenSpec.ofChange fnExactRatioStepsWrong)

/-- 'laws.FnExactGearError': WHATEVER THE INPUT: true; the input reads as it did. -/
def fnExactGearErrorSpec : ChangeSpec := { name := "fnExactGearError", fn := fun _ => fun
  | [d1, d2, d3] => { results := [.lit (.bool true)], args := [d1, d2, d3] }
  | _ => none }
def fnExactGearErrorRow : OpenClaim := { program := "ytgmjodliigkioaa", sum := "ab3f1b7c3d60ca7308152e6b2f864120a45447e5a146ff53dce60d87fdf0278d", func := "loop.example/g01007/laws.FnExactGearError", spec := "fnExactGearError", apart := false }
def FnExactGearErrorSaid : Prop := fnExactGearErrorRow.holds Try.pinned (OpenSpec.ofChange fnExactGearErrorSpec)

/-- ITS FALSE NEIGHBOUR: 'it returns false'. Refute it at one input. -/
def fnExactGearErrorWrong : ChangeSpec := { name := "fnExactGearError", fn := fun _ => fun
  | [d1, d2, d3] => { results := [.lit (.bool false)], args := [d1, d2, d3] }
  | _ => none }
def FnExactGearErrorWrongFalsely : Prop := fnExactGearErrorRow.holds Try.pinned (OpenSpec.ofChange fnExactGearErrorWrong)

/-- 'laws.FnExactYearsToDrift': WHATEVER THE INPUT: true; the input reads as it did. -/
def fnExactYearsToDriftSpec : ChangeSpec := { name := "fnExactYearsToDrift", fn := fun _ => fun
  | [d1, d2] => { results := [.lit (.bool true)], args := [d1, d2] }
  | _ => none }
def fnExactYearsToDriftRow : OpenClaim := { program := "ytgmjodliigkioaa", sum := "ab3f1b7c3d60ca7308152e6b2f864120a45447e5a146ff53dce60d87fdf0278d", func := "loop.example/g01007/laws.FnExactYearsToDrift", spec := "fnExactYearsToDrift", apart := false }
def FnExactYearsToDriftSaid : Prop := fnExactYearsToDriftRow.holds Try.pinned (OpenSpec.ofChange fnExactYearsToDriftSpec)

/-- ITS FALSE NEIGHBOUR: 'it returns false'. Refute it at one input. -/
def fnExactYearsToDriftWrong : ChangeSpec := { name := "fnExactYearsToDrift", fn := fun _ => fun
  | [d1, d2] => { results := [.lit (.bool false)], args := [d1, d2] }
  | _ => none }
def FnExactYearsToDriftWrongFalsely : Prop := fnExactYearsToDriftRow.holds Try.pinned (OpenSpec.ofChange fnExactYearsToDriftWrong)

/- THE SECOND FORM. 'bulk': how many values and letters a reading holds, each counted each time it is reached (what is shared counts as often as it is met; a slice's spare places count too). A statement '..UptoSaid' is the law's where the arguments, and the package variables that the reading takes, are together of bulk at most 1048576: NARROWER than '..Said'. Prove '..Said' where nothing that the law and all that it calls make is longer than what came in: it says more and counts as full. Else prove '..UptoSaid'. A law counts once. -/
mutual
def uptoBulk {H : Type} : DataW H → Nat
  | .lit (.string bytes) => bytes.length + 1
  | .lit _ => 1
  | .nil => 1
  | .ptr d => uptoBulk d + 1
  | .slice elems spare => uptoBulkAll elems + uptoBulkAll spare + 1
  | .agg parts => uptoBulkAll parts + 1
  | .iface _ d => uptoBulk d + 1
  | .map entries => uptoBulkEntries entries + 1
  | .held _ => 1
def uptoBulkAll {H : Type} : List (DataW H) → Nat
  | [] => 0
  | d :: r => uptoBulk d + uptoBulkAll r
def uptoBulkEntries {H : Type} : List (Lit × DataW H) → Nat
  | [] => 0
  | x :: r => uptoBulkEntry x + uptoBulkEntries r
def uptoBulkEntry {H : Type} : Lit × DataW H → Nat
  | (.string bytes, d) => bytes.length + uptoBulk d + 1
  | (_, d) => uptoBulk d + 1
 end
def uptoSmall : (H : Type) → List (DataW H) → Bool := fun _ ds => decide (uptoBulkAll ds ≤ 1048576)
def OpenSpec.upto (s : _root_.Go.ChangeSpec) : _root_.Go.OpenSpec := { _root_.Go.OpenSpec.ofChange s with cond := some uptoSmall }

/-- 'laws.FnExactFifthOctaves', WHERE WHAT IT READS IS OF BULK AT MOST 1048576: true; the input reads as it did. -/
def fnExactFifthOctavesUptoRow : OpenClaim := { program := "ytgmjodliigkioaa", sum := "ab3f1b7c3d60ca7308152e6b2f864120a45447e5a146ff53dce60d87fdf0278d", func := "loop.example/g01007/laws.FnExactFifthOctaves", spec := "fnExactFifthOctaves", apart := false, narrowed := true }
def FnExactFifthOctavesUptoSaid : Prop := fnExactFifthOctavesUptoRow.holds Try.pinned (OpenSpec.upto fnExactFifthOctavesSpec)

/-- 'laws.FnExactFifthSteps', WHERE WHAT IT READS IS OF BULK AT MOST 1048576: true; the input reads as it did. -/
def fnExactFifthStepsUptoRow : OpenClaim := { program := "ytgmjodliigkioaa", sum := "ab3f1b7c3d60ca7308152e6b2f864120a45447e5a146ff53dce60d87fdf0278d", func := "loop.example/g01007/laws.FnExactFifthSteps", spec := "fnExactFifthSteps", apart := false, narrowed := true }
def FnExactFifthStepsUptoSaid : Prop := fnExactFifthStepsUptoRow.holds Try.pinned (OpenSpec.upto fnExactFifthStepsSpec)

/-- 'laws.FnExactIsLeap', WHERE WHAT IT READS IS OF BULK AT MOST 1048576: true; the input reads as it did. -/
def fnExactIsLeapUptoRow : OpenClaim := { program := "ytgmjodliigkioaa", sum := "ab3f1b7c3d60ca7308152e6b2f864120a45447e5a146ff53dce60d87fdf0278d", func := "loop.example/g01007/laws.FnExactIsLeap", spec := "fnExactIsLeap", apart := false, narrowed := true }
def FnExactIsLeapUptoSaid : Prop := fnExactIsLeapUptoRow.holds Try.pinned (OpenSpec.upto fnExactIsLeapSpec)

/-- 'laws.FnExactDeskWords', WHERE WHAT IT READS IS OF BULK AT MOST 1048576: true; the input reads as it did. -/
def fnExactDeskWordsUptoRow : OpenClaim := { program := "ytgmjodliigkioaa", sum := "ab3f1b7c3d60ca7308152e6b2f864120a45447e5a146ff53dce60d87fdf0278d", func := "loop.example/g01007/laws.FnExactDeskWords", spec := "fnExactDeskWords", apart := false, narrowed := true }
def FnExactDeskWordsUptoSaid : Prop := fnExactDeskWordsUptoRow.holds Try.pinned (OpenSpec.upto fnExactDeskWordsSpec)

/-- 'laws.FnExactDayNumber', WHERE WHAT IT READS IS OF BULK AT MOST 1048576: true; the input reads as it did. -/
def fnExactDayNumberUptoRow : OpenClaim := { program := "ytgmjodliigkioaa", sum := "ab3f1b7c3d60ca7308152e6b2f864120a45447e5a146ff53dce60d87fdf0278d", func := "loop.example/g01007/laws.FnExactDayNumber", spec := "fnExactDayNumber", apart := false, narrowed := true }
def FnExactDayNumberUptoSaid : Prop := fnExactDayNumberUptoRow.holds Try.pinned (OpenSpec.upto fnExactDayNumberSpec)

/-- 'laws.FnExactLeapYears', WHERE WHAT IT READS IS OF BULK AT MOST 1048576: true; the input reads as it did. -/
def fnExactLeapYearsUptoRow : OpenClaim := { program := "ytgmjodliigkioaa", sum := "ab3f1b7c3d60ca7308152e6b2f864120a45447e5a146ff53dce60d87fdf0278d", func := "loop.example/g01007/laws.FnExactLeapYears", spec := "fnExactLeapYears", apart := false, narrowed := true }
def FnExactLeapYearsUptoSaid : Prop := fnExactLeapYearsUptoRow.holds Try.pinned (OpenSpec.upto fnExactLeapYearsSpec)

/-- 'laws.FnExactSameCertificate', WHERE WHAT IT READS IS OF BULK AT MOST 1048576: true; the input reads as it did. -/
def fnExactSameCertificateUptoRow : OpenClaim := { program := "ytgmjodliigkioaa", sum := "ab3f1b7c3d60ca7308152e6b2f864120a45447e5a146ff53dce60d87fdf0278d", func := "loop.example/g01007/laws.FnExactSameCertificate", spec := "fnExactSameCertificate", apart := false, narrowed := true }
def FnExactSameCertificateUptoSaid : Prop := fnExactSameCertificateUptoRow.holds Try.pinned (OpenSpec.upto fnExactSameCertificateSpec)

/-- 'laws.FnExactDivisorRule', WHERE WHAT IT READS IS OF BULK AT MOST 1048576: true; the input reads as it did. -/
def fnExactDivisorRuleUptoRow : OpenClaim := { program := "ytgmjodliigkioaa", sum := "ab3f1b7c3d60ca7308152e6b2f864120a45447e5a146ff53dce60d87fdf0278d", func := "loop.example/g01007/laws.FnExactDivisorRule", spec := "fnExactDivisorRule", apart := false, narrowed := true }
def FnExactDivisorRuleUptoSaid : Prop := fnExactDivisorRuleUptoRow.holds Try.pinned (OpenSpec.upto fnExactDivisorRuleSpec)

/-- 'laws.FnExactOctaveTerms', WHERE WHAT IT READS IS OF BULK AT MOST 1048576: true; the input reads as it did. -/
def fnExactOctaveTermsUptoRow : OpenClaim := { program := "ytgmjodliigkioaa", sum := "ab3f1b7c3d60ca7308152e6b2f864120a45447e5a146ff53dce60d87fdf0278d", func := "loop.example/g01007/laws.FnExactOctaveTerms", spec := "fnExactOctaveTerms", apart := false, narrowed := true }
def FnExactOctaveTermsUptoSaid : Prop := fnExactOctaveTermsUptoRow.holds Try.pinned (OpenSpec.upto fnExactOctaveTermsSpec)

/-- 'laws.FnExactRatioSteps', WHERE WHAT IT READS IS OF BULK AT MOST 1048576: true; the input reads as it did. -/
def fnExactRatioStepsUptoRow : OpenClaim := { program := "ytgmjodliigkioaa", sum := "ab3f1b7c3d60ca7308152e6b2f864120a45447e5a146ff53dce60d87fdf0278d", func := "loop.example/g01007/laws.FnExactRatioSteps", spec := "fnExactRatioSteps", apart := false, narrowed := true }
def FnExactRatioStepsUptoSaid : Prop := fnExactRatioStepsUptoRow.holds Try.pinned (OpenSpec.upto fnExactRatioStepsSpec)

/-- 'laws.FnExactGearError', WHERE WHAT IT READS IS OF BULK AT MOST 1048576: true; the input reads as it did. -/
def fnExactGearErrorUptoRow : OpenClaim := { program := "ytgmjodliigkioaa", sum := "ab3f1b7c3d60ca7308152e6b2f864120a45447e5a146ff53dce60d87fdf0278d", func := "loop.example/g01007/laws.FnExactGearError", spec := "fnExactGearError", apart := false, narrowed := true }
def FnExactGearErrorUptoSaid : Prop := fnExactGearErrorUptoRow.holds Try.pinned (OpenSpec.upto fnExactGearErrorSpec)

/-- 'laws.FnExactYearsToDrift', WHERE WHAT IT READS IS OF BULK AT MOST 1048576: true; the input reads as it did. -/
def fnExactYearsToDriftUptoRow : OpenClaim := { program := "ytgmjodliigkioaa", sum := "ab3f1b7c3d60ca7308152e6b2f864120a45447e5a146ff53dce60d87fdf0278d", func := "loop.example/g01007/laws.FnExactYearsToDrift", spec := "fnExactYearsToDrift", apart := false, narrowed := true }
def FnExactYearsToDriftUptoSaid : Prop := fnExactYearsToDriftUptoRow.holds Try.pinned (OpenSpec.upto fnExactYearsToDriftSpec)

end Rows
end Go.Proofs.Ytgmjodliigkioaa
