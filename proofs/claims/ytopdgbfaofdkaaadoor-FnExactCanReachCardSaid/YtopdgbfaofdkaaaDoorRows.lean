/-
  NARROWER THAN 'FOR EVERY INPUT', by the rows' own cells (each row's printed sentence says how): FnExactCountSteps: laid · FnMust: laid · FnExactLongestTail: laid · FnExactTailOf: laid · FnExactAfterSteps: laid · FnExactIsReversible: laid · FnExactNextOf: laid · FnExactRenameNetwork: laid · FnExactCanReach: laid · FnExactPeriodOf: laid · FnExactBeforeOf: laid · FnExactOrbitOf: laid.
  DERIVED. THE GIVEN ROWS OF THIS SEAT. 12 by the template 'for every input the law returns true; each argument reads behind the call as it read before'; 0 by the template 'total and deterministic' (their statements: YtopdgbfaofdkaaaDoorTotals.lean).
  GIVEN WITH THE SEED: the statements are not yours to turn. If you find one false, say at which input.
  Laid BY PROGRAM, IN A SANDBOX (cutbox-rows.mjs): the forced cells as the released guide's own fill.sh prints them over the translation 680fdd75ba7b5523… (all of the seat's roots in one cut). By AI agents, Wed Nov 11 2026. No macro, syntax, notation, axiom, sorry.
-/
import Derived.Test.YtopdgbfaofdkaaaDoorChecked
import GoSem.PinnedTables
import GoSem.Claim
import GoSem.ClaimJoined
import GoSem.ClaimMapViews
import Derived.JoinedTies
import Derived.KernelRfl
namespace Go.Proofs.YtopdgbfaofdkaaaDoor
/- THE CELL 'sum', in the pinned program and in every row, IS THE sha256 OF THE DUMP (.gsa) THAT YtopdgbfaofdkaaaDoorProg.lean LOADS. Nothing in Lean hashes anything: it is a label: what it is worth is what the hold of that sum in a sandbox is worth. -/
noncomputable def Tryd.pinned : Pinned := { name := "ytopdgbfaofdkaaadoor", sum := "680fdd75ba7b55239e00d2bd8a910f35928b6e625eabb81abe501945ed056555", checked := Tryd.checked }
namespace Rows
def none {H : Type} : Left H := { results := [], args := [] }

/- WHAT THE LISTED PACKAGE-LEVEL VARIABLES READ AS WHEN THE CALL BEGINS. Each datum BY PROGRAM (the guide's laid-datum.mjs) off the statement by which the dump's own 'gosem.cut.vars' lays the variable. In a bare row this is a premise. The card (YtopdgbfaofdkaaaDoorCards.lean) ties it to the program's text. -/
def laid_unicode_utf8_acceptRanges {H : Type} : DataW H := .agg [.agg [.lit (.int .u8 128), .lit (.int .u8 191)], .agg [.lit (.int .u8 160), .lit (.int .u8 191)], .agg [.lit (.int .u8 128), .lit (.int .u8 159)], .agg [.lit (.int .u8 144), .lit (.int .u8 191)], .agg [.lit (.int .u8 128), .lit (.int .u8 143)], .agg [.lit (.int .u8 0), .lit (.int .u8 0)], .agg [.lit (.int .u8 0), .lit (.int .u8 0)], .agg [.lit (.int .u8 0), .lit (.int .u8 0)], .agg [.lit (.int .u8 0), .lit (.int .u8 0)], .agg [.lit (.int .u8 0), .lit (.int .u8 0)], .agg [.lit (.int .u8 0), .lit (.int .u8 0)], .agg [.lit (.int .u8 0), .lit (.int .u8 0)], .agg [.lit (.int .u8 0), .lit (.int .u8 0)], .agg [.lit (.int .u8 0), .lit (.int .u8 0)], .agg [.lit (.int .u8 0), .lit (.int .u8 0)], .agg [.lit (.int .u8 0), .lit (.int .u8 0)]]
/-- One of Go's own tables, pinned by name: the form's constant. -/
def laid_unicode_utf8_first : DataW Unit := Go.Pinned.utf8First

/-- 'laws.FnExactCountSteps': WHATEVER THE INPUT: true; the input reads as it did. -/
def fnExactCountStepsSpec : ChangeSpec := { name := "fnExactCountSteps", fn := fun _ => fun
  | [d] => { results := [.lit (.bool true)], args := [d] }
  | _ => none }
def fnExactCountStepsRow : OpenClaim := { program := "ytopdgbfaofdkaaadoor", sum := "680fdd75ba7b55239e00d2bd8a910f35928b6e625eabb81abe501945ed056555", func := "loop.example/switchnetworks/laws.FnExactCountSteps", spec := "fnExactCountSteps", inPlace := ["internal/bytealg.CountString", "internal/bytealg.IndexByteString", "internal/bytealg.IndexString"], unfollowed := true, recurses := true, named := ["unicode/utf8.first", "unicode/utf8.acceptRanges", "internal/bytealg.MaxLen"], apart := false, laid := [("unicode/utf8.acceptRanges", laid_unicode_utf8_acceptRanges), ("unicode/utf8.first", laid_unicode_utf8_first)] }
def FnExactCountStepsSaid : Prop := fnExactCountStepsRow.holds Tryd.pinned (OpenSpec.ofChange fnExactCountStepsSpec)

/-- ITS FALSE NEIGHBOUR: 'it returns false'. Refute it at one input. -/
def fnExactCountStepsWrong : ChangeSpec := { name := "fnExactCountSteps", fn := fun _ => fun
  | [d] => { results := [.lit (.bool false)], args := [d] }
  | _ => none }
def FnExactCountStepsWrongFalsely : Prop := fnExactCountStepsRow.holds Tryd.pinned (OpenSpec.ofChange fnExactCountStepsWrong)

/-- 'laws.FnMust': WHATEVER THE INPUT: true; the input reads as it did. -/
def fnMustSpec : ChangeSpec := { name := "fnMust", fn := fun _ => fun
  | [d] => { results := [.lit (.bool true)], args := [d] }
  | _ => none }
def fnMustRow : OpenClaim := { program := "ytopdgbfaofdkaaadoor", sum := "680fdd75ba7b55239e00d2bd8a910f35928b6e625eabb81abe501945ed056555", func := "loop.example/switchnetworks/laws.FnMust", spec := "fnMust", inPlace := ["internal/bytealg.CountString", "internal/bytealg.IndexByteString", "internal/bytealg.IndexString"], unfollowed := true, recurses := true, named := ["unicode/utf8.first", "unicode/utf8.acceptRanges", "internal/bytealg.MaxLen"], apart := false, laid := [("unicode/utf8.acceptRanges", laid_unicode_utf8_acceptRanges), ("unicode/utf8.first", laid_unicode_utf8_first)] }
def FnMustSaid : Prop := fnMustRow.holds Tryd.pinned (OpenSpec.ofChange fnMustSpec)

/-- ITS FALSE NEIGHBOUR: 'it returns false'. Refute it at one input. -/
def fnMustWrong : ChangeSpec := { name := "fnMust", fn := fun _ => fun
  | [d] => { results := [.lit (.bool false)], args := [d] }
  | _ => none }
def FnMustWrongFalsely : Prop := fnMustRow.holds Tryd.pinned (OpenSpec.ofChange fnMustWrong)

/-- 'laws.FnExactLongestTail': WHATEVER THE INPUT: true; the input reads as it did. -/
def fnExactLongestTailSpec : ChangeSpec := { name := "fnExactLongestTail", fn := fun _ => fun
  | [d] => { results := [.lit (.bool true)], args := [d] }
  | _ => none }
def fnExactLongestTailRow : OpenClaim := { program := "ytopdgbfaofdkaaadoor", sum := "680fdd75ba7b55239e00d2bd8a910f35928b6e625eabb81abe501945ed056555", func := "loop.example/switchnetworks/laws.FnExactLongestTail", spec := "fnExactLongestTail", inPlace := ["internal/bytealg.CountString", "internal/bytealg.IndexByteString", "internal/bytealg.IndexString"], unfollowed := true, recurses := true, named := ["unicode/utf8.first", "unicode/utf8.acceptRanges", "internal/bytealg.MaxLen"], apart := false, laid := [("unicode/utf8.acceptRanges", laid_unicode_utf8_acceptRanges), ("unicode/utf8.first", laid_unicode_utf8_first)] }
def FnExactLongestTailSaid : Prop := fnExactLongestTailRow.holds Tryd.pinned (OpenSpec.ofChange fnExactLongestTailSpec)

/-- ITS FALSE NEIGHBOUR: 'it returns false'. Refute it at one input. -/
def fnExactLongestTailWrong : ChangeSpec := { name := "fnExactLongestTail", fn := fun _ => fun
  | [d] => { results := [.lit (.bool false)], args := [d] }
  | _ => none }
def FnExactLongestTailWrongFalsely : Prop := fnExactLongestTailRow.holds Tryd.pinned (OpenSpec.ofChange fnExactLongestTailWrong)

/-- 'laws.FnExactTailOf': WHATEVER THE INPUT: true; the input reads as it did. -/
def fnExactTailOfSpec : ChangeSpec := { name := "fnExactTailOf", fn := fun _ => fun
  | [d1, d2] => { results := [.lit (.bool true)], args := [d1, d2] }
  | _ => none }
def fnExactTailOfRow : OpenClaim := { program := "ytopdgbfaofdkaaadoor", sum := "680fdd75ba7b55239e00d2bd8a910f35928b6e625eabb81abe501945ed056555", func := "loop.example/switchnetworks/laws.FnExactTailOf", spec := "fnExactTailOf", inPlace := ["internal/bytealg.CountString", "internal/bytealg.IndexByteString", "internal/bytealg.IndexString"], unfollowed := true, recurses := true, named := ["unicode/utf8.first", "unicode/utf8.acceptRanges", "internal/bytealg.MaxLen"], apart := false, laid := [("unicode/utf8.acceptRanges", laid_unicode_utf8_acceptRanges), ("unicode/utf8.first", laid_unicode_utf8_first)] }
def FnExactTailOfSaid : Prop := fnExactTailOfRow.holds Tryd.pinned (OpenSpec.ofChange fnExactTailOfSpec)

/-- ITS FALSE NEIGHBOUR: 'it returns false'. Refute it at one input. -/
def fnExactTailOfWrong : ChangeSpec := { name := "fnExactTailOf", fn := fun _ => fun
  | [d1, d2] => { results := [.lit (.bool false)], args := [d1, d2] }
  | _ => none }
def FnExactTailOfWrongFalsely : Prop := fnExactTailOfRow.holds Tryd.pinned (OpenSpec.ofChange fnExactTailOfWrong)

/-- 'laws.FnExactAfterSteps': WHATEVER THE INPUT: true; the input reads as it did. -/
def fnExactAfterStepsSpec : ChangeSpec := { name := "fnExactAfterSteps", fn := fun _ => fun
  | [d1, d2, d3] => { results := [.lit (.bool true)], args := [d1, d2, d3] }
  | _ => none }
def fnExactAfterStepsRow : OpenClaim := { program := "ytopdgbfaofdkaaadoor", sum := "680fdd75ba7b55239e00d2bd8a910f35928b6e625eabb81abe501945ed056555", func := "loop.example/switchnetworks/laws.FnExactAfterSteps", spec := "fnExactAfterSteps", inPlace := ["internal/bytealg.CountString", "internal/bytealg.IndexByteString", "internal/bytealg.IndexString"], unfollowed := true, recurses := true, named := ["unicode/utf8.first", "unicode/utf8.acceptRanges", "internal/bytealg.MaxLen"], apart := false, laid := [("unicode/utf8.acceptRanges", laid_unicode_utf8_acceptRanges), ("unicode/utf8.first", laid_unicode_utf8_first)] }
def FnExactAfterStepsSaid : Prop := fnExactAfterStepsRow.holds Tryd.pinned (OpenSpec.ofChange fnExactAfterStepsSpec)

/-- ITS FALSE NEIGHBOUR: 'it returns false'. Refute it at one input. -/
def fnExactAfterStepsWrong : ChangeSpec := { name := "fnExactAfterSteps", fn := fun _ => fun
  | [d1, d2, d3] => { results := [.lit (.bool false)], args := [d1, d2, d3] }
  | _ => none }
def FnExactAfterStepsWrongFalsely : Prop := fnExactAfterStepsRow.holds Tryd.pinned (OpenSpec.ofChange fnExactAfterStepsWrong)

/-- 'laws.FnExactIsReversible': WHATEVER THE INPUT: true; the input reads as it did. -/
def fnExactIsReversibleSpec : ChangeSpec := { name := "fnExactIsReversible", fn := fun _ => fun
  | [d] => { results := [.lit (.bool true)], args := [d] }
  | _ => none }
def fnExactIsReversibleRow : OpenClaim := { program := "ytopdgbfaofdkaaadoor", sum := "680fdd75ba7b55239e00d2bd8a910f35928b6e625eabb81abe501945ed056555", func := "loop.example/switchnetworks/laws.FnExactIsReversible", spec := "fnExactIsReversible", inPlace := ["internal/bytealg.CountString", "internal/bytealg.IndexByteString", "internal/bytealg.IndexString"], unfollowed := true, recurses := true, named := ["unicode/utf8.first", "unicode/utf8.acceptRanges", "internal/bytealg.MaxLen"], apart := false, laid := [("unicode/utf8.acceptRanges", laid_unicode_utf8_acceptRanges), ("unicode/utf8.first", laid_unicode_utf8_first)] }
def FnExactIsReversibleSaid : Prop := fnExactIsReversibleRow.holds Tryd.pinned (OpenSpec.ofChange fnExactIsReversibleSpec)

/-- ITS FALSE NEIGHBOUR: 'it returns false'. Refute it at one input. -/
def fnExactIsReversibleWrong : ChangeSpec := { name := "fnExactIsReversible", fn := fun _ => fun
  | [d] => { results := [.lit (.bool false)], args := [d] }
  | _ => none }
def FnExactIsReversibleWrongFalsely : Prop := fnExactIsReversibleRow.holds Tryd.pinned (OpenSpec.ofChange fnExactIsReversibleWrong)

/-- 'laws.FnExactNextOf': WHATEVER THE INPUT: true; the input reads as it did. -/
def fnExactNextOfSpec : ChangeSpec := { name := "fnExactNextOf", fn := fun _ => fun
  | [d1, d2] => { results := [.lit (.bool true)], args := [d1, d2] }
  | _ => none }
def fnExactNextOfRow : OpenClaim := { program := "ytopdgbfaofdkaaadoor", sum := "680fdd75ba7b55239e00d2bd8a910f35928b6e625eabb81abe501945ed056555", func := "loop.example/switchnetworks/laws.FnExactNextOf", spec := "fnExactNextOf", inPlace := ["internal/bytealg.CountString", "internal/bytealg.IndexByteString", "internal/bytealg.IndexString"], unfollowed := true, recurses := true, named := ["unicode/utf8.first", "unicode/utf8.acceptRanges", "internal/bytealg.MaxLen"], apart := false, laid := [("unicode/utf8.acceptRanges", laid_unicode_utf8_acceptRanges), ("unicode/utf8.first", laid_unicode_utf8_first)] }
def FnExactNextOfSaid : Prop := fnExactNextOfRow.holds Tryd.pinned (OpenSpec.ofChange fnExactNextOfSpec)

/-- ITS FALSE NEIGHBOUR: 'it returns false'. Refute it at one input. -/
def fnExactNextOfWrong : ChangeSpec := { name := "fnExactNextOf", fn := fun _ => fun
  | [d1, d2] => { results := [.lit (.bool false)], args := [d1, d2] }
  | _ => none }
def FnExactNextOfWrongFalsely : Prop := fnExactNextOfRow.holds Tryd.pinned (OpenSpec.ofChange fnExactNextOfWrong)

/-- 'laws.FnExactRenameNetwork': WHATEVER THE INPUT: true; the input reads as it did. -/
def fnExactRenameNetworkSpec : ChangeSpec := { name := "fnExactRenameNetwork", fn := fun _ => fun
  | [d1, d2] => { results := [.lit (.bool true)], args := [d1, d2] }
  | _ => none }
def fnExactRenameNetworkRow : OpenClaim := { program := "ytopdgbfaofdkaaadoor", sum := "680fdd75ba7b55239e00d2bd8a910f35928b6e625eabb81abe501945ed056555", func := "loop.example/switchnetworks/laws.FnExactRenameNetwork", spec := "fnExactRenameNetwork", inPlace := ["internal/bytealg.CountString", "internal/bytealg.IndexByteString", "internal/bytealg.IndexString", "internal/abi.NoEscape", "internal/bytealg.MakeNoZero"], unfollowed := true, recurses := true, named := ["unicode/utf8.first", "unicode/utf8.acceptRanges", "internal/bytealg.MaxLen"], apart := false, laid := [("unicode/utf8.acceptRanges", laid_unicode_utf8_acceptRanges), ("unicode/utf8.first", laid_unicode_utf8_first)] }
def FnExactRenameNetworkSaid : Prop := fnExactRenameNetworkRow.holds Tryd.pinned (OpenSpec.ofChange fnExactRenameNetworkSpec)

/-- ITS FALSE NEIGHBOUR: 'it returns false'. Refute it at one input. -/
def fnExactRenameNetworkWrong : ChangeSpec := { name := "fnExactRenameNetwork", fn := fun _ => fun
  | [d1, d2] => { results := [.lit (.bool false)], args := [d1, d2] }
  | _ => none }
def FnExactRenameNetworkWrongFalsely : Prop := fnExactRenameNetworkRow.holds Tryd.pinned (OpenSpec.ofChange fnExactRenameNetworkWrong)

/-- 'laws.FnExactCanReach': WHATEVER THE INPUT: true; the input reads as it did. -/
def fnExactCanReachSpec : ChangeSpec := { name := "fnExactCanReach", fn := fun _ => fun
  | [d1, d2, d3] => { results := [.lit (.bool true)], args := [d1, d2, d3] }
  | _ => none }
def fnExactCanReachRow : OpenClaim := { program := "ytopdgbfaofdkaaadoor", sum := "680fdd75ba7b55239e00d2bd8a910f35928b6e625eabb81abe501945ed056555", func := "loop.example/switchnetworks/laws.FnExactCanReach", spec := "fnExactCanReach", inPlace := ["internal/bytealg.CountString", "internal/bytealg.IndexByteString", "internal/bytealg.IndexString"], unfollowed := true, recurses := true, named := ["unicode/utf8.first", "unicode/utf8.acceptRanges", "internal/bytealg.MaxLen"], apart := false, laid := [("unicode/utf8.acceptRanges", laid_unicode_utf8_acceptRanges), ("unicode/utf8.first", laid_unicode_utf8_first)] }
def FnExactCanReachSaid : Prop := fnExactCanReachRow.holds Tryd.pinned (OpenSpec.ofChange fnExactCanReachSpec)

/-- ITS FALSE NEIGHBOUR: 'it returns false'. Refute it at one input. -/
def fnExactCanReachWrong : ChangeSpec := { name := "fnExactCanReach", fn := fun _ => fun
  | [d1, d2, d3] => { results := [.lit (.bool false)], args := [d1, d2, d3] }
  | _ => none }
def FnExactCanReachWrongFalsely : Prop := fnExactCanReachRow.holds Tryd.pinned (OpenSpec.ofChange fnExactCanReachWrong)

/-- 'laws.FnExactPeriodOf': WHATEVER THE INPUT: true; the input reads as it did. -/
def fnExactPeriodOfSpec : ChangeSpec := { name := "fnExactPeriodOf", fn := fun _ => fun
  | [d1, d2] => { results := [.lit (.bool true)], args := [d1, d2] }
  | _ => none }
def fnExactPeriodOfRow : OpenClaim := { program := "ytopdgbfaofdkaaadoor", sum := "680fdd75ba7b55239e00d2bd8a910f35928b6e625eabb81abe501945ed056555", func := "loop.example/switchnetworks/laws.FnExactPeriodOf", spec := "fnExactPeriodOf", inPlace := ["internal/bytealg.CountString", "internal/bytealg.IndexByteString", "internal/bytealg.IndexString"], unfollowed := true, recurses := true, named := ["unicode/utf8.first", "unicode/utf8.acceptRanges", "internal/bytealg.MaxLen"], apart := false, laid := [("unicode/utf8.acceptRanges", laid_unicode_utf8_acceptRanges), ("unicode/utf8.first", laid_unicode_utf8_first)] }
def FnExactPeriodOfSaid : Prop := fnExactPeriodOfRow.holds Tryd.pinned (OpenSpec.ofChange fnExactPeriodOfSpec)

/-- ITS FALSE NEIGHBOUR: 'it returns false'. Refute it at one input. -/
def fnExactPeriodOfWrong : ChangeSpec := { name := "fnExactPeriodOf", fn := fun _ => fun
  | [d1, d2] => { results := [.lit (.bool false)], args := [d1, d2] }
  | _ => none }
def FnExactPeriodOfWrongFalsely : Prop := fnExactPeriodOfRow.holds Tryd.pinned (OpenSpec.ofChange fnExactPeriodOfWrong)

/-- 'laws.FnExactBeforeOf': WHATEVER THE INPUT: true; the input reads as it did. -/
def fnExactBeforeOfSpec : ChangeSpec := { name := "fnExactBeforeOf", fn := fun _ => fun
  | [d1, d2] => { results := [.lit (.bool true)], args := [d1, d2] }
  | _ => none }
def fnExactBeforeOfRow : OpenClaim := { program := "ytopdgbfaofdkaaadoor", sum := "680fdd75ba7b55239e00d2bd8a910f35928b6e625eabb81abe501945ed056555", func := "loop.example/switchnetworks/laws.FnExactBeforeOf", spec := "fnExactBeforeOf", inPlace := ["internal/bytealg.CountString", "internal/bytealg.IndexByteString", "internal/bytealg.IndexString"], unfollowed := true, recurses := true, named := ["unicode/utf8.first", "unicode/utf8.acceptRanges", "internal/bytealg.MaxLen"], apart := false, laid := [("unicode/utf8.acceptRanges", laid_unicode_utf8_acceptRanges), ("unicode/utf8.first", laid_unicode_utf8_first)] }
def FnExactBeforeOfSaid : Prop := fnExactBeforeOfRow.holds Tryd.pinned (OpenSpec.ofChange fnExactBeforeOfSpec)

/-- ITS FALSE NEIGHBOUR: 'it returns false'. Refute it at one input. -/
def fnExactBeforeOfWrong : ChangeSpec := { name := "fnExactBeforeOf", fn := fun _ => fun
  | [d1, d2] => { results := [.lit (.bool false)], args := [d1, d2] }
  | _ => none }
def FnExactBeforeOfWrongFalsely : Prop := fnExactBeforeOfRow.holds Tryd.pinned (OpenSpec.ofChange fnExactBeforeOfWrong)

/-- 'laws.FnExactOrbitOf': WHATEVER THE INPUT: true; the input reads as it did. -/
def fnExactOrbitOfSpec : ChangeSpec := { name := "fnExactOrbitOf", fn := fun _ => fun
  | [d1, d2] => { results := [.lit (.bool true)], args := [d1, d2] }
  | _ => none }
def fnExactOrbitOfRow : OpenClaim := { program := "ytopdgbfaofdkaaadoor", sum := "680fdd75ba7b55239e00d2bd8a910f35928b6e625eabb81abe501945ed056555", func := "loop.example/switchnetworks/laws.FnExactOrbitOf", spec := "fnExactOrbitOf", inPlace := ["internal/bytealg.CountString", "internal/bytealg.IndexByteString", "internal/bytealg.IndexString"], unfollowed := true, recurses := true, named := ["unicode/utf8.first", "unicode/utf8.acceptRanges", "internal/bytealg.MaxLen"], apart := false, laid := [("unicode/utf8.acceptRanges", laid_unicode_utf8_acceptRanges), ("unicode/utf8.first", laid_unicode_utf8_first)] }
def FnExactOrbitOfSaid : Prop := fnExactOrbitOfRow.holds Tryd.pinned (OpenSpec.ofChange fnExactOrbitOfSpec)

/-- ITS FALSE NEIGHBOUR: 'it returns false'. Refute it at one input. -/
def fnExactOrbitOfWrong : ChangeSpec := { name := "fnExactOrbitOf", fn := fun _ => fun
  | [d1, d2] => { results := [.lit (.bool false)], args := [d1, d2] }
  | _ => none }
def FnExactOrbitOfWrongFalsely : Prop := fnExactOrbitOfRow.holds Tryd.pinned (OpenSpec.ofChange fnExactOrbitOfWrong)

/- THE SECOND FORM. 'bulk': how many values and letters a reading holds, each counted each time it is reached (what is shared counts as often as it is met; a slice's spare places count too). A statement '..UptoSaid' is the law's where the arguments, and the package variables that the reading takes, are together of bulk at most 1048576: NARROWER than '..Said'. Prove '..Said' where nothing that the law and all that it calls make is longer than what came in: it says more and counts as full. Else prove '..UptoSaid'. A law counts once. -/
mutual
def uptoBulk {H : Type} : DataW H → Nat
  | .lit (.string bytes) => bytes.length + 1
  | .lit _ => 1
  | .nil => 1
  | .ptr d => uptoBulk d + 1
  | .slice elems spare => uptoBulkAll elems + uptoBulkAll spare + 1
  | .agg parts => uptoBulkAll parts + 1
  | .iface _ d => uptoBulk d + 1
  | .map entries => uptoBulkEntries entries + 1
  | .held _ => 1
def uptoBulkAll {H : Type} : List (DataW H) → Nat
  | [] => 0
  | d :: r => uptoBulk d + uptoBulkAll r
def uptoBulkEntries {H : Type} : List (Lit × DataW H) → Nat
  | [] => 0
  | x :: r => uptoBulkEntry x + uptoBulkEntries r
def uptoBulkEntry {H : Type} : Lit × DataW H → Nat
  | (.string bytes, d) => bytes.length + uptoBulk d + 1
  | (_, d) => uptoBulk d + 1
 end
def uptoSmall : (H : Type) → List (DataW H) → Bool := fun _ ds => decide (uptoBulkAll ds ≤ 1048576)
def OpenSpec.upto (s : _root_.Go.ChangeSpec) : _root_.Go.OpenSpec := { _root_.Go.OpenSpec.ofChange s with cond := some uptoSmall }

/-- 'laws.FnExactCountSteps', WHERE WHAT IT READS IS OF BULK AT MOST 1048576: true; the input reads as it did. -/
def fnExactCountStepsUptoRow : OpenClaim := { program := "ytopdgbfaofdkaaadoor", sum := "680fdd75ba7b55239e00d2bd8a910f35928b6e625eabb81abe501945ed056555", func := "loop.example/switchnetworks/laws.FnExactCountSteps", spec := "fnExactCountSteps", inPlace := ["internal/bytealg.CountString", "internal/bytealg.IndexByteString", "internal/bytealg.IndexString"], unfollowed := true, recurses := true, named := ["unicode/utf8.first", "unicode/utf8.acceptRanges", "internal/bytealg.MaxLen"], apart := false, laid := [("unicode/utf8.acceptRanges", laid_unicode_utf8_acceptRanges), ("unicode/utf8.first", laid_unicode_utf8_first)], narrowed := true }
def FnExactCountStepsUptoSaid : Prop := fnExactCountStepsUptoRow.holds Tryd.pinned (OpenSpec.upto fnExactCountStepsSpec)

/-- 'laws.FnMust', WHERE WHAT IT READS IS OF BULK AT MOST 1048576: true; the input reads as it did. -/
def fnMustUptoRow : OpenClaim := { program := "ytopdgbfaofdkaaadoor", sum := "680fdd75ba7b55239e00d2bd8a910f35928b6e625eabb81abe501945ed056555", func := "loop.example/switchnetworks/laws.FnMust", spec := "fnMust", inPlace := ["internal/bytealg.CountString", "internal/bytealg.IndexByteString", "internal/bytealg.IndexString"], unfollowed := true, recurses := true, named := ["unicode/utf8.first", "unicode/utf8.acceptRanges", "internal/bytealg.MaxLen"], apart := false, laid := [("unicode/utf8.acceptRanges", laid_unicode_utf8_acceptRanges), ("unicode/utf8.first", laid_unicode_utf8_first)], narrowed := true }
def FnMustUptoSaid : Prop := fnMustUptoRow.holds Tryd.pinned (OpenSpec.upto fnMustSpec)

/-- 'laws.FnExactLongestTail', WHERE WHAT IT READS IS OF BULK AT MOST 1048576: true; the input reads as it did. -/
def fnExactLongestTailUptoRow : OpenClaim := { program := "ytopdgbfaofdkaaadoor", sum := "680fdd75ba7b55239e00d2bd8a910f35928b6e625eabb81abe501945ed056555", func := "loop.example/switchnetworks/laws.FnExactLongestTail", spec := "fnExactLongestTail", inPlace := ["internal/bytealg.CountString", "internal/bytealg.IndexByteString", "internal/bytealg.IndexString"], unfollowed := true, recurses := true, named := ["unicode/utf8.first", "unicode/utf8.acceptRanges", "internal/bytealg.MaxLen"], apart := false, laid := [("unicode/utf8.acceptRanges", laid_unicode_utf8_acceptRanges), ("unicode/utf8.first", laid_unicode_utf8_first)], narrowed := true }
def FnExactLongestTailUptoSaid : Prop := fnExactLongestTailUptoRow.holds Tryd.pinned (OpenSpec.upto fnExactLongestTailSpec)

/-- 'laws.FnExactTailOf', WHERE WHAT IT READS IS OF BULK AT MOST 1048576: true; the input reads as it did. -/
def fnExactTailOfUptoRow : OpenClaim := { program := "ytopdgbfaofdkaaadoor", sum := "680fdd75ba7b55239e00d2bd8a910f35928b6e625eabb81abe501945ed056555", func := "loop.example/switchnetworks/laws.FnExactTailOf", spec := "fnExactTailOf", inPlace := ["internal/bytealg.CountString", "internal/bytealg.IndexByteString", "internal/bytealg.IndexString"], unfollowed := true, recurses := true, named := ["unicode/utf8.first", "unicode/utf8.acceptRanges", "internal/bytealg.MaxLen"], apart := false, laid := [("unicode/utf8.acceptRanges", laid_unicode_utf8_acceptRanges), ("unicode/utf8.first", laid_unicode_utf8_first)], narrowed := true }
def FnExactTailOfUptoSaid : Prop := fnExactTailOfUptoRow.holds Tryd.pinned (OpenSpec.upto fnExactTailOfSpec)

/-- 'laws.FnExactAfterSteps', WHERE WHAT IT READS IS OF BULK AT MOST 1048576: true; the input reads as it did. -/
def fnExactAfterStepsUptoRow : OpenClaim := { program := "ytopdgbfaofdkaaadoor", sum := "680fdd75ba7b55239e00d2bd8a910f35928b6e625eabb81abe501945ed056555", func := "loop.example/switchnetworks/laws.FnExactAfterSteps", spec := "fnExactAfterSteps", inPlace := ["internal/bytealg.CountString", "internal/bytealg.IndexByteString", "internal/bytealg.IndexString"], unfollowed := true, recurses := true, named := ["unicode/utf8.first", "unicode/utf8.acceptRanges", "internal/bytealg.MaxLen"], apart := false, laid := [("unicode/utf8.acceptRanges", laid_unicode_utf8_acceptRanges), ("unicode/utf8.first", laid_unicode_utf8_first)], narrowed := true }
def FnExactAfterStepsUptoSaid : Prop := fnExactAfterStepsUptoRow.holds Tryd.pinned (OpenSpec.upto fnExactAfterStepsSpec)

/-- 'laws.FnExactIsReversible', WHERE WHAT IT READS IS OF BULK AT MOST 1048576: true; the input reads as it did. -/
def fnExactIsReversibleUptoRow : OpenClaim := { program := "ytopdgbfaofdkaaadoor", sum := "680fdd75ba7b55239e00d2bd8a910f35928b6e625eabb81abe501945ed056555", func := "loop.example/switchnetworks/laws.FnExactIsReversible", spec := "fnExactIsReversible", inPlace := ["internal/bytealg.CountString", "internal/bytealg.IndexByteString", "internal/bytealg.IndexString"], unfollowed := true, recurses := true, named := ["unicode/utf8.first", "unicode/utf8.acceptRanges", "internal/bytealg.MaxLen"], apart := false, laid := [("unicode/utf8.acceptRanges", laid_unicode_utf8_acceptRanges), ("unicode/utf8.first", laid_unicode_utf8_first)], narrowed := true }
def FnExactIsReversibleUptoSaid : Prop := fnExactIsReversibleUptoRow.holds Tryd.pinned (OpenSpec.upto fnExactIsReversibleSpec)

/-- 'laws.FnExactNextOf', WHERE WHAT IT READS IS OF BULK AT MOST 1048576: true; the input reads as it did. -/
def fnExactNextOfUptoRow : OpenClaim := { program := "ytopdgbfaofdkaaadoor", sum := "680fdd75ba7b55239e00d2bd8a910f35928b6e625eabb81abe501945ed056555", func := "loop.example/switchnetworks/laws.FnExactNextOf", spec := "fnExactNextOf", inPlace := ["internal/bytealg.CountString", "internal/bytealg.IndexByteString", "internal/bytealg.IndexString"], unfollowed := true, recurses := true, named := ["unicode/utf8.first", "unicode/utf8.acceptRanges", "internal/bytealg.MaxLen"], apart := false, laid := [("unicode/utf8.acceptRanges", laid_unicode_utf8_acceptRanges), ("unicode/utf8.first", laid_unicode_utf8_first)], narrowed := true }
def FnExactNextOfUptoSaid : Prop := fnExactNextOfUptoRow.holds Tryd.pinned (OpenSpec.upto fnExactNextOfSpec)

/-- 'laws.FnExactRenameNetwork', WHERE WHAT IT READS IS OF BULK AT MOST 1048576: true; the input reads as it did. -/
def fnExactRenameNetworkUptoRow : OpenClaim := { program := "ytopdgbfaofdkaaadoor", sum := "680fdd75ba7b55239e00d2bd8a910f35928b6e625eabb81abe501945ed056555", func := "loop.example/switchnetworks/laws.FnExactRenameNetwork", spec := "fnExactRenameNetwork", inPlace := ["internal/bytealg.CountString", "internal/bytealg.IndexByteString", "internal/bytealg.IndexString", "internal/abi.NoEscape", "internal/bytealg.MakeNoZero"], unfollowed := true, recurses := true, named := ["unicode/utf8.first", "unicode/utf8.acceptRanges", "internal/bytealg.MaxLen"], apart := false, laid := [("unicode/utf8.acceptRanges", laid_unicode_utf8_acceptRanges), ("unicode/utf8.first", laid_unicode_utf8_first)], narrowed := true }
def FnExactRenameNetworkUptoSaid : Prop := fnExactRenameNetworkUptoRow.holds Tryd.pinned (OpenSpec.upto fnExactRenameNetworkSpec)

/-- 'laws.FnExactCanReach', WHERE WHAT IT READS IS OF BULK AT MOST 1048576: true; the input reads as it did. -/
def fnExactCanReachUptoRow : OpenClaim := { program := "ytopdgbfaofdkaaadoor", sum := "680fdd75ba7b55239e00d2bd8a910f35928b6e625eabb81abe501945ed056555", func := "loop.example/switchnetworks/laws.FnExactCanReach", spec := "fnExactCanReach", inPlace := ["internal/bytealg.CountString", "internal/bytealg.IndexByteString", "internal/bytealg.IndexString"], unfollowed := true, recurses := true, named := ["unicode/utf8.first", "unicode/utf8.acceptRanges", "internal/bytealg.MaxLen"], apart := false, laid := [("unicode/utf8.acceptRanges", laid_unicode_utf8_acceptRanges), ("unicode/utf8.first", laid_unicode_utf8_first)], narrowed := true }
def FnExactCanReachUptoSaid : Prop := fnExactCanReachUptoRow.holds Tryd.pinned (OpenSpec.upto fnExactCanReachSpec)

/-- 'laws.FnExactPeriodOf', WHERE WHAT IT READS IS OF BULK AT MOST 1048576: true; the input reads as it did. -/
def fnExactPeriodOfUptoRow : OpenClaim := { program := "ytopdgbfaofdkaaadoor", sum := "680fdd75ba7b55239e00d2bd8a910f35928b6e625eabb81abe501945ed056555", func := "loop.example/switchnetworks/laws.FnExactPeriodOf", spec := "fnExactPeriodOf", inPlace := ["internal/bytealg.CountString", "internal/bytealg.IndexByteString", "internal/bytealg.IndexString"], unfollowed := true, recurses := true, named := ["unicode/utf8.first", "unicode/utf8.acceptRanges", "internal/bytealg.MaxLen"], apart := false, laid := [("unicode/utf8.acceptRanges", laid_unicode_utf8_acceptRanges), ("unicode/utf8.first", laid_unicode_utf8_first)], narrowed := true }
def FnExactPeriodOfUptoSaid : Prop := fnExactPeriodOfUptoRow.holds Tryd.pinned (OpenSpec.upto fnExactPeriodOfSpec)

/-- 'laws.FnExactBeforeOf', WHERE WHAT IT READS IS OF BULK AT MOST 1048576: true; the input reads as it did. -/
def fnExactBeforeOfUptoRow : OpenClaim := { program := "ytopdgbfaofdkaaadoor", sum := "680fdd75ba7b55239e00d2bd8a910f35928b6e625eabb81abe501945ed056555", func := "loop.example/switchnetworks/laws.FnExactBeforeOf", spec := "fnExactBeforeOf", inPlace := ["internal/bytealg.CountString", "internal/bytealg.IndexByteString", "internal/bytealg.IndexString"], unfollowed := true, recurses := true, named := ["unicode/utf8.first", "unicode/utf8.acceptRanges", "internal/bytealg.MaxLen"], apart := false, laid := [("unicode/utf8.acceptRanges", laid_unicode_utf8_acceptRanges), ("unicode/utf8.first", laid_unicode_utf8_first)], narrowed := true }
def FnExactBeforeOfUptoSaid : Prop := fnExactBeforeOfUptoRow.holds Tryd.pinned (OpenSpec.upto fnExactBeforeOfSpec)

/-- 'laws.FnExactOrbitOf', WHERE WHAT IT READS IS OF BULK AT MOST 1048576: true; the input reads as it did. -/
def fnExactOrbitOfUptoRow : OpenClaim := { program := "ytopdgbfaofdkaaadoor", sum := "680fdd75ba7b55239e00d2bd8a910f35928b6e625eabb81abe501945ed056555", func := "loop.example/switchnetworks/laws.FnExactOrbitOf", spec := "fnExactOrbitOf", inPlace := ["internal/bytealg.CountString", "internal/bytealg.IndexByteString", "internal/bytealg.IndexString"], unfollowed := true, recurses := true, named := ["unicode/utf8.first", "unicode/utf8.acceptRanges", "internal/bytealg.MaxLen"], apart := false, laid := [("unicode/utf8.acceptRanges", laid_unicode_utf8_acceptRanges), ("unicode/utf8.first", laid_unicode_utf8_first)], narrowed := true }
def FnExactOrbitOfUptoSaid : Prop := fnExactOrbitOfUptoRow.holds Tryd.pinned (OpenSpec.upto fnExactOrbitOfSpec)

end Rows
end Go.Proofs.YtopdgbfaofdkaaaDoor
