/-
  NARROWER THAN 'FOR EVERY INPUT', by the rows' own cells (each row's printed sentence says how): FnExactCyclesOf: laid · FnAfterSteps: laid · FnSteps: laid · FnNext: laid · FnBefore: laid · FnOrbit: laid · FnReach: laid · FnTurnNetwork: laid · FnCycle: laid · FnBasin: laid · FnCycles: laid · FnReversible: laid.
  DERIVED. THE GIVEN ROWS OF THIS SEAT. 12 by the template 'for every input the law returns true; each argument reads behind the call as it read before'; 0 by the template 'total and deterministic' (their statements: YtjinmoeabkpmaaaDoorTotals.lean).
  GIVEN WITH THE SEED: the statements are not yours to turn. If you find one false, say at which input.
  Laid BY PROGRAM, IN A SANDBOX (cutbox-rows.mjs): the forced cells as the released guide's own fill.sh prints them over the translation f5bdb36548ca24ae… (all of the seat's roots in one cut). By AI agents, Wed Nov 11 2026. No macro, syntax, notation, axiom, sorry.
-/
import Derived.Test.YtjinmoeabkpmaaaDoorChecked
import GoSem.PinnedTables
import GoSem.Claim
import GoSem.ClaimJoined
import GoSem.ClaimMapViews
import Derived.JoinedTies
import Derived.KernelRfl
namespace Go.Proofs.YtjinmoeabkpmaaaDoor
/- THE CELL 'sum', in the pinned program and in every row, IS THE sha256 OF THE DUMP (.gsa) THAT YtjinmoeabkpmaaaDoorProg.lean LOADS. Nothing in Lean hashes anything: it is a label: what it is worth is what the hold of that sum in a sandbox is worth. -/
noncomputable def Tryd.pinned : Pinned := { name := "ytjinmoeabkpmaaadoor", sum := "f5bdb36548ca24ae08eec29c9f48d2957057eabd1a578ff39bdf5f4c44fd136b", checked := Tryd.checked }
namespace Rows
def none {H : Type} : Left H := { results := [], args := [] }

/- WHAT THE LISTED PACKAGE-LEVEL VARIABLES READ AS WHEN THE CALL BEGINS. Each datum BY PROGRAM (the guide's laid-datum.mjs) off the statement by which the dump's own 'gosem.cut.vars' lays the variable. In a bare row this is a premise. The card (YtjinmoeabkpmaaaDoorCards.lean) ties it to the program's text. -/
def laid_unicode_utf8_acceptRanges {H : Type} : DataW H := .agg [.agg [.lit (.int .u8 128), .lit (.int .u8 191)], .agg [.lit (.int .u8 160), .lit (.int .u8 191)], .agg [.lit (.int .u8 128), .lit (.int .u8 159)], .agg [.lit (.int .u8 144), .lit (.int .u8 191)], .agg [.lit (.int .u8 128), .lit (.int .u8 143)], .agg [.lit (.int .u8 0), .lit (.int .u8 0)], .agg [.lit (.int .u8 0), .lit (.int .u8 0)], .agg [.lit (.int .u8 0), .lit (.int .u8 0)], .agg [.lit (.int .u8 0), .lit (.int .u8 0)], .agg [.lit (.int .u8 0), .lit (.int .u8 0)], .agg [.lit (.int .u8 0), .lit (.int .u8 0)], .agg [.lit (.int .u8 0), .lit (.int .u8 0)], .agg [.lit (.int .u8 0), .lit (.int .u8 0)], .agg [.lit (.int .u8 0), .lit (.int .u8 0)], .agg [.lit (.int .u8 0), .lit (.int .u8 0)], .agg [.lit (.int .u8 0), .lit (.int .u8 0)]]
/-- One of Go's own tables, pinned by name: the form's constant. -/
def laid_unicode_utf8_first : DataW Unit := Go.Pinned.utf8First

/-- 'laws.FnExactCyclesOf': WHATEVER THE INPUT: true; the input reads as it did. -/
def fnExactCyclesOfSpec : ChangeSpec := { name := "fnExactCyclesOf", fn := fun _ => fun
  | [d] => { results := [.lit (.bool true)], args := [d] }
  | _ => none }
def fnExactCyclesOfRow : OpenClaim := { program := "ytjinmoeabkpmaaadoor", sum := "f5bdb36548ca24ae08eec29c9f48d2957057eabd1a578ff39bdf5f4c44fd136b", func := "loop.example/switchnetworks/laws.FnExactCyclesOf", spec := "fnExactCyclesOf", inPlace := ["internal/bytealg.CountString", "internal/bytealg.IndexByteString", "internal/bytealg.IndexString"], unfollowed := true, recurses := true, named := ["unicode/utf8.first", "unicode/utf8.acceptRanges", "internal/bytealg.MaxLen"], apart := false, laid := [("unicode/utf8.acceptRanges", laid_unicode_utf8_acceptRanges), ("unicode/utf8.first", laid_unicode_utf8_first)] }
def FnExactCyclesOfSaid : Prop := fnExactCyclesOfRow.holds Tryd.pinned (OpenSpec.ofChange fnExactCyclesOfSpec)

/-- ITS FALSE NEIGHBOUR: 'it returns false'. Refute it at one input. -/
def fnExactCyclesOfWrong : ChangeSpec := { name := "fnExactCyclesOf", fn := fun _ => fun
  | [d] => { results := [.lit (.bool false)], args := [d] }
  | _ => none }
def FnExactCyclesOfWrongFalsely : Prop := fnExactCyclesOfRow.holds Tryd.pinned (OpenSpec.ofChange fnExactCyclesOfWrong)

/-- 'laws.FnAfterSteps': WHATEVER THE INPUT: true; the input reads as it did. -/
def fnAfterStepsSpec : ChangeSpec := { name := "fnAfterSteps", fn := fun _ => fun
  | [d1, d2] => { results := [.lit (.bool true)], args := [d1, d2] }
  | _ => none }
def fnAfterStepsRow : OpenClaim := { program := "ytjinmoeabkpmaaadoor", sum := "f5bdb36548ca24ae08eec29c9f48d2957057eabd1a578ff39bdf5f4c44fd136b", func := "loop.example/switchnetworks/laws.FnAfterSteps", spec := "fnAfterSteps", inPlace := ["internal/bytealg.CountString", "internal/bytealg.IndexByteString", "internal/bytealg.IndexString"], unfollowed := true, recurses := true, named := ["unicode/utf8.first", "unicode/utf8.acceptRanges", "internal/bytealg.MaxLen"], apart := false, laid := [("unicode/utf8.acceptRanges", laid_unicode_utf8_acceptRanges), ("unicode/utf8.first", laid_unicode_utf8_first)] }
def FnAfterStepsSaid : Prop := fnAfterStepsRow.holds Tryd.pinned (OpenSpec.ofChange fnAfterStepsSpec)

/-- ITS FALSE NEIGHBOUR: 'it returns false'. Refute it at one input. -/
def fnAfterStepsWrong : ChangeSpec := { name := "fnAfterSteps", fn := fun _ => fun
  | [d1, d2] => { results := [.lit (.bool false)], args := [d1, d2] }
  | _ => none }
def FnAfterStepsWrongFalsely : Prop := fnAfterStepsRow.holds Tryd.pinned (OpenSpec.ofChange fnAfterStepsWrong)

/-- 'laws.FnSteps': WHATEVER THE INPUT: true; the input reads as it did. -/
def fnStepsSpec : ChangeSpec := { name := "fnSteps", fn := fun _ => fun
  | [d] => { results := [.lit (.bool true)], args := [d] }
  | _ => none }
def fnStepsRow : OpenClaim := { program := "ytjinmoeabkpmaaadoor", sum := "f5bdb36548ca24ae08eec29c9f48d2957057eabd1a578ff39bdf5f4c44fd136b", func := "loop.example/switchnetworks/laws.FnSteps", spec := "fnSteps", inPlace := ["internal/bytealg.CountString", "internal/bytealg.IndexByteString", "internal/bytealg.IndexString"], unfollowed := true, recurses := true, named := ["unicode/utf8.first", "unicode/utf8.acceptRanges", "internal/bytealg.MaxLen"], apart := false, laid := [("unicode/utf8.acceptRanges", laid_unicode_utf8_acceptRanges), ("unicode/utf8.first", laid_unicode_utf8_first)] }
def FnStepsSaid : Prop := fnStepsRow.holds Tryd.pinned (OpenSpec.ofChange fnStepsSpec)

/-- ITS FALSE NEIGHBOUR: 'it returns false'. Refute it at one input. -/
def fnStepsWrong : ChangeSpec := { name := "fnSteps", fn := fun _ => fun
  | [d] => { results := [.lit (.bool false)], args := [d] }
  | _ => none }
def FnStepsWrongFalsely : Prop := fnStepsRow.holds Tryd.pinned (OpenSpec.ofChange fnStepsWrong)

/-- 'laws.FnNext': WHATEVER THE INPUT: true; the input reads as it did. -/
def fnNextSpec : ChangeSpec := { name := "fnNext", fn := fun _ => fun
  | [d] => { results := [.lit (.bool true)], args := [d] }
  | _ => none }
def fnNextRow : OpenClaim := { program := "ytjinmoeabkpmaaadoor", sum := "f5bdb36548ca24ae08eec29c9f48d2957057eabd1a578ff39bdf5f4c44fd136b", func := "loop.example/switchnetworks/laws.FnNext", spec := "fnNext", inPlace := ["internal/bytealg.CountString", "internal/bytealg.IndexByteString", "internal/bytealg.IndexString"], unfollowed := true, recurses := true, named := ["unicode/utf8.first", "unicode/utf8.acceptRanges", "internal/bytealg.MaxLen"], apart := false, laid := [("unicode/utf8.acceptRanges", laid_unicode_utf8_acceptRanges), ("unicode/utf8.first", laid_unicode_utf8_first)] }
def FnNextSaid : Prop := fnNextRow.holds Tryd.pinned (OpenSpec.ofChange fnNextSpec)

/-- ITS FALSE NEIGHBOUR: 'it returns false'. Refute it at one input. -/
def fnNextWrong : ChangeSpec := { name := "fnNext", fn := fun _ => fun
  | [d] => { results := [.lit (.bool false)], args := [d] }
  | _ => none }
def FnNextWrongFalsely : Prop := fnNextRow.holds Tryd.pinned (OpenSpec.ofChange fnNextWrong)

/-- 'laws.FnBefore': WHATEVER THE INPUT: true; the input reads as it did. -/
def fnBeforeSpec : ChangeSpec := { name := "fnBefore", fn := fun _ => fun
  | [d] => { results := [.lit (.bool true)], args := [d] }
  | _ => none }
def fnBeforeRow : OpenClaim := { program := "ytjinmoeabkpmaaadoor", sum := "f5bdb36548ca24ae08eec29c9f48d2957057eabd1a578ff39bdf5f4c44fd136b", func := "loop.example/switchnetworks/laws.FnBefore", spec := "fnBefore", inPlace := ["internal/bytealg.CountString", "internal/bytealg.IndexByteString", "internal/bytealg.IndexString"], unfollowed := true, recurses := true, named := ["unicode/utf8.first", "unicode/utf8.acceptRanges", "internal/bytealg.MaxLen"], apart := false, laid := [("unicode/utf8.acceptRanges", laid_unicode_utf8_acceptRanges), ("unicode/utf8.first", laid_unicode_utf8_first)] }
def FnBeforeSaid : Prop := fnBeforeRow.holds Tryd.pinned (OpenSpec.ofChange fnBeforeSpec)

/-- ITS FALSE NEIGHBOUR: 'it returns false'. Refute it at one input. -/
def fnBeforeWrong : ChangeSpec := { name := "fnBefore", fn := fun _ => fun
  | [d] => { results := [.lit (.bool false)], args := [d] }
  | _ => none }
def FnBeforeWrongFalsely : Prop := fnBeforeRow.holds Tryd.pinned (OpenSpec.ofChange fnBeforeWrong)

/-- 'laws.FnOrbit': WHATEVER THE INPUT: true; the input reads as it did. -/
def fnOrbitSpec : ChangeSpec := { name := "fnOrbit", fn := fun _ => fun
  | [d] => { results := [.lit (.bool true)], args := [d] }
  | _ => none }
def fnOrbitRow : OpenClaim := { program := "ytjinmoeabkpmaaadoor", sum := "f5bdb36548ca24ae08eec29c9f48d2957057eabd1a578ff39bdf5f4c44fd136b", func := "loop.example/switchnetworks/laws.FnOrbit", spec := "fnOrbit", inPlace := ["internal/bytealg.CountString", "internal/bytealg.IndexByteString", "internal/bytealg.IndexString"], unfollowed := true, recurses := true, named := ["unicode/utf8.first", "unicode/utf8.acceptRanges", "internal/bytealg.MaxLen"], apart := false, laid := [("unicode/utf8.acceptRanges", laid_unicode_utf8_acceptRanges), ("unicode/utf8.first", laid_unicode_utf8_first)] }
def FnOrbitSaid : Prop := fnOrbitRow.holds Tryd.pinned (OpenSpec.ofChange fnOrbitSpec)

/-- ITS FALSE NEIGHBOUR: 'it returns false'. Refute it at one input. -/
def fnOrbitWrong : ChangeSpec := { name := "fnOrbit", fn := fun _ => fun
  | [d] => { results := [.lit (.bool false)], args := [d] }
  | _ => none }
def FnOrbitWrongFalsely : Prop := fnOrbitRow.holds Tryd.pinned (OpenSpec.ofChange fnOrbitWrong)

/-- 'laws.FnReach': WHATEVER THE INPUT: true; the input reads as it did. -/
def fnReachSpec : ChangeSpec := { name := "fnReach", fn := fun _ => fun
  | [d] => { results := [.lit (.bool true)], args := [d] }
  | _ => none }
def fnReachRow : OpenClaim := { program := "ytjinmoeabkpmaaadoor", sum := "f5bdb36548ca24ae08eec29c9f48d2957057eabd1a578ff39bdf5f4c44fd136b", func := "loop.example/switchnetworks/laws.FnReach", spec := "fnReach", inPlace := ["internal/bytealg.CountString", "internal/bytealg.IndexByteString", "internal/bytealg.IndexString"], unfollowed := true, recurses := true, named := ["unicode/utf8.first", "unicode/utf8.acceptRanges", "internal/bytealg.MaxLen"], apart := false, laid := [("unicode/utf8.acceptRanges", laid_unicode_utf8_acceptRanges), ("unicode/utf8.first", laid_unicode_utf8_first)] }
def FnReachSaid : Prop := fnReachRow.holds Tryd.pinned (OpenSpec.ofChange fnReachSpec)

/-- ITS FALSE NEIGHBOUR: 'it returns false'. Refute it at one input. -/
def fnReachWrong : ChangeSpec := { name := "fnReach", fn := fun _ => fun
  | [d] => { results := [.lit (.bool false)], args := [d] }
  | _ => none }
def FnReachWrongFalsely : Prop := fnReachRow.holds Tryd.pinned (OpenSpec.ofChange fnReachWrong)

/-- 'laws.FnTurnNetwork': WHATEVER THE INPUT: true; the input reads as it did. -/
def fnTurnNetworkSpec : ChangeSpec := { name := "fnTurnNetwork", fn := fun _ => fun
  | [d] => { results := [.lit (.bool true)], args := [d] }
  | _ => none }
def fnTurnNetworkRow : OpenClaim := { program := "ytjinmoeabkpmaaadoor", sum := "f5bdb36548ca24ae08eec29c9f48d2957057eabd1a578ff39bdf5f4c44fd136b", func := "loop.example/switchnetworks/laws.FnTurnNetwork", spec := "fnTurnNetwork", inPlace := ["internal/bytealg.CountString", "internal/bytealg.IndexByteString", "internal/bytealg.IndexString", "internal/abi.NoEscape", "internal/bytealg.MakeNoZero"], unfollowed := true, recurses := true, named := ["unicode/utf8.first", "unicode/utf8.acceptRanges", "internal/bytealg.MaxLen"], apart := false, laid := [("unicode/utf8.acceptRanges", laid_unicode_utf8_acceptRanges), ("unicode/utf8.first", laid_unicode_utf8_first)] }
def FnTurnNetworkSaid : Prop := fnTurnNetworkRow.holds Tryd.pinned (OpenSpec.ofChange fnTurnNetworkSpec)

/-- ITS FALSE NEIGHBOUR: 'it returns false'. Refute it at one input. -/
def fnTurnNetworkWrong : ChangeSpec := { name := "fnTurnNetwork", fn := fun _ => fun
  | [d] => { results := [.lit (.bool false)], args := [d] }
  | _ => none }
def FnTurnNetworkWrongFalsely : Prop := fnTurnNetworkRow.holds Tryd.pinned (OpenSpec.ofChange fnTurnNetworkWrong)

/-- 'laws.FnCycle': WHATEVER THE INPUT: true; the input reads as it did. -/
def fnCycleSpec : ChangeSpec := { name := "fnCycle", fn := fun _ => fun
  | [d] => { results := [.lit (.bool true)], args := [d] }
  | _ => none }
def fnCycleRow : OpenClaim := { program := "ytjinmoeabkpmaaadoor", sum := "f5bdb36548ca24ae08eec29c9f48d2957057eabd1a578ff39bdf5f4c44fd136b", func := "loop.example/switchnetworks/laws.FnCycle", spec := "fnCycle", inPlace := ["internal/bytealg.CountString", "internal/bytealg.IndexByteString", "internal/bytealg.IndexString"], unfollowed := true, recurses := true, named := ["unicode/utf8.first", "unicode/utf8.acceptRanges", "internal/bytealg.MaxLen"], apart := false, laid := [("unicode/utf8.acceptRanges", laid_unicode_utf8_acceptRanges), ("unicode/utf8.first", laid_unicode_utf8_first)] }
def FnCycleSaid : Prop := fnCycleRow.holds Tryd.pinned (OpenSpec.ofChange fnCycleSpec)

/-- ITS FALSE NEIGHBOUR: 'it returns false'. Refute it at one input. -/
def fnCycleWrong : ChangeSpec := { name := "fnCycle", fn := fun _ => fun
  | [d] => { results := [.lit (.bool false)], args := [d] }
  | _ => none }
def FnCycleWrongFalsely : Prop := fnCycleRow.holds Tryd.pinned (OpenSpec.ofChange fnCycleWrong)

/-- 'laws.FnBasin': WHATEVER THE INPUT: true; the input reads as it did. -/
def fnBasinSpec : ChangeSpec := { name := "fnBasin", fn := fun _ => fun
  | [d] => { results := [.lit (.bool true)], args := [d] }
  | _ => none }
def fnBasinRow : OpenClaim := { program := "ytjinmoeabkpmaaadoor", sum := "f5bdb36548ca24ae08eec29c9f48d2957057eabd1a578ff39bdf5f4c44fd136b", func := "loop.example/switchnetworks/laws.FnBasin", spec := "fnBasin", inPlace := ["internal/bytealg.CountString", "internal/bytealg.IndexByteString", "internal/bytealg.IndexString"], unfollowed := true, recurses := true, named := ["unicode/utf8.first", "unicode/utf8.acceptRanges", "internal/bytealg.MaxLen"], apart := false, laid := [("unicode/utf8.acceptRanges", laid_unicode_utf8_acceptRanges), ("unicode/utf8.first", laid_unicode_utf8_first)] }
def FnBasinSaid : Prop := fnBasinRow.holds Tryd.pinned (OpenSpec.ofChange fnBasinSpec)

/-- ITS FALSE NEIGHBOUR: 'it returns false'. Refute it at one input. -/
def fnBasinWrong : ChangeSpec := { name := "fnBasin", fn := fun _ => fun
  | [d] => { results := [.lit (.bool false)], args := [d] }
  | _ => none }
def FnBasinWrongFalsely : Prop := fnBasinRow.holds Tryd.pinned (OpenSpec.ofChange fnBasinWrong)

/-- 'laws.FnCycles': WHATEVER THE INPUT: true; the input reads as it did. -/
def fnCyclesSpec : ChangeSpec := { name := "fnCycles", fn := fun _ => fun
  | [d] => { results := [.lit (.bool true)], args := [d] }
  | _ => none }
def fnCyclesRow : OpenClaim := { program := "ytjinmoeabkpmaaadoor", sum := "f5bdb36548ca24ae08eec29c9f48d2957057eabd1a578ff39bdf5f4c44fd136b", func := "loop.example/switchnetworks/laws.FnCycles", spec := "fnCycles", inPlace := ["internal/bytealg.CountString", "internal/bytealg.IndexByteString", "internal/bytealg.IndexString"], unfollowed := true, recurses := true, named := ["unicode/utf8.first", "unicode/utf8.acceptRanges", "internal/bytealg.MaxLen"], apart := false, laid := [("unicode/utf8.acceptRanges", laid_unicode_utf8_acceptRanges), ("unicode/utf8.first", laid_unicode_utf8_first)] }
def FnCyclesSaid : Prop := fnCyclesRow.holds Tryd.pinned (OpenSpec.ofChange fnCyclesSpec)

/-- ITS FALSE NEIGHBOUR: 'it returns false'. Refute it at one input. -/
def fnCyclesWrong : ChangeSpec := { name := "fnCycles", fn := fun _ => fun
  | [d] => { results := [.lit (.bool false)], args := [d] }
  | _ => none }
def FnCyclesWrongFalsely : Prop := fnCyclesRow.holds Tryd.pinned (OpenSpec.ofChange fnCyclesWrong)

/-- 'laws.FnReversible': WHATEVER THE INPUT: true; the input reads as it did. -/
def fnReversibleSpec : ChangeSpec := { name := "fnReversible", fn := fun _ => fun
  | [d] => { results := [.lit (.bool true)], args := [d] }
  | _ => none }
def fnReversibleRow : OpenClaim := { program := "ytjinmoeabkpmaaadoor", sum := "f5bdb36548ca24ae08eec29c9f48d2957057eabd1a578ff39bdf5f4c44fd136b", func := "loop.example/switchnetworks/laws.FnReversible", spec := "fnReversible", inPlace := ["internal/bytealg.CountString", "internal/bytealg.IndexByteString", "internal/bytealg.IndexString"], unfollowed := true, recurses := true, named := ["unicode/utf8.first", "unicode/utf8.acceptRanges", "internal/bytealg.MaxLen"], apart := false, laid := [("unicode/utf8.acceptRanges", laid_unicode_utf8_acceptRanges), ("unicode/utf8.first", laid_unicode_utf8_first)] }
def FnReversibleSaid : Prop := fnReversibleRow.holds Tryd.pinned (OpenSpec.ofChange fnReversibleSpec)

/-- ITS FALSE NEIGHBOUR: 'it returns false'. Refute it at one input. -/
def fnReversibleWrong : ChangeSpec := { name := "fnReversible", fn := fun _ => fun
  | [d] => { results := [.lit (.bool false)], args := [d] }
  | _ => none }
def FnReversibleWrongFalsely : Prop := fnReversibleRow.holds Tryd.pinned (OpenSpec.ofChange fnReversibleWrong)

/- THE SECOND FORM. 'bulk': how many values and letters a reading holds, each counted each time it is reached (what is shared counts as often as it is met; a slice's spare places count too). A statement '..UptoSaid' is the law's where the arguments, and the package variables that the reading takes, are together of bulk at most 1048576: NARROWER than '..Said'. Prove '..Said' where nothing that the law and all that it calls make is longer than what came in: it says more and counts as full. Else prove '..UptoSaid'. A law counts once. -/
mutual
def uptoBulk {H : Type} : DataW H → Nat
  | .lit (.string bytes) => bytes.length + 1
  | .lit _ => 1
  | .nil => 1
  | .ptr d => uptoBulk d + 1
  | .slice elems spare => uptoBulkAll elems + uptoBulkAll spare + 1
  | .agg parts => uptoBulkAll parts + 1
  | .iface _ d => uptoBulk d + 1
  | .map entries => uptoBulkEntries entries + 1
  | .held _ => 1
def uptoBulkAll {H : Type} : List (DataW H) → Nat
  | [] => 0
  | d :: r => uptoBulk d + uptoBulkAll r
def uptoBulkEntries {H : Type} : List (Lit × DataW H) → Nat
  | [] => 0
  | x :: r => uptoBulkEntry x + uptoBulkEntries r
def uptoBulkEntry {H : Type} : Lit × DataW H → Nat
  | (.string bytes, d) => bytes.length + uptoBulk d + 1
  | (_, d) => uptoBulk d + 1
 end
def uptoSmall : (H : Type) → List (DataW H) → Bool := fun _ ds => decide (uptoBulkAll ds ≤ 1048576)
def OpenSpec.upto (s : _root_.Go.ChangeSpec) : _root_.Go.OpenSpec := { _root_.Go.OpenSpec.ofChange s with cond := some uptoSmall }

/-- 'laws.FnExactCyclesOf', WHERE WHAT IT READS IS OF BULK AT MOST 1048576: true; the input reads as it did. -/
def fnExactCyclesOfUptoRow : OpenClaim := { program := "ytjinmoeabkpmaaadoor", sum := "f5bdb36548ca24ae08eec29c9f48d2957057eabd1a578ff39bdf5f4c44fd136b", func := "loop.example/switchnetworks/laws.FnExactCyclesOf", spec := "fnExactCyclesOf", inPlace := ["internal/bytealg.CountString", "internal/bytealg.IndexByteString", "internal/bytealg.IndexString"], unfollowed := true, recurses := true, named := ["unicode/utf8.first", "unicode/utf8.acceptRanges", "internal/bytealg.MaxLen"], apart := false, laid := [("unicode/utf8.acceptRanges", laid_unicode_utf8_acceptRanges), ("unicode/utf8.first", laid_unicode_utf8_first)], narrowed := true }
def FnExactCyclesOfUptoSaid : Prop := fnExactCyclesOfUptoRow.holds Tryd.pinned (OpenSpec.upto fnExactCyclesOfSpec)

/-- 'laws.FnAfterSteps', WHERE WHAT IT READS IS OF BULK AT MOST 1048576: true; the input reads as it did. -/
def fnAfterStepsUptoRow : OpenClaim := { program := "ytjinmoeabkpmaaadoor", sum := "f5bdb36548ca24ae08eec29c9f48d2957057eabd1a578ff39bdf5f4c44fd136b", func := "loop.example/switchnetworks/laws.FnAfterSteps", spec := "fnAfterSteps", inPlace := ["internal/bytealg.CountString", "internal/bytealg.IndexByteString", "internal/bytealg.IndexString"], unfollowed := true, recurses := true, named := ["unicode/utf8.first", "unicode/utf8.acceptRanges", "internal/bytealg.MaxLen"], apart := false, laid := [("unicode/utf8.acceptRanges", laid_unicode_utf8_acceptRanges), ("unicode/utf8.first", laid_unicode_utf8_first)], narrowed := true }
def FnAfterStepsUptoSaid : Prop := fnAfterStepsUptoRow.holds Tryd.pinned (OpenSpec.upto fnAfterStepsSpec)

/-- 'laws.FnSteps', WHERE WHAT IT READS IS OF BULK AT MOST 1048576: true; the input reads as it did. -/
def fnStepsUptoRow : OpenClaim := { program := "ytjinmoeabkpmaaadoor", sum := "f5bdb36548ca24ae08eec29c9f48d2957057eabd1a578ff39bdf5f4c44fd136b", func := "loop.example/switchnetworks/laws.FnSteps", spec := "fnSteps", inPlace := ["internal/bytealg.CountString", "internal/bytealg.IndexByteString", "internal/bytealg.IndexString"], unfollowed := true, recurses := true, named := ["unicode/utf8.first", "unicode/utf8.acceptRanges", "internal/bytealg.MaxLen"], apart := false, laid := [("unicode/utf8.acceptRanges", laid_unicode_utf8_acceptRanges), ("unicode/utf8.first", laid_unicode_utf8_first)], narrowed := true }
def FnStepsUptoSaid : Prop := fnStepsUptoRow.holds Tryd.pinned (OpenSpec.upto fnStepsSpec)

/-- 'laws.FnNext', WHERE WHAT IT READS IS OF BULK AT MOST 1048576: true; the input reads as it did. -/
def fnNextUptoRow : OpenClaim := { program := "ytjinmoeabkpmaaadoor", sum := "f5bdb36548ca24ae08eec29c9f48d2957057eabd1a578ff39bdf5f4c44fd136b", func := "loop.example/switchnetworks/laws.FnNext", spec := "fnNext", inPlace := ["internal/bytealg.CountString", "internal/bytealg.IndexByteString", "internal/bytealg.IndexString"], unfollowed := true, recurses := true, named := ["unicode/utf8.first", "unicode/utf8.acceptRanges", "internal/bytealg.MaxLen"], apart := false, laid := [("unicode/utf8.acceptRanges", laid_unicode_utf8_acceptRanges), ("unicode/utf8.first", laid_unicode_utf8_first)], narrowed := true }
def FnNextUptoSaid : Prop := fnNextUptoRow.holds Tryd.pinned (OpenSpec.upto fnNextSpec)

/-- 'laws.FnBefore', WHERE WHAT IT READS IS OF BULK AT MOST 1048576: true; the input reads as it did. -/
def fnBeforeUptoRow : OpenClaim := { program := "ytjinmoeabkpmaaadoor", sum := "f5bdb36548ca24ae08eec29c9f48d2957057eabd1a578ff39bdf5f4c44fd136b", func := "loop.example/switchnetworks/laws.FnBefore", spec := "fnBefore", inPlace := ["internal/bytealg.CountString", "internal/bytealg.IndexByteString", "internal/bytealg.IndexString"], unfollowed := true, recurses := true, named := ["unicode/utf8.first", "unicode/utf8.acceptRanges", "internal/bytealg.MaxLen"], apart := false, laid := [("unicode/utf8.acceptRanges", laid_unicode_utf8_acceptRanges), ("unicode/utf8.first", laid_unicode_utf8_first)], narrowed := true }
def FnBeforeUptoSaid : Prop := fnBeforeUptoRow.holds Tryd.pinned (OpenSpec.upto fnBeforeSpec)

/-- 'laws.FnOrbit', WHERE WHAT IT READS IS OF BULK AT MOST 1048576: true; the input reads as it did. -/
def fnOrbitUptoRow : OpenClaim := { program := "ytjinmoeabkpmaaadoor", sum := "f5bdb36548ca24ae08eec29c9f48d2957057eabd1a578ff39bdf5f4c44fd136b", func := "loop.example/switchnetworks/laws.FnOrbit", spec := "fnOrbit", inPlace := ["internal/bytealg.CountString", "internal/bytealg.IndexByteString", "internal/bytealg.IndexString"], unfollowed := true, recurses := true, named := ["unicode/utf8.first", "unicode/utf8.acceptRanges", "internal/bytealg.MaxLen"], apart := false, laid := [("unicode/utf8.acceptRanges", laid_unicode_utf8_acceptRanges), ("unicode/utf8.first", laid_unicode_utf8_first)], narrowed := true }
def FnOrbitUptoSaid : Prop := fnOrbitUptoRow.holds Tryd.pinned (OpenSpec.upto fnOrbitSpec)

/-- 'laws.FnReach', WHERE WHAT IT READS IS OF BULK AT MOST 1048576: true; the input reads as it did. -/
def fnReachUptoRow : OpenClaim := { program := "ytjinmoeabkpmaaadoor", sum := "f5bdb36548ca24ae08eec29c9f48d2957057eabd1a578ff39bdf5f4c44fd136b", func := "loop.example/switchnetworks/laws.FnReach", spec := "fnReach", inPlace := ["internal/bytealg.CountString", "internal/bytealg.IndexByteString", "internal/bytealg.IndexString"], unfollowed := true, recurses := true, named := ["unicode/utf8.first", "unicode/utf8.acceptRanges", "internal/bytealg.MaxLen"], apart := false, laid := [("unicode/utf8.acceptRanges", laid_unicode_utf8_acceptRanges), ("unicode/utf8.first", laid_unicode_utf8_first)], narrowed := true }
def FnReachUptoSaid : Prop := fnReachUptoRow.holds Tryd.pinned (OpenSpec.upto fnReachSpec)

/-- 'laws.FnTurnNetwork', WHERE WHAT IT READS IS OF BULK AT MOST 1048576: true; the input reads as it did. -/
def fnTurnNetworkUptoRow : OpenClaim := { program := "ytjinmoeabkpmaaadoor", sum := "f5bdb36548ca24ae08eec29c9f48d2957057eabd1a578ff39bdf5f4c44fd136b", func := "loop.example/switchnetworks/laws.FnTurnNetwork", spec := "fnTurnNetwork", inPlace := ["internal/bytealg.CountString", "internal/bytealg.IndexByteString", "internal/bytealg.IndexString", "internal/abi.NoEscape", "internal/bytealg.MakeNoZero"], unfollowed := true, recurses := true, named := ["unicode/utf8.first", "unicode/utf8.acceptRanges", "internal/bytealg.MaxLen"], apart := false, laid := [("unicode/utf8.acceptRanges", laid_unicode_utf8_acceptRanges), ("unicode/utf8.first", laid_unicode_utf8_first)], narrowed := true }
def FnTurnNetworkUptoSaid : Prop := fnTurnNetworkUptoRow.holds Tryd.pinned (OpenSpec.upto fnTurnNetworkSpec)

/-- 'laws.FnCycle', WHERE WHAT IT READS IS OF BULK AT MOST 1048576: true; the input reads as it did. -/
def fnCycleUptoRow : OpenClaim := { program := "ytjinmoeabkpmaaadoor", sum := "f5bdb36548ca24ae08eec29c9f48d2957057eabd1a578ff39bdf5f4c44fd136b", func := "loop.example/switchnetworks/laws.FnCycle", spec := "fnCycle", inPlace := ["internal/bytealg.CountString", "internal/bytealg.IndexByteString", "internal/bytealg.IndexString"], unfollowed := true, recurses := true, named := ["unicode/utf8.first", "unicode/utf8.acceptRanges", "internal/bytealg.MaxLen"], apart := false, laid := [("unicode/utf8.acceptRanges", laid_unicode_utf8_acceptRanges), ("unicode/utf8.first", laid_unicode_utf8_first)], narrowed := true }
def FnCycleUptoSaid : Prop := fnCycleUptoRow.holds Tryd.pinned (OpenSpec.upto fnCycleSpec)

/-- 'laws.FnBasin', WHERE WHAT IT READS IS OF BULK AT MOST 1048576: true; the input reads as it did. -/
def fnBasinUptoRow : OpenClaim := { program := "ytjinmoeabkpmaaadoor", sum := "f5bdb36548ca24ae08eec29c9f48d2957057eabd1a578ff39bdf5f4c44fd136b", func := "loop.example/switchnetworks/laws.FnBasin", spec := "fnBasin", inPlace := ["internal/bytealg.CountString", "internal/bytealg.IndexByteString", "internal/bytealg.IndexString"], unfollowed := true, recurses := true, named := ["unicode/utf8.first", "unicode/utf8.acceptRanges", "internal/bytealg.MaxLen"], apart := false, laid := [("unicode/utf8.acceptRanges", laid_unicode_utf8_acceptRanges), ("unicode/utf8.first", laid_unicode_utf8_first)], narrowed := true }
def FnBasinUptoSaid : Prop := fnBasinUptoRow.holds Tryd.pinned (OpenSpec.upto fnBasinSpec)

/-- 'laws.FnCycles', WHERE WHAT IT READS IS OF BULK AT MOST 1048576: true; the input reads as it did. -/
def fnCyclesUptoRow : OpenClaim := { program := "ytjinmoeabkpmaaadoor", sum := "f5bdb36548ca24ae08eec29c9f48d2957057eabd1a578ff39bdf5f4c44fd136b", func := "loop.example/switchnetworks/laws.FnCycles", spec := "fnCycles", inPlace := ["internal/bytealg.CountString", "internal/bytealg.IndexByteString", "internal/bytealg.IndexString"], unfollowed := true, recurses := true, named := ["unicode/utf8.first", "unicode/utf8.acceptRanges", "internal/bytealg.MaxLen"], apart := false, laid := [("unicode/utf8.acceptRanges", laid_unicode_utf8_acceptRanges), ("unicode/utf8.first", laid_unicode_utf8_first)], narrowed := true }
def FnCyclesUptoSaid : Prop := fnCyclesUptoRow.holds Tryd.pinned (OpenSpec.upto fnCyclesSpec)

/-- 'laws.FnReversible', WHERE WHAT IT READS IS OF BULK AT MOST 1048576: true; the input reads as it did. -/
def fnReversibleUptoRow : OpenClaim := { program := "ytjinmoeabkpmaaadoor", sum := "f5bdb36548ca24ae08eec29c9f48d2957057eabd1a578ff39bdf5f4c44fd136b", func := "loop.example/switchnetworks/laws.FnReversible", spec := "fnReversible", inPlace := ["internal/bytealg.CountString", "internal/bytealg.IndexByteString", "internal/bytealg.IndexString"], unfollowed := true, recurses := true, named := ["unicode/utf8.first", "unicode/utf8.acceptRanges", "internal/bytealg.MaxLen"], apart := false, laid := [("unicode/utf8.acceptRanges", laid_unicode_utf8_acceptRanges), ("unicode/utf8.first", laid_unicode_utf8_first)], narrowed := true }
def FnReversibleUptoSaid : Prop := fnReversibleUptoRow.holds Tryd.pinned (OpenSpec.upto fnReversibleSpec)

end Rows
end Go.Proofs.YtjinmoeabkpmaaaDoor
