/-
  NARROWER THAN 'FOR EVERY INPUT', by the rows' own cells (each row's printed sentence says how): FnExactMayReach: laid · FnExactAttractorsOf: laid · FnExactOutcomesOf: laid · FnExactMustReach: laid · FnOutcomes: laid · FnAttractors: laid · FnSteady: laid · FnExactRenameNetwork: laid · FnRenameNetwork: laid · FnNetwork: laid · FnExactPathTo: laid · FnPath: laid.
  DERIVED. THE GIVEN ROWS OF THIS SEAT. 12 by the template 'for every input the law returns true; each argument reads behind the call as it read before'; 0 by the template 'total and deterministic' (their statements: YtpehimjngofnkaaDoorTotals.lean).
  GIVEN WITH THE SEED: the statements are not yours to turn. If you find one false, say at which input.
  Laid BY PROGRAM, IN A SANDBOX (cutbox-rows.mjs): the forced cells as the released guide's own fill.sh prints them over the translation 52a7d2910fc33994… (all of the seat's roots in one cut). By AI agents, Wed Nov 11 2026. No macro, syntax, notation, axiom, sorry.
-/
import Derived.Test.YtpehimjngofnkaaDoorChecked
import GoSem.PinnedTables
import GoSem.Claim
import GoSem.ClaimJoined
import GoSem.ClaimMapViews
import Derived.JoinedTies
import Derived.KernelRfl
namespace Go.Proofs.YtpehimjngofnkaaDoor
/- THE CELL 'sum', in the pinned program and in every row, IS THE sha256 OF THE DUMP (.gsa) THAT YtpehimjngofnkaaDoorProg.lean LOADS. Nothing in Lean hashes anything: it is a label: what it is worth is what the hold of that sum in a sandbox is worth. -/
noncomputable def Tryd.pinned : Pinned := { name := "ytpehimjngofnkaadoor", sum := "52a7d2910fc33994fbec2cac104f51974e9a3605d118206e9a0012e057def8dc", checked := Tryd.checked }
namespace Rows
def none {H : Type} : Left H := { results := [], args := [] }

/- WHAT THE LISTED PACKAGE-LEVEL VARIABLES READ AS WHEN THE CALL BEGINS. Each datum BY PROGRAM (the guide's laid-datum.mjs) off the statement by which the dump's own 'gosem.cut.vars' lays the variable. In a bare row this is a premise. The card (YtpehimjngofnkaaDoorCards.lean) ties it to the program's text. -/
def laid_unicode_utf8_acceptRanges {H : Type} : DataW H := .agg [.agg [.lit (.int .u8 128), .lit (.int .u8 191)], .agg [.lit (.int .u8 160), .lit (.int .u8 191)], .agg [.lit (.int .u8 128), .lit (.int .u8 159)], .agg [.lit (.int .u8 144), .lit (.int .u8 191)], .agg [.lit (.int .u8 128), .lit (.int .u8 143)], .agg [.lit (.int .u8 0), .lit (.int .u8 0)], .agg [.lit (.int .u8 0), .lit (.int .u8 0)], .agg [.lit (.int .u8 0), .lit (.int .u8 0)], .agg [.lit (.int .u8 0), .lit (.int .u8 0)], .agg [.lit (.int .u8 0), .lit (.int .u8 0)], .agg [.lit (.int .u8 0), .lit (.int .u8 0)], .agg [.lit (.int .u8 0), .lit (.int .u8 0)], .agg [.lit (.int .u8 0), .lit (.int .u8 0)], .agg [.lit (.int .u8 0), .lit (.int .u8 0)], .agg [.lit (.int .u8 0), .lit (.int .u8 0)], .agg [.lit (.int .u8 0), .lit (.int .u8 0)]]
/-- One of Go's own tables, pinned by name: the form's constant. -/
def laid_unicode_utf8_first : DataW Unit := Go.Pinned.utf8First

/-- 'laws.FnExactMayReach': WHATEVER THE INPUT: true; the input reads as it did. -/
def fnExactMayReachSpec : ChangeSpec := { name := "fnExactMayReach", fn := fun _ => fun
  | [d1, d2] => { results := [.lit (.bool true)], args := [d1, d2] }
  | _ => none }
def fnExactMayReachRow : OpenClaim := { program := "ytpehimjngofnkaadoor", sum := "52a7d2910fc33994fbec2cac104f51974e9a3605d118206e9a0012e057def8dc", func := "loop.example/switchnetworks/laws.FnExactMayReach", spec := "fnExactMayReach", inPlace := ["internal/bytealg.CountString", "internal/bytealg.IndexByteString", "internal/bytealg.IndexString"], unfollowed := true, recurses := true, named := ["unicode/utf8.first", "unicode/utf8.acceptRanges", "internal/bytealg.MaxLen"], apart := false, laid := [("unicode/utf8.acceptRanges", laid_unicode_utf8_acceptRanges), ("unicode/utf8.first", laid_unicode_utf8_first)] }
def FnExactMayReachSaid : Prop := fnExactMayReachRow.holds Tryd.pinned (OpenSpec.ofChange fnExactMayReachSpec)

/-- ITS FALSE NEIGHBOUR: 'it returns false'. Refute it at one input. -/
def fnExactMayReachWrong : ChangeSpec := { name := "fnExactMayReach", fn := fun _ => fun
  | [d1, d2] => { results := [.lit (.bool false)], args := [d1, d2] }
  | _ => none }
def FnExactMayReachWrongFalsely : Prop := fnExactMayReachRow.holds Tryd.pinned (OpenSpec.ofChange fnExactMayReachWrong)

/-- 'laws.FnExactAttractorsOf': WHATEVER THE INPUT: true; the input reads as it did. -/
def fnExactAttractorsOfSpec : ChangeSpec := { name := "fnExactAttractorsOf", fn := fun _ => fun
  | [d] => { results := [.lit (.bool true)], args := [d] }
  | _ => none }
def fnExactAttractorsOfRow : OpenClaim := { program := "ytpehimjngofnkaadoor", sum := "52a7d2910fc33994fbec2cac104f51974e9a3605d118206e9a0012e057def8dc", func := "loop.example/switchnetworks/laws.FnExactAttractorsOf", spec := "fnExactAttractorsOf", inPlace := ["internal/bytealg.CountString", "internal/bytealg.IndexByteString", "internal/bytealg.IndexString"], unfollowed := true, recurses := true, named := ["unicode/utf8.first", "unicode/utf8.acceptRanges", "internal/bytealg.MaxLen"], apart := false, laid := [("unicode/utf8.acceptRanges", laid_unicode_utf8_acceptRanges), ("unicode/utf8.first", laid_unicode_utf8_first)] }
def FnExactAttractorsOfSaid : Prop := fnExactAttractorsOfRow.holds Tryd.pinned (OpenSpec.ofChange fnExactAttractorsOfSpec)

/-- ITS FALSE NEIGHBOUR: 'it returns false'. Refute it at one input. -/
def fnExactAttractorsOfWrong : ChangeSpec := { name := "fnExactAttractorsOf", fn := fun _ => fun
  | [d] => { results := [.lit (.bool false)], args := [d] }
  | _ => none }
def FnExactAttractorsOfWrongFalsely : Prop := fnExactAttractorsOfRow.holds Tryd.pinned (OpenSpec.ofChange fnExactAttractorsOfWrong)

/-- 'laws.FnExactOutcomesOf': WHATEVER THE INPUT: true; the input reads as it did. -/
def fnExactOutcomesOfSpec : ChangeSpec := { name := "fnExactOutcomesOf", fn := fun _ => fun
  | [d1, d2] => { results := [.lit (.bool true)], args := [d1, d2] }
  | _ => none }
def fnExactOutcomesOfRow : OpenClaim := { program := "ytpehimjngofnkaadoor", sum := "52a7d2910fc33994fbec2cac104f51974e9a3605d118206e9a0012e057def8dc", func := "loop.example/switchnetworks/laws.FnExactOutcomesOf", spec := "fnExactOutcomesOf", inPlace := ["internal/bytealg.CountString", "internal/bytealg.IndexByteString", "internal/bytealg.IndexString"], unfollowed := true, recurses := true, named := ["unicode/utf8.first", "unicode/utf8.acceptRanges", "internal/bytealg.MaxLen"], apart := false, laid := [("unicode/utf8.acceptRanges", laid_unicode_utf8_acceptRanges), ("unicode/utf8.first", laid_unicode_utf8_first)] }
def FnExactOutcomesOfSaid : Prop := fnExactOutcomesOfRow.holds Tryd.pinned (OpenSpec.ofChange fnExactOutcomesOfSpec)

/-- ITS FALSE NEIGHBOUR: 'it returns false'. Refute it at one input. -/
def fnExactOutcomesOfWrong : ChangeSpec := { name := "fnExactOutcomesOf", fn := fun _ => fun
  | [d1, d2] => { results := [.lit (.bool false)], args := [d1, d2] }
  | _ => none }
def FnExactOutcomesOfWrongFalsely : Prop := fnExactOutcomesOfRow.holds Tryd.pinned (OpenSpec.ofChange fnExactOutcomesOfWrong)

/-- 'laws.FnExactMustReach': WHATEVER THE INPUT: true; the input reads as it did. -/
def fnExactMustReachSpec : ChangeSpec := { name := "fnExactMustReach", fn := fun _ => fun
  | [d1, d2] => { results := [.lit (.bool true)], args := [d1, d2] }
  | _ => none }
def fnExactMustReachRow : OpenClaim := { program := "ytpehimjngofnkaadoor", sum := "52a7d2910fc33994fbec2cac104f51974e9a3605d118206e9a0012e057def8dc", func := "loop.example/switchnetworks/laws.FnExactMustReach", spec := "fnExactMustReach", inPlace := ["internal/bytealg.CountString", "internal/bytealg.IndexByteString", "internal/bytealg.IndexString"], unfollowed := true, recurses := true, named := ["unicode/utf8.first", "unicode/utf8.acceptRanges", "internal/bytealg.MaxLen"], apart := false, laid := [("unicode/utf8.acceptRanges", laid_unicode_utf8_acceptRanges), ("unicode/utf8.first", laid_unicode_utf8_first)] }
def FnExactMustReachSaid : Prop := fnExactMustReachRow.holds Tryd.pinned (OpenSpec.ofChange fnExactMustReachSpec)

/-- ITS FALSE NEIGHBOUR: 'it returns false'. Refute it at one input. -/
def fnExactMustReachWrong : ChangeSpec := { name := "fnExactMustReach", fn := fun _ => fun
  | [d1, d2] => { results := [.lit (.bool false)], args := [d1, d2] }
  | _ => none }
def FnExactMustReachWrongFalsely : Prop := fnExactMustReachRow.holds Tryd.pinned (OpenSpec.ofChange fnExactMustReachWrong)

/-- 'laws.FnOutcomes': WHATEVER THE INPUT: true; the input reads as it did. -/
def fnOutcomesSpec : ChangeSpec := { name := "fnOutcomes", fn := fun _ => fun
  | [d] => { results := [.lit (.bool true)], args := [d] }
  | _ => none }
def fnOutcomesRow : OpenClaim := { program := "ytpehimjngofnkaadoor", sum := "52a7d2910fc33994fbec2cac104f51974e9a3605d118206e9a0012e057def8dc", func := "loop.example/switchnetworks/laws.FnOutcomes", spec := "fnOutcomes", inPlace := ["internal/bytealg.CountString", "internal/bytealg.IndexByteString", "internal/bytealg.IndexString"], unfollowed := true, recurses := true, named := ["unicode/utf8.first", "unicode/utf8.acceptRanges", "internal/bytealg.MaxLen"], apart := false, laid := [("unicode/utf8.acceptRanges", laid_unicode_utf8_acceptRanges), ("unicode/utf8.first", laid_unicode_utf8_first)] }
def FnOutcomesSaid : Prop := fnOutcomesRow.holds Tryd.pinned (OpenSpec.ofChange fnOutcomesSpec)

/-- ITS FALSE NEIGHBOUR: 'it returns false'. Refute it at one input. -/
def fnOutcomesWrong : ChangeSpec := { name := "fnOutcomes", fn := fun _ => fun
  | [d] => { results := [.lit (.bool false)], args := [d] }
  | _ => none }
def FnOutcomesWrongFalsely : Prop := fnOutcomesRow.holds Tryd.pinned (OpenSpec.ofChange fnOutcomesWrong)

/-- 'laws.FnAttractors': WHATEVER THE INPUT: true; the input reads as it did. -/
def fnAttractorsSpec : ChangeSpec := { name := "fnAttractors", fn := fun _ => fun
  | [d] => { results := [.lit (.bool true)], args := [d] }
  | _ => none }
def fnAttractorsRow : OpenClaim := { program := "ytpehimjngofnkaadoor", sum := "52a7d2910fc33994fbec2cac104f51974e9a3605d118206e9a0012e057def8dc", func := "loop.example/switchnetworks/laws.FnAttractors", spec := "fnAttractors", inPlace := ["internal/bytealg.CountString", "internal/bytealg.IndexByteString", "internal/bytealg.IndexString"], unfollowed := true, recurses := true, named := ["unicode/utf8.first", "unicode/utf8.acceptRanges", "internal/bytealg.MaxLen"], apart := false, laid := [("unicode/utf8.acceptRanges", laid_unicode_utf8_acceptRanges), ("unicode/utf8.first", laid_unicode_utf8_first)] }
def FnAttractorsSaid : Prop := fnAttractorsRow.holds Tryd.pinned (OpenSpec.ofChange fnAttractorsSpec)

/-- ITS FALSE NEIGHBOUR: 'it returns false'. Refute it at one input. -/
def fnAttractorsWrong : ChangeSpec := { name := "fnAttractors", fn := fun _ => fun
  | [d] => { results := [.lit (.bool false)], args := [d] }
  | _ => none }
def FnAttractorsWrongFalsely : Prop := fnAttractorsRow.holds Tryd.pinned (OpenSpec.ofChange fnAttractorsWrong)

/-- 'laws.FnSteady': WHATEVER THE INPUT: true; the input reads as it did. -/
def fnSteadySpec : ChangeSpec := { name := "fnSteady", fn := fun _ => fun
  | [d] => { results := [.lit (.bool true)], args := [d] }
  | _ => none }
def fnSteadyRow : OpenClaim := { program := "ytpehimjngofnkaadoor", sum := "52a7d2910fc33994fbec2cac104f51974e9a3605d118206e9a0012e057def8dc", func := "loop.example/switchnetworks/laws.FnSteady", spec := "fnSteady", inPlace := ["internal/bytealg.CountString", "internal/bytealg.IndexByteString", "internal/bytealg.IndexString"], unfollowed := true, recurses := true, named := ["unicode/utf8.first", "unicode/utf8.acceptRanges", "internal/bytealg.MaxLen"], apart := false, laid := [("unicode/utf8.acceptRanges", laid_unicode_utf8_acceptRanges), ("unicode/utf8.first", laid_unicode_utf8_first)] }
def FnSteadySaid : Prop := fnSteadyRow.holds Tryd.pinned (OpenSpec.ofChange fnSteadySpec)

/-- ITS FALSE NEIGHBOUR: 'it returns false'. Refute it at one input. -/
def fnSteadyWrong : ChangeSpec := { name := "fnSteady", fn := fun _ => fun
  | [d] => { results := [.lit (.bool false)], args := [d] }
  | _ => none }
def FnSteadyWrongFalsely : Prop := fnSteadyRow.holds Tryd.pinned (OpenSpec.ofChange fnSteadyWrong)

/-- 'laws.FnExactRenameNetwork': WHATEVER THE INPUT: true; the input reads as it did. -/
def fnExactRenameNetworkSpec : ChangeSpec := { name := "fnExactRenameNetwork", fn := fun _ => fun
  | [d1, d2] => { results := [.lit (.bool true)], args := [d1, d2] }
  | _ => none }
def fnExactRenameNetworkRow : OpenClaim := { program := "ytpehimjngofnkaadoor", sum := "52a7d2910fc33994fbec2cac104f51974e9a3605d118206e9a0012e057def8dc", func := "loop.example/switchnetworks/laws.FnExactRenameNetwork", spec := "fnExactRenameNetwork", inPlace := ["internal/bytealg.CountString", "internal/bytealg.IndexByteString", "internal/bytealg.IndexString", "internal/abi.NoEscape", "internal/bytealg.MakeNoZero"], unfollowed := true, recurses := true, named := ["unicode/utf8.first", "unicode/utf8.acceptRanges", "internal/bytealg.MaxLen"], apart := false, laid := [("unicode/utf8.acceptRanges", laid_unicode_utf8_acceptRanges), ("unicode/utf8.first", laid_unicode_utf8_first)] }
def FnExactRenameNetworkSaid : Prop := fnExactRenameNetworkRow.holds Tryd.pinned (OpenSpec.ofChange fnExactRenameNetworkSpec)

/-- ITS FALSE NEIGHBOUR: 'it returns false'. Refute it at one input. -/
def fnExactRenameNetworkWrong : ChangeSpec := { name := "fnExactRenameNetwork", fn := fun _ => fun
  | [d1, d2] => { results := [.lit (.bool false)], args := [d1, d2] }
  | _ => none }
def FnExactRenameNetworkWrongFalsely : Prop := fnExactRenameNetworkRow.holds Tryd.pinned (OpenSpec.ofChange fnExactRenameNetworkWrong)

/-- 'laws.FnRenameNetwork': WHATEVER THE INPUT: true; the input reads as it did. -/
def fnRenameNetworkSpec : ChangeSpec := { name := "fnRenameNetwork", fn := fun _ => fun
  | [d] => { results := [.lit (.bool true)], args := [d] }
  | _ => none }
def fnRenameNetworkRow : OpenClaim := { program := "ytpehimjngofnkaadoor", sum := "52a7d2910fc33994fbec2cac104f51974e9a3605d118206e9a0012e057def8dc", func := "loop.example/switchnetworks/laws.FnRenameNetwork", spec := "fnRenameNetwork", inPlace := ["internal/bytealg.CountString", "internal/bytealg.IndexByteString", "internal/bytealg.IndexString", "internal/abi.NoEscape", "internal/bytealg.MakeNoZero"], unfollowed := true, recurses := true, named := ["unicode/utf8.first", "unicode/utf8.acceptRanges", "internal/bytealg.MaxLen"], apart := false, laid := [("unicode/utf8.acceptRanges", laid_unicode_utf8_acceptRanges), ("unicode/utf8.first", laid_unicode_utf8_first)] }
def FnRenameNetworkSaid : Prop := fnRenameNetworkRow.holds Tryd.pinned (OpenSpec.ofChange fnRenameNetworkSpec)

/-- ITS FALSE NEIGHBOUR: 'it returns false'. Refute it at one input. -/
def fnRenameNetworkWrong : ChangeSpec := { name := "fnRenameNetwork", fn := fun _ => fun
  | [d] => { results := [.lit (.bool false)], args := [d] }
  | _ => none }
def FnRenameNetworkWrongFalsely : Prop := fnRenameNetworkRow.holds Tryd.pinned (OpenSpec.ofChange fnRenameNetworkWrong)

/-- 'laws.FnNetwork': WHATEVER THE INPUT: true; the input reads as it did. -/
def fnNetworkSpec : ChangeSpec := { name := "fnNetwork", fn := fun _ => fun
  | [d] => { results := [.lit (.bool true)], args := [d] }
  | _ => none }
def fnNetworkRow : OpenClaim := { program := "ytpehimjngofnkaadoor", sum := "52a7d2910fc33994fbec2cac104f51974e9a3605d118206e9a0012e057def8dc", func := "loop.example/switchnetworks/laws.FnNetwork", spec := "fnNetwork", inPlace := ["internal/bytealg.CountString", "internal/bytealg.IndexByteString", "internal/bytealg.IndexString", "internal/abi.NoEscape", "internal/bytealg.MakeNoZero"], unfollowed := true, recurses := true, named := ["unicode/utf8.first", "unicode/utf8.acceptRanges", "internal/bytealg.MaxLen"], apart := false, laid := [("unicode/utf8.acceptRanges", laid_unicode_utf8_acceptRanges), ("unicode/utf8.first", laid_unicode_utf8_first)] }
def FnNetworkSaid : Prop := fnNetworkRow.holds Tryd.pinned (OpenSpec.ofChange fnNetworkSpec)

/-- ITS FALSE NEIGHBOUR: 'it returns false'. Refute it at one input. -/
def fnNetworkWrong : ChangeSpec := { name := "fnNetwork", fn := fun _ => fun
  | [d] => { results := [.lit (.bool false)], args := [d] }
  | _ => none }
def FnNetworkWrongFalsely : Prop := fnNetworkRow.holds Tryd.pinned (OpenSpec.ofChange fnNetworkWrong)

/-- 'laws.FnExactPathTo': WHATEVER THE INPUT: true; the input reads as it did. -/
def fnExactPathToSpec : ChangeSpec := { name := "fnExactPathTo", fn := fun _ => fun
  | [d1, d2, d3] => { results := [.lit (.bool true)], args := [d1, d2, d3] }
  | _ => none }
def fnExactPathToRow : OpenClaim := { program := "ytpehimjngofnkaadoor", sum := "52a7d2910fc33994fbec2cac104f51974e9a3605d118206e9a0012e057def8dc", func := "loop.example/switchnetworks/laws.FnExactPathTo", spec := "fnExactPathTo", inPlace := ["internal/bytealg.CountString", "internal/bytealg.IndexByteString", "internal/bytealg.IndexString"], unfollowed := true, recurses := true, named := ["unicode/utf8.first", "unicode/utf8.acceptRanges", "internal/bytealg.MaxLen"], apart := false, laid := [("unicode/utf8.acceptRanges", laid_unicode_utf8_acceptRanges), ("unicode/utf8.first", laid_unicode_utf8_first)] }
def FnExactPathToSaid : Prop := fnExactPathToRow.holds Tryd.pinned (OpenSpec.ofChange fnExactPathToSpec)

/-- ITS FALSE NEIGHBOUR: 'it returns false'. Refute it at one input. -/
def fnExactPathToWrong : ChangeSpec := { name := "fnExactPathTo", fn := fun _ => fun
  | [d1, d2, d3] => { results := [.lit (.bool false)], args := [d1, d2, d3] }
  | _ => none }
def FnExactPathToWrongFalsely : Prop := fnExactPathToRow.holds Tryd.pinned (OpenSpec.ofChange fnExactPathToWrong)

/-- 'laws.FnPath': WHATEVER THE INPUT: true; the input reads as it did. -/
def fnPathSpec : ChangeSpec := { name := "fnPath", fn := fun _ => fun
  | [d] => { results := [.lit (.bool true)], args := [d] }
  | _ => none }
def fnPathRow : OpenClaim := { program := "ytpehimjngofnkaadoor", sum := "52a7d2910fc33994fbec2cac104f51974e9a3605d118206e9a0012e057def8dc", func := "loop.example/switchnetworks/laws.FnPath", spec := "fnPath", inPlace := ["internal/bytealg.CountString", "internal/bytealg.IndexByteString", "internal/bytealg.IndexString"], unfollowed := true, recurses := true, named := ["unicode/utf8.first", "unicode/utf8.acceptRanges", "internal/bytealg.MaxLen"], apart := false, laid := [("unicode/utf8.acceptRanges", laid_unicode_utf8_acceptRanges), ("unicode/utf8.first", laid_unicode_utf8_first)] }
def FnPathSaid : Prop := fnPathRow.holds Tryd.pinned (OpenSpec.ofChange fnPathSpec)

/-- ITS FALSE NEIGHBOUR: 'it returns false'. Refute it at one input. -/
def fnPathWrong : ChangeSpec := { name := "fnPath", fn := fun _ => fun
  | [d] => { results := [.lit (.bool false)], args := [d] }
  | _ => none }
def FnPathWrongFalsely : Prop := fnPathRow.holds Tryd.pinned (OpenSpec.ofChange fnPathWrong)

/- THE SECOND FORM. 'bulk': how many values and letters a reading holds, each counted each time it is reached (what is shared counts as often as it is met; a slice's spare places count too). A statement '..UptoSaid' is the law's where the arguments, and the package variables that the reading takes, are together of bulk at most 1048576: NARROWER than '..Said'. Prove '..Said' where nothing that the law and all that it calls make is longer than what came in: it says more and counts as full. Else prove '..UptoSaid'. A law counts once. -/
mutual
def uptoBulk {H : Type} : DataW H → Nat
  | .lit (.string bytes) => bytes.length + 1
  | .lit _ => 1
  | .nil => 1
  | .ptr d => uptoBulk d + 1
  | .slice elems spare => uptoBulkAll elems + uptoBulkAll spare + 1
  | .agg parts => uptoBulkAll parts + 1
  | .iface _ d => uptoBulk d + 1
  | .map entries => uptoBulkEntries entries + 1
  | .held _ => 1
def uptoBulkAll {H : Type} : List (DataW H) → Nat
  | [] => 0
  | d :: r => uptoBulk d + uptoBulkAll r
def uptoBulkEntries {H : Type} : List (Lit × DataW H) → Nat
  | [] => 0
  | x :: r => uptoBulkEntry x + uptoBulkEntries r
def uptoBulkEntry {H : Type} : Lit × DataW H → Nat
  | (.string bytes, d) => bytes.length + uptoBulk d + 1
  | (_, d) => uptoBulk d + 1
 end
def uptoSmall : (H : Type) → List (DataW H) → Bool := fun _ ds => decide (uptoBulkAll ds ≤ 1048576)
def OpenSpec.upto (s : _root_.Go.ChangeSpec) : _root_.Go.OpenSpec := { _root_.Go.OpenSpec.ofChange s with cond := some uptoSmall }

/-- 'laws.FnExactMayReach', WHERE WHAT IT READS IS OF BULK AT MOST 1048576: true; the input reads as it did. -/
def fnExactMayReachUptoRow : OpenClaim := { program := "ytpehimjngofnkaadoor", sum := "52a7d2910fc33994fbec2cac104f51974e9a3605d118206e9a0012e057def8dc", func := "loop.example/switchnetworks/laws.FnExactMayReach", spec := "fnExactMayReach", inPlace := ["internal/bytealg.CountString", "internal/bytealg.IndexByteString", "internal/bytealg.IndexString"], unfollowed := true, recurses := true, named := ["unicode/utf8.first", "unicode/utf8.acceptRanges", "internal/bytealg.MaxLen"], apart := false, laid := [("unicode/utf8.acceptRanges", laid_unicode_utf8_acceptRanges), ("unicode/utf8.first", laid_unicode_utf8_first)], narrowed := true }
def FnExactMayReachUptoSaid : Prop := fnExactMayReachUptoRow.holds Tryd.pinned (OpenSpec.upto fnExactMayReachSpec)

/-- 'laws.FnExactAttractorsOf', WHERE WHAT IT READS IS OF BULK AT MOST 1048576: true; the input reads as it did. -/
def fnExactAttractorsOfUptoRow : OpenClaim := { program := "ytpehimjngofnkaadoor", sum := "52a7d2910fc33994fbec2cac104f51974e9a3605d118206e9a0012e057def8dc", func := "loop.example/switchnetworks/laws.FnExactAttractorsOf", spec := "fnExactAttractorsOf", inPlace := ["internal/bytealg.CountString", "internal/bytealg.IndexByteString", "internal/bytealg.IndexString"], unfollowed := true, recurses := true, named := ["unicode/utf8.first", "unicode/utf8.acceptRanges", "internal/bytealg.MaxLen"], apart := false, laid := [("unicode/utf8.acceptRanges", laid_unicode_utf8_acceptRanges), ("unicode/utf8.first", laid_unicode_utf8_first)], narrowed := true }
def FnExactAttractorsOfUptoSaid : Prop := fnExactAttractorsOfUptoRow.holds Tryd.pinned (OpenSpec.upto fnExactAttractorsOfSpec)

/-- 'laws.FnExactOutcomesOf', WHERE WHAT IT READS IS OF BULK AT MOST 1048576: true; the input reads as it did. -/
def fnExactOutcomesOfUptoRow : OpenClaim := { program := "ytpehimjngofnkaadoor", sum := "52a7d2910fc33994fbec2cac104f51974e9a3605d118206e9a0012e057def8dc", func := "loop.example/switchnetworks/laws.FnExactOutcomesOf", spec := "fnExactOutcomesOf", inPlace := ["internal/bytealg.CountString", "internal/bytealg.IndexByteString", "internal/bytealg.IndexString"], unfollowed := true, recurses := true, named := ["unicode/utf8.first", "unicode/utf8.acceptRanges", "internal/bytealg.MaxLen"], apart := false, laid := [("unicode/utf8.acceptRanges", laid_unicode_utf8_acceptRanges), ("unicode/utf8.first", laid_unicode_utf8_first)], narrowed := true }
def FnExactOutcomesOfUptoSaid : Prop := fnExactOutcomesOfUptoRow.holds Tryd.pinned (OpenSpec.upto fnExactOutcomesOfSpec)

/-- 'laws.FnExactMustReach', WHERE WHAT IT READS IS OF BULK AT MOST 1048576: true; the input reads as it did. -/
def fnExactMustReachUptoRow : OpenClaim := { program := "ytpehimjngofnkaadoor", sum := "52a7d2910fc33994fbec2cac104f51974e9a3605d118206e9a0012e057def8dc", func := "loop.example/switchnetworks/laws.FnExactMustReach", spec := "fnExactMustReach", inPlace := ["internal/bytealg.CountString", "internal/bytealg.IndexByteString", "internal/bytealg.IndexString"], unfollowed := true, recurses := true, named := ["unicode/utf8.first", "unicode/utf8.acceptRanges", "internal/bytealg.MaxLen"], apart := false, laid := [("unicode/utf8.acceptRanges", laid_unicode_utf8_acceptRanges), ("unicode/utf8.first", laid_unicode_utf8_first)], narrowed := true }
def FnExactMustReachUptoSaid : Prop := fnExactMustReachUptoRow.holds Tryd.pinned (OpenSpec.upto fnExactMustReachSpec)

/-- 'laws.FnOutcomes', WHERE WHAT IT READS IS OF BULK AT MOST 1048576: true; the input reads as it did. -/
def fnOutcomesUptoRow : OpenClaim := { program := "ytpehimjngofnkaadoor", sum := "52a7d2910fc33994fbec2cac104f51974e9a3605d118206e9a0012e057def8dc", func := "loop.example/switchnetworks/laws.FnOutcomes", spec := "fnOutcomes", inPlace := ["internal/bytealg.CountString", "internal/bytealg.IndexByteString", "internal/bytealg.IndexString"], unfollowed := true, recurses := true, named := ["unicode/utf8.first", "unicode/utf8.acceptRanges", "internal/bytealg.MaxLen"], apart := false, laid := [("unicode/utf8.acceptRanges", laid_unicode_utf8_acceptRanges), ("unicode/utf8.first", laid_unicode_utf8_first)], narrowed := true }
def FnOutcomesUptoSaid : Prop := fnOutcomesUptoRow.holds Tryd.pinned (OpenSpec.upto fnOutcomesSpec)

/-- 'laws.FnAttractors', WHERE WHAT IT READS IS OF BULK AT MOST 1048576: true; the input reads as it did. -/
def fnAttractorsUptoRow : OpenClaim := { program := "ytpehimjngofnkaadoor", sum := "52a7d2910fc33994fbec2cac104f51974e9a3605d118206e9a0012e057def8dc", func := "loop.example/switchnetworks/laws.FnAttractors", spec := "fnAttractors", inPlace := ["internal/bytealg.CountString", "internal/bytealg.IndexByteString", "internal/bytealg.IndexString"], unfollowed := true, recurses := true, named := ["unicode/utf8.first", "unicode/utf8.acceptRanges", "internal/bytealg.MaxLen"], apart := false, laid := [("unicode/utf8.acceptRanges", laid_unicode_utf8_acceptRanges), ("unicode/utf8.first", laid_unicode_utf8_first)], narrowed := true }
def FnAttractorsUptoSaid : Prop := fnAttractorsUptoRow.holds Tryd.pinned (OpenSpec.upto fnAttractorsSpec)

/-- 'laws.FnSteady', WHERE WHAT IT READS IS OF BULK AT MOST 1048576: true; the input reads as it did. -/
def fnSteadyUptoRow : OpenClaim := { program := "ytpehimjngofnkaadoor", sum := "52a7d2910fc33994fbec2cac104f51974e9a3605d118206e9a0012e057def8dc", func := "loop.example/switchnetworks/laws.FnSteady", spec := "fnSteady", inPlace := ["internal/bytealg.CountString", "internal/bytealg.IndexByteString", "internal/bytealg.IndexString"], unfollowed := true, recurses := true, named := ["unicode/utf8.first", "unicode/utf8.acceptRanges", "internal/bytealg.MaxLen"], apart := false, laid := [("unicode/utf8.acceptRanges", laid_unicode_utf8_acceptRanges), ("unicode/utf8.first", laid_unicode_utf8_first)], narrowed := true }
def FnSteadyUptoSaid : Prop := fnSteadyUptoRow.holds Tryd.pinned (OpenSpec.upto fnSteadySpec)

/-- 'laws.FnExactRenameNetwork', WHERE WHAT IT READS IS OF BULK AT MOST 1048576: true; the input reads as it did. -/
def fnExactRenameNetworkUptoRow : OpenClaim := { program := "ytpehimjngofnkaadoor", sum := "52a7d2910fc33994fbec2cac104f51974e9a3605d118206e9a0012e057def8dc", func := "loop.example/switchnetworks/laws.FnExactRenameNetwork", spec := "fnExactRenameNetwork", inPlace := ["internal/bytealg.CountString", "internal/bytealg.IndexByteString", "internal/bytealg.IndexString", "internal/abi.NoEscape", "internal/bytealg.MakeNoZero"], unfollowed := true, recurses := true, named := ["unicode/utf8.first", "unicode/utf8.acceptRanges", "internal/bytealg.MaxLen"], apart := false, laid := [("unicode/utf8.acceptRanges", laid_unicode_utf8_acceptRanges), ("unicode/utf8.first", laid_unicode_utf8_first)], narrowed := true }
def FnExactRenameNetworkUptoSaid : Prop := fnExactRenameNetworkUptoRow.holds Tryd.pinned (OpenSpec.upto fnExactRenameNetworkSpec)

/-- 'laws.FnRenameNetwork', WHERE WHAT IT READS IS OF BULK AT MOST 1048576: true; the input reads as it did. -/
def fnRenameNetworkUptoRow : OpenClaim := { program := "ytpehimjngofnkaadoor", sum := "52a7d2910fc33994fbec2cac104f51974e9a3605d118206e9a0012e057def8dc", func := "loop.example/switchnetworks/laws.FnRenameNetwork", spec := "fnRenameNetwork", inPlace := ["internal/bytealg.CountString", "internal/bytealg.IndexByteString", "internal/bytealg.IndexString", "internal/abi.NoEscape", "internal/bytealg.MakeNoZero"], unfollowed := true, recurses := true, named := ["unicode/utf8.first", "unicode/utf8.acceptRanges", "internal/bytealg.MaxLen"], apart := false, laid := [("unicode/utf8.acceptRanges", laid_unicode_utf8_acceptRanges), ("unicode/utf8.first", laid_unicode_utf8_first)], narrowed := true }
def FnRenameNetworkUptoSaid : Prop := fnRenameNetworkUptoRow.holds Tryd.pinned (OpenSpec.upto fnRenameNetworkSpec)

/-- 'laws.FnNetwork', WHERE WHAT IT READS IS OF BULK AT MOST 1048576: true; the input reads as it did. -/
def fnNetworkUptoRow : OpenClaim := { program := "ytpehimjngofnkaadoor", sum := "52a7d2910fc33994fbec2cac104f51974e9a3605d118206e9a0012e057def8dc", func := "loop.example/switchnetworks/laws.FnNetwork", spec := "fnNetwork", inPlace := ["internal/bytealg.CountString", "internal/bytealg.IndexByteString", "internal/bytealg.IndexString", "internal/abi.NoEscape", "internal/bytealg.MakeNoZero"], unfollowed := true, recurses := true, named := ["unicode/utf8.first", "unicode/utf8.acceptRanges", "internal/bytealg.MaxLen"], apart := false, laid := [("unicode/utf8.acceptRanges", laid_unicode_utf8_acceptRanges), ("unicode/utf8.first", laid_unicode_utf8_first)], narrowed := true }
def FnNetworkUptoSaid : Prop := fnNetworkUptoRow.holds Tryd.pinned (OpenSpec.upto fnNetworkSpec)

/-- 'laws.FnExactPathTo', WHERE WHAT IT READS IS OF BULK AT MOST 1048576: true; the input reads as it did. -/
def fnExactPathToUptoRow : OpenClaim := { program := "ytpehimjngofnkaadoor", sum := "52a7d2910fc33994fbec2cac104f51974e9a3605d118206e9a0012e057def8dc", func := "loop.example/switchnetworks/laws.FnExactPathTo", spec := "fnExactPathTo", inPlace := ["internal/bytealg.CountString", "internal/bytealg.IndexByteString", "internal/bytealg.IndexString"], unfollowed := true, recurses := true, named := ["unicode/utf8.first", "unicode/utf8.acceptRanges", "internal/bytealg.MaxLen"], apart := false, laid := [("unicode/utf8.acceptRanges", laid_unicode_utf8_acceptRanges), ("unicode/utf8.first", laid_unicode_utf8_first)], narrowed := true }
def FnExactPathToUptoSaid : Prop := fnExactPathToUptoRow.holds Tryd.pinned (OpenSpec.upto fnExactPathToSpec)

/-- 'laws.FnPath', WHERE WHAT IT READS IS OF BULK AT MOST 1048576: true; the input reads as it did. -/
def fnPathUptoRow : OpenClaim := { program := "ytpehimjngofnkaadoor", sum := "52a7d2910fc33994fbec2cac104f51974e9a3605d118206e9a0012e057def8dc", func := "loop.example/switchnetworks/laws.FnPath", spec := "fnPath", inPlace := ["internal/bytealg.CountString", "internal/bytealg.IndexByteString", "internal/bytealg.IndexString"], unfollowed := true, recurses := true, named := ["unicode/utf8.first", "unicode/utf8.acceptRanges", "internal/bytealg.MaxLen"], apart := false, laid := [("unicode/utf8.acceptRanges", laid_unicode_utf8_acceptRanges), ("unicode/utf8.first", laid_unicode_utf8_first)], narrowed := true }
def FnPathUptoSaid : Prop := fnPathUptoRow.holds Tryd.pinned (OpenSpec.upto fnPathSpec)

end Rows
end Go.Proofs.YtpehimjngofnkaaDoor
