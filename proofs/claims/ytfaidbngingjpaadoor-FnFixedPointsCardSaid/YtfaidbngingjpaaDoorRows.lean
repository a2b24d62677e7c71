/-
  NARROWER THAN 'FOR EVERY INPUT', by the rows' own cells (each row's printed sentence says how): FnExactUnreachedOf: laid · FnRenameNetwork: laid · FnExactIsSteady: laid · FnExactIsTrap: laid · FnExactReachableFrom: laid · FnExactTurnNetwork: laid · FnExactSpreadTerm: laid · FnExactCycleOf: laid · FnExactTrapsOf: laid · FnFixedPoints: laid · FnExactBasinOf: laid · FnExactPathTo: laid.
  DERIVED. THE GIVEN ROWS OF THIS SEAT. 12 by the template 'for every input the law returns true; each argument reads behind the call as it read before'; 0 by the template 'total and deterministic' (their statements: YtfaidbngingjpaaDoorTotals.lean).
  GIVEN WITH THE SEED: the statements are not yours to turn. If you find one false, say at which input.
  Laid BY PROGRAM, IN A SANDBOX (cutbox-rows.mjs): the forced cells as the released guide's own fill.sh prints them over the translation 93be6213a9886834… (all of the seat's roots in one cut). By AI agents, Wed Nov 11 2026. No macro, syntax, notation, axiom, sorry.
-/
import Derived.Test.YtfaidbngingjpaaDoorChecked
import GoSem.PinnedTables
import GoSem.Claim
import GoSem.ClaimJoined
import GoSem.ClaimMapViews
import Derived.JoinedTies
import Derived.KernelRfl
namespace Go.Proofs.YtfaidbngingjpaaDoor
/- THE CELL 'sum', in the pinned program and in every row, IS THE sha256 OF THE DUMP (.gsa) THAT YtfaidbngingjpaaDoorProg.lean LOADS. Nothing in Lean hashes anything: it is a label: what it is worth is what the hold of that sum in a sandbox is worth. -/
noncomputable def Tryd.pinned : Pinned := { name := "ytfaidbngingjpaadoor", sum := "93be6213a98868341a49dcc298c65e992f9dbe394c9c35dda4a183cf66f93b09", checked := Tryd.checked }
namespace Rows
def none {H : Type} : Left H := { results := [], args := [] }

/- WHAT THE LISTED PACKAGE-LEVEL VARIABLES READ AS WHEN THE CALL BEGINS. Each datum BY PROGRAM (the guide's laid-datum.mjs) off the statement by which the dump's own 'gosem.cut.vars' lays the variable. In a bare row this is a premise. The card (YtfaidbngingjpaaDoorCards.lean) ties it to the program's text. -/
def laid_unicode_utf8_acceptRanges {H : Type} : DataW H := .agg [.agg [.lit (.int .u8 128), .lit (.int .u8 191)], .agg [.lit (.int .u8 160), .lit (.int .u8 191)], .agg [.lit (.int .u8 128), .lit (.int .u8 159)], .agg [.lit (.int .u8 144), .lit (.int .u8 191)], .agg [.lit (.int .u8 128), .lit (.int .u8 143)], .agg [.lit (.int .u8 0), .lit (.int .u8 0)], .agg [.lit (.int .u8 0), .lit (.int .u8 0)], .agg [.lit (.int .u8 0), .lit (.int .u8 0)], .agg [.lit (.int .u8 0), .lit (.int .u8 0)], .agg [.lit (.int .u8 0), .lit (.int .u8 0)], .agg [.lit (.int .u8 0), .lit (.int .u8 0)], .agg [.lit (.int .u8 0), .lit (.int .u8 0)], .agg [.lit (.int .u8 0), .lit (.int .u8 0)], .agg [.lit (.int .u8 0), .lit (.int .u8 0)], .agg [.lit (.int .u8 0), .lit (.int .u8 0)], .agg [.lit (.int .u8 0), .lit (.int .u8 0)]]
/-- One of Go's own tables, pinned by name: the form's constant. -/
def laid_unicode_utf8_first : DataW Unit := Go.Pinned.utf8First

/-- 'laws.FnExactUnreachedOf': WHATEVER THE INPUT: true; the input reads as it did. -/
def fnExactUnreachedOfSpec : ChangeSpec := { name := "fnExactUnreachedOf", fn := fun _ => fun
  | [d] => { results := [.lit (.bool true)], args := [d] }
  | _ => none }
def fnExactUnreachedOfRow : OpenClaim := { program := "ytfaidbngingjpaadoor", sum := "93be6213a98868341a49dcc298c65e992f9dbe394c9c35dda4a183cf66f93b09", func := "loop.example/switchnetworks/laws.FnExactUnreachedOf", spec := "fnExactUnreachedOf", inPlace := ["internal/bytealg.CountString", "internal/bytealg.IndexByteString", "internal/bytealg.IndexString"], unfollowed := true, recurses := true, named := ["unicode/utf8.first", "unicode/utf8.acceptRanges", "internal/bytealg.MaxLen"], apart := false, laid := [("unicode/utf8.acceptRanges", laid_unicode_utf8_acceptRanges), ("unicode/utf8.first", laid_unicode_utf8_first)] }
def FnExactUnreachedOfSaid : Prop := fnExactUnreachedOfRow.holds Tryd.pinned (OpenSpec.ofChange fnExactUnreachedOfSpec)

/-- ITS FALSE NEIGHBOUR: 'it returns false'. Refute it at one input. -/
def fnExactUnreachedOfWrong : ChangeSpec := { name := "fnExactUnreachedOf", fn := fun _ => fun
  | [d] => { results := [.lit (.bool false)], args := [d] }
  | _ => none }
def FnExactUnreachedOfWrongFalsely : Prop := fnExactUnreachedOfRow.holds Tryd.pinned (OpenSpec.ofChange fnExactUnreachedOfWrong)

/-- 'laws.FnRenameNetwork': WHATEVER THE INPUT: true; the input reads as it did. -/
def fnRenameNetworkSpec : ChangeSpec := { name := "fnRenameNetwork", fn := fun _ => fun
  | [d] => { results := [.lit (.bool true)], args := [d] }
  | _ => none }
def fnRenameNetworkRow : OpenClaim := { program := "ytfaidbngingjpaadoor", sum := "93be6213a98868341a49dcc298c65e992f9dbe394c9c35dda4a183cf66f93b09", func := "loop.example/switchnetworks/laws.FnRenameNetwork", spec := "fnRenameNetwork", inPlace := ["internal/bytealg.CountString", "internal/bytealg.IndexByteString", "internal/bytealg.IndexString", "internal/abi.NoEscape", "internal/bytealg.MakeNoZero"], unfollowed := true, recurses := true, named := ["unicode/utf8.first", "unicode/utf8.acceptRanges", "internal/bytealg.MaxLen"], apart := false, laid := [("unicode/utf8.acceptRanges", laid_unicode_utf8_acceptRanges), ("unicode/utf8.first", laid_unicode_utf8_first)] }
def FnRenameNetworkSaid : Prop := fnRenameNetworkRow.holds Tryd.pinned (OpenSpec.ofChange fnRenameNetworkSpec)

/-- ITS FALSE NEIGHBOUR: 'it returns false'. Refute it at one input. -/
def fnRenameNetworkWrong : ChangeSpec := { name := "fnRenameNetwork", fn := fun _ => fun
  | [d] => { results := [.lit (.bool false)], args := [d] }
  | _ => none }
def FnRenameNetworkWrongFalsely : Prop := fnRenameNetworkRow.holds Tryd.pinned (OpenSpec.ofChange fnRenameNetworkWrong)

/-- 'laws.FnExactIsSteady': WHATEVER THE INPUT: true; the input reads as it did. -/
def fnExactIsSteadySpec : ChangeSpec := { name := "fnExactIsSteady", fn := fun _ => fun
  | [d1, d2] => { results := [.lit (.bool true)], args := [d1, d2] }
  | _ => none }
def fnExactIsSteadyRow : OpenClaim := { program := "ytfaidbngingjpaadoor", sum := "93be6213a98868341a49dcc298c65e992f9dbe394c9c35dda4a183cf66f93b09", func := "loop.example/switchnetworks/laws.FnExactIsSteady", spec := "fnExactIsSteady", inPlace := ["internal/bytealg.CountString", "internal/bytealg.IndexByteString", "internal/bytealg.IndexString"], unfollowed := true, recurses := true, named := ["unicode/utf8.first", "unicode/utf8.acceptRanges", "internal/bytealg.MaxLen"], apart := false, laid := [("unicode/utf8.acceptRanges", laid_unicode_utf8_acceptRanges), ("unicode/utf8.first", laid_unicode_utf8_first)] }
def FnExactIsSteadySaid : Prop := fnExactIsSteadyRow.holds Tryd.pinned (OpenSpec.ofChange fnExactIsSteadySpec)

/-- ITS FALSE NEIGHBOUR: 'it returns false'. Refute it at one input. -/
def fnExactIsSteadyWrong : ChangeSpec := { name := "fnExactIsSteady", fn := fun _ => fun
  | [d1, d2] => { results := [.lit (.bool false)], args := [d1, d2] }
  | _ => none }
def FnExactIsSteadyWrongFalsely : Prop := fnExactIsSteadyRow.holds Tryd.pinned (OpenSpec.ofChange fnExactIsSteadyWrong)

/-- 'laws.FnExactIsTrap': WHATEVER THE INPUT: true; the input reads as it did. -/
def fnExactIsTrapSpec : ChangeSpec := { name := "fnExactIsTrap", fn := fun _ => fun
  | [d1, d2] => { results := [.lit (.bool true)], args := [d1, d2] }
  | _ => none }
def fnExactIsTrapRow : OpenClaim := { program := "ytfaidbngingjpaadoor", sum := "93be6213a98868341a49dcc298c65e992f9dbe394c9c35dda4a183cf66f93b09", func := "loop.example/switchnetworks/laws.FnExactIsTrap", spec := "fnExactIsTrap", inPlace := ["internal/bytealg.CountString", "internal/bytealg.IndexByteString", "internal/bytealg.IndexString"], unfollowed := true, recurses := true, named := ["unicode/utf8.first", "unicode/utf8.acceptRanges", "internal/bytealg.MaxLen"], apart := false, laid := [("unicode/utf8.acceptRanges", laid_unicode_utf8_acceptRanges), ("unicode/utf8.first", laid_unicode_utf8_first)] }
def FnExactIsTrapSaid : Prop := fnExactIsTrapRow.holds Tryd.pinned (OpenSpec.ofChange fnExactIsTrapSpec)

/-- ITS FALSE NEIGHBOUR: 'it returns false'. Refute it at one input. -/
def fnExactIsTrapWrong : ChangeSpec := { name := "fnExactIsTrap", fn := fun _ => fun
  | [d1, d2] => { results := [.lit (.bool false)], args := [d1, d2] }
  | _ => none }
def FnExactIsTrapWrongFalsely : Prop := fnExactIsTrapRow.holds Tryd.pinned (OpenSpec.ofChange fnExactIsTrapWrong)

/-- 'laws.FnExactReachableFrom': WHATEVER THE INPUT: true; the input reads as it did. -/
def fnExactReachableFromSpec : ChangeSpec := { name := "fnExactReachableFrom", fn := fun _ => fun
  | [d1, d2] => { results := [.lit (.bool true)], args := [d1, d2] }
  | _ => none }
def fnExactReachableFromRow : OpenClaim := { program := "ytfaidbngingjpaadoor", sum := "93be6213a98868341a49dcc298c65e992f9dbe394c9c35dda4a183cf66f93b09", func := "loop.example/switchnetworks/laws.FnExactReachableFrom", spec := "fnExactReachableFrom", inPlace := ["internal/bytealg.CountString", "internal/bytealg.IndexByteString", "internal/bytealg.IndexString"], unfollowed := true, recurses := true, named := ["unicode/utf8.first", "unicode/utf8.acceptRanges", "internal/bytealg.MaxLen"], apart := false, laid := [("unicode/utf8.acceptRanges", laid_unicode_utf8_acceptRanges), ("unicode/utf8.first", laid_unicode_utf8_first)] }
def FnExactReachableFromSaid : Prop := fnExactReachableFromRow.holds Tryd.pinned (OpenSpec.ofChange fnExactReachableFromSpec)

/-- ITS FALSE NEIGHBOUR: 'it returns false'. Refute it at one input. -/
def fnExactReachableFromWrong : ChangeSpec := { name := "fnExactReachableFrom", fn := fun _ => fun
  | [d1, d2] => { results := [.lit (.bool false)], args := [d1, d2] }
  | _ => none }
def FnExactReachableFromWrongFalsely : Prop := fnExactReachableFromRow.holds Tryd.pinned (OpenSpec.ofChange fnExactReachableFromWrong)

/-- 'laws.FnExactTurnNetwork': WHATEVER THE INPUT: true; the input reads as it did. -/
def fnExactTurnNetworkSpec : ChangeSpec := { name := "fnExactTurnNetwork", fn := fun _ => fun
  | [d1, d2] => { results := [.lit (.bool true)], args := [d1, d2] }
  | _ => none }
def fnExactTurnNetworkRow : OpenClaim := { program := "ytfaidbngingjpaadoor", sum := "93be6213a98868341a49dcc298c65e992f9dbe394c9c35dda4a183cf66f93b09", func := "loop.example/switchnetworks/laws.FnExactTurnNetwork", spec := "fnExactTurnNetwork", inPlace := ["internal/bytealg.CountString", "internal/bytealg.IndexByteString", "internal/bytealg.IndexString", "internal/abi.NoEscape", "internal/bytealg.MakeNoZero"], unfollowed := true, recurses := true, named := ["unicode/utf8.first", "unicode/utf8.acceptRanges", "internal/bytealg.MaxLen"], apart := false, laid := [("unicode/utf8.acceptRanges", laid_unicode_utf8_acceptRanges), ("unicode/utf8.first", laid_unicode_utf8_first)] }
def FnExactTurnNetworkSaid : Prop := fnExactTurnNetworkRow.holds Tryd.pinned (OpenSpec.ofChange fnExactTurnNetworkSpec)

/-- ITS FALSE NEIGHBOUR: 'it returns false'. Refute it at one input. -/
def fnExactTurnNetworkWrong : ChangeSpec := { name := "fnExactTurnNetwork", fn := fun _ => fun
  | [d1, d2] => { results := [.lit (.bool false)], args := [d1, d2] }
  | _ => none }
def FnExactTurnNetworkWrongFalsely : Prop := fnExactTurnNetworkRow.holds Tryd.pinned (OpenSpec.ofChange fnExactTurnNetworkWrong)

/-- 'laws.FnExactSpreadTerm': WHATEVER THE INPUT: true; the input reads as it did. -/
def fnExactSpreadTermSpec : ChangeSpec := { name := "fnExactSpreadTerm", fn := fun _ => fun
  | [d1, d2] => { results := [.lit (.bool true)], args := [d1, d2] }
  | _ => none }
def fnExactSpreadTermRow : OpenClaim := { program := "ytfaidbngingjpaadoor", sum := "93be6213a98868341a49dcc298c65e992f9dbe394c9c35dda4a183cf66f93b09", func := "loop.example/switchnetworks/laws.FnExactSpreadTerm", spec := "fnExactSpreadTerm", inPlace := ["internal/bytealg.CountString", "internal/bytealg.IndexByteString", "internal/bytealg.IndexString"], unfollowed := true, recurses := true, named := ["unicode/utf8.first", "unicode/utf8.acceptRanges", "internal/bytealg.MaxLen"], apart := false, laid := [("unicode/utf8.acceptRanges", laid_unicode_utf8_acceptRanges), ("unicode/utf8.first", laid_unicode_utf8_first)] }
def FnExactSpreadTermSaid : Prop := fnExactSpreadTermRow.holds Tryd.pinned (OpenSpec.ofChange fnExactSpreadTermSpec)

/-- ITS FALSE NEIGHBOUR: 'it returns false'. Refute it at one input. -/
def fnExactSpreadTermWrong : ChangeSpec := { name := "fnExactSpreadTerm", fn := fun _ => fun
  | [d1, d2] => { results := [.lit (.bool false)], args := [d1, d2] }
  | _ => none }
def FnExactSpreadTermWrongFalsely : Prop := fnExactSpreadTermRow.holds Tryd.pinned (OpenSpec.ofChange fnExactSpreadTermWrong)

/-- 'laws.FnExactCycleOf': WHATEVER THE INPUT: true; the input reads as it did. -/
def fnExactCycleOfSpec : ChangeSpec := { name := "fnExactCycleOf", fn := fun _ => fun
  | [d1, d2] => { results := [.lit (.bool true)], args := [d1, d2] }
  | _ => none }
def fnExactCycleOfRow : OpenClaim := { program := "ytfaidbngingjpaadoor", sum := "93be6213a98868341a49dcc298c65e992f9dbe394c9c35dda4a183cf66f93b09", func := "loop.example/switchnetworks/laws.FnExactCycleOf", spec := "fnExactCycleOf", inPlace := ["internal/bytealg.CountString", "internal/bytealg.IndexByteString", "internal/bytealg.IndexString"], unfollowed := true, recurses := true, named := ["unicode/utf8.first", "unicode/utf8.acceptRanges", "internal/bytealg.MaxLen"], apart := false, laid := [("unicode/utf8.acceptRanges", laid_unicode_utf8_acceptRanges), ("unicode/utf8.first", laid_unicode_utf8_first)] }
def FnExactCycleOfSaid : Prop := fnExactCycleOfRow.holds Tryd.pinned (OpenSpec.ofChange fnExactCycleOfSpec)

/-- ITS FALSE NEIGHBOUR: 'it returns false'. Refute it at one input. -/
def fnExactCycleOfWrong : ChangeSpec := { name := "fnExactCycleOf", fn := fun _ => fun
  | [d1, d2] => { results := [.lit (.bool false)], args := [d1, d2] }
  | _ => none }
def FnExactCycleOfWrongFalsely : Prop := fnExactCycleOfRow.holds Tryd.pinned (OpenSpec.ofChange fnExactCycleOfWrong)

/-- 'laws.FnExactTrapsOf': WHATEVER THE INPUT: true; the input reads as it did. -/
def fnExactTrapsOfSpec : ChangeSpec := { name := "fnExactTrapsOf", fn := fun _ => fun
  | [d] => { results := [.lit (.bool true)], args := [d] }
  | _ => none }
def fnExactTrapsOfRow : OpenClaim := { program := "ytfaidbngingjpaadoor", sum := "93be6213a98868341a49dcc298c65e992f9dbe394c9c35dda4a183cf66f93b09", func := "loop.example/switchnetworks/laws.FnExactTrapsOf", spec := "fnExactTrapsOf", inPlace := ["internal/bytealg.CountString", "internal/bytealg.IndexByteString", "internal/bytealg.IndexString"], unfollowed := true, recurses := true, named := ["unicode/utf8.first", "unicode/utf8.acceptRanges", "internal/bytealg.MaxLen"], apart := false, laid := [("unicode/utf8.acceptRanges", laid_unicode_utf8_acceptRanges), ("unicode/utf8.first", laid_unicode_utf8_first)] }
def FnExactTrapsOfSaid : Prop := fnExactTrapsOfRow.holds Tryd.pinned (OpenSpec.ofChange fnExactTrapsOfSpec)

/-- ITS FALSE NEIGHBOUR: 'it returns false'. Refute it at one input. -/
def fnExactTrapsOfWrong : ChangeSpec := { name := "fnExactTrapsOf", fn := fun _ => fun
  | [d] => { results := [.lit (.bool false)], args := [d] }
  | _ => none }
def FnExactTrapsOfWrongFalsely : Prop := fnExactTrapsOfRow.holds Tryd.pinned (OpenSpec.ofChange fnExactTrapsOfWrong)

/-- 'laws.FnFixedPoints': WHATEVER THE INPUT: true; the input reads as it did. -/
def fnFixedPointsSpec : ChangeSpec := { name := "fnFixedPoints", fn := fun _ => fun
  | [d] => { results := [.lit (.bool true)], args := [d] }
  | _ => none }
def fnFixedPointsRow : OpenClaim := { program := "ytfaidbngingjpaadoor", sum := "93be6213a98868341a49dcc298c65e992f9dbe394c9c35dda4a183cf66f93b09", func := "loop.example/switchnetworks/laws.FnFixedPoints", spec := "fnFixedPoints", inPlace := ["internal/bytealg.CountString", "internal/bytealg.IndexByteString", "internal/bytealg.IndexString"], unfollowed := true, recurses := true, named := ["unicode/utf8.first", "unicode/utf8.acceptRanges", "internal/bytealg.MaxLen"], apart := false, laid := [("unicode/utf8.acceptRanges", laid_unicode_utf8_acceptRanges), ("unicode/utf8.first", laid_unicode_utf8_first)] }
def FnFixedPointsSaid : Prop := fnFixedPointsRow.holds Tryd.pinned (OpenSpec.ofChange fnFixedPointsSpec)

/-- ITS FALSE NEIGHBOUR: 'it returns false'. Refute it at one input. -/
def fnFixedPointsWrong : ChangeSpec := { name := "fnFixedPoints", fn := fun _ => fun
  | [d] => { results := [.lit (.bool false)], args := [d] }
  | _ => none }
def FnFixedPointsWrongFalsely : Prop := fnFixedPointsRow.holds Tryd.pinned (OpenSpec.ofChange fnFixedPointsWrong)

/-- 'laws.FnExactBasinOf': WHATEVER THE INPUT: true; the input reads as it did. -/
def fnExactBasinOfSpec : ChangeSpec := { name := "fnExactBasinOf", fn := fun _ => fun
  | [d1, d2] => { results := [.lit (.bool true)], args := [d1, d2] }
  | _ => none }
def fnExactBasinOfRow : OpenClaim := { program := "ytfaidbngingjpaadoor", sum := "93be6213a98868341a49dcc298c65e992f9dbe394c9c35dda4a183cf66f93b09", func := "loop.example/switchnetworks/laws.FnExactBasinOf", spec := "fnExactBasinOf", inPlace := ["internal/bytealg.CountString", "internal/bytealg.IndexByteString", "internal/bytealg.IndexString"], unfollowed := true, recurses := true, named := ["unicode/utf8.first", "unicode/utf8.acceptRanges", "internal/bytealg.MaxLen"], apart := false, laid := [("unicode/utf8.acceptRanges", laid_unicode_utf8_acceptRanges), ("unicode/utf8.first", laid_unicode_utf8_first)] }
def FnExactBasinOfSaid : Prop := fnExactBasinOfRow.holds Tryd.pinned (OpenSpec.ofChange fnExactBasinOfSpec)

/-- ITS FALSE NEIGHBOUR: 'it returns false'. Refute it at one input. -/
def fnExactBasinOfWrong : ChangeSpec := { name := "fnExactBasinOf", fn := fun _ => fun
  | [d1, d2] => { results := [.lit (.bool false)], args := [d1, d2] }
  | _ => none }
def FnExactBasinOfWrongFalsely : Prop := fnExactBasinOfRow.holds Tryd.pinned (OpenSpec.ofChange fnExactBasinOfWrong)

/-- 'laws.FnExactPathTo': WHATEVER THE INPUT: true; the input reads as it did. -/
def fnExactPathToSpec : ChangeSpec := { name := "fnExactPathTo", fn := fun _ => fun
  | [d1, d2, d3] => { results := [.lit (.bool true)], args := [d1, d2, d3] }
  | _ => none }
def fnExactPathToRow : OpenClaim := { program := "ytfaidbngingjpaadoor", sum := "93be6213a98868341a49dcc298c65e992f9dbe394c9c35dda4a183cf66f93b09", func := "loop.example/switchnetworks/laws.FnExactPathTo", spec := "fnExactPathTo", inPlace := ["internal/bytealg.CountString", "internal/bytealg.IndexByteString", "internal/bytealg.IndexString"], unfollowed := true, recurses := true, named := ["unicode/utf8.first", "unicode/utf8.acceptRanges", "internal/bytealg.MaxLen"], apart := false, laid := [("unicode/utf8.acceptRanges", laid_unicode_utf8_acceptRanges), ("unicode/utf8.first", laid_unicode_utf8_first)] }
def FnExactPathToSaid : Prop := fnExactPathToRow.holds Tryd.pinned (OpenSpec.ofChange fnExactPathToSpec)

/-- ITS FALSE NEIGHBOUR: 'it returns false'. Refute it at one input. -/
def fnExactPathToWrong : ChangeSpec := { name := "fnExactPathTo", fn := fun _ => fun
  | [d1, d2, d3] => { results := [.lit (.bool false)], args := [d1, d2, d3] }
  | _ => none }
def FnExactPathToWrongFalsely : Prop := fnExactPathToRow.holds Tryd.pinned (OpenSpec.ofChange fnExactPathToWrong)

/- THE SECOND FORM. 'bulk': how many values and letters a reading holds, each counted each time it is reached (what is shared counts as often as it is met; a slice's spare places count too). A statement '..UptoSaid' is the law's where the arguments, and the package variables that the reading takes, are together of bulk at most 1048576: NARROWER than '..Said'. Prove '..Said' where nothing that the law and all that it calls make is longer than what came in: it says more and counts as full. Else prove '..UptoSaid'. A law counts once. -/
mutual
def uptoBulk {H : Type} : DataW H → Nat
  | .lit (.string bytes) => bytes.length + 1
  | .lit _ => 1
  | .nil => 1
  | .ptr d => uptoBulk d + 1
  | .slice elems spare => uptoBulkAll elems + uptoBulkAll spare + 1
  | .agg parts => uptoBulkAll parts + 1
  | .iface _ d => uptoBulk d + 1
  | .map entries => uptoBulkEntries entries + 1
  | .held _ => 1
def uptoBulkAll {H : Type} : List (DataW H) → Nat
  | [] => 0
  | d :: r => uptoBulk d + uptoBulkAll r
def uptoBulkEntries {H : Type} : List (Lit × DataW H) → Nat
  | [] => 0
  | x :: r => uptoBulkEntry x + uptoBulkEntries r
def uptoBulkEntry {H : Type} : Lit × DataW H → Nat
  | (.string bytes, d) => bytes.length + uptoBulk d + 1
  | (_, d) => uptoBulk d + 1
 end
def uptoSmall : (H : Type) → List (DataW H) → Bool := fun _ ds => decide (uptoBulkAll ds ≤ 1048576)
def OpenSpec.upto (s : _root_.Go.ChangeSpec) : _root_.Go.OpenSpec := { _root_.Go.OpenSpec.ofChange s with cond := some uptoSmall }

/-- 'laws.FnExactUnreachedOf', WHERE WHAT IT READS IS OF BULK AT MOST 1048576: true; the input reads as it did. -/
def fnExactUnreachedOfUptoRow : OpenClaim := { program := "ytfaidbngingjpaadoor", sum := "93be6213a98868341a49dcc298c65e992f9dbe394c9c35dda4a183cf66f93b09", func := "loop.example/switchnetworks/laws.FnExactUnreachedOf", spec := "fnExactUnreachedOf", inPlace := ["internal/bytealg.CountString", "internal/bytealg.IndexByteString", "internal/bytealg.IndexString"], unfollowed := true, recurses := true, named := ["unicode/utf8.first", "unicode/utf8.acceptRanges", "internal/bytealg.MaxLen"], apart := false, laid := [("unicode/utf8.acceptRanges", laid_unicode_utf8_acceptRanges), ("unicode/utf8.first", laid_unicode_utf8_first)], narrowed := true }
def FnExactUnreachedOfUptoSaid : Prop := fnExactUnreachedOfUptoRow.holds Tryd.pinned (OpenSpec.upto fnExactUnreachedOfSpec)

/-- 'laws.FnRenameNetwork', WHERE WHAT IT READS IS OF BULK AT MOST 1048576: true; the input reads as it did. -/
def fnRenameNetworkUptoRow : OpenClaim := { program := "ytfaidbngingjpaadoor", sum := "93be6213a98868341a49dcc298c65e992f9dbe394c9c35dda4a183cf66f93b09", func := "loop.example/switchnetworks/laws.FnRenameNetwork", spec := "fnRenameNetwork", inPlace := ["internal/bytealg.CountString", "internal/bytealg.IndexByteString", "internal/bytealg.IndexString", "internal/abi.NoEscape", "internal/bytealg.MakeNoZero"], unfollowed := true, recurses := true, named := ["unicode/utf8.first", "unicode/utf8.acceptRanges", "internal/bytealg.MaxLen"], apart := false, laid := [("unicode/utf8.acceptRanges", laid_unicode_utf8_acceptRanges), ("unicode/utf8.first", laid_unicode_utf8_first)], narrowed := true }
def FnRenameNetworkUptoSaid : Prop := fnRenameNetworkUptoRow.holds Tryd.pinned (OpenSpec.upto fnRenameNetworkSpec)

/-- 'laws.FnExactIsSteady', WHERE WHAT IT READS IS OF BULK AT MOST 1048576: true; the input reads as it did. -/
def fnExactIsSteadyUptoRow : OpenClaim := { program := "ytfaidbngingjpaadoor", sum := "93be6213a98868341a49dcc298c65e992f9dbe394c9c35dda4a183cf66f93b09", func := "loop.example/switchnetworks/laws.FnExactIsSteady", spec := "fnExactIsSteady", inPlace := ["internal/bytealg.CountString", "internal/bytealg.IndexByteString", "internal/bytealg.IndexString"], unfollowed := true, recurses := true, named := ["unicode/utf8.first", "unicode/utf8.acceptRanges", "internal/bytealg.MaxLen"], apart := false, laid := [("unicode/utf8.acceptRanges", laid_unicode_utf8_acceptRanges), ("unicode/utf8.first", laid_unicode_utf8_first)], narrowed := true }
def FnExactIsSteadyUptoSaid : Prop := fnExactIsSteadyUptoRow.holds Tryd.pinned (OpenSpec.upto fnExactIsSteadySpec)

/-- 'laws.FnExactIsTrap', WHERE WHAT IT READS IS OF BULK AT MOST 1048576: true; the input reads as it did. -/
def fnExactIsTrapUptoRow : OpenClaim := { program := "ytfaidbngingjpaadoor", sum := "93be6213a98868341a49dcc298c65e992f9dbe394c9c35dda4a183cf66f93b09", func := "loop.example/switchnetworks/laws.FnExactIsTrap", spec := "fnExactIsTrap", inPlace := ["internal/bytealg.CountString", "internal/bytealg.IndexByteString", "internal/bytealg.IndexString"], unfollowed := true, recurses := true, named := ["unicode/utf8.first", "unicode/utf8.acceptRanges", "internal/bytealg.MaxLen"], apart := false, laid := [("unicode/utf8.acceptRanges", laid_unicode_utf8_acceptRanges), ("unicode/utf8.first", laid_unicode_utf8_first)], narrowed := true }
def FnExactIsTrapUptoSaid : Prop := fnExactIsTrapUptoRow.holds Tryd.pinned (OpenSpec.upto fnExactIsTrapSpec)

/-- 'laws.FnExactReachableFrom', WHERE WHAT IT READS IS OF BULK AT MOST 1048576: true; the input reads as it did. -/
def fnExactReachableFromUptoRow : OpenClaim := { program := "ytfaidbngingjpaadoor", sum := "93be6213a98868341a49dcc298c65e992f9dbe394c9c35dda4a183cf66f93b09", func := "loop.example/switchnetworks/laws.FnExactReachableFrom", spec := "fnExactReachableFrom", inPlace := ["internal/bytealg.CountString", "internal/bytealg.IndexByteString", "internal/bytealg.IndexString"], unfollowed := true, recurses := true, named := ["unicode/utf8.first", "unicode/utf8.acceptRanges", "internal/bytealg.MaxLen"], apart := false, laid := [("unicode/utf8.acceptRanges", laid_unicode_utf8_acceptRanges), ("unicode/utf8.first", laid_unicode_utf8_first)], narrowed := true }
def FnExactReachableFromUptoSaid : Prop := fnExactReachableFromUptoRow.holds Tryd.pinned (OpenSpec.upto fnExactReachableFromSpec)

/-- 'laws.FnExactTurnNetwork', WHERE WHAT IT READS IS OF BULK AT MOST 1048576: true; the input reads as it did. -/
def fnExactTurnNetworkUptoRow : OpenClaim := { program := "ytfaidbngingjpaadoor", sum := "93be6213a98868341a49dcc298c65e992f9dbe394c9c35dda4a183cf66f93b09", func := "loop.example/switchnetworks/laws.FnExactTurnNetwork", spec := "fnExactTurnNetwork", inPlace := ["internal/bytealg.CountString", "internal/bytealg.IndexByteString", "internal/bytealg.IndexString", "internal/abi.NoEscape", "internal/bytealg.MakeNoZero"], unfollowed := true, recurses := true, named := ["unicode/utf8.first", "unicode/utf8.acceptRanges", "internal/bytealg.MaxLen"], apart := false, laid := [("unicode/utf8.acceptRanges", laid_unicode_utf8_acceptRanges), ("unicode/utf8.first", laid_unicode_utf8_first)], narrowed := true }
def FnExactTurnNetworkUptoSaid : Prop := fnExactTurnNetworkUptoRow.holds Tryd.pinned (OpenSpec.upto fnExactTurnNetworkSpec)

/-- 'laws.FnExactSpreadTerm', WHERE WHAT IT READS IS OF BULK AT MOST 1048576: true; the input reads as it did. -/
def fnExactSpreadTermUptoRow : OpenClaim := { program := "ytfaidbngingjpaadoor", sum := "93be6213a98868341a49dcc298c65e992f9dbe394c9c35dda4a183cf66f93b09", func := "loop.example/switchnetworks/laws.FnExactSpreadTerm", spec := "fnExactSpreadTerm", inPlace := ["internal/bytealg.CountString", "internal/bytealg.IndexByteString", "internal/bytealg.IndexString"], unfollowed := true, recurses := true, named := ["unicode/utf8.first", "unicode/utf8.acceptRanges", "internal/bytealg.MaxLen"], apart := false, laid := [("unicode/utf8.acceptRanges", laid_unicode_utf8_acceptRanges), ("unicode/utf8.first", laid_unicode_utf8_first)], narrowed := true }
def FnExactSpreadTermUptoSaid : Prop := fnExactSpreadTermUptoRow.holds Tryd.pinned (OpenSpec.upto fnExactSpreadTermSpec)

/-- 'laws.FnExactCycleOf', WHERE WHAT IT READS IS OF BULK AT MOST 1048576: true; the input reads as it did. -/
def fnExactCycleOfUptoRow : OpenClaim := { program := "ytfaidbngingjpaadoor", sum := "93be6213a98868341a49dcc298c65e992f9dbe394c9c35dda4a183cf66f93b09", func := "loop.example/switchnetworks/laws.FnExactCycleOf", spec := "fnExactCycleOf", inPlace := ["internal/bytealg.CountString", "internal/bytealg.IndexByteString", "internal/bytealg.IndexString"], unfollowed := true, recurses := true, named := ["unicode/utf8.first", "unicode/utf8.acceptRanges", "internal/bytealg.MaxLen"], apart := false, laid := [("unicode/utf8.acceptRanges", laid_unicode_utf8_acceptRanges), ("unicode/utf8.first", laid_unicode_utf8_first)], narrowed := true }
def FnExactCycleOfUptoSaid : Prop := fnExactCycleOfUptoRow.holds Tryd.pinned (OpenSpec.upto fnExactCycleOfSpec)

/-- 'laws.FnExactTrapsOf', WHERE WHAT IT READS IS OF BULK AT MOST 1048576: true; the input reads as it did. -/
def fnExactTrapsOfUptoRow : OpenClaim := { program := "ytfaidbngingjpaadoor", sum := "93be6213a98868341a49dcc298c65e992f9dbe394c9c35dda4a183cf66f93b09", func := "loop.example/switchnetworks/laws.FnExactTrapsOf", spec := "fnExactTrapsOf", inPlace := ["internal/bytealg.CountString", "internal/bytealg.IndexByteString", "internal/bytealg.IndexString"], unfollowed := true, recurses := true, named := ["unicode/utf8.first", "unicode/utf8.acceptRanges", "internal/bytealg.MaxLen"], apart := false, laid := [("unicode/utf8.acceptRanges", laid_unicode_utf8_acceptRanges), ("unicode/utf8.first", laid_unicode_utf8_first)], narrowed := true }
def FnExactTrapsOfUptoSaid : Prop := fnExactTrapsOfUptoRow.holds Tryd.pinned (OpenSpec.upto fnExactTrapsOfSpec)

/-- 'laws.FnFixedPoints', WHERE WHAT IT READS IS OF BULK AT MOST 1048576: true; the input reads as it did. -/
def fnFixedPointsUptoRow : OpenClaim := { program := "ytfaidbngingjpaadoor", sum := "93be6213a98868341a49dcc298c65e992f9dbe394c9c35dda4a183cf66f93b09", func := "loop.example/switchnetworks/laws.FnFixedPoints", spec := "fnFixedPoints", inPlace := ["internal/bytealg.CountString", "internal/bytealg.IndexByteString", "internal/bytealg.IndexString"], unfollowed := true, recurses := true, named := ["unicode/utf8.first", "unicode/utf8.acceptRanges", "internal/bytealg.MaxLen"], apart := false, laid := [("unicode/utf8.acceptRanges", laid_unicode_utf8_acceptRanges), ("unicode/utf8.first", laid_unicode_utf8_first)], narrowed := true }
def FnFixedPointsUptoSaid : Prop := fnFixedPointsUptoRow.holds Tryd.pinned (OpenSpec.upto fnFixedPointsSpec)

/-- 'laws.FnExactBasinOf', WHERE WHAT IT READS IS OF BULK AT MOST 1048576: true; the input reads as it did. -/
def fnExactBasinOfUptoRow : OpenClaim := { program := "ytfaidbngingjpaadoor", sum := "93be6213a98868341a49dcc298c65e992f9dbe394c9c35dda4a183cf66f93b09", func := "loop.example/switchnetworks/laws.FnExactBasinOf", spec := "fnExactBasinOf", inPlace := ["internal/bytealg.CountString", "internal/bytealg.IndexByteString", "internal/bytealg.IndexString"], unfollowed := true, recurses := true, named := ["unicode/utf8.first", "unicode/utf8.acceptRanges", "internal/bytealg.MaxLen"], apart := false, laid := [("unicode/utf8.acceptRanges", laid_unicode_utf8_acceptRanges), ("unicode/utf8.first", laid_unicode_utf8_first)], narrowed := true }
def FnExactBasinOfUptoSaid : Prop := fnExactBasinOfUptoRow.holds Tryd.pinned (OpenSpec.upto fnExactBasinOfSpec)

/-- 'laws.FnExactPathTo', WHERE WHAT IT READS IS OF BULK AT MOST 1048576: true; the input reads as it did. -/
def fnExactPathToUptoRow : OpenClaim := { program := "ytfaidbngingjpaadoor", sum := "93be6213a98868341a49dcc298c65e992f9dbe394c9c35dda4a183cf66f93b09", func := "loop.example/switchnetworks/laws.FnExactPathTo", spec := "fnExactPathTo", inPlace := ["internal/bytealg.CountString", "internal/bytealg.IndexByteString", "internal/bytealg.IndexString"], unfollowed := true, recurses := true, named := ["unicode/utf8.first", "unicode/utf8.acceptRanges", "internal/bytealg.MaxLen"], apart := false, laid := [("unicode/utf8.acceptRanges", laid_unicode_utf8_acceptRanges), ("unicode/utf8.first", laid_unicode_utf8_first)], narrowed := true }
def FnExactPathToUptoSaid : Prop := fnExactPathToUptoRow.holds Tryd.pinned (OpenSpec.upto fnExactPathToSpec)

end Rows
end Go.Proofs.YtfaidbngingjpaaDoor
