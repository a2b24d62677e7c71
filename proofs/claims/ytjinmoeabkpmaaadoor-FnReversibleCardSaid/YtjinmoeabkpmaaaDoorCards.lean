/-
  DERIVED. GIVEN WITH THE SEED: THE CARDS: each row of YtjinmoeabkpmaaaDoorRows.lean that lists a variable, with what it lists TIED to the program's text (the seventh form; the later family's looks); each row that meets fmt, with fmt's text TOLD by the authors' own Lean function (tested against real Go, not proved from fmt's source: count such statements apart). THE CARD IS WHAT COUNTS. Prove the row's statement (the work); the ties are given (YtjinmoeabkpmaaaDoorTie.lean); close each card by the builder's one call (the guide's Derived/Test/ToyasCard.lean, 'card_holds'). Laid BY PROGRAM, IN A SANDBOX (cutbox-door.mjs). By AI agents, Wed Nov 11 2026. No macro, syntax, notation, axiom, sorry.
-/
import Derived.Test.YtjinmoeabkpmaaaDoorRows
import GoSem.ClaimSeven
namespace Go.Proofs.YtjinmoeabkpmaaaDoor
namespace Rows

/-- THE TIED CARD OF 'laws.FnExactCyclesOf'. -/
def fnExactCyclesOfCard : Claim7 := { stood := { row := fnExactCyclesOfRow, standIns := [], harness := (true, "10196c250cf68c961abc9c1b7e4092ac587e9bbfbbcc3853e7a1998868b5b484"), looks := false }, kinds := [], alts := [], laidByText := true, laidKinds := [.data, .pinned], laidTests := true, laidLooks := .later }
def FnExactCyclesOfCardSaid : Prop := Claim7.holds Tryd.pinned (.plain (OpenSpec.ofChange fnExactCyclesOfSpec)) fnExactCyclesOfCard

/-- THE TIED CARD OF 'laws.FnAfterSteps'. -/
def fnAfterStepsCard : Claim7 := { stood := { row := fnAfterStepsRow, standIns := [], harness := (true, "10196c250cf68c961abc9c1b7e4092ac587e9bbfbbcc3853e7a1998868b5b484"), looks := false }, kinds := [], alts := [], laidByText := true, laidKinds := [.data, .pinned], laidTests := true, laidLooks := .later }
def FnAfterStepsCardSaid : Prop := Claim7.holds Tryd.pinned (.plain (OpenSpec.ofChange fnAfterStepsSpec)) fnAfterStepsCard

/-- THE TIED CARD OF 'laws.FnSteps'. -/
def fnStepsCard : Claim7 := { stood := { row := fnStepsRow, standIns := [], harness := (true, "10196c250cf68c961abc9c1b7e4092ac587e9bbfbbcc3853e7a1998868b5b484"), looks := false }, kinds := [], alts := [], laidByText := true, laidKinds := [.data, .pinned], laidTests := true, laidLooks := .later }
def FnStepsCardSaid : Prop := Claim7.holds Tryd.pinned (.plain (OpenSpec.ofChange fnStepsSpec)) fnStepsCard

/-- THE TIED CARD OF 'laws.FnNext'. -/
def fnNextCard : Claim7 := { stood := { row := fnNextRow, standIns := [], harness := (true, "10196c250cf68c961abc9c1b7e4092ac587e9bbfbbcc3853e7a1998868b5b484"), looks := false }, kinds := [], alts := [], laidByText := true, laidKinds := [.data, .pinned], laidTests := true, laidLooks := .later }
def FnNextCardSaid : Prop := Claim7.holds Tryd.pinned (.plain (OpenSpec.ofChange fnNextSpec)) fnNextCard

/-- THE TIED CARD OF 'laws.FnBefore'. -/
def fnBeforeCard : Claim7 := { stood := { row := fnBeforeRow, standIns := [], harness := (true, "10196c250cf68c961abc9c1b7e4092ac587e9bbfbbcc3853e7a1998868b5b484"), looks := false }, kinds := [], alts := [], laidByText := true, laidKinds := [.data, .pinned], laidTests := true, laidLooks := .later }
def FnBeforeCardSaid : Prop := Claim7.holds Tryd.pinned (.plain (OpenSpec.ofChange fnBeforeSpec)) fnBeforeCard

/-- THE TIED CARD OF 'laws.FnOrbit'. -/
def fnOrbitCard : Claim7 := { stood := { row := fnOrbitRow, standIns := [], harness := (true, "10196c250cf68c961abc9c1b7e4092ac587e9bbfbbcc3853e7a1998868b5b484"), looks := false }, kinds := [], alts := [], laidByText := true, laidKinds := [.data, .pinned], laidTests := true, laidLooks := .later }
def FnOrbitCardSaid : Prop := Claim7.holds Tryd.pinned (.plain (OpenSpec.ofChange fnOrbitSpec)) fnOrbitCard

/-- THE TIED CARD OF 'laws.FnReach'. -/
def fnReachCard : Claim7 := { stood := { row := fnReachRow, standIns := [], harness := (true, "10196c250cf68c961abc9c1b7e4092ac587e9bbfbbcc3853e7a1998868b5b484"), looks := false }, kinds := [], alts := [], laidByText := true, laidKinds := [.data, .pinned], laidTests := true, laidLooks := .later }
def FnReachCardSaid : Prop := Claim7.holds Tryd.pinned (.plain (OpenSpec.ofChange fnReachSpec)) fnReachCard

/-- THE TIED CARD OF 'laws.FnTurnNetwork'. -/
def fnTurnNetworkCard : Claim7 := { stood := { row := fnTurnNetworkRow, standIns := [], harness := (true, "10196c250cf68c961abc9c1b7e4092ac587e9bbfbbcc3853e7a1998868b5b484"), looks := false }, kinds := [], alts := [], laidByText := true, laidKinds := [.data, .pinned], laidTests := true, laidLooks := .later }
def FnTurnNetworkCardSaid : Prop := Claim7.holds Tryd.pinned (.plain (OpenSpec.ofChange fnTurnNetworkSpec)) fnTurnNetworkCard

/-- THE TIED CARD OF 'laws.FnCycle'. -/
def fnCycleCard : Claim7 := { stood := { row := fnCycleRow, standIns := [], harness := (true, "10196c250cf68c961abc9c1b7e4092ac587e9bbfbbcc3853e7a1998868b5b484"), looks := false }, kinds := [], alts := [], laidByText := true, laidKinds := [.data, .pinned], laidTests := true, laidLooks := .later }
def FnCycleCardSaid : Prop := Claim7.holds Tryd.pinned (.plain (OpenSpec.ofChange fnCycleSpec)) fnCycleCard

/-- THE TIED CARD OF 'laws.FnBasin'. -/
def fnBasinCard : Claim7 := { stood := { row := fnBasinRow, standIns := [], harness := (true, "10196c250cf68c961abc9c1b7e4092ac587e9bbfbbcc3853e7a1998868b5b484"), looks := false }, kinds := [], alts := [], laidByText := true, laidKinds := [.data, .pinned], laidTests := true, laidLooks := .later }
def FnBasinCardSaid : Prop := Claim7.holds Tryd.pinned (.plain (OpenSpec.ofChange fnBasinSpec)) fnBasinCard

/-- THE TIED CARD OF 'laws.FnCycles'. -/
def fnCyclesCard : Claim7 := { stood := { row := fnCyclesRow, standIns := [], harness := (true, "10196c250cf68c961abc9c1b7e4092ac587e9bbfbbcc3853e7a1998868b5b484"), looks := false }, kinds := [], alts := [], laidByText := true, laidKinds := [.data, .pinned], laidTests := true, laidLooks := .later }
def FnCyclesCardSaid : Prop := Claim7.holds Tryd.pinned (.plain (OpenSpec.ofChange fnCyclesSpec)) fnCyclesCard

/-- THE TIED CARD OF 'laws.FnReversible'. -/
def fnReversibleCard : Claim7 := { stood := { row := fnReversibleRow, standIns := [], harness := (true, "10196c250cf68c961abc9c1b7e4092ac587e9bbfbbcc3853e7a1998868b5b484"), looks := false }, kinds := [], alts := [], laidByText := true, laidKinds := [.data, .pinned], laidTests := true, laidLooks := .later }
def FnReversibleCardSaid : Prop := Claim7.holds Tryd.pinned (.plain (OpenSpec.ofChange fnReversibleSpec)) fnReversibleCard

/-- THE SECOND FORM's CARD OF 'laws.FnExactCyclesOf'. -/
def fnExactCyclesOfUptoCard : Claim7 := { stood := { row := fnExactCyclesOfUptoRow, standIns := [], harness := (true, "10196c250cf68c961abc9c1b7e4092ac587e9bbfbbcc3853e7a1998868b5b484"), looks := false }, kinds := [], alts := [], laidByText := true, laidKinds := [.data, .pinned], laidTests := true, laidLooks := .later }
def FnExactCyclesOfUptoCardSaid : Prop := Claim7.holds Tryd.pinned (.plain (OpenSpec.upto fnExactCyclesOfSpec)) fnExactCyclesOfUptoCard

/-- THE SECOND FORM's CARD OF 'laws.FnAfterSteps'. -/
def fnAfterStepsUptoCard : Claim7 := { stood := { row := fnAfterStepsUptoRow, standIns := [], harness := (true, "10196c250cf68c961abc9c1b7e4092ac587e9bbfbbcc3853e7a1998868b5b484"), looks := false }, kinds := [], alts := [], laidByText := true, laidKinds := [.data, .pinned], laidTests := true, laidLooks := .later }
def FnAfterStepsUptoCardSaid : Prop := Claim7.holds Tryd.pinned (.plain (OpenSpec.upto fnAfterStepsSpec)) fnAfterStepsUptoCard

/-- THE SECOND FORM's CARD OF 'laws.FnSteps'. -/
def fnStepsUptoCard : Claim7 := { stood := { row := fnStepsUptoRow, standIns := [], harness := (true, "10196c250cf68c961abc9c1b7e4092ac587e9bbfbbcc3853e7a1998868b5b484"), looks := false }, kinds := [], alts := [], laidByText := true, laidKinds := [.data, .pinned], laidTests := true, laidLooks := .later }
def FnStepsUptoCardSaid : Prop := Claim7.holds Tryd.pinned (.plain (OpenSpec.upto fnStepsSpec)) fnStepsUptoCard

/-- THE SECOND FORM's CARD OF 'laws.FnNext'. -/
def fnNextUptoCard : Claim7 := { stood := { row := fnNextUptoRow, standIns := [], harness := (true, "10196c250cf68c961abc9c1b7e4092ac587e9bbfbbcc3853e7a1998868b5b484"), looks := false }, kinds := [], alts := [], laidByText := true, laidKinds := [.data, .pinned], laidTests := true, laidLooks := .later }
def FnNextUptoCardSaid : Prop := Claim7.holds Tryd.pinned (.plain (OpenSpec.upto fnNextSpec)) fnNextUptoCard

/-- THE SECOND FORM's CARD OF 'laws.FnBefore'. -/
def fnBeforeUptoCard : Claim7 := { stood := { row := fnBeforeUptoRow, standIns := [], harness := (true, "10196c250cf68c961abc9c1b7e4092ac587e9bbfbbcc3853e7a1998868b5b484"), looks := false }, kinds := [], alts := [], laidByText := true, laidKinds := [.data, .pinned], laidTests := true, laidLooks := .later }
def FnBeforeUptoCardSaid : Prop := Claim7.holds Tryd.pinned (.plain (OpenSpec.upto fnBeforeSpec)) fnBeforeUptoCard

/-- THE SECOND FORM's CARD OF 'laws.FnOrbit'. -/
def fnOrbitUptoCard : Claim7 := { stood := { row := fnOrbitUptoRow, standIns := [], harness := (true, "10196c250cf68c961abc9c1b7e4092ac587e9bbfbbcc3853e7a1998868b5b484"), looks := false }, kinds := [], alts := [], laidByText := true, laidKinds := [.data, .pinned], laidTests := true, laidLooks := .later }
def FnOrbitUptoCardSaid : Prop := Claim7.holds Tryd.pinned (.plain (OpenSpec.upto fnOrbitSpec)) fnOrbitUptoCard

/-- THE SECOND FORM's CARD OF 'laws.FnReach'. -/
def fnReachUptoCard : Claim7 := { stood := { row := fnReachUptoRow, standIns := [], harness := (true, "10196c250cf68c961abc9c1b7e4092ac587e9bbfbbcc3853e7a1998868b5b484"), looks := false }, kinds := [], alts := [], laidByText := true, laidKinds := [.data, .pinned], laidTests := true, laidLooks := .later }
def FnReachUptoCardSaid : Prop := Claim7.holds Tryd.pinned (.plain (OpenSpec.upto fnReachSpec)) fnReachUptoCard

/-- THE SECOND FORM's CARD OF 'laws.FnTurnNetwork'. -/
def fnTurnNetworkUptoCard : Claim7 := { stood := { row := fnTurnNetworkUptoRow, standIns := [], harness := (true, "10196c250cf68c961abc9c1b7e4092ac587e9bbfbbcc3853e7a1998868b5b484"), looks := false }, kinds := [], alts := [], laidByText := true, laidKinds := [.data, .pinned], laidTests := true, laidLooks := .later }
def FnTurnNetworkUptoCardSaid : Prop := Claim7.holds Tryd.pinned (.plain (OpenSpec.upto fnTurnNetworkSpec)) fnTurnNetworkUptoCard

/-- THE SECOND FORM's CARD OF 'laws.FnCycle'. -/
def fnCycleUptoCard : Claim7 := { stood := { row := fnCycleUptoRow, standIns := [], harness := (true, "10196c250cf68c961abc9c1b7e4092ac587e9bbfbbcc3853e7a1998868b5b484"), looks := false }, kinds := [], alts := [], laidByText := true, laidKinds := [.data, .pinned], laidTests := true, laidLooks := .later }
def FnCycleUptoCardSaid : Prop := Claim7.holds Tryd.pinned (.plain (OpenSpec.upto fnCycleSpec)) fnCycleUptoCard

/-- THE SECOND FORM's CARD OF 'laws.FnBasin'. -/
def fnBasinUptoCard : Claim7 := { stood := { row := fnBasinUptoRow, standIns := [], harness := (true, "10196c250cf68c961abc9c1b7e4092ac587e9bbfbbcc3853e7a1998868b5b484"), looks := false }, kinds := [], alts := [], laidByText := true, laidKinds := [.data, .pinned], laidTests := true, laidLooks := .later }
def FnBasinUptoCardSaid : Prop := Claim7.holds Tryd.pinned (.plain (OpenSpec.upto fnBasinSpec)) fnBasinUptoCard

/-- THE SECOND FORM's CARD OF 'laws.FnCycles'. -/
def fnCyclesUptoCard : Claim7 := { stood := { row := fnCyclesUptoRow, standIns := [], harness := (true, "10196c250cf68c961abc9c1b7e4092ac587e9bbfbbcc3853e7a1998868b5b484"), looks := false }, kinds := [], alts := [], laidByText := true, laidKinds := [.data, .pinned], laidTests := true, laidLooks := .later }
def FnCyclesUptoCardSaid : Prop := Claim7.holds Tryd.pinned (.plain (OpenSpec.upto fnCyclesSpec)) fnCyclesUptoCard

/-- THE SECOND FORM's CARD OF 'laws.FnReversible'. -/
def fnReversibleUptoCard : Claim7 := { stood := { row := fnReversibleUptoRow, standIns := [], harness := (true, "10196c250cf68c961abc9c1b7e4092ac587e9bbfbbcc3853e7a1998868b5b484"), looks := false }, kinds := [], alts := [], laidByText := true, laidKinds := [.data, .pinned], laidTests := true, laidLooks := .later }
def FnReversibleUptoCardSaid : Prop := Claim7.holds Tryd.pinned (.plain (OpenSpec.upto fnReversibleSpec)) fnReversibleUptoCard
end Rows
end Go.Proofs.YtjinmoeabkpmaaaDoor
