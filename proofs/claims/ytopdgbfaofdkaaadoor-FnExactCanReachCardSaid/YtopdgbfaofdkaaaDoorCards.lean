/-
  DERIVED. GIVEN WITH THE SEED: THE CARDS: each row of YtopdgbfaofdkaaaDoorRows.lean that lists a variable, with what it lists TIED to the program's text (the seventh form; the later family's looks); each row that meets fmt, with fmt's text TOLD by the authors' own Lean function (tested against real Go, not proved from fmt's source: count such statements apart). THE CARD IS WHAT COUNTS. Prove the row's statement (the work); the ties are given (YtopdgbfaofdkaaaDoorTie.lean); close each card by the builder's one call (the guide's Derived/Test/ToyasCard.lean, 'card_holds'). Laid BY PROGRAM, IN A SANDBOX (cutbox-door.mjs). By AI agents, Wed Nov 11 2026. No macro, syntax, notation, axiom, sorry.
-/
import Derived.Test.YtopdgbfaofdkaaaDoorRows
import GoSem.ClaimSeven
namespace Go.Proofs.YtopdgbfaofdkaaaDoor
namespace Rows

/-- THE TIED CARD OF 'laws.FnExactCountSteps'. -/
def fnExactCountStepsCard : Claim7 := { stood := { row := fnExactCountStepsRow, standIns := [], harness := (true, "1f9fd42af7e05914868dae5477c79c2c1e07884b2f8ce37d4b8682d37ae8803e"), looks := false }, kinds := [], alts := [], laidByText := true, laidKinds := [.data, .pinned], laidTests := true, laidLooks := .later }
def FnExactCountStepsCardSaid : Prop := Claim7.holds Tryd.pinned (.plain (OpenSpec.ofChange fnExactCountStepsSpec)) fnExactCountStepsCard

/-- THE TIED CARD OF 'laws.FnMust'. -/
def fnMustCard : Claim7 := { stood := { row := fnMustRow, standIns := [], harness := (true, "1f9fd42af7e05914868dae5477c79c2c1e07884b2f8ce37d4b8682d37ae8803e"), looks := false }, kinds := [], alts := [], laidByText := true, laidKinds := [.data, .pinned], laidTests := true, laidLooks := .later }
def FnMustCardSaid : Prop := Claim7.holds Tryd.pinned (.plain (OpenSpec.ofChange fnMustSpec)) fnMustCard

/-- THE TIED CARD OF 'laws.FnExactLongestTail'. -/
def fnExactLongestTailCard : Claim7 := { stood := { row := fnExactLongestTailRow, standIns := [], harness := (true, "1f9fd42af7e05914868dae5477c79c2c1e07884b2f8ce37d4b8682d37ae8803e"), looks := false }, kinds := [], alts := [], laidByText := true, laidKinds := [.data, .pinned], laidTests := true, laidLooks := .later }
def FnExactLongestTailCardSaid : Prop := Claim7.holds Tryd.pinned (.plain (OpenSpec.ofChange fnExactLongestTailSpec)) fnExactLongestTailCard

/-- THE TIED CARD OF 'laws.FnExactTailOf'. -/
def fnExactTailOfCard : Claim7 := { stood := { row := fnExactTailOfRow, standIns := [], harness := (true, "1f9fd42af7e05914868dae5477c79c2c1e07884b2f8ce37d4b8682d37ae8803e"), looks := false }, kinds := [], alts := [], laidByText := true, laidKinds := [.data, .pinned], laidTests := true, laidLooks := .later }
def FnExactTailOfCardSaid : Prop := Claim7.holds Tryd.pinned (.plain (OpenSpec.ofChange fnExactTailOfSpec)) fnExactTailOfCard

/-- THE TIED CARD OF 'laws.FnExactAfterSteps'. -/
def fnExactAfterStepsCard : Claim7 := { stood := { row := fnExactAfterStepsRow, standIns := [], harness := (true, "1f9fd42af7e05914868dae5477c79c2c1e07884b2f8ce37d4b8682d37ae8803e"), looks := false }, kinds := [], alts := [], laidByText := true, laidKinds := [.data, .pinned], laidTests := true, laidLooks := .later }
def FnExactAfterStepsCardSaid : Prop := Claim7.holds Tryd.pinned (.plain (OpenSpec.ofChange fnExactAfterStepsSpec)) fnExactAfterStepsCard

/-- THE TIED CARD OF 'laws.FnExactIsReversible'. -/
def fnExactIsReversibleCard : Claim7 := { stood := { row := fnExactIsReversibleRow, standIns := [], harness := (true, "1f9fd42af7e05914868dae5477c79c2c1e07884b2f8ce37d4b8682d37ae8803e"), looks := false }, kinds := [], alts := [], laidByText := true, laidKinds := [.data, .pinned], laidTests := true, laidLooks := .later }
def FnExactIsReversibleCardSaid : Prop := Claim7.holds Tryd.pinned (.plain (OpenSpec.ofChange fnExactIsReversibleSpec)) fnExactIsReversibleCard

/-- THE TIED CARD OF 'laws.FnExactNextOf'. -/
def fnExactNextOfCard : Claim7 := { stood := { row := fnExactNextOfRow, standIns := [], harness := (true, "1f9fd42af7e05914868dae5477c79c2c1e07884b2f8ce37d4b8682d37ae8803e"), looks := false }, kinds := [], alts := [], laidByText := true, laidKinds := [.data, .pinned], laidTests := true, laidLooks := .later }
def FnExactNextOfCardSaid : Prop := Claim7.holds Tryd.pinned (.plain (OpenSpec.ofChange fnExactNextOfSpec)) fnExactNextOfCard

/-- THE TIED CARD OF 'laws.FnExactRenameNetwork'. -/
def fnExactRenameNetworkCard : Claim7 := { stood := { row := fnExactRenameNetworkRow, standIns := [], harness := (true, "1f9fd42af7e05914868dae5477c79c2c1e07884b2f8ce37d4b8682d37ae8803e"), looks := false }, kinds := [], alts := [], laidByText := true, laidKinds := [.data, .pinned], laidTests := true, laidLooks := .later }
def FnExactRenameNetworkCardSaid : Prop := Claim7.holds Tryd.pinned (.plain (OpenSpec.ofChange fnExactRenameNetworkSpec)) fnExactRenameNetworkCard

/-- THE TIED CARD OF 'laws.FnExactCanReach'. -/
def fnExactCanReachCard : Claim7 := { stood := { row := fnExactCanReachRow, standIns := [], harness := (true, "1f9fd42af7e05914868dae5477c79c2c1e07884b2f8ce37d4b8682d37ae8803e"), looks := false }, kinds := [], alts := [], laidByText := true, laidKinds := [.data, .pinned], laidTests := true, laidLooks := .later }
def FnExactCanReachCardSaid : Prop := Claim7.holds Tryd.pinned (.plain (OpenSpec.ofChange fnExactCanReachSpec)) fnExactCanReachCard

/-- THE TIED CARD OF 'laws.FnExactPeriodOf'. -/
def fnExactPeriodOfCard : Claim7 := { stood := { row := fnExactPeriodOfRow, standIns := [], harness := (true, "1f9fd42af7e05914868dae5477c79c2c1e07884b2f8ce37d4b8682d37ae8803e"), looks := false }, kinds := [], alts := [], laidByText := true, laidKinds := [.data, .pinned], laidTests := true, laidLooks := .later }
def FnExactPeriodOfCardSaid : Prop := Claim7.holds Tryd.pinned (.plain (OpenSpec.ofChange fnExactPeriodOfSpec)) fnExactPeriodOfCard

/-- THE TIED CARD OF 'laws.FnExactBeforeOf'. -/
def fnExactBeforeOfCard : Claim7 := { stood := { row := fnExactBeforeOfRow, standIns := [], harness := (true, "1f9fd42af7e05914868dae5477c79c2c1e07884b2f8ce37d4b8682d37ae8803e"), looks := false }, kinds := [], alts := [], laidByText := true, laidKinds := [.data, .pinned], laidTests := true, laidLooks := .later }
def FnExactBeforeOfCardSaid : Prop := Claim7.holds Tryd.pinned (.plain (OpenSpec.ofChange fnExactBeforeOfSpec)) fnExactBeforeOfCard

/-- THE TIED CARD OF 'laws.FnExactOrbitOf'. -/
def fnExactOrbitOfCard : Claim7 := { stood := { row := fnExactOrbitOfRow, standIns := [], harness := (true, "1f9fd42af7e05914868dae5477c79c2c1e07884b2f8ce37d4b8682d37ae8803e"), looks := false }, kinds := [], alts := [], laidByText := true, laidKinds := [.data, .pinned], laidTests := true, laidLooks := .later }
def FnExactOrbitOfCardSaid : Prop := Claim7.holds Tryd.pinned (.plain (OpenSpec.ofChange fnExactOrbitOfSpec)) fnExactOrbitOfCard

/-- THE SECOND FORM's CARD OF 'laws.FnExactCountSteps'. -/
def fnExactCountStepsUptoCard : Claim7 := { stood := { row := fnExactCountStepsUptoRow, standIns := [], harness := (true, "1f9fd42af7e05914868dae5477c79c2c1e07884b2f8ce37d4b8682d37ae8803e"), looks := false }, kinds := [], alts := [], laidByText := true, laidKinds := [.data, .pinned], laidTests := true, laidLooks := .later }
def FnExactCountStepsUptoCardSaid : Prop := Claim7.holds Tryd.pinned (.plain (OpenSpec.upto fnExactCountStepsSpec)) fnExactCountStepsUptoCard

/-- THE SECOND FORM's CARD OF 'laws.FnMust'. -/
def fnMustUptoCard : Claim7 := { stood := { row := fnMustUptoRow, standIns := [], harness := (true, "1f9fd42af7e05914868dae5477c79c2c1e07884b2f8ce37d4b8682d37ae8803e"), looks := false }, kinds := [], alts := [], laidByText := true, laidKinds := [.data, .pinned], laidTests := true, laidLooks := .later }
def FnMustUptoCardSaid : Prop := Claim7.holds Tryd.pinned (.plain (OpenSpec.upto fnMustSpec)) fnMustUptoCard

/-- THE SECOND FORM's CARD OF 'laws.FnExactLongestTail'. -/
def fnExactLongestTailUptoCard : Claim7 := { stood := { row := fnExactLongestTailUptoRow, standIns := [], harness := (true, "1f9fd42af7e05914868dae5477c79c2c1e07884b2f8ce37d4b8682d37ae8803e"), looks := false }, kinds := [], alts := [], laidByText := true, laidKinds := [.data, .pinned], laidTests := true, laidLooks := .later }
def FnExactLongestTailUptoCardSaid : Prop := Claim7.holds Tryd.pinned (.plain (OpenSpec.upto fnExactLongestTailSpec)) fnExactLongestTailUptoCard

/-- THE SECOND FORM's CARD OF 'laws.FnExactTailOf'. -/
def fnExactTailOfUptoCard : Claim7 := { stood := { row := fnExactTailOfUptoRow, standIns := [], harness := (true, "1f9fd42af7e05914868dae5477c79c2c1e07884b2f8ce37d4b8682d37ae8803e"), looks := false }, kinds := [], alts := [], laidByText := true, laidKinds := [.data, .pinned], laidTests := true, laidLooks := .later }
def FnExactTailOfUptoCardSaid : Prop := Claim7.holds Tryd.pinned (.plain (OpenSpec.upto fnExactTailOfSpec)) fnExactTailOfUptoCard

/-- THE SECOND FORM's CARD OF 'laws.FnExactAfterSteps'. -/
def fnExactAfterStepsUptoCard : Claim7 := { stood := { row := fnExactAfterStepsUptoRow, standIns := [], harness := (true, "1f9fd42af7e05914868dae5477c79c2c1e07884b2f8ce37d4b8682d37ae8803e"), looks := false }, kinds := [], alts := [], laidByText := true, laidKinds := [.data, .pinned], laidTests := true, laidLooks := .later }
def FnExactAfterStepsUptoCardSaid : Prop := Claim7.holds Tryd.pinned (.plain (OpenSpec.upto fnExactAfterStepsSpec)) fnExactAfterStepsUptoCard

/-- THE SECOND FORM's CARD OF 'laws.FnExactIsReversible'. -/
def fnExactIsReversibleUptoCard : Claim7 := { stood := { row := fnExactIsReversibleUptoRow, standIns := [], harness := (true, "1f9fd42af7e05914868dae5477c79c2c1e07884b2f8ce37d4b8682d37ae8803e"), looks := false }, kinds := [], alts := [], laidByText := true, laidKinds := [.data, .pinned], laidTests := true, laidLooks := .later }
def FnExactIsReversibleUptoCardSaid : Prop := Claim7.holds Tryd.pinned (.plain (OpenSpec.upto fnExactIsReversibleSpec)) fnExactIsReversibleUptoCard

/-- THE SECOND FORM's CARD OF 'laws.FnExactNextOf'. -/
def fnExactNextOfUptoCard : Claim7 := { stood := { row := fnExactNextOfUptoRow, standIns := [], harness := (true, "1f9fd42af7e05914868dae5477c79c2c1e07884b2f8ce37d4b8682d37ae8803e"), looks := false }, kinds := [], alts := [], laidByText := true, laidKinds := [.data, .pinned], laidTests := true, laidLooks := .later }
def FnExactNextOfUptoCardSaid : Prop := Claim7.holds Tryd.pinned (.plain (OpenSpec.upto fnExactNextOfSpec)) fnExactNextOfUptoCard

/-- THE SECOND FORM's CARD OF 'laws.FnExactRenameNetwork'. -/
def fnExactRenameNetworkUptoCard : Claim7 := { stood := { row := fnExactRenameNetworkUptoRow, standIns := [], harness := (true, "1f9fd42af7e05914868dae5477c79c2c1e07884b2f8ce37d4b8682d37ae8803e"), looks := false }, kinds := [], alts := [], laidByText := true, laidKinds := [.data, .pinned], laidTests := true, laidLooks := .later }
def FnExactRenameNetworkUptoCardSaid : Prop := Claim7.holds Tryd.pinned (.plain (OpenSpec.upto fnExactRenameNetworkSpec)) fnExactRenameNetworkUptoCard

/-- THE SECOND FORM's CARD OF 'laws.FnExactCanReach'. -/
def fnExactCanReachUptoCard : Claim7 := { stood := { row := fnExactCanReachUptoRow, standIns := [], harness := (true, "1f9fd42af7e05914868dae5477c79c2c1e07884b2f8ce37d4b8682d37ae8803e"), looks := false }, kinds := [], alts := [], laidByText := true, laidKinds := [.data, .pinned], laidTests := true, laidLooks := .later }
def FnExactCanReachUptoCardSaid : Prop := Claim7.holds Tryd.pinned (.plain (OpenSpec.upto fnExactCanReachSpec)) fnExactCanReachUptoCard

/-- THE SECOND FORM's CARD OF 'laws.FnExactPeriodOf'. -/
def fnExactPeriodOfUptoCard : Claim7 := { stood := { row := fnExactPeriodOfUptoRow, standIns := [], harness := (true, "1f9fd42af7e05914868dae5477c79c2c1e07884b2f8ce37d4b8682d37ae8803e"), looks := false }, kinds := [], alts := [], laidByText := true, laidKinds := [.data, .pinned], laidTests := true, laidLooks := .later }
def FnExactPeriodOfUptoCardSaid : Prop := Claim7.holds Tryd.pinned (.plain (OpenSpec.upto fnExactPeriodOfSpec)) fnExactPeriodOfUptoCard

/-- THE SECOND FORM's CARD OF 'laws.FnExactBeforeOf'. -/
def fnExactBeforeOfUptoCard : Claim7 := { stood := { row := fnExactBeforeOfUptoRow, standIns := [], harness := (true, "1f9fd42af7e05914868dae5477c79c2c1e07884b2f8ce37d4b8682d37ae8803e"), looks := false }, kinds := [], alts := [], laidByText := true, laidKinds := [.data, .pinned], laidTests := true, laidLooks := .later }
def FnExactBeforeOfUptoCardSaid : Prop := Claim7.holds Tryd.pinned (.plain (OpenSpec.upto fnExactBeforeOfSpec)) fnExactBeforeOfUptoCard

/-- THE SECOND FORM's CARD OF 'laws.FnExactOrbitOf'. -/
def fnExactOrbitOfUptoCard : Claim7 := { stood := { row := fnExactOrbitOfUptoRow, standIns := [], harness := (true, "1f9fd42af7e05914868dae5477c79c2c1e07884b2f8ce37d4b8682d37ae8803e"), looks := false }, kinds := [], alts := [], laidByText := true, laidKinds := [.data, .pinned], laidTests := true, laidLooks := .later }
def FnExactOrbitOfUptoCardSaid : Prop := Claim7.holds Tryd.pinned (.plain (OpenSpec.upto fnExactOrbitOfSpec)) fnExactOrbitOfUptoCard
end Rows
end Go.Proofs.YtopdgbfaofdkaaaDoor
