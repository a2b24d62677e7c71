/-
  DERIVED. GIVEN WITH THE SEED: THE CARDS: each row of YtpehimjngofnkaaDoorRows.lean that lists a variable, with what it lists TIED to the program's text (the seventh form; the later family's looks); each row that meets fmt, with fmt's text TOLD by the authors' own Lean function (tested against real Go, not proved from fmt's source: count such statements apart). THE CARD IS WHAT COUNTS. Prove the row's statement (the work); the ties are given (YtpehimjngofnkaaDoorTie.lean); close each card by the builder's one call (the guide's Derived/Test/ToyasCard.lean, 'card_holds'). Laid BY PROGRAM, IN A SANDBOX (cutbox-door.mjs). By AI agents, Wed Nov 11 2026. No macro, syntax, notation, axiom, sorry.
-/
import Derived.Test.YtpehimjngofnkaaDoorRows
import GoSem.ClaimSeven
namespace Go.Proofs.YtpehimjngofnkaaDoor
namespace Rows

/-- THE TIED CARD OF 'laws.FnExactMayReach'. -/
def fnExactMayReachCard : Claim7 := { stood := { row := fnExactMayReachRow, standIns := [], harness := (true, "ecba080d5020a7fef13d247c2becc88f68a4385db735f9d61fd71854224c7fbf"), looks := false }, kinds := [], alts := [], laidByText := true, laidKinds := [.data, .pinned], laidTests := true, laidLooks := .later }
def FnExactMayReachCardSaid : Prop := Claim7.holds Tryd.pinned (.plain (OpenSpec.ofChange fnExactMayReachSpec)) fnExactMayReachCard

/-- THE TIED CARD OF 'laws.FnExactAttractorsOf'. -/
def fnExactAttractorsOfCard : Claim7 := { stood := { row := fnExactAttractorsOfRow, standIns := [], harness := (true, "ecba080d5020a7fef13d247c2becc88f68a4385db735f9d61fd71854224c7fbf"), looks := false }, kinds := [], alts := [], laidByText := true, laidKinds := [.data, .pinned], laidTests := true, laidLooks := .later }
def FnExactAttractorsOfCardSaid : Prop := Claim7.holds Tryd.pinned (.plain (OpenSpec.ofChange fnExactAttractorsOfSpec)) fnExactAttractorsOfCard

/-- THE TIED CARD OF 'laws.FnExactOutcomesOf'. -/
def fnExactOutcomesOfCard : Claim7 := { stood := { row := fnExactOutcomesOfRow, standIns := [], harness := (true, "ecba080d5020a7fef13d247c2becc88f68a4385db735f9d61fd71854224c7fbf"), looks := false }, kinds := [], alts := [], laidByText := true, laidKinds := [.data, .pinned], laidTests := true, laidLooks := .later }
def FnExactOutcomesOfCardSaid : Prop := Claim7.holds Tryd.pinned (.plain (OpenSpec.ofChange fnExactOutcomesOfSpec)) fnExactOutcomesOfCard

/-- THE TIED CARD OF 'laws.FnExactMustReach'. -/
def fnExactMustReachCard : Claim7 := { stood := { row := fnExactMustReachRow, standIns := [], harness := (true, "ecba080d5020a7fef13d247c2becc88f68a4385db735f9d61fd71854224c7fbf"), looks := false }, kinds := [], alts := [], laidByText := true, laidKinds := [.data, .pinned], laidTests := true, laidLooks := .later }
def FnExactMustReachCardSaid : Prop := Claim7.holds Tryd.pinned (.plain (OpenSpec.ofChange fnExactMustReachSpec)) fnExactMustReachCard

/-- THE TIED CARD OF 'laws.FnOutcomes'. -/
def fnOutcomesCard : Claim7 := { stood := { row := fnOutcomesRow, standIns := [], harness := (true, "ecba080d5020a7fef13d247c2becc88f68a4385db735f9d61fd71854224c7fbf"), looks := false }, kinds := [], alts := [], laidByText := true, laidKinds := [.data, .pinned], laidTests := true, laidLooks := .later }
def FnOutcomesCardSaid : Prop := Claim7.holds Tryd.pinned (.plain (OpenSpec.ofChange fnOutcomesSpec)) fnOutcomesCard

/-- THE TIED CARD OF 'laws.FnAttractors'. -/
def fnAttractorsCard : Claim7 := { stood := { row := fnAttractorsRow, standIns := [], harness := (true, "ecba080d5020a7fef13d247c2becc88f68a4385db735f9d61fd71854224c7fbf"), looks := false }, kinds := [], alts := [], laidByText := true, laidKinds := [.data, .pinned], laidTests := true, laidLooks := .later }
def FnAttractorsCardSaid : Prop := Claim7.holds Tryd.pinned (.plain (OpenSpec.ofChange fnAttractorsSpec)) fnAttractorsCard

/-- THE TIED CARD OF 'laws.FnSteady'. -/
def fnSteadyCard : Claim7 := { stood := { row := fnSteadyRow, standIns := [], harness := (true, "ecba080d5020a7fef13d247c2becc88f68a4385db735f9d61fd71854224c7fbf"), looks := false }, kinds := [], alts := [], laidByText := true, laidKinds := [.data, .pinned], laidTests := true, laidLooks := .later }
def FnSteadyCardSaid : Prop := Claim7.holds Tryd.pinned (.plain (OpenSpec.ofChange fnSteadySpec)) fnSteadyCard

/-- THE TIED CARD OF 'laws.FnExactRenameNetwork'. -/
def fnExactRenameNetworkCard : Claim7 := { stood := { row := fnExactRenameNetworkRow, standIns := [], harness := (true, "ecba080d5020a7fef13d247c2becc88f68a4385db735f9d61fd71854224c7fbf"), looks := false }, kinds := [], alts := [], laidByText := true, laidKinds := [.data, .pinned], laidTests := true, laidLooks := .later }
def FnExactRenameNetworkCardSaid : Prop := Claim7.holds Tryd.pinned (.plain (OpenSpec.ofChange fnExactRenameNetworkSpec)) fnExactRenameNetworkCard

/-- THE TIED CARD OF 'laws.FnRenameNetwork'. -/
def fnRenameNetworkCard : Claim7 := { stood := { row := fnRenameNetworkRow, standIns := [], harness := (true, "ecba080d5020a7fef13d247c2becc88f68a4385db735f9d61fd71854224c7fbf"), looks := false }, kinds := [], alts := [], laidByText := true, laidKinds := [.data, .pinned], laidTests := true, laidLooks := .later }
def FnRenameNetworkCardSaid : Prop := Claim7.holds Tryd.pinned (.plain (OpenSpec.ofChange fnRenameNetworkSpec)) fnRenameNetworkCard

/-- THE TIED CARD OF 'laws.FnNetwork'. -/
def fnNetworkCard : Claim7 := { stood := { row := fnNetworkRow, standIns := [], harness := (true, "ecba080d5020a7fef13d247c2becc88f68a4385db735f9d61fd71854224c7fbf"), looks := false }, kinds := [], alts := [], laidByText := true, laidKinds := [.data, .pinned], laidTests := true, laidLooks := .later }
def FnNetworkCardSaid : Prop := Claim7.holds Tryd.pinned (.plain (OpenSpec.ofChange fnNetworkSpec)) fnNetworkCard

/-- THE TIED CARD OF 'laws.FnExactPathTo'. -/
def fnExactPathToCard : Claim7 := { stood := { row := fnExactPathToRow, standIns := [], harness := (true, "ecba080d5020a7fef13d247c2becc88f68a4385db735f9d61fd71854224c7fbf"), looks := false }, kinds := [], alts := [], laidByText := true, laidKinds := [.data, .pinned], laidTests := true, laidLooks := .later }
def FnExactPathToCardSaid : Prop := Claim7.holds Tryd.pinned (.plain (OpenSpec.ofChange fnExactPathToSpec)) fnExactPathToCard

/-- THE TIED CARD OF 'laws.FnPath'. -/
def fnPathCard : Claim7 := { stood := { row := fnPathRow, standIns := [], harness := (true, "ecba080d5020a7fef13d247c2becc88f68a4385db735f9d61fd71854224c7fbf"), looks := false }, kinds := [], alts := [], laidByText := true, laidKinds := [.data, .pinned], laidTests := true, laidLooks := .later }
def FnPathCardSaid : Prop := Claim7.holds Tryd.pinned (.plain (OpenSpec.ofChange fnPathSpec)) fnPathCard

/-- THE SECOND FORM's CARD OF 'laws.FnExactMayReach'. -/
def fnExactMayReachUptoCard : Claim7 := { stood := { row := fnExactMayReachUptoRow, standIns := [], harness := (true, "ecba080d5020a7fef13d247c2becc88f68a4385db735f9d61fd71854224c7fbf"), looks := false }, kinds := [], alts := [], laidByText := true, laidKinds := [.data, .pinned], laidTests := true, laidLooks := .later }
def FnExactMayReachUptoCardSaid : Prop := Claim7.holds Tryd.pinned (.plain (OpenSpec.upto fnExactMayReachSpec)) fnExactMayReachUptoCard

/-- THE SECOND FORM's CARD OF 'laws.FnExactAttractorsOf'. -/
def fnExactAttractorsOfUptoCard : Claim7 := { stood := { row := fnExactAttractorsOfUptoRow, standIns := [], harness := (true, "ecba080d5020a7fef13d247c2becc88f68a4385db735f9d61fd71854224c7fbf"), looks := false }, kinds := [], alts := [], laidByText := true, laidKinds := [.data, .pinned], laidTests := true, laidLooks := .later }
def FnExactAttractorsOfUptoCardSaid : Prop := Claim7.holds Tryd.pinned (.plain (OpenSpec.upto fnExactAttractorsOfSpec)) fnExactAttractorsOfUptoCard

/-- THE SECOND FORM's CARD OF 'laws.FnExactOutcomesOf'. -/
def fnExactOutcomesOfUptoCard : Claim7 := { stood := { row := fnExactOutcomesOfUptoRow, standIns := [], harness := (true, "ecba080d5020a7fef13d247c2becc88f68a4385db735f9d61fd71854224c7fbf"), looks := false }, kinds := [], alts := [], laidByText := true, laidKinds := [.data, .pinned], laidTests := true, laidLooks := .later }
def FnExactOutcomesOfUptoCardSaid : Prop := Claim7.holds Tryd.pinned (.plain (OpenSpec.upto fnExactOutcomesOfSpec)) fnExactOutcomesOfUptoCard

/-- THE SECOND FORM's CARD OF 'laws.FnExactMustReach'. -/
def fnExactMustReachUptoCard : Claim7 := { stood := { row := fnExactMustReachUptoRow, standIns := [], harness := (true, "ecba080d5020a7fef13d247c2becc88f68a4385db735f9d61fd71854224c7fbf"), looks := false }, kinds := [], alts := [], laidByText := true, laidKinds := [.data, .pinned], laidTests := true, laidLooks := .later }
def FnExactMustReachUptoCardSaid : Prop := Claim7.holds Tryd.pinned (.plain (OpenSpec.upto fnExactMustReachSpec)) fnExactMustReachUptoCard

/-- THE SECOND FORM's CARD OF 'laws.FnOutcomes'. -/
def fnOutcomesUptoCard : Claim7 := { stood := { row := fnOutcomesUptoRow, standIns := [], harness := (true, "ecba080d5020a7fef13d247c2becc88f68a4385db735f9d61fd71854224c7fbf"), looks := false }, kinds := [], alts := [], laidByText := true, laidKinds := [.data, .pinned], laidTests := true, laidLooks := .later }
def FnOutcomesUptoCardSaid : Prop := Claim7.holds Tryd.pinned (.plain (OpenSpec.upto fnOutcomesSpec)) fnOutcomesUptoCard

/-- THE SECOND FORM's CARD OF 'laws.FnAttractors'. -/
def fnAttractorsUptoCard : Claim7 := { stood := { row := fnAttractorsUptoRow, standIns := [], harness := (true, "ecba080d5020a7fef13d247c2becc88f68a4385db735f9d61fd71854224c7fbf"), looks := false }, kinds := [], alts := [], laidByText := true, laidKinds := [.data, .pinned], laidTests := true, laidLooks := .later }
def FnAttractorsUptoCardSaid : Prop := Claim7.holds Tryd.pinned (.plain (OpenSpec.upto fnAttractorsSpec)) fnAttractorsUptoCard

/-- THE SECOND FORM's CARD OF 'laws.FnSteady'. -/
def fnSteadyUptoCard : Claim7 := { stood := { row := fnSteadyUptoRow, standIns := [], harness := (true, "ecba080d5020a7fef13d247c2becc88f68a4385db735f9d61fd71854224c7fbf"), looks := false }, kinds := [], alts := [], laidByText := true, laidKinds := [.data, .pinned], laidTests := true, laidLooks := .later }
def FnSteadyUptoCardSaid : Prop := Claim7.holds Tryd.pinned (.plain (OpenSpec.upto fnSteadySpec)) fnSteadyUptoCard

/-- THE SECOND FORM's CARD OF 'laws.FnExactRenameNetwork'. -/
def fnExactRenameNetworkUptoCard : Claim7 := { stood := { row := fnExactRenameNetworkUptoRow, standIns := [], harness := (true, "ecba080d5020a7fef13d247c2becc88f68a4385db735f9d61fd71854224c7fbf"), looks := false }, kinds := [], alts := [], laidByText := true, laidKinds := [.data, .pinned], laidTests := true, laidLooks := .later }
def FnExactRenameNetworkUptoCardSaid : Prop := Claim7.holds Tryd.pinned (.plain (OpenSpec.upto fnExactRenameNetworkSpec)) fnExactRenameNetworkUptoCard

/-- THE SECOND FORM's CARD OF 'laws.FnRenameNetwork'. -/
def fnRenameNetworkUptoCard : Claim7 := { stood := { row := fnRenameNetworkUptoRow, standIns := [], harness := (true, "ecba080d5020a7fef13d247c2becc88f68a4385db735f9d61fd71854224c7fbf"), looks := false }, kinds := [], alts := [], laidByText := true, laidKinds := [.data, .pinned], laidTests := true, laidLooks := .later }
def FnRenameNetworkUptoCardSaid : Prop := Claim7.holds Tryd.pinned (.plain (OpenSpec.upto fnRenameNetworkSpec)) fnRenameNetworkUptoCard

/-- THE SECOND FORM's CARD OF 'laws.FnNetwork'. -/
def fnNetworkUptoCard : Claim7 := { stood := { row := fnNetworkUptoRow, standIns := [], harness := (true, "ecba080d5020a7fef13d247c2becc88f68a4385db735f9d61fd71854224c7fbf"), looks := false }, kinds := [], alts := [], laidByText := true, laidKinds := [.data, .pinned], laidTests := true, laidLooks := .later }
def FnNetworkUptoCardSaid : Prop := Claim7.holds Tryd.pinned (.plain (OpenSpec.upto fnNetworkSpec)) fnNetworkUptoCard

/-- THE SECOND FORM's CARD OF 'laws.FnExactPathTo'. -/
def fnExactPathToUptoCard : Claim7 := { stood := { row := fnExactPathToUptoRow, standIns := [], harness := (true, "ecba080d5020a7fef13d247c2becc88f68a4385db735f9d61fd71854224c7fbf"), looks := false }, kinds := [], alts := [], laidByText := true, laidKinds := [.data, .pinned], laidTests := true, laidLooks := .later }
def FnExactPathToUptoCardSaid : Prop := Claim7.holds Tryd.pinned (.plain (OpenSpec.upto fnExactPathToSpec)) fnExactPathToUptoCard

/-- THE SECOND FORM's CARD OF 'laws.FnPath'. -/
def fnPathUptoCard : Claim7 := { stood := { row := fnPathUptoRow, standIns := [], harness := (true, "ecba080d5020a7fef13d247c2becc88f68a4385db735f9d61fd71854224c7fbf"), looks := false }, kinds := [], alts := [], laidByText := true, laidKinds := [.data, .pinned], laidTests := true, laidLooks := .later }
def FnPathUptoCardSaid : Prop := Claim7.holds Tryd.pinned (.plain (OpenSpec.upto fnPathSpec)) fnPathUptoCard
end Rows
end Go.Proofs.YtpehimjngofnkaaDoor
