/-
  DERIVED. GIVEN WITH THE SEED: THE CARDS: each row of YtfaidbngingjpaaDoorRows.lean that lists a variable, with what it lists TIED to the program's text (the seventh form; the later family's looks); each row that meets fmt, with fmt's text TOLD by the authors' own Lean function (tested against real Go, not proved from fmt's source: count such statements apart). THE CARD IS WHAT COUNTS. Prove the row's statement (the work); the ties are given (YtfaidbngingjpaaDoorTie.lean); close each card by the builder's one call (the guide's Derived/Test/ToyasCard.lean, 'card_holds'). Laid BY PROGRAM, IN A SANDBOX (cutbox-door.mjs). By AI agents, Wed Nov 11 2026. No macro, syntax, notation, axiom, sorry.
-/
import Derived.Test.YtfaidbngingjpaaDoorRows
import GoSem.ClaimSeven
namespace Go.Proofs.YtfaidbngingjpaaDoor
namespace Rows

/-- THE TIED CARD OF 'laws.FnExactUnreachedOf'. -/
def fnExactUnreachedOfCard : Claim7 := { stood := { row := fnExactUnreachedOfRow, standIns := [], harness := (true, "1c7899229ed5fcd8c96f20748681da0b06ab247f8efdc4d9722c30aeecf73bf6"), looks := false }, kinds := [], alts := [], laidByText := true, laidKinds := [.data, .pinned], laidTests := true, laidLooks := .later }
def FnExactUnreachedOfCardSaid : Prop := Claim7.holds Tryd.pinned (.plain (OpenSpec.ofChange fnExactUnreachedOfSpec)) fnExactUnreachedOfCard

/-- THE TIED CARD OF 'laws.FnRenameNetwork'. -/
def fnRenameNetworkCard : Claim7 := { stood := { row := fnRenameNetworkRow, standIns := [], harness := (true, "1c7899229ed5fcd8c96f20748681da0b06ab247f8efdc4d9722c30aeecf73bf6"), looks := false }, kinds := [], alts := [], laidByText := true, laidKinds := [.data, .pinned], laidTests := true, laidLooks := .later }
def FnRenameNetworkCardSaid : Prop := Claim7.holds Tryd.pinned (.plain (OpenSpec.ofChange fnRenameNetworkSpec)) fnRenameNetworkCard

/-- THE TIED CARD OF 'laws.FnExactIsSteady'. -/
def fnExactIsSteadyCard : Claim7 := { stood := { row := fnExactIsSteadyRow, standIns := [], harness := (true, "1c7899229ed5fcd8c96f20748681da0b06ab247f8efdc4d9722c30aeecf73bf6"), looks := false }, kinds := [], alts := [], laidByText := true, laidKinds := [.data, .pinned], laidTests := true, laidLooks := .later }
def FnExactIsSteadyCardSaid : Prop := Claim7.holds Tryd.pinned (.plain (OpenSpec.ofChange fnExactIsSteadySpec)) fnExactIsSteadyCard

/-- THE TIED CARD OF 'laws.FnExactIsTrap'. -/
def fnExactIsTrapCard : Claim7 := { stood := { row := fnExactIsTrapRow, standIns := [], harness := (true, "1c7899229ed5fcd8c96f20748681da0b06ab247f8efdc4d9722c30aeecf73bf6"), looks := false }, kinds := [], alts := [], laidByText := true, laidKinds := [.data, .pinned], laidTests := true, laidLooks := .later }
def FnExactIsTrapCardSaid : Prop := Claim7.holds Tryd.pinned (.plain (OpenSpec.ofChange fnExactIsTrapSpec)) fnExactIsTrapCard

/-- THE TIED CARD OF 'laws.FnExactReachableFrom'. -/
def fnExactReachableFromCard : Claim7 := { stood := { row := fnExactReachableFromRow, standIns := [], harness := (true, "1c7899229ed5fcd8c96f20748681da0b06ab247f8efdc4d9722c30aeecf73bf6"), looks := false }, kinds := [], alts := [], laidByText := true, laidKinds := [.data, .pinned], laidTests := true, laidLooks := .later }
def FnExactReachableFromCardSaid : Prop := Claim7.holds Tryd.pinned (.plain (OpenSpec.ofChange fnExactReachableFromSpec)) fnExactReachableFromCard

/-- THE TIED CARD OF 'laws.FnExactTurnNetwork'. -/
def fnExactTurnNetworkCard : Claim7 := { stood := { row := fnExactTurnNetworkRow, standIns := [], harness := (true, "1c7899229ed5fcd8c96f20748681da0b06ab247f8efdc4d9722c30aeecf73bf6"), looks := false }, kinds := [], alts := [], laidByText := true, laidKinds := [.data, .pinned], laidTests := true, laidLooks := .later }
def FnExactTurnNetworkCardSaid : Prop := Claim7.holds Tryd.pinned (.plain (OpenSpec.ofChange fnExactTurnNetworkSpec)) fnExactTurnNetworkCard

/-- THE TIED CARD OF 'laws.FnExactSpreadTerm'. -/
def fnExactSpreadTermCard : Claim7 := { stood := { row := fnExactSpreadTermRow, standIns := [], harness := (true, "1c7899229ed5fcd8c96f20748681da0b06ab247f8efdc4d9722c30aeecf73bf6"), looks := false }, kinds := [], alts := [], laidByText := true, laidKinds := [.data, .pinned], laidTests := true, laidLooks := .later }
def FnExactSpreadTermCardSaid : Prop := Claim7.holds Tryd.pinned (.plain (OpenSpec.ofChange fnExactSpreadTermSpec)) fnExactSpreadTermCard

/-- THE TIED CARD OF 'laws.FnExactCycleOf'. -/
def fnExactCycleOfCard : Claim7 := { stood := { row := fnExactCycleOfRow, standIns := [], harness := (true, "1c7899229ed5fcd8c96f20748681da0b06ab247f8efdc4d9722c30aeecf73bf6"), looks := false }, kinds := [], alts := [], laidByText := true, laidKinds := [.data, .pinned], laidTests := true, laidLooks := .later }
def FnExactCycleOfCardSaid : Prop := Claim7.holds Tryd.pinned (.plain (OpenSpec.ofChange fnExactCycleOfSpec)) fnExactCycleOfCard

/-- THE TIED CARD OF 'laws.FnExactTrapsOf'. -/
def fnExactTrapsOfCard : Claim7 := { stood := { row := fnExactTrapsOfRow, standIns := [], harness := (true, "1c7899229ed5fcd8c96f20748681da0b06ab247f8efdc4d9722c30aeecf73bf6"), looks := false }, kinds := [], alts := [], laidByText := true, laidKinds := [.data, .pinned], laidTests := true, laidLooks := .later }
def FnExactTrapsOfCardSaid : Prop := Claim7.holds Tryd.pinned (.plain (OpenSpec.ofChange fnExactTrapsOfSpec)) fnExactTrapsOfCard

/-- THE TIED CARD OF 'laws.FnFixedPoints'. -/
def fnFixedPointsCard : Claim7 := { stood := { row := fnFixedPointsRow, standIns := [], harness := (true, "1c7899229ed5fcd8c96f20748681da0b06ab247f8efdc4d9722c30aeecf73bf6"), looks := false }, kinds := [], alts := [], laidByText := true, laidKinds := [.data, .pinned], laidTests := true, laidLooks := .later }
def FnFixedPointsCardSaid : Prop := Claim7.holds Tryd.pinned (.plain (OpenSpec.ofChange fnFixedPointsSpec)) fnFixedPointsCard

/-- THE TIED CARD OF 'laws.FnExactBasinOf'. -/
def fnExactBasinOfCard : Claim7 := { stood := { row := fnExactBasinOfRow, standIns := [], harness := (true, "1c7899229ed5fcd8c96f20748681da0b06ab247f8efdc4d9722c30aeecf73bf6"), looks := false }, kinds := [], alts := [], laidByText := true, laidKinds := [.data, .pinned], laidTests := true, laidLooks := .later }
def FnExactBasinOfCardSaid : Prop := Claim7.holds Tryd.pinned (.plain (OpenSpec.ofChange fnExactBasinOfSpec)) fnExactBasinOfCard

/-- THE TIED CARD OF 'laws.FnExactPathTo'. -/
def fnExactPathToCard : Claim7 := { stood := { row := fnExactPathToRow, standIns := [], harness := (true, "1c7899229ed5fcd8c96f20748681da0b06ab247f8efdc4d9722c30aeecf73bf6"), looks := false }, kinds := [], alts := [], laidByText := true, laidKinds := [.data, .pinned], laidTests := true, laidLooks := .later }
def FnExactPathToCardSaid : Prop := Claim7.holds Tryd.pinned (.plain (OpenSpec.ofChange fnExactPathToSpec)) fnExactPathToCard

/-- THE SECOND FORM's CARD OF 'laws.FnExactUnreachedOf'. -/
def fnExactUnreachedOfUptoCard : Claim7 := { stood := { row := fnExactUnreachedOfUptoRow, standIns := [], harness := (true, "1c7899229ed5fcd8c96f20748681da0b06ab247f8efdc4d9722c30aeecf73bf6"), looks := false }, kinds := [], alts := [], laidByText := true, laidKinds := [.data, .pinned], laidTests := true, laidLooks := .later }
def FnExactUnreachedOfUptoCardSaid : Prop := Claim7.holds Tryd.pinned (.plain (OpenSpec.upto fnExactUnreachedOfSpec)) fnExactUnreachedOfUptoCard

/-- THE SECOND FORM's CARD OF 'laws.FnRenameNetwork'. -/
def fnRenameNetworkUptoCard : Claim7 := { stood := { row := fnRenameNetworkUptoRow, standIns := [], harness := (true, "1c7899229ed5fcd8c96f20748681da0b06ab247f8efdc4d9722c30aeecf73bf6"), looks := false }, kinds := [], alts := [], laidByText := true, laidKinds := [.data, .pinned], laidTests := true, laidLooks := .later }
def FnRenameNetworkUptoCardSaid : Prop := Claim7.holds Tryd.pinned (.plain (OpenSpec.upto fnRenameNetworkSpec)) fnRenameNetworkUptoCard

/-- THE SECOND FORM's CARD OF 'laws.FnExactIsSteady'. -/
def fnExactIsSteadyUptoCard : Claim7 := { stood := { row := fnExactIsSteadyUptoRow, standIns := [], harness := (true, "1c7899229ed5fcd8c96f20748681da0b06ab247f8efdc4d9722c30aeecf73bf6"), looks := false }, kinds := [], alts := [], laidByText := true, laidKinds := [.data, .pinned], laidTests := true, laidLooks := .later }
def FnExactIsSteadyUptoCardSaid : Prop := Claim7.holds Tryd.pinned (.plain (OpenSpec.upto fnExactIsSteadySpec)) fnExactIsSteadyUptoCard

/-- THE SECOND FORM's CARD OF 'laws.FnExactIsTrap'. -/
def fnExactIsTrapUptoCard : Claim7 := { stood := { row := fnExactIsTrapUptoRow, standIns := [], harness := (true, "1c7899229ed5fcd8c96f20748681da0b06ab247f8efdc4d9722c30aeecf73bf6"), looks := false }, kinds := [], alts := [], laidByText := true, laidKinds := [.data, .pinned], laidTests := true, laidLooks := .later }
def FnExactIsTrapUptoCardSaid : Prop := Claim7.holds Tryd.pinned (.plain (OpenSpec.upto fnExactIsTrapSpec)) fnExactIsTrapUptoCard

/-- THE SECOND FORM's CARD OF 'laws.FnExactReachableFrom'. -/
def fnExactReachableFromUptoCard : Claim7 := { stood := { row := fnExactReachableFromUptoRow, standIns := [], harness := (true, "1c7899229ed5fcd8c96f20748681da0b06ab247f8efdc4d9722c30aeecf73bf6"), looks := false }, kinds := [], alts := [], laidByText := true, laidKinds := [.data, .pinned], laidTests := true, laidLooks := .later }
def FnExactReachableFromUptoCardSaid : Prop := Claim7.holds Tryd.pinned (.plain (OpenSpec.upto fnExactReachableFromSpec)) fnExactReachableFromUptoCard

/-- THE SECOND FORM's CARD OF 'laws.FnExactTurnNetwork'. -/
def fnExactTurnNetworkUptoCard : Claim7 := { stood := { row := fnExactTurnNetworkUptoRow, standIns := [], harness := (true, "1c7899229ed5fcd8c96f20748681da0b06ab247f8efdc4d9722c30aeecf73bf6"), looks := false }, kinds := [], alts := [], laidByText := true, laidKinds := [.data, .pinned], laidTests := true, laidLooks := .later }
def FnExactTurnNetworkUptoCardSaid : Prop := Claim7.holds Tryd.pinned (.plain (OpenSpec.upto fnExactTurnNetworkSpec)) fnExactTurnNetworkUptoCard

/-- THE SECOND FORM's CARD OF 'laws.FnExactSpreadTerm'. -/
def fnExactSpreadTermUptoCard : Claim7 := { stood := { row := fnExactSpreadTermUptoRow, standIns := [], harness := (true, "1c7899229ed5fcd8c96f20748681da0b06ab247f8efdc4d9722c30aeecf73bf6"), looks := false }, kinds := [], alts := [], laidByText := true, laidKinds := [.data, .pinned], laidTests := true, laidLooks := .later }
def FnExactSpreadTermUptoCardSaid : Prop := Claim7.holds Tryd.pinned (.plain (OpenSpec.upto fnExactSpreadTermSpec)) fnExactSpreadTermUptoCard

/-- THE SECOND FORM's CARD OF 'laws.FnExactCycleOf'. -/
def fnExactCycleOfUptoCard : Claim7 := { stood := { row := fnExactCycleOfUptoRow, standIns := [], harness := (true, "1c7899229ed5fcd8c96f20748681da0b06ab247f8efdc4d9722c30aeecf73bf6"), looks := false }, kinds := [], alts := [], laidByText := true, laidKinds := [.data, .pinned], laidTests := true, laidLooks := .later }
def FnExactCycleOfUptoCardSaid : Prop := Claim7.holds Tryd.pinned (.plain (OpenSpec.upto fnExactCycleOfSpec)) fnExactCycleOfUptoCard

/-- THE SECOND FORM's CARD OF 'laws.FnExactTrapsOf'. -/
def fnExactTrapsOfUptoCard : Claim7 := { stood := { row := fnExactTrapsOfUptoRow, standIns := [], harness := (true, "1c7899229ed5fcd8c96f20748681da0b06ab247f8efdc4d9722c30aeecf73bf6"), looks := false }, kinds := [], alts := [], laidByText := true, laidKinds := [.data, .pinned], laidTests := true, laidLooks := .later }
def FnExactTrapsOfUptoCardSaid : Prop := Claim7.holds Tryd.pinned (.plain (OpenSpec.upto fnExactTrapsOfSpec)) fnExactTrapsOfUptoCard

/-- THE SECOND FORM's CARD OF 'laws.FnFixedPoints'. -/
def fnFixedPointsUptoCard : Claim7 := { stood := { row := fnFixedPointsUptoRow, standIns := [], harness := (true, "1c7899229ed5fcd8c96f20748681da0b06ab247f8efdc4d9722c30aeecf73bf6"), looks := false }, kinds := [], alts := [], laidByText := true, laidKinds := [.data, .pinned], laidTests := true, laidLooks := .later }
def FnFixedPointsUptoCardSaid : Prop := Claim7.holds Tryd.pinned (.plain (OpenSpec.upto fnFixedPointsSpec)) fnFixedPointsUptoCard

/-- THE SECOND FORM's CARD OF 'laws.FnExactBasinOf'. -/
def fnExactBasinOfUptoCard : Claim7 := { stood := { row := fnExactBasinOfUptoRow, standIns := [], harness := (true, "1c7899229ed5fcd8c96f20748681da0b06ab247f8efdc4d9722c30aeecf73bf6"), looks := false }, kinds := [], alts := [], laidByText := true, laidKinds := [.data, .pinned], laidTests := true, laidLooks := .later }
def FnExactBasinOfUptoCardSaid : Prop := Claim7.holds Tryd.pinned (.plain (OpenSpec.upto fnExactBasinOfSpec)) fnExactBasinOfUptoCard

/-- THE SECOND FORM's CARD OF 'laws.FnExactPathTo'. -/
def fnExactPathToUptoCard : Claim7 := { stood := { row := fnExactPathToUptoRow, standIns := [], harness := (true, "1c7899229ed5fcd8c96f20748681da0b06ab247f8efdc4d9722c30aeecf73bf6"), looks := false }, kinds := [], alts := [], laidByText := true, laidKinds := [.data, .pinned], laidTests := true, laidLooks := .later }
def FnExactPathToUptoCardSaid : Prop := Claim7.holds Tryd.pinned (.plain (OpenSpec.upto fnExactPathToSpec)) fnExactPathToUptoCard
end Rows
end Go.Proofs.YtfaidbngingjpaaDoor
