/-
  DERIVED. GIVEN WITH THE SEED: THE CARDS: each row of YtfkdameegljkeaaDoorRows.lean that lists a variable, with what it lists TIED to the program's text (the seventh form; the later family's looks); each row that meets fmt, with fmt's text TOLD by the authors' own Lean function (tested against real Go, not proved from fmt's source: count such statements apart). THE CARD IS WHAT COUNTS. Prove the row's statement (the work); the ties are given (YtfkdameegljkeaaDoorTie.lean); close each card by the builder's one call (the guide's Derived/Test/ToyasCard.lean, 'card_holds'). Laid BY PROGRAM, IN A SANDBOX (cutbox-door.mjs). By AI agents, Wed Nov 11 2026. No macro, syntax, notation, axiom, sorry.
-/
import Derived.Test.YtfkdameegljkeaaDoorRows
import GoSem.ClaimSeven
namespace Go.Proofs.YtfkdameegljkeaaDoor
namespace Rows

/-- THE TIED CARD OF 'laws.FnMust'. -/
def fnMustCard : Claim7 := { stood := { row := fnMustRow, standIns := [], harness := (true, "da64f7e51814b3f70edd0153c0f2e5684f7a81818349606b40454b664cfddaaa"), looks := true }, kinds := [], alts := [], laidByText := true, laidKinds := [.data, .pinned], laidTests := true, laidLooks := .later }
def FnMustCardSaid : Prop := Claim7.holds Tryd.pinned (.plain (OpenSpec.ofChange fnMustSpec)) fnMustCard

/-- THE TIED CARD OF 'laws.FnExactSpreadTerm'. -/
def fnExactSpreadTermCard : Claim7 := { stood := { row := fnExactSpreadTermRow, standIns := [], harness := (true, "da64f7e51814b3f70edd0153c0f2e5684f7a81818349606b40454b664cfddaaa"), looks := true }, kinds := [], alts := [], laidByText := true, laidKinds := [.data, .pinned], laidTests := true, laidLooks := .later }
def FnExactSpreadTermCardSaid : Prop := Claim7.holds Tryd.pinned (.plain (OpenSpec.ofChange fnExactSpreadTermSpec)) fnExactSpreadTermCard

/-- THE TIED CARD OF 'laws.FnNetworkOf'. -/
def fnNetworkOfCard : Claim7 := { stood := { row := fnNetworkOfRow, standIns := [], harness := (true, "da64f7e51814b3f70edd0153c0f2e5684f7a81818349606b40454b664cfddaaa"), looks := true }, kinds := [], alts := [], laidByText := true, laidKinds := [.data, .pinned], laidTests := true, laidLooks := .later }
def FnNetworkOfCardSaid : Prop := Claim7.holds Tryd.pinned (.plain (OpenSpec.ofChange fnNetworkOfSpec)) fnNetworkOfCard

/-- THE SECOND FORM's CARD OF 'laws.FnMust'. -/
def fnMustUptoCard : Claim7 := { stood := { row := fnMustUptoRow, standIns := [], harness := (true, "da64f7e51814b3f70edd0153c0f2e5684f7a81818349606b40454b664cfddaaa"), looks := true }, kinds := [], alts := [], laidByText := true, laidKinds := [.data, .pinned], laidTests := true, laidLooks := .later }
def FnMustUptoCardSaid : Prop := Claim7.holds Tryd.pinned (.plain (OpenSpec.upto fnMustSpec)) fnMustUptoCard

/-- THE SECOND FORM's CARD OF 'laws.FnExactSpreadTerm'. -/
def fnExactSpreadTermUptoCard : Claim7 := { stood := { row := fnExactSpreadTermUptoRow, standIns := [], harness := (true, "da64f7e51814b3f70edd0153c0f2e5684f7a81818349606b40454b664cfddaaa"), looks := true }, kinds := [], alts := [], laidByText := true, laidKinds := [.data, .pinned], laidTests := true, laidLooks := .later }
def FnExactSpreadTermUptoCardSaid : Prop := Claim7.holds Tryd.pinned (.plain (OpenSpec.upto fnExactSpreadTermSpec)) fnExactSpreadTermUptoCard

/-- THE SECOND FORM's CARD OF 'laws.FnNetworkOf'. -/
def fnNetworkOfUptoCard : Claim7 := { stood := { row := fnNetworkOfUptoRow, standIns := [], harness := (true, "da64f7e51814b3f70edd0153c0f2e5684f7a81818349606b40454b664cfddaaa"), looks := true }, kinds := [], alts := [], laidByText := true, laidKinds := [.data, .pinned], laidTests := true, laidLooks := .later }
def FnNetworkOfUptoCardSaid : Prop := Claim7.holds Tryd.pinned (.plain (OpenSpec.upto fnNetworkOfSpec)) fnNetworkOfUptoCard
end Rows
end Go.Proofs.YtfkdameegljkeaaDoor
