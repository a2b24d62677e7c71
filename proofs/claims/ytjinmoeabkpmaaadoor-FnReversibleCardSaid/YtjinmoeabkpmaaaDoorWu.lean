/- Walks: slices of integers, the states of a term. -/
import Derived.Test.YtjinmoeabkpmaaaDoorProg
import Derived.WalkKit
import Derived.WalkSpells
import Derived.WalkLawsBesides
import Derived.Lib.Hide
import Derived.Deep.QuietTactic
import Derived.BigQuiet
import Derived.Test.YtjinmoeabkpmaaaDoorWs
namespace Go.Proofs.YtjinmoeabkpmaaaDoor
open Go.RowKit

end Go.Proofs.YtjinmoeabkpmaaaDoor
