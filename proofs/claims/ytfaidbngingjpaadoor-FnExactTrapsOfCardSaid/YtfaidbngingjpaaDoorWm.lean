/- The walk of MeetTerms: what each returns. -/
import Derived.Test.YtfaidbngingjpaaDoorProg
import Derived.WalkKit
import Derived.WalkSpells
import Derived.WalkLawsBesides
import Derived.Lib.Hide
import Derived.Deep.QuietTactic
import Derived.BigQuiet
import Derived.Test.YtfaidbngingjpaaDoorWt
namespace Go.Proofs.YtfaidbngingjpaaDoor
open Go.RowKit

end Go.Proofs.YtfaidbngingjpaaDoor
