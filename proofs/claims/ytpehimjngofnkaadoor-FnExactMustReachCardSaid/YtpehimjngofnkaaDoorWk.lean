/- Walks of the functions on hulls. -/
import Derived.Test.YtpehimjngofnkaaDoorProg
import Derived.WalkKit
import Derived.WalkSpells
import Derived.WalkLawsBesides
import Derived.Lib.Hide
import Derived.Deep.QuietTactic
import Derived.BigQuiet
import Derived.Test.YtpehimjngofnkaaDoorWs
namespace Go.Proofs.YtpehimjngofnkaaDoor
open Go.RowKit

end Go.Proofs.YtpehimjngofnkaaDoor
