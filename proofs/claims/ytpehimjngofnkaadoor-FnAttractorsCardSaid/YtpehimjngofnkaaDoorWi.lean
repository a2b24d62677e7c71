/- Walks of NetworkValid and IsReversible. -/
import Derived.Test.YtpehimjngofnkaaDoorProg
import Derived.WalkKit
import Derived.WalkSpells
import Derived.WalkLawsBesides
import Derived.Lib.Hide
import Derived.Test.YtpehimjngofnkaaDoorWz
import Derived.Test.YtpehimjngofnkaaDoorG3
namespace Go.Proofs.YtpehimjngofnkaaDoor
open Go.RowKit
set_option linter.unusedVariables false

def revN (ps : List (List UInt8)) : Bool := okN ps && (unrN ps).isEmpty

end Go.Proofs.YtpehimjngofnkaaDoor
