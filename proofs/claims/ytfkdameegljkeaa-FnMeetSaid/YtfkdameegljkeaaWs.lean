/- Walks: slices of integers, the states of a term. -/
import Derived.Test.YtfkdameegljkeaaProg
import Derived.WalkKit
import Derived.WalkSpells
import Derived.WalkLawsBesides
import Derived.Lib.Hide
import Derived.Deep.QuietTactic
import Derived.BigQuiet
import Derived.Test.YtfkdameegljkeaaWh
namespace Go.Proofs.Ytfkdameegljkeaa
open Go.RowKit

end Go.Proofs.Ytfkdameegljkeaa
