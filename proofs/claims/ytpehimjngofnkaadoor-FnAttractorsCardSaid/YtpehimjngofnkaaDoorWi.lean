/- Walks of NetworkValid and IsReversible. -/
import Derived.Test.YtpehimjngofnkaaDoorProg
import Derived.WalkKit
import Derived.WalkSpells
import Derived.WalkLawsBesides
import Derived.Lib.Hide
import Derived.Test.YtpehimjngofnkaaDoorWz
namespace Go.Proofs.YtpehimjngofnkaaDoor
open Go.RowKit
set_option linter.unusedVariables false

def revN (ps : List (List UInt8)) : Bool := okN ps && (unrN ps).isEmpty

theorem NetworkValid_any (s : ByteArray) (w : World) (hm : Hid (HasM w)) (hs : s.size ≤ 1073741824) :
    Calls Tryd.prog 36 #[.string s] w fun e w' => e = .returned (.bool (okN (cutL s.data.toList))) ∧ Below w.heap.size w w' := by
  go_enter Tryd.func36, Tryd.ntmps36
  go_wp2_with fail
  refine (readNetwork_any s w hm hs).mono ?_
  rintro e w1 ⟨⟨A, k0, c, rfl, himp⟩, hB1⟩
  clear himp
  go_wp2
  go_ret
  exact ⟨rfl, hB1⟩

end Go.Proofs.YtpehimjngofnkaaDoor
