/- Walks of the functions on orbits. -/
import Derived.Test.YtpehimjngofnkaaDoorProg
import Derived.WalkKit
import Derived.WalkSpells
import Derived.WalkLawsBesides
import Derived.Lib.Hide
import Derived.Deep.QuietTactic
import Derived.BigQuiet
import Derived.Test.YtpehimjngofnkaaDoorWy
import Derived.Test.YtpehimjngofnkaaDoorMo
namespace Go.Proofs.YtpehimjngofnkaaDoor
open Go.RowKit
set_option linter.unusedVariables false

def lenV : Value → Nat
  | .slice _ n _ => n
  | _ => 0
theorem OI.lenV {w : World} {B : Nat} {e : TypeId} {v : Value} {xs : List Int} (h : OI w B e v xs) : lenV v = xs.length := by
  obtain ⟨A, c, rfl, _⟩ := h.form
  rfl

theorem clipD_any (A : Option Addr) (n c : Nat) (w : World) (h : n ≤ c) (hm : n ≤ 9223372036854775807) :
    Calls Tryd.prog 69 #[.slice A n c] w fun e w' => e = .returned (.slice A n n) ∧ w = w' := by
  go_enter Tryd.func69, Tryd.ntmps69
  go_wp2
  go_ret
  exact ⟨rfl, rfl⟩

end Go.Proofs.YtpehimjngofnkaaDoor
