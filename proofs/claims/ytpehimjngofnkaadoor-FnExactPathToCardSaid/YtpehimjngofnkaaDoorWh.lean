/- Walks of the functions on states and hulls. -/
import Derived.Test.YtpehimjngofnkaaDoorProg
import Derived.WalkKit
import Derived.WalkSpells
import Derived.WalkLawsBesides
import Derived.Lib.Hide
import Derived.Deep.QuietTactic
import Derived.BigQuiet
import Derived.Test.YtpehimjngofnkaaDoorWt
import Derived.Test.YtpehimjngofnkaaDoorMb
namespace Go.Proofs.YtpehimjngofnkaaDoor
open Go.RowKit

theorem info_u8 : (Tryd.prog.info? 5).map (fun i => (i.zero, i.size, i.bytes)) = some (some (.int .u8 0), 1, 1) := by kernel_rfl
theorem info_int : (Tryd.prog.info? 3).map (fun i => (i.zero, i.size, i.bytes)) = some (some (.int .i64 0), 1, 8) := by kernel_rfl

theorem l1Bit_any (s i : Nat) (w : World) (hs : s < 4294967296) (hi : i < 64) :
    Calls Tryd.prog 118 #[.int .i64 (s : Int), .int .i64 (i : Int)] w fun e w' => e = .returned (.int .i64 (bit s i : Int)) ∧ w = w' := by
  have hb := bit_and s i (by omega)
  go_enter Tryd.func118, Tryd.ntmps118
  go_wp2
  go_ret
  exact ⟨rfl, rfl⟩

end Go.Proofs.YtpehimjngofnkaaDoor
