/- Walks: the table that is 1 where both are, the table of a term (the program's side). -/
import Derived.Test.YtfkdameegljkeaaProg
import Derived.WalkKit
import Derived.WalkSpells
import Derived.WalkLawsBesides
import Derived.Lib.Hide
import Derived.Deep.QuietTactic
import Derived.Deep.RegionHeld3
import Derived.BigQuiet
import Derived.BigFrame
import Derived.Test.YtfkdameegljkeaaP1
import Derived.Test.YtfkdameegljkeaaWh
namespace Go.Proofs.Ytfkdameegljkeaa
open Go.RowKit
set_option linter.unusedVariables false

theorem closed_And : ∀ (args : Array Value) (W : World), (callFunc 16 args).run Try.prog W = .ok (.enter 16 args) W := fun _ _ => by kernel_rfl
theorem and_bits : ∀ x, x < 2 → ∀ y, y < 2 → bits .and .u8 ((x : Nat) : Int) ((y : Nat) : Int) = ((x * y : Nat) : Int) := by decide +kernel
theorem And1_any (x y : Nat) (w : World) (hx : x < 2) (hy : y < 2) :
    Calls Try.prog 16 #[.int .u8 (x : Int), .int .u8 (y : Int)] w fun e w' => e = .returned (.int .u8 ((x * y : Nat) : Int)) ∧ w = w' := by
  have h := and_bits x hx y hy
  go_enter Try.func16, Try.ntmps16
  go_wp2
  go_ret
  exact ⟨by first | rfl | rw [h], rfl⟩

theorem joinTables1_any (p5 p8 p10 F s x y z : Nat) (caps : Array Value) (w : World) (h5 : w.cell? ⟨p5, 0, none⟩ = some (.func (.func F) #[] caps)) (h8 : w.cell? ⟨p8, 1 + s, none⟩ = some (.int .u8 (x : Int))) (h10 : w.cell? ⟨p10, 1 + s, none⟩ = some (.int .u8 (y : Int)))
    (hF : ∀ (args : Array Value) (W : World), (callFunc F args).run Try.prog W = .ok (.enter F args) W) (hC : Hid (∀ W, Calls Try.prog F (#[.int .u8 (x : Int), .int .u8 (y : Int)] ++ caps) W fun e w' => e = .returned (.int .u8 (z : Int)) ∧ W = w')) (hs : s < 32) :
    Calls Try.prog 32 #[.int .i64 (s : Int), .pointer (some ⟨p5, 0, none⟩), .pointer (some ⟨p8, 0, none⟩), .pointer (some ⟨p10, 0, none⟩)] w fun e w' => e = .returned (.int .u8 (z : Int)) ∧ Below w.heap.size w w' := by
  have hl5 : p5 < w.heap.size := World.block_lt_of_cell? w _ h5
  have hs0 : (0 : Int) ≤ (s : Int) := by omega
  have hs1 : (s : Int) < 32 := by omega
  have hsn : ((s : Int)).toNat = s := by omega
  go_enter Try.func32, Try.ntmps32
  go_wp2_with fail
  go_region_held3 (fun w' => w'.cell? ⟨p5, 0, none⟩ = some (.func (.func F) #[] caps) ∧ w'.cell? ⟨p8, 1 + s, none⟩ = some (.int .u8 (x : Int)) ∧ w'.cell? ⟨p10, 1 + s, none⟩ = some (.int .u8 (y : Int))) (go_keep)
    (first | (refine (hC.out _).mono ?_; rintro e w' ⟨rfl, rfl⟩))
  go_wp2
  go_ret
  exact ⟨rfl, drewN_below w 1⟩

end Go.Proofs.Ytfkdameegljkeaa
