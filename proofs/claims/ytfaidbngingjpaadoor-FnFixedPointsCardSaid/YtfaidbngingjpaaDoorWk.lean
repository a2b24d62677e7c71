/- Walks of the functions on hulls. -/
import Derived.Test.YtfaidbngingjpaaDoorProg
import Derived.WalkKit
import Derived.WalkSpells
import Derived.WalkLawsBesides
import Derived.Lib.Hide
import Derived.Deep.QuietTactic
import Derived.BigQuiet
import Derived.Test.YtfaidbngingjpaaDoorWs
namespace Go.Proofs.YtfaidbngingjpaaDoor
open Go.RowKit

theorem BytesAt.one (w : World) (c : UInt8) (e : TypeId) : BytesAt (w.alloc (.cells #[.int .u8 (c.toNat : Int)] e)) w.heap.size [c] := by
  intro j hj
  have hj' : j = 0 := by simpa using hj
  subst hj'
  exact ⟨by rw [cell_new]; rfl, frozen_new _ _ _ _⟩
set_option maxRecDepth 100000 in
theorem l14Dec_any (d : Nat) (w : World) (hd : d < 10) :
    Calls Tryd.prog 130 #[.int .i64 (d : Int)] w fun e w' => e = .returned (.string ⟨[chr d].toArray⟩) ∧ Below w.heap.size w w' := by
  have hb := BytesAt.one w (chr d) 5
  have ht := chr_toNat d hd
  rw [ht] at hb
  have hback := conv_back (P := Tryd.prog) _ 27 9 5 w.heap.size 1 1 [chr d] rfl Tryd.underlying27 Tryd.underlying5 Tryd.underlying9 hb
  rw [show (((48 + d : Nat) : Int)) = 48 + (d : Int) by omega] at hback
  clear hb ht
  have h0 : (d : Int) ≤ 9 := by omega
  have h1 : (0 : Int) ≤ (d : Int) := by omega
  go_enter Tryd.func130, Tryd.ntmps130
  go_wp2_with fail
  go_loopw [0, 3] (fun n o wr => n = .int .i64 (d : Int) ∧ o = .string ⟨#[]⟩ ∧ wr = w) (fun _ _ _ => 0)
  case atStart => exact ⟨rfl, rfl, rfl⟩
  case round =>
    obtain ⟨rfl, rfl, rfl⟩ := hrel
    go_wp2
    go_ret
    exact ⟨by rw [show ({ data := #[] } : ByteArray) = ⟨([] : List UInt8).toArray⟩ from rfl, str_append]; rfl, (Below.refl _ _).alloc (Nat.le_refl _) _⟩

end Go.Proofs.YtfaidbngingjpaaDoor
