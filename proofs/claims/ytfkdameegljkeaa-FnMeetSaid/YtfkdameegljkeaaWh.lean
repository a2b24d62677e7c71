/- Walks of the functions on states and hulls. -/
import Derived.Test.YtfkdameegljkeaaProg
import Derived.WalkKit
import Derived.WalkSpells
import Derived.WalkLawsBesides
import Derived.Lib.Hide
import Derived.Deep.QuietTactic
import Derived.BigQuiet
import Derived.Test.YtfkdameegljkeaaWt
import Derived.Test.YtfkdameegljkeaaMb
namespace Go.Proofs.Ytfkdameegljkeaa
open Go.RowKit

theorem info_u8 : (Try.prog.info? 5).map (fun i => (i.zero, i.size, i.bytes)) = some (some (.int .u8 0), 1, 1) := by kernel_rfl
theorem info_int : (Try.prog.info? 3).map (fun i => (i.zero, i.size, i.bytes)) = some (some (.int .i64 0), 1, 8) := by kernel_rfl

set_option maxHeartbeats 400000 in
theorem hasState_any (t : ByteArray) (s : Nat) (w : World) (ht : t.size ≤ 63) (hs : s < 4294967296) (hok : Hid (t.data.toList.all okc = true)) :
    Calls Try.prog 30 #[.string t, .int .i64 (s : Int)] w fun e w' => e = .returned (.bool (hasS t.data.toList s)) ∧ ∃ n, w.drewN n = w' := by
  go_enter Try.func30, Try.ntmps30
  go_wp2
  go_loopw [5] (fun i wr => ∃ k : Nat, k ≤ t.size ∧ i = .int .i64 k ∧ Hid (hasS (t.data.toList.take k) s = true) ∧ ∃ n, wr = w.drewN n) (fun i _ => t.size - (intOf i).toNat)
  case atStart => exact ⟨0, Nat.zero_le _, rfl, Lib.hid rfl, 0, rfl⟩
  case round =>
    obtain ⟨k, hk, rfl, HA, n, rfl⟩ := hrel
    by_cases hlt : k < t.size
    · have hb := bit_and s k (by omega)
      have hb2 : (bit s k : Int) < 2 := by have := bit_lt s k; omega
      have hkc : okc t[k] = true := List.all_eq_true.1 hok.out _ (List.getElem_mem (l := t.data.toList) (by simpa using hlt))
      by_cases h42 : (t[k].toNat : Int) = 42
      · have hd : ((t[k].toNat : Int) != 42) = false := by simp [h42]
        have HF := Lib.hid (hasS_step (s := s) hlt HA.out (by simp [fits]; omega))
        clear h42 hkc
        go_wp2
        go_quiet (fail)
        go_wp2
        go_roundw
        case rel => exact ⟨k + 1, by omega, by go_num, HF, _, rfl⟩
        case measure => simp [intOf]; omega
      · have hd : ((t[k].toNat : Int) != 42) = true := by simpa using h42
        have hr : 48 ≤ (t[k].toNat : Int) ∧ (t[k].toNat : Int) ≤ 49 := by simp [okc] at hkc; omega
        obtain ⟨hr1, hr2⟩ := hr
        by_cases hf : (t[k].toNat : Int) - 48 = bit s k
        · have HF := Lib.hid (hasS_step (s := s) hlt HA.out (by simp [fits]; omega))
          have hd2 : (((t[k].toNat : Int) - 48) != (bit s k : Int)) = false := by simp [hf]
          clear h42 hkc hf
          go_wp2
          go_quiet (fail)
          go_wp2
          go_roundw
          case rel => exact ⟨k + 1, by omega, by go_num, HF, _, rfl⟩
          case measure => simp [intOf]; omega
        · have HF := Lib.hid (hasS_stop (s := s) hlt (by simp [fits]; omega))
          have hd2 : (((t[k].toNat : Int) - 48) != (bit s k : Int)) = true := by simpa using hf
          clear h42 hkc hf
          go_wp2
          go_quiet (fail)
          go_wp2
          go_ret
          exact ⟨ret_bool HF.out.symm, _, (drewN2 _ _ _).symm⟩
    · have HF : Hid (hasS t.data.toList s = true) := Lib.hid (by have := HA.out; rwa [show k = t.size by omega, take_all] at this)
      go_wp2
      go_ret
      exact ⟨ret_bool HF.out.symm, _, rfl⟩

end Go.Proofs.Ytfkdameegljkeaa
