/- Walks of the functions on states and hulls. -/
import Derived.Test.YtddnibpldjdhpaaProg
import Derived.WalkKit
import Derived.WalkSpells
import Derived.WalkLawsBesides
import Derived.Lib.Hide
import Derived.Deep.QuietTactic
import Derived.BigQuiet
import Derived.Test.YtddnibpldjdhpaaWt
import Derived.Test.YtddnibpldjdhpaaMb
namespace Go.Proofs.Ytddnibpldjdhpaa
open Go.RowKit

theorem info_u8 : (Try.prog.info? 5).map (fun i => (i.zero, i.size, i.bytes)) = some (some (.int .u8 0), 1, 1) := by kernel_rfl
theorem info_int : (Try.prog.info? 3).map (fun i => (i.zero, i.size, i.bytes)) = some (some (.int .i64 0), 1, 8) := by kernel_rfl

theorem l1Bit_any (s i : Nat) (w : World) (hs : s < 4294967296) (hi : i < 64) :
    Calls Try.prog 45 #[.int .i64 (s : Int), .int .i64 (i : Int)] w fun e w' => e = .returned (.int .i64 (bit s i : Int)) ∧ w = w' := by
  have hb := bit_and s i (by omega)
  go_enter Try.func45, Try.ntmps45
  go_wp2
  go_ret
  exact ⟨rfl, rfl⟩

theorem fmt_row {s n k : Nat} {w : World} {g : Nat} (hk : k < n) (h : BytesAt w g (fmtL s k ++ List.replicate (n - k) 0)) :
    BytesAt (w.setCell ⟨g, k, none⟩ (.int .u8 (48 + (bit s k : Int)))) g (fmtL s (k + 1) ++ List.replicate (n - (k + 1)) 0) := by
  have h1 := h.set_ k (dig s k)
  rw [dig_toNat] at h1
  have e : (fmtL s k ++ List.replicate (n - k) 0).set k (dig s k) = fmtL s (k + 1) ++ List.replicate (n - (k + 1)) 0 := by
    rw [List.set_append_right _ _ (by rw [fmtL_length]; omega), fmtL_length, Nat.sub_self, fmtL_succ]
    rw [show n - k = (n - (k + 1)) + 1 by omega, List.replicate_succ, List.set_cons_zero]
    simp
  rw [e] at h1
  simpa using h1
theorem formatState_any (s n : Nat) (w : World) (hs : s < 4294967296) (hn : n ≤ 63) :
    Calls Try.prog 46 #[.int .i64 (s : Int), .int .i64 (n : Int)] w fun e w' => e = .returned (.string ⟨(fmtL s n).toArray⟩) ∧ Below w.heap.size w w' := by
  have hmk := fun W => make_row Try.underlying33 info_u8 rfl n (by omega) (by omega) W
  go_enter Try.func46, Try.ntmps46
  go_wp2
  go_loopw [11] (fun i wr => ∃ k : Nat, k ≤ n ∧ i = .int .i64 k ∧ Hid (BytesAt wr w.heap.size (fmtL s k ++ List.replicate (n - k) 0)) ∧ Below w.heap.size w wr ∧ w.heap.size < wr.heap.size) (fun i _ => n - (intOf i).toNat)
  case atStart => exact ⟨0, Nat.zero_le _, rfl, Lib.hid (BytesAt.made w n _), (Below.refl _ _).alloc (Nat.le_refl _) _, by simp⟩
  case round =>
    obtain ⟨k, hk, rfl, HR, hB, hz⟩ := hrel
    have hrow := HR.out
    by_cases hlt : k < n
    · obtain ⟨hc1, hc2⟩ := hrow.at_ (j := k) (c := 0) (by
        rw [List.getElem?_append_right (by rw [fmtL_length]; omega), fmtL_length, Nat.sub_self]
        rw [show n - k = (n - (k + 1)) + 1 by omega, List.replicate_succ]; rfl)
      clear hrow
      have hb := bit_and s k (by omega)
      have hb2 : (bit s k : Int) < 2 := by have := bit_lt s k; omega
      go_wp2
      go_roundw
      case rel => exact ⟨k + 1, by omega, by go_num, Lib.hid (fmt_row hlt HR.out), hB.setCell (Nat.le_refl _) _, by rw [setCell_size]; omega⟩
      case measure => simp [intOf]; omega
    · have hkn : k = n := by omega
      subst hkn
      have hback := conv_back (P := Try.prog) wr 33 9 5 w.heap.size k k (fmtL s k) (fmtL_length s k).symm Try.underlying33 Try.underlying5 Try.underlying9 (by simpa using hrow)
      clear hrow
      go_wp2
      go_ret
      exact ⟨rfl, hB⟩

set_option maxHeartbeats 400000 in
theorem hasState_any (t : ByteArray) (s : Nat) (w : World) (ht : t.size ≤ 63) (hs : s < 4294967296) (hok : Hid (t.data.toList.all okc = true)) :
    Calls Try.prog 48 #[.string t, .int .i64 (s : Int)] w fun e w' => e = .returned (.bool (hasS t.data.toList s)) ∧ ∃ n, w.drewN n = w' := by
  go_enter Try.func48, Try.ntmps48
  go_wp2
  go_loopw [5] (fun i wr => ∃ k : Nat, k ≤ t.size ∧ i = .int .i64 k ∧ Hid (hasS (t.data.toList.take k) s = true) ∧ ∃ n, wr = w.drewN n) (fun i _ => t.size - (intOf i).toNat)
  case atStart => exact ⟨0, Nat.zero_le _, rfl, Lib.hid rfl, 0, rfl⟩
  case round =>
    obtain ⟨k, hk, rfl, HA, n, rfl⟩ := hrel
    by_cases hlt : k < t.size
    · have hb := bit_and s k (by omega)
      have hb2 : (bit s k : Int) < 2 := by have := bit_lt s k; omega
      have hkc : okc t[k] = true := List.all_eq_true.1 hok.out _ (List.getElem_mem (l := t.data.toList) (by simpa using hlt))
      by_cases h42 : (t[k].toNat : Int) = 42
      · have hd : ((t[k].toNat : Int) != 42) = false := by simp [h42]
        have HF := Lib.hid (hasS_step (s := s) hlt HA.out (by simp [fits]; omega))
        clear h42 hkc
        go_wp2
        go_quiet (fail)
        go_wp2
        go_roundw
        case rel => exact ⟨k + 1, by omega, by go_num, HF, _, rfl⟩
        case measure => simp [intOf]; omega
      · have hd : ((t[k].toNat : Int) != 42) = true := by simpa using h42
        have hr : 48 ≤ (t[k].toNat : Int) ∧ (t[k].toNat : Int) ≤ 49 := by simp [okc] at hkc; omega
        obtain ⟨hr1, hr2⟩ := hr
        by_cases hf : (t[k].toNat : Int) - 48 = bit s k
        · have HF := Lib.hid (hasS_step (s := s) hlt HA.out (by simp [fits]; omega))
          have hd2 : (((t[k].toNat : Int) - 48) != (bit s k : Int)) = false := by simp [hf]
          clear h42 hkc hf
          go_wp2
          go_quiet (fail)
          go_wp2
          go_roundw
          case rel => exact ⟨k + 1, by omega, by go_num, HF, _, rfl⟩
          case measure => simp [intOf]; omega
        · have HF := Lib.hid (hasS_stop (s := s) hlt (by simp [fits]; omega))
          have hd2 : (((t[k].toNat : Int) - 48) != (bit s k : Int)) = true := by simpa using hf
          clear h42 hkc hf
          go_wp2
          go_quiet (fail)
          go_wp2
          go_ret
          exact ⟨ret_bool HF.out.symm, _, (drewN2 _ _ _).symm⟩
    · have HF : Hid (hasS t.data.toList s = true) := Lib.hid (by have := HA.out; rwa [show k = t.size by omega, take_all] at this)
      go_wp2
      go_ret
      exact ⟨ret_bool HF.out.symm, _, rfl⟩

set_option maxHeartbeats 400000 in
theorem l2Has_any (t : ByteArray) (s : Nat) (w : World) (ht : t.size ≤ 63) (hs : s < 4294967296) (hok : Hid (t.data.toList.all okc = true)) :
    Calls Try.prog 47 #[.string t, .int .i64 (s : Int)] w fun e w' => e = .returned (.bool (hasS t.data.toList s)) ∧ ∃ n, w.drewN n = w' := by
  go_enter Try.func47, Try.ntmps47
  go_wp2
  go_loopw [5] (fun i wr => ∃ k : Nat, k ≤ t.size ∧ i = .int .i64 k ∧ Hid (hasS (t.data.toList.take k) s = true) ∧ ∃ n, wr = w.drewN n) (fun i _ => t.size - (intOf i).toNat)
  case atStart => exact ⟨0, Nat.zero_le _, rfl, Lib.hid rfl, 0, rfl⟩
  case round =>
    obtain ⟨k, hk, rfl, HA, n, rfl⟩ := hrel
    by_cases hlt : k < t.size
    · have hb := bit_and s k (by omega)
      have hb2 : (bit s k : Int) < 2 := by have := bit_lt s k; omega
      have hkc : okc t[k] = true := List.all_eq_true.1 hok.out _ (List.getElem_mem (l := t.data.toList) (by simpa using hlt))
      by_cases h42 : (t[k].toNat : Int) = 42
      · have hd : ((t[k].toNat : Int) != 42) = false := by simp [h42]
        have HF := Lib.hid (hasS_step (s := s) hlt HA.out (by simp [fits]; omega))
        clear h42 hkc
        go_wp2
        go_quiet (fail)
        go_wp2
        go_roundw
        case rel => exact ⟨k + 1, by omega, by go_num, HF, _, rfl⟩
        case measure => simp [intOf]; omega
      · have hd : ((t[k].toNat : Int) != 42) = true := by simpa using h42
        have hr : 48 ≤ (t[k].toNat : Int) ∧ (t[k].toNat : Int) ≤ 49 := by simp [okc] at hkc; omega
        obtain ⟨hr1, hr2⟩ := hr
        by_cases hf : (t[k].toNat : Int) - 48 = bit s k
        · have HF := Lib.hid (hasS_step (s := s) hlt HA.out (by simp [fits]; omega))
          have hd2 : (((t[k].toNat : Int) - 48) != (bit s k : Int)) = false := by simp [hf]
          clear h42 hkc hf
          go_wp2
          go_quiet ((go_at_call 45; exact quiet_add_left (l1Bit_any _ _ _ (by omega) (by omega))))
          go_wp2
          go_roundw
          case rel => exact ⟨k + 1, by omega, by go_num, HF, _, rfl⟩
          case measure => simp [intOf]; omega
        · have HF := Lib.hid (hasS_stop (s := s) hlt (by simp [fits]; omega))
          have hd2 : (((t[k].toNat : Int) - 48) != (bit s k : Int)) = true := by simpa using hf
          clear h42 hkc hf
          go_wp2
          go_quiet ((go_at_call 45; exact quiet_add_left (l1Bit_any _ _ _ (by omega) (by omega))))
          go_wp2
          go_ret
          exact ⟨ret_bool HF.out.symm, _, (drewN2 _ _ _).symm⟩
    · have HF : Hid (hasS t.data.toList s = true) := Lib.hid (by have := HA.out; rwa [show k = t.size by omega, take_all] at this)
      go_wp2
      go_ret
      exact ⟨ret_bool HF.out.symm, _, rfl⟩

end Go.Proofs.Ytddnibpldjdhpaa
