/- Walks: slices of integers, the states of a term. -/
import Derived.Test.YtfaidbngingjpaaDoorProg
import Derived.WalkKit
import Derived.WalkSpells
import Derived.WalkLawsBesides
import Derived.Lib.Hide
import Derived.Deep.QuietTactic
import Derived.BigQuiet
import Derived.Test.YtfaidbngingjpaaDoorWs
namespace Go.Proofs.YtfaidbngingjpaaDoor
open Go.RowKit

set_option maxHeartbeats 400000 in
theorem statesOf_any (t : ByteArray) (w : World) (ht : t.size ≤ 5) (hok : Hid (t.data.toList.all okc = true)) :
    Calls Tryd.prog 126 #[.string t] w fun e w' => RetI w.heap.size (ints (stL t.data.toList)) e w' ∧ Below w.heap.size w w' := by
  obtain ⟨N, HN, hN, hNb, _⟩ := wrap_two t.size ht
  rw [stL_of HN.out]
  go_enter Tryd.func126, Tryd.ntmps126
  go_wp2
  simp only [hN]
  go_loopw [3, 8] (fun v i wr => ∃ k : Nat, k ≤ N ∧ i = .int .i64 k ∧ Hid (OI wr w.heap.size 3 v (ints (sel k (hasS t.data.toList)))) ∧ Below w.heap.size w wr) (fun _ i _ => N - (intOf i).toNat)
  case atStart => exact ⟨0, Nat.zero_le _, rfl, Lib.hid (OI.nil _ _ _), Below.refl _ _⟩
  case round =>
    obtain ⟨k, hk, rfl, HO, hB⟩ := hrel
    have hsz := hB.size
    have hlen : (ints (sel k (hasS t.data.toList))).length ≤ k := by rw [ints_length]; exact sel_len _ _
    by_cases hlt : k < N
    · by_cases hs : hasS t.data.toList k = true
      · have HS := Lib.hid (sel_yesI hs)
        go_wp2_with (first
          | (go_at_call 127; refine (hasState_any _ _ _ (by omega) (by omega) hok).mono ?_; rintro e w2 ⟨rfl, n, rfl⟩)
          | (at_builtin; refine wp_pushI rfl _ _ _ rfl Tryd.underlying22 info_int (HO.out.drewN n) rfl rfl (by omega) hsz ?_; intro v' w3 hown hbel hsz3))
        go_roundw
        case rel => exact ⟨k + 1, by omega, by go_num, Lib.hid (by rw [HS.out]; exact hown), (below_drewN hB _).trans (hbel _ (Nat.le_refl _))⟩
        case measure => simp [intOf]; omega
      · have hs' : hasS t.data.toList k = false := by simpa using hs
        have HS := Lib.hid (sel_noI hs')
        clear hs
        go_wp2_with (go_at_call 127; refine (hasState_any _ _ _ (by omega) (by omega) hok).mono ?_; rintro e w2 ⟨rfl, n, rfl⟩)
        go_roundw
        case rel => exact ⟨k + 1, by omega, by go_num, Lib.hid (by rw [HS.out]; exact HO.out.drewN n), below_drewN hB _⟩
        case measure => simp [intOf]; omega
    · have hkn : k = N := by omega
      subst hkn
      go_wp2_with (go_at_call 105; refine (clip_any _ _ _ _ _ HO.out).mono ?_; rintro e w2 ⟨⟨A, c, rfl, hc, hO⟩, rfl⟩)
      go_ret
      exact ⟨⟨A, c, rfl, hc, hO⟩, hB⟩

end Go.Proofs.YtfaidbngingjpaaDoor
