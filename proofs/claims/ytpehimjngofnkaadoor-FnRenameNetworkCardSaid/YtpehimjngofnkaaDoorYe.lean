/- Walks: networks renamed, on both sides. -/
import Derived.Test.YtpehimjngofnkaaDoorProg
import Derived.WalkKit
import Derived.WalkSpells
import Derived.WalkLawsBesides
import Derived.Lib.Hide
import Derived.Deep.QuietTactic
import Derived.BigQuiet
import Derived.Test.YtpehimjngofnkaaDoorMy
import Derived.Test.YtpehimjngofnkaaDoorG2
namespace Go.Proofs.YtpehimjngofnkaaDoor
open Go.RowKit
set_option linter.unusedVariables false

theorem or_shift {o v t : Nat} (ho : o < 32) (hv : v < 2) (ht : t < 5) : bits .or .i64 (o : Int) (wrap64 ((v : Int) * 2 ^ t)) = ((o ||| v * 2 ^ t : Nat) : Int) := by
  have h2 : 2 ^ t ≤ 2 ^ 4 := Nat.pow_le_pow_right (by omega) (by omega)
  have h3 : v * 2 ^ t ≤ 1 * 2 ^ 4 := Nat.mul_le_mul (by omega) h2
  have e : ((v : Int) * 2 ^ t) = ((v * 2 ^ t : Nat) : Int) := by simp
  rw [e, wrap64_small _ (by omega)]
  exact i64_or_nat _ _ (by omega) (by omega)
theorem ord_get {p : List Nat} {n k : Nat} (h : Ord p n) (hk : k < n) : ∃ t, t < n ∧ p.getD k 0 = t ∧ ((ints p).map (Value.int .i64))[k]? = some (.int .i64 (t : Int)) := by
  have hkp : k < p.length := by rw [h.len]; exact hk
  exact ⟨p[k], h.lt _ (List.getElem_mem _), by rw [List.getD_eq_getElem?_getD, List.getElem?_eq_getElem hkp]; rfl, ints_at hkp⟩

theorem l3Move_any (A : Option Addr) (c s n : Nat) (p : List Nat) (w : World) (hx : Hid (Rd w A ((ints p).map (Value.int .i64)))) (ho : Hid (Ord p n)) (hn5 : n ≤ 5) (hs : s < 32) :
    Calls Tryd.prog 84 #[.int .i64 (s : Int), .slice A n c] w fun e w' => e = .returned (.int .i64 (movF p s : Int)) ∧ ∃ m, w.drewN m = w' := by
  have HL := Lib.hid ho.out.len
  go_enter Tryd.func84, Tryd.ntmps84
  go_wp2
  go_loopw [5, 6] (fun o i wr => ∃ k q : Nat, k ≤ n ∧ i = .int .i64 k ∧ o = .int .i64 q ∧ Hid (q = movTo p s k) ∧ ∃ m, wr = w.drewN m) (fun _ i _ => n - (intOf i).toNat)
  case atStart => exact ⟨0, 0, Nat.zero_le _, rfl, rfl, rfl, 0, rfl⟩
  case round =>
    obtain ⟨k, q, hk, rfl, rfl, HQ, m, rfl⟩ := hrel
    by_cases hlt : k < n
    · obtain ⟨t, htn, ht, hget⟩ := ord_get ho.out hlt
      obtain ⟨g, off, hA, hc⟩ := hx.out.at_ hget
      subst hA
      have hq32 : q < 32 := by rw [HQ.out]; exact Nat.lt_of_lt_of_le (movTo_lt ho.out s k hk) (two_le n hn5)
      have ht5 : t < 5 := by omega
      have hb := bit_lt s k
      have e1 := or_shift hq32 hb ht5
      have HQ2 : Hid (q ||| bit s k * 2 ^ t = movTo p s (k + 1)) := Lib.hid (by rw [movTo, ← HQ.out, ht])
      rw [HQ2.out] at e1
      clear ht
      go_wp2
      go_quiet (first | (go_at_call 118; first | exact quiet_left (l1Bit_any _ _ _ (by omega) (by omega)) | exact quiet_add_left (l1Bit_any _ _ _ (by omega) (by omega))))
      go_wp2
      go_roundw
      case rel => exact ⟨k + 1, _, by omega, by go_num, rfl, rfl, _, rfl⟩
      case measure => simp [intOf]; omega
    · have hkn : k = n := by omega
      subst hkn
      go_wp2
      go_ret
      exact ⟨by rw [movF, HL.out, ← HQ.out]; rfl, m, rfl⟩

set_option maxHeartbeats 1000000 in
theorem l3Order_any (A : Option Addr) (c n : Nat) (to : List Int) (w : World) (hx : Hid (Rd w A (to.map (Value.int .i64)))) (hn5 : n ≤ 5) (hl : to.length ≤ 1048576) :
    Calls Tryd.prog 82 #[.slice A to.length c, .int .i64 (n : Int)] w fun e w' => e = .returned (.bool (okO to n)) ∧ w = w' := by
  go_enter Tryd.func82, Tryd.ntmps82
  go_wp2
  go_loop [5, 6] (fun o i => ∃ (k q : Nat) (p : List Nat), k ≤ to.length ∧ i = .int .i64 k ∧ o = .int .i64 q ∧ Hid (to.take k = ints p ∧ OrdI p n q)) (fun _ i => to.length - (intOf i).toNat)
  case atStart => exact ⟨0, 0, [], Nat.zero_le _, rfl, rfl, Lib.hid ⟨rfl, OrdI.nil n⟩⟩
  case round =>
    obtain ⟨k, q, p, hk, rfl, rfl, HP⟩ := hrel
    have hq32 := HP.out.2.q32
    by_cases hlt : k < to.length
    · obtain ⟨x, HX⟩ : ∃ x, Hid (x = to[k]) := ⟨_, Lib.hid rfl⟩
      obtain ⟨g, off, hA, hc⟩ := hx.out.int hlt
      subst hA
      rw [← HX.out] at hc
      by_cases hr : 0 ≤ x ∧ x < n
      · obtain ⟨t, rfl⟩ : ∃ t : Nat, x = (t : Int) := ⟨x.toNat, by omega⟩
        have htn : t < n := by omega
        have ht5 : t < 5 := by omega
        have hIn : (decide ((0 : Int) ≤ (t : Int)) && decide ((t : Int) ≤ (n : Int) - 1)) = true := by simp; omega
        have hb := HP.out.2.bits t htn
        by_cases hm : t ∈ p
        · have HV : Hid (okO to n = false) := Lib.hid (okO_dup hlt (by rw [HP.out.1, ← HX.out]; exact ints_mem.2 hm))
          rw [if_pos hm] at hb
          clear hm
          go_wp2_with (first | (go_at_call 99; refine (l1In_any _ _ _ _).mono ?_; rintro e w2 ⟨rfl, rfl⟩; rw [hIn]) | (go_at_call 118; refine (l1Bit_any _ _ _ (by omega) (by omega)).mono ?_; rintro e w2 ⟨rfl, rfl⟩; rw [hb]))
          go_ret
          exact ⟨by rw [HV.out]; rfl, rfl⟩
        · have HP2 : Hid (to.take (k + 1) = ints (p ++ [t]) ∧ OrdI (p ++ [t]) n (q ||| 2 ^ t)) := Lib.hid ⟨by rw [List.take_succ_eq_append_getElem hlt, HP.out.1, ← HX.out, ints_append]; rfl, HP.out.2.snoc hn5 htn hm⟩
          rw [if_neg hm] at hb
          have e1 : bits .or .i64 (q : Int) (wrap64 (2 ^ t)) = ((q ||| 2 ^ t : Nat) : Int) := by
            have h := or_shift hq32 (show 1 < 2 by omega) ht5
            rw [Nat.one_mul] at h
            rw [← h]; simp
          clear hm
          go_wp2_with (first | (go_at_call 99; refine (l1In_any _ _ _ _).mono ?_; rintro e w2 ⟨rfl, rfl⟩; rw [hIn]) | (go_at_call 118; refine (l1Bit_any _ _ _ (by omega) (by omega)).mono ?_; rintro e w2 ⟨rfl, rfl⟩; rw [hb]))
          go_round
          case rel => exact ⟨k + 1, _, _, by omega, by go_num, rfl, HP2⟩
          case measure => simp [intOf]; omega
      · have HV : Hid (okO to n = false) := Lib.hid (okO_range (List.getElem_mem hlt) (by rw [← HX.out]; exact hr))
        have hIn : (decide ((0 : Int) ≤ x) && decide (x ≤ (n : Int) - 1)) = false := by
          simp only [Bool.and_eq_false_iff, decide_eq_false_iff_not]; omega
        clear hr
        go_wp2_with (go_at_call 99; refine (l1In_any _ _ _ _).mono ?_; rintro e w2 ⟨rfl, rfl⟩; rw [hIn])
        go_ret
        exact ⟨by rw [HV.out]; rfl, rfl⟩
    · have hkn : k = to.length := by omega
      subst hkn
      have HV : Hid (okO to n = decide (to.length = n)) := Lib.hid (by
        have h1 := HP.out.1
        rw [List.take_length] at h1
        rw [h1]; exact HP.out.2.okO)
      go_wp2
      go_ret
      exact ⟨ret_bool (by rw [HV.out, Bool.eq_iff_iff]; simp; omega), rfl⟩

end Go.Proofs.YtpehimjngofnkaaDoor
