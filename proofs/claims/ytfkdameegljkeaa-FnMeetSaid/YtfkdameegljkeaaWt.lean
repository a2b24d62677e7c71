/- Walks of the functions on terms: what each returns. -/
import Derived.Test.YtfkdameegljkeaaProg
import Derived.WalkKit
import Derived.WalkSpells
import Derived.WalkLawsBesides
import Derived.Lib.Hide
import Derived.Deep.QuietTactic
import Derived.BigQuiet
import Derived.Test.YtfkdameegljkeaaMe
namespace Go.Proofs.Ytfkdameegljkeaa
open Go.RowKit

set_option maxHeartbeats 400000 in
theorem termValid_any (t : ByteArray) (n : Int) (w : World) (ht : t.size ≤ 9223372036854775807) :
    Calls Try.prog 7 #[.string t, .int .i64 n] w fun e w' => e = .returned (.bool (TV t.data.toList n)) ∧ w = w' := by
  by_cases hn : n < 1
  · go_enter Try.func7, Try.ntmps7
    go_wp2
    go_ret
    exact ⟨ret_bool (TV_lo hn).symm, rfl⟩
  by_cases hn5 : 5 < n
  · go_enter Try.func7, Try.ntmps7
    go_wp2
    go_ret
    exact ⟨ret_bool (TV_hi hn5).symm, rfl⟩
  by_cases hl : (t.size : Int) = n
  · have H := Lib.hid (TV_all (l := t.data.toList) hn hn5 (by simpa using hl))
    obtain ⟨hl1, hl2⟩ : (t.size : Int) ≤ n ∧ n ≤ t.size := by omega
    have hne : ((t.size : Int) != n) = false := by simp [hl]
    clear hl
    go_enter Try.func7, Try.ntmps7
    go_wp2
    go_loop [19] (fun i => ∃ k : Nat, k ≤ t.size ∧ i = .int .i64 k ∧ (t.data.toList.take k).all okc = true) (fun i => t.size - (intOf i).toNat)
    case atStart => exact ⟨0, Nat.zero_le _, rfl, rfl⟩
    case round =>
      obtain ⟨k, hk, rfl, hall⟩ := hrel
      have HA := Lib.hid hall
      clear hall
      by_cases hlt : k < t.size
      · by_cases h0 : okc t[k] = true
        · have HS := Lib.hid (all_take_snoc hlt HA.out h0)
          have HO := Lib.hid h0
          clear h0
          go_wp2
          all_goals first
            | (go_round
               case rel => exact ⟨k + 1, by omega, by go_num, HS.out⟩
               case measure => simp [intOf]; omega)
            | (exfalso
               have := HO.out
               simp [okc] at this
               simp at *
               omega)
        · have HO := Lib.hid (TV_bad (n := n) (all_take_bad hlt (by simpa using h0)))
          have HP := Lib.hid h0
          clear h0
          go_wp2
          all_goals first
            | (go_ret
               exact ⟨ret_bool HO.out.symm, rfl⟩)
            | (exfalso
               have := HP.out
               simp [okc] at this
               simp at *
               omega)
      · have he : TV t.data.toList n = true := by
          have := HA.out
          rw [show k = t.size by omega, take_all] at this
          rw [H.out, this]
        have HE := Lib.hid he
        clear he
        go_wp2
        go_ret
        exact ⟨ret_bool HE.out.symm, rfl⟩
  · go_enter Try.func7, Try.ntmps7
    go_wp2
    go_ret
    exact ⟨ret_bool (TV_ne (by simpa using hl)).symm, rfl⟩

theorem l1In_any (n lo hi : Int) (w : World) :
    Calls Try.prog 26 #[.int .i64 n, .int .i64 lo, .int .i64 hi] w fun e w' => e = .returned (.bool (decide (lo ≤ n) && decide (n ≤ hi))) ∧ w = w' := by
  by_cases h1 : lo ≤ n
  · by_cases h2 : n ≤ hi
    · go_enter Try.func26, Try.ntmps26
      go_wp2
      go_ret
      exact ⟨ret_bool (by simp [h1, h2]), rfl⟩
    · go_enter Try.func26, Try.ntmps26
      go_wp2
      go_ret
      exact ⟨ret_bool (by simp [h2]), rfl⟩
  · go_enter Try.func26, Try.ntmps26
    go_wp2
    go_ret
    exact ⟨ret_bool (by rw [show decide (lo ≤ n) = false by simpa using h1]; rfl), rfl⟩

theorem l14Find_any (t : ByteArray) (c : Int) (w : World) (ht : t.size ≤ 9223372036854775807) (hc : 0 ≤ c ∧ c < 256) :
    Calls Try.prog 25 #[.string t, .int .u8 c] w fun e w' => e = .returned (.int .i64 (findB t.data.toList c)) ∧ w = w' := by
  obtain ⟨hc0, hc1⟩ := hc
  go_enter Try.func25, Try.ntmps25
  go_wp2
  go_loop [5] (fun i => ∃ k : Nat, k ≤ t.size ∧ i = .int .i64 k ∧ Hid (∀ x ∈ t.data.toList.take k, ¬ (x.toNat : Int) = c)) (fun i => t.size - (intOf i).toNat)
  case atStart => exact ⟨0, Nat.zero_le _, rfl, Lib.hid (by simp)⟩
  case round =>
    obtain ⟨k, hk, rfl, HA⟩ := hrel
    by_cases hlt : k < t.size
    · by_cases h0 : (t[k].toNat : Int) = c
      · have HO := Lib.hid (findB_at hlt HA.out h0)
        have hb : ((t[k].toNat : Int) == c) = true := by simp [h0]
        have HP := Lib.hid h0
        clear h0
        go_wp2
        go_ret
        exact ⟨ret_int HO.out.symm, rfl⟩
      · have HO := Lib.hid (not_mem_take_snoc hlt HA.out h0)
        have hb : ((t[k].toNat : Int) == c) = false := by simpa using h0
        clear h0
        go_wp2
        go_round
        case rel => exact ⟨k + 1, by omega, by go_num, HO⟩
        case measure => simp [intOf]; omega
    · have HE := Lib.hid (findB_none t.data.toList c (by have := HA.out; rwa [show k = t.size by omega, take_all] at this))
      go_wp2
      go_ret
      exact ⟨ret_int HE.out.symm, rfl⟩

set_option maxHeartbeats 400000 in
theorem sTermValid_any (t : ByteArray) (n : Int) (w : World) (ht : t.size ≤ 9223372036854775807) :
    Calls Try.prog 13 #[.string t, .int .i64 n] w fun e w' => e = .returned (.bool (TV t.data.toList n)) ∧ w = w' := by
  go_enter Try.func13, Try.ntmps13
  go_wp2
  go_loop [5] (fun i => ∃ k : Nat, k ≤ t.size ∧ i = .int .i64 k ∧ (t.data.toList.take k).all okc = true) (fun i => t.size - (intOf i).toNat)
  case atStart => exact ⟨0, Nat.zero_le _, rfl, rfl⟩
  case round =>
    obtain ⟨k, hk, rfl, hall⟩ := hrel
    have HA := Lib.hid hall
    clear hall
    by_cases hlt : k < t.size
    · have hc := l14Find_any ⟨#[42, 48, 49]⟩ t[k].toNat w (by show 3 ≤ _; omega) ⟨by omega, by have := t[k].toNat_lt; omega⟩
      by_cases h0 : okc t[k] = true
      · have hf : ¬ findB [42, 48, 49] (t[k].toNat : Int) < 0 := by rw [find_term]; simp [h0]
        have HS := Lib.hid (all_take_snoc hlt HA.out h0)
        clear h0
        have HC := Lib.hid hc
        clear hc
        go_wp2_with (go_at_call 25; refine HC.out.mono ?_; rintro e w' ⟨rfl, rfl⟩)
        go_round
        case rel => exact ⟨k + 1, by omega, by go_num, HS.out⟩
        case measure => simp [intOf]; omega
      · have hf : findB [42, 48, 49] (t[k].toNat : Int) < 0 := by rw [find_term]; simpa using h0
        have HO := Lib.hid (TV_bad (n := n) (all_take_bad hlt (by simpa using h0)))
        clear h0
        have HC := Lib.hid hc
        clear hc
        go_wp2_with (go_at_call 25; refine HC.out.mono ?_; rintro e w' ⟨rfl, rfl⟩)
        go_ret
        exact ⟨ret_bool HO.out.symm, rfl⟩
    · have hall : t.data.toList.all okc = true := by have := HA.out; rwa [show k = t.size by omega, take_all] at this
      have HX := Lib.hid hall
      clear hall
      by_cases hr : 1 ≤ n ∧ n ≤ 5
      · have hb : (decide (1 ≤ n) && decide (n ≤ 5)) = true := by simp [hr]
        have HC := Lib.hid (l1In_any n 1 5 w)
        rw [hb] at HC
        have HR := Lib.hid hr
        clear hr hb
        by_cases hl : (t.size : Int) = n
        · have hlb : ((t.size : Int) == n) = true := by simp [hl]
          have HL := Lib.hid hl
          clear hl
          go_wp2_with (go_at_call 26; refine HC.out.mono ?_; rintro e w' ⟨rfl, rfl⟩)
          go_ret
          exact ⟨ret_bool (by rw [TV_all (by have := HR.out; omega) (by have := HR.out; omega) (by simpa using HL.out), HX.out]), rfl⟩
        · have hlb : ((t.size : Int) == n) = false := by simpa using hl
          have HL := Lib.hid hl
          clear hl
          go_wp2_with (go_at_call 26; refine HC.out.mono ?_; rintro e w' ⟨rfl, rfl⟩)
          go_ret
          exact ⟨ret_bool (by rw [TV_ne (by simpa using HL.out)]), rfl⟩
      · have hb : (decide (1 ≤ n) && decide (n ≤ 5)) = false := by simp; omega
        have HC := Lib.hid (l1In_any n 1 5 w)
        rw [hb] at HC
        have HR := Lib.hid hr
        clear hr hb
        go_wp2_with (go_at_call 26; refine HC.out.mono ?_; rintro e w' ⟨rfl, rfl⟩)
        go_ret
        exact ⟨ret_bool (by
          have := HR.out
          by_cases h1 : n < 1
          · rw [TV_lo h1]
          · rw [TV_hi (by omega)]), rfl⟩

set_option maxHeartbeats 400000 in
theorem sMeet_any (t u : ByteArray) (w : World) (ht : t.size ≤ 9223372036854775807) (hu : u.size ≤ 9223372036854775807) :
    Calls Try.prog 6 #[.string t, .string u] w fun e w' => e = .returned (optT (MT t.data.toList u.data.toList)) ∧ Below w.heap.size w w' := by
  have H1 := @MT_no1 t.data.toList u.data.toList
  have H2 := @MT_no2 t.data.toList u.data.toList
  have H3 := @MT_yes t.data.toList u.data.toList
  simp only [Array.length_toList, ByteArray.size_data] at H1 H2 H3
  cases hT : TV t.data.toList (t.size : Int)
  · rw [H1 hT]
    clear H1 H2 H3
    go_enter Try.func6, Try.ntmps6
    go_wp2_with (go_at_call 13; refine (sTermValid_any _ _ _ (by omega)).mono ?_; rintro e w' ⟨rfl, rfl⟩)
    go_ret2
    exact ⟨rfl, Below.refl _ _⟩
  · cases hU : TV u.data.toList (t.size : Int)
    · rw [H2 hU]
      clear H1 H2 H3
      go_enter Try.func6, Try.ntmps6
      go_wp2_with (go_at_call 13; refine (sTermValid_any _ _ _ (by omega)).mono ?_; rintro e w' ⟨rfl, rfl⟩)
      go_ret2
      exact ⟨rfl, Below.refl _ _⟩
    · rw [H3 hT hU]
      have hlen : (u.size : Int) ≤ t.size ∧ (t.size : Int) ≤ u.size := by have := (TV_true hU).2.2.1; simp at this; omega
      obtain ⟨hl1, hl2⟩ := hlen
      clear H1 H2 H3
      generalize hM : meetL t.data.toList u.data.toList = M
      have HM := Lib.hid hM
      clear hM
      go_enter Try.func6, Try.ntmps6
      go_wp2_with (go_at_call 13; refine (sTermValid_any _ _ _ (by omega)).mono ?_; rintro e w' ⟨rfl, rfl⟩)
      go_loopw [6, 7] (fun o i wr => ∃ (k : Nat) (p : List UInt8), k ≤ t.size ∧ i = .int .i64 k ∧ o = .string ⟨p.toArray⟩ ∧ Hid (meetL (t.data.toList.take k) (u.data.toList.take k) = some p) ∧ Below w.heap.size w wr) (fun _ i _ => t.size - (intOf i).toNat)
      case atStart => exact ⟨0, [], Nat.zero_le _, rfl, rfl, Lib.hid rfl, Below.refl _ _⟩
      case round =>
        obtain ⟨k, p, hk, rfl, rfl, HP, hB⟩ := hrel
        have hpl : p.length ≤ k := Nat.le_of_eq (meet_len hk (by omega) HP.out)
        by_cases hlt : k < t.size
        · have hltu : k < u.size := by omega
          by_cases h42 : (t[k].toNat : Int) = 42
          · have hb : ((t[k].toNat : Int) == 42) = true := by simp [h42]
            have HH := Lib.hid (meet_step hlt hltu HP.out (meetC_a h42))
            clear h42
            go_wp2
            go_roundw
            case rel => exact ⟨k + 1, _, by omega, by go_num, by rw [str_ext1 _ _ _ hltu], HH, hB⟩
            case measure => simp [intOf]; omega
          · have hb : ((t[k].toNat : Int) == 42) = false := by simpa using h42
            by_cases hu42 : (u[k].toNat : Int) = 42
            · have hd : ((u[k].toNat : Int) == 42) = true := by simp [hu42]
              have HH := Lib.hid (meet_step hlt hltu HP.out (meetC_b h42 hu42))
              clear h42 hu42
              go_wp2
              go_quiet (fail)
              go_wp2
              go_roundw
              case rel => exact ⟨k + 1, _, by omega, by go_num, by rw [str_ext1 _ _ _ hlt], HH, below_drewN hB _⟩
              case measure => simp [intOf]; omega
            · have hd : ((u[k].toNat : Int) == 42) = false := by simpa using hu42
              by_cases huc : (u[k].toNat : Int) = t[k].toNat
              · have hd2 : ((u[k].toNat : Int) == (t[k].toNat : Int)) = true := by simp [huc]
                have HH := Lib.hid (meet_step hlt hltu HP.out (meetC_c h42 huc))
                clear h42 hu42 huc
                go_wp2
                go_quiet (fail)
                go_wp2
                go_roundw
                case rel => exact ⟨k + 1, _, by omega, by go_num, by rw [str_ext1 _ _ _ hlt], HH, below_drewN hB _⟩
                case measure => simp [intOf]; omega
              · have hd2 : ((u[k].toNat : Int) == (t[k].toNat : Int)) = false := by simpa using huc
                have HH := Lib.hid (HM.out.symm.trans (meet_stop hlt hltu (meetC_d h42 hu42 huc)))
                clear h42 hu42 huc
                go_wp2
                go_quiet (fail)
                go_wp2
                go_ret2
                exact ⟨by rw [HH.out]; rfl, below_drewN hB _⟩
        · have HH : Hid (M = some p) := Lib.hid (by
            have h := HP.out
            have e1 : t.data.toList.take k = t.data.toList := List.take_of_length_le (by simp; omega)
            have e2 : u.data.toList.take k = u.data.toList := List.take_of_length_le (by simp; omega)
            rw [e1, e2] at h
            exact HM.out.symm.trans h)
          go_wp2
          go_ret2
          exact ⟨by rw [HH.out]; rfl, hB⟩

end Go.Proofs.Ytfkdameegljkeaa
