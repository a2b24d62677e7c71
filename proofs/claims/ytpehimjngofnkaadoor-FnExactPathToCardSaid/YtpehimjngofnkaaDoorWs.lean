/- Walks: slices of integers, the states of a term. -/
import Derived.Test.YtpehimjngofnkaaDoorProg
import Derived.WalkKit
import Derived.WalkSpells
import Derived.WalkLawsBesides
import Derived.Lib.Hide
import Derived.Deep.QuietTactic
import Derived.BigQuiet
import Derived.Test.YtpehimjngofnkaaDoorWh
namespace Go.Proofs.YtpehimjngofnkaaDoor
open Go.RowKit

theorem clip_any (v : Value) (xs : List Int) (w : World) (B : Nat) (e : TypeId) (h : OI w B e v xs) :
    Calls Tryd.prog 69 #[v] w fun e w' => RetI B xs e w' ∧ w = w' := by
  obtain ⟨A, c, rfl, hc, hO⟩ := h.form
  have hm : xs.length ≤ 9223372036854775807 := by
    rcases h.2 with ⟨_, h0⟩ | ⟨g, cap, cur, _, _, _, hn, hm, _⟩
    · omega
    · simp only [maxLen] at hm; omega
  have HO := Lib.hid hO
  clear hO h
  go_enter Tryd.func69, Tryd.ntmps69
  go_wp2
  go_ret
  exact ⟨⟨A, xs.length, rfl, Nat.le_refl _, HO.out⟩, rfl⟩

theorem eqIntS_any (A A' : Option Addr) (c c' : Nat) (xs ys : List Int) (w : World) (hx : Rd w A (xs.map (Value.int .i64))) (hy : Rd w A' (ys.map (Value.int .i64))) (hl : xs.length ≤ 4611686018427387904) (hl' : ys.length ≤ 4611686018427387904) :
    Calls Tryd.prog 17 #[.slice A xs.length c, .slice A' ys.length c'] w fun e w' => e = .returned (.bool (decide (xs = ys))) ∧ ∃ n, w.drewN n = w' := by
  by_cases hlen : xs.length = ys.length
  · have hb : ((xs.length : Int) != (ys.length : Int)) = false := by simp [hlen]
    have hlen1 : xs.length ≤ ys.length := by omega
    have hlen2 : ys.length ≤ xs.length := by omega
    have HL := Lib.hid hlen
    have HX := Lib.hid hx
    have HY := Lib.hid hy
    clear hlen hx hy
    go_enter Tryd.func17, Tryd.ntmps17
    go_wp2
    go_loopw [5] (fun i wr => ∃ k : Nat, k ≤ xs.length ∧ i = .int .i64 k ∧ Hid (xs.take k = ys.take k) ∧ ∃ n, wr = w.drewN n) (fun i _ => xs.length - (intOf i).toNat)
    case atStart => exact ⟨0, Nat.zero_le _, rfl, Lib.hid rfl, 0, rfl⟩
    case round =>
      obtain ⟨k, hk, rfl, HA, n, rfl⟩ := hrel
      by_cases hlt : k < xs.length
      · have hlt' : k < ys.length := by omega
        obtain ⟨g, off, rfl, hc⟩ := HX.out.int hlt
        obtain ⟨g', off', rfl, hc'⟩ := HY.out.int hlt'
        by_cases he : xs[k] = ys[k]
        · have hd : (xs[k] != ys[k]) = false := by simp [he]
          have HF : Hid (xs.take (k + 1) = ys.take (k + 1)) := Lib.hid (by
            rw [List.take_succ_eq_append_getElem hlt, List.take_succ_eq_append_getElem hlt', HA.out, he])
          clear he
          go_wp2
          go_quiet (fail)
          go_wp2
          go_roundw
          case rel => exact ⟨k + 1, by omega, by go_num, HF, _, rfl⟩
          case measure => simp [intOf]; omega
        · have hd : (xs[k] != ys[k]) = true := by simpa using he
          have HF : Hid (decide (xs = ys) = false) := Lib.hid (by
            rw [decide_eq_false_iff_not]; intro h; subst h; exact he rfl)
          clear he
          go_wp2
          go_quiet (fail)
          go_wp2
          go_ret
          exact ⟨ret_bool HF.out.symm, _, (drewN2 _ _ _).symm⟩
      · have HF : Hid (decide (xs = ys) = true) := Lib.hid (by
          have h := HA.out
          rw [List.take_of_length_le (by omega), List.take_of_length_le (by omega)] at h
          rw [decide_eq_true_iff]; exact h)
        go_wp2
        go_ret
        exact ⟨ret_bool HF.out.symm, _, rfl⟩
  · have hb : ((xs.length : Int) != (ys.length : Int)) = true := by simp; omega
    have HF : Hid (decide (xs = ys) = false) := Lib.hid (by rw [decide_eq_false_iff_not]; intro h; exact hlen (by rw [h]))
    clear hlen
    go_enter Tryd.func17, Tryd.ntmps17
    go_wp2
    go_ret
    exact ⟨ret_bool HF.out.symm, 0, rfl⟩

def upL (k : Int) (n : Nat) : List Int := (List.range n).map fun j : Nat => k + j
theorem upL_length (k : Int) (n : Nat) : (upL k n).length = n := by simp [upL]
theorem upL_get (k : Int) (n j : Nat) (h : j < n) : (upL k n)[j]'(by rw [upL_length]; exact h) = k + j := by simp [upL]
theorem up_set (k : Int) (xs : List Int) (j : Nat) (h : j < xs.length) : (upL k j ++ xs.drop j).set j (k + j) = upL k (j + 1) ++ xs.drop (j + 1) := by
  rw [List.set_append_right _ _ (by rw [upL_length]; omega), upL_length, Nat.sub_self, List.drop_eq_getElem_cons h, List.set_cons_zero]
  simp [upL, List.range_succ]
theorem markIntS_any (A : Option Addr) (c B : Nat) (xs : List Int) (m : Int) (w : World) (hx : Own w B A (xs.map (Value.int .i64))) (hm : 0 ≤ m) (hm2 : m ≤ 1099511627776) (hl : xs.length ≤ 1099511627776) :
    Calls Tryd.prog 18 #[.slice A xs.length c, .int .i64 m] w fun e w' => e = .returned (.int .i64 (m + xs.length)) ∧ Own w' B A ((upL m xs.length).map (Value.int .i64)) ∧ Below B w w' ∧ w'.heap.size = w.heap.size := by
  have HX := Lib.hid hx
  clear hx
  go_enter Tryd.func18, Tryd.ntmps18
  go_wp2
  go_loopw [1, 5] (fun q i wr => ∃ k : Nat, k ≤ xs.length ∧ i = .int .i64 k ∧ q = .int .i64 (m + k) ∧ Hid (Own wr B A ((upL m k ++ xs.drop k).map (Value.int .i64))) ∧ Hid (Below B w wr ∧ wr.heap.size = w.heap.size)) (fun _ i _ => xs.length - (intOf i).toNat)
  case atStart => exact ⟨0, Nat.zero_le _, rfl, by simp, Lib.hid HX.out, Lib.hid ⟨Below.refl _ _, rfl⟩⟩
  case round =>
    obtain ⟨k, hk, rfl, rfl, HO, HB⟩ := hrel
    by_cases hlt : k < xs.length
    · have hlk : k < (upL m k ++ xs.drop k).length := by rw [List.length_append, upL_length, List.length_drop]; omega
      obtain ⟨g, off, rfl, hg, hc, hf⟩ := HO.out.int hlk
      have HS := Lib.hid (HO.out.set_ (k := k) (u := .int .i64 (m + k)) (v := .int .i64 (upL m k ++ xs.drop k)[k]) (by rw [List.getElem?_map, List.getElem?_eq_getElem hlk]; rfl))
      go_wp2
      go_roundw
      case rel => exact ⟨k + 1, by omega, by go_num, by go_num, Lib.hid (by have h := HS.out; rw [← List.map_set, up_set m xs k hlt] at h; exact h), Lib.hid ⟨HB.out.1.setCell hg _, by rw [setCell_size]; exact HB.out.2⟩⟩
      case measure => simp [intOf]; omega
    · have hkn : k = xs.length := by omega
      subst hkn
      go_wp2
      go_ret
      exact ⟨rfl, by have h := HO.out; rw [List.drop_length, List.append_nil] at h; exact h, HB.out.1, HB.out.2⟩

theorem heldIntS_any (A : Option Addr) (c n : Nat) (m : Int) (w : World) (hx : Rd w A ((upL m n).map (Value.int .i64))) (hm : 0 ≤ m) (hm2 : m ≤ 1099511627776) (hl : n ≤ 1099511627776) :
    Calls Tryd.prog 19 #[.slice A n c, .int .i64 m] w fun e w' => e = .returned (.int .i64 (m + n)) ∧ w = w' := by
  have HX := Lib.hid hx
  clear hx
  go_enter Tryd.func19, Tryd.ntmps19
  go_wp2
  go_loop [1, 5] (fun q i => ∃ k : Nat, k ≤ n ∧ i = .int .i64 k ∧ q = .int .i64 (m + k)) (fun _ i => n - (intOf i).toNat)
  case atStart => exact ⟨0, Nat.zero_le _, rfl, by simp⟩
  case round =>
    obtain ⟨k, hk, rfl, rfl⟩ := hrel
    by_cases hlt : k < n
    · obtain ⟨g, off, rfl, hc⟩ := HX.out.int (j := k) (by rw [upL_length]; exact hlt)
      rw [upL_get m n k hlt] at hc
      go_wp2
      go_round
      case rel => exact ⟨k + 1, by omega, by go_num, by go_num⟩
      case measure => simp [intOf]; omega
    · have hkn : k = n := by omega
      subst hkn
      go_wp2
      go_ret
      exact ⟨rfl, rfl⟩

end Go.Proofs.YtpehimjngofnkaaDoor
