/- Walks of the functions on hulls. -/
import Derived.Test.YtddnibpldjdhpaaProg
import Derived.WalkKit
import Derived.WalkSpells
import Derived.WalkLawsBesides
import Derived.Lib.Hide
import Derived.Deep.QuietTactic
import Derived.BigQuiet
import Derived.Test.YtddnibpldjdhpaaWk
namespace Go.Proofs.Ytddnibpldjdhpaa
open Go.RowKit

set_option maxHeartbeats 400000 in
theorem sHullOf_any (A : Option Addr) (c : Nat) (xs : List Int) (n : Int) (w : World) (hx : Rd w A (xs.map (Value.int .i64))) (hlen : xs.length ≤ 1048576) :
    Calls Try.prog 10 #[.slice A xs.length c, .int .i64 n] w fun e w' => e = .returned (optT (HO xs n)) ∧ Below w.heap.size w w' := by
  have HX := Lib.hid hx
  clear hx
  by_cases hn : 1 ≤ n ∧ n ≤ 5
  · have hb : (decide (1 ≤ n) && decide (n ≤ 5)) = true := by simp [hn]
    obtain ⟨m, rfl⟩ : ∃ m : Nat, n = (m : Int) := ⟨n.toNat, by omega⟩
    obtain ⟨N, HN, hN, hNb, hN0⟩ := wrap_two m (by omega)
    have hn1 : 1 ≤ m ∧ m ≤ 5 := by omega
    obtain ⟨hm1, hm5⟩ := hn1
    clear hn
    have HL := Lib.hid (l1In_any (m : Int) 1 5 w)
    rw [hb] at HL
    by_cases h0 : xs.length = 0
    · have e0 : xs = [] := List.eq_nil_of_length_eq_zero h0
      subst e0
      rw [HO_nil]
      clear hb h0
      go_enter Try.func10, Try.ntmps10
      go_wp2_with (go_at_call 27; refine HL.out.mono ?_; rintro e w' ⟨rfl, rfl⟩)
      go_ret2
      exact ⟨rfl, Below.refl _ _⟩
    · have hl0 : ((xs.length : Int) == 0) = false := by rw [beq_eq_false_iff_ne]; omega
      have hlp : 0 < xs.length := by omega
      generalize hM : HO xs (m : Int) = M
      have HM := Lib.hid hM
      clear hM hb h0
      go_enter Try.func10, Try.ntmps10
      go_wp2_with (go_at_call 27; refine HL.out.mono ?_; rintro e w' ⟨rfl, rfl⟩)
      go_loop [6] (fun i => ∃ k : Nat, k ≤ xs.length ∧ i = .int .i64 k ∧ Hid (∀ y ∈ xs.take k, 0 ≤ y ∧ y < (N : Int))) (fun i => xs.length - (intOf i).toNat)
      case atStart => exact ⟨0, Nat.zero_le _, rfl, Lib.hid (by simp)⟩
      case round =>
        obtain ⟨k, hk, rfl, HA⟩ := hrel
        by_cases hlt : k < xs.length
        · obtain ⟨g, off, rfl, hc⟩ := HX.out.int hlt
          have HC := Lib.hid (l1In_any xs[k] 0 ((N : Int) - 1) w)
          by_cases hin : 0 ≤ xs[k] ∧ xs[k] ≤ (N : Int) - 1
          · have hd : (decide (0 ≤ xs[k]) && decide (xs[k] ≤ (N : Int) - 1)) = true := by simp [hin]
            rw [hd] at HC
            have HF : Hid (∀ y ∈ xs.take (k + 1), 0 ≤ y ∧ y < (N : Int)) := Lib.hid (by
              rw [List.take_succ_eq_append_getElem hlt]
              intro y hy
              rcases List.mem_append.1 hy with h | h
              · exact HA.out y h
              · rw [List.mem_singleton.1 h]; omega)
            clear hd hin
            go_wp2_with (go_at_call 27; refine HC.out.mono ?_; rintro e w' ⟨rfl, rfl⟩)
            go_round
            case rel => exact ⟨k + 1, by omega, by go_num, HF⟩
            case measure => simp [intOf]; omega
          · have hd : (decide (0 ≤ xs[k]) && decide (xs[k] ≤ (N : Int) - 1)) = false := by
              rw [Bool.and_eq_false_iff]; simp only [decide_eq_false_iff_not]; omega
            rw [hd] at HC
            have HF := Lib.hid (HM.out.symm.trans (HO_bad (n := (m : Int)) (List.getElem_mem hlt) (by
              cases h : inW (m : Int) xs[k]
              · rfl
              · have := (inW_yes HN.out).1 h; omega)))
            clear hd hin
            go_wp2_with (go_at_call 27; refine HC.out.mono ?_; rintro e w' ⟨rfl, rfl⟩)
            go_ret2
            exact ⟨by rw [HF.out]; rfl, Below.refl _ _⟩
        · have hall : ∀ y ∈ xs, 0 ≤ y ∧ y < (N : Int) := by have := HA.out; rwa [List.take_of_length_le (by omega)] at this
          obtain ⟨ys, rfl⟩ := ints_of xs (fun y hy => (hall y hy).1)
          cases ys with
          | nil => simp [ints] at hlp
          | cons x r =>
            have hr : ∀ y ∈ x :: r, y < N := fun y hy => by
              have := (hall (y : Int) (by simp only [ints, List.mem_map]; exact ⟨y, hy, rfl⟩)).2
              omega
            have HF := Lib.hid (HM.out.symm.trans (HO_ok hm1 hm5 (by rw [← HN.out]; exact hr)))
            have HR : Hid (∀ y ∈ x :: r, y < 32) := Lib.hid (fun y hy => Nat.lt_of_lt_of_le (hr y hy) hNb)
            have hrl : r.length ≤ 1048576 := by rw [ints_length] at hlen; simp at hlen; omega
            clear hall hr
            go_wp2_with (go_at_call 28; refine (l6Hull_any _ _ _ _ _ _ HX.out (by omega) (by omega) HR).mono ?_; rintro e w' ⟨rfl, hB⟩)
            go_ret2
            exact ⟨by rw [HF.out]; rfl, hB⟩
  · have hb : (decide (1 ≤ n) && decide (n ≤ 5)) = false := by rw [Bool.and_eq_false_iff]; simp only [decide_eq_false_iff_not]; omega
    have HL := Lib.hid (l1In_any n 1 5 w)
    rw [hb] at HL
    rw [HO_out hn]
    clear hb hn
    go_enter Try.func10, Try.ntmps10
    go_wp2_with (go_at_call 27; refine HL.out.mono ?_; rintro e w' ⟨rfl, rfl⟩)
    go_ret2
    exact ⟨rfl, Below.refl _ _⟩

set_option maxHeartbeats 400000 in
theorem HullOf_any (A : Option Addr) (c : Nat) (xs : List Int) (n : Int) (w : World) (hx : Rd w A (xs.map (Value.int .i64))) (hlen : xs.length ≤ 1048576) :
    Calls Try.prog 12 #[.slice A xs.length c, .int .i64 n] w fun e w' => e = .returned (optT (HO xs n)) ∧ Below w.heap.size w w' := by
  have HX := Lib.hid hx
  clear hx
  by_cases hn : 1 ≤ n ∧ n ≤ 5
  · obtain ⟨m, rfl⟩ : ∃ m : Nat, n = (m : Int) := ⟨n.toNat, by omega⟩
    obtain ⟨N, HN, hN, hNb, hN0⟩ := wrap_two m (by omega)
    have hn1 : 1 ≤ m ∧ m ≤ 5 := by omega
    obtain ⟨hm1, hm5⟩ := hn1
    clear hn
    by_cases h0 : xs.length = 0
    · have e0 : xs = [] := List.eq_nil_of_length_eq_zero h0
      subst e0
      rw [HO_nil]
      clear h0
      go_enter Try.func12, Try.ntmps12
      go_wp2
      go_ret2
      exact ⟨rfl, Below.refl _ _⟩
    · have hl0 : ((xs.length : Int) == 0) = false := by rw [beq_eq_false_iff_ne]; omega
      have hlp : 0 < xs.length := by omega
      generalize hM : HO xs (m : Int) = M
      have HM := Lib.hid hM
      clear hM h0
      go_enter Try.func12, Try.ntmps12
      go_wp2
      go_loop [21] (fun i => ∃ k : Nat, k ≤ xs.length ∧ i = .int .i64 k ∧ Hid (∀ y ∈ xs.take k, 0 ≤ y ∧ y < (N : Int))) (fun i => xs.length - (intOf i).toNat)
      case atStart => exact ⟨0, Nat.zero_le _, rfl, Lib.hid (by simp)⟩
      case round =>
        obtain ⟨k, hk, rfl, HA⟩ := hrel
        by_cases hlt : k < xs.length
        · obtain ⟨g, off, rfl, hc⟩ := HX.out.int hlt
          by_cases hin : 0 ≤ xs[k] ∧ xs[k] < (N : Int)
          · have HF : Hid (∀ y ∈ xs.take (k + 1), 0 ≤ y ∧ y < (N : Int)) := Lib.hid (by
              rw [List.take_succ_eq_append_getElem hlt]
              intro y hy
              rcases List.mem_append.1 hy with h | h
              · exact HA.out y h
              · rw [List.mem_singleton.1 h]; omega)
            obtain ⟨hin1, hin2⟩ := hin
            go_wp2
            go_round
            case rel => exact ⟨k + 1, by omega, by go_num, HF⟩
            case measure => simp [intOf]; omega
          · have HF := Lib.hid (HM.out.symm.trans (HO_bad (n := (m : Int)) (List.getElem_mem hlt) (by
              cases h : inW (m : Int) xs[k]
              · rfl
              · have := (inW_yes HN.out).1 h; omega)))
            by_cases hneg : xs[k] < 0
            · clear hin
              go_wp2
              go_ret2
              exact ⟨by rw [HF.out]; rfl, Below.refl _ _⟩
            · have hge : (N : Int) ≤ xs[k] := by omega
              clear hin
              go_wp2
              go_ret2
              exact ⟨by rw [HF.out]; rfl, Below.refl _ _⟩
        · have hall : ∀ y ∈ xs, 0 ≤ y ∧ y < (N : Int) := by have := HA.out; rwa [List.take_of_length_le (by omega)] at this
          obtain ⟨ys, rfl⟩ := ints_of xs (fun y hy => (hall y hy).1)
          cases ys with
          | nil => simp [ints] at hlp
          | cons x r =>
            have hr : ∀ y ∈ x :: r, y < N := fun y hy => by
              have := (hall (y : Int) (by simp only [ints, List.mem_map]; exact ⟨y, hy, rfl⟩)).2
              omega
            have HF := Lib.hid (HM.out.symm.trans (HO_ok hm1 hm5 (by rw [← HN.out]; exact hr)))
            have HR : Hid (∀ y ∈ x :: r, y < 32) := Lib.hid (fun y hy => Nat.lt_of_lt_of_le (hr y hy) hNb)
            have hrl : r.length ≤ 1048576 := by rw [ints_length] at hlen; simp at hlen; omega
            clear hall hr
            go_wp2_with (go_at_call 29; refine (hull_any _ _ _ _ _ _ HX.out (by omega) (by omega) HR).mono ?_; rintro e w' ⟨rfl, hB⟩)
            go_ret2
            exact ⟨by rw [HF.out]; rfl, hB⟩
  · rw [HO_out hn]
    by_cases hlo : n < 1
    · clear hn
      go_enter Try.func12, Try.ntmps12
      go_wp2
      go_ret2
      exact ⟨rfl, Below.refl _ _⟩
    · have hhi : 5 < n := by omega
      clear hn
      go_enter Try.func12, Try.ntmps12
      go_wp2
      go_ret2
      exact ⟨rfl, Below.refl _ _⟩

theorem toIntS_any (A : Option Addr) (c : Nat) (xs : List Int) (w : World) (hx : Rd w A (xs.map (Value.int .i64))) (hlen : xs.length ≤ 1048576) :
    Calls Try.prog 11 #[.slice A xs.length c] w fun e w' => RetI w.heap.size xs e w' ∧ Below w.heap.size w w' := by
  have HX := Lib.hid hx
  clear hx
  have hmk := fun W => make_row Try.underlying25 info_int rfl xs.length (by omega) (by omega) W
  go_enter Try.func11, Try.ntmps11
  go_wp2
  go_loopw [4] (fun i wr => ∃ k : Nat, k ≤ xs.length ∧ i = .int .i64 k ∧ Hid (Own wr w.heap.size (some ⟨w.heap.size, 0, none⟩) ((xs.take k ++ List.replicate (xs.length - k) 0).map (Value.int .i64))) ∧ Below w.heap.size w wr) (fun i _ => xs.length - (intOf i).toNat)
  case atStart => exact ⟨0, Nat.zero_le _, rfl, Lib.hid (Own.made _ _ _ _ (by simp)), (Below.refl _ _).alloc (Nat.le_refl _) _⟩
  case round =>
    obtain ⟨k, hk, rfl, HO, hB⟩ := hrel
    by_cases hlt : k < xs.length
    · obtain ⟨g, off, rfl, hc⟩ := (HX.out.below hB).int hlt
      have hlk : ((xs.take k ++ List.replicate (xs.length - k) (0 : Int)).map (Value.int .i64))[k]? = some (.int .i64 0) := by
        rw [List.getElem?_map, List.getElem?_append_right (by rw [List.length_take]; omega), List.length_take, Nat.min_eq_left (by omega), Nat.sub_self, show xs.length - k = (xs.length - (k + 1)) + 1 by omega, List.replicate_succ]; rfl
      obtain ⟨hc2, hf2⟩ := HO.out.cell hlk
      rw [Nat.zero_add] at hc2 hf2
      have HS := Lib.hid (HO.out.set_ (u := .int .i64 xs[k]) hlk)
      go_wp2
      go_roundw
      case rel => exact ⟨k + 1, by omega, by go_num, Lib.hid (by
        have h := HS.out
        rw [Nat.zero_add, ← List.map_set] at h
        have e : (xs.take k ++ List.replicate (xs.length - k) (0 : Int)).set k xs[k] = xs.take (k + 1) ++ List.replicate (xs.length - (k + 1)) 0 := by
          rw [List.set_append_right _ _ (by rw [List.length_take]; omega), List.length_take, Nat.min_eq_left (by omega), Nat.sub_self,
            show xs.length - k = (xs.length - (k + 1)) + 1 by omega, List.replicate_succ, List.set_cons_zero, List.take_succ_eq_append_getElem hlt, List.append_assoc]
          rfl
        rw [e] at h
        exact h), hB.setCell (Nat.le_refl _) _⟩
      case measure => simp [intOf]; omega
    · have hkn : k = xs.length := by omega
      subst hkn
      go_wp2
      go_ret
      exact ⟨⟨_, _, rfl, Nat.le_refl _, by have h := HO.out; rw [Nat.sub_self, List.take_length] at h; simpa using h⟩, hB⟩

end Go.Proofs.Ytddnibpldjdhpaa
