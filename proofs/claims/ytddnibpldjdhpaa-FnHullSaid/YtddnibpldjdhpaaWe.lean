/- Walks: bnSame, the draws of hulls. -/
import Derived.Test.YtddnibpldjdhpaaProg
import Derived.WalkKit
import Derived.WalkSpells
import Derived.WalkLawsBesides
import Derived.Lib.Hide
import Derived.Deep.QuietTactic
import Derived.BigQuiet
import Derived.Test.YtddnibpldjdhpaaWd
import Derived.Test.YtddnibpldjdhpaaWo
namespace Go.Proofs.Ytddnibpldjdhpaa
open Go.RowKit

theorem bnSame_any (A A' : Option Addr) (c c' : Nat) (xs ys : List Int) (w : World) (hx : Rd w A (xs.map (Value.int .i64))) (hy : Rd w A' (ys.map (Value.int .i64))) (hl : xs.length ≤ 4611686018427387904) (hl' : ys.length ≤ 4611686018427387904) :
    Calls Try.prog 19 #[.slice A xs.length c, .slice A' ys.length c'] w fun e w' => e = .returned (.bool (decide (xs = ys))) ∧ ∃ n, w.drewN n = w' := by
  have HX := Lib.hid hx
  have HY := Lib.hid hy
  clear hx hy
  go_enter Try.func19, Try.ntmps19
  go_wp2
  go_loopw [5] (fun i wr => ∃ k : Nat, k ≤ xs.length ∧ k ≤ ys.length ∧ i = .int .i64 k ∧ Hid (xs.take k = ys.take k) ∧ ∃ n, wr = w.drewN n) (fun i _ => xs.length - (intOf i).toNat)
  case atStart => exact ⟨0, Nat.zero_le _, Nat.zero_le _, rfl, Lib.hid rfl, 0, rfl⟩
  case round =>
    obtain ⟨k, hk, hk', rfl, HA, n, rfl⟩ := hrel
    by_cases hlt : k < xs.length
    · by_cases hlt' : k < ys.length
      · obtain ⟨g, off, rfl, hc⟩ := HX.out.int hlt
        obtain ⟨g', off', rfl, hc'⟩ := HY.out.int hlt'
        by_cases he : xs[k] = ys[k]
        · have hd : (xs[k] != ys[k]) = false := by simp [he]
          have HF : Hid (xs.take (k + 1) = ys.take (k + 1)) := Lib.hid (by
            rw [List.take_succ_eq_append_getElem hlt, List.take_succ_eq_append_getElem hlt', HA.out, he])
          clear he
          go_wp2
          go_quiet (fail)
          go_wp2
          go_roundw
          case rel => exact ⟨k + 1, by omega, by omega, by go_num, HF, _, rfl⟩
          case measure => simp [intOf]; omega
        · have hd : (xs[k] != ys[k]) = true := by simpa using he
          have HF : Hid (decide (xs = ys) = false) := Lib.hid (by
            rw [decide_eq_false_iff_not]; intro h; subst h; exact he rfl)
          clear he
          go_wp2
          go_quiet (fail)
          go_wp2
          go_ret
          exact ⟨ret_bool HF.out.symm, _, (drewN2 _ _ _).symm⟩
      · have hb : ((xs.length : Int) == (ys.length : Int)) = false := by rw [beq_eq_false_iff_ne]; omega
        have HF : Hid (decide (xs = ys) = false) := Lib.hid (by rw [decide_eq_false_iff_not]; intro h; rw [h] at hlt; omega)
        go_wp2
        go_ret
        exact ⟨ret_bool HF.out.symm, _, rfl⟩
    · by_cases hle : xs.length = ys.length
      · have hb : ((xs.length : Int) == (ys.length : Int)) = true := by rw [beq_iff_eq]; omega
        have HF : Hid (decide (xs = ys) = true) := Lib.hid (by
          have h := HA.out
          rw [List.take_of_length_le (by omega), List.take_of_length_le (by omega)] at h
          rw [decide_eq_true_iff]; exact h)
        clear hle
        go_wp2
        go_ret
        exact ⟨ret_bool HF.out.symm, _, rfl⟩
      · have hb : ((xs.length : Int) == (ys.length : Int)) = false := by rw [beq_eq_false_iff_ne]; omega
        have HF : Hid (decide (xs = ys) = false) := Lib.hid (by rw [decide_eq_false_iff_not]; intro h; exact hle (by rw [h]))
        clear hle
        go_wp2
        go_ret
        exact ⟨ret_bool HF.out.symm, _, rfl⟩

/-- what DrawHullOf hands back -/
def DHP (B : Nat) (e : Ending) (w' : World) : Prop := ∃ (A : Option Addr) (c : Nat) (xs : List Int) (n : Int), e = .returned (.tuple #[.slice A xs.length c, .int .i64 n]) ∧ xs.length ≤ 100 ∧ Own w' B A (xs.map (Value.int .i64))
set_option maxHeartbeats 1000000 in
theorem DrawHullOf_any (A : Option Addr) (n c : Nat) (bs : List Int) (w : World) (hn : n = bs.length) (hnc : n ≤ c) (hc : c ≤ 9223372036854775807) (hr : Hid (Rd w A (bs.map (Value.int .u8)))) (hx : Hid (∀ x ∈ bs, 0 ≤ x ∧ x < 256)) :
    Calls Try.prog 18 #[.slice A n c] w fun e w' => DHP w.heap.size e w' ∧ Below w.heap.size w w' := by
  have HNL := Lib.hid hn
  clear hn
  go_enter Try.func18, Try.ntmps18
  go_wp2_with fail
  refine (l14Open_any _ _ _ _ _ HNL.out hnc hc hr hx).mono ?_
  rintro e w1 ⟨g, rfl, hR, hg, hB1⟩
  have hgl := hR.lt.2
  go_wp2_with fail
  refine (num_any g g 0 6 _ [3, 2, 4, 1, 0, 6] _ (hR.keep ((Below.refl _ _).alloc (Nat.le_refl _) _)) (by omega) (Own.lit w1 _ _ (by omega)) (by simp) (by simp)).mono ?_
  rintro e w2 ⟨n0, hn0, rfl, hR2, hG2⟩
  have hn06 : 0 ≤ n0 ∧ n0 ≤ 6 := by simp at hn0; omega
  obtain ⟨hn01, hn02⟩ := hn06
  have hB2 : Below w.heap.size w w2 := hB1.trans (((Below.refl _ _).alloc hB1.size _).trans (Below.of_grown hG2 hg (by rw [alloc_size]; omega)))
  clear hn0
  go_wp2_with fail
  have hgl2 := hR2.lt.2
  refine (pick_any _ _ _ _ _ (hR2.keep ((Below.refl _ _).alloc (Nat.le_refl _) _)) (by omega) (by omega) (by omega)).mono ?_
  rintro e w3 ⟨k0, rfl, hk0, hR3, hG3⟩
  have hO := (OI.empty w2 (g + 1) 3 (by omega)).only (Nat.lt_succ_self g) hG3
  have hB3 : Below w.heap.size w w3 := (hB2.alloc hB2.size _).trans (Below.of_grown hG3 hg (by rw [alloc_size]; omega))
  clear hG2 hG3
  have HO := Lib.hid hO
  clear hO
  have HW : Hid (1 ≤ n0 → n0 ≤ 5 → 1 ≤ wrap64 ((2 : Int) ^ n0.toNat) ∧ wrap64 ((2 : Int) ^ n0.toNat) ≤ 4294967296) := Lib.hid (fun h1 h2 => by
    obtain ⟨N, _, hN, hN1, hN2⟩ := wrap_two n0.toNat (by omega)
    rw [hN]; omega)
  go_wp2_with fail
  go_loopw [6, 7] (fun v i wr => ∃ (k p : Nat) (xs : List Int), i = .int .i64 k ∧ k + xs.length ≤ 3 ∧ p ≤ 100 + xs.length ∧ Hid (OI wr (g + 1) 3 v xs) ∧ Hid (Rdr wr g g p ∧ Below w.heap.size w wr)) (fun _ i _ => (intOf i).toNat)
  case atStart => exact ⟨k0, _, [], rfl, by simp; omega, by simp, HO, Lib.hid ⟨hR3, hB3⟩⟩
  case round =>
    obtain ⟨k, p, xs, rfl, hk, hp, HO, HR⟩ := hrel
    by_cases hlt : 0 < k
    · go_wp2_with fail
      all_goals
        refine (pick_any _ _ p _ _ HR.out.1 (by first | exact (HW.out (by omega) (by omega)).1 | (unfold wrap64; omega)) (by first | exact (HW.out (by omega) (by omega)).2 | (unfold wrap64; omega)) (by omega)).mono ?_
        rintro e w4 ⟨v, rfl, hv, hR4, hG4⟩
        have HO4 := Lib.hid (HO.out.only (Nat.lt_succ_self g) hG4)
        have hB4 : Below w.heap.size w w4 := HR.out.2.trans (Below.of_grown hG4 hg HR.out.2.size)
        have hgl4 := hR4.lt.2
        clear hG4
        go_wp2_with (at_builtin; refine wp_pushI rfl _ _ _ rfl Try.underlying25 info_int HO4.out rfl rfl (by omega) hgl4 ?_; intro v' w5 hown hbel hsz5)
        go_roundw
        case rel => exact ⟨k - 1, p + 1, xs ++ [(v : Int)], by go_num, by simp; omega, by simp; omega, Lib.hid hown, Lib.hid ⟨hR4.keepB (hbel _ (Nat.le_refl _)), hB4.trans (hbel _ (by omega))⟩⟩
        case measure => simp [intOf]; omega
    · obtain ⟨hRr, hBr⟩ := HR.out
      have hglr := hRr.lt.2
      have hxl : xs.length ≤ 3 := by omega
      go_wp2_with fail
      refine (pick_any _ _ p _ _ hRr (by omega) (by omega) (by omega)).mono ?_
      rintro e w4 ⟨v, rfl, hv, hR4, hG4⟩
      have HO4 := Lib.hid (HO.out.only (Nat.lt_succ_self g) hG4)
      have hB4 : Below w.heap.size w w4 := hBr.trans (Below.of_grown hG4 hg hBr.size)
      have hgl4 := hR4.lt.2
      clear hG4
      by_cases hv0 : v = 0
      · subst hv0
        go_wp2_with fail
        refine (num_any g g (p + 1) 3 _ [-1, 32, 9223372036854775807] _ (hR4.keep ((Below.refl _ _).alloc (Nat.le_refl _) _)) (by omega) (Own.lit w4 _ _ (by omega)) (by simp) (by simp)).mono ?_
        rintro e w5 ⟨n1, _, rfl, hR5, hG5⟩
        have HO5 := Lib.hid ((HO4.out.below ((Below.refl _ _).alloc (Nat.le_refl _) _)).only (Nat.lt_succ_self g) hG5)
        have hB5 : Below w.heap.size w w5 := (hB4.alloc hB4.size _).trans (Below.of_grown hG5 hg (by have := hB4.size; rw [alloc_size]; omega))
        have hgl5 := hR5.lt.2
        clear hG5
        go_wp2_with (at_builtin; refine wp_pushI rfl _ _ _ rfl Try.underlying25 info_int HO5.out rfl rfl (by omega) hgl5 ?_; intro v' w6 hown hbel hsz6)
        obtain ⟨A1, c1, hv1, hc1, hO1⟩ := hown.form
        have HV := Lib.hid hv1
        clear hv1
        go_wp2
        go_ret2
        exact ⟨⟨A1, c1, _, n0, by rw [← HV.out]; rfl, by simp; omega, hO1.mono (by omega)⟩, hB5.trans (hbel _ (by omega))⟩
      · have hv1 : ((v : Int) == 0) = false := by rw [beq_eq_false_iff_ne]; omega
        clear hv0
        obtain ⟨A1, c1, hv2, hc1, hO1⟩ := HO4.out.form
        have HV := Lib.hid hv2
        clear hv2
        go_wp2
        go_ret2
        exact ⟨⟨A1, c1, _, n0, by rw [← HV.out]; rfl, by omega, hO1.mono (by omega)⟩, hB4⟩

end Go.Proofs.Ytddnibpldjdhpaa
