/- Walks: steps of one switch on both sides; steps of all and the restless switches on the reference's side. -/
import Derived.Test.YtjinmoeabkpmaaaDoorProg
import Derived.WalkKit
import Derived.WalkSpells
import Derived.WalkLawsBesides
import Derived.Lib.Hide
import Derived.Deep.QuietTactic
import Derived.BigQuiet
import Derived.Test.YtjinmoeabkpmaaaDoorYc
namespace Go.Proofs.YtjinmoeabkpmaaaDoor
open Go.RowKit
set_option linter.unusedVariables false

/-- the state after a step of one switch, or -1 -/
def onA (ps : List (List UInt8)) (t i : Int) : Int := if okSt ps t ∧ 0 ≤ i ∧ i < (ps.length : Int) then (stp1 ps t.toNat i.toNat : Int) else -1
theorem onA_yes {ps : List (List UInt8)} {t i : Nat} (h : okSt ps (t : Int) = true) (hi : i < ps.length) : onA ps (t : Int) (i : Int) = (stp1 ps t i : Int) := by
  rw [onA, if_pos ⟨h, by omega, by omega⟩]; rfl
theorem onA_out {ps : List (List UInt8)} {t i : Int} (h : ¬ (0 ≤ i ∧ i < (ps.length : Int))) : onA ps t i = -1 := if_neg fun h2 => h h2.2
theorem onA_no {ps : List (List UInt8)} {t i : Int} (h : okSt ps t = false) : onA ps t i = -1 := if_neg fun h2 => by rw [h] at h2; cases h2.1

theorem StepOne_any (s : ByteArray) (t i : Int) (w : World) (hm : Hid (HasM w)) (hs : s.size ≤ 1073741824) :
    Calls Tryd.prog 27 #[.string s, .int .i64 t, .int .i64 i] w fun e w' => e = .returned (.int .i64 (onA (cutL s.data.toList) t i)) ∧ Below w.heap.size w w' := by
  obtain ⟨ps, HPS⟩ : ∃ ps, Hid (ps = cutL s.data.toList) := ⟨_, rfl⟩
  rw [← HPS.out]
  by_cases h : okSt ps t = true
  · obtain ⟨h1, k, rfl, hk⟩ := okSt_true h
    have HOK := Lib.hid h1
    have HST := Lib.hid h
    have HK := Lib.hid hk
    by_cases hi : 0 ≤ i ∧ i < (ps.length : Int)
    · obtain ⟨i, rfl⟩ : ∃ j : Nat, i = (j : Int) := ⟨i.toNat, by omega⟩
      have hin : i < ps.length := by omega
      have HV := Lib.hid (onA_yes h hin)
      clear h h1 hk hi
      go_enter Tryd.func27, Tryd.ntmps27
      go_wp2_with fail
      refine (stateOf_any s k w hm hs).mono ?_
      rintro e w1 ⟨⟨A, j, c, rfl, himp⟩, hB1⟩
      rw [← HPS.out] at himp ⊢
      obtain ⟨rfl, hc, hO⟩ := himp HST.out
      rw [HST.out]
      have HR := Lib.hid hO.rd
      clear hO himp
      go_wp2_with fail
      refine (stepOne_any A c ps k i _ HR HOK HK hin).mono ?_
      rintro e w2 ⟨rfl, n, rfl⟩
      go_wp2
      go_ret
      exact ⟨by rw [HV.out]; rfl, hB1.trans (drewN_below _ _)⟩
    · have HV := Lib.hid (onA_out (ps := ps) (t := (k : Int)) hi)
      have hi2 : i < 0 ∨ (ps.length : Int) ≤ i := by omega
      clear h h1 hk hi
      go_enter Tryd.func27, Tryd.ntmps27
      go_wp2_with fail
      refine (stateOf_any s k w hm hs).mono ?_
      rintro e w1 ⟨⟨A, j, c, rfl, himp⟩, hB1⟩
      rw [← HPS.out] at himp ⊢
      obtain ⟨rfl, hc, hO⟩ := himp HST.out
      rw [HST.out]
      clear hO himp
      rcases hi2 with hi2 | hi2
      all_goals
        go_wp2
        go_ret
        exact ⟨by rw [HV.out]; rfl, hB1⟩
  · have HST : Hid (okSt ps t = false) := Lib.hid (by simpa using h)
    have HV : Hid (onA ps t i = -1) := Lib.hid (onA_no HST.out)
    clear h
    go_enter Tryd.func27, Tryd.ntmps27
    go_wp2_with fail
    refine (stateOf_any s t w hm hs).mono ?_
    rintro e w1 ⟨⟨A, j, c, rfl, himp⟩, hB1⟩
    clear himp
    rw [← HPS.out, HST.out]
    go_wp2
    go_ret
    exact ⟨by rw [HV.out]; rfl, hB1⟩

theorem sStepOne_any (s : ByteArray) (t i : Int) (w : World) (hs : s.size ≤ 1073741824) :
    Calls Tryd.prog 30 #[.string s, .int .i64 t, .int .i64 i] w fun e w' => e = .returned (.int .i64 (onA (cutL s.data.toList) t i)) ∧ Below w.heap.size w w' := by
  obtain ⟨ps, HPS⟩ : ∃ ps, Hid (ps = cutL s.data.toList) := ⟨_, rfl⟩
  rw [← HPS.out]
  by_cases h : okSt ps t = true
  · obtain ⟨h1, k, rfl, hk⟩ := okSt_true h
    have HOK := Lib.hid h1
    have HST := Lib.hid h
    have HK := Lib.hid hk
    have hn5 := okN_le h1
    by_cases hi : 0 ≤ i ∧ i < (ps.length : Int)
    · obtain ⟨i, rfl⟩ : ∃ j : Nat, i = (j : Int) := ⟨i.toNat, by omega⟩
      have hin : i < ps.length := by omega
      have HV : Hid (onA ps (k : Int) (i : Int) = (stW (nb ps k) k (2 ^ i) ps.length : Int)) := Lib.hid (by rw [onA_yes h hin, stp1_of h1 hk hin])
      obtain ⟨W, HW, hWw, hW32, _⟩ := wrap_two i (by omega)
      have hW : W < 32 := by
        have : 2 ^ i < 2 ^ 5 := Nat.pow_lt_pow_right (by omega) (by omega)
        rw [HW.out]; omega
      rw [← HW.out] at HV
      have hd1 : decide ((0 : Int) ≤ (i : Int)) = true := decide_eq_true (by omega)
      have hd2 : decide ((i : Int) ≤ (ps.length : Int) - 1) = true := decide_eq_true (by omega)
      clear h h1 hk hi
      go_enter Tryd.func30, Tryd.ntmps30
      go_wp2_with fail
      refine (l3State_any s k w hs).mono ?_
      rintro e w1 ⟨⟨A, j, c, rfl, himp⟩, hB1⟩
      rw [← HPS.out] at himp ⊢
      obtain ⟨rfl, hc, hO⟩ := himp HST.out
      rw [HST.out]
      have HR := Lib.hid hO.rd
      clear hO himp
      go_wp2_with fail
      refine (l1In_any _ _ _ _).mono ?_
      rintro e w2 ⟨rfl, rfl⟩
      rw [hd1, hd2]
      clear hd1 hd2
      go_wp2_with fail
      refine (l3Step_any A c ps k W _ HR HOK HK hW).mono ?_
      rintro e w2 ⟨rfl, rfl⟩
      go_wp2
      go_ret
      exact ⟨by rw [HV.out]; rfl, hB1⟩
    · have HV := Lib.hid (onA_out (ps := ps) (t := (k : Int)) hi)
      have hdd : (decide ((0 : Int) ≤ i) && decide (i ≤ (ps.length : Int) - 1)) = false := by
        rw [Bool.eq_false_iff]; intro h2; rw [Bool.and_eq_true, decide_eq_true_iff, decide_eq_true_iff] at h2; omega
      have HDD := Lib.hid hdd
      clear h h1 hk hi hdd
      go_enter Tryd.func30, Tryd.ntmps30
      go_wp2_with fail
      refine (l3State_any s k w hs).mono ?_
      rintro e w1 ⟨⟨A, j, c, rfl, himp⟩, hB1⟩
      rw [← HPS.out] at himp ⊢
      obtain ⟨rfl, hc, hO⟩ := himp HST.out
      rw [HST.out]
      clear hO himp
      go_wp2_with fail
      refine (l1In_any _ _ _ _).mono ?_
      rintro e w2 ⟨rfl, rfl⟩
      rw [HDD.out]
      go_wp2
      go_ret
      exact ⟨by rw [HV.out]; rfl, hB1⟩
  · have HST : Hid (okSt ps t = false) := Lib.hid (by simpa using h)
    have HV : Hid (onA ps t i = -1) := Lib.hid (onA_no HST.out)
    clear h
    go_enter Tryd.func30, Tryd.ntmps30
    go_wp2_with fail
    refine (l3State_any s t w hs).mono ?_
    rintro e w1 ⟨⟨A, j, c, rfl, himp⟩, hB1⟩
    clear himp
    rw [← HPS.out, HST.out]
    go_wp2
    go_ret
    exact ⟨by rw [HV.out]; rfl, hB1⟩

theorem sStepAll_any (s : ByteArray) (t : Int) (w : World) (hs : s.size ≤ 1073741824) :
    Calls Tryd.prog 31 #[.string s, .int .i64 t] w fun e w' => e = .returned (.int .i64 (stA (cutL s.data.toList) t)) ∧ Below w.heap.size w w' := by
  obtain ⟨ps, HPS⟩ : ∃ ps, Hid (ps = cutL s.data.toList) := ⟨_, rfl⟩
  rw [← HPS.out]
  by_cases h : okSt ps t = true
  · obtain ⟨h1, k, rfl, hk⟩ := okSt_true h
    have HOK := Lib.hid h1
    have HST := Lib.hid h
    have HK := Lib.hid hk
    have hn5 := okN_le h1
    obtain ⟨N, HN, _, hN32, hN0⟩ := wrap_two ps.length hn5
    have HV : Hid (stA ps (k : Int) = (stp ps k : Int)) := Lib.hid (by rw [stA, if_pos h]; rfl)
    clear h h1 hk
    go_enter Tryd.func31, Tryd.ntmps31
    go_wp2_with fail
    refine (l3State_any s k w hs).mono ?_
    rintro e w1 ⟨⟨A, j, c, rfl, himp⟩, hB1⟩
    rw [← HPS.out] at himp ⊢
    obtain ⟨rfl, hc, hO⟩ := himp HST.out
    rw [HST.out]
    have HR := Lib.hid hO.rd
    clear hO himp
    go_wp2_with fail
    refine (l3AllN_any A _ c N _ hn5 HN hN0).mono ?_
    rintro e w2 ⟨rfl, rfl⟩
    go_wp2_with fail
    refine (l3StepA_any A c ps k N _ HR HOK HN HK).mono ?_
    rintro e w2 ⟨rfl, rfl⟩
    go_wp2
    go_ret
    exact ⟨by rw [HV.out]; rfl, hB1⟩
  · have HST : Hid (okSt ps t = false) := Lib.hid (by simpa using h)
    have HV : Hid (stA ps t = -1) := Lib.hid (by rw [stA, HST.out]; rfl)
    clear h
    go_enter Tryd.func31, Tryd.ntmps31
    go_wp2_with fail
    refine (l3State_any s t w hs).mono ?_
    rintro e w1 ⟨⟨A, j, c, rfl, himp⟩, hB1⟩
    clear himp
    rw [← HPS.out, HST.out]
    go_wp2
    go_ret
    exact ⟨by rw [HV.out]; rfl, hB1⟩

theorem sRestlessOf_any (s : ByteArray) (t : Int) (w : World) (hs : s.size ≤ 1073741824) :
    Calls Tryd.prog 32 #[.string s, .int .i64 t] w fun e w' => e = .returned (.int .i64 (rsA (cutL s.data.toList) t)) ∧ Below w.heap.size w w' := by
  obtain ⟨ps, HPS⟩ : ∃ ps, Hid (ps = cutL s.data.toList) := ⟨_, rfl⟩
  rw [← HPS.out]
  by_cases h : okSt ps t = true
  · obtain ⟨h1, k, rfl, hk⟩ := okSt_true h
    have h32 := two_le _ (okN_le h1)
    obtain ⟨y, HY⟩ : ∃ y, Hid (y = stp ps k) := ⟨_, rfl⟩
    obtain ⟨z, HZ⟩ : ∃ z, Hid (z = y ^^^ k) := ⟨_, rfl⟩
    have hy : y < 32 := by rw [HY.out]; exact Nat.lt_of_lt_of_le (stp_lt h1 k) h32
    have hk32 : k < 32 := Nat.lt_of_lt_of_le hk h32
    have HV : Hid (rsA ps (k : Int) = (z : Int)) := Lib.hid (by rw [rsA, if_pos h, HZ.out, HY.out]; rfl)
    have HSA : Hid (stA ps (k : Int) = (y : Int)) := Lib.hid (by rw [stA, if_pos h, HY.out]; rfl)
    have e1 : bits .xor .i64 (y : Int) (k : Int) = (z : Int) := by rw [HZ.out]; exact i64_xor_nat y k (by omega) (by omega)
    clear h h1 hk h32
    go_enter Tryd.func32, Tryd.ntmps32
    go_wp2_with fail
    refine (sStepAll_any s k w hs).mono ?_
    rintro e w1 ⟨rfl, hB1⟩
    rw [← HPS.out, HSA.out]
    go_wp2
    go_ret
    exact ⟨by rw [HV.out]; rfl, hB1⟩
  · have HST : Hid (okSt ps t = false) := Lib.hid (by simpa using h)
    have HV : Hid (rsA ps t = -1) := Lib.hid (by rw [rsA, HST.out]; rfl)
    have HSA : Hid (stA ps t = -1) := Lib.hid (by rw [stA, HST.out]; rfl)
    clear h
    go_enter Tryd.func32, Tryd.ntmps32
    go_wp2_with fail
    refine (sStepAll_any s t w hs).mono ?_
    rintro e w1 ⟨rfl, hB1⟩
    rw [← HPS.out, HSA.out]
    go_wp2
    go_ret
    exact ⟨by rw [HV.out]; rfl, hB1⟩

end Go.Proofs.YtjinmoeabkpmaaaDoor
