/- The walk of the law FnSteps. Printed by wip/mkl.py. -/
import Derived.Test.YtjinmoeabkpmaaaDoorProg
import Derived.WalkKit
import Derived.WalkSpells
import Derived.WalkLawsBesides
import Derived.Lib.Hide
import Derived.Deep.QuietTactic
import Derived.BigQuiet
import Derived.Test.YtjinmoeabkpmaaaDoorLa
import Derived.Test.YtjinmoeabkpmaaaDoorYf
import Derived.Test.YtjinmoeabkpmaaaDoorYg
import Derived.Test.YtjinmoeabkpmaaaDoorYh
import Derived.Test.YtjinmoeabkpmaaaDoorYi
import Derived.Test.YtjinmoeabkpmaaaDoorYk
namespace Go.Proofs.YtjinmoeabkpmaaaDoor
open Go.RowKit
set_option linter.unusedVariables false

set_option maxHeartbeats 4000000 in
set_option maxRecDepth 100000 in
theorem fnSteps_walk (a0 : Option Addr) (len0 cap0 : Nat) (z0 : List Int) (w : World) (hm : Hid (HasM w)) (w0 : IsRow .u8 w a0 len0 cap0 z0) :
    Calls Tryd.prog 5 #[.slice a0 len0 cap0] w fun e w' => e = .returned (.bool true) ∧ Below w.heap.size w w' := by
  by_cases h0 : 1048576 < len0
  · go_enter Tryd.func5, Tryd.ntmps5
    go_wp2
    go_ret
    exact ⟨rfl, Below.refl _ _⟩
  · obtain ⟨bs, hbl, hrd, hwf, hcap, hmax⟩ := w0.rdk
    unfold maxLen at hmax
    have HRD := Lib.hid hrd
    have HWF := Lib.hid (fun x hx => wf_u8 (hwf x hx))
    have HBL := Lib.hid hbl.symm
    clear hbl hrd hwf w0
    go_enter Tryd.func5, Tryd.ntmps5
    go_wp2_with fail
    refine (DrawStepOne_any _ _ _ _ _ HBL.out hcap (by omega) HRD HWF).mono ?_
    rintro e W1 ⟨⟨t, s, i, rfl, ht, hs12, hi1, hi2⟩, hB1⟩
    obtain ⟨ps, HPS⟩ : ∃ ps, Hid (ps = cutL t.data.toList) := ⟨_, rfl⟩
    have HS : Hid (LawW w W1 []) := Lib.hid ⟨hm.out.below hB1, hB1, by simp⟩
    clear hB1 h0 hm HRD HWF HBL hcap hmax
    by_cases hok : okSt ps s = true
    · have hok0 := hok
      obtain ⟨HOK, N, s, rfl, HN, hN32, hN0, hsN, HOKS, hfN⟩ := st_open hok
      have hn5 := okN_le HOK.out
      have HSN : Hid (s < 2 ^ ps.length) := Lib.hid (by rw [← HN.out]; exact hsN)
      have HSZ : Hid (szN ps = (ps.length : Int)) := Lib.hid (by rw [szN, if_pos HOK.out])
      obtain ⟨y, HY⟩ : ∃ y, Hid (y = stp ps s) := ⟨_, rfl⟩
      obtain ⟨r, HR⟩ : ∃ r, Hid (r = y ^^^ s) := ⟨_, rfl⟩
      have hy32 : y < 32 := by rw [HY.out]; exact Nat.lt_of_lt_of_le (hfN s hsN) hN32
      have hr32 : r < 32 := by
        rw [HR.out]
        exact Nat.xor_lt_two_pow (n := 5) hy32 (Nat.lt_of_lt_of_le hsN hN32)
      have HSA : Hid (stA ps (s : Int) = (y : Int)) := Lib.hid (by rw [stA_k hok0, HY.out])
      have HRS : Hid (rsA ps (s : Int) = (r : Int)) := Lib.hid (by rw [rsA_k hok0, HR.out, HY.out])
      have e1 : bits .xor .i64 (y : Int) (s : Int) = (r : Int) := by rw [HR.out]; exact i64_xor_nat y s (by omega) (by omega)
      have HNX : Hid (∀ k, k < ps.length → okSw ps (k : Int) = true ∧ okT (ps.getD k []) = true ∧ s < 2 ^ tin (ps.getD k []).length ∧ (ps.getD k []).length ≤ 1000 ∧ val (ps.getD k []) s = bit y k ∧ onA ps (s : Int) (k : Int) = ((stp1 ps s k : Nat) : Int) ∧ (stp1 ps s k = s → bit r k = 0) ∧ (stp1 ps s k ≠ s → bit r k = 1 ∧ stp1 ps s k = s ^^^ 2 ^ k)) := Lib.hid fun k hk => by
        have e : ps.getD k [] = ps[k] := by rw [List.getD_eq_getElem?_getD, List.getElem?_eq_getElem hk, Option.getD_some]
        have h1 := okN_of HOK.out (List.getElem_mem hk)
        have h2 := rst_bit HOK.out HSN.out hk
        rw [← HY.out, ← HR.out] at h2
        have h3 := part_len HOK.out HN.out hk
        refine ⟨?_, by rw [e]; exact h1.1, by rw [e, h1.2]; exact HSN.out, by rw [e]; omega, ?_, onA_yes hok0 hk, h2.1, h2.2⟩
        · rw [okSw, HOK.out, decide_eq_true (show (0 : Int) ≤ (k : Int) by omega), decide_eq_true (show (k : Int) < (ps.length : Int) by omega)]; rfl
        · rw [HY.out, stp_bit HOK.out hk, nb]
      obtain ⟨o, HO, ho⟩ : ∃ o : Int, Hid (onA ps (s : Int) i = o) ∧ (0 ≤ i ∧ i < (ps.length : Int) ∧ 0 ≤ o ∨ ¬ (0 ≤ i ∧ i < (ps.length : Int)) ∧ o = -1) := by
        by_cases h : 0 ≤ i ∧ i < (ps.length : Int)
        · obtain ⟨j, rfl⟩ : ∃ j : Nat, i = (j : Int) := ⟨i.toNat, by omega⟩
          exact ⟨((stp1 ps s j : Nat) : Int), Lib.hid (onA_yes hok0 (by omega)), .inl ⟨by omega, h.2, by omega⟩⟩
        · exact ⟨-1, Lib.hid (onA_out h), .inr ⟨h, rfl⟩⟩
      have hoo : (o == o) = true := beq_self_eq_true _
      have hoo' : (o != o) = false := bne_self_eq_false _
      have hyy' : ((y : Int) != (y : Int)) = false := bne_self_eq_false _
      have hrr' : ((r : Int) != (r : Int)) = false := bne_self_eq_false _
      have hrr : ((r : Int) == (r : Int)) = true := beq_self_eq_true _
      clear hok hok0 hs12
      go_wp2_with (first
        | (go_at_call 27; refine (StepOne_any t _ _ _ (lw_m HS) (by omega)).mono ?_; rw [← HPS.out]; rintro e V ⟨rfl, hV⟩; replace HS := lw_step HS hV; clear hV; rw [HO.out])
        | (go_at_call 30; refine (sStepOne_any t _ _ _ (by omega)).mono ?_; rw [← HPS.out]; rintro e V ⟨rfl, hV⟩; replace HS := lw_step HS hV; clear hV; rw [HO.out])
        | (go_at_call 28; refine (StepAll_any t _ _ (lw_m HS) (by omega)).mono ?_; rw [← HPS.out]; rintro e V ⟨rfl, hV⟩; replace HS := lw_step HS hV; clear hV; rw [HSA.out])
        | (go_at_call 31; refine (sStepAll_any t _ _ (by omega)).mono ?_; rw [← HPS.out]; rintro e V ⟨rfl, hV⟩; replace HS := lw_step HS hV; clear hV; rw [HSA.out])
        | (go_at_call 29; refine (RestlessOf_any t _ _ (lw_m HS) (by omega)).mono ?_; rw [← HPS.out]; rintro e V ⟨rfl, hV⟩; replace HS := lw_step HS hV; clear hV; rw [HRS.out])
        | (go_at_call 32; refine (sRestlessOf_any t _ _ (by omega)).mono ?_; rw [← HPS.out]; rintro e V ⟨rfl, hV⟩; replace HS := lw_step HS hV; clear hV; rw [HRS.out])
        | (go_at_call 33; refine (SizeOf_any t  _ (lw_m HS) (by omega)).mono ?_; rw [← HPS.out]; rintro e V ⟨rfl, hV⟩; replace HS := lw_step HS hV; clear hV; rw [HSZ.out]))
      go_loopw [10] (fun q wr => ∃ k : Nat, k ≤ ps.length ∧ q = .int .i64 k ∧ Hid (LawW w wr [])) (fun q _ => ps.length - (intOf q).toNat)
      case atStart => exact ⟨0, Nat.zero_le _, rfl, HS⟩
      case round =>
        clear HS
        obtain ⟨k, hk, rfl, HS⟩ := hrel
        by_cases hlt : k < ps.length
        · obtain ⟨h1, h2, h3, h4, h5, h6, h7, h8⟩ := HNX.out k hlt
          obtain ⟨x, HX⟩ : ∃ x, Hid (x = stp1 ps s k) := ⟨_, rfl⟩
          obtain ⟨pk, HPK⟩ : ∃ x, Hid (x = ps.getD k []) := ⟨_, rfl⟩
          rw [← HX.out] at h6 h7 h8
          rw [← HPK.out] at h2 h3 h4 h5
          have HS1 := Lib.hid h1
          have HS2 := Lib.hid h2
          have HS3 := Lib.hid h3
          have HS5 := Lib.hid h5
          have HS6 := Lib.hid h6
          have hby := bit_and y k (by omega)
          obtain ⟨by_, HBY⟩ : ∃ b, Hid (b = bit y k) := ⟨_, rfl⟩
          rw [← HBY.out] at hby HS5
          have hbb : ((by_ : Int) != (by_ : Int)) = false := bne_self_eq_false _
          have hb := bit_and r k (by omega)
          clear h1 h2 h3 h5 h6
          by_cases hst : x = s
          · have hb0 := h7 hst
            rw [hb0] at hb
            have hxs : ((x : Int) != (s : Int)) = false := by rw [hst]; exact bne_self_eq_false _
            clear hb0 h7 h8 hst
            go_wp2_with (first
              | (go_at_call 35; refine (RuleOf_ok t k _ (lw_m HS) (by omega) (by rw [← HPS.out]; exact HS1)).mono ?_; rw [← HPS.out, ← HPK.out]; rintro e V ⟨rfl, hV⟩; replace HS := lw_step HS hV; clear hV)
              | (go_at_call 34; refine (ValueAt_ok pk s _ h4 HS2 HS3).mono ?_; rintro e V ⟨rfl, hV⟩; replace HS := lw_step HS hV; clear hV; rw [HS5.out])
              | (go_at_call 27; refine (StepOne_any t _ _ _ (lw_m HS) (by omega)).mono ?_; rw [← HPS.out]; rintro e V ⟨rfl, hV⟩; replace HS := lw_step HS hV; clear hV; rw [HS6.out]))
            go_roundw
            case rel => exact ⟨k + 1, by omega, by go_num, HS⟩
            case measure => simp [intOf]; omega
          · obtain ⟨hb1, hx1⟩ := h8 hst
            rw [hb1] at hb
            have hxs : ((x : Int) != (s : Int)) = true := by rw [bne_iff_ne]; omega
            obtain ⟨W, HW, hWw, hW32, _⟩ := wrap_two k (by omega)
            have hxw : bits .xor .i64 (s : Int) (W : Int) = (x : Int) := by rw [hx1, ← HW.out]; exact i64_xor_nat s W (by omega) (by omega)
            have hxx : ((x : Int) != (x : Int)) = false := bne_self_eq_false _
            clear hb1 hx1 h7 h8 hst
            go_wp2_with (first
              | (go_at_call 35; refine (RuleOf_ok t k _ (lw_m HS) (by omega) (by rw [← HPS.out]; exact HS1)).mono ?_; rw [← HPS.out, ← HPK.out]; rintro e V ⟨rfl, hV⟩; replace HS := lw_step HS hV; clear hV)
              | (go_at_call 34; refine (ValueAt_ok pk s _ h4 HS2 HS3).mono ?_; rintro e V ⟨rfl, hV⟩; replace HS := lw_step HS hV; clear hV; rw [HS5.out])
              | (go_at_call 27; refine (StepOne_any t _ _ _ (lw_m HS) (by omega)).mono ?_; rw [← HPS.out]; rintro e V ⟨rfl, hV⟩; replace HS := lw_step HS hV; clear hV; rw [HS6.out]))
            go_roundw
            case rel => exact ⟨k + 1, by omega, by go_num, HS⟩
            case measure => simp [intOf]; omega
        · have hkn : k = ps.length := by omega
          subst hkn
          have hfin : (decide (o < 0) == (decide (i < 0) || decide ((ps.length : Int) ≤ i))) = true := by
            rcases ho with ⟨h1, h2, h3⟩ | ⟨h1, h2⟩
            · rw [decide_eq_false (show ¬ o < 0 by omega), decide_eq_false (show ¬ i < 0 by omega), decide_eq_false (show ¬ (ps.length : Int) ≤ i by omega)]; rfl
            · have hi3 : i < 0 ∨ (ps.length : Int) ≤ i := by omega
              rw [decide_eq_true (show o < 0 by omega)]
              rcases hi3 with hi3 | hi3
              · rw [decide_eq_true hi3]; rfl
              · rw [decide_eq_true hi3, Bool.or_true]; rfl
          go_wp2_with fail
          all_goals
            go_ret
            exact ⟨by first | rfl | (show Ending.returned (Value.bool (decide (o < 0))) = _; rw [decide_eq_true (show o < 0 by omega)]) | (show Ending.returned (Value.bool (!decide (o < 0))) = _; rw [decide_eq_false (show ¬ o < 0 by omega)]; rfl) | (show Ending.returned (Value.bool (decide (o < 0) == (decide (i < 0) || decide ((ps.length : Int) ≤ i)))) = _; rw [hfin]), HS.out.b⟩
    · have hok' : okSt ps s = false := by simpa using hok
      have HO : Hid (onA ps s i = -1) := Lib.hid (onA_no hok')
      have HSA : Hid (stA ps s = -1) := Lib.hid (by rw [stA, if_neg hok])
      have HRS : Hid (rsA ps s = -1) := Lib.hid (by rw [rsA, if_neg hok])
      clear hok hok'
      go_wp2_with (first
        | (go_at_call 27; refine (StepOne_any t _ _ _ (lw_m HS) (by omega)).mono ?_; rw [← HPS.out]; rintro e V ⟨rfl, hV⟩; replace HS := lw_step HS hV; clear hV; rw [HO.out])
        | (go_at_call 30; refine (sStepOne_any t _ _ _ (by omega)).mono ?_; rw [← HPS.out]; rintro e V ⟨rfl, hV⟩; replace HS := lw_step HS hV; clear hV; rw [HO.out])
        | (go_at_call 28; refine (StepAll_any t _ _ (lw_m HS) (by omega)).mono ?_; rw [← HPS.out]; rintro e V ⟨rfl, hV⟩; replace HS := lw_step HS hV; clear hV; rw [HSA.out])
        | (go_at_call 31; refine (sStepAll_any t _ _ (by omega)).mono ?_; rw [← HPS.out]; rintro e V ⟨rfl, hV⟩; replace HS := lw_step HS hV; clear hV; rw [HSA.out])
        | (go_at_call 29; refine (RestlessOf_any t _ _ (lw_m HS) (by omega)).mono ?_; rw [← HPS.out]; rintro e V ⟨rfl, hV⟩; replace HS := lw_step HS hV; clear hV; rw [HRS.out])
        | (go_at_call 32; refine (sRestlessOf_any t _ _ (by omega)).mono ?_; rw [← HPS.out]; rintro e V ⟨rfl, hV⟩; replace HS := lw_step HS hV; clear hV; rw [HRS.out]))
      go_ret
      exact ⟨rfl, HS.out.b⟩

end Go.Proofs.YtjinmoeabkpmaaaDoor
