/- The walk of the law FnTurnNetwork. Printed by wip/mkl.py. -/
import Derived.Test.YtjinmoeabkpmaaaDoorProg
import Derived.WalkKit
import Derived.WalkSpells
import Derived.WalkLawsBesides
import Derived.Lib.Hide
import Derived.Deep.QuietTactic
import Derived.BigQuiet
import Derived.Test.YtjinmoeabkpmaaaDoorLa
import Derived.Test.YtjinmoeabkpmaaaDoorYf
import Derived.Test.YtjinmoeabkpmaaaDoorYg
import Derived.Test.YtjinmoeabkpmaaaDoorYj
namespace Go.Proofs.YtjinmoeabkpmaaaDoor
open Go.RowKit
set_option linter.unusedVariables false

set_option maxHeartbeats 4000000 in
set_option maxRecDepth 100000 in
theorem fnTurnNetwork_walk (a0 : Option Addr) (len0 cap0 : Nat) (z0 : List Int) (w : World) (hm : Hid (HasM w)) (w0 : IsRow .u8 w a0 len0 cap0 z0) :
    Calls Tryd.prog 10 #[.slice a0 len0 cap0] w fun e w' => e = .returned (.bool true) ∧ Below w.heap.size w w' := by
  by_cases h0 : 1048576 < len0
  · go_enter Tryd.func10, Tryd.ntmps10
    go_wp2
    go_ret
    exact ⟨rfl, Below.refl _ _⟩
  · obtain ⟨bs, hbl, hrd, hwf, hcap, hmax⟩ := w0.rdk
    unfold maxLen at hmax
    have HRD := Lib.hid hrd
    have HWF := Lib.hid (fun x hx => wf_u8 (hwf x hx))
    have HBL := Lib.hid hbl.symm
    clear hbl hrd hwf w0
    go_enter Tryd.func10, Tryd.ntmps10
    go_wp2_with fail
    refine (DrawTurnNetwork_any _ _ _ _ _ HBL.out hcap (by omega) HRD HWF).mono ?_
    rintro e W1 ⟨⟨t, s, rfl, ht, hs1, hs2⟩, hB1⟩
    obtain ⟨ps, HPS⟩ : ∃ ps, Hid (ps = cutL t.data.toList) := ⟨_, rfl⟩
    have HS : Hid (LawW w W1 []) := Lib.hid ⟨hm.out.below hB1, hB1, by simp⟩
    clear hB1 h0 hm HRD HWF HBL hcap hmax
    by_cases hok : okSw ps s = true
    · obtain ⟨hokN, i, rfl, hi⟩ := okSw_true hok
      have HOK := Lib.hid hokN
      have HSW := Lib.hid hok
      have hn5 := okN_le hokN
      obtain ⟨N, HN, hNw, hN32, hN0⟩ := wrap_two ps.length hn5
      obtain ⟨m, HM, hmw, hm32, hm0⟩ := wrap_two i (by omega)
      have hmN : m < 2 ^ ps.length := by rw [HM.out]; exact Nat.pow_lt_pow_right (by omega) hi
      obtain ⟨tk, HTK⟩ : ∃ tk : ByteArray, Hid (tk = ⟨(turnN ps (i : Int)).toArray⟩) := ⟨_, rfl⟩
      obtain ⟨qs, HQS⟩ : ∃ qs, Hid (qs = cutL tk.data.toList) := ⟨_, rfl⟩
      have hq : qs = frS ps.length (trnF ps m) := by
        rw [HQS.out, HTK.out, turnN_yes hok, ← HM.out]
        exact frS_cut (by omega)
      have htk : tk.size ≤ 100000 := by
        rw [HTK.out, turnN_yes hok, str_size]
        have := joinN_len (frS_lens hn5 (trnF ps (2 ^ i))) ps.length (by rw [frS_length]; exact Nat.le_refl _)
        have e : (frS ps.length (trnF ps (2 ^ i))).take ps.length = frS ps.length (trnF ps (2 ^ i)) := List.take_of_length_le (by rw [frS_length]; exact Nat.le_refl _)
        rw [e] at this
        omega
      have hokq : okN qs = true := by rw [hq]; exact frS_ok (by omega) hn5
      have hql : qs.length = ps.length := by rw [hq, frS_length]
      have HSW2 : Hid (okSw qs (i : Int) = true) := Lib.hid (by
        rw [okSw, hokq, hql, decide_eq_true (show (0 : Int) ≤ (i : Int) by omega), decide_eq_true (show (i : Int) < (ps.length : Int) by omega)]; rfl)
      have HBK : Hid ((⟨(turnN qs (i : Int)).toArray⟩ : ByteArray) = t) := Lib.hid (by
        rw [turnN_yes HSW2.out, hql, ← HM.out, hq, trn_twice hokN hmN, HPS.out, joinN_cut _ _ (Nat.le_refl _), str_of_list])
      obtain ⟨F1, HF1⟩ : ∃ F, Hid (F = ints (fixN qs)) := ⟨_, rfl⟩
      obtain ⟨F2, HF2⟩ : ∃ F, Hid (F = ints (fixN ps)) := ⟨_, rfl⟩
      have hF12 : F1.length = F2.length := by rw [HF1.out, HF2.out, ints_length, ints_length, hq]; exact fix_trn hokN (by omega) hmN
      have hFd : ((F1.length : Int) == (F2.length : Int)) = true := by rw [beq_iff_eq]; omega
      have HSZ : Hid (szN ps = (ps.length : Int)) := Lib.hid (by rw [szN, if_pos hokN])
      have HST : Hid (∀ k, k < N → stA ps (k : Int) = ((stp ps k : Nat) : Int) ∧ stA qs ((k ^^^ m : Nat) : Int) = ((stp ps k ^^^ m : Nat) : Int) ∧ stp ps k < 32 ∧ k ^^^ m < 32 ∧ stp ps k ^^^ m < 32) := Lib.hid fun k hk => by
        have hk2 : k < 2 ^ ps.length := by rw [← HN.out]; exact hk
        have hx : k ^^^ m < 2 ^ ps.length := Nat.xor_lt_two_pow hk2 hmN
        have hy := stp_lt hokN k
        have hz : stp ps k ^^^ m < 2 ^ ps.length := Nat.xor_lt_two_pow hy hmN
        have h32 := two_le _ hn5
        refine ⟨stA_k (by rw [okSt_of hokN HN.out]; simp; omega), ?_, by omega, by omega, by omega⟩
        rw [stA_k (by rw [okSt_of hokq (N := N) (by rw [hql, HN.out])]; simp; rw [HN.out]; exact Int.le_sub_one_of_lt (by exact_mod_cast hx))]
        rw [hq, stp_frS hx (trnF_lt hokN hmN _), trnF, xor_self_]
      have hb1 := bytes_eqb tk
      have hb2 : (t == t) = true := by have := bytes_eqb t; simpa [bne] using this
      clear hok hokN hq hokq hql hF12 hs1 hs2
      go_wp2_with (first
        | (go_at_call 57; refine (TurnNetwork_any _ _ _ (lw_m HS) (by omega)).mono ?_; rintro e V ⟨rfl, hV⟩; unfold txtV; replace HS := lw_step HS hV; clear hV; rw [← HPS.out, ← HTK.out, HSW.out])
        | (go_at_call 58; refine (sTurnNetwork_any _ _ _ (by omega)).mono ?_; rintro e V ⟨rfl, hV⟩; unfold txtV; replace HS := lw_step HS hV; clear hV; rw [← HPS.out, ← HTK.out, HSW.out]))
      rw [hmw]
      go_loopw [10] (fun i wr => ∃ k : Nat, k ≤ N ∧ i = .int .i64 k ∧ Hid (LawW w wr [])) (fun i _ => N - (intOf i).toNat)
      case atStart => exact ⟨0, Nat.zero_le _, rfl, HS⟩
      case round =>
        clear HS
        obtain ⟨k, hk, rfl, HS⟩ := hrel
        by_cases hlt : k < N
        · obtain ⟨hsa, hsb, hy, hx, hz⟩ := HST.out k hlt
          obtain ⟨x, HX⟩ : ∃ x, Hid (x = k ^^^ m) := ⟨_, rfl⟩
          obtain ⟨y, HY⟩ : ∃ x, Hid (x = stp ps k) := ⟨_, rfl⟩
          rw [← HX.out] at hsb hx
          rw [← HY.out] at hsa hsb hy hz
          obtain ⟨z, HZ⟩ : ∃ x, Hid (x = y ^^^ m) := ⟨_, rfl⟩
          rw [← HZ.out] at hsb hz
          have HSA := Lib.hid hsa
          have HSB := Lib.hid hsb
          have e1 : bits .xor .i64 (k : Int) (m : Int) = (x : Int) := by rw [HX.out]; exact i64_xor_nat k m (by omega) (by omega)
          have e2 : bits .xor .i64 (y : Int) (m : Int) = (z : Int) := by rw [HZ.out]; exact i64_xor_nat y m (by omega) (by omega)
          have hzz : ((z : Int) != (z : Int)) = false := bne_self_eq_false _
          clear hsa hsb
          go_wp2_with (first
            | (go_at_call 33; refine (SizeOf_any t  _ (lw_m HS) (by omega)).mono ?_; rw [← HPS.out]; rintro e V ⟨rfl, hV⟩; replace HS := lw_step HS hV; clear hV; rw [HSZ.out])
            | (go_at_call 28; refine (StepAll_any _ _ _ (lw_m HS) (by omega)).mono ?_; rintro e V ⟨rfl, hV⟩; replace HS := lw_step HS hV; clear hV; (first | rw [← HPS.out, HSA.out] | rw [← HQS.out, HSB.out])))
          go_roundw
          case rel => exact ⟨k + 1, by omega, by go_num, HS⟩
          case measure => simp [intOf]; omega
        · have hkn : k = N := by omega
          subst hkn
          go_wp2_with (first
            | (go_at_call 33; refine (SizeOf_any t  _ (lw_m HS) (by omega)).mono ?_; rw [← HPS.out]; rintro e V ⟨rfl, hV⟩; replace HS := lw_step HS hV; clear hV; rw [HSZ.out])
            | (go_at_call 57; refine (TurnNetwork_any _ _ _ (lw_m HS) (by omega)).mono ?_; rintro e V ⟨rfl, hV⟩; unfold txtV; replace HS := lw_step HS hV; clear hV; rw [← HQS.out, HBK.out, HSW2.out])
            | (go_at_call 59; refine (FixedPoints_any _ _ (lw_m HS) (by omega)).mono ?_; (first | rw [← HPS.out, ← HF2.out] | rw [← HQS.out, ← HF1.out]); rintro e V ⟨⟨A2, c2, rfl, hc2, hO2⟩, hV⟩; replace HS := lw_add (lw_step HS hV) hO2.rd; clear hV hO2))
          go_ret
          exact ⟨rfl, HS.out.b⟩
    · have hok' : okSw ps s = false := by simpa using hok
      have HSW := Lib.hid hok'
      obtain ⟨tk, HTK⟩ : ∃ tk : ByteArray, Hid (tk = ⟨(turnN ps s).toArray⟩) := ⟨_, rfl⟩
      have hb1 := bytes_eqb tk
      have hb2 : (tk == tk) = true := by have := bytes_eqb tk; simpa [bne] using this
      clear hok hok'
      go_wp2_with (first
        | (go_at_call 57; refine (TurnNetwork_any _ _ _ (lw_m HS) (by omega)).mono ?_; rintro e V ⟨rfl, hV⟩; unfold txtV; replace HS := lw_step HS hV; clear hV; rw [← HPS.out, ← HTK.out, HSW.out])
        | (go_at_call 58; refine (sTurnNetwork_any _ _ _ (by omega)).mono ?_; rintro e V ⟨rfl, hV⟩; unfold txtV; replace HS := lw_step HS hV; clear hV; rw [← HPS.out, ← HTK.out, HSW.out]))
      go_ret
      exact ⟨rfl, HS.out.b⟩

end Go.Proofs.YtjinmoeabkpmaaaDoor
