/- The walk of the law FnOrbit. Printed by wip/mkl.py. -/
import Derived.Test.YtjinmoeabkpmaaaDoorProg
import Derived.WalkKit
import Derived.WalkSpells
import Derived.WalkLawsBesides
import Derived.Lib.Hide
import Derived.Deep.QuietTactic
import Derived.BigQuiet
import Derived.Test.YtjinmoeabkpmaaaDoorLa
import Derived.Test.YtjinmoeabkpmaaaDoorYf
import Derived.Test.YtjinmoeabkpmaaaDoorYg
import Derived.Test.YtjinmoeabkpmaaaDoorYh
import Derived.Test.YtjinmoeabkpmaaaDoorWq
namespace Go.Proofs.YtjinmoeabkpmaaaDoor
open Go.RowKit
set_option linter.unusedVariables false

set_option maxHeartbeats 2000000 in
set_option maxRecDepth 100000 in
theorem fnOrbit_walk (a0 : Option Addr) (len0 cap0 : Nat) (z0 : List Int) (w : World) (hm : Hid (HasM w)) (w0 : IsRow .u8 w a0 len0 cap0 z0) :
    Calls Tryd.prog 8 #[.slice a0 len0 cap0] w fun e w' => e = .returned (.bool true) ∧ Below w.heap.size w w' := by
  by_cases h0 : 1048576 < len0
  · go_enter Tryd.func8, Tryd.ntmps8
    go_wp2
    go_ret
    exact ⟨rfl, Below.refl _ _⟩
  · obtain ⟨bs, hbl, hrd, hwf, hcap, hmax⟩ := w0.rdk
    unfold maxLen at hmax
    have HRD := Lib.hid hrd
    have HWF := Lib.hid (fun x hx => wf_u8 (hwf x hx))
    have HBL := Lib.hid hbl.symm
    clear hbl hrd hwf w0
    go_enter Tryd.func8, Tryd.ntmps8
    go_wp2_with fail
    refine (DrawOrbitOf_any _ _ _ _ _ HBL.out hcap (by omega) HRD HWF).mono ?_
    rintro e W1 ⟨⟨t, s, rfl, ht, hs1, hs2⟩, hB1⟩
    obtain ⟨ps, HPS⟩ : ∃ ps, Hid (ps = cutL t.data.toList) := ⟨_, rfl⟩
    have HS : Hid (LawW w W1 []) := Lib.hid ⟨hm.out.below hB1, hB1, by simp⟩
    clear hB1 h0 hm HRD HWF HBL hcap hmax
    obtain ⟨L, HL⟩ : ∃ L, Hid (L = orbN ps s) := ⟨_, rfl⟩
    by_cases hok : okSt ps s = true
    · have hok0 := hok
      obtain ⟨HOK, N, s, rfl, HN, hN32, hN0, hsN, HOKS, hfN⟩ := st_open hok
      obtain ⟨Ln, T, hF⟩ := orb_form hN32 hfN hsN
      have e0 : L = ints (itl (stp ps) s Ln) := by rw [HL.out, orbN_yes hok0, hF.eq]
      obtain rfl : L.length = Ln := by rw [e0, ints_length, itl_len]
      have hT := hF.lt
      have hLN := hF.le
      have HE : Hid (∀ i, i < L.length → L[i]? = some ((itf (stp ps) i s : Nat) : Int)) := Lib.hid fun i hi => by
        rw [show L[i]? = (ints (itl (stp ps) s L.length))[i]? from congrArg (fun l => l[i]?) e0]; exact itl_int hi
      have HTL : Hid (tailN ps (s : Int) = (T : Int)) := Lib.hid (by rw [tailN_yes hok0, hF.eq])
      obtain ⟨P, hP⟩ : ∃ P, P + T = L.length := ⟨L.length - T, by omega⟩
      have HPR : Hid (perN ps (s : Int) = (P : Int)) := Lib.hid (by rw [perN_yes hok0, hF.eq, itl_len]; show ((L.length : Nat) : Int) - (T : Int) = _; omega)
      obtain ⟨M, HM, hTM, hM32⟩ : ∃ M : Nat, Hid (lonN ps = (M : Int)) ∧ T ≤ M ∧ M ≤ 32 := ⟨lonTo ps N, Lib.hid (lonN_yes HOK.out HN.out), by have := lonTo_ge (ps := ps) N hsN; rwa [hF.eq] at this, by rw [HN.out]; exact lonTo_le HOK.out _ (Nat.le_refl _)⟩
      have HA : Hid (∀ i, stA ps ((itf (stp ps) i s : Nat) : Int) = ((itf (stp ps) (i + 1) s : Nat) : Int)) := Lib.hid fun i => by
        rw [stA_k (HOKS.out _ (itf_lt hfN hsN i)), itf_succ]
      have HF := Lib.hid hF
      have hd : ((L.length : Int) == 0) = false := by rw [beq_eq_false_iff_ne]; omega
      have HF0 : Hid (L[0]? = some (s : Int)) := HE.out 0 (by omega)
      clear hF e0 hok hok0 hs1 hs2
      go_wp2_with (first
        | (go_at_call 23; refine (OrbitOf_any t _ _ (lw_m HS) (by omega)).mono ?_; rw [← HPS.out, ← HL.out]; rintro e V ⟨⟨A2, c2, rfl, hc2, hO2⟩, hV⟩; replace HS := lw_add (lw_step HS hV) hO2.rd; clear hV hO2)
        | (go_at_call 25; refine (TailOf_any t _ _ (lw_m HS) (by omega)).mono ?_; rw [← HPS.out]; rintro e V ⟨rfl, hV⟩; replace HS := lw_step HS hV; clear hV; rw [HTL.out])
        | (go_at_call 24; refine (PeriodOf_any t _ _ (lw_m HS) (by omega)).mono ?_; rw [← HPS.out]; rintro e V ⟨rfl, hV⟩; replace HS := lw_step HS hV; clear hV; rw [HPR.out])
        | (go_at_call 48; refine (sOrbitOf_any t _ _ (by omega)).mono ?_; rw [← HPS.out, ← HL.out]; rintro e V ⟨⟨A2, c2, rfl, hc2, hO2⟩, hV⟩; replace HS := lw_add (lw_step HS hV) hO2.rd; clear hV hO2)
        | (go_at_call 38; refine (bnSame_any _ _ _ _ L _ (lw_rd HS 1 rfl) (lw_rd HS 0 rfl) (by omega)).mono ?_; rintro e V ⟨rfl, n, rfl⟩; replace HS := lw_drew HS n)
        | (go_at_call 49; refine (sTailOf_any t _ _ (by omega)).mono ?_; rw [← HPS.out]; rintro e V ⟨rfl, hV⟩; replace HS := lw_step HS hV; clear hV; rw [HTL.out])
        | (go_at_call 50; refine (sPeriodOf_any t _ _ (by omega)).mono ?_; rw [← HPS.out]; rintro e V ⟨rfl, hV⟩; replace HS := lw_step HS hV; clear hV; rw [HPR.out]))
      obtain ⟨g, off, rfl⟩ := lw_form HS 1 rfl (by omega)
      replace HS := lw_cut HS 1
      go_loopw [8] (fun i wr => ∃ k : Nat, k ≤ L.length ∧ i = .int .i64 k ∧ Hid (LawW w wr [(some ⟨g, off, none⟩, L)])) (fun i _ => L.length - (intOf i).toNat)
      case atStart => exact ⟨0, Nat.zero_le _, rfl, HS⟩
      case round =>
        clear HS
        obtain ⟨k, hk, rfl, HS⟩ := hrel
        by_cases hlt : k < L.length
        · obtain ⟨x, HX⟩ : ∃ x, Hid (x = itf (stp ps) k s) := ⟨_, rfl⟩
          obtain ⟨y, HY⟩ : ∃ y, Hid (y = itf (stp ps) (k + 1) s) := ⟨_, rfl⟩
          have HE1 : Hid (L[k]? = some (x : Int)) := Lib.hid (by rw [HX.out]; exact HE.out k hlt)
          have HAx : Hid (stA ps (x : Int) = (y : Int)) := Lib.hid (by rw [HX.out, HY.out]; exact HA.out k)
          obtain ⟨j, HJ, hj⟩ : ∃ j, Hid (L[j]? = some (y : Int)) ∧ (k + 1 < L.length ∧ j = k + 1 ∨ k + 1 = L.length ∧ j = T) := by
            by_cases hk1 : k + 1 < L.length
            · exact ⟨k + 1, Lib.hid (by rw [HY.out]; exact HE.out _ hk1), .inl ⟨hk1, rfl⟩⟩
            · have hk2 : k + 1 = L.length := by omega
              exact ⟨T, Lib.hid (by rw [HY.out, hk2, HF.out.rep]; exact HE.out _ hT), .inr ⟨hk2, rfl⟩⟩
          have hyy : ((y : Int) != (y : Int)) = false := bne_self_eq_false _
          have hc1 := lw_cell HS 0 rfl HE1
          have hN1 : ∀ m, m < k → ¬ itf (stp ps) m s = x := fun m hm e => by
            have := itl_inj HF.out.nd (show m < L.length by omega) hlt (by rw [e, HX.out]); omega
          have HN1 := Lib.hid hN1
          clear hN1
          rcases hj with ⟨hk1, rfl⟩ | ⟨hk1, rfl⟩
          all_goals
            go_wp2_with (first
              | (go_at_call 28; refine (StepAll_any t _ _ (lw_m HS) (by omega)).mono ?_; rw [← HPS.out]; rintro e V ⟨rfl, hV⟩; replace HS := lw_step HS hV; clear hV; rw [HAx.out]; have hc1 := lw_cell HS 0 rfl HE1; have hc2 := lw_cell HS 0 rfl HJ))
            go_loopw [10] (fun q wq => ∃ m : Nat, m ≤ k ∧ q = .int .i64 m ∧ Hid (LawW w wq [(some ⟨g, off, none⟩, L)])) (fun q _ => k - (intOf q).toNat)
            case atStart => exact ⟨0, Nat.zero_le _, rfl, HS⟩
          all_goals
            clear HS hc1
            try clear hc2
            obtain ⟨m, hm, rfl, HS⟩ := hrel
            by_cases hlt2 : m < k
            · obtain ⟨z, HZ⟩ : ∃ z, Hid (z = itf (stp ps) m s) := ⟨_, rfl⟩
              have HE3 : Hid (L[m]? = some (z : Int)) := Lib.hid (by rw [HZ.out]; exact HE.out m (by omega))
              have hzx : ((z : Int) == (x : Int)) = false := by
                have := HN1.out m hlt2
                rw [← HZ.out] at this
                rw [beq_eq_false_iff_ne]; omega
              have hc1 := lw_cell HS 0 rfl HE1
              have hc3 := lw_cell HS 0 rfl HE3
              go_wp2_with fail
              go_quiet (fail)
              go_wp2_with fail
              go_roundw
              case rel => exact ⟨m + 1, by omega, by go_num, lw_drew HS _⟩
              case measure => simp [intOf]; omega
            · have hmk : m = k := by omega
              subst hmk
              go_wp2_with fail
              go_roundw
              case rel => exact ⟨m + 1, by omega, by go_num, HS⟩
              case measure => simp [intOf]; omega
        · have hkn : k = L.length := by omega
          subst hkn
          have hc0 := lw_cell HS 0 rfl HF0
          rw [Nat.add_zero] at hc0
          have hss : ((s : Int) == (s : Int)) = true := beq_self_eq_true _
          go_wp2_with (first
            | (go_at_call 51; refine (LongestTail_any t  _ (lw_m HS) (by omega)).mono ?_; rw [← HPS.out]; rintro e V ⟨rfl, hV⟩; replace HS := lw_step HS hV; clear hV; rw [HM.out]))
          go_ret
          exact ⟨rfl, HS.out.b⟩

    · have hok' : okSt ps s = false := by simpa using hok
      have HL0 : Hid (L.length = 0) := Lib.hid (by rw [HL.out, orbN_no hok']; rfl)
      have hL0 : L.length ≤ 0 := by rw [HL0.out]; exact Nat.le_refl _
      have HTL : Hid (tailN ps s = -1) := Lib.hid (tailN_no hok')
      have HPR : Hid (perN ps s = -1) := Lib.hid (perN_no hok')
      have hd : ((L.length : Int) == 0) = true := by rw [HL0.out]; rfl
      clear hok hok'
      go_wp2_with (first
        | (go_at_call 23; refine (OrbitOf_any t _ _ (lw_m HS) (by omega)).mono ?_; rw [← HPS.out, ← HL.out]; rintro e V ⟨⟨A2, c2, rfl, hc2, hO2⟩, hV⟩; replace HS := lw_add (lw_step HS hV) hO2.rd; clear hV hO2)
        | (go_at_call 25; refine (TailOf_any t _ _ (lw_m HS) (by omega)).mono ?_; rw [← HPS.out]; rintro e V ⟨rfl, hV⟩; replace HS := lw_step HS hV; clear hV; rw [HTL.out])
        | (go_at_call 24; refine (PeriodOf_any t _ _ (lw_m HS) (by omega)).mono ?_; rw [← HPS.out]; rintro e V ⟨rfl, hV⟩; replace HS := lw_step HS hV; clear hV; rw [HPR.out])
        | (go_at_call 48; refine (sOrbitOf_any t _ _ (by omega)).mono ?_; rw [← HPS.out, ← HL.out]; rintro e V ⟨⟨A2, c2, rfl, hc2, hO2⟩, hV⟩; replace HS := lw_add (lw_step HS hV) hO2.rd; clear hV hO2)
        | (first | (go_at_call 38; refine (bnSame_any _ _ _ _ L _ (lw_rd HS 2 rfl) (lw_rd HS 0 rfl) (by omega)).mono ?_; rintro e V ⟨rfl, n, rfl⟩; replace HS := lw_drew HS n) | (go_at_call 38; refine (bnSame_any _ _ _ _ L _ (lw_rd HS 1 rfl) (lw_rd HS 0 rfl) (by omega)).mono ?_; rintro e V ⟨rfl, n, rfl⟩; replace HS := lw_drew HS n))
        | (go_at_call 49; refine (sTailOf_any t _ _ (by omega)).mono ?_; rw [← HPS.out]; rintro e V ⟨rfl, hV⟩; replace HS := lw_step HS hV; clear hV; rw [HTL.out])
        | (go_at_call 50; refine (sPeriodOf_any t _ _ (by omega)).mono ?_; rw [← HPS.out]; rintro e V ⟨rfl, hV⟩; replace HS := lw_step HS hV; clear hV; rw [HPR.out]))
      go_ret
      exact ⟨rfl, HS.out.b⟩

end Go.Proofs.YtjinmoeabkpmaaaDoor
