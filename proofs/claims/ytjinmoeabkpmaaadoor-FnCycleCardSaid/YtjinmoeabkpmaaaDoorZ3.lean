/- The walk of the law FnCycle. Printed by wip/mkl.py. -/
import Derived.Test.YtjinmoeabkpmaaaDoorProg
import Derived.WalkKit
import Derived.WalkSpells
import Derived.WalkLawsBesides
import Derived.Lib.Hide
import Derived.Deep.QuietTactic
import Derived.BigQuiet
import Derived.Deep.RegionHeld3
import Derived.IntWalk
import Derived.Test.YtjinmoeabkpmaaaDoorLa
import Derived.Test.YtjinmoeabkpmaaaDoorYf
import Derived.Test.YtjinmoeabkpmaaaDoorYg
import Derived.Test.YtjinmoeabkpmaaaDoorYh
import Derived.Test.YtjinmoeabkpmaaaDoorWq
import Derived.Test.YtjinmoeabkpmaaaDoorY3
namespace Go.Proofs.YtjinmoeabkpmaaaDoor
open Go.RowKit
set_option linter.unusedVariables false

set_option maxHeartbeats 2000000 in
set_option maxRecDepth 100000 in
theorem fnCycle_walk (a0 : Option Addr) (len0 cap0 : Nat) (z0 : List Int) (w : World) (hm : Hid (HasM w)) (w0 : IsRow .u8 w a0 len0 cap0 z0) :
    Calls Tryd.prog 11 #[.slice a0 len0 cap0] w fun e w' => e = .returned (.bool true) ∧ Below w.heap.size w w' := by
  by_cases h0 : 1048576 < len0
  · go_enter Tryd.func11, Tryd.ntmps11
    go_wp2
    go_ret
    exact ⟨rfl, Below.refl _ _⟩
  · obtain ⟨bs, hbl, hrd, hwf, hcap, hmax⟩ := w0.rdk
    unfold maxLen at hmax
    have HRD := Lib.hid hrd
    have HWF := Lib.hid (fun x hx => wf_u8 (hwf x hx))
    have HBL := Lib.hid hbl.symm
    clear hbl hrd hwf w0
    go_enter Tryd.func11, Tryd.ntmps11
    go_wp2_with fail
    refine (DrawCycleOf_any _ _ _ _ _ HBL.out hcap (by omega) HRD HWF).mono ?_
    rintro e W1 ⟨⟨t, s, rfl, ht, hs1, hs2⟩, hB1⟩
    obtain ⟨ps, HPS⟩ : ∃ ps, Hid (ps = cutL t.data.toList) := ⟨_, rfl⟩
    have HS : Hid (LawW w W1 []) := Lib.hid ⟨hm.out.below hB1, hB1, by simp⟩
    clear hB1 h0 hm HRD HWF HBL hcap hmax
    obtain ⟨L, HL⟩ : ∃ L, Hid (L = cycN ps s) := ⟨_, rfl⟩
    by_cases hok : okSt ps s = true
    · have hok0 := hok
      obtain ⟨HOK, N, s, rfl, HN, hN32, hN0, hsN, HOKS, hfN⟩ := st_open hok
      obtain ⟨p, hC⟩ := cyc_all hN32 hfN hsN
      obtain ⟨c, Hc⟩ : ∃ c, Hid (c = cyc (stp ps) s) := ⟨_, rfl⟩
      rw [← Hc.out] at hC
      have e0 : L = ints c := by rw [HL.out, cycN_yes hok0, Hc.out]
      obtain rfl : L.length = p := by rw [e0, ints_length]; exact hC.len
      have hp := hC.pos
      have hLN := hC.le
      have HE : Hid (∀ i, i < L.length → L[i]? = some ((c.getD i 0 : Nat) : Int)) := Lib.hid fun i hi => by
        rw [show L[i]? = (ints c)[i]? from congrArg (fun l => l[i]?) e0]; exact ints_getD c i (by rw [hC.len]; exact hi)
      have HX : Hid (∀ i, i < L.length → stA ps ((c.getD i 0 : Nat) : Int) = ((c.getD ((i + 1) % L.length) 0 : Nat) : Int) ∧ tailN ps ((c.getD i 0 : Nat) : Int) = 0 ∧ cycN ps ((c.getD i 0 : Nat) : Int) = L) := Lib.hid fun i hi => by
        have h1 := HOKS.out _ (hC.lt i hi)
        refine ⟨by rw [stA_k h1, hC.nx i hi], by rw [tailN_yes h1, hC.tail i hi]; rfl, by rw [cycN_yes h1, hC.same i hi, e0]⟩
      have HLE : Hid (∀ i, i < L.length → c.getD 0 0 ≤ c.getD i 0) := Lib.hid hC.least
      obtain ⟨y1, HY1⟩ : ∃ y, Hid (y = stp ps s) := ⟨_, rfl⟩
      have HS1 : Hid (stA ps (s : Int) = (y1 : Int)) := Lib.hid (by rw [stA_k hok0, HY1.out])
      have HC1 : Hid (cycN ps (y1 : Int) = L) := Lib.hid (by rw [HY1.out, cycN_yes (HOKS.out _ (hfN s hsN)), hC.step, e0])
      have HPR : Hid (perN ps (s : Int) = (L.length : Int)) := Lib.hid (by
        obtain ⟨Ln, T, hF⟩ := orb_form hN32 hfN hsN
        have h1 := hC.per
        have h2 := hF.lt
        rw [hF.eq] at h1
        rw [perN_yes hok0, hF.eq]
        show (((itl (stp ps) s Ln).length : Nat) : Int) - (T : Int) = _
        have h3 : L.length = (itl (stp ps) s Ln).length - T := h1
        rw [itl_len] at h3 ⊢
        omega)
      have hd : ((L.length : Int) == 0) = false := by rw [beq_eq_false_iff_ne]; omega
      have hdd : ((L.length : Int) == (L.length : Int)) = true := beq_self_eq_true _
      clear hC e0 hok hok0 hs1 hs2
      go_wp2_with (first
        | (go_at_call 61; refine (CycleOf_any t _ _ (lw_m HS) (by omega)).mono ?_; rw [← HPS.out, ← HL.out]; rintro e V ⟨⟨A2, c2, rfl, hc2, hO2⟩, hV⟩; replace HS := lw_add (lw_step HS hV) hO2.rd; clear hV hO2)
        | (go_at_call 62; refine (sCycleOf_any t _ _ (by omega)).mono ?_; rw [← HPS.out, ← HL.out]; rintro e V ⟨⟨A2, c2, rfl, hc2, hO2⟩, hV⟩; replace HS := lw_add (lw_step HS hV) hO2.rd; clear hV hO2)
        | (go_at_call 38; refine (bnSame_any _ _ _ _ L _ (lw_rd HS 1 rfl) (lw_rd HS 0 rfl) (by omega)).mono ?_; rintro e V ⟨rfl, n, rfl⟩; replace HS := lw_drew HS n))
      obtain ⟨g, off, rfl⟩ := lw_form HS 1 rfl (by omega)
      replace HS := lw_cut HS 1
      go_loopw [6] (fun i wr => ∃ k : Nat, k ≤ L.length ∧ i = .int .i64 k ∧ Hid (LawW w wr [(some ⟨g, off, none⟩, L)])) (fun i _ => L.length - (intOf i).toNat)
      case atStart => exact ⟨0, Nat.zero_le _, rfl, HS⟩
      case round =>
        clear HS
        obtain ⟨k, hk, rfl, HS⟩ := hrel
        by_cases hlt : k < L.length
        · have hj : (k + 1) % L.length < L.length := Nat.mod_lt _ hp
          obtain ⟨j, HJ⟩ : ∃ j, Hid (j = (k + 1) % L.length) := ⟨_, rfl⟩
          rw [← HJ.out] at hj
          obtain ⟨x, HX1⟩ : ∃ x, Hid (x = c.getD k 0) := ⟨_, rfl⟩
          obtain ⟨y, HX2⟩ : ∃ x, Hid (x = c.getD j 0) := ⟨_, rfl⟩
          obtain ⟨z, HX0⟩ : ∃ x, Hid (x = c.getD 0 0) := ⟨_, rfl⟩
          have HE1 : Hid (L[k]? = some (x : Int)) := Lib.hid (by rw [HX1.out]; exact HE.out k hlt)
          have HE2 : Hid (L[j]? = some (y : Int)) := Lib.hid (by rw [HX2.out]; exact HE.out j hj)
          have HE0 : Hid (L[0]? = some (z : Int)) := Lib.hid (by rw [HX0.out]; exact HE.out 0 hp)
          have HXS : Hid (stA ps (x : Int) = (y : Int)) := Lib.hid (by rw [HX1.out, HX2.out, HJ.out]; exact (HX.out k hlt).1)
          have HXT : Hid (tailN ps (x : Int) = 0) := Lib.hid (by rw [HX1.out]; exact (HX.out k hlt).2.1)
          have HXC : Hid (cycN ps (x : Int) = L) := Lib.hid (by rw [HX1.out]; exact (HX.out k hlt).2.2)
          have hzx : z ≤ x := by rw [HX0.out, HX1.out]; exact HLE.out k hlt
          have hyy : ((y : Int) != (y : Int)) = false := bne_self_eq_false _
          have hzx2 : decide ((x : Int) < (z : Int)) = false := by rw [decide_eq_false_iff_not]; omega
          have hzx3 : ¬ (x : Int) < (z : Int) := by omega
          have hzx4 : ¬ x < z := by omega
          have hzx5 : decide (x < z) = false := by rw [decide_eq_false_iff_not]; omega
          have hc1 := lw_cell HS 0 rfl HE1
          have hc2 := lw_cell HS 0 rfl HE2
          have hc0 := lw_cell HS 0 rfl HE0
          rw [Nat.add_zero] at hc0
          replace HS : Hid (LawW w wr.drew [(some ⟨g, off, none⟩, L)]) := lw_drew HS 1
          go_wp2_with fail
          have hw1 : IntKind.i64.wrap ((k : Int) + 1) = (k : Int) + 1 := IntWalk.i64_in _ (by omega)
          have hw2 : Int.tmod ((k : Int) + 1) (L.length : Int) = (j : Int) := by rw [Int.tmod_eq_emod_of_nonneg (by omega), HJ.out]; rfl
          have hw3 : ¬ (L.length : Int) = 0 := by omega
          have hw7 : ¬ L = [] := by intro e; rw [e] at hp; exact absurd hp (Nat.lt_irrefl _)
          have hw4 : (0 : Int) ≤ (j : Int) := by omega
          have hw5 : (j : Int) < (L.length : Int) := by omega
          have hw6 : ((j : Int)).toNat = j := by omega
          go_region_held3 (fun w' => w'.cell? ⟨g, off + k, none⟩ = some (.int .i64 (x : Int)) ∧ w'.cell? ⟨g, off + j, none⟩ = some (.int .i64 (y : Int)) ∧ w'.cell? ⟨g, off, none⟩ = some (.int .i64 (z : Int))) (go_keep)
            (first
              | (go_at_call 28; refine (StepAll_any t _ _ (lw_m HS) (by omega)).mono ?_; rw [← HPS.out]; rintro e V ⟨rfl, hV⟩; replace HS := lw_step HS hV; clear hV; rw [HXS.out]; have hc1 := lw_cell HS 0 rfl HE1; have hc2 := lw_cell HS 0 rfl HE2; have hc0 := lw_cell HS 0 rfl HE0; rw [Nat.add_zero] at hc0)
              | (go_at_call 25; refine (TailOf_any t _ _ (lw_m HS) (by omega)).mono ?_; rw [← HPS.out]; rintro e V ⟨rfl, hV⟩; replace HS := lw_step HS hV; clear hV; rw [HXT.out]; have hc1 := lw_cell HS 0 rfl HE1; have hc2 := lw_cell HS 0 rfl HE2; have hc0 := lw_cell HS 0 rfl HE0; rw [Nat.add_zero] at hc0)
              | (go_at_call 61; refine (CycleOf_any t _ _ (lw_m HS) (by omega)).mono ?_; rw [← HPS.out, HXC.out]; rintro e V ⟨⟨A2, c2, rfl, hc2, hO2⟩, hV⟩; replace HS := lw_add (lw_step HS hV) hO2.rd; clear hV hO2; have hc1 := lw_cell HS 1 rfl HE1; have hc2 := lw_cell HS 1 rfl HE2; have hc0 := lw_cell HS 1 rfl HE0; rw [Nat.add_zero] at hc0)
              | (go_at_call 38; refine (bnSame_any _ _ _ _ L _ (lw_rd HS 0 rfl) (lw_rd HS 1 rfl) (by omega)).mono ?_; rintro e V ⟨rfl, n, rfl⟩; replace HS := lw_drew HS n; have hc1 := lw_cell HS 1 rfl HE1; have hc2 := lw_cell HS 1 rfl HE2; have hc0 := lw_cell HS 1 rfl HE0; rw [Nat.add_zero] at hc0))
          all_goals
            clear hw1 hw2 hw3 hw4 hw5 hw6 hw7
            replace HS := lw_cut HS 1
            go_wp2_with fail
            go_roundw
            case rel => exact ⟨k + 1, by omega, by go_num, HS⟩
            case measure => simp [intOf]; omega
        · have hkn : k = L.length := by omega
          subst hkn
          go_wp2_with (first
            | (go_at_call 24; refine (PeriodOf_any t _ _ (lw_m HS) (by omega)).mono ?_; rw [← HPS.out]; rintro e V ⟨rfl, hV⟩; replace HS := lw_step HS hV; clear hV; rw [HPR.out])
            | (go_at_call 28; refine (StepAll_any t _ _ (lw_m HS) (by omega)).mono ?_; rw [← HPS.out]; rintro e V ⟨rfl, hV⟩; replace HS := lw_step HS hV; clear hV; rw [HS1.out])
            | (go_at_call 61; refine (CycleOf_any t _ _ (lw_m HS) (by omega)).mono ?_; rw [← HPS.out, HC1.out]; rintro e V ⟨⟨A2, c2, rfl, hc2, hO2⟩, hV⟩; replace HS := lw_add (lw_step HS hV) hO2.rd; clear hV hO2)
            | (go_at_call 38; refine (bnSame_any _ _ _ _ L _ (lw_rd HS 0 rfl) (lw_rd HS 1 rfl) (by omega)).mono ?_; rintro e V ⟨rfl, n, rfl⟩; replace HS := lw_drew HS n))
          go_ret
          exact ⟨rfl, HS.out.b⟩
    · have hok' : okSt ps s = false := by simpa using hok
      have HL0 : Hid (L.length = 0) := Lib.hid (by rw [HL.out, cycN_no hok']; rfl)
      have hL0 : L.length ≤ 0 := by rw [HL0.out]; exact Nat.le_refl _
      have HTL : Hid (tailN ps s = -1) := Lib.hid (tailN_no hok')
      have hd : ((L.length : Int) == 0) = true := by rw [HL0.out]; rfl
      clear hok hok'
      go_wp2_with (first
        | (go_at_call 61; refine (CycleOf_any t _ _ (lw_m HS) (by omega)).mono ?_; rw [← HPS.out, ← HL.out]; rintro e V ⟨⟨A2, c2, rfl, hc2, hO2⟩, hV⟩; replace HS := lw_add (lw_step HS hV) hO2.rd; clear hV hO2)
        | (go_at_call 62; refine (sCycleOf_any t _ _ (by omega)).mono ?_; rw [← HPS.out, ← HL.out]; rintro e V ⟨⟨A2, c2, rfl, hc2, hO2⟩, hV⟩; replace HS := lw_add (lw_step HS hV) hO2.rd; clear hV hO2)
        | (first | (go_at_call 38; refine (bnSame_any _ _ _ _ L _ (lw_rd HS 2 rfl) (lw_rd HS 0 rfl) (by omega)).mono ?_; rintro e V ⟨rfl, n, rfl⟩; replace HS := lw_drew HS n) | (go_at_call 38; refine (bnSame_any _ _ _ _ L _ (lw_rd HS 1 rfl) (lw_rd HS 0 rfl) (by omega)).mono ?_; rintro e V ⟨rfl, n, rfl⟩; replace HS := lw_drew HS n))
        | (go_at_call 25; refine (TailOf_any t _ _ (lw_m HS) (by omega)).mono ?_; rw [← HPS.out]; rintro e V ⟨rfl, hV⟩; replace HS := lw_step HS hV; clear hV; rw [HTL.out]))
      go_ret
      exact ⟨rfl, HS.out.b⟩

end Go.Proofs.YtjinmoeabkpmaaaDoor
