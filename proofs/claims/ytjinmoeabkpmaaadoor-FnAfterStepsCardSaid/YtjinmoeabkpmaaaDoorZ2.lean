/- The walk of the law FnAfterSteps. Printed by wip/mkl.py. -/
import Derived.Test.YtjinmoeabkpmaaaDoorProg
import Derived.WalkKit
import Derived.WalkSpells
import Derived.WalkLawsBesides
import Derived.Lib.Hide
import Derived.Deep.QuietTactic
import Derived.BigQuiet
import Derived.Test.YtjinmoeabkpmaaaDoorLa
import Derived.Test.YtjinmoeabkpmaaaDoorYf
import Derived.Test.YtjinmoeabkpmaaaDoorYg
import Derived.Test.YtjinmoeabkpmaaaDoorYh
import Derived.Test.YtjinmoeabkpmaaaDoorWq
namespace Go.Proofs.YtjinmoeabkpmaaaDoor
open Go.RowKit
set_option linter.unusedVariables false

set_option maxHeartbeats 2000000 in
set_option maxRecDepth 100000 in
theorem fnAfterSteps_walk (a0 : Option Addr) (len0 cap0 : Nat) (z0 : List Int) (a1 : Option Addr) (len1 cap1 : Nat) (z1 : List Int) (w : World) (hm : Hid (HasM w)) (w0 : IsRow .u8 w a0 len0 cap0 z0) (w1 : IsRow .u8 w a1 len1 cap1 z1) :
    Calls Tryd.prog 4 #[.slice a0 len0 cap0, .slice a1 len1 cap1] w fun e w' => e = .returned (.bool true) ∧ Below w.heap.size w w' := by
  by_cases h0 : 1048576 < len0
  · go_enter Tryd.func4, Tryd.ntmps4
    go_wp2
    go_ret
    exact ⟨rfl, Below.refl _ _⟩
  · by_cases h1 : 1048576 < len1
    · go_enter Tryd.func4, Tryd.ntmps4
      go_wp2
      go_ret
      exact ⟨rfl, Below.refl _ _⟩
    obtain ⟨bs, hbl, hrd, hwf, hcap, hmax⟩ := w0.rdk
    unfold maxLen at hmax
    have HRD := Lib.hid hrd
    have HWF := Lib.hid (fun x hx => wf_u8 (hwf x hx))
    have HBL := Lib.hid hbl.symm
    clear hbl hrd hwf w0 w1
    go_enter Tryd.func4, Tryd.ntmps4
    go_wp2_with fail
    refine (DrawAfterSteps_any _ _ _ _ _ HBL.out hcap (by omega) HRD HWF).mono ?_
    rintro e W1 ⟨⟨t, s, st, rfl, ht, hs12, hst1, hst2⟩, hB1⟩
    obtain ⟨ps, HPS⟩ : ∃ ps, Hid (ps = cutL t.data.toList) := ⟨_, rfl⟩
    have HS : Hid (LawW w W1 []) := Lib.hid ⟨hm.out.below hB1, hB1, by simp⟩
    clear hB1 h0 hm HRD HWF HBL hcap hmax
    by_cases hok : okSt ps s = true ∧ 0 ≤ st
    · obtain ⟨hok, hst0⟩ := hok
      obtain ⟨st, rfl⟩ : ∃ k : Nat, st = (k : Int) := ⟨st.toNat, by omega⟩
      have hok0 := hok
      obtain ⟨HOK, N, s, rfl, HN, hN32, hN0, hsN, HOKS, hfN⟩ := st_open hok
      have HA : Hid (∀ x k : Nat, x < N → aftN ps (x : Int) (k : Int) = ((itf (stp ps) k x : Nat) : Int)) := Lib.hid fun x k hx => aft_itf hN32 hfN hx (HOKS.out x hx)
      obtain ⟨Ln, T, hF⟩ := orb_form hN32 hfN hsN
      have hT := hF.lt
      have hLN := hF.le
      obtain ⟨L, HL⟩ : ∃ L, Hid (L = orbN ps s) := ⟨_, rfl⟩
      have e0 : L = ints (itl (stp ps) s Ln) := by rw [HL.out, orbN_yes hok0, hF.eq]
      obtain rfl : L.length = Ln := by rw [e0, ints_length, itl_len]
      have HTL : Hid (tailN ps (s : Int) = (T : Int)) := Lib.hid (by rw [tailN_yes hok0, hF.eq])
      obtain ⟨P, hP⟩ : ∃ P, P + T = L.length := ⟨L.length - T, by omega⟩
      have HPR : Hid (perN ps (s : Int) = (P : Int)) := Lib.hid (by rw [perN_yes hok0, hF.eq, itl_len]; show ((L.length : Nat) : Int) - (T : Int) = _; omega)
      obtain ⟨m9, hm9⟩ : ∃ m9, m9 = len1 % 9 := ⟨_, rfl⟩
      have hm9b : m9 < 9 := by rw [hm9]; exact Nat.mod_lt _ (by omega)
      obtain ⟨kk, HK⟩ : ∃ x, Hid (x = itf (stp ps) st s) := ⟨_, rfl⟩
      obtain ⟨bb, HB⟩ : ∃ x, Hid (x = itf (stp ps) m9 kk) := ⟨_, rfl⟩
      obtain ⟨cc, HC⟩ : ∃ x, Hid (x = itf (stp ps) m9 s) := ⟨_, rfl⟩
      have hkN : kk < N := by rw [HK.out]; exact itf_lt hfN hsN _
      have hcN : cc < N := by rw [HC.out]; exact itf_lt hfN hsN _
      have H1 : Hid (aftN ps (s : Int) (st : Int) = (kk : Int)) := Lib.hid (by rw [HA.out s st hsN, HK.out])
      have H2 : Hid (aftN ps (kk : Int) (m9 : Int) = (bb : Int)) := Lib.hid (by rw [HA.out kk m9 hkN, HB.out])
      have H3 : Hid (aftN ps (s : Int) (m9 : Int) = (cc : Int)) := Lib.hid (by rw [HA.out s m9 hsN, HC.out])
      have H4 : Hid (aftN ps (cc : Int) (st : Int) = (bb : Int)) := Lib.hid (by rw [HA.out cc st hcN, HC.out, HB.out, HK.out, ← itf_add, ← itf_add, Nat.add_comm])
      have H5 : Hid (T ≤ st → aftN ps (s : Int) ((st : Int) + (P : Int)) = (kk : Int)) := Lib.hid fun h => by
        rw [← Int.natCast_add, HA.out s _ hsN, HK.out]
        have := hF.per h
        rw [show L.length - T = P by omega] at this
        rw [this]
      have H6 : Hid (aftN ps (s : Int) 0 = (s : Int)) := Lib.hid (by have := HA.out s 0 hsN; exact this)
      have HE : Hid (st < L.length → L[st]? = some (kk : Int)) := Lib.hid fun hi => by
        rw [show L[st]? = (ints (itl (stp ps) s L.length))[st]? from congrArg (fun l => l[st]?) e0, HK.out]; exact itl_int hi
      have hmod : Int.tmod (len1 : Int) 9 = (m9 : Int) := by rw [hm9, Int.tmod_eq_emod_of_nonneg (by omega)]; omega
      have hbb : ((bb : Int) == (bb : Int)) = true := beq_self_eq_true _
      have hkk : ((kk : Int) == (kk : Int)) = true := beq_self_eq_true _
      have hkk' : ((kk : Int) != (kk : Int)) = false := bne_self_eq_false _
      have hss : ((s : Int) == (s : Int)) = true := beq_self_eq_true _
      clear hF e0 hok hok0 hs12 hm9
      rcases Classical.em (st < L.length) with h2 | h2 <;> rcases Classical.em (T ≤ st ∧ st < 1000) with h3 | h3
      all_goals
        have h4 := h3
        go_wp2_with (first
          | (go_at_call 21; refine (AfterSteps_any t _ _ _ (lw_m HS) (by omega) (wf_i64 (by omega))).mono ?_; rw [← HPS.out]; rintro e V ⟨rfl, hV⟩; replace HS := lw_step HS hV; clear hV; (first | rw [H1.out] | rw [H2.out] | rw [H3.out] | rw [H4.out] | rw [H5.out h3.1] | rw [H6.out]); (try (have hc := lw_cell HS 0 rfl (Lib.hid (HE.out h2)))))
          | (go_at_call 22; refine (sAfterSteps_any t _ _ _ (by omega) (wf_i64 (by omega))).mono ?_; rw [← HPS.out]; rintro e V ⟨rfl, hV⟩; replace HS := lw_step HS hV; clear hV; (first | rw [H1.out]))
          | (go_at_call 23; refine (OrbitOf_any t _ _ (lw_m HS) (by omega)).mono ?_; rw [← HPS.out, ← HL.out]; rintro e V ⟨⟨A2, c2, rfl, hc2, hO2⟩, hV⟩; replace HS := lw_add (lw_step HS hV) hO2.rd; clear hV hO2; obtain ⟨g, off, rfl⟩ := lw_form HS 0 rfl (by omega))
          | (go_at_call 25; refine (TailOf_any t _ _ (lw_m HS) (by omega)).mono ?_; rw [← HPS.out]; rintro e V ⟨rfl, hV⟩; replace HS := lw_step HS hV; clear hV; rw [HTL.out]; (try (have hc := lw_cell HS 0 rfl (Lib.hid (HE.out h2)))))
          | (go_at_call 24; refine (PeriodOf_any t _ _ (lw_m HS) (by omega)).mono ?_; rw [← HPS.out]; rintro e V ⟨rfl, hV⟩; replace HS := lw_step HS hV; clear hV; rw [HPR.out]))
        go_ret
        exact ⟨rfl, HS.out.b⟩

    · have HNO : Hid (aftN ps s st = -1) := Lib.hid (by
        by_cases h : okSt ps s = true
        · exact aftN_neg (fun h2 => hok ⟨h, h2⟩)
        · exact aftN_no (by simpa using h))
      clear hok
      go_wp2_with (first
        | (go_at_call 21; refine (AfterSteps_any t _ _ _ (lw_m HS) (by omega) (wf_i64 (by omega))).mono ?_; rw [← HPS.out]; rintro e V ⟨rfl, hV⟩; replace HS := lw_step HS hV; clear hV; (first | rw [HNO.out]))
        | (go_at_call 22; refine (sAfterSteps_any t _ _ _ (by omega) (wf_i64 (by omega))).mono ?_; rw [← HPS.out]; rintro e V ⟨rfl, hV⟩; replace HS := lw_step HS hV; clear hV; (first | rw [HNO.out])))
      go_ret
      exact ⟨rfl, HS.out.b⟩

end Go.Proofs.YtjinmoeabkpmaaaDoor
