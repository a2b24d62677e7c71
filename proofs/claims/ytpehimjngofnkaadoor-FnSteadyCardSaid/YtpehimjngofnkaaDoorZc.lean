/- The walk of the law FnSteady. Printed by wip/mkn.py. -/
import Derived.Test.YtpehimjngofnkaaDoorProg
import Derived.WalkKit
import Derived.WalkSpells
import Derived.WalkLawsBesides
import Derived.Lib.Hide
import Derived.Deep.QuietTactic
import Derived.BigQuiet
import Derived.Test.YtpehimjngofnkaaDoorG1
import Derived.Test.YtpehimjngofnkaaDoorQ9
import Derived.Test.YtpehimjngofnkaaDoorG5
import Derived.Test.YtpehimjngofnkaaDoorG4
import Derived.Test.YtpehimjngofnkaaDoorYu
import Derived.Test.YtpehimjngofnkaaDoorQ3
namespace Go.Proofs.YtpehimjngofnkaaDoor
open Go.RowKit
set_option linter.unusedVariables false

set_option maxHeartbeats 2000000 in
set_option maxRecDepth 100000 in
theorem fnSteady_walk (a0 : Option Addr) (len0 cap0 : Nat) (z0 : List Int) (w : World) (hm : Hid (HasM w)) (w0 : IsRow .u8 w a0 len0 cap0 z0) :
    Calls Tryd.prog 9 #[.slice a0 len0 cap0] w fun e w' => e = .returned (.bool true) ∧ Below w.heap.size w w' := by
  by_cases h0 : 1048576 < len0
  · go_enter Tryd.func9, Tryd.ntmps9
    go_wp2
    go_ret
    exact ⟨rfl, Below.refl _ _⟩
  · obtain ⟨bs, hbl, hrd, hwf, hcap, hmax⟩ := w0.rdk
    unfold maxLen at hmax
    have HRD := Lib.hid hrd
    have HWF := Lib.hid (fun x hx => wf_u8 (hwf x hx))
    have HBL := Lib.hid hbl.symm
    clear hbl hrd hwf w0
    go_enter Tryd.func9, Tryd.ntmps9
    go_wp2_with fail
    refine (DrawIsSteady_any _ _ _ _ _ HBL.out hcap (by omega) HRD HWF).mono ?_
    rintro e W1 ⟨⟨t, s, rfl, ht, hs1, hs2⟩, hB1⟩
    obtain ⟨ps, HPS⟩ : ∃ ps, Hid (ps = cutL t.data.toList) := ⟨_, rfl⟩
    have HS : Hid (LawW w W1 []) := Lib.hid ⟨hm.out.below hB1, hB1, by simp⟩
    clear hB1 h0 hm HRD HWF HBL hcap hmax
    obtain ⟨L, HL⟩ : ∃ L, Hid (L = reaN ps s) := ⟨_, Lib.hid rfl⟩
    obtain ⟨O, HO⟩ : ∃ O, Hid (O = outN ps s) := ⟨_, Lib.hid rfl⟩
    obtain ⟨b, HB⟩ : ∃ b, Hid (b = stdN ps s) := ⟨_, Lib.hid rfl⟩
    have hbb : (b != b) = false := by cases b <;> rfl
    have hbe : (b == b) = true := by cases b <;> rfl
    by_cases hok : okSt ps s = true
    · have hok0 := hok
      obtain ⟨HOK, N, s, rfl, HN, hN32, hN0, hsN, HOKS, hfN⟩ := st_open hok
      have HRB := Lib.hid (rbN_rb HOK.out HN.out)
      obtain ⟨xs, HXS⟩ : ∃ xs, Hid (xs = sel N (rbN ps s)) := ⟨_, Lib.hid rfl⟩
      have e0 : L = ints xs := by rw [HL.out, reaN_yes hok0 HN.out, HXS.out]
      have hLx : L.length = xs.length := by rw [e0, ints_length]
      have hL32 : L.length ≤ 32 := by rw [hLx, HXS.out]; exact Nat.le_trans (sel_len _ _) hN32
      have eb : b = std (rbN ps) N s := by rw [HB.out, stdN_yes hok0 HN.out]
      have hXm : ∀ x, x ∈ xs ↔ x < N ∧ rbN ps s x = true := fun x => by rw [HXS.out, sel_mem]
      have hHD : (ints xs)[0]? = some ((lea (rbN ps) N s : Nat) : Int) := by rw [HXS.out]; exact lea_head HRB.out hsN
      have hL0 : 0 < L.length := by rw [e0]; exact (List.getElem?_eq_some_iff.1 hHD).1
      obtain ⟨l0, HL0⟩ : ∃ l, Hid (l = lea (rbN ps) N s) := ⟨_, Lib.hid rfl⟩
      have HF0 : Hid (L[0]? = some (l0 : Int)) := Lib.hid (by rw [e0, HL0.out]; exact hHD)
      obtain ⟨al, HAL⟩ : ∃ al : Nat → Bool, Hid (al = fun k => (xs.take k).all fun x => rbN ps x s) := ⟨_, Lib.hid rfl⟩
      have HA0 : Hid (al 0 = true) := Lib.hid (by rw [HAL.out]; rfl)
      have HAS : Hid (∀ k, k < L.length → ∃ x : Nat, L[k]? = some (x : Int) ∧ al (k + 1) = (al k && canN ps (x : Int) (s : Int))) := Lib.hid fun k hk => by
        have hkx : k < xs.length := by omega
        have hm := (hXm xs[k]).1 (List.getElem_mem hkx)
        refine ⟨xs[k], by rw [show L[k]? = (ints xs)[k]? from congrArg (fun l => l[k]?) e0, ints, List.getElem?_map, List.getElem?_eq_getElem hkx]; rfl, ?_⟩
        rw [HAL.out, canN_yes (HOKS.out _ hm.1) HN.out hsN]
        show (xs.take (k + 1)).all _ = ((xs.take k).all _ && _)
        rw [List.take_succ_eq_append_getElem hkx, List.all_append]
        simp
      have HAE : Hid (al L.length = b) := Lib.hid (by
        rw [HAL.out, eb, hLx]
        show (xs.take xs.length).all _ = _
        rw [List.take_length, Bool.eq_iff_iff, List.all_eq_true, std_iff]
        exact ⟨fun h t ht h1 => h t ((hXm t).2 ⟨ht, h1⟩), fun h t ht => h t ((hXm t).1 ht).1 ((hXm t).1 ht).2⟩)
      have HO1 : Hid (b = true → O = [(l0 : Int)]) := Lib.hid fun h => by
        rw [HO.out, outN_yes hok0 HN.out, outs_std HRB.out hsN (by rw [← eb]; exact h), HL0.out]; rfl
      have hO : O.length ≤ 1048576 := by rw [HO.out]; exact outN_len _ _
      obtain ⟨y, HY⟩ : ∃ y : Nat, Hid (stA ps (s : Int) = (y : Int)) := ⟨_, Lib.hid (stA_k hok0)⟩
      have hyn : decide ((y : Int) < 0) = false := by rw [decide_eq_false_iff_not]; omega
      clear e0 hLx eb hXm hHD hok hok0 hs1 hs2
      go_wp2_with (first
        | (go_at_call 32; refine (IsSteady_any t _ _ (lw_m HS) (by omega)).mono ?_; rw [← HPS.out]; rintro e V ⟨rfl, hV⟩; replace HS := lw_step HS hV; clear hV; rw [← HB.out])
        | (go_at_call 41; refine (sIsSteady_any t _ _ (by omega)).mono ?_; rw [← HPS.out]; rintro e V ⟨rfl, hV⟩; replace HS := lw_step HS hV; clear hV; rw [← HB.out])
        | (go_at_call 31; refine (StepAll_any t _ _ (lw_m HS) (by omega)).mono ?_; rw [← HPS.out]; rintro e V ⟨rfl, hV⟩; replace HS := lw_step HS hV; clear hV; rw [HY.out])
        | (go_at_call 37; refine (ReachableFrom_any t _ _ (lw_m HS) (by omega)).mono ?_; rw [← HPS.out, ← HL.out]; rintro e V ⟨⟨A2, c2, rfl, hc2, hO2⟩, hV⟩; replace HS := lw_add (lw_step HS hV) hO2.rd; clear hV hO2))
      obtain ⟨g, off, rfl⟩ := lw_form HS 0 rfl (by omega)
      go_loopw [7, 8] (fun q i wr => ∃ k : Nat, k ≤ L.length ∧ i = .int .i64 k ∧ q = .bool (al k) ∧ Hid (LawW w wr [(some ⟨g, off, none⟩, L)])) (fun _ i _ => L.length - (intOf i).toNat)
      case atStart => exact ⟨0, Nat.zero_le _, rfl, by rw [HA0.out], HS⟩
      case round =>
        clear HS
        obtain ⟨k, hk, rfl, rfl, HS⟩ := hrel
        by_cases hlt : k < L.length
        · obtain ⟨x, hx, hax⟩ := HAS.out k hlt
          have HE1 := Lib.hid hx
          have HAX := Lib.hid hax
          clear hx hax
          have hc1 := lw_cell HS 0 rfl HE1
          cases ha : al k with
          | true =>
            rw [ha, Bool.true_and] at HAX
            go_wp2_with (first
              | (go_at_call 33; refine (CanReach_any t _ _ _ (lw_m HS) (by omega)).mono ?_; rw [← HPS.out]; rintro e V ⟨rfl, hV⟩; replace HS := lw_step HS hV; clear hV; rw [← HAX.out]))
            go_roundw
            case rel => exact ⟨k + 1, by omega, by go_num, rfl, HS⟩
            case measure => simp [intOf]; omega
          | false =>
            rw [ha, Bool.false_and] at HAX
            go_wp2_with fail
            go_roundw
            case rel => exact ⟨k + 1, by omega, by go_num, by rw [HAX.out], HS⟩
            case measure => simp [intOf]; omega
        · have hkn : k = L.length := by omega
          subst hkn
          rw [HAE.out]
          have hc0 := lw_cell HS 0 rfl HF0
          rw [Nat.add_zero] at hc0
          have hll : ((l0 : Int) == (l0 : Int)) = true := beq_self_eq_true _
          cases b with
          | true =>
            have HO2 := Lib.hid (HO1.out rfl)
            go_wp2_with (first
              | (go_at_call 26; refine (OutcomesOf_any t _ _ (lw_m HS) (by omega)).mono ?_; rw [← HPS.out, ← HO.out, HO2.out]; rintro e V ⟨⟨A9, c2, rfl, hc2, hO2⟩, hV⟩; replace HS := lw_add (lw_step HS hV) hO2.rd; clear hV hO2))
            obtain ⟨g9, off9, rfl⟩ := lw_form HS 0 rfl (by simp)
            have hc9 := lw_cell HS 0 rfl (j := 0) (v := (l0 : Int)) (Lib.hid rfl)
            have hc0 := lw_cell HS 1 rfl HF0
            rw [Nat.add_zero] at hc0 hc9
            go_wp2_with fail
            go_quiet (fail)
            go_wp2_with fail
            go_ret
            exact ⟨rfl, HS.out.b.trans (drewN_below _ _)⟩
          | false =>
            go_wp2_with (first
              | (go_at_call 26; refine (OutcomesOf_any t _ _ (lw_m HS) (by omega)).mono ?_; rw [← HPS.out, ← HO.out]; rintro e V ⟨⟨A9, c2, rfl, hc2, hO2⟩, hV⟩; replace HS := lw_add (lw_step HS hV) hO2.rd; clear hV hO2))
            go_wp2_with fail
            go_quiet (fail)
            go_wp2_with fail
            go_ret
            exact ⟨rfl, HS.out.b.trans (drewN_below _ _)⟩
    · have hok' : okSt ps s = false := by simpa using hok
      have HB2 : Hid (stdN ps s = false) := Lib.hid (stdN_no hok')
      have HY : Hid (stA ps s = -1) := Lib.hid (by rw [stA, if_neg hok])
      clear hok hok'
      go_wp2_with (first
        | (go_at_call 32; refine (IsSteady_any t _ _ (lw_m HS) (by omega)).mono ?_; rw [← HPS.out]; rintro e V ⟨rfl, hV⟩; replace HS := lw_step HS hV; clear hV; rw [HB2.out])
        | (go_at_call 41; refine (sIsSteady_any t _ _ (by omega)).mono ?_; rw [← HPS.out]; rintro e V ⟨rfl, hV⟩; replace HS := lw_step HS hV; clear hV; rw [HB2.out])
        | (go_at_call 31; refine (StepAll_any t _ _ (lw_m HS) (by omega)).mono ?_; rw [← HPS.out]; rintro e V ⟨rfl, hV⟩; replace HS := lw_step HS hV; clear hV; rw [HY.out]))
      go_ret
      exact ⟨rfl, HS.out.b⟩

end Go.Proofs.YtpehimjngofnkaaDoor
