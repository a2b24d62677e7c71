/- The walk of the law FnPath. Printed by wip/mkn.py. -/
import Derived.Test.YtpehimjngofnkaaDoorProg
import Derived.WalkKit
import Derived.WalkSpells
import Derived.WalkLawsBesides
import Derived.Lib.Hide
import Derived.Deep.QuietTactic
import Derived.BigQuiet
import Derived.IntWalk
import Derived.Test.YtpehimjngofnkaaDoorG1
import Derived.Test.YtpehimjngofnkaaDoorQ9
import Derived.Test.YtpehimjngofnkaaDoorG5
import Derived.Test.YtpehimjngofnkaaDoorG4
import Derived.Test.YtpehimjngofnkaaDoorQ8
namespace Go.Proofs.YtpehimjngofnkaaDoor
open Go.RowKit
set_option linter.unusedVariables false

set_option maxHeartbeats 8000000 in
set_option maxRecDepth 100000 in
theorem fnPath_walk (a0 : Option Addr) (len0 cap0 : Nat) (z0 : List Int) (w : World) (hm : Hid (HasM w)) (w0 : IsRow .u8 w a0 len0 cap0 z0) :
    Calls Tryd.prog 14 #[.slice a0 len0 cap0] w fun e w' => e = .returned (.bool true) ∧ Below w.heap.size w w' := by
  by_cases h0 : 1048576 < len0
  · go_enter Tryd.func14, Tryd.ntmps14
    go_wp2
    go_ret
    exact ⟨rfl, Below.refl _ _⟩
  · obtain ⟨bs, hbl, hrd, hwf, hcap, hmax⟩ := w0.rdk
    unfold maxLen at hmax
    have HRD := Lib.hid hrd
    have HWF := Lib.hid (fun x hx => wf_u8 (hwf x hx))
    have HBL := Lib.hid hbl.symm
    clear hbl hrd hwf w0
    go_enter Tryd.func14, Tryd.ntmps14
    go_wp2_with fail
    refine (DrawPathTo_any _ _ _ _ _ HBL.out hcap (by omega) HRD HWF).mono ?_
    rintro e W1 ⟨⟨t, s, u, rfl, ht, hs12, hu1, hu2⟩, hB1⟩
    obtain ⟨ps, HPS⟩ : ∃ ps, Hid (ps = cutL t.data.toList) := ⟨_, rfl⟩
    have HS : Hid (LawW w W1 []) := Lib.hid ⟨hm.out.below hB1, hB1, by simp⟩
    clear hB1 h0 hm HRD HWF HBL hcap hmax
    obtain ⟨P, HP⟩ : ∃ P, Hid (P = pthN ps s u) := ⟨_, Lib.hid rfl⟩
    by_cases hok : canN ps s u = true
    · have HC := Lib.hid hok
      obtain ⟨HOK, N, s, u, D, rfl, rfl, HN, hN32, hsN, huN, HD, hDN, HST, HV⟩ := can_open hok
      obtain ⟨pl, HPL⟩ : ∃ pl, Hid (pl = pth (nextN ps) u D s) := ⟨_, Lib.hid rfl⟩
      have e0 : P = ints pl := by rw [HP.out, HV.out, HPL.out]
      have hPl : P.length = D + 1 := by rw [e0, ints_length, HPL.out, pth_len]
      have hP1 : P.length ≤ D + 1 := by omega
      have hP2 : D + 1 ≤ P.length := by omega
      have HOKS : Hid (∀ x, x < N → okSt ps (x : Int) = true) := Lib.hid fun x hx => by rw [okSt_of HOK.out HN.out]; simp; omega
      have HAT : Hid (∀ k, k < D → ∃ x y m : Nat, P[k]? = some (x : Int) ∧ P[k + 1]? = some (y : Int) ∧ m + k = D ∧ x < N ∧ dst (nextN ps) u x = some (m - 1 + 1) ∧ y = nxt1 (nextN ps) u x (m - 1)) := Lib.hid fun k hk => by
        obtain ⟨x, h1, h2, h3⟩ := pth_at D s HD.out k (by omega)
        have h4 := h3 hk
        rw [← HPL.out] at h1 h4
        refine ⟨x, nxt1 (nextN ps) u x (D - k - 1), D - k, by rw [e0, ints, List.getElem?_map, h1]; rfl, by rw [e0, ints, List.getElem?_map, h4]; rfl, by omega, ?_, by rw [h2]; congr 1; omega, rfl⟩
        exact nxt_in HOK.out HN.out hsN k x (by rw [← HPL.out]; exact h1) HD.out
      have HP0 : Hid (P[0]? = some (s : Int)) := Lib.hid (by rw [e0, HPL.out, ints, List.getElem?_map, pth_head]; rfl)
      have HPE : Hid (P[D]? = some (u : Int)) := Lib.hid (by rw [e0, HPL.out, ints, List.getElem?_map, pth_last HD.out]; rfl)
      have HPT : Hid (∀ v : Nat, v < N → (canN ps (v : Int) (u : Int) = true → ∃ e, dst (nextN ps) u v = some e ∧ (pthN ps (v : Int) (u : Int)).length = e + 1) ∧ (pthN ps (v : Int) (u : Int)).length ≤ 33) := Lib.hid fun v hv => ⟨fun h => by
        obtain ⟨_, N', s', t', D', h1, h2, _, _, _, _, HD', _, _, HV'⟩ := can_open h
        obtain rfl : v = s' := by omega
        obtain rfl : u = t' := by omega
        exact ⟨D', HD'.out, by rw [HV'.out, ints_length, pth_len]⟩, pthN_len _ _ _⟩
      have hwE : IntKind.i64.wrap ((P.length : Int) - 1) = (D : Int) := by rw [IntWalk.i64_in _ (by omega)]; omega
      have hss : ((s : Int) == (s : Int)) = true := beq_self_eq_true _
      have huu : ((u : Int) == (u : Int)) = true := beq_self_eq_true _
      clear e0 hPl hok hs12 hu1 hu2
      go_wp2_with (first
        | (go_at_call 55; refine (PathTo_any t _ _ _ (lw_m HS) (by omega)).mono ?_; rw [← HPS.out, ← HP.out, HC.out]; rintro e V ⟨⟨A2, c2, rfl, hc2, hO2⟩, hV⟩; replace HS := lw_add (lw_step HS hV) hO2.rd; clear hV hO2)
        | (go_at_call 54; refine (sPathTo_any t _ _ _ (by omega)).mono ?_; rw [← HPS.out, ← HP.out, HC.out]; rintro e V ⟨⟨A9, c2, rfl, hc2, hO2⟩, hV⟩; replace HS := lw_add (lw_step HS hV) hO2.rd; clear hV hO2)
        | (go_at_call 30; refine (bnSame_any _ _ _ _ P _ (lw_rd HS 1 rfl) (lw_rd HS 0 rfl) (by omega)).mono ?_; rintro e V ⟨rfl, nB, rfl⟩; replace HS := lw_drew HS nB)
        | (go_at_call 33; refine (CanReach_any t _ _ _ (lw_m HS) (by omega)).mono ?_; rw [← HPS.out]; rintro e V ⟨rfl, hV⟩; replace HS := lw_step HS hV; clear hV; rw [HC.out])
        | (go_at_call 57; refine (sCanReach_any t _ _ _ (by omega)).mono ?_; rw [← HPS.out]; rintro e V ⟨rfl, hV⟩; replace HS := lw_step HS hV; clear hV; rw [HC.out]))
      obtain ⟨g, off, rfl⟩ := lw_form HS 1 rfl (by omega)
      replace HS := lw_cut HS 1
      go_loopw [10] (fun i wr => ∃ k i1 : Nat, Hid (i1 = k + 1) ∧ k ≤ D ∧ i1 ≤ k + 1 ∧ k + 1 ≤ i1 ∧ i = .int .i64 (i1 : Int) ∧ Hid (LawW w wr [(some ⟨g, off, none⟩, P)])) (fun i _ => D + 1 - (intOf i).toNat)
      case atStart => exact ⟨0, 1, Lib.hid rfl, Nat.zero_le _, by omega, by omega, rfl, HS⟩
      case round =>
        clear HS
        obtain ⟨k, i1, HI1, hk, hi1, hi2, rfl, HS⟩ := hrel
        by_cases hlt : k < D
        · obtain ⟨x, y, m, hx, hy, hm, hxN, hdx, hyx⟩ := HAT.out k hlt
          have HE1 := Lib.hid hx
          have HE2 : Hid (P[i1]? = some (y : Int)) := Lib.hid (by rw [HI1.out]; exact hy)
          obtain ⟨k1, k2, j0, hj0, k3, k4⟩ := nxt1_all hdx
          rw [← hyx] at k1 k2 k3
          have hm0 : 0 < m := by omega
          have HDX := Lib.hid hdx
          have HY2 := Lib.hid k2
          have HJ3 : Hid ((nextN ps x)[j0]? = some y) := Lib.hid (by rw [List.getElem?_eq_getElem hj0, k3])
          have HJ4 : Hid (∀ j v, j < j0 → (nextN ps x)[j]? = some v → ¬ dst (nextN ps) u v = some (m - 1)) := Lib.hid (fun j v hj hv => by
            have := k4 j hj
            rw [List.getElem?_eq_getElem (by omega)] at hv
            injection hv with hv
            rw [← hv]; exact this)
          have HYM : Hid (y ∈ nextN ps x) := Lib.hid k1
          obtain ⟨B, HB⟩ : ∃ B, Hid (B = nxtN ps (x : Int)) := ⟨_, Lib.hid rfl⟩
          have eB : B = ints (nextN ps x) := by rw [HB.out, nxtN_yes (HOKS.out x hxN)]
          have hBl : B.length ≤ (nextN ps x).length := by rw [eB, ints_length]; exact Nat.le_refl _
          have hBl2 : (nextN ps x).length ≤ B.length := by rw [eB, ints_length]; exact Nat.le_refl _
          have hB5 := nextN_len HOK.out x
          have HBE : Hid (∀ j v, (nextN ps x)[j]? = some v → B[j]? = some ((v : Nat) : Int) ∧ v < N) := Lib.hid (fun j v hv => ⟨by rw [eB, ints, List.getElem?_map, hv]; rfl, next_lt HOK.out HN.out x hxN v (List.mem_of_getElem? hv)⟩)
          have hw1 : IntKind.i64.wrap ((i1 : Int) - 1) = (k : Int) := by rw [IntWalk.i64_in _ (by omega)]; omega
          have hw2 : IntKind.i64.wrap ((P.length : Int) - (i1 : Int)) = (m : Int) := by rw [IntWalk.i64_in _ (by omega)]; omega
          have hw3 : (P.length : Int) - (i1 : Int) = (m : Int) := by omega
          have hw4 : (i1 : Int) - 1 = (k : Int) := by omega
          have hkP : k < P.length := by omega
          have hiP : i1 < P.length := by omega
          have hc1 := lw_cell HS 0 rfl HE1
          clear hx hy hm hdx hyx k1 k2 k3 k4 eB hj0
          go_wp2_with (first
            | (go_at_call 34; refine (NextOf_any t _ _ (lw_m HS) (by omega)).mono ?_; rw [← HPS.out, ← HB.out]; rintro e V ⟨⟨A8, c2, rfl, hc2, hO2⟩, hV⟩; replace HS := lw_add (lw_step HS hV) hO2.rd; clear hV hO2))
          go_loopw [12, 13] (fun q i wr => ∃ j : Nat, j ≤ B.length ∧ i = .int .i64 j ∧ q = .bool (decide (y ∈ (nextN ps x).take j)) ∧ Hid (LawW w wr [(A8, B), (some ⟨g, off, none⟩, P)])) (fun _ i _ => B.length - (intOf i).toNat)
          case atStart => exact ⟨0, Nat.zero_le _, rfl, rfl, HS⟩
          case round =>
            clear HS hc1
            obtain ⟨j, hj, rfl, rfl, HS⟩ := hrel
            by_cases hlj : j < B.length
            · obtain ⟨v, hv⟩ : ∃ v, (nextN ps x)[j]? = some v := ⟨_, List.getElem?_eq_getElem (by omega)⟩
              obtain ⟨hvb, hvN⟩ := HBE.out j v hv
              have HVj := Lib.hid hv
              have HVB := Lib.hid hvb
              obtain ⟨hfp, hR33⟩ := HPT.out v hvN
              have HFP := Lib.hid hfp
              obtain ⟨R, HR⟩ : ∃ R, Hid (R = pthN ps (v : Int) (u : Int)) := ⟨_, Lib.hid rfl⟩
              rw [← HR.out] at hR33
              obtain ⟨g8, off8, rfl⟩ := lw_form HS 0 rfl (by omega)
              have hc8 := lw_cell HS 0 rfl HVB
              have hc2 := lw_cell HS 1 rfl HE2
              obtain ⟨b0, HB0⟩ : ∃ b, Hid (b = decide (y ∈ (nextN ps x).take j)) := ⟨_, Lib.hid rfl⟩
              obtain ⟨b1, HB1⟩ : ∃ b, Hid (b = decide (y ∈ (nextN ps x).take (j + 1))) := ⟨_, Lib.hid rfl⟩
              have hbb : b1 = (b0 || decide (v = y)) := by
                rw [HB1.out, HB0.out, List.take_add_one, hv, Bool.eq_iff_iff, Bool.or_eq_true, decide_eq_true_iff, decide_eq_true_iff, decide_eq_true_iff, List.mem_append]
                simp [eq_comm]
              have hno : b1 = false → j < j0 := fun h => by
                by_cases hlt2 : j < j0
                · exact hlt2
                · exfalso
                  rw [HB1.out] at h
                  refine of_decide_eq_false h ?_
                  rw [List.mem_take_iff_getElem]
                  have h3 := HJ3.out
                  have hl3 := (List.getElem?_eq_some_iff.1 h3).1
                  exact ⟨j0, by omega, (List.getElem?_eq_some_iff.1 h3).2⟩
              have hvy : ((v : Int) == (y : Int)) = decide (v = y) := by
                rw [Bool.eq_iff_iff, beq_iff_eq, decide_eq_true_iff]; omega
              have hvy2 : ((v : Int) != (y : Int)) = !decide (v = y) := by rw [bne, hvy]
              obtain ⟨vy, HVY⟩ : ∃ b, Hid (b = decide (v = y)) := ⟨_, Lib.hid rfl⟩
              rw [← HVY.out] at hbb hvy hvy2
              obtain ⟨fc, HFC⟩ : ∃ b, Hid (b = canN ps (v : Int) (u : Int)) := ⟨_, Lib.hid rfl⟩
              -- no way is shorter; one as short is none that comes before y
              have hsh : fc = true → decide ((R.length : Int) < (m : Int)) = false ∧ (b1 = false → ((R.length : Int) == (m : Int)) = false) := fun h => by
                obtain ⟨e, h1, h2⟩ := HFP.out (by rw [← HFC.out]; exact h)
                rw [← HR.out] at h2
                have h3 := dst_ge HDX.out (List.mem_of_getElem? HVj.out) h1
                refine ⟨by rw [decide_eq_false_iff_not]; omega, fun hb => ?_⟩
                have h4 := HJ4.out j v (hno hb) HVj.out
                rw [h1] at h4
                have h5 : ¬ e = m - 1 := fun h => h4 (by rw [h])
                rw [beq_eq_false_iff_ne]; omega
              have HSH := Lib.hid hsh
              rw [← HB0.out]
              have HSD : Hid (∀ n, LawW w (wr.drewN n) [(some ⟨g8, off8, none⟩, B), (some ⟨g, off, none⟩, P)]) := Lib.hid fun n => (lw_drew HS n).out
              clear hno hsh hv hvb hfp
              cases b0 <;> cases vy <;> cases fc
              all_goals
                simp only [Bool.or_false, Bool.or_true, Bool.true_or, Bool.not_false, Bool.not_true] at hbb hvy2
                have HBB := Lib.hid hbb
                clear hbb
                try (have hs1 := (HSH.out rfl).1; have hs3 : ¬ (R.length : Int) < (m : Int) := of_decide_eq_false hs1; have hs4 : ¬ R.length < m := (by omega); have hs5 : decide (R.length < m) = false := decide_eq_false hs4)
                try (have hs2 := (HSH.out rfl).2 HBB.out)
                go_wp2_with fail
                go_quiet (fail)
                go_wp2_with fail
                replace HS := lw_drew HS nq
                have hc8' := lw_cell HS 0 rfl HVB
                go_wp2_with (first
                  | (go_at_call 55; refine (PathTo_any t _ _ _ (lw_m HS) (by omega)).mono ?_; rw [← HPS.out, ← HR.out, ← HFC.out]; rintro e V ⟨⟨A7, c2, rfl, hc2, hO2⟩, hV⟩; replace HS := lw_add (lw_step HS hV) hO2.rd; clear hV hO2))
                have hc8'' := lw_cell HS 1 rfl HVB
                have hc2'' := lw_cell HS 2 rfl HE2
                go_wp2_with fail
                go_quiet (fail)
                go_wp2_with fail
                go_roundw
                case rel => exact ⟨j + 1, by omega, by go_num, by rw [← HB1.out, HBB.out], lw_cut (lw_drew HS _) 1⟩
                case measure => simp [intOf]; omega
            · have hje : j = B.length := by omega
              have hyt : decide (y ∈ (nextN ps x).take j) = true := decide_eq_true (by rw [List.take_of_length_le (by omega)]; exact HYM.out)
              rw [hyt]
              clear hyt
              go_wp2_with fail
              go_roundw
              case rel => exact ⟨k + 1, i1 + 1, Lib.hid (by rw [HI1.out]), by omega, by omega, by omega, by go_num, lw_cut HS 1⟩
              case measure => simp [intOf]; omega
        · have hkn : k = D := by omega
          have hiP : ¬ i1 < P.length := by omega
          have hDP : D < P.length := by omega
          have hc0 := lw_cell HS 0 rfl HP0
          rw [Nat.add_zero] at hc0
          have hcE := lw_cell HS 0 rfl HPE
          go_wp2_with fail
          go_ret
          exact ⟨rfl, HS.out.b⟩
    · have HC : Hid (canN ps s u = false) := Lib.hid (by simpa using hok)
      have HP0 : Hid (P.length = 0) := Lib.hid (by rw [HP.out, pthN_no HC.out]; rfl)
      have hP0 : P.length ≤ 0 := by rw [HP0.out]; exact Nat.le_refl _
      clear hok
      go_wp2_with (first
        | (go_at_call 55; refine (PathTo_any t _ _ _ (lw_m HS) (by omega)).mono ?_; rw [← HPS.out, ← HP.out, HC.out]; rintro e V ⟨⟨A2, c2, rfl, hc2, hO2⟩, hV⟩; replace HS := lw_add (lw_step HS hV) hO2.rd; clear hV hO2)
        | (go_at_call 54; refine (sPathTo_any t _ _ _ (by omega)).mono ?_; rw [← HPS.out, ← HP.out, HC.out]; rintro e V ⟨⟨A9, c2, rfl, hc2, hO2⟩, hV⟩; replace HS := lw_add (lw_step HS hV) hO2.rd; clear hV hO2)
        | (first | (go_at_call 30; refine (bnSame_any _ _ _ _ P _ (lw_rd HS 1 rfl) (lw_rd HS 0 rfl) (by omega)).mono ?_; rintro e V ⟨rfl, nB, rfl⟩; replace HS := lw_drew HS nB) | (go_at_call 30; refine (bnSame_any _ _ _ _ P _ (lw_rd HS 2 rfl) (lw_rd HS 0 rfl) (by omega)).mono ?_; rintro e V ⟨rfl, nB, rfl⟩; replace HS := lw_drew HS nB))
        | (go_at_call 33; refine (CanReach_any t _ _ _ (lw_m HS) (by omega)).mono ?_; rw [← HPS.out]; rintro e V ⟨rfl, hV⟩; replace HS := lw_step HS hV; clear hV; rw [HC.out])
        | (go_at_call 57; refine (sCanReach_any t _ _ _ (by omega)).mono ?_; rw [← HPS.out]; rintro e V ⟨rfl, hV⟩; replace HS := lw_step HS hV; clear hV; rw [HC.out]))
      go_ret
      exact ⟨rfl, HS.out.b⟩

end Go.Proofs.YtpehimjngofnkaaDoor
