/- The walk of the law FnBefore. Printed by wip/mkl.py. -/
import Derived.Test.YtjinmoeabkpmaaaDoorProg
import Derived.WalkKit
import Derived.WalkSpells
import Derived.WalkLawsBesides
import Derived.Lib.Hide
import Derived.Deep.QuietTactic
import Derived.BigQuiet
import Derived.Test.YtjinmoeabkpmaaaDoorLa
import Derived.Test.YtjinmoeabkpmaaaDoorYf
import Derived.Test.YtjinmoeabkpmaaaDoorYg
import Derived.Test.YtjinmoeabkpmaaaDoorYh
import Derived.Test.YtjinmoeabkpmaaaDoorWq
import Derived.Test.YtjinmoeabkpmaaaDoorWa
import Derived.Test.YtjinmoeabkpmaaaDoorWz
namespace Go.Proofs.YtjinmoeabkpmaaaDoor
open Go.RowKit
set_option linter.unusedVariables false

set_option maxHeartbeats 4000000 in
set_option maxRecDepth 100000 in
theorem fnBefore_walk (a0 : Option Addr) (len0 cap0 : Nat) (z0 : List Int) (w : World) (hm : Hid (HasM w)) (w0 : IsRow .u8 w a0 len0 cap0 z0) :
    Calls Tryd.prog 7 #[.slice a0 len0 cap0] w fun e w' => e = .returned (.bool true) ∧ Below w.heap.size w w' := by
  by_cases h0 : 1048576 < len0
  · go_enter Tryd.func7, Tryd.ntmps7
    go_wp2
    go_ret
    exact ⟨rfl, Below.refl _ _⟩
  · obtain ⟨bs, hbl, hrd, hwf, hcap, hmax⟩ := w0.rdk
    unfold maxLen at hmax
    have HRD := Lib.hid hrd
    have HWF := Lib.hid (fun x hx => wf_u8 (hwf x hx))
    have HBL := Lib.hid hbl.symm
    clear hbl hrd hwf w0
    go_enter Tryd.func7, Tryd.ntmps7
    go_wp2_with fail
    refine (DrawBeforeOf_any _ _ _ _ _ HBL.out hcap (by omega) HRD HWF).mono ?_
    rintro e W1 ⟨⟨t, s, rfl, ht, hs1, hs2⟩, hB1⟩
    obtain ⟨ps, HPS⟩ : ∃ ps, Hid (ps = cutL t.data.toList) := ⟨_, rfl⟩
    have HS : Hid (LawW w W1 []) := Lib.hid ⟨hm.out.below hB1, hB1, by simp⟩
    clear hB1 h0 hm HRD HWF HBL hcap hmax
    obtain ⟨L, HL⟩ : ∃ L, Hid (L = befN ps s) := ⟨_, rfl⟩
    by_cases hok : okSt ps s = true
    · have hok0 := hok
      obtain ⟨HOK, N, s, rfl, HN, hN32, hN0, hsN, HOKS, hfN⟩ := st_open hok
      obtain ⟨N', HN', hNw, _, _⟩ := wrap_two ps.length (okN_le HOK.out)
      obtain rfl : N = N' := by rw [HN.out, HN'.out]
      obtain ⟨xs, HXS⟩ : ∃ xs, Hid (xs = sel N fun k => stp ps k == s) := ⟨_, rfl⟩
      have e0 : L = ints xs := by rw [HL.out, befN_yes hok0 HN.out, HXS.out]
      have hLx : L.length = xs.length := by rw [e0, ints_length]
      have hL32 : L.length ≤ 32 := by rw [hLx, HXS.out]; exact Nat.le_trans (sel_len _ _) hN32
      obtain ⟨U, HU⟩ : ∃ U, Hid (U = unrN ps) := ⟨_, rfl⟩
      obtain ⟨us, HUS⟩ : ∃ us, Hid (us = sel N fun k => (befN ps (k : Int)).isEmpty) := ⟨_, rfl⟩
      have eU : U = ints us := by rw [HU.out, unrN_yes HOK.out HN.out, HUS.out]
      have hUx : U.length = us.length := by rw [eU, ints_length]
      have hU32 : U.length ≤ 32 := by rw [hUx, HUS.out]; exact Nat.le_trans (sel_len _ _) hN32
      have HE : Hid (∀ i, i < L.length → L[i]? = some ((xs.getD i 0 : Nat) : Int) ∧ stA ps ((xs.getD i 0 : Nat) : Int) = (s : Int)) := Lib.hid fun i hi => by
        refine ⟨by rw [show L[i]? = (ints xs)[i]? from congrArg (fun l => l[i]?) e0]; exact ints_getD xs i (by omega), ?_⟩
        have hx : xs.getD i 0 ∈ xs := by
          rw [List.getD_eq_getElem?_getD, List.getElem?_eq_getElem (by omega), Option.getD_some]
          exact List.getElem_mem _
        have hm := hx
        rw [HXS.out, sel_mem, beq_iff_eq, ← HXS.out] at hm
        rw [stA_k (HOKS.out _ hm.1), hm.2]
      have HEU : Hid (∀ i, i < U.length → U[i]? = some ((us.getD i 0 : Nat) : Int)) := Lib.hid fun i hi => by
        rw [show U[i]? = (ints us)[i]? from congrArg (fun l => l[i]?) eU]; exact ints_getD us i (by omega)
      have HTK : Hid (∀ i, i < U.length → decide (s ∈ us.take (i + 1)) = (decide (s ∈ us.take i) || (((us.getD i 0 : Nat) : Int) == (s : Int)))) := Lib.hid fun i hi => by
        rw [Bool.eq_iff_iff, Bool.or_eq_true, decide_eq_true_iff, decide_eq_true_iff, beq_iff_eq, List.take_add_one, List.getElem?_eq_getElem (by omega), List.mem_append, List.getD_eq_getElem?_getD, List.getElem?_eq_getElem (by omega)]
        simp only [Option.toList_some, List.mem_singleton, Option.getD_some]
        constructor
        · rintro (h | h)
          · exact .inl h
          · exact .inr (by rw [h])
        · rintro (h | h)
          · exact .inl h
          · exact .inr (by omega)
      obtain ⟨qb, HQB⟩ : ∃ qb, Hid (qb = decide (L.length = 0)) := ⟨_, rfl⟩
      have HUM : Hid (decide (s ∈ us.take U.length) = qb) := Lib.hid (by
        rw [HQB.out, hUx, List.take_length, Bool.eq_iff_iff, decide_eq_true_iff, decide_eq_true_iff, HUS.out, sel_mem, ← HL.out, List.isEmpty_iff, List.length_eq_zero_iff]
        exact ⟨fun h => h.2, fun h => ⟨hsN, h⟩⟩)
      obtain ⟨y0, HY0⟩ : ∃ y, Hid (y = stp ps s) := ⟨_, rfl⟩
      have HS0 : Hid (stA ps (s : Int) = (y0 : Int)) := Lib.hid (by rw [stA_k hok0, HY0.out])
      obtain ⟨T, HT⟩ : ∃ T, Hid (tailN ps (s : Int) = ((T : Nat) : Int) ∧ (T = 0 → 0 < L.length)) := by
        obtain ⟨Ln, T, hF⟩ := orb_form hN32 hfN hsN
        refine ⟨T, Lib.hid ⟨by rw [tailN_yes hok0, hF.eq], fun h => ?_⟩⟩
        subst h
        obtain ⟨j, hj, _⟩ := hF.before
        have hm : itf (stp ps) j s ∈ xs := by rw [HXS.out, sel_mem, beq_iff_eq]; exact ⟨itf_lt hfN hsN j, hj⟩
        rw [hLx]
        exact List.length_pos_of_mem hm
      have HTN := Lib.hid HT.out.1
      have hT0 := HT.out.2
      obtain ⟨gg, HG⟩ : ∃ gg : Nat → Nat, Hid (gg = fun k => (sel N (fun x => stp ps x == k)).length) := ⟨_, rfl⟩
      have HSUM : Hid (sumTo gg N = N) := Lib.hid (by rw [HG.out]; exact sum_sel N hfN)
      have HGB : Hid (∀ k, k < N → (befN ps ((k : Nat) : Int)).length = gg k) := Lib.hid fun k hk => by
        rw [befN_yes (HOKS.out k hk) HN.out, ints_length, HG.out]
      have HGL : Hid (∀ k, gg k ≤ 32) := Lib.hid fun k => by rw [HG.out]; exact Nat.le_trans (sel_len _ _) hN32
      have HSL : Hid (∀ k, sumTo gg k ≤ 32 * k) := Lib.hid fun k => sumTo_le k fun x _ => HGL.out x
      have HSZ : Hid (szN ps = (ps.length : Int)) := Lib.hid (by rw [szN, if_pos HOK.out])
      have hn5 := okN_le HOK.out
      have hss : ((s : Int) != (s : Int)) = false := bne_self_eq_false _
      have hN0' : ((N : Int) == (N : Int)) = true := beq_self_eq_true _
      clear e0 eU hLx hUx hok hok0 hs1 hs2 HT
      go_wp2_with (first
        | (go_at_call 43; refine (BeforeOf_any t _ _ (lw_m HS) (by omega)).mono ?_; rw [← HPS.out, ← HL.out]; rintro e V ⟨⟨A2, c2, rfl, hc2, hO2⟩, hV⟩; replace HS := lw_add (lw_step HS hV) hO2.rd; clear hV hO2)
        | (go_at_call 44; refine (sBeforeOf_any t _ _ (by omega)).mono ?_; rw [← HPS.out, ← HL.out]; rintro e V ⟨⟨A9, c2, rfl, hc2, hO2⟩, hV⟩; replace HS := lw_add (lw_step HS hV) hO2.rd; clear hV hO2)
        | (go_at_call 38; refine (bnSame_any _ _ _ _ L _ (lw_rd HS 1 rfl) (lw_rd HS 0 rfl) (by omega)).mono ?_; rintro e V ⟨rfl, n, rfl⟩; replace HS := lw_drew HS n)
        | (go_at_call 28; refine (StepAll_any t _ _ (lw_m HS) (by omega)).mono ?_; rw [← HPS.out]; rintro e V ⟨rfl, hV⟩; replace HS := lw_step HS hV; clear hV; rw [HS0.out]))
      replace HS := lw_cut HS 1
      go_loopw [6] (fun i wr => ∃ k : Nat, k ≤ L.length ∧ i = .int .i64 k ∧ Hid (LawW w wr [(A2, L)])) (fun i _ => L.length - (intOf i).toNat)
      case atStart => exact ⟨0, Nat.zero_le _, rfl, HS⟩
      case round =>
        clear HS
        obtain ⟨k, hk, rfl, HS⟩ := hrel
        by_cases hlt : k < L.length
        · obtain ⟨x, HX1⟩ : ∃ x, Hid (x = xs.getD k 0) := ⟨_, rfl⟩
          have HE1 : Hid (L[k]? = some (x : Int)) := Lib.hid (by rw [HX1.out]; exact (HE.out k hlt).1)
          have HXS1 : Hid (stA ps (x : Int) = (s : Int)) := Lib.hid (by rw [HX1.out]; exact (HE.out k hlt).2)
          obtain ⟨g, off, rfl⟩ := lw_form HS 0 rfl (by omega)
          have hc1 := lw_cell HS 0 rfl HE1
          go_wp2_with (first
            | (go_at_call 28; refine (StepAll_any t _ _ (lw_m HS) (by omega)).mono ?_; rw [← HPS.out]; rintro e V ⟨rfl, hV⟩; replace HS := lw_step HS hV; clear hV; rw [HXS1.out]))
          go_roundw
          case rel => exact ⟨k + 1, by omega, by go_num, HS⟩
          case measure => simp [intOf]; omega
        · have hkn : k = L.length := by omega
          subst hkn
          go_wp2_with (first
            | (go_at_call 45; refine (UnreachedOf_any t  _ (lw_m HS) (by omega)).mono ?_; rw [← HPS.out, ← HU.out]; rintro e V ⟨⟨A3, c2, rfl, hc2, hO2⟩, hV⟩; replace HS := lw_add (lw_step HS hV) hO2.rd; clear hV hO2))
          go_loopw [8, 9] (fun q i wr => ∃ k : Nat, k ≤ U.length ∧ i = .int .i64 k ∧ q = .bool (decide (s ∈ us.take k)) ∧ Hid (LawW w wr [(A3, U), (A2, L)])) (fun _ i _ => U.length - (intOf i).toNat)
          case atStart => exact ⟨0, Nat.zero_le _, rfl, by simp, HS⟩
          case round =>
            clear HS
            obtain ⟨k, hk, rfl, rfl, HS⟩ := hrel
            by_cases hlt2 : k < U.length
            · obtain ⟨x, HX1⟩ : ∃ x, Hid (x = us.getD k 0) := ⟨_, rfl⟩
              have HE1 : Hid (U[k]? = some (x : Int)) := Lib.hid (by rw [HX1.out]; exact HEU.out k hlt2)
              have HTK1 : Hid (decide (s ∈ us.take (k + 1)) = (decide (s ∈ us.take k) || ((x : Int) == (s : Int)))) := Lib.hid (by rw [HX1.out]; exact HTK.out k hlt2)
              obtain ⟨g, off, rfl⟩ := lw_form HS 0 rfl (by omega)
              have hc1 := lw_cell HS 0 rfl HE1
              rcases Classical.em (s ∈ us.take k) with hmk | hmk
              · rw [show decide (s ∈ us.take k) = true from decide_eq_true hmk]
                rw [show decide (s ∈ us.take k) = true from decide_eq_true hmk, Bool.true_or] at HTK1
                clear hmk
                go_wp2_with fail
                go_roundw
                case rel => exact ⟨k + 1, by omega, by go_num, by rw [HTK1.out], HS⟩
                case measure => simp [intOf]; omega
              · rw [show decide (s ∈ us.take k) = false from decide_eq_false hmk]
                rw [show decide (s ∈ us.take k) = false from decide_eq_false hmk, Bool.false_or] at HTK1
                clear hmk
                go_wp2_with fail
                go_roundw
                case rel => exact ⟨k + 1, by omega, by go_num, by rw [HTK1.out], HS⟩
                case measure => simp [intOf]; omega
            · have hkn : k = U.length := by omega
              subst hkn
              rw [HUM.out]
              go_wp2_with fail
              go_loopw [10, 11] (fun q i wr => ∃ k : Nat, k ≤ N ∧ i = .int .i64 k ∧ q = .int .i64 (sumTo gg k : Nat) ∧ Hid (LawW w wr [(A3, U), (A2, L)])) (fun _ i _ => N - (intOf i).toNat)
              case atStart => exact ⟨0, Nat.zero_le _, rfl, rfl, HS⟩
              case round =>
                clear HS
                obtain ⟨k, hk, rfl, rfl, HS⟩ := hrel
                by_cases hlt3 : k < N
                · obtain ⟨B, HB⟩ : ∃ B, Hid (B = befN ps ((k : Nat) : Int)) := ⟨_, rfl⟩
                  have HBL : Hid (B.length = gg k) := Lib.hid (by rw [HB.out]; exact HGB.out k hlt3)
                  have hb32 : B.length ≤ 32 := by rw [HBL.out]; exact HGL.out k
                  obtain ⟨sk, HSK⟩ : ∃ x, Hid (x = sumTo gg k) := ⟨_, rfl⟩
                  have hsk : sk ≤ 1024 := by rw [HSK.out]; have := HSL.out k; omega
                  have HNX : Hid (sumTo gg (k + 1) = sk + B.length) := Lib.hid (by rw [HSK.out, HBL.out]; rfl)
                  rw [← HSK.out]
                  go_wp2_with (first
                    | (go_at_call 33; refine (SizeOf_any t _ (lw_m HS) (by omega)).mono ?_; rw [← HPS.out]; rintro e V ⟨rfl, hV⟩; replace HS := lw_step HS hV; clear hV; rw [HSZ.out])
                    | (go_at_call 43; refine (BeforeOf_any t _ _ (lw_m HS) (by omega)).mono ?_; rw [← HPS.out, ← HB.out]; rintro e V ⟨⟨A2, c2, rfl, hc2, hO2⟩, hV⟩; replace HS := lw_add (lw_step HS hV) hO2.rd; clear hV hO2))
                  go_roundw
                  case rel => exact ⟨k + 1, by omega, by go_num, by rw [HNX.out]; go_num, lw_cut HS 1⟩
                  case measure => simp [intOf]; omega
                · have hkn : k = N := by omega
                  subst hkn
                  rw [HSUM.out]
                  rcases Classical.em (L.length = 0) with hl0 | hl0
                  · rw [show qb = true from HQB.out.trans (decide_eq_true hl0)]
                    have hd0 : ((L.length : Int) == 0) = true := by rw [hl0]; rfl
                    have hT1 : 0 < T := Nat.pos_of_ne_zero fun h => by have := hT0 h; omega
                    clear hl0
                    go_wp2_with (first
                      | (go_at_call 33; refine (SizeOf_any t  _ (lw_m HS) (by omega)).mono ?_; rw [← HPS.out]; rintro e V ⟨rfl, hV⟩; replace HS := lw_step HS hV; clear hV; rw [HSZ.out])
                      | (go_at_call 46; refine (sUnreachedOf_any t  _ (by omega)).mono ?_; rw [← HPS.out, ← HU.out]; rintro e V ⟨⟨A2, c2, rfl, hc2, hO2⟩, hV⟩; replace HS := lw_add (lw_step HS hV) hO2.rd; clear hV hO2)
                      | (go_at_call 38; refine (bnSame_any _ _ _ _ U _ (lw_rd HS 1 rfl) (lw_rd HS 0 rfl) (by omega)).mono ?_; rintro e V ⟨rfl, n, rfl⟩; replace HS := lw_drew HS n)
                      | (go_at_call 25; refine (TailOf_any t _ _ (lw_m HS) (by omega)).mono ?_; rw [← HPS.out]; rintro e V ⟨rfl, hV⟩; replace HS := lw_step HS hV; clear hV; rw [HTN.out]))
                    go_ret
                    exact ⟨rfl, HS.out.b⟩
                  · rw [show qb = false from HQB.out.trans (decide_eq_false hl0)]
                    have hd0 : ((L.length : Int) == 0) = false := by rw [beq_eq_false_iff_ne]; omega
                    go_wp2_with (first
                      | (go_at_call 33; refine (SizeOf_any t  _ (lw_m HS) (by omega)).mono ?_; rw [← HPS.out]; rintro e V ⟨rfl, hV⟩; replace HS := lw_step HS hV; clear hV; rw [HSZ.out])
                      | (go_at_call 46; refine (sUnreachedOf_any t  _ (by omega)).mono ?_; rw [← HPS.out, ← HU.out]; rintro e V ⟨⟨A2, c2, rfl, hc2, hO2⟩, hV⟩; replace HS := lw_add (lw_step HS hV) hO2.rd; clear hV hO2)
                      | (go_at_call 38; refine (bnSame_any _ _ _ _ U _ (lw_rd HS 1 rfl) (lw_rd HS 0 rfl) (by omega)).mono ?_; rintro e V ⟨rfl, n, rfl⟩; replace HS := lw_drew HS n)
                      | (go_at_call 25; refine (TailOf_any t _ _ (lw_m HS) (by omega)).mono ?_; rw [← HPS.out]; rintro e V ⟨rfl, hV⟩; replace HS := lw_step HS hV; clear hV; rw [HTN.out]))
                    all_goals
                      go_ret
                      exact ⟨rfl, HS.out.b⟩
    · have hok' : okSt ps s = false := by simpa using hok
      have HL0 : Hid (L.length = 0) := Lib.hid (by rw [HL.out, befN_no hok']; rfl)
      have hL0 : L.length ≤ 0 := by rw [HL0.out]; exact Nat.le_refl _
      have HSA : Hid (stA ps s = -1) := Lib.hid (by rw [stA, if_neg hok])
      have hd : ((L.length : Int) == 0) = true := by rw [HL0.out]; rfl
      clear hok hok'
      go_wp2_with (first
        | (go_at_call 43; refine (BeforeOf_any t _ _ (lw_m HS) (by omega)).mono ?_; rw [← HPS.out, ← HL.out]; rintro e V ⟨⟨A2, c2, rfl, hc2, hO2⟩, hV⟩; replace HS := lw_add (lw_step HS hV) hO2.rd; clear hV hO2)
        | (go_at_call 44; refine (sBeforeOf_any t _ _ (by omega)).mono ?_; rw [← HPS.out, ← HL.out]; rintro e V ⟨⟨A9, c2, rfl, hc2, hO2⟩, hV⟩; replace HS := lw_add (lw_step HS hV) hO2.rd; clear hV hO2)
        | (first | (go_at_call 38; refine (bnSame_any _ _ _ _ L _ (lw_rd HS 2 rfl) (lw_rd HS 0 rfl) (by omega)).mono ?_; rintro e V ⟨rfl, n, rfl⟩; replace HS := lw_drew HS n) | (go_at_call 38; refine (bnSame_any _ _ _ _ L _ (lw_rd HS 1 rfl) (lw_rd HS 0 rfl) (by omega)).mono ?_; rintro e V ⟨rfl, n, rfl⟩; replace HS := lw_drew HS n))
        | (go_at_call 28; refine (StepAll_any t _ _ (lw_m HS) (by omega)).mono ?_; rw [← HPS.out]; rintro e V ⟨rfl, hV⟩; replace HS := lw_step HS hV; clear hV; rw [HSA.out]))
      go_ret
      exact ⟨rfl, HS.out.b⟩

end Go.Proofs.YtjinmoeabkpmaaaDoor
