/- The walk of the law FnNext. Printed by wip/mkl.py. -/
import Derived.Test.YtjinmoeabkpmaaaDoorProg
import Derived.WalkKit
import Derived.WalkSpells
import Derived.WalkLawsBesides
import Derived.Lib.Hide
import Derived.Deep.QuietTactic
import Derived.BigQuiet
import Derived.Deep.RegionHeld3
import Derived.IntWalk
import Derived.Test.YtjinmoeabkpmaaaDoorLa
import Derived.Test.YtjinmoeabkpmaaaDoorYf
import Derived.Test.YtjinmoeabkpmaaaDoorYg
import Derived.Test.YtjinmoeabkpmaaaDoorYh
import Derived.Test.YtjinmoeabkpmaaaDoorYi
import Derived.Test.YtjinmoeabkpmaaaDoorWq
import Derived.Test.YtjinmoeabkpmaaaDoorWc
namespace Go.Proofs.YtjinmoeabkpmaaaDoor
open Go.RowKit
set_option linter.unusedVariables false

set_option maxHeartbeats 4000000 in
set_option maxRecDepth 100000 in
theorem fnNext_walk (a0 : Option Addr) (len0 cap0 : Nat) (z0 : List Int) (w : World) (hm : Hid (HasM w)) (w0 : IsRow .u8 w a0 len0 cap0 z0) :
    Calls Tryd.prog 6 #[.slice a0 len0 cap0] w fun e w' => e = .returned (.bool true) ∧ Below w.heap.size w w' := by
  by_cases h0 : 1048576 < len0
  · go_enter Tryd.func6, Tryd.ntmps6
    go_wp2
    go_ret
    exact ⟨rfl, Below.refl _ _⟩
  · obtain ⟨bs, hbl, hrd, hwf, hcap, hmax⟩ := w0.rdk
    unfold maxLen at hmax
    have HRD := Lib.hid hrd
    have HWF := Lib.hid (fun x hx => wf_u8 (hwf x hx))
    have HBL := Lib.hid hbl.symm
    clear hbl hrd hwf w0
    go_enter Tryd.func6, Tryd.ntmps6
    go_wp2_with fail
    refine (DrawNextOf_any _ _ _ _ _ HBL.out hcap (by omega) HRD HWF).mono ?_
    rintro e W1 ⟨⟨t, s, rfl, ht, hs1, hs2⟩, hB1⟩
    obtain ⟨ps, HPS⟩ : ∃ ps, Hid (ps = cutL t.data.toList) := ⟨_, rfl⟩
    have HS : Hid (LawW w W1 []) := Lib.hid ⟨hm.out.below hB1, hB1, by simp⟩
    clear hB1 h0 hm HRD HWF HBL hcap hmax
    obtain ⟨L, HL⟩ : ∃ L, Hid (L = nxtN ps s) := ⟨_, rfl⟩
    by_cases hok : okSt ps s = true
    · have hok0 := hok
      obtain ⟨HOK, N, s, rfl, HN, hN32, hN0, hsN, HOKS, hfN⟩ := st_open hok
      obtain ⟨N', HN', hNw, _, _⟩ := wrap_two ps.length (okN_le HOK.out)
      obtain rfl : N = N' := by rw [HN.out, HN'.out]
      have hn5 := okN_le HOK.out
      have hsN2 : s < 2 ^ ps.length := by rw [← HN.out]; exact hsN
      have HSN := Lib.hid hsN2
      clear hsN2
      have e0 : L = ints (nextN ps s) := by rw [HL.out, nxtN_yes hok0]
      have hL5 : L.length ≤ 5 := by rw [e0, ints_length]; exact nextN_len HOK.out s
      have HSZ : Hid (szN ps = (ps.length : Int)) := Lib.hid (by rw [szN, if_pos HOK.out])
      obtain ⟨r, HR⟩ : ∃ r, Hid (r = stp ps s ^^^ s) := ⟨_, rfl⟩
      have HRS : Hid (rsA ps (s : Int) = (r : Int)) := Lib.hid (by rw [rsA_k hok0, HR.out])
      have hr32 : r < 32 := by
        rw [HR.out]
        have h1 : stp ps s < 2 ^ 5 := Nat.lt_of_lt_of_le (hfN s hsN) hN32
        have h2 : s < 2 ^ 5 := Nat.lt_of_lt_of_le hsN hN32
        exact Nat.xor_lt_two_pow h1 h2
      obtain ⟨y0, HY0⟩ : ∃ y, Hid (y = stp ps s) := ⟨_, rfl⟩
      have HS0 : Hid (stA ps (s : Int) = (y0 : Int)) := Lib.hid (by rw [stA_k hok0, HY0.out])
      have HLE : Hid (L.length = (nextTo ps s ps.length).length) := Lib.hid (by rw [e0, ints_length]; rfl)
      have HNX : Hid (∀ i, i < ps.length → (stp1 ps s i = s → bit r i = 0 ∧ (nextTo ps s (i + 1)).length = (nextTo ps s i).length) ∧ (stp1 ps s i ≠ s → bit r i = 1 ∧ stp1 ps s i = s ^^^ 2 ^ i ∧ (nextTo ps s (i + 1)).length = (nextTo ps s i).length + 1 ∧ L[(nextTo ps s i).length]? = some ((stp1 ps s i : Nat) : Int) ∧ (nextTo ps s i).length < L.length)) := Lib.hid fun i hi => by
        have h1 := rst_bit HOK.out HSN.out hi
        rw [← HR.out] at h1
        refine ⟨fun h => ⟨h1.1 h, by rw [nextTo, if_pos h]⟩, fun h => ?_⟩
        have h2 := nextTo_at hi h
        rw [← e0] at h2
        exact ⟨(h1.2 h).1, (h1.2 h).2, by rw [nextTo, if_neg h, List.length_append]; rfl, h2.1, h2.2⟩
      have HON : Hid (∀ i, i < ps.length → onA ps (s : Int) (i : Int) = ((stp1 ps s i : Nat) : Int)) := Lib.hid fun i hi => onA_yes hok0 hi
      have HNK : Hid (∀ k, k < N → (nxtN ps ((k : Nat) : Int)).length = (nextN ps k).length) := Lib.hid fun k hk => by rw [nxtN_yes (HOKS.out k hk), ints_length]
      have HN5 : Hid (∀ k, (nextN ps k).length ≤ 5) := Lib.hid fun k => nextN_len HOK.out k
      have HCL : Hid (∀ k, cntTo ps k ≤ 5 * k) := Lib.hid fun k => cntTo_le HOK.out k
      obtain ⟨cn, HCN⟩ : ∃ c, Hid (c = cntTo ps N) := ⟨_, rfl⟩
      have HCT : Hid (cntN ps = (cn : Int)) := Lib.hid (by rw [cntN_yes HOK.out HN.out, HCN.out])
      have hps := cut_pos HPS
      have HCS : Hid ((N = 2 ∧ szN ps = 1) ∨ (N = 4 ∧ szN ps = 2) ∨ (N = 8 ∧ szN ps = 3) ∨ (N = 16 ∧ szN ps = 4) ∨ (N = 32 ∧ szN ps = 5)) := Lib.hid (by
        have h1 := HN.out
        have h2 := HSZ.out
        have h3 : ps.length = 1 ∨ ps.length = 2 ∨ ps.length = 3 ∨ ps.length = 4 ∨ ps.length = 5 := by clear hNw h1 h2; omega
        rcases h3 with h | h | h | h | h
        · exact .inl ⟨by rw [h1, h], by rw [h2, h]; rfl⟩
        · exact .inr (.inl ⟨by rw [h1, h], by rw [h2, h]; rfl⟩)
        · exact .inr (.inr (.inl ⟨by rw [h1, h], by rw [h2, h]; rfl⟩))
        · exact .inr (.inr (.inr (.inl ⟨by rw [h1, h], by rw [h2, h]; rfl⟩)))
        · exact .inr (.inr (.inr (.inr ⟨by rw [h1, h], by rw [h2, h]; rfl⟩))))
      clear hNw hps e0 hok hok0 hs1 hs2
      go_wp2_with (first
        | (go_at_call 37; refine (NextOf_any t _ _ (lw_m HS) (by omega)).mono ?_; rw [← HPS.out, ← HL.out]; rintro e V ⟨⟨A3, c2, rfl, hc2, hO2⟩, hV⟩; replace HS := lw_add (lw_step HS hV) hO2.rd; clear hV hO2)
        | (go_at_call 39; refine (sNextOf_any t _ _ (by omega)).mono ?_; rw [← HPS.out, ← HL.out]; rintro e V ⟨⟨A9, c2, rfl, hc2, hO2⟩, hV⟩; replace HS := lw_add (lw_step HS hV) hO2.rd; clear hV hO2)
        | (go_at_call 38; refine (bnSame_any _ _ _ _ L _ (lw_rd HS 1 rfl) (lw_rd HS 0 rfl) (by omega)).mono ?_; rintro e V ⟨rfl, nB, rfl⟩; replace HS := lw_drew HS nB)
        | (go_at_call 28; refine (StepAll_any t _ _ (lw_m HS) (by omega)).mono ?_; rw [← HPS.out]; rintro e V ⟨rfl, hV⟩; replace HS := lw_step HS hV; clear hV; rw [HS0.out])
        | (go_at_call 29; refine (RestlessOf_any t _ _ (lw_m HS) (by omega)).mono ?_; rw [← HPS.out]; rintro e V ⟨rfl, hV⟩; replace HS := lw_step HS hV; clear hV; rw [HRS.out]))
      replace HS := lw_cut HS 1
      go_loopw [7, 8] (fun q i wr => ∃ k : Nat, k ≤ ps.length ∧ i = .int .i64 k ∧ q = .int .i64 ((nextTo ps s k).length : Nat) ∧ Hid (LawW w wr [(A3, L)])) (fun _ i _ => ps.length - (intOf i).toNat)
      case atStart => exact ⟨0, Nat.zero_le _, rfl, rfl, HS⟩
      case round =>
        clear HS
        obtain ⟨k, hk, rfl, rfl, HS⟩ := hrel
        have hql : (nextTo ps s k).length ≤ k := nextTo_len _ _ _
        by_cases hlt : k < ps.length
        · have hb := bit_and r k (by omega)
          obtain ⟨q, HQ⟩ : ∃ q, Hid (q = (nextTo ps s k).length) := ⟨_, rfl⟩
          rw [← HQ.out] at hql
          obtain ⟨x, HX⟩ : ∃ x, Hid (x = stp1 ps s k) := ⟨_, rfl⟩
          rw [← HQ.out]
          by_cases hst : x = s
          · obtain ⟨hb0, hlen⟩ := (HNX.out k hlt).1 (by rw [← HX.out]; exact hst)
            rw [← HQ.out] at hlen
            have HLN := Lib.hid hlen
            rw [hb0] at hb
            clear hb0 hlen hst
            go_wp2_with (first
              | (go_at_call 33; refine (SizeOf_any t  _ (lw_m HS) (by omega)).mono ?_; rw [← HPS.out]; rintro e V ⟨rfl, hV⟩; replace HS := lw_step HS hV; clear hV; rw [HSZ.out]))
            go_roundw
            case rel => exact ⟨k + 1, by omega, by go_num, by rw [HLN.out], HS⟩
            case measure => simp [intOf]; omega
          · obtain ⟨hb1, hx1, hlen, hg, hgl⟩ := (HNX.out k hlt).2 (by rw [← HX.out]; exact hst)
            rw [← HQ.out] at hlen hg hgl
            rw [← HX.out] at hx1 hg
            have HLN := Lib.hid hlen
            have HE1 := Lib.hid hg
            have HON1 : Hid (onA ps (s : Int) (k : Int) = (x : Int)) := Lib.hid (by rw [HON.out k hlt, HX.out])
            rw [hb1] at hb
            obtain ⟨W, HW, hWw, hW32, _⟩ := wrap_two k (by omega)
            have HWw := Lib.hid hWw
            clear hWw
            have hxw : bits .xor .i64 (s : Int) (W : Int) = (x : Int) := by rw [hx1, ← HW.out]; exact i64_xor_nat s W (by omega) (by omega)
            have hxx : ((x : Int) != (x : Int)) = false := bne_self_eq_false _
            clear hb1 hlen hg hst hx1
            obtain ⟨g, off, rfl⟩ := lw_form HS 0 rfl (by omega)
            have hc1 := lw_cell HS 0 rfl HE1
            go_wp2_with (first
              | (go_at_call 33; refine (SizeOf_any t  _ (lw_m HS) (by omega)).mono ?_; rw [← HPS.out]; rintro e V ⟨rfl, hV⟩; replace HS := lw_step HS hV; clear hV; rw [HSZ.out]; have hc1 := lw_cell HS 0 rfl HE1))
            replace HS : Hid (LawW w V.drew [(some ⟨g, off, none⟩, L)]) := lw_drew HS 1
            have hg1 : ¬ (q : Int) ≥ (L.length : Int) := by omega
            have hg2 : ¬ L.length ≤ q := by omega
            have hg3 : decide (L.length ≤ q) = false := decide_eq_false hg2
            have hg4 : decide ((q : Int) ≥ (L.length : Int)) = false := decide_eq_false hg1
            have hg7 : ¬ (L.length : Int) ≤ (q : Int) := by omega
            have hg8 : decide ((L.length : Int) ≤ (q : Int)) = false := decide_eq_false hg7
            have hg5 : (0 : Int) ≤ (q : Int) := by omega
            have hg6 : (q : Int) < (L.length : Int) := by omega
            have hsh : IntKind.i64.wrap (2 ^ min (IntKind.u64.wrap (k : Int)).toNat 64) = (W : Int) := by
              rw [show IntKind.u64.wrap (k : Int) = (k : Int) from IntWalk.u64_in _ (by omega), Int.toNat_natCast, Nat.min_eq_left (by omega), IntWalk.i64_left]; exact HWw.out
            go_region_held3 (fun w' => w'.cell? ⟨g, off + q, none⟩ = some (.int .i64 (x : Int))) (go_keep)
              (first
                | (go_at_call 27; refine (StepOne_any t _ _ _ (lw_m HS) (by omega)).mono ?_; rw [← HPS.out]; rintro e V ⟨rfl, hV⟩; replace HS := lw_step HS hV; clear hV; rw [HON1.out]; have hc1 := lw_cell HS 0 rfl HE1))
            all_goals
              clear hg1 hg2 hg3 hg4 hg5 hg6 hg7 hg8 hxw hsh
              go_wp2_with fail
              go_roundw
              case rel => exact ⟨k + 1, by omega, by go_num, by rw [HLN.out]; go_num, HS⟩
              case measure => simp [intOf]; omega
        · have hkn : k = ps.length := by omega
          subst hkn
          rw [← HLE.out]
          clear hk hql hlt hr32
          go_wp2_with (first
            | (go_at_call 33; refine (SizeOf_any t  _ (lw_m HS) (by omega)).mono ?_; rw [← HPS.out]; rintro e V ⟨rfl, hV⟩; replace HS := lw_step HS hV; clear hV; rw [HSZ.out]))
          go_loopw [9, 10] (fun q i wr => ∃ j : Nat, j ≤ N ∧ i = .int .i64 j ∧ q = .int .i64 (cntTo ps j : Nat) ∧ Hid (LawW w wr [(A3, L)])) (fun _ i _ => N - (intOf i).toNat)
          case atStart => exact ⟨0, Nat.zero_le _, rfl, rfl, HS⟩
          case round =>
            clear HS
            obtain ⟨j, hj, rfl, rfl, HS⟩ := hrel
            rcases HCS.out with ⟨hN1, h2⟩ | ⟨hN1, h2⟩ | ⟨hN1, h2⟩ | ⟨hN1, h2⟩ | ⟨hN1, h2⟩
            all_goals
              have HSZ2 := Lib.hid h2
              clear h2
              by_cases hlt3 : j < N
              · obtain ⟨B, HB⟩ : ∃ B, Hid (B = nxtN ps ((j : Nat) : Int)) := ⟨_, rfl⟩
                have HBL : Hid (B.length = (nextN ps j).length) := Lib.hid (by rw [HB.out]; exact HNK.out j hlt3)
                have hb5 : B.length ≤ 5 := by rw [HBL.out]; exact HN5.out j
                obtain ⟨sk, HSK⟩ : ∃ x, Hid (x = cntTo ps j) := ⟨_, rfl⟩
                have hsk : sk ≤ 160 := by rw [HSK.out]; have := HCL.out j; omega
                have HNX1 : Hid (cntTo ps (j + 1) = sk + B.length) := Lib.hid (by rw [HSK.out, HBL.out]; rfl)
                rw [← HSK.out]
                go_wp2_with (first
                  | (go_at_call 33; refine (SizeOf_any t  _ (lw_m HS) (by omega)).mono ?_; rw [← HPS.out]; rintro e V ⟨rfl, hV⟩; replace HS := lw_step HS hV; clear hV; rw [HSZ2.out])
                  | (go_at_call 37; refine (NextOf_any t _ _ (lw_m HS) (by omega)).mono ?_; rw [← HPS.out, ← HB.out]; rintro e V ⟨⟨A8, c2, rfl, hc2, hO2⟩, hV⟩; replace HS := lw_add (lw_step HS hV) hO2.rd; clear hV hO2))
                go_roundw
                case rel => exact ⟨j + 1, by omega, by go_num, by rw [HNX1.out]; go_num, lw_cut HS 1⟩
                case measure => simp [intOf]; omega
              · have hkn : j = N := by omega
                have hcc : ((cn : Int) == (cn : Int)) = true := beq_self_eq_true _
                have hdL : ((L.length : Int) == (L.length : Int)) = true := beq_self_eq_true _
                rw [hkn, ← HCN.out]
                go_wp2_with (first
                  | (go_at_call 33; refine (SizeOf_any t  _ (lw_m HS) (by omega)).mono ?_; rw [← HPS.out]; rintro e V ⟨rfl, hV⟩; replace HS := lw_step HS hV; clear hV; rw [HSZ2.out])
                  | (go_at_call 40; refine (CountSteps_any t  _ (lw_m HS) (by omega)).mono ?_; rw [← HPS.out]; rintro e V ⟨rfl, hV⟩; replace HS := lw_step HS hV; clear hV; rw [HCT.out])
                  | (go_at_call 41; refine (sCountSteps_any t  _ (by omega)).mono ?_; rw [← HPS.out]; rintro e V ⟨rfl, hV⟩; replace HS := lw_step HS hV; clear hV; rw [HCT.out]))
                go_ret
                exact ⟨rfl, HS.out.b⟩
    · have hok' : okSt ps s = false := by simpa using hok
      have HL0 : Hid (L.length = 0) := Lib.hid (by rw [HL.out, nxtN_no hok']; rfl)
      have hL0 : L.length ≤ 0 := by rw [HL0.out]; exact Nat.le_refl _
      have HSA : Hid (stA ps s = -1) := Lib.hid (by rw [stA, if_neg hok])
      have hd : ((L.length : Int) == 0) = true := by rw [HL0.out]; rfl
      clear hok hok'
      go_wp2_with (first
        | (go_at_call 37; refine (NextOf_any t _ _ (lw_m HS) (by omega)).mono ?_; rw [← HPS.out, ← HL.out]; rintro e V ⟨⟨A2, c2, rfl, hc2, hO2⟩, hV⟩; replace HS := lw_add (lw_step HS hV) hO2.rd; clear hV hO2)
        | (go_at_call 39; refine (sNextOf_any t _ _ (by omega)).mono ?_; rw [← HPS.out, ← HL.out]; rintro e V ⟨⟨A2, c2, rfl, hc2, hO2⟩, hV⟩; replace HS := lw_add (lw_step HS hV) hO2.rd; clear hV hO2)
        | (first | (go_at_call 38; refine (bnSame_any _ _ _ _ L _ (lw_rd HS 2 rfl) (lw_rd HS 0 rfl) (by omega)).mono ?_; rintro e V ⟨rfl, nB, rfl⟩; replace HS := lw_drew HS nB) | (go_at_call 38; refine (bnSame_any _ _ _ _ L _ (lw_rd HS 1 rfl) (lw_rd HS 0 rfl) (by omega)).mono ?_; rintro e V ⟨rfl, nB, rfl⟩; replace HS := lw_drew HS nB))
        | (go_at_call 28; refine (StepAll_any t _ _ (lw_m HS) (by omega)).mono ?_; rw [← HPS.out]; rintro e V ⟨rfl, hV⟩; replace HS := lw_step HS hV; clear hV; rw [HSA.out]))
      go_ret
      exact ⟨rfl, HS.out.b⟩

end Go.Proofs.YtjinmoeabkpmaaaDoor
