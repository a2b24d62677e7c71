/- The walk of the law FnReversible. Printed by wip/mkl.py. -/
import Derived.Test.YtjinmoeabkpmaaaDoorProg
import Derived.WalkKit
import Derived.WalkSpells
import Derived.WalkLawsBesides
import Derived.Lib.Hide
import Derived.Deep.QuietTactic
import Derived.BigQuiet
import Derived.Test.YtjinmoeabkpmaaaDoorLa
import Derived.Test.YtjinmoeabkpmaaaDoorYf
import Derived.Test.YtjinmoeabkpmaaaDoorYg
import Derived.Test.YtjinmoeabkpmaaaDoorYo
import Derived.Test.YtjinmoeabkpmaaaDoorYr
import Derived.Test.YtjinmoeabkpmaaaDoorWq
import Derived.Test.YtjinmoeabkpmaaaDoorWi
import Derived.Test.YtjinmoeabkpmaaaDoorWz
namespace Go.Proofs.YtjinmoeabkpmaaaDoor
open Go.RowKit
set_option linter.unusedVariables false

set_option maxHeartbeats 4000000 in
set_option maxRecDepth 100000 in
theorem fnReversible_walk (a0 : Option Addr) (len0 cap0 : Nat) (z0 : List Int) (w : World) (hm : Hid (HasM w)) (w0 : IsRow .u8 w a0 len0 cap0 z0) :
    Calls Tryd.prog 14 #[.slice a0 len0 cap0] w fun e w' => e = .returned (.bool true) ∧ Below w.heap.size w w' := by
  by_cases h0 : 1048576 < len0
  · go_enter Tryd.func14, Tryd.ntmps14
    go_wp2
    go_ret
    exact ⟨rfl, Below.refl _ _⟩
  · obtain ⟨bs, hbl, hrd, hwf, hcap, hmax⟩ := w0.rdk
    unfold maxLen at hmax
    have HRD := Lib.hid hrd
    have HWF := Lib.hid (fun x hx => wf_u8 (hwf x hx))
    have HBL := Lib.hid hbl.symm
    clear hbl hrd hwf w0
    go_enter Tryd.func14, Tryd.ntmps14
    go_wp2_with fail
    refine (DrawIsReversible_any _ _ _ _ _ HBL.out hcap (by omega) HRD HWF).mono ?_
    rintro e W1 ⟨⟨t, rfl, ht⟩, hB1⟩
    obtain ⟨ps, HPS⟩ : ∃ ps, Hid (ps = cutL t.data.toList) := ⟨_, rfl⟩
    have HS : Hid (LawW w W1 []) := Lib.hid ⟨hm.out.below hB1, hB1, by simp⟩
    clear hB1 h0 hm HRD HWF HBL hcap hmax
    obtain ⟨X, HX⟩ : ∃ X, Hid (X = cylN ps) := ⟨_, rfl⟩
    by_cases hok : okN ps = true
    · have HOK := Lib.hid hok
      have hn5 := okN_le hok
      have hps := cut_pos HPS
      obtain ⟨N, HN, hN32, hN0⟩ : ∃ N : Nat, Hid (N = 2 ^ ps.length) ∧ N ≤ 32 ∧ 0 < N := ⟨_, rfl, two_le _ hn5, Nat.pos_of_ne_zero (by simp)⟩
      have hfN : ∀ x, x < N → stp ps x < N := fun x _ => by rw [HN.out]; exact stp_lt hok x
      have HCS : Hid ((N = 2 ∧ szN ps = 1) ∨ (N = 4 ∧ szN ps = 2) ∨ (N = 8 ∧ szN ps = 3) ∨ (N = 16 ∧ szN ps = 4) ∨ (N = 32 ∧ szN ps = 5)) := Lib.hid (by
        have h1 := HN.out
        have h2 : szN ps = (ps.length : Int) := by rw [szN, if_pos hok]
        have h3 : ps.length = 1 ∨ ps.length = 2 ∨ ps.length = 3 ∨ ps.length = 4 ∨ ps.length = 5 := by clear h1 h2; omega
        rcases h3 with h | h | h | h | h
        · exact .inl ⟨by rw [h1, h], by rw [h2, h]; rfl⟩
        · exact .inr (.inl ⟨by rw [h1, h], by rw [h2, h]; rfl⟩)
        · exact .inr (.inr (.inl ⟨by rw [h1, h], by rw [h2, h]; rfl⟩))
        · exact .inr (.inr (.inr (.inl ⟨by rw [h1, h], by rw [h2, h]; rfl⟩)))
        · exact .inr (.inr (.inr (.inr ⟨by rw [h1, h], by rw [h2, h]; rfl⟩))))
      obtain ⟨cs, HCs⟩ : ∃ cs, Hid (cs = sel N fun s => cy0 (stp ps) s == s) := ⟨_, rfl⟩
      have eX : X = cs.map fun s => ints (cyc (stp ps) s) := by rw [HX.out, cylN_yes hok HN.out, cylTo, HCs.out]
      have hXl : X.length = cs.length := by rw [eX, List.length_map]
      have hM32 : X.length ≤ 32 := by rw [hXl, HCs.out]; exact Nat.le_trans (sel_len _ _) hN32
      have hM0 : 0 < X.length := by rw [hXl, HCs.out]; exact cyl_pos hN32 hfN hN0
      obtain ⟨gl, HGl⟩ : ∃ gl : Nat → Nat, Hid (gl = fun s => (cyc (stp ps) s).length) := ⟨fun s => (cyc (stp ps) s).length, Lib.hid rfl⟩
      have HE : Hid (∀ i, i < X.length → ∃ l, X[i]? = some l ∧ l.length = gl (cs.getD i 0) ∧ l.length ≤ 32) := Lib.hid fun i hi => by
        have hm : cs.getD i 0 < N := by
          have hx : cs.getD i 0 ∈ cs := by
            rw [List.getD_eq_getElem?_getD, List.getElem?_eq_getElem (by omega), Option.getD_some]; exact List.getElem_mem _
          rw [HCs.out, sel_mem, ← HCs.out] at hx
          exact hx.1
        refine ⟨ints (cyc (stp ps) (cs.getD i 0)), ?_, by rw [ints_length, HGl.out], by rw [ints_length]; exact Nat.le_trans (cyc_len hN32 hfN hm).1 hN32⟩
        rw [show X[i]? = (cs.map fun s => ints (cyc (stp ps) s))[i]? from congrArg (fun z => z[i]?) eX, List.getElem?_map, List.getD_eq_getElem?_getD, List.getElem?_eq_getElem (by omega)]; rfl
      obtain ⟨sm, HSM⟩ : ∃ s, Hid (s = idxS gl cs X.length) := ⟨_, rfl⟩
      have hsm : sm = (sel N fun k => (orb (stp ps) k).2 == 0).length := by rw [HSM.out, HGl.out, hXl, HCs.out]; exact cyc_sum hN32 hfN
      obtain ⟨ln, HLL⟩ : ∃ l, Hid (l = lonTo ps N) := ⟨_, rfl⟩
      have HLN : Hid (lonN ps = (ln : Int)) := Lib.hid (by rw [lonN_yes hok HN.out, HLL.out])
      obtain ⟨U, HU⟩ : ∃ U, Hid (U = unrN ps) := ⟨_, rfl⟩
      obtain ⟨r1, r2, r3⟩ := rev_all hok HN.out hN32
      rw [← HLL.out] at r1
      rw [← HU.out] at r2
      rw [← hsm] at r3
      have HGL : Hid (∀ k, k ≤ X.length → idxS gl cs k ≤ 32 * k) := Lib.hid fun k => by
        induction k with
        | zero => intro _; simp [idxS]
        | succ k ih =>
          intro hk
          obtain ⟨l, _, h2, h3⟩ := HE.out k (by omega)
          have := ih (by omega)
          rw [idxS]; omega
      have hll : ((ln : Int) != (ln : Int)) = false := bne_self_eq_false _
      clear eX hXl hsm hok hps
      by_cases hrev : revN ps = true
      all_goals
        first
          | (have HRV := Lib.hid hrev; have hl0 := r1.1 hrev; have hu0 := r2.1 hrev; have hs0 := r3.1 hrev)
          | (have HRV : Hid (revN ps = false) := Lib.hid (by simpa using hrev); have hl0 : ¬ ln = 0 := fun e => hrev (r1.2 e); have hu0 : ¬ U.length = 0 := fun e => hrev (r2.2 e); have hs0 : ¬ sm = N := fun e => hrev (r3.2 e))
        clear hrev r1 r2 r3
        go_wp2_with (first
          | (go_at_call 69; refine (IsReversible_any t  _ (lw_m HS) (by omega)).mono ?_; rw [← HPS.out]; rintro e V ⟨rfl, hV⟩; replace HS := lw_step HS hV; clear hV; rw [HRV.out])
          | (go_at_call 70; refine (sIsReversible_any t  _ (by omega)).mono ?_; rw [← HPS.out]; rintro e V ⟨rfl, hV⟩; replace HS := lw_step HS hV; clear hV; rw [HRV.out])
          | (go_at_call 51; refine (LongestTail_any t  _ (lw_m HS) (by omega)).mono ?_; rw [← HPS.out]; rintro e V ⟨rfl, hV⟩; replace HS := lw_step HS hV; clear hV; rw [HLN.out])
          | (go_at_call 71; refine (sLongestTail_any t  _ (by omega)).mono ?_; rw [← HPS.out]; rintro e V ⟨rfl, hV⟩; replace HS := lw_step HS hV; clear hV; rw [HLN.out])
          | (go_at_call 67; refine (NetworkValid_any t  _ (lw_m HS) (by omega)).mono ?_; rw [← HPS.out]; rintro e V ⟨rfl, hV⟩; replace HS := lw_step HS hV; clear hV; rw [HOK.out])
          | (go_at_call 16; refine (CyclesOf_any t _ (lw_m HS) (by omega)).mono ?_; rw [← HPS.out, ← HX.out]; rintro e W2 ⟨⟨A, c1, gs, ys, rfl, hc1, hO, hL⟩, hV⟩; replace HS := lw_step HS hV; have HO := Lib.hid hO.rd; have HL := Lib.hid hL; clear hO hL hV))
        have HYS : Hid (∀ (i : Nat) (l : List Int), X[i]? = some l → ∃ g off c : Nat, ys[i]? = some (Value.slice (some ⟨g, off, none⟩) l.length c)) := Lib.hid fun i l hi => by
          obtain ⟨g, off, c, h1, h2, h3, h4⟩ := HL.out.at_ i l hi
          exact ⟨g, off, c, h2⟩
        go_loopw [6, 8] (fun q i wr => ∃ k : Nat, k ≤ X.length ∧ i = .int .i64 k ∧ q = .int .i64 (idxS gl cs k : Nat) ∧ Hid (LawW w wr []) ∧ Hid (Rd wr A ys)) (fun _ i _ => X.length - (intOf i).toNat)
        case atStart => exact ⟨0, Nat.zero_le _, rfl, rfl, HS, HO⟩
      all_goals
        clear HS HO
        obtain ⟨k, hk, rfl, rfl, HS, HO⟩ := hrel
        by_cases hlt : k < X.length
        · obtain ⟨l, hl1, hl2, hl3⟩ := HE.out k hlt
          obtain ⟨g, off, c, hy⟩ := HYS.out k l hl1
          obtain ⟨gA, oA, rfl, hcell⟩ := HO.out.at_ hy
          obtain ⟨sk, HSK⟩ : ∃ s, Hid (s = idxS gl cs k) := ⟨_, rfl⟩
          have hsk : sk ≤ 1024 := by rw [HSK.out]; have := HGL.out k hk; omega
          have HNX : Hid (idxS gl cs (k + 1) = sk + l.length) := Lib.hid (by rw [hl2, HSK.out]; rfl)
          rw [← HSK.out]
          clear hl1 hl2 hy
          go_wp2_with fail
          go_roundw
          case rel => exact ⟨k + 1, by omega, by go_num, by rw [HNX.out]; go_num, HS, HO⟩
          case measure => simp [intOf]; omega
        · have hkn : k = X.length := by omega
          subst hkn
          rw [← HSM.out]
          rcases HCS.out with ⟨hN1, h2⟩ | ⟨hN1, h2⟩ | ⟨hN1, h2⟩ | ⟨hN1, h2⟩ | ⟨hN1, h2⟩
          all_goals
            have HSZ2 := Lib.hid h2
            clear h2
            first
              | (have hd1 : ((ln : Int) == 0) = true := by rw [beq_iff_eq]; omega)
              | (have hd1 : ((ln : Int) == 0) = false := by rw [beq_eq_false_iff_ne]; omega)
            first
              | (have hd2 : ((U.length : Int) == 0) = true := by rw [beq_iff_eq]; omega)
              | (have hd2 : ((U.length : Int) == 0) = false := by rw [beq_eq_false_iff_ne]; omega)
            first
              | (have hd3 : ((sm : Int) == 2) = true := by rw [beq_iff_eq]; omega)
              | (have hd3 : ((sm : Int) == 4) = true := by rw [beq_iff_eq]; omega)
              | (have hd3 : ((sm : Int) == 8) = true := by rw [beq_iff_eq]; omega)
              | (have hd3 : ((sm : Int) == 16) = true := by rw [beq_iff_eq]; omega)
              | (have hd3 : ((sm : Int) == 32) = true := by rw [beq_iff_eq]; omega)
              | (have hd3 : ((sm : Int) == 2) = false := by rw [beq_eq_false_iff_ne]; omega)
              | (have hd3 : ((sm : Int) == 4) = false := by rw [beq_eq_false_iff_ne]; omega)
              | (have hd3 : ((sm : Int) == 8) = false := by rw [beq_eq_false_iff_ne]; omega)
              | (have hd3 : ((sm : Int) == 16) = false := by rw [beq_eq_false_iff_ne]; omega)
              | (have hd3 : ((sm : Int) == 32) = false := by rw [beq_eq_false_iff_ne]; omega)
            clear HL HYS
            go_wp2_with (first
              | (go_at_call 33; refine (SizeOf_any t  _ (lw_m HS) (by omega)).mono ?_; rw [← HPS.out]; rintro e V ⟨rfl, hV⟩; replace HS := lw_step HS hV; clear hV; rw [HSZ2.out])
              | (go_at_call 45; refine (UnreachedOf_any t  _ (lw_m HS) (by omega)).mono ?_; rw [← HPS.out, ← HU.out]; rintro e V ⟨⟨A9, c2, rfl, hc2, hO2⟩, hV⟩; replace HS := lw_add (lw_step HS hV) hO2.rd; clear hV hO2))
            go_ret
            exact ⟨rfl, HS.out.b⟩
    · have HOK : Hid (okN ps = false) := Lib.hid (by simpa using hok)
      have HRV : Hid (revN ps = false) := Lib.hid (by rw [revN, HOK.out]; rfl)
      have HLN : Hid (lonN ps = -1) := Lib.hid (lonN_no HOK.out)
      clear hok
      go_wp2_with (first
        | (go_at_call 69; refine (IsReversible_any t  _ (lw_m HS) (by omega)).mono ?_; rw [← HPS.out]; rintro e V ⟨rfl, hV⟩; replace HS := lw_step HS hV; clear hV; rw [HRV.out])
        | (go_at_call 70; refine (sIsReversible_any t  _ (by omega)).mono ?_; rw [← HPS.out]; rintro e V ⟨rfl, hV⟩; replace HS := lw_step HS hV; clear hV; rw [HRV.out])
        | (go_at_call 51; refine (LongestTail_any t  _ (lw_m HS) (by omega)).mono ?_; rw [← HPS.out]; rintro e V ⟨rfl, hV⟩; replace HS := lw_step HS hV; clear hV; rw [HLN.out])
        | (go_at_call 71; refine (sLongestTail_any t  _ (by omega)).mono ?_; rw [← HPS.out]; rintro e V ⟨rfl, hV⟩; replace HS := lw_step HS hV; clear hV; rw [HLN.out])
        | (go_at_call 67; refine (NetworkValid_any t  _ (lw_m HS) (by omega)).mono ?_; rw [← HPS.out]; rintro e V ⟨rfl, hV⟩; replace HS := lw_step HS hV; clear hV; rw [HOK.out]))
      go_ret
      exact ⟨rfl, HS.out.b⟩

end Go.Proofs.YtjinmoeabkpmaaaDoor
