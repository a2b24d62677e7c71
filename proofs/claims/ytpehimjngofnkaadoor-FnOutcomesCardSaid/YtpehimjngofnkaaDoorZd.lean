/- The walk of the law FnOutcomes. Printed by wip/mkn.py. -/
import Derived.Test.YtpehimjngofnkaaDoorProg
import Derived.WalkKit
import Derived.WalkSpells
import Derived.WalkLawsBesides
import Derived.Lib.Hide
import Derived.Deep.QuietTactic
import Derived.BigQuiet
import Derived.Test.YtpehimjngofnkaaDoorG1
import Derived.Test.YtpehimjngofnkaaDoorG3
import Derived.Test.YtpehimjngofnkaaDoorG5
import Derived.Test.YtpehimjngofnkaaDoorG4
import Derived.Test.YtpehimjngofnkaaDoorYv
import Derived.Test.YtpehimjngofnkaaDoorQ2
namespace Go.Proofs.YtpehimjngofnkaaDoor
open Go.RowKit
set_option linter.unusedVariables false

/-- the states of many lists as one number -/
def maskO (f : Nat → List Nat) (l : List Nat) : Nat → Nat
  | 0 => 0
  | k + 1 => maskO f l k ||| maskT (f (l.getD k 0)) (f (l.getD k 0)).length
theorem maskT_test {xs : List Nat} {y : Nat} : ∀ k, k ≤ xs.length → (maskT xs k).testBit y = decide (y ∈ xs.take k)
  | 0, _ => by rw [maskT, Nat.zero_testBit]; simp
  | k + 1, h => by
    have hk : k < xs.length := by omega
    have hg : xs.getD k 0 = xs[k] := by rw [List.getD_eq_getElem?_getD, List.getElem?_eq_getElem hk]; rfl
    rw [maskT, Nat.testBit_or, maskT_test k (by omega), hg, Nat.testBit_two_pow, List.take_succ_eq_append_getElem hk, Bool.eq_iff_iff, Bool.or_eq_true, decide_eq_true_iff, decide_eq_true_iff, decide_eq_true_iff, List.mem_append, List.mem_singleton]
    exact ⟨fun h => h.elim .inl (fun h => .inr h.symm), fun h => h.elim .inl (fun h => .inr h.symm)⟩
theorem maskO_test {f : Nat → List Nat} {l : List Nat} {y : Nat} : ∀ k, k ≤ l.length → ((maskO f l k).testBit y = true ↔ ∃ u, u ∈ l.take k ∧ y ∈ f u)
  | 0, _ => by rw [maskO, Nat.zero_testBit]; simp
  | k + 1, h => by
    have hk : k < l.length := by omega
    have hg : l.getD k 0 = l[k] := by rw [List.getD_eq_getElem?_getD, List.getElem?_eq_getElem hk]; rfl
    rw [maskO, Nat.testBit_or, Bool.or_eq_true, maskO_test k (by omega), hg, maskT_test _ (Nat.le_refl _), decide_eq_true_iff, List.take_length, List.take_succ_eq_append_getElem hk]
    constructor
    · rintro (⟨u, h1, h2⟩ | h1)
      · exact ⟨u, List.mem_append_left _ h1, h2⟩
      · exact ⟨l[k], List.mem_append_right _ (List.mem_singleton.2 rfl), h1⟩
    · rintro ⟨u, h1, h2⟩
      rcases List.mem_append.1 h1 with h1 | h1
      · exact .inl ⟨u, h1, h2⟩
      · rw [List.mem_singleton] at h1; subst h1; exact .inr h2
theorem maskO_lt {f : Nat → List Nat} {l : List Nat} (h : ∀ u i, (f u).getD i 0 < 32) : ∀ k, maskO f l k < 2 ^ 32
  | 0 => by simp [maskO]
  | k + 1 => Nat.or_lt_two_pow (maskO_lt h k) (maskT_lt (h _) _)
theorem outs_lt32 {rb : Nat → Nat → Bool} {N s : Nat} (h : N ≤ 32) (i : Nat) : (outs rb N s).getD i 0 < 32 := by
  by_cases hi : i < (outs rb N s).length
  · rw [List.getD_eq_getElem?_getD, List.getElem?_eq_getElem hi, Option.getD_some]
    have := (mem_atts.1 (List.mem_filter.1 (List.getElem_mem hi)).1).1
    omega
  · rw [List.getD_eq_getElem?_getD, List.getElem?_eq_none (by omega)]; simp

set_option maxHeartbeats 4000000 in
set_option maxRecDepth 100000 in
theorem fnOutcomes_walk (a0 : Option Addr) (len0 cap0 : Nat) (z0 : List Int) (w : World) (hm : Hid (HasM w)) (w0 : IsRow .u8 w a0 len0 cap0 z0) :
    Calls Tryd.prog 7 #[.slice a0 len0 cap0] w fun e w' => e = .returned (.bool true) ∧ Below w.heap.size w w' := by
  by_cases h0 : 1048576 < len0
  · go_enter Tryd.func7, Tryd.ntmps7
    go_wp2
    go_ret
    exact ⟨rfl, Below.refl _ _⟩
  · obtain ⟨bs, hbl, hrd, hwf, hcap, hmax⟩ := w0.rdk
    unfold maxLen at hmax
    have HRD := Lib.hid hrd
    have HWF := Lib.hid (fun x hx => wf_u8 (hwf x hx))
    have HBL := Lib.hid hbl.symm
    clear hbl hrd hwf w0
    go_enter Tryd.func7, Tryd.ntmps7
    go_wp2_with fail
    refine (DrawOutcomesOf_any _ _ _ _ _ HBL.out hcap (by omega) HRD HWF).mono ?_
    rintro e W1 ⟨⟨t, s, rfl, ht, hs1, hs2⟩, hB1⟩
    obtain ⟨ps, HPS⟩ : ∃ ps, Hid (ps = cutL t.data.toList) := ⟨_, rfl⟩
    have HS : Hid (LawW w W1 []) := Lib.hid ⟨hm.out.below hB1, hB1, by simp⟩
    clear hB1 h0 hm HRD HWF HBL hcap hmax
    obtain ⟨L, HL⟩ : ∃ L, Hid (L = outN ps s) := ⟨_, Lib.hid rfl⟩
    by_cases hok : okSt ps s = true
    · have hok0 := hok
      obtain ⟨HOK, N, s, rfl, HN, hN32, hN0, hsN, HOKS, hfN⟩ := st_open hok
      have HRB := Lib.hid (rbN_rb HOK.out HN.out)
      obtain ⟨xs, HXS⟩ : ∃ xs, Hid (xs = outs (rbN ps) N s) := ⟨_, Lib.hid rfl⟩
      have e0 : L = ints xs := by rw [HL.out, outN_yes hok0 HN.out, HXS.out]
      have hLx : L.length = xs.length := by rw [e0, ints_length]
      have hL32 : L.length ≤ 32 := by rw [hLx, HXS.out]; exact Nat.le_trans (outs_le _ _ _) hN32
      have hL0 : 0 < L.length := by
        obtain ⟨a, ha⟩ := outs_some HRB.out _ s hsN (Nat.le_refl _)
        rw [hLx, HXS.out]; exact List.length_pos_of_mem ha
      have h32 : ∀ i, xs.getD i 0 < 32 := by rw [HXS.out]; exact outs_lt32 hN32
      have HE : Hid (∀ i, i < L.length → L[i]? = some ((xs.getD i 0 : Nat) : Int)) := Lib.hid fun i hi => by
        rw [show L[i]? = (ints xs)[i]? from congrArg (fun l => l[i]?) e0]; exact ints_getD xs i (by omega)
      have HXA : Hid (∀ i, i < L.length → stdN ps ((xs.getD i 0 : Nat) : Int) = true ∧ canN ps (s : Int) ((xs.getD i 0 : Nat) : Int) = true) := Lib.hid fun i hi => by
        have hi2 : i < xs.length := by omega
        have hm : xs.getD i 0 ∈ outs (rbN ps) N s := by
          rw [List.getD_eq_getElem?_getD, List.getElem?_eq_getElem hi2, Option.getD_some, ← HXS.out]; exact List.getElem_mem _
        obtain ⟨h1, h2⟩ := List.mem_filter.1 hm
        obtain ⟨h3, h4⟩ := mem_atts.1 h1
        exact ⟨by rw [stdN_yes (HOKS.out _ h3) HN.out]; exact (att_iff.1 h4).1, by rw [canN_yes hok0 HN.out h3]; exact h2⟩
      have H32 := Lib.hid h32
      have HML : Hid (∀ k, maskT xs k < 4294967296) := Lib.hid (maskT_lt h32)
      obtain ⟨nx, HNX⟩ : ∃ nx, Hid (nx = nextN ps s) := ⟨_, Lib.hid rfl⟩
      obtain ⟨B, HB⟩ : ∃ B, Hid (B = nxtN ps (s : Int)) := ⟨_, Lib.hid rfl⟩
      have eB : B = ints nx := by rw [HB.out, nxtN_yes hok0, HNX.out]
      have hBx : B.length = nx.length := by rw [eB, ints_length]
      have hB5 : B.length ≤ 5 := by rw [hBx, HNX.out]; exact nextN_len HOK.out _
      have HEB : Hid (∀ i, i < B.length → B[i]? = some ((nx.getD i 0 : Nat) : Int)) := Lib.hid fun i hi => by
        rw [show B[i]? = (ints nx)[i]? from congrArg (fun l => l[i]?) eB]; exact ints_getD nx i (by omega)
      obtain ⟨f, HF⟩ : ∃ f : Nat → List Nat, Hid (f = fun u => outs (rbN ps) N u) := ⟨_, Lib.hid rfl⟩
      have HFO : Hid (∀ i, i < B.length → outN ps ((nx.getD i 0 : Nat) : Int) = ints (f (nx.getD i 0))) := Lib.hid fun i hi => by
        have hi2 : i < nx.length := by omega
        have hm : nx.getD i 0 ∈ nextN ps s := by
          rw [List.getD_eq_getElem?_getD, List.getElem?_eq_getElem hi2, Option.getD_some, ← HNX.out]; exact List.getElem_mem _
        rw [outN_yes (HOKS.out _ (next_lt HOK.out HN.out s hsN _ hm)) HN.out, HF.out]
      have HF32 : Hid (∀ u i, (f u).getD i 0 < 32) := Lib.hid fun u i => by rw [HF.out]; exact outs_lt32 hN32 i
      have HFL : Hid (∀ u, (f u).length ≤ 32) := Lib.hid fun u => by rw [HF.out]; exact Nat.le_trans (outs_le _ _ _) hN32
      have HMO : Hid (∀ k, maskO f nx k < 4294967296) := Lib.hid (maskO_lt HF32.out)
      have HEQ : Hid (0 < B.length → maskO f nx B.length = maskT xs L.length) := Lib.hid fun h => by
        have hne : nextN ps s ≠ [] := by intro e; rw [hBx, HNX.out, e] at h; simp at h
        refine Nat.eq_of_testBit_eq fun y => ?_
        rw [hBx, hLx, Bool.eq_iff_iff, maskO_test _ (Nat.le_refl _), maskT_test _ (Nat.le_refl _), decide_eq_true_iff, List.take_length, List.take_length, HXS.out, outs_next HOK.out HN.out hsN hne, HNX.out, HF.out]
      have HSTP : Hid (B.length = 0 → L = [(s : Int)]) := Lib.hid fun h => by
        have he : nextN ps s = [] := by rw [← HNX.out]; exact List.eq_nil_of_length_eq_zero (by omega)
        rw [e0, HXS.out, outs_stop HOK.out HN.out hsN he]; rfl
      have hd : ((L.length : Int) == 0) = false := by rw [beq_eq_false_iff_ne]; omega
      clear e0 hLx eB hBx hok hok0 hs1 hs2 h32
      go_wp2_with (first
        | (go_at_call 26; refine (OutcomesOf_any t _ _ (lw_m HS) (by omega)).mono ?_; rw [← HPS.out, ← HL.out]; rintro e V ⟨⟨A2, c2, rfl, hc2, hO2⟩, hV⟩; replace HS := lw_add (lw_step HS hV) hO2.rd; clear hV hO2)
        | (go_at_call 25; refine (sOutcomesOf_any t _ _ (by omega)).mono ?_; rw [← HPS.out, ← HL.out]; rintro e V ⟨⟨A9, c2, rfl, hc2, hO2⟩, hV⟩; replace HS := lw_add (lw_step HS hV) hO2.rd; clear hV hO2)
        | (go_at_call 30; refine (bnSame_any _ _ _ _ L _ (lw_rd HS 1 rfl) (lw_rd HS 0 rfl) (by omega)).mono ?_; rintro e V ⟨rfl, nB, rfl⟩; replace HS := lw_drew HS nB))
      obtain ⟨g, off, rfl⟩ := lw_form HS 1 rfl (by omega)
      replace HS := lw_cut HS 1
      go_loopw [6, 7] (fun q i wr => ∃ k : Nat, k ≤ L.length ∧ i = .int .i64 k ∧ q = .int .i64 (maskT xs k : Nat) ∧ Hid (LawW w wr [(some ⟨g, off, none⟩, L)])) (fun _ i _ => L.length - (intOf i).toNat)
      case atStart => exact ⟨0, Nat.zero_le _, rfl, rfl, HS⟩
      case round =>
        clear HS
        obtain ⟨k, hk, rfl, rfl, HS⟩ := hrel
        by_cases hlt : k < L.length
        · obtain ⟨x, HX1⟩ : ∃ x, Hid (x = xs.getD k 0) := ⟨_, Lib.hid rfl⟩
          have hx32 : x < 32 := by rw [HX1.out]; exact H32.out k
          have HE1 : Hid (L[k]? = some (x : Int)) := Lib.hid (by rw [HX1.out]; exact HE.out k hlt)
          have HXB : Hid (stdN ps (x : Int) = true) := Lib.hid (by rw [HX1.out]; exact (HXA.out k hlt).1)
          have HXC : Hid (canN ps (s : Int) (x : Int) = true) := Lib.hid (by rw [HX1.out]; exact (HXA.out k hlt).2)
          obtain ⟨mk, HMK⟩ : ∃ x, Hid (x = maskT xs k) := ⟨_, Lib.hid rfl⟩
          have hmk : mk < 4294967296 := by rw [HMK.out]; exact HML.out k
          obtain ⟨W, HW⟩ : ∃ W : Nat, Hid (W = 2 ^ x) := ⟨_, Lib.hid rfl⟩
          have hW : W < 4294967296 := by
            have h1 : 2 ^ x < 2 ^ 32 := Nat.pow_lt_pow_right (by omega) hx32
            rw [HW.out]; omega
          have hor : bits .or .i64 (mk : Int) (W : Int) = ((maskT xs (k + 1) : Nat) : Int) := by
            rw [i64_or_nat mk W (by omega) (by omega), HMK.out, HW.out, HX1.out]; rfl
          rw [← HMK.out]
          have hc1 := lw_cell HS 0 rfl HE1
          have hWw : wrap64 ((2 : Int) ^ x) = (W : Int) := by rw [HW.out]; exact wrap_pow32 x hx32
          go_wp2_with (first
            | (go_at_call 32; refine (IsSteady_any t _ _ (lw_m HS) (by omega)).mono ?_; rw [← HPS.out]; rintro e V ⟨rfl, hV⟩; replace HS := lw_step HS hV; clear hV; rw [HXB.out]; have hc1 := lw_cell HS 0 rfl HE1)
            | (go_at_call 33; refine (CanReach_any t _ _ _ (lw_m HS) (by omega)).mono ?_; rw [← HPS.out]; rintro e V ⟨rfl, hV⟩; replace HS := lw_step HS hV; clear hV; rw [HXC.out]; have hc1 := lw_cell HS 0 rfl HE1))
          go_roundw
          case rel => exact ⟨k + 1, by omega, by go_num, rfl, HS⟩
          case measure => simp [intOf]; omega
        · have hkn : k = L.length := by omega
          subst hkn
          obtain ⟨mm, HMM⟩ : ∃ x, Hid (x = maskT xs L.length) := ⟨_, Lib.hid rfl⟩
          have hmm : mm < 4294967296 := by rw [HMM.out]; exact HML.out _
          rw [← HMM.out] at HEQ ⊢
          go_wp2_with (first
            | (go_at_call 34; refine (NextOf_any t _ _ (lw_m HS) (by omega)).mono ?_; rw [← HPS.out, ← HB.out]; rintro e V ⟨⟨A8, c2, rfl, hc2, hO2⟩, hV⟩; replace HS := lw_add (lw_step HS hV) hO2.rd; clear hV hO2))
          go_loopw [9, 10] (fun q i wr => ∃ k : Nat, k ≤ B.length ∧ i = .int .i64 k ∧ q = .int .i64 (maskO f nx k : Nat) ∧ Hid (LawW w wr [(A8, B), (some ⟨g, off, none⟩, L)])) (fun _ i _ => B.length - (intOf i).toNat)
          case atStart => exact ⟨0, Nat.zero_le _, rfl, rfl, HS⟩
          case round =>
            clear HS
            obtain ⟨k, hk, rfl, rfl, HS⟩ := hrel
            by_cases hlt : k < B.length
            · obtain ⟨x, HX1⟩ : ∃ x, Hid (x = nx.getD k 0) := ⟨_, Lib.hid rfl⟩
              have HE1 : Hid (B[k]? = some (x : Int)) := Lib.hid (by rw [HX1.out]; exact HEB.out k hlt)
              obtain ⟨ys, HYS⟩ : ∃ ys, Hid (ys = f x) := ⟨_, Lib.hid rfl⟩
              have HOX : Hid (outN ps (x : Int) = ints ys) := Lib.hid (by rw [HX1.out, HFO.out k hlt, HYS.out, HX1.out])
              have hy32 : ys.length ≤ 32 := by rw [HYS.out]; exact HFL.out _
              have hyl : (ints ys).length = ys.length := ints_length _
              have HY32 : Hid (∀ i, ys.getD i 0 < 32) := Lib.hid fun i => by rw [HYS.out]; exact HF32.out _ i
              obtain ⟨mk, HMK⟩ : ∃ x, Hid (x = maskO f nx k) := ⟨_, Lib.hid rfl⟩
              have hmk : mk < 4294967296 := by rw [HMK.out]; exact HMO.out k
              have HMN : Hid (mk ||| maskT ys ys.length = maskO f nx (k + 1)) := Lib.hid (by rw [HMK.out, HYS.out, HX1.out]; rfl)
              have HML2 : Hid (∀ i, mk ||| maskT ys i < 4294967296) := Lib.hid fun i => Nat.or_lt_two_pow (n := 32) hmk (maskT_lt HY32.out i)
              rw [← HMK.out]
              obtain ⟨g8, off8, rfl⟩ := lw_form HS 0 rfl (by omega)
              have hc1 := lw_cell HS 0 rfl HE1

              go_wp2_with (first
                | (go_at_call 26; refine (OutcomesOf_any t _ _ (lw_m HS) (by omega)).mono ?_; rw [← HPS.out, HOX.out]; rintro e V ⟨⟨A7, c2, rfl, hc2, hO2⟩, hV⟩; replace HS := lw_add (lw_step HS hV) hO2.rd; clear hV hO2))
              try rw [hyl]
              go_loopw [9, 12] (fun q i wr => ∃ j : Nat, j ≤ ys.length ∧ i = .int .i64 j ∧ q = .int .i64 ((mk ||| maskT ys j : Nat) : Int) ∧ Hid (LawW w wr [(A7, ints ys), (some ⟨g8, off8, none⟩, B), (some ⟨g, off, none⟩, L)])) (fun _ i _ => ys.length - (intOf i).toNat)
              case atStart => exact ⟨0, Nat.zero_le _, rfl, by rw [show mk ||| maskT ys 0 = mk from Nat.or_zero mk], HS⟩
              case round =>
                clear HS hc1
                obtain ⟨j, hj, rfl, rfl, HS⟩ := hrel
                by_cases hlj : j < ys.length
                · obtain ⟨y, HY1⟩ : ∃ y, Hid (y = ys.getD j 0) := ⟨_, Lib.hid rfl⟩
                  have hyb : y < 32 := by rw [HY1.out]; exact HY32.out j
                  have HE2 : Hid ((ints ys)[j]? = some (y : Int)) := Lib.hid (by rw [HY1.out]; exact ints_getD ys j hlj)
                  obtain ⟨mj, HMJ⟩ : ∃ x, Hid (x = mk ||| maskT ys j) := ⟨_, Lib.hid rfl⟩
                  have hmj : mj < 4294967296 := by rw [HMJ.out]; exact HML2.out j
                  obtain ⟨W, HW⟩ : ∃ W : Nat, Hid (W = 2 ^ y) := ⟨_, Lib.hid rfl⟩
                  have hW : W < 4294967296 := by
                    have h1 : 2 ^ y < 2 ^ 32 := Nat.pow_lt_pow_right (by omega) hyb
                    rw [HW.out]; omega
                  have hor : bits .or .i64 (mj : Int) (W : Int) = ((mk ||| maskT ys (j + 1) : Nat) : Int) := by
                    rw [i64_or_nat mj W (by omega) (by omega), HMJ.out, HW.out, HY1.out, Nat.or_assoc]; rfl
                  rw [← HMJ.out]
                  obtain ⟨g7, off7, rfl⟩ := lw_form HS 0 rfl (by omega)
                  have hc2 := lw_cell HS 0 rfl HE2
                  have hWw : wrap64 ((2 : Int) ^ y) = (W : Int) := by rw [HW.out]; exact wrap_pow32 y hyb
                  go_wp2_with fail
                  go_roundw
                  case rel => exact ⟨j + 1, by omega, by go_num, rfl, HS⟩
                  case measure => simp [intOf]; omega
                · have hje : j = ys.length := by omega
                  subst hje
                  rw [HMN.out]
                  go_wp2_with fail
                  go_roundw
                  case rel => exact ⟨k + 1, by omega, by go_num, rfl, lw_cut HS 1⟩
                  case measure => simp [intOf]; omega
            · have hkn : k = B.length := by omega
              subst hkn
              by_cases hb0 : 0 < B.length
              · rw [HEQ.out hb0]
                have hm2 : ((mm : Int) == (mm : Int)) = true := beq_self_eq_true _
                have hb1 : ((B.length : Int) == 0) = false := by rw [beq_eq_false_iff_ne]; omega
                have hb2 : decide ((B.length : Int) > 0) = true := decide_eq_true (by omega)
                go_wp2_with fail
                first
                | (go_ret; exact ⟨rfl, HS.out.b⟩)
                | (go_quiet (fail); go_wp2_with fail; go_ret; exact ⟨rfl, HS.out.b.trans (drewN_below _ _)⟩)
              · have hb00 : B.length = 0 := by omega
                have HL1 := Lib.hid (HSTP.out hb00)
                have hll : L.length = 1 := by rw [HL1.out]; rfl
                have hl1 : ((L.length : Int) == 1) = true := by rw [hll]; rfl
                have hb1 : ((B.length : Int) == 0) = true := by rw [hb00]; rfl
                have HF0 : Hid (L[0]? = some (s : Int)) := Lib.hid (by rw [HL1.out]; rfl)
                have hc0 := lw_cell HS 1 rfl HF0
                rw [Nat.add_zero] at hc0
                have hss : ((s : Int) == (s : Int)) = true := beq_self_eq_true _
                clear hll hb00
                go_wp2_with fail
                first
                | (go_ret; exact ⟨rfl, HS.out.b⟩)
                | (go_quiet (fail); go_wp2_with fail; go_ret; exact ⟨rfl, HS.out.b.trans (drewN_below _ _)⟩)
    · have hok' : okSt ps s = false := by simpa using hok
      have HL0 : Hid (L.length = 0) := Lib.hid (by rw [HL.out, outN_no hok']; rfl)
      have hL0 : L.length ≤ 0 := by rw [HL0.out]; exact Nat.le_refl _
      have HY : Hid (stA ps s = -1) := Lib.hid (by rw [stA, if_neg hok])
      have hd : ((L.length : Int) == 0) = true := by rw [HL0.out]; rfl
      clear hok hok'
      go_wp2_with (first
        | (go_at_call 26; refine (OutcomesOf_any t _ _ (lw_m HS) (by omega)).mono ?_; rw [← HPS.out, ← HL.out]; rintro e V ⟨⟨A2, c2, rfl, hc2, hO2⟩, hV⟩; replace HS := lw_add (lw_step HS hV) hO2.rd; clear hV hO2)
        | (go_at_call 25; refine (sOutcomesOf_any t _ _ (by omega)).mono ?_; rw [← HPS.out, ← HL.out]; rintro e V ⟨⟨A9, c2, rfl, hc2, hO2⟩, hV⟩; replace HS := lw_add (lw_step HS hV) hO2.rd; clear hV hO2)
        | (first | (go_at_call 30; refine (bnSame_any _ _ _ _ L _ (lw_rd HS 2 rfl) (lw_rd HS 0 rfl) (by omega)).mono ?_; rintro e V ⟨rfl, nB, rfl⟩; replace HS := lw_drew HS nB) | (go_at_call 30; refine (bnSame_any _ _ _ _ L _ (lw_rd HS 1 rfl) (lw_rd HS 0 rfl) (by omega)).mono ?_; rintro e V ⟨rfl, nB, rfl⟩; replace HS := lw_drew HS nB))
        | (go_at_call 31; refine (StepAll_any t _ _ (lw_m HS) (by omega)).mono ?_; rw [← HPS.out]; rintro e V ⟨rfl, hV⟩; replace HS := lw_step HS hV; clear hV; rw [HY.out]))
      go_ret
      exact ⟨rfl, HS.out.b⟩

end Go.Proofs.YtpehimjngofnkaaDoor
