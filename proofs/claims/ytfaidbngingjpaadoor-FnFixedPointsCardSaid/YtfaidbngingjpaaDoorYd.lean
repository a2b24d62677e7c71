/- The walk of the law FnFixedPoints. -/
import Derived.Test.YtfaidbngingjpaaDoorProg
import Derived.WalkKit
import Derived.WalkSpells
import Derived.WalkLawsBesides
import Derived.Lib.Hide
import Derived.Deep.QuietTactic
import Derived.BigQuiet
import Derived.Test.YtfaidbngingjpaaDoorLa
import Derived.Test.YtfaidbngingjpaaDoorYb
import Derived.Test.YtfaidbngingjpaaDoorYc
namespace Go.Proofs.YtfaidbngingjpaaDoor
open Go.RowKit
set_option linter.unusedVariables false

theorem sel_pre {p : Nat → Bool} {k : Nat} : ∀ N, k ≤ N → ∃ r, sel N p = sel k p ++ r := by
  intro N
  induction N with
  | zero => intro h; exact ⟨[], by rw [show k = 0 by omega]; simp⟩
  | succ N ih =>
    intro h
    by_cases hk : k = N + 1
    · exact ⟨[], by rw [hk]; simp⟩
    · obtain ⟨r, hr⟩ := ih (by omega)
      by_cases hp : p N = true
      · exact ⟨r ++ [N], by rw [sel_yes hp, hr, List.append_assoc]⟩
      · exact ⟨r, by rw [sel_no (by simpa using hp), hr]⟩
theorem sel_at {p : Nat → Bool} {k N : Nat} (hk : k < N) (hp : p k = true) : (ints (sel N p))[(sel k p).length]? = some (k : Int) ∧ (sel k p).length < (ints (sel N p)).length := by
  obtain ⟨r, hr⟩ := sel_pre (p := p) (k := k + 1) N hk
  rw [sel_yes hp] at hr
  constructor
  · rw [hr, ints, List.getElem?_map, List.append_assoc, List.getElem?_append_right (Nat.le_refl _)]
    simp
  · rw [ints_length, hr]; simp
theorem rsA_k {ps : List (List UInt8)} {k : Nat} (h : okSt ps (k : Int) = true) : rsA ps (k : Int) = ((stp ps k ^^^ k : Nat) : Int) := by rw [rsA, if_pos h]; rfl
theorem stA_k {ps : List (List UInt8)} {k : Nat} (h : okSt ps (k : Int) = true) : stA ps (k : Int) = (stp ps k : Int) := by rw [stA, if_pos h]; rfl

theorem xor_ne : ∀ a, a < 32 → ∀ b, b < 32 → a ^^^ b = 0 → a = b := by decide +kernel
set_option maxHeartbeats 2000000 in
set_option maxRecDepth 100000 in
theorem fnFixedPoints_walk (a0 : Option Addr) (len0 cap0 : Nat) (z0 : List Int) (w : World) (hm : Hid (HasM w)) (w0 : IsRow .u8 w a0 len0 cap0 z0) :
    Calls Tryd.prog 12 #[.slice a0 len0 cap0] w fun e w' => e = .returned (.bool true) ∧ Below w.heap.size w w' := by
  by_cases h0 : 1048576 < len0
  · go_enter Tryd.func12, Tryd.ntmps12
    go_wp2
    go_ret
    exact ⟨rfl, Below.refl _ _⟩
  · obtain ⟨bs, hbl, hrd, hwf, hcap, hmax⟩ := w0.rdk
    unfold maxLen at hmax
    have HRD := Lib.hid hrd
    have HWF := Lib.hid (fun x hx => wf_u8 (hwf x hx))
    have HBL := Lib.hid hbl.symm
    clear hbl hrd hwf w0
    go_enter Tryd.func12, Tryd.ntmps12
    go_wp2_with fail
    refine (DrawFixedPoints_any _ _ _ _ _ HBL.out hcap (by omega) HRD HWF).mono ?_
    rintro e W1 ⟨⟨t, rfl, ht⟩, hB1⟩
    obtain ⟨ps, HPS⟩ : ∃ ps, Hid (ps = cutL t.data.toList) := ⟨_, rfl⟩
    obtain ⟨L, HL⟩ : ∃ L, Hid (L = ints (fixN ps)) := ⟨_, rfl⟩
    have hLl : L.length ≤ 1000 := by
      rw [HL.out, ints_length]
      by_cases h : okN ps = true
      · rw [fixN_yes h rfl]
        have h1 := sel_len (2 ^ ps.length) (fixB ps)
        have h2 := two_le _ (okN_le h)
        omega
      · rw [fixN_no (by simpa using h)]; simp
    have HM1 := Lib.hid (hm.out.below hB1)
    go_wp2_with fail
    refine (FixedPoints_any t _ HM1 (by omega)).mono ?_
    rw [← HPS.out, ← HL.out]
    rintro e W2 ⟨⟨A2, c2, rfl, hc2, hO2⟩, hB2⟩
    have hB12 : Below w.heap.size w W2 := hB1.trans (hB2.mono hB1.size)
    have HM2 := Lib.hid (HM1.out.below hB2)
    have HR2 := Lib.hid hO2.rd
    go_wp2_with fail
    refine (sFixedPoints_any t _ (by omega)).mono ?_
    rw [← HPS.out, ← HL.out]
    rintro e W3 ⟨⟨A3, c3, rfl, hc3, hO3⟩, hB3⟩
    have hB13 : Below w.heap.size w W3 := hB12.trans (hB3.mono hB12.size)
    have HM3 := Lib.hid (HM2.out.below hB3)
    have HR3 := Lib.hid (HR2.out.below hB3)
    have HL3 := Lib.hid hO3.rd
    clear hO2 hO3
    go_wp2_with fail
    refine (bnSame_any _ _ _ _ L _ HR3 HL3 (by omega)).mono ?_
    rintro e W4 ⟨rfl, n4, rfl⟩
    have hB14 : Below w.heap.size w (W3.drewN n4) := hB13.trans (drewN_below _ _)
    go_wp2_with fail
    refine (NetworkValid_any t _ (Lib.hid (HM3.out.below (drewN_below _ n4))) (by omega)).mono ?_
    rw [← HPS.out]
    rintro e W5 ⟨rfl, hB5⟩
    have hB15 : Below w.heap.size w W5 := hB14.trans (hB5.mono hB14.size)
    have HM5 := Lib.hid ((HM3.out.below (drewN_below _ n4)).below hB5)
    have HR5 := Lib.hid ((HR3.out.below (drewN_below _ n4)).below hB5)
    clear hB5 HL3 HR3
    by_cases hok : okN ps = true
    · have HOK := Lib.hid hok
      have hn5 := okN_le hok
      obtain ⟨N, HN, hNw, hN32, hN0⟩ := wrap_two ps.length hn5
      have HLN : Hid (L = ints (sel N (fixB ps))) := Lib.hid (by rw [HL.out, fixN_yes hok HN.out])
      have HSZ : Hid (szN ps = (ps.length : Int)) := Lib.hid (by rw [szN, if_pos hok])
      clear hok
      rw [HOK.out]
      go_wp2_with fail
      go_loopw [5, 6] (fun q i wr => ∃ k : Nat, k ≤ N ∧ i = .int .i64 k ∧ q = .int .i64 ((sel k (fixB ps)).length : Nat) ∧ Hid (HasM wr) ∧ Hid (Rd wr A2 (L.map (Value.int .i64))) ∧ Hid (Below w.heap.size w wr)) (fun _ i _ => N - (intOf i).toNat)
      case atStart => exact ⟨0, Nat.zero_le _, rfl, rfl, HM5, HR5, Lib.hid hB15⟩
      case round =>
        obtain ⟨k, hk, rfl, rfl, HM, HR, HB⟩ := hrel
        have hql : (sel k (fixB ps)).length ≤ k := sel_len _ _
        by_cases hlt : k < N
        · have h32 : k < 32 := by omega
          have HST : okSt ps (k : Int) = true := by rw [okSt_of HOK.out HN.out]; simp; omega
          obtain ⟨y, HY⟩ : ∃ y, Hid (y = stp ps k) := ⟨_, rfl⟩
          have hy32 : y < 32 := by rw [HY.out]; exact Nat.lt_of_lt_of_le (stp_lt HOK.out k) (two_le _ hn5)
          have HSA : Hid (stA ps (k : Int) = (y : Int)) := Lib.hid (by rw [stA_k HST, HY.out])
          obtain ⟨z, HZ⟩ : ∃ z, Hid (z = y ^^^ k) := ⟨_, rfl⟩
          have HRS : Hid (rsA ps (k : Int) = (z : Int)) := Lib.hid (by rw [rsA_k HST, HZ.out, HY.out])
          clear HST
          by_cases hf : fixB ps k = true
          · have hyk : y = k := by have := hf; simp only [fixB, beq_iff_eq] at this; rw [HY.out, this]
            have hz0 : z = 0 := by rw [HZ.out, hyk, Nat.xor_self]
            obtain ⟨hs1, hs2⟩ := sel_at hlt hf
            rw [← HLN.out] at hs1 hs2
            have HS2 : Hid (((sel (k + 1) (fixB ps)).length : Nat) = (sel k (fixB ps)).length + 1) := Lib.hid (by rw [sel_yes hf, List.length_append]; rfl)
            have hs1' : (L.map (Value.int .i64))[(sel k (fixB ps)).length]? = some (.int .i64 (k : Int)) := by rw [List.getElem?_map, hs1]; rfl
            have HS1 := Lib.hid hs1'
            obtain ⟨q, HQ⟩ : ∃ q, Hid (q = (sel k (fixB ps)).length) := ⟨_, rfl⟩
            rw [← HQ.out] at HS1 HS2 hs2 hql ⊢
            have hd1 : ((z : Int) == 0) = true := by rw [hz0]; rfl
            have hd2 : ((k : Int) != (k : Int)) = false := bne_self_eq_false _
            have hd3 : ((y : Int) == (k : Int)) = true := by rw [hyk]; simp
            clear hs1 hs1' hf hyk hz0
            obtain ⟨g, off, hA, hcell⟩ := HR.out.at_ HS1.out
            clear hcell
            subst hA
            go_wp2_with fail
            refine (SizeOf_any t _ HM (by omega)).mono ?_
            rw [← HPS.out]
            rintro e V1 ⟨rfl, hV1⟩
            rw [HSZ.out]
            have HM1 := Lib.hid (HM.out.below hV1)
            go_wp2_with fail
            refine (RestlessOf_any t _ _ HM1 (by omega)).mono ?_
            rw [← HPS.out]
            rintro e V2 ⟨rfl, hV2⟩
            rw [HRS.out]
            have HM2 := Lib.hid (HM1.out.below hV2)
            have HR2 := Lib.hid ((HR.out.below hV1).below hV2)
            have hcell := HR2.out.cell HS1.out
            go_wp2_with fail
            refine (StepAll_any t _ _ HM2 (by omega)).mono ?_
            rw [← HPS.out]
            rintro e V3 ⟨rfl, hV3⟩
            rw [HSA.out]
            clear hcell
            go_wp2_with fail
            go_roundw
            case rel => exact ⟨k + 1, by omega, by go_num, by rw [HS2.out]; go_num, Lib.hid (HM2.out.below hV3), Lib.hid (HR2.out.below hV3), Lib.hid (HB.out.trans ((hV1.mono HB.out.size).trans ((hV2.mono (Nat.le_trans HB.out.size hV1.size)).trans (hV3.mono (Nat.le_trans HB.out.size (Nat.le_trans hV1.size hV2.size))))))⟩
            case measure => simp [intOf]; omega
          · have hf' : fixB ps k = false := by simpa using hf
            have hyk : ¬ y = k := by have := hf'; simp only [fixB, beq_eq_false_iff_ne] at this; rw [HY.out]; exact this
            have hz0 : ¬ z = 0 := fun h => hyk (xor_ne y hy32 k h32 (by rw [← HZ.out]; exact h))
            have HS2 : Hid (((sel (k + 1) (fixB ps)).length : Nat) = (sel k (fixB ps)).length) := Lib.hid (by rw [sel_no hf'])
            have hd1 : ((z : Int) == 0) = false := by rw [beq_eq_false_iff_ne]; omega
            have hd3 : ((y : Int) == (k : Int)) = false := by rw [beq_eq_false_iff_ne]; omega
            clear hf hf' hyk hz0
            go_wp2_with fail
            refine (SizeOf_any t _ HM (by omega)).mono ?_
            rw [← HPS.out]
            rintro e V1 ⟨rfl, hV1⟩
            rw [HSZ.out]
            have HM1 := Lib.hid (HM.out.below hV1)
            go_wp2_with fail
            refine (RestlessOf_any t _ _ HM1 (by omega)).mono ?_
            rw [← HPS.out]
            rintro e V2 ⟨rfl, hV2⟩
            rw [HRS.out]
            have HM2 := Lib.hid (HM1.out.below hV2)
            have HR2 := Lib.hid ((HR.out.below hV1).below hV2)
            go_wp2_with fail
            refine (StepAll_any t _ _ HM2 (by omega)).mono ?_
            rw [← HPS.out]
            rintro e V3 ⟨rfl, hV3⟩
            rw [HSA.out]
            go_wp2_with fail
            go_roundw
            case rel => exact ⟨k + 1, by omega, by go_num, by rw [HS2.out], Lib.hid (HM2.out.below hV3), Lib.hid (HR2.out.below hV3), Lib.hid (HB.out.trans ((hV1.mono HB.out.size).trans ((hV2.mono (Nat.le_trans HB.out.size hV1.size)).trans (hV3.mono (Nat.le_trans HB.out.size (Nat.le_trans hV1.size hV2.size))))))⟩
            case measure => simp [intOf]; omega
        · have hkn : k = N := by omega
          subst hkn
          have hd : (((sel k (fixB ps)).length : Int) == (L.length : Int)) = true := by rw [HLN.out, ints_length]; simp
          go_wp2_with fail
          refine (SizeOf_any t _ HM (by omega)).mono ?_
          rw [← HPS.out]
          rintro e V1 ⟨rfl, hV1⟩
          rw [HSZ.out]
          go_wp2_with fail
          go_ret
          exact ⟨rfl, HB.out.trans (hV1.mono HB.out.size)⟩
    · have HOK : Hid (okN ps = false) := Lib.hid (by simpa using hok)
      clear hok
      have hL0 : L.length ≤ 0 := by rw [HL.out, fixN_no HOK.out]; exact Nat.le_refl _
      rw [HOK.out]
      go_wp2_with fail
      refine (sFixedPoints_any t _ (by omega)).mono ?_
      rw [← HPS.out, ← HL.out]
      rintro e W6 ⟨⟨A6, c6, rfl, hc6, hO6⟩, hB6⟩
      have HR6 := Lib.hid (HR5.out.below hB6)
      have HL6 := Lib.hid hO6.rd
      clear hO6
      go_wp2_with fail
      refine (bnSame_any _ _ _ _ L _ HR6 HL6 (by omega)).mono ?_
      rintro e W7 ⟨rfl, n7, rfl⟩
      have hd : ((L.length : Int) == 0) = true := by rw [show L.length = 0 by omega]; rfl
      go_wp2_with fail
      go_ret
      exact ⟨rfl, hB15.trans ((hB6.mono hB15.size).trans (drewN_below _ _))⟩

end Go.Proofs.YtfaidbngingjpaaDoor
