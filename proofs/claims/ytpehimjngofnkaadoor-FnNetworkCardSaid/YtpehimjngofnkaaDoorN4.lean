/- The walk of the law FnNetwork. -/
import Derived.Test.YtpehimjngofnkaaDoorProg
import Derived.WalkKit
import Derived.WalkSpells
import Derived.WalkLawsBesides
import Derived.Lib.Hide
import Derived.Deep.QuietTactic
import Derived.BigQuiet
import Derived.Test.YtpehimjngofnkaaDoorG1
import Derived.Test.YtpehimjngofnkaaDoorG3
import Derived.Test.YtpehimjngofnkaaDoorG5
import Derived.Test.YtpehimjngofnkaaDoorYj
import Derived.Test.YtpehimjngofnkaaDoorN3
namespace Go.Proofs.YtpehimjngofnkaaDoor
open Go.RowKit
set_option linter.unusedVariables false

theorem b01_ne : ∀ {c : UInt8}, b01 c = true → c ≠ 44 := by rintro c h rfl; revert h; decide
theorem okN_comma {ps : List (List UInt8)} (h : okN ps = true) : ∀ p ∈ ps, ∀ c ∈ p, c ≠ 44 := fun p hp c hc => b01_ne ((okT_true (okN_of h hp).1).2.2.2 c hc)
theorem okN_size {ps : List (List UInt8)} (h : okN ps = true) : ∀ p ∈ ps, p.length ≤ 32 := fun p hp => by
  rw [okT_size (okN_of h hp).1 (okN_of h hp).2]; exact two_le _ (okN_le h)
theorem bytes_eq2 (a : ByteArray) : (a == a) = true := by have := bytes_eqb a; simpa [bne] using this
theorem rulN_at {ps : List (List UInt8)} {k : Nat} (h : okN ps = true) (hk : k < ps.length) : rulN ps (k : Int) = ps[k] := by
  have h1 : okSw ps (k : Int) = true := by
    rw [okSw, h, decide_eq_true (show (0 : Int) ≤ (k : Int) by omega), decide_eq_true (show (k : Int) < (ps.length : Int) by omega)]; rfl
  rw [rulN, if_pos h1, Int.toNat_natCast, List.getD_eq_getElem?_getD, List.getElem?_eq_getElem hk]; rfl
/-- the switches' rules, in order -/
def joinTo (ps : List (List UInt8)) (k : Nat) : ByteArray := ⟨(joinN (ps.take k)).toArray⟩
theorem joinTo_zero (ps : List (List UInt8)) : joinTo ps 0 = { data := #[] } := rfl
theorem joinTo_one {ps : List (List UInt8)} (h : 0 < ps.length) : ({ data := #[] } : ByteArray) ++ ⟨ps[0].toArray⟩ = joinTo ps 1 := by
  rw [joinTo, joinN_one h]; exact str_add [] ps[0]
theorem joinTo_succ {ps : List (List UInt8)} {k : Nat} (h : k < ps.length) (h0 : ¬ k = 0) : joinTo ps k ++ { data := #[44] } ++ ⟨ps[k].toArray⟩ = joinTo ps (k + 1) := by
  rw [joinTo, joinTo, joinN_succ h h0, show (({ data := #[44] } : ByteArray)) = ⟨[44].toArray⟩ from rfl, str_add, str_add]
theorem joinTo_size {ps : List (List UInt8)} (h : okN ps = true) {k : Nat} (hk : k ≤ ps.length) : (joinTo ps k).size ≤ 1000 := by
  have := joinN_len (okN_size h) k hk
  have h5 := okN_le h
  rw [joinTo, str_size]; omega
theorem joinTo_all (t : ByteArray) {ps : List (List UInt8)} (h : ps = cutL t.data.toList) : joinTo ps ps.length = t := by
  rw [joinTo, List.take_length, h, joinN_cut _ _ (Nat.le_refl _), str_of_list]

set_option maxHeartbeats 4000000 in
set_option maxRecDepth 100000 in
theorem fnNetwork_walk (a0 : Option Addr) (len0 cap0 : Nat) (z0 : List Int) (w : World) (hm : Hid (HasM w)) (w0 : IsRow .u8 w a0 len0 cap0 z0) :
    Calls Tryd.prog 12 #[.slice a0 len0 cap0] w fun e w' => e = .returned (.bool true) ∧ Below w.heap.size w w' := by
  by_cases h0 : 1048576 < len0
  · go_enter Tryd.func12, Tryd.ntmps12
    go_wp2
    go_ret
    exact ⟨rfl, Below.refl _ _⟩
  · obtain ⟨bs, hbl, hrd, hwf, hcap, hmax⟩ := w0.rdk
    unfold maxLen at hmax
    have HRD := Lib.hid hrd
    have HWF := Lib.hid (fun x hx => wf_u8 (hwf x hx))
    have HBL := Lib.hid hbl.symm
    clear hbl hrd hwf w0
    go_enter Tryd.func12, Tryd.ntmps12
    go_wp2_with fail
    refine (DrawWithRule_any _ _ _ _ _ HBL.out hcap (by omega) HRD HWF).mono ?_
    rintro e W1 ⟨⟨t, s, f, rfl, ht, hf, hs1, hs2⟩, hB1⟩
    obtain ⟨ps, HPS⟩ : ∃ ps, Hid (ps = cutL t.data.toList) := ⟨_, Lib.hid rfl⟩
    have HS : Hid (LawW w W1 []) := Lib.hid ⟨hm.out.below hB1, hB1, by simp⟩
    clear hB1 h0 hm HRD HWF HBL hcap hmax
    obtain ⟨tk, HTK⟩ : ∃ tk : ByteArray, Hid (tk = ⟨(witN ps s f).toArray⟩) := ⟨_, Lib.hid rfl⟩
    obtain ⟨qs, HQS⟩ : ∃ qs, Hid (qs = cutL tk.data.toList) := ⟨_, Lib.hid rfl⟩
    obtain ⟨r, HR⟩ : ∃ r, Hid (r = rulN ps s) := ⟨_, Lib.hid rfl⟩
    obtain ⟨b, HOW⟩ : ∃ b, Hid (okW ps s f = b) := ⟨_, Lib.hid rfl⟩
    obtain ⟨v, HOK⟩ : ∃ v, Hid (okN ps = v) := ⟨_, Lib.hid rfl⟩
    obtain ⟨z, HSZ⟩ : ∃ z, Hid (szN ps = z) := ⟨_, Lib.hid rfl⟩
    have hb1 := bytes_eqb tk
    have hb3 := bytes_eqb (⟨r.toArray⟩ : ByteArray)
    have hb4 : (b != b) = false := bne_self_eq_false _
    have hb5 : (v != v) = false := bne_self_eq_false _
    have hb6 : (z != z) = false := bne_self_eq_false _
    have hzv : decide (0 < z) = v := by
      have h1 : 0 < ps.length := by rw [HPS.out]; exact (cutL_len _).2
      rw [← HSZ.out, ← HOK.out, szN]
      cases h : okN ps
      · rfl
      · simp; omega
    go_wp2_with (first
      | (go_at_call 47; refine (WithRule_any _ _ _ _ (lw_m HS) (by omega) (by omega)).mono ?_; rintro e V ⟨rfl, hV⟩; unfold txtV; replace HS := lw_step HS hV; clear hV; rw [← HPS.out, ← HTK.out, HOW.out])
      | (go_at_call 48; refine (sWithRule_any _ _ _ _ (by omega) (by omega)).mono ?_; rintro e V ⟨rfl, hV⟩; unfold txtV; replace HS := lw_step HS hV; clear hV; rw [← HPS.out, ← HTK.out, HOW.out])
      | (go_at_call 38; refine (SizeOf_any t  _ (lw_m HS) (by omega)).mono ?_; rw [← HPS.out]; rintro e V ⟨rfl, hV⟩; replace HS := lw_step HS hV; clear hV; rw [HSZ.out])
      | (go_at_call 49; refine (sSizeOf_any t  _ (by omega)).mono ?_; rw [← HPS.out]; rintro e V ⟨rfl, hV⟩; replace HS := lw_step HS hV; clear hV; rw [HSZ.out])
      | (go_at_call 36; refine (NetworkValid_any t  _ (lw_m HS) (by omega)).mono ?_; rw [← HPS.out]; rintro e V ⟨rfl, hV⟩; replace HS := lw_step HS hV; clear hV; rw [HOK.out])
      | (go_at_call 50; refine (sNetworkValid_any t  _ (by omega)).mono ?_; rw [← HPS.out]; rintro e V ⟨rfl, hV⟩; replace HS := lw_step HS hV; clear hV; rw [HOK.out])
      | (go_at_call 51; refine (RuleOf_any t s _ (lw_m HS) (by omega)).mono ?_; rw [← HPS.out]; rintro e V ⟨rfl, hV⟩; replace HS := lw_step HS hV; clear hV; rw [← HR.out])
      | (go_at_call 52; refine (sRuleOf_any t s _ (by omega)).mono ?_; rw [← HPS.out]; rintro e V ⟨rfl, hV⟩; replace HS := lw_step HS hV; clear hV; rw [← HR.out]))
    cases v
    · have hz : z = -1 := by rw [← HSZ.out, szN, HOK.out]; rfl
      have hbf : b = false := by rw [← HOW.out]; exact okW_sw (okSw_no HOK.out)
      subst hz hbf
      clear hzv
      go_loopw [11, 12] (fun o i wr => i = .int .i64 0 ∧ o = .string { data := #[] } ∧ Hid (LawW w wr [])) (fun _ i _ => 0)
      case atStart => exact ⟨rfl, rfl, HS⟩
      case round =>
        clear HS
        obtain ⟨rfl, rfl, HS⟩ := hrel
        go_wp2_with fail
        go_ret
        exact ⟨rfl, HS.out.b⟩
    have hn0 : 0 < ps.length := by rw [HPS.out]; exact (cutL_len _).2
    have hn5 := okN_le HOK.out
    have hz : z = (ps.length : Int) := by rw [← HSZ.out, szN, if_pos HOK.out]
    subst hz
    clear hzv hb1 hb3 hb4 hb5 hb6
    have HALL := Lib.hid (joinTo_all t HPS.out)
    have htt := bytes_eqb t
    cases b
    ·
      go_loopw [11, 12] (fun o i wr => ∃ k : Nat, k ≤ ps.length ∧ i = .int .i64 k ∧ o = .string (joinTo ps k) ∧ Hid (LawW w wr [])) (fun _ i _ => ps.length - (intOf i).toNat)
      case atStart => exact ⟨0, Nat.zero_le _, rfl, rfl, HS⟩
      case round =>
        clear HS
        obtain ⟨k, hk, rfl, rfl, HS⟩ := hrel
        have hjs := joinTo_size HOK.out hk
        by_cases hlt : k < ps.length
        · obtain ⟨p, HP⟩ : ∃ p, Hid (p = ps[k]) := ⟨_, Lib.hid rfl⟩
          have hpl : p.length ≤ 32 := by rw [HP.out]; exact okN_size HOK.out _ (List.getElem_mem hlt)
          have HRP : Hid (rulN ps (k : Int) = p) := Lib.hid (by rw [HP.out]; exact rulN_at HOK.out hlt)
          have HPT : Hid (okT p = true) := Lib.hid (by rw [HP.out]; exact (okN_of HOK.out (List.getElem_mem hlt)).1)
          have HPN : Hid (tin p.length = ps.length) := Lib.hid (by rw [HP.out]; exact (okN_of HOK.out (List.getElem_mem hlt)).2)
          have hnn : ((ps.length : Int) != (ps.length : Int)) = false := bne_self_eq_false _
          by_cases h0 : k = 0
          · have HE : Hid (joinTo ps k ++ ⟨p.toArray⟩ = joinTo ps (k + 1)) := Lib.hid (by rw [HP.out]; subst h0; rw [joinTo_zero]; exact joinTo_one hlt)
            have h00 : ¬ 0 < k := by omega
            clear h0
            go_wp2_with (first
              | (go_at_call 51; refine (RuleOf_any _ _ _ (lw_m HS) (by omega)).mono ?_; rintro e V ⟨rfl, hV⟩; replace HS := lw_step HS hV; clear hV; first | rw [← HPS.out, HRP.out] | rw [← HQS.out, HRP.out])
              | (go_at_call 53; refine (InputsOf_ok _ ps.length _ (by omega) HPT HPN).mono ?_; rintro e V ⟨rfl, hV⟩; replace HS := lw_step HS hV; clear hV))
            go_roundw
            case rel => exact ⟨k + 1, by omega, by go_num, by rw [← HE.out], HS⟩
            case measure => simp [intOf]; omega
          · have HE := Lib.hid (joinTo_succ hlt h0)
            rw [← HP.out] at HE
            have h00 : 0 < k := by omega
            clear h0
            go_wp2_with (first
              | (go_at_call 51; refine (RuleOf_any _ _ _ (lw_m HS) (by omega)).mono ?_; rintro e V ⟨rfl, hV⟩; replace HS := lw_step HS hV; clear hV; first | rw [← HPS.out, HRP.out] | rw [← HQS.out, HRP.out])
              | (go_at_call 53; refine (InputsOf_ok _ ps.length _ (by omega) HPT HPN).mono ?_; rintro e V ⟨rfl, hV⟩; replace HS := lw_step HS hV; clear hV))
            go_roundw
            case rel => exact ⟨k + 1, by omega, by go_num, by rw [← HE.out], HS⟩
            case measure => simp [intOf]; omega
        · have hkn : k = ps.length := by omega
          subst hkn
          rw [HALL.out]
          go_wp2_with fail
          go_ret
          exact ⟨rfl, HS.out.b⟩
    · obtain ⟨hsw, hT, hT2⟩ := okW_true HOW.out
      obtain ⟨_, i, rfl, hi⟩ := okSw_true hsw
      have hfl : f.length ≤ 32 := by rw [okT_size hT hT2]; exact two_le _ hn5
      have HOKN := okN_set HOK.out hT hT2 i
      have HQ : Hid (qs = ps.set i f) := Lib.hid (by
        rw [HQS.out, HTK.out, witN_yes HOW.out]
        exact cutL_join _ (by intro e; have := congrArg List.length e; rw [List.length_set] at this; simp at this; rw [this] at hn0; exact absurd hn0 (by decide)) (okN_comma HOKN))
      have HOKQ : Hid (okN qs = true) := Lib.hid (by rw [HQ.out]; exact HOKN)
      have HQL : Hid (qs.length = ps.length) := Lib.hid (by rw [HQ.out, List.length_set])
      have htk : tk.size ≤ 1000 := by
        have := joinTo_size HOKN (Nat.le_refl _)
        rw [joinTo, List.take_length] at this
        rw [HTK.out, witN_yes HOW.out]; exact this
      have hi2 : i < qs.length := by rw [HQL.out]; exact hi
      have HR2 : Hid (rulN ps (i : Int) = r) := Lib.hid HR.out.symm
      have hr : r = ps[i] := by rw [HR.out]; exact rulN_at HOK.out hi
      have hrl : r.length ≤ 32 := by rw [hr]; exact okN_size HOK.out _ (List.getElem_mem hi)
      have HR3 : Hid (rulN qs (i : Int) = f) := Lib.hid (by rw [rulN_at HOKQ.out hi2]; simp only [HQ.out, List.getElem_set_self])
      have HOW2 : Hid (okW qs (i : Int) r = true) := Lib.hid (by
        have h1 := okN_of HOK.out (List.getElem_mem hi)
        rw [← hr] at h1
        rw [okW, okSw, HOKQ.out, HQL.out, h1.1, h1.2]
        simp; omega)
      have HBK : Hid ((⟨(witN qs (i : Int) r).toArray⟩ : ByteArray) = t) := Lib.hid (by
        rw [witN_yes HOW2.out, HQ.out, List.set_set, hr, List.set_getElem_self, HPS.out, joinN_cut _ _ (Nat.le_refl _), str_of_list])
      have hff := bytes_eq2 (⟨f.toArray⟩ : ByteArray)
      have ht2 := bytes_eq2 t
      clear hsw hT hT2 hr HOKN
      go_loopw [11, 12] (fun o i wr => ∃ k : Nat, k ≤ ps.length ∧ i = .int .i64 k ∧ o = .string (joinTo ps k) ∧ Hid (LawW w wr [])) (fun _ i _ => ps.length - (intOf i).toNat)
      case atStart => exact ⟨0, Nat.zero_le _, rfl, rfl, HS⟩
      case round =>
        clear HS
        obtain ⟨k, hk, rfl, rfl, HS⟩ := hrel
        have hjs := joinTo_size HOK.out hk
        by_cases hlt : k < ps.length
        · obtain ⟨p, HP⟩ : ∃ p, Hid (p = ps[k]) := ⟨_, Lib.hid rfl⟩
          have hpl : p.length ≤ 32 := by rw [HP.out]; exact okN_size HOK.out _ (List.getElem_mem hlt)
          have HRP : Hid (rulN ps (k : Int) = p) := Lib.hid (by rw [HP.out]; exact rulN_at HOK.out hlt)
          have HPT : Hid (okT p = true) := Lib.hid (by rw [HP.out]; exact (okN_of HOK.out (List.getElem_mem hlt)).1)
          have HPN : Hid (tin p.length = ps.length) := Lib.hid (by rw [HP.out]; exact (okN_of HOK.out (List.getElem_mem hlt)).2)
          have hnn : ((ps.length : Int) != (ps.length : Int)) = false := bne_self_eq_false _
          by_cases hki : k = i
          · have hkd : ((k : Int) != (i : Int)) = false := by rw [hki]; exact bne_self_eq_false _
            clear hki
            by_cases h0 : k = 0
            · have HE : Hid (joinTo ps k ++ ⟨p.toArray⟩ = joinTo ps (k + 1)) := Lib.hid (by rw [HP.out]; subst h0; rw [joinTo_zero]; exact joinTo_one hlt)
              have h00 : ¬ 0 < k := by omega
              clear h0
              go_wp2_with (first
                | (go_at_call 51; refine (RuleOf_any _ _ _ (lw_m HS) (by omega)).mono ?_; rintro e V ⟨rfl, hV⟩; replace HS := lw_step HS hV; clear hV; first | rw [← HPS.out, HRP.out] | rw [← HQS.out, HRP.out])
                | (go_at_call 53; refine (InputsOf_ok _ ps.length _ (by omega) HPT HPN).mono ?_; rintro e V ⟨rfl, hV⟩; replace HS := lw_step HS hV; clear hV))
              go_roundw
              case rel => exact ⟨k + 1, by omega, by go_num, by rw [← HE.out], HS⟩
              case measure => simp [intOf]; omega
            · have HE := Lib.hid (joinTo_succ hlt h0)
              rw [← HP.out] at HE
              have h00 : 0 < k := by omega
              clear h0
              go_wp2_with (first
                | (go_at_call 51; refine (RuleOf_any _ _ _ (lw_m HS) (by omega)).mono ?_; rintro e V ⟨rfl, hV⟩; replace HS := lw_step HS hV; clear hV; first | rw [← HPS.out, HRP.out] | rw [← HQS.out, HRP.out])
                | (go_at_call 53; refine (InputsOf_ok _ ps.length _ (by omega) HPT HPN).mono ?_; rintro e V ⟨rfl, hV⟩; replace HS := lw_step HS hV; clear hV))
              go_roundw
              case rel => exact ⟨k + 1, by omega, by go_num, by rw [← HE.out], HS⟩
              case measure => simp [intOf]; omega
          · have hkd : ((k : Int) != (i : Int)) = true := by simp; omega
            have HRQ : Hid (rulN qs (k : Int) = p) := Lib.hid (by rw [HP.out, rulN_at HOKQ.out (by rw [HQL.out]; exact hlt)]; simp only [HQ.out, List.getElem_set]; rw [if_neg (fun e => hki e.symm)])
            have hpp := bytes_eqb (⟨p.toArray⟩ : ByteArray)
            clear hki
            by_cases h0 : k = 0
            · have HE : Hid (joinTo ps k ++ ⟨p.toArray⟩ = joinTo ps (k + 1)) := Lib.hid (by rw [HP.out]; subst h0; rw [joinTo_zero]; exact joinTo_one hlt)
              have h00 : ¬ 0 < k := by omega
              clear h0
              go_wp2_with (first
                | (go_at_call 51; refine (RuleOf_any _ _ _ (lw_m HS) (by omega)).mono ?_; rintro e V ⟨rfl, hV⟩; replace HS := lw_step HS hV; clear hV; first | rw [← HPS.out, HRP.out] | rw [← HQS.out, HRQ.out])
                | (go_at_call 53; refine (InputsOf_ok _ ps.length _ (by omega) HPT HPN).mono ?_; rintro e V ⟨rfl, hV⟩; replace HS := lw_step HS hV; clear hV))
              go_roundw
              case rel => exact ⟨k + 1, by omega, by go_num, by rw [← HE.out], HS⟩
              case measure => simp [intOf]; omega
            · have HE := Lib.hid (joinTo_succ hlt h0)
              rw [← HP.out] at HE
              have h00 : 0 < k := by omega
              clear h0
              go_wp2_with (first
                | (go_at_call 51; refine (RuleOf_any _ _ _ (lw_m HS) (by omega)).mono ?_; rintro e V ⟨rfl, hV⟩; replace HS := lw_step HS hV; clear hV; first | rw [← HPS.out, HRP.out] | rw [← HQS.out, HRQ.out])
                | (go_at_call 53; refine (InputsOf_ok _ ps.length _ (by omega) HPT HPN).mono ?_; rintro e V ⟨rfl, hV⟩; replace HS := lw_step HS hV; clear hV))
              go_roundw
              case rel => exact ⟨k + 1, by omega, by go_num, by rw [← HE.out], HS⟩
              case measure => simp [intOf]; omega
        · have hkn : k = ps.length := by omega
          subst hkn
          rw [HALL.out]
          go_wp2_with (first
            | (go_at_call 51; refine (RuleOf_any _ _ _ (lw_m HS) (by omega)).mono ?_; rintro e V ⟨rfl, hV⟩; replace HS := lw_step HS hV; clear hV; first | rw [← HPS.out, HR2.out] | rw [← HQS.out, HR3.out])
            | (go_at_call 47; refine (WithRule_any _ _ _ _ (lw_m HS) (by omega) (by omega)).mono ?_; rintro e V ⟨rfl, hV⟩; unfold txtV; replace HS := lw_step HS hV; clear hV; rw [← HQS.out, HBK.out, HOW2.out]))
          go_ret
          exact ⟨rfl, HS.out.b⟩

end Go.Proofs.YtpehimjngofnkaaDoor
