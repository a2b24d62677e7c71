/- Walks: another rule of a switch on the reference's side; the rule of a switch; a draw of both. -/
import Derived.Test.YtpehimjngofnkaaDoorProg
import Derived.WalkKit
import Derived.WalkSpells
import Derived.WalkLawsBesides
import Derived.Lib.Hide
import Derived.Deep.QuietTactic
import Derived.Deep.RegionWith
import Derived.OwnWalk
import Derived.BigQuiet
import Derived.Test.YtpehimjngofnkaaDoorG3
import Derived.Test.YtpehimjngofnkaaDoorN1
namespace Go.Proofs.YtpehimjngofnkaaDoor
open Go.RowKit
set_option linter.unusedVariables false

theorem sNetworkValid_any (s : ByteArray) (w : World) (hs : s.size ≤ 1073741824) :
    Calls Tryd.prog 50 #[.string s] w fun e w' => e = .returned (.bool (okN (cutL s.data.toList))) ∧ Below w.heap.size w w' := by
  go_enter Tryd.func50, Tryd.ntmps50
  go_wp2_with fail
  refine (l3Open_any s w hs).mono ?_
  rintro e w1 ⟨⟨A, k0, c, rfl, himp⟩, hB1⟩
  clear himp
  go_wp2
  go_ret
  exact ⟨rfl, hB1⟩

theorem okSw_in {ps : List (List UInt8)} {t : Int} (h1 : okN ps = true) : (decide ((0 : Int) ≤ t) && decide (t ≤ (ps.length : Int) - 1)) = okSw ps t := by
  rw [okSw, h1, Bool.true_and]
  congr 1
  rw [decide_eq_decide]; omega
theorem okW_sw {ps : List (List UInt8)} {t : Int} {fl : List UInt8} (h : okSw ps t = false) : okW ps t fl = false := by rw [okW, h]; rfl
theorem okSw_no {ps : List (List UInt8)} {t : Int} (h : okN ps = false) : okSw ps t = false := by rw [okSw, h]; rfl
theorem okT_size {fl : List UInt8} (h : okT fl = true) {n : Nat} (hn : tin fl.length = n) : fl.length = 2 ^ n := by
  rw [← hn]; exact (okT_true h).2.2.1

set_option maxHeartbeats 1000000 in
theorem sRuleOf_any (s : ByteArray) (t : Int) (w : World) (hs : s.size ≤ 1073741824) :
    Calls Tryd.prog 52 #[.string s, .int .i64 t] w fun e w' => e = .returned (.string ⟨(rulN (cutL s.data.toList) t).toArray⟩) ∧ Below w.heap.size w w' := by
  obtain ⟨ps, HPS⟩ : ∃ ps, Hid (ps = cutL s.data.toList) := ⟨_, Lib.hid rfl⟩
  rw [← HPS.out]
  by_cases h1 : okN ps = true
  · have HOK := Lib.hid h1
    have hn5 := okN_le h1
    have hIn := okSw_in (t := t) h1
    clear h1
    by_cases h : okSw ps t = true
    · obtain ⟨_, k, rfl, hlt⟩ := okSw_true h
      have HW := Lib.hid h
      have HV : Hid (rulN ps (k : Int) = ps[k]) := Lib.hid (by rw [rulN, if_pos h, Int.toNat_natCast, List.getD_eq_getElem?_getD, List.getElem?_eq_getElem hlt]; rfl)
      clear h
      go_enter Tryd.func52, Tryd.ntmps52
      go_wp2_with fail
      refine (l3Open_any s w hs).mono ?_
      rintro e w1 ⟨⟨A, k0, c, rfl, himp⟩, hB1⟩
      rw [← HPS.out] at himp ⊢
      obtain ⟨rfl, hc, hO⟩ := himp HOK.out
      rw [HOK.out]
      obtain ⟨g, off, hA, hcell⟩ := hO.rd.text hlt
      subst hA
      clear hO himp
      go_wp2_with (go_at_call 99; refine (l1In_any _ _ _ _).mono ?_; rintro e w2 ⟨rfl, rfl⟩; rw [hIn, HW.out])
      go_ret
      exact ⟨by rw [HV.out]; rfl, hB1⟩
    · have HW : Hid (okSw ps t = false) := Lib.hid (by simpa using h)
      have HV : Hid (rulN ps t = []) := Lib.hid (by rw [rulN, if_neg h])
      clear h
      go_enter Tryd.func52, Tryd.ntmps52
      go_wp2_with fail
      refine (l3Open_any s w hs).mono ?_
      rintro e w1 ⟨⟨A, k0, c, rfl, himp⟩, hB1⟩
      rw [← HPS.out] at himp ⊢
      obtain ⟨rfl, hc, hO⟩ := himp HOK.out
      rw [HOK.out]
      clear hO himp
      go_wp2_with (go_at_call 99; refine (l1In_any _ _ _ _).mono ?_; rintro e w2 ⟨rfl, rfl⟩; rw [hIn, HW.out])
      go_ret
      exact ⟨by rw [HV.out]; rfl, hB1⟩
  · have HOK : Hid (okN ps = false) := Lib.hid (by simpa using h1)
    have HV : Hid (rulN ps t = []) := Lib.hid (by rw [rulN, okSw_no HOK.out]; rfl)
    clear h1
    go_enter Tryd.func52, Tryd.ntmps52
    go_wp2_with fail
    refine (l3Open_any s w hs).mono ?_
    rintro e w1 ⟨⟨A, k0, c, rfl, himp⟩, hB1⟩
    clear himp
    rw [← HPS.out, HOK.out]
    go_wp2
    go_ret
    exact ⟨by rw [HV.out]; rfl, hB1⟩

set_option maxHeartbeats 2000000 in
set_option maxRecDepth 100000 in
theorem sWithRule_any (s : ByteArray) (t : Int) (fl : List UInt8) (w : World) (hs : s.size ≤ 1073741824) (hl : fl.length ≤ 1000000) :
    Calls Tryd.prog 48 #[.string s, .int .i64 t, .string ⟨fl.toArray⟩] w fun e w' => e = .returned (txtV (witN (cutL s.data.toList) t fl) (okW (cutL s.data.toList) t fl)) ∧ Below w.heap.size w w' := by
  obtain ⟨ps, HPS⟩ : ∃ ps, Hid (ps = cutL s.data.toList) := ⟨_, Lib.hid rfl⟩
  rw [← HPS.out]
  by_cases h1 : okN ps = true
  · have HOK := Lib.hid h1
    have hn5 := okN_le h1
    have hIn := okSw_in (t := t) h1
    have hps0 : 0 < ps.length := by rw [HPS.out]; exact (cutL_len _).2
    by_cases h : okSw ps t = true
    · obtain ⟨_, k, rfl, hlt⟩ := okSw_true h
      have HW := Lib.hid h
      obtain ⟨N, HN, hN32, hN0⟩ : ∃ N : Nat, Hid (N = 2 ^ ps.length) ∧ N ≤ 32 ∧ 0 < N := ⟨_, Lib.hid rfl, two_le _ hn5, Nat.pos_of_ne_zero (by simp)⟩
      have HLN : Hid (ps[0].length = N) := Lib.hid (part_len h1 HN.out hps0)
      have HLL : Hid (∀ p ∈ ps, p.length ≤ 1000) := Lib.hid (fun p hp => by
        obtain ⟨j, hj, rfl⟩ := List.getElem_of_mem hp
        rw [part_len h1 HN.out hj]; omega)
      by_cases hT : okT fl = true
      · have HT := Lib.hid hT
        by_cases hT2 : fl.length = N
        · have HTN : Hid (tin fl.length = ps.length) := Lib.hid (by
            rw [hT2, HN.out, tin_pow _ hps0 hn5])
          have HOW : Hid (okW ps (k : Int) fl = true) := Lib.hid (by rw [okW, h, hT, HTN.out]; simp)
          have HV := Lib.hid (witN_yes HOW.out)
          have hd : ((fl.length : Int) != (ps[0].length : Int)) = false := by rw [hT2, HLN.out]; exact bne_self_eq_false _
          have HLS : Hid (∀ p ∈ ps.set k fl, p.length ≤ 1000) := Lib.hid (fun p hp => by
            rcases List.mem_or_eq_of_mem_set hp with hp | rfl
            · exact HLL.out p hp
            · omega)
          clear h h1 hT
          go_enter Tryd.func48, Tryd.ntmps48
          go_wp2_with fail
          refine (l3Open_any s w hs).mono ?_
          rintro e w1 ⟨⟨A, k0, c, rfl, himp⟩, hB1⟩
          rw [← HPS.out] at himp ⊢
          obtain ⟨rfl, hc, hO⟩ := himp HOK.out
          rw [HOK.out]
          have HO := Lib.hid hO
          obtain ⟨g, off, hA, hBg, hc1, hf1⟩ := hO.at_ (strs_get hlt)
          subst hA
          have hc0 := (hO.cell (strs_get hps0)).1
          rw [Nat.add_zero] at hc0
          have hset := hO.set_ (u := .string ⟨fl.toArray⟩) (strs_get hlt)
          have hse : (strs ps).set k (.string ⟨fl.toArray⟩) = strs (ps.set k fl) := by rw [strs, strs, List.map_set]
          rw [hse] at hset
          have HSET := Lib.hid hset
          have HBG := Lib.hid hBg
          have HTX := l3Text_any (some ⟨g, off, none⟩) c (ps.set k fl) _ (Lib.hid hset.rd) HLS (by rw [List.length_set]; omega)
          rw [List.length_set] at HTX
          have HTX2 := Lib.hid HTX
          have HB1 := Lib.hid hB1
          clear HTX hset hse hO himp hBg hB1
          go_wp2_with (first
            | (go_at_call 99; refine (l1In_any _ _ _ _).mono ?_; rintro e w2 ⟨rfl, rfl⟩; rw [hIn, HW.out])
            | (go_at_call 100; refine (sTableValidL fl _ (by omega)).mono ?_; rintro e w2 ⟨rfl, rfl⟩; rw [HT.out])
            | (go_at_call 86; refine HTX2.out.mono ?_; rintro e w2 ⟨rfl, rfl⟩))
          go_ret2
          exact ⟨by rw [HV.out, HOW.out]; rfl, HB1.out.setCell HBG.out _⟩
        · have hTN : ¬ tin fl.length = ps.length := fun e => hT2 (by rw [okT_size hT e, HN.out])
          have HOW : Hid (okW ps (k : Int) fl = false) := Lib.hid (by rw [okW, h, hT]; simp [hTN])
          have HV := Lib.hid (witN_no HOW.out)
          have hd : ((fl.length : Int) != (ps[0].length : Int)) = true := by rw [HLN.out]; simp; omega
          clear h h1 hT hTN
          go_enter Tryd.func48, Tryd.ntmps48
          go_wp2_with fail
          refine (l3Open_any s w hs).mono ?_
          rintro e w1 ⟨⟨A, k0, c, rfl, himp⟩, hB1⟩
          rw [← HPS.out] at himp ⊢
          obtain ⟨rfl, hc, hO⟩ := himp HOK.out
          rw [HOK.out]
          obtain ⟨g, off, hA, hBg, hc0, hf1⟩ := hO.at_ (strs_get hps0)
          subst hA
          rw [Nat.add_zero] at hc0
          clear hO himp hf1
          go_wp2_with (first
            | (go_at_call 99; refine (l1In_any _ _ _ _).mono ?_; rintro e w2 ⟨rfl, rfl⟩; rw [hIn, HW.out])
            | (go_at_call 100; refine (sTableValidL fl _ (by omega)).mono ?_; rintro e w2 ⟨rfl, rfl⟩; rw [HT.out]))
          go_ret2
          exact ⟨by rw [HV.out, HOW.out]; rfl, hB1⟩
      · have HT : Hid (okT fl = false) := Lib.hid (by simpa using hT)
        have HOW : Hid (okW ps (k : Int) fl = false) := Lib.hid (by rw [okW, HT.out]; simp)
        have HV := Lib.hid (witN_no HOW.out)
        clear h h1 hT
        go_enter Tryd.func48, Tryd.ntmps48
        go_wp2_with fail
        refine (l3Open_any s w hs).mono ?_
        rintro e w1 ⟨⟨A, k0, c, rfl, himp⟩, hB1⟩
        rw [← HPS.out] at himp ⊢
        obtain ⟨rfl, hc, hO⟩ := himp HOK.out
        rw [HOK.out]
        clear hO himp
        go_wp2_with (first
          | (go_at_call 99; refine (l1In_any _ _ _ _).mono ?_; rintro e w2 ⟨rfl, rfl⟩; rw [hIn, HW.out])
          | (go_at_call 100; refine (sTableValidL fl _ (by omega)).mono ?_; rintro e w2 ⟨rfl, rfl⟩; rw [HT.out]))
        go_ret2
        exact ⟨by rw [HV.out, HOW.out]; rfl, hB1⟩
    · have HW : Hid (okSw ps t = false) := Lib.hid (by simpa using h)
      have HOW : Hid (okW ps t fl = false) := Lib.hid (okW_sw HW.out)
      have HV := Lib.hid (witN_no HOW.out)
      clear h h1
      go_enter Tryd.func48, Tryd.ntmps48
      go_wp2_with fail
      refine (l3Open_any s w hs).mono ?_
      rintro e w1 ⟨⟨A, k0, c, rfl, himp⟩, hB1⟩
      rw [← HPS.out] at himp ⊢
      obtain ⟨rfl, hc, hO⟩ := himp HOK.out
      rw [HOK.out]
      clear hO himp
      go_wp2_with (go_at_call 99; refine (l1In_any _ _ _ _).mono ?_; rintro e w2 ⟨rfl, rfl⟩; rw [hIn, HW.out])
      go_ret2
      exact ⟨by rw [HV.out, HOW.out]; rfl, hB1⟩
  · have HOK : Hid (okN ps = false) := Lib.hid (by simpa using h1)
    have HOW : Hid (okW ps t fl = false) := Lib.hid (okW_sw (okSw_no HOK.out))
    have HV := Lib.hid (witN_no HOW.out)
    clear h1
    go_enter Tryd.func48, Tryd.ntmps48
    go_wp2_with fail
    refine (l3Open_any s w hs).mono ?_
    rintro e w1 ⟨⟨A, k0, c, rfl, himp⟩, hB1⟩
    clear himp
    rw [← HPS.out, HOK.out]
    go_wp2
    go_ret2
    exact ⟨by rw [HV.out, HOW.out]; rfl, hB1⟩

theorem many_half (S n : Nat) : S * n = 2 * (S * (n / 2)) + S * (n % 2) := by
  conv => lhs; rw [← Nat.div_add_mod n 2]
  rw [Nat.mul_add, Nat.mul_left_comm]
set_option maxHeartbeats 1000000 in
theorem l14Many_any (s : ByteArray) (n M : Nat) (w : World) (hM : s.size * n ≤ M) (hM2 : M ≤ 1000000) (hn : n ≤ 1000000) :
    Calls Tryd.prog 126 #[.string s, .int .i64 (n : Int)] w fun e w' => ∃ t : ByteArray, e = .returned (.string t) ∧ t.size ≤ M ∧ w = w' := by
  go_enter Tryd.func126, Tryd.ntmps126
  go_wp2
  go_loopw [0, 1, 5] (fun a b o wr => ∃ (S : ByteArray) (m : Nat) (O : ByteArray), a = .string S ∧ b = .int .i64 (m : Int) ∧ o = .string O ∧ S.size * m + O.size ≤ M ∧ m ≤ 1000000 ∧ wr = w) (fun _ b _ _ => (intOf b).toNat)
  case atStart => exact ⟨s, n, _, rfl, rfl, rfl, (by show s.size * n + 0 ≤ M; omega), hn, rfl⟩
  case round =>
    obtain ⟨S, m, O, rfl, rfl, rfl, hb, hm, hw⟩ := hrel
    subst hw
    by_cases h0 : 0 < m
    · have h1 : S.size ≤ S.size * m := Nat.le_mul_of_pos_right _ h0
      have h2 := many_half S.size m
      have h3 : ((m : Int).tmod 2) = ((m % 2 : Nat) : Int) := rfl
      have h4 : ((m : Int).tdiv 2) = ((m / 2 : Nat) : Int) := rfl
      by_cases h5 : m % 2 = 1
      · rw [h5] at h2 h3
        have h6 : ((m : Int).tmod 2 == 1) = true := by rw [h3]; rfl
        go_wp2_with fail
        go_roundw
        case rel => exact ⟨S ++ S, m / 2, O ++ S, rfl, by go_num, rfl, by simp [Nat.add_mul]; omega, by omega, by first | trivial | rfl⟩
        case measure => simp [intOf]; omega
      · have h5' : m % 2 = 0 := by omega
        rw [h5'] at h2 h3
        have h6 : ((m : Int).tmod 2 == 1) = false := by rw [h3]; rfl
        go_wp2_with fail
        go_roundw
        case rel => exact ⟨S ++ S, m / 2, O, rfl, by go_num, rfl, by simp [Nat.add_mul]; omega, by omega, by first | trivial | rfl⟩
        case measure => simp [intOf]; omega
    · have hm0 : m = 0 := by omega
      subst hm0
      go_wp2
      go_ret
      exact ⟨O, rfl, by omega, rfl⟩

end Go.Proofs.YtpehimjngofnkaaDoor
