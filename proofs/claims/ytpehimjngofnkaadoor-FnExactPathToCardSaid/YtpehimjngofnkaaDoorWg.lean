/- Walks of ReachableFrom, CanReach and IsSteady. Printed by wip/mkf.py. -/
import Derived.Test.YtpehimjngofnkaaDoorProg
import Derived.WalkKit
import Derived.WalkSpells
import Derived.WalkLawsBesides
import Derived.Lib.Hide
import Derived.Deep.QuietTactic
import Derived.BigQuiet
import Derived.Carry
import Derived.Test.YtpehimjngofnkaaDoorWf
import Derived.Test.YtpehimjngofnkaaDoorWj
namespace Go.Proofs.YtpehimjngofnkaaDoor
open Go.RowKit
set_option linter.unusedVariables false

theorem ReachableFrom1_any (b p5 k : Nat) (ks : List Int) (w : World) (h5 : w.cell? ⟨p5, 0, none⟩ = some (.map (some b))) (hS : Hid (SetAt w b ks)) :
    Calls Tryd.prog 78 #[.int .i64 (k : Int), .pointer (some ⟨p5, 0, none⟩)] w fun e w' => e = .returned (.bool (decide ((k : Int) ∈ ks))) ∧ w = w' := by
  have hrun := set_look hS.out (k : Int)
  obtain ⟨q, hq⟩ : ∃ q, q = decide ((k : Int) ∈ ks) := ⟨_, rfl⟩
  rw [← hq] at hrun ⊢
  clear hq
  go_enter Tryd.func78, Tryd.ntmps78
  go_wp2
  go_ret
  exact ⟨rfl, rfl⟩

set_option maxHeartbeats 400000 in
theorem ReachableFrom_any (s : ByteArray) (t : Int) (w : World) (hm : Hid (HasM w)) (hs : s.size ≤ 1073741824) :
    Calls Tryd.prog 37 #[.string s, .int .i64 t] w fun e w' => RetI w.heap.size (reaN (cutL s.data.toList) t) e w' ∧ Below w.heap.size w w' := by
  obtain ⟨ps, HPS⟩ : ∃ ps, Hid (ps = cutL s.data.toList) := ⟨_, rfl⟩
  rw [← HPS.out]
  by_cases h : okSt ps t = true
  · obtain ⟨hok, t, rfl, hlt⟩ := okSt_true h
    have hn5 := okN_le hok
    obtain ⟨N, HN, hN, hN32, hN0⟩ := wrap_two ps.length hn5
    have HOK := Lib.hid hok
    have HS := Lib.hid hlt
    have htN : t < N := by rw [HN.out]; exact hlt
    have HST := Lib.hid h
    have HV := Lib.hid (reaN_yes h HN.out)
    clear h hok hlt
    go_enter Tryd.func37, Tryd.ntmps37
    go_wp2_with fail
    refine (stateOf_any s ((t : Nat) : Int) w hm hs).mono ?_
    rintro e w1 ⟨⟨A, k0, c, rfl, himp⟩, hB1⟩
    rw [← HPS.out] at himp ⊢
    obtain ⟨rfl, hc, hO⟩ := himp HST.out
    rw [HST.out]
    have HR := Lib.hid hO.rd
    have hz1 := hB1.size
    clear hO himp
    go_wp2_with fail
    refine (reach_any _ _ _ N _ _ HR HOK HN htN).mono ?_
    rintro e w2 ⟨⟨b, met, rfl, hb, hS, hml, hM⟩, hB2⟩
    have HS2 := Lib.hid hS
    have HM2 := Lib.hid hM
    have hz2 := hB2.size
    have hbl := hS.lt
    have hB12 : Below w.heap.size w w2 := hB1.trans (hB2.mono hz1)
    clear hS hM hml
    have HX := Lib.hid (Blk.new w2 62 #[.map (some b)])
    have hBn : Below w2.heap.size w2 (w2.alloc (.cells #[.map (some b)] 62)) := (Below.refl _ _).alloc (Nat.le_refl _) _
    have HC : Hid (CloB (w2.alloc (.cells #[.map (some b)] 62)) N 78 #[.pointer (some ⟨w2.heap.size, 0, none⟩)] (rbN ps t)) := Lib.hid (fun k wX hk hBX => by
      have h := ReachableFrom1_any b w2.heap.size k (ints met) wX (((HX.out.keep hBX).cell 0).trans rfl) (Lib.hid (HS2.out.below (hBn.trans (hBX.mono (by rw [alloc_size]; omega)))))
      have e : decide ((k : Int) ∈ ints met) = rbN ps t k := by rw [← HM2.out k, Bool.eq_iff_iff, decide_eq_true_iff, decide_eq_true_iff, mem_ints]
      rw [e] at h
      exact h.mono fun e w' ⟨h1, h2⟩ => ⟨h1, by rw [← h2]; exact Below.refl _ _⟩)
    go_wp2_with fail
    refine (which_any _ _ _ N _ _ _ _ hn5 HN (fun _ _ => by kernel_rfl) HC).mono ?_
    rintro e w3 ⟨⟨A2, c2, rfl, hc2, hO2⟩, hB3⟩
    have hO2' := hO2.mono (show w.heap.size ≤ _ by rw [alloc_size]; omega)
    go_wp2
    go_ret
    exact ⟨⟨A2, c2, by rw [HV.out]; rfl, by rw [HV.out]; exact hc2, by rw [HV.out]; exact hO2'⟩, hB12.trans ((hBn.trans (hB3.mono (by rw [alloc_size]; omega))).mono hB12.size)⟩
  · have h' : okSt ps t = false := by simpa using h
    have HST := Lib.hid h'
    have HV := Lib.hid (reaN_no (t := t) h')
    clear h h'
    go_enter Tryd.func37, Tryd.ntmps37
    go_wp2_with fail
    refine (stateOf_any s t w hm hs).mono ?_
    rintro e w1 ⟨⟨A, k0, c, rfl, himp⟩, hB1⟩
    clear himp
    rw [← HPS.out, HST.out]
    go_wp2
    go_ret
    exact ⟨⟨none, 0, by rw [HV.out]; rfl, by rw [HV.out]; exact Nat.le_refl _, by rw [HV.out]; exact Own.nil _ _ _⟩, hB1⟩

set_option maxHeartbeats 400000 in
theorem CanReach_any (s : ByteArray) (t : Int) (u : Int) (w : World) (hm : Hid (HasM w)) (hs : s.size ≤ 1073741824) :
    Calls Tryd.prog 33 #[.string s, .int .i64 t, .int .i64 u] w fun e w' => e = .returned (.bool (canN (cutL s.data.toList) t u)) ∧ Below w.heap.size w w' := by
  obtain ⟨ps, HPS⟩ : ∃ ps, Hid (ps = cutL s.data.toList) := ⟨_, rfl⟩
  rw [← HPS.out]
  by_cases h : okSt ps t = true
  · obtain ⟨hok, t, rfl, hlt⟩ := okSt_true h
    have hn5 := okN_le hok
    obtain ⟨N, HN, hN, hN32, hN0⟩ := wrap_two ps.length hn5
    have HOK := Lib.hid hok
    have HS := Lib.hid hlt
    have htN : t < N := by rw [HN.out]; exact hlt
    have HST := Lib.hid h
    have HV := Lib.hid (trivial)
    clear h hok hlt
    go_enter Tryd.func33, Tryd.ntmps33
    go_wp2_with fail
    refine (stateOf_any s ((t : Nat) : Int) w hm hs).mono ?_
    rintro e w1 ⟨⟨A, k0, c, rfl, himp⟩, hB1⟩
    rw [← HPS.out] at himp ⊢
    obtain ⟨rfl, hc, hO⟩ := himp HST.out
    rw [HST.out]
    have HR := Lib.hid hO.rd
    have hz1 := hB1.size
    clear hO himp
    by_cases hu0 : 0 ≤ u
    · by_cases huN : u < N
      · obtain ⟨u, rfl⟩ : ∃ n : Nat, u = n := ⟨u.toNat, by omega⟩
        have HV2 := Lib.hid (canN_yes (u := u) HST.out HN.out (by omega))
        have huN' : u < N := by omega
        go_wp2_with fail
        refine (states_any _ _ _ N _ hn5 HN).mono ?_
        rintro e w5 ⟨rfl, rfl⟩
        go_wp2_with fail
        refine (reach_any _ _ _ N _ _ HR HOK HN htN).mono ?_
        rintro e w2 ⟨⟨b, met, rfl, hb, hS, hml, hM⟩, hB2⟩
        have hlk := set_look hS (u : Int)
        have e : decide ((u : Int) ∈ ints met) = rbN ps t u := by rw [← hM u, Bool.eq_iff_iff, decide_eq_true_iff, decide_eq_true_iff, mem_ints]
        rw [e] at hlk
        clear e hM hml hS
        have hB12 : Below w.heap.size w w2 := hB1.trans (hB2.mono hz1)
        go_wp2
        go_ret
        exact ⟨by rw [HV2.out]; first | rfl | simp, hB12⟩
      · have HV2 := Lib.hid (canN_out (ps := ps) (t := t) (u := u) HN.out (by omega))
        go_wp2_with fail
        refine (states_any _ _ _ N _ hn5 HN).mono ?_
        rintro e w5 ⟨rfl, rfl⟩
        go_wp2
        go_ret
        exact ⟨by rw [HV2.out]; rfl, hB1⟩
    · have HV2 := Lib.hid (canN_out (ps := ps) (t := t) (u := u) HN.out (by omega))
      go_wp2
      go_ret
      exact ⟨by rw [HV2.out]; rfl, hB1⟩
  · have h' : okSt ps t = false := by simpa using h
    have HST := Lib.hid h'
    have HV := Lib.hid (canN_no (t := t) (u := u) h')
    clear h h'
    go_enter Tryd.func33, Tryd.ntmps33
    go_wp2_with fail
    refine (stateOf_any s t w hm hs).mono ?_
    rintro e w1 ⟨⟨A, k0, c, rfl, himp⟩, hB1⟩
    clear himp
    rw [← HPS.out, HST.out]
    go_wp2
    go_ret
    exact ⟨by rw [HV.out]; rfl, hB1⟩

set_option maxHeartbeats 400000 in
theorem sCanReach_any (s : ByteArray) (t : Int) (u : Int) (w : World) (hs : s.size ≤ 1073741824) :
    Calls Tryd.prog 57 #[.string s, .int .i64 t, .int .i64 u] w fun e w' => e = .returned (.bool (canN (cutL s.data.toList) t u)) ∧ Below w.heap.size w w' := by
  obtain ⟨ps, HPS⟩ : ∃ ps, Hid (ps = cutL s.data.toList) := ⟨_, rfl⟩
  rw [← HPS.out]
  by_cases h : okSt ps t = true
  · obtain ⟨hok, t, rfl, hlt⟩ := okSt_true h
    have hn5 := okN_le hok
    obtain ⟨N, HN, hN, hN32, hN0⟩ := wrap_two ps.length hn5
    have HOK := Lib.hid hok
    have HS := Lib.hid hlt
    have htN : t < N := by rw [HN.out]; exact hlt
    have HST := Lib.hid h
    have HV := Lib.hid (trivial)
    clear h hok hlt
    go_enter Tryd.func57, Tryd.ntmps57
    go_wp2_with fail
    refine (l3State_any s ((t : Nat) : Int) w hs).mono ?_
    rintro e w1 ⟨⟨A, k0, c, rfl, himp⟩, hB1⟩
    rw [← HPS.out] at himp ⊢
    obtain ⟨rfl, hc, hO⟩ := himp HST.out
    rw [HST.out]
    have HR := Lib.hid hO.rd
    have hz1 := hB1.size
    clear hO himp
    by_cases hu0 : 0 ≤ u
    · by_cases huN : u < N
      · obtain ⟨u, rfl⟩ : ∃ n : Nat, u = n := ⟨u.toNat, by omega⟩
        have HV2 := Lib.hid (canN_yes (u := u) HST.out HN.out (by omega))
        have huN' : u < N := by omega
        have hin : (decide (0 ≤ (u : Int)) && decide ((u : Int) ≤ (N : Int) - 1)) = true := by simp; omega
        go_wp2_with fail
        refine (l3All_any _ _ _ N _ hn5 HN).mono ?_
        rintro e w5 ⟨rfl, rfl⟩
        go_wp2_with fail
        refine (l1In_any _ _ _ _).mono ?_
        rintro e w5 ⟨rfl, rfl⟩
        rw [hin]
        go_wp2_with fail
        refine (l5Reach_any _ _ _ N _ _ HR HOK HN htN).mono ?_
        rintro e w2 ⟨⟨A2, c2, rfl, hc2, hO2⟩, hB2⟩
        have hB12 : Below w.heap.size w w2 := hB1.trans (hB2.mono hz1)
        obtain ⟨g, off, hA, _, hcell, _⟩ := hO2.at_ (bolL_get (N := N) (rbN ps t) huN')
        subst hA
        go_wp2
        go_ret
        exact ⟨by rw [HV2.out]; first | rfl | simp, hB12⟩
      · have HV2 := Lib.hid (canN_out (ps := ps) (t := t) (u := u) HN.out (by omega))
        have hin : (decide (0 ≤ u) && decide (u ≤ (N : Int) - 1)) = false := by simp; omega
        go_wp2_with fail
        refine (l3All_any _ _ _ N _ hn5 HN).mono ?_
        rintro e w5 ⟨rfl, rfl⟩
        go_wp2_with fail
        refine (l1In_any _ _ _ _).mono ?_
        rintro e w5 ⟨rfl, rfl⟩
        rw [hin]
        go_wp2
        go_ret
        exact ⟨by rw [HV2.out]; rfl, hB1⟩
    · have HV2 := Lib.hid (canN_out (ps := ps) (t := t) (u := u) HN.out (by omega))
      have hin : (decide (0 ≤ u) && decide (u ≤ (N : Int) - 1)) = false := by simp; omega
      go_wp2_with fail
      refine (l3All_any _ _ _ N _ hn5 HN).mono ?_
      rintro e w5 ⟨rfl, rfl⟩
      go_wp2_with fail
      refine (l1In_any _ _ _ _).mono ?_
      rintro e w5 ⟨rfl, rfl⟩
      rw [hin]
      go_wp2
      go_ret
      exact ⟨by rw [HV2.out]; rfl, hB1⟩
  · have h' : okSt ps t = false := by simpa using h
    have HST := Lib.hid h'
    have HV := Lib.hid (canN_no (t := t) (u := u) h')
    clear h h'
    go_enter Tryd.func57, Tryd.ntmps57
    go_wp2_with fail
    refine (l3State_any s t w hs).mono ?_
    rintro e w1 ⟨⟨A, k0, c, rfl, himp⟩, hB1⟩
    clear himp
    rw [← HPS.out, HST.out]
    go_wp2
    go_ret
    exact ⟨by rw [HV.out]; rfl, hB1⟩

set_option maxHeartbeats 400000 in
theorem IsSteady_any (s : ByteArray) (t : Int) (w : World) (hm : Hid (HasM w)) (hs : s.size ≤ 1073741824) :
    Calls Tryd.prog 32 #[.string s, .int .i64 t] w fun e w' => e = .returned (.bool (stdN (cutL s.data.toList) t)) ∧ Below w.heap.size w w' := by
  obtain ⟨ps, HPS⟩ : ∃ ps, Hid (ps = cutL s.data.toList) := ⟨_, rfl⟩
  rw [← HPS.out]
  by_cases h : okSt ps t = true
  · obtain ⟨hok, t, rfl, hlt⟩ := okSt_true h
    have hn5 := okN_le hok
    obtain ⟨N, HN, hN, hN32, hN0⟩ := wrap_two ps.length hn5
    have HOK := Lib.hid hok
    have HS := Lib.hid hlt
    have htN : t < N := by rw [HN.out]; exact hlt
    have HST := Lib.hid h
    have HV := Lib.hid (stdN_yes h HN.out)
    clear h hok hlt
    go_enter Tryd.func32, Tryd.ntmps32
    go_wp2_with fail
    refine (stateOf_any s ((t : Nat) : Int) w hm hs).mono ?_
    rintro e w1 ⟨⟨A, k0, c, rfl, himp⟩, hB1⟩
    rw [← HPS.out] at himp ⊢
    obtain ⟨rfl, hc, hO⟩ := himp HST.out
    rw [HST.out]
    have HR := Lib.hid hO.rd
    have hz1 := hB1.size
    clear hO himp
    go_wp2_with fail
    refine (steady_any _ _ _ N _ _ HR HOK HN htN).mono ?_
    rintro e w2 ⟨rfl, hB2⟩
    have hB12 : Below w.heap.size w w2 := hB1.trans (hB2.mono hz1)
    go_wp2
    go_ret
    exact ⟨by rw [HV.out]; first | rfl | simp, hB12⟩
  · have h' : okSt ps t = false := by simpa using h
    have HST := Lib.hid h'
    have HV := Lib.hid (stdN_no (t := t) h')
    clear h h'
    go_enter Tryd.func32, Tryd.ntmps32
    go_wp2_with fail
    refine (stateOf_any s t w hm hs).mono ?_
    rintro e w1 ⟨⟨A, k0, c, rfl, himp⟩, hB1⟩
    clear himp
    rw [← HPS.out, HST.out]
    go_wp2
    go_ret
    exact ⟨by rw [HV.out]; rfl, hB1⟩

set_option maxHeartbeats 400000 in
theorem sIsSteady_any (s : ByteArray) (t : Int) (w : World) (hs : s.size ≤ 1073741824) :
    Calls Tryd.prog 41 #[.string s, .int .i64 t] w fun e w' => e = .returned (.bool (stdN (cutL s.data.toList) t)) ∧ Below w.heap.size w w' := by
  obtain ⟨ps, HPS⟩ : ∃ ps, Hid (ps = cutL s.data.toList) := ⟨_, rfl⟩
  rw [← HPS.out]
  by_cases h : okSt ps t = true
  · obtain ⟨hok, t, rfl, hlt⟩ := okSt_true h
    have hn5 := okN_le hok
    obtain ⟨N, HN, hN, hN32, hN0⟩ := wrap_two ps.length hn5
    have HOK := Lib.hid hok
    have HS := Lib.hid hlt
    have htN : t < N := by rw [HN.out]; exact hlt
    have HST := Lib.hid h
    have HV := Lib.hid (stdN_yes h HN.out)
    clear h hok hlt
    go_enter Tryd.func41, Tryd.ntmps41
    go_wp2_with fail
    refine (l3State_any s ((t : Nat) : Int) w hs).mono ?_
    rintro e w1 ⟨⟨A, k0, c, rfl, himp⟩, hB1⟩
    rw [← HPS.out] at himp ⊢
    obtain ⟨rfl, hc, hO⟩ := himp HST.out
    rw [HST.out]
    have HR := Lib.hid hO.rd
    have hz1 := hB1.size
    clear hO himp
    go_wp2_with fail
    refine (l5Steady_any _ _ _ N _ _ HR HOK HN htN).mono ?_
    rintro e w2 ⟨rfl, hB2⟩
    have hB12 : Below w.heap.size w w2 := hB1.trans (hB2.mono hz1)
    go_wp2
    go_ret
    exact ⟨by rw [HV.out]; first | rfl | simp, hB12⟩
  · have h' : okSt ps t = false := by simpa using h
    have HST := Lib.hid h'
    have HV := Lib.hid (stdN_no (t := t) h')
    clear h h'
    go_enter Tryd.func41, Tryd.ntmps41
    go_wp2_with fail
    refine (l3State_any s t w hs).mono ?_
    rintro e w1 ⟨⟨A, k0, c, rfl, himp⟩, hB1⟩
    clear himp
    rw [← HPS.out, HST.out]
    go_wp2
    go_ret
    exact ⟨by rw [HV.out]; rfl, hB1⟩

end Go.Proofs.YtpehimjngofnkaaDoor
