/- Walks of CountSteps, the program's and the reference's. -/
import Derived.Test.YtjinmoeabkpmaaaDoorProg
import Derived.WalkKit
import Derived.WalkSpells
import Derived.WalkLawsBesides
import Derived.Lib.Hide
import Derived.Deep.QuietTactic
import Derived.BigQuiet
import Derived.Test.YtjinmoeabkpmaaaDoorWy
namespace Go.Proofs.YtjinmoeabkpmaaaDoor
open Go.RowKit

theorem sCountSteps_any (s : ByteArray) (w : World) (hs : s.size ≤ 1073741824) :
    Calls Tryd.prog 41 #[.string s] w fun e w' => e = .returned (.int .i64 (cntN (cutL s.data.toList))) ∧ Below w.heap.size w w' := by
  obtain ⟨ps, HPS⟩ : ∃ ps, Hid (ps = cutL s.data.toList) := ⟨_, rfl⟩
  rw [← HPS.out]
  by_cases h : okN ps = true
  · have hn5 := okN_le h
    obtain ⟨N, HN, hN, hN32, hN0⟩ := wrap_two ps.length hn5
    have HOK := Lib.hid h
    rw [cntN_yes h HN.out]
    have HL := Lib.hid (fun k => cntTo_le h k)
    clear h
    go_enter Tryd.func41, Tryd.ntmps41
    go_wp2_with fail
    refine (l3Open_any s w hs).mono ?_
    rintro e w1 ⟨⟨A, k, c, rfl, himp⟩, hB1⟩
    rw [← HPS.out] at himp ⊢
    obtain ⟨rfl, hc, hO⟩ := himp HOK.out
    rw [HOK.out]
    have HR := Lib.hid hO.rd
    have hz1 := hB1.size
    clear hO himp
    go_wp2
    go_loopw [5, 6] (fun v q wr => ∃ k : Nat, k ≤ N ∧ q = .int .i64 k ∧ v = .int .i64 (cntTo ps k : Int) ∧ Below w1.heap.size w1 wr) (fun _ q _ => N - (intOf q).toNat)
    case atStart => exact ⟨0, Nat.zero_le _, rfl, rfl, Below.refl _ _⟩
    case round =>
      obtain ⟨k, hk, rfl, rfl, hB⟩ := hrel
      have hsz := hB.size
      have hcl := HL.out k
      by_cases hlt : k < N
      · have HS : Hid (k < 2 ^ ps.length) := Lib.hid (by rw [← HN.out]; exact hlt)
        have hnl := nextN_len HOK.out k
        have hil : (ints (nextN ps k)).length = (nextN ps k).length := ints_length _
        go_wp2_with (first
          | (go_at_call 94; refine (l3All_any _ _ _ N _ hn5 HN).mono ?_; rintro e w2 ⟨rfl, rfl⟩)
          | (go_at_call 100; refine (l5Next_any _ _ _ _ _ (Lib.hid (HR.out.below hB)) HOK HS).mono ?_; rintro e w3 ⟨⟨A3, c3, rfl, hc3, hO3⟩, hB3⟩))
        go_roundw
        case rel => exact ⟨k + 1, by omega, by go_num, by rw [cntTo, ← hil]; go_num, hB.trans (hB3.mono hsz)⟩
        case measure => simp [intOf]; omega
      · have hkn : k = N := by omega
        subst hkn
        go_wp2_with (go_at_call 94; refine (l3All_any _ _ _ k _ hn5 HN).mono ?_; rintro e w2 ⟨rfl, rfl⟩)
        go_ret
        exact ⟨rfl, hB1.trans (hB.mono hz1)⟩
  · have h' : okN ps = false := by simpa using h
    have HOK := Lib.hid h'
    rw [cntN_no h']
    clear h h'
    go_enter Tryd.func41, Tryd.ntmps41
    go_wp2_with fail
    refine (l3Open_any s w hs).mono ?_
    rintro e w1 ⟨⟨A, k, c, rfl, himp⟩, hB1⟩
    clear himp
    rw [← HPS.out, HOK.out]
    go_wp2
    go_ret
    exact ⟨rfl, hB1⟩

theorem CountSteps_any (s : ByteArray) (w : World) (hm : Hid (HasM w)) (hs : s.size ≤ 1073741824) :
    Calls Tryd.prog 40 #[.string s] w fun e w' => e = .returned (.int .i64 (cntN (cutL s.data.toList))) ∧ Below w.heap.size w w' := by
  obtain ⟨ps, HPS⟩ : ∃ ps, Hid (ps = cutL s.data.toList) := ⟨_, rfl⟩
  rw [← HPS.out]
  by_cases h : okN ps = true
  · have hn5 := okN_le h
    obtain ⟨N, HN, hN, hN32, hN0⟩ := wrap_two ps.length hn5
    have HOK := Lib.hid h
    rw [cntN_yes h HN.out]
    have HL := Lib.hid (fun k => cntTo_le h k)
    clear h
    go_enter Tryd.func40, Tryd.ntmps40
    go_wp2_with fail
    refine (readNetwork_any s w hm hs).mono ?_
    rintro e w1 ⟨⟨A, k, c, rfl, himp⟩, hB1⟩
    rw [← HPS.out] at himp ⊢
    obtain ⟨rfl, hc, hO⟩ := himp HOK.out
    rw [HOK.out]
    have HR := Lib.hid hO.rd
    have hz1 := hB1.size
    clear hO himp
    go_wp2_with fail
    refine (states_any _ _ _ N _ hn5 HN).mono ?_
    rintro e w2 ⟨rfl, rfl⟩
    go_wp2
    go_loopw [5, 16] (fun v q wr => ∃ k : Nat, k ≤ N ∧ q = .int .i64 k ∧ v = .int .i64 (cntTo ps k : Int) ∧ Below w1.heap.size w1 wr) (fun _ q _ => N - (intOf q).toNat)
    case atStart => exact ⟨0, Nat.zero_le _, rfl, rfl, Below.refl _ _⟩
    case round =>
      obtain ⟨k, hk, rfl, rfl, hB⟩ := hrel
      have hsz := hB.size
      have hcl := HL.out k
      by_cases hlt : k < N
      · have HS : Hid (k < 2 ^ ps.length) := Lib.hid (by rw [← HN.out]; exact hlt)
        have hnl := nextN_len HOK.out k
        have hil : (ints (nextN ps k)).length = (nextN ps k).length := ints_length _
        go_wp2_with (go_at_call 99; refine (next_any _ _ _ _ _ (Lib.hid (HR.out.below hB)) HOK HS).mono ?_; rintro e w3 ⟨⟨A3, c3, rfl, hc3, hO3⟩, hB3⟩)
        go_roundw
        case rel => exact ⟨k + 1, by omega, by go_num, by rw [cntTo, ← hil]; go_num, hB.trans (hB3.mono hsz)⟩
        case measure => simp [intOf]; omega
      · have hkn : k = N := by omega
        subst hkn
        go_wp2
        go_ret
        exact ⟨rfl, hB1.trans (hB.mono hz1)⟩
  · have h' : okN ps = false := by simpa using h
    have HOK := Lib.hid h'
    rw [cntN_no h']
    clear h h'
    go_enter Tryd.func40, Tryd.ntmps40
    go_wp2_with fail
    refine (readNetwork_any s w hm hs).mono ?_
    rintro e w1 ⟨⟨A, k, c, rfl, himp⟩, hB1⟩
    clear himp
    rw [← HPS.out, HOK.out]
    go_wp2
    go_ret
    exact ⟨rfl, hB1⟩

end Go.Proofs.YtjinmoeabkpmaaaDoor
