/- Walks of NetworkValid and IsReversible. -/
import Derived.Test.YtjinmoeabkpmaaaDoorProg
import Derived.WalkKit
import Derived.WalkSpells
import Derived.WalkLawsBesides
import Derived.Lib.Hide
import Derived.Test.YtjinmoeabkpmaaaDoorWz
namespace Go.Proofs.YtjinmoeabkpmaaaDoor
open Go.RowKit
set_option linter.unusedVariables false

def revN (ps : List (List UInt8)) : Bool := okN ps && (unrN ps).isEmpty

theorem NetworkValid_any (s : ByteArray) (w : World) (hm : Hid (HasM w)) (hs : s.size ≤ 1073741824) :
    Calls Tryd.prog 67 #[.string s] w fun e w' => e = .returned (.bool (okN (cutL s.data.toList))) ∧ Below w.heap.size w w' := by
  go_enter Tryd.func67, Tryd.ntmps67
  go_wp2_with fail
  refine (readNetwork_any s w hm hs).mono ?_
  rintro e w1 ⟨⟨A, k0, c, rfl, himp⟩, hB1⟩
  clear himp
  go_wp2
  go_ret
  exact ⟨rfl, hB1⟩

theorem IsReversible_any (s : ByteArray) (w : World) (hm : Hid (HasM w)) (hs : s.size ≤ 1073741824) :
    Calls Tryd.prog 69 #[.string s] w fun e w' => e = .returned (.bool (revN (cutL s.data.toList))) ∧ Below w.heap.size w w' := by
  obtain ⟨ps, HPS⟩ : ∃ ps, Hid (ps = cutL s.data.toList) := ⟨_, rfl⟩
  rw [← HPS.out]
  by_cases h : okN ps = true
  · have HOK := Lib.hid h
    have HV : Hid ((((unrN ps).length : Int) == 0) = revN ps) := Lib.hid (by rw [revN, h, Bool.true_and, Bool.eq_iff_iff]; simp)
    have hul := unrN_len ps
    clear h
    go_enter Tryd.func69, Tryd.ntmps69
    go_wp2_with fail
    refine (NetworkValid_any s w hm hs).mono ?_
    rintro e w1 ⟨rfl, hB1⟩
    rw [← HPS.out, HOK.out]
    go_wp2_with fail
    refine (UnreachedOf_any s _ (Lib.hid (hm.out.below hB1)) hs).mono ?_
    rintro e w2 ⟨⟨A2, c2, rfl, hc2, hO2⟩, hB2⟩
    rw [← HPS.out]
    go_wp2
    go_ret
    exact ⟨by rw [← HV.out]; first | rfl | simp, hB1.trans (hB2.mono hB1.size)⟩
  · have h' : okN ps = false := by simpa using h
    have HOK := Lib.hid h'
    have HV : Hid (revN ps = false) := Lib.hid (by rw [revN, h', Bool.false_and])
    clear h h'
    go_enter Tryd.func69, Tryd.ntmps69
    go_wp2_with fail
    refine (NetworkValid_any s w hm hs).mono ?_
    rintro e w1 ⟨rfl, hB1⟩
    rw [← HPS.out, HOK.out]
    go_wp2
    go_ret
    exact ⟨by rw [HV.out]; rfl, hB1⟩

theorem sIsReversible_any (s : ByteArray) (w : World) (hs : s.size ≤ 1073741824) :
    Calls Tryd.prog 70 #[.string s] w fun e w' => e = .returned (.bool (revN (cutL s.data.toList))) ∧ Below w.heap.size w w' := by
  obtain ⟨ps, HPS⟩ : ∃ ps, Hid (ps = cutL s.data.toList) := ⟨_, rfl⟩
  rw [← HPS.out]
  by_cases h : okN ps = true
  · have HOK := Lib.hid h
    have HV : Hid ((((unrN ps).length : Int) == 0) = revN ps) := Lib.hid (by rw [revN, h, Bool.true_and, Bool.eq_iff_iff]; simp)
    have hul := unrN_len ps
    clear h
    go_enter Tryd.func70, Tryd.ntmps70
    go_wp2_with fail
    refine (l3Open_any s w hs).mono ?_
    rintro e w1 ⟨⟨A, k0, c, rfl, himp⟩, hB1⟩
    clear himp
    rw [← HPS.out, HOK.out]
    go_wp2_with fail
    refine (sUnreachedOf_any s _ hs).mono ?_
    rintro e w2 ⟨⟨A2, c2, rfl, hc2, hO2⟩, hB2⟩
    rw [← HPS.out]
    go_wp2
    go_ret
    exact ⟨by rw [← HV.out]; first | rfl | simp, hB1.trans (hB2.mono hB1.size)⟩
  · have h' : okN ps = false := by simpa using h
    have HOK := Lib.hid h'
    have HV : Hid (revN ps = false) := Lib.hid (by rw [revN, h', Bool.false_and])
    clear h h'
    go_enter Tryd.func70, Tryd.ntmps70
    go_wp2_with fail
    refine (l3Open_any s w hs).mono ?_
    rintro e w1 ⟨⟨A, k0, c, rfl, himp⟩, hB1⟩
    clear himp
    rw [← HPS.out, HOK.out]
    go_wp2
    go_ret
    exact ⟨by rw [HV.out]; rfl, hB1⟩

end Go.Proofs.YtjinmoeabkpmaaaDoor
