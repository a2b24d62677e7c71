/- The walk of the exact law of AttractorsOf. -/
import Derived.Test.YtpehimjngofnkaaDoorProg
import Derived.WalkKit
import Derived.WalkSpells
import Derived.WalkLawsBesides
import Derived.Lib.Hide
import Derived.Deep.QuietTactic
import Derived.BigQuiet
import Derived.Test.YtpehimjngofnkaaDoorLa
import Derived.Test.YtpehimjngofnkaaDoorQ1
import Derived.Test.YtpehimjngofnkaaDoorYm
namespace Go.Proofs.YtpehimjngofnkaaDoor
open Go.RowKit
set_option linter.unusedVariables false

set_option maxHeartbeats 1000000 in
theorem fnExactAttractorsOf_walk (a0 : ByteArray) (w : World) (hm : Hid (HasM w)) (w0 : a0.size ≤ maxLen) :
    Calls Tryd.prog 4 #[.string a0] w fun e w' => e = .returned (.bool true) ∧ Below w.heap.size w w' := by
  unfold maxLen at w0
  by_cases h0 : 1048576 < a0.size
  · go_enter Tryd.func4, Tryd.ntmps4
    go_wp2
    go_ret
    exact ⟨rfl, Below.refl _ _⟩
  · obtain ⟨L, HL⟩ : ∃ L, Hid (L = attN (cutL a0.data.toList)) := ⟨_, rfl⟩
    have hL : L.length ≤ 1000 := by rw [HL.out]; exact attN_len _
    have HLB : Hid (∀ xs ∈ L, xs.length ≤ 1000) := Lib.hid (by rw [HL.out]; exact attN_lens _)
    obtain ⟨u, HU⟩ : ∃ u, Hid (u = 1 + tot L L.length) := ⟨_, rfl⟩
    have hd : ((u : Int) != (u : Int)) = false := bne_self_eq_false _
    go_enter Tryd.func4, Tryd.ntmps4
    go_wp2_with fail
    refine (sAttractorsOf_any a0 _ (by omega)).mono ?_
    rintro e W1 ⟨⟨A0, c0, gs0, ys0, rfl, hc0, hO0, hL0⟩, hB0⟩
    rw [← HL.out] at hc0 hL0 ⊢
    have hz1 := hB0.size
    have HO0 := Lib.hid hO0
    have HL0 := Lib.hid hL0
    clear hO0 hL0
    go_wp2_with fail
    refine (AttractorsOf_any a0 _ (Lib.hid (hm.out.below hB0)) (by omega)).mono ?_
    rintro e W2 ⟨⟨A1, c1, gs1, ys1, rfl, hc1, hO1, hL1⟩, hB1⟩
    rw [← HL.out] at hc1 hL1 ⊢
    have hz2 := hB1.size
    have HO1 := Lib.hid hO1
    have HL1 := Lib.hid hL1
    clear hO1 hL1
    go_wp2_with fail
    refine (eqIntSS_same A1 A0 c1 c0 _ _ gs1 gs0 ys1 ys0 L _ _ W2 (Lib.hid HO1.out.rd) (Lib.hid (HO0.out.rd.below hB1)) (Lib.hid HL1.out) (Lib.hid (HL0.out.below hB1)) hL HLB).mono ?_
    rintro e W3 ⟨rfl, n, rfl⟩
    go_wp2_with fail
    refine (markIntSS_any A1 c1 W1.heap.size gs1 ys1 L (W2.drewN n) hz2 (Lib.hid (HO1.out.rd.below (drewN_below _ _))) (Lib.hid (HL1.out.below (drewN_below _ _))) hL HLB).mono ?_
    rintro e W3 ⟨xsl, rfl, hM, hL3, hR3, hB3⟩
    rw [← HU.out]
    have HM := Lib.hid hM
    have HL3 := Lib.hid hL3
    have HR3 := Lib.hid hR3
    have hz3 : W2.heap.size ≤ W3.heap.size := hB3.size
    have hB13 : Below W1.heap.size W1 W3 := (hB1.trans (drewN_below _ _)).trans hB3
    clear hM hL3 hR3
    go_wp2_with fail
    refine (heldIntSS_any A1 c1 W1.heap.size gs1 ys1 L xsl _ W3 HR3 HL3 HM hL HLB).mono ?_
    rintro e W4 ⟨rfl, rfl⟩
    rw [← HU.out]
    go_wp2_with fail
    refine (AttractorsOf_any a0 _ (Lib.hid ((hm.out.below hB0).below hB13)) (by omega)).mono ?_
    rintro e W5 ⟨⟨A5, c5, gs5, ys5, rfl, hc5, hO5, hL5⟩, hB5⟩
    rw [← HL.out] at hc5 hL5 ⊢
    have HO5 := Lib.hid hO5
    have HL5 := Lib.hid hL5
    clear hO5 hL5
    have hB15 : Below W1.heap.size W1 W5 := hB13.trans (hB5.mono (by omega))
    go_wp2_with fail
    refine (eqIntSS_same A5 A0 c5 c0 _ _ gs5 gs0 ys5 ys0 L _ _ W5 (Lib.hid HO5.out.rd) (Lib.hid (HO0.out.rd.below hB15)) (Lib.hid HL5.out) (Lib.hid (HL0.out.below hB15)) hL HLB).mono ?_
    rintro e W6 ⟨rfl, n6, rfl⟩
    go_wp2_with fail
    refine (heldIntSS_any A1 c1 W1.heap.size gs1 ys1 L xsl _ (W5.drewN n6) (Lib.hid ((HR3.out.below hB5).below (drewN_below _ _))) (Lib.hid ((HL3.out.below hB5).below (drewN_below _ _))) HM hL HLB).mono ?_
    rintro e W7 ⟨rfl, rfl⟩
    rw [← HU.out]
    go_wp2
    go_ret
    exact ⟨rfl, hB0.trans ((hB15.trans (drewN_below _ _)).mono hz1)⟩

end Go.Proofs.YtpehimjngofnkaaDoor
