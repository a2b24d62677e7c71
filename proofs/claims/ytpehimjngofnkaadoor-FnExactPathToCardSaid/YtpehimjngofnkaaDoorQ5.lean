/- The walk of the exact law of PathTo. -/
import Derived.Test.YtpehimjngofnkaaDoorProg
import Derived.WalkKit
import Derived.WalkSpells
import Derived.WalkLawsBesides
import Derived.Lib.Hide
import Derived.Deep.QuietTactic
import Derived.BigQuiet
import Derived.Test.YtpehimjngofnkaaDoorLa
import Derived.Test.YtpehimjngofnkaaDoorQ8
namespace Go.Proofs.YtpehimjngofnkaaDoor
open Go.RowKit
set_option linter.unusedVariables false

set_option maxHeartbeats 1000000 in
set_option maxRecDepth 100000 in
theorem fnExactPathTo_walk (a0 : ByteArray) (a1 : Int) (a2 : Int) (w : World) (hm : Hid (HasM w)) (w0 : a0.size ≤ maxLen) (w1 : (Lit.int .i64 a1).wf = true) (w2 : (Lit.int .i64 a2).wf = true) :
    Calls Tryd.prog 13 #[.string a0, .int .i64 a1, .int .i64 a2] w fun e w' => e = .returned (.bool true) ∧ Below w.heap.size w w' := by
  unfold maxLen at w0
  obtain ⟨L, HL⟩ : ∃ L, Hid (L = pthN (cutL a0.data.toList) a1 a2) := ⟨_, Lib.hid rfl⟩
  have hL : L.length ≤ 33 := by rw [HL.out]; exact pthN_len _ _ _
  obtain ⟨q, HQ⟩ : ∃ q, Hid (q = canN (cutL a0.data.toList) a1 a2) := ⟨_, Lib.hid rfl⟩
  have hqq : (q != q) = false := by cases q <;> rfl
  by_cases h0 : 1048576 < a0.size
  · go_enter Tryd.func13, Tryd.ntmps13
    go_wp2
    go_ret
    exact ⟨rfl, Below.refl _ _⟩
  · go_enter Tryd.func13, Tryd.ntmps13
    go_wp2_with fail
    refine (sPathTo_any a0 _ _ _ (by omega)).mono ?_
    rw [← HL.out, ← HQ.out]
    rintro e W1 ⟨⟨A0, c0, rfl, hc0, hO0⟩, hB0⟩
    have hz1 := hB0.size
    go_wp2_with fail
    refine (PathTo_any a0 _ _ _ (Lib.hid (hm.out.below hB0)) (by omega)).mono ?_
    rw [← HL.out, ← HQ.out]
    rintro e W2 ⟨⟨A1, c1, rfl, hc1, hO1⟩, hB1⟩
    have hz2 := hB1.size
    go_wp2_with fail
    refine (eqIntS_any _ _ _ _ _ _ _ hO1.rd (hO0.rd.below hB1) (by omega) (by omega)).mono ?_
    rintro e W3 ⟨rfl, n, rfl⟩
    rw [decide_eq_true rfl]
    go_wp2_with fail
    refine (markIntS_any _ _ W1.heap.size _ _ (W2.drewN n) hO1 (by omega) (by omega) (by omega)).mono ?_
    rintro e W3 ⟨rfl, hO3, hB3, hz3⟩
    rw [drewN_size] at hz3
    go_wp2_with fail
    refine (heldIntS_any _ _ _ _ _ hO3.rd (by omega) (by omega) (by omega)).mono ?_
    rintro e w' ⟨rfl, rfl⟩
    have hB13 : Below W1.heap.size W1 W3 := (hB1.trans (drewN_below _ _)).trans hB3
    have hq : ((1 + (L.length : Int)) != (1 + (L.length : Int))) = false := by simp
    go_wp2_with fail
    refine (PathTo_any a0 _ _ _ (Lib.hid ((hm.out.below hB0).below hB13)) (by omega)).mono ?_
    rw [← HL.out, ← HQ.out]
    rintro e W4 ⟨⟨A2, c2, rfl, hc2, hO4⟩, hB4⟩
    have hB14 : Below W1.heap.size W1 W4 := hB13.trans (hB4.mono (by omega))
    go_wp2_with fail
    refine (eqIntS_any _ _ _ _ _ _ _ hO4.rd (hO0.rd.below hB14) (by omega) (by omega)).mono ?_
    rintro e W5 ⟨rfl, m, rfl⟩
    rw [decide_eq_true rfl]
    go_wp2_with fail
    refine (heldIntS_any _ _ _ _ (W4.drewN m) (hO3.below hB4).rd (by omega) (by omega) (by omega)).mono ?_
    rintro e w' ⟨rfl, rfl⟩
    go_wp2
    go_ret
    exact ⟨rfl, hB0.trans ((hB14.trans (drewN_below _ _)).mono hz1)⟩

end Go.Proofs.YtpehimjngofnkaaDoor
