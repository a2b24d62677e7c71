/-
  The law FnExactStatesOf returns true for all arguments: the program's StatesOf and the reference's return the same states, in memory that is shared with nothing.
  Conditions: none.
-/
import Derived.Test.YtddnibpldjdhpaaLa
import Derived.Test.YtddnibpldjdhpaaWu
namespace Go.Proofs.Ytddnibpldjdhpaa
open Go.RowKit
theorem STL_length (l : List UInt8) : (ints (STL l)).length ≤ 1048576 := by
  rw [ints_length, STL]
  split
  · rename_i h
    have h1 := (TV_true h).2.1
    have h2 := two_le l.length (by omega)
    have h3 := sel_len (2 ^ l.length) (hasS l)
    unfold stL
    omega
  · simp
set_option maxHeartbeats 400000 in
theorem fnExactStatesOf_walk (a0 : ByteArray) (w : World) (w0 : a0.size ≤ maxLen) :
    Calls Try.prog 5 #[.string a0] w fun e w' => e = .returned (.bool true) ∧ Below w.heap.size w w' := by
  unfold maxLen at w0
  have HL := Lib.hid (show (ints (STL a0.data.toList)).length ≤ 1048576 from STL_length _)
  by_cases h0 : 1048576 < a0.size
  · go_enter Try.func5, Try.ntmps5
    go_wp2
    go_ret
    exact ⟨rfl, Below.refl _ _⟩
  · have hL := HL.out
    go_enter Try.func5, Try.ntmps5
    go_wp2_with fail
    refine (sStatesOf_any _ _ (by omega)).mono ?_
    rintro e W1 ⟨⟨A0, c0, rfl, hc0, hO0⟩, hB0⟩
    have hz1 := hB0.size
    go_wp2_with fail
    refine (StatesOf_any _ _ (by omega)).mono ?_
    rintro e W2 ⟨⟨A1, c1, rfl, hc1, hO1⟩, hB1⟩
    have hz2 := hB1.size
    go_wp2_with fail
    refine (eqIntS_any _ _ _ _ _ _ _ hO1.rd (hO0.rd.below hB1) (by omega) (by omega)).mono ?_
    rintro e W3 ⟨rfl, n, rfl⟩

    go_wp2_with fail
    refine (markIntS_any _ _ W1.heap.size _ _ (W2.drewN n) hO1 (by omega) (by omega) (by omega)).mono ?_
    rintro e W3 ⟨rfl, hO3, hB3, hz3⟩
    rw [drewN_size] at hz3
    go_wp2_with fail
    refine (heldIntS_any _ _ _ _ _ hO3.rd (by omega) (by omega) (by omega)).mono ?_
    rintro e w' ⟨rfl, rfl⟩
    have hB13 : Below W1.heap.size W1 W3 := (hB1.trans (drewN_below _ _)).trans hB3
    have hq : ((1 + ((ints (STL a0.data.toList)).length : Int)) != (1 + ((ints (STL a0.data.toList)).length : Int))) = false := by simp
    go_wp2_with fail
    refine (StatesOf_any _ _ (by omega)).mono ?_
    rintro e W4 ⟨⟨A2, c2, rfl, hc2, hO4⟩, hB4⟩
    have hB14 : Below W1.heap.size W1 W4 := hB13.trans (hB4.mono (by omega))
    go_wp2_with fail
    refine (eqIntS_any _ _ _ _ _ _ _ hO4.rd (hO0.rd.below hB14) (by omega) (by omega)).mono ?_
    rintro e W5 ⟨rfl, m, rfl⟩

    go_wp2_with fail
    refine (heldIntS_any _ _ _ _ (W4.drewN m) (hO3.below hB4).rd (by omega) (by omega) (by omega)).mono ?_
    rintro e w' ⟨rfl, rfl⟩
    go_wp2
    go_ret
    exact ⟨rfl, hB0.trans ((hB14.trans (drewN_below _ _)).mono hz1)⟩
namespace fnExactStatesOf
open Go.ChangeShapes Go.WideShapes Go.ChangeAt Go.RowKit
open Go.ChangeMaps (open_string shut_string)
set_option linter.unusedVariables false
set_option maxRecDepth 100000 in
/-- the row's step: the arguments are opened, the walk is called, the arguments are shut -/
theorem lifted (os : Os) (started : os.Started) (H : Type) (enc : TypeId × Value → H) :
    ReturnsInHanded {} Try.checked os 5 .any (Rows.fnExactStatesOfSpec.pre6 enc Try.prog Try.f5 Rows.fnExactStatesOfRow.domain false) (Rows.fnExactStatesOfSpec.post enc Try.prog Try.f5 false true false false) := by
  refine returnsInHanded_of_change (C := Try.checked) own started (by kernel_rfl) Try.func5
    (ChangeSpec.witness6 (enc := enc) (C := Try.checked) false ⟨#[], #[.string ByteArray.empty], []⟩ 8 (by kernel_rfl) (by kernel_rfl) (by kernel_rfl) (by kernel_rfl)) ?_
  intro W base args ds gs before hval0 hW hcnd _
  have hval : ∀ (j : Nat) t v, Try.f5.params[j]? = some t → args[j]? = some v → Value.okWide Try.prog W .any base t v := hval0
  have hW' := hW
  obtain ⟨p, q, hA0, hV, rfl, hfz, hnd⟩ := hW
  have hA : DataW.TrodAll enc Try.prog W 0 (fun _ => true) true Try.f5.params.toList args.toList ds p := hA0
  rw [Try.params5] at hA hval
  obtain ⟨v0, vs0, d0, ds0, p0, q0, hargs, rfl, rfl, h0, r0⟩ := trodAll_cons hA
  obtain ⟨rfl, rfl, rfl⟩ := trodAll_nil r0
  obtain rfl : args = #[v0] := by cases args; simp_all
  obtain ⟨rfl, rfl⟩ := trodVars_none hV
  obtain ⟨a0, rfl, rfl, rfl, w0⟩ := open_string Try.underlying9 (hval 0 9 v0 rfl rfl) h0
  clear hA0 hval0
  refine (fnExactStatesOf_walk a0 W w0).mono fun e W' ⟨he, bel⟩ => ?_
  subst he
  exact ⟨_, rfl, _, _, _, [], _, [], hW', trodAll_mk1 (shut_bool Try.underlying4 _), (trodAll_cons_mk (shut_string Try.underlying9 w0) trodAll_mk0), rfl, bel.frame _, fun h => by cases h⟩

theorem over : Rows.fnExactStatesOfRow.holds Try.pinned (OpenSpec.ofChange Rows.fnExactStatesOfSpec) :=
  OpenClaim.holds_of_wide 5 Try.f5 rfl rfl rfl rfl rfl rfl rfl ⟨rfl, rfl, rfl, rfl, rfl⟩ rfl rfl rfl rfl rfl (by kernel_rfl) Try.func5 (by kernel_rfl)
    (of_decide_eq_true (by kernel_rfl)) (by unfold Func.isWrapper; first | (rw [if_pos (by decide +kernel)]; kernel_rfl) | (rw [if_neg (by decide +kernel)]; exact ⟨rfl, rfl⟩))
    (fun os started H enc _ => lifted os started H enc)

/-- THE STATEMENT -/
theorem proved : Rows.FnExactStatesOfSaid := over
#print axioms proved
end fnExactStatesOf
end Go.Proofs.Ytddnibpldjdhpaa
