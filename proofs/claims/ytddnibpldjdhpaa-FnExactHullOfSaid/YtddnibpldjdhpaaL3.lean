/-
  The law FnExactHullOf returns true for all arguments: the program's HullOf and the reference's return the same, and the list is left as it was.
  Conditions: none.
-/
import Derived.Test.YtddnibpldjdhpaaLa
import Derived.Test.YtddnibpldjdhpaaWo
namespace Go.Proofs.Ytddnibpldjdhpaa
open Go.RowKit
theorem IsRow.rd {w : World} {a : Option Addr} {len cap : Nat} {zs : List Int} (h : IsRow .i64 w a len cap zs) : ∃ xs : List Int, xs.length = len ∧ Rd w a (xs.map (Value.int .i64)) := by
  rcases h with ⟨rfl, rfl, rfl, rfl⟩ | ⟨x, rfl, hl, _, hz, hc, _⟩
  · exact ⟨[], rfl, .inl rfl⟩
  · refine ⟨zs.take len, by rw [List.length_take]; omega, ?_⟩
    by_cases h0 : len = 0
    · subst h0; exact .inl rfl
    · have hx := hc 0 (by omega)
      have hs := World.cell?_spot hx
      obtain ⟨b, o, sp⟩ := x
      have hs2 : sp = none := by simpa [Addr.add] using hs
      subst hs2
      refine .inr ⟨b, o, rfl, fun j v hj => ?_⟩
      rw [List.getElem?_map] at hj
      rw [List.getElem?_take] at hj
      split at hj
      · rename_i hjl
        have h2 := hc j (by omega)
        rw [show (⟨b, o, none⟩ : Addr).add j = ⟨b, o + j, none⟩ by unfold Addr.add; split <;> simp_all] at h2
        rw [h2, ← hj]
        have hjz : j < zs.length := by omega
        simp [List.getD, hjz]
      · cases hj
set_option maxHeartbeats 400000 in
theorem fnExactHullOf_walk (a0 : Option Addr) (len0 cap0 : Nat) (z0 : List Int) (a1 : Int) (w : World) (w0 : IsRow .i64 w a0 len0 cap0 z0) (_w1 : (Lit.int .i64 a1).wf = true) :
    Calls Try.prog 4 #[.slice a0 len0 cap0, .int .i64 a1] w fun e w' => e = .returned (.bool true) ∧ Below w.heap.size w w' := by
  by_cases h0 : 1048576 < len0
  · go_enter Try.func4, Try.ntmps4
    go_wp2
    go_ret
    exact ⟨rfl, Below.refl _ _⟩
  · obtain ⟨xs, rfl, hx⟩ := w0.rd
    have HX := Lib.hid hx
    clear hx
    generalize hM : HO xs a1 = M
    have HM := Lib.hid hM
    go_enter Try.func4, Try.ntmps4
    go_wp2_with fail
    refine (toIntS_any _ _ _ _ HX.out (by omega)).mono ?_
    rintro e W1 ⟨⟨A1, c1, rfl, hc1, hO1⟩, hB1⟩
    go_wp2_with fail
    refine (sHullOf_any _ _ _ _ _ hO1.rd (by omega)).mono ?_
    rintro e W2 ⟨rfl, hB2⟩
    rw [HM.out]
    unfold optT
    have hz1 := hB1.size
    have hz2 := hB2.size
    have hB02 : Below w.heap.size w W2 := hB1.trans (hB2.mono (by omega))
    go_wp2_with fail
    refine (toIntS_any _ _ _ _ (HX.out.below hB02) (by omega)).mono ?_
    rintro e W3 ⟨⟨A3, c3, rfl, hc3, hO3⟩, hB3⟩
    have hz3 := hB3.size
    go_wp2_with fail
    refine (HullOf_any _ _ _ _ _ hO3.rd (by omega)).mono ?_
    rintro e W4 ⟨rfl, hB4⟩
    rw [HM.out]
    unfold optT
    have hz4 := hB4.size
    have hB04 : Below w.heap.size w W4 := (hB02.trans (hB3.mono (by omega))).trans (hB4.mono (by omega))
    go_wp2_with fail
    refine (toIntS_any _ _ _ _ (HX.out.below hB04) (by omega)).mono ?_
    rintro e W5 ⟨⟨A5, c5, rfl, hc5, hO5⟩, hB5⟩
    have hz5 := hB5.size
    go_wp2_with fail
    refine (eqIntS_any _ _ _ _ _ _ _ (hO3.rd.below (hB4.trans (hB5.mono hz4))) hO5.rd (by omega) (by omega)).mono ?_
    rintro e W6 ⟨rfl, n, rfl⟩
    go_wp2
    go_ret
    exact ⟨rfl, (hB04.trans (hB5.mono (by omega))).trans (drewN_below _ _)⟩
namespace fnExactHullOf
open Go.ChangeShapes Go.WideShapes Go.ChangeAt Go.RowKit
open Go.ChangeMaps (open_string shut_string)
set_option linter.unusedVariables false
set_option maxRecDepth 100000 in
/-- the row's step: the arguments are opened, the walk is called, the arguments are shut -/
theorem lifted (os : Os) (started : os.Started) (H : Type) (enc : TypeId × Value → H) :
    ReturnsInHanded {} Try.checked os 4 .any (Rows.fnExactHullOfSpec.pre6 enc Try.prog Try.f4 Rows.fnExactHullOfRow.domain false) (Rows.fnExactHullOfSpec.post enc Try.prog Try.f4 false true false false) := by
  refine returnsInHanded_of_change (C := Try.checked) own started (by kernel_rfl) Try.func4
    (ChangeSpec.witness6 (enc := enc) (C := Try.checked) false ⟨#[], #[.slice none 0 0, .int .i64 0], []⟩ 8 (by kernel_rfl) (by kernel_rfl) (by kernel_rfl) (by kernel_rfl)) ?_
  intro W base args ds gs before hval0 hW hcnd _
  have hval : ∀ (j : Nat) t v, Try.f4.params[j]? = some t → args[j]? = some v → Value.okWide Try.prog W .any base t v := hval0
  have hW' := hW
  obtain ⟨p, q, hA0, hV, rfl, hfz, hnd⟩ := hW
  have hA : DataW.TrodAll enc Try.prog W 0 (fun _ => true) true Try.f4.params.toList args.toList ds p := hA0
  rw [Try.params4] at hA hval
  obtain ⟨v0, vs0, d0, ds0, p0, q0, hargs, rfl, rfl, h0, r0⟩ := trodAll_cons hA
  obtain ⟨v1, vs1, d1, ds1, p1, q1, rfl, rfl, rfl, h1, r1⟩ := trodAll_cons r0
  obtain ⟨rfl, rfl, rfl⟩ := trodAll_nil r1
  obtain rfl : args = #[v0, v1] := by cases args; simp_all
  obtain ⟨rfl, rfl⟩ := trodVars_none hV
  obtain ⟨a0, len0, cap0, rfl⟩ := okWide_slice Try.underlying25 (hval 0 25 v0 rfl rfl)
  have k0 := h0
  have lt0 : ∀ x ∈ p0, x.block < W.heap.size := by obtain ⟨m, hm⟩ := k0; exact DataW.trod_lt m _ _ _ hm
  obtain ⟨z0, w0⟩ : ∃ zs, IsRow .i64 W a0 len0 cap0 zs := by
    obtain ⟨fuel, hf⟩ := h0
    rcases open_ints Try.underlying25 Try.underlying3 (by kernel_rfl) hf with ⟨hcs, _⟩ | ⟨x, l, c, zs, hcs, _, hl, hm, hz, _, hcell, hwz⟩
    · simp [Value.cells] at hcs
      obtain ⟨rfl, rfl, rfl⟩ := hcs
      exact ⟨[], .inl ⟨rfl, rfl, rfl, rfl⟩⟩
    · simp [Value.cells] at hcs
      obtain ⟨rfl, rfl, rfl⟩ := hcs
      exact ⟨zs, .inr ⟨_, rfl, hl, hm, by simpa using hz, hcell, hwz⟩⟩
  obtain ⟨a1, rfl, rfl, rfl, w1⟩ := open_int Try.underlying3 (hval 1 3 v1 rfl rfl) h1
  clear hA0 hval0
  refine (fnExactHullOf_walk a0 len0 cap0 z0 a1 W w0 w1).mono fun e W' ⟨he, bel⟩ => ?_
  subst he
  exact ⟨_, rfl, _, _, _, [], _, [], hW', trodAll_mk1 (shut_bool Try.underlying4 _), (trodAll_cons_mk (Below.trod laidOut (by kernel_rfl) (of_decide_eq_true (by kernel_rfl)) k0 bel lt0) (trodAll_cons_mk (shut_int Try.underlying3 w1) trodAll_mk0)), rfl, bel.frame _, fun h => by cases h⟩

theorem over : Rows.fnExactHullOfRow.holds Try.pinned (OpenSpec.ofChange Rows.fnExactHullOfSpec) :=
  OpenClaim.holds_of_wide 4 Try.f4 rfl rfl rfl rfl rfl rfl rfl ⟨rfl, rfl, rfl, rfl, rfl⟩ rfl rfl rfl rfl rfl (by kernel_rfl) Try.func4 (by kernel_rfl)
    (of_decide_eq_true (by kernel_rfl)) (by unfold Func.isWrapper; first | (rw [if_pos (by decide +kernel)]; kernel_rfl) | (rw [if_neg (by decide +kernel)]; exact ⟨rfl, rfl⟩))
    (fun os started H enc _ => lifted os started H enc)

/-- THE STATEMENT -/
theorem proved : Rows.FnExactHullOfSaid := over
#print axioms proved
end fnExactHullOf
end Go.Proofs.Ytddnibpldjdhpaa
