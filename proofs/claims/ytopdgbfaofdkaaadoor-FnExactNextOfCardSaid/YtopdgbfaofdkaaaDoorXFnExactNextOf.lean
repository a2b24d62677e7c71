/- FnExactNextOf holds: at all arguments the program's NextOf returns what the reference's returns. Conditions: those that the given card prints. -/
import Derived.Test.YtopdgbfaofdkaaaDoorLb
import Derived.Test.YtopdgbfaofdkaaaDoorWq
namespace Go.Proofs.YtopdgbfaofdkaaaDoor
open Go.RowKit
set_option linter.unusedVariables false

theorem fnExactNextOf_walk (a0 : ByteArray) (a1 : Int) (w : World) (hm : Hid (HasM w)) (w0 : a0.size ≤ maxLen) (w1 : (Lit.int .i64 a1).wf = true) :
    Calls Tryd.prog 9 #[.string a0, .int .i64 a1] w fun e w' => e = .returned (.bool true) ∧ Below w.heap.size w w' := by
  unfold maxLen at w0
  have HL := Lib.hid (show (nxtN (cutL a0.data.toList) a1).length ≤ 1048576 from nxtN_len _ _)
  by_cases h0 : 1048576 < a0.size
  · go_enter Tryd.func9, Tryd.ntmps9
    go_wp2
    go_ret
    exact ⟨rfl, Below.refl _ _⟩
  · have hL := HL.out
    go_enter Tryd.func9, Tryd.ntmps9
    go_wp2_with fail
    refine (sNextOf_any _ _ _ (by omega)).mono ?_
    rintro e W1 ⟨⟨A0, c0, rfl, hc0, hO0⟩, hB0⟩
    have hz1 := hB0.size
    go_wp2_with fail
    refine (NextOf_any _ _ _ (Lib.hid (hm.out.below hB0)) (by omega)).mono ?_
    rintro e W2 ⟨⟨A1, c1, rfl, hc1, hO1⟩, hB1⟩
    have hz2 := hB1.size
    go_wp2_with fail
    refine (eqIntS_any _ _ _ _ _ _ _ hO1.rd (hO0.rd.below hB1) (by omega) (by omega)).mono ?_
    rintro e W3 ⟨rfl, n, rfl⟩

    go_wp2_with fail
    refine (markIntS_any _ _ W1.heap.size _ _ (W2.drewN n) hO1 (by omega) (by omega) (by omega)).mono ?_
    rintro e W3 ⟨rfl, hO3, hB3, hz3⟩
    rw [drewN_size] at hz3
    go_wp2_with fail
    refine (heldIntS_any _ _ _ _ _ hO3.rd (by omega) (by omega) (by omega)).mono ?_
    rintro e w' ⟨rfl, rfl⟩
    have hB13 : Below W1.heap.size W1 W3 := (hB1.trans (drewN_below _ _)).trans hB3
    have hq : ((1 + ((nxtN (cutL a0.data.toList) a1).length : Int)) != (1 + ((nxtN (cutL a0.data.toList) a1).length : Int))) = false := by simp
    go_wp2_with fail
    refine (NextOf_any _ _ _ (Lib.hid ((hm.out.below hB0).below hB13)) (by omega)).mono ?_
    rintro e W4 ⟨⟨A2, c2, rfl, hc2, hO4⟩, hB4⟩
    have hB14 : Below W1.heap.size W1 W4 := hB13.trans (hB4.mono (by omega))
    go_wp2_with fail
    refine (eqIntS_any _ _ _ _ _ _ _ hO4.rd (hO0.rd.below hB14) (by omega) (by omega)).mono ?_
    rintro e W5 ⟨rfl, m, rfl⟩

    go_wp2_with fail
    refine (heldIntS_any _ _ _ _ (W4.drewN m) (hO3.below hB4).rd (by omega) (by omega) (by omega)).mono ?_
    rintro e w' ⟨rfl, rfl⟩
    go_wp2
    go_ret
    exact ⟨rfl, hB0.trans ((hB14.trans (drewN_below _ _)).mono hz1)⟩

namespace fnExactNextOf
open Go.ChangeShapes Go.WideShapes Go.ChangeAt Go.RowKit
open Go.ChangeMaps (open_string shut_string)
set_option linter.unusedVariables false
theorem laid_met (os : Os) (args : Array Value) : laidMet Tryd.prog Rows.fnExactNextOfRow.laid ((laidWorld os).forCall (fun _ _ => 0) ⟨#[], args, []⟩).memory := laid_met0 os args
theorem witness_row (os : Os) {H : Type} (enc : TypeId × Value → H) :
    (OpenSpec.ofChange Rows.fnExactNextOfSpec).preRow enc Tryd.prog Tryd.f9 Rows.fnExactNextOfRow.domain false Rows.fnExactNextOfRow.laid ((laidWorld os).forCall (fun _ _ => 0) ⟨#[], #[.string ByteArray.empty, .int .i64 0], []⟩).memory #[.string ByteArray.empty, .int .i64 0] := by
  have hw : (DataW.whole enc Tryd.prog ((laidWorld os).forCall (fun _ _ => 0) ⟨#[], #[.string ByteArray.empty, .int .i64 0], []⟩).memory Tryd.f9.params.toList Rows.fnExactNextOfSpec.vars false #[.string ByteArray.empty, .int .i64 0].toList 8).map (fun x => (x.1, x.2.1)) =
      some ([.lit (.string []), .lit (.int .i64 0)], []) := by kernel_rfl
  obtain ⟨⟨x1, x2, x3⟩, hx, hx1⟩ := Option.map_eq_some_iff.1 hw
  simp only [Prod.mk.injEq] at hx1
  obtain ⟨rfl, rfl⟩ := hx1
  exact OpenSpec.preRow_of_cond 8 hx (by kernel_rfl) (fun k hk => by cases hk) (by kernel_rfl) (laid_met os _)
set_option maxRecDepth 100000 in
/-- the row's step: the arguments are opened, the walk is called, the arguments are shut -/
theorem lifted (os : Os) (started : os.Started) (H : Type) (enc : TypeId × Value → H) (FI : Stop.Interp) :
    ReturnsInHanded {} Tryd.checked os 9 .any ((OpenSpec.ofChange Rows.fnExactNextOfSpec).preRow enc Tryd.prog Tryd.f9 Rows.fnExactNextOfRow.domain false Rows.fnExactNextOfRow.laid) (((OpenSpec.ofChange Rows.fnExactNextOfSpec).at FI).post enc Tryd.prog Tryd.f9 false true false false) := by
  refine returnsInHanded_of_row (C := Tryd.checked) (s := OpenSpec.ofChange Rows.fnExactNextOfSpec) own started (by kernel_rfl) Tryd.func9
    (witness_row_atRef (enc := enc) (C := Tryd.checked) false (laidWorld os) #[.string ByteArray.empty, .int .i64 0] rfl (by kernel_rfl) (by kernel_rfl) (by kernel_rfl) (witness_row os enc)) ?_
  intro W base args ds gs before hval0 hW _ _ _ hL hsh _
  have hm : HasM W := Tryd.laysM146.s1_3 W hsh
  have hval : ∀ (j : Nat) t v, Tryd.f9.params[j]? = some t → args[j]? = some v → Value.okWide Tryd.prog W .any base t v := hval0
  have hW' := hW
  obtain ⟨p, q, hA0, hV, rfl, hfz, hnd⟩ := hW
  have hA : DataW.TrodAll enc Tryd.prog W 0 (fun _ => true) true Tryd.f9.params.toList args.toList ds p := hA0
  rw [Tryd.params9] at hA hval
  obtain ⟨v0, vs0, d0, ds0, p0, q0, hargs, rfl, rfl, h0, r0⟩ := trodAll_cons hA
  obtain ⟨v1, vs1, d1, ds1, p1, q1, rfl, rfl, rfl, h1, r1⟩ := trodAll_cons r0
  obtain ⟨rfl, rfl, rfl⟩ := trodAll_nil r1
  obtain rfl : args = #[v0, v1] := by cases args; simp_all
  obtain ⟨rfl, rfl⟩ := trodVars_none hV
  obtain ⟨a0, rfl, rfl, rfl, w0⟩ := open_string Tryd.underlying9 (hval 0 9 v0 rfl rfl) h0
  obtain ⟨a1, rfl, rfl, rfl, w1⟩ := open_int Tryd.underlying3 (hval 1 3 v1 rfl rfl) h1
  clear hA0 hval0
  refine (fnExactNextOf_walk a0 a1 W (Lib.hid hm) w0 w1).mono fun e W' ⟨he, bel⟩ => ?_
  subst he
  exact ⟨_, rfl, _, _, _, [], _, [], hW', trodAll_mk1 (shut_bool Tryd.underlying4 _), (trodAll_cons_mk (shut_string Tryd.underlying9 w0) (trodAll_cons_mk (shut_int Tryd.underlying3 w1) trodAll_mk0)), rfl, bel.frame _, fun h => by cases h⟩

theorem fact1 : Tryd.pinned.checked.prog.funcNamed Rows.fnExactNextOfRow.func = some 9 := by kernel_rfl
theorem j0 : (Rows.fnExactNextOfRow.wf (OpenSpec.ofChange (OpenSpec.ofChange Rows.fnExactNextOfSpec).bare)) = true := by kernel_rfl
theorem j1 : (laidOutB Tryd.pinned.checked.prog) = true := pf_laid
theorem j2 : (mapsRowed Tryd.pinned.checked.prog) = true := pf_maps
theorem j3 : (Tryd.f9.params.all (Tryd.pinned.checked.prog.readableRec ·)) = true := by kernel_rfl
theorem j4 : (namedTie Tryd.pinned.checked.prog Rows.fnExactNextOfRow.named (OpenSpec.ofChange Rows.fnExactNextOfSpec).bare.vars) = true := by kernel_rfl
theorem j5 : ((Rows.fnExactNextOfRow.stops == [])) = true := by kernel_rfl
theorem j6 : ((Tryd.pinned.checked.prog.stops == [])) = true := pf_stops
theorem j7 : ((Rows.fnExactNextOfRow.knobs == [])) = true := by kernel_rfl
theorem j8 : ((Tryd.pinned.checked.prog.stopKnobs == [])) = true := pf_knobs
theorem j9 : ((Rows.fnExactNextOfRow.inPlace == Tryd.pinned.checked.prog.inPlace 9)) = true := by kernel_rfl
theorem j10 : ((Rows.fnExactNextOfRow.unfollowed == Tryd.pinned.checked.prog.unfollowed 9)) = true := by kernel_rfl
theorem j11 : ((Rows.fnExactNextOfRow.recurses == Tryd.pinned.checked.prog.recurses 9)) = true := by kernel_rfl
theorem j12 : ((Rows.fnExactNextOfRow.named == Tryd.pinned.checked.prog.varsNamed 9)) = true := by kernel_rfl
theorem j13 : ((Rows.fnExactNextOfRow.maps == (Tryd.f9.params.toList ++ (OpenSpec.ofChange Rows.fnExactNextOfSpec).bare.plain.varTypes Tryd.pinned.checked.prog).any (Tryd.pinned.checked.prog.mapsRec ·))) = true := by kernel_rfl
theorem j14 : ((Rows.fnExactNextOfRow.ifaces == (Tryd.f9.params.toList ++ (OpenSpec.ofChange Rows.fnExactNextOfSpec).bare.plain.varTypes Tryd.pinned.checked.prog).any (Tryd.pinned.checked.prog.ifacesRec ·))) = true := by kernel_rfl
theorem j15 : ((Rows.fnExactNextOfRow.mapsOut == Tryd.pinned.checked.prog.mapsAmong Tryd.f9.resultTypes.toList)) = true := by kernel_rfl
theorem j16 : ((Rows.fnExactNextOfRow.loops == (Tryd.f9.params.toList ++ (OpenSpec.ofChange Rows.fnExactNextOfSpec).bare.plain.varTypes Tryd.pinned.checked.prog).any (Tryd.pinned.checked.prog.loopsFrom ·))) = true := by kernel_rfl
theorem j17 : ((Rows.fnExactNextOfRow.wideKeys == (Tryd.f9.params.toList ++ (OpenSpec.ofChange Rows.fnExactNextOfSpec).bare.plain.varTypes Tryd.pinned.checked.prog ++ Tryd.f9.resultTypes.toList).any (Tryd.pinned.checked.prog.wideKeysFrom ·))) = true := by kernel_rfl
theorem j18 : ((OpenSpec.ofChange Rows.fnExactNextOfSpec).bare.vars.all (Tryd.pinned.checked.prog.varReadable ·)) = true := by kernel_rfl
theorem j19 : (Tryd.f9.resultTypes.all (fun t => Tryd.pinned.checked.prog.readableRec t && decide (t < Tryd.pinned.checked.prog.types.size))) = true := by kernel_rfl
theorem j20 : ((Rows.fnExactNextOfRow.ifacesOut == Tryd.f9.resultTypes.toList.any (Tryd.pinned.checked.prog.ifacesRec ·))) = true := by kernel_rfl
theorem j21 : ((Rows.fnExactNextOfRow.loopsOut == Tryd.f9.resultTypes.toList.any (Tryd.pinned.checked.prog.loopsFrom ·))) = true := by kernel_rfl
theorem j22 : ((Rows.fnExactNextOfRow.plainKeys == Tryd.pinned.checked.prog.plainKeys)) = true := by rw [pf_keys]; kernel_rfl
theorem j23 : (Rows.fnExactNextOfRow.shortTexts.isNone) = true := by kernel_rfl
theorem j24 : (Tryd.pinned.checked.prog.stopsHeard) = true := pf_heard
theorem j25 : (Tryd.pinned.checked.prog.mayEnter) = true := pf_enter
theorem j26 : ((Rows.fnExactNextOfRow.lifted == Tryd.pinned.checked.prog.liftsFinal)) = true := by rw [pf_lift]; kernel_rfl
theorem j27 : ((Tryd.pinned.checked.prog.make == some Rows.fnExactNextOfRow.make)) = true := by kernel_rfl
theorem j28 : ((Rows.fnExactNextOfRow.kinds == (if Rows.fnExactNextOfRow.domain.isEmpty then [] else Tryd.f9.params.toList.map fun t => match Tryd.pinned.checked.prog.underlying t with | some (.int k) => some k | _ => none))) = true := by kernel_rfl
theorem j29 : ((Rows.fnExactNextOfRow.pinned == Rows.fnExactNextOfRow.pinnedBy)) = true := by kernel_rfl
theorem j30 : ((Rows.fnExactNextOfRow.veiled == (Tryd.f9.params.toList ++ (OpenSpec.ofChange Rows.fnExactNextOfSpec).bare.plain.varTypes Tryd.pinned.checked.prog ++ Tryd.f9.resultTypes.toList).any (Tryd.pinned.checked.prog.veiledRec ·))) = true := by kernel_rfl
theorem j31 : (Rows.fnExactNextOfRow.veiledFits Tryd.pinned.checked.prog Tryd.f9.params.toList (Tryd.f9.params.toList ++ (OpenSpec.ofChange Rows.fnExactNextOfSpec).bare.plain.varTypes Tryd.pinned.checked.prog ++ Tryd.f9.resultTypes.toList)) = true := by kernel_rfl
set_option maxRecDepth 100000 in
theorem fact2 : joinedFacts Tryd.pinned.checked.prog 9 Tryd.f9 (OpenSpec.ofChange Rows.fnExactNextOfSpec).bare Rows.fnExactNextOfRow = true := joined_mk Tryd.pinned.checked.prog 9 Tryd.f9 (OpenSpec.ofChange Rows.fnExactNextOfSpec).bare Rows.fnExactNextOfRow j0 j1 j2 j3 j4 j5 j6 j7 j8 j9 j10 j11 j12 j13 j14 j15 j16 j17 j18 j19 j20 j21 j22 j23 j24 j25 j26 j27 j28 j29 j30 j31
theorem fact3 : Tryd.f9.isInstance Tryd.pinned.checked.prog Rows.fnExactNextOfRow.origin Rows.fnExactNextOfRow.targs := of_decide_eq_true (by kernel_rfl)
theorem fact4 : Tryd.f9.isWrapper Tryd.pinned.checked.prog Rows.fnExactNextOfRow.wrapper Rows.fnExactNextOfRow.mainSum := by unfold Func.isWrapper; first | (rw [if_pos (by decide +kernel)]; kernel_rfl) | (rw [if_neg (by decide +kernel)]; exact ⟨rfl, rfl⟩)
theorem said : Rows.FnExactNextOfSaid :=
  OpenClaim.holds_of_cond 9 Tryd.f9 rfl rfl rfl rfl rfl rfl rfl ⟨rfl, rfl, rfl, rfl, rfl⟩ rfl rfl rfl rfl rfl fact1 Tryd.func9 fact2 fact3 fact4
    (fun os started H enc _ FI => by rw [OpenClaim.pre_eq_preRow]; exact lifted os started H enc FI)

theorem fact5 : Rows.fnExactNextOfRow.wfByText (OpenSpec.ofChange Rows.fnExactNextOfSpec) = true := by kernel_rfl
theorem fact6 : Tryd.pinned.checked.prog.mainIs = some (Rows.fnExactNextOfCard.stood.harness.1, Rows.fnExactNextOfCard.stood.harness.2.toList) := by kernel_rfl
theorem fact7 : false = Rows.fnExactNextOfRow.goesBy Tryd.pinned.checked.prog := by kernel_rfl
theorem fact8 : false = Tryd.pinned.checked.prog.looks [] := pf_looks
theorem fact9 : #[9, 3].all (fun t => !Tryd.prog.wantsStandIn t) = true := by kernel_rfl
theorem plain (f : FuncId) (fn : Func) (hf : Tryd.pinned.checked.prog.funcNamed Rows.fnExactNextOfRow.func = some f) (hfn : Tryd.pinned.checked.prog.funcs[f]? = some fn) :
    false = Tryd.pinned.checked.prog.looks [] ∧ ∀ (j : Nat) t, fn.params[j]? = some t → Tryd.pinned.checked.prog.wantsStandIn t = false := by
  obtain rfl : f = 9 := (Option.some.inj (fact1.symm.trans hf)).symm
  obtain rfl : fn = Tryd.f9 := (Option.some.inj (Tryd.func9.symm.trans hfn)).symm
  refine ⟨fact8, fun j t ht => ?_⟩
  rw [Tryd.params9] at ht
  have := Array.all_eq_true_iff_forall_mem.1 fact9 t (Array.mem_of_getElem? ht)
  exact (show Tryd.prog.wantsStandIn t = false by simpa using this)

/-- THE STATEMENT -/
theorem proved : Rows.FnExactNextOfCardSaid :=
  Claim7.holds_tied_plain_at .later [] _ _ _ _ said (fun _ h => by cases h) fact5 (fun _ h => by cases h) fnExactNextOf_row_tie rfl ⟨rfl, rfl⟩ fact6 rfl plain fact7
#print axioms proved
end fnExactNextOf

end Go.Proofs.YtopdgbfaofdkaaaDoor
