/- FnExactBeforeOf holds: at all arguments the program's BeforeOf returns what the reference's returns. Conditions: those that the given card prints. -/
import Derived.Test.YtopdgbfaofdkaaaDoorLb
import Derived.Test.YtopdgbfaofdkaaaDoorWa
namespace Go.Proofs.YtopdgbfaofdkaaaDoor
open Go.RowKit
set_option linter.unusedVariables false

theorem fnExactBeforeOf_walk (a0 : ByteArray) (a1 : Int) (w : World) (hm : Hid (HasM w)) (w0 : a0.size ≤ maxLen) (w1 : (Lit.int .i64 a1).wf = true) :
    Calls Tryd.prog 13 #[.string a0, .int .i64 a1] w fun e w' => e = .returned (.bool true) ∧ Below w.heap.size w w' := by
  unfold maxLen at w0
  have HL := Lib.hid (show (befN (cutL a0.data.toList) a1).length ≤ 1048576 from befN_len _ _)
  by_cases h0 : 1048576 < a0.size
  · go_enter Tryd.func13, Tryd.ntmps13
    go_wp2
    go_ret
    exact ⟨rfl, Below.refl _ _⟩
  · have hL := HL.out
    go_enter Tryd.func13, Tryd.ntmps13
    go_wp2_with fail
    refine (sBeforeOf_any _ _ _ (by omega)).mono ?_
    rintro e W1 ⟨⟨A0, c0, rfl, hc0, hO0⟩, hB0⟩
    have hz1 := hB0.size
    go_wp2_with fail
    refine (BeforeOf_any _ _ _ (Lib.hid (hm.out.below hB0)) (by omega)).mono ?_
    rintro e W2 ⟨⟨A1, c1, rfl, hc1, hO1⟩, hB1⟩
    have hz2 := hB1.size
    go_wp2_with fail
    refine (eqIntS_any _ _ _ _ _ _ _ hO1.rd (hO0.rd.below hB1) (by omega) (by omega)).mono ?_
    rintro e W3 ⟨rfl, n, rfl⟩

    go_wp2_with fail
    refine (markIntS_any _ _ W1.heap.size _ _ (W2.drewN n) hO1 (by omega) (by omega) (by omega)).mono ?_
    rintro e W3 ⟨rfl, hO3, hB3, hz3⟩
    rw [drewN_size] at hz3
    go_wp2_with fail
    refine (heldIntS_any _ _ _ _ _ hO3.rd (by omega) (by omega) (by omega)).mono ?_
    rintro e w' ⟨rfl, rfl⟩
    have hB13 : Below W1.heap.size W1 W3 := (hB1.trans (drewN_below _ _)).trans hB3
    have hq : ((1 + ((befN (cutL a0.data.toList) a1).length : Int)) != (1 + ((befN (cutL a0.data.toList) a1).length : Int))) = false := by simp
    go_wp2_with fail
    refine (BeforeOf_any _ _ _ (Lib.hid ((hm.out.below hB0).below hB13)) (by omega)).mono ?_
    rintro e W4 ⟨⟨A2, c2, rfl, hc2, hO4⟩, hB4⟩
    have hB14 : Below W1.heap.size W1 W4 := hB13.trans (hB4.mono (by omega))
    go_wp2_with fail
    refine (eqIntS_any _ _ _ _ _ _ _ hO4.rd (hO0.rd.below hB14) (by omega) (by omega)).mono ?_
    rintro e W5 ⟨rfl, m, rfl⟩

    go_wp2_with fail
    refine (heldIntS_any _ _ _ _ (W4.drewN m) (hO3.below hB4).rd (by omega) (by omega) (by omega)).mono ?_
    rintro e w' ⟨rfl, rfl⟩
    go_wp2
    go_ret
    exact ⟨rfl, hB0.trans ((hB14.trans (drewN_below _ _)).mono hz1)⟩

namespace fnExactBeforeOf
open Go.ChangeShapes Go.WideShapes Go.ChangeAt Go.RowKit
open Go.ChangeMaps (open_string shut_string)
set_option linter.unusedVariables false
theorem laid_met (os : Os) (args : Array Value) : laidMet Tryd.prog Rows.fnExactBeforeOfRow.laid ((laidWorld os).forCall (fun _ _ => 0) ⟨#[], args, []⟩).memory := laid_met0 os args
theorem witness_row (os : Os) {H : Type} (enc : TypeId × Value → H) :
    (OpenSpec.ofChange Rows.fnExactBeforeOfSpec).preRow enc Tryd.prog Tryd.f13 Rows.fnExactBeforeOfRow.domain false Rows.fnExactBeforeOfRow.laid ((laidWorld os).forCall (fun _ _ => 0) ⟨#[], #[.string ByteArray.empty, .int .i64 0], []⟩).memory #[.string ByteArray.empty, .int .i64 0] := by
  have hw : (DataW.whole enc Tryd.prog ((laidWorld os).forCall (fun _ _ => 0) ⟨#[], #[.string ByteArray.empty, .int .i64 0], []⟩).memory Tryd.f13.params.toList Rows.fnExactBeforeOfSpec.vars false #[.string ByteArray.empty, .int .i64 0].toList 8).map (fun x => (x.1, x.2.1)) =
      some ([.lit (.string []), .lit (.int .i64 0)], []) := by kernel_rfl
  obtain ⟨⟨x1, x2, x3⟩, hx, hx1⟩ := Option.map_eq_some_iff.1 hw
  simp only [Prod.mk.injEq] at hx1
  obtain ⟨rfl, rfl⟩ := hx1
  exact OpenSpec.preRow_of_cond 8 hx (by kernel_rfl) (fun k hk => by cases hk) (by kernel_rfl) (laid_met os _)
set_option maxRecDepth 100000 in
/-- the row's step: the arguments are opened, the walk is called, the arguments are shut -/
theorem lifted (os : Os) (started : os.Started) (H : Type) (enc : TypeId × Value → H) (FI : Stop.Interp) :
    ReturnsInHanded {} Tryd.checked os 13 .any ((OpenSpec.ofChange Rows.fnExactBeforeOfSpec).preRow enc Tryd.prog Tryd.f13 Rows.fnExactBeforeOfRow.domain false Rows.fnExactBeforeOfRow.laid) (((OpenSpec.ofChange Rows.fnExactBeforeOfSpec).at FI).post enc Tryd.prog Tryd.f13 false true false false) := by
  refine returnsInHanded_of_row (C := Tryd.checked) (s := OpenSpec.ofChange Rows.fnExactBeforeOfSpec) own started (by kernel_rfl) Tryd.func13
    (witness_row_atRef (enc := enc) (C := Tryd.checked) false (laidWorld os) #[.string ByteArray.empty, .int .i64 0] rfl (by kernel_rfl) (by kernel_rfl) (by kernel_rfl) (witness_row os enc)) ?_
  intro W base args ds gs before hval0 hW _ _ _ hL hsh _
  have hm : HasM W := Tryd.laysM146.s1_3 W hsh
  have hval : ∀ (j : Nat) t v, Tryd.f13.params[j]? = some t → args[j]? = some v → Value.okWide Tryd.prog W .any base t v := hval0
  have hW' := hW
  obtain ⟨p, q, hA0, hV, rfl, hfz, hnd⟩ := hW
  have hA : DataW.TrodAll enc Tryd.prog W 0 (fun _ => true) true Tryd.f13.params.toList args.toList ds p := hA0
  rw [Tryd.params13] at hA hval
  obtain ⟨v0, vs0, d0, ds0, p0, q0, hargs, rfl, rfl, h0, r0⟩ := trodAll_cons hA
  obtain ⟨v1, vs1, d1, ds1, p1, q1, rfl, rfl, rfl, h1, r1⟩ := trodAll_cons r0
  obtain ⟨rfl, rfl, rfl⟩ := trodAll_nil r1
  obtain rfl : args = #[v0, v1] := by cases args; simp_all
  obtain ⟨rfl, rfl⟩ := trodVars_none hV
  obtain ⟨a0, rfl, rfl, rfl, w0⟩ := open_string Tryd.underlying9 (hval 0 9 v0 rfl rfl) h0
  obtain ⟨a1, rfl, rfl, rfl, w1⟩ := open_int Tryd.underlying3 (hval 1 3 v1 rfl rfl) h1
  clear hA0 hval0
  refine (fnExactBeforeOf_walk a0 a1 W (Lib.hid hm) w0 w1).mono fun e W' ⟨he, bel⟩ => ?_
  subst he
  exact ⟨_, rfl, _, _, _, [], _, [], hW', trodAll_mk1 (shut_bool Tryd.underlying4 _), (trodAll_cons_mk (shut_string Tryd.underlying9 w0) (trodAll_cons_mk (shut_int Tryd.underlying3 w1) trodAll_mk0)), rfl, bel.frame _, fun h => by cases h⟩

theorem fact1 : Tryd.pinned.checked.prog.funcNamed Rows.fnExactBeforeOfRow.func = some 13 := by kernel_rfl
theorem j0 : (Rows.fnExactBeforeOfRow.wf (OpenSpec.ofChange (OpenSpec.ofChange Rows.fnExactBeforeOfSpec).bare)) = true := by kernel_rfl
theorem j1 : (laidOutB Tryd.pinned.checked.prog) = true := pf_laid
theorem j2 : (mapsRowed Tryd.pinned.checked.prog) = true := pf_maps
theorem j3 : (Tryd.f13.params.all (Tryd.pinned.checked.prog.readableRec ·)) = true := by kernel_rfl
theorem j4 : (namedTie Tryd.pinned.checked.prog Rows.fnExactBeforeOfRow.named (OpenSpec.ofChange Rows.fnExactBeforeOfSpec).bare.vars) = true := by kernel_rfl
theorem j5 : ((Rows.fnExactBeforeOfRow.stops == [])) = true := by kernel_rfl
theorem j6 : ((Tryd.pinned.checked.prog.stops == [])) = true := pf_stops
theorem j7 : ((Rows.fnExactBeforeOfRow.knobs == [])) = true := by kernel_rfl
theorem j8 : ((Tryd.pinned.checked.prog.stopKnobs == [])) = true := pf_knobs
theorem j9 : ((Rows.fnExactBeforeOfRow.inPlace == Tryd.pinned.checked.prog.inPlace 13)) = true := by kernel_rfl
theorem j10 : ((Rows.fnExactBeforeOfRow.unfollowed == Tryd.pinned.checked.prog.unfollowed 13)) = true := by kernel_rfl
theorem j11 : ((Rows.fnExactBeforeOfRow.recurses == Tryd.pinned.checked.prog.recurses 13)) = true := by kernel_rfl
theorem j12 : ((Rows.fnExactBeforeOfRow.named == Tryd.pinned.checked.prog.varsNamed 13)) = true := by kernel_rfl
theorem j13 : ((Rows.fnExactBeforeOfRow.maps == (Tryd.f13.params.toList ++ (OpenSpec.ofChange Rows.fnExactBeforeOfSpec).bare.plain.varTypes Tryd.pinned.checked.prog).any (Tryd.pinned.checked.prog.mapsRec ·))) = true := by kernel_rfl
theorem j14 : ((Rows.fnExactBeforeOfRow.ifaces == (Tryd.f13.params.toList ++ (OpenSpec.ofChange Rows.fnExactBeforeOfSpec).bare.plain.varTypes Tryd.pinned.checked.prog).any (Tryd.pinned.checked.prog.ifacesRec ·))) = true := by kernel_rfl
theorem j15 : ((Rows.fnExactBeforeOfRow.mapsOut == Tryd.pinned.checked.prog.mapsAmong Tryd.f13.resultTypes.toList)) = true := by kernel_rfl
theorem j16 : ((Rows.fnExactBeforeOfRow.loops == (Tryd.f13.params.toList ++ (OpenSpec.ofChange Rows.fnExactBeforeOfSpec).bare.plain.varTypes Tryd.pinned.checked.prog).any (Tryd.pinned.checked.prog.loopsFrom ·))) = true := by kernel_rfl
theorem j17 : ((Rows.fnExactBeforeOfRow.wideKeys == (Tryd.f13.params.toList ++ (OpenSpec.ofChange Rows.fnExactBeforeOfSpec).bare.plain.varTypes Tryd.pinned.checked.prog ++ Tryd.f13.resultTypes.toList).any (Tryd.pinned.checked.prog.wideKeysFrom ·))) = true := by kernel_rfl
theorem j18 : ((OpenSpec.ofChange Rows.fnExactBeforeOfSpec).bare.vars.all (Tryd.pinned.checked.prog.varReadable ·)) = true := by kernel_rfl
theorem j19 : (Tryd.f13.resultTypes.all (fun t => Tryd.pinned.checked.prog.readableRec t && decide (t < Tryd.pinned.checked.prog.types.size))) = true := by kernel_rfl
theorem j20 : ((Rows.fnExactBeforeOfRow.ifacesOut == Tryd.f13.resultTypes.toList.any (Tryd.pinned.checked.prog.ifacesRec ·))) = true := by kernel_rfl
theorem j21 : ((Rows.fnExactBeforeOfRow.loopsOut == Tryd.f13.resultTypes.toList.any (Tryd.pinned.checked.prog.loopsFrom ·))) = true := by kernel_rfl
theorem j22 : ((Rows.fnExactBeforeOfRow.plainKeys == Tryd.pinned.checked.prog.plainKeys)) = true := by rw [pf_keys]; kernel_rfl
theorem j23 : (Rows.fnExactBeforeOfRow.shortTexts.isNone) = true := by kernel_rfl
theorem j24 : (Tryd.pinned.checked.prog.stopsHeard) = true := pf_heard
theorem j25 : (Tryd.pinned.checked.prog.mayEnter) = true := pf_enter
theorem j26 : ((Rows.fnExactBeforeOfRow.lifted == Tryd.pinned.checked.prog.liftsFinal)) = true := by rw [pf_lift]; kernel_rfl
theorem j27 : ((Tryd.pinned.checked.prog.make == some Rows.fnExactBeforeOfRow.make)) = true := by kernel_rfl
theorem j28 : ((Rows.fnExactBeforeOfRow.kinds == (if Rows.fnExactBeforeOfRow.domain.isEmpty then [] else Tryd.f13.params.toList.map fun t => match Tryd.pinned.checked.prog.underlying t with | some (.int k) => some k | _ => none))) = true := by kernel_rfl
theorem j29 : ((Rows.fnExactBeforeOfRow.pinned == Rows.fnExactBeforeOfRow.pinnedBy)) = true := by kernel_rfl
theorem j30 : ((Rows.fnExactBeforeOfRow.veiled == (Tryd.f13.params.toList ++ (OpenSpec.ofChange Rows.fnExactBeforeOfSpec).bare.plain.varTypes Tryd.pinned.checked.prog ++ Tryd.f13.resultTypes.toList).any (Tryd.pinned.checked.prog.veiledRec ·))) = true := by kernel_rfl
theorem j31 : (Rows.fnExactBeforeOfRow.veiledFits Tryd.pinned.checked.prog Tryd.f13.params.toList (Tryd.f13.params.toList ++ (OpenSpec.ofChange Rows.fnExactBeforeOfSpec).bare.plain.varTypes Tryd.pinned.checked.prog ++ Tryd.f13.resultTypes.toList)) = true := by kernel_rfl
set_option maxRecDepth 100000 in
theorem fact2 : joinedFacts Tryd.pinned.checked.prog 13 Tryd.f13 (OpenSpec.ofChange Rows.fnExactBeforeOfSpec).bare Rows.fnExactBeforeOfRow = true := joined_mk Tryd.pinned.checked.prog 13 Tryd.f13 (OpenSpec.ofChange Rows.fnExactBeforeOfSpec).bare Rows.fnExactBeforeOfRow j0 j1 j2 j3 j4 j5 j6 j7 j8 j9 j10 j11 j12 j13 j14 j15 j16 j17 j18 j19 j20 j21 j22 j23 j24 j25 j26 j27 j28 j29 j30 j31
theorem fact3 : Tryd.f13.isInstance Tryd.pinned.checked.prog Rows.fnExactBeforeOfRow.origin Rows.fnExactBeforeOfRow.targs := of_decide_eq_true (by kernel_rfl)
theorem fact4 : Tryd.f13.isWrapper Tryd.pinned.checked.prog Rows.fnExactBeforeOfRow.wrapper Rows.fnExactBeforeOfRow.mainSum := by unfold Func.isWrapper; first | (rw [if_pos (by decide +kernel)]; kernel_rfl) | (rw [if_neg (by decide +kernel)]; exact ⟨rfl, rfl⟩)
theorem said : Rows.FnExactBeforeOfSaid :=
  OpenClaim.holds_of_cond 13 Tryd.f13 rfl rfl rfl rfl rfl rfl rfl ⟨rfl, rfl, rfl, rfl, rfl⟩ rfl rfl rfl rfl rfl fact1 Tryd.func13 fact2 fact3 fact4
    (fun os started H enc _ FI => by rw [OpenClaim.pre_eq_preRow]; exact lifted os started H enc FI)

theorem fact5 : Rows.fnExactBeforeOfRow.wfByText (OpenSpec.ofChange Rows.fnExactBeforeOfSpec) = true := by kernel_rfl
theorem fact6 : Tryd.pinned.checked.prog.mainIs = some (Rows.fnExactBeforeOfCard.stood.harness.1, Rows.fnExactBeforeOfCard.stood.harness.2.toList) := by kernel_rfl
theorem fact7 : false = Rows.fnExactBeforeOfRow.goesBy Tryd.pinned.checked.prog := by kernel_rfl
theorem fact8 : false = Tryd.pinned.checked.prog.looks [] := pf_looks
theorem fact9 : #[9, 3].all (fun t => !Tryd.prog.wantsStandIn t) = true := by kernel_rfl
theorem plain (f : FuncId) (fn : Func) (hf : Tryd.pinned.checked.prog.funcNamed Rows.fnExactBeforeOfRow.func = some f) (hfn : Tryd.pinned.checked.prog.funcs[f]? = some fn) :
    false = Tryd.pinned.checked.prog.looks [] ∧ ∀ (j : Nat) t, fn.params[j]? = some t → Tryd.pinned.checked.prog.wantsStandIn t = false := by
  obtain rfl : f = 13 := (Option.some.inj (fact1.symm.trans hf)).symm
  obtain rfl : fn = Tryd.f13 := (Option.some.inj (Tryd.func13.symm.trans hfn)).symm
  refine ⟨fact8, fun j t ht => ?_⟩
  rw [Tryd.params13] at ht
  have := Array.all_eq_true_iff_forall_mem.1 fact9 t (Array.mem_of_getElem? ht)
  exact (show Tryd.prog.wantsStandIn t = false by simpa using this)

/-- THE STATEMENT -/
theorem proved : Rows.FnExactBeforeOfCardSaid :=
  Claim7.holds_tied_plain_at .later [] _ _ _ _ said (fun _ h => by cases h) fact5 (fun _ h => by cases h) fnExactBeforeOf_row_tie rfl ⟨rfl, rfl⟩ fact6 rfl plain fact7
#print axioms proved
end fnExactBeforeOf

end Go.Proofs.YtopdgbfaofdkaaaDoor
