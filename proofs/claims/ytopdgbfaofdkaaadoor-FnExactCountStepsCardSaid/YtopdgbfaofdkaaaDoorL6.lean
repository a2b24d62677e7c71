/- FnExactCountSteps holds: at every text the program's CountSteps returns what the reference's returns. Conditions: those that the given card prints. -/
import Derived.Test.YtopdgbfaofdkaaaDoorLb
import Derived.Test.YtopdgbfaofdkaaaDoorWc
namespace Go.Proofs.YtopdgbfaofdkaaaDoor

namespace fnExactCountSteps
open Go.ChangeShapes Go.WideShapes Go.ChangeAt Go.RowKit
open Go.ChangeMaps (open_string shut_string)
set_option linter.unusedVariables false
theorem laid_met (os : Os) (args : Array Value) : laidMet Tryd.prog Rows.fnExactCountStepsRow.laid ((laidWorld os).forCall (fun _ _ => 0) ⟨#[], args, []⟩).memory := laid_met0 os args
theorem witness_row (os : Os) {H : Type} (enc : TypeId × Value → H) :
    (OpenSpec.ofChange Rows.fnExactCountStepsSpec).preRow enc Tryd.prog Tryd.f3 Rows.fnExactCountStepsRow.domain false Rows.fnExactCountStepsRow.laid ((laidWorld os).forCall (fun _ _ => 0) ⟨#[], #[.string ByteArray.empty], []⟩).memory #[.string ByteArray.empty] := by
  have hw : (DataW.whole enc Tryd.prog ((laidWorld os).forCall (fun _ _ => 0) ⟨#[], #[.string ByteArray.empty], []⟩).memory Tryd.f3.params.toList Rows.fnExactCountStepsSpec.vars false #[.string ByteArray.empty].toList 8).map (fun x => (x.1, x.2.1)) =
      some ([.lit (.string [])], []) := by kernel_rfl
  obtain ⟨⟨x1, x2, x3⟩, hx, hx1⟩ := Option.map_eq_some_iff.1 hw
  simp only [Prod.mk.injEq] at hx1
  obtain ⟨rfl, rfl⟩ := hx1
  exact OpenSpec.preRow_of_cond 8 hx (by kernel_rfl) (fun k hk => by cases hk) (by kernel_rfl) (laid_met os _)
set_option maxRecDepth 100000 in
/-- the row's step: the arguments are opened, the walk is called, the arguments are shut -/
theorem lifted (os : Os) (started : os.Started) (H : Type) (enc : TypeId × Value → H) (FI : Stop.Interp) :
    ReturnsInHanded {} Tryd.checked os 3 .any ((OpenSpec.ofChange Rows.fnExactCountStepsSpec).preRow enc Tryd.prog Tryd.f3 Rows.fnExactCountStepsRow.domain false Rows.fnExactCountStepsRow.laid) (((OpenSpec.ofChange Rows.fnExactCountStepsSpec).at FI).post enc Tryd.prog Tryd.f3 false true false false) := by
  refine returnsInHanded_of_row (C := Tryd.checked) (s := OpenSpec.ofChange Rows.fnExactCountStepsSpec) own started (by kernel_rfl) Tryd.func3
    (witness_row_atRef (enc := enc) (C := Tryd.checked) false (laidWorld os) #[.string ByteArray.empty] rfl (by kernel_rfl) (by kernel_rfl) (by kernel_rfl) (witness_row os enc)) ?_
  intro W base args ds gs before hval0 hW _ _ _ hL hsh _
  have hm : HasM W := Tryd.laysM146.s1_3 W hsh
  have hval : ∀ (j : Nat) t v, Tryd.f3.params[j]? = some t → args[j]? = some v → Value.okWide Tryd.prog W .any base t v := hval0
  have hW' := hW
  obtain ⟨p, q, hA0, hV, rfl, hfz, hnd⟩ := hW
  have hA : DataW.TrodAll enc Tryd.prog W 0 (fun _ => true) true Tryd.f3.params.toList args.toList ds p := hA0
  rw [Tryd.params3] at hA hval
  obtain ⟨v0, vs0, d0, ds0, p0, q0, hargs, rfl, rfl, h0, r0⟩ := trodAll_cons hA
  obtain ⟨rfl, rfl, rfl⟩ := trodAll_nil r0
  obtain rfl : args = #[v0] := by cases args; simp_all
  obtain ⟨rfl, rfl⟩ := trodVars_none hV
  obtain ⟨a0, rfl, rfl, rfl, w0⟩ := open_string Tryd.underlying9 (hval 0 9 v0 rfl rfl) h0
  clear hA0 hval0
  refine (fnExactCountSteps_walk a0 W (Lib.hid hm) w0).mono fun e W' ⟨he, bel⟩ => ?_
  subst he
  exact ⟨_, rfl, _, _, _, [], _, [], hW', trodAll_mk1 (shut_bool Tryd.underlying4 _), (trodAll_cons_mk (shut_string Tryd.underlying9 w0) trodAll_mk0), rfl, bel.frame _, fun h => by cases h⟩

theorem fact1 : Tryd.pinned.checked.prog.funcNamed Rows.fnExactCountStepsRow.func = some 3 := by kernel_rfl
theorem j0 : (Rows.fnExactCountStepsRow.wf (OpenSpec.ofChange (OpenSpec.ofChange Rows.fnExactCountStepsSpec).bare)) = true := by kernel_rfl
theorem j1 : (laidOutB Tryd.pinned.checked.prog) = true := pf_laid
theorem j2 : (mapsRowed Tryd.pinned.checked.prog) = true := pf_maps
theorem j3 : (Tryd.f3.params.all (Tryd.pinned.checked.prog.readableRec ·)) = true := by kernel_rfl
theorem j4 : (namedTie Tryd.pinned.checked.prog Rows.fnExactCountStepsRow.named (OpenSpec.ofChange Rows.fnExactCountStepsSpec).bare.vars) = true := by kernel_rfl
theorem j5 : ((Rows.fnExactCountStepsRow.stops == [])) = true := by kernel_rfl
theorem j6 : ((Tryd.pinned.checked.prog.stops == [])) = true := pf_stops
theorem j7 : ((Rows.fnExactCountStepsRow.knobs == [])) = true := by kernel_rfl
theorem j8 : ((Tryd.pinned.checked.prog.stopKnobs == [])) = true := pf_knobs
theorem j9 : ((Rows.fnExactCountStepsRow.inPlace == Tryd.pinned.checked.prog.inPlace 3)) = true := by kernel_rfl
theorem j10 : ((Rows.fnExactCountStepsRow.unfollowed == Tryd.pinned.checked.prog.unfollowed 3)) = true := by kernel_rfl
theorem j11 : ((Rows.fnExactCountStepsRow.recurses == Tryd.pinned.checked.prog.recurses 3)) = true := by kernel_rfl
theorem j12 : ((Rows.fnExactCountStepsRow.named == Tryd.pinned.checked.prog.varsNamed 3)) = true := by kernel_rfl
theorem j13 : ((Rows.fnExactCountStepsRow.maps == (Tryd.f3.params.toList ++ (OpenSpec.ofChange Rows.fnExactCountStepsSpec).bare.plain.varTypes Tryd.pinned.checked.prog).any (Tryd.pinned.checked.prog.mapsRec ·))) = true := by kernel_rfl
theorem j14 : ((Rows.fnExactCountStepsRow.ifaces == (Tryd.f3.params.toList ++ (OpenSpec.ofChange Rows.fnExactCountStepsSpec).bare.plain.varTypes Tryd.pinned.checked.prog).any (Tryd.pinned.checked.prog.ifacesRec ·))) = true := by kernel_rfl
theorem j15 : ((Rows.fnExactCountStepsRow.mapsOut == Tryd.pinned.checked.prog.mapsAmong Tryd.f3.resultTypes.toList)) = true := by kernel_rfl
theorem j16 : ((Rows.fnExactCountStepsRow.loops == (Tryd.f3.params.toList ++ (OpenSpec.ofChange Rows.fnExactCountStepsSpec).bare.plain.varTypes Tryd.pinned.checked.prog).any (Tryd.pinned.checked.prog.loopsFrom ·))) = true := by kernel_rfl
theorem j17 : ((Rows.fnExactCountStepsRow.wideKeys == (Tryd.f3.params.toList ++ (OpenSpec.ofChange Rows.fnExactCountStepsSpec).bare.plain.varTypes Tryd.pinned.checked.prog ++ Tryd.f3.resultTypes.toList).any (Tryd.pinned.checked.prog.wideKeysFrom ·))) = true := by kernel_rfl
theorem j18 : ((OpenSpec.ofChange Rows.fnExactCountStepsSpec).bare.vars.all (Tryd.pinned.checked.prog.varReadable ·)) = true := by kernel_rfl
theorem j19 : (Tryd.f3.resultTypes.all (fun t => Tryd.pinned.checked.prog.readableRec t && decide (t < Tryd.pinned.checked.prog.types.size))) = true := by kernel_rfl
theorem j20 : ((Rows.fnExactCountStepsRow.ifacesOut == Tryd.f3.resultTypes.toList.any (Tryd.pinned.checked.prog.ifacesRec ·))) = true := by kernel_rfl
theorem j21 : ((Rows.fnExactCountStepsRow.loopsOut == Tryd.f3.resultTypes.toList.any (Tryd.pinned.checked.prog.loopsFrom ·))) = true := by kernel_rfl
theorem j22 : ((Rows.fnExactCountStepsRow.plainKeys == Tryd.pinned.checked.prog.plainKeys)) = true := by rw [pf_keys]; kernel_rfl
theorem j23 : (Rows.fnExactCountStepsRow.shortTexts.isNone) = true := by kernel_rfl
theorem j24 : (Tryd.pinned.checked.prog.stopsHeard) = true := pf_heard
theorem j25 : (Tryd.pinned.checked.prog.mayEnter) = true := pf_enter
theorem j26 : ((Rows.fnExactCountStepsRow.lifted == Tryd.pinned.checked.prog.liftsFinal)) = true := by rw [pf_lift]; kernel_rfl
theorem j27 : ((Tryd.pinned.checked.prog.make == some Rows.fnExactCountStepsRow.make)) = true := by kernel_rfl
theorem j28 : ((Rows.fnExactCountStepsRow.kinds == (if Rows.fnExactCountStepsRow.domain.isEmpty then [] else Tryd.f3.params.toList.map fun t => match Tryd.pinned.checked.prog.underlying t with | some (.int k) => some k | _ => none))) = true := by kernel_rfl
theorem j29 : ((Rows.fnExactCountStepsRow.pinned == Rows.fnExactCountStepsRow.pinnedBy)) = true := by kernel_rfl
theorem j30 : ((Rows.fnExactCountStepsRow.veiled == (Tryd.f3.params.toList ++ (OpenSpec.ofChange Rows.fnExactCountStepsSpec).bare.plain.varTypes Tryd.pinned.checked.prog ++ Tryd.f3.resultTypes.toList).any (Tryd.pinned.checked.prog.veiledRec ·))) = true := by kernel_rfl
theorem j31 : (Rows.fnExactCountStepsRow.veiledFits Tryd.pinned.checked.prog Tryd.f3.params.toList (Tryd.f3.params.toList ++ (OpenSpec.ofChange Rows.fnExactCountStepsSpec).bare.plain.varTypes Tryd.pinned.checked.prog ++ Tryd.f3.resultTypes.toList)) = true := by kernel_rfl
set_option maxRecDepth 100000 in
theorem fact2 : joinedFacts Tryd.pinned.checked.prog 3 Tryd.f3 (OpenSpec.ofChange Rows.fnExactCountStepsSpec).bare Rows.fnExactCountStepsRow = true := joined_mk Tryd.pinned.checked.prog 3 Tryd.f3 (OpenSpec.ofChange Rows.fnExactCountStepsSpec).bare Rows.fnExactCountStepsRow j0 j1 j2 j3 j4 j5 j6 j7 j8 j9 j10 j11 j12 j13 j14 j15 j16 j17 j18 j19 j20 j21 j22 j23 j24 j25 j26 j27 j28 j29 j30 j31
theorem fact3 : Tryd.f3.isInstance Tryd.pinned.checked.prog Rows.fnExactCountStepsRow.origin Rows.fnExactCountStepsRow.targs := of_decide_eq_true (by kernel_rfl)
theorem fact4 : Tryd.f3.isWrapper Tryd.pinned.checked.prog Rows.fnExactCountStepsRow.wrapper Rows.fnExactCountStepsRow.mainSum := by unfold Func.isWrapper; first | (rw [if_pos (by decide +kernel)]; kernel_rfl) | (rw [if_neg (by decide +kernel)]; exact ⟨rfl, rfl⟩)
theorem said : Rows.FnExactCountStepsSaid :=
  OpenClaim.holds_of_cond 3 Tryd.f3 rfl rfl rfl rfl rfl rfl rfl ⟨rfl, rfl, rfl, rfl, rfl⟩ rfl rfl rfl rfl rfl fact1 Tryd.func3 fact2 fact3 fact4
    (fun os started H enc _ FI => by rw [OpenClaim.pre_eq_preRow]; exact lifted os started H enc FI)

theorem fact5 : Rows.fnExactCountStepsRow.wfByText (OpenSpec.ofChange Rows.fnExactCountStepsSpec) = true := by kernel_rfl
theorem fact6 : Tryd.pinned.checked.prog.mainIs = some (Rows.fnExactCountStepsCard.stood.harness.1, Rows.fnExactCountStepsCard.stood.harness.2.toList) := by kernel_rfl
theorem fact7 : false = Rows.fnExactCountStepsRow.goesBy Tryd.pinned.checked.prog := by kernel_rfl
theorem fact8 : false = Tryd.pinned.checked.prog.looks [] := pf_looks
theorem fact9 : #[9].all (fun t => !Tryd.prog.wantsStandIn t) = true := by kernel_rfl
theorem plain (f : FuncId) (fn : Func) (hf : Tryd.pinned.checked.prog.funcNamed Rows.fnExactCountStepsRow.func = some f) (hfn : Tryd.pinned.checked.prog.funcs[f]? = some fn) :
    false = Tryd.pinned.checked.prog.looks [] ∧ ∀ (j : Nat) t, fn.params[j]? = some t → Tryd.pinned.checked.prog.wantsStandIn t = false := by
  obtain rfl : f = 3 := (Option.some.inj (fact1.symm.trans hf)).symm
  obtain rfl : fn = Tryd.f3 := (Option.some.inj (Tryd.func3.symm.trans hfn)).symm
  refine ⟨fact8, fun j t ht => ?_⟩
  rw [Tryd.params3] at ht
  have := Array.all_eq_true_iff_forall_mem.1 fact9 t (Array.mem_of_getElem? ht)
  exact (show Tryd.prog.wantsStandIn t = false by simpa using this)

/-- THE STATEMENT -/
theorem proved : Rows.FnExactCountStepsCardSaid :=
  Claim7.holds_tied_plain_at .later [] _ _ _ _ said (fun _ h => by cases h) fact5 (fun _ h => by cases h) fnExactCountSteps_row_tie rfl ⟨rfl, rfl⟩ fact6 rfl plain fact7
#print axioms proved
end fnExactCountSteps

end Go.Proofs.YtopdgbfaofdkaaaDoor
