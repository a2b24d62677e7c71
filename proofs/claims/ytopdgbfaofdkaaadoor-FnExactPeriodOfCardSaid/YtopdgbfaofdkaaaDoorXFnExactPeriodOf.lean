/- FnExactPeriodOf holds: at all arguments the program's PeriodOf returns what the reference's returns. Conditions: those that the given card prints. -/
import Derived.Test.YtopdgbfaofdkaaaDoorLb
import Derived.Test.YtopdgbfaofdkaaaDoorWq
namespace Go.Proofs.YtopdgbfaofdkaaaDoor
open Go.RowKit
set_option linter.unusedVariables false

theorem fnExactPeriodOf_walk (a0 : ByteArray) (a1 : Int) (w : World) (hm : Hid (HasM w)) (w0 : a0.size ≤ maxLen) (w1 : (Lit.int .i64 a1).wf = true) :
    Calls Tryd.prog 12 #[.string a0, .int .i64 a1] w fun e w' => e = .returned (.bool true) ∧ Below w.heap.size w w' := by
  unfold maxLen at w0
  by_cases h0 : 1048576 < a0.size
  · go_enter Tryd.func12, Tryd.ntmps12
    go_wp2
    go_ret
    exact ⟨rfl, Below.refl _ _⟩
  have hd : ((perN (cutL a0.data.toList) a1) != (perN (cutL a0.data.toList) a1)) = false := bne_self_eq_false _
  go_enter Tryd.func12, Tryd.ntmps12
  go_wp2_with fail
  refine (sPeriodOf_any a0 a1 _ (by omega)).mono ?_
  rintro e w1 ⟨rfl, hB1⟩
  go_wp2_with fail
  refine (PeriodOf_any a0 a1 _ (Lib.hid (hm.out.below hB1)) (by omega)).mono ?_
  rintro e w2 ⟨rfl, hB2⟩
  go_wp2
  go_ret
  exact ⟨rfl, hB1.trans (hB2.mono hB1.size)⟩

namespace fnExactPeriodOf
open Go.ChangeShapes Go.WideShapes Go.ChangeAt Go.RowKit
open Go.ChangeMaps (open_string shut_string)
set_option linter.unusedVariables false
theorem laid_met (os : Os) (args : Array Value) : laidMet Tryd.prog Rows.fnExactPeriodOfRow.laid ((laidWorld os).forCall (fun _ _ => 0) ⟨#[], args, []⟩).memory := laid_met0 os args
theorem witness_row (os : Os) {H : Type} (enc : TypeId × Value → H) :
    (OpenSpec.ofChange Rows.fnExactPeriodOfSpec).preRow enc Tryd.prog Tryd.f12 Rows.fnExactPeriodOfRow.domain false Rows.fnExactPeriodOfRow.laid ((laidWorld os).forCall (fun _ _ => 0) ⟨#[], #[.string ByteArray.empty, .int .i64 0], []⟩).memory #[.string ByteArray.empty, .int .i64 0] := by
  have hw : (DataW.whole enc Tryd.prog ((laidWorld os).forCall (fun _ _ => 0) ⟨#[], #[.string ByteArray.empty, .int .i64 0], []⟩).memory Tryd.f12.params.toList Rows.fnExactPeriodOfSpec.vars false #[.string ByteArray.empty, .int .i64 0].toList 8).map (fun x => (x.1, x.2.1)) =
      some ([.lit (.string []), .lit (.int .i64 0)], []) := by kernel_rfl
  obtain ⟨⟨x1, x2, x3⟩, hx, hx1⟩ := Option.map_eq_some_iff.1 hw
  simp only [Prod.mk.injEq] at hx1
  obtain ⟨rfl, rfl⟩ := hx1
  exact OpenSpec.preRow_of_cond 8 hx (by kernel_rfl) (fun k hk => by cases hk) (by kernel_rfl) (laid_met os _)
set_option maxRecDepth 100000 in
/-- the row's step: the arguments are opened, the walk is called, the arguments are shut -/
theorem lifted (os : Os) (started : os.Started) (H : Type) (enc : TypeId × Value → H) (FI : Stop.Interp) :
    ReturnsInHanded {} Tryd.checked os 12 .any ((OpenSpec.ofChange Rows.fnExactPeriodOfSpec).preRow enc Tryd.prog Tryd.f12 Rows.fnExactPeriodOfRow.domain false Rows.fnExactPeriodOfRow.laid) (((OpenSpec.ofChange Rows.fnExactPeriodOfSpec).at FI).post enc Tryd.prog Tryd.f12 false true false false) := by
  refine returnsInHanded_of_row (C := Tryd.checked) (s := OpenSpec.ofChange Rows.fnExactPeriodOfSpec) own started (by kernel_rfl) Tryd.func12
    (witness_row_atRef (enc := enc) (C := Tryd.checked) false (laidWorld os) #[.string ByteArray.empty, .int .i64 0] rfl (by kernel_rfl) (by kernel_rfl) (by kernel_rfl) (witness_row os enc)) ?_
  intro W base args ds gs before hval0 hW _ _ _ hL hsh _
  have hm : HasM W := Tryd.laysM146.s1_3 W hsh
  have hval : ∀ (j : Nat) t v, Tryd.f12.params[j]? = some t → args[j]? = some v → Value.okWide Tryd.prog W .any base t v := hval0
  have hW' := hW
  obtain ⟨p, q, hA0, hV, rfl, hfz, hnd⟩ := hW
  have hA : DataW.TrodAll enc Tryd.prog W 0 (fun _ => true) true Tryd.f12.params.toList args.toList ds p := hA0
  rw [Tryd.params12] at hA hval
  obtain ⟨v0, vs0, d0, ds0, p0, q0, hargs, rfl, rfl, h0, r0⟩ := trodAll_cons hA
  obtain ⟨v1, vs1, d1, ds1, p1, q1, rfl, rfl, rfl, h1, r1⟩ := trodAll_cons r0
  obtain ⟨rfl, rfl, rfl⟩ := trodAll_nil r1
  obtain rfl : args = #[v0, v1] := by cases args; simp_all
  obtain ⟨rfl, rfl⟩ := trodVars_none hV
  obtain ⟨a0, rfl, rfl, rfl, w0⟩ := open_string Tryd.underlying9 (hval 0 9 v0 rfl rfl) h0
  obtain ⟨a1, rfl, rfl, rfl, w1⟩ := open_int Tryd.underlying3 (hval 1 3 v1 rfl rfl) h1
  clear hA0 hval0
  refine (fnExactPeriodOf_walk a0 a1 W (Lib.hid hm) w0 w1).mono fun e W' ⟨he, bel⟩ => ?_
  subst he
  exact ⟨_, rfl, _, _, _, [], _, [], hW', trodAll_mk1 (shut_bool Tryd.underlying4 _), (trodAll_cons_mk (shut_string Tryd.underlying9 w0) (trodAll_cons_mk (shut_int Tryd.underlying3 w1) trodAll_mk0)), rfl, bel.frame _, fun h => by cases h⟩

theorem fact1 : Tryd.pinned.checked.prog.funcNamed Rows.fnExactPeriodOfRow.func = some 12 := by kernel_rfl
theorem j0 : (Rows.fnExactPeriodOfRow.wf (OpenSpec.ofChange (OpenSpec.ofChange Rows.fnExactPeriodOfSpec).bare)) = true := by kernel_rfl
theorem j1 : (laidOutB Tryd.pinned.checked.prog) = true := pf_laid
theorem j2 : (mapsRowed Tryd.pinned.checked.prog) = true := pf_maps
theorem j3 : (Tryd.f12.params.all (Tryd.pinned.checked.prog.readableRec ·)) = true := by kernel_rfl
theorem j4 : (namedTie Tryd.pinned.checked.prog Rows.fnExactPeriodOfRow.named (OpenSpec.ofChange Rows.fnExactPeriodOfSpec).bare.vars) = true := by kernel_rfl
theorem j5 : ((Rows.fnExactPeriodOfRow.stops == [])) = true := by kernel_rfl
theorem j6 : ((Tryd.pinned.checked.prog.stops == [])) = true := pf_stops
theorem j7 : ((Rows.fnExactPeriodOfRow.knobs == [])) = true := by kernel_rfl
theorem j8 : ((Tryd.pinned.checked.prog.stopKnobs == [])) = true := pf_knobs
theorem j9 : ((Rows.fnExactPeriodOfRow.inPlace == Tryd.pinned.checked.prog.inPlace 12)) = true := by kernel_rfl
theorem j10 : ((Rows.fnExactPeriodOfRow.unfollowed == Tryd.pinned.checked.prog.unfollowed 12)) = true := by kernel_rfl
theorem j11 : ((Rows.fnExactPeriodOfRow.recurses == Tryd.pinned.checked.prog.recurses 12)) = true := by kernel_rfl
theorem j12 : ((Rows.fnExactPeriodOfRow.named == Tryd.pinned.checked.prog.varsNamed 12)) = true := by kernel_rfl
theorem j13 : ((Rows.fnExactPeriodOfRow.maps == (Tryd.f12.params.toList ++ (OpenSpec.ofChange Rows.fnExactPeriodOfSpec).bare.plain.varTypes Tryd.pinned.checked.prog).any (Tryd.pinned.checked.prog.mapsRec ·))) = true := by kernel_rfl
theorem j14 : ((Rows.fnExactPeriodOfRow.ifaces == (Tryd.f12.params.toList ++ (OpenSpec.ofChange Rows.fnExactPeriodOfSpec).bare.plain.varTypes Tryd.pinned.checked.prog).any (Tryd.pinned.checked.prog.ifacesRec ·))) = true := by kernel_rfl
theorem j15 : ((Rows.fnExactPeriodOfRow.mapsOut == Tryd.pinned.checked.prog.mapsAmong Tryd.f12.resultTypes.toList)) = true := by kernel_rfl
theorem j16 : ((Rows.fnExactPeriodOfRow.loops == (Tryd.f12.params.toList ++ (OpenSpec.ofChange Rows.fnExactPeriodOfSpec).bare.plain.varTypes Tryd.pinned.checked.prog).any (Tryd.pinned.checked.prog.loopsFrom ·))) = true := by kernel_rfl
theorem j17 : ((Rows.fnExactPeriodOfRow.wideKeys == (Tryd.f12.params.toList ++ (OpenSpec.ofChange Rows.fnExactPeriodOfSpec).bare.plain.varTypes Tryd.pinned.checked.prog ++ Tryd.f12.resultTypes.toList).any (Tryd.pinned.checked.prog.wideKeysFrom ·))) = true := by kernel_rfl
theorem j18 : ((OpenSpec.ofChange Rows.fnExactPeriodOfSpec).bare.vars.all (Tryd.pinned.checked.prog.varReadable ·)) = true := by kernel_rfl
theorem j19 : (Tryd.f12.resultTypes.all (fun t => Tryd.pinned.checked.prog.readableRec t && decide (t < Tryd.pinned.checked.prog.types.size))) = true := by kernel_rfl
theorem j20 : ((Rows.fnExactPeriodOfRow.ifacesOut == Tryd.f12.resultTypes.toList.any (Tryd.pinned.checked.prog.ifacesRec ·))) = true := by kernel_rfl
theorem j21 : ((Rows.fnExactPeriodOfRow.loopsOut == Tryd.f12.resultTypes.toList.any (Tryd.pinned.checked.prog.loopsFrom ·))) = true := by kernel_rfl
theorem j22 : ((Rows.fnExactPeriodOfRow.plainKeys == Tryd.pinned.checked.prog.plainKeys)) = true := by rw [pf_keys]; kernel_rfl
theorem j23 : (Rows.fnExactPeriodOfRow.shortTexts.isNone) = true := by kernel_rfl
theorem j24 : (Tryd.pinned.checked.prog.stopsHeard) = true := pf_heard
theorem j25 : (Tryd.pinned.checked.prog.mayEnter) = true := pf_enter
theorem j26 : ((Rows.fnExactPeriodOfRow.lifted == Tryd.pinned.checked.prog.liftsFinal)) = true := by rw [pf_lift]; kernel_rfl
theorem j27 : ((Tryd.pinned.checked.prog.make == some Rows.fnExactPeriodOfRow.make)) = true := by kernel_rfl
theorem j28 : ((Rows.fnExactPeriodOfRow.kinds == (if Rows.fnExactPeriodOfRow.domain.isEmpty then [] else Tryd.f12.params.toList.map fun t => match Tryd.pinned.checked.prog.underlying t with | some (.int k) => some k | _ => none))) = true := by kernel_rfl
theorem j29 : ((Rows.fnExactPeriodOfRow.pinned == Rows.fnExactPeriodOfRow.pinnedBy)) = true := by kernel_rfl
theorem j30 : ((Rows.fnExactPeriodOfRow.veiled == (Tryd.f12.params.toList ++ (OpenSpec.ofChange Rows.fnExactPeriodOfSpec).bare.plain.varTypes Tryd.pinned.checked.prog ++ Tryd.f12.resultTypes.toList).any (Tryd.pinned.checked.prog.veiledRec ·))) = true := by kernel_rfl
theorem j31 : (Rows.fnExactPeriodOfRow.veiledFits Tryd.pinned.checked.prog Tryd.f12.params.toList (Tryd.f12.params.toList ++ (OpenSpec.ofChange Rows.fnExactPeriodOfSpec).bare.plain.varTypes Tryd.pinned.checked.prog ++ Tryd.f12.resultTypes.toList)) = true := by kernel_rfl
set_option maxRecDepth 100000 in
theorem fact2 : joinedFacts Tryd.pinned.checked.prog 12 Tryd.f12 (OpenSpec.ofChange Rows.fnExactPeriodOfSpec).bare Rows.fnExactPeriodOfRow = true := joined_mk Tryd.pinned.checked.prog 12 Tryd.f12 (OpenSpec.ofChange Rows.fnExactPeriodOfSpec).bare Rows.fnExactPeriodOfRow j0 j1 j2 j3 j4 j5 j6 j7 j8 j9 j10 j11 j12 j13 j14 j15 j16 j17 j18 j19 j20 j21 j22 j23 j24 j25 j26 j27 j28 j29 j30 j31
theorem fact3 : Tryd.f12.isInstance Tryd.pinned.checked.prog Rows.fnExactPeriodOfRow.origin Rows.fnExactPeriodOfRow.targs := of_decide_eq_true (by kernel_rfl)
theorem fact4 : Tryd.f12.isWrapper Tryd.pinned.checked.prog Rows.fnExactPeriodOfRow.wrapper Rows.fnExactPeriodOfRow.mainSum := by unfold Func.isWrapper; first | (rw [if_pos (by decide +kernel)]; kernel_rfl) | (rw [if_neg (by decide +kernel)]; exact ⟨rfl, rfl⟩)
theorem said : Rows.FnExactPeriodOfSaid :=
  OpenClaim.holds_of_cond 12 Tryd.f12 rfl rfl rfl rfl rfl rfl rfl ⟨rfl, rfl, rfl, rfl, rfl⟩ rfl rfl rfl rfl rfl fact1 Tryd.func12 fact2 fact3 fact4
    (fun os started H enc _ FI => by rw [OpenClaim.pre_eq_preRow]; exact lifted os started H enc FI)

theorem fact5 : Rows.fnExactPeriodOfRow.wfByText (OpenSpec.ofChange Rows.fnExactPeriodOfSpec) = true := by kernel_rfl
theorem fact6 : Tryd.pinned.checked.prog.mainIs = some (Rows.fnExactPeriodOfCard.stood.harness.1, Rows.fnExactPeriodOfCard.stood.harness.2.toList) := by kernel_rfl
theorem fact7 : false = Rows.fnExactPeriodOfRow.goesBy Tryd.pinned.checked.prog := by kernel_rfl
theorem fact8 : false = Tryd.pinned.checked.prog.looks [] := pf_looks
theorem fact9 : #[9, 3].all (fun t => !Tryd.prog.wantsStandIn t) = true := by kernel_rfl
theorem plain (f : FuncId) (fn : Func) (hf : Tryd.pinned.checked.prog.funcNamed Rows.fnExactPeriodOfRow.func = some f) (hfn : Tryd.pinned.checked.prog.funcs[f]? = some fn) :
    false = Tryd.pinned.checked.prog.looks [] ∧ ∀ (j : Nat) t, fn.params[j]? = some t → Tryd.pinned.checked.prog.wantsStandIn t = false := by
  obtain rfl : f = 12 := (Option.some.inj (fact1.symm.trans hf)).symm
  obtain rfl : fn = Tryd.f12 := (Option.some.inj (Tryd.func12.symm.trans hfn)).symm
  refine ⟨fact8, fun j t ht => ?_⟩
  rw [Tryd.params12] at ht
  have := Array.all_eq_true_iff_forall_mem.1 fact9 t (Array.mem_of_getElem? ht)
  exact (show Tryd.prog.wantsStandIn t = false by simpa using this)

/-- THE STATEMENT -/
theorem proved : Rows.FnExactPeriodOfCardSaid :=
  Claim7.holds_tied_plain_at .later [] _ _ _ _ said (fun _ h => by cases h) fact5 (fun _ h => by cases h) fnExactPeriodOf_row_tie rfl ⟨rfl, rfl⟩ fact6 rfl plain fact7
#print axioms proved
end fnExactPeriodOf

end Go.Proofs.YtopdgbfaofdkaaaDoor
