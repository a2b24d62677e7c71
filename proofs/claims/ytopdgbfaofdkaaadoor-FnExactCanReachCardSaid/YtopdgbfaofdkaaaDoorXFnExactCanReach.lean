/- FnExactCanReach holds: at all arguments the program's CanReach returns what the reference's returns. Conditions: those that the given card prints. -/
import Derived.Test.YtopdgbfaofdkaaaDoorLb
import Derived.Test.YtopdgbfaofdkaaaDoorWg
namespace Go.Proofs.YtopdgbfaofdkaaaDoor
open Go.RowKit
set_option linter.unusedVariables false

theorem fnExactCanReach_walk (a0 : ByteArray) (a1 : Int) (a2 : Int) (w : World) (hm : Hid (HasM w)) (w0 : a0.size ≤ maxLen) (w1 : (Lit.int .i64 a1).wf = true) (w2 : (Lit.int .i64 a2).wf = true) :
    Calls Tryd.prog 11 #[.string a0, .int .i64 a1, .int .i64 a2] w fun e w' => e = .returned (.bool true) ∧ Below w.heap.size w w' := by
  unfold maxLen at w0
  by_cases h0 : 1048576 < a0.size
  · go_enter Tryd.func11, Tryd.ntmps11
    go_wp2
    go_ret
    exact ⟨rfl, Below.refl _ _⟩
  have hd : ((canN (cutL a0.data.toList) a1 a2) != (canN (cutL a0.data.toList) a1 a2)) = false := bne_self_eq_false _
  go_enter Tryd.func11, Tryd.ntmps11
  go_wp2_with fail
  refine (sCanReach_any a0 a1 a2 _ (by omega)).mono ?_
  rintro e w1 ⟨rfl, hB1⟩
  go_wp2_with fail
  refine (CanReach_any a0 a1 a2 _ (Lib.hid (hm.out.below hB1)) (by omega)).mono ?_
  rintro e w2 ⟨rfl, hB2⟩
  go_wp2
  go_ret
  exact ⟨rfl, hB1.trans (hB2.mono hB1.size)⟩

namespace fnExactCanReach
open Go.ChangeShapes Go.WideShapes Go.ChangeAt Go.RowKit
open Go.ChangeMaps (open_string shut_string)
set_option linter.unusedVariables false
theorem laid_met (os : Os) (args : Array Value) : laidMet Tryd.prog Rows.fnExactCanReachRow.laid ((laidWorld os).forCall (fun _ _ => 0) ⟨#[], args, []⟩).memory := laid_met0 os args
theorem witness_row (os : Os) {H : Type} (enc : TypeId × Value → H) :
    (OpenSpec.ofChange Rows.fnExactCanReachSpec).preRow enc Tryd.prog Tryd.f11 Rows.fnExactCanReachRow.domain false Rows.fnExactCanReachRow.laid ((laidWorld os).forCall (fun _ _ => 0) ⟨#[], #[.string ByteArray.empty, .int .i64 0, .int .i64 0], []⟩).memory #[.string ByteArray.empty, .int .i64 0, .int .i64 0] := by
  have hw : (DataW.whole enc Tryd.prog ((laidWorld os).forCall (fun _ _ => 0) ⟨#[], #[.string ByteArray.empty, .int .i64 0, .int .i64 0], []⟩).memory Tryd.f11.params.toList Rows.fnExactCanReachSpec.vars false #[.string ByteArray.empty, .int .i64 0, .int .i64 0].toList 8).map (fun x => (x.1, x.2.1)) =
      some ([.lit (.string []), .lit (.int .i64 0), .lit (.int .i64 0)], []) := by kernel_rfl
  obtain ⟨⟨x1, x2, x3⟩, hx, hx1⟩ := Option.map_eq_some_iff.1 hw
  simp only [Prod.mk.injEq] at hx1
  obtain ⟨rfl, rfl⟩ := hx1
  exact OpenSpec.preRow_of_cond 8 hx (by kernel_rfl) (fun k hk => by cases hk) (by kernel_rfl) (laid_met os _)
set_option maxRecDepth 100000 in
/-- the row's step: the arguments are opened, the walk is called, the arguments are shut -/
theorem lifted (os : Os) (started : os.Started) (H : Type) (enc : TypeId × Value → H) (FI : Stop.Interp) :
    ReturnsInHanded {} Tryd.checked os 11 .any ((OpenSpec.ofChange Rows.fnExactCanReachSpec).preRow enc Tryd.prog Tryd.f11 Rows.fnExactCanReachRow.domain false Rows.fnExactCanReachRow.laid) (((OpenSpec.ofChange Rows.fnExactCanReachSpec).at FI).post enc Tryd.prog Tryd.f11 false true false false) := by
  refine returnsInHanded_of_row (C := Tryd.checked) (s := OpenSpec.ofChange Rows.fnExactCanReachSpec) own started (by kernel_rfl) Tryd.func11
    (witness_row_atRef (enc := enc) (C := Tryd.checked) false (laidWorld os) #[.string ByteArray.empty, .int .i64 0, .int .i64 0] rfl (by kernel_rfl) (by kernel_rfl) (by kernel_rfl) (witness_row os enc)) ?_
  intro W base args ds gs before hval0 hW _ _ _ hL hsh _
  have hm : HasM W := Tryd.laysM146.s1_3 W hsh
  have hval : ∀ (j : Nat) t v, Tryd.f11.params[j]? = some t → args[j]? = some v → Value.okWide Tryd.prog W .any base t v := hval0
  have hW' := hW
  obtain ⟨p, q, hA0, hV, rfl, hfz, hnd⟩ := hW
  have hA : DataW.TrodAll enc Tryd.prog W 0 (fun _ => true) true Tryd.f11.params.toList args.toList ds p := hA0
  rw [Tryd.params11] at hA hval
  obtain ⟨v0, vs0, d0, ds0, p0, q0, hargs, rfl, rfl, h0, r0⟩ := trodAll_cons hA
  obtain ⟨v1, vs1, d1, ds1, p1, q1, rfl, rfl, rfl, h1, r1⟩ := trodAll_cons r0
  obtain ⟨v2, vs2, d2, ds2, p2, q2, rfl, rfl, rfl, h2, r2⟩ := trodAll_cons r1
  obtain ⟨rfl, rfl, rfl⟩ := trodAll_nil r2
  obtain rfl : args = #[v0, v1, v2] := by cases args; simp_all
  obtain ⟨rfl, rfl⟩ := trodVars_none hV
  obtain ⟨a0, rfl, rfl, rfl, w0⟩ := open_string Tryd.underlying9 (hval 0 9 v0 rfl rfl) h0
  obtain ⟨a1, rfl, rfl, rfl, w1⟩ := open_int Tryd.underlying3 (hval 1 3 v1 rfl rfl) h1
  obtain ⟨a2, rfl, rfl, rfl, w2⟩ := open_int Tryd.underlying3 (hval 2 3 v2 rfl rfl) h2
  clear hA0 hval0
  refine (fnExactCanReach_walk a0 a1 a2 W (Lib.hid hm) w0 w1 w2).mono fun e W' ⟨he, bel⟩ => ?_
  subst he
  exact ⟨_, rfl, _, _, _, [], _, [], hW', trodAll_mk1 (shut_bool Tryd.underlying4 _), (trodAll_cons_mk (shut_string Tryd.underlying9 w0) (trodAll_cons_mk (shut_int Tryd.underlying3 w1) (trodAll_cons_mk (shut_int Tryd.underlying3 w2) trodAll_mk0))), rfl, bel.frame _, fun h => by cases h⟩

theorem fact1 : Tryd.pinned.checked.prog.funcNamed Rows.fnExactCanReachRow.func = some 11 := by kernel_rfl
theorem j0 : (Rows.fnExactCanReachRow.wf (OpenSpec.ofChange (OpenSpec.ofChange Rows.fnExactCanReachSpec).bare)) = true := by kernel_rfl
theorem j1 : (laidOutB Tryd.pinned.checked.prog) = true := pf_laid
theorem j2 : (mapsRowed Tryd.pinned.checked.prog) = true := pf_maps
theorem j3 : (Tryd.f11.params.all (Tryd.pinned.checked.prog.readableRec ·)) = true := by kernel_rfl
theorem j4 : (namedTie Tryd.pinned.checked.prog Rows.fnExactCanReachRow.named (OpenSpec.ofChange Rows.fnExactCanReachSpec).bare.vars) = true := by kernel_rfl
theorem j5 : ((Rows.fnExactCanReachRow.stops == [])) = true := by kernel_rfl
theorem j6 : ((Tryd.pinned.checked.prog.stops == [])) = true := pf_stops
theorem j7 : ((Rows.fnExactCanReachRow.knobs == [])) = true := by kernel_rfl
theorem j8 : ((Tryd.pinned.checked.prog.stopKnobs == [])) = true := pf_knobs
theorem j9 : ((Rows.fnExactCanReachRow.inPlace == Tryd.pinned.checked.prog.inPlace 11)) = true := by kernel_rfl
theorem j10 : ((Rows.fnExactCanReachRow.unfollowed == Tryd.pinned.checked.prog.unfollowed 11)) = true := by kernel_rfl
theorem j11 : ((Rows.fnExactCanReachRow.recurses == Tryd.pinned.checked.prog.recurses 11)) = true := by kernel_rfl
theorem j12 : ((Rows.fnExactCanReachRow.named == Tryd.pinned.checked.prog.varsNamed 11)) = true := by kernel_rfl
theorem j13 : ((Rows.fnExactCanReachRow.maps == (Tryd.f11.params.toList ++ (OpenSpec.ofChange Rows.fnExactCanReachSpec).bare.plain.varTypes Tryd.pinned.checked.prog).any (Tryd.pinned.checked.prog.mapsRec ·))) = true := by kernel_rfl
theorem j14 : ((Rows.fnExactCanReachRow.ifaces == (Tryd.f11.params.toList ++ (OpenSpec.ofChange Rows.fnExactCanReachSpec).bare.plain.varTypes Tryd.pinned.checked.prog).any (Tryd.pinned.checked.prog.ifacesRec ·))) = true := by kernel_rfl
theorem j15 : ((Rows.fnExactCanReachRow.mapsOut == Tryd.pinned.checked.prog.mapsAmong Tryd.f11.resultTypes.toList)) = true := by kernel_rfl
theorem j16 : ((Rows.fnExactCanReachRow.loops == (Tryd.f11.params.toList ++ (OpenSpec.ofChange Rows.fnExactCanReachSpec).bare.plain.varTypes Tryd.pinned.checked.prog).any (Tryd.pinned.checked.prog.loopsFrom ·))) = true := by kernel_rfl
theorem j17 : ((Rows.fnExactCanReachRow.wideKeys == (Tryd.f11.params.toList ++ (OpenSpec.ofChange Rows.fnExactCanReachSpec).bare.plain.varTypes Tryd.pinned.checked.prog ++ Tryd.f11.resultTypes.toList).any (Tryd.pinned.checked.prog.wideKeysFrom ·))) = true := by kernel_rfl
theorem j18 : ((OpenSpec.ofChange Rows.fnExactCanReachSpec).bare.vars.all (Tryd.pinned.checked.prog.varReadable ·)) = true := by kernel_rfl
theorem j19 : (Tryd.f11.resultTypes.all (fun t => Tryd.pinned.checked.prog.readableRec t && decide (t < Tryd.pinned.checked.prog.types.size))) = true := by kernel_rfl
theorem j20 : ((Rows.fnExactCanReachRow.ifacesOut == Tryd.f11.resultTypes.toList.any (Tryd.pinned.checked.prog.ifacesRec ·))) = true := by kernel_rfl
theorem j21 : ((Rows.fnExactCanReachRow.loopsOut == Tryd.f11.resultTypes.toList.any (Tryd.pinned.checked.prog.loopsFrom ·))) = true := by kernel_rfl
theorem j22 : ((Rows.fnExactCanReachRow.plainKeys == Tryd.pinned.checked.prog.plainKeys)) = true := by rw [pf_keys]; kernel_rfl
theorem j23 : (Rows.fnExactCanReachRow.shortTexts.isNone) = true := by kernel_rfl
theorem j24 : (Tryd.pinned.checked.prog.stopsHeard) = true := pf_heard
theorem j25 : (Tryd.pinned.checked.prog.mayEnter) = true := pf_enter
theorem j26 : ((Rows.fnExactCanReachRow.lifted == Tryd.pinned.checked.prog.liftsFinal)) = true := by rw [pf_lift]; kernel_rfl
theorem j27 : ((Tryd.pinned.checked.prog.make == some Rows.fnExactCanReachRow.make)) = true := by kernel_rfl
theorem j28 : ((Rows.fnExactCanReachRow.kinds == (if Rows.fnExactCanReachRow.domain.isEmpty then [] else Tryd.f11.params.toList.map fun t => match Tryd.pinned.checked.prog.underlying t with | some (.int k) => some k | _ => none))) = true := by kernel_rfl
theorem j29 : ((Rows.fnExactCanReachRow.pinned == Rows.fnExactCanReachRow.pinnedBy)) = true := by kernel_rfl
theorem j30 : ((Rows.fnExactCanReachRow.veiled == (Tryd.f11.params.toList ++ (OpenSpec.ofChange Rows.fnExactCanReachSpec).bare.plain.varTypes Tryd.pinned.checked.prog ++ Tryd.f11.resultTypes.toList).any (Tryd.pinned.checked.prog.veiledRec ·))) = true := by kernel_rfl
theorem j31 : (Rows.fnExactCanReachRow.veiledFits Tryd.pinned.checked.prog Tryd.f11.params.toList (Tryd.f11.params.toList ++ (OpenSpec.ofChange Rows.fnExactCanReachSpec).bare.plain.varTypes Tryd.pinned.checked.prog ++ Tryd.f11.resultTypes.toList)) = true := by kernel_rfl
set_option maxRecDepth 100000 in
theorem fact2 : joinedFacts Tryd.pinned.checked.prog 11 Tryd.f11 (OpenSpec.ofChange Rows.fnExactCanReachSpec).bare Rows.fnExactCanReachRow = true := joined_mk Tryd.pinned.checked.prog 11 Tryd.f11 (OpenSpec.ofChange Rows.fnExactCanReachSpec).bare Rows.fnExactCanReachRow j0 j1 j2 j3 j4 j5 j6 j7 j8 j9 j10 j11 j12 j13 j14 j15 j16 j17 j18 j19 j20 j21 j22 j23 j24 j25 j26 j27 j28 j29 j30 j31
theorem fact3 : Tryd.f11.isInstance Tryd.pinned.checked.prog Rows.fnExactCanReachRow.origin Rows.fnExactCanReachRow.targs := of_decide_eq_true (by kernel_rfl)
theorem fact4 : Tryd.f11.isWrapper Tryd.pinned.checked.prog Rows.fnExactCanReachRow.wrapper Rows.fnExactCanReachRow.mainSum := by unfold Func.isWrapper; first | (rw [if_pos (by decide +kernel)]; kernel_rfl) | (rw [if_neg (by decide +kernel)]; exact ⟨rfl, rfl⟩)
theorem said : Rows.FnExactCanReachSaid :=
  OpenClaim.holds_of_cond 11 Tryd.f11 rfl rfl rfl rfl rfl rfl rfl ⟨rfl, rfl, rfl, rfl, rfl⟩ rfl rfl rfl rfl rfl fact1 Tryd.func11 fact2 fact3 fact4
    (fun os started H enc _ FI => by rw [OpenClaim.pre_eq_preRow]; exact lifted os started H enc FI)

theorem fact5 : Rows.fnExactCanReachRow.wfByText (OpenSpec.ofChange Rows.fnExactCanReachSpec) = true := by kernel_rfl
theorem fact6 : Tryd.pinned.checked.prog.mainIs = some (Rows.fnExactCanReachCard.stood.harness.1, Rows.fnExactCanReachCard.stood.harness.2.toList) := by kernel_rfl
theorem fact7 : false = Rows.fnExactCanReachRow.goesBy Tryd.pinned.checked.prog := by kernel_rfl
theorem fact8 : false = Tryd.pinned.checked.prog.looks [] := pf_looks
theorem fact9 : #[9, 3, 3].all (fun t => !Tryd.prog.wantsStandIn t) = true := by kernel_rfl
theorem plain (f : FuncId) (fn : Func) (hf : Tryd.pinned.checked.prog.funcNamed Rows.fnExactCanReachRow.func = some f) (hfn : Tryd.pinned.checked.prog.funcs[f]? = some fn) :
    false = Tryd.pinned.checked.prog.looks [] ∧ ∀ (j : Nat) t, fn.params[j]? = some t → Tryd.pinned.checked.prog.wantsStandIn t = false := by
  obtain rfl : f = 11 := (Option.some.inj (fact1.symm.trans hf)).symm
  obtain rfl : fn = Tryd.f11 := (Option.some.inj (Tryd.func11.symm.trans hfn)).symm
  refine ⟨fact8, fun j t ht => ?_⟩
  rw [Tryd.params11] at ht
  have := Array.all_eq_true_iff_forall_mem.1 fact9 t (Array.mem_of_getElem? ht)
  exact (show Tryd.prog.wantsStandIn t = false by simpa using this)

/-- THE STATEMENT -/
theorem proved : Rows.FnExactCanReachCardSaid :=
  Claim7.holds_tied_plain_at .later [] _ _ _ _ said (fun _ h => by cases h) fact5 (fun _ h => by cases h) fnExactCanReach_row_tie rfl ⟨rfl, rfl⟩ fact6 rfl plain fact7
#print axioms proved
end fnExactCanReach

end Go.Proofs.YtopdgbfaofdkaaaDoor
