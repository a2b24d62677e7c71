/- FnRenameNetwork holds: at all arguments a renamed network makes the same steps under other names, and can be named back. Conditions: those that the given card prints. -/
import Derived.Test.YtpehimjngofnkaaDoorLb
import Derived.Test.YtpehimjngofnkaaDoorR5
namespace Go.Proofs.YtpehimjngofnkaaDoor
open Go.RowKit
set_option linter.unusedVariables false

/- the walk lies beside this text -/

namespace fnRenameNetwork
open Go.ChangeShapes Go.WideShapes Go.ChangeAt Go.RowKit
open Go.ChangeMaps (open_string shut_string)
set_option linter.unusedVariables false
theorem laid_met (os : Os) (args : Array Value) : laidMet Tryd.prog Rows.fnRenameNetworkRow.laid ((laidWorld os).forCall (fun _ _ => 0) ⟨#[], args, []⟩).memory := laid_met0 os args
theorem witness_row (os : Os) {H : Type} (enc : TypeId × Value → H) :
    (OpenSpec.ofChange Rows.fnRenameNetworkSpec).preRow enc Tryd.prog Tryd.f11 Rows.fnRenameNetworkRow.domain false Rows.fnRenameNetworkRow.laid ((laidWorld os).forCall (fun _ _ => 0) ⟨#[], #[.slice none 0 0], []⟩).memory #[.slice none 0 0] := by
  have hw : (DataW.whole enc Tryd.prog ((laidWorld os).forCall (fun _ _ => 0) ⟨#[], #[.slice none 0 0], []⟩).memory Tryd.f11.params.toList Rows.fnRenameNetworkSpec.vars false #[.slice none 0 0].toList 8).map (fun x => (x.1, x.2.1)) =
      some ([.nil], []) := by kernel_rfl
  obtain ⟨⟨x1, x2, x3⟩, hx, hx1⟩ := Option.map_eq_some_iff.1 hw
  simp only [Prod.mk.injEq] at hx1
  obtain ⟨rfl, rfl⟩ := hx1
  exact OpenSpec.preRow_of_cond 8 hx (by kernel_rfl) (fun k hk => by cases hk) (by kernel_rfl) (laid_met os _)
set_option maxRecDepth 100000 in
/-- the row's step: the arguments are opened, the walk is called, the arguments are shut -/
theorem lifted (os : Os) (started : os.Started) (H : Type) (enc : TypeId × Value → H) (FI : Stop.Interp) :
    ReturnsInHanded {} Tryd.checked os 11 .any ((OpenSpec.ofChange Rows.fnRenameNetworkSpec).preRow enc Tryd.prog Tryd.f11 Rows.fnRenameNetworkRow.domain false Rows.fnRenameNetworkRow.laid) (((OpenSpec.ofChange Rows.fnRenameNetworkSpec).at FI).post enc Tryd.prog Tryd.f11 false true false false) := by
  refine returnsInHanded_of_row (C := Tryd.checked) (s := OpenSpec.ofChange Rows.fnRenameNetworkSpec) own started (by kernel_rfl) Tryd.func11
    (witness_row_atRef (enc := enc) (C := Tryd.checked) false (laidWorld os) #[.slice none 0 0] rfl (by kernel_rfl) (by kernel_rfl) (by kernel_rfl) (witness_row os enc)) ?_
  intro W base args ds gs before hval0 hW _ _ _ hL hsh _
  have hm : HasM W := Tryd.laysM146.s1_3 W hsh
  have hval : ∀ (j : Nat) t v, Tryd.f11.params[j]? = some t → args[j]? = some v → Value.okWide Tryd.prog W .any base t v := hval0
  have hW' := hW
  obtain ⟨p, q, hA0, hV, rfl, hfz, hnd⟩ := hW
  have hA : DataW.TrodAll enc Tryd.prog W 0 (fun _ => true) true Tryd.f11.params.toList args.toList ds p := hA0
  rw [Tryd.params11] at hA hval
  obtain ⟨v0, vs0, d0, ds0, p0, q0, hargs, rfl, rfl, h0, r0⟩ := trodAll_cons hA
  obtain ⟨rfl, rfl, rfl⟩ := trodAll_nil r0
  obtain rfl : args = #[v0] := by cases args; simp_all
  obtain ⟨rfl, rfl⟩ := trodVars_none hV
  obtain ⟨a0, len0, cap0, rfl⟩ := okWide_slice Tryd.underlying32 (hval 0 32 v0 rfl rfl)
  have k0 := h0
  have lt0 : ∀ x ∈ p0, x.block < W.heap.size := by obtain ⟨m, hm⟩ := k0; exact DataW.trod_lt m _ _ _ hm
  obtain ⟨z0, w0⟩ : ∃ zs, IsRow .u8 W a0 len0 cap0 zs := by
    obtain ⟨fuel, hf⟩ := h0
    rcases open_ints Tryd.underlying32 Tryd.underlying5 (by kernel_rfl) hf with ⟨hcs, _⟩ | ⟨x, l, c, zs, hcs, _, hl, hm, hz, _, hcell, hwz⟩
    · simp [Value.cells] at hcs
      obtain ⟨rfl, rfl, rfl⟩ := hcs
      exact ⟨[], .inl ⟨rfl, rfl, rfl, rfl⟩⟩
    · simp [Value.cells] at hcs
      obtain ⟨rfl, rfl, rfl⟩ := hcs
      exact ⟨zs, .inr ⟨_, rfl, hl, hm, by simpa using hz, hcell, hwz⟩⟩
  clear hA0 hval0
  refine (fnRenameNetwork_walk a0 len0 cap0 z0 W (Lib.hid hm) w0).mono fun e W' ⟨he, bel⟩ => ?_
  subst he
  exact ⟨_, rfl, _, _, _, [], _, [], hW', trodAll_mk1 (shut_bool Tryd.underlying4 _), (trodAll_cons_mk (Below.trod laidOut (by kernel_rfl) (of_decide_eq_true (by kernel_rfl)) k0 bel lt0) trodAll_mk0), rfl, bel.frame _, fun h => by cases h⟩

theorem fact1 : Tryd.pinned.checked.prog.funcNamed Rows.fnRenameNetworkRow.func = some 11 := by kernel_rfl
theorem j0 : (Rows.fnRenameNetworkRow.wf (OpenSpec.ofChange (OpenSpec.ofChange Rows.fnRenameNetworkSpec).bare)) = true := by kernel_rfl
theorem j1 : (laidOutB Tryd.pinned.checked.prog) = true := pf_laid
theorem j2 : (mapsRowed Tryd.pinned.checked.prog) = true := pf_maps
theorem j3 : (Tryd.f11.params.all (Tryd.pinned.checked.prog.readableRec ·)) = true := by kernel_rfl
theorem j4 : (namedTie Tryd.pinned.checked.prog Rows.fnRenameNetworkRow.named (OpenSpec.ofChange Rows.fnRenameNetworkSpec).bare.vars) = true := by kernel_rfl
theorem j5 : ((Rows.fnRenameNetworkRow.stops == [])) = true := by kernel_rfl
theorem j6 : ((Tryd.pinned.checked.prog.stops == [])) = true := pf_stops
theorem j7 : ((Rows.fnRenameNetworkRow.knobs == [])) = true := by kernel_rfl
theorem j8 : ((Tryd.pinned.checked.prog.stopKnobs == [])) = true := pf_knobs
theorem j9 : ((Rows.fnRenameNetworkRow.inPlace == Tryd.pinned.checked.prog.inPlace 11)) = true := by kernel_rfl
theorem j10 : ((Rows.fnRenameNetworkRow.unfollowed == Tryd.pinned.checked.prog.unfollowed 11)) = true := by kernel_rfl
theorem j11 : ((Rows.fnRenameNetworkRow.recurses == Tryd.pinned.checked.prog.recurses 11)) = true := by kernel_rfl
theorem j12 : ((Rows.fnRenameNetworkRow.named == Tryd.pinned.checked.prog.varsNamed 11)) = true := by kernel_rfl
theorem j13 : ((Rows.fnRenameNetworkRow.maps == (Tryd.f11.params.toList ++ (OpenSpec.ofChange Rows.fnRenameNetworkSpec).bare.plain.varTypes Tryd.pinned.checked.prog).any (Tryd.pinned.checked.prog.mapsRec ·))) = true := by kernel_rfl
theorem j14 : ((Rows.fnRenameNetworkRow.ifaces == (Tryd.f11.params.toList ++ (OpenSpec.ofChange Rows.fnRenameNetworkSpec).bare.plain.varTypes Tryd.pinned.checked.prog).any (Tryd.pinned.checked.prog.ifacesRec ·))) = true := by kernel_rfl
theorem j15 : ((Rows.fnRenameNetworkRow.mapsOut == Tryd.pinned.checked.prog.mapsAmong Tryd.f11.resultTypes.toList)) = true := by kernel_rfl
theorem j16 : ((Rows.fnRenameNetworkRow.loops == (Tryd.f11.params.toList ++ (OpenSpec.ofChange Rows.fnRenameNetworkSpec).bare.plain.varTypes Tryd.pinned.checked.prog).any (Tryd.pinned.checked.prog.loopsFrom ·))) = true := by kernel_rfl
theorem j17 : ((Rows.fnRenameNetworkRow.wideKeys == (Tryd.f11.params.toList ++ (OpenSpec.ofChange Rows.fnRenameNetworkSpec).bare.plain.varTypes Tryd.pinned.checked.prog ++ Tryd.f11.resultTypes.toList).any (Tryd.pinned.checked.prog.wideKeysFrom ·))) = true := by kernel_rfl
theorem j18 : ((OpenSpec.ofChange Rows.fnRenameNetworkSpec).bare.vars.all (Tryd.pinned.checked.prog.varReadable ·)) = true := by kernel_rfl
theorem j19 : (Tryd.f11.resultTypes.all (fun t => Tryd.pinned.checked.prog.readableRec t && decide (t < Tryd.pinned.checked.prog.types.size))) = true := by kernel_rfl
theorem j20 : ((Rows.fnRenameNetworkRow.ifacesOut == Tryd.f11.resultTypes.toList.any (Tryd.pinned.checked.prog.ifacesRec ·))) = true := by kernel_rfl
theorem j21 : ((Rows.fnRenameNetworkRow.loopsOut == Tryd.f11.resultTypes.toList.any (Tryd.pinned.checked.prog.loopsFrom ·))) = true := by kernel_rfl
theorem j22 : ((Rows.fnRenameNetworkRow.plainKeys == Tryd.pinned.checked.prog.plainKeys)) = true := by rw [pf_keys]; kernel_rfl
theorem j23 : (Rows.fnRenameNetworkRow.shortTexts.isNone) = true := by kernel_rfl
theorem j24 : (Tryd.pinned.checked.prog.stopsHeard) = true := pf_heard
theorem j25 : (Tryd.pinned.checked.prog.mayEnter) = true := pf_enter
theorem j26 : ((Rows.fnRenameNetworkRow.lifted == Tryd.pinned.checked.prog.liftsFinal)) = true := by rw [pf_lift]; kernel_rfl
theorem j27 : ((Tryd.pinned.checked.prog.make == some Rows.fnRenameNetworkRow.make)) = true := by kernel_rfl
theorem j28 : ((Rows.fnRenameNetworkRow.kinds == (if Rows.fnRenameNetworkRow.domain.isEmpty then [] else Tryd.f11.params.toList.map fun t => match Tryd.pinned.checked.prog.underlying t with | some (.int k) => some k | _ => none))) = true := by kernel_rfl
theorem j29 : ((Rows.fnRenameNetworkRow.pinned == Rows.fnRenameNetworkRow.pinnedBy)) = true := by kernel_rfl
theorem j30 : ((Rows.fnRenameNetworkRow.veiled == (Tryd.f11.params.toList ++ (OpenSpec.ofChange Rows.fnRenameNetworkSpec).bare.plain.varTypes Tryd.pinned.checked.prog ++ Tryd.f11.resultTypes.toList).any (Tryd.pinned.checked.prog.veiledRec ·))) = true := by kernel_rfl
theorem j31 : (Rows.fnRenameNetworkRow.veiledFits Tryd.pinned.checked.prog Tryd.f11.params.toList (Tryd.f11.params.toList ++ (OpenSpec.ofChange Rows.fnRenameNetworkSpec).bare.plain.varTypes Tryd.pinned.checked.prog ++ Tryd.f11.resultTypes.toList)) = true := by kernel_rfl
set_option maxRecDepth 100000 in
theorem fact2 : joinedFacts Tryd.pinned.checked.prog 11 Tryd.f11 (OpenSpec.ofChange Rows.fnRenameNetworkSpec).bare Rows.fnRenameNetworkRow = true := joined_mk Tryd.pinned.checked.prog 11 Tryd.f11 (OpenSpec.ofChange Rows.fnRenameNetworkSpec).bare Rows.fnRenameNetworkRow j0 j1 j2 j3 j4 j5 j6 j7 j8 j9 j10 j11 j12 j13 j14 j15 j16 j17 j18 j19 j20 j21 j22 j23 j24 j25 j26 j27 j28 j29 j30 j31
theorem fact3 : Tryd.f11.isInstance Tryd.pinned.checked.prog Rows.fnRenameNetworkRow.origin Rows.fnRenameNetworkRow.targs := of_decide_eq_true (by kernel_rfl)
theorem fact4 : Tryd.f11.isWrapper Tryd.pinned.checked.prog Rows.fnRenameNetworkRow.wrapper Rows.fnRenameNetworkRow.mainSum := by unfold Func.isWrapper; first | (rw [if_pos (by decide +kernel)]; kernel_rfl) | (rw [if_neg (by decide +kernel)]; exact ⟨rfl, rfl⟩)
theorem said : Rows.FnRenameNetworkSaid :=
  OpenClaim.holds_of_cond 11 Tryd.f11 rfl rfl rfl rfl rfl rfl rfl ⟨rfl, rfl, rfl, rfl, rfl⟩ rfl rfl rfl rfl rfl fact1 Tryd.func11 fact2 fact3 fact4
    (fun os started H enc _ FI => by rw [OpenClaim.pre_eq_preRow]; exact lifted os started H enc FI)

theorem fact5 : Rows.fnRenameNetworkRow.wfByText (OpenSpec.ofChange Rows.fnRenameNetworkSpec) = true := by kernel_rfl
theorem fact6 : Tryd.pinned.checked.prog.mainIs = some (Rows.fnRenameNetworkCard.stood.harness.1, Rows.fnRenameNetworkCard.stood.harness.2.toList) := by kernel_rfl
theorem fact7 : false = Rows.fnRenameNetworkRow.goesBy Tryd.pinned.checked.prog := by kernel_rfl
theorem fact8 : false = Tryd.pinned.checked.prog.looks [] := pf_looks
theorem fact9 : #[32].all (fun t => !Tryd.prog.wantsStandIn t) = true := by kernel_rfl
theorem plain (f : FuncId) (fn : Func) (hf : Tryd.pinned.checked.prog.funcNamed Rows.fnRenameNetworkRow.func = some f) (hfn : Tryd.pinned.checked.prog.funcs[f]? = some fn) :
    false = Tryd.pinned.checked.prog.looks [] ∧ ∀ (j : Nat) t, fn.params[j]? = some t → Tryd.pinned.checked.prog.wantsStandIn t = false := by
  obtain rfl : f = 11 := (Option.some.inj (fact1.symm.trans hf)).symm
  obtain rfl : fn = Tryd.f11 := (Option.some.inj (Tryd.func11.symm.trans hfn)).symm
  refine ⟨fact8, fun j t ht => ?_⟩
  rw [Tryd.params11] at ht
  have := Array.all_eq_true_iff_forall_mem.1 fact9 t (Array.mem_of_getElem? ht)
  exact (show Tryd.prog.wantsStandIn t = false by simpa using this)

/-- THE STATEMENT -/
theorem proved : Rows.FnRenameNetworkCardSaid :=
  Claim7.holds_tied_plain_at .later [] _ _ _ _ said (fun _ h => by cases h) fact5 (fun _ h => by cases h) fnRenameNetwork_row_tie rfl ⟨rfl, rfl⟩ fact6 rfl plain fact7
#print axioms proved
end fnRenameNetwork

end Go.Proofs.YtpehimjngofnkaaDoor
