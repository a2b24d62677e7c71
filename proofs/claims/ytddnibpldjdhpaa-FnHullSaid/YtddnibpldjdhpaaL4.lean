/-
  The law FnHull returns true for all arguments: a hull has all states, leaves open just what differs among them, and is the hull of its own states.
  Conditions: none.
-/
import Derived.BigQuiet
import Derived.Deep.QuietTactic
import Derived.Test.YtddnibpldjdhpaaLa
import Derived.Test.YtddnibpldjdhpaaWe
import Derived.Test.YtddnibpldjdhpaaMc
namespace Go.Proofs.Ytddnibpldjdhpaa
open Go.RowKit
/-- whether a number is in a list -/
def hasI (l : List Int) (y : Int) : Bool := l.any fun x => decide (x = y)
theorem hasI_step {l : List Int} {i : Nat} {y : Int} (h : i < l.length) : hasI (l.take (i + 1)) y = (hasI (l.take i) y || decide (l[i] = y)) := by
  rw [List.take_succ_eq_append_getElem h]; simp only [hasI, List.any_append, List.any_cons, List.any_nil, Bool.or_false]
theorem hasI_mem {l : List Int} {y : Int} (h : y ∈ l) : hasI l y = true := by
  rw [hasI, List.any_eq_true]; exact ⟨y, h, by simp⟩
/-- whether a state of a list has a digit -/
def anyB (l : List Nat) (i v : Nat) : Bool := l.any fun y => decide (bit y i = v)
theorem anyB_step {l : List Nat} {k i v : Nat} (h : k < l.length) : anyB (l.take (k + 1)) i v = (anyB (l.take k) i v || decide (bit l[k] i = v)) := by
  rw [List.take_succ_eq_append_getElem h]; simp only [anyB, List.any_append, List.any_cons, List.any_nil, Bool.or_false]
theorem anyB_mem {l : List Nat} {i v : Nat} (h : ∃ y ∈ l, bit y i = v) : anyB l i v = true := by
  obtain ⟨y, hy, he⟩ := h
  rw [anyB, List.any_eq_true]; exact ⟨y, hy, by simp [he]⟩
theorem STL_of {l : List UInt8} (h : TV l l.length = true) : STL l = stL l := by rw [STL, h]; rfl
set_option maxHeartbeats 1000000 in
set_option maxRecDepth 100000 in
theorem fnHull_walk (a0 : Option Addr) (len0 cap0 : Nat) (z0 : List Int) (w : World) (w0 : IsRow .u8 w a0 len0 cap0 z0) :
    Calls Try.prog 6 #[.slice a0 len0 cap0] w fun e w' => e = .returned (.bool true) ∧ Below w.heap.size w w' := by
  by_cases h0 : 1048576 < len0
  · go_enter Try.func6, Try.ntmps6
    go_wp2
    go_ret
    exact ⟨rfl, Below.refl _ _⟩
  · obtain ⟨bs, hbl, hrd, hwf, hcap, hmax⟩ := w0.rdk
    unfold maxLen at hmax
    have HRD := Lib.hid hrd
    have HWF := Lib.hid (fun x hx => wf_u8 (hwf x hx))
    have HBL := Lib.hid hbl.symm
    clear hbl hrd hwf w0
    go_enter Try.func6, Try.ntmps6
    go_wp2_with fail
    refine (DrawHullOf_any _ _ _ _ _ HBL.out hcap (by omega) HRD HWF).mono ?_
    rintro e W1 ⟨⟨A, c, xs, n, rfl, hxl, hO1⟩, hB1⟩
    have hz1 := hB1.size
    go_wp2_with fail
    refine (HullOf_any _ _ _ _ _ hO1.rd (by omega)).mono ?_
    rintro e W2 ⟨rfl, hB2⟩
    have hz2 := hB2.size
    have hB02 : Below w.heap.size w W2 := hB1.trans (hB2.mono hz1)
    cases hM : HO xs n with
    | none =>
      have HM := Lib.hid hM
      clear hM
      rw [show optT none = .tuple #[.string ⟨([] : List UInt8).toArray⟩, .bool false] from rfl]
      go_wp2_with fail
      refine (sHullOf_any _ _ _ _ _ (hO1.rd.below hB2) (by omega)).mono ?_
      rintro e W3 ⟨rfl, hB3⟩
      rw [HM.out, show optT none = .tuple #[.string ⟨([] : List UInt8).toArray⟩, .bool false] from rfl]
      go_wp2_with fail
      go_ret
      exact ⟨rfl, hB02.trans (hB3.mono (by omega))⟩
    | some l =>
      obtain ⟨m, x, r, rfl, hm1, hm5, rfl, hr, rfl⟩ := HO_some hM
      have HM := Lib.hid hM
      have HR := Lib.hid hr
      clear hM hr
      obtain ⟨T, hT⟩ : ∃ T : ByteArray, T = ⟨(hullL x r m).toArray⟩ := ⟨_, rfl⟩
      have hTl : T.data.toList = hullL x r m := by rw [hT]
      have hTs : T.size ≤ m ∧ m ≤ T.size := by
        have : T.size = m := by rw [hT]; exact hullL_length x r m
        omega
      obtain ⟨hTs1, hTs2⟩ := hTs
      rw [show optT (some (hullL x r m)) = .tuple #[.string T, .bool true] by rw [hT]; rfl]
      have HTl := Lib.hid hTl
      have HTT := Lib.hid hT
      clear hTl hT
      go_wp2_with fail
      refine (sHullOf_any _ _ _ _ _ (hO1.rd.below hB2) (by omega)).mono ?_
      rintro e W3 ⟨rfl, hB3⟩
      rw [HM.out, show optT (some (hullL x r m)) = .tuple #[.string T, .bool true] by rw [HTT.out]; rfl]
      have hz3 := hB3.size
      have hB03 : Below w.heap.size w W3 := hB02.trans (hB3.mono (by omega))
      have hTV : TV T.data.toList (m : Int) = true := by rw [HTl.out]; exact TV_hull x r m hm1 hm5
      have hS : STL T.data.toList = stL (hullL x r m) := by
        rw [HTl.out, STL_of (by rw [hullL_length]; exact TV_hull x r m hm1 hm5)]
      have HTV := Lib.hid hTV
      have HS := Lib.hid hS
      clear hTV hS
      go_wp2_with fail
      refine (StatesOf_any _ _ (by omega)).mono ?_
      rintro e W4 ⟨⟨A4, c4, rfl, hc4, hO4⟩, hB4⟩
      rw [HS.out] at hO4 ⊢
      have hz4 := hB4.size
      go_wp2_with fail
      refine (sStatesOf_any _ _ (by omega)).mono ?_
      rintro e W5 ⟨⟨A5, c5, rfl, hc5, hO5⟩, hB5⟩
      rw [HS.out] at hO5 ⊢
      have hz5 := hB5.size
      obtain ⟨ins, hins⟩ : ∃ ins, ins = ints (stL (hullL x r m)) := ⟨_, rfl⟩
      rw [← hins] at hO4 hO5 ⊢
      have hinl : ins.length ≤ 32 := by
        rw [hins, ints_length]
        have h1 := sel_len (2 ^ (hullL x r m).length) (hasS (hullL x r m))
        have h2 := two_le m hm5
        rw [hullL_length] at h1
        unfold stL
        rw [hullL_length]
        omega
      have HIN := Lib.hid hins
      clear hins
      go_wp2_with fail
      refine (bnSame_any _ _ _ _ _ _ _ (hO4.rd.below hB5) hO5.rd (by omega) (by omega)).mono ?_
      rintro e W6 ⟨rfl, n6, rfl⟩
      have hB05 : Below w.heap.size w W5 := (hB03.trans (hB4.mono (by omega))).trans (hB5.mono (by omega))
      have HXS := Lib.hid (hO1.rd.below ((hB2.trans (hB3.mono hz2)).trans ((hB4.mono (by omega)).trans (hB5.mono (by omega)))))
      have HIS := Lib.hid (hO4.rd.below hB5)
      obtain ⟨L, hL⟩ : ∃ L : Nat, L = (ints (x :: r)).length := ⟨_, rfl⟩
      have hLb : L ≤ 100 := by omega
      rw [← hL]
      have HL := Lib.hid (show L = (x :: r).length by rw [hL, ints_length])
      clear hL hxl hc4 hc5
      go_wp2_with fail
      go_loopw [11, 12, 13] (fun q _ _ wr => ∃ k n : Nat, k ≤ L ∧ q = .int .i64 k ∧ wr = W5.drewN n) (fun q _ _ _ => L - (intOf q).toNat)
      case atStart => exact ⟨0, _, Nat.zero_le _, rfl, rfl⟩
      case round =>
        obtain ⟨k, n, hk, rfl, rfl⟩ := hrel
        by_cases hlt : k < L
        · have hkx : k < (x :: r).length := by have := HL.out; omega
          have HY : Hid (((x :: r)[k] : Int) ∈ ins) := Lib.hid (by
            rw [HIN.out, mem_ints, mem_stL, hullL_length]
            exact ⟨HR.out _ (List.getElem_mem hkx), hull_has x r m _ (List.getElem_mem hkx)⟩)
          obtain ⟨g, off, rfl, hcy⟩ := HXS.out.at_ (k := k) (ints_at hkx)
          generalize (x :: r)[k] = y at HY hcy
          go_wp2_with fail
          go_loopw [12, 13] (fun b q wr => ∃ (i n : Nat) (v : Bool), i ≤ ins.length ∧ q = .int .i64 i ∧ b = .bool v ∧ Hid (v = hasI (ins.take i) y) ∧ wr = W5.drewN n) (fun _ q _ => ins.length - (intOf q).toNat)
          case atStart => exact ⟨0, _, false, Nat.zero_le _, rfl, rfl, Lib.hid rfl, rfl⟩
          case round =>
            obtain ⟨i, n, v, hi, rfl, rfl, HV, rfl⟩ := hrel
            by_cases hil : i < ins.length
            · have HSt := Lib.hid (hasI_step (y := (y : Int)) hil)
              cases v with
              | true =>
                go_wp2_with fail
                go_quiet (fail)
                go_wp2_with fail
                go_roundw
                case rel => exact ⟨i + 1, _, true, by omega, by go_num, rfl, Lib.hid (by rw [HSt.out, ← HV.out]; rfl), rfl⟩
                case measure => simp [intOf]; omega
              | false =>
                obtain ⟨g', off', rfl, hci⟩ := HIS.out.int hil
                by_cases he : ins[i] = (y : Int)
                · have hd : (ins[i] == (y : Int)) = true := by simp [he]
                  have HF : Hid (true = hasI (ins.take (i + 1)) y) := Lib.hid (by rw [HSt.out]; simp [he])
                  clear he
                  go_wp2_with fail
                  go_quiet (fail)
                  go_wp2_with fail
                  go_roundw
                  case rel => exact ⟨i + 1, _, true, by omega, by go_num, rfl, HF, rfl⟩
                  case measure => simp [intOf]; omega
                · have hd : (ins[i] == (y : Int)) = false := by simpa using he
                  have HF : Hid (false = hasI (ins.take (i + 1)) y) := Lib.hid (by rw [HSt.out, ← HV.out]; simp [he])
                  clear he
                  go_wp2_with fail
                  go_quiet (fail)
                  go_wp2_with fail
                  go_roundw
                  case rel => exact ⟨i + 1, _, false, by omega, by go_num, rfl, HF, rfl⟩
                  case measure => simp [intOf]; omega
            · have hv : v = true := by
                rw [HV.out, List.take_of_length_le (by omega)]; exact hasI_mem HY.out
              subst hv
              go_wp2_with fail
              go_roundw
              case rel => exact ⟨k + 1, _, by omega, by go_num, rfl⟩
              case measure => simp [intOf]; omega
        · go_wp2_with fail
          go_loopw [14, 15, 16, 17] (fun q _ _ _ wr => ∃ k n : Nat, k ≤ m ∧ q = .int .i64 k ∧ wr = W5.drewN n) (fun q _ _ _ _ => m - (intOf q).toNat)
          case atStart => exact ⟨0, _, Nat.zero_le _, rfl, rfl⟩
          case round =>
            obtain ⟨i, n', hi, rfl, rfl⟩ := hrel
            by_cases hil : i < m
            · have hiT : i < T.size := by omega
              by_cases h42 : (T[i].toNat : Int) = 42
              · have hb : ((T[i].toNat : Int) != 42) = false := by simp [h42]
                have HSt : Hid ((∃ y ∈ x :: r, bit y i = 0) ∧ ∃ y ∈ x :: r, bit y i = 1) := Lib.hid (hull_star x r m i hil (by
                  have e : (hullL x r m)[i]'(by rw [hullL_length]; exact hil) = T[i] := by
                    have e2 : T[i] = T.data.toList[i]'(by simpa using hiT) := rfl
                    rw [e2]
                    congr 1
                    exact HTl.out.symm
                  rw [e]
                  exact UInt8.toNat_inj.1 (by show T[i].toNat = 42; omega)))
                clear h42
                go_wp2_with fail
                go_loopw [15, 16, 17] (fun b1 b2 q wr => ∃ (k n : Nat) (v1 v2 : Bool), k ≤ L ∧ q = .int .i64 k ∧ b1 = .bool v1 ∧ b2 = .bool v2 ∧ Hid (v1 = anyB ((x :: r).take k) i 0) ∧ Hid (v2 = anyB ((x :: r).take k) i 1) ∧ wr = W5.drewN n) (fun _ _ q _ => L - (intOf q).toNat)
                case atStart => exact ⟨0, _, false, false, Nat.zero_le _, rfl, rfl, rfl, Lib.hid rfl, Lib.hid rfl, rfl⟩
                case round =>
                  obtain ⟨k, n2, v1, v2, hk2, rfl, rfl, rfl, HV1, HV2, rfl⟩ := hrel
                  by_cases hkl : k < L
                  · have hkx : k < (x :: r).length := by have := HL.out; omega
                    obtain ⟨g, off, rfl, hcy⟩ := HXS.out.at_ (k := k) (ints_at hkx)
                    have HA0 := Lib.hid (anyB_step (l := x :: r) (i := i) (v := 0) hkx)
                    have HA1 := Lib.hid (anyB_step (l := x :: r) (i := i) (v := 1) hkx)
                    have hy32 : (x :: r)[k] < 32 := Nat.lt_of_lt_of_le (HR.out _ (List.getElem_mem hkx)) (two_le m hm5)
                    generalize (x :: r)[k] = y at HA0 HA1 hcy hy32
                    have hb2 := bit_and y i (by omega)
                    have hc0 : ((bit y i : Int) == 0) = decide (bit y i = 0) := by rw [Bool.eq_iff_iff]; simp
                    have hc1 : ((bit y i : Int) == 1) = decide (bit y i = 1) := by rw [Bool.eq_iff_iff]; simp; omega
                    cases v1 <;> cases v2
                    all_goals
                      go_wp2_with fail
                      go_roundw
                      case rel => exact ⟨k + 1, _, _, _, by omega, by go_num, rfl, rfl, Lib.hid (by rw [HA0.out, ← HV1.out]; rfl), Lib.hid (by rw [HA1.out, ← HV2.out]; rfl), rfl⟩
                      case measure => simp [intOf]; omega
                  · have e1 : v1 = true := by rw [HV1.out, List.take_of_length_le (by have := HL.out; omega)]; exact anyB_mem HSt.out.1
                    have e2 : v2 = true := by rw [HV2.out, List.take_of_length_le (by have := HL.out; omega)]; exact anyB_mem HSt.out.2
                    subst e1; subst e2
                    go_wp2_with fail
                    go_roundw
                    case rel => exact ⟨i + 1, _, by omega, by go_num, rfl⟩
                    case measure => simp [intOf]; omega
              · have hb : ((T[i].toNat : Int) != 42) = true := by simpa using h42
                clear h42
                go_wp2_with fail
                go_roundw
                case rel => exact ⟨i + 1, _, by omega, by go_num, rfl⟩
                case measure => simp [intOf]; omega
            · go_wp2_with fail
              refine (HullOf_any _ _ _ _ (W5.drewN n') HIS.out (by omega)).mono ?_
              rintro e W7 ⟨rfl, hB7⟩
              rw [HIN.out, hull_hull x r m hm1 hm5 HR.out, show optT (some (hullL x r m)) = .tuple #[.string T, .bool true] by rw [HTT.out]; rfl]
              go_wp2_with fail
              refine (termValid_any _ _ _ (by omega)).mono ?_
              rintro e w' ⟨rfl, rfl⟩
              rw [HTV.out]
              go_wp2_with fail
              go_ret
              exact ⟨rfl, hB05.trans (hB7.mono (by rw [drewN_size]; exact hB05.size) |> fun h => (drewN_below _ _).trans h)⟩
namespace fnHull
open Go.ChangeShapes Go.WideShapes Go.ChangeAt Go.RowKit
open Go.ChangeMaps (open_string shut_string)
set_option linter.unusedVariables false
set_option maxRecDepth 100000 in
/-- the row's step: the arguments are opened, the walk is called, the arguments are shut -/
theorem lifted (os : Os) (started : os.Started) (H : Type) (enc : TypeId × Value → H) :
    ReturnsInHanded {} Try.checked os 6 .any (Rows.fnHullSpec.pre6 enc Try.prog Try.f6 Rows.fnHullRow.domain false) (Rows.fnHullSpec.post enc Try.prog Try.f6 false true false false) := by
  refine returnsInHanded_of_change (C := Try.checked) own started (by kernel_rfl) Try.func6
    (ChangeSpec.witness6 (enc := enc) (C := Try.checked) false ⟨#[], #[.slice none 0 0], []⟩ 8 (by kernel_rfl) (by kernel_rfl) (by kernel_rfl) (by kernel_rfl)) ?_
  intro W base args ds gs before hval0 hW hcnd _
  have hval : ∀ (j : Nat) t v, Try.f6.params[j]? = some t → args[j]? = some v → Value.okWide Try.prog W .any base t v := hval0
  have hW' := hW
  obtain ⟨p, q, hA0, hV, rfl, hfz, hnd⟩ := hW
  have hA : DataW.TrodAll enc Try.prog W 0 (fun _ => true) true Try.f6.params.toList args.toList ds p := hA0
  rw [Try.params6] at hA hval
  obtain ⟨v0, vs0, d0, ds0, p0, q0, hargs, rfl, rfl, h0, r0⟩ := trodAll_cons hA
  obtain ⟨rfl, rfl, rfl⟩ := trodAll_nil r0
  obtain rfl : args = #[v0] := by cases args; simp_all
  obtain ⟨rfl, rfl⟩ := trodVars_none hV
  obtain ⟨a0, len0, cap0, rfl⟩ := okWide_slice Try.underlying33 (hval 0 33 v0 rfl rfl)
  have k0 := h0
  have lt0 : ∀ x ∈ p0, x.block < W.heap.size := by obtain ⟨m, hm⟩ := k0; exact DataW.trod_lt m _ _ _ hm
  obtain ⟨z0, w0⟩ : ∃ zs, IsRow .u8 W a0 len0 cap0 zs := by
    obtain ⟨fuel, hf⟩ := h0
    rcases open_ints Try.underlying33 Try.underlying5 (by kernel_rfl) hf with ⟨hcs, _⟩ | ⟨x, l, c, zs, hcs, _, hl, hm, hz, _, hcell, hwz⟩
    · simp [Value.cells] at hcs
      obtain ⟨rfl, rfl, rfl⟩ := hcs
      exact ⟨[], .inl ⟨rfl, rfl, rfl, rfl⟩⟩
    · simp [Value.cells] at hcs
      obtain ⟨rfl, rfl, rfl⟩ := hcs
      exact ⟨zs, .inr ⟨_, rfl, hl, hm, by simpa using hz, hcell, hwz⟩⟩
  clear hA0 hval0
  refine (fnHull_walk a0 len0 cap0 z0 W w0).mono fun e W' ⟨he, bel⟩ => ?_
  subst he
  exact ⟨_, rfl, _, _, _, [], _, [], hW', trodAll_mk1 (shut_bool Try.underlying4 _), (trodAll_cons_mk (Below.trod laidOut (by kernel_rfl) (of_decide_eq_true (by kernel_rfl)) k0 bel lt0) trodAll_mk0), rfl, bel.frame _, fun h => by cases h⟩

theorem over : Rows.fnHullRow.holds Try.pinned (OpenSpec.ofChange Rows.fnHullSpec) :=
  OpenClaim.holds_of_wide 6 Try.f6 rfl rfl rfl rfl rfl rfl rfl ⟨rfl, rfl, rfl, rfl, rfl⟩ rfl rfl rfl rfl rfl (by kernel_rfl) Try.func6 (by kernel_rfl)
    (of_decide_eq_true (by kernel_rfl)) (by unfold Func.isWrapper; first | (rw [if_pos (by decide +kernel)]; kernel_rfl) | (rw [if_neg (by decide +kernel)]; exact ⟨rfl, rfl⟩))
    (fun os started H enc _ => lifted os started H enc)

/-- THE STATEMENT -/
theorem proved : Rows.FnHullSaid := over
#print axioms proved
end fnHull
end Go.Proofs.Ytddnibpldjdhpaa
