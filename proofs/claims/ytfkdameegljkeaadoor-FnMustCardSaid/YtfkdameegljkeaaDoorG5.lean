/- Walks and plain facts, joined: Q2 Q3 Zg. -/
import Derived.Test.YtfkdameegljkeaaDoorProg
import Derived.WalkKit
import Derived.WalkSpells
import Derived.WalkLawsBesides
import Derived.Lib.Hide
import Derived.Deep.QuietTactic
import Derived.BigQuiet
import Derived.Carry
import Derived.Test.YtfkdameegljkeaaDoorG4
import Derived.Deep.RegionHeld3
import Derived.Test.YtfkdameegljkeaaDoorSh
import Derived.Test.YtfkdameegljkeaaDoorG1
/- Walks: the outcomes of a state on both sides. -/
namespace Go.Proofs.YtfkdameegljkeaaDoor
open Go.RowKit
set_option linter.unusedVariables false

/-- the blocks from B on that were there are as they were, and none of them is the list v's own -/
structure Kp (B : Nat) (w1 wr : World) (v : Value) : Prop where
  k : ∀ g, B ≤ g → g < w1.heap.size → wr.heap[g]? = w1.heap[g]? ∧ v.ownBlock ≠ some g
  z : w1.heap.size ≤ wr.heap.size
theorem Kp.first {B : Nat} {w1 : World} {v : Value} (hv : ∀ g, v.ownBlock = some g → g < B) : Kp B w1 w1 v :=
  ⟨fun g hg _ => ⟨rfl, fun e => by have := hv g e; omega⟩, Nat.le_refl _⟩
theorem Kp.push {B : Nat} {w1 wr w' : World} {v v' : Value} (h : Kp B w1 wr v) (hz : wr.heap.size ≤ w'.heap.size)
    (hk : ∀ g, g < wr.heap.size → v.ownBlock ≠ some g → w'.heap[g]? = wr.heap[g]? ∧ v'.ownBlock ≠ some g) : Kp B w1 w' v' :=
  ⟨fun g hg hl => by
    have h1 := h.k g hg hl
    have h2 := hk g (Nat.lt_of_lt_of_le hl h.z) h1.2
    exact ⟨h2.1.trans h1.1, h2.2⟩, Nat.le_trans h.z hz⟩
theorem Kp.below {B : Nat} {w1 wr w' : World} {v : Value} (h : Kp B w1 wr v) (hb : Below wr.heap.size wr w') : Kp B w1 w' v :=
  ⟨fun g hg hl => ⟨(hb.block g (Nat.lt_of_lt_of_le hl h.z)).trans (h.k g hg hl).1, (h.k g hg hl).2⟩, Nat.le_trans h.z hb.size⟩
theorem Kp.own {B : Nat} {w1 wr : World} {v : Value} {A : Option Addr} {vs : List Value} (h : Kp B w1 wr v) (ho : Own w1 B A vs) : Own wr B A vs := by
  rcases ho with ho | ⟨g, off, hA, hB, hc⟩
  · exact .inl ho
  · refine .inr ⟨g, off, hA, hB, fun j u hj => ?_⟩
    have hl : g < w1.heap.size := World.block_lt_of_cell? w1 _ (hc j u hj).1
    have hb := (h.k g hB hl).1
    exact ⟨(World.cell?_of_block (w := w1) (a := ⟨g, off + j, none⟩) hb).trans (hc j u hj).1, (World.frozen?_of_block (w := w1) (a := ⟨g, off + j, none⟩) hb).trans (hc j u hj).2⟩
theorem Kp.set {B b : Nat} {w1 wr : World} {v : Value} {ks : List Int} (h : Kp B w1 wr v) (hs : SetAt w1 b ks) (hb : B ≤ b) : SetAt wr b ks := hs.blk (h.k b hb hs.lt).1
/-- the outcomes among the first i attractors -/
def outTo (rb : Nat → Nat → Bool) (N s i : Nat) : List Nat := ((atts rb N N).take i).filter (rb s)
theorem outTo_yes {rb : Nat → Nat → Bool} {N s i a : Nat} (h : (atts rb N N)[i]? = some a) (hr : rb s a = true) : ints (outTo rb N s (i + 1)) = ints (outTo rb N s i) ++ [((a : Nat) : Int)] := by
  rw [outTo, List.take_add_one, h, List.filter_append]
  simp [outTo, hr, ints]
theorem outTo_no {rb : Nat → Nat → Bool} {N s i a : Nat} (h : (atts rb N N)[i]? = some a) (hr : rb s a = false) : ints (outTo rb N s (i + 1)) = ints (outTo rb N s i) := by
  rw [outTo, List.take_add_one, h, List.filter_append]
  simp [outTo, hr, ints]
theorem outTo_all {rb : Nat → Nat → Bool} {N s i : Nat} (h : (atts rb N N).length ≤ i) : outTo rb N s i = outs rb N s := by rw [outTo, List.take_of_length_le h]; rfl
theorem outTo_len (rb : Nat → Nat → Bool) (N s i : Nat) : (outTo rb N s i).length ≤ i := Nat.le_trans (List.length_filter_le _ _) (List.length_take_le _ _)
theorem attTo_get {rb : Nat → Nat → Bool} {N i a : Nat} (h : RB rb N) (ha : (atts rb N N)[i]? = some a) : a < N ∧ att rb N a = true ∧ (attTo rb N N)[i]? = some (ints (sel N (rb a))) ∧ (ints (sel N (rb a)))[0]? = some (a : Int) := by
  obtain ⟨h1, h2⟩ := mem_atts.1 (List.mem_of_getElem? ha)
  refine ⟨h1, h2, ?_, att_head h h1 h2⟩
  rw [attTo, List.getElem?_map, ha]; rfl
theorem attTo_atts (rb : Nat → Nat → Bool) (N : Nat) : (attTo rb N N).length = (atts rb N N).length := by rw [attTo, List.length_map]
/-- what is read of a list of attractors: the slice of the i-th and its least state -/
theorem att_cells {w : World} {B c : Nat} {A : Option Addr} {gs : List Nat} {ys : List Value} {rb : Nat → Nat → Bool} {N i a : Nat} {v : Value} (h : RB rb N) (hO : Own w B A ys) (hL : LL w B v gs ys (attTo rb N N)) (ha : (atts rb N N)[i]? = some a) :
    ∃ g0 o0 g off c, A = some ⟨g0, o0, none⟩ ∧ B ≤ g0 ∧ B ≤ g ∧ w.cell? ⟨g0, o0 + i, none⟩ = some (.slice (some ⟨g, off, none⟩) (ints (sel N (rb a))).length c) ∧ (ints (sel N (rb a))).length ≤ c ∧ 0 < (ints (sel N (rb a))).length ∧ w.cell? ⟨g, off, none⟩ = some (.int .i64 (a : Int)) ∧ Own w B (some ⟨g, off, none⟩) ((ints (sel N (rb a))).map (Value.int .i64)) := by
  obtain ⟨h1, h2, h3, h4⟩ := attTo_get h ha
  obtain ⟨g, off, c, k1, k2, k3, k4⟩ := hL.at_ i _ h3
  obtain ⟨g0, o0, hA, hB, hc, _⟩ := hO.at_ k2
  have h5 := k4.cell (k := 0) (v := .int .i64 (a : Int)) (by rw [List.getElem?_map, h4]; rfl)
  rw [Nat.add_zero] at h5
  exact ⟨g0, o0, g, off, c, hA, hB, (hL.lt g (List.mem_of_getElem? k1)).1, hc, k3, (List.getElem?_eq_some_iff.1 h4).1, h5.1, k4⟩
theorem Kp.ll {B : Nat} {w1 wr : World} {v u : Value} {gs : List Nat} {ys : List Value} {xss : List (List Int)} (h : Kp B w1 wr v) (hl : LL w1 B u gs ys xss) : LL wr B u gs ys xss :=
  hl.blk (fun g hg => ⟨(h.k g (hl.lt g hg).1 (hl.lt g hg).2.1).1, (hl.lt g hg).2.2⟩) h.z

set_option maxHeartbeats 1000000 in
theorem l5Outcomes_any (A : Option Addr) (c s N : Nat) (ps : List (List UInt8)) (w : World) (hx : Hid (Rd w A (strs ps))) (hok : Hid (okN ps = true)) (HN : Hid (N = 2 ^ ps.length)) (hs : s < N) :
    Calls Tryd.prog 68 #[.slice A ps.length c, .int .i64 (s : Int)] w fun e w' => RetI w.heap.size (ints (outs (rbN ps) N s)) e w' ∧ Below w.heap.size w w' := by
  have hn5 := okN_le hok.out
  have hN32 : N ≤ 32 := by rw [HN.out]; exact two_le _ hn5
  have HRB := Lib.hid (rbN_rb hok.out HN.out)
  have hBe : Below w.heap.size w (w.alloc (.cells #[] 3)) := (Below.refl _ _).alloc (Nat.le_refl _) _
  have hOE := OI.empty w w.heap.size 3 (Nat.le_refl _)
  have hze : (w.alloc (.cells #[] 3)).heap.size = w.heap.size + 1 := alloc_size _ _
  obtain ⟨M, HM⟩ : ∃ M, Hid (M = (atts (rbN ps) N N).length) := ⟨_, rfl⟩
  have hM32 : M ≤ 32 := by rw [HM.out]; exact Nat.le_trans (atts_le _ _ _) hN32
  have HME : Hid ((attTo (rbN ps) N N).length = M) := Lib.hid (by rw [HM.out, attTo_atts])
  go_enter Tryd.func68, Tryd.ntmps68
  go_wp2_with fail
  refine (l5Reach_any _ _ _ N _ _ (Lib.hid (hx.out.below hBe)) hok HN hs).mono ?_
  rintro e w1 ⟨⟨A1, c1, rfl, hc1, hO1⟩, hB1⟩
  have hz1 := hB1.size
  have hB01 : Below w.heap.size w w1 := hBe.trans (hB1.mono (by omega))
  go_wp2_with fail
  refine (l5Attractors_any _ _ N _ _ (Lib.hid (hx.out.below hB01)) hok HN).mono ?_
  rintro e w2 ⟨⟨A2, c2, gs, ys, rfl, hc2, hO2, hL2⟩, hB2⟩
  have hz2 := hB2.size
  rw [HME.out] at hc2 hL2 ⊢
  have HO1 : Hid (Own w2 (w.heap.size + 1) A1 (bolL N (rbN ps s))) := Lib.hid ((hO1.mono (by omega)).below hB2)
  have HO2 : Hid (Own w2 (w.heap.size + 1) A2 ys ∧ LL w2 (w.heap.size + 1) (.slice A2 M c2) gs ys (attTo (rbN ps) N N)) := Lib.hid ⟨hO2.mono (by omega), hL2.mono (by omega)⟩
  have HOO := Lib.hid ((hOE.below hB1).below hB2)
  have HBw := Lib.hid (hB01.trans (hB2.mono (by omega)))
  clear hO1 hO2 hL2 hOE hBe hB1 hB01 hB2
  go_wp2_with fail
  go_loopw [5, 8] (fun v q wr => ∃ i : Nat, i ≤ M ∧ q = .int .i64 i ∧ Hid (OI wr w.heap.size 3 v (ints (outTo (rbN ps) N s i)) ∧ Kp (w.heap.size + 1) w2 wr v ∧ Below w.heap.size w wr)) (fun _ q _ => M - (intOf q).toNat)
  case atStart => exact ⟨0, Nat.zero_le _, rfl, Lib.hid ⟨HOO.out, Kp.first (fun g hg => by simp [Value.ownBlock] at hg; omega), HBw.out⟩⟩
  case round =>
    obtain ⟨i, hi, rfl, HI⟩ := hrel
    have hsz := HI.out.2.2.size
    have hlen : (ints (outTo (rbN ps) N s i)).length ≤ 32 := by rw [ints_length]; have := outTo_len (rbN ps) N s i; omega
    by_cases hlt : i < M
    · obtain ⟨a, HA⟩ : ∃ a, Hid ((atts (rbN ps) N N)[i]? = some a) := ⟨_, List.getElem?_eq_getElem (by rw [← HM.out]; exact hlt)⟩
      obtain ⟨g0, o0, g, off, ca, rfl, hg0, hg1, hcl, hla, hl0, hce, _⟩ := att_cells (v := .slice A2 M c2) (c := c2) HRB.out (HI.out.2.1.own HO2.out.1) (HI.out.2.1.ll HO2.out.2) HA.out
      obtain ⟨haN, _⟩ := attTo_get HRB.out HA.out
      obtain ⟨n1, HN1⟩ : ∃ n, Hid (n = (ints (sel N (rbN ps a))).length) := ⟨_, rfl⟩
      rw [← HN1.out] at hcl hla hl0
      obtain ⟨gb, ob, hAb, hgb, hcb, _⟩ := (HI.out.2.1.own HO1.out).at_ (bolL_get (rbN ps s) haN)
      subst hAb
      by_cases hp : rbN ps s a = true
      · have HE := Lib.hid (outTo_yes HA.out hp)
        rw [hp] at hcb
        go_wp2_with (at_builtin; refine wp_pushI_at rfl _ _ _ rfl Tryd.underlying25 info_int HI.out.1 rfl rfl (by omega) (by omega) ?_; intro v' w5 hown hbel hsz3 hkeep)
        go_roundw
        case rel => exact ⟨i + 1, by omega, by go_num, Lib.hid ⟨by rw [HE.out]; exact hown, HI.out.2.1.push hsz3 hkeep, HI.out.2.2.trans (hbel _ (Nat.le_refl _))⟩⟩
        case measure => simp [intOf]; omega
      · have hp' : rbN ps s a = false := by simpa using hp
        have HE := Lib.hid (outTo_no HA.out hp')
        rw [hp'] at hcb
        clear hp
        go_wp2_with fail
        go_roundw
        case rel => exact ⟨i + 1, by omega, by go_num, Lib.hid ⟨by rw [HE.out]; exact HI.out.1, HI.out.2⟩⟩
        case measure => simp [intOf]; omega
    · have hkn : i = M := by omega
      subst hkn
      have HTE : Hid (outTo (rbN ps) N s i = outs (rbN ps) N s) := Lib.hid (outTo_all (by rw [← HM.out]; exact Nat.le_refl _))
      have hI := HI.out.1
      rw [HTE.out] at hI hlen
      obtain ⟨A', c', hv, hc, hO⟩ := hI.form
      have HV := Lib.hid hv
      have HOF := Lib.hid hO
      clear hv hI hO
      go_wp2_with fail
      go_ret
      exact ⟨⟨A', c', by rw [← HV.out]; rfl, hc, HOF.out⟩, HI.out.2.2⟩

set_option maxHeartbeats 1000000 in
theorem OutcomesOf_any (s : ByteArray) (t : Int) (w : World) (hm : Hid (HasM w)) (hs : s.size ≤ 1073741824) :
    Calls Tryd.prog 15 #[.string s, .int .i64 t] w fun e w' => RetI w.heap.size (outN (cutL s.data.toList) t) e w' ∧ Below w.heap.size w w' := by
  obtain ⟨ps, HPS⟩ : ∃ ps, Hid (ps = cutL s.data.toList) := ⟨_, rfl⟩
  rw [← HPS.out]
  by_cases h : okSt ps t = true
  · obtain ⟨hok, t, rfl, hlt⟩ := okSt_true h
    have hn5 := okN_le hok
    obtain ⟨N, HN, hN, hN32, hN0⟩ := wrap_two ps.length hn5
    have HOK := Lib.hid hok
    have htN : t < N := by rw [HN.out]; exact hlt
    have HST := Lib.hid h
    have HV := Lib.hid (outN_yes h HN.out)
    have HRB := Lib.hid (rbN_rb hok HN.out)
    obtain ⟨M, HM⟩ : ∃ M, Hid (M = (atts (rbN ps) N N).length) := ⟨_, rfl⟩
    have hM32 : M ≤ 32 := by rw [HM.out]; exact Nat.le_trans (atts_le _ _ _) hN32
    have HME : Hid ((attTo (rbN ps) N N).length = M) := Lib.hid (by rw [HM.out, attTo_atts])
    clear h hok hlt
    go_enter Tryd.func15, Tryd.ntmps15
    go_wp2_with fail
    refine (stateOf_any s ((t : Nat) : Int) w hm hs).mono ?_
    rintro e w1 ⟨⟨A, k0, c, rfl, himp⟩, hB1⟩
    rw [← HPS.out] at himp ⊢
    obtain ⟨rfl, hc, hO⟩ := himp HST.out
    rw [HST.out]
    have HR := Lib.hid hO.rd
    have hz1 := hB1.size
    clear hO himp
    go_wp2_with fail
    refine (reach_any _ _ _ N _ _ HR HOK HN htN).mono ?_
    rintro e w2 ⟨⟨b, met, rfl, hb, hS, hml, hM⟩, hB2⟩
    have hz2 := hB2.size
    have HM2 := Lib.hid hM
    go_wp2_with fail
    refine (attractors_any _ _ N _ _ (Lib.hid (HR.out.below hB2)) HOK HN).mono ?_
    rintro e w3 ⟨⟨A2, c2, gs, ys, rfl, hc2, hO2, hL2⟩, hB3⟩
    have hz3 := hB3.size
    rw [HME.out] at hc2 hL2 ⊢
    have HO2 : Hid (Own w3 w.heap.size A2 ys ∧ LL w3 w.heap.size (.slice A2 M c2) gs ys (attTo (rbN ps) N N)) := Lib.hid ⟨hO2.mono (by omega), hL2.mono (by omega)⟩
    have HS3 := Lib.hid (hS.below hB3)
    have HBw := Lib.hid (hB1.trans ((hB2.mono hz1).trans (hB3.mono (by omega))))
    have hbw : w.heap.size ≤ b := by omega
    clear hS hml hM hO2 hL2 hB1 hB2 hB3 hb
    go_wp2_with fail
    go_loopw [8, 25] (fun v q wr => ∃ i : Nat, i ≤ M ∧ q = .int .i64 i ∧ Hid (OI wr w.heap.size 3 v (ints (outTo (rbN ps) N t i)) ∧ Kp w.heap.size w3 wr v ∧ Below w.heap.size w wr)) (fun _ q _ => M - (intOf q).toNat)
    case atStart => exact ⟨0, Nat.zero_le _, rfl, Lib.hid ⟨OI.nil _ _ _, Kp.first (fun g hg => by simp [Value.ownBlock] at hg), HBw.out⟩⟩
    case round =>
      obtain ⟨i, hi, rfl, HI⟩ := hrel
      have hsz := HI.out.2.2.size
      have hlen : (ints (outTo (rbN ps) N t i)).length ≤ 32 := by rw [ints_length]; have := outTo_len (rbN ps) N t i; omega
      by_cases hlt : i < M
      · obtain ⟨a, HA⟩ : ∃ a, Hid ((atts (rbN ps) N N)[i]? = some a) := ⟨_, List.getElem?_eq_getElem (by rw [← HM.out]; exact hlt)⟩
        obtain ⟨g0, o0, g, off, ca, rfl, hg0, hg1, hcl, hla, hl0, hce, _⟩ := att_cells (v := .slice A2 M c2) (c := c2) HRB.out (HI.out.2.1.own HO2.out.1) (HI.out.2.1.ll HO2.out.2) HA.out
        obtain ⟨haN, _⟩ := attTo_get HRB.out HA.out
        obtain ⟨n1, HN1⟩ : ∃ n, Hid (n = (ints (sel N (rbN ps a))).length) := ⟨_, rfl⟩
        rw [← HN1.out] at hcl hla hl0
        have hlk := set_look (HI.out.2.1.set HS3.out hbw) (a : Int)
        have hmem : decide ((a : Int) ∈ ints met) = rbN ps t a := by rw [← HM2.out a, Bool.eq_iff_iff, decide_eq_true_iff, decide_eq_true_iff, mem_ints]
        rw [hmem] at hlk
        clear hmem
        by_cases hp : rbN ps t a = true
        · have HE := Lib.hid (outTo_yes HA.out hp)
          rw [hp] at hlk
          go_wp2_with (at_builtin; refine wp_pushI_at rfl _ _ _ rfl Tryd.underlying25 info_int HI.out.1 rfl rfl (by omega) (by omega) ?_; intro v' w5 hown hbel hsz3 hkeep)
          go_roundw
          case rel => exact ⟨i + 1, by omega, by go_num, Lib.hid ⟨by rw [HE.out]; exact hown, HI.out.2.1.push hsz3 hkeep, HI.out.2.2.trans (hbel _ (Nat.le_refl _))⟩⟩
          case measure => simp [intOf]; omega
        · have hp' : rbN ps t a = false := by simpa using hp
          have HE := Lib.hid (outTo_no HA.out hp')
          rw [hp'] at hlk
          clear hp
          go_wp2_with fail
          go_roundw
          case rel => exact ⟨i + 1, by omega, by go_num, Lib.hid ⟨by rw [HE.out]; exact HI.out.1, HI.out.2⟩⟩
          case measure => simp [intOf]; omega
      · have hkn : i = M := by omega
        subst hkn
        have HTE : Hid (outTo (rbN ps) N t i = outs (rbN ps) N t) := Lib.hid (outTo_all (by rw [← HM.out]; exact Nat.le_refl _))
        have hI := HI.out.1
        rw [HTE.out] at hI hlen
        have HIO := Lib.hid hI
        clear hI
        go_wp2_with (go_at_call 38; refine (clip_any _ _ _ _ _ HIO.out).mono ?_; rintro e w2 ⟨⟨A', c', rfl, hc, hO⟩, rfl⟩)
        go_ret
        exact ⟨⟨A', c', by rw [HV.out]; rfl, by rw [HV.out]; exact hc, by rw [HV.out]; exact hO⟩, HI.out.2.2⟩
  · have h' : okSt ps t = false := by simpa using h
    have HST := Lib.hid h'
    have HV := Lib.hid (outN_no (t := t) h')
    clear h h'
    go_enter Tryd.func15, Tryd.ntmps15
    go_wp2_with fail
    refine (stateOf_any s t w hm hs).mono ?_
    rintro e w1 ⟨⟨A, k0, c, rfl, himp⟩, hB1⟩
    clear himp
    rw [← HPS.out, HST.out]
    go_wp2
    go_ret
    exact ⟨⟨none, 0, by rw [HV.out]; rfl, by rw [HV.out]; exact Nat.le_refl _, by rw [HV.out]; exact Own.nil _ _ _⟩, hB1⟩

end Go.Proofs.YtfkdameegljkeaaDoor

/- Walks: MayReach and MustReach on both sides. -/
namespace Go.Proofs.YtfkdameegljkeaaDoor
open Go.RowKit
set_option linter.unusedVariables false

/-- the states whose outcomes have that of s, or it alone -/
def frmP (rb : Nat → Nat → Bool) (N s : Nat) (alone : Bool) (k : Nat) : Bool := (outs rb N k).contains (lea rb N s) && (!alone || (outs rb N k).length == 1)
theorem frm_may {rb : Nat → Nat → Bool} {N s : Nat} (h : RB rb N) (hs : s < N) (h1 : std rb N s = true) : sel N (frmP rb N s false) = sel N fun k => rb k s :=
  sel_congr fun k hk => by rw [frmP, may_iff h hs hk h1]; simp
theorem frm_must {rb : Nat → Nat → Bool} {N s : Nat} (h : RB rb N) (hs : s < N) (h1 : std rb N s = true) : sel N (frmP rb N s true) = sel N fun k => (atts rb N N).all fun a => rb k a == rb a s :=
  sel_congr fun k hk => by rw [← must_iff h hs hk h1, frmP]; simp
def frmN (ps : List (List UInt8)) (t : Int) (alone : Bool) : List Int := if alone then mstN ps t else mayN ps t
theorem frmN_no {ps : List (List UInt8)} {t : Int} {alone : Bool} (h : stdN ps t = false) : frmN ps t alone = [] := by
  unfold frmN; split
  · exact mstN_no h
  · exact mayN_no h
theorem frmN_yes {ps : List (List UInt8)} {t N : Nat} {alone : Bool} (h : stdN ps t = true) (hok : okN ps = true) (hN : N = 2 ^ ps.length) (ht : t < N) : frmN ps t alone = ints (sel N (frmP (rbN ps) N t alone)) := by
  have hst : std (rbN ps) N t = true := by rw [← stdN_yes (stdN_ok h) hN]; exact h
  have hR := rbN_rb hok hN
  cases alone
  · rw [frm_may hR ht hst]; exact mayN_yes h hN
  · rw [frm_must hR ht hst]; exact mstN_yes h hN
theorem take_has {l : List Nat} {i a x : Nat} (h : l[i]? = some a) : decide (x ∈ l.take (i + 1)) = (decide (x ∈ l.take i) || decide (a = x)) := by
  rw [List.take_add_one, h, Bool.eq_iff_iff, Bool.or_eq_true, decide_eq_true_iff, decide_eq_true_iff, decide_eq_true_iff, List.mem_append]
  simp [eq_comm]

set_option maxHeartbeats 2000000 in
theorem l5From_any (s : ByteArray) (t : Int) (alone : Bool) (w : World) (hs : s.size ≤ 1073741824) :
    Calls Tryd.prog 34 #[.string s, .int .i64 t, .bool alone] w fun e w' => RetI w.heap.size (frmN (cutL s.data.toList) t alone) e w' ∧ Below w.heap.size w w' := by
  obtain ⟨ps, HPS⟩ : ∃ ps, Hid (ps = cutL s.data.toList) := ⟨_, rfl⟩
  rw [← HPS.out]
  have hBe : Below w.heap.size w (w.alloc (.cells #[] 3)) := (Below.refl _ _).alloc (Nat.le_refl _) _
  have hOE := OI.empty w w.heap.size 3 (Nat.le_refl _)
  have hze : (w.alloc (.cells #[] 3)).heap.size = w.heap.size + 1 := alloc_size _ _
  by_cases h : okSt ps t = true
  · obtain ⟨hok, t, rfl, hlt⟩ := okSt_true h
    have hn5 := okN_le hok
    obtain ⟨N, HN, hN, hN32, hN0⟩ := wrap_two ps.length hn5
    have HOK := Lib.hid hok
    have htN : t < N := by rw [HN.out]; exact hlt
    have HST := Lib.hid h
    have HRB := Lib.hid (rbN_rb hok HN.out)
    by_cases hst : std (rbN ps) N t = true
    · have HSD := Lib.hid hst
      have HV := Lib.hid (frmN_yes (alone := alone) (by rw [stdN_yes h HN.out]; exact hst) hok HN.out htN)
      obtain ⟨l, HCY⟩ : ∃ l, Hid (l = ints (sel N (rbN ps t))) := ⟨_, rfl⟩
      obtain ⟨c0, HC0⟩ : ∃ x, Hid (x = lea (rbN ps) N t) := ⟨_, rfl⟩
      have hl0 : l[0]? = some ((c0 : Nat) : Int) := by rw [HCY.out, HC0.out]; exact lea_head HRB.out htN
      have hlp : 0 < l.length := (List.getElem?_eq_some_iff.1 hl0).1
      have HL0 := Lib.hid hl0
      have hc32 : c0 < 32 := by have := (lea_all HRB.out htN).2.1; rw [HC0.out]; omega
      clear h hok hlt hst hl0
      go_enter Tryd.func34, Tryd.ntmps34
      go_wp2_with fail
      refine (l3State_any s ((t : Nat) : Int) _ hs).mono ?_
      rintro e w1 ⟨⟨A, k0, c, rfl, himp⟩, hB1⟩
      rw [← HPS.out] at himp ⊢
      obtain ⟨rfl, hc, hO⟩ := himp HST.out
      rw [HST.out]
      have HR := Lib.hid hO.rd
      have HON := Lib.hid hO
      have hz1 := hB1.size
      clear hO himp
      go_wp2_with fail
      refine (l5Steady_any _ _ _ N _ _ HR HOK HN htN).mono ?_
      rintro e w2 ⟨rfl, hB2⟩
      rw [HSD.out]
      have hz2 := hB2.size
      have HR2 := Lib.hid (HR.out.below hB2)
      go_wp2_with fail
      refine (l5Reach_any _ _ _ N _ _ HR2 HOK HN htN).mono ?_
      rintro e w3 ⟨⟨A2, c2, rfl, hc2, hO2⟩, hB3⟩
      have hz3 := hB3.size
      have HRd := Lib.hid hO2.rd
      clear hO2
      go_wp2_with fail
      refine (l5Sorted_any _ _ _ _ _ HRd hN32).mono ?_
      rw [← HCY.out]
      rintro e w4 ⟨⟨A3, c3, rfl, hc3, hO3⟩, hB4⟩
      have hz4 := hB4.size
      obtain ⟨g, off, hA3, hcell⟩ := hO3.rd.at_ (k := 0) (v := .int .i64 (c0 : Int)) (by rw [List.getElem?_map, HL0.out]; rfl)
      subst hA3
      rw [Nat.add_zero] at hcell
      have HO4 := Lib.hid ((((hOE.below hB1).below hB2).below hB3).below hB4)
      have HN4 : Hid (Own w4 (w.heap.size + 1) A (strs ps)) := Lib.hid ((((HON.out.mono (by omega)).below hB2).below hB3).below hB4)
      have HB4 := Lib.hid (hBe.trans ((hB1.mono (by omega)).trans ((hB2.mono (by omega)).trans ((hB3.mono (by omega)).trans (hB4.mono (by omega))))))
      clear hO3 hBe hOE hB1 hB2 hB3 hB4 HR HR2 HON HRd
      go_wp2_with fail
      go_loopw [7, 11] (fun v q wr => ∃ k : Nat, k ≤ N ∧ q = .int .i64 k ∧ Hid (OI wr w.heap.size 3 v (ints (sel k (frmP (rbN ps) N t alone))) ∧ Kp (w.heap.size + 1) w4 wr v ∧ Below w.heap.size w wr)) (fun _ q _ => N - (intOf q).toNat)
      case atStart => exact ⟨0, Nat.zero_le _, rfl, Lib.hid ⟨HO4.out, Kp.first (fun g hg => by simp [Value.ownBlock] at hg; omega), HB4.out⟩⟩
      case round =>
        clear HO4 HB4
        obtain ⟨k, hk, rfl, HI⟩ := hrel
        have hsz := HI.out.2.2.size
        have hlen : (ints (sel k (frmP (rbN ps) N t alone))).length ≤ 32 := by rw [ints_length]; have := sel_len k (frmP (rbN ps) N t alone); omega
        by_cases hlt : k < N
        · have hle : (k : Int) ≤ (N : Int) - 1 := by omega
          have hld : decide ((k : Int) ≤ (N : Int) - 1) = true := decide_eq_true hle
          have HRk := Lib.hid (HI.out.2.1.own HN4.out).rd
          go_wp2_with (go_at_call 67; refine (l3All_any _ _ _ N _ hn5 HN).mono ?_; rintro e w2 ⟨rfl, rfl⟩)
          refine (l5Outcomes_any _ _ _ N _ _ HRk HOK HN hlt).mono ?_
          rintro e w5 ⟨⟨A5, c5, rfl, hc5, hO5⟩, hB5⟩
          have hz5 := hB5.size
          obtain ⟨M, HM⟩ : ∃ M, Hid (M = (outs (rbN ps) N k).length) := ⟨_, rfl⟩
          have hMl : (ints (outs (rbN ps) N k)).length = M := by rw [ints_length, HM.out]
          have hM32 : M ≤ 32 := by have := outs_le (rbN ps) N k; rw [HM.out]; omega
          rw [hMl] at hc5 ⊢
          clear hMl
          have HR5 := Lib.hid hO5.rd
          have HI5 := Lib.hid (And.intro (HI.out.1.below hB5) (And.intro (HI.out.2.1.below hB5) (HI.out.2.2.trans (hB5.mono hsz))))
          clear hO5 hB5
          go_wp2_with fail
          go_loopw [13, 14] (fun v q wq => ∃ i : Nat, i ≤ M ∧ q = .int .i64 i ∧ v = .bool (decide (c0 ∈ (outs (rbN ps) N k).take i)) ∧ wq = w5) (fun _ q _ => M - (intOf q).toNat)
          case atStart => exact ⟨0, Nat.zero_le _, rfl, rfl, rfl⟩
          case round =>
            obtain ⟨i, hi, rfl, rfl, rfl⟩ := hrel
            obtain ⟨w5, rfl⟩ : ∃ x, x = wr := ⟨_, rfl⟩
            by_cases hli : i < M
            · obtain ⟨a, HA⟩ : ∃ a, Hid ((outs (rbN ps) N k)[i]? = some a) := ⟨_, List.getElem?_eq_getElem (by rw [← HM.out]; exact hli)⟩
              obtain ⟨g5, o5, rfl, hcl⟩ := HR5.out.at_ (k := i) (v := .int .i64 (a : Int)) (by rw [List.getElem?_map, ints, List.getElem?_map, HA.out]; rfl)
              have HTH := Lib.hid (take_has (x := c0) HA.out)
              by_cases hb : c0 ∈ (outs (rbN ps) N k).take i
              · rw [decide_eq_true hb] at HTH ⊢
                rw [Bool.true_or] at HTH
                clear hb
                go_wp2_with fail
                go_roundw
                case rel => exact ⟨i + 1, by omega, by go_num, by rw [HTH.out], by first | trivial | rfl⟩
                case measure => simp [intOf]; omega
              · rw [decide_eq_false hb] at HTH ⊢
                rw [Bool.false_or] at HTH
                clear hb
                by_cases hac : a = c0
                · have hd : ((a : Int) == (c0 : Int)) = true := by simp; omega
                  rw [decide_eq_true hac] at HTH
                  clear hac
                  go_wp2_with fail
                  go_roundw
                  case rel => exact ⟨i + 1, by omega, by go_num, by rw [HTH.out], by first | trivial | rfl⟩
                  case measure => simp [intOf]; omega
                · have hd : ((a : Int) == (c0 : Int)) = false := by simp; omega
                  rw [decide_eq_false hac] at HTH
                  clear hac
                  go_wp2_with fail
                  go_roundw
                  case rel => exact ⟨i + 1, by omega, by go_num, by rw [HTH.out], by first | trivial | rfl⟩
                  case measure => simp [intOf]; omega
            · have hie : i = M := by omega
              have HTE : Hid ((outs (rbN ps) N k).take i = outs (rbN ps) N k) := Lib.hid (List.take_of_length_le (by rw [hie, HM.out]; exact Nat.le_refl _))
              rw [HTE.out]
              by_cases hp : frmP (rbN ps) N t alone k = true
              · have HE := Lib.hid (sel_yesI hp)
                have hq := hp
                rw [frmP, Bool.and_eq_true, List.contains_iff_mem, ← HC0.out, ← HM.out] at hq
                rw [decide_eq_true hq.1]
                have hq2 := hq.2
                clear hp hq
                cases alone with
                | true =>
                  have hM1 : M = 1 := by simpa using hq2
                  have hd : ((M : Int) == 1) = true := by simp; omega
                  clear hq2 hM1
                  go_wp2_with (at_builtin; refine wp_pushI_at rfl _ _ _ rfl Tryd.underlying25 info_int HI5.out.1 rfl rfl (by omega) (by omega) ?_; intro v' w7 hown hbel hsz3 hkeep)
                  go_roundw
                  case rel => exact ⟨k + 1, by omega, by go_num, Lib.hid ⟨by rw [HE.out]; exact hown, HI5.out.2.1.push hsz3 hkeep, HI5.out.2.2.trans (hbel _ (Nat.le_refl _))⟩⟩
                  case measure => simp [intOf]; omega
                | false =>
                  clear hq2
                  go_wp2_with (at_builtin; refine wp_pushI_at rfl _ _ _ rfl Tryd.underlying25 info_int HI5.out.1 rfl rfl (by omega) (by omega) ?_; intro v' w7 hown hbel hsz3 hkeep)
                  go_roundw
                  case rel => exact ⟨k + 1, by omega, by go_num, Lib.hid ⟨by rw [HE.out]; exact hown, HI5.out.2.1.push hsz3 hkeep, HI5.out.2.2.trans (hbel _ (Nat.le_refl _))⟩⟩
                  case measure => simp [intOf]; omega
              · have hp' : frmP (rbN ps) N t alone k = false := by simpa using hp
                have HE := Lib.hid (sel_noI hp')
                have HIE : Hid (OI w5 w.heap.size 3 u7 (ints (sel (k + 1) (frmP (rbN ps) N t alone))) ∧ Kp (w.heap.size + 1) w4 w5 u7 ∧ Below w.heap.size w w5) := Lib.hid ⟨by rw [HE.out]; exact HI5.out.1, HI5.out.2⟩
                by_cases hm : c0 ∈ outs (rbN ps) N k
                · rw [decide_eq_true hm]
                  have hq : alone = true ∧ ¬ M = 1 := by
                    rw [frmP, Bool.and_eq_false_iff, ← HC0.out, ← HM.out] at hp'
                    rcases hp' with h1 | h1
                    · rw [List.contains_iff_mem.2 hm] at h1; cases h1
                    · simpa using h1
                  obtain ⟨rfl, hM1⟩ := hq
                  have hd : ((M : Int) == 1) = false := by simp; omega
                  clear hp hp' hm hM1
                  go_wp2_with fail
                  go_roundw
                  case rel => exact ⟨k + 1, by omega, by go_num, HIE⟩
                  case measure => simp [intOf]; omega
                · rw [decide_eq_false hm]
                  clear hp hp' hm
                  go_wp2_with fail
                  go_roundw
                  case rel => exact ⟨k + 1, by omega, by go_num, HIE⟩
                  case measure => simp [intOf]; omega
        · have hkn : k = N := by omega
          subst hkn
          obtain ⟨A', c', hv, hc', hO'⟩ := HI.out.1.form
          have HVV := Lib.hid hv
          have HOF := Lib.hid hO'
          clear hv hO'
          go_wp2_with (go_at_call 67; refine (l3All_any _ _ _ k _ hn5 HN).mono ?_; rintro e w2 ⟨rfl, rfl⟩)
          go_ret
          exact ⟨⟨A', c', by rw [HV.out, ← HVV.out]; rfl, by rw [HV.out]; exact hc', by rw [HV.out]; exact HOF.out⟩, HI.out.2.2⟩
    · have HSD : Hid (std (rbN ps) N t = false) := Lib.hid (by simpa using hst)
      have HV := Lib.hid (frmN_no (alone := alone) (show stdN ps (t : Int) = false by rw [stdN_yes h HN.out]; exact HSD.out))
      clear h hok hlt hst
      go_enter Tryd.func34, Tryd.ntmps34
      go_wp2_with fail
      refine (l3State_any s ((t : Nat) : Int) _ hs).mono ?_
      rintro e w1 ⟨⟨A, k0, c, rfl, himp⟩, hB1⟩
      rw [← HPS.out] at himp ⊢
      obtain ⟨rfl, hc, hO⟩ := himp HST.out
      rw [HST.out]
      have HR := Lib.hid hO.rd
      have hz1 := hB1.size
      clear hO himp
      go_wp2_with fail
      refine (l5Steady_any _ _ _ N _ _ HR HOK HN htN).mono ?_
      rintro e w2 ⟨rfl, hB2⟩
      rw [HSD.out]
      go_wp2
      go_ret
      exact ⟨⟨_, 0, by rw [HV.out]; rfl, by rw [HV.out]; exact Nat.le_refl _, by rw [HV.out]; exact Own.nil _ _ _⟩, hBe.trans ((hB1.mono (by omega)).trans (hB2.mono (by omega)))⟩
  · have HST : Hid (okSt ps t = false) := Lib.hid (by simpa using h)
    have HV := Lib.hid (frmN_no (alone := alone) (show stdN ps t = false from stdN_no HST.out))
    clear h
    go_enter Tryd.func34, Tryd.ntmps34
    go_wp2_with fail
    refine (l3State_any s t _ hs).mono ?_
    rintro e w1 ⟨⟨A, k0, c, rfl, himp⟩, hB1⟩
    clear himp
    rw [← HPS.out, HST.out]
    go_wp2
    go_ret
    exact ⟨⟨_, 0, by rw [HV.out]; rfl, by rw [HV.out]; exact Nat.le_refl _, by rw [HV.out]; exact Own.nil _ _ _⟩, hBe.trans (hB1.mono (by omega))⟩

theorem sMayReach_any (s : ByteArray) (t : Int) (w : World) (hs : s.size ≤ 1073741824) :
    Calls Tryd.prog 11 #[.string s, .int .i64 t] w fun e w' => RetI w.heap.size (mayN (cutL s.data.toList) t) e w' ∧ Below w.heap.size w w' := by
  go_enter Tryd.func11, Tryd.ntmps11
  go_wp2_with fail
  refine (l5From_any s t false _ hs).mono ?_
  rintro e w1 ⟨⟨A, c, rfl, hc, hO⟩, hB1⟩
  go_wp2
  go_ret
  exact ⟨⟨A, c, rfl, hc, hO⟩, hB1⟩

theorem sMustReach_any (s : ByteArray) (t : Int) (w : World) (hs : s.size ≤ 1073741824) :
    Calls Tryd.prog 10 #[.string s, .int .i64 t] w fun e w' => RetI w.heap.size (mstN (cutL s.data.toList) t) e w' ∧ Below w.heap.size w w' := by
  go_enter Tryd.func10, Tryd.ntmps10
  go_wp2_with fail
  refine (l5From_any s t true _ hs).mono ?_
  rintro e w1 ⟨⟨A, c, rfl, hc, hO⟩, hB1⟩
  go_wp2
  go_ret
  exact ⟨⟨A, c, rfl, hc, hO⟩, hB1⟩

set_option maxHeartbeats 400000 in
theorem MayReach1_any (A : Option Addr) (c p5 p3 k t N : Nat) (ps : List (List UInt8)) (w : World) (h5 : w.cell? ⟨p5, 0, none⟩ = some (.slice A ps.length c)) (h3 : w.cell? ⟨p3, 0, none⟩ = some (.int .i64 (t : Int)))
    (hx : Hid (Rd w A (netL ps))) (hok : Hid (okN ps = true)) (HN : Hid (N = 2 ^ ps.length)) (hk : k < N) :
    Calls Tryd.prog 33 #[.int .i64 (k : Int), .pointer (some ⟨p5, 0, none⟩), .pointer (some ⟨p3, 0, none⟩)] w fun e w' => e = .returned (.bool (rbN ps k t)) ∧ Below w.heap.size w w' := by
  have hl3 : p3 < w.heap.size := World.block_lt_of_cell? w _ h3
  have hl5 : p5 < w.heap.size := World.block_lt_of_cell? w _ h5
  have HC : Hid (Calls Tryd.prog 30 #[.slice A ps.length c, .int .i64 (k : Int)] w.drew fun e w' => RetSet w.drew.heap.size N (rbN ps k) e w' ∧ Below w.drew.heap.size w.drew w') := Lib.hid (reach_any A c k N ps w.drew (show Hid (Rd w.drew A (netL ps)) from hx) hok HN hk)
  go_enter Tryd.func33, Tryd.ntmps33
  go_wp2_with fail
  go_region_held3 (fun w' => w'.cell? ⟨p3, 0, none⟩ = some (.int .i64 (t : Int)) ∧ w'.cell? ⟨p5, 0, none⟩ = some (.slice A ps.length c)) (go_keep)
    (first | (go_at_call 30; refine HC.out.mono ?_; rintro e w' ⟨⟨b, met, rfl, hb, hS, hml, hM⟩, hB'⟩; have h3' := (World.cell?_of_block (w := w.drew) (hB'.block _ hl3)).trans h3; have h5' := (World.cell?_of_block (w := w.drew) (hB'.block _ hl5)).trans h5; have hlk := set_look hS (t : Int); have e4 : decide ((t : Int) ∈ ints met) = rbN ps k t := (by rw [← hM t, Bool.eq_iff_iff, decide_eq_true_iff, decide_eq_true_iff, mem_ints]); rw [e4] at hlk))
  all_goals
    go_wp2
    go_ret
    exact ⟨rfl, ⟨hB'.os, hB'.tape, hB'.output, hB'.size, hB'.block⟩⟩

theorem closed_MayReach : ∀ (args : Array Value) (W : World), (callFunc 33 args).run Tryd.prog W = .ok (.enter 33 args) W := fun _ _ => by kernel_rfl
set_option maxHeartbeats 400000 in
theorem MayReach_any (s : ByteArray) (t : Int) (w : World) (hm : Hid (HasM w)) (hs : s.size ≤ 1073741824) :
    Calls Tryd.prog 8 #[.string s, .int .i64 t] w fun e w' => RetI w.heap.size (mayN (cutL s.data.toList) t) e w' ∧ Below w.heap.size w w' := by
  obtain ⟨ps, HPS⟩ : ∃ ps, Hid (ps = cutL s.data.toList) := ⟨_, rfl⟩
  rw [← HPS.out]
  have hBe : Below w.heap.size w (w.alloc (.cells #[.int .i64 t] 3)) := (Below.refl _ _).alloc (Nat.le_refl _) _
  have HM := Lib.hid (hm.out.below hBe)
  have hbx : Blk (w.alloc (.cells #[.int .i64 t] 3)) w.heap.size 3 #[.int .i64 t] := Blk.new _ _ _
  have hze : (w.alloc (.cells #[.int .i64 t] 3)).heap.size = w.heap.size + 1 := alloc_size _ _
  by_cases h : stdN ps t = true
  · obtain ⟨hok, t, rfl, hlt⟩ := okSt_true (stdN_ok h)
    have hn5 := okN_le hok
    obtain ⟨N, HN, hN, hN32, hN0⟩ := wrap_two ps.length hn5
    have HOK := Lib.hid hok
    have HSD := Lib.hid h
    have HV := Lib.hid (mayN_yes h HN.out)
    clear h hok hlt
    go_enter Tryd.func8, Tryd.ntmps8
    go_wp2_with fail
    refine (IsSteady_any s _ _ HM hs).mono ?_
    rintro e w0 ⟨rfl, hB0⟩
    rw [← HPS.out, HSD.out]
    have hz0 := hB0.size
    have HBX := Lib.hid (hbx.keep hB0)
    have HB0 := Lib.hid (hBe.trans (hB0.mono (show w.heap.size ≤ _ by omega)))
    go_wp2_with fail
    refine (readNetwork_any s _ (Lib.hid (HM.out.below hB0)) hs).mono ?_
    rintro e w1 ⟨⟨A, k0, c, rfl, himp⟩, hB1⟩
    rw [← HPS.out] at himp ⊢
    obtain ⟨rfl, hc, hO⟩ := himp HOK.out
    rw [HOK.out]
    have hz1 := hB1.size
    have HR := Lib.hid hO.rd
    have h3 : w1.cell? ⟨w.heap.size, 0, none⟩ = some (.int .i64 (t : Int)) := ((HBX.out.keep hB1).cell 0).trans rfl
    have hBw1 : Below w.heap.size w w1 := HB0.out.trans (hB1.mono (by omega))
    clear hO himp hB1 hB0 hbx hBe
    have HX := Lib.hid (Blk.new w1 46 #[.slice A ps.length c])
    have hBn : Below w1.heap.size w1 (w1.alloc (.cells #[.slice A ps.length c] 46)) := (Below.refl _ _).alloc (Nat.le_refl _) _
    have HC : Hid (CloB (w1.alloc (.cells #[.slice A ps.length c] 46)) N 33 #[.pointer (some ⟨w1.heap.size, 0, none⟩), .pointer (some ⟨w.heap.size, 0, none⟩)] (fun k => rbN ps k t)) := Lib.hid (fun k wX hk hBX =>
      MayReach1_any A c _ _ k t N ps wX (((HX.out.keep hBX).cell 0).trans rfl) ((World.cell?_of_block (w := w1) ((hBX.block _ (by show w.heap.size < _; rw [alloc_size]; omega)).trans (hBn.block _ (by show w.heap.size < _; omega)))).trans h3) (Lib.hid (HR.out.below (hBn.trans (hBX.mono (by rw [alloc_size]; omega))))) HOK HN hk)
    go_wp2_with fail
    refine (which_any _ _ _ N _ _ _ _ hn5 HN closed_MayReach HC).mono ?_
    rintro e w2 ⟨⟨A2, c2, rfl, hc2, hO2⟩, hB2⟩
    go_wp2
    go_ret
    exact ⟨⟨A2, c2, by rw [HV.out]; rfl, by rw [HV.out]; exact hc2, by rw [HV.out]; exact hO2.mono (by rw [alloc_size]; omega)⟩, hBw1.trans ((hBn.trans (hB2.mono (by rw [alloc_size]; omega))).mono (by omega))⟩
  · have HSD : Hid (stdN ps t = false) := Lib.hid (by simpa using h)
    have HV := Lib.hid (mayN_no HSD.out)
    clear h
    go_enter Tryd.func8, Tryd.ntmps8
    go_wp2_with fail
    refine (IsSteady_any s _ _ HM hs).mono ?_
    rintro e w0 ⟨rfl, hB0⟩
    rw [← HPS.out, HSD.out]
    go_wp2
    go_ret
    exact ⟨⟨none, 0, by rw [HV.out]; rfl, by rw [HV.out]; exact Nat.le_refl _, by rw [HV.out]; exact Own.nil _ _ _⟩, hBe.trans (hB0.mono (by omega))⟩

theorem all_take {p : Nat → Bool} {l : List Nat} {i a : Nat} (h : l[i]? = some a) : ((l.take i).all p = true) → (p a = true) → (l.take (i + 1)).all p = true := by
  intro h1 h2
  rw [List.take_add_one, h, List.all_append, h1]
  simp [h2]
theorem all_false {p : Nat → Bool} {l : List Nat} {i a : Nat} (h : l[i]? = some a) (h2 : p a = false) : l.all p = false := by
  rw [List.all_eq_false]
  exact ⟨a, List.mem_of_getElem? h, by simp [h2]⟩
theorem sel_contains {rb : Nat → Nat → Bool} {N a t : Nat} (ht : t < N) : (ints (sel N (rb a))).contains (t : Int) = rb a t := by
  rw [Bool.eq_iff_iff, List.contains_iff_mem, mem_ints, mem_sel]
  exact ⟨fun h => h.2, fun h => ⟨ht, h⟩⟩
set_option maxHeartbeats 1000000 in
theorem MustReach1_any (A : Option Addr) (c p5 p3 k t N : Nat) (ps : List (List UInt8)) (w : World) (h5 : w.cell? ⟨p5, 0, none⟩ = some (.slice A ps.length c)) (h3 : w.cell? ⟨p3, 0, none⟩ = some (.int .i64 (t : Int)))
    (hx : Hid (Rd w A (netL ps))) (hok : Hid (okN ps = true)) (HN : Hid (N = 2 ^ ps.length)) (hk : k < N) (ht : t < N) :
    Calls Tryd.prog 29 #[.int .i64 (k : Int), .pointer (some ⟨p5, 0, none⟩), .pointer (some ⟨p3, 0, none⟩)] w fun e w' => e = .returned (.bool ((atts (rbN ps) N N).all fun a => rbN ps k a == rbN ps a t)) ∧ Below w.heap.size w w' := by
  have hl3 : p3 < w.heap.size := World.block_lt_of_cell? w _ h3
  have hl5 : p5 < w.heap.size := World.block_lt_of_cell? w _ h5
  have hN32 : N ≤ 32 := by rw [HN.out]; exact two_le _ (okN_le hok.out)
  have HRB := Lib.hid (rbN_rb hok.out HN.out)
  obtain ⟨M, HM⟩ : ∃ M, Hid (M = (atts (rbN ps) N N).length) := ⟨_, rfl⟩
  have hM32 : M ≤ 32 := by rw [HM.out]; exact Nat.le_trans (atts_le _ _ _) hN32
  have HME : Hid ((attTo (rbN ps) N N).length = M) := Lib.hid (by rw [HM.out, attTo_atts])
  obtain ⟨P, HP⟩ : ∃ P : Nat → Bool, Hid (P = fun a => rbN ps k a == rbN ps a t) := ⟨_, rfl⟩
  rw [← HP.out]
  go_enter Tryd.func29, Tryd.ntmps29
  go_wp2_with fail
  refine (reach_any A c k N ps w hx hok HN hk).mono ?_
  rintro e w1 ⟨⟨b, met, rfl, hb, hS, hml, hMb⟩, hB1⟩
  have hz1 := hB1.size
  have HMB := Lib.hid hMb
  have h31 := (World.cell?_of_block (w := w) (a := ⟨p3, 0, none⟩) (hB1.block _ hl3)).trans h3
  have h51 := (World.cell?_of_block (w := w) (a := ⟨p5, 0, none⟩) (hB1.block _ hl5)).trans h5
  go_wp2_with fail
  refine (attractors_any A c N ps w1 (Lib.hid (hx.out.below hB1)) hok HN).mono ?_
  rintro e w2 ⟨⟨A2, c2, gs, ys, rfl, hc2, hO2, hL2⟩, hB2⟩
  rw [HME.out] at hc2 hL2 ⊢
  have HO2 := Lib.hid (And.intro hO2 hL2)
  have HS2 := Lib.hid (hS.below hB2)
  have h32 := (World.cell?_of_block (w := w1) (a := ⟨p3, 0, none⟩) (hB2.block _ (by show p3 < _; omega))).trans h31
  have HB2 := Lib.hid (hB1.trans (hB2.mono hz1))
  clear hS hml hMb hO2 hL2 hB1 hB2 h31 h51 h3 h5
  go_wp2_with fail
  go_loopw [14] (fun q wr => ∃ i n : Nat, i ≤ M ∧ q = .int .i64 i ∧ Hid (((atts (rbN ps) N N).take i).all P = true) ∧ wr = w2.drewN n) (fun q _ => M - (intOf q).toNat)
  case atStart => exact ⟨0, 0, Nat.zero_le _, rfl, Lib.hid rfl, rfl⟩
  case round =>
    obtain ⟨i, n, hi, rfl, HAL, rfl⟩ := hrel
    by_cases hlt : i < M
    · obtain ⟨a, HA⟩ : ∃ a, Hid ((atts (rbN ps) N N)[i]? = some a) := ⟨_, List.getElem?_eq_getElem (by rw [← HM.out]; exact hlt)⟩
      obtain ⟨g0, o0, g, off, ca, rfl, hg0, hg1, hcl, hla, hl0, hce, hOa⟩ := att_cells (v := .slice A2 M c2) (c := c2) HRB.out HO2.out.1 HO2.out.2 HA.out
      obtain ⟨haN, _⟩ := attTo_get HRB.out HA.out
      have hn32 : (ints (sel N (rbN ps a))).length ≤ 32 := by rw [ints_length]; have := sel_len N (rbN ps a); omega
      have HCT : Hid (∀ n, Calls Tryd.prog 32 #[.slice (some ⟨g, off, none⟩) (ints (sel N (rbN ps a))).length ca, .int .i64 (t : Int)] (w2.drewN n) fun e w' => e = .returned (.bool (rbN ps a t)) ∧ w2.drewN n = w') := Lib.hid (fun n => by
        refine (Tryd.slices_Contains_int g off _ ca (ints (sel N (rbN ps a))) (t : Int) (w2.drewN n) (Nat.le_refl _) (by omega) (fun j hj => ?_)).mono ?_
        · show w2.cell? _ = _
          refine (hOa.cell (k := j) ?_).1
          rw [List.getElem?_map, List.getD_eq_getElem?_getD, List.getElem?_eq_getElem hj]; rfl
        · rintro e w' ⟨rfl, rfl⟩
          exact ⟨by rw [List.take_length, sel_contains ht], rfl⟩)
      obtain ⟨n1, HN1⟩ : ∃ n, Hid (n = (ints (sel N (rbN ps a))).length) := ⟨_, rfl⟩
      rw [← HN1.out] at hcl hla hl0 hn32 HCT
      have hmem : decide ((a : Int) ∈ ints met) = rbN ps k a := by rw [← HMB.out a, Bool.eq_iff_iff, decide_eq_true_iff, decide_eq_true_iff, mem_ints]
      have hlk : ∀ m, (Instr.lookup 50 (.map (some b)) (.int .i64 (a : Int)) false).run Tryd.prog (w2.drewN m) = .ok (.bool (rbN ps k a)) (w2.drewN m) := fun m => by
        rw [← hmem]
        exact set_look (w := w2.drewN m) HS2.out (a : Int)
      have HPA : Hid (P a = (rbN ps k a == rbN ps a t)) := Lib.hid (by rw [HP.out])
      clear hmem hOa
      cases hp1 : rbN ps k a <;> cases hp2 : rbN ps a t
      all_goals
        rw [hp1] at hlk
        rw [hp1, hp2] at HPA
        rw [hp2] at HCT
        clear hp1 hp2
        go_wp2_with fail
        go_quiet (first | (go_at_call 32; first | exact quiet_left (HCT.out _) | exact quiet_add_left (HCT.out _)))
        go_wp2_with fail
        first
        | (go_roundw
           case rel => exact ⟨i + 1, _, by omega, by go_num, Lib.hid (all_take HA.out HAL.out (by rw [HPA.out]; rfl)), rfl⟩
           case measure => simp [intOf]; omega)
        | (go_ret
           exact ⟨by rw [all_false HA.out (by rw [HPA.out]; rfl)]; rfl, HB2.out.trans ((drewN_below _ _).trans (drewN_below _ _))⟩)
    · have hie : i = M := by omega
      have HTE : Hid ((atts (rbN ps) N N).all P = true) := Lib.hid (by
        have := HAL.out
        rw [List.take_of_length_le (by rw [hie, HM.out]; exact Nat.le_refl _)] at this
        exact this)
      go_wp2
      go_ret
      exact ⟨by rw [HTE.out]; rfl, HB2.out.trans (drewN_below _ _)⟩

theorem closed_MustReach : ∀ (args : Array Value) (W : World), (callFunc 29 args).run Tryd.prog W = .ok (.enter 29 args) W := fun _ _ => by kernel_rfl
set_option maxHeartbeats 400000 in
theorem MustReach_any (s : ByteArray) (t : Int) (w : World) (hm : Hid (HasM w)) (hs : s.size ≤ 1073741824) :
    Calls Tryd.prog 7 #[.string s, .int .i64 t] w fun e w' => RetI w.heap.size (mstN (cutL s.data.toList) t) e w' ∧ Below w.heap.size w w' := by
  obtain ⟨ps, HPS⟩ : ∃ ps, Hid (ps = cutL s.data.toList) := ⟨_, rfl⟩
  rw [← HPS.out]
  have hBe : Below w.heap.size w (w.alloc (.cells #[.int .i64 t] 3)) := (Below.refl _ _).alloc (Nat.le_refl _) _
  have HM := Lib.hid (hm.out.below hBe)
  have hbx : Blk (w.alloc (.cells #[.int .i64 t] 3)) w.heap.size 3 #[.int .i64 t] := Blk.new _ _ _
  have hze : (w.alloc (.cells #[.int .i64 t] 3)).heap.size = w.heap.size + 1 := alloc_size _ _
  by_cases h : stdN ps t = true
  · obtain ⟨hok, t, rfl, hlt⟩ := okSt_true (stdN_ok h)
    have hn5 := okN_le hok
    obtain ⟨N, HN, hN, hN32, hN0⟩ := wrap_two ps.length hn5
    have HOK := Lib.hid hok
    have htN : t < N := by rw [HN.out]; exact hlt
    have HSD := Lib.hid h
    have HV := Lib.hid (mstN_yes h HN.out)
    clear h hok hlt
    go_enter Tryd.func7, Tryd.ntmps7
    go_wp2_with fail
    refine (IsSteady_any s _ _ HM hs).mono ?_
    rintro e w0 ⟨rfl, hB0⟩
    rw [← HPS.out, HSD.out]
    have hz0 := hB0.size
    have HBX := Lib.hid (hbx.keep hB0)
    have HB0 := Lib.hid (hBe.trans (hB0.mono (show w.heap.size ≤ _ by omega)))
    go_wp2_with fail
    refine (readNetwork_any s _ (Lib.hid (HM.out.below hB0)) hs).mono ?_
    rintro e w1 ⟨⟨A, k0, c, rfl, himp⟩, hB1⟩
    rw [← HPS.out] at himp ⊢
    obtain ⟨rfl, hc, hO⟩ := himp HOK.out
    rw [HOK.out]
    have hz1 := hB1.size
    have HR := Lib.hid hO.rd
    have h3 : w1.cell? ⟨w.heap.size, 0, none⟩ = some (.int .i64 (t : Int)) := ((HBX.out.keep hB1).cell 0).trans rfl
    have hBw1 : Below w.heap.size w w1 := HB0.out.trans (hB1.mono (by omega))
    clear hO himp hB1 hB0 hbx hBe
    have HX := Lib.hid (Blk.new w1 46 #[.slice A ps.length c])
    have hBn : Below w1.heap.size w1 (w1.alloc (.cells #[.slice A ps.length c] 46)) := (Below.refl _ _).alloc (Nat.le_refl _) _
    have HC : Hid (CloB (w1.alloc (.cells #[.slice A ps.length c] 46)) N 29 #[.pointer (some ⟨w1.heap.size, 0, none⟩), .pointer (some ⟨w.heap.size, 0, none⟩)] (fun k => (atts (rbN ps) N N).all fun a => rbN ps k a == rbN ps a t)) := Lib.hid (fun k wX hk hBX =>
      MustReach1_any A c _ _ k t N ps wX (((HX.out.keep hBX).cell 0).trans rfl) ((World.cell?_of_block (w := w1) ((hBX.block _ (by show w.heap.size < _; rw [alloc_size]; omega)).trans (hBn.block _ (by show w.heap.size < _; omega)))).trans h3) (Lib.hid (HR.out.below (hBn.trans (hBX.mono (by rw [alloc_size]; omega))))) HOK HN hk htN)
    go_wp2_with fail
    refine (which_any _ _ _ N _ _ _ _ hn5 HN closed_MustReach HC).mono ?_
    rintro e w2 ⟨⟨A2, c2, rfl, hc2, hO2⟩, hB2⟩
    go_wp2
    go_ret
    exact ⟨⟨A2, c2, by rw [HV.out]; rfl, by rw [HV.out]; exact hc2, by rw [HV.out]; exact hO2.mono (by rw [alloc_size]; omega)⟩, hBw1.trans ((hBn.trans (hB2.mono (by rw [alloc_size]; omega))).mono (by omega))⟩
  · have HSD : Hid (stdN ps t = false) := Lib.hid (by simpa using h)
    have HV := Lib.hid (mstN_no HSD.out)
    clear h
    go_enter Tryd.func7, Tryd.ntmps7
    go_wp2_with fail
    refine (IsSteady_any s _ _ HM hs).mono ?_
    rintro e w0 ⟨rfl, hB0⟩
    rw [← HPS.out, HSD.out]
    go_wp2
    go_ret
    exact ⟨⟨none, 0, by rw [HV.out]; rfl, by rw [HV.out]; exact Nat.le_refl _, by rw [HV.out]; exact Own.nil _ _ _⟩, hBe.trans (hB0.mono (by omega))⟩

end Go.Proofs.YtfkdameegljkeaaDoor

/- The walk of the law FnMust. Printed by wip/mkm.py. -/
namespace Go.Proofs.YtfkdameegljkeaaDoor
open Go.RowKit
set_option linter.unusedVariables false

theorem sel_get {p : Nat → Bool} {t : Nat} : ∀ {N : Nat}, t < N → p t = true → (sel N p)[(sel t p).length]? = some t
  | 0, h, _ => by omega
  | N + 1, h, hp => by
    by_cases e : t = N
    · subst e; rw [sel_yes hp, List.getElem?_append_right (Nat.le_refl _), Nat.sub_self]; rfl
    · have ih := sel_get (p := p) (t := t) (N := N) (by omega) hp
      by_cases hN : p N = true
      · rw [sel_yes hN, List.getElem?_append_left (List.getElem?_eq_some_iff.1 ih).1]; exact ih
      · rw [sel_no (by simpa using hN)]; exact ih
/-- the place of a state in an ascending list, while its states are run through -/
theorem idx_at {p : Nat → Bool} {N t : Nat} (ht : t < N) : (p t = true ∧ (ints (sel N p))[(sel t p).length]? = some (t : Int) ∧ (sel (t + 1) p).length = (sel t p).length + 1) ∨
    (p t = false ∧ (sel (t + 1) p).length = (sel t p).length ∧ ((ints (sel N p)).length ≤ (sel t p).length ∨ ∃ y : Nat, (ints (sel N p))[(sel t p).length]? = some (y : Int) ∧ y ≠ t)) := by
  cases hp : p t
  · refine .inr ⟨rfl, by rw [sel_no hp], ?_⟩
    by_cases hl : (ints (sel N p)).length ≤ (sel t p).length
    · exact .inl hl
    · have hl2 : (sel t p).length < (sel N p).length := by rw [ints_length] at hl; omega
      refine .inr ⟨(sel N p)[(sel t p).length], by rw [ints, List.getElem?_map, List.getElem?_eq_getElem hl2]; rfl, fun e => ?_⟩
      have := (sel_mem.1 (List.getElem_mem hl2)).2
      rw [e, hp] at this; cases this
  · refine .inl ⟨rfl, ?_, by rw [sel_yes hp, List.length_append]; rfl⟩
    rw [ints, List.getElem?_map, sel_get ht hp]; rfl
/-- a state must lead there if it may and has one outcome alone -/
theorem must_may {rb : Nat → Nat → Bool} {N s k : Nat} (h : RB rb N) (hs : s < N) (hk : k < N) (h1 : std rb N s = true) : ((atts rb N N).all fun a => rb k a == rb a s) = (rb k s && (outs rb N k).length == 1) := by
  rw [← must_iff h hs hk h1, may_iff h hs hk h1]
theorem must_ge {rb : Nat → Nat → Bool} {N s : Nat} (h : RB rb N) (hs : s < N) (h1 : std rb N s = true) : (sel N (rb s)).length ≤ (sel N fun k => (atts rb N N).all fun a => rb k a == rb a s).length := by
  refine sel_ge (List.nodup_range.filter _) fun x hx => ?_
  obtain ⟨hxN, hsx⟩ := sel_mem.1 hx
  have hst := std_to h hs h1 hsx
  refine ⟨hxN, ?_⟩
  show ((atts rb N N).all fun a => rb x a == rb a s) = true
  rw [must_may h hs hxN h1, std_back h hs h1 hsx, outs_std h hxN hst]; rfl

set_option maxHeartbeats 4000000 in
set_option maxRecDepth 100000 in
theorem fnMust_walk (a0 : Option Addr) (len0 cap0 : Nat) (z0 : List Int) (w : World) (hm : Hid (HasM w)) (w0 : IsRow .u8 w a0 len0 cap0 z0) :
    Calls Tryd.prog 3 #[.slice a0 len0 cap0] w fun e w' => e = .returned (.bool true) ∧ Below w.heap.size w w' := by
  by_cases h0 : 1048576 < len0
  · go_enter Tryd.func3, Tryd.ntmps3
    go_wp2
    go_ret
    exact ⟨rfl, Below.refl _ _⟩
  · obtain ⟨bs, hbl, hrd, hwf, hcap, hmax⟩ := w0.rdk
    unfold maxLen at hmax
    have HRD := Lib.hid hrd
    have HWF := Lib.hid (fun x hx => wf_u8 (hwf x hx))
    have HBL := Lib.hid hbl.symm
    clear hbl hrd hwf w0
    go_enter Tryd.func3, Tryd.ntmps3
    go_wp2_with fail
    refine (DrawMustReach_any _ _ _ _ _ HBL.out hcap (by omega) HRD HWF).mono ?_
    rintro e W1 ⟨⟨t, s, rfl, ht, hs1, hs2⟩, hB1⟩
    obtain ⟨ps, HPS⟩ : ∃ ps, Hid (ps = cutL t.data.toList) := ⟨_, rfl⟩
    have HS : Hid (LawW w W1 []) := Lib.hid ⟨hm.out.below hB1, hB1, by simp⟩
    clear hB1 h0 hm HRD HWF HBL hcap hmax
    obtain ⟨L, HL⟩ : ∃ L, Hid (L = mayN ps s) := ⟨_, Lib.hid rfl⟩
    obtain ⟨M, HM⟩ : ∃ M, Hid (M = mstN ps s) := ⟨_, Lib.hid rfl⟩
    by_cases hst : stdN ps s = true
    · have HB := Lib.hid hst
      have hok := stdN_ok hst
      obtain ⟨HOK, N, s, rfl, HN, hN32, hN0, hsN, HOKS, hfN⟩ := st_open hok
      obtain ⟨N', HN', hNw, _, _⟩ := wrap_two ps.length (okN_le HOK.out)
      have hn5 := okN_le HOK.out
      have hNN : N' = N := by rw [HN'.out, HN.out]
      subst hNN
      have HRB := Lib.hid (rbN_rb HOK.out HN.out)
      have hsd : std (rbN ps) N' s = true := by rw [← stdN_yes hok HN.out]; exact hst
      have HSZ : Hid (szN ps = (ps.length : Int)) := Lib.hid (by rw [szN, if_pos HOK.out])
      obtain ⟨p, HP⟩ : ∃ p : Nat → Bool, Hid (p = fun k => rbN ps k s) := ⟨_, Lib.hid rfl⟩
      obtain ⟨q, HQ⟩ : ∃ q : Nat → Bool, Hid (q = fun k => (atts (rbN ps) N' N').all fun a => rbN ps k a == rbN ps a s) := ⟨_, Lib.hid rfl⟩
      have eL : L = ints (sel N' p) := by rw [HL.out, mayN_yes hst HN.out, HP.out]
      have eM : M = ints (sel N' q) := by rw [HM.out, mstN_yes hst HN.out, HQ.out]
      have hLl : L.length ≤ 1000000 := by rw [eL, ints_length]; have := sel_len N' p; omega
      have hMl : M.length ≤ 1000000 := by rw [eM, ints_length]; have := sel_len N' q; omega
      have HQP : Hid (∀ k, k < N' → q k = (p k && (outs (rbN ps) N' k).length == 1)) := Lib.hid fun k hk => by
        rw [HQ.out, HP.out]; exact must_may HRB.out hsN hk hsd
      obtain ⟨JL, HJL⟩ : ∃ J : Nat → Nat, Hid (J = fun k => (sel k p).length) := ⟨_, Lib.hid rfl⟩
      obtain ⟨KM, HKM⟩ : ∃ J : Nat → Nat, Hid (J = fun k => (sel k q).length) := ⟨_, Lib.hid rfl⟩
      have HIL : Hid (∀ k, k < N' → (p k = true ∧ L[JL k]? = some (k : Int) ∧ JL (k + 1) = JL k + 1) ∨ (p k = false ∧ JL (k + 1) = JL k ∧ (L.length ≤ JL k ∨ ∃ y : Nat, L[JL k]? = some (y : Int) ∧ y ≠ k))) := Lib.hid fun k hk => by
        rw [eL, HJL.out]; exact idx_at hk
      have HIM : Hid (∀ k, k < N' → (q k = true ∧ M[KM k]? = some (k : Int) ∧ KM (k + 1) = KM k + 1) ∨ (q k = false ∧ KM (k + 1) = KM k ∧ (M.length ≤ KM k ∨ ∃ y : Nat, M[KM k]? = some (y : Int) ∧ y ≠ k))) := Lib.hid fun k hk => by
        rw [eM, HKM.out]; exact idx_at hk
      have hJ0 : JL 0 = 0 := by rw [HJL.out]; rfl
      have hK0 : KM 0 = 0 := by rw [HKM.out]; rfl
      have hJN : JL N' = L.length := by rw [HJL.out, eL, ints_length]
      have hKN : KM N' = M.length := by rw [HKM.out, eM, ints_length]
      have HJ32 : Hid (∀ k, k ≤ N' → JL k ≤ 32) := Lib.hid fun k hk => by rw [HJL.out]; exact Nat.le_trans (sel_len _ _) (by omega)
      have HK32 : Hid (∀ k, k ≤ N' → KM k ≤ 32) := Lib.hid fun k hk => by rw [HKM.out]; exact Nat.le_trans (sel_len _ _) (by omega)
      have HCN : Hid (∀ k, k < N' → canN ps (k : Int) (s : Int) = p k) := Lib.hid fun k hk => by rw [canN_yes (HOKS.out k hk) HN.out hsN, HP.out]
      have HON : Hid (∀ k, k < N' → outN ps (k : Int) = ints (outs (rbN ps) N' k)) := Lib.hid fun k hk => outN_yes (HOKS.out k hk) HN.out
      obtain ⟨R, HR⟩ : ∃ R, Hid (R = reaN ps (s : Int)) := ⟨_, Lib.hid rfl⟩
      have hRM : R.length ≤ M.length := by rw [HR.out, reaN_yes hok HN.out, eM, ints_length, ints_length, HQ.out]; exact must_ge HRB.out hsN hsd
      have hR0 : 0 < R.length := by
        rw [HR.out, reaN_yes hok HN.out, ints_length]
        exact List.length_pos_of_mem (sel_mem.2 ⟨hsN, HRB.out.refl s hsN⟩)
      have hL0 : 0 < L.length := by
        rw [eL, ints_length]
        exact List.length_pos_of_mem (sel_mem.2 ⟨hsN, by rw [HP.out]; exact HRB.out.refl s hsN⟩)
      have hjj : ((L.length : Int) == (L.length : Int)) = true := beq_self_eq_true _
      have hkk : ((M.length : Int) == (M.length : Int)) = true := beq_self_eq_true _
      clear eL eM hok hsd hst hs1 hs2
      go_wp2_with (first
        | (go_at_call 7; refine (MustReach_any t _ _ (lw_m HS) (by omega)).mono ?_; rw [← HPS.out, ← HM.out]; rintro e V ⟨⟨AM, c2, rfl, hc2, hO2⟩, hV⟩; replace HS := lw_add (lw_step HS hV) hO2.rd; clear hV hO2)
        | (go_at_call 8; refine (MayReach_any t _ _ (lw_m HS) (by omega)).mono ?_; rw [← HPS.out, ← HL.out]; rintro e V ⟨⟨AL, c3, rfl, hc3, hO2⟩, hV⟩; replace HS := lw_add (lw_step HS hV) hO2.rd; clear hV hO2)
        | (go_at_call 10; refine (sMustReach_any t _ _ (by omega)).mono ?_; rw [← HPS.out, ← HM.out]; rintro e V ⟨⟨A8, c4, rfl, hc4, hO2⟩, hV⟩; replace HS := lw_add (lw_step HS hV) hO2.rd; clear hV hO2)
        | (go_at_call 11; refine (sMayReach_any t _ _ (by omega)).mono ?_; rw [← HPS.out, ← HL.out]; rintro e V ⟨⟨A9, c5, rfl, hc5, hO2⟩, hV⟩; replace HS := lw_add (lw_step HS hV) hO2.rd; clear hV hO2)
        | (have hneed := mk3; go_at_call 9; refine (bnSame_any _ _ _ _ L _ (lw_rd HS 4 rfl) (lw_rd HS 0 rfl) (by omega)).mono ?_; rintro e V ⟨rfl, nB, rfl⟩; replace HS := lw_drew HS nB)
        | (have hneed := mk2; go_at_call 9; refine (bnSame_any _ _ _ _ M _ (lw_rd HS 4 rfl) (lw_rd HS 0 rfl) (by omega)).mono ?_; rintro e V ⟨rfl, nB, rfl⟩; replace HS := lw_drew HS nB; have mk3 := True.intro)
        | (have hneed := mk1; go_at_call 9; refine (bnSame_any _ _ _ _ L _ (lw_rd HS 2 rfl) (lw_rd HS 0 rfl) (by omega)).mono ?_; rintro e V ⟨rfl, nB, rfl⟩; replace HS := lw_drew HS nB; have mk2 := True.intro)
        | (go_at_call 9; refine (bnSame_any _ _ _ _ M _ (lw_rd HS 2 rfl) (lw_rd HS 0 rfl) (by omega)).mono ?_; rintro e V ⟨rfl, nB, rfl⟩; replace HS := lw_drew HS nB; have mk1 := True.intro)
        | (go_at_call 12; refine (IsSteady_any t _ _ (lw_m HS) (by omega)).mono ?_; rw [← HPS.out]; rintro e V ⟨rfl, hV⟩; replace HS := lw_step HS hV; clear hV; rw [HB.out]))
      replace HS := lw_cut HS 2
      obtain ⟨g, off, rfl⟩ := lw_form HS 0 rfl (by omega)
      obtain ⟨g2, off2, rfl⟩ := lw_form HS 1 rfl (by omega)
      go_loopw [7, 8, 9] (fun a b i wr => ∃ k : Nat, k ≤ N' ∧ a = .int .i64 (JL k : Nat) ∧ b = .int .i64 (KM k : Nat) ∧ i = .int .i64 k ∧ Hid (LawW w wr [(some ⟨g, off, none⟩, L), (some ⟨g2, off2, none⟩, M)])) (fun _ _ i _ => N' - (intOf i).toNat)
      case atStart => exact ⟨0, Nat.zero_le _, by rw [hJ0]; rfl, by rw [hK0]; rfl, rfl, HS⟩
      case round =>
        clear HS
        obtain ⟨k, hk, rfl, rfl, rfl, HS⟩ := hrel
        have hj32 := HJ32.out k hk
        have hk32 := HK32.out k hk
        by_cases hlt : k < N'
        · have hL := HIL.out k hlt
          have hM := HIM.out k hlt
          have hqp := HQP.out k hlt
          have HCA := Lib.hid (HCN.out k hlt)
          obtain ⟨O, HO⟩ : ∃ O, Hid (O = outN ps (k : Int)) := ⟨_, Lib.hid rfl⟩
          have hOl : O.length = (outs (rbN ps) N' k).length := by rw [HO.out, HON.out k hlt, ints_length]
          obtain ⟨jj, HJJ⟩ : ∃ x, Hid (x = JL k) := ⟨_, Lib.hid rfl⟩
          obtain ⟨kk, HKK⟩ : ∃ x, Hid (x = KM k) := ⟨_, Lib.hid rfl⟩
          rw [← HJJ.out] at hL hj32 ⊢
          rw [← HKK.out] at hM hk32 ⊢
          rcases hL with ⟨hp, hL1, hJs⟩ | ⟨hp, hJs, hL1⟩
          · have HE1 := Lib.hid hL1
            have hjl : jj < L.length := (List.getElem?_eq_some_iff.1 hL1).1
            have HJS := Lib.hid hJs
            rw [hp] at HCA hqp
            rw [Bool.true_and] at hqp
            rcases hM with ⟨hq, hM1, hKs⟩ | ⟨hq, hKs, hM1⟩
            · have HE2 := Lib.hid hM1
              have hkl : kk < M.length := (List.getElem?_eq_some_iff.1 hM1).1
              have HKS := Lib.hid hKs
              rw [hq] at hqp
              have ho1 : ((O.length : Int) == 1) = true := by rw [beq_iff_eq, hOl]; have := beq_iff_eq.1 hqp.symm; omega
              have htt : ((k : Int) == (k : Int)) = true := beq_self_eq_true _
              clear hp hq hL1 hM1 hJs hKs hqp hOl
              have hc1 := lw_cell HS 0 rfl HE1
              have hc2 := lw_cell HS 1 rfl HE2
              go_wp2_with (first
                | (go_at_call 13; refine (SizeOf_any t  _ (lw_m HS) (by omega)).mono ?_; rw [← HPS.out]; rintro e V ⟨rfl, hV⟩; replace HS := lw_step HS hV; clear hV; rw [HSZ.out]; have hc1 := lw_cell HS 0 rfl HE1; have hc2 := lw_cell HS 1 rfl HE2)
                | (go_at_call 14; refine (CanReach_any t _ _ _ (lw_m HS) (by omega)).mono ?_; rw [← HPS.out]; rintro e V ⟨rfl, hV⟩; replace HS := lw_step HS hV; clear hV; rw [HCA.out]; have hc1 := lw_cell HS 0 rfl HE1; have hc2 := lw_cell HS 1 rfl HE2)
                | (go_at_call 15; refine (OutcomesOf_any t _ _ (lw_m HS) (by omega)).mono ?_; rw [← HPS.out, ← HO.out]; rintro e V ⟨⟨A7, c7, rfl, hc7, hO2⟩, hV⟩; replace HS := lw_cut (lw_add (lw_step HS hV) hO2.rd) 1; clear hV hO2; have hc1 := lw_cell HS 0 rfl HE1; have hc2 := lw_cell HS 1 rfl HE2))
              go_roundw
              case rel => exact ⟨k + 1, by omega, by rw [HJS.out] <;> go_num, by rw [HKS.out] <;> go_num, by go_num, HS⟩
              case measure => simp [intOf]; omega
            · have HKS := Lib.hid hKs
              rw [hq] at hqp
              have ho1 : ((O.length : Int) == 1) = false := by rw [beq_eq_false_iff_ne, hOl]; have := beq_eq_false_iff_ne.1 hqp.symm; omega
              have htt : ((k : Int) == (k : Int)) = true := beq_self_eq_true _
              rcases hM1 with hM1 | ⟨y, hM1, hne⟩
              · clear hp hq hL1 hJs hKs hqp hOl
                have hc1 := lw_cell HS 0 rfl HE1
                go_wp2_with (first
                  | (go_at_call 13; refine (SizeOf_any t  _ (lw_m HS) (by omega)).mono ?_; rw [← HPS.out]; rintro e V ⟨rfl, hV⟩; replace HS := lw_step HS hV; clear hV; rw [HSZ.out]; have hc1 := lw_cell HS 0 rfl HE1)
                  | (go_at_call 14; refine (CanReach_any t _ _ _ (lw_m HS) (by omega)).mono ?_; rw [← HPS.out]; rintro e V ⟨rfl, hV⟩; replace HS := lw_step HS hV; clear hV; rw [HCA.out]; have hc1 := lw_cell HS 0 rfl HE1)
                  | (go_at_call 15; refine (OutcomesOf_any t _ _ (lw_m HS) (by omega)).mono ?_; rw [← HPS.out, ← HO.out]; rintro e V ⟨⟨A7, c7, rfl, hc7, hO2⟩, hV⟩; replace HS := lw_cut (lw_add (lw_step HS hV) hO2.rd) 1; clear hV hO2; have hc1 := lw_cell HS 0 rfl HE1))
                go_roundw
                case rel => exact ⟨k + 1, by omega, by rw [HJS.out] <;> go_num, by rw [HKS.out] <;> go_num, by go_num, HS⟩
                case measure => simp [intOf]; omega
              · have HE2 := Lib.hid hM1
                have hkl : kk < M.length := (List.getElem?_eq_some_iff.1 hM1).1
                have hyk : ((y : Int) == (k : Int)) = false := by rw [beq_eq_false_iff_ne]; omega
                clear hp hq hL1 hM1 hJs hKs hqp hOl
                have hc1 := lw_cell HS 0 rfl HE1
                have hc2 := lw_cell HS 1 rfl HE2
                go_wp2_with (first
                  | (go_at_call 13; refine (SizeOf_any t  _ (lw_m HS) (by omega)).mono ?_; rw [← HPS.out]; rintro e V ⟨rfl, hV⟩; replace HS := lw_step HS hV; clear hV; rw [HSZ.out]; have hc1 := lw_cell HS 0 rfl HE1; have hc2 := lw_cell HS 1 rfl HE2)
                  | (go_at_call 14; refine (CanReach_any t _ _ _ (lw_m HS) (by omega)).mono ?_; rw [← HPS.out]; rintro e V ⟨rfl, hV⟩; replace HS := lw_step HS hV; clear hV; rw [HCA.out]; have hc1 := lw_cell HS 0 rfl HE1; have hc2 := lw_cell HS 1 rfl HE2)
                  | (go_at_call 15; refine (OutcomesOf_any t _ _ (lw_m HS) (by omega)).mono ?_; rw [← HPS.out, ← HO.out]; rintro e V ⟨⟨A7, c7, rfl, hc7, hO2⟩, hV⟩; replace HS := lw_cut (lw_add (lw_step HS hV) hO2.rd) 1; clear hV hO2; have hc1 := lw_cell HS 0 rfl HE1; have hc2 := lw_cell HS 1 rfl HE2))
                go_roundw
                case rel => exact ⟨k + 1, by omega, by rw [HJS.out] <;> go_num, by rw [HKS.out] <;> go_num, by go_num, HS⟩
                case measure => simp [intOf]; omega
          · have HJS := Lib.hid hJs
            rw [hp] at HCA hqp
            rw [Bool.false_and] at hqp
            rcases hM with ⟨hq, _, _⟩ | ⟨hq, hKs, hM1⟩
            · rw [hq] at hqp; cases hqp
            · have HKS := Lib.hid hKs
              rcases hL1 with hL1 | ⟨z, hL1, hnz⟩
              · rcases hM1 with hM1 | ⟨y, hM1, hne⟩
                · clear hp hq hJs hKs hqp hOl
                  go_wp2_with (first
                    | (go_at_call 13; refine (SizeOf_any t  _ (lw_m HS) (by omega)).mono ?_; rw [← HPS.out]; rintro e V ⟨rfl, hV⟩; replace HS := lw_step HS hV; clear hV; rw [HSZ.out])
                    | (go_at_call 14; refine (CanReach_any t _ _ _ (lw_m HS) (by omega)).mono ?_; rw [← HPS.out]; rintro e V ⟨rfl, hV⟩; replace HS := lw_step HS hV; clear hV; rw [HCA.out])
                    | (go_at_call 15; refine (OutcomesOf_any t _ _ (lw_m HS) (by omega)).mono ?_; rw [← HPS.out, ← HO.out]; rintro e V ⟨⟨A7, c7, rfl, hc7, hO2⟩, hV⟩; replace HS := lw_cut (lw_add (lw_step HS hV) hO2.rd) 1; clear hV hO2))
                  go_roundw
                  case rel => exact ⟨k + 1, by omega, by rw [HJS.out] <;> go_num, by rw [HKS.out] <;> go_num, by go_num, HS⟩
                  case measure => simp [intOf]; omega
                · have HE2 := Lib.hid hM1
                  have hkl : kk < M.length := (List.getElem?_eq_some_iff.1 hM1).1
                  have hyk : ((y : Int) == (k : Int)) = false := by rw [beq_eq_false_iff_ne]; omega
                  clear hp hq hM1 hJs hKs hqp hOl
                  have hc2 := lw_cell HS 1 rfl HE2
                  go_wp2_with (first
                    | (go_at_call 13; refine (SizeOf_any t  _ (lw_m HS) (by omega)).mono ?_; rw [← HPS.out]; rintro e V ⟨rfl, hV⟩; replace HS := lw_step HS hV; clear hV; rw [HSZ.out]; have hc2 := lw_cell HS 1 rfl HE2)
                    | (go_at_call 14; refine (CanReach_any t _ _ _ (lw_m HS) (by omega)).mono ?_; rw [← HPS.out]; rintro e V ⟨rfl, hV⟩; replace HS := lw_step HS hV; clear hV; rw [HCA.out]; have hc2 := lw_cell HS 1 rfl HE2)
                    | (go_at_call 15; refine (OutcomesOf_any t _ _ (lw_m HS) (by omega)).mono ?_; rw [← HPS.out, ← HO.out]; rintro e V ⟨⟨A7, c7, rfl, hc7, hO2⟩, hV⟩; replace HS := lw_cut (lw_add (lw_step HS hV) hO2.rd) 1; clear hV hO2; have hc2 := lw_cell HS 1 rfl HE2))
                  go_roundw
                  case rel => exact ⟨k + 1, by omega, by rw [HJS.out] <;> go_num, by rw [HKS.out] <;> go_num, by go_num, HS⟩
                  case measure => simp [intOf]; omega
              · have HE1 := Lib.hid hL1
                have hjl : jj < L.length := (List.getElem?_eq_some_iff.1 hL1).1
                have hzk : ((z : Int) == (k : Int)) = false := by rw [beq_eq_false_iff_ne]; omega
                rcases hM1 with hM1 | ⟨y, hM1, hne⟩
                · clear hp hq hL1 hJs hKs hqp hOl
                  have hc1 := lw_cell HS 0 rfl HE1
                  go_wp2_with (first
                    | (go_at_call 13; refine (SizeOf_any t  _ (lw_m HS) (by omega)).mono ?_; rw [← HPS.out]; rintro e V ⟨rfl, hV⟩; replace HS := lw_step HS hV; clear hV; rw [HSZ.out]; have hc1 := lw_cell HS 0 rfl HE1)
                    | (go_at_call 14; refine (CanReach_any t _ _ _ (lw_m HS) (by omega)).mono ?_; rw [← HPS.out]; rintro e V ⟨rfl, hV⟩; replace HS := lw_step HS hV; clear hV; rw [HCA.out]; have hc1 := lw_cell HS 0 rfl HE1)
                    | (go_at_call 15; refine (OutcomesOf_any t _ _ (lw_m HS) (by omega)).mono ?_; rw [← HPS.out, ← HO.out]; rintro e V ⟨⟨A7, c7, rfl, hc7, hO2⟩, hV⟩; replace HS := lw_cut (lw_add (lw_step HS hV) hO2.rd) 1; clear hV hO2; have hc1 := lw_cell HS 0 rfl HE1))
                  go_roundw
                  case rel => exact ⟨k + 1, by omega, by rw [HJS.out] <;> go_num, by rw [HKS.out] <;> go_num, by go_num, HS⟩
                  case measure => simp [intOf]; omega
                · have HE2 := Lib.hid hM1
                  have hkl : kk < M.length := (List.getElem?_eq_some_iff.1 hM1).1
                  have hyk : ((y : Int) == (k : Int)) = false := by rw [beq_eq_false_iff_ne]; omega
                  clear hp hq hL1 hM1 hJs hKs hqp hOl
                  have hc1 := lw_cell HS 0 rfl HE1
                  have hc2 := lw_cell HS 1 rfl HE2
                  go_wp2_with (first
                    | (go_at_call 13; refine (SizeOf_any t  _ (lw_m HS) (by omega)).mono ?_; rw [← HPS.out]; rintro e V ⟨rfl, hV⟩; replace HS := lw_step HS hV; clear hV; rw [HSZ.out]; have hc1 := lw_cell HS 0 rfl HE1; have hc2 := lw_cell HS 1 rfl HE2)
                    | (go_at_call 14; refine (CanReach_any t _ _ _ (lw_m HS) (by omega)).mono ?_; rw [← HPS.out]; rintro e V ⟨rfl, hV⟩; replace HS := lw_step HS hV; clear hV; rw [HCA.out]; have hc1 := lw_cell HS 0 rfl HE1; have hc2 := lw_cell HS 1 rfl HE2)
                    | (go_at_call 15; refine (OutcomesOf_any t _ _ (lw_m HS) (by omega)).mono ?_; rw [← HPS.out, ← HO.out]; rintro e V ⟨⟨A7, c7, rfl, hc7, hO2⟩, hV⟩; replace HS := lw_cut (lw_add (lw_step HS hV) hO2.rd) 1; clear hV hO2; have hc1 := lw_cell HS 0 rfl HE1; have hc2 := lw_cell HS 1 rfl HE2))
                  go_roundw
                  case rel => exact ⟨k + 1, by omega, by rw [HJS.out] <;> go_num, by rw [HKS.out] <;> go_num, by go_num, HS⟩
                  case measure => simp [intOf]; omega
        · have hkn : k = N' := by omega
          subst hkn
          rw [hJN, hKN]
          go_wp2_with (first
            | (go_at_call 13; refine (SizeOf_any t  _ (lw_m HS) (by omega)).mono ?_; rw [← HPS.out]; rintro e V ⟨rfl, hV⟩; replace HS := lw_step HS hV; clear hV; rw [HSZ.out])
            | (go_at_call 16; refine (ReachableFrom_any t _ _ (lw_m HS) (by omega)).mono ?_; rw [← HPS.out, ← HR.out]; rintro e V ⟨⟨A2, c2, rfl, hc2, hO2⟩, hV⟩; replace HS := lw_add (lw_step HS hV) hO2.rd; clear hV hO2))
          go_ret
          exact ⟨rfl, HS.out.b⟩
    · have hst' : stdN ps s = false := by simpa using hst
      have HB := Lib.hid hst'
      have HL0 : Hid (L.length = 0) := Lib.hid (by rw [HL.out, mayN_no hst']; rfl)
      have HM0 : Hid (M.length = 0) := Lib.hid (by rw [HM.out, mstN_no hst']; rfl)
      have hLl : L.length ≤ 0 := by rw [HL0.out]; exact Nat.le_refl _
      have hMl : M.length ≤ 0 := by rw [HM0.out]; exact Nat.le_refl _
      have hl0 : ((L.length : Int) == 0) = true := by rw [HL0.out]; rfl
      have hm0 : ((M.length : Int) == 0) = true := by rw [HM0.out]; rfl
      clear hst hst'
      go_wp2_with (first
        | (go_at_call 7; refine (MustReach_any t _ _ (lw_m HS) (by omega)).mono ?_; rw [← HPS.out, ← HM.out]; rintro e V ⟨⟨AM, c2, rfl, hc2, hO2⟩, hV⟩; replace HS := lw_add (lw_step HS hV) hO2.rd; clear hV hO2)
        | (go_at_call 8; refine (MayReach_any t _ _ (lw_m HS) (by omega)).mono ?_; rw [← HPS.out, ← HL.out]; rintro e V ⟨⟨AL, c3, rfl, hc3, hO2⟩, hV⟩; replace HS := lw_add (lw_step HS hV) hO2.rd; clear hV hO2)
        | (go_at_call 10; refine (sMustReach_any t _ _ (by omega)).mono ?_; rw [← HPS.out, ← HM.out]; rintro e V ⟨⟨A8, c4, rfl, hc4, hO2⟩, hV⟩; replace HS := lw_add (lw_step HS hV) hO2.rd; clear hV hO2)
        | (go_at_call 11; refine (sMayReach_any t _ _ (by omega)).mono ?_; rw [← HPS.out, ← HL.out]; rintro e V ⟨⟨A9, c5, rfl, hc5, hO2⟩, hV⟩; replace HS := lw_add (lw_step HS hV) hO2.rd; clear hV hO2)
        | (have hneed := mk3; go_at_call 9; refine (bnSame_any _ _ _ _ L _ (lw_rd HS 4 rfl) (lw_rd HS 0 rfl) (by omega)).mono ?_; rintro e V ⟨rfl, nB, rfl⟩; replace HS := lw_drew HS nB)
        | (have hneed := mk2; go_at_call 9; refine (bnSame_any _ _ _ _ M _ (lw_rd HS 4 rfl) (lw_rd HS 0 rfl) (by omega)).mono ?_; rintro e V ⟨rfl, nB, rfl⟩; replace HS := lw_drew HS nB; have mk3 := True.intro)
        | (have hneed := mk1; go_at_call 9; refine (bnSame_any _ _ _ _ L _ (lw_rd HS 2 rfl) (lw_rd HS 0 rfl) (by omega)).mono ?_; rintro e V ⟨rfl, nB, rfl⟩; replace HS := lw_drew HS nB; have mk2 := True.intro)
        | (go_at_call 9; refine (bnSame_any _ _ _ _ M _ (lw_rd HS 2 rfl) (lw_rd HS 0 rfl) (by omega)).mono ?_; rintro e V ⟨rfl, nB, rfl⟩; replace HS := lw_drew HS nB; have mk1 := True.intro)
        | (go_at_call 12; refine (IsSteady_any t _ _ (lw_m HS) (by omega)).mono ?_; rw [← HPS.out]; rintro e V ⟨rfl, hV⟩; replace HS := lw_step HS hV; clear hV; rw [HB.out]))
      go_ret
      exact ⟨rfl, HS.out.b⟩

end Go.Proofs.YtfkdameegljkeaaDoor

