/- Walks: the outcomes of a state on both sides. -/
import Derived.Test.YtpehimjngofnkaaDoorProg
import Derived.WalkKit
import Derived.WalkSpells
import Derived.WalkLawsBesides
import Derived.Lib.Hide
import Derived.Deep.QuietTactic
import Derived.BigQuiet
import Derived.Carry
import Derived.Test.YtpehimjngofnkaaDoorG5
namespace Go.Proofs.YtpehimjngofnkaaDoor
open Go.RowKit
set_option linter.unusedVariables false

/-- the blocks from B on that were there are as they were, and none of them is the list v's own -/
structure Kp (B : Nat) (w1 wr : World) (v : Value) : Prop where
  k : ∀ g, B ≤ g → g < w1.heap.size → wr.heap[g]? = w1.heap[g]? ∧ v.ownBlock ≠ some g
  z : w1.heap.size ≤ wr.heap.size
theorem Kp.first {B : Nat} {w1 : World} {v : Value} (hv : ∀ g, v.ownBlock = some g → g < B) : Kp B w1 w1 v :=
  ⟨fun g hg _ => ⟨rfl, fun e => by have := hv g e; omega⟩, Nat.le_refl _⟩
theorem Kp.push {B : Nat} {w1 wr w' : World} {v v' : Value} (h : Kp B w1 wr v) (hz : wr.heap.size ≤ w'.heap.size)
    (hk : ∀ g, g < wr.heap.size → v.ownBlock ≠ some g → w'.heap[g]? = wr.heap[g]? ∧ v'.ownBlock ≠ some g) : Kp B w1 w' v' :=
  ⟨fun g hg hl => by
    have h1 := h.k g hg hl
    have h2 := hk g (Nat.lt_of_lt_of_le hl h.z) h1.2
    exact ⟨h2.1.trans h1.1, h2.2⟩, Nat.le_trans h.z hz⟩
theorem Kp.below {B : Nat} {w1 wr w' : World} {v : Value} (h : Kp B w1 wr v) (hb : Below wr.heap.size wr w') : Kp B w1 w' v :=
  ⟨fun g hg hl => ⟨(hb.block g (Nat.lt_of_lt_of_le hl h.z)).trans (h.k g hg hl).1, (h.k g hg hl).2⟩, Nat.le_trans h.z hb.size⟩
theorem Kp.own {B : Nat} {w1 wr : World} {v : Value} {A : Option Addr} {vs : List Value} (h : Kp B w1 wr v) (ho : Own w1 B A vs) : Own wr B A vs := by
  rcases ho with ho | ⟨g, off, hA, hB, hc⟩
  · exact .inl ho
  · refine .inr ⟨g, off, hA, hB, fun j u hj => ?_⟩
    have hl : g < w1.heap.size := World.block_lt_of_cell? w1 _ (hc j u hj).1
    have hb := (h.k g hB hl).1
    exact ⟨(World.cell?_of_block (w := w1) (a := ⟨g, off + j, none⟩) hb).trans (hc j u hj).1, (World.frozen?_of_block (w := w1) (a := ⟨g, off + j, none⟩) hb).trans (hc j u hj).2⟩
theorem Kp.set {B b : Nat} {w1 wr : World} {v : Value} {ks : List Int} (h : Kp B w1 wr v) (hs : SetAt w1 b ks) (hb : B ≤ b) : SetAt wr b ks := hs.blk (h.k b hb hs.lt).1
/-- the outcomes among the first i attractors -/
def outTo (rb : Nat → Nat → Bool) (N s i : Nat) : List Nat := ((atts rb N N).take i).filter (rb s)
theorem outTo_yes {rb : Nat → Nat → Bool} {N s i a : Nat} (h : (atts rb N N)[i]? = some a) (hr : rb s a = true) : ints (outTo rb N s (i + 1)) = ints (outTo rb N s i) ++ [((a : Nat) : Int)] := by
  rw [outTo, List.take_add_one, h, List.filter_append]
  simp [outTo, hr, ints]
theorem outTo_no {rb : Nat → Nat → Bool} {N s i a : Nat} (h : (atts rb N N)[i]? = some a) (hr : rb s a = false) : ints (outTo rb N s (i + 1)) = ints (outTo rb N s i) := by
  rw [outTo, List.take_add_one, h, List.filter_append]
  simp [outTo, hr, ints]
theorem outTo_all {rb : Nat → Nat → Bool} {N s i : Nat} (h : (atts rb N N).length ≤ i) : outTo rb N s i = outs rb N s := by rw [outTo, List.take_of_length_le h]; rfl
theorem outTo_len (rb : Nat → Nat → Bool) (N s i : Nat) : (outTo rb N s i).length ≤ i := Nat.le_trans (List.length_filter_le _ _) (List.length_take_le _ _)
theorem attTo_get {rb : Nat → Nat → Bool} {N i a : Nat} (h : RB rb N) (ha : (atts rb N N)[i]? = some a) : a < N ∧ att rb N a = true ∧ (attTo rb N N)[i]? = some (ints (sel N (rb a))) ∧ (ints (sel N (rb a)))[0]? = some (a : Int) := by
  obtain ⟨h1, h2⟩ := mem_atts.1 (List.mem_of_getElem? ha)
  refine ⟨h1, h2, ?_, att_head h h1 h2⟩
  rw [attTo, List.getElem?_map, ha]; rfl
theorem attTo_atts (rb : Nat → Nat → Bool) (N : Nat) : (attTo rb N N).length = (atts rb N N).length := by rw [attTo, List.length_map]
/-- what is read of a list of attractors: the slice of the i-th and its least state -/
theorem att_cells {w : World} {B c : Nat} {A : Option Addr} {gs : List Nat} {ys : List Value} {rb : Nat → Nat → Bool} {N i a : Nat} {v : Value} (h : RB rb N) (hO : Own w B A ys) (hL : LL w B v gs ys (attTo rb N N)) (ha : (atts rb N N)[i]? = some a) :
    ∃ g0 o0 g off c, A = some ⟨g0, o0, none⟩ ∧ B ≤ g0 ∧ B ≤ g ∧ w.cell? ⟨g0, o0 + i, none⟩ = some (.slice (some ⟨g, off, none⟩) (ints (sel N (rb a))).length c) ∧ (ints (sel N (rb a))).length ≤ c ∧ 0 < (ints (sel N (rb a))).length ∧ w.cell? ⟨g, off, none⟩ = some (.int .i64 (a : Int)) ∧ Own w B (some ⟨g, off, none⟩) ((ints (sel N (rb a))).map (Value.int .i64)) := by
  obtain ⟨h1, h2, h3, h4⟩ := attTo_get h ha
  obtain ⟨g, off, c, k1, k2, k3, k4⟩ := hL.at_ i _ h3
  obtain ⟨g0, o0, hA, hB, hc, _⟩ := hO.at_ k2
  have h5 := k4.cell (k := 0) (v := .int .i64 (a : Int)) (by rw [List.getElem?_map, h4]; rfl)
  rw [Nat.add_zero] at h5
  exact ⟨g0, o0, g, off, c, hA, hB, (hL.lt g (List.mem_of_getElem? k1)).1, hc, k3, (List.getElem?_eq_some_iff.1 h4).1, h5.1, k4⟩
theorem Kp.ll {B : Nat} {w1 wr : World} {v u : Value} {gs : List Nat} {ys : List Value} {xss : List (List Int)} (h : Kp B w1 wr v) (hl : LL w1 B u gs ys xss) : LL wr B u gs ys xss :=
  hl.blk (fun g hg => ⟨(h.k g (hl.lt g hg).1 (hl.lt g hg).2.1).1, (hl.lt g hg).2.2⟩) h.z

set_option maxHeartbeats 1000000 in
theorem l5Outcomes_any (A : Option Addr) (c s N : Nat) (ps : List (List UInt8)) (w : World) (hx : Hid (Rd w A (strs ps))) (hok : Hid (okN ps = true)) (HN : Hid (N = 2 ^ ps.length)) (hs : s < N) :
    Calls Tryd.prog 67 #[.slice A ps.length c, .int .i64 (s : Int)] w fun e w' => RetI w.heap.size (ints (outs (rbN ps) N s)) e w' ∧ Below w.heap.size w w' := by
  have hn5 := okN_le hok.out
  have hN32 : N ≤ 32 := by rw [HN.out]; exact two_le _ hn5
  have HRB := Lib.hid (rbN_rb hok.out HN.out)
  have hBe : Below w.heap.size w (w.alloc (.cells #[] 3)) := (Below.refl _ _).alloc (Nat.le_refl _) _
  have hOE := OI.empty w w.heap.size 3 (Nat.le_refl _)
  have hze : (w.alloc (.cells #[] 3)).heap.size = w.heap.size + 1 := alloc_size _ _
  obtain ⟨M, HM⟩ : ∃ M, Hid (M = (atts (rbN ps) N N).length) := ⟨_, rfl⟩
  have hM32 : M ≤ 32 := by rw [HM.out]; exact Nat.le_trans (atts_le _ _ _) hN32
  have HME : Hid ((attTo (rbN ps) N N).length = M) := Lib.hid (by rw [HM.out, attTo_atts])
  go_enter Tryd.func67, Tryd.ntmps67
  go_wp2_with fail
  refine (l5Reach_any _ _ _ N _ _ (Lib.hid (hx.out.below hBe)) hok HN hs).mono ?_
  rintro e w1 ⟨⟨A1, c1, rfl, hc1, hO1⟩, hB1⟩
  have hz1 := hB1.size
  have hB01 : Below w.heap.size w w1 := hBe.trans (hB1.mono (by omega))
  go_wp2_with fail
  refine (l5Attractors_any _ _ N _ _ (Lib.hid (hx.out.below hB01)) hok HN).mono ?_
  rintro e w2 ⟨⟨A2, c2, gs, ys, rfl, hc2, hO2, hL2⟩, hB2⟩
  have hz2 := hB2.size
  rw [HME.out] at hc2 hL2 ⊢
  have HO1 : Hid (Own w2 (w.heap.size + 1) A1 (bolL N (rbN ps s))) := Lib.hid ((hO1.mono (by omega)).below hB2)
  have HO2 : Hid (Own w2 (w.heap.size + 1) A2 ys ∧ LL w2 (w.heap.size + 1) (.slice A2 M c2) gs ys (attTo (rbN ps) N N)) := Lib.hid ⟨hO2.mono (by omega), hL2.mono (by omega)⟩
  have HOO := Lib.hid ((hOE.below hB1).below hB2)
  have HBw := Lib.hid (hB01.trans (hB2.mono (by omega)))
  clear hO1 hO2 hL2 hOE hBe hB1 hB01 hB2
  go_wp2_with fail
  go_loopw [5, 8] (fun v q wr => ∃ i : Nat, i ≤ M ∧ q = .int .i64 i ∧ Hid (OI wr w.heap.size 3 v (ints (outTo (rbN ps) N s i)) ∧ Kp (w.heap.size + 1) w2 wr v ∧ Below w.heap.size w wr)) (fun _ q _ => M - (intOf q).toNat)
  case atStart => exact ⟨0, Nat.zero_le _, rfl, Lib.hid ⟨HOO.out, Kp.first (fun g hg => by simp [Value.ownBlock] at hg; omega), HBw.out⟩⟩
  case round =>
    obtain ⟨i, hi, rfl, HI⟩ := hrel
    have hsz := HI.out.2.2.size
    have hlen : (ints (outTo (rbN ps) N s i)).length ≤ 32 := by rw [ints_length]; have := outTo_len (rbN ps) N s i; omega
    by_cases hlt : i < M
    · obtain ⟨a, HA⟩ : ∃ a, Hid ((atts (rbN ps) N N)[i]? = some a) := ⟨_, List.getElem?_eq_getElem (by rw [← HM.out]; exact hlt)⟩
      obtain ⟨g0, o0, g, off, ca, rfl, hg0, hg1, hcl, hla, hl0, hce, _⟩ := att_cells (v := .slice A2 M c2) (c := c2) HRB.out (HI.out.2.1.own HO2.out.1) (HI.out.2.1.ll HO2.out.2) HA.out
      obtain ⟨haN, _⟩ := attTo_get HRB.out HA.out
      obtain ⟨n1, HN1⟩ : ∃ n, Hid (n = (ints (sel N (rbN ps a))).length) := ⟨_, rfl⟩
      rw [← HN1.out] at hcl hla hl0
      obtain ⟨gb, ob, hAb, hgb, hcb, _⟩ := (HI.out.2.1.own HO1.out).at_ (bolL_get (rbN ps s) haN)
      subst hAb
      by_cases hp : rbN ps s a = true
      · have HE := Lib.hid (outTo_yes HA.out hp)
        rw [hp] at hcb
        go_wp2_with (at_builtin; refine wp_pushI_at rfl _ _ _ rfl Tryd.underlying22 info_int HI.out.1 rfl rfl (by omega) (by omega) ?_; intro v' w5 hown hbel hsz3 hkeep)
        go_roundw
        case rel => exact ⟨i + 1, by omega, by go_num, Lib.hid ⟨by rw [HE.out]; exact hown, HI.out.2.1.push hsz3 hkeep, HI.out.2.2.trans (hbel _ (Nat.le_refl _))⟩⟩
        case measure => simp [intOf]; omega
      · have hp' : rbN ps s a = false := by simpa using hp
        have HE := Lib.hid (outTo_no HA.out hp')
        rw [hp'] at hcb
        clear hp
        go_wp2_with fail
        go_roundw
        case rel => exact ⟨i + 1, by omega, by go_num, Lib.hid ⟨by rw [HE.out]; exact HI.out.1, HI.out.2⟩⟩
        case measure => simp [intOf]; omega
    · have hkn : i = M := by omega
      subst hkn
      have HTE : Hid (outTo (rbN ps) N s i = outs (rbN ps) N s) := Lib.hid (outTo_all (by rw [← HM.out]; exact Nat.le_refl _))
      have hI := HI.out.1
      rw [HTE.out] at hI hlen
      obtain ⟨A', c', hv, hc, hO⟩ := hI.form
      have HV := Lib.hid hv
      have HOF := Lib.hid hO
      clear hv hI hO
      go_wp2_with fail
      go_ret
      exact ⟨⟨A', c', by rw [← HV.out]; rfl, hc, HOF.out⟩, HI.out.2.2⟩

theorem sOutcomesOf_any (s : ByteArray) (t : Int) (w : World) (hs : s.size ≤ 1073741824) :
    Calls Tryd.prog 25 #[.string s, .int .i64 t] w fun e w' => RetI w.heap.size (outN (cutL s.data.toList) t) e w' ∧ Below w.heap.size w w' := by
  obtain ⟨ps, HPS⟩ : ∃ ps, Hid (ps = cutL s.data.toList) := ⟨_, rfl⟩
  rw [← HPS.out]
  by_cases h : okSt ps t = true
  · obtain ⟨hok, t, rfl, hlt⟩ := okSt_true h
    have hn5 := okN_le hok
    obtain ⟨N, HN, hN, hN32, hN0⟩ := wrap_two ps.length hn5
    have HOK := Lib.hid hok
    have htN : t < N := by rw [HN.out]; exact hlt
    have HST := Lib.hid h
    have HV := Lib.hid (outN_yes h HN.out)
    clear h hok hlt
    go_enter Tryd.func25, Tryd.ntmps25
    go_wp2_with fail
    refine (l3State_any s ((t : Nat) : Int) w hs).mono ?_
    rintro e w1 ⟨⟨A, k0, c, rfl, himp⟩, hB1⟩
    rw [← HPS.out] at himp ⊢
    obtain ⟨rfl, hc, hO⟩ := himp HST.out
    rw [HST.out]
    have HR := Lib.hid hO.rd
    have hz1 := hB1.size
    clear hO himp
    go_wp2_with fail
    refine (l5Outcomes_any _ _ _ N _ _ HR HOK HN htN).mono ?_
    rintro e w3 ⟨⟨A3, c3, rfl, hc3, hO3⟩, hB3⟩
    go_wp2
    go_ret
    exact ⟨⟨A3, c3, by rw [HV.out]; rfl, by rw [HV.out]; exact hc3, by rw [HV.out]; exact hO3.mono hz1⟩, hB1.trans (hB3.mono hz1)⟩
  · have h' : okSt ps t = false := by simpa using h
    have HST := Lib.hid h'
    have HV := Lib.hid (outN_no (t := t) h')
    clear h h'
    go_enter Tryd.func25, Tryd.ntmps25
    go_wp2_with fail
    refine (l3State_any s t w hs).mono ?_
    rintro e w1 ⟨⟨A, k0, c, rfl, himp⟩, hB1⟩
    clear himp
    have hz1 := hB1.size
    rw [← HPS.out, HST.out]
    go_wp2
    go_ret
    exact ⟨⟨_, 0, by rw [HV.out]; rfl, by rw [HV.out]; exact Nat.le_refl _, by rw [HV.out]; exact Own.nil _ _ _⟩, hB1.alloc (by omega) _⟩

set_option maxHeartbeats 1000000 in
theorem OutcomesOf_any (s : ByteArray) (t : Int) (w : World) (hm : Hid (HasM w)) (hs : s.size ≤ 1073741824) :
    Calls Tryd.prog 26 #[.string s, .int .i64 t] w fun e w' => RetI w.heap.size (outN (cutL s.data.toList) t) e w' ∧ Below w.heap.size w w' := by
  obtain ⟨ps, HPS⟩ : ∃ ps, Hid (ps = cutL s.data.toList) := ⟨_, rfl⟩
  rw [← HPS.out]
  by_cases h : okSt ps t = true
  · obtain ⟨hok, t, rfl, hlt⟩ := okSt_true h
    have hn5 := okN_le hok
    obtain ⟨N, HN, hN, hN32, hN0⟩ := wrap_two ps.length hn5
    have HOK := Lib.hid hok
    have htN : t < N := by rw [HN.out]; exact hlt
    have HST := Lib.hid h
    have HV := Lib.hid (outN_yes h HN.out)
    have HRB := Lib.hid (rbN_rb hok HN.out)
    obtain ⟨M, HM⟩ : ∃ M, Hid (M = (atts (rbN ps) N N).length) := ⟨_, rfl⟩
    have hM32 : M ≤ 32 := by rw [HM.out]; exact Nat.le_trans (atts_le _ _ _) hN32
    have HME : Hid ((attTo (rbN ps) N N).length = M) := Lib.hid (by rw [HM.out, attTo_atts])
    clear h hok hlt
    go_enter Tryd.func26, Tryd.ntmps26
    go_wp2_with fail
    refine (stateOf_any s ((t : Nat) : Int) w hm hs).mono ?_
    rintro e w1 ⟨⟨A, k0, c, rfl, himp⟩, hB1⟩
    rw [← HPS.out] at himp ⊢
    obtain ⟨rfl, hc, hO⟩ := himp HST.out
    rw [HST.out]
    have HR := Lib.hid hO.rd
    have hz1 := hB1.size
    clear hO himp
    go_wp2_with fail
    refine (reach_any _ _ _ N _ _ HR HOK HN htN).mono ?_
    rintro e w2 ⟨⟨b, met, rfl, hb, hS, hml, hM⟩, hB2⟩
    have hz2 := hB2.size
    have HM2 := Lib.hid hM
    go_wp2_with fail
    refine (attractors_any _ _ N _ _ (Lib.hid (HR.out.below hB2)) HOK HN).mono ?_
    rintro e w3 ⟨⟨A2, c2, gs, ys, rfl, hc2, hO2, hL2⟩, hB3⟩
    have hz3 := hB3.size
    rw [HME.out] at hc2 hL2 ⊢
    have HO2 : Hid (Own w3 w.heap.size A2 ys ∧ LL w3 w.heap.size (.slice A2 M c2) gs ys (attTo (rbN ps) N N)) := Lib.hid ⟨hO2.mono (by omega), hL2.mono (by omega)⟩
    have HS3 := Lib.hid (hS.below hB3)
    have HBw := Lib.hid (hB1.trans ((hB2.mono hz1).trans (hB3.mono (by omega))))
    have hbw : w.heap.size ≤ b := by omega
    clear hS hml hM hO2 hL2 hB1 hB2 hB3 hb
    go_wp2_with fail
    go_loopw [8, 25] (fun v q wr => ∃ i : Nat, i ≤ M ∧ q = .int .i64 i ∧ Hid (OI wr w.heap.size 3 v (ints (outTo (rbN ps) N t i)) ∧ Kp w.heap.size w3 wr v ∧ Below w.heap.size w wr)) (fun _ q _ => M - (intOf q).toNat)
    case atStart => exact ⟨0, Nat.zero_le _, rfl, Lib.hid ⟨OI.nil _ _ _, Kp.first (fun g hg => by simp [Value.ownBlock] at hg), HBw.out⟩⟩
    case round =>
      obtain ⟨i, hi, rfl, HI⟩ := hrel
      have hsz := HI.out.2.2.size
      have hlen : (ints (outTo (rbN ps) N t i)).length ≤ 32 := by rw [ints_length]; have := outTo_len (rbN ps) N t i; omega
      by_cases hlt : i < M
      · obtain ⟨a, HA⟩ : ∃ a, Hid ((atts (rbN ps) N N)[i]? = some a) := ⟨_, List.getElem?_eq_getElem (by rw [← HM.out]; exact hlt)⟩
        obtain ⟨g0, o0, g, off, ca, rfl, hg0, hg1, hcl, hla, hl0, hce, _⟩ := att_cells (v := .slice A2 M c2) (c := c2) HRB.out (HI.out.2.1.own HO2.out.1) (HI.out.2.1.ll HO2.out.2) HA.out
        obtain ⟨haN, _⟩ := attTo_get HRB.out HA.out
        obtain ⟨n1, HN1⟩ : ∃ n, Hid (n = (ints (sel N (rbN ps a))).length) := ⟨_, rfl⟩
        rw [← HN1.out] at hcl hla hl0
        have hlk := set_look (HI.out.2.1.set HS3.out hbw) (a : Int)
        have hmem : decide ((a : Int) ∈ ints met) = rbN ps t a := by rw [← HM2.out a, Bool.eq_iff_iff, decide_eq_true_iff, decide_eq_true_iff, mem_ints]
        rw [hmem] at hlk
        clear hmem
        by_cases hp : rbN ps t a = true
        · have HE := Lib.hid (outTo_yes HA.out hp)
          rw [hp] at hlk
          go_wp2_with (at_builtin; refine wp_pushI_at rfl _ _ _ rfl Tryd.underlying22 info_int HI.out.1 rfl rfl (by omega) (by omega) ?_; intro v' w5 hown hbel hsz3 hkeep)
          go_roundw
          case rel => exact ⟨i + 1, by omega, by go_num, Lib.hid ⟨by rw [HE.out]; exact hown, HI.out.2.1.push hsz3 hkeep, HI.out.2.2.trans (hbel _ (Nat.le_refl _))⟩⟩
          case measure => simp [intOf]; omega
        · have hp' : rbN ps t a = false := by simpa using hp
          have HE := Lib.hid (outTo_no HA.out hp')
          rw [hp'] at hlk
          clear hp
          go_wp2_with fail
          go_roundw
          case rel => exact ⟨i + 1, by omega, by go_num, Lib.hid ⟨by rw [HE.out]; exact HI.out.1, HI.out.2⟩⟩
          case measure => simp [intOf]; omega
      · have hkn : i = M := by omega
        subst hkn
        have HTE : Hid (outTo (rbN ps) N t i = outs (rbN ps) N t) := Lib.hid (outTo_all (by rw [← HM.out]; exact Nat.le_refl _))
        have hI := HI.out.1
        rw [HTE.out] at hI hlen
        have HIO := Lib.hid hI
        clear hI
        go_wp2_with (go_at_call 69; refine (clip_any _ _ _ _ _ HIO.out).mono ?_; rintro e w2 ⟨⟨A', c', rfl, hc, hO⟩, rfl⟩)
        go_ret
        exact ⟨⟨A', c', by rw [HV.out]; rfl, by rw [HV.out]; exact hc, by rw [HV.out]; exact hO⟩, HI.out.2.2⟩
  · have h' : okSt ps t = false := by simpa using h
    have HST := Lib.hid h'
    have HV := Lib.hid (outN_no (t := t) h')
    clear h h'
    go_enter Tryd.func26, Tryd.ntmps26
    go_wp2_with fail
    refine (stateOf_any s t w hm hs).mono ?_
    rintro e w1 ⟨⟨A, k0, c, rfl, himp⟩, hB1⟩
    clear himp
    rw [← HPS.out, HST.out]
    go_wp2
    go_ret
    exact ⟨⟨none, 0, by rw [HV.out]; rfl, by rw [HV.out]; exact Nat.le_refl _, by rw [HV.out]; exact Own.nil _ _ _⟩, hB1⟩

end Go.Proofs.YtpehimjngofnkaaDoor
