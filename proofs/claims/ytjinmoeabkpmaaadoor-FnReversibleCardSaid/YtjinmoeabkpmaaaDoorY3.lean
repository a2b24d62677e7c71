/- Walks of CycleOf and BasinOf. Printed by wip/mky.py. -/
import Derived.Test.YtjinmoeabkpmaaaDoorProg
import Derived.WalkKit
import Derived.WalkSpells
import Derived.WalkLawsBesides
import Derived.Lib.Hide
import Derived.Deep.QuietTactic
import Derived.Deep.RegionHeld3
import Derived.BigQuiet
import Derived.Test.YtjinmoeabkpmaaaDoorY2
namespace Go.Proofs.YtjinmoeabkpmaaaDoor
open Go.RowKit
set_option linter.unusedVariables false

theorem stp_lt32 {ps : List (List UInt8)} {N : Nat} (h : okN ps = true) (hN : N = 2 ^ ps.length) : N ≤ 32 ∧ ∀ x, x < N → stp ps x < N := ⟨by rw [hN]; exact two_le _ (okN_le h), fun x _ => by rw [hN]; exact stp_lt h x⟩
def cycN (ps : List (List UInt8)) (t : Int) : List Int := if okSt ps t then ints (cyc (stp ps) t.toNat) else []
theorem cycN_yes {ps : List (List UInt8)} {t : Nat} (h : okSt ps t = true) : cycN ps t = ints (cyc (stp ps) t) := if_pos h
theorem cycN_no {ps : List (List UInt8)} {t : Int} (h : okSt ps t = false) : cycN ps t = [] := by rw [cycN, h]; rfl
theorem cycN_len (ps : List (List UInt8)) (t : Int) : (cycN ps t).length ≤ 1048576 := by
  by_cases h : okSt ps t = true
  · obtain ⟨hok, s, rfl, hs⟩ := okSt_true h
    rw [cycN_yes h, ints_length]
    have hf := stp_lt32 hok rfl
    have := (cyc_len hf.1 hf.2 hs).1
    omega
  · rw [cycN_no (by simpa using h)]; simp
def basN (ps : List (List UInt8)) (t : Int) : List Int := if okSt ps t then ints (sel (2 ^ ps.length) fun k => cy0 (stp ps) k == cy0 (stp ps) t.toNat) else []
theorem basN_yes {ps : List (List UInt8)} {t N : Nat} (h : okSt ps t = true) (hN : N = 2 ^ ps.length) : basN ps t = ints (sel N fun k => cy0 (stp ps) k == cy0 (stp ps) t) := by rw [basN, if_pos h, hN]; rfl
theorem basN_no {ps : List (List UInt8)} {t : Int} (h : okSt ps t = false) : basN ps t = [] := by rw [basN, h]; rfl
theorem basN_len (ps : List (List UInt8)) (t : Int) : (basN ps t).length ≤ 1048576 := by
  by_cases h : okSt ps t = true
  · obtain ⟨hok, s, rfl, hs⟩ := okSt_true h
    rw [basN_yes h rfl, ints_length]
    have := sel_len (2 ^ ps.length) fun k => cy0 (stp ps) k == cy0 (stp ps) s
    have h32 := two_le _ (okN_le hok)
    omega
  · rw [basN_no (by simpa using h)]; simp
/-- the address A does not lie in v's own block -/
def OffB (v : Value) (A : Option Addr) : Prop := ∀ a, A = some a → v.ownBlock ≠ some a.block
theorem offB_own {w : World} {B g n c : Nat} {A : Option Addr} {vs : List Value} (h : Own w B A vs) (hg : g < B) : OffB (.slice (some ⟨g, 0, none⟩) n c) A ∨ vs = [] := by
  rcases h with h | ⟨g2, off, hA, hB, _⟩
  · exact .inr h
  · left
    intro a ha
    rw [hA] at ha
    injection ha with ha
    subst ha
    simp only [Value.ownBlock, ne_eq, Option.some.injEq]
    omega
theorem offB_push {w w' : World} {v v' : Value} {A : Option Addr} {vs : List Value} (h : Rd w A vs) (ho : OffB v A) (hf : ∀ g, g < w.heap.size → v.ownBlock ≠ some g → w'.heap[g]? = w.heap[g]? ∧ v'.ownBlock ≠ some g) (hne : vs ≠ []) : Rd w' A vs ∧ OffB v' A := by
  rcases h with h | ⟨g, off, hA, hc⟩
  · exact absurd h hne
  · have hlt : g < w.heap.size := by
      cases vs with
      | nil => exact absurd rfl hne
      | cons x l => exact World.block_lt_of_cell? w _ (hc 0 x rfl)
    have h2 := hf g hlt (ho _ hA)
    refine ⟨.inr ⟨g, off, hA, fun j v hj => (World.cell?_of_block (w := w) (a := ⟨g, off + j, none⟩) h2.1).trans (hc j v hj)⟩, fun a ha => ?_⟩
    rw [hA] at ha
    injection ha with ha
    subst ha
    exact h2.2
/-- the first of a cycle's cells -/
theorem cyc_cell {ps : List (List UInt8)} {N s : Nat} (h : okN ps = true) (hN : N = 2 ^ ps.length) (hs : s < N) : ((ints (cyc (stp ps) s)).map (Value.int .i64))[0]? = some (.int .i64 (cy0 (stp ps) s : Int)) ∧ 0 < (ints (cyc (stp ps) s)).length := by
  have hf := stp_lt32 h hN
  obtain ⟨l, e⟩ := cyc_head hf.1 hf.2 hs
  rw [e]
  exact ⟨rfl, by simp [ints]⟩

set_option maxHeartbeats 400000 in
theorem CycleOf_any (s : ByteArray) (t : Int) (w : World) (hm : Hid (HasM w)) (hs : s.size ≤ 1073741824) :
    Calls Tryd.prog 61 #[.string s, .int .i64 t] w fun e w' => RetI w.heap.size (cycN (cutL s.data.toList) t) e w' ∧ Below w.heap.size w w' := by
  obtain ⟨ps, HPS⟩ : ∃ ps, Hid (ps = cutL s.data.toList) := ⟨_, rfl⟩
  rw [← HPS.out]
  by_cases h : okSt ps t = true
  · obtain ⟨hok, t, rfl, hlt⟩ := okSt_true h
    have hn5 := okN_le hok
    obtain ⟨N, HN, hN, hN32, hN0⟩ := wrap_two ps.length hn5
    have HOK := Lib.hid hok
    have HS := Lib.hid hlt
    have htN : t < N := by rw [HN.out]; exact hlt
    have HST := Lib.hid h
    have HV := Lib.hid (cycN_yes h)
    clear h hok hlt
    go_enter Tryd.func61, Tryd.ntmps61
    go_wp2_with fail
    refine (stateOf_any s ((t : Nat) : Int) w hm hs).mono ?_
    rintro e w1 ⟨⟨A, k0, c, rfl, himp⟩, hB1⟩
    rw [← HPS.out] at himp ⊢
    obtain ⟨rfl, hc, hO⟩ := himp HST.out
    rw [HST.out]
    have HR := Lib.hid hO.rd
    have hz1 := hB1.size
    clear hO himp
    go_wp2_with fail
    refine (cycle_any _ _ _ N _ _ HR HOK HN htN).mono ?_
    rintro e w2 ⟨⟨A2, c2, rfl, hc2, hO2⟩, hB2⟩
    have hB12 : Below w.heap.size w w2 := hB1.trans (hB2.mono hz1)
    go_wp2
    go_ret
    exact ⟨⟨A2, c2, by rw [HV.out]; rfl, by rw [HV.out]; exact hc2, by rw [HV.out]; exact hO2.mono (by omega)⟩, hB12⟩
  · have h' : okSt ps t = false := by simpa using h
    have HST := Lib.hid h'
    have HV := Lib.hid (cycN_no (t := t) h')
    clear h h'
    go_enter Tryd.func61, Tryd.ntmps61
    go_wp2_with fail
    refine (stateOf_any s t w hm hs).mono ?_
    rintro e w1 ⟨⟨A, k0, c, rfl, himp⟩, hB1⟩
    clear himp
    rw [← HPS.out, HST.out]
    go_wp2
    go_ret
    exact ⟨⟨none, 0, by rw [HV.out]; rfl, by rw [HV.out]; exact Nat.le_refl _, by rw [HV.out]; exact Own.nil _ _ _⟩, hB1⟩

set_option maxHeartbeats 400000 in
theorem sCycleOf_any (s : ByteArray) (t : Int) (w : World) (hs : s.size ≤ 1073741824) :
    Calls Tryd.prog 62 #[.string s, .int .i64 t] w fun e w' => RetI w.heap.size (cycN (cutL s.data.toList) t) e w' ∧ Below w.heap.size w w' := by
  obtain ⟨ps, HPS⟩ : ∃ ps, Hid (ps = cutL s.data.toList) := ⟨_, rfl⟩
  rw [← HPS.out]
  by_cases h : okSt ps t = true
  · obtain ⟨hok, t, rfl, hlt⟩ := okSt_true h
    have hn5 := okN_le hok
    obtain ⟨N, HN, hN, hN32, hN0⟩ := wrap_two ps.length hn5
    have HOK := Lib.hid hok
    have HS := Lib.hid hlt
    have htN : t < N := by rw [HN.out]; exact hlt
    have HST := Lib.hid h
    have HV := Lib.hid (cycN_yes h)
    clear h hok hlt
    go_enter Tryd.func62, Tryd.ntmps62
    go_wp2_with fail
    refine (l3State_any s ((t : Nat) : Int) w hs).mono ?_
    rintro e w1 ⟨⟨A, k0, c, rfl, himp⟩, hB1⟩
    rw [← HPS.out] at himp ⊢
    obtain ⟨rfl, hc, hO⟩ := himp HST.out
    rw [HST.out]
    have HR := Lib.hid hO.rd
    have hz1 := hB1.size
    clear hO himp
    go_wp2_with fail
    refine (l4Next_any _ _ N _ _ HR HOK HN).mono ?_
    rintro e w3 ⟨⟨A3, c3, rfl, hc3, hO3⟩, hB3⟩
    have hz3 := hB3.size
    go_wp2_with fail
    refine (l4Cycle_any _ _ _ N _ _ _ (Lib.hid hO3.rd) HOK HN htN (by rw [ints_length, stpTo_len])).mono ?_
    rintro e w2 ⟨⟨A2, c2, rfl, hc2, hO2⟩, hB2⟩
    have hB12 : Below w.heap.size w w2 := hB1.trans ((hB3.trans (hB2.mono hz3)).mono hz1)
    go_wp2
    go_ret
    exact ⟨⟨A2, c2, by rw [HV.out]; rfl, by rw [HV.out]; exact hc2, by rw [HV.out]; exact hO2.mono (by omega)⟩, hB12⟩
  · have h' : okSt ps t = false := by simpa using h
    have HST := Lib.hid h'
    have HV := Lib.hid (cycN_no (t := t) h')
    clear h h'
    go_enter Tryd.func62, Tryd.ntmps62
    go_wp2_with fail
    refine (l3State_any s t w hs).mono ?_
    rintro e w1 ⟨⟨A, k0, c, rfl, himp⟩, hB1⟩
    clear himp
    rw [← HPS.out, HST.out]
    go_wp2
    go_ret
    exact ⟨⟨_, 0, by rw [HV.out]; rfl, by rw [HV.out]; exact Nat.le_refl _, by rw [HV.out]; exact Own.nil _ _ _⟩, hB1.alloc hB1.size _⟩

theorem BasinOf1_any (A : Option Addr) (c p5 p7 k m N : Nat) (ps : List (List UInt8)) (w : World) (h5 : w.cell? ⟨p5, 0, none⟩ = some (.slice A ps.length c)) (h7 : w.cell? ⟨p7, 0, none⟩ = some (.int .i64 (m : Int))) (hx : Hid (Rd w A (netL ps))) (hok : Hid (okN ps = true)) (HN : Hid (N = 2 ^ ps.length)) (hk : k < N) :
    Calls Tryd.prog 116 #[.int .i64 (k : Int), .pointer (some ⟨p5, 0, none⟩), .pointer (some ⟨p7, 0, none⟩)] w fun e w' => e = .returned (.bool (cy0 (stp ps) k == m)) ∧ Below w.heap.size w w' := by
  have hl5 : p5 < w.heap.size := World.block_lt_of_cell? w _ h5
  have hl7 : p7 < w.heap.size := World.block_lt_of_cell? w _ h7
  obtain ⟨hcc, hc0⟩ := cyc_cell hok.out HN.out hk
  have HCC := Lib.hid hcc
  have HBQ : Hid (((cy0 (stp ps) k : Int) == (m : Int)) = (cy0 (stp ps) k == m)) := Lib.hid (by rw [Bool.eq_iff_iff]; simp; omega)
  clear hcc
  go_enter Tryd.func116, Tryd.ntmps116
  go_wp2_with fail
  go_region_with
    (first | (go_at_call 77; refine (cycle_any A c k N ps w.drew (show Hid (Rd w.drew A (netL ps)) from hx) hok HN hk).mono ?_; rintro e w' ⟨⟨A2, c2, rfl, hc2, hO2⟩, hB'⟩; obtain ⟨g2, off2, hA2, hcell2⟩ := hO2.rd.at_ HCC.out; subst hA2; rw [Nat.add_zero] at hcell2; have h5' := (World.cell?_of_block (w := w.drew) (hB'.block _ hl5)).trans h5; have h7' := (World.cell?_of_block (w := w.drew) (hB'.block _ hl7)).trans h7))
  all_goals (
    go_wp2
    go_ret
    exact ⟨ret_bool HBQ.out, ⟨hB'.os, hB'.tape, hB'.output, hB'.size, hB'.block⟩⟩)

set_option maxHeartbeats 400000 in
theorem BasinOf_any (s : ByteArray) (t : Int) (w : World) (hm : Hid (HasM w)) (hs : s.size ≤ 1073741824) :
    Calls Tryd.prog 64 #[.string s, .int .i64 t] w fun e w' => RetI w.heap.size (basN (cutL s.data.toList) t) e w' ∧ Below w.heap.size w w' := by
  obtain ⟨ps, HPS⟩ : ∃ ps, Hid (ps = cutL s.data.toList) := ⟨_, rfl⟩
  rw [← HPS.out]
  by_cases h : okSt ps t = true
  · obtain ⟨hok, t, rfl, hlt⟩ := okSt_true h
    have hn5 := okN_le hok
    obtain ⟨N, HN, hN, hN32, hN0⟩ := wrap_two ps.length hn5
    have HOK := Lib.hid hok
    have HST := Lib.hid h
    have htN : t < N := by rw [HN.out]; exact hlt
    have HV := Lib.hid (basN_yes h HN.out)
    obtain ⟨hcc, hc0⟩ := cyc_cell hok HN.out htN
    have HCC := Lib.hid hcc
    clear h hok hlt hcc
    go_enter Tryd.func64, Tryd.ntmps64
    go_wp2_with fail
    refine (stateOf_any s _ w hm hs).mono ?_
    rintro e w1 ⟨⟨A, k0, c, rfl, himp⟩, hB1⟩
    rw [← HPS.out] at himp ⊢
    obtain ⟨rfl, hc, hO⟩ := himp HST.out
    rw [HST.out]
    have hz1 := hB1.size
    have HR := Lib.hid hO.rd
    clear hO himp
    have HX := Lib.hid (Blk.new w1 53 #[.slice A ps.length c])
    have hBn : Below w1.heap.size w1 (w1.alloc (.cells #[.slice A ps.length c] 53)) := (Below.refl _ _).alloc (Nat.le_refl _) _
    have hcx : (w1.alloc (.cells #[.slice A ps.length c] 53)).cell? ⟨w1.heap.size, 0, none⟩ = some (.slice A ps.length c) := (HX.out.cell 0).trans rfl
    go_wp2_with fail
    refine (cycle_any A c t N ps _ (Lib.hid (HR.out.below hBn)) HOK HN htN).mono ?_
    rintro e w2 ⟨⟨A2, c2, rfl, hc2, hO2⟩, hB2⟩
    obtain ⟨g2, off2, hA2, hcell2⟩ := hO2.rd.at_ HCC.out
    subst hA2
    rw [Nat.add_zero] at hcell2
    have hz2 := hB2.size
    rw [alloc_size] at hz2
    have HX2 := Lib.hid (HX.out.keep hB2)
    have hcx2 : w2.cell? ⟨w1.heap.size, 0, none⟩ = some (.slice A ps.length c) := (HX2.out.cell 0).trans rfl
    have hB12 : Below w1.heap.size w1 w2 := hBn.trans (hB2.mono (by rw [alloc_size]; omega))
    clear hO2
    have HY := Lib.hid (Blk.new w2 3 #[.int .i64 (cy0 (stp ps) t : Int)])
    have hBm : Below w2.heap.size w2 (w2.alloc (.cells #[.int .i64 (cy0 (stp ps) t : Int)] 3)) := (Below.refl _ _).alloc (Nat.le_refl _) _
    have hcx3 : (w2.alloc (.cells #[.int .i64 (cy0 (stp ps) t : Int)] 3)).cell? ⟨w1.heap.size, 0, none⟩ = some (.slice A ps.length c) := (World.cell?_of_block (w := w2) (hBm.block _ HX2.out.lt)).trans hcx2
    have HC : Hid (CloB (w2.alloc (.cells #[.int .i64 (cy0 (stp ps) t : Int)] 3)) N 116 #[.pointer (some ⟨w1.heap.size, 0, none⟩), .pointer (some ⟨w2.heap.size, 0, none⟩)] (fun k => cy0 (stp ps) k == cy0 (stp ps) t)) := Lib.hid (fun k wX hk hBX =>
      BasinOf1_any A c _ _ k _ N ps wX ((World.cell?_of_block (w := w2) ((hBm.trans (hBX.mono (by rw [alloc_size]; omega))).block _ HX2.out.lt)).trans hcx2) (((HY.out.keep hBX).cell 0).trans rfl) (Lib.hid (HR.out.below (hB12.trans ((hBm.trans (hBX.mono (by rw [alloc_size]; omega))).mono hB12.size)))) HOK HN hk)
    go_wp2_with fail
    refine (which_any _ _ _ N _ _ _ _ hn5 HN (fun _ _ => by kernel_rfl) HC).mono ?_
    rintro e w3 ⟨⟨A3, c3, rfl, hc3, hO3⟩, hB3⟩
    have hBf : Below w.heap.size w w3 := hB1.trans ((hB12.trans ((hBm.trans (hB3.mono (by rw [alloc_size]; omega))).mono hB12.size)).mono hz1)
    have hO3' := hO3.mono (show w.heap.size ≤ _ by rw [alloc_size]; omega)
    go_wp2
    go_ret
    exact ⟨⟨A3, c3, by rw [HV.out]; rfl, by rw [HV.out]; exact hc3, by rw [HV.out]; exact hO3'⟩, hBf⟩
  · have h' : okSt ps t = false := by simpa using h
    have HST := Lib.hid h'
    have HV := Lib.hid (basN_no (t := t) h')
    clear h h'
    go_enter Tryd.func64, Tryd.ntmps64
    go_wp2_with fail
    refine (stateOf_any s _ w hm hs).mono ?_
    rintro e w1 ⟨⟨A, k0, c, rfl, himp⟩, hB1⟩
    clear himp
    rw [← HPS.out, HST.out]
    have hz1 := hB1.size
    go_wp2
    go_ret
    exact ⟨⟨none, 0, by rw [HV.out]; rfl, by rw [HV.out]; exact Nat.le_refl _, by rw [HV.out]; exact Own.nil _ _ _⟩, hB1.alloc (by omega) _⟩

set_option maxHeartbeats 400000 in
theorem sBasinOf_any (s : ByteArray) (t : Int) (w : World) (hs : s.size ≤ 1073741824) :
    Calls Tryd.prog 65 #[.string s, .int .i64 t] w fun e w' => RetI w.heap.size (basN (cutL s.data.toList) t) e w' ∧ Below w.heap.size w w' := by
  obtain ⟨ps, HPS⟩ : ∃ ps, Hid (ps = cutL s.data.toList) := ⟨_, rfl⟩
  rw [← HPS.out]
  have hBe : Below w.heap.size w (w.alloc (.cells #[] 3)) := (Below.refl _ _).alloc (Nat.le_refl _) _
  by_cases h : okSt ps t = true
  · obtain ⟨hok, t, rfl, hlt⟩ := okSt_true h
    have hn5 := okN_le hok
    obtain ⟨N, HN, hN, hN32, hN0⟩ := wrap_two ps.length hn5
    have HOK := Lib.hid hok
    have HST := Lib.hid h
    have htN : t < N := by rw [HN.out]; exact hlt
    have HV := Lib.hid (basN_yes h HN.out)
    have HCC := Lib.hid (fun k (hk : k < N) => cyc_cell (s := k) hok HN.out hk)
    obtain ⟨hcc, hc0⟩ := HCC.out t htN
    have HCT := Lib.hid hcc
    have HE := Lib.hid (OI.empty w w.heap.size 3 (Nat.le_refl _))
    clear h hok hlt hcc
    go_enter Tryd.func65, Tryd.ntmps65
    go_wp2_with fail
    refine (l3State_any s _ _ hs).mono ?_
    rintro e w1 ⟨⟨A, k0, c, rfl, himp⟩, hB1⟩
    rw [← HPS.out] at himp ⊢
    obtain ⟨rfl, hc, hO⟩ := himp HST.out
    rw [HST.out]
    have HR := Lib.hid hO.rd
    have HO1 := Lib.hid (HE.out.below hB1)
    have hBw1 : Below w.heap.size w w1 := hBe.trans (hB1.mono (by rw [alloc_size]; omega))
    have hz1 := hBw1.size
    have hz0 := hB1.size
    rw [alloc_size] at hz0
    clear hO himp hB1
    go_wp2_with fail
    refine (l4Next_any _ _ N _ _ HR HOK HN).mono ?_
    rintro e w3 ⟨⟨A3, c3, rfl, hc3, hO3⟩, hB3⟩
    have HR3 := Lib.hid hO3.rd
    have hil : (ints (stpTo ps N)).length = N := by rw [ints_length, stpTo_len]
    have hz3 := hB3.size
    have HNE : Hid ((ints (stpTo ps N)).map (Value.int .i64) ≠ []) := Lib.hid (by
      intro e
      have := congrArg List.length e
      rw [List.length_map, hil] at this
      simp at this; omega)
    have HOF : Hid (OffB (.slice (some ⟨w.heap.size, 0, none⟩) 0 0) A3) := Lib.hid ((offB_own hO3 (by omega)).resolve_right HNE.out)
    clear hO3
    go_wp2_with fail
    refine (l4Cycle_any _ _ _ N _ _ _ HR3 HOK HN htN (by first | rfl | exact hil)).mono ?_
    rintro e w4 ⟨⟨A4, c4, rfl, hc4, hO4⟩, hB4⟩
    obtain ⟨g4, off4, hA4, hcell4⟩ := hO4.rd.at_ HCT.out
    subst hA4
    rw [Nat.add_zero] at hcell4
    clear hO4
    have HR4 := Lib.hid (HR3.out.below hB4)
    have HO4 := Lib.hid ((HO1.out.below hB3).below hB4)
    have hBw4 : Below w.heap.size w w4 := hBw1.trans ((hB3.trans (hB4.mono hz3)).mono hz1)
    go_wp2_with fail
    go_loopw [5, 10] (fun v q wr => ∃ k : Nat, k ≤ N ∧ q = .int .i64 k ∧ Hid (OI wr w.heap.size 3 v (ints (sel k fun k => cy0 (stp ps) k == cy0 (stp ps) t))) ∧ Hid (Rd wr A3 ((ints (stpTo ps N)).map (Value.int .i64)) ∧ OffB v A3) ∧ Below w.heap.size w wr) (fun _ q _ => N - (intOf q).toNat)
    case atStart => exact ⟨0, Nat.zero_le _, rfl, HO4, Lib.hid ⟨HR4.out, HOF.out⟩, hBw4⟩
    case round =>
      obtain ⟨k, hk, rfl, HO, HRk, hB⟩ := hrel
      have hsz := hB.size
      have hlen : (ints (sel k fun k => cy0 (stp ps) k == cy0 (stp ps) t)).length ≤ k := by rw [ints_length]; exact sel_len _ _
      by_cases hlt : k < N
      · obtain ⟨hck, hk0⟩ := HCC.out k hlt
        have HCK := Lib.hid hck
        clear hck
        by_cases hp : cy0 (stp ps) k = cy0 (stp ps) t
        · have HE2 := Lib.hid (sel_yesI (p := fun k => cy0 (stp ps) k == cy0 (stp ps) t) (k := k) (by simp [hp]))
          have hd : ((cy0 (stp ps) k : Int) == (cy0 (stp ps) t : Int)) = true := by simp [hp]
          clear hp
          go_wp2_with fail
          refine (l4Cycle_any _ _ _ N _ _ _ (Lib.hid HRk.out.1) HOK HN hlt (by first | rfl | exact hil)).mono ?_
          rintro e w5 ⟨⟨A5, c5, rfl, hc5, hO5⟩, hB5⟩
          obtain ⟨g5, off5, hA5, hcell5⟩ := hO5.rd.at_ HCK.out
          subst hA5
          rw [Nat.add_zero] at hcell5
          clear hO5
          have hz5 := hB5.size
          go_wp2_with (at_builtin; refine wp_pushI_at rfl _ _ _ rfl Tryd.underlying31 info_int (HO.out.below hB5) rfl rfl (by omega) (by omega) ?_; intro v' w6 hown hbel hsz6 hfr6)
          go_roundw
          case rel => exact ⟨k + 1, by omega, by go_num, Lib.hid (by rw [HE2.out]; exact hown), Lib.hid (offB_push (HRk.out.1.below hB5) HRk.out.2 hfr6 HNE.out), hB.trans ((hB5.mono hsz).trans (hbel _ (Nat.le_refl _)))⟩
          case measure => simp [intOf]; omega
        · have HE2 := Lib.hid (sel_noI (p := fun k => cy0 (stp ps) k == cy0 (stp ps) t) (k := k) (by simpa using hp))
          have hd : ((cy0 (stp ps) k : Int) == (cy0 (stp ps) t : Int)) = false := by simp; omega
          clear hp
          go_wp2_with fail
          refine (l4Cycle_any _ _ _ N _ _ _ (Lib.hid HRk.out.1) HOK HN hlt (by first | rfl | exact hil)).mono ?_
          rintro e w5 ⟨⟨A5, c5, rfl, hc5, hO5⟩, hB5⟩
          obtain ⟨g5, off5, hA5, hcell5⟩ := hO5.rd.at_ HCK.out
          subst hA5
          rw [Nat.add_zero] at hcell5
          clear hO5
          go_wp2_with fail
          go_roundw
          case rel => exact ⟨k + 1, by omega, by go_num, Lib.hid (by rw [HE2.out]; exact HO.out.below hB5), Lib.hid ⟨HRk.out.1.below hB5, HRk.out.2⟩, hB.trans (hB5.mono hsz)⟩
          case measure => simp [intOf]; omega
      · have hkn : k = N := by omega
        subst hkn
        obtain ⟨A', c', hv, hc, hO⟩ := HO.out.form
        have HV2 := Lib.hid hv
        clear hv
        go_wp2_with fail
        go_ret
        exact ⟨⟨A', c', by rw [HV.out, ← HV2.out]; rfl, by rw [HV.out]; exact hc, by rw [HV.out]; exact hO⟩, hB⟩
  · have h' : okSt ps t = false := by simpa using h
    have HST := Lib.hid h'
    have HV := Lib.hid (basN_no (t := t) h')
    clear h h'
    go_enter Tryd.func65, Tryd.ntmps65
    go_wp2_with fail
    refine (l3State_any s _ _ hs).mono ?_
    rintro e w1 ⟨⟨A, k0, c, rfl, himp⟩, hB1⟩
    clear himp
    rw [← HPS.out, HST.out]
    have hBw1 : Below w.heap.size w w1 := hBe.trans (hB1.mono (by rw [alloc_size]; omega))
    go_wp2
    go_ret
    exact ⟨⟨_, 0, by rw [HV.out]; rfl, by rw [HV.out]; exact Nat.le_refl _, by rw [HV.out]; exact Own.nil _ _ _⟩, hBw1⟩

end Go.Proofs.YtjinmoeabkpmaaaDoor
