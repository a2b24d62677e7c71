/- Walks: the fixed points of a network, on both sides; steps and the restless switches; equal lists of the laws. -/
import Derived.Test.YtfaidbngingjpaaDoorProg
import Derived.WalkKit
import Derived.WalkSpells
import Derived.WalkLawsBesides
import Derived.Lib.Hide
import Derived.Deep.QuietTactic
import Derived.BigQuiet
import Derived.Test.YtfaidbngingjpaaDoorWy
import Derived.Test.YtfaidbngingjpaaDoorWs
import Derived.Test.YtfaidbngingjpaaDoorWx
import Derived.Test.YtfaidbngingjpaaDoorWa
namespace Go.Proofs.YtfaidbngingjpaaDoor
open Go.RowKit
set_option linter.unusedVariables false

/-- a state that no step changes -/
def fixB (ps : List (List UInt8)) (s : Nat) : Bool := stp ps s == s
def fixN (ps : List (List UInt8)) : List Nat := if okN ps then sel (2 ^ ps.length) (fixB ps) else []
theorem fixN_no {ps : List (List UInt8)} (h : okN ps = false) : fixN ps = [] := by rw [fixN, h]; rfl
theorem fixN_yes {ps : List (List UInt8)} {N : Nat} (h : okN ps = true) (hN : N = 2 ^ ps.length) : fixN ps = sel N (fixB ps) := by rw [fixN, if_pos h, hN]

theorem fixed_any (A : Option Addr) (c N : Nat) (ps : List (List UInt8)) (w : World) (hx : Hid (Rd w A (netL ps))) (hok : Hid (okN ps = true)) (HN : Hid (N = 2 ^ ps.length)) (hN32 : N ≤ 32) :
    Calls Tryd.prog 75 #[.slice A ps.length c] w fun e w' => RetI w.heap.size (ints (sel N (fixB ps))) e w' ∧ Below w.heap.size w w' := by
  have hn5 := okN_le hok.out
  go_enter Tryd.func75, Tryd.ntmps75
  go_wp2_with (go_at_call 56; refine (states_any _ _ _ N _ hn5 HN).mono ?_; rintro e w2 ⟨rfl, rfl⟩)
  go_loopw [3, 7] (fun v i wr => ∃ k : Nat, k ≤ N ∧ i = .int .i64 k ∧ Hid (OI wr w.heap.size 3 v (ints (sel k (fixB ps)))) ∧ Below w.heap.size w wr) (fun _ i _ => N - (intOf i).toNat)
  case atStart => exact ⟨0, Nat.zero_le _, rfl, Lib.hid (OI.nil _ _ _), Below.refl _ _⟩
  case round =>
    obtain ⟨k, hk, rfl, HO, hB⟩ := hrel
    have hsz := hB.size
    have hlen : (ints (sel k (fixB ps))).length ≤ k := by rw [ints_length]; exact sel_len _ _
    by_cases hlt : k < N
    · have HK : Hid (k < 2 ^ ps.length) := Lib.hid (by rw [← HN.out]; exact hlt)
      obtain ⟨t, HT⟩ : ∃ t, Hid (t = stp ps k) := ⟨_, rfl⟩
      have HC := Lib.hid (step_any A c ps k wr (Lib.hid (hx.out.below hB)) hok HK)
      by_cases hs : fixB ps k = true
      · have HS := Lib.hid (sel_yesI hs)
        have hd : ((t : Int) == (k : Int)) = true := by
          have := hs
          simp only [fixB, beq_iff_eq] at this
          rw [HT.out, this]; simp
        clear hs
        go_wp2_with (first
          | (go_at_call 57; refine HC.out.mono ?_; rintro e w2 ⟨rfl, hB2⟩; rw [← HT.out])
          | (at_builtin; refine wp_pushI rfl _ _ _ rfl Tryd.underlying22 info_int (HO.out.below hB2) rfl rfl (by omega) (by have := hB2.size; omega) ?_; intro v' w3 hown hbel hsz3))
        go_roundw
        case rel => exact ⟨k + 1, by omega, by go_num, Lib.hid (by rw [HS.out]; exact hown), hB.trans ((hB2.mono hsz).trans (hbel _ (Nat.le_refl _)))⟩
        case measure => simp [intOf]; omega
      · have hs' : fixB ps k = false := by simpa using hs
        have HS := Lib.hid (sel_noI hs')
        have hd : ((t : Int) == (k : Int)) = false := by
          have := hs'
          simp only [fixB, beq_eq_false_iff_ne] at this
          rw [HT.out, beq_eq_false_iff_ne]; omega
        clear hs hs'
        go_wp2_with (go_at_call 57; refine HC.out.mono ?_; rintro e w2 ⟨rfl, hB2⟩; rw [← HT.out])
        go_roundw
        case rel => exact ⟨k + 1, by omega, by go_num, Lib.hid (by rw [HS.out]; exact HO.out.below hB2), hB.trans (hB2.mono hsz)⟩
        case measure => simp [intOf]; omega
    · have hkn : k = N := by omega
      subst hkn
      obtain ⟨A', c', hv, hc, hO⟩ := HO.out.form
      have HV := Lib.hid hv
      clear hv
      go_wp2
      go_ret
      exact ⟨⟨A', c', by rw [← HV.out]; rfl, hc, hO⟩, hB⟩

theorem FixedPoints_any (s : ByteArray) (w : World) (hm : Hid (HasM w)) (hs : s.size ≤ 1073741824) :
    Calls Tryd.prog 24 #[.string s] w fun e w' => RetI w.heap.size (ints (fixN (cutL s.data.toList))) e w' ∧ Below w.heap.size w w' := by
  obtain ⟨ps, HPS⟩ : ∃ ps, Hid (ps = cutL s.data.toList) := ⟨_, rfl⟩
  rw [← HPS.out]
  by_cases h : okN ps = true
  · have HOK := Lib.hid h
    obtain ⟨N, HN, hNw, hN32, hN0⟩ := wrap_two ps.length (okN_le h)
    have HV := Lib.hid (fixN_yes h HN.out)
    clear h hNw
    go_enter Tryd.func24, Tryd.ntmps24
    go_wp2_with fail
    refine (readNetwork_any s w hm hs).mono ?_
    rintro e w1 ⟨⟨A, k0, c, rfl, himp⟩, hB1⟩
    rw [← HPS.out] at himp ⊢
    obtain ⟨rfl, hc, hO⟩ := himp HOK.out
    rw [HOK.out]
    have hz1 := hB1.size
    have HR := Lib.hid hO.rd
    clear hO himp
    go_wp2_with fail
    refine (fixed_any _ _ N _ _ HR HOK HN hN32).mono ?_
    rintro e w2 ⟨⟨A2, c2, rfl, hc2, hO2⟩, hB2⟩
    go_wp2
    go_ret
    exact ⟨⟨A2, c2, by rw [HV.out]; rfl, by rw [HV.out]; exact hc2, by rw [HV.out]; exact hO2.mono hz1⟩, hB1.trans (hB2.mono hz1)⟩
  · have h' : okN ps = false := by simpa using h
    have HOK := Lib.hid h'
    have HV := Lib.hid (fixN_no h')
    clear h h'
    go_enter Tryd.func24, Tryd.ntmps24
    go_wp2_with fail
    refine (readNetwork_any s w hm hs).mono ?_
    rintro e w1 ⟨⟨A, k0, c, rfl, himp⟩, hB1⟩
    clear himp
    rw [← HPS.out, HOK.out]
    go_wp2
    go_ret
    exact ⟨⟨none, 0, by rw [HV.out]; rfl, by rw [HV.out]; exact Nat.le_refl _, by rw [HV.out]; exact Own.nil _ _ _⟩, hB1⟩

/-- the step of a state, or -1 -/
def stA (ps : List (List UInt8)) (t : Int) : Int := if okSt ps t then (stp ps t.toNat : Int) else -1
theorem StepAll_any (s : ByteArray) (t : Int) (w : World) (hm : Hid (HasM w)) (hs : s.size ≤ 1073741824) :
    Calls Tryd.prog 23 #[.string s, .int .i64 t] w fun e w' => e = .returned (.int .i64 (stA (cutL s.data.toList) t)) ∧ Below w.heap.size w w' := by
  obtain ⟨ps, HPS⟩ : ∃ ps, Hid (ps = cutL s.data.toList) := ⟨_, rfl⟩
  rw [← HPS.out]
  by_cases h : okSt ps t = true
  · obtain ⟨h1, k, rfl, hk⟩ := okSt_true h
    have HOK := Lib.hid h1
    have HST := Lib.hid h
    have HK := Lib.hid hk
    have HV : Hid (stA ps (k : Int) = (stp ps k : Int)) := Lib.hid (by rw [stA, if_pos h]; rfl)
    clear h h1 hk
    go_enter Tryd.func23, Tryd.ntmps23
    go_wp2_with fail
    refine (stateOf_any s k w hm hs).mono ?_
    rintro e w1 ⟨⟨A, j, c, rfl, himp⟩, hB1⟩
    rw [← HPS.out] at himp ⊢
    obtain ⟨rfl, hc, hO⟩ := himp HST.out
    rw [HST.out]
    have HR := Lib.hid hO.rd
    have hz1 := hB1.size
    clear hO himp
    go_wp2_with fail
    refine (step_any A c ps k _ HR HOK HK).mono ?_
    rintro e w2 ⟨rfl, hB2⟩
    go_wp2
    go_ret
    exact ⟨by rw [HV.out]; rfl, hB1.trans (hB2.mono hz1)⟩
  · have HST : Hid (okSt ps t = false) := Lib.hid (by simpa using h)
    have HV : Hid (stA ps t = -1) := Lib.hid (by rw [stA, HST.out]; rfl)
    clear h
    go_enter Tryd.func23, Tryd.ntmps23
    go_wp2_with fail
    refine (stateOf_any s t w hm hs).mono ?_
    rintro e w1 ⟨⟨A, j, c, rfl, himp⟩, hB1⟩
    clear himp
    rw [← HPS.out, HST.out]
    go_wp2
    go_ret
    exact ⟨by rw [HV.out]; rfl, hB1⟩

/-- the switches that a step changes, or -1 -/
def rsA (ps : List (List UInt8)) (t : Int) : Int := if okSt ps t then ((stp ps t.toNat ^^^ t.toNat : Nat) : Int) else -1
theorem RestlessOf_any (s : ByteArray) (t : Int) (w : World) (hm : Hid (HasM w)) (hs : s.size ≤ 1073741824) :
    Calls Tryd.prog 47 #[.string s, .int .i64 t] w fun e w' => e = .returned (.int .i64 (rsA (cutL s.data.toList) t)) ∧ Below w.heap.size w w' := by
  obtain ⟨ps, HPS⟩ : ∃ ps, Hid (ps = cutL s.data.toList) := ⟨_, rfl⟩
  rw [← HPS.out]
  by_cases h : okSt ps t = true
  · obtain ⟨h1, k, rfl, hk⟩ := okSt_true h
    have HOK := Lib.hid h1
    have HST := Lib.hid h
    have HK := Lib.hid hk
    have h32 := two_le _ (okN_le h1)
    obtain ⟨y, HY⟩ : ∃ y, Hid (y = stp ps k) := ⟨_, rfl⟩
    obtain ⟨z, HZ⟩ : ∃ z, Hid (z = y ^^^ k) := ⟨_, rfl⟩
    have hy : y < 32 := by rw [HY.out]; exact Nat.lt_of_lt_of_le (stp_lt h1 k) h32
    have hk32 : k < 32 := Nat.lt_of_lt_of_le hk h32
    have HV : Hid (rsA ps (k : Int) = (z : Int)) := Lib.hid (by rw [rsA, if_pos h, HZ.out, HY.out]; rfl)
    have e1 : bits .xor .i64 (y : Int) (k : Int) = (z : Int) := by rw [HZ.out]; exact i64_xor_nat y k (by omega) (by omega)
    clear h h1 hk h32
    go_enter Tryd.func47, Tryd.ntmps47
    go_wp2_with fail
    refine (stateOf_any s k w hm hs).mono ?_
    rintro e w1 ⟨⟨A, j, c, rfl, himp⟩, hB1⟩
    rw [← HPS.out] at himp ⊢
    obtain ⟨rfl, hc, hO⟩ := himp HST.out
    rw [HST.out]
    have HR := Lib.hid hO.rd
    have hz1 := hB1.size
    clear hO himp
    go_wp2_with fail
    refine (step_any A c ps k _ HR HOK HK).mono ?_
    rintro e w2 ⟨rfl, hB2⟩
    rw [← HY.out]
    go_wp2
    go_ret
    exact ⟨by rw [HV.out]; rfl, hB1.trans (hB2.mono hz1)⟩
  · have HST : Hid (okSt ps t = false) := Lib.hid (by simpa using h)
    have HV : Hid (rsA ps t = -1) := Lib.hid (by rw [rsA, HST.out]; rfl)
    clear h
    go_enter Tryd.func47, Tryd.ntmps47
    go_wp2_with fail
    refine (stateOf_any s t w hm hs).mono ?_
    rintro e w1 ⟨⟨A, j, c, rfl, himp⟩, hB1⟩
    clear himp
    rw [← HPS.out, HST.out]
    go_wp2
    go_ret
    exact ⟨by rw [HV.out]; rfl, hB1⟩

theorem NetworkValid_any (s : ByteArray) (w : World) (hm : Hid (HasM w)) (hs : s.size ≤ 1073741824) :
    Calls Tryd.prog 45 #[.string s] w fun e w' => e = .returned (.bool (okN (cutL s.data.toList))) ∧ Below w.heap.size w w' := by
  go_enter Tryd.func45, Tryd.ntmps45
  go_wp2_with fail
  refine (readNetwork_any s w hm hs).mono ?_
  rintro e w1 ⟨⟨A, j, c, rfl, himp⟩, hB1⟩
  clear himp
  go_wp2
  go_ret
  exact ⟨rfl, hB1⟩

/-- how many switches a network has, or -1 -/
def szN (ps : List (List UInt8)) : Int := if okN ps then (ps.length : Int) else -1
theorem SizeOf_any (s : ByteArray) (w : World) (hm : Hid (HasM w)) (hs : s.size ≤ 1073741824) :
    Calls Tryd.prog 46 #[.string s] w fun e w' => e = .returned (.int .i64 (szN (cutL s.data.toList))) ∧ Below w.heap.size w w' := by
  obtain ⟨ps, HPS⟩ : ∃ ps, Hid (ps = cutL s.data.toList) := ⟨_, rfl⟩
  rw [← HPS.out]
  by_cases h : okN ps = true
  · have HOK := Lib.hid h
    have HV : Hid (szN ps = (ps.length : Int)) := Lib.hid (by rw [szN, if_pos h])
    clear h
    go_enter Tryd.func46, Tryd.ntmps46
    go_wp2_with fail
    refine (readNetwork_any s w hm hs).mono ?_
    rintro e w1 ⟨⟨A, k0, c, rfl, himp⟩, hB1⟩
    rw [← HPS.out] at himp ⊢
    obtain ⟨rfl, hc, hO⟩ := himp HOK.out
    rw [HOK.out]
    clear hO himp
    go_wp2
    go_ret
    exact ⟨by rw [HV.out]; rfl, hB1⟩
  · have HOK : Hid (okN ps = false) := Lib.hid (by simpa using h)
    have HV : Hid (szN ps = -1) := Lib.hid (by rw [szN, HOK.out]; rfl)
    clear h
    go_enter Tryd.func46, Tryd.ntmps46
    go_wp2_with fail
    refine (readNetwork_any s w hm hs).mono ?_
    rintro e w1 ⟨⟨A, k0, c, rfl, himp⟩, hB1⟩
    clear himp
    rw [← HPS.out, HOK.out]
    go_wp2
    go_ret
    exact ⟨by rw [HV.out]; rfl, hB1⟩

/-- a list equals itself, wherever it lies -/
theorem bnSame_any (A A' : Option Addr) (c c' : Nat) (xs : List Int) (w : World) (hx : Hid (Rd w A (xs.map (Value.int .i64)))) (hy : Hid (Rd w A' (xs.map (Value.int .i64)))) (hl : xs.length ≤ 1000000) :
    Calls Tryd.prog 43 #[.slice A xs.length c, .slice A' xs.length c'] w fun e w' => e = .returned (.bool true) ∧ ∃ n, w.drewN n = w' := by
  go_enter Tryd.func43, Tryd.ntmps43
  go_wp2
  go_loopw [5] (fun i wr => ∃ k : Nat, k ≤ xs.length ∧ i = .int .i64 k ∧ ∃ n, wr = w.drewN n) (fun i _ => xs.length - (intOf i).toNat)
  case atStart => exact ⟨0, Nat.zero_le _, rfl, 0, rfl⟩
  case round =>
    obtain ⟨k, hk, rfl, n, rfl⟩ := hrel
    by_cases hlt : k < xs.length
    · obtain ⟨g, off, hA, hc⟩ := hx.out.int hlt
      obtain ⟨g', off', hA', hc'⟩ := hy.out.int hlt
      subst hA hA'
      have hd : (xs[k] != xs[k]) = false := bne_self_eq_false _
      go_wp2
      go_quiet (fail)
      go_wp2
      go_roundw
      case rel => exact ⟨k + 1, by omega, by go_num, _, rfl⟩
      case measure => simp [intOf]; omega
    · have hkn : k = xs.length := by omega
      subst hkn
      go_wp2
      go_ret
      exact ⟨rfl, _, rfl⟩

/-- the address A does not lie in v's own block -/
def OffV (v : Value) (A : Option Addr) : Prop := ∀ a, A = some a → v.ownBlock ≠ some a.block
theorem offV_own {w : World} {B g n c : Nat} {A : Option Addr} {vs : List Value} (h : Own w B A vs) (hg : g < B) : OffV (.slice (some ⟨g, 0, none⟩) n c) A ∨ vs = [] := by
  rcases h with h | ⟨g2, off, hA, hB, _⟩
  · exact .inr h
  · left
    intro a ha
    rw [hA] at ha
    injection ha with ha
    subst ha
    simp only [Value.ownBlock, ne_eq, Option.some.injEq]
    omega
theorem offV_push {w w' : World} {v v' : Value} {A : Option Addr} {vs : List Value} (h : Rd w A vs) (ho : OffV v A) (hf : ∀ g, g < w.heap.size → v.ownBlock ≠ some g → w'.heap[g]? = w.heap[g]? ∧ v'.ownBlock ≠ some g) (hne : vs ≠ []) : Rd w' A vs ∧ OffV v' A := by
  rcases h with h | ⟨g, off, hA, hc⟩
  · exact absurd h hne
  · have hlt : g < w.heap.size := by
      cases vs with
      | nil => exact absurd rfl hne
      | cons x l => exact World.block_lt_of_cell? w _ (hc 0 x rfl)
    have h2 := hf g hlt (ho _ hA)
    refine ⟨.inr ⟨g, off, hA, fun j v hj => (World.cell?_of_block (w := w) (a := ⟨g, off + j, none⟩) h2.1).trans (hc j v hj)⟩, fun a ha => ?_⟩
    rw [hA] at ha
    injection ha with ha
    subst ha
    exact h2.2

set_option maxHeartbeats 1000000 in
theorem sFixedPoints_any (s : ByteArray) (w : World) (hs : s.size ≤ 1073741824) :
    Calls Tryd.prog 44 #[.string s] w fun e w' => RetI w.heap.size (ints (fixN (cutL s.data.toList))) e w' ∧ Below w.heap.size w w' := by
  obtain ⟨ps, HPS⟩ : ∃ ps, Hid (ps = cutL s.data.toList) := ⟨_, rfl⟩
  rw [← HPS.out]
  have HE := Lib.hid (OI.empty w w.heap.size 3 (Nat.le_refl _))
  have HB0 : Hid (Below w.heap.size w (w.alloc (.cells #[] 3))) := Lib.hid ((Below.refl _ _).alloc (Nat.le_refl _) _)
  by_cases h : okN ps = true
  · have HOK := Lib.hid h
    have hn5 := okN_le h
    obtain ⟨N, HN, hNw, hN32, hN0⟩ := wrap_two ps.length hn5
    have HV := Lib.hid (fixN_yes h HN.out)
    clear h hNw
    go_enter Tryd.func44, Tryd.ntmps44
    go_wp2_with fail
    refine (l3Open_any s _ hs).mono ?_
    rintro e w1 ⟨⟨A, k0, c, rfl, himp⟩, hB1⟩
    rw [← HPS.out] at himp ⊢
    obtain ⟨rfl, hc, hO⟩ := himp HOK.out
    rw [HOK.out]
    have hz1 := hB1.size
    rw [alloc_size] at hz1
    have HR := Lib.hid hO.rd
    have HO1 := Lib.hid (HE.out.below hB1)
    have HB1 : Hid (Below w.heap.size w w1) := Lib.hid (HB0.out.trans (hB1.mono (by rw [alloc_size]; omega)))
    have HNE : Hid (strs ps ≠ []) := Lib.hid (by
      intro e
      have := congrArg List.length e
      rw [strs_length, HPS.out] at this
      exact cutL_ne _ (List.length_eq_zero_iff.1 this))
    have HOF : Hid (OffV (.slice (some ⟨w.heap.size, 0, none⟩) 0 0) A) := Lib.hid ((offV_own hO (by rw [alloc_size]; omega)).resolve_right HNE.out)
    clear hO himp hB1
    go_wp2_with fail
    go_loopw [3, 6] (fun v i wr => ∃ k : Nat, k ≤ N ∧ i = .int .i64 k ∧ Hid (OI wr w.heap.size 3 v (ints (sel k (fixB ps)))) ∧ Hid (Rd wr A (strs ps) ∧ OffV v A) ∧ Hid (Below w.heap.size w wr) ∧ w.heap.size ≤ wr.heap.size) (fun _ i _ => N - (intOf i).toNat)
    case atStart => exact ⟨0, Nat.zero_le _, rfl, HO1, Lib.hid ⟨HR.out, HOF.out⟩, HB1, by omega⟩
    case round =>
      obtain ⟨k, hk, rfl, HO, HRr, hB, hsz⟩ := hrel
      have hlen : (ints (sel k (fixB ps))).length ≤ k := by rw [ints_length]; exact sel_len _ _
      by_cases hlt : k < N
      · have HK : Hid (k < 2 ^ ps.length) := Lib.hid (by rw [← HN.out]; exact hlt)
        obtain ⟨t, HT⟩ : ∃ t, Hid (t = stp ps k) := ⟨_, rfl⟩
        have HC0 := l3StepA_any A c ps k N wr (Lib.hid HRr.out.1) HOK HN HK
        rw [← HT.out] at HC0
        have HC := Lib.hid HC0
        clear HC0
        by_cases hs : fixB ps k = true
        · have HS := Lib.hid (sel_yesI hs)
          have hd : ((t : Int) == (k : Int)) = true := by
            have := hs
            simp only [fixB, beq_iff_eq] at this
            rw [HT.out, this]; simp
          clear hs
          go_wp2_with (first
            | (go_at_call 53; refine (l3AllN_any _ _ _ N _ hn5 HN hN0).mono ?_; rintro e w2 ⟨rfl, rfl⟩)
            | (go_at_call 98; refine HC.out.mono ?_; rintro e w2 ⟨rfl, rfl⟩)
            | (at_builtin; refine wp_pushI_at rfl _ _ _ rfl Tryd.underlying22 info_int HO.out rfl rfl (by omega) hsz ?_; intro v' w3 hown hbel hsz3 hfr3))
          go_roundw
          case rel => exact ⟨k + 1, by omega, by go_num, Lib.hid (by rw [HS.out]; exact hown), Lib.hid (offV_push HRr.out.1 HRr.out.2 hfr3 HNE.out), Lib.hid (hB.out.trans (hbel _ (Nat.le_refl _))), by omega⟩
          case measure => simp [intOf]; omega
        · have hs' : fixB ps k = false := by simpa using hs
          have HS := Lib.hid (sel_noI hs')
          have hd : ((t : Int) == (k : Int)) = false := by
            have := hs'
            simp only [fixB, beq_eq_false_iff_ne] at this
            rw [HT.out, beq_eq_false_iff_ne]; omega
          clear hs hs'
          go_wp2_with (first
            | (go_at_call 53; refine (l3AllN_any _ _ _ N _ hn5 HN hN0).mono ?_; rintro e w2 ⟨rfl, rfl⟩)
            | (go_at_call 98; refine HC.out.mono ?_; rintro e w2 ⟨rfl, rfl⟩))
          go_roundw
          case rel => exact ⟨k + 1, by omega, by go_num, Lib.hid (by rw [HS.out]; exact HO.out), HRr, hB, hsz⟩
          case measure => simp [intOf]; omega
      · have hkn : k = N := by omega
        subst hkn
        obtain ⟨A', c', hv, hc', hO⟩ := HO.out.form
        have HV2 := Lib.hid hv
        clear hv
        go_wp2_with (go_at_call 53; refine (l3AllN_any _ _ _ _ _ hn5 HN hN0).mono ?_; rintro e w2 ⟨rfl, rfl⟩)
        go_ret
        exact ⟨⟨A', c', by rw [HV.out, ← HV2.out]; rfl, by rw [HV.out]; exact hc', by rw [HV.out]; exact hO⟩, hB.out⟩
  · have h' : okN ps = false := by simpa using h
    have HOK := Lib.hid h'
    have HV := Lib.hid (fixN_no h')
    clear h h'
    go_enter Tryd.func44, Tryd.ntmps44
    go_wp2_with fail
    refine (l3Open_any s _ hs).mono ?_
    rintro e w1 ⟨⟨A, k0, c, rfl, himp⟩, hB1⟩
    clear himp
    rw [← HPS.out, HOK.out]
    have hz1 := hB1.size
    rw [alloc_size] at hz1
    have HO1 := Lib.hid (HE.out.below hB1)
    have HB1 : Hid (Below w.heap.size w w1) := Lib.hid (HB0.out.trans (hB1.mono (by rw [alloc_size]; omega)))
    clear hB1
    go_wp2_with fail
    go_loopw [3, 6] (fun v i wr => wr = w1 ∧ i = .int .i64 0 ∧ v = .slice (some ⟨w.heap.size, 0, none⟩) 0 0) (fun _ _ _ => 0)
    case atStart => exact ⟨rfl, rfl, rfl⟩
    case round =>
      obtain ⟨rfl, rfl, rfl⟩ := hrel
      obtain ⟨A', c', hv, hc', hO⟩ := HO1.out.form
      have HV2 := Lib.hid hv
      clear hv
      go_wp2
      go_ret
      exact ⟨⟨A', c', by rw [HV.out]; rw [show (ints ([] : List Nat)) = [] from rfl, ← HV2.out]; rfl, by rw [HV.out]; exact hc', by rw [HV.out]; exact hO⟩, HB1.out⟩

end Go.Proofs.YtfaidbngingjpaaDoor
