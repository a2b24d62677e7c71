/- Walks: the fixed points of a network, on both sides; steps and the restless switches; equal lists of the laws. -/
import Derived.Test.YtpehimjngofnkaaDoorProg
import Derived.WalkKit
import Derived.WalkSpells
import Derived.WalkLawsBesides
import Derived.Lib.Hide
import Derived.Deep.QuietTactic
import Derived.BigQuiet
import Derived.Test.YtpehimjngofnkaaDoorWy
import Derived.Test.YtpehimjngofnkaaDoorWs
import Derived.Test.YtpehimjngofnkaaDoorWx
import Derived.Test.YtpehimjngofnkaaDoorWa
namespace Go.Proofs.YtpehimjngofnkaaDoor
open Go.RowKit
set_option linter.unusedVariables false

/-- a state that no step changes -/
def fixB (ps : List (List UInt8)) (s : Nat) : Bool := stp ps s == s
def fixN (ps : List (List UInt8)) : List Nat := if okN ps then sel (2 ^ ps.length) (fixB ps) else []
theorem fixN_no {ps : List (List UInt8)} (h : okN ps = false) : fixN ps = [] := by rw [fixN, h]; rfl
theorem fixN_yes {ps : List (List UInt8)} {N : Nat} (h : okN ps = true) (hN : N = 2 ^ ps.length) : fixN ps = sel N (fixB ps) := by rw [fixN, if_pos h, hN]

/-- the step of a state, or -1 -/
def stA (ps : List (List UInt8)) (t : Int) : Int := if okSt ps t then (stp ps t.toNat : Int) else -1
/-- the switches that a step changes, or -1 -/
def rsA (ps : List (List UInt8)) (t : Int) : Int := if okSt ps t then ((stp ps t.toNat ^^^ t.toNat : Nat) : Int) else -1

theorem fixed_any (A : Option Addr) (c N : Nat) (ps : List (List UInt8)) (w : World) (hx : Hid (Rd w A (netL ps))) (hok : Hid (okN ps = true)) (HN : Hid (N = 2 ^ ps.length)) (hN32 : N ≤ 32) :
    Calls Tryd.prog 79 #[.slice A ps.length c] w fun e w' => RetI w.heap.size (ints (sel N (fixB ps))) e w' ∧ Below w.heap.size w w' := by
  have hn5 := okN_le hok.out
  go_enter Tryd.func79, Tryd.ntmps79
  go_wp2_with (go_at_call 76; refine (states_any _ _ _ N _ hn5 HN).mono ?_; rintro e w2 ⟨rfl, rfl⟩)
  go_loopw [3, 7] (fun v i wr => ∃ k : Nat, k ≤ N ∧ i = .int .i64 k ∧ Hid (OI wr w.heap.size 3 v (ints (sel k (fixB ps)))) ∧ Below w.heap.size w wr) (fun _ i _ => N - (intOf i).toNat)
  case atStart => exact ⟨0, Nat.zero_le _, rfl, Lib.hid (OI.nil _ _ _), Below.refl _ _⟩
  case round =>
    obtain ⟨k, hk, rfl, HO, hB⟩ := hrel
    have hsz := hB.size
    have hlen : (ints (sel k (fixB ps))).length ≤ k := by rw [ints_length]; exact sel_len _ _
    by_cases hlt : k < N
    · have HK : Hid (k < 2 ^ ps.length) := Lib.hid (by rw [← HN.out]; exact hlt)
      obtain ⟨t, HT⟩ : ∃ t, Hid (t = stp ps k) := ⟨_, rfl⟩
      have HC := Lib.hid (step_any A c ps k wr (Lib.hid (hx.out.below hB)) hok HK)
      by_cases hs : fixB ps k = true
      · have HS := Lib.hid (sel_yesI hs)
        have hd : ((t : Int) == (k : Int)) = true := by
          have := hs
          simp only [fixB, beq_iff_eq] at this
          rw [HT.out, this]; simp
        clear hs
        go_wp2_with (first
          | (go_at_call 74; refine HC.out.mono ?_; rintro e w2 ⟨rfl, hB2⟩; rw [← HT.out])
          | (at_builtin; refine wp_pushI rfl _ _ _ rfl Tryd.underlying22 info_int (HO.out.below hB2) rfl rfl (by omega) (by have := hB2.size; omega) ?_; intro v' w3 hown hbel hsz3))
        go_roundw
        case rel => exact ⟨k + 1, by omega, by go_num, Lib.hid (by rw [HS.out]; exact hown), hB.trans ((hB2.mono hsz).trans (hbel _ (Nat.le_refl _)))⟩
        case measure => simp [intOf]; omega
      · have hs' : fixB ps k = false := by simpa using hs
        have HS := Lib.hid (sel_noI hs')
        have hd : ((t : Int) == (k : Int)) = false := by
          have := hs'
          simp only [fixB, beq_eq_false_iff_ne] at this
          rw [HT.out, beq_eq_false_iff_ne]; omega
        clear hs hs'
        go_wp2_with (go_at_call 74; refine HC.out.mono ?_; rintro e w2 ⟨rfl, hB2⟩; rw [← HT.out])
        go_roundw
        case rel => exact ⟨k + 1, by omega, by go_num, Lib.hid (by rw [HS.out]; exact HO.out.below hB2), hB.trans (hB2.mono hsz)⟩
        case measure => simp [intOf]; omega
    · have hkn : k = N := by omega
      subst hkn
      obtain ⟨A', c', hv, hc, hO⟩ := HO.out.form
      have HV := Lib.hid hv
      clear hv
      go_wp2
      go_ret
      exact ⟨⟨A', c', by rw [← HV.out]; rfl, hc, hO⟩, hB⟩

theorem FixedPoints_any (s : ByteArray) (w : World) (hm : Hid (HasM w)) (hs : s.size ≤ 1073741824) :
    Calls Tryd.prog 39 #[.string s] w fun e w' => RetI w.heap.size (ints (fixN (cutL s.data.toList))) e w' ∧ Below w.heap.size w w' := by
  obtain ⟨ps, HPS⟩ : ∃ ps, Hid (ps = cutL s.data.toList) := ⟨_, rfl⟩
  rw [← HPS.out]
  by_cases h : okN ps = true
  · have HOK := Lib.hid h
    obtain ⟨N, HN, hNw, hN32, hN0⟩ := wrap_two ps.length (okN_le h)
    have HV := Lib.hid (fixN_yes h HN.out)
    clear h hNw
    go_enter Tryd.func39, Tryd.ntmps39
    go_wp2_with fail
    refine (readNetwork_any s w hm hs).mono ?_
    rintro e w1 ⟨⟨A, k0, c, rfl, himp⟩, hB1⟩
    rw [← HPS.out] at himp ⊢
    obtain ⟨rfl, hc, hO⟩ := himp HOK.out
    rw [HOK.out]
    have hz1 := hB1.size
    have HR := Lib.hid hO.rd
    clear hO himp
    go_wp2_with fail
    refine (fixed_any _ _ N _ _ HR HOK HN hN32).mono ?_
    rintro e w2 ⟨⟨A2, c2, rfl, hc2, hO2⟩, hB2⟩
    go_wp2
    go_ret
    exact ⟨⟨A2, c2, by rw [HV.out]; rfl, by rw [HV.out]; exact hc2, by rw [HV.out]; exact hO2.mono hz1⟩, hB1.trans (hB2.mono hz1)⟩
  · have h' : okN ps = false := by simpa using h
    have HOK := Lib.hid h'
    have HV := Lib.hid (fixN_no h')
    clear h h'
    go_enter Tryd.func39, Tryd.ntmps39
    go_wp2_with fail
    refine (readNetwork_any s w hm hs).mono ?_
    rintro e w1 ⟨⟨A, k0, c, rfl, himp⟩, hB1⟩
    clear himp
    rw [← HPS.out, HOK.out]
    go_wp2
    go_ret
    exact ⟨⟨none, 0, by rw [HV.out]; rfl, by rw [HV.out]; exact Nat.le_refl _, by rw [HV.out]; exact Own.nil _ _ _⟩, hB1⟩

theorem StepAll_any (s : ByteArray) (t : Int) (w : World) (hm : Hid (HasM w)) (hs : s.size ≤ 1073741824) :
    Calls Tryd.prog 31 #[.string s, .int .i64 t] w fun e w' => e = .returned (.int .i64 (stA (cutL s.data.toList) t)) ∧ Below w.heap.size w w' := by
  obtain ⟨ps, HPS⟩ : ∃ ps, Hid (ps = cutL s.data.toList) := ⟨_, rfl⟩
  rw [← HPS.out]
  by_cases h : okSt ps t = true
  · obtain ⟨h1, k, rfl, hk⟩ := okSt_true h
    have HOK := Lib.hid h1
    have HST := Lib.hid h
    have HK := Lib.hid hk
    have HV : Hid (stA ps (k : Int) = (stp ps k : Int)) := Lib.hid (by rw [stA, if_pos h]; rfl)
    clear h h1 hk
    go_enter Tryd.func31, Tryd.ntmps31
    go_wp2_with fail
    refine (stateOf_any s k w hm hs).mono ?_
    rintro e w1 ⟨⟨A, j, c, rfl, himp⟩, hB1⟩
    rw [← HPS.out] at himp ⊢
    obtain ⟨rfl, hc, hO⟩ := himp HST.out
    rw [HST.out]
    have HR := Lib.hid hO.rd
    have hz1 := hB1.size
    clear hO himp
    go_wp2_with fail
    refine (step_any A c ps k _ HR HOK HK).mono ?_
    rintro e w2 ⟨rfl, hB2⟩
    go_wp2
    go_ret
    exact ⟨by rw [HV.out]; rfl, hB1.trans (hB2.mono hz1)⟩
  · have HST : Hid (okSt ps t = false) := Lib.hid (by simpa using h)
    have HV : Hid (stA ps t = -1) := Lib.hid (by rw [stA, HST.out]; rfl)
    clear h
    go_enter Tryd.func31, Tryd.ntmps31
    go_wp2_with fail
    refine (stateOf_any s t w hm hs).mono ?_
    rintro e w1 ⟨⟨A, j, c, rfl, himp⟩, hB1⟩
    clear himp
    rw [← HPS.out, HST.out]
    go_wp2
    go_ret
    exact ⟨by rw [HV.out]; rfl, hB1⟩

theorem NetworkValid_any (s : ByteArray) (w : World) (hm : Hid (HasM w)) (hs : s.size ≤ 1073741824) :
    Calls Tryd.prog 36 #[.string s] w fun e w' => e = .returned (.bool (okN (cutL s.data.toList))) ∧ Below w.heap.size w w' := by
  go_enter Tryd.func36, Tryd.ntmps36
  go_wp2_with fail
  refine (readNetwork_any s w hm hs).mono ?_
  rintro e w1 ⟨⟨A, j, c, rfl, himp⟩, hB1⟩
  clear himp
  go_wp2
  go_ret
  exact ⟨rfl, hB1⟩

/-- how many switches a network has, or -1 -/
def szN (ps : List (List UInt8)) : Int := if okN ps then (ps.length : Int) else -1
theorem SizeOf_any (s : ByteArray) (w : World) (hm : Hid (HasM w)) (hs : s.size ≤ 1073741824) :
    Calls Tryd.prog 38 #[.string s] w fun e w' => e = .returned (.int .i64 (szN (cutL s.data.toList))) ∧ Below w.heap.size w w' := by
  obtain ⟨ps, HPS⟩ : ∃ ps, Hid (ps = cutL s.data.toList) := ⟨_, rfl⟩
  rw [← HPS.out]
  by_cases h : okN ps = true
  · have HOK := Lib.hid h
    have HV : Hid (szN ps = (ps.length : Int)) := Lib.hid (by rw [szN, if_pos h])
    clear h
    go_enter Tryd.func38, Tryd.ntmps38
    go_wp2_with fail
    refine (readNetwork_any s w hm hs).mono ?_
    rintro e w1 ⟨⟨A, k0, c, rfl, himp⟩, hB1⟩
    rw [← HPS.out] at himp ⊢
    obtain ⟨rfl, hc, hO⟩ := himp HOK.out
    rw [HOK.out]
    clear hO himp
    go_wp2
    go_ret
    exact ⟨by rw [HV.out]; rfl, hB1⟩
  · have HOK : Hid (okN ps = false) := Lib.hid (by simpa using h)
    have HV : Hid (szN ps = -1) := Lib.hid (by rw [szN, HOK.out]; rfl)
    clear h
    go_enter Tryd.func38, Tryd.ntmps38
    go_wp2_with fail
    refine (readNetwork_any s w hm hs).mono ?_
    rintro e w1 ⟨⟨A, k0, c, rfl, himp⟩, hB1⟩
    clear himp
    rw [← HPS.out, HOK.out]
    go_wp2
    go_ret
    exact ⟨by rw [HV.out]; rfl, hB1⟩

/-- a list equals itself, wherever it lies -/
theorem bnSame_any (A A' : Option Addr) (c c' : Nat) (xs : List Int) (w : World) (hx : Hid (Rd w A (xs.map (Value.int .i64)))) (hy : Hid (Rd w A' (xs.map (Value.int .i64)))) (hl : xs.length ≤ 1000000) :
    Calls Tryd.prog 30 #[.slice A xs.length c, .slice A' xs.length c'] w fun e w' => e = .returned (.bool true) ∧ ∃ n, w.drewN n = w' := by
  go_enter Tryd.func30, Tryd.ntmps30
  go_wp2
  go_loopw [5] (fun i wr => ∃ k : Nat, k ≤ xs.length ∧ i = .int .i64 k ∧ ∃ n, wr = w.drewN n) (fun i _ => xs.length - (intOf i).toNat)
  case atStart => exact ⟨0, Nat.zero_le _, rfl, 0, rfl⟩
  case round =>
    obtain ⟨k, hk, rfl, n, rfl⟩ := hrel
    by_cases hlt : k < xs.length
    · obtain ⟨g, off, hA, hc⟩ := hx.out.int hlt
      obtain ⟨g', off', hA', hc'⟩ := hy.out.int hlt
      subst hA hA'
      have hd : (xs[k] != xs[k]) = false := bne_self_eq_false _
      go_wp2
      go_quiet (fail)
      go_wp2
      go_roundw
      case rel => exact ⟨k + 1, by omega, by go_num, _, rfl⟩
      case measure => simp [intOf]; omega
    · have hkn : k = xs.length := by omega
      subst hkn
      go_wp2
      go_ret
      exact ⟨rfl, _, rfl⟩

/-- the address A does not lie in v's own block -/
def OffV (v : Value) (A : Option Addr) : Prop := ∀ a, A = some a → v.ownBlock ≠ some a.block
theorem offV_own {w : World} {B g n c : Nat} {A : Option Addr} {vs : List Value} (h : Own w B A vs) (hg : g < B) : OffV (.slice (some ⟨g, 0, none⟩) n c) A ∨ vs = [] := by
  rcases h with h | ⟨g2, off, hA, hB, _⟩
  · exact .inr h
  · left
    intro a ha
    rw [hA] at ha
    injection ha with ha
    subst ha
    simp only [Value.ownBlock, ne_eq, Option.some.injEq]
    omega
theorem offV_push {w w' : World} {v v' : Value} {A : Option Addr} {vs : List Value} (h : Rd w A vs) (ho : OffV v A) (hf : ∀ g, g < w.heap.size → v.ownBlock ≠ some g → w'.heap[g]? = w.heap[g]? ∧ v'.ownBlock ≠ some g) (hne : vs ≠ []) : Rd w' A vs ∧ OffV v' A := by
  rcases h with h | ⟨g, off, hA, hc⟩
  · exact absurd h hne
  · have hlt : g < w.heap.size := by
      cases vs with
      | nil => exact absurd rfl hne
      | cons x l => exact World.block_lt_of_cell? w _ (hc 0 x rfl)
    have h2 := hf g hlt (ho _ hA)
    refine ⟨.inr ⟨g, off, hA, fun j v hj => (World.cell?_of_block (w := w) (a := ⟨g, off + j, none⟩) h2.1).trans (hc j v hj)⟩, fun a ha => ?_⟩
    rw [hA] at ha
    injection ha with ha
    subst ha
    exact h2.2

end Go.Proofs.YtpehimjngofnkaaDoor
