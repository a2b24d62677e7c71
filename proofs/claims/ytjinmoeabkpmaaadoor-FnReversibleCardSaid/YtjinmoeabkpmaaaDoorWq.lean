/- Walks of the functions that tell of orbits and of next states. Printed by wip/mkq.py. -/
import Derived.Test.YtjinmoeabkpmaaaDoorProg
import Derived.WalkKit
import Derived.WalkSpells
import Derived.WalkLawsBesides
import Derived.Lib.Hide
import Derived.Deep.QuietTactic
import Derived.BigQuiet
import Derived.Test.YtjinmoeabkpmaaaDoorWr
import Derived.Test.YtjinmoeabkpmaaaDoorWs
namespace Go.Proofs.YtjinmoeabkpmaaaDoor
open Go.RowKit

def tailN (ps : List (List UInt8)) (t : Int) : Int := if okSt ps t then ((orb (stp ps) t.toNat).2 : Int) else -1
theorem tailN_yes {ps : List (List UInt8)} {t : Nat} (h : okSt ps t = true) : tailN ps t = ((orb (stp ps) t).2 : Int) := if_pos h
theorem tailN_no {ps : List (List UInt8)} {t : Int} (h : okSt ps t = false) : tailN ps t = -1 := by rw [tailN, h]; rfl
def perN (ps : List (List UInt8)) (t : Int) : Int := if okSt ps t then ((orb (stp ps) t.toNat).1.length : Int) - ((orb (stp ps) t.toNat).2 : Int) else -1
theorem perN_yes {ps : List (List UInt8)} {t : Nat} (h : okSt ps t = true) : perN ps t = ((orb (stp ps) t).1.length : Int) - ((orb (stp ps) t).2 : Int) := if_pos h
theorem perN_no {ps : List (List UInt8)} {t : Int} (h : okSt ps t = false) : perN ps t = -1 := by rw [perN, h]; rfl
def orbN (ps : List (List UInt8)) (t : Int) : List Int := if okSt ps t then ints (orb (stp ps) t.toNat).1 else []
theorem orbN_yes {ps : List (List UInt8)} {t : Nat} (h : okSt ps t = true) : orbN ps t = ints (orb (stp ps) t).1 := if_pos h
theorem orbN_no {ps : List (List UInt8)} {t : Int} (h : okSt ps t = false) : orbN ps t = [] := by rw [orbN, h]; rfl
def nxtN (ps : List (List UInt8)) (t : Int) : List Int := if okSt ps t then ints (nextN ps t.toNat) else []
theorem nxtN_yes {ps : List (List UInt8)} {t : Nat} (h : okSt ps t = true) : nxtN ps t = ints (nextN ps t) := if_pos h
theorem nxtN_no {ps : List (List UInt8)} {t : Int} (h : okSt ps t = false) : nxtN ps t = [] := by rw [nxtN, h]; rfl
theorem nxtN_len (ps : List (List UInt8)) (t : Int) : (nxtN ps t).length ≤ 1048576 := by
  by_cases h : okSt ps t = true
  · obtain ⟨hok, s, rfl, _⟩ := okSt_true h
    rw [nxtN_yes h, ints_length]
    have := nextN_len hok s
    omega
  · rw [nxtN_no (by simpa using h)]; simp
theorem orbN_len (ps : List (List UInt8)) (t : Int) : (orbN ps t).length ≤ 1048576 := by
  by_cases h : okSt ps t = true
  · obtain ⟨hok, s, rfl, hs⟩ := okSt_true h
    rw [orbN_yes h, ints_length]
    have h32 := two_le _ (okN_le hok)
    have := (orb_all (f := stp ps) (N := 2 ^ ps.length) h32 (fun x _ => stp_lt hok x) hs).1
    omega
  · rw [orbN_no (by simpa using h)]; simp
/-- the place in the orbit after k steps -/
def aftI (o : List Nat × Nat) (k : Nat) : Nat := if k < o.1.length then k else o.2 + (k - o.2) % (o.1.length - o.2)
def aftN (ps : List (List UInt8)) (t k : Int) : Int := if okSt ps t && decide (0 ≤ k) then ((orb (stp ps) t.toNat).1.getD (aftI (orb (stp ps) t.toNat) k.toNat) 0 : Int) else -1
theorem aftN_yes {ps : List (List UInt8)} {t k : Nat} (h : okSt ps t = true) : aftN ps t k = ((orb (stp ps) t).1.getD (aftI (orb (stp ps) t) k) 0 : Int) := by
  rw [aftN, h, decide_eq_true (by omega)]; rfl
theorem aftN_no {ps : List (List UInt8)} {t k : Int} (h : okSt ps t = false) : aftN ps t k = -1 := by rw [aftN, h]; rfl
theorem aftN_neg {ps : List (List UInt8)} {t k : Int} (h : ¬ 0 ≤ k) : aftN ps t k = -1 := by rw [aftN, decide_eq_false h, Bool.and_false]; rfl
theorem aftI_lt {o : List Nat × Nat} {k : Nat} (h : o.2 < o.1.length) : aftI o k < o.1.length := by
  unfold aftI
  split
  · assumption
  · have : (k - o.2) % (o.1.length - o.2) < o.1.length - o.2 := Nat.mod_lt _ (by omega)
    omega

/-- the greatest number of states ahead of a cycle, of the orbits from the first k states -/
def lonTo (ps : List (List UInt8)) : Nat → Nat
  | 0 => 0
  | k + 1 => max (lonTo ps k) (orb (stp ps) k).2
theorem lonTo_le {ps : List (List UInt8)} (h : okN ps = true) : ∀ k, k ≤ 2 ^ ps.length → lonTo ps k ≤ 32
  | 0, _ => by simp [lonTo]
  | k + 1, hk => by
    have := lonTo_le h k (by omega)
    have h32 := two_le _ (okN_le h)
    have h2 := orb_all (f := stp ps) (N := 2 ^ ps.length) h32 (fun x _ => stp_lt h x) (show k < 2 ^ ps.length by omega)
    rw [lonTo]; omega
def lonN (ps : List (List UInt8)) : Int := if okN ps then (lonTo ps (2 ^ ps.length) : Int) else -1
theorem lonN_yes {ps : List (List UInt8)} {N : Nat} (h : okN ps = true) (hN : N = 2 ^ ps.length) : lonN ps = (lonTo ps N : Int) := by rw [lonN, if_pos h, hN]
theorem lonN_no {ps : List (List UInt8)} (h : okN ps = false) : lonN ps = -1 := by rw [lonN, h]; rfl
set_option maxHeartbeats 400000 in
theorem TailOf_any (s : ByteArray) (t : Int) (w : World) (hm : Hid (HasM w)) (hs : s.size ≤ 1073741824) :
    Calls Tryd.prog 25 #[.string s, .int .i64 t] w fun e w' => e = .returned (.int .i64 (tailN (cutL s.data.toList) t)) ∧ Below w.heap.size w w' := by
  obtain ⟨ps, HPS⟩ : ∃ ps, Hid (ps = cutL s.data.toList) := ⟨_, rfl⟩
  rw [← HPS.out]
  by_cases h : okSt ps t = true
  · obtain ⟨hok, t, rfl, hlt⟩ := okSt_true h
    have hn5 := okN_le hok
    obtain ⟨N, HN, hN, hN32, hN0⟩ := wrap_two ps.length hn5
    have HOK := Lib.hid hok
    have HS := Lib.hid hlt
    have htN : t < N := by rw [HN.out]; exact hlt
    have HST := Lib.hid h
    have HV := Lib.hid (tailN_yes h)
    clear h hok hlt
    go_enter Tryd.func25, Tryd.ntmps25
    go_wp2_with fail
    refine (stateOf_any s ((t : Nat) : Int) w hm hs).mono ?_
    rintro e w1 ⟨⟨A, k0, c, rfl, himp⟩, hB1⟩
    rw [← HPS.out] at himp ⊢
    obtain ⟨rfl, hc, hO⟩ := himp HST.out
    rw [HST.out]
    have HR := Lib.hid hO.rd
    have hz1 := hB1.size
    clear hO himp
    go_wp2_with fail
    refine (orbit_any _ _ _ N _ _ HR HOK HN htN).mono ?_
    rintro e w2 ⟨⟨A2, c2, rfl, hc2, hO2⟩, hB2⟩
    have hB12 : Below w.heap.size w w2 := hB1.trans (hB2.mono hz1)
    go_wp2
    go_ret
    exact ⟨by rw [HV.out]; rfl, hB12⟩
  · have h' : okSt ps t = false := by simpa using h
    have HST := Lib.hid h'
    have HV := Lib.hid (tailN_no (t := t) h')
    clear h h'
    go_enter Tryd.func25, Tryd.ntmps25
    go_wp2_with fail
    refine (stateOf_any s t w hm hs).mono ?_
    rintro e w1 ⟨⟨A, k0, c, rfl, himp⟩, hB1⟩
    clear himp
    rw [← HPS.out, HST.out]
    go_wp2
    go_ret
    exact ⟨by rw [HV.out]; rfl, hB1⟩

set_option maxHeartbeats 400000 in
theorem OrbitOf_any (s : ByteArray) (t : Int) (w : World) (hm : Hid (HasM w)) (hs : s.size ≤ 1073741824) :
    Calls Tryd.prog 23 #[.string s, .int .i64 t] w fun e w' => RetI w.heap.size (orbN (cutL s.data.toList) t) e w' ∧ Below w.heap.size w w' := by
  obtain ⟨ps, HPS⟩ : ∃ ps, Hid (ps = cutL s.data.toList) := ⟨_, rfl⟩
  rw [← HPS.out]
  by_cases h : okSt ps t = true
  · obtain ⟨hok, t, rfl, hlt⟩ := okSt_true h
    have hn5 := okN_le hok
    obtain ⟨N, HN, hN, hN32, hN0⟩ := wrap_two ps.length hn5
    have HOK := Lib.hid hok
    have HS := Lib.hid hlt
    have htN : t < N := by rw [HN.out]; exact hlt
    have HST := Lib.hid h
    have HV := Lib.hid (orbN_yes h)
    clear h hok hlt
    go_enter Tryd.func23, Tryd.ntmps23
    go_wp2_with fail
    refine (stateOf_any s ((t : Nat) : Int) w hm hs).mono ?_
    rintro e w1 ⟨⟨A, k0, c, rfl, himp⟩, hB1⟩
    rw [← HPS.out] at himp ⊢
    obtain ⟨rfl, hc, hO⟩ := himp HST.out
    rw [HST.out]
    have HR := Lib.hid hO.rd
    have hz1 := hB1.size
    clear hO himp
    go_wp2_with fail
    refine (orbit_any _ _ _ N _ _ HR HOK HN htN).mono ?_
    rintro e w2 ⟨⟨A2, c2, rfl, hc2, hO2⟩, hB2⟩
    have hB12 : Below w.heap.size w w2 := hB1.trans (hB2.mono hz1)
    go_wp2
    go_ret
    exact ⟨⟨A2, c2, by rw [HV.out]; rfl, by rw [HV.out]; exact hc2, by rw [HV.out]; exact hO2.mono (by omega)⟩, hB12⟩
  · have h' : okSt ps t = false := by simpa using h
    have HST := Lib.hid h'
    have HV := Lib.hid (orbN_no (t := t) h')
    clear h h'
    go_enter Tryd.func23, Tryd.ntmps23
    go_wp2_with fail
    refine (stateOf_any s t w hm hs).mono ?_
    rintro e w1 ⟨⟨A, k0, c, rfl, himp⟩, hB1⟩
    clear himp
    rw [← HPS.out, HST.out]
    go_wp2
    go_ret
    exact ⟨⟨none, 0, by rw [HV.out]; rfl, by rw [HV.out]; exact Nat.le_refl _, by rw [HV.out]; exact Own.nil _ _ _⟩, hB1⟩

set_option maxHeartbeats 400000 in
theorem NextOf_any (s : ByteArray) (t : Int) (w : World) (hm : Hid (HasM w)) (hs : s.size ≤ 1073741824) :
    Calls Tryd.prog 37 #[.string s, .int .i64 t] w fun e w' => RetI w.heap.size (nxtN (cutL s.data.toList) t) e w' ∧ Below w.heap.size w w' := by
  obtain ⟨ps, HPS⟩ : ∃ ps, Hid (ps = cutL s.data.toList) := ⟨_, rfl⟩
  rw [← HPS.out]
  by_cases h : okSt ps t = true
  · obtain ⟨hok, t, rfl, hlt⟩ := okSt_true h
    have hn5 := okN_le hok
    obtain ⟨N, HN, hN, hN32, hN0⟩ := wrap_two ps.length hn5
    have HOK := Lib.hid hok
    have HS := Lib.hid hlt
    have htN : t < N := by rw [HN.out]; exact hlt
    have HST := Lib.hid h
    have HV := Lib.hid (nxtN_yes h)
    clear h hok hlt
    go_enter Tryd.func37, Tryd.ntmps37
    go_wp2_with fail
    refine (stateOf_any s ((t : Nat) : Int) w hm hs).mono ?_
    rintro e w1 ⟨⟨A, k0, c, rfl, himp⟩, hB1⟩
    rw [← HPS.out] at himp ⊢
    obtain ⟨rfl, hc, hO⟩ := himp HST.out
    rw [HST.out]
    have HR := Lib.hid hO.rd
    have hz1 := hB1.size
    clear hO himp
    go_wp2_with fail
    refine (next_any _ _ _ _ _ HR HOK HS).mono ?_
    rintro e w2 ⟨⟨A2, c2, rfl, hc2, hO2⟩, hB2⟩
    have hB12 : Below w.heap.size w w2 := hB1.trans (hB2.mono hz1)
    go_wp2
    go_ret
    exact ⟨⟨A2, c2, by rw [HV.out]; rfl, by rw [HV.out]; exact hc2, by rw [HV.out]; exact hO2.mono hz1⟩, hB12⟩
  · have h' : okSt ps t = false := by simpa using h
    have HST := Lib.hid h'
    have HV := Lib.hid (nxtN_no (t := t) h')
    clear h h'
    go_enter Tryd.func37, Tryd.ntmps37
    go_wp2_with fail
    refine (stateOf_any s t w hm hs).mono ?_
    rintro e w1 ⟨⟨A, k0, c, rfl, himp⟩, hB1⟩
    clear himp
    rw [← HPS.out, HST.out]
    go_wp2
    go_ret
    exact ⟨⟨none, 0, by rw [HV.out]; rfl, by rw [HV.out]; exact Nat.le_refl _, by rw [HV.out]; exact Own.nil _ _ _⟩, hB1⟩

set_option maxHeartbeats 400000 in
theorem sTailOf_any (s : ByteArray) (t : Int) (w : World) (hs : s.size ≤ 1073741824) :
    Calls Tryd.prog 49 #[.string s, .int .i64 t] w fun e w' => e = .returned (.int .i64 (tailN (cutL s.data.toList) t)) ∧ Below w.heap.size w w' := by
  obtain ⟨ps, HPS⟩ : ∃ ps, Hid (ps = cutL s.data.toList) := ⟨_, rfl⟩
  rw [← HPS.out]
  by_cases h : okSt ps t = true
  · obtain ⟨hok, t, rfl, hlt⟩ := okSt_true h
    have hn5 := okN_le hok
    obtain ⟨N, HN, hN, hN32, hN0⟩ := wrap_two ps.length hn5
    have HOK := Lib.hid hok
    have HS := Lib.hid hlt
    have htN : t < N := by rw [HN.out]; exact hlt
    have HST := Lib.hid h
    have HV := Lib.hid (tailN_yes h)
    clear h hok hlt
    go_enter Tryd.func49, Tryd.ntmps49
    go_wp2_with fail
    refine (l3State_any s ((t : Nat) : Int) w hs).mono ?_
    rintro e w1 ⟨⟨A, k0, c, rfl, himp⟩, hB1⟩
    rw [← HPS.out] at himp ⊢
    obtain ⟨rfl, hc, hO⟩ := himp HST.out
    rw [HST.out]
    have HR := Lib.hid hO.rd
    have hz1 := hB1.size
    clear hO himp
    go_wp2_with fail
    refine (l4Next_any _ _ N _ _ HR HOK HN).mono ?_
    rintro e w3 ⟨⟨A3, c3, rfl, hc3, hO3⟩, hB3⟩
    have hz3 := hB3.size
    go_wp2_with fail
    refine (l4Orbit_any _ _ _ N _ _ _ (Lib.hid hO3.rd) HOK HN htN (by rw [ints_length, stpTo_len])).mono ?_
    rintro e w2 ⟨⟨A2, c2, rfl, hc2, hO2⟩, hB2⟩
    have hB12 : Below w.heap.size w w2 := hB1.trans ((hB3.trans (hB2.mono hz3)).mono hz1)
    go_wp2
    go_ret
    exact ⟨by rw [HV.out]; rfl, hB12⟩
  · have h' : okSt ps t = false := by simpa using h
    have HST := Lib.hid h'
    have HV := Lib.hid (tailN_no (t := t) h')
    clear h h'
    go_enter Tryd.func49, Tryd.ntmps49
    go_wp2_with fail
    refine (l3State_any s t w hs).mono ?_
    rintro e w1 ⟨⟨A, k0, c, rfl, himp⟩, hB1⟩
    clear himp
    rw [← HPS.out, HST.out]
    go_wp2
    go_ret
    exact ⟨by rw [HV.out]; rfl, hB1⟩

set_option maxHeartbeats 400000 in
theorem sOrbitOf_any (s : ByteArray) (t : Int) (w : World) (hs : s.size ≤ 1073741824) :
    Calls Tryd.prog 48 #[.string s, .int .i64 t] w fun e w' => RetI w.heap.size (orbN (cutL s.data.toList) t) e w' ∧ Below w.heap.size w w' := by
  obtain ⟨ps, HPS⟩ : ∃ ps, Hid (ps = cutL s.data.toList) := ⟨_, rfl⟩
  rw [← HPS.out]
  by_cases h : okSt ps t = true
  · obtain ⟨hok, t, rfl, hlt⟩ := okSt_true h
    have hn5 := okN_le hok
    obtain ⟨N, HN, hN, hN32, hN0⟩ := wrap_two ps.length hn5
    have HOK := Lib.hid hok
    have HS := Lib.hid hlt
    have htN : t < N := by rw [HN.out]; exact hlt
    have HST := Lib.hid h
    have HV := Lib.hid (orbN_yes h)
    clear h hok hlt
    go_enter Tryd.func48, Tryd.ntmps48
    go_wp2_with fail
    refine (l3State_any s ((t : Nat) : Int) w hs).mono ?_
    rintro e w1 ⟨⟨A, k0, c, rfl, himp⟩, hB1⟩
    rw [← HPS.out] at himp ⊢
    obtain ⟨rfl, hc, hO⟩ := himp HST.out
    rw [HST.out]
    have HR := Lib.hid hO.rd
    have hz1 := hB1.size
    clear hO himp
    go_wp2_with fail
    refine (l4Next_any _ _ N _ _ HR HOK HN).mono ?_
    rintro e w3 ⟨⟨A3, c3, rfl, hc3, hO3⟩, hB3⟩
    have hz3 := hB3.size
    go_wp2_with fail
    refine (l4Orbit_any _ _ _ N _ _ _ (Lib.hid hO3.rd) HOK HN htN (by rw [ints_length, stpTo_len])).mono ?_
    rintro e w2 ⟨⟨A2, c2, rfl, hc2, hO2⟩, hB2⟩
    have hB12 : Below w.heap.size w w2 := hB1.trans ((hB3.trans (hB2.mono hz3)).mono hz1)
    go_wp2
    go_ret
    exact ⟨⟨A2, c2, by rw [HV.out]; rfl, by rw [HV.out]; exact hc2, by rw [HV.out]; exact hO2.mono (by omega)⟩, hB12⟩
  · have h' : okSt ps t = false := by simpa using h
    have HST := Lib.hid h'
    have HV := Lib.hid (orbN_no (t := t) h')
    clear h h'
    go_enter Tryd.func48, Tryd.ntmps48
    go_wp2_with fail
    refine (l3State_any s t w hs).mono ?_
    rintro e w1 ⟨⟨A, k0, c, rfl, himp⟩, hB1⟩
    clear himp
    rw [← HPS.out, HST.out]
    go_wp2
    go_ret
    exact ⟨⟨_, 0, by rw [HV.out]; rfl, by rw [HV.out]; exact Nat.le_refl _, by rw [HV.out]; exact Own.nil _ _ _⟩, hB1.alloc hB1.size _⟩

set_option maxHeartbeats 400000 in
theorem sNextOf_any (s : ByteArray) (t : Int) (w : World) (hs : s.size ≤ 1073741824) :
    Calls Tryd.prog 39 #[.string s, .int .i64 t] w fun e w' => RetI w.heap.size (nxtN (cutL s.data.toList) t) e w' ∧ Below w.heap.size w w' := by
  obtain ⟨ps, HPS⟩ : ∃ ps, Hid (ps = cutL s.data.toList) := ⟨_, rfl⟩
  rw [← HPS.out]
  by_cases h : okSt ps t = true
  · obtain ⟨hok, t, rfl, hlt⟩ := okSt_true h
    have hn5 := okN_le hok
    obtain ⟨N, HN, hN, hN32, hN0⟩ := wrap_two ps.length hn5
    have HOK := Lib.hid hok
    have HS := Lib.hid hlt
    have htN : t < N := by rw [HN.out]; exact hlt
    have HST := Lib.hid h
    have HV := Lib.hid (nxtN_yes h)
    clear h hok hlt
    go_enter Tryd.func39, Tryd.ntmps39
    go_wp2_with fail
    refine (l3State_any s ((t : Nat) : Int) w hs).mono ?_
    rintro e w1 ⟨⟨A, k0, c, rfl, himp⟩, hB1⟩
    rw [← HPS.out] at himp ⊢
    obtain ⟨rfl, hc, hO⟩ := himp HST.out
    rw [HST.out]
    have HR := Lib.hid hO.rd
    have hz1 := hB1.size
    clear hO himp
    go_wp2_with fail
    refine (l5Next_any _ _ _ _ _ HR HOK HS).mono ?_
    rintro e w2 ⟨⟨A2, c2, rfl, hc2, hO2⟩, hB2⟩
    have hB12 : Below w.heap.size w w2 := hB1.trans (hB2.mono hz1)
    go_wp2
    go_ret
    exact ⟨⟨A2, c2, by rw [HV.out]; rfl, by rw [HV.out]; exact hc2, by rw [HV.out]; exact hO2.mono hz1⟩, hB12⟩
  · have h' : okSt ps t = false := by simpa using h
    have HST := Lib.hid h'
    have HV := Lib.hid (nxtN_no (t := t) h')
    clear h h'
    go_enter Tryd.func39, Tryd.ntmps39
    go_wp2_with fail
    refine (l3State_any s t w hs).mono ?_
    rintro e w1 ⟨⟨A, k0, c, rfl, himp⟩, hB1⟩
    clear himp
    rw [← HPS.out, HST.out]
    go_wp2
    go_ret
    exact ⟨⟨_, 0, by rw [HV.out]; rfl, by rw [HV.out]; exact Nat.le_refl _, by rw [HV.out]; exact Own.nil _ _ _⟩, hB1.alloc hB1.size _⟩

set_option maxHeartbeats 400000 in
theorem PeriodOf_any (s : ByteArray) (t : Int) (w : World) (hm : Hid (HasM w)) (hs : s.size ≤ 1073741824) :
    Calls Tryd.prog 24 #[.string s, .int .i64 t] w fun e w' => e = .returned (.int .i64 (perN (cutL s.data.toList) t)) ∧ Below w.heap.size w w' := by
  obtain ⟨ps, HPS⟩ : ∃ ps, Hid (ps = cutL s.data.toList) := ⟨_, rfl⟩
  rw [← HPS.out]
  by_cases h : okSt ps t = true
  · obtain ⟨hok, t, rfl, hlt⟩ := okSt_true h
    have hn5 := okN_le hok
    obtain ⟨N, HN, hN, hN32, hN0⟩ := wrap_two ps.length hn5
    have HOK := Lib.hid hok
    have HS := Lib.hid hlt
    have htN : t < N := by rw [HN.out]; exact hlt
    have HST := Lib.hid h
    have HV := Lib.hid (perN_yes h)
    clear h hok hlt
    go_enter Tryd.func24, Tryd.ntmps24
    go_wp2_with fail
    refine (stateOf_any s ((t : Nat) : Int) w hm hs).mono ?_
    rintro e w1 ⟨⟨A, k0, c, rfl, himp⟩, hB1⟩
    rw [← HPS.out] at himp ⊢
    obtain ⟨rfl, hc, hO⟩ := himp HST.out
    rw [HST.out]
    have HR := Lib.hid hO.rd
    have hz1 := hB1.size
    clear hO himp
    have HF := Lib.hid (orb_all (f := stp ps) (N := N) hN32 (fun x _ => by rw [HN.out]; exact stp_lt HOK.out x) htN)
    obtain ⟨hF1, hF2, _⟩ := HF.out
    have hil : (ints (orb (stp ps) t).1).length = (orb (stp ps) t).1.length := ints_length _
    go_wp2_with fail
    refine (orbit_any _ _ _ N _ _ HR HOK HN htN).mono ?_
    rintro e w2 ⟨⟨A2, c2, rfl, hc2, hO2⟩, hB2⟩
    have hB12 : Below w.heap.size w w2 := hB1.trans (hB2.mono hz1)
    go_wp2
    go_ret
    exact ⟨by rw [HV.out, ← hil]; first | rfl | simp, hB12⟩
  · have h' : okSt ps t = false := by simpa using h
    have HST := Lib.hid h'
    have HV := Lib.hid (perN_no (t := t) h')
    clear h h'
    go_enter Tryd.func24, Tryd.ntmps24
    go_wp2_with fail
    refine (stateOf_any s t w hm hs).mono ?_
    rintro e w1 ⟨⟨A, k0, c, rfl, himp⟩, hB1⟩
    clear himp
    rw [← HPS.out, HST.out]
    go_wp2
    go_ret
    exact ⟨by rw [HV.out]; rfl, hB1⟩

theorem sPeriodOf_any (s : ByteArray) (t : Int) (w : World) (hs : s.size ≤ 1073741824) :
    Calls Tryd.prog 50 #[.string s, .int .i64 t] w fun e w' => e = .returned (.int .i64 (perN (cutL s.data.toList) t)) ∧ Below w.heap.size w w' := by
  obtain ⟨ps, HPS⟩ : ∃ ps, Hid (ps = cutL s.data.toList) := ⟨_, rfl⟩
  rw [← HPS.out]
  by_cases h : okSt ps t = true
  · obtain ⟨hok, t, rfl, hlt⟩ := okSt_true h
    have HF := Lib.hid (orb_all (f := stp ps) (N := 2 ^ ps.length) (two_le _ (okN_le hok)) (fun x _ => stp_lt hok x) hlt)
    obtain ⟨hF1, hF2, _⟩ := HF.out
    have h32 := two_le _ (okN_le hok)
    have HV := Lib.hid (perN_yes h)
    have HT := Lib.hid (tailN_yes h)
    have HO := Lib.hid (orbN_yes h)
    have hil : (ints (orb (stp ps) t).1).length = (orb (stp ps) t).1.length := ints_length _
    clear h hok hlt
    go_enter Tryd.func50, Tryd.ntmps50
    go_wp2_with fail
    refine (sTailOf_any s _ w hs).mono ?_
    rintro e w1 ⟨rfl, hB1⟩
    rw [← HPS.out, HT.out]
    go_wp2_with fail
    refine (sOrbitOf_any s _ w1 hs).mono ?_
    rintro e w2 ⟨⟨A2, c2, rfl, hc2, hO2⟩, hB2⟩
    rw [← HPS.out, HO.out]
    go_wp2
    go_ret
    exact ⟨by rw [HV.out, ← hil]; first | rfl | simp, hB1.trans (hB2.mono hB1.size)⟩
  · have h' : okSt ps t = false := by simpa using h
    have HV := Lib.hid (perN_no (t := t) h')
    have HT := Lib.hid (tailN_no (t := t) h')
    clear h h'
    go_enter Tryd.func50, Tryd.ntmps50
    go_wp2_with fail
    refine (sTailOf_any s _ w hs).mono ?_
    rintro e w1 ⟨rfl, hB1⟩
    rw [← HPS.out, HT.out]
    go_wp2
    go_ret
    exact ⟨by rw [HV.out]; rfl, hB1⟩

set_option maxHeartbeats 800000 in
theorem AfterSteps_any (s : ByteArray) (t k : Int) (w : World) (hm : Hid (HasM w)) (hs : s.size ≤ 1073741824) (wk : (Lit.int .i64 k).wf = true) :
    Calls Tryd.prog 21 #[.string s, .int .i64 t, .int .i64 k] w fun e w' => e = .returned (.int .i64 (aftN (cutL s.data.toList) t k)) ∧ Below w.heap.size w w' := by
  have hk63 : k ≤ 9223372036854775807 := by simp [Lit.wf, IntKind.max, IntKind.min, IntKind.bits, IntKind.signed] at wk; omega
  clear wk
  obtain ⟨ps, HPS⟩ : ∃ ps, Hid (ps = cutL s.data.toList) := ⟨_, rfl⟩
  rw [← HPS.out]
  by_cases h : okSt ps t = true
  · by_cases hk : 0 ≤ k
    · obtain ⟨hok, t, rfl, hlt⟩ := okSt_true h
      obtain ⟨k, rfl⟩ : ∃ n : Nat, k = n := ⟨k.toNat, by omega⟩
      have hn5 := okN_le hok
      obtain ⟨N, HN, hN, hN32, hN0⟩ := wrap_two ps.length hn5
      have HOK := Lib.hid hok
      have HS := Lib.hid hlt
      have htN : t < N := by rw [HN.out]; exact hlt
      have HST := Lib.hid h
      have hv := aftN_yes (k := k) h
      have hF := orb_all (f := stp ps) (N := N) hN32 (fun x _ => by rw [HN.out]; exact stp_lt HOK.out x) htN
      obtain ⟨ol, ot, HOO⟩ : ∃ ol ot, Hid (orb (stp ps) t = (ol, ot)) := ⟨_, _, rfl⟩
      rw [HOO.out] at hF hv
      obtain ⟨hF1, hF2, _⟩ := hF
      dsimp only at hF1 hF2 hv
      have HV := Lib.hid hv
      have hil : (ints ol).length = ol.length := ints_length _
      have hal := aftI_lt (o := (ol, ot)) (k := k) hF2
      have HG : Hid (((ints ol).map (Value.int .i64))[aftI (ol, ot) k]? = some (.int .i64 ((ol.getD (aftI (ol, ot) k) 0 : Nat) : Int))) := Lib.hid (by
        rw [ints_at hal, List.getD_eq_getElem?_getD, List.getElem?_eq_getElem hal, Option.getD_some])
      clear h hok hlt hv hal
      go_enter Tryd.func21, Tryd.ntmps21
      go_wp2_with fail
      refine (stateOf_any s _ w hm hs).mono ?_
      rintro e w1 ⟨⟨A, k0, c, rfl, himp⟩, hB1⟩
      rw [← HPS.out] at himp ⊢
      obtain ⟨rfl, hc, hO⟩ := himp HST.out
      rw [HST.out]
      have HR := Lib.hid hO.rd
      have hz1 := hB1.size
      clear hO himp
      go_wp2_with fail
      refine (orbit_any _ _ _ N _ _ HR HOK HN htN).mono ?_
      rintro e w2 ⟨hret, hB2⟩
      rw [HOO.out] at hret
      obtain ⟨A2, c2, rfl, hc2, hO2⟩ := hret
      dsimp only at hc2 hO2 ⊢
      have hB12 : Below w.heap.size w w2 := hB1.trans (hB2.mono hz1)
      obtain ⟨g, off, hA, hcell⟩ := hO2.rd.at_ HG.out
      have HR2 := Lib.hid hO2.rd
      clear hO2
      subst hA
      by_cases hkl : k < ol.length
      · have hai : aftI (ol, ot) k = k := by rw [aftI, if_pos hkl]
        have hc3 : w2.cell? ⟨g, off + k, none⟩ = some (.int .i64 ((ol.getD (aftI (ol, ot) k) 0 : Nat) : Int)) := by rw [← hcell, hai]
        clear hcell hai
        go_wp2
        go_ret
        exact ⟨by rw [HV.out]; rfl, hB12⟩
      · have hai : aftI (ol, ot) k = ot + (k - ot) % (ol.length - ot) := by rw [aftI, if_neg hkl]
        have hml : (k - ot) % (ol.length - ot) < ol.length - ot := Nat.mod_lt _ (by omega)
        obtain ⟨M, hM⟩ : ∃ M, M = (k - ot) % (ol.length - ot) := ⟨_, rfl⟩
        rw [← hM] at hai hml
        have hrem : Int.tmod ((k : Int) - (ot : Int)) ((ol.length : Int) - (ot : Int)) = (M : Int) := by
          rw [show (k : Int) - (ot : Int) = ((k - ot : Nat) : Int) by omega, show (ol.length : Int) - (ot : Int) = ((ol.length - ot : Nat) : Int) by omega, hM]
          rfl
        have hc3 : w2.cell? ⟨g, off + (ot + M), none⟩ = some (.int .i64 ((ol.getD (aftI (ol, ot) k) 0 : Nat) : Int)) := by rw [← hcell, hai]
        have hne : ¬ ((ol.length : Int) - (ot : Int)) = 0 := by omega
        clear hcell hai hM
        go_wp2
        go_ret
        exact ⟨by rw [HV.out]; rfl, hB12⟩
    · have HST := Lib.hid h
      have HV := Lib.hid (aftN_neg (ps := ps) (t := t) hk)
      clear h
      go_enter Tryd.func21, Tryd.ntmps21
      go_wp2_with fail
      refine (stateOf_any s _ w hm hs).mono ?_
      rintro e w1 ⟨⟨A, k0, c, rfl, himp⟩, hB1⟩
      clear himp
      rw [← HPS.out, HST.out]
      go_wp2
      go_ret
      exact ⟨by rw [HV.out]; rfl, hB1⟩
  · have h' : okSt ps t = false := by simpa using h
    have HST := Lib.hid h'
    have HV := Lib.hid (aftN_no (t := t) (k := k) h')
    clear h h'
    go_enter Tryd.func21, Tryd.ntmps21
    go_wp2_with fail
    refine (stateOf_any s _ w hm hs).mono ?_
    rintro e w1 ⟨⟨A, k0, c, rfl, himp⟩, hB1⟩
    clear himp
    rw [← HPS.out, HST.out]
    go_wp2
    go_ret
    exact ⟨by rw [HV.out]; rfl, hB1⟩

set_option maxHeartbeats 800000 in
theorem sAfterSteps_any (s : ByteArray) (t k : Int) (w : World) (hs : s.size ≤ 1073741824) (wk : (Lit.int .i64 k).wf = true) :
    Calls Tryd.prog 22 #[.string s, .int .i64 t, .int .i64 k] w fun e w' => e = .returned (.int .i64 (aftN (cutL s.data.toList) t k)) ∧ Below w.heap.size w w' := by
  have hk63 : k ≤ 9223372036854775807 := by simp [Lit.wf, IntKind.max, IntKind.min, IntKind.bits, IntKind.signed] at wk; omega
  clear wk
  obtain ⟨ps, HPS⟩ : ∃ ps, Hid (ps = cutL s.data.toList) := ⟨_, rfl⟩
  rw [← HPS.out]
  by_cases h : okSt ps t = true
  · by_cases hk : 0 ≤ k
    · obtain ⟨hok, t, rfl, hlt⟩ := okSt_true h
      obtain ⟨k, rfl⟩ : ∃ n : Nat, k = n := ⟨k.toNat, by omega⟩
      have hn5 := okN_le hok
      obtain ⟨N, HN, hN, hN32, hN0⟩ := wrap_two ps.length hn5
      have HOK := Lib.hid hok
      have HS := Lib.hid hlt
      have htN : t < N := by rw [HN.out]; exact hlt
      have HST := Lib.hid h
      have hv := aftN_yes (k := k) h
      have hF := orb_all (f := stp ps) (N := N) hN32 (fun x _ => by rw [HN.out]; exact stp_lt HOK.out x) htN
      obtain ⟨ol, ot, HOO⟩ : ∃ ol ot, Hid (orb (stp ps) t = (ol, ot)) := ⟨_, _, rfl⟩
      rw [HOO.out] at hF hv
      obtain ⟨hF1, hF2, _⟩ := hF
      dsimp only at hF1 hF2 hv
      have HV := Lib.hid hv
      have hil : (ints ol).length = ol.length := ints_length _
      have hal := aftI_lt (o := (ol, ot)) (k := k) hF2
      have HG : Hid (((ints ol).map (Value.int .i64))[aftI (ol, ot) k]? = some (.int .i64 ((ol.getD (aftI (ol, ot) k) 0 : Nat) : Int))) := Lib.hid (by
        rw [ints_at hal, List.getD_eq_getElem?_getD, List.getElem?_eq_getElem hal, Option.getD_some])
      clear h hok hlt hv hal
      go_enter Tryd.func22, Tryd.ntmps22
      go_wp2_with fail
      refine (l3State_any s _ w hs).mono ?_
      rintro e w1 ⟨⟨A, k0, c, rfl, himp⟩, hB1⟩
      rw [← HPS.out] at himp ⊢
      obtain ⟨rfl, hc, hO⟩ := himp HST.out
      rw [HST.out]
      have HR := Lib.hid hO.rd
      have hz1 := hB1.size
      clear hO himp
      go_wp2_with fail
      refine (l4Next_any _ _ N _ _ HR HOK HN).mono ?_
      rintro e w3 ⟨⟨A3, c3, rfl, hc3, hO3⟩, hB3⟩
      have hz3 := hB3.size
      go_wp2_with fail
      refine (l4Orbit_any _ _ _ N _ _ _ (Lib.hid hO3.rd) HOK HN htN (by rw [ints_length, stpTo_len])).mono ?_
      rintro e w2 ⟨hret, hB2⟩
      rw [HOO.out] at hret
      obtain ⟨A2, c2, rfl, hc2, hO2⟩ := hret
      dsimp only at hc2 hO2 ⊢
      have hB12 : Below w.heap.size w w2 := hB1.trans ((hB3.trans (hB2.mono hz3)).mono hz1)
      obtain ⟨g, off, hA, hcell⟩ := hO2.rd.at_ HG.out
      have HR2 := Lib.hid hO2.rd
      clear hO2
      subst hA
      by_cases hkl : k < ol.length
      · have hai : aftI (ol, ot) k = k := by rw [aftI, if_pos hkl]
        have hc3 : w2.cell? ⟨g, off + k, none⟩ = some (.int .i64 ((ol.getD (aftI (ol, ot) k) 0 : Nat) : Int)) := by rw [← hcell, hai]
        clear hcell hai
        go_wp2
        go_ret
        exact ⟨by rw [HV.out]; rfl, hB12⟩
      · have hai : aftI (ol, ot) k = ot + (k - ot) % (ol.length - ot) := by rw [aftI, if_neg hkl]
        have hml : (k - ot) % (ol.length - ot) < ol.length - ot := Nat.mod_lt _ (by omega)
        obtain ⟨M, hM⟩ : ∃ M, M = (k - ot) % (ol.length - ot) := ⟨_, rfl⟩
        rw [← hM] at hai hml
        have hrem : Int.tmod ((k : Int) - (ot : Int)) ((ol.length : Int) - (ot : Int)) = (M : Int) := by
          rw [show (k : Int) - (ot : Int) = ((k - ot : Nat) : Int) by omega, show (ol.length : Int) - (ot : Int) = ((ol.length - ot : Nat) : Int) by omega, hM]
          rfl
        have hc3 : w2.cell? ⟨g, off + (ot + M), none⟩ = some (.int .i64 ((ol.getD (aftI (ol, ot) k) 0 : Nat) : Int)) := by rw [← hcell, hai]
        have hne : ¬ ((ol.length : Int) - (ot : Int)) = 0 := by omega
        clear hcell hai hM
        go_wp2
        go_ret
        exact ⟨by rw [HV.out]; rfl, hB12⟩
    · have HST := Lib.hid h
      have HV := Lib.hid (aftN_neg (ps := ps) (t := t) hk)
      clear h
      go_enter Tryd.func22, Tryd.ntmps22
      go_wp2_with fail
      refine (l3State_any s _ w hs).mono ?_
      rintro e w1 ⟨⟨A, k0, c, rfl, himp⟩, hB1⟩
      clear himp
      rw [← HPS.out, HST.out]
      go_wp2
      go_ret
      exact ⟨by rw [HV.out]; rfl, hB1⟩
  · have h' : okSt ps t = false := by simpa using h
    have HST := Lib.hid h'
    have HV := Lib.hid (aftN_no (t := t) (k := k) h')
    clear h h'
    go_enter Tryd.func22, Tryd.ntmps22
    go_wp2_with fail
    refine (l3State_any s _ w hs).mono ?_
    rintro e w1 ⟨⟨A, k0, c, rfl, himp⟩, hB1⟩
    clear himp
    rw [← HPS.out, HST.out]
    go_wp2
    go_ret
    exact ⟨by rw [HV.out]; rfl, hB1⟩

set_option maxHeartbeats 400000 in
theorem LongestTail_any (s : ByteArray) (w : World) (hm : Hid (HasM w)) (hs : s.size ≤ 1073741824) :
    Calls Tryd.prog 51 #[.string s] w fun e w' => e = .returned (.int .i64 (lonN (cutL s.data.toList))) ∧ Below w.heap.size w w' := by
  obtain ⟨ps, HPS⟩ : ∃ ps, Hid (ps = cutL s.data.toList) := ⟨_, rfl⟩
  rw [← HPS.out]
  by_cases h : okN ps = true
  · have hok := h
    have hn5 := okN_le hok
    obtain ⟨N, HN, hN, hN32, hN0⟩ := wrap_two ps.length hn5
    have HOK := Lib.hid hok
    have HST := Lib.hid h
    have HV := Lib.hid (lonN_yes h HN.out)
    clear h hok
    go_enter Tryd.func51, Tryd.ntmps51
    go_wp2_with fail
    refine (readNetwork_any s w hm hs).mono ?_
    rintro e w1 ⟨⟨A, k0, c, rfl, himp⟩, hB1⟩
    rw [← HPS.out] at himp ⊢
    obtain ⟨rfl, hc, hO⟩ := himp HST.out
    rw [HST.out]
    have HR := Lib.hid hO.rd
    have hz1 := hB1.size
    clear hO himp
    have HL := Lib.hid (fun k hk => lonTo_le HOK.out k hk)
    rw [← HN.out] at HL
    go_wp2_with fail
    refine (states_any _ _ _ N _ hn5 HN).mono ?_
    rintro e w2 ⟨rfl, rfl⟩
    go_wp2
    go_loopw [5, 18] (fun v q wr => ∃ k : Nat, k ≤ N ∧ q = .int .i64 k ∧ v = .int .i64 (lonTo ps k : Int) ∧ Below w1.heap.size w1 wr) (fun _ q _ => N - (intOf q).toNat)
    case atStart => exact ⟨0, Nat.zero_le _, rfl, rfl, Below.refl _ _⟩
    case round =>
      obtain ⟨k, hk, rfl, rfl, hB⟩ := hrel
      have hsz := hB.size
      have hll := HL.out k hk
      by_cases hlt : k < N
      · have hor := (orb_all (f := stp ps) (N := N) hN32 (fun x _ => by rw [HN.out]; exact stp_lt HOK.out x) hlt).1
        have hor2 := (orb_all (f := stp ps) (N := N) hN32 (fun x _ => by rw [HN.out]; exact stp_lt HOK.out x) hlt).2.1
        have hmx : max ((lonTo ps k : Nat) : Int) (((orb (stp ps) k).2 : Nat) : Int) = ((lonTo ps (k + 1) : Nat) : Int) := by rw [lonTo]; omega
        go_wp2_with fail
        refine (orbit_any _ _ _ N _ _ (Lib.hid (HR.out.below hB)) HOK HN hlt).mono ?_
        rintro e w4 ⟨⟨A4, c4, rfl, hc4, hO4⟩, hB4⟩
        by_cases hle : lonTo ps k ≤ (orb (stp ps) k).2
        · go_wp2
          go_roundw
          case rel => exact ⟨k + 1, by omega, by go_num, by rw [← hmx], hB.trans (hB4.mono hsz)⟩
          case measure => simp [intOf]; omega
        · go_wp2
          go_roundw
          case rel => exact ⟨k + 1, by omega, by go_num, by rw [← hmx], hB.trans (hB4.mono hsz)⟩
          case measure => simp [intOf]; omega
      · have hkn : k = N := by omega
        subst hkn
        go_wp2
        go_ret
        exact ⟨by rw [HV.out]; rfl, hB1.trans (hB.mono hz1)⟩
  · have h' : okN ps = false := by simpa using h
    have HST := Lib.hid h'
    have HV := Lib.hid (lonN_no h')
    clear h h'
    go_enter Tryd.func51, Tryd.ntmps51
    go_wp2_with fail
    refine (readNetwork_any s w hm hs).mono ?_
    rintro e w1 ⟨⟨A, k0, c, rfl, himp⟩, hB1⟩
    clear himp
    rw [← HPS.out, HST.out]
    go_wp2
    go_ret
    exact ⟨by rw [HV.out]; rfl, hB1⟩

set_option maxHeartbeats 400000 in
theorem sLongestTail_any (s : ByteArray) (w : World) (hs : s.size ≤ 1073741824) :
    Calls Tryd.prog 71 #[.string s] w fun e w' => e = .returned (.int .i64 (lonN (cutL s.data.toList))) ∧ Below w.heap.size w w' := by
  obtain ⟨ps, HPS⟩ : ∃ ps, Hid (ps = cutL s.data.toList) := ⟨_, rfl⟩
  rw [← HPS.out]
  by_cases h : okN ps = true
  · have hok := h
    have hn5 := okN_le hok
    obtain ⟨N, HN, hN, hN32, hN0⟩ := wrap_two ps.length hn5
    have HOK := Lib.hid hok
    have HST := Lib.hid h
    have HV := Lib.hid (lonN_yes h HN.out)
    clear h hok
    go_enter Tryd.func71, Tryd.ntmps71
    go_wp2_with fail
    refine (l3Open_any s w hs).mono ?_
    rintro e w1 ⟨⟨A, k0, c, rfl, himp⟩, hB1⟩
    rw [← HPS.out] at himp ⊢
    obtain ⟨rfl, hc, hO⟩ := himp HST.out
    rw [HST.out]
    have HR := Lib.hid hO.rd
    have hz1 := hB1.size
    clear hO himp
    have HL := Lib.hid (fun k hk => lonTo_le HOK.out k hk)
    rw [← HN.out] at HL
    go_wp2_with fail
    refine (l4Next_any _ _ N _ _ HR HOK HN).mono ?_
    rintro e w3 ⟨⟨A3, c3, rfl, hc3, hO3⟩, hB3⟩
    have HR3 := Lib.hid hO3.rd
    have hil : (ints (stpTo ps N)).length = N := by rw [ints_length, stpTo_len]
    have hz3 := hB3.size
    go_wp2
    go_loopw [6, 7] (fun v q wr => ∃ k : Nat, k ≤ N ∧ q = .int .i64 k ∧ v = .int .i64 (lonTo ps k : Int) ∧ Below w3.heap.size w3 wr) (fun _ q _ => N - (intOf q).toNat)
    case atStart => exact ⟨0, Nat.zero_le _, rfl, rfl, Below.refl _ _⟩
    case round =>
      obtain ⟨k, hk, rfl, rfl, hB⟩ := hrel
      have hsz := hB.size
      have hll := HL.out k hk
      by_cases hlt : k < N
      · have hor := (orb_all (f := stp ps) (N := N) hN32 (fun x _ => by rw [HN.out]; exact stp_lt HOK.out x) hlt).1
        have hor2 := (orb_all (f := stp ps) (N := N) hN32 (fun x _ => by rw [HN.out]; exact stp_lt HOK.out x) hlt).2.1
        have hmx : max ((lonTo ps k : Nat) : Int) (((orb (stp ps) k).2 : Nat) : Int) = ((lonTo ps (k + 1) : Nat) : Int) := by rw [lonTo]; omega
        go_wp2_with fail
        refine (l4Orbit_any _ _ _ N _ _ _ (Lib.hid (HR3.out.below hB)) HOK HN hlt (by first | rfl | rw [ints_length, stpTo_len])).mono ?_
        rintro e w4 ⟨⟨A4, c4, rfl, hc4, hO4⟩, hB4⟩
        by_cases hle : lonTo ps k ≤ (orb (stp ps) k).2
        · go_wp2
          go_roundw
          case rel => exact ⟨k + 1, by omega, by go_num, by rw [← hmx], hB.trans (hB4.mono hsz)⟩
          case measure => simp [intOf]; omega
        · go_wp2
          go_roundw
          case rel => exact ⟨k + 1, by omega, by go_num, by rw [← hmx], hB.trans (hB4.mono hsz)⟩
          case measure => simp [intOf]; omega
      · have hkn : k = N := by omega
        subst hkn
        go_wp2
        go_ret
        exact ⟨by rw [HV.out]; rfl, hB1.trans ((hB3.trans (hB.mono hz3)).mono hz1)⟩
  · have h' : okN ps = false := by simpa using h
    have HST := Lib.hid h'
    have HV := Lib.hid (lonN_no h')
    clear h h'
    go_enter Tryd.func71, Tryd.ntmps71
    go_wp2_with fail
    refine (l3Open_any s w hs).mono ?_
    rintro e w1 ⟨⟨A, k0, c, rfl, himp⟩, hB1⟩
    clear himp
    rw [← HPS.out, HST.out]
    go_wp2
    go_ret
    exact ⟨by rw [HV.out]; rfl, hB1⟩

end Go.Proofs.YtjinmoeabkpmaaaDoor
