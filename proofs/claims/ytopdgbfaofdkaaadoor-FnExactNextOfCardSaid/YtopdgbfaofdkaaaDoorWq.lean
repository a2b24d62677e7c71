/- Walks of the functions that tell of orbits and of next states. Printed by wip/mkq.py. -/
import Derived.Test.YtopdgbfaofdkaaaDoorProg
import Derived.WalkKit
import Derived.WalkSpells
import Derived.WalkLawsBesides
import Derived.Lib.Hide
import Derived.Deep.QuietTactic
import Derived.BigQuiet
import Derived.Test.YtopdgbfaofdkaaaDoorWr
import Derived.Test.YtopdgbfaofdkaaaDoorWs
namespace Go.Proofs.YtopdgbfaofdkaaaDoor
open Go.RowKit

def tailN (ps : List (List UInt8)) (t : Int) : Int := if okSt ps t then ((orb (stp ps) t.toNat).2 : Int) else -1
theorem tailN_yes {ps : List (List UInt8)} {t : Nat} (h : okSt ps t = true) : tailN ps t = ((orb (stp ps) t).2 : Int) := if_pos h
theorem tailN_no {ps : List (List UInt8)} {t : Int} (h : okSt ps t = false) : tailN ps t = -1 := by rw [tailN, h]; rfl
def perN (ps : List (List UInt8)) (t : Int) : Int := if okSt ps t then ((orb (stp ps) t.toNat).1.length : Int) - ((orb (stp ps) t.toNat).2 : Int) else -1
theorem perN_yes {ps : List (List UInt8)} {t : Nat} (h : okSt ps t = true) : perN ps t = ((orb (stp ps) t).1.length : Int) - ((orb (stp ps) t).2 : Int) := if_pos h
theorem perN_no {ps : List (List UInt8)} {t : Int} (h : okSt ps t = false) : perN ps t = -1 := by rw [perN, h]; rfl
def orbN (ps : List (List UInt8)) (t : Int) : List Int := if okSt ps t then ints (orb (stp ps) t.toNat).1 else []
theorem orbN_yes {ps : List (List UInt8)} {t : Nat} (h : okSt ps t = true) : orbN ps t = ints (orb (stp ps) t).1 := if_pos h
theorem orbN_no {ps : List (List UInt8)} {t : Int} (h : okSt ps t = false) : orbN ps t = [] := by rw [orbN, h]; rfl
def nxtN (ps : List (List UInt8)) (t : Int) : List Int := if okSt ps t then ints (nextN ps t.toNat) else []
theorem nxtN_yes {ps : List (List UInt8)} {t : Nat} (h : okSt ps t = true) : nxtN ps t = ints (nextN ps t) := if_pos h
theorem nxtN_no {ps : List (List UInt8)} {t : Int} (h : okSt ps t = false) : nxtN ps t = [] := by rw [nxtN, h]; rfl
theorem nxtN_len (ps : List (List UInt8)) (t : Int) : (nxtN ps t).length ≤ 1048576 := by
  by_cases h : okSt ps t = true
  · obtain ⟨hok, s, rfl, _⟩ := okSt_true h
    rw [nxtN_yes h, ints_length]
    have := nextN_len hok s
    omega
  · rw [nxtN_no (by simpa using h)]; simp
theorem orbN_len (ps : List (List UInt8)) (t : Int) : (orbN ps t).length ≤ 1048576 := by
  by_cases h : okSt ps t = true
  · obtain ⟨hok, s, rfl, hs⟩ := okSt_true h
    rw [orbN_yes h, ints_length]
    have h32 := two_le _ (okN_le hok)
    have := (orb_all (f := stp ps) (N := 2 ^ ps.length) h32 (fun x _ => stp_lt hok x) hs).1
    omega
  · rw [orbN_no (by simpa using h)]; simp
/-- the place in the orbit after k steps -/
def aftI (o : List Nat × Nat) (k : Nat) : Nat := if k < o.1.length then k else o.2 + (k - o.2) % (o.1.length - o.2)
def aftN (ps : List (List UInt8)) (t k : Int) : Int := if okSt ps t && decide (0 ≤ k) then ((orb (stp ps) t.toNat).1.getD (aftI (orb (stp ps) t.toNat) k.toNat) 0 : Int) else -1
theorem aftN_yes {ps : List (List UInt8)} {t k : Nat} (h : okSt ps t = true) : aftN ps t k = ((orb (stp ps) t).1.getD (aftI (orb (stp ps) t) k) 0 : Int) := by
  rw [aftN, h, decide_eq_true (by omega)]; rfl
theorem aftN_no {ps : List (List UInt8)} {t k : Int} (h : okSt ps t = false) : aftN ps t k = -1 := by rw [aftN, h]; rfl
theorem aftN_neg {ps : List (List UInt8)} {t k : Int} (h : ¬ 0 ≤ k) : aftN ps t k = -1 := by rw [aftN, decide_eq_false h, Bool.and_false]; rfl
theorem aftI_lt {o : List Nat × Nat} {k : Nat} (h : o.2 < o.1.length) : aftI o k < o.1.length := by
  unfold aftI
  split
  · assumption
  · have : (k - o.2) % (o.1.length - o.2) < o.1.length - o.2 := Nat.mod_lt _ (by omega)
    omega
set_option maxHeartbeats 400000 in
theorem TailOf_any (s : ByteArray) (t : Int) (w : World) (hm : Hid (HasM w)) (hs : s.size ≤ 1073741824) :
    Calls Tryd.prog 31 #[.string s, .int .i64 t] w fun e w' => e = .returned (.int .i64 (tailN (cutL s.data.toList) t)) ∧ Below w.heap.size w w' := by
  obtain ⟨ps, HPS⟩ : ∃ ps, Hid (ps = cutL s.data.toList) := ⟨_, rfl⟩
  rw [← HPS.out]
  by_cases h : okSt ps t = true
  · obtain ⟨hok, t, rfl, hlt⟩ := okSt_true h
    have hn5 := okN_le hok
    obtain ⟨N, HN, hN, hN32, hN0⟩ := wrap_two ps.length hn5
    have HOK := Lib.hid hok
    have HS := Lib.hid hlt
    have htN : t < N := by rw [HN.out]; exact hlt
    have HST := Lib.hid h
    have HV := Lib.hid (tailN_yes h)
    clear h hok hlt
    go_enter Tryd.func31, Tryd.ntmps31
    go_wp2_with fail
    refine (stateOf_any s ((t : Nat) : Int) w hm hs).mono ?_
    rintro e w1 ⟨⟨A, k0, c, rfl, himp⟩, hB1⟩
    rw [← HPS.out] at himp ⊢
    obtain ⟨rfl, hc, hO⟩ := himp HST.out
    rw [HST.out]
    have HR := Lib.hid hO.rd
    have hz1 := hB1.size
    clear hO himp
    go_wp2_with fail
    refine (orbit_any _ _ _ N _ _ HR HOK HN htN).mono ?_
    rintro e w2 ⟨⟨A2, c2, rfl, hc2, hO2⟩, hB2⟩
    have hB12 : Below w.heap.size w w2 := hB1.trans (hB2.mono hz1)
    go_wp2
    go_ret
    exact ⟨by rw [HV.out]; rfl, hB12⟩
  · have h' : okSt ps t = false := by simpa using h
    have HST := Lib.hid h'
    have HV := Lib.hid (tailN_no (t := t) h')
    clear h h'
    go_enter Tryd.func31, Tryd.ntmps31
    go_wp2_with fail
    refine (stateOf_any s t w hm hs).mono ?_
    rintro e w1 ⟨⟨A, k0, c, rfl, himp⟩, hB1⟩
    clear himp
    rw [← HPS.out, HST.out]
    go_wp2
    go_ret
    exact ⟨by rw [HV.out]; rfl, hB1⟩

set_option maxHeartbeats 400000 in
theorem OrbitOf_any (s : ByteArray) (t : Int) (w : World) (hm : Hid (HasM w)) (hs : s.size ≤ 1073741824) :
    Calls Tryd.prog 50 #[.string s, .int .i64 t] w fun e w' => RetI w.heap.size (orbN (cutL s.data.toList) t) e w' ∧ Below w.heap.size w w' := by
  obtain ⟨ps, HPS⟩ : ∃ ps, Hid (ps = cutL s.data.toList) := ⟨_, rfl⟩
  rw [← HPS.out]
  by_cases h : okSt ps t = true
  · obtain ⟨hok, t, rfl, hlt⟩ := okSt_true h
    have hn5 := okN_le hok
    obtain ⟨N, HN, hN, hN32, hN0⟩ := wrap_two ps.length hn5
    have HOK := Lib.hid hok
    have HS := Lib.hid hlt
    have htN : t < N := by rw [HN.out]; exact hlt
    have HST := Lib.hid h
    have HV := Lib.hid (orbN_yes h)
    clear h hok hlt
    go_enter Tryd.func50, Tryd.ntmps50
    go_wp2_with fail
    refine (stateOf_any s ((t : Nat) : Int) w hm hs).mono ?_
    rintro e w1 ⟨⟨A, k0, c, rfl, himp⟩, hB1⟩
    rw [← HPS.out] at himp ⊢
    obtain ⟨rfl, hc, hO⟩ := himp HST.out
    rw [HST.out]
    have HR := Lib.hid hO.rd
    have hz1 := hB1.size
    clear hO himp
    go_wp2_with fail
    refine (orbit_any _ _ _ N _ _ HR HOK HN htN).mono ?_
    rintro e w2 ⟨⟨A2, c2, rfl, hc2, hO2⟩, hB2⟩
    have hB12 : Below w.heap.size w w2 := hB1.trans (hB2.mono hz1)
    go_wp2
    go_ret
    exact ⟨⟨A2, c2, by rw [HV.out]; rfl, by rw [HV.out]; exact hc2, by rw [HV.out]; exact hO2.mono (by omega)⟩, hB12⟩
  · have h' : okSt ps t = false := by simpa using h
    have HST := Lib.hid h'
    have HV := Lib.hid (orbN_no (t := t) h')
    clear h h'
    go_enter Tryd.func50, Tryd.ntmps50
    go_wp2_with fail
    refine (stateOf_any s t w hm hs).mono ?_
    rintro e w1 ⟨⟨A, k0, c, rfl, himp⟩, hB1⟩
    clear himp
    rw [← HPS.out, HST.out]
    go_wp2
    go_ret
    exact ⟨⟨none, 0, by rw [HV.out]; rfl, by rw [HV.out]; exact Nat.le_refl _, by rw [HV.out]; exact Own.nil _ _ _⟩, hB1⟩

set_option maxHeartbeats 400000 in
theorem NextOf_any (s : ByteArray) (t : Int) (w : World) (hm : Hid (HasM w)) (hs : s.size ≤ 1073741824) :
    Calls Tryd.prog 37 #[.string s, .int .i64 t] w fun e w' => RetI w.heap.size (nxtN (cutL s.data.toList) t) e w' ∧ Below w.heap.size w w' := by
  obtain ⟨ps, HPS⟩ : ∃ ps, Hid (ps = cutL s.data.toList) := ⟨_, rfl⟩
  rw [← HPS.out]
  by_cases h : okSt ps t = true
  · obtain ⟨hok, t, rfl, hlt⟩ := okSt_true h
    have hn5 := okN_le hok
    obtain ⟨N, HN, hN, hN32, hN0⟩ := wrap_two ps.length hn5
    have HOK := Lib.hid hok
    have HS := Lib.hid hlt
    have htN : t < N := by rw [HN.out]; exact hlt
    have HST := Lib.hid h
    have HV := Lib.hid (nxtN_yes h)
    clear h hok hlt
    go_enter Tryd.func37, Tryd.ntmps37
    go_wp2_with fail
    refine (stateOf_any s ((t : Nat) : Int) w hm hs).mono ?_
    rintro e w1 ⟨⟨A, k0, c, rfl, himp⟩, hB1⟩
    rw [← HPS.out] at himp ⊢
    obtain ⟨rfl, hc, hO⟩ := himp HST.out
    rw [HST.out]
    have HR := Lib.hid hO.rd
    have hz1 := hB1.size
    clear hO himp
    go_wp2_with fail
    refine (next_any _ _ _ _ _ HR HOK HS).mono ?_
    rintro e w2 ⟨⟨A2, c2, rfl, hc2, hO2⟩, hB2⟩
    have hB12 : Below w.heap.size w w2 := hB1.trans (hB2.mono hz1)
    go_wp2
    go_ret
    exact ⟨⟨A2, c2, by rw [HV.out]; rfl, by rw [HV.out]; exact hc2, by rw [HV.out]; exact hO2.mono hz1⟩, hB12⟩
  · have h' : okSt ps t = false := by simpa using h
    have HST := Lib.hid h'
    have HV := Lib.hid (nxtN_no (t := t) h')
    clear h h'
    go_enter Tryd.func37, Tryd.ntmps37
    go_wp2_with fail
    refine (stateOf_any s t w hm hs).mono ?_
    rintro e w1 ⟨⟨A, k0, c, rfl, himp⟩, hB1⟩
    clear himp
    rw [← HPS.out, HST.out]
    go_wp2
    go_ret
    exact ⟨⟨none, 0, by rw [HV.out]; rfl, by rw [HV.out]; exact Nat.le_refl _, by rw [HV.out]; exact Own.nil _ _ _⟩, hB1⟩

set_option maxHeartbeats 400000 in
theorem sTailOf_any (s : ByteArray) (t : Int) (w : World) (hs : s.size ≤ 1073741824) :
    Calls Tryd.prog 30 #[.string s, .int .i64 t] w fun e w' => e = .returned (.int .i64 (tailN (cutL s.data.toList) t)) ∧ Below w.heap.size w w' := by
  obtain ⟨ps, HPS⟩ : ∃ ps, Hid (ps = cutL s.data.toList) := ⟨_, rfl⟩
  rw [← HPS.out]
  by_cases h : okSt ps t = true
  · obtain ⟨hok, t, rfl, hlt⟩ := okSt_true h
    have hn5 := okN_le hok
    obtain ⟨N, HN, hN, hN32, hN0⟩ := wrap_two ps.length hn5
    have HOK := Lib.hid hok
    have HS := Lib.hid hlt
    have htN : t < N := by rw [HN.out]; exact hlt
    have HST := Lib.hid h
    have HV := Lib.hid (tailN_yes h)
    clear h hok hlt
    go_enter Tryd.func30, Tryd.ntmps30
    go_wp2_with fail
    refine (l3State_any s ((t : Nat) : Int) w hs).mono ?_
    rintro e w1 ⟨⟨A, k0, c, rfl, himp⟩, hB1⟩
    rw [← HPS.out] at himp ⊢
    obtain ⟨rfl, hc, hO⟩ := himp HST.out
    rw [HST.out]
    have HR := Lib.hid hO.rd
    have hz1 := hB1.size
    clear hO himp
    go_wp2_with fail
    refine (l4Next_any _ _ N _ _ HR HOK HN).mono ?_
    rintro e w3 ⟨⟨A3, c3, rfl, hc3, hO3⟩, hB3⟩
    have hz3 := hB3.size
    go_wp2_with fail
    refine (l4Orbit_any _ _ _ N _ _ _ (Lib.hid hO3.rd) HOK HN htN (by rw [ints_length, stpTo_len])).mono ?_
    rintro e w2 ⟨⟨A2, c2, rfl, hc2, hO2⟩, hB2⟩
    have hB12 : Below w.heap.size w w2 := hB1.trans ((hB3.trans (hB2.mono hz3)).mono hz1)
    go_wp2
    go_ret
    exact ⟨by rw [HV.out]; rfl, hB12⟩
  · have h' : okSt ps t = false := by simpa using h
    have HST := Lib.hid h'
    have HV := Lib.hid (tailN_no (t := t) h')
    clear h h'
    go_enter Tryd.func30, Tryd.ntmps30
    go_wp2_with fail
    refine (l3State_any s t w hs).mono ?_
    rintro e w1 ⟨⟨A, k0, c, rfl, himp⟩, hB1⟩
    clear himp
    rw [← HPS.out, HST.out]
    go_wp2
    go_ret
    exact ⟨by rw [HV.out]; rfl, hB1⟩

set_option maxHeartbeats 400000 in
theorem sOrbitOf_any (s : ByteArray) (t : Int) (w : World) (hs : s.size ≤ 1073741824) :
    Calls Tryd.prog 49 #[.string s, .int .i64 t] w fun e w' => RetI w.heap.size (orbN (cutL s.data.toList) t) e w' ∧ Below w.heap.size w w' := by
  obtain ⟨ps, HPS⟩ : ∃ ps, Hid (ps = cutL s.data.toList) := ⟨_, rfl⟩
  rw [← HPS.out]
  by_cases h : okSt ps t = true
  · obtain ⟨hok, t, rfl, hlt⟩ := okSt_true h
    have hn5 := okN_le hok
    obtain ⟨N, HN, hN, hN32, hN0⟩ := wrap_two ps.length hn5
    have HOK := Lib.hid hok
    have HS := Lib.hid hlt
    have htN : t < N := by rw [HN.out]; exact hlt
    have HST := Lib.hid h
    have HV := Lib.hid (orbN_yes h)
    clear h hok hlt
    go_enter Tryd.func49, Tryd.ntmps49
    go_wp2_with fail
    refine (l3State_any s ((t : Nat) : Int) w hs).mono ?_
    rintro e w1 ⟨⟨A, k0, c, rfl, himp⟩, hB1⟩
    rw [← HPS.out] at himp ⊢
    obtain ⟨rfl, hc, hO⟩ := himp HST.out
    rw [HST.out]
    have HR := Lib.hid hO.rd
    have hz1 := hB1.size
    clear hO himp
    go_wp2_with fail
    refine (l4Next_any _ _ N _ _ HR HOK HN).mono ?_
    rintro e w3 ⟨⟨A3, c3, rfl, hc3, hO3⟩, hB3⟩
    have hz3 := hB3.size
    go_wp2_with fail
    refine (l4Orbit_any _ _ _ N _ _ _ (Lib.hid hO3.rd) HOK HN htN (by rw [ints_length, stpTo_len])).mono ?_
    rintro e w2 ⟨⟨A2, c2, rfl, hc2, hO2⟩, hB2⟩
    have hB12 : Below w.heap.size w w2 := hB1.trans ((hB3.trans (hB2.mono hz3)).mono hz1)
    go_wp2
    go_ret
    exact ⟨⟨A2, c2, by rw [HV.out]; rfl, by rw [HV.out]; exact hc2, by rw [HV.out]; exact hO2.mono (by omega)⟩, hB12⟩
  · have h' : okSt ps t = false := by simpa using h
    have HST := Lib.hid h'
    have HV := Lib.hid (orbN_no (t := t) h')
    clear h h'
    go_enter Tryd.func49, Tryd.ntmps49
    go_wp2_with fail
    refine (l3State_any s t w hs).mono ?_
    rintro e w1 ⟨⟨A, k0, c, rfl, himp⟩, hB1⟩
    clear himp
    rw [← HPS.out, HST.out]
    go_wp2
    go_ret
    exact ⟨⟨_, 0, by rw [HV.out]; rfl, by rw [HV.out]; exact Nat.le_refl _, by rw [HV.out]; exact Own.nil _ _ _⟩, hB1.alloc hB1.size _⟩

set_option maxHeartbeats 400000 in
theorem sNextOf_any (s : ByteArray) (t : Int) (w : World) (hs : s.size ≤ 1073741824) :
    Calls Tryd.prog 36 #[.string s, .int .i64 t] w fun e w' => RetI w.heap.size (nxtN (cutL s.data.toList) t) e w' ∧ Below w.heap.size w w' := by
  obtain ⟨ps, HPS⟩ : ∃ ps, Hid (ps = cutL s.data.toList) := ⟨_, rfl⟩
  rw [← HPS.out]
  by_cases h : okSt ps t = true
  · obtain ⟨hok, t, rfl, hlt⟩ := okSt_true h
    have hn5 := okN_le hok
    obtain ⟨N, HN, hN, hN32, hN0⟩ := wrap_two ps.length hn5
    have HOK := Lib.hid hok
    have HS := Lib.hid hlt
    have htN : t < N := by rw [HN.out]; exact hlt
    have HST := Lib.hid h
    have HV := Lib.hid (nxtN_yes h)
    clear h hok hlt
    go_enter Tryd.func36, Tryd.ntmps36
    go_wp2_with fail
    refine (l3State_any s ((t : Nat) : Int) w hs).mono ?_
    rintro e w1 ⟨⟨A, k0, c, rfl, himp⟩, hB1⟩
    rw [← HPS.out] at himp ⊢
    obtain ⟨rfl, hc, hO⟩ := himp HST.out
    rw [HST.out]
    have HR := Lib.hid hO.rd
    have hz1 := hB1.size
    clear hO himp
    go_wp2_with fail
    refine (l5Next_any _ _ _ _ _ HR HOK HS).mono ?_
    rintro e w2 ⟨⟨A2, c2, rfl, hc2, hO2⟩, hB2⟩
    have hB12 : Below w.heap.size w w2 := hB1.trans (hB2.mono hz1)
    go_wp2
    go_ret
    exact ⟨⟨A2, c2, by rw [HV.out]; rfl, by rw [HV.out]; exact hc2, by rw [HV.out]; exact hO2.mono hz1⟩, hB12⟩
  · have h' : okSt ps t = false := by simpa using h
    have HST := Lib.hid h'
    have HV := Lib.hid (nxtN_no (t := t) h')
    clear h h'
    go_enter Tryd.func36, Tryd.ntmps36
    go_wp2_with fail
    refine (l3State_any s t w hs).mono ?_
    rintro e w1 ⟨⟨A, k0, c, rfl, himp⟩, hB1⟩
    clear himp
    rw [← HPS.out, HST.out]
    go_wp2
    go_ret
    exact ⟨⟨_, 0, by rw [HV.out]; rfl, by rw [HV.out]; exact Nat.le_refl _, by rw [HV.out]; exact Own.nil _ _ _⟩, hB1.alloc hB1.size _⟩

set_option maxHeartbeats 400000 in
theorem PeriodOf_any (s : ByteArray) (t : Int) (w : World) (hm : Hid (HasM w)) (hs : s.size ≤ 1073741824) :
    Calls Tryd.prog 46 #[.string s, .int .i64 t] w fun e w' => e = .returned (.int .i64 (perN (cutL s.data.toList) t)) ∧ Below w.heap.size w w' := by
  obtain ⟨ps, HPS⟩ : ∃ ps, Hid (ps = cutL s.data.toList) := ⟨_, rfl⟩
  rw [← HPS.out]
  by_cases h : okSt ps t = true
  · obtain ⟨hok, t, rfl, hlt⟩ := okSt_true h
    have hn5 := okN_le hok
    obtain ⟨N, HN, hN, hN32, hN0⟩ := wrap_two ps.length hn5
    have HOK := Lib.hid hok
    have HS := Lib.hid hlt
    have htN : t < N := by rw [HN.out]; exact hlt
    have HST := Lib.hid h
    have HV := Lib.hid (perN_yes h)
    clear h hok hlt
    go_enter Tryd.func46, Tryd.ntmps46
    go_wp2_with fail
    refine (stateOf_any s ((t : Nat) : Int) w hm hs).mono ?_
    rintro e w1 ⟨⟨A, k0, c, rfl, himp⟩, hB1⟩
    rw [← HPS.out] at himp ⊢
    obtain ⟨rfl, hc, hO⟩ := himp HST.out
    rw [HST.out]
    have HR := Lib.hid hO.rd
    have hz1 := hB1.size
    clear hO himp
    have HF := Lib.hid (orb_all (f := stp ps) (N := N) hN32 (fun x _ => by rw [HN.out]; exact stp_lt HOK.out x) htN)
    obtain ⟨hF1, hF2, _⟩ := HF.out
    have hil : (ints (orb (stp ps) t).1).length = (orb (stp ps) t).1.length := ints_length _
    go_wp2_with fail
    refine (orbit_any _ _ _ N _ _ HR HOK HN htN).mono ?_
    rintro e w2 ⟨⟨A2, c2, rfl, hc2, hO2⟩, hB2⟩
    have hB12 : Below w.heap.size w w2 := hB1.trans (hB2.mono hz1)
    go_wp2
    go_ret
    exact ⟨by rw [HV.out, ← hil]; first | rfl | simp, hB12⟩
  · have h' : okSt ps t = false := by simpa using h
    have HST := Lib.hid h'
    have HV := Lib.hid (perN_no (t := t) h')
    clear h h'
    go_enter Tryd.func46, Tryd.ntmps46
    go_wp2_with fail
    refine (stateOf_any s t w hm hs).mono ?_
    rintro e w1 ⟨⟨A, k0, c, rfl, himp⟩, hB1⟩
    clear himp
    rw [← HPS.out, HST.out]
    go_wp2
    go_ret
    exact ⟨by rw [HV.out]; rfl, hB1⟩

theorem sPeriodOf_any (s : ByteArray) (t : Int) (w : World) (hs : s.size ≤ 1073741824) :
    Calls Tryd.prog 45 #[.string s, .int .i64 t] w fun e w' => e = .returned (.int .i64 (perN (cutL s.data.toList) t)) ∧ Below w.heap.size w w' := by
  obtain ⟨ps, HPS⟩ : ∃ ps, Hid (ps = cutL s.data.toList) := ⟨_, rfl⟩
  rw [← HPS.out]
  by_cases h : okSt ps t = true
  · obtain ⟨hok, t, rfl, hlt⟩ := okSt_true h
    have HF := Lib.hid (orb_all (f := stp ps) (N := 2 ^ ps.length) (two_le _ (okN_le hok)) (fun x _ => stp_lt hok x) hlt)
    obtain ⟨hF1, hF2, _⟩ := HF.out
    have h32 := two_le _ (okN_le hok)
    have HV := Lib.hid (perN_yes h)
    have HT := Lib.hid (tailN_yes h)
    have HO := Lib.hid (orbN_yes h)
    have hil : (ints (orb (stp ps) t).1).length = (orb (stp ps) t).1.length := ints_length _
    clear h hok hlt
    go_enter Tryd.func45, Tryd.ntmps45
    go_wp2_with fail
    refine (sTailOf_any s _ w hs).mono ?_
    rintro e w1 ⟨rfl, hB1⟩
    rw [← HPS.out, HT.out]
    go_wp2_with fail
    refine (sOrbitOf_any s _ w1 hs).mono ?_
    rintro e w2 ⟨⟨A2, c2, rfl, hc2, hO2⟩, hB2⟩
    rw [← HPS.out, HO.out]
    go_wp2
    go_ret
    exact ⟨by rw [HV.out, ← hil]; first | rfl | simp, hB1.trans (hB2.mono hB1.size)⟩
  · have h' : okSt ps t = false := by simpa using h
    have HV := Lib.hid (perN_no (t := t) h')
    have HT := Lib.hid (tailN_no (t := t) h')
    clear h h'
    go_enter Tryd.func45, Tryd.ntmps45
    go_wp2_with fail
    refine (sTailOf_any s _ w hs).mono ?_
    rintro e w1 ⟨rfl, hB1⟩
    rw [← HPS.out, HT.out]
    go_wp2
    go_ret
    exact ⟨by rw [HV.out]; rfl, hB1⟩

end Go.Proofs.YtopdgbfaofdkaaaDoor
