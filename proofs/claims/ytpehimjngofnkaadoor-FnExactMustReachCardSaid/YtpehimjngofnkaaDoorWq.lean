/- Walks of the functions that tell of orbits and of next states. Printed by wip/mkq.py. -/
import Derived.Test.YtpehimjngofnkaaDoorProg
import Derived.WalkKit
import Derived.WalkSpells
import Derived.WalkLawsBesides
import Derived.Lib.Hide
import Derived.Deep.QuietTactic
import Derived.BigQuiet
import Derived.Test.YtpehimjngofnkaaDoorWr
import Derived.Test.YtpehimjngofnkaaDoorWs
namespace Go.Proofs.YtpehimjngofnkaaDoor
open Go.RowKit

def tailN (ps : List (List UInt8)) (t : Int) : Int := if okSt ps t then ((orb (stp ps) t.toNat).2 : Int) else -1
theorem tailN_yes {ps : List (List UInt8)} {t : Nat} (h : okSt ps t = true) : tailN ps t = ((orb (stp ps) t).2 : Int) := if_pos h
theorem tailN_no {ps : List (List UInt8)} {t : Int} (h : okSt ps t = false) : tailN ps t = -1 := by rw [tailN, h]; rfl
def perN (ps : List (List UInt8)) (t : Int) : Int := if okSt ps t then ((orb (stp ps) t.toNat).1.length : Int) - ((orb (stp ps) t.toNat).2 : Int) else -1
theorem perN_yes {ps : List (List UInt8)} {t : Nat} (h : okSt ps t = true) : perN ps t = ((orb (stp ps) t).1.length : Int) - ((orb (stp ps) t).2 : Int) := if_pos h
theorem perN_no {ps : List (List UInt8)} {t : Int} (h : okSt ps t = false) : perN ps t = -1 := by rw [perN, h]; rfl
def orbN (ps : List (List UInt8)) (t : Int) : List Int := if okSt ps t then ints (orb (stp ps) t.toNat).1 else []
theorem orbN_yes {ps : List (List UInt8)} {t : Nat} (h : okSt ps t = true) : orbN ps t = ints (orb (stp ps) t).1 := if_pos h
theorem orbN_no {ps : List (List UInt8)} {t : Int} (h : okSt ps t = false) : orbN ps t = [] := by rw [orbN, h]; rfl
def nxtN (ps : List (List UInt8)) (t : Int) : List Int := if okSt ps t then ints (nextN ps t.toNat) else []
theorem nxtN_yes {ps : List (List UInt8)} {t : Nat} (h : okSt ps t = true) : nxtN ps t = ints (nextN ps t) := if_pos h
theorem nxtN_no {ps : List (List UInt8)} {t : Int} (h : okSt ps t = false) : nxtN ps t = [] := by rw [nxtN, h]; rfl
theorem nxtN_len (ps : List (List UInt8)) (t : Int) : (nxtN ps t).length ≤ 1048576 := by
  by_cases h : okSt ps t = true
  · obtain ⟨hok, s, rfl, _⟩ := okSt_true h
    rw [nxtN_yes h, ints_length]
    have := nextN_len hok s
    omega
  · rw [nxtN_no (by simpa using h)]; simp
theorem orbN_len (ps : List (List UInt8)) (t : Int) : (orbN ps t).length ≤ 1048576 := by
  by_cases h : okSt ps t = true
  · obtain ⟨hok, s, rfl, hs⟩ := okSt_true h
    rw [orbN_yes h, ints_length]
    have h32 := two_le _ (okN_le hok)
    have := (orb_all (f := stp ps) (N := 2 ^ ps.length) h32 (fun x _ => stp_lt hok x) hs).1
    omega
  · rw [orbN_no (by simpa using h)]; simp
/-- the place in the orbit after k steps -/
def aftI (o : List Nat × Nat) (k : Nat) : Nat := if k < o.1.length then k else o.2 + (k - o.2) % (o.1.length - o.2)
def aftN (ps : List (List UInt8)) (t k : Int) : Int := if okSt ps t && decide (0 ≤ k) then ((orb (stp ps) t.toNat).1.getD (aftI (orb (stp ps) t.toNat) k.toNat) 0 : Int) else -1
theorem aftN_yes {ps : List (List UInt8)} {t k : Nat} (h : okSt ps t = true) : aftN ps t k = ((orb (stp ps) t).1.getD (aftI (orb (stp ps) t) k) 0 : Int) := by
  rw [aftN, h, decide_eq_true (by omega)]; rfl
theorem aftN_no {ps : List (List UInt8)} {t k : Int} (h : okSt ps t = false) : aftN ps t k = -1 := by rw [aftN, h]; rfl
theorem aftN_neg {ps : List (List UInt8)} {t k : Int} (h : ¬ 0 ≤ k) : aftN ps t k = -1 := by rw [aftN, decide_eq_false h, Bool.and_false]; rfl
theorem aftI_lt {o : List Nat × Nat} {k : Nat} (h : o.2 < o.1.length) : aftI o k < o.1.length := by
  unfold aftI
  split
  · assumption
  · have : (k - o.2) % (o.1.length - o.2) < o.1.length - o.2 := Nat.mod_lt _ (by omega)
    omega

/-- the greatest number of states ahead of a cycle, of the orbits from the first k states -/
def lonTo (ps : List (List UInt8)) : Nat → Nat
  | 0 => 0
  | k + 1 => max (lonTo ps k) (orb (stp ps) k).2
theorem lonTo_le {ps : List (List UInt8)} (h : okN ps = true) : ∀ k, k ≤ 2 ^ ps.length → lonTo ps k ≤ 32
  | 0, _ => by simp [lonTo]
  | k + 1, hk => by
    have := lonTo_le h k (by omega)
    have h32 := two_le _ (okN_le h)
    have h2 := orb_all (f := stp ps) (N := 2 ^ ps.length) h32 (fun x _ => stp_lt h x) (show k < 2 ^ ps.length by omega)
    rw [lonTo]; omega
def lonN (ps : List (List UInt8)) : Int := if okN ps then (lonTo ps (2 ^ ps.length) : Int) else -1
theorem lonN_yes {ps : List (List UInt8)} {N : Nat} (h : okN ps = true) (hN : N = 2 ^ ps.length) : lonN ps = (lonTo ps N : Int) := by rw [lonN, if_pos h, hN]
theorem lonN_no {ps : List (List UInt8)} (h : okN ps = false) : lonN ps = -1 := by rw [lonN, h]; rfl
set_option maxHeartbeats 400000 in
theorem NextOf_any (s : ByteArray) (t : Int) (w : World) (hm : Hid (HasM w)) (hs : s.size ≤ 1073741824) :
    Calls Tryd.prog 34 #[.string s, .int .i64 t] w fun e w' => RetI w.heap.size (nxtN (cutL s.data.toList) t) e w' ∧ Below w.heap.size w w' := by
  obtain ⟨ps, HPS⟩ : ∃ ps, Hid (ps = cutL s.data.toList) := ⟨_, rfl⟩
  rw [← HPS.out]
  by_cases h : okSt ps t = true
  · obtain ⟨hok, t, rfl, hlt⟩ := okSt_true h
    have hn5 := okN_le hok
    obtain ⟨N, HN, hN, hN32, hN0⟩ := wrap_two ps.length hn5
    have HOK := Lib.hid hok
    have HS := Lib.hid hlt
    have htN : t < N := by rw [HN.out]; exact hlt
    have HST := Lib.hid h
    have HV := Lib.hid (nxtN_yes h)
    clear h hok hlt
    go_enter Tryd.func34, Tryd.ntmps34
    go_wp2_with fail
    refine (stateOf_any s ((t : Nat) : Int) w hm hs).mono ?_
    rintro e w1 ⟨⟨A, k0, c, rfl, himp⟩, hB1⟩
    rw [← HPS.out] at himp ⊢
    obtain ⟨rfl, hc, hO⟩ := himp HST.out
    rw [HST.out]
    have HR := Lib.hid hO.rd
    have hz1 := hB1.size
    clear hO himp
    go_wp2_with fail
    refine (next_any _ _ _ _ _ HR HOK HS).mono ?_
    rintro e w2 ⟨⟨A2, c2, rfl, hc2, hO2⟩, hB2⟩
    have hB12 : Below w.heap.size w w2 := hB1.trans (hB2.mono hz1)
    go_wp2
    go_ret
    exact ⟨⟨A2, c2, by rw [HV.out]; rfl, by rw [HV.out]; exact hc2, by rw [HV.out]; exact hO2.mono hz1⟩, hB12⟩
  · have h' : okSt ps t = false := by simpa using h
    have HST := Lib.hid h'
    have HV := Lib.hid (nxtN_no (t := t) h')
    clear h h'
    go_enter Tryd.func34, Tryd.ntmps34
    go_wp2_with fail
    refine (stateOf_any s t w hm hs).mono ?_
    rintro e w1 ⟨⟨A, k0, c, rfl, himp⟩, hB1⟩
    clear himp
    rw [← HPS.out, HST.out]
    go_wp2
    go_ret
    exact ⟨⟨none, 0, by rw [HV.out]; rfl, by rw [HV.out]; exact Nat.le_refl _, by rw [HV.out]; exact Own.nil _ _ _⟩, hB1⟩

end Go.Proofs.YtpehimjngofnkaaDoor
