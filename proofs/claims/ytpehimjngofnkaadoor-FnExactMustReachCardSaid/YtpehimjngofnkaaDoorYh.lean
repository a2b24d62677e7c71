/- Plain facts for the laws: orbits, cycles, next states of a network. -/
import Derived.Test.YtpehimjngofnkaaDoorProg
import Derived.WalkKit
import Derived.Lib.Hide
import Derived.Test.YtpehimjngofnkaaDoorMw
import Derived.Test.YtpehimjngofnkaaDoorWq
import Derived.Test.YtpehimjngofnkaaDoorY3
import Derived.Test.YtpehimjngofnkaaDoorYc
import Derived.Test.YtpehimjngofnkaaDoorYd
namespace Go.Proofs.YtpehimjngofnkaaDoor
open Go.RowKit
set_option linter.unusedVariables false

/-- what is known of a network with a state -/
theorem st_open {ps : List (List UInt8)} {t : Int} (h : okSt ps t = true) : Hid (okN ps = true) ∧ ∃ N s : Nat, t = (s : Int) ∧ Hid (N = 2 ^ ps.length) ∧ N ≤ 32 ∧ 0 < N ∧ s < N ∧ Hid (∀ x, x < N → okSt ps (x : Int) = true) ∧ ∀ x, x < N → stp ps x < N := by
  obtain ⟨hok, s, rfl, hs⟩ := okSt_true h
  obtain ⟨N, HN⟩ : ∃ N : Nat, N = 2 ^ ps.length := ⟨_, rfl⟩
  refine ⟨hok, N, s, rfl, HN, by rw [HN]; exact two_le _ (okN_le hok), by rw [HN]; exact Nat.two_pow_pos _, by rw [HN]; exact hs, Lib.hid fun x hx => ?_, fun x _ => by rw [HN]; exact stp_lt hok x⟩
  rw [okSt_of hok HN]; simp; omega
theorem itl_int {f : Nat → Nat} {s k i : Nat} (h : i < k) : (ints (itl f s k))[i]? = some ((itf f i s : Nat) : Int) := by
  rw [ints, List.getElem?_map, List.getElem?_eq_getElem (by rw [itl_len]; exact h), itl_get _ _ _ _ h]; rfl
theorem lonTo_ge {ps : List (List UInt8)} {k : Nat} : ∀ N, k < N → (orb (stp ps) k).2 ≤ lonTo ps N
  | 0, h => by omega
  | N + 1, h => by
    rw [lonTo]
    by_cases e : k = N
    · subst e; omega
    · have := lonTo_ge (ps := ps) (k := k) N (by omega); omega
theorem aft_itf {ps : List (List UInt8)} {N x k : Nat} (hN : N ≤ 32) (hf : ∀ x, x < N → stp ps x < N) (hx : x < N) (h : okSt ps (x : Int) = true) : aftN ps (x : Int) (k : Int) = ((itf (stp ps) k x : Nat) : Int) := by
  obtain ⟨L, T, hF⟩ := orb_form hN hf hx
  rw [aftN_yes h, hF.eq]
  have := hF.at_ k
  unfold aftI
  rw [itl_len]
  show (((itl (stp ps) x L).getD (if k < L then k else T + (k - T) % (L - T)) 0 : Nat) : Int) = _
  rw [this]
/-! steps of one switch -/
theorem hold_casesB : ∀ s, s < 32 → ∀ i, i < 5 → ∀ v, v < 2 → (if v == bit s i then holdN s i v == s else (holdN s i v == s ^^^ 2 ^ i) && !(holdN s i v == s)) = true := by decide +kernel
theorem hold_cases (s : Nat) (hs : s < 32) (i : Nat) (hi : i < 5) (v : Nat) (hv : v < 2) : (v = bit s i → holdN s i v = s) ∧ (v ≠ bit s i → holdN s i v = s ^^^ 2 ^ i ∧ holdN s i v ≠ s) := by
  have h := hold_casesB s hs i hi v hv
  by_cases e : v = bit s i
  · rw [if_pos (by simpa using e)] at h
    exact ⟨fun _ => by simpa using h, fun hne => absurd e hne⟩
  · rw [if_neg (by simpa using e)] at h
    exact ⟨fun he => absurd he e, fun _ => by simpa using h⟩
theorem xor_bit : ∀ a, a < 32 → ∀ b, b < 32 → ∀ i, i < 5 → bit (a ^^^ b) i = if bit a i = bit b i then 0 else 1 := by decide +kernel
theorem stp_bit {ps : List (List UInt8)} (h : okN ps = true) {s i : Nat} (hi : i < ps.length) : bit (stp ps s) i = nb ps s i := bit_asm (nb_lt h s) i _ hi
/-- the restless switches are those whose own steps change the state -/
theorem rst_bit {ps : List (List UInt8)} (h : okN ps = true) {s i : Nat} (hs : s < 2 ^ ps.length) (hi : i < ps.length) :
    (stp1 ps s i = s → bit (stp ps s ^^^ s) i = 0) ∧ (stp1 ps s i ≠ s → bit (stp ps s ^^^ s) i = 1 ∧ stp1 ps s i = s ^^^ 2 ^ i) := by
  have h32 := two_le _ (okN_le h)
  have hn5 := okN_le h
  have h1 := xor_bit (stp ps s) (Nat.lt_of_lt_of_le (stp_lt h s) h32) s (Nat.lt_of_lt_of_le hs h32) i (by omega)
  have h2 := hold_cases s (Nat.lt_of_lt_of_le hs h32) i (by omega) (nb ps s i) (nb_lt h s i)
  rw [stp_bit h hi] at h1
  rw [stp1]
  by_cases e : nb ps s i = bit s i
  · rw [if_pos e] at h1
    exact ⟨fun _ => h1, fun hne => absurd (h2.1 e) hne⟩
  · rw [if_neg e] at h1
    exact ⟨fun he => absurd he (h2.2 e).2, fun _ => ⟨h1, (h2.2 e).1⟩⟩
theorem nextTo_pre {ps : List (List UInt8)} {s k : Nat} : ∀ n, k ≤ n → ∃ r, nextTo ps s n = nextTo ps s k ++ r := by
  intro n
  induction n with
  | zero => intro h; exact ⟨[], by rw [show k = 0 by omega]; simp⟩
  | succ n ih =>
    intro h
    by_cases hk : k = n + 1
    · exact ⟨[], by rw [hk]; simp⟩
    · obtain ⟨r, hr⟩ := ih (by omega)
      rw [nextTo]
      split
      · exact ⟨r, hr⟩
      · exact ⟨r ++ [stp1 ps s n], by rw [hr, List.append_assoc]⟩
theorem nextTo_at {ps : List (List UInt8)} {s i : Nat} (hi : i < ps.length) (h : stp1 ps s i ≠ s) : (ints (nextN ps s))[(nextTo ps s i).length]? = some ((stp1 ps s i : Nat) : Int) ∧ (nextTo ps s i).length < (ints (nextN ps s)).length := by
  obtain ⟨r, hr⟩ := nextTo_pre (ps := ps) (s := s) (k := i + 1) ps.length hi
  rw [nextTo, if_neg h] at hr
  constructor
  · rw [nextN, hr, ints, List.getElem?_map, List.append_assoc, List.getElem?_append_right (Nat.le_refl _)]
    simp
  · rw [nextN, ints_length, hr]; simp
/-! sets of states as numbers -/
def maskT (xs : List Nat) : Nat → Nat
  | 0 => 0
  | k + 1 => maskT xs k ||| 2 ^ xs.getD k 0
theorem maskT_lt {xs : List Nat} (h : ∀ i, xs.getD i 0 < 32) : ∀ k, maskT xs k < 2 ^ 32
  | 0 => by simp [maskT]
  | k + 1 => Nat.or_lt_two_pow (maskT_lt h k) (Nat.pow_lt_pow_right (by omega) (h k))
theorem maskT_bit {xs : List Nat} {j : Nat} : ∀ k, j < k → bit (maskT xs k) (xs.getD j 0) = 1
  | 0, h => by omega
  | k + 1, h => by
    rw [maskT, bit_testBit, Nat.testBit_or]
    by_cases e : j = k
    · subst e
      rw [Nat.testBit_two_pow_self, Bool.or_true]; rfl
    · have := maskT_bit (xs := xs) k (show j < k by omega)
      rw [bit_testBit] at this
      cases hb : (maskT xs k).testBit (xs.getD j 0)
      · rw [hb] at this; simp at this
      · rfl
theorem wrap_pow32 : ∀ x, x < 32 → wrap64 ((2 : Int) ^ x) = ((2 ^ x : Nat) : Int) := by decide +kernel
theorem wf_i64 {k : Int} (h : -1 ≤ k ∧ k ≤ 9223372036854775807) : (Lit.int .i64 k).wf = true := by
  simp [Lit.wf, IntKind.max, IntKind.min, IntKind.bits, IntKind.signed]; omega
theorem ints_getD (c : List Nat) (i : Nat) (h : i < c.length) : (ints c)[i]? = some ((c.getD i 0 : Nat) : Int) := by
  rw [ints, List.getElem?_map, List.getD_eq_getElem?_getD, List.getElem?_eq_getElem h]; rfl

end Go.Proofs.YtpehimjngofnkaaDoor
