/- Plain facts for the laws: orbits, cycles, next states of a network. -/
import Derived.Test.YtjinmoeabkpmaaaDoorProg
import Derived.WalkKit
import Derived.Lib.Hide
import Derived.Test.YtjinmoeabkpmaaaDoorMw
import Derived.Test.YtjinmoeabkpmaaaDoorWq
import Derived.Test.YtjinmoeabkpmaaaDoorY3
import Derived.Test.YtjinmoeabkpmaaaDoorYc
import Derived.Test.YtjinmoeabkpmaaaDoorYd
namespace Go.Proofs.YtjinmoeabkpmaaaDoor
open Go.RowKit
set_option linter.unusedVariables false

/-- what is known of a network with a state -/
theorem st_open {ps : List (List UInt8)} {t : Int} (h : okSt ps t = true) : Hid (okN ps = true) ∧ ∃ N s : Nat, t = (s : Int) ∧ Hid (N = 2 ^ ps.length) ∧ N ≤ 32 ∧ 0 < N ∧ s < N ∧ Hid (∀ x, x < N → okSt ps (x : Int) = true) ∧ ∀ x, x < N → stp ps x < N := by
  obtain ⟨hok, s, rfl, hs⟩ := okSt_true h
  obtain ⟨N, HN⟩ : ∃ N : Nat, N = 2 ^ ps.length := ⟨_, rfl⟩
  refine ⟨hok, N, s, rfl, HN, by rw [HN]; exact two_le _ (okN_le hok), by rw [HN]; exact Nat.two_pow_pos _, by rw [HN]; exact hs, Lib.hid fun x hx => ?_, fun x _ => by rw [HN]; exact stp_lt hok x⟩
  rw [okSt_of hok HN]; simp; omega
theorem itl_int {f : Nat → Nat} {s k i : Nat} (h : i < k) : (ints (itl f s k))[i]? = some ((itf f i s : Nat) : Int) := by
  rw [ints, List.getElem?_map, List.getElem?_eq_getElem (by rw [itl_len]; exact h), itl_get _ _ _ _ h]; rfl
theorem lonTo_ge {ps : List (List UInt8)} {k : Nat} : ∀ N, k < N → (orb (stp ps) k).2 ≤ lonTo ps N
  | 0, h => by omega
  | N + 1, h => by
    rw [lonTo]
    by_cases e : k = N
    · subst e; omega
    · have := lonTo_ge (ps := ps) (k := k) N (by omega); omega
theorem aft_itf {ps : List (List UInt8)} {N x k : Nat} (hN : N ≤ 32) (hf : ∀ x, x < N → stp ps x < N) (hx : x < N) (h : okSt ps (x : Int) = true) : aftN ps (x : Int) (k : Int) = ((itf (stp ps) k x : Nat) : Int) := by
  obtain ⟨L, T, hF⟩ := orb_form hN hf hx
  rw [aftN_yes h, hF.eq]
  have := hF.at_ k
  unfold aftI
  rw [itl_len]
  show (((itl (stp ps) x L).getD (if k < L then k else T + (k - T) % (L - T)) 0 : Nat) : Int) = _
  rw [this]
theorem wf_i64 {k : Int} (h : -1 ≤ k ∧ k ≤ 9223372036854775807) : (Lit.int .i64 k).wf = true := by
  simp [Lit.wf, IntKind.max, IntKind.min, IntKind.bits, IntKind.signed]; omega
theorem ints_getD (c : List Nat) (i : Nat) (h : i < c.length) : (ints c)[i]? = some ((c.getD i 0 : Nat) : Int) := by
  rw [ints, List.getElem?_map, List.getD_eq_getElem?_getD, List.getElem?_eq_getElem h]; rfl

end Go.Proofs.YtjinmoeabkpmaaaDoor
