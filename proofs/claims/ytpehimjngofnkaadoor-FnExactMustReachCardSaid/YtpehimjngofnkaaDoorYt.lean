/- Plain facts on attractors as lists. -/
import Derived.Test.YtpehimjngofnkaaDoorProg
import Derived.WalkKit
import Derived.Lib.Hide
import Derived.Test.YtpehimjngofnkaaDoorMs
import Derived.Test.YtpehimjngofnkaaDoorYh
namespace Go.Proofs.YtpehimjngofnkaaDoor
open Go.RowKit
set_option linter.unusedVariables false

/-- the attractors whose least states are below k -/
def attTo (rb : Nat → Nat → Bool) (N k : Nat) : List (List Int) := (atts rb N k).map fun a => ints (sel N (rb a))
theorem attTo_yes {rb : Nat → Nat → Bool} {N k : Nat} (h : att rb N k = true) : attTo rb N (k + 1) = attTo rb N k ++ [ints (sel N (rb k))] := by
  rw [attTo, atts, sel_yes h, List.map_append]; rfl
theorem attTo_no {rb : Nat → Nat → Bool} {N k : Nat} (h : att rb N k = false) : attTo rb N (k + 1) = attTo rb N k := by
  rw [attTo, atts, sel_no h]; rfl
theorem attTo_len (rb : Nat → Nat → Bool) (N k : Nat) : (attTo rb N k).length ≤ k := by rw [attTo, List.length_map]; exact atts_le rb N k
theorem attTo_lens {rb : Nat → Nat → Bool} {N k : Nat} : ∀ xs ∈ attTo rb N k, xs.length ≤ N := by
  intro xs hx
  rw [attTo, List.mem_map] at hx
  obtain ⟨a, _, rfl⟩ := hx
  rw [ints_length]; exact sel_len _ _
/-- an attractor begins with its least state -/
theorem att_head {rb : Nat → Nat → Bool} {N a : Nat} (h : RB rb N) (ha : a < N) (h1 : att rb N a = true) : (ints (sel N (rb a)))[0]? = some (a : Int) := by
  obtain ⟨l, hl⟩ := sel_low h ha (att_iff.1 h1).2
  rw [hl]; rfl
theorem attTo_at {rb : Nat → Nat → Bool} {N k i : Nat} (hi : i < (atts rb N k).length) : (attTo rb N k)[i]? = some (ints (sel N (rb ((atts rb N k).getD i 0)))) := by
  rw [attTo, List.getElem?_map, List.getD_eq_getElem?_getD, List.getElem?_eq_getElem hi]; rfl
def attN (ps : List (List UInt8)) : List (List Int) := if okN ps then attTo (rbN ps) (2 ^ ps.length) (2 ^ ps.length) else []
theorem attN_yes {ps : List (List UInt8)} {N : Nat} (h : okN ps = true) (hN : N = 2 ^ ps.length) : attN ps = attTo (rbN ps) N N := by rw [attN, if_pos h, hN]
theorem attN_no {ps : List (List UInt8)} (h : okN ps = false) : attN ps = [] := by rw [attN, h]; rfl
theorem attN_len (ps : List (List UInt8)) : (attN ps).length ≤ 1000 := by
  by_cases h : okN ps = true
  · rw [attN_yes h rfl]
    have := attTo_len (rbN ps) (2 ^ ps.length) (2 ^ ps.length)
    have := two_le _ (okN_le h)
    omega
  · rw [attN_no (by simpa using h)]; simp
theorem attN_lens (ps : List (List UInt8)) : ∀ xs ∈ attN ps, xs.length ≤ 1000 := by
  intro xs hx
  by_cases h : okN ps = true
  · rw [attN_yes h rfl] at hx
    have := attTo_lens xs hx
    have := two_le _ (okN_le h)
    omega
  · rw [attN_no (by simpa using h)] at hx; simp at hx
/-- the states that a search marks: those of the attractors so far -/
theorem att_skip {rb : Nat → Nat → Bool} {N k : Nat} (h : RB rb N) (hk : k < N) : (doneB rb N k k = false ∧ std rb N k = true) ↔ att rb N k = true := by
  constructor
  · rintro ⟨h1, h2⟩
    refine att_iff.2 ⟨h2, low_iff.2 fun t ht => ?_⟩
    cases hr : rb k t
    · rfl
    · exfalso
      -- the least state that k reaches is that of an attractor below k
      have hs := std_to h hk h2 hr
      have htN := h.lt k t hk hr
      obtain ⟨l1, l2, l3⟩ := lea_all h hk
      have h5 : lea rb N k ≤ t := by
        by_cases hle : lea rb N k ≤ t
        · exact hle
        · have := l3 t (by omega); rw [hr] at this; cases this
      have h6 : att rb N (lea rb N k) = true := att_iff.2 ⟨std_to h hk h2 l1, low_iff.2 fun u hu => by
        cases h7 : rb (lea rb N k) u
        · rfl
        · have h8 := h.trans k _ u hk l1 h7
          have := l3 u hu
          rw [h8] at this; cases this⟩
      have h9 : doneB rb N k k = true := by
        unfold doneB
        exact List.any_eq_true.2 ⟨lea rb N k, mem_atts.2 ⟨by omega, h6⟩, std_back h hk h2 l1⟩
      rw [h1] at h9; cases h9
  · intro h1
    have h2 := att_iff.1 h1
    refine ⟨?_, h2.1⟩
    cases hd : doneB rb N k k
    · rfl
    · unfold doneB at hd
      obtain ⟨a, ha, hr⟩ := List.any_eq_true.1 hd
      obtain ⟨h3, h4⟩ := mem_atts.1 ha
      have h5 := std_back h (show a < N by omega) (att_iff.1 h4).1 hr
      have := low_iff.1 h2.2 a h3
      rw [h5] at this; cases this

end Go.Proofs.YtpehimjngofnkaaDoor
