/- Walks of the program's UnreachedOf. -/
import Derived.Test.YtpehimjngofnkaaDoorProg
import Derived.WalkKit
import Derived.WalkSpells
import Derived.WalkLawsBesides
import Derived.Lib.Hide
import Derived.Deep.QuietTactic
import Derived.Deep.RegionHeld3
import Derived.Deep.RegionWith
import Derived.BigQuiet
import Derived.Carry
import Derived.Test.YtpehimjngofnkaaDoorG3
namespace Go.Proofs.YtpehimjngofnkaaDoor
open Go.RowKit
set_option linter.unusedVariables false

/-- the states after the first k ones, each once, in the order in which they come -/
def stSet (ps : List (List UInt8)) : Nat → List Int
  | 0 => []
  | k + 1 => if (stp ps k : Int) ∈ stSet ps k then stSet ps k else stSet ps k ++ [(stp ps k : Int)]
theorem stSet_mem (ps : List (List UInt8)) (x : Int) : ∀ k, x ∈ stSet ps k ↔ ∃ s, s < k ∧ x = (stp ps s : Int)
  | 0 => by simp [stSet]
  | k + 1 => by
    have ih := stSet_mem ps x k
    rw [stSet]
    constructor
    · intro h
      have h2 : x ∈ stSet ps k ∨ x = (stp ps k : Int) := by
        split at h
        · exact .inl h
        · simpa using h
      rcases h2 with h2 | h2
      · obtain ⟨s, h3, h4⟩ := ih.1 h2
        exact ⟨s, by omega, h4⟩
      · exact ⟨k, by omega, h2⟩
    · rintro ⟨s, h3, h4⟩
      by_cases e : s = k
      · subst e; subst h4; split <;> simp_all
      · have := ih.2 ⟨s, by omega, h4⟩
        split <;> simp_all
theorem unr_eq {ps : List (List UInt8)} {N k : Nat} (h : okN ps = true) (hN : N = 2 ^ ps.length) (hk : k < N) : (!decide ((k : Int) ∈ stSet ps N)) = (befN ps (k : Int)).isEmpty := by
  have ho : okSt ps (k : Int) = true := by rw [okSt, h, Bool.true_and]; exact (inW_yes hN).2 ⟨by omega, by omega⟩
  rw [befN_yes ho hN, Bool.eq_iff_iff]
  simp only [Bool.not_eq_true', decide_eq_false_iff_not, stSet_mem, List.isEmpty_iff, ints, List.map_eq_nil_iff, sel, List.filter_eq_nil_iff, List.mem_range, beq_iff_eq]
  constructor
  · intro h s hs e; exact h ⟨s, hs, by rw [e]⟩
  · rintro h ⟨s, hs, e⟩; exact h s hs (by omega)

end Go.Proofs.YtpehimjngofnkaaDoor
