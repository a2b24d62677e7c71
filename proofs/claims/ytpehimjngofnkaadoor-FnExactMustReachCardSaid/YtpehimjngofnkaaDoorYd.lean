/- The walk of the law FnFixedPoints. -/
import Derived.Test.YtpehimjngofnkaaDoorProg
import Derived.WalkKit
import Derived.WalkSpells
import Derived.WalkLawsBesides
import Derived.Lib.Hide
import Derived.Deep.QuietTactic
import Derived.BigQuiet
import Derived.Test.YtpehimjngofnkaaDoorLa
import Derived.Test.YtpehimjngofnkaaDoorYb
import Derived.Test.YtpehimjngofnkaaDoorYc
namespace Go.Proofs.YtpehimjngofnkaaDoor
open Go.RowKit
set_option linter.unusedVariables false

theorem sel_pre {p : Nat → Bool} {k : Nat} : ∀ N, k ≤ N → ∃ r, sel N p = sel k p ++ r := by
  intro N
  induction N with
  | zero => intro h; exact ⟨[], by rw [show k = 0 by omega]; simp⟩
  | succ N ih =>
    intro h
    by_cases hk : k = N + 1
    · exact ⟨[], by rw [hk]; simp⟩
    · obtain ⟨r, hr⟩ := ih (by omega)
      by_cases hp : p N = true
      · exact ⟨r ++ [N], by rw [sel_yes hp, hr, List.append_assoc]⟩
      · exact ⟨r, by rw [sel_no (by simpa using hp), hr]⟩
theorem sel_at {p : Nat → Bool} {k N : Nat} (hk : k < N) (hp : p k = true) : (ints (sel N p))[(sel k p).length]? = some (k : Int) ∧ (sel k p).length < (ints (sel N p)).length := by
  obtain ⟨r, hr⟩ := sel_pre (p := p) (k := k + 1) N hk
  rw [sel_yes hp] at hr
  constructor
  · rw [hr, ints, List.getElem?_map, List.append_assoc, List.getElem?_append_right (Nat.le_refl _)]
    simp
  · rw [ints_length, hr]; simp
theorem rsA_k {ps : List (List UInt8)} {k : Nat} (h : okSt ps (k : Int) = true) : rsA ps (k : Int) = ((stp ps k ^^^ k : Nat) : Int) := by rw [rsA, if_pos h]; rfl
theorem stA_k {ps : List (List UInt8)} {k : Nat} (h : okSt ps (k : Int) = true) : stA ps (k : Int) = (stp ps k : Int) := by rw [stA, if_pos h]; rfl

theorem xor_ne : ∀ a, a < 32 → ∀ b, b < 32 → a ^^^ b = 0 → a = b := by decide +kernel
end Go.Proofs.YtpehimjngofnkaaDoor
