/- What every row's step needs. -/
import Derived.Test.YtfkdameegljkeaaRows
import Derived.WalkKit
import Derived.ProofKit
import Derived.OpenShut
import Derived.ShutString
import Derived.ChangeOld
import Derived.Below
import Derived.Test.YtfkdameegljkeaaMe
namespace Go.Proofs.Ytfkdameegljkeaa
open Go.RowKit
theorem own : ownKnob Try.prog.godebug = none := by kernel_rfl
theorem laidOut : laidOutB Try.prog = true := by kernel_rfl
/-- what the walk is told of a slice of integers that came in: it is nil, or it leads to a row of 'cap' cells -/
def IsRow (k : IntKind) (w : World) (a : Option Addr) (len cap : Nat) (zs : List Int) : Prop :=
  (a = none ∧ len = 0 ∧ cap = 0 ∧ zs = []) ∨
  ∃ x, a = some x ∧ len ≤ cap ∧ cap ≤ maxLen ∧ zs.length = cap ∧ (∀ i, i < zs.length → w.cell? (x.add i) = some (.int k (zs.getD i 0))) ∧ ∀ n ∈ zs, (Lit.int k n).wf = true
theorem IsRow.rdk {k : IntKind} {w : World} {a : Option Addr} {len cap : Nat} {zs : List Int} (h : IsRow k w a len cap zs) :
    ∃ xs : List Int, xs.length = len ∧ Rd w a (xs.map (Value.int k)) ∧ (∀ x ∈ xs, (Lit.int k x).wf = true) ∧ len ≤ cap ∧ cap ≤ maxLen := by
  rcases h with ⟨rfl, rfl, rfl, rfl⟩ | ⟨x, rfl, hl, hm, hz, hc, hw⟩
  · exact ⟨[], rfl, .inl rfl, by simp, Nat.le_refl _, Nat.zero_le _⟩
  · refine ⟨zs.take len, by rw [List.length_take]; omega, ?_, fun x hx => hw x (List.mem_of_mem_take hx), hl, hm⟩
    by_cases h0 : len = 0
    · subst h0; exact .inl rfl
    · have hx := hc 0 (by omega)
      have hs := World.cell?_spot hx
      obtain ⟨b, o, sp⟩ := x
      have hs2 : sp = none := by simpa [Addr.add] using hs
      subst hs2
      refine .inr ⟨b, o, rfl, fun j v hj => ?_⟩
      rw [List.getElem?_map] at hj
      rw [List.getElem?_take] at hj
      split at hj
      · rename_i hjl
        have h2 := hc j (by omega)
        rw [show (⟨b, o, none⟩ : Addr).add j = ⟨b, o + j, none⟩ by unfold Addr.add; split <;> simp_all] at h2
        rw [h2, ← hj]
        have hjz : j < zs.length := by omega
        simp [List.getD, hjz]
      · cases hj
theorem wf_u8 {x : Int} (h : (Lit.int .u8 x).wf = true) : 0 ≤ x ∧ x < 256 := by
  simp [Lit.wf, IntKind.min, IntKind.max, IntKind.bits, IntKind.signed] at h
  omega
end Go.Proofs.Ytfkdameegljkeaa
