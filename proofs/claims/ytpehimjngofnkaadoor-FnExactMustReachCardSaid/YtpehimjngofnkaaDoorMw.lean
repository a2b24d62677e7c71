/- Plain facts: counting. -/
import Derived.Test.YtpehimjngofnkaaDoorMv
namespace Go.Proofs.YtpehimjngofnkaaDoor
open Go.RowKit

/-- different numbers below N with a property are no more than all such numbers -/
theorem sel_ge {p : Nat → Bool} : ∀ {N : Nat} {l : List Nat}, l.Nodup → (∀ x ∈ l, x < N ∧ p x = true) → l.length ≤ (sel N p).length
  | 0, l, _, hl => by
    cases l with
    | nil => simp
    | cons a l => have := (hl a (by simp)).1; omega
  | N + 1, l, h, hl => by
    have h1 := sel_ge (p := p) (N := N) (l := l.erase N) (h.erase N) (fun x hx => by
      have h2 := nodup_erase_lt h (fun y hy => (hl y hy).1) x hx
      exact ⟨h2.1, (hl x h2.2).2⟩)
    rw [List.length_erase] at h1
    by_cases hm : N ∈ l
    · have hp := (hl N hm).2
      rw [if_pos hm] at h1
      rw [sel_yes hp, List.length_append, List.length_singleton]
      omega
    · rw [if_neg hm] at h1
      by_cases hp : p N = true
      · rw [sel_yes hp, List.length_append]; omega
      · rw [sel_no (by simpa using hp)]; exact h1
def sumTo (g : Nat → Nat) : Nat → Nat
  | 0 => 0
  | k + 1 => sumTo g k + g k
theorem sumTo_add (g h : Nat → Nat) : ∀ k, sumTo (fun x => g x + h x) k = sumTo g k + sumTo h k
  | 0 => rfl
  | k + 1 => by simp only [sumTo]; rw [sumTo_add g h k]; omega
theorem sumTo_congr {g h : Nat → Nat} : ∀ k, (∀ x, x < k → g x = h x) → sumTo g k = sumTo h k
  | 0, _ => rfl
  | k + 1, e => by simp only [sumTo]; rw [sumTo_congr k (fun x hx => e x (by omega)), e k (by omega)]
theorem sumTo_one (v : Nat) : ∀ N, sumTo (fun k => if v = k then 1 else 0) N = if v < N then 1 else 0
  | 0 => rfl
  | N + 1 => by
    simp only [sumTo]
    rw [sumTo_one v N]
    split <;> split <;> split <;> omega
theorem sumTo_zero : ∀ N, sumTo (fun _ => 0) N = 0
  | 0 => rfl
  | N + 1 => by simp only [sumTo]; rw [sumTo_zero N]
theorem sumTo_le {g : Nat → Nat} {c : Nat} : ∀ k, (∀ x, x < k → g x ≤ c) → sumTo g k ≤ c * k
  | 0, _ => by simp [sumTo]
  | k + 1, h => by
    have := sumTo_le k (fun x hx => h x (by omega))
    have := h k (by omega)
    rw [sumTo, Nat.mul_succ]; omega
/-- each number is before one -/
theorem sum_sel {f : Nat → Nat} {N : Nat} : ∀ M, (∀ x, x < M → f x < N) → sumTo (fun k => (sel M (fun x => f x == k)).length) N = M
  | 0, _ => by
    have : (fun k => (sel 0 (fun x => f x == k)).length) = fun _ => 0 := rfl
    rw [this, sumTo_zero]
  | M + 1, h => by
    have ih := sum_sel M (fun x hx => h x (by omega))
    have e : (fun k => (sel (M + 1) (fun x => f x == k)).length) = fun k => (sel M (fun x => f x == k)).length + (if f M = k then 1 else 0) := by
      funext k
      by_cases hk : f M = k
      · rw [sel_yes (by simpa using hk), List.length_append, if_pos hk]; rfl
      · rw [sel_no (by simpa using hk), if_neg hk]; rfl
    rw [e, sumTo_add, ih, sumTo_one, if_pos (h M (by omega))]
theorem sel_mem {N : Nat} {p : Nat → Bool} {x : Nat} : x ∈ sel N p ↔ x < N ∧ p x = true := by simp [sel]
theorem sel_nodup (N : Nat) (p : Nat → Bool) : (sel N p).Nodup := List.Pairwise.filter _ List.nodup_range
theorem sel_asc : ∀ (N : Nat) (p : Nat → Bool) (i j : Nat) (hi : i < (sel N p).length) (hj : j < (sel N p).length), i < j → (sel N p)[i] < (sel N p)[j]
  | 0, p, i, j, hi, _, _ => by simp [sel] at hi
  | N + 1, p, i, j, hi, hj, hij => by
    have h2 : ((List.range (N + 1)).filter p).Pairwise (· < ·) := List.Pairwise.filter _ List.pairwise_lt_range
    exact List.pairwise_iff_getElem.1 h2 i j hi hj hij
/-- a state of the round has one before it -/
theorem OrbF.before {f : Nat → Nat} {N s L : Nat} (h : OrbF f N s L 0) : ∃ j, f (itf f j s) = s ∧ j < L := by
  have hlt := h.lt
  refine ⟨L - 1, ?_, by omega⟩
  rw [← itf_succ f, show L - 1 + 1 = L by omega, h.rep]
  rfl
end Go.Proofs.YtpehimjngofnkaaDoor
