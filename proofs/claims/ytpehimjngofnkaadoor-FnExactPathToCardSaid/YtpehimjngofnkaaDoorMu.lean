/- Words for the searches: a list that stays readable beside a queue and a set. -/
import Derived.Test.YtpehimjngofnkaaDoorMq
import Derived.Test.YtpehimjngofnkaaDoorMs
namespace Go.Proofs.YtpehimjngofnkaaDoor
open Go.RowKit
set_option linter.unusedVariables false

/-- the slice A holds vs, in a block that is neither g nor b -/
def RdB (w : World) (A : Option Addr) (vs : List Value) (g b : Nat) : Prop :=
  vs = [] ∨ ∃ g3 off3, A = some ⟨g3, off3, none⟩ ∧ g3 ≠ g ∧ g3 ≠ b ∧ ∀ j v, vs[j]? = some v → w.cell? ⟨g3, off3 + j, none⟩ = some v
theorem RdB.of_own {w : World} {B g b : Nat} {A : Option Addr} {vs : List Value} (h : Own w B A vs) (hg : g < B) (hb : b < B) : RdB w A vs g b := by
  rcases h with h | ⟨g3, off3, hA, hB, hc⟩
  · exact .inl h
  · exact .inr ⟨g3, off3, hA, by omega, by omega, fun j v hj => (hc j v hj).1⟩
theorem RdB.at_ {w : World} {A : Option Addr} {vs : List Value} {g b j : Nat} {v : Value} (h : RdB w A vs g b) (hj : vs[j]? = some v) : ∃ g3 off3, A = some ⟨g3, off3, none⟩ ∧ w.cell? ⟨g3, off3 + j, none⟩ = some v := by
  rcases h with h | ⟨g3, off3, hA, _, _, hc⟩
  · rw [h] at hj; simp at hj
  · exact ⟨g3, off3, hA, hc j v hj⟩
theorem RdB.at2 {w : World} {A : Option Addr} {vs : List Value} {g b j : Nat} {v : Value} (h : RdB w A vs g b) (hj : vs[j]? = some v) : ∃ g3 off3, A = some ⟨g3, off3, none⟩ ∧ g3 ≠ g ∧ g3 ≠ b ∧ w.cell? ⟨g3, off3 + j, none⟩ = some v := by
  rcases h with h | ⟨g3, off3, hA, h1, h2, hc⟩
  · rw [h] at hj; simp at hj
  · exact ⟨g3, off3, hA, h1, h2, hc j v hj⟩
theorem RdB.blk {w w' : World} {A : Option Addr} {vs : List Value} {g g' b : Nat} (h : RdB w A vs g b) (hb : ∀ k, k < w.heap.size → k ≠ g → k ≠ b → w'.heap[k]? = w.heap[k]? ∧ k ≠ g') : RdB w' A vs g' b := by
  cases vs with
  | nil => exact .inl rfl
  | cons x vs =>
    rcases h with h | ⟨g3, off3, hA, h1, h2, hc⟩
    · cases h
    · have h0 := hc 0 x rfl
      have := hb g3 (World.block_lt_of_cell? w _ h0) h1 h2
      exact .inr ⟨g3, off3, hA, this.2, h2, fun j v hj => (World.cell?_of_block (w := w) (a := ⟨g3, off3 + j, none⟩) this.1).trans (hc j v hj)⟩
theorem mem_ints {l : List Nat} {k : Nat} : ((k : Int) ∈ ints l) ↔ k ∈ l := by
  simp only [ints, List.mem_map]
  exact ⟨fun ⟨a, ha, e⟩ => by
    have e2 : a = k := by omega
    exact e2 ▸ ha, fun h => ⟨k, h, rfl⟩⟩
theorem put_ints {l : List Nat} {k : Nat} (h : k ∉ l) : (if ((k : Nat) : Int) ∈ ints l then ints l else ints l ++ [((k : Nat) : Int)]) = ints (l ++ [k]) := by
  rw [if_neg (fun hm => h (mem_ints.1 hm)), ints_append]; rfl
theorem nextN_get {ps : List (List UInt8)} {t j : Nat} (h : j < (nextN ps t).length) : ((ints (nextN ps t)).map (Value.int .i64))[j]? = some (.int .i64 (((nextN ps t)[j] : Nat) : Int)) := ints_at h

theorem QI.tail1 {w : World} {B g off cap : Nat} {v : Value} {x : Int} {xs : List Int} (h : QI w B g off cap v (x :: xs)) (hc : cap = 1) : QI w B g off (cap - 1) (.slice (some ⟨g, off, none⟩) xs.length (cap - 1)) xs := by
  obtain ⟨h1, h2, h3, h4, h5, h6⟩ := h
  rw [List.length_cons] at h4
  obtain rfl : xs = [] := List.eq_nil_of_length_eq_zero (by omega)
  exact ⟨rfl, h2, h3, by simp, fun j hj => by omega, fun j y hj => by simp at hj⟩
end Go.Proofs.YtpehimjngofnkaaDoor
