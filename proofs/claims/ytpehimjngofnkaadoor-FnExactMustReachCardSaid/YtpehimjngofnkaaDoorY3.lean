/- Walks of CycleOf and BasinOf. Printed by wip/mky.py. -/
import Derived.Test.YtpehimjngofnkaaDoorProg
import Derived.WalkKit
import Derived.WalkSpells
import Derived.WalkLawsBesides
import Derived.Lib.Hide
import Derived.Deep.QuietTactic
import Derived.Deep.RegionHeld3
import Derived.BigQuiet
import Derived.Test.YtpehimjngofnkaaDoorY2
namespace Go.Proofs.YtpehimjngofnkaaDoor
open Go.RowKit
set_option linter.unusedVariables false

theorem stp_lt32 {ps : List (List UInt8)} {N : Nat} (h : okN ps = true) (hN : N = 2 ^ ps.length) : N ≤ 32 ∧ ∀ x, x < N → stp ps x < N := ⟨by rw [hN]; exact two_le _ (okN_le h), fun x _ => by rw [hN]; exact stp_lt h x⟩
def cycN (ps : List (List UInt8)) (t : Int) : List Int := if okSt ps t then ints (cyc (stp ps) t.toNat) else []
theorem cycN_yes {ps : List (List UInt8)} {t : Nat} (h : okSt ps t = true) : cycN ps t = ints (cyc (stp ps) t) := if_pos h
theorem cycN_no {ps : List (List UInt8)} {t : Int} (h : okSt ps t = false) : cycN ps t = [] := by rw [cycN, h]; rfl
theorem cycN_len (ps : List (List UInt8)) (t : Int) : (cycN ps t).length ≤ 1048576 := by
  by_cases h : okSt ps t = true
  · obtain ⟨hok, s, rfl, hs⟩ := okSt_true h
    rw [cycN_yes h, ints_length]
    have hf := stp_lt32 hok rfl
    have := (cyc_len hf.1 hf.2 hs).1
    omega
  · rw [cycN_no (by simpa using h)]; simp
def basN (ps : List (List UInt8)) (t : Int) : List Int := if okSt ps t then ints (sel (2 ^ ps.length) fun k => cy0 (stp ps) k == cy0 (stp ps) t.toNat) else []
theorem basN_yes {ps : List (List UInt8)} {t N : Nat} (h : okSt ps t = true) (hN : N = 2 ^ ps.length) : basN ps t = ints (sel N fun k => cy0 (stp ps) k == cy0 (stp ps) t) := by rw [basN, if_pos h, hN]; rfl
theorem basN_no {ps : List (List UInt8)} {t : Int} (h : okSt ps t = false) : basN ps t = [] := by rw [basN, h]; rfl
theorem basN_len (ps : List (List UInt8)) (t : Int) : (basN ps t).length ≤ 1048576 := by
  by_cases h : okSt ps t = true
  · obtain ⟨hok, s, rfl, hs⟩ := okSt_true h
    rw [basN_yes h rfl, ints_length]
    have := sel_len (2 ^ ps.length) fun k => cy0 (stp ps) k == cy0 (stp ps) s
    have h32 := two_le _ (okN_le hok)
    omega
  · rw [basN_no (by simpa using h)]; simp
/-- the address A does not lie in v's own block -/
def OffB (v : Value) (A : Option Addr) : Prop := ∀ a, A = some a → v.ownBlock ≠ some a.block
theorem offB_own {w : World} {B g n c : Nat} {A : Option Addr} {vs : List Value} (h : Own w B A vs) (hg : g < B) : OffB (.slice (some ⟨g, 0, none⟩) n c) A ∨ vs = [] := by
  rcases h with h | ⟨g2, off, hA, hB, _⟩
  · exact .inr h
  · left
    intro a ha
    rw [hA] at ha
    injection ha with ha
    subst ha
    simp only [Value.ownBlock, ne_eq, Option.some.injEq]
    omega
theorem offB_push {w w' : World} {v v' : Value} {A : Option Addr} {vs : List Value} (h : Rd w A vs) (ho : OffB v A) (hf : ∀ g, g < w.heap.size → v.ownBlock ≠ some g → w'.heap[g]? = w.heap[g]? ∧ v'.ownBlock ≠ some g) (hne : vs ≠ []) : Rd w' A vs ∧ OffB v' A := by
  rcases h with h | ⟨g, off, hA, hc⟩
  · exact absurd h hne
  · have hlt : g < w.heap.size := by
      cases vs with
      | nil => exact absurd rfl hne
      | cons x l => exact World.block_lt_of_cell? w _ (hc 0 x rfl)
    have h2 := hf g hlt (ho _ hA)
    refine ⟨.inr ⟨g, off, hA, fun j v hj => (World.cell?_of_block (w := w) (a := ⟨g, off + j, none⟩) h2.1).trans (hc j v hj)⟩, fun a ha => ?_⟩
    rw [hA] at ha
    injection ha with ha
    subst ha
    exact h2.2
/-- the first of a cycle's cells -/
theorem cyc_cell {ps : List (List UInt8)} {N s : Nat} (h : okN ps = true) (hN : N = 2 ^ ps.length) (hs : s < N) : ((ints (cyc (stp ps) s)).map (Value.int .i64))[0]? = some (.int .i64 (cy0 (stp ps) s : Int)) ∧ 0 < (ints (cyc (stp ps) s)).length := by
  have hf := stp_lt32 h hN
  obtain ⟨l, e⟩ := cyc_head hf.1 hf.2 hs
  rw [e]
  exact ⟨rfl, by simp [ints]⟩

end Go.Proofs.YtpehimjngofnkaaDoor
