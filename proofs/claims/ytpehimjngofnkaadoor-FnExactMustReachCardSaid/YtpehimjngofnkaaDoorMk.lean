/- Plain facts on cycles. -/
import Derived.Test.YtpehimjngofnkaaDoorMo
import Derived.Lib.Slices
namespace Go.Proofs.YtpehimjngofnkaaDoor
open Go.RowKit

def minN (r : List Nat) : Nat := r.foldl min (r.headD 0)
/-- where the least one stands first -/
def mni (r : List Nat) : Nat := r.idxOf (minN r)
theorem foldl_min : ∀ (l : List Nat) (a : Nat), l.foldl min a ≤ a ∧ (∀ x ∈ l, l.foldl min a ≤ x) ∧ (l.foldl min a = a ∨ l.foldl min a ∈ l)
  | [], a => by simp
  | b :: l, a => by
    have ⟨h1, h2, h3⟩ := foldl_min l (min a b)
    rw [List.foldl_cons]
    refine ⟨by omega, fun x hx => ?_, ?_⟩
    · rcases List.mem_cons.1 hx with rfl | hx
      · omega
      · exact h2 x hx
    · rcases h3 with h3 | h3
      · rw [h3]
        by_cases hab : a ≤ b
        · left; omega
        · right; rw [show min a b = b by omega]; simp
      · right; exact List.mem_cons_of_mem _ h3
theorem minN_le {r : List Nat} {x : Nat} (h : x ∈ r) : minN r ≤ x := (foldl_min r _).2.1 x h
theorem minN_mem {r : List Nat} (h : r ≠ []) : minN r ∈ r := by
  cases r with
  | nil => exact absurd rfl h
  | cons a l =>
    rcases (foldl_min (a :: l) a).2.2 with h2 | h2
    · have : minN (a :: l) = a := h2
      rw [this]; simp
    · exact h2
theorem mni_lt {r : List Nat} (h : r ≠ []) : mni r < r.length := List.idxOf_lt_length_iff.2 (minN_mem h)
theorem mni_get {r : List Nat} (h : r ≠ []) : r[mni r]'(mni_lt h) = minN r := List.getElem_idxOf (mni_lt h)
/-- the search of the least one -/
theorem mni_of {r : List Nat} {k : Nat} (hk : k < r.length) (h1 : ∀ j, (hj : j < r.length) → r[k] ≤ r[j]) (h2 : ∀ j, (hj : j < k) → r[k] < r[j]) : mni r = k := by
  have hne : r ≠ [] := by intro e; subst e; simp at hk
  have hm : r[k] = minN r := by
    have a := minN_le (List.getElem_mem hk)
    obtain ⟨j, hj, e⟩ := List.getElem_of_mem (minN_mem hne)
    have b := h1 j hj
    omega
  exact (idxOf_first hk hm (fun j hj => by have := h2 j hj; omega)).2
theorem minOf_ints (r : List Nat) : Lib.minOf (ints r) = (minN r : Int) := by
  have key : ∀ (l : List Nat) (a : Nat), (ints l).foldl min (a : Int) = ((l.foldl min a : Nat) : Int) := by
    intro l
    induction l with
    | nil => intro a; rfl
    | cons b l ih =>
      intro a
      have := ih (min a b)
      rw [List.foldl_cons, ← this]
      show (ints l).foldl min (min (a : Int) (b : Int)) = _
      congr 1
      omega
  unfold Lib.minOf minN
  cases r with
  | nil => rfl
  | cons a l => exact key (a :: l) a
theorem idxOf_ints {r : List Nat} (h : r ≠ []) : Lib.idxOf (ints r) ((minN r : Nat) : Int) = (mni r : Int) := by
  have hk := mni_lt h
  have hl : (ints r).length = r.length := ints_length r
  have hg : ∀ j, (hj : j < r.length) → (ints r).getD j 0 = (r[j] : Int) := fun j hj => by simp [ints, hj]
  have := Lib.idxOf_hit (ints r) r.length (mni r) ((minN r : Nat) : Int) hk (by omega) (by rw [hg _ hk, mni_get h]) (fun j hj e => by
    rw [hg j (by omega)] at e
    have e2 : r[j]'(by omega) = minN r := by omega
    have h3 : ¬ mni r ≤ j := by omega
    have h4 := List.not_of_lt_findIdx (p := fun x => x == minN r) (xs := r) (i := j) (by simpa [mni, List.idxOf] using hj)
    simp [e2] at h4)
  rwa [List.take_of_length_le (by omega)] at this
/-- turned so that the least one comes first -/
def rot (r : List Nat) : List Nat := r.drop (mni r) ++ r.take (mni r)
theorem rot_length (r : List Nat) : (rot r).length = r.length := by
  rw [rot, List.length_append, List.length_drop, List.length_take]; omega
theorem rot_head {r : List Nat} (h : r ≠ []) : ∃ l, rot r = minN r :: l := by
  have hk := mni_lt h
  refine ⟨r.drop (mni r + 1) ++ r.take (mni r), ?_⟩
  rw [rot, ← mni_get h, ← List.cons_append, List.getElem_cons_drop]
/-- the round of a state: the states that come again -/
def rnd (f : Nat → Nat) (s : Nat) : List Nat := (orb f s).1.drop (orb f s).2
/-- the cycle of a state -/
def cyc (f : Nat → Nat) (s : Nat) : List Nat := rot (rnd f s)
/-- its least state -/
def cy0 (f : Nat → Nat) (s : Nat) : Nat := minN (rnd f s)
section
variable {f : Nat → Nat} {N s : Nat} (hN : N ≤ 32) (hf : ∀ x, x < N → f x < N) (hs : s < N)
include hN hf hs
theorem rnd_ne : rnd f s ≠ [] := by
  have h := (orb_all hN hf hs).2.1
  intro e
  have := congrArg List.length e
  rw [rnd, List.length_drop, List.length_nil] at this
  omega
theorem rnd_len : (rnd f s).length ≤ N ∧ 0 < (rnd f s).length := by
  have h := orb_all hN hf hs
  rw [rnd, List.length_drop]
  omega
theorem rnd_lt : ∀ x ∈ rnd f s, x < N := fun x hx => (orb_all hN hf hs).2.2 x (List.mem_of_mem_drop hx)
theorem cyc_len : (cyc f s).length ≤ N ∧ 0 < (cyc f s).length := by rw [cyc, rot_length]; exact rnd_len hN hf hs
theorem cyc_head : ∃ l, cyc f s = cy0 f s :: l := rot_head (rnd_ne hN hf hs)
theorem cyc_lt : ∀ x ∈ cyc f s, x < N := fun x hx => by
  rw [cyc, rot] at hx
  rcases List.mem_append.1 hx with hx | hx
  · exact rnd_lt hN hf hs x (List.mem_of_mem_drop hx)
  · exact rnd_lt hN hf hs x (List.mem_of_mem_take hx)
end
end Go.Proofs.YtpehimjngofnkaaDoor
