/- Plain facts on orbits. -/
import Derived.Test.YtpehimjngofnkaaDoorMn
namespace Go.Proofs.YtpehimjngofnkaaDoor
open Go.RowKit

/-- the states from s on until one comes again, and the place of the one that comes again; done are those so far -/
def orbGo (f : Nat → Nat) : Nat → List Nat → Nat → List Nat × Nat
  | 0, done, _ => (done, 0)
  | n + 1, done, s => if s ∈ done then (done, done.idxOf s) else orbGo f n (done ++ [s]) (f s)
def orb (f : Nat → Nat) (s : Nat) : List Nat × Nat := orbGo f 33 [] s
/-- the orbit under way -/
structure OrbI (f : Nat → Nat) (N s0 : Nat) (done : List Nat) (t : Nat) : Prop where
  eq : orb f s0 = orbGo f (33 - done.length) done t
  nd : done.Nodup
  lt : ∀ x ∈ done, x < N
  t : t < N
theorem nodup_le : ∀ {N : Nat} {l : List Nat}, l.Nodup → (∀ x ∈ l, x < N) → l.length ≤ N
  | 0, l, _, hl => by
    cases l with
    | nil => simp
    | cons a l => have := hl a (by simp); omega
  | N + 1, l, h, hl => by
    have h1 := nodup_le (N := N) (h.erase N) (by
      intro x hx
      have h2 := (List.Nodup.mem_erase_iff h).1 hx
      have := hl x h2.2
      omega)
    rw [List.length_erase] at h1
    split at h1 <;> omega
theorem OrbI.start (f : Nat → Nat) {N s : Nat} (h : s < N) : OrbI f N s [] s := ⟨rfl, List.nodup_nil, by simp, h⟩
theorem OrbI.len {f : Nat → Nat} {N s0 t : Nat} {done : List Nat} (h : OrbI f N s0 done t) : done.length ≤ N := nodup_le h.nd h.lt
theorem OrbI.more {f : Nat → Nat} {N s0 t : Nat} {done : List Nat} (h : OrbI f N s0 done t) (hN : N ≤ 32) (hf : ∀ x, x < N → f x < N) (hn : t ∉ done) : OrbI f N s0 (done ++ [t]) (f t) := by
  have hl := h.len
  refine ⟨?_, ?_, ?_, hf _ h.t⟩
  · rw [h.eq, show 33 - done.length = (33 - (done ++ [t]).length) + 1 by simp; omega, orbGo, if_neg hn]
  · rw [List.nodup_append]
    exact ⟨h.nd, by simp, by intro a ha b hb; simp at hb; subst hb; intro e; subst e; exact hn ha⟩
  · intro x hx
    rcases List.mem_append.1 hx with hx | hx
    · exact h.lt x hx
    · simp at hx; subst hx; exact h.t
theorem OrbI.fin {f : Nat → Nat} {N s0 t : Nat} {done : List Nat} (h : OrbI f N s0 done t) (hN : N ≤ 32) (hm : t ∈ done) : orb f s0 = (done, done.idxOf t) := by
  have hl := h.len
  rw [h.eq, show 33 - done.length = (32 - done.length) + 1 by omega, orbGo, if_pos hm]
theorem OrbI.room {f : Nat → Nat} {N s0 t : Nat} {done : List Nat} (h : OrbI f N s0 done t) (hn : t ∉ done) : done.length < N := by
  have h2 : (t :: done).Nodup := List.nodup_cons.2 ⟨hn, h.nd⟩
  have := nodup_le (N := N) h2 (fun x hx => (List.mem_cons.1 hx).elim (fun e => e ▸ h.t) (h.lt x))
  rw [List.length_cons] at this
  exact this
/-- what is known of a finished orbit -/
theorem orb_all {f : Nat → Nat} {N s : Nat} (hN : N ≤ 32) (hf : ∀ x, x < N → f x < N) (hs : s < N) :
    (orb f s).1.length ≤ N ∧ (orb f s).2 < (orb f s).1.length ∧ ∀ x ∈ (orb f s).1, x < N := by
  suffices h : ∀ k done t, OrbI f N s done t → done.length + k = 33 → (orb f s).1.length ≤ N ∧ (orb f s).2 < (orb f s).1.length ∧ ∀ x ∈ (orb f s).1, x < N by
    exact h 33 [] s (OrbI.start f hs) rfl
  intro k
  induction k with
  | zero => intro done t h hk; have := h.len; omega
  | succ k ih =>
    intro done t h hk
    by_cases hm : t ∈ done
    · rw [h.fin hN hm]
      exact ⟨h.len, List.idxOf_lt_length_iff.2 hm, h.lt⟩
    · exact ih _ _ (h.more hN hf hm) (by simp; omega)
/-- the marks of the states met: 0, or the place and one -/
def mark (done : List Nat) (t : Nat) : Nat := if t ∈ done then done.idxOf t + 1 else 0
theorem mark_no {done : List Nat} {t : Nat} (h : t ∉ done) : mark done t = 0 := if_neg h
theorem mark_yes {done : List Nat} {t : Nat} (h : t ∈ done) : mark done t = done.idxOf t + 1 := if_pos h
theorem mark_snoc {done : List Nat} {t : Nat} (h : t ∉ done) (x : Nat) : mark (done ++ [t]) x = if x = t then done.length + 1 else mark done x := by
  by_cases e : x = t
  · subst e
    rw [if_pos rfl, mark_yes (by simp), List.idxOf_append, if_neg h]
    simp
  · rw [if_neg e]
    by_cases hx : x ∈ done
    · rw [mark_yes hx, mark_yes (by simp [hx]), List.idxOf_append, if_pos hx]
    · rw [mark_no hx, mark_no (by simp [hx, e])]
def markL (done : List Nat) : List Value := (List.range 32).map fun t => .int .i64 (mark done t : Int)
theorem markL_length (done : List Nat) : (markL done).length = 32 := by simp [markL]
theorem markL_get (done : List Nat) (t : Nat) (h : t < 32) : (markL done)[t]? = some (.int .i64 (mark done t : Int)) := by simp [markL, h]
theorem markL_set {done : List Nat} {t : Nat} (h : t ∉ done) : (markL done).toArray.setIfInBounds t (.int .i64 ((done.length : Int) + 1)) = (markL (done ++ [t])).toArray := by
  apply Array.ext'
  rw [Array.toList_setIfInBounds]
  apply List.ext_getElem?
  intro j
  rw [List.getElem?_set, List.toList_toArray, List.toList_toArray]
  by_cases hj : j < 32
  · rw [markL_get (done ++ [t]) j hj, mark_snoc h]
    by_cases e : t = j
    · subst e
      rw [if_pos rfl, if_pos rfl, if_pos (by rw [markL_length]; exact hj)]
      simp
    · rw [if_neg e, if_neg (Ne.symm e), markL_get _ _ hj]
  · rw [List.getElem?_eq_none (l := markL (done ++ [t])) (by rw [markL_length]; omega)]
    split
    · rw [if_neg (by rw [markL_length]; omega)]
    · rw [List.getElem?_eq_none (by rw [markL_length]; omega)]
/-- the search of a state among those so far -/
theorem idxOf_first {l : List Nat} {k t : Nat} (hk : k < l.length) (h : l[k] = t) (hb : ∀ j, (hj : j < k) → ¬ l[j] = t) : t ∈ l ∧ l.idxOf t = k := by
  have hm : t ∈ l := h ▸ List.getElem_mem hk
  refine ⟨hm, ?_⟩
  have h1 : l.idxOf t < l.length := List.idxOf_lt_length_iff.2 hm
  have h2 : l[l.idxOf t] = t := List.getElem_idxOf h1
  have h3 : ¬ l.idxOf t < k := fun hlt => hb _ hlt h2
  have h4 : ¬ k < l.idxOf t := fun hlt => by
    have := List.not_of_lt_findIdx (p := fun x => x == t) hlt
    simp [h] at this
  omega
theorem not_mem_all {l : List Nat} {t : Nat} (hb : ∀ j, (hj : j < l.length) → ¬ l[j] = t) : t ∉ l := fun hm => by
  obtain ⟨j, hj, e⟩ := List.getElem_of_mem hm
  exact hb j hj e
end Go.Proofs.YtpehimjngofnkaaDoor
