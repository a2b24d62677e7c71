/- Plain facts on distances: the least number of single steps to a state. -/
import Derived.Test.YtpehimjngofnkaaDoorG3
namespace Go.Proofs.YtpehimjngofnkaaDoor
open Go.RowKit
set_option linter.unusedVariables false

/-- the least number of steps from u to t, if there is one -/
def dst (nx : Nat → List Nat) (t u : Nat) : Option Nat := (List.range 33).find? fun k => wi nx t k u
theorem dst_some {nx : Nat → List Nat} {t u d : Nat} (h : dst nx t u = some d) : wi nx t d u = true ∧ d < 33 ∧ ∀ k, k < d → wi nx t k u = false := by
  unfold dst at h
  have h1 := List.find?_some h
  have h2 := List.mem_of_find?_eq_some h
  refine ⟨h1, List.mem_range.1 h2, fun k hk => ?_⟩
  rw [List.find?_eq_some_iff_getElem] at h
  obtain ⟨_, i, hi, he, hb⟩ := h
  rw [List.getElem_range] at he
  have := hb k (by omega)
  rw [List.getElem_range] at this
  simpa using this
/-- distances under way: each told one is one of some way, that of t is 0 -/
structure FarI (nx : Nat → List Nat) (N t : Nat) (m : Nat → Option Nat) : Prop where
  sound : ∀ u d, m u = some d → wi nx t d u = true ∧ u < N
  base : m t = some 0
theorem FarI.start {nx : Nat → List Nat} {N t : Nat} (h : t < N) : FarI nx N t (fun u => if u = t then some 0 else none) :=
  ⟨(fun u d e => by
    by_cases hu : u = t
    · rw [if_pos hu] at e; injection e with e; subst e; subst hu
      exact ⟨by rw [wi]; exact beq_self_eq_true _, h⟩
    · rw [if_neg hu] at e; cases e), by simp⟩
/-- a way over v is told -/
theorem FarI.put {nx : Nat → List Nat} {N t u v d : Nat} {m : Nat → Option Nat} (h : FarI nx N t m) (hu : u < N) (hv : v ∈ nx u) (hd : m v = some d) (hlt : u = t → False) : FarI nx N t (fun x => if x = u then some (d + 1) else m x) :=
  ⟨(fun x e hx => by
    by_cases hxu : x = u
    · rw [if_pos hxu] at hx; injection hx with hx; subst hx; subst hxu
      refine ⟨?_, hu⟩
      rw [wi, Bool.or_eq_true]
      exact .inr (List.any_eq_true.2 ⟨v, hv, (h.sound v d hd).1⟩)
    · rw [if_neg hxu] at hx; exact h.sound x e hx), by
    have : ¬ t = u := fun e => hlt e.symm
    rw [if_neg this]; exact h.base⟩
/-- where no way is shortened any more, the distances are the least ones -/
theorem FarI.fin {nx : Nat → List Nat} {N t : Nat} {m : Nat → Option Nat} (h : FarI nx N t m) (hN : ∀ x, x < N → ∀ u ∈ nx x, u < N) (hc : ∀ u, u < N → ∀ v, v ∈ nx u → ∀ d, m v = some d → ∃ e, m u = some e ∧ e ≤ d + 1) :
    (∀ k u, u < N → wi nx t k u = true → ∃ e, m u = some e ∧ e ≤ k) ∧ ∀ u, u < N → N ≤ 32 → m u = dst nx t u := by
  have h1 : ∀ k u, u < N → wi nx t k u = true → ∃ e, m u = some e ∧ e ≤ k := by
    intro k
    induction k with
    | zero =>
      intro u hu hw
      rw [wi, beq_iff_eq] at hw
      subst hw
      exact ⟨0, h.base, Nat.le_refl _⟩
    | succ k ih =>
      intro u hu hw
      rw [wi, Bool.or_eq_true] at hw
      rcases hw with hw | hw
      · obtain ⟨e, he, hle⟩ := ih u hu hw
        exact ⟨e, he, by omega⟩
      · obtain ⟨v, hv, hw⟩ := List.any_eq_true.1 hw
        obtain ⟨d, hd, hle⟩ := ih v (hN u hu v hv) hw
        obtain ⟨e, he, hle2⟩ := hc u hu v hv d hd
        exact ⟨e, he, by omega⟩
  refine ⟨h1, fun u hu h32 => ?_⟩
  cases hm : m u with
  | none =>
    cases hd : dst nx t u with
    | none => rfl
    | some d =>
      obtain ⟨e, he, _⟩ := h1 d u hu (dst_some hd).1
      rw [hm] at he; cases he
  | some e =>
    have hs := (h.sound u e hm).1
    cases hd : dst nx t u with
    | none =>
      have h2 := wi_all hN hu hs
      have h3 := List.find?_eq_none.1 hd N (List.mem_range.2 (by omega))
      rw [h2] at h3; simp at h3
    | some d =>
      obtain ⟨h2, h3, h4⟩ := dst_some hd
      obtain ⟨e2, he2, hle⟩ := h1 d u hu h2
      rw [hm] at he2
      injection he2 with he2
      subst he2
      by_cases hlt : e < d
      · have := h4 e hlt
        rw [hs] at this; cases this
      · congr 1; omega
/-- a state that is not t has one after it that is nearer -/
theorem dst_next {nx : Nat → List Nat} {t u d : Nat} (h : dst nx t u = some (d + 1)) : ∃ v, v ∈ nx u ∧ dst nx t v = some d := by
  obtain ⟨h1, h2, h3⟩ := dst_some h
  have h4 := h3 d (by omega)
  rw [wi, Bool.or_eq_true] at h1
  rcases h1 with h1 | h1
  · rw [h4] at h1; cases h1
  · obtain ⟨v, hv, hw⟩ := List.any_eq_true.1 h1
    refine ⟨v, hv, ?_⟩
    unfold dst
    rw [List.find?_eq_some_iff_getElem]
    refine ⟨hw, d, by rw [List.length_range]; omega, by rw [List.getElem_range], fun j hj => ?_⟩
    rw [List.getElem_range]
    cases hwj : wi nx t j v
    · rfl
    · have h5 : wi nx t (j + 1) u = true := by
        rw [wi, Bool.or_eq_true]
        exact .inr (List.any_eq_true.2 ⟨v, hv, hwj⟩)
      have := h3 (j + 1) (by omega)
      rw [h5] at this; cases this
theorem dst_zero {nx : Nat → List Nat} {t u : Nat} : dst nx t u = some 0 ↔ u = t := by
  constructor
  · intro h
    have := (dst_some h).1
    rw [wi, beq_iff_eq] at this
    exact this
  · rintro rfl
    unfold dst
    rw [List.find?_eq_some_iff_getElem]
    exact ⟨by rw [wi]; exact beq_self_eq_true _, 0, by simp, by rw [List.getElem_range], fun j hj => by omega⟩

/-- no state after it is nearer than by one -/
theorem dst_ge {nx : Nat → List Nat} {t u v d e : Nat} (h : dst nx t u = some (d + 1)) (hv : v ∈ nx u) (he : dst nx t v = some e) : d ≤ e := by
  obtain ⟨h1, h2, h3⟩ := dst_some h
  by_cases hle : d ≤ e
  · exact hle
  · have h4 : wi nx t (e + 1) u = true := by
      rw [wi, Bool.or_eq_true]
      exact .inr (List.any_eq_true.2 ⟨v, hv, (dst_some he).1⟩)
    have := h3 (e + 1) (by omega)
    rw [h4] at this; cases this
/-- the first state after s that is at a distance -/
def nxt1 (nx : Nat → List Nat) (t s d : Nat) : Nat := ((nx s).find? fun v => dst nx t v == some d).getD 0
theorem nxt1_all {nx : Nat → List Nat} {t s d : Nat} (h : dst nx t s = some (d + 1)) : nxt1 nx t s d ∈ nx s ∧ dst nx t (nxt1 nx t s d) = some d ∧ ∃ j, ∃ hj : j < (nx s).length, (nx s)[j] = nxt1 nx t s d ∧ ∀ i, (hi : i < j) → ¬ dst nx t (nx s)[i] = some d := by
  obtain ⟨v, hv, hd⟩ := dst_next h
  cases hf : (nx s).find? fun v => dst nx t v == some d with
  | none =>
    have := List.find?_eq_none.1 hf v hv
    rw [hd] at this; simp at this
  | some x =>
    have e : nxt1 nx t s d = x := by rw [nxt1, hf]; rfl
    have h1 := List.find?_some hf
    have h2 := List.mem_of_find?_eq_some hf
    rw [List.find?_eq_some_iff_getElem] at hf
    obtain ⟨_, j, hj, hje, hb⟩ := hf
    rw [e]
    exact ⟨h2, by simpa using h1, j, hj, hje, fun i hi => by have := hb i hi; simpa using this⟩
/-- the way from s that the program tells: d steps -/
def pth (nx : Nat → List Nat) (t : Nat) : Nat → Nat → List Nat
  | 0, s => [s]
  | d + 1, s => s :: pth nx t d (nxt1 nx t s d)
theorem pth_len (nx : Nat → List Nat) (t : Nat) : ∀ d s, (pth nx t d s).length = d + 1
  | 0, s => rfl
  | d + 1, s => by rw [pth, List.length_cons, pth_len nx t d]
theorem pth_head (nx : Nat → List Nat) (t d s : Nat) : (pth nx t d s)[0]? = some s := by cases d <;> rfl
/-- its states: each is one nearer, and the one after it is the first such one -/
theorem pth_at {nx : Nat → List Nat} {t : Nat} : ∀ d s, dst nx t s = some d → ∀ i, i ≤ d → ∃ x, (pth nx t d s)[i]? = some x ∧ dst nx t x = some (d - i) ∧ (i < d → (pth nx t d s)[i + 1]? = some (nxt1 nx t x (d - i - 1)))
  | 0, s, h, i, hi => by
    have : i = 0 := by omega
    subst this
    exact ⟨s, rfl, h, fun h => by omega⟩
  | d + 1, s, h, i, hi => by
    obtain ⟨h1, h2, _⟩ := nxt1_all h
    cases i with
    | zero => exact ⟨s, rfl, h, fun _ => by rw [pth, List.getElem?_cons_succ]; exact pth_head nx t d _⟩
    | succ i =>
      obtain ⟨x, k1, k2, k3⟩ := pth_at d _ h2 i (by omega)
      refine ⟨x, by rw [pth, List.getElem?_cons_succ]; exact k1, by rw [k2]; congr 1; omega, fun hlt => ?_⟩
      rw [pth, List.getElem?_cons_succ, k3 (by omega)]
      congr 2; omega
/-- it ends at t -/
theorem pth_last {nx : Nat → List Nat} {t d s : Nat} (h : dst nx t s = some d) : (pth nx t d s)[d]? = some t := by
  obtain ⟨x, h1, h2, _⟩ := pth_at d s h d (Nat.le_refl _)
  rw [Nat.sub_self] at h2
  rw [h1, dst_zero.1 h2]

end Go.Proofs.YtpehimjngofnkaaDoor
