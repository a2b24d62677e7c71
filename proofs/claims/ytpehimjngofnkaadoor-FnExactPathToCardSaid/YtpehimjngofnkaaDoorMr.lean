/- Plain facts on what can be reached. -/
import Derived.Test.YtpehimjngofnkaaDoorMo
namespace Go.Proofs.YtpehimjngofnkaaDoor
open Go.RowKit

/-- t is reached from s by some steps along nx -/
inductive Rch (nx : Nat → List Nat) (s : Nat) : Nat → Prop
  | refl : Rch nx s s
  | step {t u : Nat} : Rch nx s t → u ∈ nx t → Rch nx s u
theorem Rch.trans {nx : Nat → List Nat} {a b c : Nat} (h : Rch nx a b) (k : Rch nx b c) : Rch nx a c := by
  induction k with
  | refl => exact h
  | step _ hu ih => exact ih.step hu
/-- a search under way from s: met are the states met, todo those of them whose next states are not looked at yet -/
structure SrchI (nx : Nat → List Nat) (N s : Nat) (met todo : List Nat) : Prop where
  start : s ∈ met
  nd : met.Nodup
  lt : ∀ x ∈ met, x < N
  sub : ∀ x ∈ met, Rch nx s x
  sd : ∀ x ∈ todo, x ∈ met
  done : ∀ x ∈ met, x ∉ todo → ∀ u ∈ nx x, u ∈ met
theorem SrchI.first (nx : Nat → List Nat) {N s : Nat} (h : s < N) : SrchI nx N s [s] [s] :=
  ⟨by simp, by simp, by simpa using h, by intro x hx; simp at hx; subst hx; exact .refl, by simp, by intro x hx hn; exact absurd hx hn⟩
theorem SrchI.fin {nx : Nat → List Nat} {N s : Nat} {met : List Nat} (h : SrchI nx N s met []) (x : Nat) : x ∈ met ↔ Rch nx s x := by
  constructor
  · exact h.sub x
  · intro hr
    induction hr with
    | refl => exact h.start
    | step _ hu ih => exact h.done _ ih (by simp) _ hu
/-- .. while the first j next states of t, which is no more to do, have been looked at -/
structure SrchJ (nx : Nat → List Nat) (N s t j : Nat) (met todo : List Nat) : Prop where
  start : s ∈ met
  nd : met.Nodup
  lt : ∀ x ∈ met, x < N
  sub : ∀ x ∈ met, Rch nx s x
  sd : ∀ x ∈ todo, x ∈ met
  tm : t ∈ met
  done : ∀ x ∈ met, x ∉ todo → x ≠ t → ∀ u ∈ nx x, u ∈ met
  part : ∀ u ∈ (nx t).take j, u ∈ met
theorem SrchI.open_ {nx : Nat → List Nat} {N s t : Nat} {met todo todo' : List Nat} (h : SrchI nx N s met todo) (ht : t ∈ todo) (hs : ∀ x ∈ todo', x ∈ todo) (hr : ∀ x ∈ todo, x = t ∨ x ∈ todo') : SrchJ nx N s t 0 met todo' :=
  ⟨h.start, h.nd, h.lt, h.sub, fun x hx => h.sd x (hs x hx), h.sd t ht, fun x hx hn hne => h.done x hx (fun hm => (hr x hm).elim hne hn), by simp⟩
theorem SrchJ.skip {nx : Nat → List Nat} {N s t j u : Nat} {met todo : List Nat} (h : SrchJ nx N s t j met todo) (hu : (nx t)[j]? = some u) (hm : u ∈ met) : SrchJ nx N s t (j + 1) met todo :=
  ⟨h.start, h.nd, h.lt, h.sub, h.sd, h.tm, h.done, by
    intro x hx
    rw [List.take_add_one, hu] at hx
    rcases List.mem_append.1 hx with hx | hx
    · exact h.part x hx
    · simp at hx; subst hx; exact hm⟩
theorem SrchJ.push {nx : Nat → List Nat} {N s t j u : Nat} {met todo : List Nat} (h : SrchJ nx N s t j met todo) (hu : (nx t)[j]? = some u) (hN : u < N) (hm : u ∉ met) : SrchJ nx N s t (j + 1) (met ++ [u]) (todo ++ [u]) := by
  have hmem : ∀ x, x ∈ met → x ∈ met ++ [u] := fun x hx => by simp [hx]
  refine ⟨hmem _ h.start, ?_, ?_, ?_, ?_, hmem _ h.tm, ?_, ?_⟩
  · rw [List.nodup_append]
    exact ⟨h.nd, by simp, by intro a ha b hb; simp at hb; subst hb; intro e; subst e; exact hm ha⟩
  · intro x hx
    rcases List.mem_append.1 hx with hx | hx
    · exact h.lt x hx
    · simp at hx; subst hx; exact hN
  · intro x hx
    rcases List.mem_append.1 hx with hx | hx
    · exact h.sub x hx
    · simp at hx; subst hx; exact (h.sub t h.tm).step (List.mem_of_getElem? hu)
  · intro x hx
    rcases List.mem_append.1 hx with hx | hx
    · exact hmem _ (h.sd x hx)
    · simp at hx; subst hx; simp
  · intro x hx hn hne v hv
    rcases List.mem_append.1 hx with hx | hx
    · exact hmem _ (h.done x hx (fun hm => hn (by simp [hm])) hne v hv)
    · simp at hx; subst hx; exact absurd (by simp) hn
  · intro x hx
    rw [List.take_add_one, hu] at hx
    rcases List.mem_append.1 hx with hx | hx
    · exact hmem _ (h.part x hx)
    · simp at hx; subst hx; simp
theorem SrchJ.close {nx : Nat → List Nat} {N s t j : Nat} {met todo : List Nat} (h : SrchJ nx N s t j met todo) (hj : (nx t).length ≤ j) : SrchI nx N s met todo :=
  ⟨h.start, h.nd, h.lt, h.sub, h.sd, fun x hx hn u hu => by
    by_cases e : x = t
    · subst e
      exact h.part u (by rw [List.take_of_length_le hj]; exact hu)
    · exact h.done x hx hn e u hu⟩
theorem SrchI.len {nx : Nat → List Nat} {N s : Nat} {met todo : List Nat} (h : SrchI nx N s met todo) : met.length ≤ N := nodup_le h.nd h.lt
theorem SrchJ.len {nx : Nat → List Nat} {N s t j : Nat} {met todo : List Nat} (h : SrchJ nx N s t j met todo) : met.length ≤ N := nodup_le h.nd h.lt
/-! within k steps -/
/-- some k steps or fewer lead from u to t -/
def wi (nx : Nat → List Nat) (t : Nat) : Nat → Nat → Bool
  | 0, u => u == t
  | k + 1, u => wi nx t k u || (nx u).any (wi nx t k)
theorem wi_up {nx : Nat → List Nat} {t k u : Nat} (h : wi nx t k u = true) : wi nx t (k + 1) u = true := by rw [wi, h, Bool.true_or]
theorem wi_le {nx : Nat → List Nat} {t k u : Nat} (h : wi nx t k u = true) : ∀ j, wi nx t (k + j) u = true
  | 0 => h
  | j + 1 => wi_up (wi_le h j)
theorem wi_rch {nx : Nat → List Nat} {t : Nat} : ∀ {k u : Nat}, wi nx t k u = true → Rch nx u t
  | 0, u, h => by
    rw [wi, beq_iff_eq] at h
    subst h; exact .refl
  | k + 1, u, h => by
    rw [wi, Bool.or_eq_true] at h
    rcases h with h | h
    · exact wi_rch h
    · obtain ⟨v, hv, h2⟩ := List.any_eq_true.1 h
      exact Rch.trans (Rch.step .refl hv) (wi_rch h2)
theorem wi_more {nx : Nat → List Nat} {t u : Nat} (hu : u ∈ nx t) : ∀ {k s : Nat}, wi nx t k s = true → wi nx u (k + 1) s = true
  | 0, s, h => by
    rw [wi, beq_iff_eq] at h
    subst h
    rw [wi, Bool.or_eq_true]
    exact .inr (List.any_eq_true.2 ⟨u, hu, by rw [wi]; exact beq_self_eq_true _⟩)
  | k + 1, s, h => by
    rw [wi, Bool.or_eq_true] at h
    rw [wi, Bool.or_eq_true]
    rcases h with h | h
    · exact .inl (wi_more hu h)
    · obtain ⟨v, hv, h2⟩ := List.any_eq_true.1 h
      exact .inr (List.any_eq_true.2 ⟨v, hv, wi_more hu h2⟩)
theorem wi_of_rch {nx : Nat → List Nat} {s t : Nat} (h : Rch nx s t) : ∃ k, wi nx t k s = true := by
  induction h with
  | refl => exact ⟨0, by rw [wi]; exact beq_self_eq_true _⟩
  | step _ hu ih => obtain ⟨k, hk⟩ := ih; exact ⟨k + 1, wi_more hu hk⟩
theorem wi_stab {nx : Nat → List Nat} {N t k : Nat} (hN : ∀ x, x < N → ∀ u ∈ nx x, u < N) (hs : ∀ u, u < N → wi nx t (k + 1) u = true → wi nx t k u = true) : ∀ j u, u < N → wi nx t (k + j) u = true → wi nx t k u = true
  | 0, u, _, h => h
  | j + 1, u, hu, h => by
    rw [← Nat.add_assoc, wi, Bool.or_eq_true] at h
    rcases h with h | h
    · exact wi_stab hN hs j u hu h
    · obtain ⟨v, hv, h2⟩ := List.any_eq_true.1 h
      refine hs u hu ?_
      rw [wi, Bool.or_eq_true]
      exact .inr (List.any_eq_true.2 ⟨v, hv, wi_stab hN hs j v (hN u hu v hv) h2⟩)
theorem len_grow {p q : Nat → Bool} (hpq : ∀ x, p x = true → q x = true) {e : Nat} (he : p e = false) (hq : q e = true) : ∀ {l : List Nat}, e ∈ l → (l.filter p).length < (l.filter q).length := by
  have hle : ∀ l : List Nat, (l.filter p).length ≤ (l.filter q).length := by
    intro l
    induction l with
    | nil => simp
    | cons a l ih =>
      by_cases ha : p a = true
      · rw [List.filter_cons_of_pos ha, List.filter_cons_of_pos (hpq a ha)]; simpa using ih
      · rw [List.filter_cons_of_neg ha]
        by_cases hb : q a = true
        · rw [List.filter_cons_of_pos hb]; simp; omega
        · rw [List.filter_cons_of_neg hb]; exact ih
  intro l
  induction l with
  | nil => intro h; simp at h
  | cons a l ih =>
    intro h
    rcases List.mem_cons.1 h with rfl | h
    · rw [List.filter_cons_of_neg (by simp [he]), List.filter_cons_of_pos hq]
      have := hle l
      simp; omega
    · have := ih h
      by_cases ha : p a = true
      · rw [List.filter_cons_of_pos ha, List.filter_cons_of_pos (hpq a ha)]; simpa using this
      · rw [List.filter_cons_of_neg ha]
        by_cases hb : q a = true
        · rw [List.filter_cons_of_pos hb]; simp; omega
        · rw [List.filter_cons_of_neg hb]; exact this
theorem wi_all {nx : Nat → List Nat} {N t : Nat} (hN : ∀ x, x < N → ∀ u ∈ nx x, u < N) {k u : Nat} (hu : u < N) (h : wi nx t k u = true) : wi nx t N u = true := by
  have key : ∀ k, (∃ j, j < k ∧ ∀ u, u < N → wi nx t (j + 1) u = true → wi nx t j u = true) ∨ k ≤ ((List.range N).filter (wi nx t k)).length := by
    intro k
    induction k with
    | zero => exact .inr (Nat.zero_le _)
    | succ k ih =>
      rcases ih with ⟨j, hj, h⟩ | ih
      · exact .inl ⟨j, by omega, h⟩
      · by_cases hs : ∀ u, u < N → wi nx t (k + 1) u = true → wi nx t k u = true
        · exact .inl ⟨k, by omega, hs⟩
        · right
          have ⟨u, h1⟩ := Classical.not_forall.1 hs
          have ⟨h2, h3⟩ := Classical.not_imp.1 h1
          have ⟨h4, h5⟩ := Classical.not_imp.1 h3
          have := len_grow (p := wi nx t k) (q := wi nx t (k + 1)) (fun x hx => wi_up hx) (by simpa using h5) h4 (List.mem_range.2 h2)
          omega
  rcases key (N + 1) with ⟨j, hj, hs⟩ | h2
  · have h3 : wi nx t j u = true := by
      by_cases hjk : j ≤ k
      · exact wi_stab hN hs (k - j) u hu (by rwa [show j + (k - j) = k by omega])
      · have := wi_le h (j - k)
        rwa [show k + (j - k) = j by omega] at this
    have := wi_le h3 (N - j)
    rwa [show j + (N - j) = N by omega] at this
  · have h3 := List.length_filter_le (wi nx t (N + 1)) (List.range N)
    rw [List.length_range] at h3
    omega
/-- can t be reached from s? -/
def rb (nx : Nat → List Nat) (s t : Nat) : Bool := wi nx t 32 s
theorem rb_iff {nx : Nat → List Nat} {N s t : Nat} (hN : ∀ x, x < N → ∀ u ∈ nx x, u < N) (h32 : N ≤ 32) (hs : s < N) : rb nx s t = true ↔ Rch nx s t := by
  constructor
  · exact wi_rch
  · intro h
    obtain ⟨k, hk⟩ := wi_of_rch h
    have := wi_le (wi_all hN hs hk) (32 - N)
    rwa [show N + (32 - N) = 32 by omega] at this
theorem Rch.lt {nx : Nat → List Nat} {N s t : Nat} (hN : ∀ x, x < N → ∀ u ∈ nx x, u < N) (hs : s < N) (h : Rch nx s t) : t < N := by
  induction h with
  | refl => exact hs
  | step _ hu ih => exact hN _ ih _ hu
/-- the relation of one network -/
theorem next_lt {ps : List (List UInt8)} {N : Nat} (h : okN ps = true) (hN : N = 2 ^ ps.length) : ∀ x, x < N → ∀ u ∈ nextN ps x, u < N := by
  subst hN
  intro x hx u hu
  exact nextTo_lt h hx _ (Nat.le_refl _) u hu
def rbN (ps : List (List UInt8)) (s t : Nat) : Bool := rb (nextN ps) s t
theorem rbN_iff {ps : List (List UInt8)} {N s t : Nat} (h : okN ps = true) (hN : N = 2 ^ ps.length) (hs : s < N) : rbN ps s t = true ↔ Rch (nextN ps) s t :=
  rb_iff (next_lt h hN) (by rw [hN]; exact two_le _ (okN_le h)) hs
/-- what the finished search has met -/
theorem SrchI.mem {ps : List (List UInt8)} {N s : Nat} {met : List Nat} (hok : okN ps = true) (hN : N = 2 ^ ps.length) (hs : s < N) (h : SrchI (nextN ps) N s met []) (x : Nat) : decide (x ∈ met) = rbN ps s x := by
  rw [Bool.eq_iff_iff, decide_eq_true_iff, h.fin, rbN_iff hok hN hs]
/-- the states that are reached -/
def reaN (ps : List (List UInt8)) (t : Int) : List Int := if okSt ps t then ints (sel (2 ^ ps.length) (rbN ps t.toNat)) else []
theorem reaN_yes {ps : List (List UInt8)} {t N : Nat} (h : okSt ps t = true) (hN : N = 2 ^ ps.length) : reaN ps t = ints (sel N (rbN ps t)) := by rw [reaN, if_pos h, hN]; rfl
theorem reaN_no {ps : List (List UInt8)} {t : Int} (h : okSt ps t = false) : reaN ps t = [] := by rw [reaN, h]; rfl
theorem reaN_len (ps : List (List UInt8)) (t : Int) : (reaN ps t).length ≤ 1048576 := by
  by_cases h : okSt ps t = true
  · obtain ⟨hok, s, rfl, _⟩ := okSt_true h
    rw [reaN_yes h rfl, ints_length]
    have := sel_len (2 ^ ps.length) (rbN ps s)
    have h32 := two_le _ (okN_le hok)
    omega
  · rw [reaN_no (by simpa using h)]; simp
/-- can a state be reached from another one? -/
def canN (ps : List (List UInt8)) (t u : Int) : Bool := okSt ps t && inW ps.length u && rbN ps t.toNat u.toNat
theorem canN_yes {ps : List (List UInt8)} {t u N : Nat} (h : okSt ps t = true) (hN : N = 2 ^ ps.length) (hu : u < N) : canN ps t u = rbN ps t u := by
  rw [canN, h, (inW_yes hN).2 ⟨by omega, by omega⟩]; rfl
theorem canN_no {ps : List (List UInt8)} {t u : Int} (h : okSt ps t = false) : canN ps t u = false := by rw [canN, h]; rfl
theorem canN_out {ps : List (List UInt8)} {t u : Int} {N : Nat} (hN : N = 2 ^ ps.length) (hu : ¬ (0 ≤ u ∧ u < N)) : canN ps t u = false := by
  have : inW ps.length u = false := by
    cases h : inW ps.length u
    · rfl
    · have := (inW_yes hN).1 h
      exact absurd ⟨this.1, by omega⟩ hu
  rw [canN, this, Bool.and_false, Bool.false_and]
end Go.Proofs.YtpehimjngofnkaaDoor
