/- Plain facts on reversible networks. -/
import Derived.Test.YtpehimjngofnkaaDoorProg
import Derived.WalkKit
import Derived.Lib.Hide
import Derived.Test.YtpehimjngofnkaaDoorYn
import Derived.Test.YtpehimjngofnkaaDoorWi
namespace Go.Proofs.YtpehimjngofnkaaDoor
open Go.RowKit
set_option linter.unusedVariables false

theorem nodup_sub : ∀ {l m : List Nat}, l.Nodup → (∀ x ∈ l, x ∈ m) → l.length ≤ m.length
  | [], m, _, _ => by simp
  | a :: l, m, h, hs => by
    have h1 := List.nodup_cons.1 h
    have ha := hs a (by simp)
    have ih := nodup_sub (l := l) (m := m.erase a) h1.2 (fun x hx => (List.mem_erase_of_ne (by intro e; subst e; exact h1.1 hx)).2 (hs x (by simp [hx])))
    rw [List.length_erase_of_mem ha] at ih
    have := List.length_pos_of_mem ha
    simp only [List.length_cons]; omega
theorem sumTo_ones {g : Nat → Nat} : ∀ N, (∀ k, k < N → 1 ≤ g k) → N ≤ sumTo g N ∧ ∀ k, k < N → 2 ≤ g k → N + 1 ≤ sumTo g N
  | 0, _ => ⟨Nat.le_refl _, fun k hk => by omega⟩
  | N + 1, h => by
    obtain ⟨h1, h2⟩ := sumTo_ones N (fun k hk => h k (by omega))
    have h3 := h N (by omega)
    refine ⟨by rw [sumTo]; omega, fun k hk h4 => ?_⟩
    rw [sumTo]
    by_cases e : k = N
    · subst e; omega
    · have := h2 k (by omega) h4; omega
theorem before_inj {f : Nat → Nat} {N : Nat} (hf : ∀ x, x < N → f x < N) (h : ∀ s, s < N → ∃ k, k < N ∧ f k = s) {x y : Nat} (hx : x < N) (hy : y < N) (e : f x = f y) : x = y := by
  by_cases hxy : x = y
  · exact hxy
  · have h1 := sum_sel (f := f) N hf
    have h2 := sumTo_ones (g := fun k => (sel N fun z => f z == k).length) N (fun k hk => by
      obtain ⟨z, hz, hz2⟩ := h k hk
      exact List.length_pos_of_mem (sel_mem.2 ⟨hz, by simpa using hz2⟩))
    have h3 := sel_ge (p := fun z => f z == f x) (N := N) (l := [x, y]) (by simp [hxy]) (fun z hz => by
      simp at hz
      rcases hz with rfl | rfl
      · exact ⟨hx, by simp⟩
      · exact ⟨hy, by simp [e]⟩)
    have h4 := h2.2 (f x) (hf x hx) h3
    omega
section
variable {f : Nat → Nat} {N : Nat} (hN : N ≤ 32) (hf : ∀ x, x < N → f x < N)
include hN hf
theorem tail_before (h : ∀ s, s < N → (orb f s).2 = 0) {s : Nat} (hs : s < N) : ∃ k, k < N ∧ f k = s := by
  obtain ⟨L, T, hF⟩ := orb_form hN hf hs
  have h1 := h s hs
  rw [hF.eq] at h1
  have h2 : T = 0 := h1
  subst h2
  obtain ⟨j, hj, _⟩ := hF.before
  exact ⟨itf f j s, itf_lt hf hs j, hj⟩
theorem before_tail (h : ∀ s, s < N → ∃ k, k < N ∧ f k = s) {s : Nat} (hs : s < N) : (orb f s).2 = 0 := by
  obtain ⟨L, T, hF⟩ := orb_form hN hf hs
  rw [hF.eq]
  show T = 0
  by_cases hT : T = 0
  · exact hT
  · have hlt := hF.lt
    have h1 := hF.rep
    have e1 : itf f L s = f (itf f (L - 1) s) := by rw [← itf_succ f]; congr 1; omega
    have e2 : itf f T s = f (itf f (T - 1) s) := by rw [← itf_succ f]; congr 1; omega
    rw [e1, e2] at h1
    have h2 := before_inj hf h (itf_lt hf hs _) (itf_lt hf hs _) h1
    have := itl_inj hF.nd (show L - 1 < L by omega) (show T - 1 < L by omega) h2
    omega
/-- the states of a cycle are those without a tail that have its least state -/
theorem cyc_count {s : Nat} (hs : s < N) (hr : cy0 f s = s) : (cyc f s).length = (sel N fun k => (orb f k).2 == 0 && cy0 f k == s).length := by
  obtain ⟨p, hC⟩ := cyc_all hN hf hs
  apply Nat.le_antisymm
  · refine sel_ge hC.nd fun x hx => ?_
    obtain ⟨i, hi, e⟩ := List.getElem_of_mem hx
    have hi2 : i < p := by rw [← hC.len]; exact hi
    have e2 : (cyc f s).getD i 0 = x := by rw [List.getD_eq_getElem?_getD, List.getElem?_eq_getElem hi, Option.getD_some, e]
    have h1 := hC.lt i hi2
    have h2 := hC.base i hi2
    have h3 := hC.tail i hi2
    rw [e2] at h1 h2 h3
    exact ⟨h1, by simp [h2, h3, hr]⟩
  · refine nodup_sub (sel_nodup _ _) fun x hx => ?_
    obtain ⟨h1, h2⟩ := sel_mem.1 hx
    rw [Bool.and_eq_true, beq_iff_eq, beq_iff_eq] at h2
    rw [← cyc_same hN hf hs h1 (by rw [h2.2, hr])]
    obtain ⟨L, T, hF⟩ := orb_form hN hf h1
    have h3 := h2.1
    rw [hF.eq] at h3
    have h4 : T = 0 := h3
    subst h4
    have hm : x ∈ rnd f x := by
      rw [hF.rnd_]
      exact itl_mem.2 ⟨0, by have := hF.lt; omega, rfl⟩
    rw [cyc, rot]
    have := List.take_append_drop (mni (rnd f x)) (rnd f x)
    rw [← this] at hm
    rcases List.mem_append.1 hm with hm | hm
    · exact List.mem_append.2 (.inr hm)
    · exact List.mem_append.2 (.inl hm)
theorem sum_selq (q : Nat → Bool) : ∀ M, M ≤ N → sumTo (fun k => (sel M fun x => q x && cy0 f x == k).length) N = (sel M q).length
  | 0, _ => by
    have : (fun k => (sel 0 fun x => q x && cy0 f x == k).length) = fun _ => 0 := rfl
    rw [this, sumTo_zero]; rfl
  | M + 1, h => by
    have ih := sum_selq q M (by omega)
    by_cases hq : q M = true
    · have e : (fun k => (sel (M + 1) fun x => q x && cy0 f x == k).length) = fun k => (sel M fun x => q x && cy0 f x == k).length + (if cy0 f M = k then 1 else 0) := by
        funext k
        by_cases hk : cy0 f M = k
        · rw [sel_yes (by simp [hq, hk]), List.length_append, if_pos hk]; rfl
        · rw [sel_no (by simp [hk]), if_neg hk]; rfl
      rw [e, sumTo_add, ih, sumTo_one, if_pos (cy0_all hN hf (show M < N by omega)).1, sel_yes hq, List.length_append]; rfl
    · have hq' : q M = false := by simpa using hq
      have e : (fun k => (sel (M + 1) fun x => q x && cy0 f x == k).length) = fun k => (sel M fun x => q x && cy0 f x == k).length := by
        funext k
        rw [sel_no (by simp [hq'])]
      rw [e, ih, sel_no hq']
/-- all cycles have just the states without a tail -/
theorem cyc_sum : idxS (fun s => (cyc f s).length) (sel N fun s => cy0 f s == s) (sel N fun s => cy0 f s == s).length = (sel N fun k => (orb f k).2 == 0).length := by
  rw [idxS_sel, ← sum_selq hN hf (fun k => (orb f k).2 == 0) N (Nat.le_refl _)]
  refine sumTo_congr N fun s hs => ?_
  by_cases h : cy0 f s = s
  · rw [if_pos (by simpa using h)]; exact cyc_count hN hf hs h
  · rw [if_neg (by simpa using h)]
    refine (List.length_eq_zero_iff.2 ?_).symm
    rw [List.eq_nil_iff_forall_not_mem]
    intro k hk
    obtain ⟨h1, h2⟩ := sel_mem.1 hk
    rw [Bool.and_eq_true, beq_iff_eq, beq_iff_eq] at h2
    have h4 := (cy0_all hN hf h1).2
    rw [h2.2] at h4
    exact h h4
end
theorem sel_full {p : Nat → Bool} : ∀ N, (sel N p).length = N ↔ ∀ s, s < N → p s = true
  | 0 => by simp [sel]
  | N + 1 => by
    have ih := sel_full (p := p) N
    have hl := sel_len N p
    by_cases h : p N = true
    · rw [sel_yes h, List.length_append, List.length_singleton]
      constructor
      · intro e s hs
        by_cases e2 : s = N
        · subst e2; exact h
        · exact ih.1 (by omega) s (by omega)
      · intro h2
        rw [ih.2 fun s hs => h2 s (by omega)]
    · rw [sel_no (by simpa using h)]
      constructor
      · intro e; omega
      · intro h2; exact absurd (h2 N (by omega)) h
theorem lonTo_zero {ps : List (List UInt8)} : ∀ N, lonTo ps N = 0 ↔ ∀ s, s < N → (orb (stp ps) s).2 = 0
  | 0 => by simp [lonTo]
  | N + 1 => by
    have ih := lonTo_zero (ps := ps) N
    rw [lonTo]
    constructor
    · intro e s hs
      by_cases e2 : s = N
      · subst e2; omega
      · exact ih.1 (by omega) s (by omega)
    · intro h
      have h1 := ih.2 fun s hs => h s (by omega)
      have h2 := h N (by omega)
      omega
theorem sel_none {p : Nat → Bool} {N : Nat} : (sel N p).length = 0 ↔ ∀ s, s < N → p s = false := by
  rw [List.length_eq_zero_iff, List.eq_nil_iff_forall_not_mem]
  constructor
  · intro h s hs
    cases hp : p s
    · rfl
    · exact absurd (sel_mem.2 ⟨hs, hp⟩) (h s)
  · intro h s hs
    obtain ⟨h1, h2⟩ := sel_mem.1 hs
    rw [h s h1] at h2; cases h2
/-- what is told of a reversible network -/
theorem rev_all {ps : List (List UInt8)} {N : Nat} (hok : okN ps = true) (hN : N = 2 ^ ps.length) (h32 : N ≤ 32) :
    (revN ps = true ↔ lonTo ps N = 0) ∧ (revN ps = true ↔ (unrN ps).length = 0) ∧ (revN ps = true ↔ (sel N fun k => (orb (stp ps) k).2 == 0).length = N) := by
  have hf : ∀ x, x < N → stp ps x < N := fun x _ => by rw [hN]; exact stp_lt hok x
  have hr : revN ps = true ↔ (unrN ps).length = 0 := by rw [revN, hok, Bool.true_and, List.isEmpty_iff, List.length_eq_zero_iff]
  have hu : (unrN ps).length = 0 ↔ ∀ s, s < N → ∃ k, k < N ∧ stp ps k = s := by
    rw [unrN_yes hok hN, ints_length, sel_none]
    constructor
    · intro h s hs
      have h1 := h s hs
      have hst : okSt ps (s : Int) = true := by rw [okSt_of hok hN]; simp; omega
      rw [befN_yes hst hN] at h1
      cases hl : sel N fun k => stp ps k == s with
      | nil => rw [hl] at h1; simp [ints] at h1
      | cons a r =>
        have hm : a ∈ sel N fun k => stp ps k == s := by rw [hl]; simp
        obtain ⟨h2, h3⟩ := sel_mem.1 hm
        exact ⟨a, h2, by simpa using h3⟩
    · intro h s hs
      obtain ⟨k, hk, e⟩ := h s hs
      have hst : okSt ps (s : Int) = true := by rw [okSt_of hok hN]; simp; omega
      rw [befN_yes hst hN]
      have hm : k ∈ sel N fun k => stp ps k == s := sel_mem.2 ⟨hk, by simpa using e⟩
      cases hl : sel N fun k => stp ps k == s with
      | nil => rw [hl] at hm; simp at hm
      | cons a r => rfl
  have ht : (∀ s, s < N → ∃ k, k < N ∧ stp ps k = s) ↔ ∀ s, s < N → (orb (stp ps) s).2 = 0 :=
    ⟨fun h s hs => before_tail h32 hf h hs, fun h s hs => tail_before h32 hf h hs⟩
  refine ⟨by rw [hr, hu, ht, lonTo_zero], hr, ?_⟩
  rw [hr, hu, ht, sel_full]
  constructor
  · intro h s hs; simpa using h s hs
  · intro h s hs; simpa using h s hs

end Go.Proofs.YtpehimjngofnkaaDoor
