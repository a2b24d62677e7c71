/- Plain facts for the laws on attractors and outcomes. -/
import Derived.Test.YtpehimjngofnkaaDoorProg
import Derived.WalkKit
import Derived.Lib.Hide
import Derived.Test.YtpehimjngofnkaaDoorG4
import Derived.Test.YtpehimjngofnkaaDoorYo
namespace Go.Proofs.YtpehimjngofnkaaDoor
open Go.RowKit
set_option linter.unusedVariables false

section
variable {rb : Nat → Nat → Bool} {N : Nat} (h : RB rb N)
include h
theorem lea_att2 {s : Nat} (hs : s < N) (h1 : std rb N s = true) : lea rb N s < N ∧ att rb N (lea rb N s) = true ∧ rb s (lea rb N s) = true ∧ rb (lea rb N s) s = true := by
  obtain ⟨h2, h3, h4⟩ := lea_all h hs
  obtain ⟨h6, h7⟩ := lea_att h hs h1
  exact ⟨h3, h6, h2, h7⟩
/-- a steady state has one outcome: the least state of its attractor -/
theorem outs_std {s : Nat} (hs : s < N) (h1 : std rb N s = true) : outs rb N s = [lea rb N s] := by
  obtain ⟨l1, l2, l3, l4⟩ := lea_att2 h hs h1
  have hm : ∀ a, a ∈ outs rb N s ↔ a = lea rb N s := by
    intro a
    constructor
    · intro ha
      obtain ⟨ha1, ha2⟩ := List.mem_filter.1 ha
      obtain ⟨ha3, ha4⟩ := mem_atts.1 ha1
      have e1 := std_back h hs h1 ha2
      have e2 : rb a (lea rb N s) = true := h.trans a s _ ha3 e1 l3
      have e3 : rb (lea rb N s) a = true := h.trans _ s a l1 l4 ha2
      have f1 := low_iff.1 (att_iff.1 ha4).2 (lea rb N s)
      have f2 := low_iff.1 (att_iff.1 l2).2 a
      rcases Nat.lt_trichotomy a (lea rb N s) with h5 | h5 | h5
      · have := f2 h5; rw [e3] at this; cases this
      · exact h5
      · have := f1 h5; rw [e2] at this; cases this
    · rintro rfl
      exact List.mem_filter.2 ⟨mem_atts.2 ⟨l1, l2⟩, l3⟩
  have hnd : (outs rb N s).Nodup := List.Pairwise.filter _ (sel_nodup _ _)
  cases ho : outs rb N s with
  | nil => have := (hm (lea rb N s)).2 rfl; rw [ho] at this; simp at this
  | cons a l =>
    have ha : a = lea rb N s := (hm a).1 (by rw [ho]; simp)
    cases l with
    | nil => rw [ha]
    | cons b l =>
      have hb : b = lea rb N s := (hm b).1 (by rw [ho]; simp)
      rw [ho] at hnd
      have := (List.nodup_cons.1 hnd).1
      rw [ha, hb] at this
      simp at this
/-- from each state some attractor is reached -/
theorem outs_some : ∀ (n s : Nat), s < N → (sel N (rb s)).length ≤ n → ∃ a, a ∈ outs rb N s
  | 0, s, hs, hn => by
    have hm : s ∈ sel N (rb s) := mem_sel.2 ⟨hs, h.refl s hs⟩
    have := List.length_pos_of_mem hm
    omega
  | n + 1, s, hs, hn => by
    by_cases h1 : std rb N s = true
    · exact ⟨lea rb N s, by rw [outs_std h hs h1]; simp⟩
    · have h2 : ¬ ∀ t, t < N → rb s t = true → rb t s = true := fun h3 => h1 (std_iff.2 h3)
      obtain ⟨t, h3⟩ := Classical.not_forall.1 h2
      obtain ⟨ht, h4⟩ := Classical.not_imp.1 h3
      obtain ⟨h5, h6⟩ := Classical.not_imp.1 h4
      have hlt : (sel N (rb t)).length < (sel N (rb s)).length := by
        have hsub := nodup_sub (l := s :: sel N (rb t)) (m := sel N (rb s)) (List.nodup_cons.2 ⟨fun hm => h6 (mem_sel.1 hm).2, sel_nodup _ _⟩) (fun x hx => by
          rcases List.mem_cons.1 hx with rfl | hx
          · exact mem_sel.2 ⟨hs, h.refl x hs⟩
          · obtain ⟨hx1, hx2⟩ := mem_sel.1 hx
            exact mem_sel.2 ⟨hx1, h.trans s t x hs h5 hx2⟩)
        rw [List.length_cons] at hsub; omega
      obtain ⟨a, ha⟩ := outs_some n t ht (by omega)
      obtain ⟨ha1, ha2⟩ := List.mem_filter.1 ha
      exact ⟨a, List.mem_filter.2 ⟨ha1, h.trans s t a hs h5 ha2⟩⟩
/-- what the states of an attractor reach -/
theorem att_reach {a x : Nat} (ha : a < N) (h1 : att rb N a = true) (hx : rb a x = true) : sel N (rb x) = sel N (rb a) := by
  have hst := (att_iff.1 h1).1
  have hxN := h.lt a x ha hx
  have hb := std_back h ha hst hx
  refine sel_congr fun t ht => ?_
  rw [Bool.eq_iff_iff]
  exact ⟨fun h2 => h.trans a x t ha hx h2, fun h2 => h.trans x a t hxN hb h2⟩
/-- the steady states are those of the attractors -/
theorem att_sum : idxS (fun a => (sel N (rb a)).length) (atts rb N N) (atts rb N N).length = (sel N (std rb N)).length := by
  rw [atts, idxS_sel]
  have key : ∀ M, M ≤ N → sumTo (fun k => (sel M fun x => std rb N x && lea rb N x == k).length) N = (sel M (std rb N)).length := by
    intro M
    induction M with
    | zero =>
      intro _
      have : (fun k => (sel 0 fun x => std rb N x && lea rb N x == k).length) = fun _ => 0 := rfl
      rw [this, sumTo_zero]; rfl
    | succ M ih =>
      intro hM
      have ih := ih (by omega)
      by_cases hq : std rb N M = true
      · have e : (fun k => (sel (M + 1) fun x => std rb N x && lea rb N x == k).length) = fun k => (sel M fun x => std rb N x && lea rb N x == k).length + (if lea rb N M = k then 1 else 0) := by
          funext k
          by_cases hk : lea rb N M = k
          · rw [sel_yes (by simp [hq, hk]), List.length_append, if_pos hk]; rfl
          · rw [sel_no (by simp [hk]), if_neg hk]; rfl
        rw [e, sumTo_add, ih, sumTo_one, if_pos (lea_att2 h (show M < N by omega) hq).1, sel_yes hq, List.length_append]; rfl
      · have hq' : std rb N M = false := by simpa using hq
        have e : (fun k => (sel (M + 1) fun x => std rb N x && lea rb N x == k).length) = fun k => (sel M fun x => std rb N x && lea rb N x == k).length := by
          funext k
          rw [sel_no (by simp [hq'])]
        rw [e, ih, sel_no hq']
  rw [← key N (Nat.le_refl _)]
  refine sumTo_congr N fun a ha => ?_
  by_cases h1 : att rb N a = true
  · rw [if_pos h1]
    congr 1
    refine sel_congr fun x hx => ?_
    rw [Bool.eq_iff_iff, Bool.and_eq_true, beq_iff_eq]
    have hst := (att_iff.1 h1).1
    constructor
    · intro h2
      have h3 := std_to h ha hst h2
      refine ⟨h3, ?_⟩
      have h4 := outs_std h hx h3
      have h5 : a ∈ outs rb N x := List.mem_filter.2 ⟨mem_atts.2 ⟨ha, h1⟩, std_back h ha hst h2⟩
      rw [h4] at h5
      exact (List.mem_singleton.1 h5).symm
    · rintro ⟨h2, h3⟩
      have h4 := lea_att2 h hx h2
      rw [h3] at h4
      exact h4.2.2.2
  · rw [if_neg h1]
    refine (List.length_eq_zero_iff.2 ?_).symm
    rw [List.eq_nil_iff_forall_not_mem]
    intro x hx
    obtain ⟨hx1, hx2⟩ := sel_mem.1 hx
    rw [Bool.and_eq_true, beq_iff_eq] at hx2
    have h4 := lea_att2 h hx1 hx2.1
    rw [hx2.2] at h4
    exact h1 h4.2.1
theorem atts_pos (h0 : 0 < N) : 0 < (atts rb N N).length := by
  obtain ⟨a, ha⟩ := outs_some h (sel N (rb 0)).length 0 h0 (Nat.le_refl _)
  exact List.length_pos_of_mem (List.mem_filter.1 ha).1
end

end Go.Proofs.YtpehimjngofnkaaDoor
