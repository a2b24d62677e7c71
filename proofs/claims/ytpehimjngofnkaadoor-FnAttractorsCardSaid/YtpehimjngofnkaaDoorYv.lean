/- Plain facts for the laws on outcomes: what single steps do to them. -/
import Derived.Test.YtpehimjngofnkaaDoorProg
import Derived.WalkKit
import Derived.Lib.Hide
import Derived.Test.YtpehimjngofnkaaDoorYu
namespace Go.Proofs.YtpehimjngofnkaaDoor
open Go.RowKit
set_option linter.unusedVariables false

theorem Rch.first {nx : Nat → List Nat} {s a : Nat} (h : Rch nx s a) : a = s ∨ ∃ u, u ∈ nx s ∧ Rch nx u a := by
  induction h with
  | refl => exact .inl rfl
  | step _ hu ih =>
    rcases ih with rfl | ⟨v, hv, hr⟩
    · exact .inr ⟨_, hu, .refl⟩
    · exact .inr ⟨v, hv, hr.step hu⟩
section
variable {ps : List (List UInt8)} {N : Nat} (hok : okN ps = true) (hN : N = 2 ^ ps.length)
include hok hN
theorem rb_next {s u : Nat} (hs : s < N) (hu : u ∈ nextN ps s) : rbN ps s u = true ∧ u < N := by
  have hlt := next_lt hok hN s hs u hu
  exact ⟨(rbN_iff hok hN hs).2 (Rch.refl.step hu), hlt⟩
theorem rb_first {s a : Nat} (hs : s < N) (h : rbN ps s a = true) : a = s ∨ ∃ u, u ∈ nextN ps s ∧ rbN ps u a = true := by
  rcases ((rbN_iff hok hN hs).1 h).first with e | ⟨u, hu, hr⟩
  · exact .inl e
  · exact .inr ⟨u, hu, (rbN_iff hok hN (next_lt hok hN s hs u hu)).2 hr⟩
/-- the outcomes of a state are those of the states after it -/
theorem outs_next {s a : Nat} (hs : s < N) (hne : nextN ps s ≠ []) : a ∈ outs (rbN ps) N s ↔ ∃ u, u ∈ nextN ps s ∧ a ∈ outs (rbN ps) N u := by
  have hR := rbN_rb hok hN
  constructor
  · intro ha
    obtain ⟨ha1, ha2⟩ := List.mem_filter.1 ha
    rcases rb_first hok hN hs ha2 with e | ⟨u, hu, hr⟩
    · subst e
      obtain ⟨u, hu⟩ := List.exists_mem_of_ne_nil _ hne
      obtain ⟨h1, h2⟩ := rb_next hok hN hs hu
      exact ⟨u, hu, List.mem_filter.2 ⟨ha1, std_back hR hs (att_iff.1 (mem_atts.1 ha1).2).1 h1⟩⟩
    · exact ⟨u, hu, List.mem_filter.2 ⟨ha1, hr⟩⟩
  · rintro ⟨u, hu, ha⟩
    obtain ⟨ha1, ha2⟩ := List.mem_filter.1 ha
    obtain ⟨h1, h2⟩ := rb_next hok hN hs hu
    exact List.mem_filter.2 ⟨ha1, hR.trans s u a hs h1 ha2⟩
theorem rb_stop {s t : Nat} (hs : s < N) (he : nextN ps s = []) : rbN ps s t = true ↔ t = s := by
  constructor
  · intro h
    rcases rb_first hok hN hs h with e | ⟨u, hu, _⟩
    · exact e
    · rw [he] at hu; simp at hu
  · rintro rfl; exact (rbN_rb hok hN).refl t hs
theorem att_stop {s : Nat} (hs : s < N) (he : nextN ps s = []) : att (rbN ps) N s = true ∧ sel N (rbN ps s) = [s] := by
  have h1 := fun t => rb_stop hok hN (t := t) hs he
  have hst : std (rbN ps) N s = true := std_iff.2 fun t ht hr => by rw [(h1 t).1 hr]; exact (rbN_rb hok hN).refl s hs
  have hat : att (rbN ps) N s = true := att_iff.2 ⟨hst, low_iff.2 fun t ht => by
    cases hr : rbN ps s t
    · rfl
    · have := (h1 t).1 hr; omega⟩
  refine ⟨hat, ?_⟩
  obtain ⟨l, hl⟩ := sel_low (rbN_rb hok hN) hs (att_iff.1 hat).2
  have hnd := sel_nodup N (rbN ps s)
  rw [hl] at hnd ⊢
  cases l with
  | nil => rfl
  | cons b l =>
    have hb : b ∈ sel N (rbN ps s) := by rw [hl]; simp
    have := (h1 b).1 (sel_mem.1 hb).2
    have := (List.nodup_cons.1 hnd).1
    simp_all
/-- a state with no step is its only outcome -/
theorem outs_stop {s : Nat} (hs : s < N) (he : nextN ps s = []) : outs (rbN ps) N s = [s] := by
  have hR := rbN_rb hok hN
  obtain ⟨h1, h2⟩ := att_stop hok hN hs he
  rw [outs_std hR hs (att_iff.1 h1).1, lea, h2]; rfl
/-- the states with no step are the fixed points -/
theorem next_fix {s : Nat} (hs : s < N) : nextN ps s = [] ↔ stp ps s = s := by
  have hs2 : s < 2 ^ ps.length := by rw [← hN]; exact hs
  have key : ∀ k, k ≤ ps.length → (nextTo ps s k = [] ↔ ∀ i, i < k → stp1 ps s i = s) := by
    intro k
    induction k with
    | zero => intro _; simp [nextTo]
    | succ k ih =>
      intro hk
      have ih := ih (by omega)
      rw [nextTo]
      by_cases e : stp1 ps s k = s
      · rw [if_pos e, ih]
        constructor
        · intro h i hi
          by_cases e2 : i = k
          · rw [e2]; exact e
          · exact h i (by omega)
        · intro h i hi; exact h i (by omega)
      · rw [if_neg e]
        constructor
        · intro h; simp at h
        · intro h; exact absurd (h k (by omega)) e
  rw [nextN, key _ (Nat.le_refl _)]
  have h32 := two_le _ (okN_le hok)
  constructor
  · intro h
    refine bit_ext (stp_lt hok s) hs2 fun i hi => ?_
    have h1 := (rst_bit hok hs2 hi).1 (h i hi)
    have h2 := xor_bit (stp ps s) (Nat.lt_of_lt_of_le (stp_lt hok s) h32) s (Nat.lt_of_lt_of_le hs2 h32) i (by have := okN_le hok; omega)
    rw [h1] at h2
    by_cases e : bit (stp ps s) i = bit s i
    · exact e
    · rw [if_neg e] at h2; omega
  · intro h i hi
    by_cases e : stp1 ps s i = s
    · exact e
    · have h1 := ((rst_bit hok hs2 hi).2 e).1
      rw [h, Nat.xor_self] at h1
      simp [bit] at h1
/-- attractors of one state are the fixed points -/
theorem att_one {s : Nat} (hs : s < N) : stp ps s = s ↔ att (rbN ps) N s = true ∧ (sel N (rbN ps s)).length = 1 := by
  rw [← next_fix hok hN hs]
  constructor
  · intro h
    obtain ⟨h1, h2⟩ := att_stop hok hN hs h
    exact ⟨h1, by rw [h2]; rfl⟩
  · rintro ⟨h1, h2⟩
    cases hn : nextN ps s with
    | nil => rfl
    | cons u l =>
      exfalso
      have hu : u ∈ nextN ps s := by rw [hn]; simp
      obtain ⟨h3, h4⟩ := rb_next hok hN hs hu
      have hne : u ≠ s := by
        intro e
        subst e
        have : ∀ k, u ∈ nextTo ps u k → False := by
          intro k
          induction k with
          | zero => intro h; simp [nextTo] at h
          | succ k ih =>
            intro h
            rw [nextTo] at h
            split at h
            · exact ih h
            · rename_i hk
              rcases List.mem_append.1 h with h | h
              · exact ih h
              · exact hk (List.mem_singleton.1 h).symm
        exact this _ hu
      have h5 := sel_ge (p := rbN ps s) (N := N) (l := [s, u]) (by simp; exact fun e => hne e.symm) (fun x hx => by
        simp at hx
        rcases hx with rfl | rfl
        · exact ⟨hs, (rbN_rb hok hN).refl _ hs⟩
        · exact ⟨h4, h3⟩)
      simp at h5
      omega
theorem att_fix_sum : idxS (fun a => if (sel N (rbN ps a)).length = 1 then 1 else 0) (atts (rbN ps) N N) (atts (rbN ps) N N).length = (sel N fun s => stp ps s == s).length := by
  rw [atts, idxS_sel, sel_count]
  refine sumTo_congr N fun s hs => ?_
  have h := att_one hok hN hs
  by_cases h1 : att (rbN ps) N s = true
  · rw [if_pos h1]
    by_cases h2 : (sel N (rbN ps s)).length = 1
    · rw [if_pos h2, if_pos (by simpa using h.2 ⟨h1, h2⟩)]
    · rw [if_neg h2, if_neg (by simpa using fun e => h2 (h.1 e).2)]
  · rw [if_neg h1, if_neg (by simpa using fun e => h1 (h.1 e).1)]
end

end Go.Proofs.YtpehimjngofnkaaDoor
