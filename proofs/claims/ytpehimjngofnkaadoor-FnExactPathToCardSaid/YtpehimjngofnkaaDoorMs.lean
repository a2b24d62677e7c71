/- Plain facts on steady states and attractors. -/
import Derived.Test.YtpehimjngofnkaaDoorMr
namespace Go.Proofs.YtpehimjngofnkaaDoor
open Go.RowKit
set_option linter.unusedVariables false

/-- a relation of reaching on the states below N -/
structure RB (rb : Nat → Nat → Bool) (N : Nat) : Prop where
  refl : ∀ s, s < N → rb s s = true
  lt : ∀ s t, s < N → rb s t = true → t < N
  trans : ∀ s t u, s < N → rb s t = true → rb t u = true → rb s u = true
theorem rbN_rb {ps : List (List UInt8)} {N : Nat} (h : okN ps = true) (hN : N = 2 ^ ps.length) : RB (rbN ps) N := by
  have hlt : ∀ s t, s < N → rbN ps s t = true → t < N := fun s t hs h2 => ((rbN_iff h hN hs).1 h2).lt (next_lt h hN) hs
  exact ⟨fun s hs => (rbN_iff h hN hs).2 .refl, hlt,
    fun s t u hs h1 h2 => (rbN_iff h hN hs).2 (((rbN_iff h hN hs).1 h1).trans ((rbN_iff h hN (hlt s t hs h1)).1 h2))⟩
def std (rb : Nat → Nat → Bool) (N s : Nat) : Bool := (List.range N).all fun t => !rb s t || rb t s
def low (rb : Nat → Nat → Bool) (s : Nat) : Bool := (List.range s).all fun t => !rb s t
/-- s is the least state of an attractor -/
def att (rb : Nat → Nat → Bool) (N s : Nat) : Bool := std rb N s && low rb s
def atts (rb : Nat → Nat → Bool) (N k : Nat) : List Nat := sel k (att rb N)
def doneB (rb : Nat → Nat → Bool) (N k t : Nat) : Bool := (atts rb N k).any fun a => rb a t
def outs (rb : Nat → Nat → Bool) (N s : Nat) : List Nat := (atts rb N N).filter (rb s)
/-- the least state that is reached -/
def lea (rb : Nat → Nat → Bool) (N s : Nat) : Nat := (sel N (rb s)).headD 0
theorem std_iff {rb : Nat → Nat → Bool} {N s : Nat} : std rb N s = true ↔ ∀ t, t < N → rb s t = true → rb t s = true := by
  rw [std, List.all_eq_true]
  constructor
  · intro h t ht h1
    have := h t (List.mem_range.2 ht)
    simpa [h1] using this
  · intro h t ht
    cases h1 : rb s t
    · rfl
    · simpa using h t (List.mem_range.1 ht) h1
theorem low_iff {rb : Nat → Nat → Bool} {s : Nat} : low rb s = true ↔ ∀ t, t < s → rb s t = false := by
  rw [low, List.all_eq_true]
  simp only [List.mem_range, Bool.not_eq_true']
theorem mem_sel {N : Nat} {p : Nat → Bool} {s : Nat} : s ∈ sel N p ↔ s < N ∧ p s = true := by simp [sel]
theorem mem_atts {rb : Nat → Nat → Bool} {N k a : Nat} : a ∈ atts rb N k ↔ a < k ∧ att rb N a = true := mem_sel
theorem att_iff {rb : Nat → Nat → Bool} {N s : Nat} : att rb N s = true ↔ std rb N s = true ∧ low rb s = true := by rw [att, Bool.and_eq_true]
section
variable {rb : Nat → Nat → Bool} {N : Nat} (h : RB rb N)
include h
theorem std_back {s t : Nat} (hs : s < N) (h1 : std rb N s = true) (h2 : rb s t = true) : rb t s = true := std_iff.1 h1 t (h.lt s t hs h2) h2
theorem std_to {s t : Nat} (hs : s < N) (h1 : std rb N s = true) (h2 : rb s t = true) : std rb N t = true := by
  have ht := h.lt s t hs h2
  refine std_iff.2 fun u hu h3 => ?_
  have h4 : rb s u = true := h.trans s t u hs h2 h3
  exact h.trans u s t hu (std_iff.1 h1 u hu h4) h2
theorem sel_low {s : Nat} (hs : s < N) (h1 : low rb s = true) : ∃ l, sel N (rb s) = s :: l := by
  have e : List.range N = List.range s ++ (List.range (N - s)).map (s + ·) := by
    rw [← List.range_add]; congr 1; omega
  have h2 : (List.range s).filter (rb s) = [] := List.filter_eq_nil_iff.2 fun t ht => by rw [low_iff.1 h1 t (List.mem_range.1 ht)]; simp
  have h3 : List.range (N - s) = 0 :: (List.range (N - s - 1)).map (· + 1) := by
    rw [show N - s = (N - s - 1) + 1 by omega, List.range_succ_eq_map]; rfl
  suffices h4 : sel N (rb s) = s :: ((((List.range (N - s - 1)).map (· + 1)).map (s + ·)).filter (rb s)) from ⟨_, h4⟩
  unfold sel
  rw [e, List.filter_append, h2, List.nil_append, h3, List.map_cons, Nat.add_zero, List.filter_cons_of_pos (h.refl s hs)]
/-- the least state reached from s -/
theorem lea_all {s : Nat} (hs : s < N) : rb s (lea rb N s) = true ∧ lea rb N s < N ∧ ∀ t, t < lea rb N s → rb s t = false := by
  have hm : s ∈ sel N (rb s) := mem_sel.2 ⟨hs, h.refl s hs⟩
  have hp : (sel N (rb s)).Pairwise (· < ·) := List.Pairwise.filter _ List.pairwise_lt_range
  unfold lea
  cases hl : sel N (rb s) with
  | nil => rw [hl] at hm; simp at hm
  | cons a l =>
    have ha : a ∈ sel N (rb s) := by rw [hl]; simp
    have ha2 := mem_sel.1 ha
    refine ⟨ha2.2, ha2.1, fun t ht => ?_⟩
    have ht' : t < a := ht
    cases hr : rb s t
    · rfl
    · have hmt : t ∈ sel N (rb s) := mem_sel.2 ⟨by omega, hr⟩
      rw [hl] at hp hmt
      rcases List.mem_cons.1 hmt with e | hmt
      · omega
      · have := (List.pairwise_cons.1 hp).1 t hmt
        omega
theorem lea_att {s : Nat} (hs : s < N) (h1 : std rb N s = true) : att rb N (lea rb N s) = true ∧ rb (lea rb N s) s = true := by
  obtain ⟨h2, h3, h4⟩ := lea_all h hs
  refine ⟨att_iff.2 ⟨std_to h hs h1 h2, low_iff.2 fun t ht => ?_⟩, std_back h hs h1 h2⟩
  cases hr : rb (lea rb N s) t
  · rfl
  · have := h.trans s _ t hs h2 hr
    rw [h4 t ht] at this
    cases this
/-- an attractor that has a steady state is the one of its least state -/
theorem att_lea {a s : Nat} (ha : a < N) (hs : s < N) (h1 : att rb N a = true) (h2 : std rb N s = true) : rb a s = true ↔ a = lea rb N s := by
  obtain ⟨h3, h4, h5⟩ := lea_all h hs
  constructor
  · intro hr
    have h6 := std_back h ha (att_iff.1 h1).1 hr
    have h7 : ¬ a < lea rb N s := fun hlt => by rw [h5 a hlt] at h6; cases h6
    have h8 : rb a (lea rb N s) = true := h.trans a s _ ha hr h3
    have h9 : ¬ lea rb N s < a := fun hlt => by rw [low_iff.1 (att_iff.1 h1).2 _ hlt] at h8; cases h8
    omega
  · intro e
    rw [e]
    exact (lea_att h hs h2).2
theorem skip_iff {s : Nat} (hs : s < N) : (doneB rb N s s || !std rb N s) = !att rb N s := by
  cases h1 : std rb N s
  · rw [att, h1]; simp
  · cases h2 : low rb s
    · rw [att, h1, h2]
      simp only [Bool.not_true, Bool.or_false, Bool.and_false, Bool.not_false]
      have hn : ¬ ∀ t, t < s → rb s t = false := fun hh => by rw [low_iff.2 hh] at h2; cases h2
      obtain ⟨t, ht⟩ := Classical.not_forall.1 hn
      obtain ⟨ht1, ht2⟩ := Classical.not_imp.1 ht
      have ht3 : rb s t = true := by simpa using ht2
      obtain ⟨h3, h4, h5⟩ := lea_all h hs
      obtain ⟨h6, h7⟩ := lea_att h hs h1
      have h8 : lea rb N s ≤ t := by
        apply Nat.le_of_not_lt
        intro hlt
        rw [h5 t hlt] at ht3; cases ht3
      exact List.any_eq_true.2 ⟨_, mem_atts.2 ⟨by omega, h6⟩, h7⟩
    · rw [att, h1, h2]
      simp only [Bool.not_true, Bool.or_false, Bool.and_self]
      cases hd : doneB rb N s s
      · rfl
      · obtain ⟨a, ha, hr⟩ := List.any_eq_true.1 hd
        obtain ⟨ha1, ha2⟩ := mem_atts.1 ha
        have h6 := std_back h (by omega) (att_iff.1 ha2).1 hr
        rw [low_iff.1 h2 a ha1] at h6; cases h6
theorem may_iff {s k : Nat} (hs : s < N) (hk : k < N) (h1 : std rb N s = true) : (outs rb N k).contains (lea rb N s) = rb k s := by
  obtain ⟨h3, h4, h5⟩ := lea_all h hs
  obtain ⟨h6, h7⟩ := lea_att h hs h1
  rw [Bool.eq_iff_iff, List.contains_iff_mem, outs, List.mem_filter, mem_atts]
  constructor
  · rintro ⟨_, h8⟩
    exact h.trans k _ s hk h8 h7
  · intro h8
    exact ⟨⟨h4, h6⟩, h.trans k s _ hk h8 h3⟩
theorem must_iff {s k : Nat} (hs : s < N) (_ : k < N) (h1 : std rb N s = true) :
    ((outs rb N k).contains (lea rb N s) && (outs rb N k).length == 1) = (atts rb N N).all fun a => rb k a == rb a s := by
  obtain ⟨h3, h4, h5⟩ := lea_all h hs
  obtain ⟨h6, h7⟩ := lea_att h hs h1
  have hnd : (outs rb N k).Nodup := (List.nodup_range.filter _).filter _
  rw [Bool.eq_iff_iff, Bool.and_eq_true, List.contains_iff_mem, beq_iff_eq, List.all_eq_true]
  constructor
  · rintro ⟨h8, h9⟩ a ha
    obtain ⟨b, hb⟩ := List.length_eq_one_iff.1 h9
    have ha2 := mem_atts.1 ha
    have e := att_lea h ha2.1 hs ha2.2 h1
    rw [hb] at h8
    rw [List.mem_singleton] at h8
    rw [beq_iff_eq, Bool.eq_iff_iff, e]
    constructor
    · intro hr
      have : a ∈ outs rb N k := List.mem_filter.2 ⟨ha, hr⟩
      rw [hb, List.mem_singleton] at this
      rw [this, h8]
    · intro ea
      have : lea rb N s ∈ outs rb N k := by rw [hb, h8]; simp
      rw [ea]
      exact (List.mem_filter.1 this).2
  · intro h8
    have hl : lea rb N s ∈ atts rb N N := mem_atts.2 ⟨h4, h6⟩
    have hm : lea rb N s ∈ outs rb N k := List.mem_filter.2 ⟨hl, by
      have := h8 _ hl
      rw [beq_iff_eq] at this
      rw [this]; exact h7⟩
    refine ⟨hm, ?_⟩
    have hall : ∀ a ∈ outs rb N k, a = lea rb N s := fun a ha => by
      have ha2 := List.mem_filter.1 ha
      have ha3 := mem_atts.1 ha2.1
      have := h8 a ha2.1
      rw [beq_iff_eq, ha2.2] at this
      exact (att_lea h ha3.1 hs ha3.2 h1).1 this.symm
    cases hl2 : outs rb N k with
    | nil => rw [hl2] at hm; simp at hm
    | cons a l =>
      cases l with
      | nil => rfl
      | cons b l =>
        have ha := hall a (by rw [hl2]; simp)
        have hb := hall b (by rw [hl2]; simp)
        rw [hl2] at hnd
        have := (List.nodup_cons.1 hnd).1
        rw [ha, hb] at this
        simp at this
end
theorem doneB_next {rb : Nat → Nat → Bool} {N k t : Nat} : doneB rb N (k + 1) t = (doneB rb N k t || (att rb N k && rb k t)) := by
  unfold doneB atts
  cases ha : att rb N k
  · rw [sel_no ha]; simp
  · rw [sel_yes ha, List.any_append]; simp
theorem atts_le (rb : Nat → Nat → Bool) (N k : Nat) : (atts rb N k).length ≤ k := sel_len _ _
theorem outs_le (rb : Nat → Nat → Bool) (N s : Nat) : (outs rb N s).length ≤ N := Nat.le_trans (List.length_filter_le _ _) (sel_len _ _)
/-- does a state belong to an attractor? -/
def stdN (ps : List (List UInt8)) (t : Int) : Bool := okSt ps t && std (rbN ps) (2 ^ ps.length) t.toNat
theorem stdN_yes {ps : List (List UInt8)} {t N : Nat} (h : okSt ps t = true) (hN : N = 2 ^ ps.length) : stdN ps t = std (rbN ps) N t := by rw [stdN, h, hN]; rfl
theorem stdN_no {ps : List (List UInt8)} {t : Int} (h : okSt ps t = false) : stdN ps t = false := by rw [stdN, h]; rfl
/-- the least states of the attractors that can be reached -/
def outN (ps : List (List UInt8)) (t : Int) : List Int := if okSt ps t then ints (outs (rbN ps) (2 ^ ps.length) t.toNat) else []
theorem outN_yes {ps : List (List UInt8)} {t N : Nat} (h : okSt ps t = true) (hN : N = 2 ^ ps.length) : outN ps t = ints (outs (rbN ps) N t) := by rw [outN, if_pos h, hN]; rfl
theorem outN_no {ps : List (List UInt8)} {t : Int} (h : okSt ps t = false) : outN ps t = [] := by rw [outN, h]; rfl
theorem outN_len (ps : List (List UInt8)) (t : Int) : (outN ps t).length ≤ 1048576 := by
  by_cases h : okSt ps t = true
  · obtain ⟨hok, s, rfl, _⟩ := okSt_true h
    rw [outN_yes h rfl, ints_length]
    have := outs_le (rbN ps) (2 ^ ps.length) s
    have h32 := two_le _ (okN_le hok)
    omega
  · rw [outN_no (by simpa using h)]; simp
/-- the states that may lead to the attractor of a steady state -/
def mayN (ps : List (List UInt8)) (t : Int) : List Int := if stdN ps t then ints (sel (2 ^ ps.length) fun k => rbN ps k t.toNat) else []
theorem mayN_yes {ps : List (List UInt8)} {t N : Nat} (h : stdN ps t = true) (hN : N = 2 ^ ps.length) : mayN ps t = ints (sel N fun k => rbN ps k t) := by rw [mayN, if_pos h, hN]; rfl
theorem mayN_no {ps : List (List UInt8)} {t : Int} (h : stdN ps t = false) : mayN ps t = [] := by rw [mayN, h]; rfl
/-- .. and to it alone -/
def mstN (ps : List (List UInt8)) (t : Int) : List Int := if stdN ps t then ints (sel (2 ^ ps.length) fun k => (atts (rbN ps) (2 ^ ps.length) (2 ^ ps.length)).all fun a => rbN ps k a == rbN ps a t.toNat) else []
theorem mstN_yes {ps : List (List UInt8)} {t N : Nat} (h : stdN ps t = true) (hN : N = 2 ^ ps.length) : mstN ps t = ints (sel N fun k => (atts (rbN ps) N N).all fun a => rbN ps k a == rbN ps a t) := by rw [mstN, if_pos h, hN]; rfl
theorem mstN_no {ps : List (List UInt8)} {t : Int} (h : stdN ps t = false) : mstN ps t = [] := by rw [mstN, h]; rfl
theorem stdN_ok {ps : List (List UInt8)} {t : Int} (h : stdN ps t = true) : okSt ps t = true := by rw [stdN, Bool.and_eq_true] at h; exact h.1
theorem mayN_len (ps : List (List UInt8)) (t : Int) : (mayN ps t).length ≤ 1048576 := by
  by_cases h : stdN ps t = true
  · obtain ⟨hok, s, rfl, _⟩ := okSt_true (stdN_ok h)
    rw [mayN_yes h rfl, ints_length]
    have := sel_len (2 ^ ps.length) fun k => rbN ps k s
    have h32 := two_le _ (okN_le hok)
    omega
  · rw [mayN_no (by simpa using h)]; simp
theorem mstN_len (ps : List (List UInt8)) (t : Int) : (mstN ps t).length ≤ 1048576 := by
  by_cases h : stdN ps t = true
  · obtain ⟨hok, s, rfl, _⟩ := okSt_true (stdN_ok h)
    rw [mstN_yes h rfl, ints_length]
    have := sel_len (2 ^ ps.length) fun k => (atts (rbN ps) (2 ^ ps.length) (2 ^ ps.length)).all fun a => rbN ps k a == rbN ps a s
    have h32 := two_le _ (okN_le hok)
    omega
  · rw [mstN_no (by simpa using h)]; simp
end Go.Proofs.YtpehimjngofnkaaDoor
