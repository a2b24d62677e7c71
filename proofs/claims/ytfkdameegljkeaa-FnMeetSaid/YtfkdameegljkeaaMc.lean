/- Plain lemmas on hulls and meets, for the laws FnHull and FnMeet. No program is in sight. -/
import Derived.Test.YtfkdameegljkeaaMb
namespace Go.Proofs.Ytfkdameegljkeaa
open Go.RowKit

theorem hasF_iff (l : List UInt8) (i s : Nat) : hasF l i s = true ↔ ∀ k (h : k < l.length), fits l[k] (bit s (i + k)) = true := by
  induction l generalizing i with
  | nil => simp [hasF]
  | cons c r ih =>
    simp only [hasF, Bool.and_eq_true, ih]
    constructor
    · rintro ⟨h0, h⟩ k hk
      cases k with
      | zero => exact h0
      | succ k => have := h k (by simpa using hk); rw [show i + (k + 1) = i + 1 + k by omega]; exact this
    · intro h
      refine ⟨h 0 (by simp), fun k hk => ?_⟩
      have := h (k + 1) (by simpa using hk)
      rw [show i + 1 + k = i + (k + 1) by omega]; exact this
theorem hasS_iff (l : List UInt8) (s : Nat) : hasS l s = true ↔ ∀ k (h : k < l.length), fits l[k] (bit s k) = true := by
  have := hasF_iff l 0 s
  simpa [hasS] using this
theorem mem_sel {N : Nat} {p : Nat → Bool} {s : Nat} : s ∈ sel N p ↔ s < N ∧ p s = true := by simp [sel]
theorem mem_stL {l : List UInt8} {s : Nat} : s ∈ stL l ↔ s < 2 ^ l.length ∧ hasS l s = true := mem_sel
theorem mem_ints {l : List Nat} {s : Nat} : (s : Int) ∈ ints l ↔ s ∈ l := by
  rw [ints, List.mem_map]
  constructor
  · rintro ⟨a, ha, e⟩; have : a = s := by omega
    rw [← this]; exact ha
  · intro h; exact ⟨s, h, rfl⟩

theorem fold_get (r : List Nat) (o : List UInt8) (i : Nat) (h : i < o.length) :
    (r.foldl hullS o)[i]'(by rw [fold_length]; exact h) = if r.all (fun y => fits o[i] (bit y i)) then o[i] else 42 := by
  induction r generalizing o with
  | nil => simp
  | cons y r ih =>
    simp only [List.foldl_cons]
    rw [ih (hullS o y) (by rw [hullS_length]; exact h), hullS_get o y i h]
    simp only [List.all_cons]
    by_cases hf : fits o[i] (bit y i) = true
    · simp [hullC, hf]
    · have h2 : fits o[i] (bit y i) = false := by simpa using hf
      have e : hullC o[i] (bit y i) = 42 := by rw [hullC, h2]; rfl
      simp only [e, h2, Bool.false_and]
      split <;> rfl
theorem fits_dig (s t i : Nat) : fits (dig s i) (bit t i) = true ↔ bit t i = bit s i := by
  have h1 := bit_lt s i
  have h2 := bit_lt t i
  simp [fits, dig_toNat]; omega
theorem dig_ne (s i : Nat) : dig s i ≠ 42 := by
  intro h
  have h1 := congrArg UInt8.toNat h
  rw [dig_toNat] at h1
  have h3 : (UInt8.toNat 42 : Nat) = 42 := rfl
  have h2 := bit_lt s i
  omega
theorem hullL_length (x : Nat) (r : List Nat) (n : Nat) : (hullL x r n).length = n := by rw [hullL, fold_length, fmtL_length]
/-- a hull, place by place -/
theorem hull_get (x : Nat) (r : List Nat) (n i : Nat) (h : i < n) :
    (hullL x r n)[i]'(by rw [hullL_length]; exact h) = if (x :: r).all (fun y => decide (bit y i = bit x i)) then dig x i else 42 := by
  have hi : i < (fmtL x n).length := by rw [fmtL_length]; exact h
  have e : (fmtL x n)[i] = dig x i := by simp [fmtL]
  unfold hullL
  rw [fold_get r (fmtL x n) i hi, e]
  have : r.all (fun y => fits (dig x i) (bit y i)) = (x :: r).all (fun y => decide (bit y i = bit x i)) := by
    rw [Bool.eq_iff_iff]
    simp only [List.all_eq_true, List.all_cons, decide_true, Bool.true_and]
    constructor
    · intro hh y hy; simpa using (fits_dig x y i).1 (hh y hy)
    · intro hh y hy; exact (fits_dig x y i).2 (by simpa using hh y hy)
  rw [this]
/-- the hull has all states of the list -/
theorem hull_has (x : Nat) (r : List Nat) (n : Nat) (y : Nat) (hy : y ∈ x :: r) : hasS (hullL x r n) y = true := by
  rw [hasS_iff]
  intro k hk
  have hk' : k < n := by rwa [hullL_length] at hk
  rw [hull_get x r n k hk']
  split
  · rename_i h
    have := List.all_eq_true.1 h y hy
    exact (fits_dig x y k).2 (by simpa using this)
  · rfl
theorem okc_hull (x : Nat) (r : List Nat) (n : Nat) : (hullL x r n).all okc = true := by
  rw [List.all_eq_true]; exact okc_fold r _ (List.all_eq_true.1 (okc_fmt x n))
theorem TV_hull (x : Nat) (r : List Nat) (n : Nat) (h1 : 1 ≤ n) (h5 : n ≤ 5) : TV (hullL x r n) (n : Int) = true := by
  rw [TV_all (by omega) (by omega) (by rw [hullL_length])]; exact okc_hull x r n
/-- where the hull is open two states differ -/
theorem hull_star (x : Nat) (r : List Nat) (n i : Nat) (h : i < n) (hs : (hullL x r n)[i]'(by rw [hullL_length]; exact h) = 42) :
    (∃ y ∈ x :: r, bit y i = 0) ∧ ∃ y ∈ x :: r, bit y i = 1 := by
  rw [hull_get x r n i h] at hs
  split at hs
  · exact absurd hs (dig_ne x i)
  · rename_i hh
    have : ∃ y ∈ x :: r, ¬ bit y i = bit x i := by
      apply Classical.byContradiction
      intro hn
      apply hh
      rw [List.all_eq_true]
      intro y hy
      rw [decide_eq_true_iff]
      apply Classical.byContradiction
      intro hne
      exact hn ⟨y, hy, hne⟩
    obtain ⟨y, hy, hne⟩ := this
    have h1 := bit_01 y i
    have h2 := bit_01 x i
    rcases h1 with h1 | h1
    · exact ⟨⟨y, hy, h1⟩, x, List.mem_cons_self, by omega⟩
    · exact ⟨⟨x, List.mem_cons_self, by omega⟩, y, hy, h1⟩
/-- two lists of states with the same digits at each place have the same hull -/
theorem hull_same (x x' : Nat) (r r' : List Nat) (n : Nat) (h : ∀ i, i < n → ((∀ y ∈ x :: r, bit y i = bit x i) ∧ (∀ y ∈ x' :: r', bit y i = bit x i)) ∨
    (∃ y ∈ x :: r, bit y i ≠ bit x i) ∧ ∃ y ∈ x' :: r', bit y i ≠ bit x' i) : hullL x r n = hullL x' r' n := by
  apply List.ext_getElem
  · rw [hullL_length, hullL_length]
  · intro i h1 h2
    have hi : i < n := by rwa [hullL_length] at h1
    rw [hull_get x r n i hi, hull_get x' r' n i hi]
    rcases h i hi with ⟨ha, hb⟩ | ⟨⟨y, hy, hne⟩, y', hy', hne'⟩
    · have hx' := hb x' List.mem_cons_self
      rw [if_pos (List.all_eq_true.2 fun y hy => by simpa using ha y hy), if_pos (List.all_eq_true.2 fun y hy => by have := hb y hy; simp; omega)]
      rw [dig, dig, hx']
    · rw [if_neg (fun hh => hne (by simpa using List.all_eq_true.1 hh y hy)), if_neg (fun hh => hne' (by simpa using List.all_eq_true.1 hh y' hy'))]
/-- a hull is the hull of its own states -/
theorem hull_hull (x : Nat) (r : List Nat) (n : Nat) (h1 : 1 ≤ n) (h5 : n ≤ 5) (hr : ∀ y ∈ x :: r, y < 2 ^ n) :
    HO (ints (stL (hullL x r n))) (n : Int) = some (hullL x r n) := by
  have hl := hullL_length x r n
  have hin : ∀ y ∈ x :: r, y ∈ stL (hullL x r n) := fun y hy => mem_stL.2 ⟨by rw [hl]; exact hr y hy, hull_has x r n y hy⟩
  have hlt : ∀ y ∈ stL (hullL x r n), y < 2 ^ n := fun y hy => by have := (mem_stL.1 hy).1; rwa [hl] at this
  generalize hS : stL (hullL x r n) = S at hin hlt
  cases S with
  | nil => exact absurd (hin x List.mem_cons_self) (by simp)
  | cons x' r' =>
    rw [HO_ok h1 h5 hlt]
    congr 1
    refine (hull_same x x' r r' n fun i hi => ?_).symm
    by_cases ha : ∀ y ∈ x :: r, bit y i = bit x i
    · left
      refine ⟨ha, fun y hy => ?_⟩
      have hy' : y ∈ stL (hullL x r n) := by rw [hS]; exact hy
      have hf := (hasS_iff _ _).1 (mem_stL.1 hy').2 i (by rw [hl]; exact hi)
      rw [hull_get x r n i hi, if_pos (List.all_eq_true.2 fun z hz => by simpa using ha z hz)] at hf
      exact (fits_dig x y i).1 hf
    · right
      have : ∃ y ∈ x :: r, ¬ bit y i = bit x i := by
        apply Classical.byContradiction
        intro hn
        exact ha fun y hy => Classical.byContradiction fun hne => hn ⟨y, hy, hne⟩
      obtain ⟨y, hy, hne⟩ := this
      refine ⟨⟨y, hy, hne⟩, ?_⟩
      by_cases hx : bit y i = bit x' i
      · exact ⟨x, hin x List.mem_cons_self, by omega⟩
      · exact ⟨y, hin y hy, hx⟩
theorem HO_some {xs : List Int} {n : Int} {l : List UInt8} (h : HO xs n = some l) :
    ∃ (m x : Nat) (r : List Nat), n = (m : Int) ∧ 1 ≤ m ∧ m ≤ 5 ∧ xs = ints (x :: r) ∧ (∀ y ∈ x :: r, y < 2 ^ m) ∧ l = hullL x r m := by
  by_cases hn : 1 ≤ n ∧ n ≤ 5
  · obtain ⟨m, rfl⟩ : ∃ m : Nat, n = (m : Int) := ⟨n.toNat, by omega⟩
    have hall : ∀ y ∈ xs, 0 ≤ y ∧ y < ((2 ^ m : Nat) : Int) := by
      intro y hy
      cases hi : inW (m : Int) y
      · rw [HO_bad hy hi] at h; cases h
      · exact (inW_yes rfl).1 hi
    obtain ⟨ys, rfl⟩ := ints_of xs (fun y hy => (hall y hy).1)
    cases ys with
    | nil => have := HO_nil (n := (m : Int)); rw [ints, List.map_nil] at h; rw [this] at h; cases h
    | cons x r =>
      have hr : ∀ y ∈ x :: r, y < 2 ^ m := fun y hy => by
        have := (hall (y : Int) (mem_ints.2 hy)).2
        omega
      rw [HO_ok (by omega) (by omega) hr] at h
      exact ⟨m, x, r, rfl, by omega, by omega, rfl, hr, by injection h with h; exact h.symm⟩
  · rw [HO_out hn] at h; cases h
end Go.Proofs.Ytfkdameegljkeaa
