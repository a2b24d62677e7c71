/- Plain facts on what two terms have in common: its states, its tables, and when a term lies within another one. -/
import Derived.Test.YtfkdameegljkeaaMc
namespace Go.Proofs.Ytfkdameegljkeaa
open Go.RowKit
set_option linter.unusedVariables false

/-- a term lies within another one -/
def insL : List UInt8 → List UInt8 → Bool
  | c :: t, d :: u => (d == 42 || c == d) && insL t u
  | _, _ => true
theorem u8_42 {c : UInt8} : c.toNat = 42 ↔ c = 42 := ⟨fun h => UInt8.toNat_inj.1 h, fun h => by rw [h]; rfl⟩
theorem meetC_cases (c d : UInt8) : (c = 42 ∧ meetC c d = some d) ∨ (c ≠ 42 ∧ (d = 42 ∨ d = c) ∧ meetC c d = some c) ∨ (c ≠ 42 ∧ d ≠ 42 ∧ d ≠ c ∧ meetC c d = none) := by
  by_cases h : c = 42
  · exact .inl ⟨h, by rw [meetC, if_pos (u8_42.2 h)]⟩
  · by_cases h2 : d = 42 ∨ d = c
    · refine .inr (.inl ⟨h, h2, ?_⟩)
      rw [meetC, if_neg (fun e => h (u8_42.1 e)), if_pos]
      exact h2.imp u8_42.2 id
    · refine .inr (.inr ⟨h, fun e => h2 (.inl e), fun e => h2 (.inr e), ?_⟩)
      rw [meetC, if_neg (fun e => h (u8_42.1 e)), if_neg]
      intro e; exact h2 (e.imp u8_42.1 id)
theorem fits_star (b : Nat) : fits 42 b = true := rfl
theorem fits_two {c d : UInt8} {b : Nat} (h1 : c ≠ 42) (h2 : d ≠ 42) (h : d ≠ c) : (fits c b && fits d b) = false := by
  cases h3 : fits c b
  · rfl
  · cases h4 : fits d b
    · rfl
    · exfalso
      simp only [fits, Bool.or_eq_true, beq_iff_eq] at h3 h4
      have a := h3.resolve_left fun e => h1 (u8_42.1 e)
      have b := h4.resolve_left fun e => h2 (u8_42.1 e)
      exact h (UInt8.toNat_inj.1 (by rw [a, b]))
theorem meet_hasF : ∀ (t u : List UInt8) (i s : Nat), t.length = u.length → (hasF t i s && hasF u i s) = match meetL t u with | some m => hasF m i s | none => false
  | [], [], i, s, _ => rfl
  | c :: t, d :: u, i, s, hl => by
    have ih := meet_hasF t u (i + 1) s (by simpa using hl)
    simp only [meetL, hasF]
    have e : ∀ a b x y : Bool, ((a && b) && (x && y)) = ((a && x) && (b && y)) := by decide
    rw [e, ih]
    rcases meetC_cases c d with ⟨rfl, h⟩ | ⟨h1, h2, h⟩ | ⟨h1, h2, h3, h⟩
    · rw [h, fits_star, Bool.true_and]
      cases meetL t u
      · simp
      · simp [hasF]
    · rw [h]
      have hf : (fits c (bit s i) && fits d (bit s i)) = fits c (bit s i) := by
        rcases h2 with rfl | rfl
        · rw [fits_star, Bool.and_true]
        · rw [Bool.and_self]
      rw [hf]
      cases meetL t u
      · simp
      · simp [hasF]
    · rw [h, fits_two h1 h2 h3]; rfl
theorem meet_some {t u m : List UInt8} (hl : t.length = u.length) (h : meetL t u = some m) (s : Nat) : hasS m s = (hasS t s && hasS u s) := by
  have := meet_hasF t u 0 s hl
  rw [h] at this
  exact this.symm
theorem meet_no {t u : List UInt8} (hl : t.length = u.length) (h : meetL t u = none) (s : Nat) : (hasS t s && hasS u s) = false := by
  have := meet_hasF t u 0 s hl
  rw [h] at this
  exact this
theorem meetC_comm (c d : UInt8) : meetC d c = meetC c d := by
  by_cases h : c = d
  · rw [h]
  · by_cases h1 : c = 42
    · have h2 : ¬ d = 42 := fun e => h (by rw [h1, e])
      rw [meetC, meetC, if_neg (fun e => h2 (u8_42.1 e)), if_pos (.inl (u8_42.2 h1)), if_pos (u8_42.2 h1)]
    · by_cases h2 : d = 42
      · rw [meetC, meetC, if_pos (u8_42.2 h2), if_neg (fun e => h1 (u8_42.1 e)), if_pos (.inl (u8_42.2 h2))]
      · rw [meetC, meetC, if_neg (fun e => h2 (u8_42.1 e)), if_neg (fun e => h1 (u8_42.1 e)), if_neg, if_neg]
        · rintro (e | e)
          · exact h2 (u8_42.1 e)
          · exact h e.symm
        · rintro (e | e)
          · exact h1 (u8_42.1 e)
          · exact h e
theorem meetL_comm : ∀ (t u : List UInt8), t.length = u.length → meetL u t = meetL t u
  | [], [], _ => rfl
  | c :: t, d :: u, hl => by
    rw [meetL, meetL, meetC_comm, meetL_comm t u (by simpa using hl)]
theorem meet_in : ∀ (t u m : List UInt8), t.length = u.length → meetL t u = some m → insL m t = true ∧ insL m u = true ∧ (insL t u = true ↔ m = t)
  | [], [], m, _, h => by
    have : m = [] := by simpa [meetL] using h.symm
    subst this
    exact ⟨rfl, rfl, fun _ => rfl, fun _ => rfl⟩
  | c :: t, d :: u, m, hl, h => by
    rw [meetL] at h
    rcases meetC_cases c d with ⟨rfl, e⟩ | ⟨h1, h2, e⟩ | ⟨h1, h2, h3, e⟩ <;> rw [e] at h
    · cases hm : meetL t u with
      | none => rw [hm] at h; cases h
      | some m' =>
        rw [hm] at h
        injection h with h
        subst h
        have ih := meet_in t u m' (by simpa using hl) hm
        simp only [insL]
        refine ⟨by rw [ih.1]; rfl, by rw [ih.2.1]; simp, ?_⟩
        simp only [Bool.and_eq_true, Bool.or_eq_true, beq_iff_eq, List.cons.injEq, ih.2.2]
        constructor
        · rintro ⟨a | a, b⟩
          · exact ⟨a, b⟩
          · exact ⟨a.symm, b⟩
        · rintro ⟨a, b⟩; exact ⟨.inl a, b⟩
    · cases hm : meetL t u with
      | none => rw [hm] at h; cases h
      | some m' =>
        rw [hm] at h
        injection h with h
        subst h
        have ih := meet_in t u m' (by simpa using hl) hm
        simp only [insL]
        have hd : (d == 42 || c == d) = true := by
          rcases h2 with rfl | rfl
          · rfl
          · simp
        refine ⟨by rw [ih.1]; simp, by rw [ih.2.1, hd]; rfl, ?_⟩
        rw [hd, Bool.true_and, ih.2.2]
        simp
    · cases h
/-- the table of a term -/
def tmT (t : List UInt8) : List UInt8 := txt (2 ^ t.length) fun s => if hasS t s then 1 else 0
/-- the table that is 1 where both are -/
def andT (n : Nat) (t u : List UInt8) : List UInt8 := txt (2 ^ n) fun s => (if hasS t s then 1 else 0) * (if hasS u s then 1 else 0)
theorem meet_tab {t u m : List UInt8} (hl : t.length = u.length) (hm : m.length = t.length) (h : meetL t u = some m) : tmT m = andT t.length t u := by
  rw [tmT, andT, hm]
  refine txt_congr fun s _ => ?_
  rw [meet_some hl h]
  cases hasS t s <;> cases hasS u s <;> rfl
theorem meet_zero {t u : List UInt8} (hl : t.length = u.length) (h : meetL t u = none) : andT t.length t u = txt (2 ^ t.length) fun _ => 0 := by
  refine txt_congr fun s _ => ?_
  have := meet_no hl h s
  revert this
  cases hasS t s <;> cases hasS u s <;> intro e <;> first | rfl | cases e
end Go.Proofs.Ytfkdameegljkeaa
