/- Plain lemmas on bytes, lists and terms; no program is in sight. -/
import Derived.WalkKit
namespace Go.Proofs.Ytfkdameegljkeaa
open Go.RowKit

theorem take_snoc (s : ByteArray) (k : Nat) (h : k < s.size) : s.data.toList.take (k + 1) = s.data.toList.take k ++ [s[k]] := by
  rw [List.take_succ_eq_append_getElem (by simpa using h)]; rfl
theorem ret_bool {a b : Bool} (h : a = b) : Ending.returned (.bool a) = .returned (.bool b) := by rw [h]
theorem ret_int {k : IntKind} {a b : Int} (h : a = b) : Ending.returned (.int k a) = .returned (.int k b) := by rw [h]
theorem val_bool {a b : Bool} (h : a = b) : Value.bool a = .bool b := by rw [h]
theorem val_int {k : IntKind} {a b : Int} (h : a = b) : Value.int k a = .int k b := by rw [h]

/-- the bytes '0', '1' and '*' -/
def okc (c : UInt8) : Bool := c.toNat == 48 || c.toNat == 49 || c.toNat == 42
/-- what TermValid answers -/
def TV (l : List UInt8) (n : Int) : Bool := decide (1 ≤ n) && decide (n ≤ 5) && decide ((l.length : Int) = n) && l.all okc
theorem TV_lo {l : List UInt8} {n : Int} (h : n < 1) : TV l n = false := by simp [TV]; omega
theorem TV_hi {l : List UInt8} {n : Int} (h : 5 < n) : TV l n = false := by simp [TV]; omega
theorem TV_ne {l : List UInt8} {n : Int} (h : ¬ (l.length : Int) = n) : TV l n = false := by simp [TV]; omega
theorem TV_all {l : List UInt8} {n : Int} (h1 : ¬ n < 1) (h5 : ¬ 5 < n) (h : (l.length : Int) = n) : TV l n = l.all okc := by
  simp [TV, h, show 1 ≤ n by omega, show n ≤ 5 by omega]
theorem TV_bad {l : List UInt8} {n : Int} (h : l.all okc = false) : TV l n = false := by simp [TV, h]
theorem TV_true {l : List UInt8} {n : Int} (h : TV l n = true) : 1 ≤ n ∧ n ≤ 5 ∧ (l.length : Int) = n ∧ ∀ c ∈ l, okc c = true := by
  simp [TV] at h; exact ⟨h.1.1.1, h.1.1.2, h.1.2, h.2⟩
theorem all_take_bad {p : UInt8 → Bool} {s : ByteArray} {k : Nat} (h : k < s.size) (hp : p s[k] = false) : s.data.toList.all p = false := by
  have hm : s[k] ∈ s.data.toList := by
    have : s[k] = s.data.toList[k]'(by simpa using h) := rfl
    rw [this]; exact List.getElem_mem _
  by_cases hh : s.data.toList.all p = true
  · have := List.all_eq_true.1 hh _ hm; rw [this] at hp; cases hp
  · simpa using hh
theorem all_take_snoc {p : UInt8 → Bool} {s : ByteArray} {k : Nat} (h : k < s.size) (ha : (s.data.toList.take k).all p = true) (hp : p s[k] = true) :
    (s.data.toList.take (k + 1)).all p = true := by
  rw [take_snoc s k h, List.all_append, ha]; simp [hp]
theorem take_all (s : ByteArray) : s.data.toList.take s.size = s.data.toList := List.take_of_length_le (by simp)
theorem okc_of {c : UInt8} (h : c.toNat = 48 ∨ c.toNat = 49 ∨ c.toNat = 42) : okc c = true := by rcases h with h | h | h <;> simp [okc, h]
theorem okc_not {c : UInt8} (h0 : ¬ c.toNat = 48) (h1 : ¬ c.toNat = 49) (h2 : ¬ c.toNat = 42) : okc c = false := by simp [okc, h0, h1, h2]

/-- where a byte stands, or -1 -/
def findB (l : List UInt8) (c : Int) : Int := match l with
  | [] => -1
  | x :: r => if (x.toNat : Int) = c then 0 else if findB r c < 0 then -1 else findB r c + 1
theorem findB_ge (l : List UInt8) (c : Int) : -1 ≤ findB l c ∧ findB l c < l.length := by
  induction l with
  | nil => simp [findB]
  | cons x r ih =>
    simp only [findB, List.length_cons]
    split
    · omega
    · split <;> omega
theorem findB_append (a b : List UInt8) (c : Int) (h : ∀ x ∈ a, ¬ (x.toNat : Int) = c) :
    findB (a ++ b) c = if findB b c < 0 then -1 else findB b c + a.length := by
  induction a with
  | nil =>
    have := findB_ge b c
    simp
    omega
  | cons x r ih =>
    have ih' := ih (fun y hy => h y (List.mem_cons_of_mem _ hy))
    have hx := h x List.mem_cons_self
    have := findB_ge b c
    simp only [List.cons_append, findB, hx, if_false, ih', List.length_cons]
    by_cases hb : findB b c < 0
    · simp [hb]
    · simp only [hb, if_false]; rw [if_neg (by omega)]; omega
theorem findB_none (a : List UInt8) (c : Int) (h : ∀ x ∈ a, ¬ (x.toNat : Int) = c) : findB a c = -1 := by
  have := findB_append a [] c h; simpa [findB] using this
theorem findB_at {s : ByteArray} {k : Nat} {c : Int} (hk : k < s.size) (h : ∀ x ∈ s.data.toList.take k, ¬ (x.toNat : Int) = c) (hc : (s[k].toNat : Int) = c) :
    findB s.data.toList c = k := by
  have e : s.data.toList = s.data.toList.take k ++ (s[k] :: s.data.toList.drop (k + 1)) := by
    have : s[k] = s.data.toList[k]'(by simpa using hk) := rfl
    rw [this, List.getElem_cons_drop, List.take_append_drop]
  rw [e, findB_append _ _ _ h]
  have hl : (s.data.toList.take k).length = k := by rw [List.length_take]; have : s.data.toList.length = s.size := by simp
                                                    omega
  simp [findB, hc, hl]
theorem not_mem_take_snoc {s : ByteArray} {k : Nat} {c : Int} (hk : k < s.size) (h : ∀ x ∈ s.data.toList.take k, ¬ (x.toNat : Int) = c) (hc : ¬ (s[k].toNat : Int) = c) :
    ∀ x ∈ s.data.toList.take (k + 1), ¬ (x.toNat : Int) = c := by
  rw [take_snoc s k hk]
  intro x hx
  rcases List.mem_append.1 hx with hx | hx
  · exact h x hx
  · simp at hx; rw [hx]; exact hc
theorem find_cons (x : UInt8) (r : List UInt8) (c : Int) : findB (x :: r) c = if (x.toNat : Int) = c then 0 else if findB r c < 0 then -1 else findB r c + 1 := rfl
theorem find_term (c : UInt8) : findB [42, 48, 49] (c.toNat : Int) < 0 ↔ okc c = false := by
  have e42 : (((42 : UInt8).toNat : Nat) : Int) = 42 := rfl
  have e48 : (((48 : UInt8).toNat : Nat) : Int) = 48 := rfl
  have e49 : (((49 : UInt8).toNat : Nat) : Int) = 49 := rfl
  have h3 : findB [] (c.toNat : Int) = -1 := rfl
  have h2 := find_cons 49 [] (c.toNat : Int)
  have h1 := find_cons 48 [49] (c.toNat : Int)
  have h0 := find_cons 42 [48, 49] (c.toNat : Int)
  rw [h3, e49] at h2
  rw [e48] at h1
  rw [e42] at h0
  have ho : okc c = false ↔ ¬ (c.toNat = 48 ∨ c.toNat = 49 ∨ c.toNat = 42) := by
    rw [← Bool.not_eq_true]; simp [okc]; omega
  rw [ho]
  split at h0 <;> split at h1 <;> split at h2 <;> (try split at h0) <;> (try split at h1) <;> omega

/-- MeetTerms, byte by byte -/
def meetC (c d : UInt8) : Option UInt8 := if c.toNat = 42 then some d else if d.toNat = 42 ∨ d = c then some c else none
def meetL : List UInt8 → List UInt8 → Option (List UInt8)
  | c :: t, d :: u => match meetC c d, meetL t u with
    | some x, some r => some (x :: r)
    | _, _ => none
  | _, _ => some []
theorem meetL_snoc (t u p : List UInt8) (c d x : UInt8) (hl : t.length = u.length) (h : meetL t u = some p) (hx : meetC c d = some x) :
    meetL (t ++ [c]) (u ++ [d]) = some (p ++ [x]) := by
  induction t generalizing u p with
  | nil =>
    have : u = [] := List.eq_nil_of_length_eq_zero (by simpa using hl.symm)
    subst this
    simp only [meetL, Option.some.injEq] at h
    subst h
    simp [meetL, hx]
  | cons a t ih =>
    cases u with
    | nil => simp at hl
    | cons b u =>
      simp only [meetL, List.cons_append] at h ⊢
      cases hab : meetC a b with
      | none => simp [hab] at h
      | some y =>
        cases htu : meetL t u with
        | none => simp [hab, htu] at h
        | some r =>
          simp only [hab, htu, Option.some.injEq] at h
          subst h
          rw [ih u r (by simpa using hl) htu]
          simp
theorem meetL_none (t u : List UInt8) (k : Nat) (ht : k < t.length) (hu : k < u.length) (h : meetC t[k] u[k] = none) : meetL t u = none := by
  induction t generalizing u k with
  | nil => simp at ht
  | cons a t ih =>
    cases u with
    | nil => simp at hu
    | cons b u =>
      cases k with
      | zero =>
        simp only [List.getElem_cons_zero] at h
        simp [meetL, h]
      | succ k =>
        simp only [List.getElem_cons_succ] at h
        simp only [meetL]
        rw [ih u k (by simpa using ht) (by simpa using hu) h]
        cases meetC a b <;> rfl
theorem meetL_length (t u p : List UInt8) (hl : t.length = u.length) (h : meetL t u = some p) : p.length = t.length := by
  induction t generalizing u p with
  | nil => cases u <;> simp [meetL] at h <;> simp [h]
  | cons a t ih =>
    cases u with
    | nil => simp at hl
    | cons b u =>
      simp only [meetL] at h
      cases hab : meetC a b with
      | none => simp [hab] at h
      | some y =>
        cases htu : meetL t u with
        | none => simp [hab, htu] at h
        | some r =>
          simp only [hab, htu, Option.some.injEq] at h
          subst h
          simp [ih u r (by simpa using hl) htu]
/-- what MeetTerms answers: the text, and whether there is one -/
def MT (t u : List UInt8) : Option (List UInt8) := if TV t t.length && TV u t.length then meetL t u else none
def optT (o : Option (List UInt8)) : Value := .tuple #[.string ⟨(o.getD []).toArray⟩, .bool o.isSome]
theorem MT_no1 {t u : List UInt8} (h : TV t t.length = false) : MT t u = none := by simp [MT, h]
theorem MT_no2 {t u : List UInt8} (h : TV u t.length = false) : MT t u = none := by simp [MT, h]
theorem MT_yes {t u : List UInt8} (h1 : TV t t.length = true) (h2 : TV u t.length = true) : MT t u = meetL t u := by simp [MT, h1, h2]
theorem str_append (a b : List UInt8) : (⟨a.toArray⟩ : ByteArray) ++ ⟨b.toArray⟩ = ⟨(a ++ b).toArray⟩ := by
  apply ByteArray.ext; simp
theorem str_ext1 (p : List UInt8) (u : ByteArray) (k : Nat) (h : k < u.size) : (⟨p.toArray⟩ : ByteArray) ++ u.extract k (k + 1) = ⟨(p ++ [u[k]]).toArray⟩ := by
  apply ByteArray.ext
  apply Array.ext'
  simp only [ByteArray.data_append, Array.toList_append, ByteArray.data_extract, Array.toList_extract, List.extract_eq_take_drop]
  congr 1
  have hd : (u.data.toList.drop k).take 1 = [u[k]] := by
    rw [List.drop_eq_getElem_cons (by simpa using h)]
    rfl
  rw [show k + 1 - k = 1 by omega, hd]
theorem meet_step {t u : ByteArray} {k : Nat} {p : List UInt8} {x : UInt8} (ht : k < t.size) (hu : k < u.size) (h : meetL (t.data.toList.take k) (u.data.toList.take k) = some p)
    (hx : meetC t[k] u[k] = some x) : meetL (t.data.toList.take (k + 1)) (u.data.toList.take (k + 1)) = some (p ++ [x]) := by
  rw [take_snoc t k ht, take_snoc u k hu]
  have h1 : t.data.toList.length = t.size := by simp
  have h2 : u.data.toList.length = u.size := by simp
  exact meetL_snoc _ _ _ _ _ _ (by rw [List.length_take, List.length_take]; omega) h hx
theorem meet_stop {t u : ByteArray} {k : Nat} (ht : k < t.size) (hu : k < u.size) (h : meetC t[k] u[k] = none) : meetL t.data.toList u.data.toList = none :=
  meetL_none _ _ k (by simpa using ht) (by simpa using hu) h
theorem meet_len {t u : ByteArray} {k : Nat} {p : List UInt8} (ht : k ≤ t.size) (hu : k ≤ u.size) (h : meetL (t.data.toList.take k) (u.data.toList.take k) = some p) : p.length = k := by
  have h1 : t.data.toList.length = t.size := by simp
  have h2 : u.data.toList.length = u.size := by simp
  rw [meetL_length _ _ _ (by rw [List.length_take, List.length_take]; omega) h, List.length_take]; omega
theorem meetC_a {c d : UInt8} (h : (c.toNat : Int) = 42) : meetC c d = some d := by simp [meetC, show c.toNat = 42 by omega]
theorem meetC_b {c d : UInt8} (h : ¬ (c.toNat : Int) = 42) (h2 : (d.toNat : Int) = 42) : meetC c d = some c := by simp [meetC, show ¬ c.toNat = 42 by omega, show d.toNat = 42 by omega]
theorem meetC_c {c d : UInt8} (h : ¬ (c.toNat : Int) = 42) (h2 : (d.toNat : Int) = c.toNat) : meetC c d = some c := by
  have : d = c := UInt8.toNat_inj.1 (by omega)
  simp [meetC, show ¬ c.toNat = 42 by omega, this]
theorem meetC_d {c d : UInt8} (h : ¬ (c.toNat : Int) = 42) (h1 : ¬ (d.toNat : Int) = 42) (h2 : ¬ (d.toNat : Int) = c.toNat) : meetC c d = none := by
  have : ¬ d = c := fun e => h2 (by rw [e])
  simp [meetC, show ¬ c.toNat = 42 by omega, show ¬ d.toNat = 42 by omega, this]
end Go.Proofs.Ytfkdameegljkeaa
