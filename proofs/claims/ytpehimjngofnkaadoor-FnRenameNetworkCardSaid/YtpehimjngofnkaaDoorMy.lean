/- Plain facts on renamed networks: orders of switches, states with their switches in another order. -/
import Derived.Test.YtpehimjngofnkaaDoorG2
import Derived.Test.YtpehimjngofnkaaDoorG3
namespace Go.Proofs.YtpehimjngofnkaaDoor
open Go.RowKit

/-- a list has each of n switches once -/
def okO (to : List Int) (n : Nat) : Bool := decide (to.length = n) && to.all (fun x => decide (0 ≤ x) && decide (x < n)) && decide to.Nodup
/-- the like, of numbers that are no less than 0 -/
structure Ord (p : List Nat) (n : Nat) : Prop where
  len : p.length = n
  lt : ∀ x ∈ p, x < n
  nd : p.Nodup
theorem ints_mem {l : List Nat} {x : Nat} : (x : Int) ∈ ints l ↔ x ∈ l := by
  simp only [ints, List.mem_map]
  constructor
  · rintro ⟨a, h, e⟩; rwa [show a = x by omega] at h
  · intro h; exact ⟨x, h, rfl⟩
theorem ints_nodup {l : List Nat} : (ints l).Nodup ↔ l.Nodup := by
  induction l with
  | nil => simp [ints]
  | cons a l ih =>
    have e : ints (a :: l) = (a : Int) :: ints l := rfl
    rw [e, List.nodup_cons, List.nodup_cons, ih, ints_mem]
theorem okO_true {to : List Int} {n : Nat} (h : okO to n = true) : ∃ p, to = ints p ∧ Ord p n := by
  simp only [okO, Bool.and_eq_true, decide_eq_true_eq, List.all_eq_true] at h
  obtain ⟨⟨h1, h2⟩, h3⟩ := h
  obtain ⟨p, rfl⟩ := ints_of to (fun y hy => (h2 y hy).1)
  refine ⟨p, rfl, by rw [← ints_length]; exact h1, fun x hx => ?_, ints_nodup.1 h3⟩
  have := (h2 (x : Int) (ints_mem.2 hx)).2
  omega
theorem okO_of {p : List Nat} {n : Nat} (h : Ord p n) : okO (ints p) n = true := by
  simp only [okO, Bool.and_eq_true, decide_eq_true_eq, List.all_eq_true]
  refine ⟨⟨by rw [ints_length]; exact h.len, fun x hx => ?_⟩, ints_nodup.2 h.nd⟩
  simp only [ints, List.mem_map] at hx
  obtain ⟨a, ha, rfl⟩ := hx
  have := h.lt a ha
  omega
theorem Ord.mem {p : List Nat} {n q : Nat} (h : Ord p n) (hq : q < n) : q ∈ p := by
  refine Decidable.byContradiction fun hn => ?_
  have h1 := nodup_le (N := n) (l := q :: p) (List.nodup_cons.2 ⟨hn, h.nd⟩) (fun x hx => by
    rcases List.mem_cons.1 hx with rfl | hx
    · exact hq
    · exact h.lt x hx)
  rw [List.length_cons, h.len] at h1
  omega
/-- sorted, they are the numbers from 0 on -/
theorem Ord.sorted {p : List Nat} {n : Nat} (h : Ord p n) : (ints p).mergeSort (fun x y => decide (x ≤ y)) = ints (List.range n) := by
  refine List.Perm.eq_of_pairwise (le := fun a b : Int => a ≤ b) (fun a b _ _ h1 h2 => Int.le_antisymm h1 h2) ?_ ?_ ?_
  · have := List.pairwise_mergeSort (le := fun x y : Int => decide (x ≤ y)) (fun a b c h1 h2 => by simp at h1 h2 ⊢; omega) (fun a b => by simp; omega) (ints p)
    exact this.imp (fun h => by simpa using h)
  · rw [ints, List.pairwise_map]
    exact List.pairwise_lt_range.imp (fun h => by omega)
  · refine (List.mergeSort_perm _ _).trans ?_
    rw [ints, ints]
    refine List.Perm.map _ ((List.perm_ext_iff_of_nodup h.nd List.nodup_range).2 fun a => ?_)
    rw [List.mem_range]
    exact ⟨h.lt a, h.mem⟩
theorem sorted_okO {to : List Int} {n : Nat} (h : to.mergeSort (fun x y => decide (x ≤ y)) = ints (List.range n)) : okO to n = true := by
  have hp : to.Perm (ints (List.range n)) := by rw [← h]; exact (List.mergeSort_perm _ _).symm
  simp only [okO, Bool.and_eq_true, decide_eq_true_eq, List.all_eq_true]
  refine ⟨⟨by rw [hp.length_eq, ints_length, List.length_range], fun x hx => ?_⟩, hp.symm.nodup (ints_nodup.2 List.nodup_range)⟩
  have := hp.mem_iff.1 hx
  simp only [ints, List.mem_map, List.mem_range] at this
  obtain ⟨a, ha, rfl⟩ := this
  omega

/-- the state of which a renamed one comes: switch i has the value of switch p[i] -/
def oldF (p : List Nat) (s : Nat) : Nat := asm (fun i => bit s (p.getD i 0)) p.length
/-- a state with switch i moved to p[i] -/
def movTo (p : List Nat) (a : Nat) : Nat → Nat
  | 0 => 0
  | k + 1 => movTo p a k ||| bit a k * 2 ^ p.getD k 0
def movF (p : List Nat) (a : Nat) : Nat := movTo p a p.length
theorem oldF_lt (p : List Nat) (s : Nat) : oldF p s < 2 ^ p.length := asm_lt (fun _ => bit_lt _ _) _
theorem movTo_lt {p : List Nat} {n : Nat} (h : Ord p n) (a : Nat) : ∀ k, k ≤ n → movTo p a k < 2 ^ n := by
  intro k
  induction k with
  | zero => intro _; exact Nat.two_pow_pos n
  | succ k ih =>
    intro hk
    refine Nat.or_lt_two_pow (ih (by omega)) ?_
    have hl : p.getD k 0 < n := by
      rw [List.getD_eq_getElem?_getD, List.getElem?_eq_getElem (by rw [h.len]; omega)]
      exact h.lt _ (List.getElem_mem _)
    have hb := bit_lt a k
    calc bit a k * 2 ^ p.getD k 0 ≤ 1 * 2 ^ p.getD k 0 := Nat.mul_le_mul_right _ (by omega)
      _ < 2 ^ n := by rw [Nat.one_mul]; exact Nat.pow_lt_pow_right (by omega) hl
theorem bit_or : ∀ x, x < 32 → ∀ y, y < 32 → ∀ q, q < 5 → bit (x ||| y) q = if bit y q = 1 then 1 else bit x q := by decide +kernel
theorem bit_one : ∀ v, v < 2 → ∀ t, t < 5 → ∀ q, q < 5 → bit (v * 2 ^ t) q = if q = t then v else 0 := by decide +kernel
theorem movTo_bit {p : List Nat} {n : Nat} (h : Ord p n) (h5 : n ≤ 5) (a q : Nat) (hq : q < n) : ∀ k, k ≤ n → bit (movTo p a k) q = if p.idxOf q < k then bit a (p.idxOf q) else 0 := by
  intro k
  induction k with
  | zero => intro _; rw [if_neg (by omega), movTo, bit]; simp
  | succ k ih =>
    intro hk
    have hkp : k < p.length := by rw [h.len]; omega
    have hg : p.getD k 0 = p[k] := by rw [List.getD_eq_getElem?_getD, List.getElem?_eq_getElem hkp]; rfl
    have hl : p[k] < n := h.lt _ (List.getElem_mem _)
    have h32 := two_le n h5
    have hm := movTo_lt h a k (by omega)
    have hb := bit_lt a k
    have h1 : bit a k * 2 ^ p[k] < 32 := by
      have h2 : 2 ^ p[k] ≤ 2 ^ 4 := Nat.pow_le_pow_right (by omega) (by omega)
      have : bit a k * 2 ^ p[k] ≤ 1 * 2 ^ 4 := Nat.mul_le_mul (by omega) h2
      omega
    rw [movTo, hg, bit_or _ (by omega) _ h1 q (by omega), bit_one _ hb _ (by omega) q (by omega), ih (by omega)]
    have hid : p.idxOf p[k] = k := h.nd.idxOf_getElem k hkp
    by_cases e : q = p[k]
    · have hx : p.idxOf q = k := by rw [e]; exact hid
      rw [if_pos e, hx, if_neg (Nat.lt_irrefl k), if_pos (Nat.lt_succ_self k)]
      rcases (show bit a k = 0 ∨ bit a k = 1 by omega) with e2 | e2 <;> rw [e2] <;> simp
    · have hne : ¬ p.idxOf q = k := by
        intro e2
        apply e
        have hql : p.idxOf q < p.length := List.idxOf_lt_length_of_mem (h.mem hq)
        have := List.getElem_idxOf hql
        rw [← this]
        congr 1
      rw [if_neg e, if_neg (show ¬ (0 : Nat) = 1 by omega)]
      by_cases h2 : p.idxOf q < k
      · rw [if_pos h2, if_pos (by omega)]
      · rw [if_neg h2, if_neg (by omega)]
theorem movF_lt {p : List Nat} {n : Nat} (h : Ord p n) (a : Nat) : movF p a < 2 ^ n := by rw [movF, h.len]; exact movTo_lt h a n (Nat.le_refl _)
theorem movF_bit {p : List Nat} {n : Nat} (h : Ord p n) (h5 : n ≤ 5) (a q : Nat) (hq : q < n) : bit (movF p a) q = bit a (p.idxOf q) := by
  rw [movF, h.len, movTo_bit h h5 a q hq n (Nat.le_refl _), if_pos]
  rw [← h.len]
  exact List.idxOf_lt_length_of_mem (h.mem hq)
theorem oldF_bit {p : List Nat} (s i : Nat) (hi : i < p.length) : bit (oldF p s) i = bit s p[i] := by
  rw [oldF, bit_asm (fun i => bit_lt _ _) i _ hi, List.getD_eq_getElem?_getD, List.getElem?_eq_getElem hi]; rfl
theorem old_mov {p : List Nat} {n : Nat} (h : Ord p n) (h5 : n ≤ 5) {a : Nat} (ha : a < 2 ^ n) : oldF p (movF p a) = a := by
  refine bit_ext (n := n) (by rw [← h.len]; exact oldF_lt _ _) ha fun i hi => ?_
  have hip : i < p.length := by rw [h.len]; exact hi
  rw [oldF_bit _ _ hip, movF_bit h h5 _ _ (h.lt _ (List.getElem_mem _)), h.nd.idxOf_getElem i hip]
theorem mov_old {p : List Nat} {n : Nat} (h : Ord p n) (h5 : n ≤ 5) {x : Nat} (hx : x < 2 ^ n) : movF p (oldF p x) = x := by
  refine bit_ext (n := n) (movF_lt h _) hx fun q hq => ?_
  have hql : p.idxOf q < p.length := List.idxOf_lt_length_of_mem (h.mem hq)
  rw [movF_bit h h5 _ _ hq, oldF_bit _ _ hql, List.getElem_idxOf]
/-- a step of the renamed network -/
def renF (ps : List (List UInt8)) (p : List Nat) (x : Nat) : Nat := movF p (stp ps (oldF p x))
theorem renF_bit {ps : List (List UInt8)} {p : List Nat} (hok : okN ps = true) (h : Ord p ps.length) {x q : Nat} (hq : q < ps.length) : bit (renF ps p x) q = nb ps (oldF p x) (p.idxOf q) := by
  have hql : p.idxOf q < ps.length := by rw [← h.len]; exact List.idxOf_lt_length_of_mem (h.mem hq)
  rw [renF, movF_bit h (okN_le hok) _ _ hq, stp, bit_asm (nb_lt hok _) _ _ hql]

theorem okO_range {to : List Int} {n : Nat} {x : Int} (hx : x ∈ to) (h : ¬ (0 ≤ x ∧ x < n)) : okO to n = false := by
  refine Bool.eq_false_iff.2 fun hk => h ?_
  simp only [okO, Bool.and_eq_true, decide_eq_true_eq, List.all_eq_true] at hk
  exact hk.1.2 x hx
theorem okO_dup {to : List Int} {n k : Nat} (hk : k < to.length) (h : to[k] ∈ to.take k) : okO to n = false := by
  refine Bool.eq_false_iff.2 fun hb => ?_
  simp only [okO, Bool.and_eq_true, decide_eq_true_eq] at hb
  obtain ⟨j, hj, e⟩ := List.getElem_of_mem h
  rw [List.length_take] at hj
  rw [List.getElem_take] at e
  have := (List.getElem_inj hb.2).1 e
  omega
/-- the switches told so far: p, with their bits q -/
structure OrdI (p : List Nat) (n q : Nat) : Prop where
  lt : ∀ x ∈ p, x < n
  nd : p.Nodup
  q32 : q < 32
  bits : ∀ x, x < n → bit q x = if x ∈ p then 1 else 0
theorem OrdI.nil (n : Nat) : OrdI [] n 0 := ⟨by simp, List.nodup_nil, by omega, fun x _ => by simp [bit]⟩
theorem or_lt32 : ∀ x, x < 32 → ∀ t, t < 5 → x ||| 2 ^ t < 32 := by decide +kernel
theorem bit_or_pow : ∀ x, x < 32 → ∀ t, t < 5 → ∀ q, q < 5 → bit (x ||| 2 ^ t) q = if q = t then 1 else bit x q := by decide +kernel
theorem OrdI.snoc {p : List Nat} {n q t : Nat} (h : OrdI p n q) (h5 : n ≤ 5) (ht : t < n) (hn : ¬ t ∈ p) : OrdI (p ++ [t]) n (q ||| 2 ^ t) := by
  refine ⟨fun x hx => ?_, ?_, or_lt32 q h.q32 t (by omega), fun x hx => ?_⟩
  · rcases List.mem_append.1 hx with hx | hx
    · exact h.lt x hx
    · simp at hx; omega
  · rw [List.nodup_append]
    refine ⟨h.nd, by simp, fun a ha b hb e => ?_⟩
    simp at hb
    exact hn (by rw [← hb, ← e]; exact ha)
  · rw [bit_or_pow q h.q32 t (by omega) x (by omega), h.bits x hx]
    by_cases e : x = t
    · rw [if_pos e, if_pos (by rw [e]; simp)]
    · rw [if_neg e]
      by_cases hm : x ∈ p
      · rw [if_pos hm, if_pos (by simp [hm])]
      · rw [if_neg hm, if_neg (by simp [hm, e])]
theorem OrdI.okO {p : List Nat} {n q : Nat} (h : OrdI p n q) : okO (ints p) n = decide ((ints p).length = n) := by
  by_cases e : (ints p).length = n
  · rw [decide_eq_true e]
    exact okO_of ⟨by rw [← ints_length]; exact e, h.lt, h.nd⟩
  · rw [decide_eq_false e, Go.Proofs.YtpehimjngofnkaaDoor.okO, decide_eq_false e]; rfl

end Go.Proofs.YtpehimjngofnkaaDoor
