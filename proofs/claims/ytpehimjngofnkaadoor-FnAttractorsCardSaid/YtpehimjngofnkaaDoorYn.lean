/- Plain facts on all cycles of a network. -/
import Derived.Test.YtpehimjngofnkaaDoorProg
import Derived.WalkKit
import Derived.Lib.Hide
import Derived.Test.YtpehimjngofnkaaDoorG4
import Derived.Test.YtpehimjngofnkaaDoorYj
namespace Go.Proofs.YtpehimjngofnkaaDoor
open Go.RowKit
set_option linter.unusedVariables false

/-- the sum of g over the first k elements -/
def idxS (g : Nat → Nat) (cs : List Nat) : Nat → Nat
  | 0 => 0
  | k + 1 => idxS g cs k + g (cs.getD k 0)
theorem idxS_app (g : Nat → Nat) (l : List Nat) (a : Nat) : ∀ k, k ≤ l.length → idxS g (l ++ [a]) k = idxS g l k
  | 0, _ => rfl
  | k + 1, h => by
    rw [idxS, idxS, idxS_app g l a k (by omega), List.getD_eq_getElem?_getD, List.getElem?_append_left (by omega), ← List.getD_eq_getElem?_getD]
theorem idxS_sel (g : Nat → Nat) (p : Nat → Bool) : ∀ N, idxS g (sel N p) (sel N p).length = sumTo (fun s => if p s = true then g s else 0) N
  | 0 => rfl
  | N + 1 => by
    rw [sumTo]
    by_cases h : p N = true
    · rw [sel_yes h, List.length_append, List.length_singleton, idxS, idxS_app _ _ _ _ (Nat.le_refl _), idxS_sel g p N, if_pos h]
      congr 2
      rw [List.getD_eq_getElem?_getD, List.getElem?_append_right (Nat.le_refl _), Nat.sub_self]; rfl
    · rw [sel_no (by simpa using h), idxS_sel g p N, if_neg h]; omega
theorem sel_count (p : Nat → Bool) : ∀ N, (sel N p).length = sumTo (fun s => if p s = true then 1 else 0) N
  | 0 => rfl
  | N + 1 => by
    rw [sumTo]
    by_cases h : p N = true
    · rw [sel_yes h, List.length_append, List.length_singleton, sel_count p N, if_pos h]
    · rw [sel_no (by simpa using h), sel_count p N, if_neg h]; omega
section
variable {f : Nat → Nat} {N : Nat} (hN : N ≤ 32) (hf : ∀ x, x < N → f x < N)
include hN hf
theorem cy0_all {s : Nat} (hs : s < N) : cy0 f s < N ∧ cy0 f (cy0 f s) = cy0 f s := by
  obtain ⟨L, T, h⟩ := orb_form hN hf hs
  obtain ⟨_, _, j, hj⟩ := h.cyc_ hN hf hs
  have h1 := itf_lt hf hs j
  have h2 := cy0_itf hN hf j s hs
  rw [hj] at h1 h2
  exact ⟨h1, h2⟩
/-- the basins have each state once -/
theorem bas_sum : idxS (fun s => (sel N fun k => cy0 f k == s).length) (sel N fun s => cy0 f s == s) (sel N fun s => cy0 f s == s).length = N := by
  rw [idxS_sel]
  refine Eq.trans (sumTo_congr N fun s hs => ?_) (sum_sel (f := cy0 f) N fun x hx => (cy0_all hN hf hx).1)
  by_cases h : cy0 f s = s
  · rw [if_pos (by simpa using h)]
  · rw [if_neg (by simpa using h)]
    refine (List.length_eq_zero_iff.2 ?_).symm
    rw [List.eq_nil_iff_forall_not_mem]
    intro k hk
    obtain ⟨h1, h2⟩ := sel_mem.1 hk
    have h3 : cy0 f k = s := by simpa using h2
    have h4 := (cy0_all hN hf h1).2
    rw [h3] at h4
    exact h h4
theorem fix_cyc {s : Nat} (hs : s < N) : f s = s ↔ cy0 f s = s ∧ (cyc f s).length = 1 := by
  constructor
  · intro e
    have h1 : OrbF f N s 1 0 := orb_uniq hN hf hs (by omega) (itl_nodup fun i j hij hj => by omega) e
    have hr : rnd f s = [s] := h1.rnd_
    have hc : cy0 f s = s := by rw [cy0, hr]; simp [minN]
    obtain ⟨h2, _, _⟩ := h1.cyc_ hN hf hs
    exact ⟨hc, by rw [h2, itl_len]⟩
  · rintro ⟨h1, h2⟩
    obtain ⟨L, T, h⟩ := orb_form hN hf hs
    obtain ⟨e, g, _⟩ := h.cyc_ hN hf hs
    rw [e, itl_len] at h2
    rw [h1, h2] at g
    exact g.rep
/-- cycles of one state are the fixed points -/
theorem fix_sum : idxS (fun s => if (cyc f s).length = 1 then 1 else 0) (sel N fun s => cy0 f s == s) (sel N fun s => cy0 f s == s).length = (sel N fun s => f s == s).length := by
  rw [idxS_sel, sel_count]
  refine sumTo_congr N fun s hs => ?_
  have h := fix_cyc hN hf hs
  by_cases h1 : cy0 f s = s
  · rw [if_pos (by simpa using h1)]
    by_cases h2 : (cyc f s).length = 1
    · rw [if_pos h2, if_pos (by simpa using h.2 ⟨h1, h2⟩)]
    · rw [if_neg h2, if_neg (by simpa using fun e => h2 (h.1 e).2)]
  · rw [if_neg (by simpa using h1), if_neg (by simpa using fun e => h1 (h.1 e).1)]
theorem cyl_pos (h0 : 0 < N) : 0 < (sel N fun s => cy0 f s == s).length := by
  have h := cy0_all hN hf h0
  have hm : cy0 f 0 ∈ sel N fun s => cy0 f s == s := sel_mem.2 ⟨h.1, by simpa using h.2⟩
  exact List.length_pos_of_mem hm
end
theorem idxS_le {g : Nat → Nat} {cs : List Nat} {c : Nat} (h : ∀ s, g s ≤ c) : ∀ k, idxS g cs k ≤ c * k
  | 0 => by simp [idxS]
  | k + 1 => by
    have := idxS_le (cs := cs) h k
    have := h (cs.getD k 0)
    rw [idxS, Nat.mul_succ]; omega
theorem LL.rd_of {w : World} {B g off n c : Nat} {v : Value} {gs : List Nat} {ys : List Value} {xss : List (List Int)} {k : Nat} {l : List Int} (h : LL w B v gs ys xss) (hi : xss[k]? = some l) (hy : ys[k]? = some (.slice (some ⟨g, off, none⟩) n c)) : Rd w (some ⟨g, off, none⟩) (l.map (Value.int .i64)) := by
  obtain ⟨g', off', c', h1, h2, h3, h4⟩ := h.at_ k l hi
  rw [h2] at hy
  simp only [Option.some.injEq, Value.slice.injEq, Addr.mk.injEq] at hy
  obtain ⟨⟨rfl, rfl, _⟩, _, _⟩ := hy
  exact h4.rd

end Go.Proofs.YtpehimjngofnkaaDoor
