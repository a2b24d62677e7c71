/- A queue of integers in memory of the call's own: a slice that may begin behind its array's head. -/
import Derived.Test.YtpehimjngofnkaaDoorMe
import Derived.ArgAppend
import Derived.Laws.Append
import Derived.Laws.AppendOwn
import Derived.Laws.IdiomCopy
namespace Go.Proofs.YtpehimjngofnkaaDoor
open Go.RowKit
set_option linter.unusedVariables false

/-- v is the slice of the integers xs in block g (from B on), with room for cap elements -/
def QI (w : World) (B g off cap : Nat) (v : Value) (xs : List Int) : Prop :=
  v = .slice (some ⟨g, off, none⟩) xs.length cap ∧ B ≤ g ∧ g < w.heap.size ∧ xs.length ≤ cap ∧
    (∀ j, j < cap → (w.cell? ⟨g, off + j, none⟩).isSome = true ∧ w.frozen? ⟨g, off + j, none⟩ = false) ∧ ∀ j x, xs[j]? = some x → w.cell? ⟨g, off + j, none⟩ = some (.int .i64 x)
theorem QI.blk {w w' : World} {B g off cap : Nat} {v : Value} {xs : List Int} (h : QI w B g off cap v xs) (hb : w'.heap[g]? = w.heap[g]?) (hz : w.heap.size ≤ w'.heap.size) : QI w' B g off cap v xs := by
  obtain ⟨h1, h2, h3, h4, h5, h6⟩ := h
  refine ⟨h1, h2, by omega, h4, fun j hj => ?_, fun j x hj => ?_⟩
  · rw [World.cell?_of_block (w := w) (a := ⟨g, off + j, none⟩) hb, World.frozen?_of_block (w := w) (a := ⟨g, off + j, none⟩) hb]
    exact h5 j hj
  · rw [World.cell?_of_block (w := w) (a := ⟨g, off + j, none⟩) hb]
    exact h6 j x hj
theorem QI.below {w w' : World} {B g off cap : Nat} {v : Value} {xs : List Int} (h : QI w B g off cap v xs) (hb : Below w.heap.size w w') : QI w' B g off cap v xs :=
  h.blk (hb.block g h.2.2.1) hb.size
theorem QI.tail {w : World} {B g off cap : Nat} {v : Value} {x : Int} {xs : List Int} (h : QI w B g off cap v (x :: xs)) : QI w B g (off + 1) (cap - 1) (.slice (some ⟨g, off + 1, none⟩) xs.length (cap - 1)) xs := by
  obtain ⟨h1, h2, h3, h4, h5, h6⟩ := h
  rw [List.length_cons] at h4
  refine ⟨rfl, h2, h3, by omega, fun j hj => ?_, fun j y hj => ?_⟩
  · have := h5 (j + 1) (by omega)
    rwa [show off + (j + 1) = off + 1 + j by omega] at this
  · have := h6 (j + 1) y (by simpa using hj)
    rwa [show off + (j + 1) = off + 1 + j by omega] at this
theorem QI.init {w : World} {B g off cap : Nat} {v : Value} {x : Int} {xs : List Int} (h : QI w B g off cap v (xs ++ [x])) : QI w B g off cap (.slice (some ⟨g, off, none⟩) xs.length cap) xs := by
  obtain ⟨h1, h2, h3, h4, h5, h6⟩ := h
  rw [List.length_append] at h4
  refine ⟨rfl, h2, h3, by omega, h5, fun j y hj => h6 j y ?_⟩
  rw [List.getElem?_append_left (List.getElem?_eq_some_iff.1 hj).1]
  exact hj
theorem QI.one (w : World) (B e : Nat) (x : Int) (hB : B ≤ w.heap.size) : QI (w.alloc (.cells #[.int .i64 x] e)) B w.heap.size 0 1 (.slice (some ⟨w.heap.size, 0, none⟩) 1 1) [x] := by
  refine ⟨rfl, hB, by rw [alloc_size]; omega, by simp, fun j hj => ?_, fun j y hj => ?_⟩
  · have : j = 0 := by omega
    subst this
    rw [cell_new, frozen_new]; simp
  · cases j with
    | zero => simp at hj; subst hj; rw [cell_new]; rfl
    | succ j => simp at hj
theorem QI.own_ {w : World} {B e : Nat} {v : Value} {n : Nat} {xs : List Int} (hn : n = xs.length) (h0 : 0 < n) (h : w.ownsRow B e 1 v n (xs.map (Value.int .i64))) : ∃ g cap, QI w B g 0 cap v xs ∧ v.ownBlock = some g := by
  subst hn
  rcases h.2 with ⟨_, h1⟩ | ⟨g, cap, cur, rfl, hB, hg, hn, hm, hc, ht⟩
  · omega
  · refine ⟨g, cap, ⟨rfl, hB, (Array.getElem?_eq_some_iff.1 hg).1, hn, fun j hj => ?_, fun j x hj => ?_⟩, rfl⟩
    · rw [cell_of_row w g _ cur e (0, 0) hg, Nat.zero_add]
      refine ⟨?_, by simp [World.frozen?, hg]⟩
      rw [Array.getElem?_eq_getElem (by omega)]; rfl
    · rw [cell_of_row w g _ cur e (0, 0) hg, Nat.zero_add, ← Array.getElem?_toList]
      have hjl := (List.getElem?_eq_some_iff.1 hj).1
      have : (cur.toList.take (xs.length * 1))[j]? = some (Value.int .i64 x) := by rw [ht, List.getElem?_map, hj]; rfl
      rw [List.getElem?_take, if_pos (by omega)] at this
      exact this
theorem wp_pushQ {P : Program} {wr : World} {ops : Array Oper} {rest : List Oper} {o : Oper} {a : Act} {Q : Exit → Act → World → Prop} (hgd : o.guard = none) (s x : Operand) (t : TypeId)
    (ho : o.op = .call { callee := .builtin .append, args := #[s, x], argTypes := #[t, t] })
    {B e g off cap : Nat} (ht : P.underlying t = some (.slice e)) (hinf : (P.info? e).map (fun i => (i.zero, i.size, i.bytes)) = some (some (.int .i64 0), 1, 8))
    {v : Value} {xs : List Int} {u : Int} (hown : QI wr B g off cap v xs) (hs : a.eval s = v) (hx : a.eval x = .slice (some ⟨wr.heap.size, 0, none⟩) 1 1)
    (hn : xs.length ≤ 1099511627776) (hB : B ≤ wr.heap.size)
    (h : ∀ v' w' g' off' cap', QI w' B g' off' cap' v' (xs ++ [u]) → (∀ B', B' ≤ B → Below B' wr w') → wr.heap.size ≤ w'.heap.size → (∀ b, b < wr.heap.size → b ≠ g → w'.heap[b]? = wr.heap[b]? ∧ b ≠ g') → wpList P ops Q rest (a.put o.dst v') w') :
    wpList P ops Q (o :: rest) a (wr.alloc (.cells #[.int .i64 u] e)) := by
  obtain ⟨i, hi, hiz, his, hib⟩ := info_parts hinf
  obtain ⟨rfl, q2, q3, q4, q5, q6⟩ := hown
  have hcg : ∀ k, (wr.alloc (.cells #[.int .i64 u] e)).cell? ⟨g, k, none⟩ = wr.cell? ⟨g, k, none⟩ := fun k => World.cell?_of_block (w := wr) (a := ⟨g, k, none⟩) (heap_alloc_old wr _ q3)
  have hfg : ∀ k, (wr.alloc (.cells #[.int .i64 u] e)).frozen? ⟨g, k, none⟩ = wr.frozen? ⟨g, k, none⟩ := fun k => World.frozen?_of_block (w := wr) (a := ⟨g, k, none⟩) (heap_alloc_old wr _ q3)
  have hb0 : ∀ B', B' ≤ B → Below B' wr (wr.alloc (.cells #[.int .i64 u] e)) := fun B' hB' => (Below.refl _ _).alloc (by omega) _
  refine wpList_append_arg _ hgd s x t ho e i (.int .i64 0) 1 8 ht hi hiz his hib rfl (by omega) g off xs.length cap (xs.map (Value.int .i64)) hs (by simp) ?_ ⟨wr.heap.size, 0, none⟩ 1 1 [.int .i64 u] hx rfl ?_ ?_ ?_ (by simp only [maxLen]; omega) (by omega) ?_ ?_
  · intro j y hj
    rw [hcg]
    rw [List.getElem?_map] at hj
    obtain ⟨z, hz, rfl⟩ := Option.map_eq_some_iff.1 hj
    exact q6 j z hz
  · intro j y hj
    cases j with
    | zero =>
      simp only [List.getElem?_cons_zero, Option.some.injEq] at hj
      subst hj
      have : (⟨wr.heap.size, 0, none⟩ : Addr).add 0 = ⟨wr.heap.size, 0, none⟩ := rfl
      rw [this, cell_new]; rfl
    | succ j => simp at hj
  · intro y hy
    rw [List.mem_singleton.1 hy]; rfl
  · intro hr j hj
    simp only [List.length_singleton] at hj
    rw [hcg, hfg, Nat.mul_one, Nat.add_assoc]
    exact q5 _ (by omega)
  · intro hr
    have hset : (wr.alloc (.cells #[.int .i64 u] e)).setCells g (off + xs.length * 1) [.int .i64 u] = (wr.alloc (.cells #[.int .i64 u] e)).setCell ⟨g, off + xs.length, none⟩ (.int .i64 u) := by
      simp only [World.setCells, Nat.mul_one]
    rw [hset]
    have honly := only_setCell (wr.alloc (.cells #[.int .i64 u] e)) g (off + xs.length) (.int .i64 u)
    have hsz := honly.size
    rw [alloc_size] at hsz
    refine h _ _ g off cap ⟨by rw [List.length_append]; rfl, q2, by omega, by simpa using hr, fun j hj => ?_, fun j y hj => ?_⟩ (fun B' hB' => ?_) (by omega) (fun b hb hne => ⟨?_, hne⟩)
    · have h5 := q5 j hj
      rw [World.frozen?_setCell, hfg]
      refine ⟨?_, h5.2⟩
      by_cases ej : j = xs.length
      · subst ej
        obtain ⟨y, hy⟩ := Option.isSome_iff_exists.1 h5.1
        rw [cell_setCell_same (v := y) (by rw [hcg]; exact hy)]; rfl
      · rw [World.cell?_setCell_other _ _ _ _ (by intro x; injection x with _ x; omega), hcg]
        exact h5.1
    · by_cases ej : j = xs.length
      · subst ej
        rw [List.getElem?_append_right (by omega)] at hj
        simp at hj
        subst hj
        obtain ⟨y, hy⟩ := Option.isSome_iff_exists.1 (q5 xs.length (by omega)).1
        exact cell_setCell_same (v := y) (by rw [hcg]; exact hy)
      · have hjl := (List.getElem?_eq_some_iff.1 hj).1
        rw [List.length_append, List.length_singleton] at hjl
        rw [List.getElem?_append_left (by omega)] at hj
        rw [World.cell?_setCell_other _ _ _ _ (by intro x; injection x with _ x; omega), hcg]
        exact q6 j y hj
    · exact (hb0 B' hB').trans (Below.of_grown honly (by omega) (by rw [alloc_size]; omega))
    · rw [honly.block b (by rw [alloc_size]; omega) (by intro e; injection e with e; exact hne e)]
      exact heap_alloc_old wr _ hb
  · intro hr v' w' hown' hgr
    have hgs := hgr.size
    have hown2 : w'.ownsRow (wr.heap.size + 1) e 1 v' (xs.length + 1) ((xs ++ [u]).map (Value.int .i64)) := by
      have := hown'
      rw [alloc_size] at this
      simpa using this
    rw [alloc_size] at hgs
    obtain ⟨g', cap', hq, hob⟩ := QI.own_ (xs := xs ++ [u]) (by simp) (by omega) hown2
    have hq2 := hq.2.1
    refine h v' w' g' 0 cap' ⟨hq.1, by omega, hq.2.2⟩ (fun B' hB' => ?_) (by omega) (fun b hb hne => ⟨?_, by omega⟩)
    · exact (hb0 B' hB').trans ⟨hgr.os, hgr.tape, hgr.output, hgr.size, fun k hk => hgr.block k (by rw [alloc_size]; omega) (by simp)⟩
    · rw [hgr.block b (by rw [alloc_size]; omega) (by simp)]
      exact heap_alloc_old wr _ hb
end Go.Proofs.YtpehimjngofnkaaDoor
