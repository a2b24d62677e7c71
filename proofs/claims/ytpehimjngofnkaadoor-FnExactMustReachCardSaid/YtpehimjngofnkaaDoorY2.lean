/- Walks of the functions on cycles. -/
import Derived.Test.YtpehimjngofnkaaDoorProg
import Derived.WalkKit
import Derived.WalkSpells
import Derived.WalkLawsBesides
import Derived.Lib.Hide
import Derived.Lib.AppendZerosOnto
import Derived.Deep.QuietTactic
import Derived.Deep.RegionHeld3
import Derived.Deep.RegionWith
import Derived.Deep.RegionLaw
import Derived.BigQuiet
import Derived.Test.YtpehimjngofnkaaDoorWa
import Derived.Test.YtpehimjngofnkaaDoorMk
import Derived.Test.YtpehimjngofnkaaDoorSh
namespace Go.Proofs.YtpehimjngofnkaaDoor
open Go.RowKit
set_option linter.unusedVariables false

/-- append of a list of integers -/
theorem wp_catI {P : Program} {wr : World} {ops : Array Oper} {rest : List Oper} {o : Oper} {a : Act} {Q : Exit → Act → World → Prop} (hgd : o.guard = none) (s x : Operand) (t : TypeId)
    (ho : o.op = .call { callee := .builtin .append, args := #[s, x], argTypes := #[t, t] })
    {B e n c : Nat} {ad : Addr} (ht : P.underlying t = some (.slice e)) (hinf : (P.info? e).map (fun i => (i.zero, i.size, i.bytes)) = some (some (.int .i64 0), 1, 8))
    {v : Value} {xs ys : List Int} (hown : OI wr B e v xs) (hs : a.eval s = v) (hx : a.eval x = .slice (some ad) n c) (hn : ys.length = n) (hr : ∀ j u, (ys.map (Value.int .i64))[j]? = some u → wr.cell? (ad.add j) = some u)
    (hl : xs.length + n ≤ 1099511627776) (hB : B ≤ wr.heap.size)
    (h : ∀ v' w', OI w' B e v' (xs ++ ys) → (∀ B', B' ≤ B → Below B' wr w') → wr.heap.size ≤ w'.heap.size → (∀ g, g < wr.heap.size → v.ownBlock ≠ some g → w'.heap[g]? = wr.heap[g]? ∧ v'.ownBlock ≠ some g) → wpList P ops Q rest (a.put o.dst v') w') :
    wpList P ops Q (o :: rest) a wr := by
  obtain ⟨i, hi, hiz, his, hib⟩ := info_parts hinf
  refine wpList_append_own_at _ hgd s x t ho B e i (.int .i64 0) 1 8 ht hi hiz his hib rfl (by omega) v xs.length (xs.map (Value.int .i64)) hs hown ad n c (ys.map (Value.int .i64)) hx (by simp [hn]) hr ?_ (by simp only [maxLen]; omega) (by omega) (by omega) ?_
  · intro y hy
    obtain ⟨z, _, rfl⟩ := List.mem_map.1 hy
    rfl
  · intro v' w' h1 h2 _ h4
    refine h v' w' (by unfold OI; rw [List.map_append, List.length_append, hn]; exact h1) (fun B' hB' => ⟨h2.os, h2.tape, h2.output, h2.size, fun k hk => h2.block k (by omega) (fun e => ?_)⟩) h2.size (fun g hg hne => ⟨h2.block g hg (fun e => hne e.symm), ?_⟩)
    · have := (World.ownsRow.lt hown k e.symm).1
      omega
    · rcases h4 with h4 | h4
      · rw [h4]; exact hne
      · rw [h4]; intro e; injection e; omega
/-- .. as one step of a region that draws its order -/
theorem step_catI {P : Program} {wr : World} {ops : Array Oper} {o : Oper} {a : Act} {K : Act → World → Prop} {Q : Exit → Act → World → Prop} {E : Prop} (hgd : o.guard = none) (s x : Operand) (t : TypeId)
    (ho : o.op = .call { callee := .builtin .append, args := #[s, x], argTypes := #[t, t] })
    {B e n c : Nat} {ad : Addr} (ht : P.underlying t = some (.slice e)) (hinf : (P.info? e).map (fun i => (i.zero, i.size, i.bytes)) = some (some (.int .i64 0), 1, 8))
    {v : Value} {xs ys : List Int} (hown : OI wr B e v xs) (hs : a.eval s = v) (hx : a.eval x = .slice (some ad) n c) (hn : ys.length = n) (hr : ∀ j u, (ys.map (Value.int .i64))[j]? = some u → wr.cell? (ad.add j) = some u)
    (hl : xs.length + n ≤ 1099511627776) (hB : B ≤ wr.heap.size)
    (h : ∀ v' w', OI w' B e v' (xs ++ ys) → (∀ B', B' ≤ B → Below B' wr w') → wr.heap.size ≤ w'.heap.size → K (a.put o.dst v') w') :
    if Region.wanted o (yielded ops a.tmps) = true then Oper.wp P o a wr K Q else E := by
  have hw : Region.wanted o (yielded ops a.tmps) = true := by simp [Region.wanted, hgd]
  rw [if_pos hw]
  obtain ⟨i, hi, hiz, his, hib⟩ := info_parts hinf
  obtain ⟨v', w', hrun, h1, h2, _⟩ := run_append_own (P := P) wr B t o.type e i (.int .i64 0) 1 8 ht hi hiz his hib rfl (by omega) v xs.length (xs.map (Value.int .i64)) hown ad n c (ys.map (Value.int .i64)) (by simp [hn]) hr (by
    intro y hy
    obtain ⟨z, _, rfl⟩ := List.mem_map.1 hy
    rfl) (by simp only [maxLen]; omega) (by omega) hB
  unfold Oper.wp
  simp [execOp, ho, resolve, invoke, builtin, hs, hx, hrun, Result.andThen]
  refine h v' w' (by unfold OI; rw [List.map_append, List.length_append, hn]; exact h1) (fun B' hB' => ⟨h2.os, h2.tape, h2.output, h2.size, fun k hk => h2.block k (by omega) (fun e => ?_)⟩) h2.size
  have := (World.ownsRow.lt hown k e.symm).1
  omega
theorem add_none (g off j : Nat) : (⟨g, off, none⟩ : Addr).add j = ⟨g, off + j, none⟩ := by unfold Addr.add; split <;> simp_all
/-- a slice of integers is readable from a place on -/
theorem Rd.drop_ {w : World} {g off k : Nat} {vs : List Value} (h : Rd w (some ⟨g, off, none⟩) vs) : Rd w (some ⟨g, off + k, none⟩) (vs.drop k) := by
  rcases h with h | ⟨g', off', hA, hc⟩
  · left; rw [h]; simp
  · injection hA with hA
    injection hA with h1 h2
    subst h1; subst h2
    refine .inr ⟨g, off + k, rfl, fun j v hj => ?_⟩
    rw [List.getElem?_drop] at hj
    rw [Nat.add_assoc]
    exact hc _ _ hj
theorem Rd.take_ {w : World} {A : Option Addr} {k : Nat} {vs : List Value} (h : Rd w A vs) : Rd w A (vs.take k) := by
  rcases h with h | ⟨g, off, hA, hc⟩
  · left; rw [h]; simp
  · refine .inr ⟨g, off, hA, fun j v hj => ?_⟩
    rw [List.getElem?_take] at hj
    split at hj
    · exact hc _ _ hj
    · cases hj
theorem Rd.adds {w : World} {g off : Nat} {vs : List Value} (h : Rd w (some ⟨g, off, none⟩) vs) : ∀ j u, vs[j]? = some u → w.cell? ((⟨g, off, none⟩ : Addr).add j) = some u := fun j u hj => by
  rw [add_none]; exact h.cell hj
theorem ints_drop (l : List Nat) (k : Nat) : (ints l).drop k = ints (l.drop k) := by simp [ints, List.map_drop]
theorem ints_take (l : List Nat) (k : Nat) : (ints l).take k = ints (l.take k) := by simp [ints, List.map_take]

end Go.Proofs.YtpehimjngofnkaaDoor
