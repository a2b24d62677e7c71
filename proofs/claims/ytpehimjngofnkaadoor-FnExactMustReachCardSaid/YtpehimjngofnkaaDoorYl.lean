/- Walks: lists of lists of integers; the cycles of a network on both sides. -/
import Derived.Test.YtpehimjngofnkaaDoorProg
import Derived.WalkKit
import Derived.WalkSpells
import Derived.WalkLawsBesides
import Derived.Lib.Hide
import Derived.Deep.QuietTactic
import Derived.BigQuiet
import Derived.Test.YtpehimjngofnkaaDoorWa
import Derived.Test.YtpehimjngofnkaaDoorY2
import Derived.Test.YtpehimjngofnkaaDoorYh
namespace Go.Proofs.YtpehimjngofnkaaDoor
open Go.RowKit
set_option linter.unusedVariables false

/-- an own list of values of one cell each -/
def OV (w : World) (B : Nat) (e : TypeId) (v : Value) (ys : List Value) : Prop := w.ownsRow B e 1 v ys.length ys
theorem OV.nil (w : World) (B : Nat) (e : TypeId) : OV w B e (.slice none 0 0) [] := World.ownsRow_nil w B e 1
theorem OV.empty (w : World) (B : Nat) (e : TypeId) (hB : B ≤ w.heap.size) : OV (w.alloc (.cells #[] e)) B e (.slice (some ⟨w.heap.size, 0, none⟩) 0 0) [] :=
  World.ownsRow_made w #[] 0 hB (Nat.zero_le _) rfl
theorem OV.below {w w' : World} {B : Nat} {e : TypeId} {v : Value} {ys : List Value} (h : OV w B e v ys) (hb : Below w.heap.size w w') : OV w' B e v ys := ownsRow_below h hb
theorem OV.form {w : World} {B : Nat} {e : TypeId} {v : Value} {ys : List Value} (h : OV w B e v ys) : ∃ A c, v = .slice A ys.length c ∧ ys.length ≤ c ∧ Own w B A ys := by
  rcases h.2 with ⟨rfl, h0⟩ | ⟨g, cap, cur, rfl, hB, hg, hn, rest⟩
  · exact ⟨none, 0, by rw [h0], by omega, .inl (List.eq_nil_of_length_eq_zero h0)⟩
  · exact ⟨_, cap, rfl, hn, Own.of_own h⟩
theorem OV.own_lt {w : World} {B g : Nat} {e : TypeId} {v : Value} {ys : List Value} (h : OV w B e v ys) (hg : v.ownBlock = some g) : B ≤ g ∧ g < w.heap.size :=
  ⟨(World.ownsRow.lt h g hg).1, (World.ownsRow.lt h g hg).2⟩
theorem own_ne {w : World} {B g : Nat} {e : TypeId} {v : Value} {ys : List Value} (h : OV w B e v ys) (hg : w.heap.size ≤ g) : v.ownBlock ≠ some g := fun e => by have := (h.own_lt e).2; omega
theorem wp_pushL {P : Program} {wr : World} {ops : Array Oper} {rest : List Oper} {o : Oper} {a : Act} {Q : Exit → Act → World → Prop} (hgd : o.guard = none) (s x : Operand) (t : TypeId)
    (ho : o.op = .call { callee := .builtin .append, args := #[s, x], argTypes := #[t, t] })
    {B e : Nat} (ht : P.underlying t = some (.slice e)) (hinf : (P.info? e).map (fun i => (i.zero, i.size, i.bytes)) = some (some (.slice none 0 0), 1, 24))
    {v : Value} {ys : List Value} {u : Value} (hu : u.oneCell' = true) (hown : OV wr B e v ys) (hs : a.eval s = v) (hx : a.eval x = .slice (some ⟨wr.heap.size, 0, none⟩) 1 1)
    (hn : ys.length ≤ 1099511627776) (hB : B ≤ wr.heap.size)
    (h : ∀ v' w', OV w' B e v' (ys ++ [u]) → (∀ B', B' ≤ B → Below B' wr w') → wr.heap.size ≤ w'.heap.size → (∀ g, g < wr.heap.size → v.ownBlock ≠ some g → w'.heap[g]? = wr.heap[g]? ∧ v'.ownBlock ≠ some g) → wpList P ops Q rest (a.put o.dst v') w') :
    wpList P ops Q (o :: rest) a (wr.alloc (.cells #[u] e)) := by
  obtain ⟨i, hi, hiz, his, hib⟩ := info_parts hinf
  refine wpList_append_own_at _ hgd s x t ho B e i (.slice none 0 0) 1 24 ht hi hiz his hib rfl (by omega) v ys.length ys hs (World.ownsRow.alloc hown _) ⟨wr.heap.size, 0, none⟩ 1 1 [u] hx rfl ?_ ?_ (by simp only [maxLen]; omega) (by omega) (by rw [alloc_size]; omega) ?_
  · intro j y hj
    cases j with
    | zero =>
      simp only [List.getElem?_cons_zero, Option.some.injEq] at hj
      subst hj
      have : (⟨wr.heap.size, 0, none⟩ : Addr).add 0 = ⟨wr.heap.size, 0, none⟩ := rfl
      rw [this, cell_new]; rfl
    | succ j => simp at hj
  · intro y hy
    rw [List.mem_singleton.1 hy]; exact hu
  · intro v' w' h1 h2 _ h4
    have hz := h2.size
    rw [alloc_size] at hz
    refine h v' w' (by unfold OV; simpa using h1) (fun B' hB' => ?_) (by omega) (fun g hg hne => ⟨?_, ?_⟩)
    · have hb0 : Below B' wr (wr.alloc (.cells #[u] e)) := (Below.refl _ _).alloc (by omega) _
      refine hb0.grown h2 (by rw [alloc_size]; omega) ?_
      intro k hk
      have := (World.ownsRow.lt hown k hk).1
      omega
    · have := h2.block g (by rw [alloc_size]; omega) (fun e => hne e.symm)
      rw [this]
      exact heap_alloc_old wr _ hg
    · rcases h4 with h4 | h4
      · rw [h4]; exact hne
      · rw [h4, alloc_size]; intro e; injection e; omega
theorem Own.blk {w w' : World} {B g off : Nat} {vs : List Value} (h : Own w B (some ⟨g, off, none⟩) vs) (hb : w'.heap[g]? = w.heap[g]?) : Own w' B (some ⟨g, off, none⟩) vs := by
  rcases h with h | ⟨g', off', hA, hB, hc⟩
  · exact .inl h
  · injection hA with hA
    injection hA with h1 h2
    subst h1 h2
    refine .inr ⟨g, off, rfl, hB, fun j v hj => ?_⟩
    exact ⟨(World.cell?_of_block (w := w) (a := ⟨g, off + j, none⟩) hb).trans (hc j v hj).1, (World.frozen?_of_block (w := w) (a := ⟨g, off + j, none⟩) hb).trans (hc j v hj).2⟩
/-- the lists of a list of lists: each in a block of its own, which is not that of the list v itself -/
structure LL (w : World) (B : Nat) (v : Value) (gs : List Nat) (ys : List Value) (xss : List (List Int)) : Prop where
  len : ys.length = xss.length
  gl : gs.length = xss.length
  nd : gs.Nodup
  lt : ∀ g ∈ gs, B ≤ g ∧ g < w.heap.size ∧ v.ownBlock ≠ some g
  at_ : ∀ (i : Nat) (xs : List Int), xss[i]? = some xs → ∃ (g off c : Nat), gs[i]? = some g ∧ ys[i]? = some (Value.slice (some ⟨g, off, none⟩) xs.length c) ∧ xs.length ≤ c ∧ Own w B (some ⟨g, off, none⟩) (xs.map (Value.int .i64))
theorem LL.nil (w : World) (B : Nat) (v : Value) : LL w B v [] [] [] := ⟨rfl, rfl, by simp, by simp, by intro i xs h; simp at h⟩
theorem LL.blk {w w' : World} {B : Nat} {v v' : Value} {gs : List Nat} {ys : List Value} {xss : List (List Int)} (h : LL w B v gs ys xss) (hb : ∀ g ∈ gs, w'.heap[g]? = w.heap[g]? ∧ v'.ownBlock ≠ some g) (hz : w.heap.size ≤ w'.heap.size) : LL w' B v' gs ys xss :=
  ⟨h.len, h.gl, h.nd, fun g hg => ⟨(h.lt g hg).1, Nat.lt_of_lt_of_le (h.lt g hg).2.1 hz, (hb g hg).2⟩, fun i xs hi => by
    obtain ⟨g, off, c, h1, h2, h3, h4⟩ := h.at_ i xs hi
    exact ⟨g, off, c, h1, h2, h3, h4.blk (hb g (List.mem_of_getElem? h1)).1⟩⟩
theorem LL.below {w w' : World} {B : Nat} {v : Value} {gs : List Nat} {ys : List Value} {xss : List (List Int)} (h : LL w B v gs ys xss) (hb : Below w.heap.size w w') : LL w' B v gs ys xss :=
  h.blk (fun g hg => ⟨hb.block g (h.lt g hg).2.1, (h.lt g hg).2.2⟩) hb.size
theorem LL.snoc {w : World} {B g off c : Nat} {v : Value} {gs : List Nat} {ys : List Value} {xss : List (List Int)} {xs : List Int} (h : LL w B v gs ys xss) (hg : g ∉ gs) (hB : B ≤ g) (hw : g < w.heap.size) (hv : v.ownBlock ≠ some g) (hc : xs.length ≤ c)
    (ho : Own w B (some ⟨g, off, none⟩) (xs.map (Value.int .i64))) : LL w B v (gs ++ [g]) (ys ++ [.slice (some ⟨g, off, none⟩) xs.length c]) (xss ++ [xs]) := by
  refine ⟨by rw [List.length_append, List.length_append, h.len]; rfl, by rw [List.length_append, List.length_append, h.gl]; rfl, ?_, ?_, ?_⟩
  · rw [List.nodup_append]
    exact ⟨h.nd, by simp, by intro a ha b hb; simp at hb; subst hb; intro e; subst e; exact hg ha⟩
  · intro x hx
    rcases List.mem_append.1 hx with hx | hx
    · exact h.lt x hx
    · simp at hx; subst hx; exact ⟨hB, hw, hv⟩
  · intro i zs hi
    by_cases hlt : i < xss.length
    · rw [List.getElem?_append_left hlt] at hi
      obtain ⟨g', off', c', h1, h2, h3, h4⟩ := h.at_ i zs hi
      exact ⟨g', off', c', by rw [List.getElem?_append_left (by rw [h.gl]; exact hlt)]; exact h1, by rw [List.getElem?_append_left (by rw [h.len]; exact hlt)]; exact h2, h3, h4⟩
    · have hie : i = xss.length := by
        have := (List.getElem?_eq_some_iff.1 hi).1
        rw [List.length_append, List.length_singleton] at this; omega
      subst hie
      rw [List.getElem?_append_right (Nat.le_refl _), Nat.sub_self] at hi
      simp at hi
      subst hi
      exact ⟨g, off, c, by rw [← h.gl, List.getElem?_append_right (Nat.le_refl _), Nat.sub_self]; rfl, by rw [← h.len, List.getElem?_append_right (Nat.le_refl _), Nat.sub_self]; rfl, hc, ho⟩
theorem LL.mono {w : World} {B B' : Nat} {v : Value} {gs : List Nat} {ys : List Value} {xss : List (List Int)} (h : LL w B v gs ys xss) (hB : B' ≤ B) : LL w B' v gs ys xss :=
  ⟨h.len, h.gl, h.nd, fun g hg => ⟨Nat.le_trans hB (h.lt g hg).1, (h.lt g hg).2⟩, fun i xs hi => by
    obtain ⟨g, off, c, h1, h2, h3, h4⟩ := h.at_ i xs hi
    exact ⟨g, off, c, h1, h2, h3, h4.mono hB⟩⟩
/-- a list of lists was handed back -/
def RetLL (B : Nat) (xss : List (List Int)) (e : Ending) (w' : World) : Prop :=
  ∃ A c gs ys, e = .returned (.slice A xss.length c) ∧ xss.length ≤ c ∧ Own w' B A ys ∧ LL w' B (.slice A xss.length c) gs ys xss
theorem info_sl : (Tryd.prog.info? 22).map (fun i => (i.zero, i.size, i.bytes)) = some (some (.slice none 0 0), 1, 24) := by kernel_rfl
/-- the cycles of the first k states that are least in their cycle -/
def cylTo (f : Nat → Nat) (k : Nat) : List (List Int) := (sel k fun s => cy0 f s == s).map fun s => ints (cyc f s)
theorem cylTo_yes {f : Nat → Nat} {k : Nat} (h : cy0 f k = k) : cylTo f (k + 1) = cylTo f k ++ [ints (cyc f k)] := by rw [cylTo, sel_yes (by simpa using h), List.map_append]; rfl
theorem cylTo_no {f : Nat → Nat} {k : Nat} (h : ¬ cy0 f k = k) : cylTo f (k + 1) = cylTo f k := by rw [cylTo, sel_no (by simpa using h)]; rfl
theorem cylTo_len (f : Nat → Nat) (k : Nat) : (cylTo f k).length ≤ k := by rw [cylTo, List.length_map]; exact sel_len _ _
def cylN (ps : List (List UInt8)) : List (List Int) := if okN ps then cylTo (stp ps) (2 ^ ps.length) else []
theorem cylN_yes {ps : List (List UInt8)} {N : Nat} (h : okN ps = true) (hN : N = 2 ^ ps.length) : cylN ps = cylTo (stp ps) N := by rw [cylN, if_pos h, hN]
theorem cylN_no {ps : List (List UInt8)} (h : okN ps = false) : cylN ps = [] := by rw [cylN, h]; rfl

end Go.Proofs.YtpehimjngofnkaaDoor
