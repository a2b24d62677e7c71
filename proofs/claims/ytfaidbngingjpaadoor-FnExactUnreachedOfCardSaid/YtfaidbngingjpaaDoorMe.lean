/- Words for memory: rows of bytes, slices that read as lists. Over any program. -/
import Derived.WalkKit
import Derived.WalkSpells
import Derived.WalkLawsBesides
import Derived.Lib.Hide
import Derived.Lib.ConvBytes
import Derived.Deep.QuietTactic
import Derived.Deep.WholeRow
import Derived.Deep.MidRow
import Derived.Laws.ResultCell
import Derived.Test.YtfaidbngingjpaaDoorMa
namespace Go.Proofs.YtfaidbngingjpaaDoor
open Go.RowKit

/-- block g holds the bytes l from its head on, and they may be written -/
def BytesAt (w : World) (g : Nat) (l : List UInt8) : Prop := ∀ j (h : j < l.length), w.cell? ⟨g, j, none⟩ = some (.int .u8 (l[j].toNat : Int)) ∧ w.frozen? ⟨g, j, none⟩ = false
theorem BytesAt.at_ {w : World} {g : Nat} {l : List UInt8} (h : BytesAt w g l) {j : Nat} {c : UInt8} (hj : l[j]? = some c) :
    w.cell? ⟨g, j, none⟩ = some (.int .u8 (c.toNat : Int)) ∧ w.frozen? ⟨g, j, none⟩ = false := by
  obtain ⟨hl, rfl⟩ := List.getElem?_eq_some_iff.1 hj
  exact h j hl
theorem BytesAt.set_ {w : World} {g : Nat} {l : List UInt8} (h : BytesAt w g l) (k : Nat) (c : UInt8) : BytesAt (w.setCell ⟨g, k, none⟩ (.int .u8 (c.toNat : Int))) g (l.set k c) := by
  intro j hj
  have hj' : j < l.length := by simpa using hj
  obtain ⟨h1, h2⟩ := h j hj'
  refine ⟨?_, ?_⟩
  · by_cases e : k = j
    · subst e
      simp only [List.getElem_set_self]
      unfold World.cell? at h1 ⊢
      simp only [World.setCell, Array.getElem?_modify] at h1 ⊢
      cases hb : w.heap[g]? with
      | none => simp [hb] at h1
      | some o =>
        cases o <;> simp [hb] at h1 ⊢
        simp [(Array.getElem?_eq_some_iff.1 h1).1]
    · rw [List.getElem_set_ne e, World.cell?_setCell_other _ _ _ _ (by intro x; injection x with _ x; exact e x), h1]
  · rw [World.frozen?_setCell]; exact h2
theorem BytesAt.keep {w w' : World} {g : Nat} {l : List UInt8} (h : BytesAt w g l) (e : w'.heap[g]? = w.heap[g]?) : BytesAt w' g l := fun j hj =>
  ⟨(World.cell?_of_block (w := w) (a := ⟨g, j, none⟩) e).trans (h j hj).1, (World.frozen?_of_block (w := w) (a := ⟨g, j, none⟩) e).trans (h j hj).2⟩
theorem BytesAt.drewN {w : World} {g : Nat} {l : List UInt8} (h : BytesAt w g l) (n : Nat) : BytesAt (w.drewN n) g l := h
theorem cell_setCell_same {w : World} {a : Addr} {u v : Value} (h : w.cell? a = some v) : (w.setCell a u).cell? a = some u := by
  obtain ⟨g, k, sp⟩ := a
  unfold World.cell? at h ⊢
  simp only [World.setCell, Array.getElem?_modify] at h ⊢
  cases hb : w.heap[g]? with
  | none => simp [hb] at h
  | some o =>
    cases o <;> simp [hb] at h ⊢
    obtain ⟨rfl, h⟩ := h
    simp [(Array.getElem?_eq_some_iff.1 h).1]
theorem drewN2 (w : World) (a b : Nat) : (w.drewN a).drewN b = w.drewN (a + b) := by simp [World.drewN, Nat.add_assoc]
theorem drewN_below {B : Nat} (w : World) (n : Nat) : Below B w (w.drewN n) := below_drewN (Below.refl _ _) n
theorem drewN_size (w : World) (n : Nat) : (w.drewN n).heap.size = w.heap.size := rfl
theorem setCell_size (w : World) (a : Addr) (v : Value) : (w.setCell a v).heap.size = w.heap.size := by simp [World.setCell]

/-! a quiet call inside a region that draws its order; the contracts here say 'w = w'' -/
theorem quiet_left {P : Program} {f : FuncId} {args : Array Value} {w : World} {n : Nat} {v : Value}
    (h : Calls P f args (w.drewN n) fun e w' => e = .returned v ∧ w.drewN n = w') : Calls P f args (w.drewN n) fun e w' => e = .returned v ∧ ∃ m, w' = w.drewN m :=
  h.mono fun _ _ ⟨he, hm⟩ => ⟨he, n, hm.symm⟩
theorem quiet_left2 {P : Program} {f : FuncId} {args : Array Value} {w : World} {n : Nat} {v : Value}
    (h : Calls P f args (w.drewN n) fun e w' => e = .returned v ∧ ∃ m, (w.drewN n).drewN m = w') : Calls P f args (w.drewN n) fun e w' => e = .returned v ∧ ∃ m, w' = w.drewN m :=
  h.mono fun _ _ ⟨he, m, hm⟩ => ⟨he, n + m, by rw [← hm, drewN2]⟩
theorem quiet_add_left {P : Program} {f : FuncId} {args : Array Value} {w : World} {a n : Nat} {v : Value}
    (h : Calls P f args (w.drewN (a + n)) fun e w' => e = .returned v ∧ w.drewN (a + n) = w') :
    Calls P f args (w.drewN (a + n)) fun e w' => e = .returned v ∧ ∃ m, w' = w.drewN (a + m) :=
  h.mono fun _ _ ⟨he, hm⟩ => ⟨he, n, hm.symm⟩
/-- []byte(s) -/
theorem conv_bytes {P : Program} (w : World) (src dst e : TypeId) (s : ByteArray) (hs : P.underlying src = some .string) (hd : P.underlying dst = some (.slice e)) (he : P.underlying e = some (.int .u8)) :
    ∃ (c : Nat) (W1 : World), (convert src dst (.string s)).run P w = .ok (.slice (some ⟨w.heap.size, 0, none⟩) s.size c) W1 ∧ Below w.heap.size w W1 ∧ w.heap.size < W1.heap.size ∧ Hid (BytesAt W1 w.heap.size s.data.toList) := by
  refine ⟨_, _, Lib.run_convert_string_bytes w src dst e s hs hd he, ⟨?_, ?_, ?_, ?_, fun k hk => Lib.bytesWorld_at_old w e s k hk⟩, ?_, Lib.hid fun j hj => ⟨?_, ?_⟩⟩
  · simp [Lib.bytesWorld, World.freeze, World.alloc, World.drew, -World.alloc_eq, -World.drew_eq]
  · simp [Lib.bytesWorld, World.freeze, World.alloc, World.drew, -World.alloc_eq, -World.drew_eq]
  · simp [Lib.bytesWorld, World.freeze, World.alloc, World.drew, -World.alloc_eq, -World.drew_eq]
  · rw [Lib.bytesWorld_size]; omega
  · rw [Lib.bytesWorld_size]; omega
  · have hj' : j < s.size := by simpa using hj
    rw [Lib.bytesWorld_cell w e s j hj']
    simp [List.getD, hj']
  · have hj' : j < s.size := by simpa using hj
    simp only [World.frozen?, Lib.bytesWorld_at_new]
    simp [Lib.bytesCells]
    omega
/-- string(b) -/
theorem conv_back {P : Program} (w : World) (src dst e : TypeId) (g n c : Nat) (l : List UInt8) (hn : n = l.length) (hs : P.underlying src = some (.slice e)) (he : P.underlying e = some (.int .u8)) (hd : P.underlying dst = some .string)
    (h : BytesAt w g l) : (convert src dst (.slice (some ⟨g, 0, none⟩) n c)).run P w = .ok (.string ⟨l.toArray⟩) w := by
  subst hn
  refine run_convert_bytes_back w src dst e _ c l hs he hd fun j hj => ?_
  have : (⟨g, 0, none⟩ : Addr).add j = ⟨g, j, none⟩ := by unfold Addr.add; split <;> simp_all
  rw [this]
  exact (h j hj).1
/-- make([]byte, n), make([]int, n): an equation for every world -/
theorem make_row {P : Program} {t e : TypeId} {z : Value} {bytes : Nat} (ht : P.underlying t = some (.slice e)) (hinf : (P.info? e).map (fun i => (i.zero, i.size, i.bytes)) = some (some z, 1, bytes)) (hz : z.cells = #[z])
    (n : Nat) (hb : bytes * n ≤ 281474976710656) (hn : n ≤ 9223372036854775807) (w : World) :
    (Instr.makeSlice t (.int .i64 (n : Int)) (.int .i64 (n : Int))).run P w = .ok (.slice (some ⟨w.heap.size, 0, none⟩) n n) (w.alloc (.cells (Array.replicate n z) e)) := by
  obtain ⟨i, hi, hiz, his, hib⟩ := info_parts hinf
  have hb' : (i.bytes : Int) * (n : Int) ≤ 281474976710656 := by
    have h : ((i.bytes * n : Nat) : Int) ≤ 281474976710656 := by rw [hib]; omega
    rwa [Int.natCast_mul] at h
  have hr := run_make (P := P) w t e i z ht hi hiz .i64 .i64 n n (by omega) (by omega) hb' (by omega)
  simp only [Int.toNat_natCast, his, Nat.mul_one, hz] at hr
  rw [hr]
  have e : madeCells #[z] n = Array.replicate n z := by
    apply Array.ext
    · simp [madeCells]
    · intro i h1 h2
      simp only [madeCells, Array.getElem_map, Array.getElem_replicate]
      simp [Nat.mod_one]
  rw [e]
/-- a new block -/
theorem cell_new (w : World) (C : Array Value) (e : TypeId) (j : Nat) : (w.alloc (.cells C e)).cell? ⟨w.heap.size, j, none⟩ = C[j]? := by
  rw [cell_of_row _ _ j C e (0, 0) (heap_alloc_new w _)]
theorem frozen_new (w : World) (C : Array Value) (e : TypeId) (j : Nat) : (w.alloc (.cells C e)).frozen? ⟨w.heap.size, j, none⟩ = false := by
  have := heap_alloc_new w (.cells C e)
  unfold World.frozen?
  rw [this]
  simp
theorem BytesAt.made (w : World) (n : Nat) (e : TypeId) : BytesAt (w.alloc (.cells (Array.replicate n (.int .u8 0)) e)) w.heap.size (List.replicate n 0) := by
  intro j hj
  have hj' : j < n := by simpa using hj
  exact ⟨by rw [cell_new]; simp [hj'], frozen_new _ _ _ _⟩
theorem alloc_size (w : World) (o : Obj) : (w.alloc o).heap.size = w.heap.size + 1 := by simp
/-! Slices: the address A leads to the cells vs. -/
def Rd (w : World) (A : Option Addr) (vs : List Value) : Prop :=
  vs = [] ∨ ∃ g off, A = some ⟨g, off, none⟩ ∧ ∀ j v, vs[j]? = some v → w.cell? ⟨g, off + j, none⟩ = some v
/-- ... in a block from B on, and they may be written -/
def Own (w : World) (B : Nat) (A : Option Addr) (vs : List Value) : Prop :=
  vs = [] ∨ ∃ g off, A = some ⟨g, off, none⟩ ∧ B ≤ g ∧ ∀ j v, vs[j]? = some v → w.cell? ⟨g, off + j, none⟩ = some v ∧ w.frozen? ⟨g, off + j, none⟩ = false
section
variable {w w' : World} {B B' : Nat} {A : Option Addr} {vs : List Value}
theorem Rd.nil (w : World) (A : Option Addr) : Rd w A [] := .inl rfl
theorem Own.nil (w : World) (B : Nat) (A : Option Addr) : Own w B A [] := .inl rfl
theorem Own.rd (h : Own w B A vs) : Rd w A vs := by
  rcases h with h | ⟨g, off, hA, _, hc⟩
  · exact .inl h
  · exact .inr ⟨g, off, hA, fun j v hj => (hc j v hj).1⟩
theorem Own.mono (h : Own w B A vs) (hB : B' ≤ B) : Own w B' A vs := by
  rcases h with h | ⟨g, off, hA, hg, hc⟩
  · exact .inl h
  · exact .inr ⟨g, off, hA, Nat.le_trans hB hg, hc⟩
theorem Rd.below (h : Rd w A vs) (hb : Below w.heap.size w w') : Rd w' A vs := by
  rcases h with h | ⟨g, off, hA, hc⟩
  · exact .inl h
  · exact .inr ⟨g, off, hA, fun j v hj => (hb.cell (World.block_lt_of_cell? w _ (hc j v hj))).trans (hc j v hj)⟩
theorem Own.below (h : Own w B A vs) (hb : Below w.heap.size w w') : Own w' B A vs := by
  rcases h with h | ⟨g, off, hA, hg, hc⟩
  · exact .inl h
  · refine .inr ⟨g, off, hA, hg, fun j v hj => ?_⟩
    have hlt := World.block_lt_of_cell? w _ (hc j v hj).1
    exact ⟨(hb.cell hlt).trans (hc j v hj).1, (hb.frozen hlt).trans (hc j v hj).2⟩
theorem Rd.at_ {k : Nat} {v : Value} (h : Rd w A vs) (hk : vs[k]? = some v) : ∃ g off, A = some ⟨g, off, none⟩ ∧ w.cell? ⟨g, off + k, none⟩ = some v := by
  rcases h with h | ⟨g, off, hA, hc⟩
  · subst h; simp at hk
  · exact ⟨g, off, hA, hc k v hk⟩
theorem Own.at_ {k : Nat} {v : Value} (h : Own w B A vs) (hk : vs[k]? = some v) : ∃ g off, A = some ⟨g, off, none⟩ ∧ B ≤ g ∧ w.cell? ⟨g, off + k, none⟩ = some v ∧ w.frozen? ⟨g, off + k, none⟩ = false := by
  rcases h with h | ⟨g, off, hA, hg, hc⟩
  · subst h; simp at hk
  · exact ⟨g, off, hA, hg, hc k v hk⟩
theorem Rd.int {k : IntKind} {xs : List Int} {j : Nat} (h : Rd w A (xs.map (Value.int k))) (hj : j < xs.length) : ∃ g off, A = some ⟨g, off, none⟩ ∧ w.cell? ⟨g, off + j, none⟩ = some (.int k xs[j]) :=
  h.at_ (by simp [hj])
theorem Own.int {k : IntKind} {xs : List Int} {j : Nat} (h : Own w B A (xs.map (Value.int k))) (hj : j < xs.length) : ∃ g off, A = some ⟨g, off, none⟩ ∧ B ≤ g ∧ w.cell? ⟨g, off + j, none⟩ = some (.int k xs[j]) ∧ w.frozen? ⟨g, off + j, none⟩ = false :=
  h.at_ (by simp [hj])
theorem Rd.str {xs : List ByteArray} {j : Nat} (h : Rd w A (xs.map Value.string)) (hj : j < xs.length) : ∃ g off, A = some ⟨g, off, none⟩ ∧ w.cell? ⟨g, off + j, none⟩ = some (.string xs[j]) :=
  h.at_ (by simp [hj])
theorem Rd.cell {g off k : Nat} {v : Value} (h : Rd w (some ⟨g, off, none⟩) vs) (hk : vs[k]? = some v) : w.cell? ⟨g, off + k, none⟩ = some v := by
  obtain ⟨g', off', hA, hc⟩ := h.at_ hk
  injection hA with hA
  injection hA with h1 h2
  subst h1; subst h2
  exact hc
theorem Own.cell {g off k : Nat} {v : Value} (h : Own w B (some ⟨g, off, none⟩) vs) (hk : vs[k]? = some v) : w.cell? ⟨g, off + k, none⟩ = some v ∧ w.frozen? ⟨g, off + k, none⟩ = false := by
  obtain ⟨g', off', hA, _, hc⟩ := h.at_ hk
  injection hA with hA
  injection hA with h1 h2
  subst h1; subst h2
  exact hc
theorem Own.made (w : World) (n : Nat) (z : Value) (e : TypeId) {vs : List Value} (hv : vs = List.replicate n z) : Own (w.alloc (.cells (Array.replicate n z) e)) w.heap.size (some ⟨w.heap.size, 0, none⟩) vs := by
  subst hv
  refine .inr ⟨_, 0, rfl, Nat.le_refl _, fun j v hj => ?_⟩
  rw [Nat.zero_add, cell_new, frozen_new]
  refine ⟨?_, rfl⟩
  rw [List.getElem?_replicate] at hj
  split at hj
  · rename_i h; simpa [h] using hj
  · cases hj
theorem Own.lit (w : World) (e : TypeId) (vs : List Value) {B : Nat} (hB : B ≤ w.heap.size) : Own (w.alloc (.cells vs.toArray e)) B (some ⟨w.heap.size, 0, none⟩) vs := by
  refine .inr ⟨_, 0, rfl, hB, fun j v hj => ?_⟩
  rw [Nat.zero_add, cell_new, frozen_new]
  exact ⟨by simpa using hj, rfl⟩
/-- what is owned by the append laws' word is owned by this one -/
theorem Own.of_own {e : TypeId} {n c : Nat} (h : w.ownsRow B e 1 (.slice A n c) n vs) : Own w B A vs := by
  rcases h.2 with ⟨hv, rfl⟩ | ⟨g, cap, cur, hv, hB, hg, hn, _, hsz, htake⟩
  · left; exact List.eq_nil_of_length_eq_zero (by simpa using h.1)
  · injection hv with hA _ _
    refine .inr ⟨g, 0, hA, hB, fun j v hj => ?_⟩
    rw [Nat.zero_add, cell_of_row w g j cur e (0, 0) hg]
    refine ⟨?_, by simp [World.frozen?, hg]⟩
    rw [← htake, List.getElem?_take] at hj
    split at hj
    · simpa using hj
    · cases hj
/-- a store at the place k -/
theorem Own.set_ {k : Nat} {v u : Value} {g off : Nat} (h : Own w B (some ⟨g, off, none⟩) vs) (hk : vs[k]? = some v) :
    Own (w.setCell ⟨g, off + k, none⟩ u) B (some ⟨g, off, none⟩) (vs.set k u) := by
  rcases h with h | ⟨g', off', hA, hg, hc⟩
  · subst h; simp at hk
  · injection hA with hA
    injection hA with h1 h2
    subst h1; subst h2
    refine .inr ⟨g, off, rfl, hg, fun j x hj => ?_⟩
    rw [World.frozen?_setCell]
    rw [List.getElem?_set] at hj
    split at hj
    · subst k
      split at hj
      · injection hj with hj
        subst hj
        exact ⟨cell_setCell_same (hc j v hk).1, (hc j v hk).2⟩
      · cases hj
    · rename_i hne
      rw [World.cell?_setCell_other _ _ _ _ (by intro x; injection x with _ x; omega)]
      exact hc j x hj
end

/-! append of one element to a row of the call's own -/
/-- the value v is the call's own slice of the integers xs -/
def OI (w : World) (B : Nat) (e : TypeId) (v : Value) (xs : List Int) : Prop := w.ownsRow B e 1 v xs.length (xs.map (Value.int .i64))
theorem OI.nil (w : World) (B : Nat) (e : TypeId) : OI w B e (.slice none 0 0) [] := World.ownsRow_nil w B e 1
theorem OI.empty (w : World) (B : Nat) (e : TypeId) (hB : B ≤ w.heap.size) : OI (w.alloc (.cells #[] e)) B e (.slice (some ⟨w.heap.size, 0, none⟩) 0 0) [] :=
  World.ownsRow_made w #[] 0 hB (Nat.zero_le _) rfl
theorem ownsRow_below {w w' : World} {B : Nat} {e : TypeId} {sz n : Nat} {v : Value} {vs : List Value} (h : w.ownsRow B e sz v n vs) (hb : Below w.heap.size w w') : w'.ownsRow B e sz v n vs := by
  refine ⟨h.1, ?_⟩
  rcases h.2 with hn | ⟨g, cap, cur, rfl, hB, hg, rest⟩
  · exact .inl hn
  · exact .inr ⟨g, cap, cur, rfl, hB, by rw [hb.block g (Array.getElem?_eq_some_iff.1 hg).1]; exact hg, rest⟩
theorem OI.below {w w' : World} {B : Nat} {e : TypeId} {v : Value} {xs : List Int} (h : OI w B e v xs) (hb : Below w.heap.size w w') : OI w' B e v xs := ownsRow_below h hb
theorem OI.drewN {w : World} {B : Nat} {e : TypeId} {v : Value} {xs : List Int} (h : OI w B e v xs) (n : Nat) : OI (w.drewN n) B e v xs := h
/-- what was handed back -/
theorem OI.form {w : World} {B : Nat} {e : TypeId} {v : Value} {xs : List Int} (h : OI w B e v xs) : ∃ A c, v = .slice A xs.length c ∧ xs.length ≤ c ∧ Own w B A (xs.map (Value.int .i64)) := by
  rcases h.2 with ⟨rfl, h0⟩ | ⟨g, cap, cur, rfl, hB, hg, hn, rest⟩
  · exact ⟨none, 0, by rw [h0], by omega, .inl (by rw [List.eq_nil_of_length_eq_zero h0]; rfl)⟩
  · exact ⟨_, cap, rfl, hn, Own.of_own h⟩

theorem wp_push {P : Program} {wr : World} {ops : Array Oper} {rest : List Oper} {o : Oper} {a : Act} {Q : Exit → Act → World → Prop} (hgd : o.guard = none) (s x : Operand) (t : TypeId)
    (ho : o.op = .call { callee := .builtin .append, args := #[s, x], argTypes := #[t, t] })
    {B e bytes : Nat} {z : Value} (ht : P.underlying t = some (.slice e)) (hinf : (P.info? e).map (fun i => (i.zero, i.size, i.bytes)) = some (some z, 1, bytes)) (hzs : z.cells.size = 1)
    {v : Value} {n : Nat} {xs : List Value} {u : Value} (hown : wr.ownsRow B e 1 v n xs) (hs : a.eval s = v) (hx : a.eval x = .slice (some ⟨wr.heap.size, 0, none⟩) 1 1) (hu : u.oneCell' = true)
    (hn : n ≤ 1099511627776) (hby : bytes ≤ 16) (hB : B ≤ wr.heap.size)
    (h : ∀ v' w', w'.ownsRow B e 1 v' (n + 1) (xs ++ [u]) → (∀ B', B' ≤ B → Below B' wr w') → wr.heap.size ≤ w'.heap.size → wpList P ops Q rest (a.put o.dst v') w') :
    wpList P ops Q (o :: rest) a (wr.alloc (.cells #[u] e)) := by
  obtain ⟨i, hi, hiz, his, hib⟩ := info_parts hinf
  have hbound : (n + 1) * bytes ≤ 140737488355328 := Nat.le_trans (Nat.mul_le_mul (show n + 1 ≤ 1099511627777 by omega) hby) (by omega)
  refine wpList_append_own _ hgd s x t ho B e i z 1 bytes ht hi hiz his hib hzs (by omega) v n xs hs (hown.alloc _) ⟨wr.heap.size, 0, none⟩ 1 1 [u] hx rfl ?_ ?_ (by simp only [maxLen]; omega) hbound (by rw [alloc_size]; omega) ?_
  · intro j y hj
    cases j with
    | zero =>
      simp only [List.getElem?_cons_zero, Option.some.injEq] at hj
      subst hj
      have : (⟨wr.heap.size, 0, none⟩ : Addr).add 0 = ⟨wr.heap.size, 0, none⟩ := rfl
      rw [this, cell_new]; rfl
    | succ j => simp at hj
  · intro y hy
    rw [List.mem_singleton.1 hy]; exact hu
  · intro v' w' h1 h2 _
    refine h v' w' h1 (fun B' hB' => ?_) ?_
    · have hb0 : Below B' wr (wr.alloc (.cells #[u] e)) := (Below.refl _ _).alloc (by omega) _
      refine hb0.grown h2 (by rw [alloc_size]; omega) ?_
      intro k hk
      have := (hown.lt k hk).1
      omega
    · have := h2.size
      rw [alloc_size] at this
      omega

theorem wp_pushI {P : Program} {wr : World} {ops : Array Oper} {rest : List Oper} {o : Oper} {a : Act} {Q : Exit → Act → World → Prop} (hgd : o.guard = none) (s x : Operand) (t : TypeId)
    (ho : o.op = .call { callee := .builtin .append, args := #[s, x], argTypes := #[t, t] })
    {B e : Nat} (ht : P.underlying t = some (.slice e)) (hinf : (P.info? e).map (fun i => (i.zero, i.size, i.bytes)) = some (some (.int .i64 0), 1, 8))
    {v : Value} {xs : List Int} {u : Int} (hown : OI wr B e v xs) (hs : a.eval s = v) (hx : a.eval x = .slice (some ⟨wr.heap.size, 0, none⟩) 1 1)
    (hn : xs.length ≤ 1099511627776) (hB : B ≤ wr.heap.size)
    (h : ∀ v' w', OI w' B e v' (xs ++ [u]) → (∀ B', B' ≤ B → Below B' wr w') → wr.heap.size ≤ w'.heap.size → wpList P ops Q rest (a.put o.dst v') w') :
    wpList P ops Q (o :: rest) a (wr.alloc (.cells #[.int .i64 u] e)) :=
  wp_push hgd s x t ho ht hinf rfl hown hs hx rfl hn (by omega) hB fun v' w' h1 h2 h3 => h v' w' (by unfold OI; simpa using h1) h2 h3
/-- it returns a slice of the integers xs, in memory from block B on -/
def RetI (B : Nat) (xs : List Int) (e : Ending) (w' : World) : Prop := ∃ A c, e = .returned (.slice A xs.length c) ∧ xs.length ≤ c ∧ Own w' B A (xs.map (Value.int .i64))
/-! the walk halts ahead of an operation -/
structure Stop (p : Prop) : Prop where
  go : p
theorem wpStop {P : Program} {ops : Array Oper} {rest : List Oper} {o : Oper} {a : Act} {w : World} {Q : Exit → Act → World → Prop} (h : Stop (wpList P ops Q (o :: rest) a w)) : wpList P ops Q (o :: rest) a w := h.go
/-! one operation by an equation of its run -/
section
variable {P : Program} {ops : Array Oper} {rest : List Oper} {o : Oper} {a : Act} {w w' : World} {Q : Exit → Act → World → Prop}
theorem wpList_alloc_as (hgd : o.guard = none) (ty : TypeId) (ho : o.op = .alloc ty) (v : Value) (hrun : (Instr.alloc ty true (.tuple #[])).run P w = .ok v w')
    (h : wpList P ops Q rest (a.put o.dst v) w') : wpList P ops Q (o :: rest) a w :=
  wpList_plain hgd fun _ hK => by
    unfold Oper.wp execOp
    simp only [ho, Sem.run_bind, hrun, Result.andThen_ok]
    exact hK _ _ h
theorem wpList_build_as (hgd : o.guard = none) (ty : TypeId) (parts : Array (Nat × Operand)) (ho : o.op = .build ty parts) (ps : List (Nat × Value)) (hps : (parts.toList.map fun p : Nat × Operand => (p.1, a.eval p.2)) = ps)
    (v : Value) (hrun : (Instr.build ty ps.toArray).run P w = .ok v w') (h : wpList P ops Q rest (a.put o.dst v) w') : wpList P ops Q (o :: rest) a w :=
  wpList_plain hgd fun _ hK => by
    have e : (parts.map fun (i, x) => (i, a.eval x)) = ps.toArray := by
      rw [← hps]; apply Array.ext'; rw [Array.toList_map]
    unfold Oper.wp execOp
    simp only [ho, e, Sem.run_bind, hrun, Result.andThen_ok]
    exact hK _ _ h
theorem wpList_store_as (hgd : o.guard = none) (ty : TypeId) (x y : Operand) (ho : o.op = .store ty x y) (X Y : Value) (hx : a.eval x = X) (hy : a.eval y = Y)
    (hrun : (Instr.storeAt ty X Y).run P w = .ok () w') (h : wpList P ops Q rest (a.put o.dst undef) w') : wpList P ops Q (o :: rest) a w :=
  wpList_plain hgd fun _ hK => by
    unfold Oper.wp execOp
    simp only [ho, hx, hy, Sem.run_bind, hrun, Result.andThen_ok]
    exact hK _ _ h
theorem wpList_load_as (hgd : o.guard = none) (ty : TypeId) (x : Operand) (ho : o.op = .load ty x) (X v : Value) (hx : a.eval x = X)
    (hrun : (Instr.loadAt ty X).run P w = .ok v w') (h : wpList P ops Q rest (a.put o.dst v) w') : wpList P ops Q (o :: rest) a w :=
  wpList_plain hgd fun _ hK => by
    unfold Oper.wp execOp
    simp only [ho, hx, Sem.run_bind, hrun, Result.andThen_ok]
    exact hK _ _ h
end
theorem grownBy_refl (w : World) (r : Option Nat) : w.grownBy w r := ⟨rfl, rfl, rfl, Nat.le_refl _, fun _ _ _ => rfl⟩
theorem grownBy_trans {a b c : World} {r : Option Nat} (h : a.grownBy b r) (k : b.grownBy c r) : a.grownBy c r :=
  ⟨k.os.trans h.os, k.tape.trans h.tape, k.output.trans h.output, Nat.le_trans h.size k.size, fun i hi hr => (k.block i (Nat.lt_of_lt_of_le hi h.size) hr).trans (h.block i hi hr)⟩
theorem grownBy_of_below {a b : World} (h : Below a.heap.size a b) (r : Option Nat) : a.grownBy b r := ⟨h.os, h.tape, h.output, h.size, fun i hi _ => h.block i hi⟩
theorem grownBy_drewN {a b : World} {r : Option Nat} (h : a.grownBy b r) (n : Nat) : a.grownBy (b.drewN n) r := ⟨h.os, h.tape, h.output, h.size, h.block⟩
theorem Below.of_grown {a b : World} {g B : Nat} (h : a.grownBy b (some g)) (hg : B ≤ g) (hB : B ≤ a.heap.size) : Below B a b :=
  ⟨h.os, h.tape, h.output, h.size, fun i hi => h.block i (by omega) (by intro e; injection e; omega)⟩
theorem Own.only {w w' : World} {B g : Nat} {A : Option Addr} {vs : List Value} (h : Own w B A vs) (hg : g < B) (hw : w.grownBy w' (some g)) : Own w' B A vs := by
  rcases h with h | ⟨g', off, hA, hB, hc⟩
  · exact .inl h
  · refine .inr ⟨g', off, hA, hB, fun j v hj => ?_⟩
    have hb := hw.block g' (World.block_lt_of_cell? w _ (hc j v hj).1) (by intro e; injection e; omega)
    exact ⟨(World.cell?_of_block (w := w) (a := ⟨g', off + j, none⟩) hb).trans (hc j v hj).1, (World.frozen?_of_block (w := w) (a := ⟨g', off + j, none⟩) hb).trans (hc j v hj).2⟩
theorem OI.only {w w' : World} {B g : Nat} {e : TypeId} {v : Value} {xs : List Int} (h : OI w B e v xs) (hg : g < B) (hw : w.grownBy w' (some g)) : OI w' B e v xs :=
  World.ownsRow.kept h hw (by
    rcases h.2 with ⟨rfl, _⟩ | ⟨g', cap, cur, rfl, hB, _⟩
    · exact .inl rfl
    · refine .inr ?_
      simp only [Value.ownBlock, ne_eq, Option.some.injEq]
      omega)
/-! a block that is known whole -/
def Blk (w : World) (g : Nat) (t : TypeId) (cs : Array Value) : Prop := w.heap[g]? = some (.cells cs t (0, 0))
section
variable {w w' : World} {g : Nat} {t : TypeId} {cs : Array Value}
theorem Blk.lt (h : Blk w g t cs) : g < w.heap.size := (Array.getElem?_eq_some_iff.1 h).1
theorem Blk.cell (h : Blk w g t cs) (i : Nat) : w.cell? ⟨g, i, none⟩ = cs[i]? := cell_of_row w g i cs t (0, 0) h
theorem Blk.frozen (h : Blk w g t cs) (i : Nat) : w.frozen? ⟨g, i, none⟩ = false := frozen_of_row w g i cs t h
theorem Blk.new (w : World) (t : TypeId) (cs : Array Value) : Blk (w.alloc (.cells cs t)) w.heap.size t cs := heap_alloc_new w _
theorem Blk.drewN (h : Blk w g t cs) (n : Nat) : Blk (w.drewN n) g t cs := h
theorem Blk.below {B : Nat} (h : Blk w g t cs) (hb : Below B w w') (hg : g < B) : Blk w' g t cs := (hb.block g hg).trans h
theorem Blk.keep (h : Blk w g t cs) (hb : Below w.heap.size w w') : Blk w' g t cs := (hb.block g h.lt).trans h
theorem Blk.only {g' : Nat} (h : Blk w g t cs) (hb : w.grownBy w' (some g')) (hne : g ≠ g') : Blk w' g t cs := (hb.block g h.lt (by intro e; injection e with e; exact hne e)).trans h
theorem Blk.set_ (h : Blk w g t cs) (i : Nat) (u : Value) : Blk (w.setCell ⟨g, i, none⟩ u) g t (cs.setIfInBounds i u) := heap_setCell_same w g i cs t u h
theorem only_setCell (w : World) (g i : Nat) (u : Value) : w.grownBy (w.setCell ⟨g, i, none⟩ u) (some g) :=
  ⟨rfl, rfl, rfl, by rw [setCell_size]; exact Nat.le_refl _, fun k _ hne => Below.heap_setCell _ _ _ _ (by intro e; exact hne (by rw [e]))⟩
end
section
variable {P : Program} {ops : Array Oper} {rest : List Oper} {o : Oper} {a : Act} {w : World} {Q : Exit → Act → World → Prop}
theorem wpList_alloc_blk (hgd : o.guard = none) (ty : TypeId) (ho : o.op = .alloc ty) (cs : Array Value) (hrun : (Instr.alloc ty true (.tuple #[])).run P w = .ok (.pointer (some ⟨w.heap.size, 0, none⟩)) (w.alloc (.cells cs ty)))
    (h : ∀ g w1, w.heap.size ≤ g → Blk w1 g ty cs → (∀ B, B ≤ w.heap.size → Below B w w1) → wpList P ops Q rest (a.put o.dst (.pointer (some ⟨g, 0, none⟩))) w1) : wpList P ops Q (o :: rest) a w :=
  wpList_alloc_as hgd ty ho _ hrun (h _ _ (Nat.le_refl _) (Blk.new _ _ _) fun _ hB => (Below.refl _ _).alloc hB _)
theorem wpList_store_blk (hgd : o.guard = none) (ty : TypeId) (x y : Operand) (ho : o.op = .store ty x y) {g : Nat} {old new : Array Value} (hx : a.eval x = .pointer (some ⟨g, 0, none⟩)) (hy : a.eval y = .agg new)
    (hg : Blk w g ty old) (hi : (P.info? ty).map (·.size) = some new.size) (hs : old.size = new.size) (h1 : new.all (·.oneCell') = true)
    (h : ∀ w1, Blk w1 g ty new → w.grownBy w1 (some g) → wpList P ops Q rest (a.put o.dst undef) w1) : wpList P ops Q (o :: rest) a w := by
  refine wpList_store_as hgd ty x y ho _ _ hx hy ?_ (h (w.setRow g new) (setRow_heap w g old new ty _ hg) ⟨rfl, rfl, rfl, by rw [size_setRow]; exact Nat.le_refl _, fun k _ hne => setRow_other w g k new (by intro e; exact hne (by rw [e]))⟩)
  simp only [Instr.storeAt, Instr.sureAddr, Sem.run_bind, Sem.run_pure, Result.andThen]
  exact run_storeVar_row w g ty ty old new hg hi hs h1
theorem wpList_load_blk (hgd : o.guard = none) (ty : TypeId) (x : Operand) (ho : o.op = .load ty x) {g : Nat} {cs : Array Value} {d : TypeDesc} (hx : a.eval x = .pointer (some ⟨g, 0, none⟩))
    (hg : Blk w g ty cs) (hu : P.underlying ty = some d) (hd : d.isRow = true) (hi : (P.info? ty).map (·.size) = some cs.size)
    (h : wpList P ops Q rest (a.put o.dst (.agg cs)) w) : wpList P ops Q (o :: rest) a w :=
  wpList_load_row hgd ty x ho g hx ty cs (0, 0) d hg hu (by cases d <;> simp_all) hi h
end
theorem results_row_tmp {P : Program} {fn : Func} {p u : Tmp} {ty : TypeId} (h : fn.results = #[.cell p ty, .tmp u]) (tmps : Array Value) {w : World} {g : Nat} {cs : Array Value} {d : TypeDesc}
    (hp : tmps.getD p undef = .pointer (some ⟨g, 0, none⟩)) (hg : Blk w g ty cs) (hu : P.underlying ty = some d) (hd : d.isRow = true) (hi : (P.info? ty).map (·.size) = some cs.size) :
    (results fn tmps).run P w = .ok (.tuple #[.agg cs, tmps.getD u undef]) w := by
  rw [results_cell_tmp h, hp]
  have hl := run_loadVar_row (P := P) w g ty ty cs (0, 0) d hg hu (by cases d <;> simp_all) hi
  simp only [asAddr, Sem.run_pure, Result.andThen, hl]
end Go.Proofs.YtfaidbngingjpaaDoor
