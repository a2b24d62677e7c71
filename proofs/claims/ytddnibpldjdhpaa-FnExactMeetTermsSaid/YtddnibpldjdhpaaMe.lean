/- Words for memory: rows of bytes, slices that read as lists. Over any program. -/
import Derived.WalkKit
import Derived.WalkSpells
import Derived.WalkLawsBesides
import Derived.Lib.Hide
import Derived.Lib.ConvBytes
import Derived.Test.YtddnibpldjdhpaaMa
namespace Go.Proofs.Ytddnibpldjdhpaa
open Go.RowKit

/-- block g holds the bytes l from its head on, and they may be written -/
def BytesAt (w : World) (g : Nat) (l : List UInt8) : Prop := ∀ j (h : j < l.length), w.cell? ⟨g, j, none⟩ = some (.int .u8 (l[j].toNat : Int)) ∧ w.frozen? ⟨g, j, none⟩ = false
theorem BytesAt.at_ {w : World} {g : Nat} {l : List UInt8} (h : BytesAt w g l) {j : Nat} {c : UInt8} (hj : l[j]? = some c) :
    w.cell? ⟨g, j, none⟩ = some (.int .u8 (c.toNat : Int)) ∧ w.frozen? ⟨g, j, none⟩ = false := by
  obtain ⟨hl, rfl⟩ := List.getElem?_eq_some_iff.1 hj
  exact h j hl
theorem BytesAt.set_ {w : World} {g : Nat} {l : List UInt8} (h : BytesAt w g l) (k : Nat) (c : UInt8) : BytesAt (w.setCell ⟨g, k, none⟩ (.int .u8 (c.toNat : Int))) g (l.set k c) := by
  intro j hj
  have hj' : j < l.length := by simpa using hj
  obtain ⟨h1, h2⟩ := h j hj'
  refine ⟨?_, ?_⟩
  · by_cases e : k = j
    · subst e
      simp only [List.getElem_set_self]
      unfold World.cell? at h1 ⊢
      simp only [World.setCell, Array.getElem?_modify] at h1 ⊢
      cases hb : w.heap[g]? with
      | none => simp [hb] at h1
      | some o =>
        cases o <;> simp [hb] at h1 ⊢
        simp [(Array.getElem?_eq_some_iff.1 h1).1]
    · rw [List.getElem_set_ne e, World.cell?_setCell_other _ _ _ _ (by intro x; injection x with _ x; exact e x), h1]
  · rw [World.frozen?_setCell]; exact h2
theorem BytesAt.keep {w w' : World} {g : Nat} {l : List UInt8} (h : BytesAt w g l) (e : w'.heap[g]? = w.heap[g]?) : BytesAt w' g l := fun j hj =>
  ⟨(World.cell?_of_block (w := w) (a := ⟨g, j, none⟩) e).trans (h j hj).1, (World.frozen?_of_block (w := w) (a := ⟨g, j, none⟩) e).trans (h j hj).2⟩
theorem BytesAt.drewN {w : World} {g : Nat} {l : List UInt8} (h : BytesAt w g l) (n : Nat) : BytesAt (w.drewN n) g l := h
theorem drewN_size (w : World) (n : Nat) : (w.drewN n).heap.size = w.heap.size := rfl
theorem setCell_size (w : World) (a : Addr) (v : Value) : (w.setCell a v).heap.size = w.heap.size := by simp [World.setCell]

/-- []byte(s) -/
theorem conv_bytes {P : Program} (w : World) (src dst e : TypeId) (s : ByteArray) (hs : P.underlying src = some .string) (hd : P.underlying dst = some (.slice e)) (he : P.underlying e = some (.int .u8)) :
    ∃ (c : Nat) (W1 : World), (convert src dst (.string s)).run P w = .ok (.slice (some ⟨w.heap.size, 0, none⟩) s.size c) W1 ∧ Below w.heap.size w W1 ∧ w.heap.size < W1.heap.size ∧ Hid (BytesAt W1 w.heap.size s.data.toList) := by
  refine ⟨_, _, Lib.run_convert_string_bytes w src dst e s hs hd he, ⟨?_, ?_, ?_, ?_, fun k hk => Lib.bytesWorld_at_old w e s k hk⟩, ?_, Lib.hid fun j hj => ⟨?_, ?_⟩⟩
  · simp [Lib.bytesWorld, World.freeze, World.alloc, World.drew, -World.alloc_eq, -World.drew_eq]
  · simp [Lib.bytesWorld, World.freeze, World.alloc, World.drew, -World.alloc_eq, -World.drew_eq]
  · simp [Lib.bytesWorld, World.freeze, World.alloc, World.drew, -World.alloc_eq, -World.drew_eq]
  · rw [Lib.bytesWorld_size]; omega
  · rw [Lib.bytesWorld_size]; omega
  · have hj' : j < s.size := by simpa using hj
    rw [Lib.bytesWorld_cell w e s j hj']
    simp [List.getD, hj']
  · have hj' : j < s.size := by simpa using hj
    simp only [World.frozen?, Lib.bytesWorld_at_new]
    simp [Lib.bytesCells]
    omega
/-- string(b) -/
theorem conv_back {P : Program} (w : World) (src dst e : TypeId) (g n c : Nat) (l : List UInt8) (hn : n = l.length) (hs : P.underlying src = some (.slice e)) (he : P.underlying e = some (.int .u8)) (hd : P.underlying dst = some .string)
    (h : BytesAt w g l) : (convert src dst (.slice (some ⟨g, 0, none⟩) n c)).run P w = .ok (.string ⟨l.toArray⟩) w := by
  subst hn
  refine run_convert_bytes_back w src dst e _ c l hs he hd fun j hj => ?_
  have : (⟨g, 0, none⟩ : Addr).add j = ⟨g, j, none⟩ := by unfold Addr.add; split <;> simp_all
  rw [this]
  exact (h j hj).1
end Go.Proofs.Ytddnibpldjdhpaa
