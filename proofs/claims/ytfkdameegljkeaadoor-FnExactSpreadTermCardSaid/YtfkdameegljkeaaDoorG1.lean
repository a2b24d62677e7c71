/- Walks and plain facts, joined: Ma Me La Mb Mc Mn Mt Wt Wh Ws Wk. -/
import Derived.WalkKit
import Derived.WalkSpells
import Derived.WalkLawsBesides
import Derived.Lib.Hide
import Derived.Lib.ConvBytes
import Derived.Deep.QuietTactic
import Derived.Deep.WholeRow
import Derived.Deep.MidRow
import Derived.Laws.ResultCell
import Derived.Test.YtfkdameegljkeaaDoorRows
import Derived.ProofKit
import Derived.OpenShut
import Derived.ShutString
import Derived.ChangeOld
import Derived.Below
import Derived.Lib.SplitLaws
import Derived.Test.YtfkdameegljkeaaDoorProg
import Derived.BigQuiet
/- Plain lemmas on bytes, lists and terms; no program is in sight. -/
namespace Go.Proofs.YtfkdameegljkeaaDoor
open Go.RowKit

theorem take_snoc (s : ByteArray) (k : Nat) (h : k < s.size) : s.data.toList.take (k + 1) = s.data.toList.take k ++ [s[k]] := by
  rw [List.take_succ_eq_append_getElem (by simpa using h)]; rfl
theorem ret_bool {a b : Bool} (h : a = b) : Ending.returned (.bool a) = .returned (.bool b) := by rw [h]
theorem ret_int {k : IntKind} {a b : Int} (h : a = b) : Ending.returned (.int k a) = .returned (.int k b) := by rw [h]
theorem val_bool {a b : Bool} (h : a = b) : Value.bool a = .bool b := by rw [h]
theorem val_int {k : IntKind} {a b : Int} (h : a = b) : Value.int k a = .int k b := by rw [h]

/-- the bytes '0', '1' and '*' -/
def okc (c : UInt8) : Bool := c.toNat == 48 || c.toNat == 49 || c.toNat == 42
/-- what TermValid answers -/
def TV (l : List UInt8) (n : Int) : Bool := decide (1 ≤ n) && decide (n ≤ 5) && decide ((l.length : Int) = n) && l.all okc
theorem TV_lo {l : List UInt8} {n : Int} (h : n < 1) : TV l n = false := by simp [TV]; omega
theorem TV_hi {l : List UInt8} {n : Int} (h : 5 < n) : TV l n = false := by simp [TV]; omega
theorem TV_ne {l : List UInt8} {n : Int} (h : ¬ (l.length : Int) = n) : TV l n = false := by simp [TV]; omega
theorem TV_all {l : List UInt8} {n : Int} (h1 : ¬ n < 1) (h5 : ¬ 5 < n) (h : (l.length : Int) = n) : TV l n = l.all okc := by
  simp [TV, h, show 1 ≤ n by omega, show n ≤ 5 by omega]
theorem TV_bad {l : List UInt8} {n : Int} (h : l.all okc = false) : TV l n = false := by simp [TV, h]
theorem TV_true {l : List UInt8} {n : Int} (h : TV l n = true) : 1 ≤ n ∧ n ≤ 5 ∧ (l.length : Int) = n ∧ ∀ c ∈ l, okc c = true := by
  simp [TV] at h; exact ⟨h.1.1.1, h.1.1.2, h.1.2, h.2⟩
theorem all_take_bad {p : UInt8 → Bool} {s : ByteArray} {k : Nat} (h : k < s.size) (hp : p s[k] = false) : s.data.toList.all p = false := by
  have hm : s[k] ∈ s.data.toList := by
    have : s[k] = s.data.toList[k]'(by simpa using h) := rfl
    rw [this]; exact List.getElem_mem _
  by_cases hh : s.data.toList.all p = true
  · have := List.all_eq_true.1 hh _ hm; rw [this] at hp; cases hp
  · simpa using hh
theorem all_take_snoc {p : UInt8 → Bool} {s : ByteArray} {k : Nat} (h : k < s.size) (ha : (s.data.toList.take k).all p = true) (hp : p s[k] = true) :
    (s.data.toList.take (k + 1)).all p = true := by
  rw [take_snoc s k h, List.all_append, ha]; simp [hp]
theorem take_all (s : ByteArray) : s.data.toList.take s.size = s.data.toList := List.take_of_length_le (by simp)
theorem okc_of {c : UInt8} (h : c.toNat = 48 ∨ c.toNat = 49 ∨ c.toNat = 42) : okc c = true := by rcases h with h | h | h <;> simp [okc, h]
theorem okc_not {c : UInt8} (h0 : ¬ c.toNat = 48) (h1 : ¬ c.toNat = 49) (h2 : ¬ c.toNat = 42) : okc c = false := by simp [okc, h0, h1, h2]

/-- where a byte stands, or -1 -/
def findB (l : List UInt8) (c : Int) : Int := match l with
  | [] => -1
  | x :: r => if (x.toNat : Int) = c then 0 else if findB r c < 0 then -1 else findB r c + 1
theorem findB_ge (l : List UInt8) (c : Int) : -1 ≤ findB l c ∧ findB l c < l.length := by
  induction l with
  | nil => simp [findB]
  | cons x r ih =>
    simp only [findB, List.length_cons]
    split
    · omega
    · split <;> omega
theorem findB_append (a b : List UInt8) (c : Int) (h : ∀ x ∈ a, ¬ (x.toNat : Int) = c) :
    findB (a ++ b) c = if findB b c < 0 then -1 else findB b c + a.length := by
  induction a with
  | nil =>
    have := findB_ge b c
    simp
    omega
  | cons x r ih =>
    have ih' := ih (fun y hy => h y (List.mem_cons_of_mem _ hy))
    have hx := h x List.mem_cons_self
    have := findB_ge b c
    simp only [List.cons_append, findB, hx, if_false, ih', List.length_cons]
    by_cases hb : findB b c < 0
    · simp [hb]
    · simp only [hb, if_false]; rw [if_neg (by omega)]; omega
theorem findB_none (a : List UInt8) (c : Int) (h : ∀ x ∈ a, ¬ (x.toNat : Int) = c) : findB a c = -1 := by
  have := findB_append a [] c h; simpa [findB] using this
theorem findB_at {s : ByteArray} {k : Nat} {c : Int} (hk : k < s.size) (h : ∀ x ∈ s.data.toList.take k, ¬ (x.toNat : Int) = c) (hc : (s[k].toNat : Int) = c) :
    findB s.data.toList c = k := by
  have e : s.data.toList = s.data.toList.take k ++ (s[k] :: s.data.toList.drop (k + 1)) := by
    have : s[k] = s.data.toList[k]'(by simpa using hk) := rfl
    rw [this, List.getElem_cons_drop, List.take_append_drop]
  rw [e, findB_append _ _ _ h]
  have hl : (s.data.toList.take k).length = k := by rw [List.length_take]; have : s.data.toList.length = s.size := by simp
                                                    omega
  simp [findB, hc, hl]
theorem not_mem_take_snoc {s : ByteArray} {k : Nat} {c : Int} (hk : k < s.size) (h : ∀ x ∈ s.data.toList.take k, ¬ (x.toNat : Int) = c) (hc : ¬ (s[k].toNat : Int) = c) :
    ∀ x ∈ s.data.toList.take (k + 1), ¬ (x.toNat : Int) = c := by
  rw [take_snoc s k hk]
  intro x hx
  rcases List.mem_append.1 hx with hx | hx
  · exact h x hx
  · simp at hx; rw [hx]; exact hc
theorem find_cons (x : UInt8) (r : List UInt8) (c : Int) : findB (x :: r) c = if (x.toNat : Int) = c then 0 else if findB r c < 0 then -1 else findB r c + 1 := rfl
theorem find_term (c : UInt8) : findB [42, 48, 49] (c.toNat : Int) < 0 ↔ okc c = false := by
  have e42 : (((42 : UInt8).toNat : Nat) : Int) = 42 := rfl
  have e48 : (((48 : UInt8).toNat : Nat) : Int) = 48 := rfl
  have e49 : (((49 : UInt8).toNat : Nat) : Int) = 49 := rfl
  have h3 : findB [] (c.toNat : Int) = -1 := rfl
  have h2 := find_cons 49 [] (c.toNat : Int)
  have h1 := find_cons 48 [49] (c.toNat : Int)
  have h0 := find_cons 42 [48, 49] (c.toNat : Int)
  rw [h3, e49] at h2
  rw [e48] at h1
  rw [e42] at h0
  have ho : okc c = false ↔ ¬ (c.toNat = 48 ∨ c.toNat = 49 ∨ c.toNat = 42) := by
    rw [← Bool.not_eq_true]; simp [okc]; omega
  rw [ho]
  split at h0 <;> split at h1 <;> split at h2 <;> (try split at h0) <;> (try split at h1) <;> omega

/-- MeetTerms, byte by byte -/
def meetC (c d : UInt8) : Option UInt8 := if c.toNat = 42 then some d else if d.toNat = 42 ∨ d = c then some c else none
def meetL : List UInt8 → List UInt8 → Option (List UInt8)
  | c :: t, d :: u => match meetC c d, meetL t u with
    | some x, some r => some (x :: r)
    | _, _ => none
  | _, _ => some []
theorem meetL_snoc (t u p : List UInt8) (c d x : UInt8) (hl : t.length = u.length) (h : meetL t u = some p) (hx : meetC c d = some x) :
    meetL (t ++ [c]) (u ++ [d]) = some (p ++ [x]) := by
  induction t generalizing u p with
  | nil =>
    have : u = [] := List.eq_nil_of_length_eq_zero (by simpa using hl.symm)
    subst this
    simp only [meetL, Option.some.injEq] at h
    subst h
    simp [meetL, hx]
  | cons a t ih =>
    cases u with
    | nil => simp at hl
    | cons b u =>
      simp only [meetL, List.cons_append] at h ⊢
      cases hab : meetC a b with
      | none => simp [hab] at h
      | some y =>
        cases htu : meetL t u with
        | none => simp [hab, htu] at h
        | some r =>
          simp only [hab, htu, Option.some.injEq] at h
          subst h
          rw [ih u r (by simpa using hl) htu]
          simp
theorem meetL_none (t u : List UInt8) (k : Nat) (ht : k < t.length) (hu : k < u.length) (h : meetC t[k] u[k] = none) : meetL t u = none := by
  induction t generalizing u k with
  | nil => simp at ht
  | cons a t ih =>
    cases u with
    | nil => simp at hu
    | cons b u =>
      cases k with
      | zero =>
        simp only [List.getElem_cons_zero] at h
        simp [meetL, h]
      | succ k =>
        simp only [List.getElem_cons_succ] at h
        simp only [meetL]
        rw [ih u k (by simpa using ht) (by simpa using hu) h]
        cases meetC a b <;> rfl
theorem meetL_length (t u p : List UInt8) (hl : t.length = u.length) (h : meetL t u = some p) : p.length = t.length := by
  induction t generalizing u p with
  | nil => cases u <;> simp [meetL] at h <;> simp [h]
  | cons a t ih =>
    cases u with
    | nil => simp at hl
    | cons b u =>
      simp only [meetL] at h
      cases hab : meetC a b with
      | none => simp [hab] at h
      | some y =>
        cases htu : meetL t u with
        | none => simp [hab, htu] at h
        | some r =>
          simp only [hab, htu, Option.some.injEq] at h
          subst h
          simp [ih u r (by simpa using hl) htu]
/-- what MeetTerms answers: the text, and whether there is one -/
def MT (t u : List UInt8) : Option (List UInt8) := if TV t t.length && TV u t.length then meetL t u else none
def optT (o : Option (List UInt8)) : Value := .tuple #[.string ⟨(o.getD []).toArray⟩, .bool o.isSome]
theorem MT_no1 {t u : List UInt8} (h : TV t t.length = false) : MT t u = none := by simp [MT, h]
theorem MT_no2 {t u : List UInt8} (h : TV u t.length = false) : MT t u = none := by simp [MT, h]
theorem MT_yes {t u : List UInt8} (h1 : TV t t.length = true) (h2 : TV u t.length = true) : MT t u = meetL t u := by simp [MT, h1, h2]
theorem str_append (a b : List UInt8) : (⟨a.toArray⟩ : ByteArray) ++ ⟨b.toArray⟩ = ⟨(a ++ b).toArray⟩ := by
  apply ByteArray.ext; simp
theorem str_ext1 (p : List UInt8) (u : ByteArray) (k : Nat) (h : k < u.size) : (⟨p.toArray⟩ : ByteArray) ++ u.extract k (k + 1) = ⟨(p ++ [u[k]]).toArray⟩ := by
  apply ByteArray.ext
  apply Array.ext'
  simp only [ByteArray.data_append, Array.toList_append, ByteArray.data_extract, Array.toList_extract, List.extract_eq_take_drop]
  congr 1
  have hd : (u.data.toList.drop k).take 1 = [u[k]] := by
    rw [List.drop_eq_getElem_cons (by simpa using h)]
    rfl
  rw [show k + 1 - k = 1 by omega, hd]
theorem meet_step {t u : ByteArray} {k : Nat} {p : List UInt8} {x : UInt8} (ht : k < t.size) (hu : k < u.size) (h : meetL (t.data.toList.take k) (u.data.toList.take k) = some p)
    (hx : meetC t[k] u[k] = some x) : meetL (t.data.toList.take (k + 1)) (u.data.toList.take (k + 1)) = some (p ++ [x]) := by
  rw [take_snoc t k ht, take_snoc u k hu]
  have h1 : t.data.toList.length = t.size := by simp
  have h2 : u.data.toList.length = u.size := by simp
  exact meetL_snoc _ _ _ _ _ _ (by rw [List.length_take, List.length_take]; omega) h hx
theorem meet_stop {t u : ByteArray} {k : Nat} (ht : k < t.size) (hu : k < u.size) (h : meetC t[k] u[k] = none) : meetL t.data.toList u.data.toList = none :=
  meetL_none _ _ k (by simpa using ht) (by simpa using hu) h
theorem meet_len {t u : ByteArray} {k : Nat} {p : List UInt8} (ht : k ≤ t.size) (hu : k ≤ u.size) (h : meetL (t.data.toList.take k) (u.data.toList.take k) = some p) : p.length = k := by
  have h1 : t.data.toList.length = t.size := by simp
  have h2 : u.data.toList.length = u.size := by simp
  rw [meetL_length _ _ _ (by rw [List.length_take, List.length_take]; omega) h, List.length_take]; omega
theorem meetC_a {c d : UInt8} (h : (c.toNat : Int) = 42) : meetC c d = some d := by simp [meetC, show c.toNat = 42 by omega]
theorem meetC_b {c d : UInt8} (h : ¬ (c.toNat : Int) = 42) (h2 : (d.toNat : Int) = 42) : meetC c d = some c := by simp [meetC, show ¬ c.toNat = 42 by omega, show d.toNat = 42 by omega]
theorem meetC_c {c d : UInt8} (h : ¬ (c.toNat : Int) = 42) (h2 : (d.toNat : Int) = c.toNat) : meetC c d = some c := by
  have : d = c := UInt8.toNat_inj.1 (by omega)
  simp [meetC, show ¬ c.toNat = 42 by omega, this]
theorem meetC_d {c d : UInt8} (h : ¬ (c.toNat : Int) = 42) (h1 : ¬ (d.toNat : Int) = 42) (h2 : ¬ (d.toNat : Int) = c.toNat) : meetC c d = none := by
  have : ¬ d = c := fun e => h2 (by rw [e])
  simp [meetC, show ¬ c.toNat = 42 by omega, show ¬ d.toNat = 42 by omega, this]
end Go.Proofs.YtfkdameegljkeaaDoor

/- Words for memory: rows of bytes, slices that read as lists. Over any program. -/
namespace Go.Proofs.YtfkdameegljkeaaDoor
open Go.RowKit

/-- block g holds the bytes l from its head on, and they may be written -/
def BytesAt (w : World) (g : Nat) (l : List UInt8) : Prop := ∀ j (h : j < l.length), w.cell? ⟨g, j, none⟩ = some (.int .u8 (l[j].toNat : Int)) ∧ w.frozen? ⟨g, j, none⟩ = false
theorem BytesAt.at_ {w : World} {g : Nat} {l : List UInt8} (h : BytesAt w g l) {j : Nat} {c : UInt8} (hj : l[j]? = some c) :
    w.cell? ⟨g, j, none⟩ = some (.int .u8 (c.toNat : Int)) ∧ w.frozen? ⟨g, j, none⟩ = false := by
  obtain ⟨hl, rfl⟩ := List.getElem?_eq_some_iff.1 hj
  exact h j hl
theorem BytesAt.set_ {w : World} {g : Nat} {l : List UInt8} (h : BytesAt w g l) (k : Nat) (c : UInt8) : BytesAt (w.setCell ⟨g, k, none⟩ (.int .u8 (c.toNat : Int))) g (l.set k c) := by
  intro j hj
  have hj' : j < l.length := by simpa using hj
  obtain ⟨h1, h2⟩ := h j hj'
  refine ⟨?_, ?_⟩
  · by_cases e : k = j
    · subst e
      simp only [List.getElem_set_self]
      unfold World.cell? at h1 ⊢
      simp only [World.setCell, Array.getElem?_modify] at h1 ⊢
      cases hb : w.heap[g]? with
      | none => simp [hb] at h1
      | some o =>
        cases o <;> simp [hb] at h1 ⊢
        simp [(Array.getElem?_eq_some_iff.1 h1).1]
    · rw [List.getElem_set_ne e, World.cell?_setCell_other _ _ _ _ (by intro x; injection x with _ x; exact e x), h1]
  · rw [World.frozen?_setCell]; exact h2
theorem BytesAt.keep {w w' : World} {g : Nat} {l : List UInt8} (h : BytesAt w g l) (e : w'.heap[g]? = w.heap[g]?) : BytesAt w' g l := fun j hj =>
  ⟨(World.cell?_of_block (w := w) (a := ⟨g, j, none⟩) e).trans (h j hj).1, (World.frozen?_of_block (w := w) (a := ⟨g, j, none⟩) e).trans (h j hj).2⟩
theorem BytesAt.drewN {w : World} {g : Nat} {l : List UInt8} (h : BytesAt w g l) (n : Nat) : BytesAt (w.drewN n) g l := h
theorem cell_setCell_same {w : World} {a : Addr} {u v : Value} (h : w.cell? a = some v) : (w.setCell a u).cell? a = some u := by
  obtain ⟨g, k, sp⟩ := a
  unfold World.cell? at h ⊢
  simp only [World.setCell, Array.getElem?_modify] at h ⊢
  cases hb : w.heap[g]? with
  | none => simp [hb] at h
  | some o =>
    cases o <;> simp [hb] at h ⊢
    obtain ⟨rfl, h⟩ := h
    simp [(Array.getElem?_eq_some_iff.1 h).1]
theorem drewN2 (w : World) (a b : Nat) : (w.drewN a).drewN b = w.drewN (a + b) := by simp [World.drewN, Nat.add_assoc]
theorem drewN_below {B : Nat} (w : World) (n : Nat) : Below B w (w.drewN n) := below_drewN (Below.refl _ _) n
theorem drewN_size (w : World) (n : Nat) : (w.drewN n).heap.size = w.heap.size := rfl
theorem setCell_size (w : World) (a : Addr) (v : Value) : (w.setCell a v).heap.size = w.heap.size := by simp [World.setCell]

/-! a quiet call inside a region that draws its order; the contracts here say 'w = w'' -/
theorem quiet_left {P : Program} {f : FuncId} {args : Array Value} {w : World} {n : Nat} {v : Value}
    (h : Calls P f args (w.drewN n) fun e w' => e = .returned v ∧ w.drewN n = w') : Calls P f args (w.drewN n) fun e w' => e = .returned v ∧ ∃ m, w' = w.drewN m :=
  h.mono fun _ _ ⟨he, hm⟩ => ⟨he, n, hm.symm⟩
theorem quiet_left2 {P : Program} {f : FuncId} {args : Array Value} {w : World} {n : Nat} {v : Value}
    (h : Calls P f args (w.drewN n) fun e w' => e = .returned v ∧ ∃ m, (w.drewN n).drewN m = w') : Calls P f args (w.drewN n) fun e w' => e = .returned v ∧ ∃ m, w' = w.drewN m :=
  h.mono fun _ _ ⟨he, m, hm⟩ => ⟨he, n + m, by rw [← hm, drewN2]⟩
theorem quiet_add_left {P : Program} {f : FuncId} {args : Array Value} {w : World} {a n : Nat} {v : Value}
    (h : Calls P f args (w.drewN (a + n)) fun e w' => e = .returned v ∧ w.drewN (a + n) = w') :
    Calls P f args (w.drewN (a + n)) fun e w' => e = .returned v ∧ ∃ m, w' = w.drewN (a + m) :=
  h.mono fun _ _ ⟨he, hm⟩ => ⟨he, n, hm.symm⟩
/-- []byte(s) -/
theorem conv_bytes {P : Program} (w : World) (src dst e : TypeId) (s : ByteArray) (hs : P.underlying src = some .string) (hd : P.underlying dst = some (.slice e)) (he : P.underlying e = some (.int .u8)) :
    ∃ (c : Nat) (W1 : World), (convert src dst (.string s)).run P w = .ok (.slice (some ⟨w.heap.size, 0, none⟩) s.size c) W1 ∧ Below w.heap.size w W1 ∧ w.heap.size < W1.heap.size ∧ Hid (BytesAt W1 w.heap.size s.data.toList) := by
  refine ⟨_, _, Lib.run_convert_string_bytes w src dst e s hs hd he, ⟨?_, ?_, ?_, ?_, fun k hk => Lib.bytesWorld_at_old w e s k hk⟩, ?_, Lib.hid fun j hj => ⟨?_, ?_⟩⟩
  · simp [Lib.bytesWorld, World.freeze, World.alloc, World.drew, -World.alloc_eq, -World.drew_eq]
  · simp [Lib.bytesWorld, World.freeze, World.alloc, World.drew, -World.alloc_eq, -World.drew_eq]
  · simp [Lib.bytesWorld, World.freeze, World.alloc, World.drew, -World.alloc_eq, -World.drew_eq]
  · rw [Lib.bytesWorld_size]; omega
  · rw [Lib.bytesWorld_size]; omega
  · have hj' : j < s.size := by simpa using hj
    rw [Lib.bytesWorld_cell w e s j hj']
    simp [List.getD, hj']
  · have hj' : j < s.size := by simpa using hj
    simp only [World.frozen?, Lib.bytesWorld_at_new]
    simp [Lib.bytesCells]
    omega
/-- string(b) -/
theorem conv_back {P : Program} (w : World) (src dst e : TypeId) (g n c : Nat) (l : List UInt8) (hn : n = l.length) (hs : P.underlying src = some (.slice e)) (he : P.underlying e = some (.int .u8)) (hd : P.underlying dst = some .string)
    (h : BytesAt w g l) : (convert src dst (.slice (some ⟨g, 0, none⟩) n c)).run P w = .ok (.string ⟨l.toArray⟩) w := by
  subst hn
  refine run_convert_bytes_back w src dst e _ c l hs he hd fun j hj => ?_
  have : (⟨g, 0, none⟩ : Addr).add j = ⟨g, j, none⟩ := by unfold Addr.add; split <;> simp_all
  rw [this]
  exact (h j hj).1
/-- make([]byte, n), make([]int, n): an equation for every world -/
theorem make_row {P : Program} {t e : TypeId} {z : Value} {bytes : Nat} (ht : P.underlying t = some (.slice e)) (hinf : (P.info? e).map (fun i => (i.zero, i.size, i.bytes)) = some (some z, 1, bytes)) (hz : z.cells = #[z])
    (n : Nat) (hb : bytes * n ≤ 281474976710656) (hn : n ≤ 9223372036854775807) (w : World) :
    (Instr.makeSlice t (.int .i64 (n : Int)) (.int .i64 (n : Int))).run P w = .ok (.slice (some ⟨w.heap.size, 0, none⟩) n n) (w.alloc (.cells (Array.replicate n z) e)) := by
  obtain ⟨i, hi, hiz, his, hib⟩ := info_parts hinf
  have hb' : (i.bytes : Int) * (n : Int) ≤ 281474976710656 := by
    have h : ((i.bytes * n : Nat) : Int) ≤ 281474976710656 := by rw [hib]; omega
    rwa [Int.natCast_mul] at h
  have hr := run_make (P := P) w t e i z ht hi hiz .i64 .i64 n n (by omega) (by omega) hb' (by omega)
  simp only [Int.toNat_natCast, his, Nat.mul_one, hz] at hr
  rw [hr]
  have e : madeCells #[z] n = Array.replicate n z := by
    apply Array.ext
    · simp [madeCells]
    · intro i h1 h2
      simp only [madeCells, Array.getElem_map, Array.getElem_replicate]
      simp [Nat.mod_one]
  rw [e]
/-- a new block -/
theorem cell_new (w : World) (C : Array Value) (e : TypeId) (j : Nat) : (w.alloc (.cells C e)).cell? ⟨w.heap.size, j, none⟩ = C[j]? := by
  rw [cell_of_row _ _ j C e (0, 0) (heap_alloc_new w _)]
theorem frozen_new (w : World) (C : Array Value) (e : TypeId) (j : Nat) : (w.alloc (.cells C e)).frozen? ⟨w.heap.size, j, none⟩ = false := by
  have := heap_alloc_new w (.cells C e)
  unfold World.frozen?
  rw [this]
  simp
theorem BytesAt.made (w : World) (n : Nat) (e : TypeId) : BytesAt (w.alloc (.cells (Array.replicate n (.int .u8 0)) e)) w.heap.size (List.replicate n 0) := by
  intro j hj
  have hj' : j < n := by simpa using hj
  exact ⟨by rw [cell_new]; simp [hj'], frozen_new _ _ _ _⟩
theorem alloc_size (w : World) (o : Obj) : (w.alloc o).heap.size = w.heap.size + 1 := by simp
/-! Slices: the address A leads to the cells vs. -/
def Rd (w : World) (A : Option Addr) (vs : List Value) : Prop :=
  vs = [] ∨ ∃ g off, A = some ⟨g, off, none⟩ ∧ ∀ j v, vs[j]? = some v → w.cell? ⟨g, off + j, none⟩ = some v
/-- ... in a block from B on, and they may be written -/
def Own (w : World) (B : Nat) (A : Option Addr) (vs : List Value) : Prop :=
  vs = [] ∨ ∃ g off, A = some ⟨g, off, none⟩ ∧ B ≤ g ∧ ∀ j v, vs[j]? = some v → w.cell? ⟨g, off + j, none⟩ = some v ∧ w.frozen? ⟨g, off + j, none⟩ = false
section
variable {w w' : World} {B B' : Nat} {A : Option Addr} {vs : List Value}
theorem Rd.nil (w : World) (A : Option Addr) : Rd w A [] := .inl rfl
theorem Own.nil (w : World) (B : Nat) (A : Option Addr) : Own w B A [] := .inl rfl
theorem Own.rd (h : Own w B A vs) : Rd w A vs := by
  rcases h with h | ⟨g, off, hA, _, hc⟩
  · exact .inl h
  · exact .inr ⟨g, off, hA, fun j v hj => (hc j v hj).1⟩
theorem Own.mono (h : Own w B A vs) (hB : B' ≤ B) : Own w B' A vs := by
  rcases h with h | ⟨g, off, hA, hg, hc⟩
  · exact .inl h
  · exact .inr ⟨g, off, hA, Nat.le_trans hB hg, hc⟩
theorem Rd.below (h : Rd w A vs) (hb : Below w.heap.size w w') : Rd w' A vs := by
  rcases h with h | ⟨g, off, hA, hc⟩
  · exact .inl h
  · exact .inr ⟨g, off, hA, fun j v hj => (hb.cell (World.block_lt_of_cell? w _ (hc j v hj))).trans (hc j v hj)⟩
theorem Own.below (h : Own w B A vs) (hb : Below w.heap.size w w') : Own w' B A vs := by
  rcases h with h | ⟨g, off, hA, hg, hc⟩
  · exact .inl h
  · refine .inr ⟨g, off, hA, hg, fun j v hj => ?_⟩
    have hlt := World.block_lt_of_cell? w _ (hc j v hj).1
    exact ⟨(hb.cell hlt).trans (hc j v hj).1, (hb.frozen hlt).trans (hc j v hj).2⟩
theorem Rd.at_ {k : Nat} {v : Value} (h : Rd w A vs) (hk : vs[k]? = some v) : ∃ g off, A = some ⟨g, off, none⟩ ∧ w.cell? ⟨g, off + k, none⟩ = some v := by
  rcases h with h | ⟨g, off, hA, hc⟩
  · subst h; simp at hk
  · exact ⟨g, off, hA, hc k v hk⟩
theorem Own.at_ {k : Nat} {v : Value} (h : Own w B A vs) (hk : vs[k]? = some v) : ∃ g off, A = some ⟨g, off, none⟩ ∧ B ≤ g ∧ w.cell? ⟨g, off + k, none⟩ = some v ∧ w.frozen? ⟨g, off + k, none⟩ = false := by
  rcases h with h | ⟨g, off, hA, hg, hc⟩
  · subst h; simp at hk
  · exact ⟨g, off, hA, hg, hc k v hk⟩
theorem Rd.int {k : IntKind} {xs : List Int} {j : Nat} (h : Rd w A (xs.map (Value.int k))) (hj : j < xs.length) : ∃ g off, A = some ⟨g, off, none⟩ ∧ w.cell? ⟨g, off + j, none⟩ = some (.int k xs[j]) :=
  h.at_ (by simp [hj])
theorem Own.int {k : IntKind} {xs : List Int} {j : Nat} (h : Own w B A (xs.map (Value.int k))) (hj : j < xs.length) : ∃ g off, A = some ⟨g, off, none⟩ ∧ B ≤ g ∧ w.cell? ⟨g, off + j, none⟩ = some (.int k xs[j]) ∧ w.frozen? ⟨g, off + j, none⟩ = false :=
  h.at_ (by simp [hj])
theorem Rd.str {xs : List ByteArray} {j : Nat} (h : Rd w A (xs.map Value.string)) (hj : j < xs.length) : ∃ g off, A = some ⟨g, off, none⟩ ∧ w.cell? ⟨g, off + j, none⟩ = some (.string xs[j]) :=
  h.at_ (by simp [hj])
theorem Rd.cell {g off k : Nat} {v : Value} (h : Rd w (some ⟨g, off, none⟩) vs) (hk : vs[k]? = some v) : w.cell? ⟨g, off + k, none⟩ = some v := by
  obtain ⟨g', off', hA, hc⟩ := h.at_ hk
  injection hA with hA
  injection hA with h1 h2
  subst h1; subst h2
  exact hc
theorem Own.cell {g off k : Nat} {v : Value} (h : Own w B (some ⟨g, off, none⟩) vs) (hk : vs[k]? = some v) : w.cell? ⟨g, off + k, none⟩ = some v ∧ w.frozen? ⟨g, off + k, none⟩ = false := by
  obtain ⟨g', off', hA, _, hc⟩ := h.at_ hk
  injection hA with hA
  injection hA with h1 h2
  subst h1; subst h2
  exact hc
theorem Own.made (w : World) (n : Nat) (z : Value) (e : TypeId) {vs : List Value} (hv : vs = List.replicate n z) : Own (w.alloc (.cells (Array.replicate n z) e)) w.heap.size (some ⟨w.heap.size, 0, none⟩) vs := by
  subst hv
  refine .inr ⟨_, 0, rfl, Nat.le_refl _, fun j v hj => ?_⟩
  rw [Nat.zero_add, cell_new, frozen_new]
  refine ⟨?_, rfl⟩
  rw [List.getElem?_replicate] at hj
  split at hj
  · rename_i h; simpa [h] using hj
  · cases hj
theorem Own.lit (w : World) (e : TypeId) (vs : List Value) {B : Nat} (hB : B ≤ w.heap.size) : Own (w.alloc (.cells vs.toArray e)) B (some ⟨w.heap.size, 0, none⟩) vs := by
  refine .inr ⟨_, 0, rfl, hB, fun j v hj => ?_⟩
  rw [Nat.zero_add, cell_new, frozen_new]
  exact ⟨by simpa using hj, rfl⟩
/-- what is owned by the append laws' word is owned by this one -/
theorem Own.of_own {e : TypeId} {n c : Nat} (h : w.ownsRow B e 1 (.slice A n c) n vs) : Own w B A vs := by
  rcases h.2 with ⟨hv, rfl⟩ | ⟨g, cap, cur, hv, hB, hg, hn, _, hsz, htake⟩
  · left; exact List.eq_nil_of_length_eq_zero (by simpa using h.1)
  · injection hv with hA _ _
    refine .inr ⟨g, 0, hA, hB, fun j v hj => ?_⟩
    rw [Nat.zero_add, cell_of_row w g j cur e (0, 0) hg]
    refine ⟨?_, by simp [World.frozen?, hg]⟩
    rw [← htake, List.getElem?_take] at hj
    split at hj
    · simpa using hj
    · cases hj
/-- a store at the place k -/
theorem Own.set_ {k : Nat} {v u : Value} {g off : Nat} (h : Own w B (some ⟨g, off, none⟩) vs) (hk : vs[k]? = some v) :
    Own (w.setCell ⟨g, off + k, none⟩ u) B (some ⟨g, off, none⟩) (vs.set k u) := by
  rcases h with h | ⟨g', off', hA, hg, hc⟩
  · subst h; simp at hk
  · injection hA with hA
    injection hA with h1 h2
    subst h1; subst h2
    refine .inr ⟨g, off, rfl, hg, fun j x hj => ?_⟩
    rw [World.frozen?_setCell]
    rw [List.getElem?_set] at hj
    split at hj
    · subst k
      split at hj
      · injection hj with hj
        subst hj
        exact ⟨cell_setCell_same (hc j v hk).1, (hc j v hk).2⟩
      · cases hj
    · rename_i hne
      rw [World.cell?_setCell_other _ _ _ _ (by intro x; injection x with _ x; omega)]
      exact hc j x hj
end

/-! append of one element to a row of the call's own -/
/-- the value v is the call's own slice of the integers xs -/
def OI (w : World) (B : Nat) (e : TypeId) (v : Value) (xs : List Int) : Prop := w.ownsRow B e 1 v xs.length (xs.map (Value.int .i64))
theorem OI.nil (w : World) (B : Nat) (e : TypeId) : OI w B e (.slice none 0 0) [] := World.ownsRow_nil w B e 1
theorem OI.empty (w : World) (B : Nat) (e : TypeId) (hB : B ≤ w.heap.size) : OI (w.alloc (.cells #[] e)) B e (.slice (some ⟨w.heap.size, 0, none⟩) 0 0) [] :=
  World.ownsRow_made w #[] 0 hB (Nat.zero_le _) rfl
theorem ownsRow_below {w w' : World} {B : Nat} {e : TypeId} {sz n : Nat} {v : Value} {vs : List Value} (h : w.ownsRow B e sz v n vs) (hb : Below w.heap.size w w') : w'.ownsRow B e sz v n vs := by
  refine ⟨h.1, ?_⟩
  rcases h.2 with hn | ⟨g, cap, cur, rfl, hB, hg, rest⟩
  · exact .inl hn
  · exact .inr ⟨g, cap, cur, rfl, hB, by rw [hb.block g (Array.getElem?_eq_some_iff.1 hg).1]; exact hg, rest⟩
theorem OI.below {w w' : World} {B : Nat} {e : TypeId} {v : Value} {xs : List Int} (h : OI w B e v xs) (hb : Below w.heap.size w w') : OI w' B e v xs := ownsRow_below h hb
theorem OI.drewN {w : World} {B : Nat} {e : TypeId} {v : Value} {xs : List Int} (h : OI w B e v xs) (n : Nat) : OI (w.drewN n) B e v xs := h
/-- what was handed back -/
theorem OI.form {w : World} {B : Nat} {e : TypeId} {v : Value} {xs : List Int} (h : OI w B e v xs) : ∃ A c, v = .slice A xs.length c ∧ xs.length ≤ c ∧ Own w B A (xs.map (Value.int .i64)) := by
  rcases h.2 with ⟨rfl, h0⟩ | ⟨g, cap, cur, rfl, hB, hg, hn, rest⟩
  · exact ⟨none, 0, by rw [h0], by omega, .inl (by rw [List.eq_nil_of_length_eq_zero h0]; rfl)⟩
  · exact ⟨_, cap, rfl, hn, Own.of_own h⟩

theorem wp_push {P : Program} {wr : World} {ops : Array Oper} {rest : List Oper} {o : Oper} {a : Act} {Q : Exit → Act → World → Prop} (hgd : o.guard = none) (s x : Operand) (t : TypeId)
    (ho : o.op = .call { callee := .builtin .append, args := #[s, x], argTypes := #[t, t] })
    {B e bytes : Nat} {z : Value} (ht : P.underlying t = some (.slice e)) (hinf : (P.info? e).map (fun i => (i.zero, i.size, i.bytes)) = some (some z, 1, bytes)) (hzs : z.cells.size = 1)
    {v : Value} {n : Nat} {xs : List Value} {u : Value} (hown : wr.ownsRow B e 1 v n xs) (hs : a.eval s = v) (hx : a.eval x = .slice (some ⟨wr.heap.size, 0, none⟩) 1 1) (hu : u.oneCell' = true)
    (hn : n ≤ 1099511627776) (hby : bytes ≤ 16) (hB : B ≤ wr.heap.size)
    (h : ∀ v' w', w'.ownsRow B e 1 v' (n + 1) (xs ++ [u]) → (∀ B', B' ≤ B → Below B' wr w') → wr.heap.size ≤ w'.heap.size → wpList P ops Q rest (a.put o.dst v') w') :
    wpList P ops Q (o :: rest) a (wr.alloc (.cells #[u] e)) := by
  obtain ⟨i, hi, hiz, his, hib⟩ := info_parts hinf
  have hbound : (n + 1) * bytes ≤ 140737488355328 := Nat.le_trans (Nat.mul_le_mul (show n + 1 ≤ 1099511627777 by omega) hby) (by omega)
  refine wpList_append_own _ hgd s x t ho B e i z 1 bytes ht hi hiz his hib hzs (by omega) v n xs hs (hown.alloc _) ⟨wr.heap.size, 0, none⟩ 1 1 [u] hx rfl ?_ ?_ (by simp only [maxLen]; omega) hbound (by rw [alloc_size]; omega) ?_
  · intro j y hj
    cases j with
    | zero =>
      simp only [List.getElem?_cons_zero, Option.some.injEq] at hj
      subst hj
      have : (⟨wr.heap.size, 0, none⟩ : Addr).add 0 = ⟨wr.heap.size, 0, none⟩ := rfl
      rw [this, cell_new]; rfl
    | succ j => simp at hj
  · intro y hy
    rw [List.mem_singleton.1 hy]; exact hu
  · intro v' w' h1 h2 _
    refine h v' w' h1 (fun B' hB' => ?_) ?_
    · have hb0 : Below B' wr (wr.alloc (.cells #[u] e)) := (Below.refl _ _).alloc (by omega) _
      refine hb0.grown h2 (by rw [alloc_size]; omega) ?_
      intro k hk
      have := (hown.lt k hk).1
      omega
    · have := h2.size
      rw [alloc_size] at this
      omega

theorem wp_pushI {P : Program} {wr : World} {ops : Array Oper} {rest : List Oper} {o : Oper} {a : Act} {Q : Exit → Act → World → Prop} (hgd : o.guard = none) (s x : Operand) (t : TypeId)
    (ho : o.op = .call { callee := .builtin .append, args := #[s, x], argTypes := #[t, t] })
    {B e : Nat} (ht : P.underlying t = some (.slice e)) (hinf : (P.info? e).map (fun i => (i.zero, i.size, i.bytes)) = some (some (.int .i64 0), 1, 8))
    {v : Value} {xs : List Int} {u : Int} (hown : OI wr B e v xs) (hs : a.eval s = v) (hx : a.eval x = .slice (some ⟨wr.heap.size, 0, none⟩) 1 1)
    (hn : xs.length ≤ 1099511627776) (hB : B ≤ wr.heap.size)
    (h : ∀ v' w', OI w' B e v' (xs ++ [u]) → (∀ B', B' ≤ B → Below B' wr w') → wr.heap.size ≤ w'.heap.size → wpList P ops Q rest (a.put o.dst v') w') :
    wpList P ops Q (o :: rest) a (wr.alloc (.cells #[.int .i64 u] e)) :=
  wp_push hgd s x t ho ht hinf rfl hown hs hx rfl hn (by omega) hB fun v' w' h1 h2 h3 => h v' w' (by unfold OI; simpa using h1) h2 h3
/-- it returns a slice of the integers xs, in memory from block B on -/
def RetI (B : Nat) (xs : List Int) (e : Ending) (w' : World) : Prop := ∃ A c, e = .returned (.slice A xs.length c) ∧ xs.length ≤ c ∧ Own w' B A (xs.map (Value.int .i64))
/-! the walk halts ahead of an operation -/
structure Stop (p : Prop) : Prop where
  go : p
theorem wpStop {P : Program} {ops : Array Oper} {rest : List Oper} {o : Oper} {a : Act} {w : World} {Q : Exit → Act → World → Prop} (h : Stop (wpList P ops Q (o :: rest) a w)) : wpList P ops Q (o :: rest) a w := h.go
/-! one operation by an equation of its run -/
section
variable {P : Program} {ops : Array Oper} {rest : List Oper} {o : Oper} {a : Act} {w w' : World} {Q : Exit → Act → World → Prop}
theorem wpList_alloc_as (hgd : o.guard = none) (ty : TypeId) (ho : o.op = .alloc ty) (v : Value) (hrun : (Instr.alloc ty true (.tuple #[])).run P w = .ok v w')
    (h : wpList P ops Q rest (a.put o.dst v) w') : wpList P ops Q (o :: rest) a w :=
  wpList_plain hgd fun _ hK => by
    unfold Oper.wp execOp
    simp only [ho, Sem.run_bind, hrun, Result.andThen_ok]
    exact hK _ _ h
theorem wpList_build_as (hgd : o.guard = none) (ty : TypeId) (parts : Array (Nat × Operand)) (ho : o.op = .build ty parts) (ps : List (Nat × Value)) (hps : (parts.toList.map fun p : Nat × Operand => (p.1, a.eval p.2)) = ps)
    (v : Value) (hrun : (Instr.build ty ps.toArray).run P w = .ok v w') (h : wpList P ops Q rest (a.put o.dst v) w') : wpList P ops Q (o :: rest) a w :=
  wpList_plain hgd fun _ hK => by
    have e : (parts.map fun (i, x) => (i, a.eval x)) = ps.toArray := by
      rw [← hps]; apply Array.ext'; rw [Array.toList_map]
    unfold Oper.wp execOp
    simp only [ho, e, Sem.run_bind, hrun, Result.andThen_ok]
    exact hK _ _ h
theorem wpList_store_as (hgd : o.guard = none) (ty : TypeId) (x y : Operand) (ho : o.op = .store ty x y) (X Y : Value) (hx : a.eval x = X) (hy : a.eval y = Y)
    (hrun : (Instr.storeAt ty X Y).run P w = .ok () w') (h : wpList P ops Q rest (a.put o.dst undef) w') : wpList P ops Q (o :: rest) a w :=
  wpList_plain hgd fun _ hK => by
    unfold Oper.wp execOp
    simp only [ho, hx, hy, Sem.run_bind, hrun, Result.andThen_ok]
    exact hK _ _ h
theorem wpList_load_as (hgd : o.guard = none) (ty : TypeId) (x : Operand) (ho : o.op = .load ty x) (X v : Value) (hx : a.eval x = X)
    (hrun : (Instr.loadAt ty X).run P w = .ok v w') (h : wpList P ops Q rest (a.put o.dst v) w') : wpList P ops Q (o :: rest) a w :=
  wpList_plain hgd fun _ hK => by
    unfold Oper.wp execOp
    simp only [ho, hx, Sem.run_bind, hrun, Result.andThen_ok]
    exact hK _ _ h
end
theorem grownBy_refl (w : World) (r : Option Nat) : w.grownBy w r := ⟨rfl, rfl, rfl, Nat.le_refl _, fun _ _ _ => rfl⟩
theorem grownBy_trans {a b c : World} {r : Option Nat} (h : a.grownBy b r) (k : b.grownBy c r) : a.grownBy c r :=
  ⟨k.os.trans h.os, k.tape.trans h.tape, k.output.trans h.output, Nat.le_trans h.size k.size, fun i hi hr => (k.block i (Nat.lt_of_lt_of_le hi h.size) hr).trans (h.block i hi hr)⟩
theorem grownBy_of_below {a b : World} (h : Below a.heap.size a b) (r : Option Nat) : a.grownBy b r := ⟨h.os, h.tape, h.output, h.size, fun i hi _ => h.block i hi⟩
theorem grownBy_drewN {a b : World} {r : Option Nat} (h : a.grownBy b r) (n : Nat) : a.grownBy (b.drewN n) r := ⟨h.os, h.tape, h.output, h.size, h.block⟩
theorem Below.of_grown {a b : World} {g B : Nat} (h : a.grownBy b (some g)) (hg : B ≤ g) (hB : B ≤ a.heap.size) : Below B a b :=
  ⟨h.os, h.tape, h.output, h.size, fun i hi => h.block i (by omega) (by intro e; injection e; omega)⟩
theorem Own.only {w w' : World} {B g : Nat} {A : Option Addr} {vs : List Value} (h : Own w B A vs) (hg : g < B) (hw : w.grownBy w' (some g)) : Own w' B A vs := by
  rcases h with h | ⟨g', off, hA, hB, hc⟩
  · exact .inl h
  · refine .inr ⟨g', off, hA, hB, fun j v hj => ?_⟩
    have hb := hw.block g' (World.block_lt_of_cell? w _ (hc j v hj).1) (by intro e; injection e; omega)
    exact ⟨(World.cell?_of_block (w := w) (a := ⟨g', off + j, none⟩) hb).trans (hc j v hj).1, (World.frozen?_of_block (w := w) (a := ⟨g', off + j, none⟩) hb).trans (hc j v hj).2⟩
theorem OI.only {w w' : World} {B g : Nat} {e : TypeId} {v : Value} {xs : List Int} (h : OI w B e v xs) (hg : g < B) (hw : w.grownBy w' (some g)) : OI w' B e v xs :=
  World.ownsRow.kept h hw (by
    rcases h.2 with ⟨rfl, _⟩ | ⟨g', cap, cur, rfl, hB, _⟩
    · exact .inl rfl
    · refine .inr ?_
      simp only [Value.ownBlock, ne_eq, Option.some.injEq]
      omega)
/-! a block that is known whole -/
def Blk (w : World) (g : Nat) (t : TypeId) (cs : Array Value) : Prop := w.heap[g]? = some (.cells cs t (0, 0))
section
variable {w w' : World} {g : Nat} {t : TypeId} {cs : Array Value}
theorem Blk.lt (h : Blk w g t cs) : g < w.heap.size := (Array.getElem?_eq_some_iff.1 h).1
theorem Blk.cell (h : Blk w g t cs) (i : Nat) : w.cell? ⟨g, i, none⟩ = cs[i]? := cell_of_row w g i cs t (0, 0) h
theorem Blk.frozen (h : Blk w g t cs) (i : Nat) : w.frozen? ⟨g, i, none⟩ = false := frozen_of_row w g i cs t h
theorem Blk.new (w : World) (t : TypeId) (cs : Array Value) : Blk (w.alloc (.cells cs t)) w.heap.size t cs := heap_alloc_new w _
theorem Blk.drewN (h : Blk w g t cs) (n : Nat) : Blk (w.drewN n) g t cs := h
theorem Blk.below {B : Nat} (h : Blk w g t cs) (hb : Below B w w') (hg : g < B) : Blk w' g t cs := (hb.block g hg).trans h
theorem Blk.keep (h : Blk w g t cs) (hb : Below w.heap.size w w') : Blk w' g t cs := (hb.block g h.lt).trans h
theorem Blk.only {g' : Nat} (h : Blk w g t cs) (hb : w.grownBy w' (some g')) (hne : g ≠ g') : Blk w' g t cs := (hb.block g h.lt (by intro e; injection e with e; exact hne e)).trans h
theorem Blk.set_ (h : Blk w g t cs) (i : Nat) (u : Value) : Blk (w.setCell ⟨g, i, none⟩ u) g t (cs.setIfInBounds i u) := heap_setCell_same w g i cs t u h
theorem only_setCell (w : World) (g i : Nat) (u : Value) : w.grownBy (w.setCell ⟨g, i, none⟩ u) (some g) :=
  ⟨rfl, rfl, rfl, by rw [setCell_size]; exact Nat.le_refl _, fun k _ hne => Below.heap_setCell _ _ _ _ (by intro e; exact hne (by rw [e]))⟩
end
section
variable {P : Program} {ops : Array Oper} {rest : List Oper} {o : Oper} {a : Act} {w : World} {Q : Exit → Act → World → Prop}
theorem wpList_alloc_blk (hgd : o.guard = none) (ty : TypeId) (ho : o.op = .alloc ty) (cs : Array Value) (hrun : (Instr.alloc ty true (.tuple #[])).run P w = .ok (.pointer (some ⟨w.heap.size, 0, none⟩)) (w.alloc (.cells cs ty)))
    (h : ∀ g w1, w.heap.size ≤ g → Blk w1 g ty cs → (∀ B, B ≤ w.heap.size → Below B w w1) → wpList P ops Q rest (a.put o.dst (.pointer (some ⟨g, 0, none⟩))) w1) : wpList P ops Q (o :: rest) a w :=
  wpList_alloc_as hgd ty ho _ hrun (h _ _ (Nat.le_refl _) (Blk.new _ _ _) fun _ hB => (Below.refl _ _).alloc hB _)
theorem wpList_store_blk (hgd : o.guard = none) (ty : TypeId) (x y : Operand) (ho : o.op = .store ty x y) {g : Nat} {old new : Array Value} (hx : a.eval x = .pointer (some ⟨g, 0, none⟩)) (hy : a.eval y = .agg new)
    (hg : Blk w g ty old) (hi : (P.info? ty).map (·.size) = some new.size) (hs : old.size = new.size) (h1 : new.all (·.oneCell') = true)
    (h : ∀ w1, Blk w1 g ty new → w.grownBy w1 (some g) → wpList P ops Q rest (a.put o.dst undef) w1) : wpList P ops Q (o :: rest) a w := by
  refine wpList_store_as hgd ty x y ho _ _ hx hy ?_ (h (w.setRow g new) (setRow_heap w g old new ty _ hg) ⟨rfl, rfl, rfl, by rw [size_setRow]; exact Nat.le_refl _, fun k _ hne => setRow_other w g k new (by intro e; exact hne (by rw [e]))⟩)
  simp only [Instr.storeAt, Instr.sureAddr, Sem.run_bind, Sem.run_pure, Result.andThen]
  exact run_storeVar_row w g ty ty old new hg hi hs h1
theorem wpList_load_blk (hgd : o.guard = none) (ty : TypeId) (x : Operand) (ho : o.op = .load ty x) {g : Nat} {cs : Array Value} {d : TypeDesc} (hx : a.eval x = .pointer (some ⟨g, 0, none⟩))
    (hg : Blk w g ty cs) (hu : P.underlying ty = some d) (hd : d.isRow = true) (hi : (P.info? ty).map (·.size) = some cs.size)
    (h : wpList P ops Q rest (a.put o.dst (.agg cs)) w) : wpList P ops Q (o :: rest) a w :=
  wpList_load_row hgd ty x ho g hx ty cs (0, 0) d hg hu (by cases d <;> simp_all) hi h
end
theorem results_row_tmp {P : Program} {fn : Func} {p u : Tmp} {ty : TypeId} (h : fn.results = #[.cell p ty, .tmp u]) (tmps : Array Value) {w : World} {g : Nat} {cs : Array Value} {d : TypeDesc}
    (hp : tmps.getD p undef = .pointer (some ⟨g, 0, none⟩)) (hg : Blk w g ty cs) (hu : P.underlying ty = some d) (hd : d.isRow = true) (hi : (P.info? ty).map (·.size) = some cs.size) :
    (results fn tmps).run P w = .ok (.tuple #[.agg cs, tmps.getD u undef]) w := by
  rw [results_cell_tmp h, hp]
  have hl := run_loadVar_row (P := P) w g ty ty cs (0, 0) d hg hu (by cases d <;> simp_all) hi
  simp only [asAddr, Sem.run_pure, Result.andThen, hl]
end Go.Proofs.YtfkdameegljkeaaDoor

/- What every row's step needs. -/
namespace Go.Proofs.YtfkdameegljkeaaDoor
open Go.RowKit
theorem own : ownKnob Tryd.prog.godebug = none := by kernel_rfl
theorem laidOut : laidOutB Tryd.prog = true := by kernel_rfl
/-- what the walk is told of a slice of integers that came in: it is nil, or it leads to a row of 'cap' cells -/
def IsRow (k : IntKind) (w : World) (a : Option Addr) (len cap : Nat) (zs : List Int) : Prop :=
  (a = none ∧ len = 0 ∧ cap = 0 ∧ zs = []) ∨
  ∃ x, a = some x ∧ len ≤ cap ∧ cap ≤ maxLen ∧ zs.length = cap ∧ (∀ i, i < zs.length → w.cell? (x.add i) = some (.int k (zs.getD i 0))) ∧ ∀ n ∈ zs, (Lit.int k n).wf = true
theorem IsRow.rdk {k : IntKind} {w : World} {a : Option Addr} {len cap : Nat} {zs : List Int} (h : IsRow k w a len cap zs) :
    ∃ xs : List Int, xs.length = len ∧ Rd w a (xs.map (Value.int k)) ∧ (∀ x ∈ xs, (Lit.int k x).wf = true) ∧ len ≤ cap ∧ cap ≤ maxLen := by
  rcases h with ⟨rfl, rfl, rfl, rfl⟩ | ⟨x, rfl, hl, hm, hz, hc, hw⟩
  · exact ⟨[], rfl, .inl rfl, by simp, Nat.le_refl _, Nat.zero_le _⟩
  · refine ⟨zs.take len, by rw [List.length_take]; omega, ?_, fun x hx => hw x (List.mem_of_mem_take hx), hl, hm⟩
    by_cases h0 : len = 0
    · subst h0; exact .inl rfl
    · have hx := hc 0 (by omega)
      have hs := World.cell?_spot hx
      obtain ⟨b, o, sp⟩ := x
      have hs2 : sp = none := by simpa [Addr.add] using hs
      subst hs2
      refine .inr ⟨b, o, rfl, fun j v hj => ?_⟩
      rw [List.getElem?_map] at hj
      rw [List.getElem?_take] at hj
      split at hj
      · rename_i hjl
        have h2 := hc j (by omega)
        rw [show (⟨b, o, none⟩ : Addr).add j = ⟨b, o + j, none⟩ by unfold Addr.add; split <;> simp_all] at h2
        rw [h2, ← hj]
        have hjz : j < zs.length := by omega
        simp [List.getD, hjz]
      · cases hj
theorem wf_u8 {x : Int} (h : (Lit.int .u8 x).wf = true) : 0 ≤ x ∧ x < 256 := by
  simp [Lit.wf, IntKind.min, IntKind.max, IntKind.bits, IntKind.signed] at h
  omega
end Go.Proofs.YtfkdameegljkeaaDoor

/- Plain lemmas on states, their digits, the states of a term, hulls. No program is in sight. -/
namespace Go.Proofs.YtfkdameegljkeaaDoor
open Go.RowKit

/-- the digit i of a state -/
def bit (s i : Nat) : Nat := s / 2 ^ i % 2
theorem bit_lt (s i : Nat) : bit s i < 2 := Nat.mod_lt _ (by omega)
theorem bit_01 (s i : Nat) : bit s i = 0 ∨ bit s i = 1 := by have := bit_lt s i; omega
theorem bit_testBit (s i : Nat) : bit s i = (s.testBit i).toNat := by
  rw [bit, Nat.testBit_eq_decide_div_mod_eq]
  have : s / 2 ^ i % 2 < 2 := Nat.mod_lt _ (by omega)
  by_cases h : s / 2 ^ i % 2 = 1
  · simp [h]
  · simp [h]; omega

theorem and_one (x : Nat) (hx : x < 9223372036854775808) : bits .and .i64 (x : Int) 1 = ((x % 2 : Nat) : Int) := by
  have h1 : (BitVec.ofInt 64 (x : Int)).toNat = x := by
    rw [BitVec.ofInt_natCast, BitVec.toNat_ofNat]; exact Nat.mod_eq_of_lt (by omega)
  show IntKind.i64.wrap ((BitVec.ofInt 64 (x : Int) &&& BitVec.ofInt 64 1).toNat : Int) = _
  rw [BitVec.toNat_and, h1]
  have h2 : (BitVec.ofInt 64 1).toNat = 1 := rfl
  rw [h2, Nat.and_one_is_mod, IntKind.wrap_i64]
  omega
/-- 's>>i & 1' as the walk writes it -/
theorem bit_and (s i : Nat) (hs : s < 9223372036854775808) : bits .and .i64 ((s : Int) / 2 ^ i) 1 = (bit s i : Int) := by
  have e : ((s : Int) / 2 ^ i) = ((s / 2 ^ i : Nat) : Int) := by simp
  rw [e, and_one _ (Nat.lt_of_le_of_lt (Nat.div_le_self _ _) hs)]
  rfl
theorem two_le (n : Nat) (h : n ≤ 5) : 2 ^ n ≤ 32 := by
  have : 2 ^ n ≤ 2 ^ 5 := Nat.pow_le_pow_right (by omega) h
  omega
theorem wrap64_small (N : Nat) (h : N ≤ 32) : wrap64 (N : Int) = (N : Int) := by unfold wrap64; omega
theorem wrap_two (n : Nat) (h : n ≤ 5) : ∃ N : Nat, Hid (N = 2 ^ n) ∧ wrap64 ((2 : Int) ^ n) = (N : Int) ∧ N ≤ 32 ∧ 0 < N := by
  refine ⟨2 ^ n, rfl, ?_, two_le n h, Nat.two_pow_pos n⟩
  have h1 : ((2 : Int) ^ n) = ((2 ^ n : Nat) : Int) := by simp
  rw [h1]
  exact wrap64_small _ (two_le n h)
/-- the bytes of a term or a state are digits or '*' -/
def chr (d : Nat) : UInt8 := UInt8.ofNat (48 + d)
theorem chr_toNat (d : Nat) (h : d < 10) : (chr d).toNat = 48 + d := by rw [chr, UInt8.toNat_ofNat']; omega
def dig (s i : Nat) : UInt8 := chr (bit s i)
theorem dig_toNat (s i : Nat) : (dig s i).toNat = 48 + bit s i := chr_toNat _ (by have := bit_lt s i; omega)
/-- what FormatState writes -/
def fmtL (s n : Nat) : List UInt8 := (List.range n).map (dig s)
theorem fmtL_length (s n : Nat) : (fmtL s n).length = n := by simp [fmtL]
theorem fmtL_succ (s n : Nat) : fmtL s (n + 1) = fmtL s n ++ [dig s n] := by simp [fmtL, List.range_succ]
theorem fmtL_get (s n i : Nat) (h : i < n) : (fmtL s n)[i]? = some (dig s i) := by simp [fmtL, h]

/-- whether a byte of a term lets a digit be -/
def fits (c : UInt8) (b : Nat) : Bool := c.toNat == 42 || c.toNat == 48 + b
/-- whether a state is one of a term: the bytes from the place i on -/
def hasF : List UInt8 → Nat → Nat → Bool
  | [], _, _ => true
  | c :: r, i, s => fits c (bit s i) && hasF r (i + 1) s
def hasS (l : List UInt8) (s : Nat) : Bool := hasF l 0 s
theorem hasF_snoc (l : List UInt8) (c : UInt8) (i s : Nat) : hasF (l ++ [c]) i s = (hasF l i s && fits c (bit s (i + l.length))) := by
  induction l generalizing i with
  | nil => simp [hasF]
  | cons a r ih => simp only [List.cons_append, hasF, ih, List.length_cons, Bool.and_assoc]; rw [show i + 1 + r.length = i + (r.length + 1) by omega]
theorem hasF_bad (l : List UInt8) (i s k : Nat) (h : k < l.length) (hb : fits l[k] (bit s (i + k)) = false) : hasF l i s = false := by
  induction l generalizing i k with
  | nil => simp at h
  | cons a r ih =>
    cases k with
    | zero => simp only [List.getElem_cons_zero, Nat.add_zero] at hb; simp [hasF, hb]
    | succ k =>
      simp only [List.getElem_cons_succ] at hb
      rw [show i + (k + 1) = i + 1 + k by omega] at hb
      simp [hasF, ih (i + 1) k (by simpa using h) hb]
theorem hasS_step {t : ByteArray} {s k : Nat} (hk : k < t.size) (h : hasS (t.data.toList.take k) s = true) (hf : fits t[k] (bit s k) = true) : hasS (t.data.toList.take (k + 1)) s = true := by
  rw [take_snoc t k hk]
  unfold hasS at h ⊢
  have hl : (t.data.toList.take k).length = k := by rw [List.length_take]; have : t.data.toList.length = t.size := by simp
                                                    omega
  rw [hasF_snoc, h, hl, Nat.zero_add, hf]; rfl
theorem hasS_stop {t : ByteArray} {s k : Nat} (hk : k < t.size) (hf : fits t[k] (bit s k) = false) : hasS t.data.toList s = false := by
  refine hasF_bad _ 0 s k (by simpa using hk) ?_
  rw [Nat.zero_add]; exact hf

/-- the numbers below N that are chosen, in ascending order -/
def sel (N : Nat) (p : Nat → Bool) : List Nat := (List.range N).filter p
theorem sel_yes {k : Nat} {p : Nat → Bool} (h : p k = true) : sel (k + 1) p = sel k p ++ [k] := by simp [sel, List.range_succ, h]
theorem sel_no {k : Nat} {p : Nat → Bool} (h : p k = false) : sel (k + 1) p = sel k p := by simp [sel, List.range_succ, h]
theorem sel_len (N : Nat) (p : Nat → Bool) : (sel N p).length ≤ N := by have := List.length_filter_le p (List.range N); simpa [sel] using this
def ints (l : List Nat) : List Int := l.map fun s : Nat => (s : Int)
theorem ints_length (l : List Nat) : (ints l).length = l.length := by simp [ints]
theorem ints_append (a b : List Nat) : ints (a ++ b) = ints a ++ ints b := by simp [ints]
theorem sel_yesI {k : Nat} {p : Nat → Bool} (h : p k = true) : ints (sel (k + 1) p) = ints (sel k p) ++ [(k : Int)] := by rw [sel_yes h, ints_append]; rfl
theorem sel_noI {k : Nat} {p : Nat → Bool} (h : p k = false) : ints (sel (k + 1) p) = ints (sel k p) := by rw [sel_no h]
set_option maxHeartbeats 400000 in
def stL (l : List UInt8) : List Nat := sel (2 ^ l.length) (hasS l)

/-- what StatesOf answers -/
def STL (l : List UInt8) : List Nat := if TV l l.length then stL l else []
/-- one state more in a hull -/
def hullC (c : UInt8) (b : Nat) : UInt8 := if fits c b then c else 42
def hullS (o : List UInt8) (s : Nat) : List UInt8 := o.mapIdx fun i c => hullC c (bit s i)
theorem hullS_length (o : List UInt8) (s : Nat) : (hullS o s).length = o.length := by simp [hullS]
theorem hullS_get (o : List UInt8) (s i : Nat) (h : i < o.length) : (hullS o s)[i]'(by rw [hullS_length]; exact h) = hullC o[i] (bit s i) := by simp [hullS]
/-- the hull's round: the places before i are done -/
def hullTo (o : List UInt8) (s i : Nat) : List UInt8 := (hullS o s).take i ++ o.drop i
theorem hullTo_zero (o : List UInt8) (s : Nat) : hullTo o s 0 = o := by simp [hullTo]
theorem hullTo_end (o : List UInt8) (s i : Nat) (h : o.length ≤ i) : hullTo o s i = hullS o s := by
  rw [hullTo, List.take_of_length_le (by rw [hullS_length]; omega), List.drop_of_length_le h, List.append_nil]
theorem hullTo_length (o : List UInt8) (s i : Nat) : (hullTo o s i).length = o.length := by
  simp [hullTo, hullS_length]; omega
theorem hullTo_get (o : List UInt8) (s i : Nat) (h : i < o.length) : (hullTo o s i)[i]? = some o[i] := by
  have hl : ((hullS o s).take i).length = i := by rw [List.length_take, hullS_length]; omega
  rw [hullTo, List.getElem?_append_right (by omega), hl, Nat.sub_self, List.getElem?_drop, Nat.add_zero]
  exact List.getElem?_eq_getElem h
theorem hullTo_succ (o : List UInt8) (s i : Nat) (h : i < o.length) : hullTo o s (i + 1) = (hullTo o s i).set i (hullC o[i] (bit s i)) := by
  have hl : ((hullS o s).take i).length = i := by rw [List.length_take, hullS_length]; omega
  unfold hullTo
  rw [List.set_append_right _ _ (by omega), hl, Nat.sub_self, List.drop_eq_getElem_cons h, List.set_cons_zero,
    List.take_succ_eq_append_getElem (by rw [hullS_length]; exact h), hullS_get o s i h]
  simp
theorem hullTo_keep (o : List UInt8) (s i : Nat) (h : i < o.length) (hf : fits o[i] (bit s i) = true) : hullTo o s (i + 1) = hullTo o s i := by
  rw [hullTo_succ o s i h]
  have : hullC o[i] (bit s i) = o[i] := by simp [hullC, hf]
  rw [this]
  have hg := hullTo_get o s i h
  apply List.ext_getElem?
  intro j
  rw [List.getElem?_set]
  split
  · subst j; rw [hg]; split
    · rfl
    · rename_i hn; rw [hullTo_length] at hn; omega
  · rfl
theorem hullS_fmt (s n : Nat) : hullS (fmtL s n) s = fmtL s n := by
  apply List.ext_getElem
  · rw [hullS_length]
  · intro i h1 h2
    rw [hullS_get _ _ _ h2]
    have h3 : i < n := by simpa [fmtL_length] using h2
    have hg : (fmtL s n)[i] = dig s i := by simp [fmtL]
    rw [hg, hullC, if_pos]
    simp [fits, dig_toNat]
/-- the hull of a list of states, at least one -/
def hullL (x : Nat) (r : List Nat) (n : Nat) : List UInt8 := r.foldl hullS (fmtL x n)
/-- what HullOf answers -/
def inW (n : Int) (x : Int) : Bool := decide (0 ≤ x) && decide (x < 2 ^ n.toNat)
def HO (xs : List Int) (n : Int) : Option (List UInt8) :=
  if 1 ≤ n ∧ n ≤ 5 then match xs with
    | [] => none
    | x :: r => if xs.all (inW n) then some (hullL x.toNat (r.map Int.toNat) n.toNat) else none
  else none
/-- the bytes of a hull are digits or '*' -/
theorem okc_dig (s i : Nat) : okc (dig s i) = true := by
  have := bit_01 s i
  simp [okc, dig_toNat]; omega
theorem okc_fmt (s n : Nat) : (fmtL s n).all okc = true := by
  rw [List.all_eq_true]; intro c hc; simp only [fmtL, List.mem_map] at hc; obtain ⟨i, _, rfl⟩ := hc; exact okc_dig s i
theorem okc_hullC (c : UInt8) (b : Nat) (h : okc c = true) : okc (hullC c b) = true := by
  unfold hullC; split
  · exact h
  · rfl
theorem okc_hullS (o : List UInt8) (s : Nat) (h : ∀ c ∈ o, okc c = true) : ∀ c ∈ hullS o s, okc c = true := by
  intro c hc
  obtain ⟨i, hi, rfl⟩ := List.getElem_of_mem hc
  rw [hullS_get o s i (by simpa [hullS_length] using hi)]
  exact okc_hullC _ _ (h _ (List.getElem_mem _))
theorem okc_fold (r : List Nat) (o : List UInt8) (h : ∀ c ∈ o, okc c = true) : ∀ c ∈ r.foldl hullS o, okc c = true := by
  induction r generalizing o with
  | nil => exact h
  | cons y r ih => exact ih _ (okc_hullS o y h)
theorem fold_length (r : List Nat) (o : List UInt8) : (r.foldl hullS o).length = o.length := by
  induction r generalizing o with
  | nil => rfl
  | cons y r ih => rw [List.foldl_cons, ih, hullS_length]
theorem hullTo_star {o : List UInt8} {s i : Nat} (h : i < o.length) (hf : fits o[i] (bit s i) = false) : hullTo o s (i + 1) = (hullTo o s i).set i 42 := by
  rw [hullTo_succ o s i h]; simp [hullC, hf]
theorem ints_at {l : List Nat} {k : Nat} (h : k < l.length) : ((ints l).map (Value.int .i64))[k]? = some (.int .i64 (l[k] : Int)) := by
  rw [List.getElem?_map, ints, List.getElem?_map, List.getElem?_eq_getElem h]; rfl
theorem HO_out {xs : List Int} {n : Int} (h : ¬ (1 ≤ n ∧ n ≤ 5)) : HO xs n = none := by unfold HO; exact if_neg h
theorem HO_nil {n : Int} : HO [] n = none := by unfold HO; split <;> rfl
theorem HO_bad {xs : List Int} {n : Int} {y : Int} (hy : y ∈ xs) (h : inW n y = false) : HO xs n = none := by
  unfold HO
  split
  · cases xs with
    | nil => cases hy
    | cons x r =>
      have : ¬ (x :: r).all (inW n) = true := by
        intro ha
        have := List.all_eq_true.1 ha y hy
        rw [this] at h; cases h
      simp only [this]
      rfl
  · rfl
theorem HO_ok {x n : Nat} {r : List Nat} (h1 : 1 ≤ n) (h5 : n ≤ 5) (hr : ∀ y ∈ x :: r, y < 2 ^ n) : HO (ints (x :: r)) (n : Int) = some (hullL x r n) := by
  have ha : ((x : Int) :: ints r).all (inW n) = true := by
    rw [List.all_eq_true]
    intro y hy
    have hy' : y ∈ ints (x :: r) := hy
    simp only [ints, List.mem_map] at hy'
    obtain ⟨z, hz, rfl⟩ := hy'
    have := hr z hz
    have h2 : ((z : Int) < 2 ^ n) := by
      have : ((2 : Int) ^ n) = ((2 ^ n : Nat) : Int) := by simp
      omega
    simp [inW, h2]
  have e : (ints r).map Int.toNat = r := by
    rw [ints, List.map_map]
    exact List.map_id'' (fun y => by simp) r
  unfold HO
  rw [if_pos ⟨by omega, by omega⟩]
  show (if ((x : Int) :: ints r).all (inW n) = true then some (hullL (x : Int).toNat ((ints r).map Int.toNat) (n : Int).toNat) else none) = _
  rw [if_pos ha, e]
  simp
/-- integers that are not negative are casts -/
theorem ints_of (xs : List Int) (h : ∀ y ∈ xs, 0 ≤ y) : ∃ ys, xs = ints ys := by
  refine ⟨xs.map Int.toNat, ?_⟩
  rw [ints, List.map_map]
  induction xs with
  | nil => rfl
  | cons x r ih =>
    rw [List.map_cons, ← ih (fun y hy => h y (List.mem_cons_of_mem _ hy))]
    have := h x List.mem_cons_self
    congr 1
    show x = ((x.toNat : Nat) : Int)
    omega
theorem inW_yes {n : Nat} {N : Nat} {y : Int} (hN : N = 2 ^ n) : inW (n : Int) y = true ↔ 0 ≤ y ∧ y < N := by
  have : ((2 : Int) ^ n) = ((2 ^ n : Nat) : Int) := by simp
  rw [inW, hN]
  simp
theorem ofInt_i64 (a : Nat) (ha : a < 9223372036854775808) : (BitVec.ofInt 64 (a : Int)).toNat = a := by
  rw [BitVec.ofInt_natCast, BitVec.toNat_ofNat]; exact Nat.mod_eq_of_lt (by omega)
theorem i64_or_nat (a b : Nat) (ha : a < 9223372036854775808) (hb : b < 9223372036854775808) : bits .or .i64 (a : Int) (b : Int) = ((a ||| b : Nat) : Int) := by
  have hx : a ||| b < 2 ^ 63 := Nat.or_lt_two_pow (by omega) (by omega)
  show IntKind.i64.wrap ((BitVec.ofInt 64 (a : Int) ||| BitVec.ofInt 64 (b : Int)).toNat : Int) = _
  rw [BitVec.toNat_or, ofInt_i64 a ha, ofInt_i64 b hb, IntKind.wrap_i64]
  omega
theorem i64_xor_nat (a b : Nat) (ha : a < 9223372036854775808) (hb : b < 9223372036854775808) : bits .xor .i64 (a : Int) (b : Int) = ((a ^^^ b : Nat) : Int) := by
  have hx : a ^^^ b < 2 ^ 63 := Nat.xor_lt_two_pow (by omega) (by omega)
  show IntKind.i64.wrap ((BitVec.ofInt 64 (a : Int) ^^^ BitVec.ofInt 64 (b : Int)).toNat : Int) = _
  rw [BitVec.toNat_xor, ofInt_i64 a ha, ofInt_i64 b hb, IntKind.wrap_i64]
  omega
theorem i64_and_nat (a b : Nat) (ha : a < 9223372036854775808) (hb : b < 9223372036854775808) : bits .and .i64 (a : Int) (b : Int) = ((a &&& b : Nat) : Int) := by
  have hx : a &&& b < 2 ^ 63 := Nat.and_lt_two_pow _ (by omega)
  show IntKind.i64.wrap ((BitVec.ofInt 64 (a : Int) &&& BitVec.ofInt 64 (b : Int)).toNat : Int) = _
  rw [BitVec.toNat_and, ofInt_i64 a ha, ofInt_i64 b hb, IntKind.wrap_i64]
  omega
/-! tables -/
/-- how many inputs a table of a length has; 0 if none has this length -/
def tin (len : Nat) : Nat := if len = 2 then 1 else if len = 4 then 2 else if len = 8 then 3 else if len = 16 then 4 else if len = 32 then 5 else 0
theorem tin_pow (n : Nat) (h1 : 1 ≤ n) (h5 : n ≤ 5) : tin (2 ^ n) = n := by
  have : n = 1 ∨ n = 2 ∨ n = 3 ∨ n = 4 ∨ n = 5 := by omega
  rcases this with rfl | rfl | rfl | rfl | rfl <;> rfl
theorem tin_none (len : Nat) (h : ∀ m, 1 ≤ m → m ≤ 5 → ¬ len = 2 ^ m) : tin len = 0 := by
  have h1 := h 1 (by omega) (by omega)
  have h2 := h 2 (by omega) (by omega)
  have h3 := h 3 (by omega) (by omega)
  have h4 := h 4 (by omega) (by omega)
  have h5 := h 5 (by omega) (by omega)
  unfold tin
  rw [if_neg (by omega), if_neg (by omega), if_neg (by omega), if_neg (by omega), if_neg (by omega)]
theorem tin_some {len : Nat} (h : ¬ tin len = 0) : 1 ≤ tin len ∧ tin len ≤ 5 ∧ len = 2 ^ tin len := by
  unfold tin at h ⊢
  split
  · rename_i e; subst e; decide
  · split
    · rename_i e; subst e; decide
    · split
      · rename_i e; subst e; decide
      · split
        · rename_i e; subst e; decide
        · split
          · rename_i e; subst e; decide
          · rename_i a b c d e
            rw [if_neg a, if_neg b, if_neg c, if_neg d, if_neg e] at h
            exact absurd rfl h
def b01 (c : UInt8) : Bool := c.toNat == 48 || c.toNat == 49
/-- whether a text is a table -/
def okT (l : List UInt8) : Bool := decide (¬ tin l.length = 0) && l.all b01
/-- the value of a table for a state -/
def val (l : List UInt8) (s : Nat) : Nat := (l.getD s 48).toNat - 48
theorem okT_true {l : List UInt8} (h : okT l = true) : 1 ≤ tin l.length ∧ tin l.length ≤ 5 ∧ l.length = 2 ^ tin l.length ∧ ∀ c ∈ l, b01 c = true := by
  simp only [okT, Bool.and_eq_true, decide_eq_true_eq, List.all_eq_true] at h
  obtain ⟨h1, h2, h3⟩ := tin_some h.1
  exact ⟨h1, h2, h3, h.2⟩
theorem val_lt {l : List UInt8} (h : ∀ c ∈ l, b01 c = true) (s : Nat) : val l s < 2 := by
  unfold val
  rw [List.getD]
  cases hc : l[s]? with
  | none => decide
  | some c =>
    have := h c (List.mem_of_getElem? hc)
    simp [b01] at this
    simp only [Option.getD_some]
    omega
theorem val_get {l : List UInt8} {s : Nat} (h : s < l.length) : val l s = l[s].toNat - 48 := by
  unfold val; rw [List.getD, List.getElem?_eq_getElem h]; rfl
/-- the text of values -/
def txt (N : Nat) (b : Nat → Nat) : List UInt8 := (List.range N).map fun s => chr (b s)
theorem txt_length (N : Nat) (b : Nat → Nat) : (txt N b).length = N := by simp [txt]
theorem txt_succ (N : Nat) (b : Nat → Nat) : txt (N + 1) b = txt N b ++ [chr (b N)] := by simp [txt, List.range_succ]
theorem txt_congr {N : Nat} {b c : Nat → Nat} (h : ∀ s, s < N → b s = c s) : txt N b = txt N c := by
  unfold txt
  apply List.map_congr_left
  intro s hs
  rw [h s (by simpa using hs)]
/-- a table is the text of its values -/
theorem txt_val {l : List UInt8} (h : ∀ c ∈ l, b01 c = true) : txt l.length (val l) = l := by
  apply List.ext_getElem
  · rw [txt_length]
  · intro i h1 h2
    simp only [txt, List.getElem_map, List.getElem_range]
    rw [val_get h2]
    have := h _ (List.getElem_mem h2)
    simp [b01] at this
    apply UInt8.toNat_inj.1
    rw [chr_toNat _ (by omega)]
    omega
end Go.Proofs.YtfkdameegljkeaaDoor

/- Plain lemmas on hulls and meets, for the laws FnHull and FnMeet. No program is in sight. -/
namespace Go.Proofs.YtfkdameegljkeaaDoor
open Go.RowKit

theorem hasF_iff (l : List UInt8) (i s : Nat) : hasF l i s = true ↔ ∀ k (h : k < l.length), fits l[k] (bit s (i + k)) = true := by
  induction l generalizing i with
  | nil => simp [hasF]
  | cons c r ih =>
    simp only [hasF, Bool.and_eq_true, ih]
    constructor
    · rintro ⟨h0, h⟩ k hk
      cases k with
      | zero => exact h0
      | succ k => have := h k (by simpa using hk); rw [show i + (k + 1) = i + 1 + k by omega]; exact this
    · intro h
      refine ⟨h 0 (by simp), fun k hk => ?_⟩
      have := h (k + 1) (by simpa using hk)
      rw [show i + 1 + k = i + (k + 1) by omega]; exact this
theorem hasS_iff (l : List UInt8) (s : Nat) : hasS l s = true ↔ ∀ k (h : k < l.length), fits l[k] (bit s k) = true := by
  have := hasF_iff l 0 s
  simpa [hasS] using this
theorem mem_sel {N : Nat} {p : Nat → Bool} {s : Nat} : s ∈ sel N p ↔ s < N ∧ p s = true := by simp [sel]
theorem mem_stL {l : List UInt8} {s : Nat} : s ∈ stL l ↔ s < 2 ^ l.length ∧ hasS l s = true := mem_sel
theorem mem_ints {l : List Nat} {s : Nat} : (s : Int) ∈ ints l ↔ s ∈ l := by
  rw [ints, List.mem_map]
  constructor
  · rintro ⟨a, ha, e⟩; have : a = s := by omega
    rw [← this]; exact ha
  · intro h; exact ⟨s, h, rfl⟩

theorem fold_get (r : List Nat) (o : List UInt8) (i : Nat) (h : i < o.length) :
    (r.foldl hullS o)[i]'(by rw [fold_length]; exact h) = if r.all (fun y => fits o[i] (bit y i)) then o[i] else 42 := by
  induction r generalizing o with
  | nil => simp
  | cons y r ih =>
    simp only [List.foldl_cons]
    rw [ih (hullS o y) (by rw [hullS_length]; exact h), hullS_get o y i h]
    simp only [List.all_cons]
    by_cases hf : fits o[i] (bit y i) = true
    · simp [hullC, hf]
    · have h2 : fits o[i] (bit y i) = false := by simpa using hf
      have e : hullC o[i] (bit y i) = 42 := by rw [hullC, h2]; rfl
      simp only [e, h2, Bool.false_and]
      split <;> rfl
theorem fits_dig (s t i : Nat) : fits (dig s i) (bit t i) = true ↔ bit t i = bit s i := by
  have h1 := bit_lt s i
  have h2 := bit_lt t i
  simp [fits, dig_toNat]; omega
theorem dig_ne (s i : Nat) : dig s i ≠ 42 := by
  intro h
  have h1 := congrArg UInt8.toNat h
  rw [dig_toNat] at h1
  have h3 : (UInt8.toNat 42 : Nat) = 42 := rfl
  have h2 := bit_lt s i
  omega
theorem hullL_length (x : Nat) (r : List Nat) (n : Nat) : (hullL x r n).length = n := by rw [hullL, fold_length, fmtL_length]
/-- a hull, place by place -/
theorem hull_get (x : Nat) (r : List Nat) (n i : Nat) (h : i < n) :
    (hullL x r n)[i]'(by rw [hullL_length]; exact h) = if (x :: r).all (fun y => decide (bit y i = bit x i)) then dig x i else 42 := by
  have hi : i < (fmtL x n).length := by rw [fmtL_length]; exact h
  have e : (fmtL x n)[i] = dig x i := by simp [fmtL]
  unfold hullL
  rw [fold_get r (fmtL x n) i hi, e]
  have : r.all (fun y => fits (dig x i) (bit y i)) = (x :: r).all (fun y => decide (bit y i = bit x i)) := by
    rw [Bool.eq_iff_iff]
    simp only [List.all_eq_true, List.all_cons, decide_true, Bool.true_and]
    constructor
    · intro hh y hy; simpa using (fits_dig x y i).1 (hh y hy)
    · intro hh y hy; exact (fits_dig x y i).2 (by simpa using hh y hy)
  rw [this]
/-- the hull has all states of the list -/
theorem hull_has (x : Nat) (r : List Nat) (n : Nat) (y : Nat) (hy : y ∈ x :: r) : hasS (hullL x r n) y = true := by
  rw [hasS_iff]
  intro k hk
  have hk' : k < n := by rwa [hullL_length] at hk
  rw [hull_get x r n k hk']
  split
  · rename_i h
    have := List.all_eq_true.1 h y hy
    exact (fits_dig x y k).2 (by simpa using this)
  · rfl
theorem okc_hull (x : Nat) (r : List Nat) (n : Nat) : (hullL x r n).all okc = true := by
  rw [List.all_eq_true]; exact okc_fold r _ (List.all_eq_true.1 (okc_fmt x n))
theorem TV_hull (x : Nat) (r : List Nat) (n : Nat) (h1 : 1 ≤ n) (h5 : n ≤ 5) : TV (hullL x r n) (n : Int) = true := by
  rw [TV_all (by omega) (by omega) (by rw [hullL_length])]; exact okc_hull x r n
/-- where the hull is open two states differ -/
theorem hull_star (x : Nat) (r : List Nat) (n i : Nat) (h : i < n) (hs : (hullL x r n)[i]'(by rw [hullL_length]; exact h) = 42) :
    (∃ y ∈ x :: r, bit y i = 0) ∧ ∃ y ∈ x :: r, bit y i = 1 := by
  rw [hull_get x r n i h] at hs
  split at hs
  · exact absurd hs (dig_ne x i)
  · rename_i hh
    have : ∃ y ∈ x :: r, ¬ bit y i = bit x i := by
      apply Classical.byContradiction
      intro hn
      apply hh
      rw [List.all_eq_true]
      intro y hy
      rw [decide_eq_true_iff]
      apply Classical.byContradiction
      intro hne
      exact hn ⟨y, hy, hne⟩
    obtain ⟨y, hy, hne⟩ := this
    have h1 := bit_01 y i
    have h2 := bit_01 x i
    rcases h1 with h1 | h1
    · exact ⟨⟨y, hy, h1⟩, x, List.mem_cons_self, by omega⟩
    · exact ⟨⟨x, List.mem_cons_self, by omega⟩, y, hy, h1⟩
/-- two lists of states with the same digits at each place have the same hull -/
theorem hull_same (x x' : Nat) (r r' : List Nat) (n : Nat) (h : ∀ i, i < n → ((∀ y ∈ x :: r, bit y i = bit x i) ∧ (∀ y ∈ x' :: r', bit y i = bit x i)) ∨
    (∃ y ∈ x :: r, bit y i ≠ bit x i) ∧ ∃ y ∈ x' :: r', bit y i ≠ bit x' i) : hullL x r n = hullL x' r' n := by
  apply List.ext_getElem
  · rw [hullL_length, hullL_length]
  · intro i h1 h2
    have hi : i < n := by rwa [hullL_length] at h1
    rw [hull_get x r n i hi, hull_get x' r' n i hi]
    rcases h i hi with ⟨ha, hb⟩ | ⟨⟨y, hy, hne⟩, y', hy', hne'⟩
    · have hx' := hb x' List.mem_cons_self
      rw [if_pos (List.all_eq_true.2 fun y hy => by simpa using ha y hy), if_pos (List.all_eq_true.2 fun y hy => by have := hb y hy; simp; omega)]
      rw [dig, dig, hx']
    · rw [if_neg (fun hh => hne (by simpa using List.all_eq_true.1 hh y hy)), if_neg (fun hh => hne' (by simpa using List.all_eq_true.1 hh y' hy'))]
/-- a hull is the hull of its own states -/
theorem hull_hull (x : Nat) (r : List Nat) (n : Nat) (h1 : 1 ≤ n) (h5 : n ≤ 5) (hr : ∀ y ∈ x :: r, y < 2 ^ n) :
    HO (ints (stL (hullL x r n))) (n : Int) = some (hullL x r n) := by
  have hl := hullL_length x r n
  have hin : ∀ y ∈ x :: r, y ∈ stL (hullL x r n) := fun y hy => mem_stL.2 ⟨by rw [hl]; exact hr y hy, hull_has x r n y hy⟩
  have hlt : ∀ y ∈ stL (hullL x r n), y < 2 ^ n := fun y hy => by have := (mem_stL.1 hy).1; rwa [hl] at this
  generalize hS : stL (hullL x r n) = S at hin hlt
  cases S with
  | nil => exact absurd (hin x List.mem_cons_self) (by simp)
  | cons x' r' =>
    rw [HO_ok h1 h5 hlt]
    congr 1
    refine (hull_same x x' r r' n fun i hi => ?_).symm
    by_cases ha : ∀ y ∈ x :: r, bit y i = bit x i
    · left
      refine ⟨ha, fun y hy => ?_⟩
      have hy' : y ∈ stL (hullL x r n) := by rw [hS]; exact hy
      have hf := (hasS_iff _ _).1 (mem_stL.1 hy').2 i (by rw [hl]; exact hi)
      rw [hull_get x r n i hi, if_pos (List.all_eq_true.2 fun z hz => by simpa using ha z hz)] at hf
      exact (fits_dig x y i).1 hf
    · right
      have : ∃ y ∈ x :: r, ¬ bit y i = bit x i := by
        apply Classical.byContradiction
        intro hn
        exact ha fun y hy => Classical.byContradiction fun hne => hn ⟨y, hy, hne⟩
      obtain ⟨y, hy, hne⟩ := this
      refine ⟨⟨y, hy, hne⟩, ?_⟩
      by_cases hx : bit y i = bit x' i
      · exact ⟨x, hin x List.mem_cons_self, by omega⟩
      · exact ⟨y, hin y hy, hx⟩
theorem HO_some {xs : List Int} {n : Int} {l : List UInt8} (h : HO xs n = some l) :
    ∃ (m x : Nat) (r : List Nat), n = (m : Int) ∧ 1 ≤ m ∧ m ≤ 5 ∧ xs = ints (x :: r) ∧ (∀ y ∈ x :: r, y < 2 ^ m) ∧ l = hullL x r m := by
  by_cases hn : 1 ≤ n ∧ n ≤ 5
  · obtain ⟨m, rfl⟩ : ∃ m : Nat, n = (m : Int) := ⟨n.toNat, by omega⟩
    have hall : ∀ y ∈ xs, 0 ≤ y ∧ y < ((2 ^ m : Nat) : Int) := by
      intro y hy
      cases hi : inW (m : Int) y
      · rw [HO_bad hy hi] at h; cases h
      · exact (inW_yes rfl).1 hi
    obtain ⟨ys, rfl⟩ := ints_of xs (fun y hy => (hall y hy).1)
    cases ys with
    | nil => have := HO_nil (n := (m : Int)); rw [ints, List.map_nil] at h; rw [this] at h; cases h
    | cons x r =>
      have hr : ∀ y ∈ x :: r, y < 2 ^ m := fun y hy => by
        have := (hall (y : Int) (mem_ints.2 hy)).2
        omega
      rw [HO_ok (by omega) (by omega) hr] at h
      exact ⟨m, x, r, rfl, by omega, by omega, rfl, hr, by injection h with h; exact h.symm⟩
  · rw [HO_out hn] at h; cases h
end Go.Proofs.YtfkdameegljkeaaDoor

/- Plain facts on the texts of networks and on their steps. -/
namespace Go.Proofs.YtfkdameegljkeaaDoor
open Go.RowKit

/-- a text cut at every comma -/
def cutL : List UInt8 → List (List UInt8)
  | [] => [[]]
  | c :: l => if c = 44 then [] :: cutL l else (c :: (cutL l).headD []) :: (cutL l).tail
theorem cutL_ne : ∀ l : List UInt8, cutL l ≠ []
  | [] => by simp [cutL]
  | c :: l => by unfold cutL; split <;> simp
theorem cutL_eta (l : List UInt8) : (cutL l).headD [] :: (cutL l).tail = cutL l := by
  cases h : cutL l with
  | nil => exact absurd h (cutL_ne l)
  | cons a b => rfl
theorem cutL_no {p : List UInt8} (l : List UInt8) (h : ∀ c ∈ p, c ≠ 44) : cutL (p ++ l) = (p ++ (cutL l).headD []) :: (cutL l).tail := by
  induction p with
  | nil => rw [List.nil_append, List.nil_append, cutL_eta]
  | cons c p ih =>
    rw [List.cons_append, cutL, if_neg (h c (by simp)), ih (fun d hd => h d (by simp [hd]))]
    rfl
theorem cutL_end {p : List UInt8} (h : ∀ c ∈ p, c ≠ 44) : cutL p = [p] := by
  have := cutL_no (p := p) [] h
  simpa [cutL] using this
theorem cutL_comma {p : List UInt8} (l : List UInt8) (h : ∀ c ∈ p, c ≠ 44) : cutL (p ++ 44 :: l) = p :: cutL l := by
  rw [cutL_no _ h]
  simp [cutL]
theorem cut_cases : ∀ s : List UInt8, (∀ c ∈ s, c ≠ 44) ∨ ∃ p l, s = p ++ 44 :: l ∧ ∀ c ∈ p, c ≠ 44
  | [] => .inl (by simp)
  | c :: s => by
    by_cases hc : c = 44
    · exact .inr ⟨[], s, by simp [hc], by simp⟩
    · rcases cut_cases s with h | ⟨p, l, rfl, h⟩
      · exact .inl (fun d hd => (List.mem_cons.1 hd).elim (fun e => e ▸ hc) (h d))
      · exact .inr ⟨c :: p, l, rfl, fun d hd => (List.mem_cons.1 hd).elim (fun e => e ▸ hc) (h d)⟩
theorem index_no : ∀ {p : List UInt8}, (∀ c ∈ p, c ≠ 44) → Lib.index p [44] = -1
  | [], _ => rfl
  | c :: p, h => by
    have hc : ¬ (44 : UInt8) = c := fun e => h c (by simp) e.symm
    have ih := index_no (p := p) (fun d hd => h d (by simp [hd]))
    simp [Lib.index, ih, hc]
theorem index_at : ∀ {p : List UInt8} (l : List UInt8), (∀ c ∈ p, c ≠ 44) → Lib.index (p ++ 44 :: l) [44] = (p.length : Nat)
  | [], l, _ => by simp [Lib.index]
  | c :: p, l, h => by
    have hc : ¬ (44 : UInt8) = c := fun e => h c (by simp) e.symm
    have ih := index_at (p := p) l (fun d hd => h d (by simp [hd]))
    have hne : ¬ ((p.length : Nat) : Int) = -1 := by omega
    simp [Lib.index, ih, hc, hne]
theorem splitK_cut : ∀ (k : Nat) (s : List UInt8), Lib.count s [44] = k → Lib.splitK [44] 0 k s = cutL s := by
  intro k
  induction k with
  | zero =>
    intro s hk
    rcases cut_cases s with h | ⟨p, l, rfl, h⟩
    · rw [cutL_end h]; rfl
    · rw [Lib.count_hit (by simp) (index_at l h)] at hk; omega
  | succ k ih =>
    intro s hk
    rcases cut_cases s with h | ⟨p, l, rfl, h⟩
    · rw [Lib.count_miss (index_no h)] at hk; omega
    · rw [Lib.count_hit (by simp) (index_at l h)] at hk
      have e : (p ++ 44 :: l).drop (p.length + 1) = l := by
        rw [show p ++ 44 :: l = (p ++ [44]) ++ l by simp, List.drop_left' (by simp)]
      have e2 : (p ++ 44 :: l).drop (p.length + ([44] : List UInt8).length) = l := e
      rw [e2] at hk
      have hne : ¬ (((p.length : Nat) : Int) == -1) = true := by simp
      rw [cutL_comma l h, Lib.splitK, index_at l h, if_neg hne]
      have et : ((p.length : Nat) : Int).toNat = p.length := rfl
      rw [et, e2, Nat.add_zero, List.take_left' rfl, ih l (by omega)]
theorem splitB_cut (s : ByteArray) : (Lib.splitB ⟨#[44]⟩ 0 (Lib.countB s ⟨#[44]⟩) s).map (·.data.toList) = cutL s.data.toList := by
  rw [Lib.splitB_data]
  exact splitK_cut _ _ rfl
/-- the parts as strings -/
def cutB (s : ByteArray) : List ByteArray := (cutL s.data.toList).map fun l => ⟨l.toArray⟩
theorem str_of_list (s : ByteArray) : (⟨s.data.toList.toArray⟩ : ByteArray) = s := by cases s; simp
theorem splitB_cutB (s : ByteArray) : Lib.splitB ⟨#[44]⟩ 0 (Lib.countB s ⟨#[44]⟩) s = cutB s := by
  rw [cutB, ← splitB_cut, List.map_map]
  have : ((fun l : List UInt8 => (⟨l.toArray⟩ : ByteArray)) ∘ fun x : ByteArray => x.data.toList) = id := by
    funext x; exact str_of_list x
  rw [this, List.map_id]
theorem cutB_length (s : ByteArray) : (cutB s).length = (cutL s.data.toList).length := by simp [cutB]
theorem countB_cut (s : ByteArray) : Lib.countB s ⟨#[44]⟩ + 1 = (cutL s.data.toList).length := by
  rw [← cutB_length, ← splitB_cutB, Lib.splitB_all _ (by decide) 0 _ s rfl]
theorem cutL_len : ∀ l : List UInt8, (cutL l).length ≤ l.length + 1 ∧ 1 ≤ (cutL l).length
  | [] => by simp [cutL]
  | c :: l => by
    have := cutL_len l
    unfold cutL
    split <;> simp <;> omega
theorem cutL_part : ∀ (l p : List UInt8), p ∈ cutL l → p.length ≤ l.length
  | [], p, h => by simp [cutL] at h; simp [h]
  | c :: l, p, h => by
    unfold cutL at h
    split at h
    · rcases List.mem_cons.1 h with rfl | h
      · simp
      · have := cutL_part l p h; simp; omega
    · rcases List.mem_cons.1 h with rfl | h
      · have := cutL_part l ((cutL l).headD []) (by rw [← cutL_eta l]; simp)
        simp only [List.length_cons]; omega
      · have := cutL_part l p (List.mem_of_mem_tail h)
        simp only [List.length_cons]; omega

/-- are the parts the rules of a network? -/
def okN (ps : List (List UInt8)) : Bool := ps.all fun p => okT p && (tin p.length == ps.length)
theorem okN_of {ps : List (List UInt8)} (h : okN ps = true) {p : List UInt8} (hp : p ∈ ps) : okT p = true ∧ tin p.length = ps.length := by
  have := List.all_eq_true.1 h p hp
  simpa using this
theorem okN_bad {ps : List (List UInt8)} {p : List UInt8} (hp : p ∈ ps) (h : okT p = false ∨ ¬ tin p.length = ps.length) : okN ps = false := by
  by_cases hn : okN ps = true
  · have := okN_of hn hp
    rcases h with h | h
    · rw [h] at this; cases this.1
    · exact absurd this.2 h
  · simpa using hn
theorem okN_le {ps : List (List UInt8)} (h : okN ps = true) : ps.length ≤ 5 := by
  cases ps with
  | nil => simp
  | cons p ps =>
    have h2 := okN_of h (p := p) (by simp)
    have h3 := okT_true h2.1
    omega
/-- the value of a switch's rule in a state -/
def nb (ps : List (List UInt8)) (s i : Nat) : Nat := val (ps.getD i []) s
theorem nb_lt {ps : List (List UInt8)} (h : okN ps = true) (s i : Nat) : nb ps s i < 2 := by
  unfold nb
  by_cases hi : i < ps.length
  · rw [List.getD_eq_getElem?_getD, List.getElem?_eq_getElem hi, Option.getD_some]
    exact val_lt (okT_true (okN_of h (List.getElem_mem hi)).1).2.2.2 s
  · rw [List.getD_eq_getElem?_getD, List.getElem?_eq_none (by omega)]
    simp [val]
/-- the number whose digits are b -/
def asm (b : Nat → Nat) : Nat → Nat
  | 0 => 0
  | k + 1 => asm b k + b k * 2 ^ k
theorem asm_lt {b : Nat → Nat} (h : ∀ i, b i < 2) : ∀ k, asm b k < 2 ^ k
  | 0 => by simp [asm]
  | k + 1 => by
    have := asm_lt h k
    have hb := h k
    rw [asm, Nat.pow_succ]
    have : b k * 2 ^ k ≤ 1 * 2 ^ k := Nat.mul_le_mul_right _ (by omega)
    omega
theorem bit_add_mul (a v i k : Nat) (h : i < k) : bit (a + v * 2 ^ k) i = bit a i := by
  obtain ⟨m, rfl⟩ : ∃ m, k = i + (m + 1) := ⟨k - i - 1, by omega⟩
  rw [bit, bit, Nat.pow_add, Nat.pow_succ, show v * (2 ^ i * (2 ^ m * 2)) = 2 ^ i * (v * 2 ^ m * 2) by
    rw [← Nat.mul_assoc, Nat.mul_comm v, Nat.mul_assoc, ← Nat.mul_assoc v], Nat.add_mul_div_left _ _ (Nat.two_pow_pos i), Nat.add_mul_mod_self_right]
theorem bit_asm {b : Nat → Nat} (h : ∀ i, b i < 2) (i : Nat) : ∀ k, i < k → bit (asm b k) i = b i
  | 0, hk => by omega
  | k + 1, hk => by
    rw [asm]
    by_cases e : i = k
    · subst e
      rw [bit, Nat.add_mul_div_right _ _ (Nat.two_pow_pos i), Nat.div_eq_of_lt (asm_lt h i), Nat.zero_add]
      exact Nat.mod_eq_of_lt (h i)
    · rw [bit_add_mul _ _ _ _ (by omega), bit_asm h i k (by omega)]
theorem bit_top {x n : Nat} (h : x < 2 ^ (n + 1)) : x = x % 2 ^ n + bit x n * 2 ^ n := by
  have h1 := Nat.mod_add_div x (2 ^ n)
  have h2 : x / 2 ^ n < 2 := by rw [Nat.div_lt_iff_lt_mul (Nat.two_pow_pos n), Nat.mul_comm, ← Nat.pow_succ]; exact h
  rw [bit, Nat.mod_eq_of_lt h2, Nat.mul_comm]
  exact h1.symm
theorem bit_mod {x n i : Nat} (h : i < n) : bit (x % 2 ^ n) i = bit x i := by
  rw [bit_testBit, bit_testBit, Nat.testBit_mod_two_pow]
  simp [h]
theorem bit_ext : ∀ {n x y : Nat}, x < 2 ^ n → y < 2 ^ n → (∀ i, i < n → bit x i = bit y i) → x = y
  | 0, x, y, hx, hy, _ => by simp at hx hy; omega
  | n + 1, x, y, hx, hy, h => by
    have h1 := bit_ext (n := n) (Nat.mod_lt x (Nat.two_pow_pos n)) (Nat.mod_lt y (Nat.two_pow_pos n)) (fun i hi => by rw [bit_mod hi, bit_mod hi]; exact h i (by omega))
    rw [bit_top hx, bit_top hy, h1, h n (by omega)]
/-- a state in which a switch is held at a value -/
def holdN (s i v : Nat) : Nat := s - bit s i * 2 ^ i + v * 2 ^ i
theorem holdN_bit : ∀ s, s < 32 → ∀ i, i < 5 → ∀ v, v < 2 → ∀ j, j < 5 → bit (holdN s i v) j = if j = i then v else bit s j := by decide +kernel
theorem holdN_lt : ∀ n, n < 6 → ∀ s, s < 2 ^ n → ∀ i, i < n → ∀ v, v < 2 → holdN s i v < 2 ^ n := by decide +kernel
theorem hold_bits : ∀ s, s < 32 → ∀ i, i < 5 → ∀ v, v < 2 → bits .or .i64 (bits .andNot .i64 ((s : Nat) : Int) (wrap64 (2 ^ i))) (wrap64 (((v : Nat) : Int) * 2 ^ i)) = ((holdN s i v : Nat) : Int) := by decide +kernel
theorem or_bits : ∀ i, i < 5 → ∀ s, s < 2 ^ i → ∀ v, v < 2 → bits .or .i64 ((s : Nat) : Int) (wrap64 (((v : Nat) : Int) * 2 ^ i)) = ((s + v * 2 ^ i : Nat) : Int) := by decide +kernel
/-- a step of the switches of a set, up to switch k -/
def stW (b : Nat → Nat) (s W : Nat) : Nat → Nat
  | 0 => s
  | k + 1 => if bit W k = 1 then holdN (stW b s W k) k (b k) else stW b s W k
theorem stW_lt {b : Nat → Nat} (h : ∀ i, b i < 2) {n s W : Nat} (hn : n ≤ 5) (hs : s < 2 ^ n) : ∀ k, k ≤ n → stW b s W k < 2 ^ n
  | 0, _ => hs
  | k + 1, hk => by
    have ih := stW_lt h hn hs (W := W) k (by omega)
    rw [stW]
    split
    · exact holdN_lt n (by omega) _ ih k (by omega) _ (h k)
    · exact ih
theorem stW_bit {b : Nat → Nat} (h : ∀ i, b i < 2) {n s W : Nat} (hn : n ≤ 5) (hs : s < 2 ^ n) (j : Nat) (hj : j < n) : ∀ k, k ≤ n → bit (stW b s W k) j = if j < k ∧ bit W j = 1 then b j else bit s j
  | 0, _ => by simp [stW]
  | k + 1, hk => by
    have ih := stW_bit h hn hs (W := W) j hj k (by omega)
    have hl := stW_lt h hn hs (W := W) k (by omega)
    have h32 := two_le n hn
    rw [stW]
    by_cases hw : bit W k = 1
    · rw [if_pos hw, holdN_bit _ (by omega) k (by omega) _ (h k) j (by omega), ih]
      by_cases e : j = k
      · subst e; rw [if_pos rfl, if_pos ⟨by omega, hw⟩]
      · rw [if_neg e]
        by_cases hjk : j < k
        · simp [hjk, show j < k + 1 by omega]
        · simp [hjk, show ¬ j < k + 1 by omega]
    · rw [if_neg hw, ih]
      by_cases e : j = k
      · subst e; rw [if_neg (by omega), if_neg (fun h => hw h.2)]
      · by_cases hjk : j < k
        · simp [hjk, show j < k + 1 by omega]
        · simp [hjk, show ¬ j < k + 1 by omega]
theorem bit_all : ∀ n, n < 6 → ∀ j, j < n → bit (2 ^ n - 1) j = 1 := by decide +kernel
theorem bit_pow : ∀ i, i < 5 → ∀ j, j < 5 → bit (2 ^ i) j = if j = i then 1 else 0 := by decide +kernel
theorem stW_all {b : Nat → Nat} (h : ∀ i, b i < 2) {n s : Nat} (hn : n ≤ 5) (hs : s < 2 ^ n) : stW b s (2 ^ n - 1) n = asm b n :=
  bit_ext (stW_lt h hn hs n (Nat.le_refl _)) (asm_lt h n) fun j hj => by
    rw [stW_bit h hn hs j hj n (Nat.le_refl _), if_pos ⟨hj, bit_all n (by omega) j hj⟩, bit_asm h j n hj]
theorem stW_one {b : Nat → Nat} (h : ∀ i, b i < 2) {n s i : Nat} (hn : n ≤ 5) (hs : s < 2 ^ n) (hi : i < n) : stW b s (2 ^ i) n = holdN s i (b i) :=
  bit_ext (stW_lt h hn hs n (Nat.le_refl _)) (holdN_lt n (by omega) s hs i hi _ (h i)) fun j hj => by
    have h32 := two_le n hn
    rw [stW_bit h hn hs j hj n (Nat.le_refl _), holdN_bit s (by omega) i (by omega) _ (h i) j (by omega), bit_pow i (by omega) j (by omega)]
    by_cases e : j = i
    · subst e; simp [hj]
    · simp [e]
/-- the state after a step of all switches -/
def stp (ps : List (List UInt8)) (s : Nat) : Nat := asm (nb ps s) ps.length
/-- the state after a step of one switch -/
def stp1 (ps : List (List UInt8)) (s i : Nat) : Nat := holdN s i (nb ps s i)
theorem stp_lt {ps : List (List UInt8)} (h : okN ps = true) (s : Nat) : stp ps s < 2 ^ ps.length := asm_lt (nb_lt h s) _
theorem stp1_lt {ps : List (List UInt8)} (h : okN ps = true) {s i : Nat} (hs : s < 2 ^ ps.length) (hi : i < ps.length) : stp1 ps s i < 2 ^ ps.length :=
  holdN_lt _ (by have := okN_le h; omega) s hs i hi _ (nb_lt h s i)
theorem stp_of {ps : List (List UInt8)} (h : okN ps = true) {s : Nat} (hs : s < 2 ^ ps.length) : stW (nb ps s) s (2 ^ ps.length - 1) ps.length = stp ps s := stW_all (nb_lt h s) (okN_le h) hs
theorem stp1_of {ps : List (List UInt8)} (h : okN ps = true) {s i : Nat} (hs : s < 2 ^ ps.length) (hi : i < ps.length) : stW (nb ps s) s (2 ^ i) ps.length = stp1 ps s i := stW_one (nb_lt h s) (okN_le h) hs hi
/-- the states after a step of one restless switch, of the first k ones -/
def nextTo (ps : List (List UInt8)) (s : Nat) : Nat → List Nat
  | 0 => []
  | k + 1 => if stp1 ps s k = s then nextTo ps s k else nextTo ps s k ++ [stp1 ps s k]
def nextN (ps : List (List UInt8)) (s : Nat) : List Nat := nextTo ps s ps.length
theorem nextTo_len (ps : List (List UInt8)) (s : Nat) : ∀ k, (nextTo ps s k).length ≤ k
  | 0 => by simp [nextTo]
  | k + 1 => by
    have := nextTo_len ps s k
    rw [nextTo]
    split
    · omega
    · simp; omega
theorem nextTo_lt {ps : List (List UInt8)} (h : okN ps = true) {s : Nat} (hs : s < 2 ^ ps.length) : ∀ k, k ≤ ps.length → ∀ t ∈ nextTo ps s k, t < 2 ^ ps.length
  | 0, _, t, ht => by simp [nextTo] at ht
  | k + 1, hk, t, ht => by
    rw [nextTo] at ht
    split at ht
    · exact nextTo_lt h hs k (by omega) t ht
    · rcases List.mem_append.1 ht with ht | ht
      · exact nextTo_lt h hs k (by omega) t ht
      · simp at ht; subst ht; exact stp1_lt h hs (by omega)
/-- the cutting under way: done are the parts so far, the next one begins at fr, the byte at i comes next -/
def CutInv (l : List UInt8) (done : List (List UInt8)) (fr i : Nat) : Prop :=
  (i ≤ l.length ∧ fr ≤ i ∧ cutL l = done ++ cutL (l.drop fr) ∧ ∀ c ∈ (l.drop fr).take (i - fr), c ≠ 44) ∨ (i = l.length + 1 ∧ done = cutL l)
theorem cutInv_start (l : List UInt8) : CutInv l [] 0 0 := .inl ⟨Nat.zero_le _, Nat.le_refl _, by simp, by simp⟩
theorem cutInv_done {l : List UInt8} {done : List (List UInt8)} {fr i : Nat} (h : CutInv l done fr i) (hi : i = l.length + 1) : done = cutL l := by
  rcases h with h | h
  · omega
  · exact h.2
theorem take_next {l : List UInt8} {fr i : Nat} (h : fr ≤ i) (hi : i < l.length) : (l.drop fr).take (i + 1 - fr) = (l.drop fr).take (i - fr) ++ [l[i]] := by
  rw [show i + 1 - fr = (i - fr) + 1 by omega, List.take_add_one]
  have : (l.drop fr)[i - fr]? = some l[i] := by
    rw [List.getElem?_drop, show fr + (i - fr) = i by omega, List.getElem?_eq_getElem hi]
  rw [this]; rfl
theorem cutInv_skip {l : List UInt8} {done : List (List UInt8)} {fr i : Nat} (h : CutInv l done fr i) (hi : i < l.length) (hc : l[i] ≠ 44) : CutInv l done fr (i + 1) := by
  rcases h with ⟨h1, h2, h3, h4⟩ | h
  · refine .inl ⟨hi, by omega, h3, ?_⟩
    rw [take_next h2 hi]
    intro c hc'
    rcases List.mem_append.1 hc' with hc' | hc'
    · exact h4 c hc'
    · simp at hc'; exact hc' ▸ hc
  · omega
theorem drop_split {l : List UInt8} {fr i : Nat} (h : fr ≤ i) (hi : i < l.length) : l.drop fr = (l.drop fr).take (i - fr) ++ l[i] :: l.drop (i + 1) := by
  have h2 : (l.drop fr).drop (i - fr) = l[i] :: l.drop (i + 1) := by
    rw [List.drop_drop, show fr + (i - fr) = i by omega, List.drop_eq_getElem_cons hi]
  rw [← h2, List.take_append_drop]
theorem cutInv_cut {l : List UInt8} {done : List (List UInt8)} {fr i : Nat} (h : CutInv l done fr i) (hi : i < l.length) (hc : l[i] = 44) : CutInv l (done ++ [(l.drop fr).take (i - fr)]) (i + 1) (i + 1) := by
  rcases h with ⟨h1, h2, h3, h4⟩ | h
  · refine .inl ⟨hi, by omega, ?_, by simp⟩
    have hs := drop_split h2 hi
    rw [hc] at hs
    rw [h3, hs, cutL_comma _ h4, ← hs]
    simp
  · omega
theorem cutInv_end {l : List UInt8} {done : List (List UInt8)} {fr i : Nat} (h : CutInv l done fr i) (hi : i = l.length) : CutInv l (done ++ [(l.drop fr).take (i - fr)]) (i + 1) (i + 1) := by
  rcases h with ⟨h1, h2, h3, h4⟩ | h
  · refine .inr ⟨by omega, ?_⟩
    have e : (l.drop fr).take (i - fr) = l.drop fr := List.take_of_length_le (by rw [List.length_drop]; omega)
    rw [e] at h4 ⊢
    rw [h3, cutL_end h4]
  · omega
theorem ext_list (s : ByteArray) (a b : Nat) : (s.extract a b).data.toList = (s.data.toList.drop a).take (b - a) := by
  rw [ByteArray.data_extract, Array.toList_extract, List.extract_eq_take_drop]
/-- the number of inputs of a table of a length, -1 if there is none -/
def inN (len : Nat) : Int := if tin len = 0 then -1 else (tin len : Int)
theorem inN_yes {len : Nat} (h : ¬ tin len = 0) : inN len = (tin len : Int) := if_neg h
theorem inN_no {len : Nat} (h : tin len = 0) : inN len = -1 := if_pos h
/-- is it a network with this state? -/
def okSt (ps : List (List UInt8)) (t : Int) : Bool := okN ps && inW ps.length t
theorem okSt_true {ps : List (List UInt8)} {t : Int} (h : okSt ps t = true) : okN ps = true ∧ ∃ s : Nat, t = s ∧ s < 2 ^ ps.length := by
  rw [okSt, Bool.and_eq_true] at h
  have h2 := (inW_yes (N := 2 ^ ps.length) rfl).1 h.2
  exact ⟨h.1, t.toNat, by omega, by omega⟩
theorem okSt_of {ps : List (List UInt8)} {t : Int} {N : Nat} (h : okN ps = true) (hN : N = 2 ^ ps.length) : okSt ps t = (decide (0 ≤ t) && decide (t ≤ (N : Int) - 1)) := by
  rw [okSt, h, Bool.true_and, Bool.eq_iff_iff, inW_yes hN]
  simp; omega
theorem okSt_no {ps : List (List UInt8)} {t : Int} (h : okN ps = false) : okSt ps t = false := by rw [okSt, h]; rfl
theorem part_len {ps : List (List UInt8)} {N i : Nat} (h : okN ps = true) (hN : N = 2 ^ ps.length) (hi : i < ps.length) : ps[i].length = N := by
  have h1 := okN_of h (List.getElem_mem hi)
  rw [hN, ← h1.2]; exact (okT_true h1.1).2.2.1
theorem part_b01 {ps : List (List UInt8)} {i s : Nat} (h : okN ps = true) (hi : i < ps.length) (hs : s < ps[i].length) : b01 ps[i][s] = true :=
  (okT_true (okN_of h (List.getElem_mem hi)).1).2.2.2 _ (List.getElem_mem hs)
theorem nb_at {ps : List (List UInt8)} {i : Nat} (s : Nat) (hi : i < ps.length) : nb ps s i = val ps[i] s := by
  rw [nb, List.getD_eq_getElem?_getD, List.getElem?_eq_getElem hi, Option.getD_some]
theorem okN_take {ps : List (List UInt8)} {i : Nat} (hi : i < ps.length) (h : ((ps.take i).all fun p => okT p && (tin p.length == ps.length)) = true) (h1 : okT ps[i] = true) (h2 : tin ps[i].length = ps.length) :
    ((ps.take (i + 1)).all fun p => okT p && (tin p.length == ps.length)) = true := by
  rw [List.take_add_one, List.getElem?_eq_getElem hi, List.all_append, h]
  simp [h1, h2]
theorem str_size (l : List UInt8) : (⟨l.toArray⟩ : ByteArray).size = l.length := by simp [ByteArray.size]
theorem nextN_len {ps : List (List UInt8)} (h : okN ps = true) (s : Nat) : (nextN ps s).length ≤ 5 := Nat.le_trans (nextTo_len _ _ _) (okN_le h)
/-- how many steps of one restless switch there are from the first k states -/
def cntTo (ps : List (List UInt8)) : Nat → Nat
  | 0 => 0
  | k + 1 => cntTo ps k + (nextN ps k).length
theorem cntTo_le {ps : List (List UInt8)} (h : okN ps = true) : ∀ k, cntTo ps k ≤ 5 * k
  | 0 => by simp [cntTo]
  | k + 1 => by
    have := cntTo_le h k
    have := nextN_len h k
    rw [cntTo]; omega
def cntN (ps : List (List UInt8)) : Int := if okN ps then (cntTo ps (2 ^ ps.length) : Int) else -1
theorem cntN_yes {ps : List (List UInt8)} {N : Nat} (h : okN ps = true) (hN : N = 2 ^ ps.length) : cntN ps = (cntTo ps N : Int) := by rw [cntN, if_pos h, hN]
theorem cntN_no {ps : List (List UInt8)} (h : okN ps = false) : cntN ps = -1 := by rw [cntN, h]; rfl
end Go.Proofs.YtfkdameegljkeaaDoor

/- Plain facts: what a term comes to when its values force others. -/
namespace Go.Proofs.YtfkdameegljkeaaDoor
open Go.RowKit
set_option linter.unusedVariables false

/-- a rule has a value at some state of a term -/
def sn (p t : List UInt8) (v : Nat) : Bool := (stL t).any fun s => val p s == v
/-- the value that a rule has at all states of a term, or -1 -/
def frcI (p t : List UInt8) : Int := if sn p t 0 then (if sn p t 1 then -1 else 0) else 1
/-- a byte of a term: what is forced -/
def sprC (p t : List UInt8) (c : UInt8) : UInt8 := if c = 42 then (if sn p t 0 then (if sn p t 1 then 42 else 48) else 49) else c
theorem sprC_no {p t : List UInt8} {c : UInt8} (h : ¬ c = 42) : sprC p t c = c := by rw [sprC, if_neg h]
theorem sprC_or (p t : List UInt8) (c : UInt8) : sprC p t c = c ∨ c = 42 ∧ sprC p t c ≠ 42 := by
  by_cases h : c = 42
  · subst h
    rw [sprC, if_pos rfl]
    cases sn p t 0 <;> cases sn p t 1
    · exact .inr ⟨rfl, by decide⟩
    · exact .inr ⟨rfl, by decide⟩
    · exact .inr ⟨rfl, by decide⟩
    · exact .inl rfl
  · exact .inl (sprC_no h)
/-- one round: all bytes at once -/
def sprS (ps : List (List UInt8)) (t : List UInt8) : List UInt8 := t.mapIdx fun i c => sprC (ps.getD i []) t c
theorem sprS_length (ps : List (List UInt8)) (t : List UInt8) : (sprS ps t).length = t.length := by simp [sprS]
theorem sprS_get {ps : List (List UInt8)} {t : List UInt8} {i : Nat} (h : i < t.length) : (sprS ps t)[i]'(by rw [sprS_length]; exact h) = sprC (ps.getD i []) t t[i] := by simp [sprS]
/-- the open places of a term -/
def stars : List UInt8 → Nat
  | [] => 0
  | c :: r => (if c = 42 then 1 else 0) + stars r
theorem stars_map : ∀ (t : List UInt8) (f : Nat → UInt8 → UInt8), (∀ i c, f i c = c ∨ c = 42 ∧ f i c ≠ 42) → stars (t.mapIdx f) ≤ stars t ∧ (t.mapIdx f ≠ t → stars (t.mapIdx f) < stars t)
  | [], f, _ => ⟨Nat.le_refl _, fun h => absurd rfl h⟩
  | c :: r, f, h => by
    have ih := stars_map r (fun i => f (i + 1)) fun i c => h (i + 1) c
    rw [List.mapIdx_cons, stars, stars]
    rcases h 0 c with e | ⟨rfl, e⟩
    · rw [e]
      refine ⟨by omega, fun hne => ?_⟩
      have : List.mapIdx (fun i => f (i + 1)) r ≠ r := fun e2 => hne (by rw [e2])
      have := ih.2 this
      omega
    · rw [if_neg e, if_pos rfl]
      exact ⟨by omega, fun _ => by omega⟩
theorem stars_lt {ps : List (List UInt8)} {t : List UInt8} (h : sprS ps t ≠ t) : stars (sprS ps t) < stars t :=
  (stars_map t _ fun i c => sprC_or _ _ _).2 h
theorem stars_le : ∀ t : List UInt8, stars t ≤ t.length
  | [] => Nat.le_refl _
  | c :: r => by
    have := stars_le r
    rw [stars, List.length_cons]
    split <;> omega
/-- rounds until none changes the term -/
def spr (ps : List (List UInt8)) : Nat → List UInt8 → List UInt8
  | 0, t => t
  | k + 1, t => if sprS ps t = t then t else spr ps k (sprS ps t)
theorem spr_stop {ps : List (List UInt8)} {t : List UInt8} (h : sprS ps t = t) : ∀ k, spr ps k t = t
  | 0 => rfl
  | k + 1 => by rw [spr, if_pos h]
theorem spr_go {ps : List (List UInt8)} {t : List UInt8} {k : Nat} (h : sprS ps t ≠ t) (hk : stars t ≤ k) : ∃ j, stars (sprS ps t) ≤ j ∧ spr ps k t = spr ps j (sprS ps t) := by
  have h1 := stars_lt h
  obtain ⟨j, rfl⟩ : ∃ j, k = j + 1 := ⟨k - 1, by omega⟩
  exact ⟨j, by omega, by rw [spr, if_neg h]⟩
/-- what a term comes to -/
def sprN (ps : List (List UInt8)) (t : List UInt8) : List UInt8 := spr ps (stars t) t
theorem okc_spr {p t : List UInt8} {c : UInt8} (h : okc c = true) : okc (sprC p t c) = true := by
  by_cases e : c = 42
  · subst e
    rw [sprC, if_pos rfl]
    cases sn p t 0 <;> cases sn p t 1 <;> decide
  · rw [sprC_no e]; exact h
theorem sprS_ok {ps : List (List UInt8)} {t : List UInt8} (h : ∀ c ∈ t, okc c = true) : ∀ c ∈ sprS ps t, okc c = true := by
  intro c hc
  obtain ⟨i, hi, rfl⟩ := List.getElem_of_mem hc
  rw [sprS_length] at hi
  rw [sprS_get hi]
  exact okc_spr (h _ (List.getElem_mem hi))
theorem okc_cases {c : UInt8} (h : okc c = true) : c = 42 ∨ c = 48 ∨ c = 49 := by
  simp only [okc, Bool.or_eq_true, beq_iff_eq] at h
  rcases h with (h | h) | h
  · exact .inr (.inl (UInt8.toNat_inj.1 h))
  · exact .inr (.inr (UInt8.toNat_inj.1 h))
  · exact .inl (UInt8.toNat_inj.1 h)
/-- a term has a state -/
theorem stL_pos {t : List UInt8} (h : ∀ c ∈ t, okc c = true) : 0 < (stL t).length := by
  have hb : ∀ i, (fun i => if t.getD i 0 = 49 then 1 else 0 : Nat → Nat) i < 2 := fun i => by
    show (if t.getD i 0 = 49 then 1 else 0) < 2
    split <;> omega
  refine List.length_pos_of_mem (a := asm (fun i => if t.getD i 0 = 49 then 1 else 0) t.length) (mem_stL.2 ⟨asm_lt hb _, (hasS_iff _ _).2 fun k hk => ?_⟩)
  rw [bit_asm hb k _ hk]
  show fits t[k] (if t.getD k 0 = 49 then 1 else 0) = true
  rw [List.getD_eq_getElem?_getD, List.getElem?_eq_getElem hk, Option.getD_some]
  rcases okc_cases (h _ (List.getElem_mem hk)) with e | e | e <;> rw [e] <;> decide
theorem frcI_all {p t : List UInt8} {v : Nat} (hv : v < 2) (h0 : 0 < (stL t).length) (h : ∀ j, (hj : j < (stL t).length) → val p (stL t)[j] = v) : frcI p t = (v : Int) := by
  have hs : sn p t v = true := List.any_eq_true.2 ⟨_, List.getElem_mem h0, by rw [h 0 h0]; exact beq_self_eq_true _⟩
  have hn : ∀ u, u ≠ v → sn p t u = false := fun u hu => by
    rw [sn, List.any_eq_false]
    intro s hs
    obtain ⟨j, hj, rfl⟩ := List.getElem_of_mem hs
    rw [h j hj]; simp; omega
  have hc : v = 0 ∨ v = 1 := by omega
  rcases hc with rfl | rfl
  · rw [frcI, hs, hn 1 (by omega)]; rfl
  · rw [frcI, hn 0 (by omega)]; rfl
theorem frcI_two {p t : List UInt8} {i j : Nat} (hi : i < (stL t).length) (hj : j < (stL t).length) (h1 : val p (stL t)[i] < 2) (h2 : val p (stL t)[j] < 2) (h : val p (stL t)[i] ≠ val p (stL t)[j]) : frcI p t = -1 := by
  have hs : ∀ k, (hk : k < (stL t).length) → sn p t (val p (stL t)[k]) = true := fun k hk => List.any_eq_true.2 ⟨_, List.getElem_mem hk, beq_self_eq_true _⟩
  have a := hs i hi
  have b := hs j hj
  have hc : (val p (stL t)[i] = 0 ∧ val p (stL t)[j] = 1) ∨ (val p (stL t)[i] = 1 ∧ val p (stL t)[j] = 0) := by omega
  rcases hc with ⟨e1, e2⟩ | ⟨e1, e2⟩ <;> rw [e1] at a <;> rw [e2] at b <;> rw [frcI, a, b] <;> rfl
/-- the byte that a forced value writes -/
theorem sprC_forced {p t : List UInt8} (h : 0 ≤ frcI p t) : sprC p t 42 = chr (frcI p t).toNat ∧ frcI p t < 2 := by
  rw [sprC, if_pos rfl]
  unfold frcI at h ⊢
  cases h0 : sn p t 0 <;> cases h1 : sn p t 1 <;> rw [h0, h1] at h
  · exact ⟨by decide, by decide⟩
  · exact ⟨by decide, by decide⟩
  · exact ⟨by decide, by decide⟩
  · exact absurd h (by decide)
theorem sprC_free {p t : List UInt8} (h : ¬ 0 ≤ frcI p t) : sprC p t 42 = 42 := by
  rw [sprC, if_pos rfl]
  unfold frcI at h
  cases h0 : sn p t 0 <;> cases h1 : sn p t 1 <;> rw [h0, h1] at h
  · exact absurd (by decide) h
  · exact absurd (by decide) h
  · exact absurd (by decide) h
  · rfl
/-- a round under way: the first i bytes are done -/
def sprTo (ps : List (List UInt8)) (t : List UInt8) (i : Nat) : List UInt8 := (sprS ps t).take i ++ t.drop i
theorem sprTo_zero (ps : List (List UInt8)) (t : List UInt8) : sprTo ps t 0 = t := rfl
theorem sprTo_end (ps : List (List UInt8)) (t : List UInt8) : sprTo ps t t.length = sprS ps t := by
  rw [sprTo, List.drop_length, List.append_nil, List.take_of_length_le (by rw [sprS_length]; exact Nat.le_refl _)]
theorem sprTo_length (ps : List (List UInt8)) (t : List UInt8) (i : Nat) : (sprTo ps t i).length = t.length := by
  rw [sprTo, List.length_append, List.length_take, List.length_drop, sprS_length]; omega
theorem sprTo_get {ps : List (List UInt8)} {t : List UInt8} {i : Nat} (h : i < t.length) : (sprTo ps t i)[i]? = some t[i] := by
  have hl : ((sprS ps t).take i).length = i := by rw [List.length_take, sprS_length]; omega
  rw [sprTo, List.getElem?_append_right (by omega), hl, Nat.sub_self, List.getElem?_drop, Nat.add_zero, List.getElem?_eq_getElem h]
theorem sprTo_succ {ps : List (List UInt8)} {t : List UInt8} {i : Nat} (h : i < t.length) : sprTo ps t (i + 1) = (sprTo ps t i).set i (sprC (ps.getD i []) t t[i]) := by
  have h2 : i < (sprS ps t).length := by rw [sprS_length]; exact h
  have hl : ((sprS ps t).take i).length = i := by rw [List.length_take]; omega
  rw [sprTo, sprTo, List.set_append_right _ _ (by omega), hl, Nat.sub_self, List.take_succ_eq_append_getElem h2, sprS_get h, List.drop_eq_getElem_cons h, List.append_assoc]
  rfl
theorem sprTo_keep {ps : List (List UInt8)} {t : List UInt8} {i : Nat} (h : i < t.length) (hk : sprC (ps.getD i []) t t[i] = t[i]) : sprTo ps t (i + 1) = sprTo ps t i := by
  rw [sprTo_succ h, hk]
  have h2 : i < (sprTo ps t i).length := by rw [sprTo_length]; exact h
  have h3 : (sprTo ps t i)[i] = t[i] := by
    have := sprTo_get (ps := ps) h
    rw [List.getElem?_eq_getElem h2] at this
    exact Option.some.inj this
  rw [← h3, List.set_getElem_self]
/-- a value has been met among the first k states -/
def seT (p : List UInt8) (S : List Nat) (k v : Nat) : Bool := (S.take k).any fun s => val p s == v
theorem seT_zero (p : List UInt8) (S : List Nat) (v : Nat) : seT p S 0 v = false := rfl
theorem seT_succ {p : List UInt8} {S : List Nat} {k v : Nat} (h : k < S.length) : seT p S (k + 1) v = (seT p S k v || (val p S[k] == v)) := by
  rw [seT, seT, List.take_succ_eq_append_getElem h, List.any_append]; simp
theorem seT_end (p t : List UInt8) (v : Nat) : seT p (stL t) (stL t).length v = sn p t v := by rw [seT, List.take_length, sn]
theorem seT_set {p : List UInt8} {S : List Nat} {k : Nat} (h : k < S.length) (hv : val p S[k] < 2) :
    (#[.bool (seT p S k 0), .bool (seT p S k 1)] : Array Value).setIfInBounds (val p S[k]) (.bool true) = #[.bool (seT p S (k + 1) 0), .bool (seT p S (k + 1) 1)] := by
  rw [seT_succ h, seT_succ h]
  have hc : val p S[k] = 0 ∨ val p S[k] = 1 := by omega
  rcases hc with e | e <;> rw [e] <;> simp
end Go.Proofs.YtfkdameegljkeaaDoor

/- Walks of the functions on terms: what each returns. -/
namespace Go.Proofs.YtfkdameegljkeaaDoor
open Go.RowKit

set_option maxHeartbeats 400000 in
theorem termValid_any (t : ByteArray) (n : Int) (w : World) (ht : t.size ≤ 9223372036854775807) :
    Calls Tryd.prog 73 #[.string t, .int .i64 n] w fun e w' => e = .returned (.bool (TV t.data.toList n)) ∧ w = w' := by
  by_cases hn : n < 1
  · go_enter Tryd.func73, Tryd.ntmps73
    go_wp2
    go_ret
    exact ⟨ret_bool (TV_lo hn).symm, rfl⟩
  by_cases hn5 : 5 < n
  · go_enter Tryd.func73, Tryd.ntmps73
    go_wp2
    go_ret
    exact ⟨ret_bool (TV_hi hn5).symm, rfl⟩
  by_cases hl : (t.size : Int) = n
  · have H := Lib.hid (TV_all (l := t.data.toList) hn hn5 (by simpa using hl))
    obtain ⟨hl1, hl2⟩ : (t.size : Int) ≤ n ∧ n ≤ t.size := by omega
    have hne : ((t.size : Int) != n) = false := by simp [hl]
    clear hl
    go_enter Tryd.func73, Tryd.ntmps73
    go_wp2
    go_loop [19] (fun i => ∃ k : Nat, k ≤ t.size ∧ i = .int .i64 k ∧ (t.data.toList.take k).all okc = true) (fun i => t.size - (intOf i).toNat)
    case atStart => exact ⟨0, Nat.zero_le _, rfl, rfl⟩
    case round =>
      obtain ⟨k, hk, rfl, hall⟩ := hrel
      have HA := Lib.hid hall
      clear hall
      by_cases hlt : k < t.size
      · by_cases h0 : okc t[k] = true
        · have HS := Lib.hid (all_take_snoc hlt HA.out h0)
          have HO := Lib.hid h0
          clear h0
          go_wp2
          all_goals first
            | (go_round
               case rel => exact ⟨k + 1, by omega, by go_num, HS.out⟩
               case measure => simp [intOf]; omega)
            | (exfalso
               have := HO.out
               simp [okc] at this
               simp at *
               omega)
        · have HO := Lib.hid (TV_bad (n := n) (all_take_bad hlt (by simpa using h0)))
          have HP := Lib.hid h0
          clear h0
          go_wp2
          all_goals first
            | (go_ret
               exact ⟨ret_bool HO.out.symm, rfl⟩)
            | (exfalso
               have := HP.out
               simp [okc] at this
               simp at *
               omega)
      · have he : TV t.data.toList n = true := by
          have := HA.out
          rw [show k = t.size by omega, take_all] at this
          rw [H.out, this]
        have HE := Lib.hid he
        clear he
        go_wp2
        go_ret
        exact ⟨ret_bool HE.out.symm, rfl⟩
  · go_enter Tryd.func73, Tryd.ntmps73
    go_wp2
    go_ret
    exact ⟨ret_bool (TV_ne (by simpa using hl)).symm, rfl⟩

theorem l1In_any (n lo hi : Int) (w : World) :
    Calls Tryd.prog 91 #[.int .i64 n, .int .i64 lo, .int .i64 hi] w fun e w' => e = .returned (.bool (decide (lo ≤ n) && decide (n ≤ hi))) ∧ w = w' := by
  by_cases h1 : lo ≤ n
  · by_cases h2 : n ≤ hi
    · go_enter Tryd.func91, Tryd.ntmps91
      go_wp2
      go_ret
      exact ⟨ret_bool (by simp [h1, h2]), rfl⟩
    · go_enter Tryd.func91, Tryd.ntmps91
      go_wp2
      go_ret
      exact ⟨ret_bool (by simp [h2]), rfl⟩
  · go_enter Tryd.func91, Tryd.ntmps91
    go_wp2
    go_ret
    exact ⟨ret_bool (by rw [show decide (lo ≤ n) = false by simpa using h1]; rfl), rfl⟩

theorem l14Find_any (t : ByteArray) (c : Int) (w : World) (ht : t.size ≤ 9223372036854775807) (hc : 0 ≤ c ∧ c < 256) :
    Calls Tryd.prog 96 #[.string t, .int .u8 c] w fun e w' => e = .returned (.int .i64 (findB t.data.toList c)) ∧ w = w' := by
  obtain ⟨hc0, hc1⟩ := hc
  go_enter Tryd.func96, Tryd.ntmps96
  go_wp2
  go_loop [5] (fun i => ∃ k : Nat, k ≤ t.size ∧ i = .int .i64 k ∧ Hid (∀ x ∈ t.data.toList.take k, ¬ (x.toNat : Int) = c)) (fun i => t.size - (intOf i).toNat)
  case atStart => exact ⟨0, Nat.zero_le _, rfl, Lib.hid (by simp)⟩
  case round =>
    obtain ⟨k, hk, rfl, HA⟩ := hrel
    by_cases hlt : k < t.size
    · by_cases h0 : (t[k].toNat : Int) = c
      · have HO := Lib.hid (findB_at hlt HA.out h0)
        have hb : ((t[k].toNat : Int) == c) = true := by simp [h0]
        have HP := Lib.hid h0
        clear h0
        go_wp2
        go_ret
        exact ⟨ret_int HO.out.symm, rfl⟩
      · have HO := Lib.hid (not_mem_take_snoc hlt HA.out h0)
        have hb : ((t[k].toNat : Int) == c) = false := by simpa using h0
        clear h0
        go_wp2
        go_round
        case rel => exact ⟨k + 1, by omega, by go_num, HO⟩
        case measure => simp [intOf]; omega
    · have HE := Lib.hid (findB_none t.data.toList c (by have := HA.out; rwa [show k = t.size by omega, take_all] at this))
      go_wp2
      go_ret
      exact ⟨ret_int HE.out.symm, rfl⟩

set_option maxHeartbeats 400000 in
theorem sTermValid_any (t : ByteArray) (n : Int) (w : World) (ht : t.size ≤ 9223372036854775807) :
    Calls Tryd.prog 70 #[.string t, .int .i64 n] w fun e w' => e = .returned (.bool (TV t.data.toList n)) ∧ w = w' := by
  go_enter Tryd.func70, Tryd.ntmps70
  go_wp2
  go_loop [5] (fun i => ∃ k : Nat, k ≤ t.size ∧ i = .int .i64 k ∧ (t.data.toList.take k).all okc = true) (fun i => t.size - (intOf i).toNat)
  case atStart => exact ⟨0, Nat.zero_le _, rfl, rfl⟩
  case round =>
    obtain ⟨k, hk, rfl, hall⟩ := hrel
    have HA := Lib.hid hall
    clear hall
    by_cases hlt : k < t.size
    · have hc := l14Find_any ⟨#[42, 48, 49]⟩ t[k].toNat w (by show 3 ≤ _; omega) ⟨by omega, by have := t[k].toNat_lt; omega⟩
      by_cases h0 : okc t[k] = true
      · have hf : ¬ findB [42, 48, 49] (t[k].toNat : Int) < 0 := by rw [find_term]; simp [h0]
        have HS := Lib.hid (all_take_snoc hlt HA.out h0)
        clear h0
        have HC := Lib.hid hc
        clear hc
        go_wp2_with (go_at_call 96; refine HC.out.mono ?_; rintro e w' ⟨rfl, rfl⟩)
        go_round
        case rel => exact ⟨k + 1, by omega, by go_num, HS.out⟩
        case measure => simp [intOf]; omega
      · have hf : findB [42, 48, 49] (t[k].toNat : Int) < 0 := by rw [find_term]; simpa using h0
        have HO := Lib.hid (TV_bad (n := n) (all_take_bad hlt (by simpa using h0)))
        clear h0
        have HC := Lib.hid hc
        clear hc
        go_wp2_with (go_at_call 96; refine HC.out.mono ?_; rintro e w' ⟨rfl, rfl⟩)
        go_ret
        exact ⟨ret_bool HO.out.symm, rfl⟩
    · have hall : t.data.toList.all okc = true := by have := HA.out; rwa [show k = t.size by omega, take_all] at this
      have HX := Lib.hid hall
      clear hall
      by_cases hr : 1 ≤ n ∧ n ≤ 5
      · have hb : (decide (1 ≤ n) && decide (n ≤ 5)) = true := by simp [hr]
        have HC := Lib.hid (l1In_any n 1 5 w)
        rw [hb] at HC
        have HR := Lib.hid hr
        clear hr hb
        by_cases hl : (t.size : Int) = n
        · have hlb : ((t.size : Int) == n) = true := by simp [hl]
          have HL := Lib.hid hl
          clear hl
          go_wp2_with (go_at_call 91; refine HC.out.mono ?_; rintro e w' ⟨rfl, rfl⟩)
          go_ret
          exact ⟨ret_bool (by rw [TV_all (by have := HR.out; omega) (by have := HR.out; omega) (by simpa using HL.out), HX.out]), rfl⟩
        · have hlb : ((t.size : Int) == n) = false := by simpa using hl
          have HL := Lib.hid hl
          clear hl
          go_wp2_with (go_at_call 91; refine HC.out.mono ?_; rintro e w' ⟨rfl, rfl⟩)
          go_ret
          exact ⟨ret_bool (by rw [TV_ne (by simpa using HL.out)]), rfl⟩
      · have hb : (decide (1 ≤ n) && decide (n ≤ 5)) = false := by simp; omega
        have HC := Lib.hid (l1In_any n 1 5 w)
        rw [hb] at HC
        have HR := Lib.hid hr
        clear hr hb
        go_wp2_with (go_at_call 91; refine HC.out.mono ?_; rintro e w' ⟨rfl, rfl⟩)
        go_ret
        exact ⟨ret_bool (by
          have := HR.out
          by_cases h1 : n < 1
          · rw [TV_lo h1]
          · rw [TV_hi (by omega)]), rfl⟩

end Go.Proofs.YtfkdameegljkeaaDoor

/- Walks of the functions on states and hulls. -/
namespace Go.Proofs.YtfkdameegljkeaaDoor
open Go.RowKit

theorem info_u8 : (Tryd.prog.info? 5).map (fun i => (i.zero, i.size, i.bytes)) = some (some (.int .u8 0), 1, 1) := by kernel_rfl
theorem info_int : (Tryd.prog.info? 3).map (fun i => (i.zero, i.size, i.bytes)) = some (some (.int .i64 0), 1, 8) := by kernel_rfl

theorem l1Bit_any (s i : Nat) (w : World) (hs : s < 4294967296) (hi : i < 64) :
    Calls Tryd.prog 103 #[.int .i64 (s : Int), .int .i64 (i : Int)] w fun e w' => e = .returned (.int .i64 (bit s i : Int)) ∧ w = w' := by
  have hb := bit_and s i (by omega)
  go_enter Tryd.func103, Tryd.ntmps103
  go_wp2
  go_ret
  exact ⟨rfl, rfl⟩

set_option maxHeartbeats 400000 in
theorem hasState_any (t : ByteArray) (s : Nat) (w : World) (ht : t.size ≤ 63) (hs : s < 4294967296) (hok : Hid (t.data.toList.all okc = true)) :
    Calls Tryd.prog 99 #[.string t, .int .i64 (s : Int)] w fun e w' => e = .returned (.bool (hasS t.data.toList s)) ∧ ∃ n, w.drewN n = w' := by
  go_enter Tryd.func99, Tryd.ntmps99
  go_wp2
  go_loopw [5] (fun i wr => ∃ k : Nat, k ≤ t.size ∧ i = .int .i64 k ∧ Hid (hasS (t.data.toList.take k) s = true) ∧ ∃ n, wr = w.drewN n) (fun i _ => t.size - (intOf i).toNat)
  case atStart => exact ⟨0, Nat.zero_le _, rfl, Lib.hid rfl, 0, rfl⟩
  case round =>
    obtain ⟨k, hk, rfl, HA, n, rfl⟩ := hrel
    by_cases hlt : k < t.size
    · have hb := bit_and s k (by omega)
      have hb2 : (bit s k : Int) < 2 := by have := bit_lt s k; omega
      have hkc : okc t[k] = true := List.all_eq_true.1 hok.out _ (List.getElem_mem (l := t.data.toList) (by simpa using hlt))
      by_cases h42 : (t[k].toNat : Int) = 42
      · have hd : ((t[k].toNat : Int) != 42) = false := by simp [h42]
        have HF := Lib.hid (hasS_step (s := s) hlt HA.out (by simp [fits]; omega))
        clear h42 hkc
        go_wp2
        go_quiet (fail)
        go_wp2
        go_roundw
        case rel => exact ⟨k + 1, by omega, by go_num, HF, _, rfl⟩
        case measure => simp [intOf]; omega
      · have hd : ((t[k].toNat : Int) != 42) = true := by simpa using h42
        have hr : 48 ≤ (t[k].toNat : Int) ∧ (t[k].toNat : Int) ≤ 49 := by simp [okc] at hkc; omega
        obtain ⟨hr1, hr2⟩ := hr
        by_cases hf : (t[k].toNat : Int) - 48 = bit s k
        · have HF := Lib.hid (hasS_step (s := s) hlt HA.out (by simp [fits]; omega))
          have hd2 : (((t[k].toNat : Int) - 48) != (bit s k : Int)) = false := by simp [hf]
          clear h42 hkc hf
          go_wp2
          go_quiet (fail)
          go_wp2
          go_roundw
          case rel => exact ⟨k + 1, by omega, by go_num, HF, _, rfl⟩
          case measure => simp [intOf]; omega
        · have HF := Lib.hid (hasS_stop (s := s) hlt (by simp [fits]; omega))
          have hd2 : (((t[k].toNat : Int) - 48) != (bit s k : Int)) = true := by simpa using hf
          clear h42 hkc hf
          go_wp2
          go_quiet (fail)
          go_wp2
          go_ret
          exact ⟨ret_bool HF.out.symm, _, (drewN2 _ _ _).symm⟩
    · have HF : Hid (hasS t.data.toList s = true) := Lib.hid (by have := HA.out; rwa [show k = t.size by omega, take_all] at this)
      go_wp2
      go_ret
      exact ⟨ret_bool HF.out.symm, _, rfl⟩

set_option maxHeartbeats 400000 in
theorem l2Has_any (t : ByteArray) (s : Nat) (w : World) (ht : t.size ≤ 63) (hs : s < 4294967296) (hok : Hid (t.data.toList.all okc = true)) :
    Calls Tryd.prog 110 #[.string t, .int .i64 (s : Int)] w fun e w' => e = .returned (.bool (hasS t.data.toList s)) ∧ ∃ n, w.drewN n = w' := by
  go_enter Tryd.func110, Tryd.ntmps110
  go_wp2
  go_loopw [5] (fun i wr => ∃ k : Nat, k ≤ t.size ∧ i = .int .i64 k ∧ Hid (hasS (t.data.toList.take k) s = true) ∧ ∃ n, wr = w.drewN n) (fun i _ => t.size - (intOf i).toNat)
  case atStart => exact ⟨0, Nat.zero_le _, rfl, Lib.hid rfl, 0, rfl⟩
  case round =>
    obtain ⟨k, hk, rfl, HA, n, rfl⟩ := hrel
    by_cases hlt : k < t.size
    · have hb := bit_and s k (by omega)
      have hb2 : (bit s k : Int) < 2 := by have := bit_lt s k; omega
      have hkc : okc t[k] = true := List.all_eq_true.1 hok.out _ (List.getElem_mem (l := t.data.toList) (by simpa using hlt))
      by_cases h42 : (t[k].toNat : Int) = 42
      · have hd : ((t[k].toNat : Int) != 42) = false := by simp [h42]
        have HF := Lib.hid (hasS_step (s := s) hlt HA.out (by simp [fits]; omega))
        clear h42 hkc
        go_wp2
        go_quiet (fail)
        go_wp2
        go_roundw
        case rel => exact ⟨k + 1, by omega, by go_num, HF, _, rfl⟩
        case measure => simp [intOf]; omega
      · have hd : ((t[k].toNat : Int) != 42) = true := by simpa using h42
        have hr : 48 ≤ (t[k].toNat : Int) ∧ (t[k].toNat : Int) ≤ 49 := by simp [okc] at hkc; omega
        obtain ⟨hr1, hr2⟩ := hr
        by_cases hf : (t[k].toNat : Int) - 48 = bit s k
        · have HF := Lib.hid (hasS_step (s := s) hlt HA.out (by simp [fits]; omega))
          have hd2 : (((t[k].toNat : Int) - 48) != (bit s k : Int)) = false := by simp [hf]
          clear h42 hkc hf
          go_wp2
          go_quiet ((go_at_call 103; exact quiet_add_left (l1Bit_any _ _ _ (by omega) (by omega))))
          go_wp2
          go_roundw
          case rel => exact ⟨k + 1, by omega, by go_num, HF, _, rfl⟩
          case measure => simp [intOf]; omega
        · have HF := Lib.hid (hasS_stop (s := s) hlt (by simp [fits]; omega))
          have hd2 : (((t[k].toNat : Int) - 48) != (bit s k : Int)) = true := by simpa using hf
          clear h42 hkc hf
          go_wp2
          go_quiet ((go_at_call 103; exact quiet_add_left (l1Bit_any _ _ _ (by omega) (by omega))))
          go_wp2
          go_ret
          exact ⟨ret_bool HF.out.symm, _, (drewN2 _ _ _).symm⟩
    · have HF : Hid (hasS t.data.toList s = true) := Lib.hid (by have := HA.out; rwa [show k = t.size by omega, take_all] at this)
      go_wp2
      go_ret
      exact ⟨ret_bool HF.out.symm, _, rfl⟩

end Go.Proofs.YtfkdameegljkeaaDoor

/- Walks: slices of integers, the states of a term. -/
namespace Go.Proofs.YtfkdameegljkeaaDoor
open Go.RowKit

theorem clip_any (v : Value) (xs : List Int) (w : World) (B : Nat) (e : TypeId) (h : OI w B e v xs) :
    Calls Tryd.prog 38 #[v] w fun e w' => RetI B xs e w' ∧ w = w' := by
  obtain ⟨A, c, rfl, hc, hO⟩ := h.form
  have hm : xs.length ≤ 9223372036854775807 := by
    rcases h.2 with ⟨_, h0⟩ | ⟨g, cap, cur, _, _, _, hn, hm, _⟩
    · omega
    · simp only [maxLen] at hm; omega
  have HO := Lib.hid hO
  clear hO h
  go_enter Tryd.func38, Tryd.ntmps38
  go_wp2
  go_ret
  exact ⟨⟨A, xs.length, rfl, Nat.le_refl _, HO.out⟩, rfl⟩

theorem stL_of {t : ByteArray} {N : Nat} (h : N = 2 ^ t.size) : stL t.data.toList = sel N (hasS t.data.toList) := by
  rw [stL, h]; simp
theorem l6States_any (t : ByteArray) (w : World) (ht : t.size ≤ 5) (hok : Hid (t.data.toList.all okc = true)) :
    Calls Tryd.prog 97 #[.string t] w fun e w' => RetI w.heap.size (ints (stL t.data.toList)) e w' ∧ Below w.heap.size w w' := by
  obtain ⟨N, HN, hN, hNb, _⟩ := wrap_two t.size ht
  rw [stL_of HN.out]
  go_enter Tryd.func97, Tryd.ntmps97
  go_wp2
  go_loopw [3, 4] (fun v i wr => ∃ k : Nat, k ≤ N ∧ i = .int .i64 k ∧ Hid (OI wr w.heap.size 3 v (ints (sel k (hasS t.data.toList)))) ∧ Below w.heap.size w wr) (fun _ i _ => N - (intOf i).toNat)
  case atStart => exact ⟨0, Nat.zero_le _, rfl, Lib.hid (OI.empty _ _ _ (Nat.le_refl _)), (Below.refl _ _).alloc (Nat.le_refl _) _⟩
  case round =>
    obtain ⟨k, hk, rfl, HO, hB⟩ := hrel
    have hsz := hB.size
    have hlen : (ints (sel k (hasS t.data.toList))).length ≤ k := by rw [ints_length]; exact sel_len _ _
    by_cases hlt : k < N
    · by_cases hs : hasS t.data.toList k = true
      · have HS := Lib.hid (sel_yesI hs)
        go_wp2_with (first
          | (go_at_call 110; refine (l2Has_any _ _ _ (by omega) (by omega) hok).mono ?_; rintro e w2 ⟨rfl, n, rfl⟩)
          | (at_builtin; refine wp_pushI rfl _ _ _ rfl Tryd.underlying25 info_int (HO.out.drewN n) rfl rfl (by omega) hsz ?_; intro v' w3 hown hbel hsz3))
        go_roundw
        case rel => exact ⟨k + 1, by omega, by go_num, Lib.hid (by rw [HS.out]; exact hown), (below_drewN hB _).trans (hbel _ (Nat.le_refl _))⟩
        case measure => simp [intOf]; omega
      · have hs' : hasS t.data.toList k = false := by simpa using hs
        have HS := Lib.hid (sel_noI hs')
        clear hs
        go_wp2_with (go_at_call 110; refine (l2Has_any _ _ _ (by omega) (by omega) hok).mono ?_; rintro e w2 ⟨rfl, n, rfl⟩)
        go_roundw
        case rel => exact ⟨k + 1, by omega, by go_num, Lib.hid (by rw [HS.out]; exact HO.out.drewN n), below_drewN hB _⟩
        case measure => simp [intOf]; omega
    · have hkn : k = N := by omega
      subst hkn
      obtain ⟨A, c, hv, hc, hO⟩ := HO.out.form
      have HV := Lib.hid hv
      clear hv
      go_wp2
      go_ret
      exact ⟨⟨A, c, by rw [← HV.out]; rfl, hc, hO⟩, hB⟩

end Go.Proofs.YtfkdameegljkeaaDoor

/- Walks of the functions on hulls. -/
namespace Go.Proofs.YtfkdameegljkeaaDoor
open Go.RowKit

theorem BytesAt.one (w : World) (c : UInt8) (e : TypeId) : BytesAt (w.alloc (.cells #[.int .u8 (c.toNat : Int)] e)) w.heap.size [c] := by
  intro j hj
  have hj' : j = 0 := by simpa using hj
  subst hj'
  exact ⟨by rw [cell_new]; rfl, frozen_new _ _ _ _⟩
set_option maxRecDepth 100000 in
theorem l14Dec_any (d : Nat) (w : World) (hd : d < 10) :
    Calls Tryd.prog 72 #[.int .i64 (d : Int)] w fun e w' => e = .returned (.string ⟨[chr d].toArray⟩) ∧ Below w.heap.size w w' := by
  have hb := BytesAt.one w (chr d) 5
  have ht := chr_toNat d hd
  rw [ht] at hb
  have hback := conv_back (P := Tryd.prog) _ 22 9 5 w.heap.size 1 1 [chr d] rfl Tryd.underlying22 Tryd.underlying5 Tryd.underlying9 hb
  rw [show (((48 + d : Nat) : Int)) = 48 + (d : Int) by omega] at hback
  clear hb ht
  have h0 : (d : Int) ≤ 9 := by omega
  have h1 : (0 : Int) ≤ (d : Int) := by omega
  go_enter Tryd.func72, Tryd.ntmps72
  go_wp2_with fail
  go_loopw [0, 3] (fun n o wr => n = .int .i64 (d : Int) ∧ o = .string ⟨#[]⟩ ∧ wr = w) (fun _ _ _ => 0)
  case atStart => exact ⟨rfl, rfl, rfl⟩
  case round =>
    obtain ⟨rfl, rfl, rfl⟩ := hrel
    go_wp2
    go_ret
    exact ⟨by rw [show ({ data := #[] } : ByteArray) = ⟨([] : List UInt8).toArray⟩ from rfl, str_append]; rfl, (Below.refl _ _).alloc (Nat.le_refl _) _⟩

end Go.Proofs.YtfkdameegljkeaaDoor

