/- Walks and plain facts, joined: Ma Me La Wt Mb Wh Ws Wu Wd Wb. -/
import Derived.WalkKit
import Derived.WalkSpells
import Derived.WalkLawsBesides
import Derived.Lib.Hide
import Derived.Lib.ConvBytes
import Derived.Deep.QuietTactic
import Derived.Deep.WholeRow
import Derived.Deep.MidRow
import Derived.Laws.ResultCell
import Derived.Test.YtfkdameegljkeaaDoorRows
import Derived.ProofKit
import Derived.OpenShut
import Derived.ShutString
import Derived.ChangeOld
import Derived.Below
import Derived.Test.YtfkdameegljkeaaDoorProg
import Derived.BigQuiet
/- Plain lemmas on bytes, lists and terms; no program is in sight. -/
namespace Go.Proofs.YtfkdameegljkeaaDoor
open Go.RowKit

theorem take_snoc (s : ByteArray) (k : Nat) (h : k < s.size) : s.data.toList.take (k + 1) = s.data.toList.take k ++ [s[k]] := by
  rw [List.take_succ_eq_append_getElem (by simpa using h)]; rfl
theorem ret_bool {a b : Bool} (h : a = b) : Ending.returned (.bool a) = .returned (.bool b) := by rw [h]
theorem ret_int {k : IntKind} {a b : Int} (h : a = b) : Ending.returned (.int k a) = .returned (.int k b) := by rw [h]
theorem val_bool {a b : Bool} (h : a = b) : Value.bool a = .bool b := by rw [h]
theorem val_int {k : IntKind} {a b : Int} (h : a = b) : Value.int k a = .int k b := by rw [h]

/-- the bytes '0', '1' and '*' -/
def okc (c : UInt8) : Bool := c.toNat == 48 || c.toNat == 49 || c.toNat == 42
/-- what TermValid answers -/
def TV (l : List UInt8) (n : Int) : Bool := decide (1 ≤ n) && decide (n ≤ 5) && decide ((l.length : Int) = n) && l.all okc
theorem TV_lo {l : List UInt8} {n : Int} (h : n < 1) : TV l n = false := by simp [TV]; omega
theorem TV_hi {l : List UInt8} {n : Int} (h : 5 < n) : TV l n = false := by simp [TV]; omega
theorem TV_ne {l : List UInt8} {n : Int} (h : ¬ (l.length : Int) = n) : TV l n = false := by simp [TV]; omega
theorem TV_all {l : List UInt8} {n : Int} (h1 : ¬ n < 1) (h5 : ¬ 5 < n) (h : (l.length : Int) = n) : TV l n = l.all okc := by
  simp [TV, h, show 1 ≤ n by omega, show n ≤ 5 by omega]
theorem TV_bad {l : List UInt8} {n : Int} (h : l.all okc = false) : TV l n = false := by simp [TV, h]
theorem TV_true {l : List UInt8} {n : Int} (h : TV l n = true) : 1 ≤ n ∧ n ≤ 5 ∧ (l.length : Int) = n ∧ ∀ c ∈ l, okc c = true := by
  simp [TV] at h; exact ⟨h.1.1.1, h.1.1.2, h.1.2, h.2⟩
theorem all_take_bad {p : UInt8 → Bool} {s : ByteArray} {k : Nat} (h : k < s.size) (hp : p s[k] = false) : s.data.toList.all p = false := by
  have hm : s[k] ∈ s.data.toList := by
    have : s[k] = s.data.toList[k]'(by simpa using h) := rfl
    rw [this]; exact List.getElem_mem _
  by_cases hh : s.data.toList.all p = true
  · have := List.all_eq_true.1 hh _ hm; rw [this] at hp; cases hp
  · simpa using hh
theorem all_take_snoc {p : UInt8 → Bool} {s : ByteArray} {k : Nat} (h : k < s.size) (ha : (s.data.toList.take k).all p = true) (hp : p s[k] = true) :
    (s.data.toList.take (k + 1)).all p = true := by
  rw [take_snoc s k h, List.all_append, ha]; simp [hp]
theorem take_all (s : ByteArray) : s.data.toList.take s.size = s.data.toList := List.take_of_length_le (by simp)
theorem okc_of {c : UInt8} (h : c.toNat = 48 ∨ c.toNat = 49 ∨ c.toNat = 42) : okc c = true := by rcases h with h | h | h <;> simp [okc, h]
theorem okc_not {c : UInt8} (h0 : ¬ c.toNat = 48) (h1 : ¬ c.toNat = 49) (h2 : ¬ c.toNat = 42) : okc c = false := by simp [okc, h0, h1, h2]

/-- where a byte stands, or -1 -/
def findB (l : List UInt8) (c : Int) : Int := match l with
  | [] => -1
  | x :: r => if (x.toNat : Int) = c then 0 else if findB r c < 0 then -1 else findB r c + 1
theorem findB_ge (l : List UInt8) (c : Int) : -1 ≤ findB l c ∧ findB l c < l.length := by
  induction l with
  | nil => simp [findB]
  | cons x r ih =>
    simp only [findB, List.length_cons]
    split
    · omega
    · split <;> omega
theorem findB_append (a b : List UInt8) (c : Int) (h : ∀ x ∈ a, ¬ (x.toNat : Int) = c) :
    findB (a ++ b) c = if findB b c < 0 then -1 else findB b c + a.length := by
  induction a with
  | nil =>
    have := findB_ge b c
    simp
    omega
  | cons x r ih =>
    have ih' := ih (fun y hy => h y (List.mem_cons_of_mem _ hy))
    have hx := h x List.mem_cons_self
    have := findB_ge b c
    simp only [List.cons_append, findB, hx, if_false, ih', List.length_cons]
    by_cases hb : findB b c < 0
    · simp [hb]
    · simp only [hb, if_false]; rw [if_neg (by omega)]; omega
theorem findB_none (a : List UInt8) (c : Int) (h : ∀ x ∈ a, ¬ (x.toNat : Int) = c) : findB a c = -1 := by
  have := findB_append a [] c h; simpa [findB] using this
theorem findB_at {s : ByteArray} {k : Nat} {c : Int} (hk : k < s.size) (h : ∀ x ∈ s.data.toList.take k, ¬ (x.toNat : Int) = c) (hc : (s[k].toNat : Int) = c) :
    findB s.data.toList c = k := by
  have e : s.data.toList = s.data.toList.take k ++ (s[k] :: s.data.toList.drop (k + 1)) := by
    have : s[k] = s.data.toList[k]'(by simpa using hk) := rfl
    rw [this, List.getElem_cons_drop, List.take_append_drop]
  rw [e, findB_append _ _ _ h]
  have hl : (s.data.toList.take k).length = k := by rw [List.length_take]; have : s.data.toList.length = s.size := by simp
                                                    omega
  simp [findB, hc, hl]
theorem not_mem_take_snoc {s : ByteArray} {k : Nat} {c : Int} (hk : k < s.size) (h : ∀ x ∈ s.data.toList.take k, ¬ (x.toNat : Int) = c) (hc : ¬ (s[k].toNat : Int) = c) :
    ∀ x ∈ s.data.toList.take (k + 1), ¬ (x.toNat : Int) = c := by
  rw [take_snoc s k hk]
  intro x hx
  rcases List.mem_append.1 hx with hx | hx
  · exact h x hx
  · simp at hx; rw [hx]; exact hc
theorem find_cons (x : UInt8) (r : List UInt8) (c : Int) : findB (x :: r) c = if (x.toNat : Int) = c then 0 else if findB r c < 0 then -1 else findB r c + 1 := rfl
theorem find_term (c : UInt8) : findB [42, 48, 49] (c.toNat : Int) < 0 ↔ okc c = false := by
  have e42 : (((42 : UInt8).toNat : Nat) : Int) = 42 := rfl
  have e48 : (((48 : UInt8).toNat : Nat) : Int) = 48 := rfl
  have e49 : (((49 : UInt8).toNat : Nat) : Int) = 49 := rfl
  have h3 : findB [] (c.toNat : Int) = -1 := rfl
  have h2 := find_cons 49 [] (c.toNat : Int)
  have h1 := find_cons 48 [49] (c.toNat : Int)
  have h0 := find_cons 42 [48, 49] (c.toNat : Int)
  rw [h3, e49] at h2
  rw [e48] at h1
  rw [e42] at h0
  have ho : okc c = false ↔ ¬ (c.toNat = 48 ∨ c.toNat = 49 ∨ c.toNat = 42) := by
    rw [← Bool.not_eq_true]; simp [okc]; omega
  rw [ho]
  split at h0 <;> split at h1 <;> split at h2 <;> (try split at h0) <;> (try split at h1) <;> omega

/-- MeetTerms, byte by byte -/
def meetC (c d : UInt8) : Option UInt8 := if c.toNat = 42 then some d else if d.toNat = 42 ∨ d = c then some c else none
def meetL : List UInt8 → List UInt8 → Option (List UInt8)
  | c :: t, d :: u => match meetC c d, meetL t u with
    | some x, some r => some (x :: r)
    | _, _ => none
  | _, _ => some []
theorem meetL_snoc (t u p : List UInt8) (c d x : UInt8) (hl : t.length = u.length) (h : meetL t u = some p) (hx : meetC c d = some x) :
    meetL (t ++ [c]) (u ++ [d]) = some (p ++ [x]) := by
  induction t generalizing u p with
  | nil =>
    have : u = [] := List.eq_nil_of_length_eq_zero (by simpa using hl.symm)
    subst this
    simp only [meetL, Option.some.injEq] at h
    subst h
    simp [meetL, hx]
  | cons a t ih =>
    cases u with
    | nil => simp at hl
    | cons b u =>
      simp only [meetL, List.cons_append] at h ⊢
      cases hab : meetC a b with
      | none => simp [hab] at h
      | some y =>
        cases htu : meetL t u with
        | none => simp [hab, htu] at h
        | some r =>
          simp only [hab, htu, Option.some.injEq] at h
          subst h
          rw [ih u r (by simpa using hl) htu]
          simp
theorem meetL_none (t u : List UInt8) (k : Nat) (ht : k < t.length) (hu : k < u.length) (h : meetC t[k] u[k] = none) : meetL t u = none := by
  induction t generalizing u k with
  | nil => simp at ht
  | cons a t ih =>
    cases u with
    | nil => simp at hu
    | cons b u =>
      cases k with
      | zero =>
        simp only [List.getElem_cons_zero] at h
        simp [meetL, h]
      | succ k =>
        simp only [List.getElem_cons_succ] at h
        simp only [meetL]
        rw [ih u k (by simpa using ht) (by simpa using hu) h]
        cases meetC a b <;> rfl
theorem meetL_length (t u p : List UInt8) (hl : t.length = u.length) (h : meetL t u = some p) : p.length = t.length := by
  induction t generalizing u p with
  | nil => cases u <;> simp [meetL] at h <;> simp [h]
  | cons a t ih =>
    cases u with
    | nil => simp at hl
    | cons b u =>
      simp only [meetL] at h
      cases hab : meetC a b with
      | none => simp [hab] at h
      | some y =>
        cases htu : meetL t u with
        | none => simp [hab, htu] at h
        | some r =>
          simp only [hab, htu, Option.some.injEq] at h
          subst h
          simp [ih u r (by simpa using hl) htu]
/-- what MeetTerms answers: the text, and whether there is one -/
def MT (t u : List UInt8) : Option (List UInt8) := if TV t t.length && TV u t.length then meetL t u else none
def optT (o : Option (List UInt8)) : Value := .tuple #[.string ⟨(o.getD []).toArray⟩, .bool o.isSome]
theorem MT_no1 {t u : List UInt8} (h : TV t t.length = false) : MT t u = none := by simp [MT, h]
theorem MT_no2 {t u : List UInt8} (h : TV u t.length = false) : MT t u = none := by simp [MT, h]
theorem MT_yes {t u : List UInt8} (h1 : TV t t.length = true) (h2 : TV u t.length = true) : MT t u = meetL t u := by simp [MT, h1, h2]
theorem str_append (a b : List UInt8) : (⟨a.toArray⟩ : ByteArray) ++ ⟨b.toArray⟩ = ⟨(a ++ b).toArray⟩ := by
  apply ByteArray.ext; simp
theorem str_ext1 (p : List UInt8) (u : ByteArray) (k : Nat) (h : k < u.size) : (⟨p.toArray⟩ : ByteArray) ++ u.extract k (k + 1) = ⟨(p ++ [u[k]]).toArray⟩ := by
  apply ByteArray.ext
  apply Array.ext'
  simp only [ByteArray.data_append, Array.toList_append, ByteArray.data_extract, Array.toList_extract, List.extract_eq_take_drop]
  congr 1
  have hd : (u.data.toList.drop k).take 1 = [u[k]] := by
    rw [List.drop_eq_getElem_cons (by simpa using h)]
    rfl
  rw [show k + 1 - k = 1 by omega, hd]
theorem meet_step {t u : ByteArray} {k : Nat} {p : List UInt8} {x : UInt8} (ht : k < t.size) (hu : k < u.size) (h : meetL (t.data.toList.take k) (u.data.toList.take k) = some p)
    (hx : meetC t[k] u[k] = some x) : meetL (t.data.toList.take (k + 1)) (u.data.toList.take (k + 1)) = some (p ++ [x]) := by
  rw [take_snoc t k ht, take_snoc u k hu]
  have h1 : t.data.toList.length = t.size := by simp
  have h2 : u.data.toList.length = u.size := by simp
  exact meetL_snoc _ _ _ _ _ _ (by rw [List.length_take, List.length_take]; omega) h hx
theorem meet_stop {t u : ByteArray} {k : Nat} (ht : k < t.size) (hu : k < u.size) (h : meetC t[k] u[k] = none) : meetL t.data.toList u.data.toList = none :=
  meetL_none _ _ k (by simpa using ht) (by simpa using hu) h
theorem meet_len {t u : ByteArray} {k : Nat} {p : List UInt8} (ht : k ≤ t.size) (hu : k ≤ u.size) (h : meetL (t.data.toList.take k) (u.data.toList.take k) = some p) : p.length = k := by
  have h1 : t.data.toList.length = t.size := by simp
  have h2 : u.data.toList.length = u.size := by simp
  rw [meetL_length _ _ _ (by rw [List.length_take, List.length_take]; omega) h, List.length_take]; omega
theorem meetC_a {c d : UInt8} (h : (c.toNat : Int) = 42) : meetC c d = some d := by simp [meetC, show c.toNat = 42 by omega]
theorem meetC_b {c d : UInt8} (h : ¬ (c.toNat : Int) = 42) (h2 : (d.toNat : Int) = 42) : meetC c d = some c := by simp [meetC, show ¬ c.toNat = 42 by omega, show d.toNat = 42 by omega]
theorem meetC_c {c d : UInt8} (h : ¬ (c.toNat : Int) = 42) (h2 : (d.toNat : Int) = c.toNat) : meetC c d = some c := by
  have : d = c := UInt8.toNat_inj.1 (by omega)
  simp [meetC, show ¬ c.toNat = 42 by omega, this]
theorem meetC_d {c d : UInt8} (h : ¬ (c.toNat : Int) = 42) (h1 : ¬ (d.toNat : Int) = 42) (h2 : ¬ (d.toNat : Int) = c.toNat) : meetC c d = none := by
  have : ¬ d = c := fun e => h2 (by rw [e])
  simp [meetC, show ¬ c.toNat = 42 by omega, show ¬ d.toNat = 42 by omega, this]
end Go.Proofs.YtfkdameegljkeaaDoor

/- Words for memory: rows of bytes, slices that read as lists. Over any program. -/
namespace Go.Proofs.YtfkdameegljkeaaDoor
open Go.RowKit

/-- block g holds the bytes l from its head on, and they may be written -/
def BytesAt (w : World) (g : Nat) (l : List UInt8) : Prop := ∀ j (h : j < l.length), w.cell? ⟨g, j, none⟩ = some (.int .u8 (l[j].toNat : Int)) ∧ w.frozen? ⟨g, j, none⟩ = false
theorem BytesAt.at_ {w : World} {g : Nat} {l : List UInt8} (h : BytesAt w g l) {j : Nat} {c : UInt8} (hj : l[j]? = some c) :
    w.cell? ⟨g, j, none⟩ = some (.int .u8 (c.toNat : Int)) ∧ w.frozen? ⟨g, j, none⟩ = false := by
  obtain ⟨hl, rfl⟩ := List.getElem?_eq_some_iff.1 hj
  exact h j hl
theorem BytesAt.set_ {w : World} {g : Nat} {l : List UInt8} (h : BytesAt w g l) (k : Nat) (c : UInt8) : BytesAt (w.setCell ⟨g, k, none⟩ (.int .u8 (c.toNat : Int))) g (l.set k c) := by
  intro j hj
  have hj' : j < l.length := by simpa using hj
  obtain ⟨h1, h2⟩ := h j hj'
  refine ⟨?_, ?_⟩
  · by_cases e : k = j
    · subst e
      simp only [List.getElem_set_self]
      unfold World.cell? at h1 ⊢
      simp only [World.setCell, Array.getElem?_modify] at h1 ⊢
      cases hb : w.heap[g]? with
      | none => simp [hb] at h1
      | some o =>
        cases o <;> simp [hb] at h1 ⊢
        simp [(Array.getElem?_eq_some_iff.1 h1).1]
    · rw [List.getElem_set_ne e, World.cell?_setCell_other _ _ _ _ (by intro x; injection x with _ x; exact e x), h1]
  · rw [World.frozen?_setCell]; exact h2
theorem BytesAt.keep {w w' : World} {g : Nat} {l : List UInt8} (h : BytesAt w g l) (e : w'.heap[g]? = w.heap[g]?) : BytesAt w' g l := fun j hj =>
  ⟨(World.cell?_of_block (w := w) (a := ⟨g, j, none⟩) e).trans (h j hj).1, (World.frozen?_of_block (w := w) (a := ⟨g, j, none⟩) e).trans (h j hj).2⟩
theorem BytesAt.drewN {w : World} {g : Nat} {l : List UInt8} (h : BytesAt w g l) (n : Nat) : BytesAt (w.drewN n) g l := h
theorem cell_setCell_same {w : World} {a : Addr} {u v : Value} (h : w.cell? a = some v) : (w.setCell a u).cell? a = some u := by
  obtain ⟨g, k, sp⟩ := a
  unfold World.cell? at h ⊢
  simp only [World.setCell, Array.getElem?_modify] at h ⊢
  cases hb : w.heap[g]? with
  | none => simp [hb] at h
  | some o =>
    cases o <;> simp [hb] at h ⊢
    obtain ⟨rfl, h⟩ := h
    simp [(Array.getElem?_eq_some_iff.1 h).1]
theorem drewN2 (w : World) (a b : Nat) : (w.drewN a).drewN b = w.drewN (a + b) := by simp [World.drewN, Nat.add_assoc]
theorem drewN_below {B : Nat} (w : World) (n : Nat) : Below B w (w.drewN n) := below_drewN (Below.refl _ _) n
theorem drewN_size (w : World) (n : Nat) : (w.drewN n).heap.size = w.heap.size := rfl
theorem setCell_size (w : World) (a : Addr) (v : Value) : (w.setCell a v).heap.size = w.heap.size := by simp [World.setCell]

/-! a quiet call inside a region that draws its order; the contracts here say 'w = w'' -/
theorem quiet_left {P : Program} {f : FuncId} {args : Array Value} {w : World} {n : Nat} {v : Value}
    (h : Calls P f args (w.drewN n) fun e w' => e = .returned v ∧ w.drewN n = w') : Calls P f args (w.drewN n) fun e w' => e = .returned v ∧ ∃ m, w' = w.drewN m :=
  h.mono fun _ _ ⟨he, hm⟩ => ⟨he, n, hm.symm⟩
theorem quiet_left2 {P : Program} {f : FuncId} {args : Array Value} {w : World} {n : Nat} {v : Value}
    (h : Calls P f args (w.drewN n) fun e w' => e = .returned v ∧ ∃ m, (w.drewN n).drewN m = w') : Calls P f args (w.drewN n) fun e w' => e = .returned v ∧ ∃ m, w' = w.drewN m :=
  h.mono fun _ _ ⟨he, m, hm⟩ => ⟨he, n + m, by rw [← hm, drewN2]⟩
theorem quiet_add_left {P : Program} {f : FuncId} {args : Array Value} {w : World} {a n : Nat} {v : Value}
    (h : Calls P f args (w.drewN (a + n)) fun e w' => e = .returned v ∧ w.drewN (a + n) = w') :
    Calls P f args (w.drewN (a + n)) fun e w' => e = .returned v ∧ ∃ m, w' = w.drewN (a + m) :=
  h.mono fun _ _ ⟨he, hm⟩ => ⟨he, n, hm.symm⟩
/-- []byte(s) -/
theorem conv_bytes {P : Program} (w : World) (src dst e : TypeId) (s : ByteArray) (hs : P.underlying src = some .string) (hd : P.underlying dst = some (.slice e)) (he : P.underlying e = some (.int .u8)) :
    ∃ (c : Nat) (W1 : World), (convert src dst (.string s)).run P w = .ok (.slice (some ⟨w.heap.size, 0, none⟩) s.size c) W1 ∧ Below w.heap.size w W1 ∧ w.heap.size < W1.heap.size ∧ Hid (BytesAt W1 w.heap.size s.data.toList) := by
  refine ⟨_, _, Lib.run_convert_string_bytes w src dst e s hs hd he, ⟨?_, ?_, ?_, ?_, fun k hk => Lib.bytesWorld_at_old w e s k hk⟩, ?_, Lib.hid fun j hj => ⟨?_, ?_⟩⟩
  · simp [Lib.bytesWorld, World.freeze, World.alloc, World.drew, -World.alloc_eq, -World.drew_eq]
  · simp [Lib.bytesWorld, World.freeze, World.alloc, World.drew, -World.alloc_eq, -World.drew_eq]
  · simp [Lib.bytesWorld, World.freeze, World.alloc, World.drew, -World.alloc_eq, -World.drew_eq]
  · rw [Lib.bytesWorld_size]; omega
  · rw [Lib.bytesWorld_size]; omega
  · have hj' : j < s.size := by simpa using hj
    rw [Lib.bytesWorld_cell w e s j hj']
    simp [List.getD, hj']
  · have hj' : j < s.size := by simpa using hj
    simp only [World.frozen?, Lib.bytesWorld_at_new]
    simp [Lib.bytesCells]
    omega
/-- string(b) -/
theorem conv_back {P : Program} (w : World) (src dst e : TypeId) (g n c : Nat) (l : List UInt8) (hn : n = l.length) (hs : P.underlying src = some (.slice e)) (he : P.underlying e = some (.int .u8)) (hd : P.underlying dst = some .string)
    (h : BytesAt w g l) : (convert src dst (.slice (some ⟨g, 0, none⟩) n c)).run P w = .ok (.string ⟨l.toArray⟩) w := by
  subst hn
  refine run_convert_bytes_back w src dst e _ c l hs he hd fun j hj => ?_
  have : (⟨g, 0, none⟩ : Addr).add j = ⟨g, j, none⟩ := by unfold Addr.add; split <;> simp_all
  rw [this]
  exact (h j hj).1
/-- make([]byte, n), make([]int, n): an equation for every world -/
theorem make_row {P : Program} {t e : TypeId} {z : Value} {bytes : Nat} (ht : P.underlying t = some (.slice e)) (hinf : (P.info? e).map (fun i => (i.zero, i.size, i.bytes)) = some (some z, 1, bytes)) (hz : z.cells = #[z])
    (n : Nat) (hb : bytes * n ≤ 281474976710656) (hn : n ≤ 9223372036854775807) (w : World) :
    (Instr.makeSlice t (.int .i64 (n : Int)) (.int .i64 (n : Int))).run P w = .ok (.slice (some ⟨w.heap.size, 0, none⟩) n n) (w.alloc (.cells (Array.replicate n z) e)) := by
  obtain ⟨i, hi, hiz, his, hib⟩ := info_parts hinf
  have hb' : (i.bytes : Int) * (n : Int) ≤ 281474976710656 := by
    have h : ((i.bytes * n : Nat) : Int) ≤ 281474976710656 := by rw [hib]; omega
    rwa [Int.natCast_mul] at h
  have hr := run_make (P := P) w t e i z ht hi hiz .i64 .i64 n n (by omega) (by omega) hb' (by omega)
  simp only [Int.toNat_natCast, his, Nat.mul_one, hz] at hr
  rw [hr]
  have e : madeCells #[z] n = Array.replicate n z := by
    apply Array.ext
    · simp [madeCells]
    · intro i h1 h2
      simp only [madeCells, Array.getElem_map, Array.getElem_replicate]
      simp [Nat.mod_one]
  rw [e]
/-- a new block -/
theorem cell_new (w : World) (C : Array Value) (e : TypeId) (j : Nat) : (w.alloc (.cells C e)).cell? ⟨w.heap.size, j, none⟩ = C[j]? := by
  rw [cell_of_row _ _ j C e (0, 0) (heap_alloc_new w _)]
theorem frozen_new (w : World) (C : Array Value) (e : TypeId) (j : Nat) : (w.alloc (.cells C e)).frozen? ⟨w.heap.size, j, none⟩ = false := by
  have := heap_alloc_new w (.cells C e)
  unfold World.frozen?
  rw [this]
  simp
theorem BytesAt.made (w : World) (n : Nat) (e : TypeId) : BytesAt (w.alloc (.cells (Array.replicate n (.int .u8 0)) e)) w.heap.size (List.replicate n 0) := by
  intro j hj
  have hj' : j < n := by simpa using hj
  exact ⟨by rw [cell_new]; simp [hj'], frozen_new _ _ _ _⟩
theorem alloc_size (w : World) (o : Obj) : (w.alloc o).heap.size = w.heap.size + 1 := by simp
/-! Slices: the address A leads to the cells vs. -/
def Rd (w : World) (A : Option Addr) (vs : List Value) : Prop :=
  vs = [] ∨ ∃ g off, A = some ⟨g, off, none⟩ ∧ ∀ j v, vs[j]? = some v → w.cell? ⟨g, off + j, none⟩ = some v
/-- ... in a block from B on, and they may be written -/
def Own (w : World) (B : Nat) (A : Option Addr) (vs : List Value) : Prop :=
  vs = [] ∨ ∃ g off, A = some ⟨g, off, none⟩ ∧ B ≤ g ∧ ∀ j v, vs[j]? = some v → w.cell? ⟨g, off + j, none⟩ = some v ∧ w.frozen? ⟨g, off + j, none⟩ = false
section
variable {w w' : World} {B B' : Nat} {A : Option Addr} {vs : List Value}
theorem Rd.nil (w : World) (A : Option Addr) : Rd w A [] := .inl rfl
theorem Own.nil (w : World) (B : Nat) (A : Option Addr) : Own w B A [] := .inl rfl
theorem Own.rd (h : Own w B A vs) : Rd w A vs := by
  rcases h with h | ⟨g, off, hA, _, hc⟩
  · exact .inl h
  · exact .inr ⟨g, off, hA, fun j v hj => (hc j v hj).1⟩
theorem Own.mono (h : Own w B A vs) (hB : B' ≤ B) : Own w B' A vs := by
  rcases h with h | ⟨g, off, hA, hg, hc⟩
  · exact .inl h
  · exact .inr ⟨g, off, hA, Nat.le_trans hB hg, hc⟩
theorem Rd.below (h : Rd w A vs) (hb : Below w.heap.size w w') : Rd w' A vs := by
  rcases h with h | ⟨g, off, hA, hc⟩
  · exact .inl h
  · exact .inr ⟨g, off, hA, fun j v hj => (hb.cell (World.block_lt_of_cell? w _ (hc j v hj))).trans (hc j v hj)⟩
theorem Own.below (h : Own w B A vs) (hb : Below w.heap.size w w') : Own w' B A vs := by
  rcases h with h | ⟨g, off, hA, hg, hc⟩
  · exact .inl h
  · refine .inr ⟨g, off, hA, hg, fun j v hj => ?_⟩
    have hlt := World.block_lt_of_cell? w _ (hc j v hj).1
    exact ⟨(hb.cell hlt).trans (hc j v hj).1, (hb.frozen hlt).trans (hc j v hj).2⟩
theorem Rd.at_ {k : Nat} {v : Value} (h : Rd w A vs) (hk : vs[k]? = some v) : ∃ g off, A = some ⟨g, off, none⟩ ∧ w.cell? ⟨g, off + k, none⟩ = some v := by
  rcases h with h | ⟨g, off, hA, hc⟩
  · subst h; simp at hk
  · exact ⟨g, off, hA, hc k v hk⟩
theorem Own.at_ {k : Nat} {v : Value} (h : Own w B A vs) (hk : vs[k]? = some v) : ∃ g off, A = some ⟨g, off, none⟩ ∧ B ≤ g ∧ w.cell? ⟨g, off + k, none⟩ = some v ∧ w.frozen? ⟨g, off + k, none⟩ = false := by
  rcases h with h | ⟨g, off, hA, hg, hc⟩
  · subst h; simp at hk
  · exact ⟨g, off, hA, hg, hc k v hk⟩
theorem Rd.int {k : IntKind} {xs : List Int} {j : Nat} (h : Rd w A (xs.map (Value.int k))) (hj : j < xs.length) : ∃ g off, A = some ⟨g, off, none⟩ ∧ w.cell? ⟨g, off + j, none⟩ = some (.int k xs[j]) :=
  h.at_ (by simp [hj])
theorem Own.int {k : IntKind} {xs : List Int} {j : Nat} (h : Own w B A (xs.map (Value.int k))) (hj : j < xs.length) : ∃ g off, A = some ⟨g, off, none⟩ ∧ B ≤ g ∧ w.cell? ⟨g, off + j, none⟩ = some (.int k xs[j]) ∧ w.frozen? ⟨g, off + j, none⟩ = false :=
  h.at_ (by simp [hj])
theorem Rd.str {xs : List ByteArray} {j : Nat} (h : Rd w A (xs.map Value.string)) (hj : j < xs.length) : ∃ g off, A = some ⟨g, off, none⟩ ∧ w.cell? ⟨g, off + j, none⟩ = some (.string xs[j]) :=
  h.at_ (by simp [hj])
theorem Rd.cell {g off k : Nat} {v : Value} (h : Rd w (some ⟨g, off, none⟩) vs) (hk : vs[k]? = some v) : w.cell? ⟨g, off + k, none⟩ = some v := by
  obtain ⟨g', off', hA, hc⟩ := h.at_ hk
  injection hA with hA
  injection hA with h1 h2
  subst h1; subst h2
  exact hc
theorem Own.cell {g off k : Nat} {v : Value} (h : Own w B (some ⟨g, off, none⟩) vs) (hk : vs[k]? = some v) : w.cell? ⟨g, off + k, none⟩ = some v ∧ w.frozen? ⟨g, off + k, none⟩ = false := by
  obtain ⟨g', off', hA, _, hc⟩ := h.at_ hk
  injection hA with hA
  injection hA with h1 h2
  subst h1; subst h2
  exact hc
theorem Own.made (w : World) (n : Nat) (z : Value) (e : TypeId) {vs : List Value} (hv : vs = List.replicate n z) : Own (w.alloc (.cells (Array.replicate n z) e)) w.heap.size (some ⟨w.heap.size, 0, none⟩) vs := by
  subst hv
  refine .inr ⟨_, 0, rfl, Nat.le_refl _, fun j v hj => ?_⟩
  rw [Nat.zero_add, cell_new, frozen_new]
  refine ⟨?_, rfl⟩
  rw [List.getElem?_replicate] at hj
  split at hj
  · rename_i h; simpa [h] using hj
  · cases hj
theorem Own.lit (w : World) (e : TypeId) (vs : List Value) {B : Nat} (hB : B ≤ w.heap.size) : Own (w.alloc (.cells vs.toArray e)) B (some ⟨w.heap.size, 0, none⟩) vs := by
  refine .inr ⟨_, 0, rfl, hB, fun j v hj => ?_⟩
  rw [Nat.zero_add, cell_new, frozen_new]
  exact ⟨by simpa using hj, rfl⟩
/-- what is owned by the append laws' word is owned by this one -/
theorem Own.of_own {e : TypeId} {n c : Nat} (h : w.ownsRow B e 1 (.slice A n c) n vs) : Own w B A vs := by
  rcases h.2 with ⟨hv, rfl⟩ | ⟨g, cap, cur, hv, hB, hg, hn, _, hsz, htake⟩
  · left; exact List.eq_nil_of_length_eq_zero (by simpa using h.1)
  · injection hv with hA _ _
    refine .inr ⟨g, 0, hA, hB, fun j v hj => ?_⟩
    rw [Nat.zero_add, cell_of_row w g j cur e (0, 0) hg]
    refine ⟨?_, by simp [World.frozen?, hg]⟩
    rw [← htake, List.getElem?_take] at hj
    split at hj
    · simpa using hj
    · cases hj
/-- a store at the place k -/
theorem Own.set_ {k : Nat} {v u : Value} {g off : Nat} (h : Own w B (some ⟨g, off, none⟩) vs) (hk : vs[k]? = some v) :
    Own (w.setCell ⟨g, off + k, none⟩ u) B (some ⟨g, off, none⟩) (vs.set k u) := by
  rcases h with h | ⟨g', off', hA, hg, hc⟩
  · subst h; simp at hk
  · injection hA with hA
    injection hA with h1 h2
    subst h1; subst h2
    refine .inr ⟨g, off, rfl, hg, fun j x hj => ?_⟩
    rw [World.frozen?_setCell]
    rw [List.getElem?_set] at hj
    split at hj
    · subst k
      split at hj
      · injection hj with hj
        subst hj
        exact ⟨cell_setCell_same (hc j v hk).1, (hc j v hk).2⟩
      · cases hj
    · rename_i hne
      rw [World.cell?_setCell_other _ _ _ _ (by intro x; injection x with _ x; omega)]
      exact hc j x hj
end

/-! append of one element to a row of the call's own -/
/-- the value v is the call's own slice of the integers xs -/
def OI (w : World) (B : Nat) (e : TypeId) (v : Value) (xs : List Int) : Prop := w.ownsRow B e 1 v xs.length (xs.map (Value.int .i64))
theorem OI.nil (w : World) (B : Nat) (e : TypeId) : OI w B e (.slice none 0 0) [] := World.ownsRow_nil w B e 1
theorem OI.empty (w : World) (B : Nat) (e : TypeId) (hB : B ≤ w.heap.size) : OI (w.alloc (.cells #[] e)) B e (.slice (some ⟨w.heap.size, 0, none⟩) 0 0) [] :=
  World.ownsRow_made w #[] 0 hB (Nat.zero_le _) rfl
theorem ownsRow_below {w w' : World} {B : Nat} {e : TypeId} {sz n : Nat} {v : Value} {vs : List Value} (h : w.ownsRow B e sz v n vs) (hb : Below w.heap.size w w') : w'.ownsRow B e sz v n vs := by
  refine ⟨h.1, ?_⟩
  rcases h.2 with hn | ⟨g, cap, cur, rfl, hB, hg, rest⟩
  · exact .inl hn
  · exact .inr ⟨g, cap, cur, rfl, hB, by rw [hb.block g (Array.getElem?_eq_some_iff.1 hg).1]; exact hg, rest⟩
theorem OI.below {w w' : World} {B : Nat} {e : TypeId} {v : Value} {xs : List Int} (h : OI w B e v xs) (hb : Below w.heap.size w w') : OI w' B e v xs := ownsRow_below h hb
theorem OI.drewN {w : World} {B : Nat} {e : TypeId} {v : Value} {xs : List Int} (h : OI w B e v xs) (n : Nat) : OI (w.drewN n) B e v xs := h
/-- what was handed back -/
theorem OI.form {w : World} {B : Nat} {e : TypeId} {v : Value} {xs : List Int} (h : OI w B e v xs) : ∃ A c, v = .slice A xs.length c ∧ xs.length ≤ c ∧ Own w B A (xs.map (Value.int .i64)) := by
  rcases h.2 with ⟨rfl, h0⟩ | ⟨g, cap, cur, rfl, hB, hg, hn, rest⟩
  · exact ⟨none, 0, by rw [h0], by omega, .inl (by rw [List.eq_nil_of_length_eq_zero h0]; rfl)⟩
  · exact ⟨_, cap, rfl, hn, Own.of_own h⟩

theorem wp_push {P : Program} {wr : World} {ops : Array Oper} {rest : List Oper} {o : Oper} {a : Act} {Q : Exit → Act → World → Prop} (hgd : o.guard = none) (s x : Operand) (t : TypeId)
    (ho : o.op = .call { callee := .builtin .append, args := #[s, x], argTypes := #[t, t] })
    {B e bytes : Nat} {z : Value} (ht : P.underlying t = some (.slice e)) (hinf : (P.info? e).map (fun i => (i.zero, i.size, i.bytes)) = some (some z, 1, bytes)) (hzs : z.cells.size = 1)
    {v : Value} {n : Nat} {xs : List Value} {u : Value} (hown : wr.ownsRow B e 1 v n xs) (hs : a.eval s = v) (hx : a.eval x = .slice (some ⟨wr.heap.size, 0, none⟩) 1 1) (hu : u.oneCell' = true)
    (hn : n ≤ 1099511627776) (hby : bytes ≤ 16) (hB : B ≤ wr.heap.size)
    (h : ∀ v' w', w'.ownsRow B e 1 v' (n + 1) (xs ++ [u]) → (∀ B', B' ≤ B → Below B' wr w') → wr.heap.size ≤ w'.heap.size → wpList P ops Q rest (a.put o.dst v') w') :
    wpList P ops Q (o :: rest) a (wr.alloc (.cells #[u] e)) := by
  obtain ⟨i, hi, hiz, his, hib⟩ := info_parts hinf
  have hbound : (n + 1) * bytes ≤ 140737488355328 := Nat.le_trans (Nat.mul_le_mul (show n + 1 ≤ 1099511627777 by omega) hby) (by omega)
  refine wpList_append_own _ hgd s x t ho B e i z 1 bytes ht hi hiz his hib hzs (by omega) v n xs hs (hown.alloc _) ⟨wr.heap.size, 0, none⟩ 1 1 [u] hx rfl ?_ ?_ (by simp only [maxLen]; omega) hbound (by rw [alloc_size]; omega) ?_
  · intro j y hj
    cases j with
    | zero =>
      simp only [List.getElem?_cons_zero, Option.some.injEq] at hj
      subst hj
      have : (⟨wr.heap.size, 0, none⟩ : Addr).add 0 = ⟨wr.heap.size, 0, none⟩ := rfl
      rw [this, cell_new]; rfl
    | succ j => simp at hj
  · intro y hy
    rw [List.mem_singleton.1 hy]; exact hu
  · intro v' w' h1 h2 _
    refine h v' w' h1 (fun B' hB' => ?_) ?_
    · have hb0 : Below B' wr (wr.alloc (.cells #[u] e)) := (Below.refl _ _).alloc (by omega) _
      refine hb0.grown h2 (by rw [alloc_size]; omega) ?_
      intro k hk
      have := (hown.lt k hk).1
      omega
    · have := h2.size
      rw [alloc_size] at this
      omega

theorem wp_pushI {P : Program} {wr : World} {ops : Array Oper} {rest : List Oper} {o : Oper} {a : Act} {Q : Exit → Act → World → Prop} (hgd : o.guard = none) (s x : Operand) (t : TypeId)
    (ho : o.op = .call { callee := .builtin .append, args := #[s, x], argTypes := #[t, t] })
    {B e : Nat} (ht : P.underlying t = some (.slice e)) (hinf : (P.info? e).map (fun i => (i.zero, i.size, i.bytes)) = some (some (.int .i64 0), 1, 8))
    {v : Value} {xs : List Int} {u : Int} (hown : OI wr B e v xs) (hs : a.eval s = v) (hx : a.eval x = .slice (some ⟨wr.heap.size, 0, none⟩) 1 1)
    (hn : xs.length ≤ 1099511627776) (hB : B ≤ wr.heap.size)
    (h : ∀ v' w', OI w' B e v' (xs ++ [u]) → (∀ B', B' ≤ B → Below B' wr w') → wr.heap.size ≤ w'.heap.size → wpList P ops Q rest (a.put o.dst v') w') :
    wpList P ops Q (o :: rest) a (wr.alloc (.cells #[.int .i64 u] e)) :=
  wp_push hgd s x t ho ht hinf rfl hown hs hx rfl hn (by omega) hB fun v' w' h1 h2 h3 => h v' w' (by unfold OI; simpa using h1) h2 h3
/-- it returns a slice of the integers xs, in memory from block B on -/
def RetI (B : Nat) (xs : List Int) (e : Ending) (w' : World) : Prop := ∃ A c, e = .returned (.slice A xs.length c) ∧ xs.length ≤ c ∧ Own w' B A (xs.map (Value.int .i64))
/-! the walk halts ahead of an operation -/
structure Stop (p : Prop) : Prop where
  go : p
theorem wpStop {P : Program} {ops : Array Oper} {rest : List Oper} {o : Oper} {a : Act} {w : World} {Q : Exit → Act → World → Prop} (h : Stop (wpList P ops Q (o :: rest) a w)) : wpList P ops Q (o :: rest) a w := h.go
/-! one operation by an equation of its run -/
section
variable {P : Program} {ops : Array Oper} {rest : List Oper} {o : Oper} {a : Act} {w w' : World} {Q : Exit → Act → World → Prop}
theorem wpList_alloc_as (hgd : o.guard = none) (ty : TypeId) (ho : o.op = .alloc ty) (v : Value) (hrun : (Instr.alloc ty true (.tuple #[])).run P w = .ok v w')
    (h : wpList P ops Q rest (a.put o.dst v) w') : wpList P ops Q (o :: rest) a w :=
  wpList_plain hgd fun _ hK => by
    unfold Oper.wp execOp
    simp only [ho, Sem.run_bind, hrun, Result.andThen_ok]
    exact hK _ _ h
theorem wpList_build_as (hgd : o.guard = none) (ty : TypeId) (parts : Array (Nat × Operand)) (ho : o.op = .build ty parts) (ps : List (Nat × Value)) (hps : (parts.toList.map fun p : Nat × Operand => (p.1, a.eval p.2)) = ps)
    (v : Value) (hrun : (Instr.build ty ps.toArray).run P w = .ok v w') (h : wpList P ops Q rest (a.put o.dst v) w') : wpList P ops Q (o :: rest) a w :=
  wpList_plain hgd fun _ hK => by
    have e : (parts.map fun (i, x) => (i, a.eval x)) = ps.toArray := by
      rw [← hps]; apply Array.ext'; rw [Array.toList_map]
    unfold Oper.wp execOp
    simp only [ho, e, Sem.run_bind, hrun, Result.andThen_ok]
    exact hK _ _ h
theorem wpList_store_as (hgd : o.guard = none) (ty : TypeId) (x y : Operand) (ho : o.op = .store ty x y) (X Y : Value) (hx : a.eval x = X) (hy : a.eval y = Y)
    (hrun : (Instr.storeAt ty X Y).run P w = .ok () w') (h : wpList P ops Q rest (a.put o.dst undef) w') : wpList P ops Q (o :: rest) a w :=
  wpList_plain hgd fun _ hK => by
    unfold Oper.wp execOp
    simp only [ho, hx, hy, Sem.run_bind, hrun, Result.andThen_ok]
    exact hK _ _ h
theorem wpList_load_as (hgd : o.guard = none) (ty : TypeId) (x : Operand) (ho : o.op = .load ty x) (X v : Value) (hx : a.eval x = X)
    (hrun : (Instr.loadAt ty X).run P w = .ok v w') (h : wpList P ops Q rest (a.put o.dst v) w') : wpList P ops Q (o :: rest) a w :=
  wpList_plain hgd fun _ hK => by
    unfold Oper.wp execOp
    simp only [ho, hx, Sem.run_bind, hrun, Result.andThen_ok]
    exact hK _ _ h
end
theorem grownBy_refl (w : World) (r : Option Nat) : w.grownBy w r := ⟨rfl, rfl, rfl, Nat.le_refl _, fun _ _ _ => rfl⟩
theorem grownBy_trans {a b c : World} {r : Option Nat} (h : a.grownBy b r) (k : b.grownBy c r) : a.grownBy c r :=
  ⟨k.os.trans h.os, k.tape.trans h.tape, k.output.trans h.output, Nat.le_trans h.size k.size, fun i hi hr => (k.block i (Nat.lt_of_lt_of_le hi h.size) hr).trans (h.block i hi hr)⟩
theorem grownBy_of_below {a b : World} (h : Below a.heap.size a b) (r : Option Nat) : a.grownBy b r := ⟨h.os, h.tape, h.output, h.size, fun i hi _ => h.block i hi⟩
theorem grownBy_drewN {a b : World} {r : Option Nat} (h : a.grownBy b r) (n : Nat) : a.grownBy (b.drewN n) r := ⟨h.os, h.tape, h.output, h.size, h.block⟩
theorem Below.of_grown {a b : World} {g B : Nat} (h : a.grownBy b (some g)) (hg : B ≤ g) (hB : B ≤ a.heap.size) : Below B a b :=
  ⟨h.os, h.tape, h.output, h.size, fun i hi => h.block i (by omega) (by intro e; injection e; omega)⟩
theorem Own.only {w w' : World} {B g : Nat} {A : Option Addr} {vs : List Value} (h : Own w B A vs) (hg : g < B) (hw : w.grownBy w' (some g)) : Own w' B A vs := by
  rcases h with h | ⟨g', off, hA, hB, hc⟩
  · exact .inl h
  · refine .inr ⟨g', off, hA, hB, fun j v hj => ?_⟩
    have hb := hw.block g' (World.block_lt_of_cell? w _ (hc j v hj).1) (by intro e; injection e; omega)
    exact ⟨(World.cell?_of_block (w := w) (a := ⟨g', off + j, none⟩) hb).trans (hc j v hj).1, (World.frozen?_of_block (w := w) (a := ⟨g', off + j, none⟩) hb).trans (hc j v hj).2⟩
theorem OI.only {w w' : World} {B g : Nat} {e : TypeId} {v : Value} {xs : List Int} (h : OI w B e v xs) (hg : g < B) (hw : w.grownBy w' (some g)) : OI w' B e v xs :=
  World.ownsRow.kept h hw (by
    rcases h.2 with ⟨rfl, _⟩ | ⟨g', cap, cur, rfl, hB, _⟩
    · exact .inl rfl
    · refine .inr ?_
      simp only [Value.ownBlock, ne_eq, Option.some.injEq]
      omega)
/-! a block that is known whole -/
def Blk (w : World) (g : Nat) (t : TypeId) (cs : Array Value) : Prop := w.heap[g]? = some (.cells cs t (0, 0))
section
variable {w w' : World} {g : Nat} {t : TypeId} {cs : Array Value}
theorem Blk.lt (h : Blk w g t cs) : g < w.heap.size := (Array.getElem?_eq_some_iff.1 h).1
theorem Blk.cell (h : Blk w g t cs) (i : Nat) : w.cell? ⟨g, i, none⟩ = cs[i]? := cell_of_row w g i cs t (0, 0) h
theorem Blk.frozen (h : Blk w g t cs) (i : Nat) : w.frozen? ⟨g, i, none⟩ = false := frozen_of_row w g i cs t h
theorem Blk.new (w : World) (t : TypeId) (cs : Array Value) : Blk (w.alloc (.cells cs t)) w.heap.size t cs := heap_alloc_new w _
theorem Blk.drewN (h : Blk w g t cs) (n : Nat) : Blk (w.drewN n) g t cs := h
theorem Blk.below {B : Nat} (h : Blk w g t cs) (hb : Below B w w') (hg : g < B) : Blk w' g t cs := (hb.block g hg).trans h
theorem Blk.keep (h : Blk w g t cs) (hb : Below w.heap.size w w') : Blk w' g t cs := (hb.block g h.lt).trans h
theorem Blk.only {g' : Nat} (h : Blk w g t cs) (hb : w.grownBy w' (some g')) (hne : g ≠ g') : Blk w' g t cs := (hb.block g h.lt (by intro e; injection e with e; exact hne e)).trans h
theorem Blk.set_ (h : Blk w g t cs) (i : Nat) (u : Value) : Blk (w.setCell ⟨g, i, none⟩ u) g t (cs.setIfInBounds i u) := heap_setCell_same w g i cs t u h
theorem only_setCell (w : World) (g i : Nat) (u : Value) : w.grownBy (w.setCell ⟨g, i, none⟩ u) (some g) :=
  ⟨rfl, rfl, rfl, by rw [setCell_size]; exact Nat.le_refl _, fun k _ hne => Below.heap_setCell _ _ _ _ (by intro e; exact hne (by rw [e]))⟩
end
section
variable {P : Program} {ops : Array Oper} {rest : List Oper} {o : Oper} {a : Act} {w : World} {Q : Exit → Act → World → Prop}
theorem wpList_alloc_blk (hgd : o.guard = none) (ty : TypeId) (ho : o.op = .alloc ty) (cs : Array Value) (hrun : (Instr.alloc ty true (.tuple #[])).run P w = .ok (.pointer (some ⟨w.heap.size, 0, none⟩)) (w.alloc (.cells cs ty)))
    (h : ∀ g w1, w.heap.size ≤ g → Blk w1 g ty cs → (∀ B, B ≤ w.heap.size → Below B w w1) → wpList P ops Q rest (a.put o.dst (.pointer (some ⟨g, 0, none⟩))) w1) : wpList P ops Q (o :: rest) a w :=
  wpList_alloc_as hgd ty ho _ hrun (h _ _ (Nat.le_refl _) (Blk.new _ _ _) fun _ hB => (Below.refl _ _).alloc hB _)
theorem wpList_store_blk (hgd : o.guard = none) (ty : TypeId) (x y : Operand) (ho : o.op = .store ty x y) {g : Nat} {old new : Array Value} (hx : a.eval x = .pointer (some ⟨g, 0, none⟩)) (hy : a.eval y = .agg new)
    (hg : Blk w g ty old) (hi : (P.info? ty).map (·.size) = some new.size) (hs : old.size = new.size) (h1 : new.all (·.oneCell') = true)
    (h : ∀ w1, Blk w1 g ty new → w.grownBy w1 (some g) → wpList P ops Q rest (a.put o.dst undef) w1) : wpList P ops Q (o :: rest) a w := by
  refine wpList_store_as hgd ty x y ho _ _ hx hy ?_ (h (w.setRow g new) (setRow_heap w g old new ty _ hg) ⟨rfl, rfl, rfl, by rw [size_setRow]; exact Nat.le_refl _, fun k _ hne => setRow_other w g k new (by intro e; exact hne (by rw [e]))⟩)
  simp only [Instr.storeAt, Instr.sureAddr, Sem.run_bind, Sem.run_pure, Result.andThen]
  exact run_storeVar_row w g ty ty old new hg hi hs h1
theorem wpList_load_blk (hgd : o.guard = none) (ty : TypeId) (x : Operand) (ho : o.op = .load ty x) {g : Nat} {cs : Array Value} {d : TypeDesc} (hx : a.eval x = .pointer (some ⟨g, 0, none⟩))
    (hg : Blk w g ty cs) (hu : P.underlying ty = some d) (hd : d.isRow = true) (hi : (P.info? ty).map (·.size) = some cs.size)
    (h : wpList P ops Q rest (a.put o.dst (.agg cs)) w) : wpList P ops Q (o :: rest) a w :=
  wpList_load_row hgd ty x ho g hx ty cs (0, 0) d hg hu (by cases d <;> simp_all) hi h
end
theorem results_row_tmp {P : Program} {fn : Func} {p u : Tmp} {ty : TypeId} (h : fn.results = #[.cell p ty, .tmp u]) (tmps : Array Value) {w : World} {g : Nat} {cs : Array Value} {d : TypeDesc}
    (hp : tmps.getD p undef = .pointer (some ⟨g, 0, none⟩)) (hg : Blk w g ty cs) (hu : P.underlying ty = some d) (hd : d.isRow = true) (hi : (P.info? ty).map (·.size) = some cs.size) :
    (results fn tmps).run P w = .ok (.tuple #[.agg cs, tmps.getD u undef]) w := by
  rw [results_cell_tmp h, hp]
  have hl := run_loadVar_row (P := P) w g ty ty cs (0, 0) d hg hu (by cases d <;> simp_all) hi
  simp only [asAddr, Sem.run_pure, Result.andThen, hl]
end Go.Proofs.YtfkdameegljkeaaDoor

/- What every row's step needs. -/
namespace Go.Proofs.YtfkdameegljkeaaDoor
open Go.RowKit
theorem own : ownKnob Tryd.prog.godebug = none := by kernel_rfl
theorem laidOut : laidOutB Tryd.prog = true := by kernel_rfl
/-- what the walk is told of a slice of integers that came in: it is nil, or it leads to a row of 'cap' cells -/
def IsRow (k : IntKind) (w : World) (a : Option Addr) (len cap : Nat) (zs : List Int) : Prop :=
  (a = none ∧ len = 0 ∧ cap = 0 ∧ zs = []) ∨
  ∃ x, a = some x ∧ len ≤ cap ∧ cap ≤ maxLen ∧ zs.length = cap ∧ (∀ i, i < zs.length → w.cell? (x.add i) = some (.int k (zs.getD i 0))) ∧ ∀ n ∈ zs, (Lit.int k n).wf = true
theorem IsRow.rdk {k : IntKind} {w : World} {a : Option Addr} {len cap : Nat} {zs : List Int} (h : IsRow k w a len cap zs) :
    ∃ xs : List Int, xs.length = len ∧ Rd w a (xs.map (Value.int k)) ∧ (∀ x ∈ xs, (Lit.int k x).wf = true) ∧ len ≤ cap ∧ cap ≤ maxLen := by
  rcases h with ⟨rfl, rfl, rfl, rfl⟩ | ⟨x, rfl, hl, hm, hz, hc, hw⟩
  · exact ⟨[], rfl, .inl rfl, by simp, Nat.le_refl _, Nat.zero_le _⟩
  · refine ⟨zs.take len, by rw [List.length_take]; omega, ?_, fun x hx => hw x (List.mem_of_mem_take hx), hl, hm⟩
    by_cases h0 : len = 0
    · subst h0; exact .inl rfl
    · have hx := hc 0 (by omega)
      have hs := World.cell?_spot hx
      obtain ⟨b, o, sp⟩ := x
      have hs2 : sp = none := by simpa [Addr.add] using hs
      subst hs2
      refine .inr ⟨b, o, rfl, fun j v hj => ?_⟩
      rw [List.getElem?_map] at hj
      rw [List.getElem?_take] at hj
      split at hj
      · rename_i hjl
        have h2 := hc j (by omega)
        rw [show (⟨b, o, none⟩ : Addr).add j = ⟨b, o + j, none⟩ by unfold Addr.add; split <;> simp_all] at h2
        rw [h2, ← hj]
        have hjz : j < zs.length := by omega
        simp [List.getD, hjz]
      · cases hj
theorem wf_u8 {x : Int} (h : (Lit.int .u8 x).wf = true) : 0 ≤ x ∧ x < 256 := by
  simp [Lit.wf, IntKind.min, IntKind.max, IntKind.bits, IntKind.signed] at h
  omega
end Go.Proofs.YtfkdameegljkeaaDoor

/- Walks of the functions on terms: what each returns. -/
namespace Go.Proofs.YtfkdameegljkeaaDoor
open Go.RowKit

set_option maxHeartbeats 400000 in
theorem termValid_any (t : ByteArray) (n : Int) (w : World) (ht : t.size ≤ 9223372036854775807) :
    Calls Tryd.prog 73 #[.string t, .int .i64 n] w fun e w' => e = .returned (.bool (TV t.data.toList n)) ∧ w = w' := by
  by_cases hn : n < 1
  · go_enter Tryd.func73, Tryd.ntmps73
    go_wp2
    go_ret
    exact ⟨ret_bool (TV_lo hn).symm, rfl⟩
  by_cases hn5 : 5 < n
  · go_enter Tryd.func73, Tryd.ntmps73
    go_wp2
    go_ret
    exact ⟨ret_bool (TV_hi hn5).symm, rfl⟩
  by_cases hl : (t.size : Int) = n
  · have H := Lib.hid (TV_all (l := t.data.toList) hn hn5 (by simpa using hl))
    obtain ⟨hl1, hl2⟩ : (t.size : Int) ≤ n ∧ n ≤ t.size := by omega
    have hne : ((t.size : Int) != n) = false := by simp [hl]
    clear hl
    go_enter Tryd.func73, Tryd.ntmps73
    go_wp2
    go_loop [19] (fun i => ∃ k : Nat, k ≤ t.size ∧ i = .int .i64 k ∧ (t.data.toList.take k).all okc = true) (fun i => t.size - (intOf i).toNat)
    case atStart => exact ⟨0, Nat.zero_le _, rfl, rfl⟩
    case round =>
      obtain ⟨k, hk, rfl, hall⟩ := hrel
      have HA := Lib.hid hall
      clear hall
      by_cases hlt : k < t.size
      · by_cases h0 : okc t[k] = true
        · have HS := Lib.hid (all_take_snoc hlt HA.out h0)
          have HO := Lib.hid h0
          clear h0
          go_wp2
          all_goals first
            | (go_round
               case rel => exact ⟨k + 1, by omega, by go_num, HS.out⟩
               case measure => simp [intOf]; omega)
            | (exfalso
               have := HO.out
               simp [okc] at this
               simp at *
               omega)
        · have HO := Lib.hid (TV_bad (n := n) (all_take_bad hlt (by simpa using h0)))
          have HP := Lib.hid h0
          clear h0
          go_wp2
          all_goals first
            | (go_ret
               exact ⟨ret_bool HO.out.symm, rfl⟩)
            | (exfalso
               have := HP.out
               simp [okc] at this
               simp at *
               omega)
      · have he : TV t.data.toList n = true := by
          have := HA.out
          rw [show k = t.size by omega, take_all] at this
          rw [H.out, this]
        have HE := Lib.hid he
        clear he
        go_wp2
        go_ret
        exact ⟨ret_bool HE.out.symm, rfl⟩
  · go_enter Tryd.func73, Tryd.ntmps73
    go_wp2
    go_ret
    exact ⟨ret_bool (TV_ne (by simpa using hl)).symm, rfl⟩

theorem l1In_any (n lo hi : Int) (w : World) :
    Calls Tryd.prog 91 #[.int .i64 n, .int .i64 lo, .int .i64 hi] w fun e w' => e = .returned (.bool (decide (lo ≤ n) && decide (n ≤ hi))) ∧ w = w' := by
  by_cases h1 : lo ≤ n
  · by_cases h2 : n ≤ hi
    · go_enter Tryd.func91, Tryd.ntmps91
      go_wp2
      go_ret
      exact ⟨ret_bool (by simp [h1, h2]), rfl⟩
    · go_enter Tryd.func91, Tryd.ntmps91
      go_wp2
      go_ret
      exact ⟨ret_bool (by simp [h2]), rfl⟩
  · go_enter Tryd.func91, Tryd.ntmps91
    go_wp2
    go_ret
    exact ⟨ret_bool (by rw [show decide (lo ≤ n) = false by simpa using h1]; rfl), rfl⟩

theorem l14Find_any (t : ByteArray) (c : Int) (w : World) (ht : t.size ≤ 9223372036854775807) (hc : 0 ≤ c ∧ c < 256) :
    Calls Tryd.prog 96 #[.string t, .int .u8 c] w fun e w' => e = .returned (.int .i64 (findB t.data.toList c)) ∧ w = w' := by
  obtain ⟨hc0, hc1⟩ := hc
  go_enter Tryd.func96, Tryd.ntmps96
  go_wp2
  go_loop [5] (fun i => ∃ k : Nat, k ≤ t.size ∧ i = .int .i64 k ∧ Hid (∀ x ∈ t.data.toList.take k, ¬ (x.toNat : Int) = c)) (fun i => t.size - (intOf i).toNat)
  case atStart => exact ⟨0, Nat.zero_le _, rfl, Lib.hid (by simp)⟩
  case round =>
    obtain ⟨k, hk, rfl, HA⟩ := hrel
    by_cases hlt : k < t.size
    · by_cases h0 : (t[k].toNat : Int) = c
      · have HO := Lib.hid (findB_at hlt HA.out h0)
        have hb : ((t[k].toNat : Int) == c) = true := by simp [h0]
        have HP := Lib.hid h0
        clear h0
        go_wp2
        go_ret
        exact ⟨ret_int HO.out.symm, rfl⟩
      · have HO := Lib.hid (not_mem_take_snoc hlt HA.out h0)
        have hb : ((t[k].toNat : Int) == c) = false := by simpa using h0
        clear h0
        go_wp2
        go_round
        case rel => exact ⟨k + 1, by omega, by go_num, HO⟩
        case measure => simp [intOf]; omega
    · have HE := Lib.hid (findB_none t.data.toList c (by have := HA.out; rwa [show k = t.size by omega, take_all] at this))
      go_wp2
      go_ret
      exact ⟨ret_int HE.out.symm, rfl⟩

set_option maxHeartbeats 400000 in
theorem sTermValid_any (t : ByteArray) (n : Int) (w : World) (ht : t.size ≤ 9223372036854775807) :
    Calls Tryd.prog 70 #[.string t, .int .i64 n] w fun e w' => e = .returned (.bool (TV t.data.toList n)) ∧ w = w' := by
  go_enter Tryd.func70, Tryd.ntmps70
  go_wp2
  go_loop [5] (fun i => ∃ k : Nat, k ≤ t.size ∧ i = .int .i64 k ∧ (t.data.toList.take k).all okc = true) (fun i => t.size - (intOf i).toNat)
  case atStart => exact ⟨0, Nat.zero_le _, rfl, rfl⟩
  case round =>
    obtain ⟨k, hk, rfl, hall⟩ := hrel
    have HA := Lib.hid hall
    clear hall
    by_cases hlt : k < t.size
    · have hc := l14Find_any ⟨#[42, 48, 49]⟩ t[k].toNat w (by show 3 ≤ _; omega) ⟨by omega, by have := t[k].toNat_lt; omega⟩
      by_cases h0 : okc t[k] = true
      · have hf : ¬ findB [42, 48, 49] (t[k].toNat : Int) < 0 := by rw [find_term]; simp [h0]
        have HS := Lib.hid (all_take_snoc hlt HA.out h0)
        clear h0
        have HC := Lib.hid hc
        clear hc
        go_wp2_with (go_at_call 96; refine HC.out.mono ?_; rintro e w' ⟨rfl, rfl⟩)
        go_round
        case rel => exact ⟨k + 1, by omega, by go_num, HS.out⟩
        case measure => simp [intOf]; omega
      · have hf : findB [42, 48, 49] (t[k].toNat : Int) < 0 := by rw [find_term]; simpa using h0
        have HO := Lib.hid (TV_bad (n := n) (all_take_bad hlt (by simpa using h0)))
        clear h0
        have HC := Lib.hid hc
        clear hc
        go_wp2_with (go_at_call 96; refine HC.out.mono ?_; rintro e w' ⟨rfl, rfl⟩)
        go_ret
        exact ⟨ret_bool HO.out.symm, rfl⟩
    · have hall : t.data.toList.all okc = true := by have := HA.out; rwa [show k = t.size by omega, take_all] at this
      have HX := Lib.hid hall
      clear hall
      by_cases hr : 1 ≤ n ∧ n ≤ 5
      · have hb : (decide (1 ≤ n) && decide (n ≤ 5)) = true := by simp [hr]
        have HC := Lib.hid (l1In_any n 1 5 w)
        rw [hb] at HC
        have HR := Lib.hid hr
        clear hr hb
        by_cases hl : (t.size : Int) = n
        · have hlb : ((t.size : Int) == n) = true := by simp [hl]
          have HL := Lib.hid hl
          clear hl
          go_wp2_with (go_at_call 91; refine HC.out.mono ?_; rintro e w' ⟨rfl, rfl⟩)
          go_ret
          exact ⟨ret_bool (by rw [TV_all (by have := HR.out; omega) (by have := HR.out; omega) (by simpa using HL.out), HX.out]), rfl⟩
        · have hlb : ((t.size : Int) == n) = false := by simpa using hl
          have HL := Lib.hid hl
          clear hl
          go_wp2_with (go_at_call 91; refine HC.out.mono ?_; rintro e w' ⟨rfl, rfl⟩)
          go_ret
          exact ⟨ret_bool (by rw [TV_ne (by simpa using HL.out)]), rfl⟩
      · have hb : (decide (1 ≤ n) && decide (n ≤ 5)) = false := by simp; omega
        have HC := Lib.hid (l1In_any n 1 5 w)
        rw [hb] at HC
        have HR := Lib.hid hr
        clear hr hb
        go_wp2_with (go_at_call 91; refine HC.out.mono ?_; rintro e w' ⟨rfl, rfl⟩)
        go_ret
        exact ⟨ret_bool (by
          have := HR.out
          by_cases h1 : n < 1
          · rw [TV_lo h1]
          · rw [TV_hi (by omega)]), rfl⟩

end Go.Proofs.YtfkdameegljkeaaDoor

/- Plain lemmas on states, their digits, the states of a term, hulls. No program is in sight. -/
namespace Go.Proofs.YtfkdameegljkeaaDoor
open Go.RowKit

/-- the digit i of a state -/
def bit (s i : Nat) : Nat := s / 2 ^ i % 2
theorem bit_lt (s i : Nat) : bit s i < 2 := Nat.mod_lt _ (by omega)
theorem bit_01 (s i : Nat) : bit s i = 0 ∨ bit s i = 1 := by have := bit_lt s i; omega
theorem bit_testBit (s i : Nat) : bit s i = (s.testBit i).toNat := by
  rw [bit, Nat.testBit_eq_decide_div_mod_eq]
  have : s / 2 ^ i % 2 < 2 := Nat.mod_lt _ (by omega)
  by_cases h : s / 2 ^ i % 2 = 1
  · simp [h]
  · simp [h]; omega

theorem and_one (x : Nat) (hx : x < 9223372036854775808) : bits .and .i64 (x : Int) 1 = ((x % 2 : Nat) : Int) := by
  have h1 : (BitVec.ofInt 64 (x : Int)).toNat = x := by
    rw [BitVec.ofInt_natCast, BitVec.toNat_ofNat]; exact Nat.mod_eq_of_lt (by omega)
  show IntKind.i64.wrap ((BitVec.ofInt 64 (x : Int) &&& BitVec.ofInt 64 1).toNat : Int) = _
  rw [BitVec.toNat_and, h1]
  have h2 : (BitVec.ofInt 64 1).toNat = 1 := rfl
  rw [h2, Nat.and_one_is_mod, IntKind.wrap_i64]
  omega
/-- 's>>i & 1' as the walk writes it -/
theorem bit_and (s i : Nat) (hs : s < 9223372036854775808) : bits .and .i64 ((s : Int) / 2 ^ i) 1 = (bit s i : Int) := by
  have e : ((s : Int) / 2 ^ i) = ((s / 2 ^ i : Nat) : Int) := by simp
  rw [e, and_one _ (Nat.lt_of_le_of_lt (Nat.div_le_self _ _) hs)]
  rfl
theorem two_le (n : Nat) (h : n ≤ 5) : 2 ^ n ≤ 32 := by
  have : 2 ^ n ≤ 2 ^ 5 := Nat.pow_le_pow_right (by omega) h
  omega
theorem wrap64_small (N : Nat) (h : N ≤ 32) : wrap64 (N : Int) = (N : Int) := by unfold wrap64; omega
theorem wrap_two (n : Nat) (h : n ≤ 5) : ∃ N : Nat, Hid (N = 2 ^ n) ∧ wrap64 ((2 : Int) ^ n) = (N : Int) ∧ N ≤ 32 ∧ 0 < N := by
  refine ⟨2 ^ n, rfl, ?_, two_le n h, Nat.two_pow_pos n⟩
  have h1 : ((2 : Int) ^ n) = ((2 ^ n : Nat) : Int) := by simp
  rw [h1]
  exact wrap64_small _ (two_le n h)
/-- the bytes of a term or a state are digits or '*' -/
def chr (d : Nat) : UInt8 := UInt8.ofNat (48 + d)
theorem chr_toNat (d : Nat) (h : d < 10) : (chr d).toNat = 48 + d := by rw [chr, UInt8.toNat_ofNat']; omega
def dig (s i : Nat) : UInt8 := chr (bit s i)
theorem dig_toNat (s i : Nat) : (dig s i).toNat = 48 + bit s i := chr_toNat _ (by have := bit_lt s i; omega)
/-- what FormatState writes -/
def fmtL (s n : Nat) : List UInt8 := (List.range n).map (dig s)
theorem fmtL_length (s n : Nat) : (fmtL s n).length = n := by simp [fmtL]
theorem fmtL_succ (s n : Nat) : fmtL s (n + 1) = fmtL s n ++ [dig s n] := by simp [fmtL, List.range_succ]
theorem fmtL_get (s n i : Nat) (h : i < n) : (fmtL s n)[i]? = some (dig s i) := by simp [fmtL, h]

/-- whether a byte of a term lets a digit be -/
def fits (c : UInt8) (b : Nat) : Bool := c.toNat == 42 || c.toNat == 48 + b
/-- whether a state is one of a term: the bytes from the place i on -/
def hasF : List UInt8 → Nat → Nat → Bool
  | [], _, _ => true
  | c :: r, i, s => fits c (bit s i) && hasF r (i + 1) s
def hasS (l : List UInt8) (s : Nat) : Bool := hasF l 0 s
theorem hasF_snoc (l : List UInt8) (c : UInt8) (i s : Nat) : hasF (l ++ [c]) i s = (hasF l i s && fits c (bit s (i + l.length))) := by
  induction l generalizing i with
  | nil => simp [hasF]
  | cons a r ih => simp only [List.cons_append, hasF, ih, List.length_cons, Bool.and_assoc]; rw [show i + 1 + r.length = i + (r.length + 1) by omega]
theorem hasF_bad (l : List UInt8) (i s k : Nat) (h : k < l.length) (hb : fits l[k] (bit s (i + k)) = false) : hasF l i s = false := by
  induction l generalizing i k with
  | nil => simp at h
  | cons a r ih =>
    cases k with
    | zero => simp only [List.getElem_cons_zero, Nat.add_zero] at hb; simp [hasF, hb]
    | succ k =>
      simp only [List.getElem_cons_succ] at hb
      rw [show i + (k + 1) = i + 1 + k by omega] at hb
      simp [hasF, ih (i + 1) k (by simpa using h) hb]
theorem hasS_step {t : ByteArray} {s k : Nat} (hk : k < t.size) (h : hasS (t.data.toList.take k) s = true) (hf : fits t[k] (bit s k) = true) : hasS (t.data.toList.take (k + 1)) s = true := by
  rw [take_snoc t k hk]
  unfold hasS at h ⊢
  have hl : (t.data.toList.take k).length = k := by rw [List.length_take]; have : t.data.toList.length = t.size := by simp
                                                    omega
  rw [hasF_snoc, h, hl, Nat.zero_add, hf]; rfl
theorem hasS_stop {t : ByteArray} {s k : Nat} (hk : k < t.size) (hf : fits t[k] (bit s k) = false) : hasS t.data.toList s = false := by
  refine hasF_bad _ 0 s k (by simpa using hk) ?_
  rw [Nat.zero_add]; exact hf

/-- the numbers below N that are chosen, in ascending order -/
def sel (N : Nat) (p : Nat → Bool) : List Nat := (List.range N).filter p
theorem sel_yes {k : Nat} {p : Nat → Bool} (h : p k = true) : sel (k + 1) p = sel k p ++ [k] := by simp [sel, List.range_succ, h]
theorem sel_no {k : Nat} {p : Nat → Bool} (h : p k = false) : sel (k + 1) p = sel k p := by simp [sel, List.range_succ, h]
theorem sel_len (N : Nat) (p : Nat → Bool) : (sel N p).length ≤ N := by have := List.length_filter_le p (List.range N); simpa [sel] using this
def ints (l : List Nat) : List Int := l.map fun s : Nat => (s : Int)
theorem ints_length (l : List Nat) : (ints l).length = l.length := by simp [ints]
theorem ints_append (a b : List Nat) : ints (a ++ b) = ints a ++ ints b := by simp [ints]
theorem sel_yesI {k : Nat} {p : Nat → Bool} (h : p k = true) : ints (sel (k + 1) p) = ints (sel k p) ++ [(k : Int)] := by rw [sel_yes h, ints_append]; rfl
theorem sel_noI {k : Nat} {p : Nat → Bool} (h : p k = false) : ints (sel (k + 1) p) = ints (sel k p) := by rw [sel_no h]
set_option maxHeartbeats 400000 in
def stL (l : List UInt8) : List Nat := sel (2 ^ l.length) (hasS l)

/-- what StatesOf answers -/
def STL (l : List UInt8) : List Nat := if TV l l.length then stL l else []
/-- one state more in a hull -/
def hullC (c : UInt8) (b : Nat) : UInt8 := if fits c b then c else 42
def hullS (o : List UInt8) (s : Nat) : List UInt8 := o.mapIdx fun i c => hullC c (bit s i)
theorem hullS_length (o : List UInt8) (s : Nat) : (hullS o s).length = o.length := by simp [hullS]
theorem hullS_get (o : List UInt8) (s i : Nat) (h : i < o.length) : (hullS o s)[i]'(by rw [hullS_length]; exact h) = hullC o[i] (bit s i) := by simp [hullS]
/-- the hull's round: the places before i are done -/
def hullTo (o : List UInt8) (s i : Nat) : List UInt8 := (hullS o s).take i ++ o.drop i
theorem hullTo_zero (o : List UInt8) (s : Nat) : hullTo o s 0 = o := by simp [hullTo]
theorem hullTo_end (o : List UInt8) (s i : Nat) (h : o.length ≤ i) : hullTo o s i = hullS o s := by
  rw [hullTo, List.take_of_length_le (by rw [hullS_length]; omega), List.drop_of_length_le h, List.append_nil]
theorem hullTo_length (o : List UInt8) (s i : Nat) : (hullTo o s i).length = o.length := by
  simp [hullTo, hullS_length]; omega
theorem hullTo_get (o : List UInt8) (s i : Nat) (h : i < o.length) : (hullTo o s i)[i]? = some o[i] := by
  have hl : ((hullS o s).take i).length = i := by rw [List.length_take, hullS_length]; omega
  rw [hullTo, List.getElem?_append_right (by omega), hl, Nat.sub_self, List.getElem?_drop, Nat.add_zero]
  exact List.getElem?_eq_getElem h
theorem hullTo_succ (o : List UInt8) (s i : Nat) (h : i < o.length) : hullTo o s (i + 1) = (hullTo o s i).set i (hullC o[i] (bit s i)) := by
  have hl : ((hullS o s).take i).length = i := by rw [List.length_take, hullS_length]; omega
  unfold hullTo
  rw [List.set_append_right _ _ (by omega), hl, Nat.sub_self, List.drop_eq_getElem_cons h, List.set_cons_zero,
    List.take_succ_eq_append_getElem (by rw [hullS_length]; exact h), hullS_get o s i h]
  simp
theorem hullTo_keep (o : List UInt8) (s i : Nat) (h : i < o.length) (hf : fits o[i] (bit s i) = true) : hullTo o s (i + 1) = hullTo o s i := by
  rw [hullTo_succ o s i h]
  have : hullC o[i] (bit s i) = o[i] := by simp [hullC, hf]
  rw [this]
  have hg := hullTo_get o s i h
  apply List.ext_getElem?
  intro j
  rw [List.getElem?_set]
  split
  · subst j; rw [hg]; split
    · rfl
    · rename_i hn; rw [hullTo_length] at hn; omega
  · rfl
theorem hullS_fmt (s n : Nat) : hullS (fmtL s n) s = fmtL s n := by
  apply List.ext_getElem
  · rw [hullS_length]
  · intro i h1 h2
    rw [hullS_get _ _ _ h2]
    have h3 : i < n := by simpa [fmtL_length] using h2
    have hg : (fmtL s n)[i] = dig s i := by simp [fmtL]
    rw [hg, hullC, if_pos]
    simp [fits, dig_toNat]
/-- the hull of a list of states, at least one -/
def hullL (x : Nat) (r : List Nat) (n : Nat) : List UInt8 := r.foldl hullS (fmtL x n)
/-- what HullOf answers -/
def inW (n : Int) (x : Int) : Bool := decide (0 ≤ x) && decide (x < 2 ^ n.toNat)
def HO (xs : List Int) (n : Int) : Option (List UInt8) :=
  if 1 ≤ n ∧ n ≤ 5 then match xs with
    | [] => none
    | x :: r => if xs.all (inW n) then some (hullL x.toNat (r.map Int.toNat) n.toNat) else none
  else none
/-- the bytes of a hull are digits or '*' -/
theorem okc_dig (s i : Nat) : okc (dig s i) = true := by
  have := bit_01 s i
  simp [okc, dig_toNat]; omega
theorem okc_fmt (s n : Nat) : (fmtL s n).all okc = true := by
  rw [List.all_eq_true]; intro c hc; simp only [fmtL, List.mem_map] at hc; obtain ⟨i, _, rfl⟩ := hc; exact okc_dig s i
theorem okc_hullC (c : UInt8) (b : Nat) (h : okc c = true) : okc (hullC c b) = true := by
  unfold hullC; split
  · exact h
  · rfl
theorem okc_hullS (o : List UInt8) (s : Nat) (h : ∀ c ∈ o, okc c = true) : ∀ c ∈ hullS o s, okc c = true := by
  intro c hc
  obtain ⟨i, hi, rfl⟩ := List.getElem_of_mem hc
  rw [hullS_get o s i (by simpa [hullS_length] using hi)]
  exact okc_hullC _ _ (h _ (List.getElem_mem _))
theorem okc_fold (r : List Nat) (o : List UInt8) (h : ∀ c ∈ o, okc c = true) : ∀ c ∈ r.foldl hullS o, okc c = true := by
  induction r generalizing o with
  | nil => exact h
  | cons y r ih => exact ih _ (okc_hullS o y h)
theorem fold_length (r : List Nat) (o : List UInt8) : (r.foldl hullS o).length = o.length := by
  induction r generalizing o with
  | nil => rfl
  | cons y r ih => rw [List.foldl_cons, ih, hullS_length]
theorem hullTo_star {o : List UInt8} {s i : Nat} (h : i < o.length) (hf : fits o[i] (bit s i) = false) : hullTo o s (i + 1) = (hullTo o s i).set i 42 := by
  rw [hullTo_succ o s i h]; simp [hullC, hf]
theorem ints_at {l : List Nat} {k : Nat} (h : k < l.length) : ((ints l).map (Value.int .i64))[k]? = some (.int .i64 (l[k] : Int)) := by
  rw [List.getElem?_map, ints, List.getElem?_map, List.getElem?_eq_getElem h]; rfl
theorem HO_out {xs : List Int} {n : Int} (h : ¬ (1 ≤ n ∧ n ≤ 5)) : HO xs n = none := by unfold HO; exact if_neg h
theorem HO_nil {n : Int} : HO [] n = none := by unfold HO; split <;> rfl
theorem HO_bad {xs : List Int} {n : Int} {y : Int} (hy : y ∈ xs) (h : inW n y = false) : HO xs n = none := by
  unfold HO
  split
  · cases xs with
    | nil => cases hy
    | cons x r =>
      have : ¬ (x :: r).all (inW n) = true := by
        intro ha
        have := List.all_eq_true.1 ha y hy
        rw [this] at h; cases h
      simp only [this]
      rfl
  · rfl
theorem HO_ok {x n : Nat} {r : List Nat} (h1 : 1 ≤ n) (h5 : n ≤ 5) (hr : ∀ y ∈ x :: r, y < 2 ^ n) : HO (ints (x :: r)) (n : Int) = some (hullL x r n) := by
  have ha : ((x : Int) :: ints r).all (inW n) = true := by
    rw [List.all_eq_true]
    intro y hy
    have hy' : y ∈ ints (x :: r) := hy
    simp only [ints, List.mem_map] at hy'
    obtain ⟨z, hz, rfl⟩ := hy'
    have := hr z hz
    have h2 : ((z : Int) < 2 ^ n) := by
      have : ((2 : Int) ^ n) = ((2 ^ n : Nat) : Int) := by simp
      omega
    simp [inW, h2]
  have e : (ints r).map Int.toNat = r := by
    rw [ints, List.map_map]
    exact List.map_id'' (fun y => by simp) r
  unfold HO
  rw [if_pos ⟨by omega, by omega⟩]
  show (if ((x : Int) :: ints r).all (inW n) = true then some (hullL (x : Int).toNat ((ints r).map Int.toNat) (n : Int).toNat) else none) = _
  rw [if_pos ha, e]
  simp
/-- integers that are not negative are casts -/
theorem ints_of (xs : List Int) (h : ∀ y ∈ xs, 0 ≤ y) : ∃ ys, xs = ints ys := by
  refine ⟨xs.map Int.toNat, ?_⟩
  rw [ints, List.map_map]
  induction xs with
  | nil => rfl
  | cons x r ih =>
    rw [List.map_cons, ← ih (fun y hy => h y (List.mem_cons_of_mem _ hy))]
    have := h x List.mem_cons_self
    congr 1
    show x = ((x.toNat : Nat) : Int)
    omega
theorem inW_yes {n : Nat} {N : Nat} {y : Int} (hN : N = 2 ^ n) : inW (n : Int) y = true ↔ 0 ≤ y ∧ y < N := by
  have : ((2 : Int) ^ n) = ((2 ^ n : Nat) : Int) := by simp
  rw [inW, hN]
  simp
theorem ofInt_i64 (a : Nat) (ha : a < 9223372036854775808) : (BitVec.ofInt 64 (a : Int)).toNat = a := by
  rw [BitVec.ofInt_natCast, BitVec.toNat_ofNat]; exact Nat.mod_eq_of_lt (by omega)
theorem i64_or_nat (a b : Nat) (ha : a < 9223372036854775808) (hb : b < 9223372036854775808) : bits .or .i64 (a : Int) (b : Int) = ((a ||| b : Nat) : Int) := by
  have hx : a ||| b < 2 ^ 63 := Nat.or_lt_two_pow (by omega) (by omega)
  show IntKind.i64.wrap ((BitVec.ofInt 64 (a : Int) ||| BitVec.ofInt 64 (b : Int)).toNat : Int) = _
  rw [BitVec.toNat_or, ofInt_i64 a ha, ofInt_i64 b hb, IntKind.wrap_i64]
  omega
theorem i64_xor_nat (a b : Nat) (ha : a < 9223372036854775808) (hb : b < 9223372036854775808) : bits .xor .i64 (a : Int) (b : Int) = ((a ^^^ b : Nat) : Int) := by
  have hx : a ^^^ b < 2 ^ 63 := Nat.xor_lt_two_pow (by omega) (by omega)
  show IntKind.i64.wrap ((BitVec.ofInt 64 (a : Int) ^^^ BitVec.ofInt 64 (b : Int)).toNat : Int) = _
  rw [BitVec.toNat_xor, ofInt_i64 a ha, ofInt_i64 b hb, IntKind.wrap_i64]
  omega
theorem i64_and_nat (a b : Nat) (ha : a < 9223372036854775808) (hb : b < 9223372036854775808) : bits .and .i64 (a : Int) (b : Int) = ((a &&& b : Nat) : Int) := by
  have hx : a &&& b < 2 ^ 63 := Nat.and_lt_two_pow _ (by omega)
  show IntKind.i64.wrap ((BitVec.ofInt 64 (a : Int) &&& BitVec.ofInt 64 (b : Int)).toNat : Int) = _
  rw [BitVec.toNat_and, ofInt_i64 a ha, ofInt_i64 b hb, IntKind.wrap_i64]
  omega
/-! tables -/
/-- how many inputs a table of a length has; 0 if none has this length -/
def tin (len : Nat) : Nat := if len = 2 then 1 else if len = 4 then 2 else if len = 8 then 3 else if len = 16 then 4 else if len = 32 then 5 else 0
theorem tin_pow (n : Nat) (h1 : 1 ≤ n) (h5 : n ≤ 5) : tin (2 ^ n) = n := by
  have : n = 1 ∨ n = 2 ∨ n = 3 ∨ n = 4 ∨ n = 5 := by omega
  rcases this with rfl | rfl | rfl | rfl | rfl <;> rfl
theorem tin_none (len : Nat) (h : ∀ m, 1 ≤ m → m ≤ 5 → ¬ len = 2 ^ m) : tin len = 0 := by
  have h1 := h 1 (by omega) (by omega)
  have h2 := h 2 (by omega) (by omega)
  have h3 := h 3 (by omega) (by omega)
  have h4 := h 4 (by omega) (by omega)
  have h5 := h 5 (by omega) (by omega)
  unfold tin
  rw [if_neg (by omega), if_neg (by omega), if_neg (by omega), if_neg (by omega), if_neg (by omega)]
theorem tin_some {len : Nat} (h : ¬ tin len = 0) : 1 ≤ tin len ∧ tin len ≤ 5 ∧ len = 2 ^ tin len := by
  unfold tin at h ⊢
  split
  · rename_i e; subst e; decide
  · split
    · rename_i e; subst e; decide
    · split
      · rename_i e; subst e; decide
      · split
        · rename_i e; subst e; decide
        · split
          · rename_i e; subst e; decide
          · rename_i a b c d e
            rw [if_neg a, if_neg b, if_neg c, if_neg d, if_neg e] at h
            exact absurd rfl h
def b01 (c : UInt8) : Bool := c.toNat == 48 || c.toNat == 49
/-- whether a text is a table -/
def okT (l : List UInt8) : Bool := decide (¬ tin l.length = 0) && l.all b01
/-- the value of a table for a state -/
def val (l : List UInt8) (s : Nat) : Nat := (l.getD s 48).toNat - 48
theorem okT_true {l : List UInt8} (h : okT l = true) : 1 ≤ tin l.length ∧ tin l.length ≤ 5 ∧ l.length = 2 ^ tin l.length ∧ ∀ c ∈ l, b01 c = true := by
  simp only [okT, Bool.and_eq_true, decide_eq_true_eq, List.all_eq_true] at h
  obtain ⟨h1, h2, h3⟩ := tin_some h.1
  exact ⟨h1, h2, h3, h.2⟩
theorem val_lt {l : List UInt8} (h : ∀ c ∈ l, b01 c = true) (s : Nat) : val l s < 2 := by
  unfold val
  rw [List.getD]
  cases hc : l[s]? with
  | none => decide
  | some c =>
    have := h c (List.mem_of_getElem? hc)
    simp [b01] at this
    simp only [Option.getD_some]
    omega
theorem val_get {l : List UInt8} {s : Nat} (h : s < l.length) : val l s = l[s].toNat - 48 := by
  unfold val; rw [List.getD, List.getElem?_eq_getElem h]; rfl
/-- the text of values -/
def txt (N : Nat) (b : Nat → Nat) : List UInt8 := (List.range N).map fun s => chr (b s)
theorem txt_length (N : Nat) (b : Nat → Nat) : (txt N b).length = N := by simp [txt]
theorem txt_succ (N : Nat) (b : Nat → Nat) : txt (N + 1) b = txt N b ++ [chr (b N)] := by simp [txt, List.range_succ]
theorem txt_congr {N : Nat} {b c : Nat → Nat} (h : ∀ s, s < N → b s = c s) : txt N b = txt N c := by
  unfold txt
  apply List.map_congr_left
  intro s hs
  rw [h s (by simpa using hs)]
/-- a table is the text of its values -/
theorem txt_val {l : List UInt8} (h : ∀ c ∈ l, b01 c = true) : txt l.length (val l) = l := by
  apply List.ext_getElem
  · rw [txt_length]
  · intro i h1 h2
    simp only [txt, List.getElem_map, List.getElem_range]
    rw [val_get h2]
    have := h _ (List.getElem_mem h2)
    simp [b01] at this
    apply UInt8.toNat_inj.1
    rw [chr_toNat _ (by omega)]
    omega
end Go.Proofs.YtfkdameegljkeaaDoor

/- Walks of the functions on states and hulls. -/
namespace Go.Proofs.YtfkdameegljkeaaDoor
open Go.RowKit

theorem info_u8 : (Tryd.prog.info? 5).map (fun i => (i.zero, i.size, i.bytes)) = some (some (.int .u8 0), 1, 1) := by kernel_rfl
theorem info_int : (Tryd.prog.info? 3).map (fun i => (i.zero, i.size, i.bytes)) = some (some (.int .i64 0), 1, 8) := by kernel_rfl

theorem l1Bit_any (s i : Nat) (w : World) (hs : s < 4294967296) (hi : i < 64) :
    Calls Tryd.prog 103 #[.int .i64 (s : Int), .int .i64 (i : Int)] w fun e w' => e = .returned (.int .i64 (bit s i : Int)) ∧ w = w' := by
  have hb := bit_and s i (by omega)
  go_enter Tryd.func103, Tryd.ntmps103
  go_wp2
  go_ret
  exact ⟨rfl, rfl⟩

set_option maxHeartbeats 400000 in
theorem hasState_any (t : ByteArray) (s : Nat) (w : World) (ht : t.size ≤ 63) (hs : s < 4294967296) (hok : Hid (t.data.toList.all okc = true)) :
    Calls Tryd.prog 99 #[.string t, .int .i64 (s : Int)] w fun e w' => e = .returned (.bool (hasS t.data.toList s)) ∧ ∃ n, w.drewN n = w' := by
  go_enter Tryd.func99, Tryd.ntmps99
  go_wp2
  go_loopw [5] (fun i wr => ∃ k : Nat, k ≤ t.size ∧ i = .int .i64 k ∧ Hid (hasS (t.data.toList.take k) s = true) ∧ ∃ n, wr = w.drewN n) (fun i _ => t.size - (intOf i).toNat)
  case atStart => exact ⟨0, Nat.zero_le _, rfl, Lib.hid rfl, 0, rfl⟩
  case round =>
    obtain ⟨k, hk, rfl, HA, n, rfl⟩ := hrel
    by_cases hlt : k < t.size
    · have hb := bit_and s k (by omega)
      have hb2 : (bit s k : Int) < 2 := by have := bit_lt s k; omega
      have hkc : okc t[k] = true := List.all_eq_true.1 hok.out _ (List.getElem_mem (l := t.data.toList) (by simpa using hlt))
      by_cases h42 : (t[k].toNat : Int) = 42
      · have hd : ((t[k].toNat : Int) != 42) = false := by simp [h42]
        have HF := Lib.hid (hasS_step (s := s) hlt HA.out (by simp [fits]; omega))
        clear h42 hkc
        go_wp2
        go_quiet (fail)
        go_wp2
        go_roundw
        case rel => exact ⟨k + 1, by omega, by go_num, HF, _, rfl⟩
        case measure => simp [intOf]; omega
      · have hd : ((t[k].toNat : Int) != 42) = true := by simpa using h42
        have hr : 48 ≤ (t[k].toNat : Int) ∧ (t[k].toNat : Int) ≤ 49 := by simp [okc] at hkc; omega
        obtain ⟨hr1, hr2⟩ := hr
        by_cases hf : (t[k].toNat : Int) - 48 = bit s k
        · have HF := Lib.hid (hasS_step (s := s) hlt HA.out (by simp [fits]; omega))
          have hd2 : (((t[k].toNat : Int) - 48) != (bit s k : Int)) = false := by simp [hf]
          clear h42 hkc hf
          go_wp2
          go_quiet (fail)
          go_wp2
          go_roundw
          case rel => exact ⟨k + 1, by omega, by go_num, HF, _, rfl⟩
          case measure => simp [intOf]; omega
        · have HF := Lib.hid (hasS_stop (s := s) hlt (by simp [fits]; omega))
          have hd2 : (((t[k].toNat : Int) - 48) != (bit s k : Int)) = true := by simpa using hf
          clear h42 hkc hf
          go_wp2
          go_quiet (fail)
          go_wp2
          go_ret
          exact ⟨ret_bool HF.out.symm, _, (drewN2 _ _ _).symm⟩
    · have HF : Hid (hasS t.data.toList s = true) := Lib.hid (by have := HA.out; rwa [show k = t.size by omega, take_all] at this)
      go_wp2
      go_ret
      exact ⟨ret_bool HF.out.symm, _, rfl⟩

set_option maxHeartbeats 400000 in
theorem l2Has_any (t : ByteArray) (s : Nat) (w : World) (ht : t.size ≤ 63) (hs : s < 4294967296) (hok : Hid (t.data.toList.all okc = true)) :
    Calls Tryd.prog 110 #[.string t, .int .i64 (s : Int)] w fun e w' => e = .returned (.bool (hasS t.data.toList s)) ∧ ∃ n, w.drewN n = w' := by
  go_enter Tryd.func110, Tryd.ntmps110
  go_wp2
  go_loopw [5] (fun i wr => ∃ k : Nat, k ≤ t.size ∧ i = .int .i64 k ∧ Hid (hasS (t.data.toList.take k) s = true) ∧ ∃ n, wr = w.drewN n) (fun i _ => t.size - (intOf i).toNat)
  case atStart => exact ⟨0, Nat.zero_le _, rfl, Lib.hid rfl, 0, rfl⟩
  case round =>
    obtain ⟨k, hk, rfl, HA, n, rfl⟩ := hrel
    by_cases hlt : k < t.size
    · have hb := bit_and s k (by omega)
      have hb2 : (bit s k : Int) < 2 := by have := bit_lt s k; omega
      have hkc : okc t[k] = true := List.all_eq_true.1 hok.out _ (List.getElem_mem (l := t.data.toList) (by simpa using hlt))
      by_cases h42 : (t[k].toNat : Int) = 42
      · have hd : ((t[k].toNat : Int) != 42) = false := by simp [h42]
        have HF := Lib.hid (hasS_step (s := s) hlt HA.out (by simp [fits]; omega))
        clear h42 hkc
        go_wp2
        go_quiet (fail)
        go_wp2
        go_roundw
        case rel => exact ⟨k + 1, by omega, by go_num, HF, _, rfl⟩
        case measure => simp [intOf]; omega
      · have hd : ((t[k].toNat : Int) != 42) = true := by simpa using h42
        have hr : 48 ≤ (t[k].toNat : Int) ∧ (t[k].toNat : Int) ≤ 49 := by simp [okc] at hkc; omega
        obtain ⟨hr1, hr2⟩ := hr
        by_cases hf : (t[k].toNat : Int) - 48 = bit s k
        · have HF := Lib.hid (hasS_step (s := s) hlt HA.out (by simp [fits]; omega))
          have hd2 : (((t[k].toNat : Int) - 48) != (bit s k : Int)) = false := by simp [hf]
          clear h42 hkc hf
          go_wp2
          go_quiet ((go_at_call 103; exact quiet_add_left (l1Bit_any _ _ _ (by omega) (by omega))))
          go_wp2
          go_roundw
          case rel => exact ⟨k + 1, by omega, by go_num, HF, _, rfl⟩
          case measure => simp [intOf]; omega
        · have HF := Lib.hid (hasS_stop (s := s) hlt (by simp [fits]; omega))
          have hd2 : (((t[k].toNat : Int) - 48) != (bit s k : Int)) = true := by simpa using hf
          clear h42 hkc hf
          go_wp2
          go_quiet ((go_at_call 103; exact quiet_add_left (l1Bit_any _ _ _ (by omega) (by omega))))
          go_wp2
          go_ret
          exact ⟨ret_bool HF.out.symm, _, (drewN2 _ _ _).symm⟩
    · have HF : Hid (hasS t.data.toList s = true) := Lib.hid (by have := HA.out; rwa [show k = t.size by omega, take_all] at this)
      go_wp2
      go_ret
      exact ⟨ret_bool HF.out.symm, _, rfl⟩

end Go.Proofs.YtfkdameegljkeaaDoor

/- Walks: slices of integers, the states of a term. -/
namespace Go.Proofs.YtfkdameegljkeaaDoor
open Go.RowKit

theorem clip_any (v : Value) (xs : List Int) (w : World) (B : Nat) (e : TypeId) (h : OI w B e v xs) :
    Calls Tryd.prog 38 #[v] w fun e w' => RetI B xs e w' ∧ w = w' := by
  obtain ⟨A, c, rfl, hc, hO⟩ := h.form
  have hm : xs.length ≤ 9223372036854775807 := by
    rcases h.2 with ⟨_, h0⟩ | ⟨g, cap, cur, _, _, _, hn, hm, _⟩
    · omega
    · simp only [maxLen] at hm; omega
  have HO := Lib.hid hO
  clear hO h
  go_enter Tryd.func38, Tryd.ntmps38
  go_wp2
  go_ret
  exact ⟨⟨A, xs.length, rfl, Nat.le_refl _, HO.out⟩, rfl⟩

theorem stL_of {t : ByteArray} {N : Nat} (h : N = 2 ^ t.size) : stL t.data.toList = sel N (hasS t.data.toList) := by
  rw [stL, h]; simp
theorem l6States_any (t : ByteArray) (w : World) (ht : t.size ≤ 5) (hok : Hid (t.data.toList.all okc = true)) :
    Calls Tryd.prog 97 #[.string t] w fun e w' => RetI w.heap.size (ints (stL t.data.toList)) e w' ∧ Below w.heap.size w w' := by
  obtain ⟨N, HN, hN, hNb, _⟩ := wrap_two t.size ht
  rw [stL_of HN.out]
  go_enter Tryd.func97, Tryd.ntmps97
  go_wp2
  go_loopw [3, 4] (fun v i wr => ∃ k : Nat, k ≤ N ∧ i = .int .i64 k ∧ Hid (OI wr w.heap.size 3 v (ints (sel k (hasS t.data.toList)))) ∧ Below w.heap.size w wr) (fun _ i _ => N - (intOf i).toNat)
  case atStart => exact ⟨0, Nat.zero_le _, rfl, Lib.hid (OI.empty _ _ _ (Nat.le_refl _)), (Below.refl _ _).alloc (Nat.le_refl _) _⟩
  case round =>
    obtain ⟨k, hk, rfl, HO, hB⟩ := hrel
    have hsz := hB.size
    have hlen : (ints (sel k (hasS t.data.toList))).length ≤ k := by rw [ints_length]; exact sel_len _ _
    by_cases hlt : k < N
    · by_cases hs : hasS t.data.toList k = true
      · have HS := Lib.hid (sel_yesI hs)
        go_wp2_with (first
          | (go_at_call 110; refine (l2Has_any _ _ _ (by omega) (by omega) hok).mono ?_; rintro e w2 ⟨rfl, n, rfl⟩)
          | (at_builtin; refine wp_pushI rfl _ _ _ rfl Tryd.underlying25 info_int (HO.out.drewN n) rfl rfl (by omega) hsz ?_; intro v' w3 hown hbel hsz3))
        go_roundw
        case rel => exact ⟨k + 1, by omega, by go_num, Lib.hid (by rw [HS.out]; exact hown), (below_drewN hB _).trans (hbel _ (Nat.le_refl _))⟩
        case measure => simp [intOf]; omega
      · have hs' : hasS t.data.toList k = false := by simpa using hs
        have HS := Lib.hid (sel_noI hs')
        clear hs
        go_wp2_with (go_at_call 110; refine (l2Has_any _ _ _ (by omega) (by omega) hok).mono ?_; rintro e w2 ⟨rfl, n, rfl⟩)
        go_roundw
        case rel => exact ⟨k + 1, by omega, by go_num, Lib.hid (by rw [HS.out]; exact HO.out.drewN n), below_drewN hB _⟩
        case measure => simp [intOf]; omega
    · have hkn : k = N := by omega
      subst hkn
      obtain ⟨A, c, hv, hc, hO⟩ := HO.out.form
      have HV := Lib.hid hv
      clear hv
      go_wp2
      go_ret
      exact ⟨⟨A, c, by rw [← HV.out]; rfl, hc, hO⟩, hB⟩

end Go.Proofs.YtfkdameegljkeaaDoor

/- Walks: slices of integers, the states of a term. -/
namespace Go.Proofs.YtfkdameegljkeaaDoor
open Go.RowKit

set_option maxHeartbeats 400000 in
theorem statesOf_any (t : ByteArray) (w : World) (ht : t.size ≤ 5) (hok : Hid (t.data.toList.all okc = true)) :
    Calls Tryd.prog 74 #[.string t] w fun e w' => RetI w.heap.size (ints (stL t.data.toList)) e w' ∧ Below w.heap.size w w' := by
  obtain ⟨N, HN, hN, hNb, _⟩ := wrap_two t.size ht
  rw [stL_of HN.out]
  go_enter Tryd.func74, Tryd.ntmps74
  go_wp2
  simp only [hN]
  go_loopw [3, 8] (fun v i wr => ∃ k : Nat, k ≤ N ∧ i = .int .i64 k ∧ Hid (OI wr w.heap.size 3 v (ints (sel k (hasS t.data.toList)))) ∧ Below w.heap.size w wr) (fun _ i _ => N - (intOf i).toNat)
  case atStart => exact ⟨0, Nat.zero_le _, rfl, Lib.hid (OI.nil _ _ _), Below.refl _ _⟩
  case round =>
    obtain ⟨k, hk, rfl, HO, hB⟩ := hrel
    have hsz := hB.size
    have hlen : (ints (sel k (hasS t.data.toList))).length ≤ k := by rw [ints_length]; exact sel_len _ _
    by_cases hlt : k < N
    · by_cases hs : hasS t.data.toList k = true
      · have HS := Lib.hid (sel_yesI hs)
        go_wp2_with (first
          | (go_at_call 99; refine (hasState_any _ _ _ (by omega) (by omega) hok).mono ?_; rintro e w2 ⟨rfl, n, rfl⟩)
          | (at_builtin; refine wp_pushI rfl _ _ _ rfl Tryd.underlying25 info_int (HO.out.drewN n) rfl rfl (by omega) hsz ?_; intro v' w3 hown hbel hsz3))
        go_roundw
        case rel => exact ⟨k + 1, by omega, by go_num, Lib.hid (by rw [HS.out]; exact hown), (below_drewN hB _).trans (hbel _ (Nat.le_refl _))⟩
        case measure => simp [intOf]; omega
      · have hs' : hasS t.data.toList k = false := by simpa using hs
        have HS := Lib.hid (sel_noI hs')
        clear hs
        go_wp2_with (go_at_call 99; refine (hasState_any _ _ _ (by omega) (by omega) hok).mono ?_; rintro e w2 ⟨rfl, n, rfl⟩)
        go_roundw
        case rel => exact ⟨k + 1, by omega, by go_num, Lib.hid (by rw [HS.out]; exact HO.out.drewN n), below_drewN hB _⟩
        case measure => simp [intOf]; omega
    · have hkn : k = N := by omega
      subst hkn
      go_wp2_with (go_at_call 38; refine (clip_any _ _ _ _ _ HO.out).mono ?_; rintro e w2 ⟨⟨A, c, rfl, hc, hO⟩, rfl⟩)
      go_ret
      exact ⟨⟨A, c, rfl, hc, hO⟩, hB⟩

end Go.Proofs.YtfkdameegljkeaaDoor

/- Walks of the drawing source: what it hands out lies in its bounds; only its own block changes. -/
namespace Go.Proofs.YtfkdameegljkeaaDoor
open Go.RowKit

/-- the source: block g (from B on) holds the slice of bytes and the counter p; the bytes lie below block B -/
def Rdr (w : World) (B g p : Nat) : Prop := ∃ (A : Option Addr) (n c : Nat) (bs : List Int), B ≤ g ∧ w.heap[g]? = some (.cells #[.slice A n c, .int .i64 (p : Int)] 81 (0, 0)) ∧
  n = bs.length ∧ n ≤ 2000 ∧ n ≤ c ∧ (bs = [] ∨ ∃ h off, A = some ⟨h, off, none⟩ ∧ h < B ∧ ∀ j v, (bs.map (Value.int .u8))[j]? = some v → w.cell? ⟨h, off + j, none⟩ = some v) ∧ ∀ x ∈ bs, 0 ≤ x ∧ x < 256
theorem Rdr.keep {w w' : World} {B g p : Nat} (h : Rdr w B g p) (hb : Below w.heap.size w w') : Rdr w' B g p := by
  obtain ⟨A, n, c, bs, hB, hg, hn, hn2, hc, hr, hx⟩ := h
  refine ⟨A, n, c, bs, hB, ?_, hn, hn2, hc, ?_, hx⟩
  · rw [hb.block g (Array.getElem?_eq_some_iff.1 hg).1]; exact hg
  · rcases hr with hr | ⟨h, off, hA, hh, hcell⟩
    · exact .inl hr
    · exact .inr ⟨h, off, hA, hh, fun j v hj => (hb.cell (World.block_lt_of_cell? w _ (hcell j v hj))).trans (hcell j v hj)⟩
theorem Rdr.keepB {w w' : World} {B g p : Nat} (h : Rdr w B g p) (hb : Below (g + 1) w w') : Rdr w' B g p := by
  obtain ⟨A, n, c, bs, hB, hg, hn, hn2, hc, hr, hx⟩ := h
  refine ⟨A, n, c, bs, hB, ?_, hn, hn2, hc, ?_, hx⟩
  · rw [hb.block g (by omega)]; exact hg
  · rcases hr with hr | ⟨h, off, hA, hh, hcell⟩
    · exact .inl hr
    · exact .inr ⟨h, off, hA, hh, fun j v hj => (hb.cell (p := ⟨h, off + j, none⟩) (by show h < g + 1; omega)).trans (hcell j v hj)⟩
theorem Rdr.lt {w : World} {B g p : Nat} (h : Rdr w B g p) : B ≤ g ∧ g < w.heap.size := by
  obtain ⟨A, n, c, bs, hB, hg, _⟩ := h
  exact ⟨hB, (Array.getElem?_eq_some_iff.1 hg).1⟩
/-- what num hands back: one of the list -/
def NumP (w : World) (B g p : Nat) (xs : List Int) (e : Ending) (w' : World) : Prop := ∃ v, v ∈ xs ∧ e = .returned (.int .i64 v) ∧ Rdr w' B g (p + 1) ∧ w.grownBy w' (some g)
/-- what of hands back: one of the texts -/
def OfP (w : World) (B g p : Nat) (xs : List ByteArray) (e : Ending) (w' : World) : Prop := ∃ v, v ∈ xs ∧ e = .returned (.string v) ∧ Rdr w' B g (p + 1) ∧ w.grownBy w' (some g)
/-- a source has been laid open -/
def OpenP (w : World) (e : Ending) (w' : World) : Prop := ∃ g, e = .returned (.pointer (some ⟨g, 0, none⟩)) ∧ Rdr w' g g 0 ∧ w.heap.size ≤ g ∧ Below w.heap.size w w'
/-- what pick hands back -/
def PickP (w : World) (B g p : Nat) (n : Int) (e : Ending) (w' : World) : Prop := ∃ v : Nat, e = .returned (.int .i64 (v : Int)) ∧ (v : Int) < n ∧ Rdr w' B g (p + 1) ∧ w.grownBy w' (some g)

theorem Rdr.step {w : World} {B g p : Nat} (h : Rdr w B g p) (n : Nat) : Rdr ((w.setCell ⟨g, 1, none⟩ (.int .i64 ((p : Int) + 1))).drewN n) B g (p + 1) ∧ w.grownBy ((w.setCell ⟨g, 1, none⟩ (.int .i64 ((p : Int) + 1))).drewN n) (some g) := by
  obtain ⟨A, m, c, bs, hB, hg, hn, hn2, hc, hr, hx⟩ := h
  refine ⟨⟨A, m, c, bs, hB, ?_, hn, hn2, hc, ?_, hx⟩, ?_⟩
  · show (w.setCell ⟨g, 1, none⟩ (.int .i64 ((p : Int) + 1))).heap[g]? = _
    simp [World.setCell, Array.getElem?_modify, hg]
  · rcases hr with hr | ⟨h, off, hA, hh, hcell⟩
    · exact .inl hr
    · refine .inr ⟨h, off, hA, hh, fun j v hj => ?_⟩
      show (w.setCell ⟨g, 1, none⟩ (.int .i64 ((p : Int) + 1))).cell? _ = _
      rw [World.cell?_setCell_other _ _ _ _ (by intro x; injection x with x _; omega)]
      exact hcell j v hj
  · refine ⟨rfl, rfl, rfl, by show w.heap.size ≤ (w.setCell _ _).heap.size; rw [setCell_size]; omega, fun i _ hne => ?_⟩
    show (w.setCell ⟨g, 1, none⟩ (.int .i64 ((p : Int) + 1))).heap[i]? = _
    exact Below.heap_setCell _ _ _ _ (by intro e; exact hne (by rw [e]))
set_option maxHeartbeats 1000000 in
set_option maxRecDepth 100000 in
theorem pick_any (B g p : Nat) (nn : Int) (w : World) (h : Rdr w B g p) (hn1 : 1 ≤ nn) (hn2 : nn ≤ 4294967296) (hp : p ≤ 1073741824) :
    Calls Tryd.prog 46 #[.pointer (some ⟨g, 0, none⟩), .int .i64 nn] w fun e w' => PickP w B g p nn e w' := by
  have H0 := Lib.hid h
  obtain ⟨A, n, c, bs, hB, hg, hn, hnl, hnc, hr, hx⟩ := h
  have hc0 : w.cell? ⟨g, 0, none⟩ = some (.slice A n c) := by rw [cell_of_row w g 0 _ _ _ hg]; rfl
  have hc1 : w.cell? ⟨g, 1, none⟩ = some (.int .i64 (p : Int)) := by rw [cell_of_row w g 1 _ _ _ hg]; rfl
  have hf1 : w.frozen? ⟨g, 1, none⟩ = false := by simp [World.frozen?, hg]
  have hsz := (Array.getElem?_eq_some_iff.1 hg).1
  clear hg
  have HN := Lib.hid hn
  have HR := Lib.hid hr
  have HX := Lib.hid hx
  clear hn hr hx
  by_cases hz : n = 0
  · subst hz
    go_enter Tryd.func46, Tryd.ntmps46
    go_wp2
    go_ret
    refine ⟨0, rfl, by omega, ?_⟩
    have := H0.out.step 0
    exact this
  · have hb0 : ((n : Int) == 0) = false := by rw [beq_eq_false_iff_ne]; omega
    have hnp : 0 < n := by omega
    clear hz
    rcases HR.out with he | ⟨hh, off, rfl, hhB, hcell⟩
    · exfalso; have := HN.out; rw [he] at this; simp at this; omega
    · have HC := Lib.hid hcell
      clear hcell
      have hget : ∀ j, j < n → ∃ b : Nat, b < 256 ∧ w.cell? ⟨hh, off + j, none⟩ = some (.int .u8 (b : Int)) := fun j hj => by
        have hj' : j < bs.length := by have := HN.out; omega
        have h1 := HX.out _ (List.getElem_mem hj')
        refine ⟨bs[j].toNat, by omega, ?_⟩
        rw [show ((bs[j].toNat : Nat) : Int) = bs[j] by omega]
        exact HC.out j _ (by rw [List.getElem?_map, List.getElem?_eq_getElem hj']; rfl)
      by_cases hlt : p < n
      · obtain ⟨b, hb, hcb⟩ := hget p hlt
        clear hget
        have hbb : (b : Int) < 256 := by omega
        obtain ⟨m, rfl⟩ : ∃ m : Nat, nn = (m : Int) := ⟨nn.toNat, by omega⟩
        go_enter Tryd.func46, Tryd.ntmps46
        go_wp2
        go_ret
        refine ⟨b % m, ret_int (by simp), by have := Nat.mod_lt b (show 0 < m by omega); omega, ?_⟩
        exact H0.out.step 0
      · obtain ⟨b1, hb1, hcb1⟩ := hget (p % n) (Nat.mod_lt _ hnp)
        obtain ⟨b2, hb2, hcb2⟩ := hget ((p * 7 + 3) % n) (Nat.mod_lt _ hnp)
        clear hget
        have hbb1 : (b1 : Int) < 256 := by omega
        have hbb2 : (b2 : Int) < 256 := by omega
        have hq1 : (p : Int) / (n : Int) ≤ p := Int.ediv_le_self _ (by omega)
        have hq0 : 0 ≤ (p : Int) / (n : Int) := Int.ediv_nonneg (by omega) (by omega)
        obtain ⟨m, rfl⟩ : ∃ m : Nat, nn = (m : Int) := ⟨nn.toNat, by omega⟩
        have hne0 : ¬ n = 0 := by omega
        obtain ⟨i1, hi1⟩ : ∃ i1 : Nat, i1 = p % n := ⟨_, rfl⟩
        obtain ⟨i2, hi2⟩ : ∃ i2 : Nat, i2 = (p * 7 + 3) % n := ⟨_, rfl⟩
        have hi1n : i1 < n := by rw [hi1]; exact Nat.mod_lt _ hnp
        have hi2n : i2 < n := by rw [hi2]; exact Nat.mod_lt _ hnp
        have e1 : (p : Int).tmod (n : Int) = (i1 : Int) := by rw [hi1, Int.natCast_emod]; exact Int.tmod_eq_emod_of_nonneg (by omega)
        have e2 : ((p : Int) * 7 + 3).tmod (n : Int) = (i2 : Int) := by rw [hi2, Int.natCast_emod]; exact Int.tmod_eq_emod_of_nonneg (by omega)
        obtain ⟨q, hq⟩ : ∃ q : Nat, q = p / n := ⟨_, rfl⟩
        have hqp : q ≤ p := by rw [hq]; exact Nat.div_le_self _ _
        have e3 : (p : Int).tdiv (n : Int) = (q : Int) := by rw [hq, Int.natCast_ediv]; exact Int.tdiv_eq_ediv_of_nonneg (by omega)
        rw [← hi1] at hcb1
        rw [← hi2] at hcb2
        clear hi1 hi2 hq hq1 hq0
        have f1 : IntKind.i64.wrap ((b1 : Int) * 131) = (b1 : Int) * 131 := IntWalk.i64_in _ (by omega)
        have f2 : IntKind.i64.wrap ((p : Int) * 7) = (p : Int) * 7 := IntWalk.i64_in _ (by omega)
        have f3 : IntKind.i64.wrap ((p : Int) * 7 + 3) = (p : Int) * 7 + 3 := IntWalk.i64_in _ (by omega)
        have f4 : IntKind.i64.wrap ((b2 : Int) * 1117) = (b2 : Int) * 1117 := IntWalk.i64_in _ (by omega)
        have f5 : IntKind.i64.wrap ((b1 : Int) * 131 + (b2 : Int) * 1117) = (b1 : Int) * 131 + (b2 : Int) * 1117 := IntWalk.i64_in _ (by omega)
        have f6 : IntKind.i64.wrap ((p : Int) * 29) = (p : Int) * 29 := IntWalk.i64_in _ (by omega)
        have f7 : IntKind.i64.wrap ((b1 : Int) * 131 + (b2 : Int) * 1117 + (p : Int) * 29) = (b1 : Int) * 131 + (b2 : Int) * 1117 + (p : Int) * 29 := IntWalk.i64_in _ (by omega)
        have f8 : IntKind.i64.wrap (q : Int) = (q : Int) := IntWalk.i64_in _ (by omega)
        have f9 : IntKind.i64.wrap ((q : Int) * 53) = (q : Int) * 53 := IntWalk.i64_in _ (by omega)
        obtain ⟨X, hX⟩ : ∃ X : Nat, (b1 : Int) * 131 + (b2 : Int) * 1117 + (p : Int) * 29 + (q : Int) * 53 = (X : Int) := ⟨b1 * 131 + b2 * 1117 + p * 29 + q * 53, by omega⟩
        have hXb : X < 1099511627776 := by omega
        have fx : IntKind.i64.wrap ((b1 : Int) * 131 + (b2 : Int) * 1117 + (p : Int) * 29 + (q : Int) * 53) = (X : Int) := by rw [hX]; exact IntWalk.i64_in _ (by omega)
        obtain ⟨Y, hY⟩ : ∃ Y : Nat, bits .xor .i64 (X : Int) ((X : Int) / 64) = (Y : Int) := by
          refine ⟨X ^^^ (X / 64), ?_⟩
          rw [show ((X : Int) / 64) = ((X / 64 : Nat) : Int) by omega]
          exact i64_xor_nat _ _ (by omega) (by omega)
        clear hX
        go_enter Tryd.func46, Tryd.ntmps46
        go_wp2
        go_quiet (fail)
        clear e1 e2 e3 f1 f2 f3 f4 f5 f6 f7 f8 f9 fx
        go_wp2
        go_ret
        exact ⟨Y % m, ret_int (by simp), by have := Nat.mod_lt Y (show 0 < m by omega); omega, H0.out.step _⟩

theorem num_any (B g p c : Nat) (A : Option Addr) (xs : List Int) (w : World) (h : Rdr w B g p) (hp : p ≤ 1073741824) (hx : Own w (g + 1) A (xs.map (Value.int .i64))) (h0 : 0 < xs.length) (h1 : xs.length ≤ 1000000) :
    Calls Tryd.prog 44 #[.pointer (some ⟨g, 0, none⟩), .slice A xs.length c] w fun e w' => NumP w B g p xs e w' := by
  go_enter Tryd.func44, Tryd.ntmps44
  go_wp2_with fail
  refine (pick_any _ _ _ _ _ h (by omega) (by omega) hp).mono ?_
  rintro e w1 ⟨v, rfl, hv, hr, hg⟩
  have hv' : v < xs.length := by omega
  obtain ⟨g', off, rfl, hge, hc, _⟩ := (hx.only (Nat.lt_succ_self g) hg).int hv'
  go_wp2
  go_ret
  exact ⟨_, List.getElem_mem hv', rfl, hr, hg⟩

theorem of_any (B g p c : Nat) (A : Option Addr) (xs : List ByteArray) (w : World) (h : Rdr w B g p) (hp : p ≤ 1073741824) (hx : Own w (g + 1) A (xs.map Value.string)) (h0 : 0 < xs.length) (h1 : xs.length ≤ 1000000) :
    Calls Tryd.prog 75 #[.pointer (some ⟨g, 0, none⟩), .slice A xs.length c] w fun e w' => OfP w B g p xs e w' := by
  go_enter Tryd.func75, Tryd.ntmps75
  go_wp2_with fail
  refine (pick_any _ _ _ _ _ h (by omega) (by omega) hp).mono ?_
  rintro e w1 ⟨v, rfl, hv, hr, hg⟩
  have hv' : v < xs.length := by omega
  obtain ⟨g', off, rfl, hge, hc, _⟩ := (hx.only (Nat.lt_succ_self g) hg).at_ (k := v) (v := .string xs[v]) (by simp [hv'])
  go_wp2
  go_ret
  exact ⟨_, List.getElem_mem hv', rfl, hr, hg⟩

/-- the source is laid open over the bytes that came in -/
theorem l14Open_any (A : Option Addr) (n c : Nat) (bs : List Int) (w : World) (hn : n = bs.length) (hnc : n ≤ c) (hc : c ≤ 9223372036854775807) (hr : Hid (Rd w A (bs.map (Value.int .u8)))) (hx : Hid (∀ x ∈ bs, 0 ≤ x ∧ x < 256)) :
    Calls Tryd.prog 26 #[.slice A n c] w fun e w' => OpenP w e w' := by
  have hnew : ∀ (m : Nat), m ≤ n → m ≤ 2000 → Rdr (w.alloc (.cells #[.slice A m c, .int .i64 0] 81)) w.heap.size w.heap.size 0 := by
    intro m hm hm2
    refine ⟨A, m, c, bs.take m, Nat.le_refl _, heap_alloc_new w _, by rw [List.length_take]; omega, hm2, by omega, ?_, fun x hx' => hx.out x (List.mem_of_mem_take hx')⟩
    rcases hr.out with h | ⟨g, off, hA, hcell⟩
    · left
      have : bs = [] := by simpa using h
      rw [this]; simp
    · by_cases h0 : bs.take m = []
      · exact .inl h0
      · have hml : 0 < (bs.take m).length := List.length_pos_iff.2 h0
        have hbl : 0 < bs.length := by rw [List.length_take] at hml; omega
        have hlt := World.block_lt_of_cell? w _ (hcell 0 _ (by rw [List.getElem?_map, List.getElem?_eq_getElem hbl]; rfl))
        refine .inr ⟨g, off, hA, hlt, fun j v hj => ?_⟩
        rw [World.cell?_alloc_lt w _ ⟨g, off + j, none⟩ hlt]
        rw [List.map_take, List.getElem?_take] at hj
        split at hj
        · exact hcell j v hj
        · cases hj
  have HNL := Lib.hid hn
  by_cases h2 : 2000 < n
  · have HF := Lib.hid (hnew 2000 (by omega) (by omega))
    clear hnew hn
    go_enter Tryd.func26, Tryd.ntmps26
    go_wp2
    go_ret
    exact ⟨_, rfl, HF.out, Nat.le_refl _, (Below.refl _ _).alloc (Nat.le_refl _) _⟩
  · have HF := Lib.hid (hnew n (by omega) (by omega))
    clear hnew hn
    go_enter Tryd.func26, Tryd.ntmps26
    go_wp2
    go_ret
    exact ⟨_, rfl, HF.out, Nat.le_refl _, (Below.refl _ _).alloc (Nat.le_refl _) _⟩

end Go.Proofs.YtfkdameegljkeaaDoor

/- Walks of the functions on tables. -/
namespace Go.Proofs.YtfkdameegljkeaaDoor
open Go.RowKit
set_option linter.unusedVariables false

/-- the cells of a table: how many inputs, and the values of 32 states -/
def tabL (n : Nat) (b : Nat → Nat) : List Value := .int .i64 (n : Int) :: (List.range 32).map fun s => .int .u8 (b s : Int)
theorem tabL_length (n : Nat) (b : Nat → Nat) : (tabL n b).length = 33 := by simp [tabL]
theorem tabL_n (n : Nat) (b : Nat → Nat) : (tabL n b)[0]? = some (.int .i64 (n : Int)) := rfl
theorem tabL_b (n : Nat) (b : Nat → Nat) (s : Nat) (h : s < 32) : (tabL n b)[1 + s]? = some (.int .u8 (b s : Int)) := by
  rw [tabL, Nat.add_comm, List.getElem?_cons_succ, List.getElem?_map, List.getElem?_range h]; rfl

def zeroB (_ : Nat) : Nat := 0
theorem tab_size : (Tryd.prog.info? 74).map (fun i => i.size) = some 33 := by kernel_rfl
theorem tab_alloc (W : World) : (Instr.alloc 74 true (.tuple #[])).run Tryd.prog W = .ok (.pointer (some ⟨W.heap.size, 0, none⟩)) (W.alloc (.cells (tabL 0 zeroB).toArray 74)) := by kernel_rfl
theorem tab_fits (n : Nat) (b : Nat → Nat) : (Tryd.prog.info? 74).map (fun i => i.size) = some (tabL n b).toArray.size := by rw [tab_size, List.size_toArray, tabL_length]
theorem tab_same (n m : Nat) (b c : Nat → Nat) : (tabL n b).toArray.size = (tabL m c).toArray.size := by rw [List.size_toArray, List.size_toArray, tabL_length, tabL_length]
theorem tab_build (n : Nat) (W : World) : (Instr.build 74 #[(0, .int .i64 (n : Int))]).run Tryd.prog W = .ok (.agg (tabL n zeroB).toArray) W := by kernel_rfl
theorem tab_build0 (W : World) : (Instr.build 74 #[]).run Tryd.prog W = .ok (.agg (tabL 0 zeroB).toArray) W := by kernel_rfl

theorem width_any (n N : Nat) (b : Nat → Nat) (w : World) (hn : n ≤ 5) (HN : Hid (N = 2 ^ n)) :
    Calls Tryd.prog 83 #[.agg (tabL n b).toArray] w fun e w' => e = .returned (.int .i64 (N : Int)) ∧ Below w.heap.size w w' := by
  have hN : wrap64 ((2 : Int) ^ n) = (N : Int) := by
    rw [HN.out, show ((2 : Int) ^ n) = ((2 ^ n : Nat) : Int) by simp]
    exact wrap64_small _ (two_le n hn)
  have hc : (w.alloc (.cells (tabL n b).toArray 74)).cell? ⟨w.heap.size, 0, none⟩ = some (.int .i64 (n : Int)) := by rw [cell_new]; simp [tabL]
  go_enter Tryd.func83, Tryd.ntmps83
  go_wp2
  simp only [hN]
  go_ret
  exact ⟨rfl, (Below.refl _ _).alloc (Nat.le_refl _) _⟩

/-- calling the closure at a state gives a byte, and writes nothing that was there -/
def Clo (w : World) (N F : Nat) (caps : Array Value) (b : Nat → Nat) : Prop :=
  ∀ (s : Nat) (w1 : World), s < N → Below w.heap.size w w1 → Calls Tryd.prog F (#[.int .i64 (s : Int)] ++ caps) w1 fun e w2 => e = .returned (.int .u8 (b s : Int)) ∧ Below w1.heap.size w1 w2
theorem tabL_one (n : Nat) (b : Nat → Nat) : ∀ v ∈ tabL n b, v.oneCell' = true := by
  intro v hv
  simp only [tabL, List.mem_cons, List.mem_map] at hv
  rcases hv with rfl | ⟨_, _, rfl⟩ <;> rfl
theorem tab_all (n : Nat) (b : Nat → Nat) : (tabL n b).toArray.all (·.oneCell') = true := all_oneCell_toArray (tabL_one n b)
theorem tab_set (n : Nat) (b : Nat → Nat) (k v : Nat) (h : k < 32) : (tabL n b).toArray.setIfInBounds (1 + k) (.int .u8 (v : Int)) = (tabL n fun s => if s = k then v else b s).toArray := by
  apply Array.ext'
  rw [Array.toList_setIfInBounds]
  apply List.ext_getElem?
  intro j
  rw [List.getElem?_set]
  cases j with
  | zero => rw [if_neg (by omega)]; rfl
  | succ j =>
    simp only [tabL, List.getElem?_cons_succ, List.getElem?_map, List.length_cons, List.length_map, List.length_range]
    by_cases hj : j < 32
    · rw [List.getElem?_range hj]
      by_cases e : k = j
      · subst e; rw [if_pos (by omega), if_pos (by omega)]; simp
      · rw [if_neg (by omega)]; simp [Ne.symm e]
    · rw [if_neg (by omega), List.getElem?_eq_none (by simpa using hj)]; rfl
theorem tabL_congr (n : Nat) (b c : Nat → Nat) (h : ∀ s, s < 32 → b s = c s) : tabL n b = tabL n c := by
  unfold tabL
  congr 1
  apply List.map_congr_left
  intro s hs
  rw [h s (by simpa using hs)]
set_option maxHeartbeats 400000 in
theorem each_any (n F : Nat) (caps : Array Value) (b : Nat → Nat) (w : World) (hn : n ≤ 5) (hF : ∀ (args : Array Value) (W : World), (callFunc F args).run Tryd.prog W = .ok (.enter F args) W) (hC : Hid (Clo w (2 ^ n) F caps b)) :
    Calls Tryd.prog 51 #[.int .i64 (n : Int), .func (.func F) #[] caps] w fun e w' => e = .returned (.agg (tabL n fun s => if s < 2 ^ n then b s else 0).toArray) ∧ Below w.heap.size w w' := by
  obtain ⟨N, HN, hN2⟩ : ∃ N : Nat, Hid (N = 2 ^ n) ∧ N ≤ 32 := ⟨2 ^ n, rfl, two_le n hn⟩
  rw [← HN.out] at hC ⊢
  go_enter Tryd.func51, Tryd.ntmps51
  go_wp2_with (first
    | ((with_reducible refine wpStop (o := ⟨some 4, _, _, _, _, _⟩) ?_); refine ⟨?_⟩; refine wpList_alloc_blk rfl _ rfl _ (tab_alloc _) ?_; intro g0 w1 hg0 hb0 hB1)
    | ((with_reducible refine wpStop (o := ⟨some 8, _, _, _, _, _⟩) ?_); refine ⟨?_⟩; refine wpList_build_as rfl _ _ rfl [(0, .int .i64 (n : Int))] rfl _ (tab_build _ _) ?_)
    | ((with_reducible refine wpStop (o := ⟨some 5, _, _, _, _, _⟩) ?_); refine ⟨?_⟩; refine wpList_alloc_blk rfl _ rfl _ (tab_alloc _) ?_; intro g1 w2 hg1 hb1 hB2)
    | ((with_reducible refine wpStop (o := ⟨none, Op.store 74 _ _, _, _, _, _⟩) ?_); refine ⟨?_⟩; refine wpList_store_blk rfl _ _ _ rfl rfl rfl hb1 (tab_fits _ _) (tab_same _ _ _ _) (tab_all _ _) ?_; intro w3 hb2 ho3)
    | ((with_reducible refine wpStop (o := ⟨some 9, _, _, _, _, _⟩) ?_); refine ⟨?_⟩; refine wpList_load_blk rfl _ _ rfl rfl hb2 Tryd.underlying74 rfl (tab_fits _ _) ?_)
    | (go_at_call 83; refine (width_any _ N _ _ hn HN).mono ?_; rintro e w4 ⟨rfl, hB4⟩))
  have hl0 := hb0.lt
  have hl1 := hb1.lt
  have hz3 := ho3.size
  have hBw : Below w.heap.size w w4 := ((hB1 _ (Nat.le_refl _)).trans (hB2 _ (by omega))).trans ((Below.of_grown ho3 (by omega) (by omega)).trans (hB4.mono (by omega)))
  have HT := Lib.hid (hb2.keep hB4)
  have H0 := Lib.hid (((hb0.below (hB2 _ (Nat.le_refl _)) hl0).only ho3 (by omega)).keep hB4)
  clear hb0 hb1 hb2 hB1 hB2 ho3 hB4
  go_loopw [11] (fun q wr => ∃ k : Nat, k ≤ N ∧ q = .int .i64 k ∧ Hid (Blk wr g1 74 (tabL n fun s => if s < k then b s else 0).toArray) ∧ Hid (Blk wr g0 74 (tabL 0 zeroB).toArray) ∧ Below w.heap.size w wr) (fun q _ => N - (intOf q).toNat)
  case atStart => exact ⟨0, Nat.zero_le _, rfl, Lib.hid (by rw [tabL_congr n (fun s => if s < 0 then b s else 0) zeroB (fun s _ => by simp [zeroB])]; exact HT.out), H0, hBw⟩
  case round =>
    clear hBw
    obtain ⟨k, hk, rfl, HT, H0, hB⟩ := hrel
    have hsz := hB.size
    have hl1 := HT.out.lt
    have hl0 := H0.out.lt
    by_cases hlt : k < N
    · have hk32 : k < 32 := by omega
      go_wp2_with fail
      refine (hC.out k wr hlt hB).mono ?_
      rintro e w5 ⟨rfl, hB5⟩
      have hT5 := HT.out.keep hB5
      have hc5 : w5.cell? ⟨g1, 1 + k, none⟩ = some (.int .u8 0) := by
        rw [hT5.cell, List.getElem?_toArray, tabL_b _ _ _ hk32, if_neg (by omega)]; rfl
      have hf5 := hT5.frozen (1 + k)
      have HS := Lib.hid (hT5.set_ (1 + k) (.int .u8 (b k : Int)))
      have H05 := Lib.hid (H0.out.keep hB5)
      have hz5 := hB5.size
      clear hT5
      go_wp2_with fail
      go_roundw
      case rel => exact ⟨k + 1, by omega, by go_num, Lib.hid (by
        have h := HS.out
        rw [tab_set _ _ _ _ hk32, tabL_congr n _ (fun s => if s < k + 1 then b s else 0) (fun s _ => by
          by_cases e : s = k
          · rw [if_pos e, if_pos (by omega), e]
          · rw [if_neg e]
            by_cases e2 : s < k
            · rw [if_pos e2, if_pos (by omega)]
            · rw [if_neg e2, if_neg (by omega)])] at h
        exact h), Lib.hid (H05.out.only (only_setCell _ _ _ _) (by omega)), (hB.trans (hB5.mono hsz)).setCell (by show w.heap.size ≤ g1; omega) _⟩
      case measure => simp [intOf]; omega
    · have hkN : k = N := by omega
      subst hkN
      have h0 := H0.out
      have hT := HT.out
      go_wp2_with (first
        | ((with_reducible refine wpStop (o := ⟨some 21, _, _, _, _, _⟩) ?_); refine ⟨?_⟩; refine wpList_load_blk rfl _ _ rfl rfl hT Tryd.underlying74 rfl (tab_fits _ _) ?_)
        | ((with_reducible refine wpStop (o := ⟨none, Op.store 74 _ _, _, _, _, _⟩) ?_); refine ⟨?_⟩; refine wpList_store_blk rfl _ _ _ rfl rfl rfl h0 (tab_fits _ _) (tab_same _ _ _ _) (tab_all _ _) ?_; intro w6 hb6 ho6))
      refine bodyPost_ret (results_cell_row rfl _ _ _ _ _ _ _ rfl hb6 Tryd.underlying74 rfl (tab_fits _ _)) rfl ⟨rfl, hB.trans (Below.of_grown ho6 hg0 (by omega))⟩

theorem txt_row {b : Nat → Nat} {N k : Nat} {w : World} {g : Nat} (hk : k < N) (hb : b k < 10) (h : BytesAt w g (txt k b ++ List.replicate (N - k) 0)) :
    BytesAt (w.setCell ⟨g, k, none⟩ (.int .u8 (48 + (b k : Int)))) g (txt (k + 1) b ++ List.replicate (N - (k + 1)) 0) := by
  have h1 := h.set_ k (chr (b k))
  rw [chr_toNat _ hb] at h1
  have e : (txt k b ++ List.replicate (N - k) 0).set k (chr (b k)) = txt (k + 1) b ++ List.replicate (N - (k + 1)) 0 := by
    rw [List.set_append_right _ _ (by rw [txt_length]; omega), txt_length, Nat.sub_self, txt_succ]
    rw [show N - k = (N - (k + 1)) + 1 by omega, List.replicate_succ, List.set_cons_zero]
    simp
  rw [e] at h1
  simpa using h1
set_option maxHeartbeats 400000 in
theorem text_any (n N : Nat) (b : Nat → Nat) (w : World) (hn : n ≤ 5) (HN : Hid (N = 2 ^ n)) (hb : Hid (∀ s, s < N → b s < 2)) :
    Calls Tryd.prog 54 #[.agg (tabL n b).toArray] w fun e w' => e = .returned (.string ⟨(txt N b).toArray⟩) ∧ Below w.heap.size w w' := by
  have hN32 : N ≤ 32 := by rw [HN.out]; exact two_le n hn
  have hmk := fun W => make_row Tryd.underlying22 info_u8 rfl N (by omega) (by omega) W
  obtain ⟨g, hg⟩ : ∃ g, g = w.heap.size := ⟨_, rfl⟩
  have HB0 := Lib.hid (show Blk (w.alloc (.cells (tabL n b).toArray 74)) w.heap.size 74 (tabL n b).toArray from Blk.new _ _ _)
  have hBW : Below w.heap.size w (w.alloc (.cells (tabL n b).toArray 74)) := (Below.refl _ _).alloc (Nat.le_refl _) _
  go_enter Tryd.func54, Tryd.ntmps54
  go_wp2_with (first
    | ((with_reducible refine wpStop (o := ⟨some 5, _, _, _, _, _⟩) ?_); refine ⟨?_⟩; refine wpList_load_blk rfl _ _ rfl rfl HB0.out Tryd.underlying74 rfl (tab_fits _ _) ?_)
    | (go_at_call 83; refine (width_any _ N _ _ hn HN).mono ?_; rintro e w1 ⟨rfl, hB1⟩))
  have hz1 := hB1.size
  rw [alloc_size] at hz1
  have HT := Lib.hid (HB0.out.keep hB1)
  have hBw1 : Below w.heap.size w w1 := hBW.trans (hB1.mono (by rw [alloc_size]; omega))
  clear hB1 hBW
  go_loopw [10] (fun q wr => ∃ k : Nat, k ≤ N ∧ q = .int .i64 k ∧ Hid (BytesAt wr w1.heap.size (txt k b ++ List.replicate (N - k) 0)) ∧ Hid (Blk wr w.heap.size 74 (tabL n b).toArray) ∧ Below w.heap.size w wr ∧ w1.heap.size < wr.heap.size) (fun q _ => N - (intOf q).toNat)
  case atStart => exact ⟨0, Nat.zero_le _, rfl, Lib.hid (BytesAt.made w1 N _), Lib.hid (HT.out.keep ((Below.refl _ _).alloc (Nat.le_refl _) _)), hBw1.alloc (by omega) _, by rw [alloc_size]; omega⟩
  case round =>
    obtain ⟨k, hk, rfl, HR, HT, hB, hz⟩ := hrel
    by_cases hlt : k < N
    · have hk32 : k < 32 := by omega
      obtain ⟨hc1, hc2⟩ := HR.out.at_ (j := k) (c := 0) (by
        rw [List.getElem?_append_right (by rw [txt_length]; omega), txt_length, Nat.sub_self]
        rw [show N - k = (N - (k + 1)) + 1 by omega, List.replicate_succ]; rfl)
      have hcb : wr.cell? ⟨w.heap.size, 1 + k, none⟩ = some (.int .u8 (b k : Int)) := by rw [HT.out.cell, List.getElem?_toArray, tabL_b _ _ _ hk32]
      have hbk : (b k : Int) < 2 := by have := hb.out k hlt; omega
      go_wp2_with fail
      go_roundw
      case rel => exact ⟨k + 1, by omega, by go_num, Lib.hid (txt_row hlt (by omega) HR.out), Lib.hid (HT.out.only (only_setCell _ _ _ _) (by omega)), hB.setCell (by show w.heap.size ≤ w1.heap.size; omega) _, by rw [setCell_size]; omega⟩
      case measure => simp [intOf]; omega
    · have hkn : k = N := by omega
      subst hkn
      have hback := conv_back (P := Tryd.prog) wr 22 9 5 w1.heap.size k k (txt k b) (txt_length k b).symm Tryd.underlying22 Tryd.underlying5 Tryd.underlying9 (by simpa using HR.out)
      go_wp2_with fail
      go_ret
      exact ⟨rfl, hB⟩

theorem readTable1_any (f : ByteArray) (p : Nat) (s : Nat) (w : World) (hs : s < f.size) (hp : w.cell? ⟨p, 0, none⟩ = some (.string f)) (hb : Hid (b01 f[s] = true)) :
    Calls Tryd.prog 89 #[.int .i64 (s : Int), .pointer (some ⟨p, 0, none⟩)] w fun e w' => e = .returned (.int .u8 (val f.data.toList s : Int)) ∧ Below w.heap.size w w' := by
  have hr : 48 ≤ (f[s].toNat : Int) ∧ (f[s].toNat : Int) ≤ 49 := by have := hb.out; simp [b01] at this; omega
  obtain ⟨hr1, hr2⟩ := hr
  have hv : Hid ((val f.data.toList s : Int) = (f[s].toNat : Int) - 48) := Lib.hid (by
    have e : val f.data.toList s = f[s].toNat - 48 := val_get (l := f.data.toList) (by simpa using hs)
    rw [e]; omega)
  go_enter Tryd.func89, Tryd.ntmps89
  go_wp2
  go_ret
  exact ⟨ret_int hv.out.symm, Below.refl _ _⟩

/-- the table of a text, the empty one if it is none -/
def tabOf (l : List UInt8) : List Value := if okT l then tabL (tin l.length) (fun s => if s < 2 ^ tin l.length then val l s else 0) else tabL 0 zeroB
theorem tabOf_no {l : List UInt8} (h : okT l = false) : tabOf l = tabL 0 zeroB := by rw [tabOf, h]; rfl
theorem tabOf_yes {l : List UInt8} {n : Nat} (h : okT l = true) (hn : tin l.length = n) : tabOf l = tabL n (fun s => if s < 2 ^ n then val l s else 0) := by rw [tabOf, h, hn]; rfl
theorem closed_readTable : ∀ (args : Array Value) (W : World), (callFunc 89 args).run Tryd.prog W = .ok (.enter 89 args) W := fun _ _ => by kernel_rfl
set_option maxHeartbeats 1000000 in
theorem readTable_any (f : ByteArray) (w : World) (hf : f.size ≤ 9223372036854775807) :
    Calls Tryd.prog 59 #[.string f] w fun e w' => e = .returned (.tuple #[.agg (tabOf f.data.toList).toArray, .bool (okT f.data.toList)]) ∧ Below w.heap.size w w' := by
  have hbx : Blk (w.alloc (.cells #[.string f] 9)) w.heap.size 9 #[.string f] := Blk.new _ _ _
  have hBx : Below w.heap.size w (w.alloc (.cells #[.string f] 9)) := (Below.refl _ _).alloc (Nat.le_refl _) _
  obtain ⟨p, hp⟩ : ∃ p, p = w.heap.size := ⟨_, rfl⟩
  go_enter Tryd.func59, Tryd.ntmps59
  go_wp2_with ((with_reducible refine wpStop (o := ⟨some 2, _, _, _, _, _⟩) ?_); refine ⟨?_⟩; refine wpList_alloc_blk rfl _ rfl _ (tab_alloc _) ?_; intro g w1 hg hb0 hB1)
  rw [alloc_size] at hg
  have HX := Lib.hid (hbx.below (hB1 _ (Nat.le_refl _)) hbx.lt)
  have HBw := Lib.hid (hBx.trans (hB1 _ (by rw [alloc_size]; omega)))
  have HT := Lib.hid hb0
  have hgl := hb0.lt
  have HP := Lib.hid hp
  have hpl : p ≤ w.heap.size ∧ w.heap.size ≤ p := by omega
  rw [← HP.out] at hg HX HBw ⊢
  clear hB1 hbx hBx hb0 hp
  go_loopw [4, 5] (fun q _ wr => ∃ k n : Nat, 1 ≤ k ∧ k ≤ 6 ∧ q = .int .i64 k ∧ Hid (∀ m, 1 ≤ m → m < k → ¬ f.size = 2 ^ m) ∧ wr = w1.drewN n) (fun q _ _ => 6 - (intOf q).toNat)
  case atStart => exact ⟨1, 0, by omega, by omega, rfl, Lib.hid (fun m h1 h2 => by omega), rfl⟩
  case round =>
    obtain ⟨k, nd, hk1, hk6, rfl, HA, rfl⟩ := hrel
    have hcx := HX.out.cell 0
    have hcx2 : w1.cell? ⟨p, 0, none⟩ = some (.string f) := hcx
    clear hcx
    by_cases hlt : k ≤ 5
    · obtain ⟨N, HN, hN, hN32, hN0⟩ := wrap_two k hlt
      by_cases hs : (f.size : Int) = N
      · have hd : ((f.size : Int) != (N : Int)) = false := by simp [hs]
        have hfs1 : f.size ≤ N := by omega
        have hfs2 : N ≤ f.size := by omega
        have HT2 : Hid (tin f.data.toList.length = k) := Lib.hid (by
          rw [Array.length_toList, ByteArray.size_data, show f.size = 2 ^ k by rw [← HN.out]; omega]; exact tin_pow k hk1 hlt)
        clear hs
        go_wp2_with fail
        go_quiet (fail)
        go_wp2_with fail
        simp only [hN]
        obtain ⟨nd2, hnd2⟩ : ∃ nd2, (w1.drewN nd).drewN nq = w1.drewN nd2 := ⟨_, drewN2 _ _ _⟩
        rw [hnd2]
        clear hnd2
        go_loopw [5] (fun q wr => ∃ i : Nat, i ≤ N ∧ q = .int .i64 i ∧ Hid ((f.data.toList.take i).all b01 = true) ∧ wr = w1.drewN nd2) (fun q _ => N - (intOf q).toNat)
        case atStart => exact ⟨0, Nat.zero_le _, rfl, Lib.hid rfl, rfl⟩
        case round =>
          obtain ⟨i, hi, rfl, HI, rfl⟩ := hrel
          by_cases hil : i < N
          · have hif : i < f.size := by omega
            by_cases hb0 : b01 f[i] = true
            · have HI2 := Lib.hid (all_take_snoc hif HI.out hb0)
              have h01 : (f[i].toNat : Int) = 48 ∨ (f[i].toNat : Int) = 49 := by simp [b01] at hb0; omega
              clear hb0
              rcases h01 with h48 | h49
              · have hd1 : ((f[i].toNat : Int) != 48) = false := by simp [h48]
                clear h48
                go_wp2_with fail
                go_roundw
                case rel => exact ⟨i + 1, by omega, by go_num, HI2, trivial⟩
                case measure => simp [intOf]; omega
              · have hd1 : ((f[i].toNat : Int) != 48) = true := by simp [h49]
                have hd2 : ((f[i].toNat : Int) != 49) = false := by simp [h49]
                clear h49
                go_wp2_with fail
                go_roundw
                case rel => exact ⟨i + 1, by omega, by go_num, HI2, trivial⟩
                case measure => simp [intOf]; omega
            · have hb1 : b01 f[i] = false := by simpa using hb0
              have HO : Hid (okT f.data.toList = false) := Lib.hid (by
                have h := all_take_bad (p := b01) hif hb1
                rw [okT, h, Bool.and_false])
              have h48 : ¬ (f[i].toNat : Int) = 48 := fun e => by simp [b01] at hb1; omega
              have h49 : ¬ (f[i].toNat : Int) = 49 := fun e => by simp [b01] at hb1; omega
              clear hb0 hb1
              have hd1 : ((f[i].toNat : Int) != 48) = true := by simpa using h48
              have hd2 : ((f[i].toNat : Int) != 49) = true := by simpa using h49
              clear h48 h49
              have hT := HT.out
              go_wp2_with (first
                | ((with_reducible refine wpStop (o := ⟨some 31, _, _, _, _, _⟩) ?_); refine ⟨?_⟩; refine wpList_build_as rfl _ _ rfl [] rfl _ (tab_build0 _) ?_)
                | ((with_reducible refine wpStop (o := ⟨none, Op.store 74 _ _, _, _, _, _⟩) ?_); refine ⟨?_⟩; refine wpList_store_blk (w := w1.drewN nd2) rfl _ _ _ rfl rfl rfl hT (tab_fits _ _) (tab_same _ _ _ _) (tab_all _ _) ?_; intro w6 hb6 ho6))
              refine bodyPost_ret (results_row_tmp rfl _ rfl hb6 Tryd.underlying74 rfl (tab_fits _ _)) rfl ⟨by rw [HO.out, tabOf_no HO.out]; rfl, ?_⟩
              rw [← HP.out]
              exact HBw.out.trans ((drewN_below _ _).trans (Below.of_grown ho6 (by omega) (by rw [drewN_size]; omega)))
          · have HI2 := HI.out
            rw [List.take_of_length_le (by simp; omega)] at HI2
            have HO : Hid (okT f.data.toList = true) := Lib.hid (by rw [okT, HI2, HT2.out]; simp; omega)
            have HIh := Lib.hid (List.all_eq_true.1 HI2)
            clear HI2
            have hC : Hid (Clo (w1.drewN nd2) (2 ^ k) 89 #[.pointer (some ⟨p, 0, none⟩)] (val f.data.toList)) := Lib.hid (fun s wX hs hBX => by
              have hsf : s < f.size := by have := HN.out; omega
              refine readTable1_any f p s wX hsf ?_ (Lib.hid (HIh.out _ ?_))
              · exact ((HX.out.drewN nd2).below hBX (by rw [drewN_size]; omega)).cell 0
              · exact List.getElem_mem (l := f.data.toList) (by simpa using hsf))
            have hT := HT.out
            go_wp2_with (first
              | (go_at_call 51; refine (each_any k _ _ _ _ hlt closed_readTable hC).mono ?_; rintro e w5 ⟨rfl, hB5⟩)
              | ((with_reducible refine wpStop (o := ⟨none, Op.store 74 _ _, _, _, _, _⟩) ?_); refine ⟨?_⟩; refine wpList_store_blk (w := w5) rfl _ _ _ rfl rfl rfl ((HT.out.drewN nd2).keep hB5) (tab_fits _ _) (tab_same _ _ _ _) (tab_all _ _) ?_; intro w6 hb6 ho6))
            refine bodyPost_ret (results_row_tmp rfl _ rfl hb6 Tryd.underlying74 rfl (tab_fits _ _)) rfl ⟨by rw [HO.out, tabOf_yes HO.out HT2.out]; rfl, ?_⟩
            rw [← HP.out]
            have hz5 := hB5.size
            rw [drewN_size] at hz5
            exact HBw.out.trans ((drewN_below _ _).trans ((hB5.mono (by rw [drewN_size]; omega)).trans (Below.of_grown ho6 (by omega) (by omega))))
      · have hd : ((f.size : Int) != (N : Int)) = true := by simpa using hs
        have HA2 : Hid (∀ m, 1 ≤ m → m < k + 1 → ¬ f.size = 2 ^ m) := Lib.hid (fun m h1 h2 => by
          by_cases e : m = k
          · subst e; have := HN.out; omega
          · exact HA.out m h1 (by omega))
        clear hs
        go_wp2_with fail
        go_quiet (fail)
        go_wp2_with fail
        go_roundw
        case rel => exact ⟨k + 1, _, by omega, by omega, by go_num, HA2, rfl⟩
        case measure => simp [intOf]; omega
    · have HO : Hid (okT f.data.toList = false) := Lib.hid (by
        have h : tin f.data.toList.length = 0 := tin_none _ (fun m h1 h5 => by
          have := HA.out m h1 (by omega); simpa using this)
        rw [okT, h]; rfl)
      have hT := HT.out
      go_wp2_with (first
        | ((with_reducible refine wpStop (o := ⟨some 35, _, _, _, _, _⟩) ?_); refine ⟨?_⟩; refine wpList_build_as rfl _ _ rfl [] rfl _ (tab_build0 _) ?_)
        | ((with_reducible refine wpStop (o := ⟨none, Op.store 74 _ _, _, _, _, _⟩) ?_); refine ⟨?_⟩; refine wpList_store_blk (w := w1.drewN nd) rfl _ _ _ rfl rfl rfl hT (tab_fits _ _) (tab_same _ _ _ _) (tab_all _ _) ?_; intro w6 hb6 ho6))
      refine bodyPost_ret (results_row_tmp rfl _ rfl hb6 Tryd.underlying74 rfl (tab_fits _ _)) rfl ⟨by rw [HO.out, tabOf_no HO.out]; rfl, ?_⟩
      rw [← HP.out]
      exact HBw.out.trans ((drewN_below _ _).trans (Below.of_grown ho6 (by omega) (by rw [drewN_size]; omega)))

end Go.Proofs.YtfkdameegljkeaaDoor

