/- A law for maps from int to int that a call makes: looking up, putting. -/
import Derived.Test.YtpehimjngofnkaaDoorProg
import Derived.WalkKit
import Derived.Lib.Hide
import Derived.Test.YtpehimjngofnkaaDoorG3
namespace Go.Proofs.YtpehimjngofnkaaDoor
open Go.RowKit
set_option linter.unusedVariables false

/-- the value at a key -/
def getM : List (Int × Int) → Int → Option Int
  | [], _ => none
  | (a, v) :: l, k => if k = a then some v else getM l k
/-- with a value put at a key -/
def setM : List (Int × Int) → Int → Int → List (Int × Int)
  | [], k, v => [(k, v)]
  | (a, u) :: l, k, v => if k = a then (a, v) :: l else (a, u) :: setM l k v
theorem getM_setM : ∀ (l : List (Int × Int)) (k v j : Int), getM (setM l k v) j = if j = k then some v else getM l j
  | [], k, v, j => by simp [setM, getM]
  | (a, u) :: l, k, v, j => by
    by_cases h : k = a
    · subst h
      simp only [setM, if_true, getM]
      split <;> simp_all
    · rw [setM, if_neg h, getM, getM, getM_setM l k v j]
      by_cases h2 : j = a
      · rw [if_pos h2, if_pos h2, if_neg (by intro e; exact h (by rw [← e, h2]))]
      · rw [if_neg h2, if_neg h2]
def ent (p : Int × Int) : Value × Value := (.int .i64 p.1, .int .i64 p.2)
def MapAt (w : World) (b : Nat) (kvs : List (Int × Int)) : Prop :=
  ∃ es cl, w.heap[b]? = some (.map es cl) ∧ MapKept.Stamped es cl ∧ es.toList.map (fun e : MapEntry => (e.key, e.val)) = kvs.map ent
theorem MapAt.blk {w w' : World} {b : Nat} {kvs : List (Int × Int)} (h : MapAt w b kvs) (hb : w'.heap[b]? = w.heap[b]?) : MapAt w' b kvs := by
  obtain ⟨es, cl, h1, h0, h2⟩ := h
  exact ⟨es, cl, hb.trans h1, h0, h2⟩
theorem MapAt.lt {w : World} {b : Nat} {kvs : List (Int × Int)} (h : MapAt w b kvs) : b < w.heap.size := by
  obtain ⟨es, cl, h1, _⟩ := h
  exact (Array.getElem?_eq_some_iff.1 h1).1
theorem MapAt.below {w w' : World} {b : Nat} {kvs : List (Int × Int)} (h : MapAt w b kvs) (hb : Below w.heap.size w w') : MapAt w' b kvs := h.blk (hb.block b h.lt)
theorem MapAt.made (w : World) : MapAt (w.alloc (.map #[] 0)) w.heap.size [] := ⟨#[], 0, heap_alloc_new w _, MapKept.stamped_empty 0, rfl⟩
theorem find_map (k : Int) : ∀ (l : List MapEntry) (kvs : List (Int × Int)) (i : Nat), l.map (fun e : MapEntry => (e.key, e.val)) = kvs.map ent →
    (∀ v, getM kvs k = some v → ∃ j, Instr.findNow (.int .i64) (.int .i64 k) l i = some (some (i + j, .int .i64 v)) ∧ l[j]?.map (fun e : MapEntry => (e.key, e.val)) = some (.int .i64 k, .int .i64 v) ∧ ∀ u, (l.map (fun e : MapEntry => (e.key, e.val))).set j (.int .i64 k, .int .i64 u) = (setM kvs k u).map ent) ∧
    (getM kvs k = none → Instr.findNow (.int .i64) (.int .i64 k) l i = some none ∧ (∀ u, (setM kvs k u) = kvs ++ [(k, u)]) ∧ ∀ e ∈ l, e.key ≠ Value.int .i64 k)
  | [], kvs, i, h => by
    cases kvs with
    | nil => exact ⟨fun v h => by simp [getM] at h, fun _ => ⟨rfl, fun _ => rfl, by simp⟩⟩
    | cons a kvs => simp at h
  | e :: l, kvs, i, h => by
    cases kvs with
    | nil => simp at h
    | cons p kvs =>
      obtain ⟨a, x⟩ := p
      simp only [List.map_cons, List.cons.injEq, Prod.mk.injEq, ent] at h
      obtain ⟨⟨hk, hv⟩, ht⟩ := h
      have ih := find_map k l kvs (i + 1) ht
      by_cases e1 : k = a
      · subst e1
        refine ⟨fun v hg => ?_, fun hn => by simp [getM] at hn⟩
        rw [getM, if_pos rfl] at hg
        injection hg with hg
        subst hg
        refine ⟨0, ?_, by simp [hk, hv], fun u => ?_⟩
        · simp [Instr.findNow, Instr.sameNow, hk, hv]
        · rw [List.map_cons, List.set_cons_zero, setM, if_pos rfl, List.map_cons]
          congr 1
      · have hs : Instr.findNow (.int .i64) (.int .i64 k) (e :: l) i = Instr.findNow (.int .i64) (.int .i64 k) l (i + 1) := by
          have e2 : (k == a) = false := by simpa using e1
          simp [Instr.findNow, Instr.sameNow, hk, e2]
        rw [hs]
        refine ⟨fun v hg => ?_, fun hn => ?_⟩
        · rw [getM, if_neg e1] at hg
          obtain ⟨j, h1, h2, h3⟩ := ih.1 v hg
          refine ⟨j + 1, by rw [h1]; congr 3; omega, by simpa using h2, fun u => ?_⟩
          rw [List.map_cons, List.set_cons_succ, h3 u, setM, if_neg e1, List.map_cons, hk, hv]; rfl
        · rw [getM, if_neg e1] at hn
          obtain ⟨h1, h2, h3⟩ := ih.2 hn
          refine ⟨h1, fun u => by rw [setM, if_neg e1, h2 u]; rfl, fun y hy => ?_⟩
          rcases List.mem_cons.1 hy with rfl | hy
          · rw [hk]; intro e; injection e with _ e; exact e1 e.symm
          · exact h3 y hy
section
variable {P : Program} {mt kt vt : TypeId} (hmt : P.underlying mt = some (.map kt vt)) (hkt : P.underlying kt = some (.int .i64)) (hz : ∀ w : World, (zeroValue vt).run P w = .ok (.int .i64 0) w)
include hmt hkt hz
theorem map_look {w : World} {b : Nat} {kvs : List (Int × Int)} (h : MapAt w b kvs) (k : Int) :
    (Instr.lookup mt (.map (some b)) (.int .i64 k) true).run P w = .ok (.tuple #[.int .i64 ((getM kvs k).getD 0), .bool (getM kvs k).isSome]) w := by
  obtain ⟨es, cl, h1, h0, h2⟩ := h
  have hf := find_map k es.toList kvs 0 h2
  have hc : (Instr.checkKey es.isEmpty 10000 kt (.int .i64 k)).run P w = .ok () w := MapKept.run_checkKey hkt (by simp [MapKept.IsKey]) _ _
  unfold Instr.lookup
  simp only [Sem.run_bind, run_underlying hmt, Result.andThen_ok, MapKept.run_getObj_map h1, Sem.run_pure, hc]
  cases hg : getM kvs k with
  | some v =>
    obtain ⟨j, hj, _⟩ := hf.1 v hg
    simp [MapKept.run_findKey hkt hj]
  | none =>
    have hn := (hf.2 hg).1
    simp [MapKept.run_findKey hkt hn, hz]
theorem map_look1 {w : World} {b : Nat} {kvs : List (Int × Int)} (h : MapAt w b kvs) (k : Int) :
    (Instr.lookup mt (.map (some b)) (.int .i64 k) false).run P w = .ok (.int .i64 ((getM kvs k).getD 0)) w := by
  obtain ⟨es, cl, h1, h0, h2⟩ := h
  have hf := find_map k es.toList kvs 0 h2
  have hc : (Instr.checkKey es.isEmpty 10000 kt (.int .i64 k)).run P w = .ok () w := MapKept.run_checkKey hkt (by simp [MapKept.IsKey]) _ _
  unfold Instr.lookup
  simp only [Sem.run_bind, run_underlying hmt, Result.andThen_ok, MapKept.run_getObj_map h1, Sem.run_pure, hc]
  cases hg : getM kvs k with
  | some v =>
    obtain ⟨j, hj, _⟩ := hf.1 v hg
    simp [MapKept.run_findKey hkt hj]
  | none =>
    have hn := (hf.2 hg).1
    simp [MapKept.run_findKey hkt hn, hz]
end
section
variable {P : Program} {mt kt vt : TypeId} (hmt : P.underlying mt = some (.map kt vt)) (hkt : P.underlying kt = some (.int .i64))
include hmt hkt
theorem map_put {w : World} {b : Nat} {kvs : List (Int × Int)} (h : MapAt w b kvs) (k v : Int) :
    ∃ w', (Instr.mapUpdate mt (.map (some b)) (.int .i64 k) (.int .i64 v)).run P w = .ok () w' ∧ MapAt w' b (setM kvs k v) ∧ w.grownBy w' (some b) := by
  obtain ⟨es, cl, h1, h0, h2⟩ := h
  have hf := find_map k es.toList kvs 0 h2
  have hc : (Instr.checkKey false 10000 kt (.int .i64 k)).run P w = .ok () w := MapKept.run_checkKey hkt (by simp [MapKept.IsKey]) _ _
  have hg : ∀ o : Obj, w.grownBy { w with heap := w.heap.setIfInBounds b o } (some b) := fun o => ⟨rfl, rfl, rfl, by simp, fun i hi hne => by
    have : i ≠ b := fun e => hne (by rw [e])
    simp [Ne.symm this]⟩
  unfold Instr.mapUpdate
  simp only [Sem.run_bind, run_underlying hmt, Result.andThen_ok, MapKept.run_getObj_map h1, hc]
  cases hm : getM kvs k with
  | some x =>
    obtain ⟨j, hj, hj2, hj4⟩ := hf.1 x hm
    rw [Nat.zero_add] at hj
    obtain ⟨en, hen, hen2⟩ := Option.map_eq_some_iff.1 hj2
    rw [Array.getElem?_toList] at hen
    injection hen2 with hek hev
    have hj3 : (es[j]?).map (·.key) = some (.int .i64 k) := by rw [hen, Option.map_some, hek]
    have hst : (Instr.keyThatStays (((es[j]?).map (·.key)).getD (.int .i64 k)) (.int .i64 k)).run P w = .ok (.int .i64 k) w := by
      rw [hj3]; simp [Instr.keyThatStays, Instr.sameBits]
    simp only [MapKept.run_findKey hkt hj, Result.andThen_ok, Sem.run_bind, hst, MapKept.run_setObj_map _ h1]
    refine ⟨_, rfl, ?_, hg _⟩
    refine ⟨_, cl, (MapKept.heap_set h1).1, ?_, ?_⟩
    · refine MapKept.stamped_modify h0 j _ ?_ ?_
      · intro e _; rfl
      · intro e _ he
        have hee : en = e := Option.some.inj (hen.symm.trans he)
        show Value.int IntKind.i64 k = e.key
        rw [← hee, hek]
    rw [← hj4 v]
    apply List.ext_getElem?
    intro i
    rw [List.getElem?_set]
    simp only [List.getElem?_map, Array.getElem?_toList, Array.getElem?_modify]
    by_cases e : j = i
    · subst e
      have hjl : j < es.size := (Array.getElem?_eq_some_iff.1 hen).1
      simp [hjl]
    · simp [e]
  | none =>
    obtain ⟨hn, hs, hk⟩ := hf.2 hm
    simp only [MapKept.run_findKey hkt hn, Result.andThen_ok, MapKept.run_setObj_map _ h1]
    refine ⟨_, rfl, ?_, hg _⟩
    refine ⟨_, _, (MapKept.heap_set h1).1, MapKept.stamped_push h0 (fun x hx e => hk x hx e), ?_⟩
    rw [hs v, List.map_append]
    simp [h2, ent]
end

end Go.Proofs.YtpehimjngofnkaaDoor
