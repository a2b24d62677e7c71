/- A set of integers that the call made: map[int]bool in which every element is true. -/
import Derived.Test.YtpehimjngofnkaaDoorProg
import Derived.WalkKit
import Derived.WalkLawsBesides
import Derived.MapKept
import Derived.Maps.RangeRun
import Derived.Test.YtpehimjngofnkaaDoorMn
import Derived.Test.YtpehimjngofnkaaDoorMe
namespace Go.Proofs.YtpehimjngofnkaaDoor
open Go.RowKit
set_option linter.unusedVariables false

/-- block b is a set of the integers ks, in the order in which they came -/
def SetAt (w : World) (b : Nat) (ks : List Int) : Prop :=
  ∃ es cl, w.heap[b]? = some (.map es cl) ∧ MapKept.Stamped es cl ∧ es.toList.map (fun e : MapEntry => (e.key, e.val)) = ks.map fun k => (Value.int .i64 k, Value.bool true)
theorem SetAt.below {w w' : World} {b : Nat} {ks : List Int} (h : SetAt w b ks) (hb : Below w.heap.size w w') : SetAt w' b ks := by
  obtain ⟨es, cl, h1, h0, h2⟩ := h
  exact ⟨es, cl, (hb.block b (Array.getElem?_eq_some_iff.1 h1).1).trans h1, h0, h2⟩
theorem SetAt.blk {w w' : World} {b : Nat} {ks : List Int} (h : SetAt w b ks) (hb : w'.heap[b]? = w.heap[b]?) : SetAt w' b ks := by
  obtain ⟨es, cl, h1, h0, h2⟩ := h
  exact ⟨es, cl, hb.trans h1, h0, h2⟩
theorem SetAt.lt {w : World} {b : Nat} {ks : List Int} (h : SetAt w b ks) : b < w.heap.size := by
  obtain ⟨es, cl, h1, h0, h2⟩ := h
  exact (Array.getElem?_eq_some_iff.1 h1).1
theorem SetAt.made (w : World) : SetAt (w.alloc (.map #[] 0)) w.heap.size [] := ⟨#[], 0, heap_alloc_new w _, MapKept.stamped_empty 0, rfl⟩
theorem find_set (k : Int) : ∀ (l : List MapEntry) (ks : List Int) (i : Nat), l.map (fun e : MapEntry => (e.key, e.val)) = ks.map (fun k => (Value.int .i64 k, Value.bool true)) →
    (k ∈ ks → ∃ j, Instr.findNow (.int .i64) (.int .i64 k) l i = some (some (i + j, .bool true)) ∧ l[j]?.map (fun e : MapEntry => (e.key, e.val)) = some (.int .i64 k, .bool true)) ∧ (k ∉ ks → Instr.findNow (.int .i64) (.int .i64 k) l i = some none)
  | [], ks, i, h => by
    cases ks with
    | nil => exact ⟨fun h => by simp at h, fun _ => rfl⟩
    | cons a ks => simp at h
  | e :: l, ks, i, h => by
    cases ks with
    | nil => simp at h
    | cons a ks =>
      simp only [List.map_cons, List.cons.injEq, Prod.mk.injEq] at h
      obtain ⟨⟨hk, hv⟩, ht⟩ := h
      have ih := find_set k l ks (i + 1) ht
      by_cases e1 : k = a
      · subst e1
        refine ⟨fun _ => ⟨0, ?_, by simp [hk, hv]⟩, fun hn => absurd (List.mem_cons_self ..) hn⟩
        simp [Instr.findNow, Instr.sameNow, hk, hv]
      · have hs : Instr.findNow (.int .i64) (.int .i64 k) (e :: l) i = Instr.findNow (.int .i64) (.int .i64 k) l (i + 1) := by
          have e2 : (k == a) = false := by simpa using e1
          simp [Instr.findNow, Instr.sameNow, hk, e2]
        rw [hs]
        refine ⟨fun hm => ?_, fun hn => ih.2 (fun hm => hn (List.mem_cons_of_mem _ hm))⟩
        obtain ⟨j, h1, h2⟩ := ih.1 ((List.mem_cons.1 hm).resolve_left e1)
        exact ⟨j + 1, by rw [h1]; congr 3; omega, by simpa using h2⟩
theorem zero_bool (w : World) : (zeroValue 4).run Tryd.prog w = .ok (.bool false) w := by kernel_rfl
theorem set_look {w : World} {b : Nat} {ks : List Int} (h : SetAt w b ks) (k : Int) :
    (Instr.lookup 62 (.map (some b)) (.int .i64 k) false).run Tryd.prog w = .ok (.bool (decide (k ∈ ks))) w := by
  obtain ⟨es, cl, h1, h0, h2⟩ := h
  have hf := find_set k es.toList ks 0 h2
  have hc : (Instr.checkKey es.isEmpty 10000 3 (.int .i64 k)).run Tryd.prog w = .ok () w := MapKept.run_checkKey Tryd.underlying3 (by simp [MapKept.IsKey]) _ _
  unfold Instr.lookup
  simp only [Sem.run_bind, run_underlying Tryd.underlying62, Result.andThen_ok, MapKept.run_getObj_map h1, Sem.run_pure, hc]
  by_cases hm : k ∈ ks
  · obtain ⟨j, hj, _⟩ := hf.1 hm
    simp [MapKept.run_findKey Tryd.underlying3 hj, hm]
  · have hn := hf.2 hm
    simp [MapKept.run_findKey Tryd.underlying3 hn, hm]

theorem set_put {w : World} {b : Nat} {ks : List Int} (h : SetAt w b ks) (k : Int) :
    ∃ w', (Instr.mapUpdate 62 (.map (some b)) (.int .i64 k) (.bool true)).run Tryd.prog w = .ok () w' ∧ SetAt w' b (if k ∈ ks then ks else ks ++ [k]) ∧ w.grownBy w' (some b) := by
  obtain ⟨es, cl, h1, h0, h2⟩ := h
  have hf := find_set k es.toList ks 0 h2
  have hc : (Instr.checkKey false 10000 3 (.int .i64 k)).run Tryd.prog w = .ok () w := MapKept.run_checkKey Tryd.underlying3 (by simp [MapKept.IsKey]) _ _
  have hg : ∀ o : Obj, w.grownBy { w with heap := w.heap.setIfInBounds b o } (some b) := fun o => ⟨rfl, rfl, rfl, by simp, fun i hi hne => by
    have : i ≠ b := fun e => hne (by rw [e])
    simp [Ne.symm this]⟩
  unfold Instr.mapUpdate
  simp only [Sem.run_bind, run_underlying Tryd.underlying62, Result.andThen_ok, MapKept.run_getObj_map h1, hc]
  by_cases hm : k ∈ ks
  · obtain ⟨j, hj, hj2⟩ := hf.1 hm
    rw [Nat.zero_add] at hj
    obtain ⟨en, hen, hen2⟩ := Option.map_eq_some_iff.1 hj2
    rw [Array.getElem?_toList] at hen
    injection hen2 with hek hev
    have hj3 : (es[j]?).map (·.key) = some (.int .i64 k) := by rw [hen, Option.map_some, hek]
    have hst : (Instr.keyThatStays (((es[j]?).map (·.key)).getD (.int .i64 k)) (.int .i64 k)).run Tryd.prog w = .ok (.int .i64 k) w := by
      rw [hj3]; simp [Instr.keyThatStays, Instr.sameBits]
    simp only [MapKept.run_findKey Tryd.underlying3 hj, Result.andThen_ok, Sem.run_bind, hst, MapKept.run_setObj_map _ h1]
    refine ⟨_, rfl, ?_, hg _⟩
    rw [if_pos hm]
    refine ⟨_, cl, (MapKept.heap_set h1).1, ?_, ?_⟩
    · refine MapKept.stamped_modify h0 j _ ?_ ?_
      · intro e _; rfl
      · intro e _ he
        have hee : en = e := Option.some.inj (hen.symm.trans he)
        show Value.int IntKind.i64 k = e.key
        rw [← hee, hek]
    rw [← h2]
    apply List.ext_getElem?
    intro i
    simp only [List.getElem?_map, Array.getElem?_toList, Array.getElem?_modify]
    by_cases e : j = i
    · subst e
      rw [hen]
      simp [hek, hev]
    · simp [e]
  · have hn := hf.2 hm
    simp only [MapKept.run_findKey Tryd.underlying3 hn, Result.andThen_ok, MapKept.run_setObj_map _ h1]
    refine ⟨_, rfl, ?_, hg _⟩
    rw [if_neg hm]
    refine ⟨_, _, (MapKept.heap_set h1).1, MapKept.stamped_push h0 (fun x hx e => hm ?_), ?_⟩
    · have hx2 : (x.key, x.val) ∈ ks.map fun k => (Value.int .i64 k, Value.bool true) := by rw [← h2]; exact List.mem_map.2 ⟨x, hx, rfl⟩
      obtain ⟨y, hy, e2⟩ := List.mem_map.1 hx2
      injection e2 with e2 _
      rw [e] at e2
      injection e2 with _ e2
      rw [← e2]; exact hy
    simp [h2]

theorem wpList_put {ops : Array Oper} {rest : List Oper} {o : Oper} {a : Act} {w : World} {Q : Exit → Act → World → Prop} (hgd : o.guard = none) (m x y : Operand) (ho : o.op = .mapUpdate 62 m x y) {b : Nat} {ks : List Int} {k : Int}
    (hm : a.eval m = .map (some b)) (hx : a.eval x = .int .i64 k) (hy : a.eval y = .bool true) (hs : SetAt w b ks)
    (h : ∀ w1, SetAt w1 b (if k ∈ ks then ks else ks ++ [k]) → w.grownBy w1 (some b) → wpList Tryd.prog ops Q rest (a.put o.dst undef) w1) : wpList Tryd.prog ops Q (o :: rest) a w := by
  obtain ⟨w1, hrun, h1, h2⟩ := set_put hs k
  refine wpList_plain hgd fun _ hK => ?_
  unfold Oper.wp execOp
  simp only [ho, hm, hx, hy, Sem.run_bind, hrun, Result.andThen_ok]
  exact hK _ _ (h w1 h1 h2)
theorem wpList_ins {ops : Array Oper} {rest : List Oper} {o : Oper} {a : Act} {w : World} {Q : Exit → Act → World → Prop} (hgd : o.guard = none) (m x y : Operand) (ho : o.op = .insert 62 m x y) {b : Nat} {ks : List Int} {k : Int}
    (hm : a.eval m = .map (some b)) (hx : a.eval x = .int .i64 k) (hy : a.eval y = .bool true) (hs : SetAt w b ks)
    (h : ∀ w1, SetAt w1 b (if k ∈ ks then ks else ks ++ [k]) → w.grownBy w1 (some b) → wpList Tryd.prog ops Q rest (a.put o.dst undef) w1) : wpList Tryd.prog ops Q (o :: rest) a w := by
  obtain ⟨w1, hrun, h1, h2⟩ := set_put hs k
  refine wpList_plain hgd fun _ hK => ?_
  unfold Oper.wp execOp
  simp only [ho, hm, hx, hy, Sem.run_bind, hrun, Result.andThen_ok]
  exact hK _ _ (h w1 h1 h2)

/-- the ranging over a set is under way: todo are the keys still to come -/
def RngAt (w : World) (r b : Nat) (ks todo : List Int) : Prop :=
  ∃ es clock since seen c0, w.heap[b]? = some (.map es clock) ∧ MapKept.Stamped es clock ∧ (es.toList.map (fun e : MapEntry => (e.key, e.val)) = ks.map fun k => (Value.int .i64 k, Value.bool true)) ∧
    w.heap[r]? = some (.mapIter (some b) since seen c0) ∧ (∀ x ∈ es.toList, x.born < since) ∧ since ≤ c0 ∧ since ≤ clock ∧ (leftOf es seen).toList.map (·.key) = todo.map (Value.int .i64)
theorem RngAt.set_ {w : World} {r b : Nat} {ks todo : List Int} (h : RngAt w r b ks todo) : SetAt w b ks := by
  obtain ⟨es, cl, _, _, _, h1, h0, h2, _⟩ := h
  exact ⟨es, cl, h1, h0, h2⟩
theorem RngAt.ne {w : World} {r b : Nat} {ks todo : List Int} (h : RngAt w r b ks todo) : b ≠ r := by
  obtain ⟨es, cl, _, _, _, h1, _, _, h2, _⟩ := h
  intro e
  rw [e, h2] at h1
  cases h1
theorem RngAt.lt {w : World} {r b : Nat} {ks todo : List Int} (h : RngAt w r b ks todo) : r < w.heap.size := by
  obtain ⟨es, cl, _, _, _, _, _, _, h2, _⟩ := h
  exact (Array.getElem?_eq_some_iff.1 h2).1
theorem RngAt.blk {w w' : World} {r b : Nat} {ks todo : List Int} (h : RngAt w r b ks todo) (h1 : w'.heap[b]? = w.heap[b]?) (h2 : w'.heap[r]? = w.heap[r]?) : RngAt w' r b ks todo := by
  obtain ⟨es, cl, since, seen, c0, a1, a2, a3, a4, a5⟩ := h
  exact ⟨es, cl, since, seen, c0, h1.trans a1, a2, a3, h2.trans a4, a5⟩
theorem RngAt.below {w w' : World} {r b : Nat} {ks todo : List Int} (h : RngAt w r b ks todo) (hb : Below w.heap.size w w') : RngAt w' r b ks todo :=
  h.blk (hb.block b h.set_.lt) (hb.block r h.lt)
theorem keys_ints : ∀ (l : List MapEntry), (∀ e ∈ l, ∃ k, e.key = Value.int .i64 k) → ∃ t : List Int, l.map (·.key) = t.map (Value.int .i64)
  | [], _ => ⟨[], rfl⟩
  | e :: l, h => by
    obtain ⟨t, ht⟩ := keys_ints l (fun x hx => h x (List.mem_cons_of_mem _ hx))
    obtain ⟨k, hk⟩ := h e (List.mem_cons_self ..)
    exact ⟨k :: t, by rw [List.map_cons, List.map_cons, ht, hk]⟩
theorem keys_mem {l : List MapEntry} {t : List Int} (h : l.map (·.key) = t.map (Value.int .i64)) (k : Int) : k ∈ t ↔ ∃ e ∈ l, e.key = Value.int .i64 k := by
  constructor
  · intro hk
    have : Value.int .i64 k ∈ l.map (·.key) := by rw [h]; exact List.mem_map.2 ⟨k, hk, rfl⟩
    obtain ⟨e, he, e2⟩ := List.mem_map.1 this
    exact ⟨e, he, e2⟩
  · rintro ⟨e, he, e2⟩
    have : Value.int .i64 k ∈ t.map (Value.int .i64) := by rw [← h]; exact List.mem_map.2 ⟨e, he, e2⟩
    obtain ⟨y, hy, e3⟩ := List.mem_map.1 this
    injection e3 with _ e3
    rw [← e3]; exact hy
theorem set_range {w : World} {b : Nat} {ks : List Int} (h : SetAt w b ks) :
    ∃ w', (Instr.range 62 (.map (some b))).run Tryd.prog w = .ok (.pointer (some ⟨w.heap.size, 0, none⟩)) w' ∧ RngAt w' w.heap.size b ks ks ∧ Below w.heap.size w w' ∧ w.heap.size < w'.heap.size := by
  have hlt := h.lt
  obtain ⟨es, cl, h1, h0, h2⟩ := h
  refine ⟨_, run_range_map w _ _ _ b es cl Tryd.underlying62 h1, ⟨es, cl, cl, #[], cl, ((MapKept.heap_alloc w _).2 b hlt).trans h1, h0, h2, (MapKept.heap_alloc w _).1, ((MapKept.stamped_iff es cl).1 h0).1, Nat.le_refl _, Nat.le_refl _, ?_⟩, (Below.refl _ _).alloc (Nat.le_refl _) _, by rw [alloc_size]; omega⟩
  have e1 : leftOf es #[] = es := by
    unfold leftOf
    exact Array.filter_eq_self.2 (fun x hx => by simp)
  rw [e1]
  have := congrArg (List.map Prod.fst) h2
  simpa [List.map_map, Function.comp_def] using this
theorem set_next {w : World} {r b : Nat} {ks todo : List Int} (h : RngAt w r b ks todo) (ty : TypeId) :
    (todo = [] ∧ (Instr.next (.pointer (some ⟨r, 0, none⟩)) false ty).run Tryd.prog w = .ok (.tuple #[.bool false]) w) ∨
    ∃ k todo' w', k ∈ todo ∧ todo'.length < todo.length ∧ (∀ x ∈ todo, x = k ∨ x ∈ todo') ∧ (∀ x ∈ todo', x ∈ todo) ∧ (Instr.next (.pointer (some ⟨r, 0, none⟩)) false ty).run Tryd.prog w = .ok (.tuple #[.bool true, .int .i64 k, .bool true]) w' ∧
      RngAt w' r b ks todo' ∧ w.grownBy w' (some r) ∧ (Instr.entry (.pointer (some ⟨r, 0, none⟩))).run Tryd.prog w' = .ok (.tuple #[.int .i64 k, .bool true]) w' := by
  have hne := h.ne
  obtain ⟨es, clock, since, seen, c0, hb, h0, h2, hr, hold, hsc, hsk, ht⟩ := h
  have hst := (MapKept.stamped_iff es clock).1 h0
  rcases run_next_at (P := Tryd.prog) w ty r b since c0 seen es clock hr hb hold hsc with ⟨h0', hrun⟩ | ⟨e, he, w1, hal, hrun⟩
  · refine .inl ⟨?_, hrun⟩
    have := congrArg List.length ht
    simp only [List.length_map, Array.length_toList, h0'] at this
    exact List.eq_nil_of_length_eq_zero this.symm
  · obtain ⟨hem, hes⟩ := mem_left he
    have hkv : ∀ x ∈ es.toList, ∃ k, k ∈ ks ∧ x.key = Value.int .i64 k ∧ x.val = Value.bool true := by
      intro x hx
      have : (x.key, x.val) ∈ ks.map fun k => (Value.int .i64 k, Value.bool true) := by rw [← h2]; exact List.mem_map.2 ⟨x, hx, rfl⟩
      obtain ⟨k, hk, e2⟩ := List.mem_map.1 this
      injection e2 with e2 e3
      exact ⟨k, hk, e2.symm, e3.symm⟩
    obtain ⟨k, hk, hke, hve⟩ := hkv e hem
    have hr1 : w1.heap[r]? = some (.mapIter (some b) since seen c0) := by rcases hal with rfl | rfl <;> exact hr
    have hb1 : w1.heap[b]? = some (.map es clock) := by rcases hal with rfl | rfl <;> exact hb
    have hset := MapKept.heap_set (o' := .mapIter (some b) since (seen.push e.born) clock) hr1
    have hb' : (ChangeMaps.setBlock w1 r (.mapIter (some b) since (seen.push e.born) clock)).heap[b]? = some (.map es clock) := (hset.2 b hne).trans hb1
    obtain ⟨t', ht'⟩ := keys_ints (leftOf es (seen.push e.born)).toList (fun x hx => by obtain ⟨k, _, hk, _⟩ := hkv x (mem_left hx).1; exact ⟨k, hk⟩)
    have hsub : ∀ x, x ∈ (leftOf es (seen.push e.born)).toList → x ∈ (leftOf es seen).toList := by
      intro x hx
      obtain ⟨hx1, hx2⟩ := mem_left hx
      rw [contains_push] at hx2
      unfold leftOf
      rw [Array.toList_filter]
      refine List.mem_filter.2 ⟨hx1, ?_⟩
      cases hc : seen.contains x.born
      · rfl
      · rw [hc] at hx2; simp at hx2
    refine .inr ⟨k, t', _, (keys_mem ht k).2 ⟨e, he, hke⟩, ?_, ?_, ?_, by rw [hrun, hke, hve], ⟨es, clock, since, seen.push e.born, clock, hb', h0, h2, hset.1, hold, hsk, hsk, ht'⟩, ?_, ?_⟩
    · have a1 := congrArg List.length ht
      have a2 := congrArg List.length ht'
      have := left_shrinks es seen e he
      simp only [List.length_map, Array.length_toList] at a1 a2
      omega
    · intro x hx
      obtain ⟨e', he', hk'⟩ := (keys_mem ht x).1 hx
      obtain ⟨hm', hs'⟩ := mem_left he'
      by_cases hbe : e'.born = e.born
      · left
        have := born_inj hst.2.1 hm' hem hbe
        subst this
        rw [hke] at hk'
        injection hk' with _ hk'
        exact hk'.symm
      · right
        refine (keys_mem ht' x).2 ⟨e', ?_, hk'⟩
        unfold leftOf
        rw [Array.toList_filter]
        refine List.mem_filter.2 ⟨hm', ?_⟩
        rw [contains_push, hs']
        simp [hbe]
    · intro x hx
      obtain ⟨e', he', hk'⟩ := (keys_mem ht' x).1 hx
      exact (keys_mem ht x).2 ⟨e', hsub e' he', hk'⟩
    · rcases hal with rfl | rfl <;> exact ⟨rfl, rfl, rfl, by simp [ChangeMaps.setBlock], fun i _ hi => hset.2 i (fun e1 => hi (by rw [e1]))⟩
    · have := run_entry_at (P := Tryd.prog) _ r b since seen es clock e hset.1 hb' hem hst.2.1
      rw [hke, hve] at this
      exact this
theorem wpList_range_set {ops : Array Oper} {rest : List Oper} {o : Oper} {a : Act} {w : World} {Q : Exit → Act → World → Prop} (hgd : o.guard = none) (m : Operand) (ho : o.op = .range 62 m) {b : Nat} {ks : List Int}
    (hm : a.eval m = .map (some b)) (hs : SetAt w b ks)
    (h : ∀ r w1, r = w.heap.size → RngAt w1 r b ks ks → Below w.heap.size w w1 → w.heap.size < w1.heap.size → wpList Tryd.prog ops Q rest (a.put o.dst (.pointer (some ⟨r, 0, none⟩))) w1) : wpList Tryd.prog ops Q (o :: rest) a w := by
  obtain ⟨w1, hrun, h1, h2, h3⟩ := set_range hs
  refine wpList_plain hgd fun _ hK => ?_
  unfold Oper.wp execOp
  simp only [ho, hm, Sem.run_bind, hrun, Result.andThen_ok]
  exact hK _ _ (h _ w1 rfl h1 h2 h3)
theorem wpList_next_set {ops : Array Oper} {rest : List Oper} {o : Oper} {a : Act} {w : World} {Q : Exit → Act → World → Prop} (hgd : o.guard = none) (it : Operand) (ho : o.op = .next it false) {r b : Nat} {ks todo : List Int}
    (hit : a.eval it = .pointer (some ⟨r, 0, none⟩)) (hs : RngAt w r b ks todo)
    (hDone : todo = [] → wpList Tryd.prog ops Q rest (a.put o.dst (.tuple #[.bool false])) w)
    (hMore : ∀ (k : Int) (todo' : List Int) (w1 : World), k ∈ todo → todo'.length < todo.length → (∀ x ∈ todo, x = k ∨ x ∈ todo') → (∀ x ∈ todo', x ∈ todo) → RngAt w1 r b ks todo' → w.grownBy w1 (some r) →
      (Instr.entry (.pointer (some ⟨r, 0, none⟩))).run Tryd.prog w1 = .ok (.tuple #[.int .i64 k, .bool true]) w1 → wpList Tryd.prog ops Q rest (a.put o.dst (.tuple #[.bool true, .int .i64 k, .bool true])) w1) : wpList Tryd.prog ops Q (o :: rest) a w := by
  refine wpList_plain hgd fun _ hK => ?_
  unfold Oper.wp execOp
  rcases set_next hs o.type with ⟨h0, hrun⟩ | ⟨k, todo', w1, h1, h2, h3, h4, hrun, h5, h6, h7⟩
  · simp only [ho, hit, Sem.run_bind, hrun, Result.andThen_ok]
    exact hK _ _ (hDone h0)
  · simp only [ho, hit, Sem.run_bind, hrun, Result.andThen_ok]
    exact hK _ _ (hMore k todo' w1 h1 h2 h3 h4 h5 h6 h7)

end Go.Proofs.YtpehimjngofnkaaDoor
