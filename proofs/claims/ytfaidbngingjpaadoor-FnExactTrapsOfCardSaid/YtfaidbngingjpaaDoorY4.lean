/- Walks of TrapsOf. -/
import Derived.Test.YtfaidbngingjpaaDoorProg
import Derived.WalkKit
import Derived.WalkSpells
import Derived.WalkLawsBesides
import Derived.Lib.Hide
import Derived.Deep.QuietTactic
import Derived.BigQuiet
import Derived.Maps.AppendAt
import Derived.Deep.RegionLaw
import Derived.Test.YtfaidbngingjpaaDoorY1
import Derived.Test.YtfaidbngingjpaaDoorWk
namespace Go.Proofs.YtfaidbngingjpaaDoor
open Go.RowKit
set_option linter.unusedVariables false

/-- a term with one place more -/
def ext3 (l : List UInt8) : List (List UInt8) := [l ++ [42], l ++ [48], l ++ [49]]
/-- all terms of k places -/
def allT : Nat → List (List UInt8)
  | 0 => [[]]
  | k + 1 => (allT k).flatMap ext3
theorem allT_mem : ∀ {k : Nat} {l : List UInt8}, l ∈ allT k → l.length = k ∧ l.all okc = true
  | 0, l, h => by simp [allT] at h; subst h; simp
  | k + 1, l, h => by
    rw [allT, List.mem_flatMap] at h
    obtain ⟨p, hp, hl⟩ := h
    obtain ⟨h1, h2⟩ := allT_mem hp
    simp only [ext3, List.mem_cons, List.not_mem_nil, or_false] at hl
    rcases hl with rfl | rfl | rfl <;> exact ⟨by simp [h1], by rw [List.all_append, h2]; rfl⟩
theorem flat3_len (L : List (List UInt8)) : (L.flatMap ext3).length = 3 * L.length := by
  induction L with
  | nil => rfl
  | cons a L ih => rw [List.flatMap_cons, List.length_append, ih, List.length_cons]; show 3 + _ = _; omega
theorem allT_len : ∀ k, (allT k).length = 3 ^ k
  | 0 => rfl
  | k + 1 => by rw [allT, flat3_len, allT_len k, Nat.pow_succ, Nat.mul_comm]
theorem allT_le {k : Nat} (h : k ≤ 5) : (allT k).length ≤ 243 ∧ 0 < (allT k).length := by
  rw [allT_len]
  have : 3 ^ k ≤ 3 ^ 5 := Nat.pow_le_pow_right (by omega) h
  have : 0 < 3 ^ k := Nat.pow_pos (by omega)
  omega
theorem take_flat {L : List (List UInt8)} {j : Nat} (h : j < L.length) : (L.take (j + 1)).flatMap ext3 = (L.take j).flatMap ext3 ++ ext3 L[j] := by
  rw [List.take_succ_eq_append_getElem h, List.flatMap_append]; simp
theorem OS.lit1 (w : World) (B : Nat) (e : TypeId) (hB : B ≤ w.heap.size) (u : ByteArray) : OS (w.alloc (.cells #[.string u] e)) B e (.slice (some ⟨w.heap.size, 0, none⟩) 1 1) [u.data.toList] :=
  ⟨by simp [strs], .inr ⟨w.heap.size, 1, #[.string u], rfl, hB, heap_alloc_new w _, Nat.le_refl _, by simp only [maxLen]; omega, rfl, by simp [strs]⟩⟩
/-- the address A does not lie in v's own block -/
def OffS (v : Value) (A : Option Addr) : Prop := ∀ a, A = some a → v.ownBlock ≠ some a.block
theorem offS_push {w w' : World} {v v' : Value} {A : Option Addr} {vs : List Value} (h : Rd w A vs) (ho : OffS v A) (hf : ∀ g, g < w.heap.size → v.ownBlock ≠ some g → w'.heap[g]? = w.heap[g]? ∧ v'.ownBlock ≠ some g) (hne : vs ≠ []) : Rd w' A vs ∧ OffS v' A := by
  rcases h with h | ⟨g, off, hA, hc⟩
  · exact absurd h hne
  · have hlt : g < w.heap.size := by
      cases vs with
      | nil => exact absurd rfl hne
      | cons x l => exact World.block_lt_of_cell? w _ (hc 0 x rfl)
    have h2 := hf g hlt (ho _ hA)
    refine ⟨.inr ⟨g, off, hA, fun j v hj => (World.cell?_of_block (w := w) (a := ⟨g, off + j, none⟩) h2.1).trans (hc j v hj)⟩, fun a ha => ?_⟩
    rw [hA] at ha
    injection ha with ha
    subst ha
    exact h2.2
/-- append of texts that have just been laid down -/
theorem wp_catS {P : Program} {wr : World} {ops : Array Oper} {rest : List Oper} {o : Oper} {a : Act} {Q : Exit → Act → World → Prop} (hgd : o.guard = none) (s x : Operand) (t : TypeId)
    (ho : o.op = .call { callee := .builtin .append, args := #[s, x], argTypes := #[t, t] })
    {B e m : Nat} (ht : P.underlying t = some (.slice e)) (hinf : (P.info? e).map (fun i => (i.zero, i.size, i.bytes)) = some (some (.string ByteArray.empty), 1, 16))
    {v : Value} {ps qs : List (List UInt8)} {news : Array Value} (hown : OS wr B e v ps) (hs : a.eval s = v) (hx : a.eval x = .slice (some ⟨wr.heap.size, 0, none⟩) m m) (hm : qs.length = m) (hnews : news.toList = strs qs)
    (hn : ps.length + m ≤ 1000000) (hB : B ≤ wr.heap.size)
    (h : ∀ v' w', OS w' B e v' (ps ++ qs) → (∀ B', B' ≤ B → Below B' wr w') → wr.heap.size ≤ w'.heap.size → (∀ g, g < wr.heap.size → v.ownBlock ≠ some g → w'.heap[g]? = wr.heap[g]? ∧ v'.ownBlock ≠ some g) → wpList P ops Q rest (a.put o.dst v') w') :
    wpList P ops Q (o :: rest) a (wr.alloc (.cells news e)) := by
  obtain ⟨i, hi, hiz, his, hib⟩ := info_parts hinf
  refine wpList_append_own_at _ hgd s x t ho B e i (.string ByteArray.empty) 1 16 ht hi hiz his hib rfl (by omega) v ps.length (strs ps) hs (World.ownsRow.alloc hown _) ⟨wr.heap.size, 0, none⟩ m m (strs qs) hx (by rw [strs_length, hm, Nat.mul_one]) ?_ ?_ (by simp only [maxLen]; omega) (by omega) (by rw [alloc_size]; omega) ?_
  · intro j y hj
    have : (⟨wr.heap.size, 0, none⟩ : Addr).add j = ⟨wr.heap.size, j, none⟩ := by unfold Addr.add; split <;> simp_all
    rw [this, cell_new, ← Array.getElem?_toList, hnews]
    exact hj
  · intro y hy
    obtain ⟨z, _, rfl⟩ := List.mem_map.1 hy
    rfl
  · intro v' w' h1 h2 _ h4
    have hz := h2.size
    rw [alloc_size] at hz
    refine h v' w' (by unfold OS; rw [strs_append, List.length_append, hm]; exact h1) (fun B' hB' => ?_) (by omega) (fun g hg hne => ⟨?_, ?_⟩)
    · have hb0 : Below B' wr (wr.alloc (.cells news e)) := (Below.refl _ _).alloc (by omega) _
      refine hb0.grown h2 (by rw [alloc_size]; omega) ?_
      intro k hk
      have := (World.ownsRow.lt hown k hk).1
      omega
    · rw [h2.block g (by rw [alloc_size]; omega) (fun e => hne e.symm)]
      exact heap_alloc_old wr _ hg
    · rcases h4 with h4 | h4
      · rw [h4]; exact hne
      · rw [h4, alloc_size]; intro e; injection e; omega

/-- .. as one step of a region that draws its order -/
theorem step_catS {P : Program} {wr : World} {ops : Array Oper} {o : Oper} {a : Act} {K : Act → World → Prop} {Q : Exit → Act → World → Prop} {E : Prop} (hgd : o.guard = none) (s x : Operand) (t : TypeId)
    (ho : o.op = .call { callee := .builtin .append, args := #[s, x], argTypes := #[t, t] })
    {B e m : Nat} (ht : P.underlying t = some (.slice e)) (hinf : (P.info? e).map (fun i => (i.zero, i.size, i.bytes)) = some (some (.string ByteArray.empty), 1, 16))
    {v : Value} {ps qs : List (List UInt8)} {news : Array Value} (hown : OS wr B e v ps) (hs : a.eval s = v) (hx : a.eval x = .slice (some ⟨wr.heap.size, 0, none⟩) m m) (hm : qs.length = m) (hnews : news.toList = strs qs)
    (hn : ps.length + m ≤ 1000000) (hB : B ≤ wr.heap.size)
    (h : ∀ v' w', OS w' B e v' (ps ++ qs) → (∀ B', B' ≤ B → Below B' wr w') → wr.heap.size ≤ w'.heap.size → (∀ g, g < wr.heap.size → v.ownBlock ≠ some g → w'.heap[g]? = wr.heap[g]? ∧ v'.ownBlock ≠ some g) → K (a.put o.dst v') w') :
    if Region.wanted o (yielded ops a.tmps) = true then Oper.wp P o a (wr.alloc (.cells news e)) K Q else E := by
  have hw : Region.wanted o (yielded ops a.tmps) = true := by simp [Region.wanted, hgd]
  rw [if_pos hw]
  obtain ⟨i, hi, hiz, his, hib⟩ := info_parts hinf
  obtain ⟨v', w', hrun, h1, h2, _, h4⟩ := run_append_own_at (P := P) (wr.alloc (.cells news e)) B t o.type e i (.string ByteArray.empty) 1 16 ht hi hiz his hib rfl (by omega) v ps.length (strs ps) (World.ownsRow.alloc hown _) ⟨wr.heap.size, 0, none⟩ m m (strs qs) (by rw [strs_length, hm, Nat.mul_one]) (by
    intro j y hj
    have : (⟨wr.heap.size, 0, none⟩ : Addr).add j = ⟨wr.heap.size, j, none⟩ := by unfold Addr.add; split <;> simp_all
    rw [this, cell_new, ← Array.getElem?_toList, hnews]
    exact hj) (by
    intro y hy
    obtain ⟨z, _, rfl⟩ := List.mem_map.1 hy
    rfl) (by simp only [maxLen]; omega) (by omega) (by rw [alloc_size]; omega)
  have hz := h2.size
  rw [alloc_size] at hz
  unfold Oper.wp
  simp [execOp, ho, resolve, invoke, builtin, hs, hx, hrun, Result.andThen, -World.alloc_eq]
  refine h v' w' (by unfold OS; rw [strs_append, List.length_append, hm]; exact h1) (fun B' hB' => ?_) (by omega) (fun g hg hne => ⟨?_, ?_⟩)
  · have hb0 : Below B' wr (wr.alloc (.cells news e)) := (Below.refl _ _).alloc (by omega) _
    refine hb0.grown h2 (by rw [alloc_size]; omega) ?_
    intro k hk
    have := (World.ownsRow.lt hown k hk).1
    omega
  · rw [h2.block g (by rw [alloc_size]; omega) (fun e => hne e.symm)]
    exact heap_alloc_old wr _ hg
  · rcases h4 with h4 | h4
    · rw [h4]; exact hne
    · rw [h4, alloc_size]; intro e; injection e; omega

theorem strs_ne {L : List (List UInt8)} (h : 0 < L.length) : strs L ≠ [] := by
  intro e
  have := congrArg List.length e
  rw [strs_length] at this
  simp at this
  rw [this] at h
  simp at h
set_option maxHeartbeats 1000000 in
set_option maxRecDepth 100000 in
theorem l2All_any (n : Nat) (w : World) (hn : n ≤ 5) :
    Calls Tryd.prog 136 #[.int .i64 (n : Int)] w fun e w' => RetS w.heap.size (allT n) e w' ∧ Below w.heap.size w w' := by
  go_enter Tryd.func136, Tryd.ntmps136
  go_wp2
  go_loopw [3, 4] (fun v q wr => ∃ i : Nat, i ≤ n ∧ q = .int .i64 i ∧ Hid (OS wr w.heap.size 9 v (allT i)) ∧ Below w.heap.size w wr) (fun _ q _ => n - (intOf q).toNat)
  case atStart => exact ⟨0, Nat.zero_le _, rfl, Lib.hid (OS.lit1 w _ _ (Nat.le_refl _) ⟨#[]⟩), (Below.refl _ _).alloc (Nat.le_refl _) _⟩
  case round =>
    obtain ⟨i, hi, rfl, HO, hB⟩ := hrel
    have hsz := hB.size
    obtain ⟨A1, c1, rfl, hc1, hO1⟩ := HO.out.form
    by_cases hlt : i < n
    · obtain ⟨hal, hal0⟩ := allT_le (k := i) (by omega)
      have HR := Lib.hid hO1.rd
      have HNE := Lib.hid (strs_ne hal0)
      have HMEM := Lib.hid (fun l (h : l ∈ allT i) => allT_mem h)
      have HAW := Lib.hid hO1
      clear hO1
      have HOF : Hid (OffS (.slice (some ⟨wr.heap.size, 0, none⟩) 0 0) A1) := Lib.hid (fun a ha => by
        rcases HR.out with h | ⟨g, off, hA, hc⟩
        · exact absurd h HNE.out
        · rw [hA] at ha
          injection ha with ha
          subst ha
          have hl : g < wr.heap.size := by
            cases hs : strs (allT i) with
            | nil => exact absurd hs HNE.out
            | cons x l => exact World.block_lt_of_cell? wr _ (hc 0 x (by rw [hs]; rfl))
          simp only [Value.ownBlock, ne_eq, Option.some.injEq]
          omega)
      have HE := Lib.hid (OS.empty wr w.heap.size 9 hsz)
      have HR1 := Lib.hid (HR.out.below ((Below.refl _ _).alloc (Nat.le_refl _) (.cells #[] 9)))
      have hBe : Below w.heap.size w (wr.alloc (.cells #[] 9)) := hB.alloc hsz _
      go_wp2
      go_loopw [5, 6] (fun v q wq => ∃ j : Nat, j ≤ (allT i).length ∧ q = .int .i64 j ∧ Hid (OS wq w.heap.size 9 v (((allT i).take j).flatMap ext3)) ∧ Hid (Rd wq A1 (strs (allT i)) ∧ OffS v A1) ∧ Below w.heap.size w wq) (fun _ q _ => (allT i).length - (intOf q).toNat)
      case atStart => exact ⟨0, Nat.zero_le _, rfl, HE, Lib.hid ⟨HR1.out, HOF.out⟩, hBe⟩
      case round =>
        obtain ⟨j, hj, rfl, HO2, HRO, hB2⟩ := hrel
        have hsz2 := hB2.size
        by_cases hlt2 : j < (allT i).length
        · obtain ⟨g, off, hA, hcell⟩ := HRO.out.1.text hlt2
          subst hA
          have hll : (allT i)[j].length ≤ 5 := by rw [(HMEM.out _ (List.getElem_mem hlt2)).1]; omega
          have hfl : (((allT i).take j).flatMap ext3).length ≤ 729 := by rw [flat3_len, List.length_take]; omega
          obtain ⟨l, hl⟩ : ∃ l, l = (allT i)[j] := ⟨_, rfl⟩
          have HTF := Lib.hid (take_flat hlt2)
          rw [← hl] at hcell hll HTF
          clear hl
          have HNW : Hid ((#[.string (⟨l.toArray⟩ ++ { data := #[42] }), .string (⟨l.toArray⟩ ++ { data := #[48] }), .string (⟨l.toArray⟩ ++ { data := #[49] })] : Array Value).toList = strs (ext3 l)) := Lib.hid (by
            have h1 : (⟨l.toArray⟩ : ByteArray) ++ { data := #[42] } = ⟨(l ++ [42]).toArray⟩ := str_append l [42]
            have h2 : (⟨l.toArray⟩ : ByteArray) ++ { data := #[48] } = ⟨(l ++ [48]).toArray⟩ := str_append l [48]
            have h3 : (⟨l.toArray⟩ : ByteArray) ++ { data := #[49] } = ⟨(l ++ [49]).toArray⟩ := str_append l [49]
            rw [h1, h2, h3]; rfl)
          go_wp2_with fail
          have hcc : ¬ 9223372036854775807 < l.length + 1 := by omega
          go_region_law (refine step_catS (m := 3) rfl _ _ _ rfl Tryd.underlying40 info_str (show OS wr.drew _ _ _ _ from HO2.out) rfl rfl rfl HNW.out (by omega) hsz2 ?_; intro v3 w3 hown hbel hsz3 hfr3)
          all_goals (
            have HO3 : Hid (OS w3 w.heap.size 9 v3 (((allT i).take (j + 1)).flatMap ext3)) := Lib.hid (by rw [HTF.out]; exact hown)
            have HR3 := Lib.hid (offS_push (show Rd wr.drew _ _ from HRO.out.1) HRO.out.2 hfr3 HNE.out)
            have hbw : Below w.heap.size wr w3 := by
              have h := hbel _ (Nat.le_refl _)
              exact ⟨h.os, h.tape, h.output, h.size, h.block⟩
            clear hown hbel hfr3 hcc
            go_wp2
            go_roundw
            case rel => exact ⟨j + 1, by omega, by go_num, HO3, HR3, hB2.trans hbw⟩
            case measure => simp [intOf]; omega)
        · have hje : j = (allT i).length := by omega
          have HO3 : Hid (OS wr w.heap.size 9 u5 (allT (i + 1))) := Lib.hid (by
            have h := HO2.out
            rw [hje, List.take_length] at h
            exact h)
          clear hje
          go_wp2_with fail
          go_roundw
          case rel => exact ⟨i + 1, by omega, by go_num, HO3, hB2⟩
          case measure => simp [intOf]; omega
    · have hie : i = n := by omega
      subst hie
      go_wp2
      go_ret
      exact ⟨⟨A1, c1, rfl, hc1, hO1⟩, hB⟩

set_option maxHeartbeats 1000000 in
set_option maxRecDepth 100000 in
theorem allTerms_any (n : Nat) (w : World) (hn : n ≤ 5) :
    Calls Tryd.prog 137 #[.int .i64 (n : Int)] w fun e w' => RetS w.heap.size (allT n) e w' ∧ Below w.heap.size w w' := by
  go_enter Tryd.func137, Tryd.ntmps137
  go_wp2
  go_loopw [3, 9] (fun v q wr => ∃ i : Nat, i ≤ n ∧ q = .int .i64 i ∧ Hid (OS wr w.heap.size 9 v (allT i)) ∧ Below w.heap.size w wr) (fun _ q _ => n - (intOf q).toNat)
  case atStart => exact ⟨0, Nat.zero_le _, rfl, Lib.hid (OS.lit1 w _ _ (Nat.le_refl _) ⟨#[]⟩), (Below.refl _ _).alloc (Nat.le_refl _) _⟩
  case round =>
    obtain ⟨i, hi, rfl, HO, hB⟩ := hrel
    have hsz := hB.size
    obtain ⟨A1, c1, rfl, hc1, hO1⟩ := HO.out.form
    by_cases hlt : i < n
    · obtain ⟨hal, hal0⟩ := allT_le (k := i) (by omega)
      have HR := Lib.hid hO1.rd
      have HNE := Lib.hid (strs_ne hal0)
      have HMEM := Lib.hid (fun l (h : l ∈ allT i) => allT_mem h)
      clear hO1
      have HOF : Hid (OffS (.slice none 0 0) A1) := Lib.hid (fun a ha => by simp [Value.ownBlock])
      have HE := Lib.hid (OS.nil wr w.heap.size 9)
      go_wp2
      go_loopw [4, 13] (fun v q wq => ∃ j : Nat, j ≤ (allT i).length ∧ q = .int .i64 j ∧ Hid (OS wq w.heap.size 9 v (((allT i).take j).flatMap ext3)) ∧ Hid (Rd wq A1 (strs (allT i)) ∧ OffS v A1) ∧ Below w.heap.size w wq) (fun _ q _ => (allT i).length - (intOf q).toNat)
      case atStart => exact ⟨0, Nat.zero_le _, rfl, HE, Lib.hid ⟨HR.out, HOF.out⟩, hB⟩
      case round =>
        obtain ⟨j, hj, rfl, HO2, HRO, hB2⟩ := hrel
        have hsz2 := hB2.size
        by_cases hlt2 : j < (allT i).length
        · obtain ⟨g, off, hA, hcell⟩ := HRO.out.1.text hlt2
          subst hA
          have hll : (allT i)[j].length ≤ 5 := by rw [(HMEM.out _ (List.getElem_mem hlt2)).1]; omega
          have hfl : (((allT i).take j).flatMap ext3).length ≤ 729 := by rw [flat3_len, List.length_take]; omega
          obtain ⟨l, hl⟩ : ∃ l, l = (allT i)[j] := ⟨_, rfl⟩
          have HTF := Lib.hid (take_flat hlt2)
          rw [← hl] at hcell hll HTF
          clear hl
          have HNW : Hid ((#[.string (⟨l.toArray⟩ ++ { data := #[42] }), .string (⟨l.toArray⟩ ++ { data := #[48] }), .string (⟨l.toArray⟩ ++ { data := #[49] })] : Array Value).toList = strs (ext3 l)) := Lib.hid (by
            have h1 : (⟨l.toArray⟩ : ByteArray) ++ { data := #[42] } = ⟨(l ++ [42]).toArray⟩ := str_append l [42]
            have h2 : (⟨l.toArray⟩ : ByteArray) ++ { data := #[48] } = ⟨(l ++ [48]).toArray⟩ := str_append l [48]
            have h3 : (⟨l.toArray⟩ : ByteArray) ++ { data := #[49] } = ⟨(l ++ [49]).toArray⟩ := str_append l [49]
            rw [h1, h2, h3]; rfl)
          have hcc : ¬ 9223372036854775807 < l.length + 1 := by omega
          go_wp2_with (at_builtin; refine wp_catS (m := 3) rfl _ _ _ rfl Tryd.underlying40 info_str HO2.out rfl rfl rfl HNW.out (by omega) hsz2 ?_; intro v3 w3 hown hbel hsz3 hfr3)
          have HO3 : Hid (OS w3 w.heap.size 9 v3 (((allT i).take (j + 1)).flatMap ext3)) := Lib.hid (by rw [HTF.out]; exact hown)
          have HR3 := Lib.hid (offS_push HRO.out.1 HRO.out.2 hfr3 HNE.out)
          have hbw : Below w.heap.size wr w3 := hbel _ (Nat.le_refl _)
          clear hown hbel hfr3 hcc
          go_roundw
          case rel => exact ⟨j + 1, by omega, by go_num, HO3, HR3, hB2.trans hbw⟩
          case measure => simp [intOf]; omega
        · have hje : j = (allT i).length := by omega
          have HO3 : Hid (OS wr w.heap.size 9 u4 (allT (i + 1))) := Lib.hid (by
            have h := HO2.out
            rw [hje, List.take_length] at h
            exact h)
          clear hje
          go_wp2_with fail
          go_roundw
          case rel => exact ⟨i + 1, by omega, by go_num, HO3, hB2⟩
          case measure => simp [intOf]; omega
    · have hie : i = n := by omega
      subst hie
      go_wp2
      go_ret
      exact ⟨⟨A1, c1, rfl, hc1, hO1⟩, hB⟩

/-- the terms that no step leaves -/
def trpF (ps : List (List UInt8)) (L : List (List UInt8)) : List (List UInt8) := L.filter (trpB ps)
theorem trpF_yes {ps L : List (List UInt8)} {j : Nat} (h : j < L.length) (hp : trpB ps L[j] = true) : trpF ps (L.take (j + 1)) = trpF ps (L.take j) ++ [L[j]] := by
  rw [List.take_succ_eq_append_getElem h, trpF, List.filter_append]; simp [trpF, hp]
theorem trpF_no {ps L : List (List UInt8)} {j : Nat} (h : j < L.length) (hp : trpB ps L[j] = false) : trpF ps (L.take (j + 1)) = trpF ps (L.take j) := by
  rw [List.take_succ_eq_append_getElem h, trpF, List.filter_append]; simp [trpF, hp]
theorem trpF_len (ps L : List (List UInt8)) (j : Nat) : (trpF ps (L.take j)).length ≤ j := by
  have h1 := List.length_filter_le (trpB ps) (L.take j)
  rw [List.length_take] at h1
  have : (trpF ps (L.take j)).length = ((L.take j).filter (trpB ps)).length := rfl
  omega
set_option maxHeartbeats 1000000 in
theorem l6Traps_any (A : Option Addr) (c : Nat) (ps : List (List UInt8)) (w : World) (hx : Hid (Rd w A (strs ps))) (hok : Hid (okN ps = true)) :
    Calls Tryd.prog 95 #[.slice A ps.length c] w fun e w' => RetS w.heap.size (trpF ps (allT ps.length)) e w' ∧ Below w.heap.size w w' := by
  have hn5 := okN_le hok.out
  obtain ⟨hal, hal0⟩ := allT_le hn5
  have HNE := Lib.hid (strs_ne hal0)
  have HMEM := Lib.hid (fun l (h : l ∈ allT ps.length) => allT_mem h)
  have HE := Lib.hid (OS.empty w w.heap.size 9 (Nat.le_refl _))
  have hBe : Below w.heap.size w (w.alloc (.cells #[] 9)) := (Below.refl _ _).alloc (Nat.le_refl _) _
  go_enter Tryd.func95, Tryd.ntmps95
  go_wp2_with fail
  refine (l2All_any ps.length _ hn5).mono ?_
  rintro e w1 ⟨⟨A1, c1, rfl, hc1, hO1⟩, hB1⟩
  have HO1 := Lib.hid (HE.out.below hB1)
  have hz1 := hB1.size
  rw [alloc_size] at hz1
  have hBw1 : Below w.heap.size w w1 := hBe.trans (hB1.mono (by rw [alloc_size]; omega))
  have HR1 := Lib.hid hO1.rd
  have HOF : Hid (OffS (.slice (some ⟨w.heap.size, 0, none⟩) 0 0) A1) := Lib.hid (fun a ha => by
    rcases hO1 with h | ⟨g, off, hA, hB, _⟩
    · exact absurd h HNE.out
    · rw [hA] at ha
      injection ha with ha
      subst ha
      rw [alloc_size] at hB
      simp only [Value.ownBlock, ne_eq, Option.some.injEq]
      omega)
  clear hO1 hB1
  go_wp2
  go_loopw [3, 5] (fun v q wr => ∃ j : Nat, j ≤ (allT ps.length).length ∧ q = .int .i64 j ∧ Hid (OS wr w.heap.size 9 v (trpF ps ((allT ps.length).take j))) ∧ Hid (Rd wr A1 (strs (allT ps.length)) ∧ OffS v A1) ∧ Below w.heap.size w wr) (fun _ q _ => (allT ps.length).length - (intOf q).toNat)
  case atStart => exact ⟨0, Nat.zero_le _, rfl, HO1, Lib.hid ⟨HR1.out, HOF.out⟩, hBw1⟩
  case round =>
    obtain ⟨j, hj, rfl, HO2, HRO, hB⟩ := hrel
    have hsz := hB.size
    have hfl := trpF_len ps (allT ps.length) j
    by_cases hlt : j < (allT ps.length).length
    · obtain ⟨g, off, hA, hcell⟩ := HRO.out.1.text hlt
      subst hA
      obtain ⟨hm1, hm2⟩ := HMEM.out _ (List.getElem_mem hlt)
      obtain ⟨l, hl⟩ : ∃ l, l = (allT ps.length)[j] := ⟨_, rfl⟩
      by_cases hp : trpB ps (allT ps.length)[j] = true
      · have HE2 := Lib.hid (trpF_yes hlt hp)
        rw [← hl] at hcell hm1 hm2 hp HE2
        have HC : Hid ((⟨l.toArray⟩ : ByteArray).data.toList.all okc = true) := Lib.hid (by simpa using hm2)
        have HLN : Hid ((⟨l.toArray⟩ : ByteArray).size = ps.length) := Lib.hid (by rw [str_size]; exact hm1)
        have HP : Hid (trpB ps (⟨l.toArray⟩ : ByteArray).data.toList = true) := Lib.hid (by simpa using hp)
        clear hl hm1 hm2 hp
        go_wp2_with fail
        refine (l6Trap_any _ _ ps ⟨l.toArray⟩ _ (Lib.hid (hx.out.below hB)) hok HLN.out HC).mono ?_
        rintro e w2 ⟨rfl, hB2⟩
        rw [HP.out]
        have hz2 := hB2.size
        have hcell2 := (World.cell?_of_block (w := wr) (a := ⟨g, off + j, none⟩) (hB2.block _ (World.block_lt_of_cell? wr _ hcell))).trans hcell
        go_wp2_with (at_builtin; refine wp_catS (m := 1) (qs := [l]) rfl _ _ _ rfl Tryd.underlying40 info_str (HO2.out.below hB2) rfl rfl rfl rfl (by omega) (by omega) ?_; intro v3 w3 hown hbel hsz3 hfr3)
        have HO3 : Hid (OS w3 w.heap.size 9 v3 (trpF ps ((allT ps.length).take (j + 1)))) := Lib.hid (by rw [HE2.out]; exact hown)
        have HR3 := Lib.hid (offS_push (HRO.out.1.below hB2) HRO.out.2 hfr3 HNE.out)
        have hbw : Below w.heap.size w w3 := hB.trans ((hB2.mono hsz).trans (hbel _ (Nat.le_refl _)))
        clear hown hbel hfr3
        go_roundw
        case rel => exact ⟨j + 1, by omega, by go_num, HO3, HR3, hbw⟩
        case measure => simp [intOf]; omega
      · have hp' : trpB ps (allT ps.length)[j] = false := by simpa using hp
        have HE2 := Lib.hid (trpF_no hlt hp')
        clear hp
        rw [← hl] at hcell hm1 hm2 hp'
        have HC : Hid ((⟨l.toArray⟩ : ByteArray).data.toList.all okc = true) := Lib.hid (by simpa using hm2)
        have HLN : Hid ((⟨l.toArray⟩ : ByteArray).size = ps.length) := Lib.hid (by rw [str_size]; exact hm1)
        have HP : Hid (trpB ps (⟨l.toArray⟩ : ByteArray).data.toList = false) := Lib.hid (by simpa using hp')
        clear hl hm1 hm2 hp'
        go_wp2_with fail
        refine (l6Trap_any _ _ ps ⟨l.toArray⟩ _ (Lib.hid (hx.out.below hB)) hok HLN.out HC).mono ?_
        rintro e w2 ⟨rfl, hB2⟩
        rw [HP.out]
        go_wp2_with fail
        go_roundw
        case rel => exact ⟨j + 1, by omega, by go_num, Lib.hid (by rw [HE2.out]; exact HO2.out.below hB2), Lib.hid ⟨HRO.out.1.below hB2, HRO.out.2⟩, hB.trans (hB2.mono hsz)⟩
        case measure => simp [intOf]; omega
    · have hje : j = (allT ps.length).length := by omega
      have HV : Hid (trpF ps ((allT ps.length).take j) = trpF ps (allT ps.length)) := Lib.hid (by rw [hje, List.take_length])
      clear hje
      obtain ⟨A', c', hv, hc, hO⟩ := HO2.out.form
      rw [HV.out] at hv hc hO
      have HV2 := Lib.hid hv
      clear hv
      go_wp2_with fail
      go_ret
      exact ⟨⟨A', c', by rw [← HV2.out]; rfl, hc, hO⟩, hB⟩

end Go.Proofs.YtfaidbngingjpaaDoor
