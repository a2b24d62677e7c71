/- Walks and plain facts, joined: Yc Yf Wp Mq Mr Ms Mu Wf Wj Wg Mk Y2. -/
import Derived.Test.YtfkdameegljkeaaDoorProg
import Derived.WalkKit
import Derived.WalkSpells
import Derived.WalkLawsBesides
import Derived.Lib.Hide
import Derived.Deep.QuietTactic
import Derived.BigQuiet
import Derived.Test.YtfkdameegljkeaaDoorG2
import Derived.Test.YtfkdameegljkeaaDoorG1
import Derived.Deep.RegionWith
import Derived.OwnWalk
import Derived.MapKept
import Derived.Maps.RangeRun
import Derived.ArgAppend
import Derived.Laws.Append
import Derived.Laws.AppendOwn
import Derived.Laws.IdiomCopy
import Derived.Deep.LoopGhost
import Derived.Maps.Own
import Derived.Maps.OwnOps
import Derived.Maps.RangeWalk
import Derived.Carry
import Derived.Lib.Slices
import Derived.Lib.AppendZerosOnto
import Derived.Deep.RegionHeld3
import Derived.Deep.RegionLaw
import Derived.Test.YtfkdameegljkeaaDoorSh
/- Walks: the fixed points of a network, on both sides; steps and the restless switches; equal lists of the laws. -/
namespace Go.Proofs.YtfkdameegljkeaaDoor
open Go.RowKit
set_option linter.unusedVariables false

/-- a state that no step changes -/
def fixB (ps : List (List UInt8)) (s : Nat) : Bool := stp ps s == s
def fixN (ps : List (List UInt8)) : List Nat := if okN ps then sel (2 ^ ps.length) (fixB ps) else []
theorem fixN_no {ps : List (List UInt8)} (h : okN ps = false) : fixN ps = [] := by rw [fixN, h]; rfl
theorem fixN_yes {ps : List (List UInt8)} {N : Nat} (h : okN ps = true) (hN : N = 2 ^ ps.length) : fixN ps = sel N (fixB ps) := by rw [fixN, if_pos h, hN]

/-- the step of a state, or -1 -/
def stA (ps : List (List UInt8)) (t : Int) : Int := if okSt ps t then (stp ps t.toNat : Int) else -1
/-- the switches that a step changes, or -1 -/
def rsA (ps : List (List UInt8)) (t : Int) : Int := if okSt ps t then ((stp ps t.toNat ^^^ t.toNat : Nat) : Int) else -1

theorem NetworkValid_any (s : ByteArray) (w : World) (hm : Hid (HasM w)) (hs : s.size ≤ 1073741824) :
    Calls Tryd.prog 24 #[.string s] w fun e w' => e = .returned (.bool (okN (cutL s.data.toList))) ∧ Below w.heap.size w w' := by
  go_enter Tryd.func24, Tryd.ntmps24
  go_wp2_with fail
  refine (readNetwork_any s w hm hs).mono ?_
  rintro e w1 ⟨⟨A, j, c, rfl, himp⟩, hB1⟩
  clear himp
  go_wp2
  go_ret
  exact ⟨rfl, hB1⟩

/-- how many switches a network has, or -1 -/
def szN (ps : List (List UInt8)) : Int := if okN ps then (ps.length : Int) else -1
theorem SizeOf_any (s : ByteArray) (w : World) (hm : Hid (HasM w)) (hs : s.size ≤ 1073741824) :
    Calls Tryd.prog 13 #[.string s] w fun e w' => e = .returned (.int .i64 (szN (cutL s.data.toList))) ∧ Below w.heap.size w w' := by
  obtain ⟨ps, HPS⟩ : ∃ ps, Hid (ps = cutL s.data.toList) := ⟨_, rfl⟩
  rw [← HPS.out]
  by_cases h : okN ps = true
  · have HOK := Lib.hid h
    have HV : Hid (szN ps = (ps.length : Int)) := Lib.hid (by rw [szN, if_pos h])
    clear h
    go_enter Tryd.func13, Tryd.ntmps13
    go_wp2_with fail
    refine (readNetwork_any s w hm hs).mono ?_
    rintro e w1 ⟨⟨A, k0, c, rfl, himp⟩, hB1⟩
    rw [← HPS.out] at himp ⊢
    obtain ⟨rfl, hc, hO⟩ := himp HOK.out
    rw [HOK.out]
    clear hO himp
    go_wp2
    go_ret
    exact ⟨by rw [HV.out]; rfl, hB1⟩
  · have HOK : Hid (okN ps = false) := Lib.hid (by simpa using h)
    have HV : Hid (szN ps = -1) := Lib.hid (by rw [szN, HOK.out]; rfl)
    clear h
    go_enter Tryd.func13, Tryd.ntmps13
    go_wp2_with fail
    refine (readNetwork_any s w hm hs).mono ?_
    rintro e w1 ⟨⟨A, k0, c, rfl, himp⟩, hB1⟩
    clear himp
    rw [← HPS.out, HOK.out]
    go_wp2
    go_ret
    exact ⟨by rw [HV.out]; rfl, hB1⟩

/-- a list equals itself, wherever it lies -/
theorem bnSame_any (A A' : Option Addr) (c c' : Nat) (xs : List Int) (w : World) (hx : Hid (Rd w A (xs.map (Value.int .i64)))) (hy : Hid (Rd w A' (xs.map (Value.int .i64)))) (hl : xs.length ≤ 1000000) :
    Calls Tryd.prog 9 #[.slice A xs.length c, .slice A' xs.length c'] w fun e w' => e = .returned (.bool true) ∧ ∃ n, w.drewN n = w' := by
  go_enter Tryd.func9, Tryd.ntmps9
  go_wp2
  go_loopw [5] (fun i wr => ∃ k : Nat, k ≤ xs.length ∧ i = .int .i64 k ∧ ∃ n, wr = w.drewN n) (fun i _ => xs.length - (intOf i).toNat)
  case atStart => exact ⟨0, Nat.zero_le _, rfl, 0, rfl⟩
  case round =>
    obtain ⟨k, hk, rfl, n, rfl⟩ := hrel
    by_cases hlt : k < xs.length
    · obtain ⟨g, off, hA, hc⟩ := hx.out.int hlt
      obtain ⟨g', off', hA', hc'⟩ := hy.out.int hlt
      subst hA hA'
      have hd : (xs[k] != xs[k]) = false := bne_self_eq_false _
      go_wp2
      go_quiet (fail)
      go_wp2
      go_roundw
      case rel => exact ⟨k + 1, by omega, by go_num, _, rfl⟩
      case measure => simp [intOf]; omega
    · have hkn : k = xs.length := by omega
      subst hkn
      go_wp2
      go_ret
      exact ⟨rfl, _, rfl⟩

/-- the address A does not lie in v's own block -/
def OffV (v : Value) (A : Option Addr) : Prop := ∀ a, A = some a → v.ownBlock ≠ some a.block
theorem offV_own {w : World} {B g n c : Nat} {A : Option Addr} {vs : List Value} (h : Own w B A vs) (hg : g < B) : OffV (.slice (some ⟨g, 0, none⟩) n c) A ∨ vs = [] := by
  rcases h with h | ⟨g2, off, hA, hB, _⟩
  · exact .inr h
  · left
    intro a ha
    rw [hA] at ha
    injection ha with ha
    subst ha
    simp only [Value.ownBlock, ne_eq, Option.some.injEq]
    omega
theorem offV_push {w w' : World} {v v' : Value} {A : Option Addr} {vs : List Value} (h : Rd w A vs) (ho : OffV v A) (hf : ∀ g, g < w.heap.size → v.ownBlock ≠ some g → w'.heap[g]? = w.heap[g]? ∧ v'.ownBlock ≠ some g) (hne : vs ≠ []) : Rd w' A vs ∧ OffV v' A := by
  rcases h with h | ⟨g, off, hA, hc⟩
  · exact absurd h hne
  · have hlt : g < w.heap.size := by
      cases vs with
      | nil => exact absurd rfl hne
      | cons x l => exact World.block_lt_of_cell? w _ (hc 0 x rfl)
    have h2 := hf g hlt (ho _ hA)
    refine ⟨.inr ⟨g, off, hA, fun j v hj => (World.cell?_of_block (w := w) (a := ⟨g, off + j, none⟩) h2.1).trans (hc j v hj)⟩, fun a ha => ?_⟩
    rw [hA] at ha
    injection ha with ha
    subst ha
    exact h2.2

end Go.Proofs.YtfkdameegljkeaaDoor

/- Walks: draws of a network and a state. Printed by wip/mkd.py. -/
namespace Go.Proofs.YtfkdameegljkeaaDoor
open Go.RowKit
set_option linter.unusedVariables false

theorem sSizeOf_any (s : ByteArray) (w : World) (hs : s.size ≤ 1073741824) :
    Calls Tryd.prog 86 #[.string s] w fun e w' => e = .returned (.int .i64 (szN (cutL s.data.toList))) ∧ Below w.heap.size w w' := by
  obtain ⟨ps, HPS⟩ : ∃ ps, Hid (ps = cutL s.data.toList) := ⟨_, rfl⟩
  rw [← HPS.out]
  by_cases h : okN ps = true
  · have HOK := Lib.hid h
    have HV : Hid (szN ps = (ps.length : Int)) := Lib.hid (by rw [szN, if_pos h])
    clear h
    go_enter Tryd.func86, Tryd.ntmps86
    go_wp2_with fail
    refine (l3Open_any s w hs).mono ?_
    rintro e w1 ⟨⟨A, k0, c, rfl, himp⟩, hB1⟩
    rw [← HPS.out] at himp ⊢
    obtain ⟨rfl, hc, hO⟩ := himp HOK.out
    rw [HOK.out]
    clear hO himp
    go_wp2
    go_ret
    exact ⟨by rw [HV.out]; rfl, hB1⟩
  · have HOK : Hid (okN ps = false) := Lib.hid (by simpa using h)
    have HV : Hid (szN ps = -1) := Lib.hid (by rw [szN, HOK.out]; rfl)
    clear h
    go_enter Tryd.func86, Tryd.ntmps86
    go_wp2_with fail
    refine (l3Open_any s w hs).mono ?_
    rintro e w1 ⟨⟨A, k0, c, rfl, himp⟩, hB1⟩
    clear himp
    rw [← HPS.out, HOK.out]
    go_wp2
    go_ret
    exact ⟨by rw [HV.out]; rfl, hB1⟩

/-- a text and a state have been drawn -/
def WithP (w : World) (B g p q : Nat) (e : Ending) (w' : World) : Prop :=
  ∃ (t : ByteArray) (s : Int) (p2 : Nat), e = .returned (.tuple #[.string t, .int .i64 s]) ∧ t.size ≤ 1010 ∧ (-1 ≤ s ∧ s ≤ 9223372036854775807) ∧ p2 ≤ p + q ∧ Rdr w' B g p2 ∧ w.grownBy w' (some g)
/-- a text of at most 1010 bytes and a number -/
def DrwS (B : Nat) (w : World) (e : Ending) (w' : World) : Prop := (∃ (t : ByteArray) (s : Int), e = .returned (.tuple #[.string t, .int .i64 s]) ∧ t.size ≤ 1010 ∧ -1 ≤ s ∧ s ≤ 9223372036854775807) ∧ Below B w w'
/-- a text of at most 1010 bytes and two numbers -/
def DrwSS (B : Nat) (w : World) (e : Ending) (w' : World) : Prop := (∃ (t : ByteArray) (s i : Int), e = .returned (.tuple #[.string t, .int .i64 s, .int .i64 i]) ∧ t.size ≤ 1010 ∧ (-1 ≤ s ∧ s ≤ 9223372036854775807) ∧ -1 ≤ i ∧ i ≤ 9223372036854775807) ∧ Below B w w'
theorem cut_pos {s : ByteArray} {ps : List (List UInt8)} (h : Hid (ps = cutL s.data.toList)) : 1 ≤ ps.length := by rw [h.out]; exact (cutL_len _).2

set_option maxHeartbeats 1000000 in
set_option maxRecDepth 100000 in
theorem l5Small_any (B g p : Nat) (w : World) (h : Rdr w B g p) (hp : p ≤ 700000) :
    Calls Tryd.prog 56 #[.pointer (some ⟨g, 0, none⟩)] w fun e w' => WithP w B g p 320 e w' := by
  go_enter Tryd.func56, Tryd.ntmps56
  have hgl := h.lt.2
  go_wp2_with fail
  refine (num_any B g p 5 _ [3, 2, 3, 1, 2] _ (h.keep ((Below.refl _ _).alloc (Nat.le_refl _) _)) (by omega) (Own.lit w _ _ (by omega)) (by simp) (by simp)).mono ?_
  rintro e wa ⟨n0, hn0, rfl, hRa, hGa⟩
  obtain ⟨n, rfl, hn1, hn5⟩ : ∃ n : Nat, n0 = (n : Int) ∧ 1 ≤ n ∧ n ≤ 5 := ⟨n0.toNat, by simp at hn0; omega, by simp at hn0; omega, by simp at hn0; omega⟩
  have HGa := Lib.hid (grn_trans (grn_below ((Below.refl _ _).alloc (Nat.le_refl _) _)) hGa)
  clear hn0 hGa
  go_wp2_with fail
  refine (l3Draw_any B g (p + 1) n _ hRa (by omega) hn1 hn5).mono ?_
  rintro e wb ⟨t0, pb, rfl, ht1, ht2, hpb, hRb, hGb⟩
  have HGb := Lib.hid (grn_trans HGa.out hGb)
  clear hRa hGb
  go_wp2_with fail
  refine (l3Bad_any B g pb ⟨t0.toArray⟩ _ hRb (by omega) (by rw [str_size]; exact ht1) (by rw [str_size]; omega)).mono ?_
  rintro e w1 ⟨t, p1, rfl, ht, hp1, hR1, hG0⟩
  have hG1 := grn_trans HGb.out hG0
  clear hRb hG0
  clear hn1 hn5
  obtain ⟨ps, HPS⟩ : ∃ ps, Hid (ps = cutL t.data.toList) := ⟨_, rfl⟩
  go_wp2_with fail
  refine (sSizeOf_any t _ (by omega)).mono ?_
  rintro e w2 ⟨rfl, hB2⟩
  rw [← HPS.out]
  have hR2 := hR1.keep hB2
  have HG2 := Lib.hid (grn_trans hG1 (grn_below hB2))
  clear hR1 hG1 hB2
  by_cases hok : okN ps = true
  · have hn5 := okN_le hok
    have hn1 := cut_pos HPS
    obtain ⟨N, HN, hNw, hN32, hN0⟩ := wrap_two ps.length hn5
    have HSZ : Hid (szN ps = (ps.length : Int)) := Lib.hid (by rw [szN, if_pos hok])
    clear hok
    rw [HSZ.out]
    go_wp2_with fail
    refine (pick_any B g p1 _ _ hR2 (by omega) (by omega) (by omega)).mono ?_
    rintro e w3 ⟨k, rfl, hk, hR3, hG3⟩
    have HG3 := Lib.hid (grn_trans HG2.out hG3)
    clear hR2 hG3
    by_cases hk0 : 0 < k
    · go_wp2_with fail
      refine (pick_any B g (p1 + 1) _ _ hR3 (by omega) (by omega) (by omega)).mono ?_
      rintro e w4 ⟨s, rfl, hs, hR4, hG4⟩
      have hs2 : s < 32 := by omega
      have HG4 := Lib.hid (grn_trans HG3.out hG4)
      clear hNw hG4 hs
      go_wp2
      go_ret2
      exact ⟨t, s, _, rfl, ht, by omega, by omega, hR4, HG4.out⟩
    · have hk00 : k = 0 := by omega
      subst hk00
      clear hNw hk0
      have hgl3 := hR3.lt.2
      go_wp2_with fail
      refine (num_any B g _ 4 _ [0, -1, 32, 9223372036854775807] _ (hR3.keep ((Below.refl _ _).alloc (Nat.le_refl _) _)) (by omega) (Own.lit _ _ _ (by omega)) (by simp) (by simp)).mono ?_
      rintro e w5 ⟨v, hv, rfl, hR5, hG5⟩
      have hv2 : -1 ≤ v ∧ v ≤ 9223372036854775807 := by simp at hv; omega
      have HG := Lib.hid (grn_trans HG3.out (grn_trans (grn_below ((Below.refl _ _).alloc (Nat.le_refl _) _)) hG5))
      clear hv hG5
      go_wp2
      go_ret2
      exact ⟨t, v, _, rfl, ht, hv2, by omega, hR5, HG.out⟩
  · have HSZ : Hid (szN ps = -1) := Lib.hid (by rw [szN, if_neg hok])
    clear hok
    rw [HSZ.out]
    have hR3 := hR2
    have HG3 := HG2
    have hgl3 := hR3.lt.2
    go_wp2_with fail
    refine (num_any B g _ 4 _ [0, -1, 32, 9223372036854775807] _ (hR3.keep ((Below.refl _ _).alloc (Nat.le_refl _) _)) (by omega) (Own.lit _ _ _ (by omega)) (by simp) (by simp)).mono ?_
    rintro e w5 ⟨v, hv, rfl, hR5, hG5⟩
    have hv2 : -1 ≤ v ∧ v ≤ 9223372036854775807 := by simp at hv; omega
    have HG := Lib.hid (grn_trans HG3.out (grn_trans (grn_below ((Below.refl _ _).alloc (Nat.le_refl _) _)) hG5))
    clear hv hG5
    go_wp2
    go_ret2
    exact ⟨t, v, _, rfl, ht, hv2, by omega, hR5, HG.out⟩

end Go.Proofs.YtfkdameegljkeaaDoor

/- A set of integers that the call made: map[int]bool in which every element is true. -/
namespace Go.Proofs.YtfkdameegljkeaaDoor
open Go.RowKit
set_option linter.unusedVariables false

/-- block b is a set of the integers ks, in the order in which they came -/
def SetAt (w : World) (b : Nat) (ks : List Int) : Prop :=
  ∃ es cl, w.heap[b]? = some (.map es cl) ∧ MapKept.Stamped es cl ∧ es.toList.map (fun e : MapEntry => (e.key, e.val)) = ks.map fun k => (Value.int .i64 k, Value.bool true)
theorem SetAt.below {w w' : World} {b : Nat} {ks : List Int} (h : SetAt w b ks) (hb : Below w.heap.size w w') : SetAt w' b ks := by
  obtain ⟨es, cl, h1, h0, h2⟩ := h
  exact ⟨es, cl, (hb.block b (Array.getElem?_eq_some_iff.1 h1).1).trans h1, h0, h2⟩
theorem SetAt.blk {w w' : World} {b : Nat} {ks : List Int} (h : SetAt w b ks) (hb : w'.heap[b]? = w.heap[b]?) : SetAt w' b ks := by
  obtain ⟨es, cl, h1, h0, h2⟩ := h
  exact ⟨es, cl, hb.trans h1, h0, h2⟩
theorem SetAt.lt {w : World} {b : Nat} {ks : List Int} (h : SetAt w b ks) : b < w.heap.size := by
  obtain ⟨es, cl, h1, h0, h2⟩ := h
  exact (Array.getElem?_eq_some_iff.1 h1).1
theorem SetAt.made (w : World) : SetAt (w.alloc (.map #[] 0)) w.heap.size [] := ⟨#[], 0, heap_alloc_new w _, MapKept.stamped_empty 0, rfl⟩
theorem find_set (k : Int) : ∀ (l : List MapEntry) (ks : List Int) (i : Nat), l.map (fun e : MapEntry => (e.key, e.val)) = ks.map (fun k => (Value.int .i64 k, Value.bool true)) →
    (k ∈ ks → ∃ j, Instr.findNow (.int .i64) (.int .i64 k) l i = some (some (i + j, .bool true)) ∧ l[j]?.map (fun e : MapEntry => (e.key, e.val)) = some (.int .i64 k, .bool true)) ∧ (k ∉ ks → Instr.findNow (.int .i64) (.int .i64 k) l i = some none)
  | [], ks, i, h => by
    cases ks with
    | nil => exact ⟨fun h => by simp at h, fun _ => rfl⟩
    | cons a ks => simp at h
  | e :: l, ks, i, h => by
    cases ks with
    | nil => simp at h
    | cons a ks =>
      simp only [List.map_cons, List.cons.injEq, Prod.mk.injEq] at h
      obtain ⟨⟨hk, hv⟩, ht⟩ := h
      have ih := find_set k l ks (i + 1) ht
      by_cases e1 : k = a
      · subst e1
        refine ⟨fun _ => ⟨0, ?_, by simp [hk, hv]⟩, fun hn => absurd (List.mem_cons_self ..) hn⟩
        simp [Instr.findNow, Instr.sameNow, hk, hv]
      · have hs : Instr.findNow (.int .i64) (.int .i64 k) (e :: l) i = Instr.findNow (.int .i64) (.int .i64 k) l (i + 1) := by
          have e2 : (k == a) = false := by simpa using e1
          simp [Instr.findNow, Instr.sameNow, hk, e2]
        rw [hs]
        refine ⟨fun hm => ?_, fun hn => ih.2 (fun hm => hn (List.mem_cons_of_mem _ hm))⟩
        obtain ⟨j, h1, h2⟩ := ih.1 ((List.mem_cons.1 hm).resolve_left e1)
        exact ⟨j + 1, by rw [h1]; congr 3; omega, by simpa using h2⟩
theorem zero_bool (w : World) : (zeroValue 4).run Tryd.prog w = .ok (.bool false) w := by kernel_rfl
theorem set_look {w : World} {b : Nat} {ks : List Int} (h : SetAt w b ks) (k : Int) :
    (Instr.lookup 50 (.map (some b)) (.int .i64 k) false).run Tryd.prog w = .ok (.bool (decide (k ∈ ks))) w := by
  obtain ⟨es, cl, h1, h0, h2⟩ := h
  have hf := find_set k es.toList ks 0 h2
  have hc : (Instr.checkKey es.isEmpty 10000 3 (.int .i64 k)).run Tryd.prog w = .ok () w := MapKept.run_checkKey Tryd.underlying3 (by simp [MapKept.IsKey]) _ _
  unfold Instr.lookup
  simp only [Sem.run_bind, run_underlying Tryd.underlying50, Result.andThen_ok, MapKept.run_getObj_map h1, Sem.run_pure, hc]
  by_cases hm : k ∈ ks
  · obtain ⟨j, hj, _⟩ := hf.1 hm
    simp [MapKept.run_findKey Tryd.underlying3 hj, hm]
  · have hn := hf.2 hm
    simp [MapKept.run_findKey Tryd.underlying3 hn, hm]

theorem set_put {w : World} {b : Nat} {ks : List Int} (h : SetAt w b ks) (k : Int) :
    ∃ w', (Instr.mapUpdate 50 (.map (some b)) (.int .i64 k) (.bool true)).run Tryd.prog w = .ok () w' ∧ SetAt w' b (if k ∈ ks then ks else ks ++ [k]) ∧ w.grownBy w' (some b) := by
  obtain ⟨es, cl, h1, h0, h2⟩ := h
  have hf := find_set k es.toList ks 0 h2
  have hc : (Instr.checkKey false 10000 3 (.int .i64 k)).run Tryd.prog w = .ok () w := MapKept.run_checkKey Tryd.underlying3 (by simp [MapKept.IsKey]) _ _
  have hg : ∀ o : Obj, w.grownBy { w with heap := w.heap.setIfInBounds b o } (some b) := fun o => ⟨rfl, rfl, rfl, by simp, fun i hi hne => by
    have : i ≠ b := fun e => hne (by rw [e])
    simp [Ne.symm this]⟩
  unfold Instr.mapUpdate
  simp only [Sem.run_bind, run_underlying Tryd.underlying50, Result.andThen_ok, MapKept.run_getObj_map h1, hc]
  by_cases hm : k ∈ ks
  · obtain ⟨j, hj, hj2⟩ := hf.1 hm
    rw [Nat.zero_add] at hj
    obtain ⟨en, hen, hen2⟩ := Option.map_eq_some_iff.1 hj2
    rw [Array.getElem?_toList] at hen
    injection hen2 with hek hev
    have hj3 : (es[j]?).map (·.key) = some (.int .i64 k) := by rw [hen, Option.map_some, hek]
    have hst : (Instr.keyThatStays (((es[j]?).map (·.key)).getD (.int .i64 k)) (.int .i64 k)).run Tryd.prog w = .ok (.int .i64 k) w := by
      rw [hj3]; simp [Instr.keyThatStays, Instr.sameBits]
    simp only [MapKept.run_findKey Tryd.underlying3 hj, Result.andThen_ok, Sem.run_bind, hst, MapKept.run_setObj_map _ h1]
    refine ⟨_, rfl, ?_, hg _⟩
    rw [if_pos hm]
    refine ⟨_, cl, (MapKept.heap_set h1).1, ?_, ?_⟩
    · refine MapKept.stamped_modify h0 j _ ?_ ?_
      · intro e _; rfl
      · intro e _ he
        have hee : en = e := Option.some.inj (hen.symm.trans he)
        show Value.int IntKind.i64 k = e.key
        rw [← hee, hek]
    rw [← h2]
    apply List.ext_getElem?
    intro i
    simp only [List.getElem?_map, Array.getElem?_toList, Array.getElem?_modify]
    by_cases e : j = i
    · subst e
      rw [hen]
      simp [hek, hev]
    · simp [e]
  · have hn := hf.2 hm
    simp only [MapKept.run_findKey Tryd.underlying3 hn, Result.andThen_ok, MapKept.run_setObj_map _ h1]
    refine ⟨_, rfl, ?_, hg _⟩
    rw [if_neg hm]
    refine ⟨_, _, (MapKept.heap_set h1).1, MapKept.stamped_push h0 (fun x hx e => hm ?_), ?_⟩
    · have hx2 : (x.key, x.val) ∈ ks.map fun k => (Value.int .i64 k, Value.bool true) := by rw [← h2]; exact List.mem_map.2 ⟨x, hx, rfl⟩
      obtain ⟨y, hy, e2⟩ := List.mem_map.1 hx2
      injection e2 with e2 _
      rw [e] at e2
      injection e2 with _ e2
      rw [← e2]; exact hy
    simp [h2]

theorem wpList_put {ops : Array Oper} {rest : List Oper} {o : Oper} {a : Act} {w : World} {Q : Exit → Act → World → Prop} (hgd : o.guard = none) (m x y : Operand) (ho : o.op = .mapUpdate 50 m x y) {b : Nat} {ks : List Int} {k : Int}
    (hm : a.eval m = .map (some b)) (hx : a.eval x = .int .i64 k) (hy : a.eval y = .bool true) (hs : SetAt w b ks)
    (h : ∀ w1, SetAt w1 b (if k ∈ ks then ks else ks ++ [k]) → w.grownBy w1 (some b) → wpList Tryd.prog ops Q rest (a.put o.dst undef) w1) : wpList Tryd.prog ops Q (o :: rest) a w := by
  obtain ⟨w1, hrun, h1, h2⟩ := set_put hs k
  refine wpList_plain hgd fun _ hK => ?_
  unfold Oper.wp execOp
  simp only [ho, hm, hx, hy, Sem.run_bind, hrun, Result.andThen_ok]
  exact hK _ _ (h w1 h1 h2)
theorem wpList_ins {ops : Array Oper} {rest : List Oper} {o : Oper} {a : Act} {w : World} {Q : Exit → Act → World → Prop} (hgd : o.guard = none) (m x y : Operand) (ho : o.op = .insert 50 m x y) {b : Nat} {ks : List Int} {k : Int}
    (hm : a.eval m = .map (some b)) (hx : a.eval x = .int .i64 k) (hy : a.eval y = .bool true) (hs : SetAt w b ks)
    (h : ∀ w1, SetAt w1 b (if k ∈ ks then ks else ks ++ [k]) → w.grownBy w1 (some b) → wpList Tryd.prog ops Q rest (a.put o.dst undef) w1) : wpList Tryd.prog ops Q (o :: rest) a w := by
  obtain ⟨w1, hrun, h1, h2⟩ := set_put hs k
  refine wpList_plain hgd fun _ hK => ?_
  unfold Oper.wp execOp
  simp only [ho, hm, hx, hy, Sem.run_bind, hrun, Result.andThen_ok]
  exact hK _ _ (h w1 h1 h2)

/-- the ranging over a set is under way: todo are the keys still to come -/
def RngAt (w : World) (r b : Nat) (ks todo : List Int) : Prop :=
  ∃ es clock since seen c0, w.heap[b]? = some (.map es clock) ∧ MapKept.Stamped es clock ∧ (es.toList.map (fun e : MapEntry => (e.key, e.val)) = ks.map fun k => (Value.int .i64 k, Value.bool true)) ∧
    w.heap[r]? = some (.mapIter (some b) since seen c0) ∧ (∀ x ∈ es.toList, x.born < since) ∧ since ≤ c0 ∧ since ≤ clock ∧ (leftOf es seen).toList.map (·.key) = todo.map (Value.int .i64)
theorem RngAt.set_ {w : World} {r b : Nat} {ks todo : List Int} (h : RngAt w r b ks todo) : SetAt w b ks := by
  obtain ⟨es, cl, _, _, _, h1, h0, h2, _⟩ := h
  exact ⟨es, cl, h1, h0, h2⟩
theorem RngAt.ne {w : World} {r b : Nat} {ks todo : List Int} (h : RngAt w r b ks todo) : b ≠ r := by
  obtain ⟨es, cl, _, _, _, h1, _, _, h2, _⟩ := h
  intro e
  rw [e, h2] at h1
  cases h1
theorem RngAt.lt {w : World} {r b : Nat} {ks todo : List Int} (h : RngAt w r b ks todo) : r < w.heap.size := by
  obtain ⟨es, cl, _, _, _, _, _, _, h2, _⟩ := h
  exact (Array.getElem?_eq_some_iff.1 h2).1
theorem RngAt.blk {w w' : World} {r b : Nat} {ks todo : List Int} (h : RngAt w r b ks todo) (h1 : w'.heap[b]? = w.heap[b]?) (h2 : w'.heap[r]? = w.heap[r]?) : RngAt w' r b ks todo := by
  obtain ⟨es, cl, since, seen, c0, a1, a2, a3, a4, a5⟩ := h
  exact ⟨es, cl, since, seen, c0, h1.trans a1, a2, a3, h2.trans a4, a5⟩
theorem RngAt.below {w w' : World} {r b : Nat} {ks todo : List Int} (h : RngAt w r b ks todo) (hb : Below w.heap.size w w') : RngAt w' r b ks todo :=
  h.blk (hb.block b h.set_.lt) (hb.block r h.lt)
theorem keys_ints : ∀ (l : List MapEntry), (∀ e ∈ l, ∃ k, e.key = Value.int .i64 k) → ∃ t : List Int, l.map (·.key) = t.map (Value.int .i64)
  | [], _ => ⟨[], rfl⟩
  | e :: l, h => by
    obtain ⟨t, ht⟩ := keys_ints l (fun x hx => h x (List.mem_cons_of_mem _ hx))
    obtain ⟨k, hk⟩ := h e (List.mem_cons_self ..)
    exact ⟨k :: t, by rw [List.map_cons, List.map_cons, ht, hk]⟩
theorem keys_mem {l : List MapEntry} {t : List Int} (h : l.map (·.key) = t.map (Value.int .i64)) (k : Int) : k ∈ t ↔ ∃ e ∈ l, e.key = Value.int .i64 k := by
  constructor
  · intro hk
    have : Value.int .i64 k ∈ l.map (·.key) := by rw [h]; exact List.mem_map.2 ⟨k, hk, rfl⟩
    obtain ⟨e, he, e2⟩ := List.mem_map.1 this
    exact ⟨e, he, e2⟩
  · rintro ⟨e, he, e2⟩
    have : Value.int .i64 k ∈ t.map (Value.int .i64) := by rw [← h]; exact List.mem_map.2 ⟨e, he, e2⟩
    obtain ⟨y, hy, e3⟩ := List.mem_map.1 this
    injection e3 with _ e3
    rw [← e3]; exact hy
theorem set_range {w : World} {b : Nat} {ks : List Int} (h : SetAt w b ks) :
    ∃ w', (Instr.range 50 (.map (some b))).run Tryd.prog w = .ok (.pointer (some ⟨w.heap.size, 0, none⟩)) w' ∧ RngAt w' w.heap.size b ks ks ∧ Below w.heap.size w w' ∧ w.heap.size < w'.heap.size := by
  have hlt := h.lt
  obtain ⟨es, cl, h1, h0, h2⟩ := h
  refine ⟨_, run_range_map w _ _ _ b es cl Tryd.underlying50 h1, ⟨es, cl, cl, #[], cl, ((MapKept.heap_alloc w _).2 b hlt).trans h1, h0, h2, (MapKept.heap_alloc w _).1, ((MapKept.stamped_iff es cl).1 h0).1, Nat.le_refl _, Nat.le_refl _, ?_⟩, (Below.refl _ _).alloc (Nat.le_refl _) _, by rw [alloc_size]; omega⟩
  have e1 : leftOf es #[] = es := by
    unfold leftOf
    exact Array.filter_eq_self.2 (fun x hx => by simp)
  rw [e1]
  have := congrArg (List.map Prod.fst) h2
  simpa [List.map_map, Function.comp_def] using this
theorem set_next {w : World} {r b : Nat} {ks todo : List Int} (h : RngAt w r b ks todo) (ty : TypeId) :
    (todo = [] ∧ (Instr.next (.pointer (some ⟨r, 0, none⟩)) false ty).run Tryd.prog w = .ok (.tuple #[.bool false]) w) ∨
    ∃ k todo' w', k ∈ todo ∧ todo'.length < todo.length ∧ (∀ x ∈ todo, x = k ∨ x ∈ todo') ∧ (∀ x ∈ todo', x ∈ todo) ∧ (Instr.next (.pointer (some ⟨r, 0, none⟩)) false ty).run Tryd.prog w = .ok (.tuple #[.bool true, .int .i64 k, .bool true]) w' ∧
      RngAt w' r b ks todo' ∧ w.grownBy w' (some r) ∧ (Instr.entry (.pointer (some ⟨r, 0, none⟩))).run Tryd.prog w' = .ok (.tuple #[.int .i64 k, .bool true]) w' := by
  have hne := h.ne
  obtain ⟨es, clock, since, seen, c0, hb, h0, h2, hr, hold, hsc, hsk, ht⟩ := h
  have hst := (MapKept.stamped_iff es clock).1 h0
  rcases run_next_at (P := Tryd.prog) w ty r b since c0 seen es clock hr hb hold hsc with ⟨h0', hrun⟩ | ⟨e, he, w1, hal, hrun⟩
  · refine .inl ⟨?_, hrun⟩
    have := congrArg List.length ht
    simp only [List.length_map, Array.length_toList, h0'] at this
    exact List.eq_nil_of_length_eq_zero this.symm
  · obtain ⟨hem, hes⟩ := mem_left he
    have hkv : ∀ x ∈ es.toList, ∃ k, k ∈ ks ∧ x.key = Value.int .i64 k ∧ x.val = Value.bool true := by
      intro x hx
      have : (x.key, x.val) ∈ ks.map fun k => (Value.int .i64 k, Value.bool true) := by rw [← h2]; exact List.mem_map.2 ⟨x, hx, rfl⟩
      obtain ⟨k, hk, e2⟩ := List.mem_map.1 this
      injection e2 with e2 e3
      exact ⟨k, hk, e2.symm, e3.symm⟩
    obtain ⟨k, hk, hke, hve⟩ := hkv e hem
    have hr1 : w1.heap[r]? = some (.mapIter (some b) since seen c0) := by rcases hal with rfl | rfl <;> exact hr
    have hb1 : w1.heap[b]? = some (.map es clock) := by rcases hal with rfl | rfl <;> exact hb
    have hset := MapKept.heap_set (o' := .mapIter (some b) since (seen.push e.born) clock) hr1
    have hb' : (ChangeMaps.setBlock w1 r (.mapIter (some b) since (seen.push e.born) clock)).heap[b]? = some (.map es clock) := (hset.2 b hne).trans hb1
    obtain ⟨t', ht'⟩ := keys_ints (leftOf es (seen.push e.born)).toList (fun x hx => by obtain ⟨k, _, hk, _⟩ := hkv x (mem_left hx).1; exact ⟨k, hk⟩)
    have hsub : ∀ x, x ∈ (leftOf es (seen.push e.born)).toList → x ∈ (leftOf es seen).toList := by
      intro x hx
      obtain ⟨hx1, hx2⟩ := mem_left hx
      rw [contains_push] at hx2
      unfold leftOf
      rw [Array.toList_filter]
      refine List.mem_filter.2 ⟨hx1, ?_⟩
      cases hc : seen.contains x.born
      · rfl
      · rw [hc] at hx2; simp at hx2
    refine .inr ⟨k, t', _, (keys_mem ht k).2 ⟨e, he, hke⟩, ?_, ?_, ?_, by rw [hrun, hke, hve], ⟨es, clock, since, seen.push e.born, clock, hb', h0, h2, hset.1, hold, hsk, hsk, ht'⟩, ?_, ?_⟩
    · have a1 := congrArg List.length ht
      have a2 := congrArg List.length ht'
      have := left_shrinks es seen e he
      simp only [List.length_map, Array.length_toList] at a1 a2
      omega
    · intro x hx
      obtain ⟨e', he', hk'⟩ := (keys_mem ht x).1 hx
      obtain ⟨hm', hs'⟩ := mem_left he'
      by_cases hbe : e'.born = e.born
      · left
        have := born_inj hst.2.1 hm' hem hbe
        subst this
        rw [hke] at hk'
        injection hk' with _ hk'
        exact hk'.symm
      · right
        refine (keys_mem ht' x).2 ⟨e', ?_, hk'⟩
        unfold leftOf
        rw [Array.toList_filter]
        refine List.mem_filter.2 ⟨hm', ?_⟩
        rw [contains_push, hs']
        simp [hbe]
    · intro x hx
      obtain ⟨e', he', hk'⟩ := (keys_mem ht' x).1 hx
      exact (keys_mem ht x).2 ⟨e', hsub e' he', hk'⟩
    · rcases hal with rfl | rfl <;> exact ⟨rfl, rfl, rfl, by simp [ChangeMaps.setBlock], fun i _ hi => hset.2 i (fun e1 => hi (by rw [e1]))⟩
    · have := run_entry_at (P := Tryd.prog) _ r b since seen es clock e hset.1 hb' hem hst.2.1
      rw [hke, hve] at this
      exact this
theorem wpList_range_set {ops : Array Oper} {rest : List Oper} {o : Oper} {a : Act} {w : World} {Q : Exit → Act → World → Prop} (hgd : o.guard = none) (m : Operand) (ho : o.op = .range 50 m) {b : Nat} {ks : List Int}
    (hm : a.eval m = .map (some b)) (hs : SetAt w b ks)
    (h : ∀ r w1, r = w.heap.size → RngAt w1 r b ks ks → Below w.heap.size w w1 → w.heap.size < w1.heap.size → wpList Tryd.prog ops Q rest (a.put o.dst (.pointer (some ⟨r, 0, none⟩))) w1) : wpList Tryd.prog ops Q (o :: rest) a w := by
  obtain ⟨w1, hrun, h1, h2, h3⟩ := set_range hs
  refine wpList_plain hgd fun _ hK => ?_
  unfold Oper.wp execOp
  simp only [ho, hm, Sem.run_bind, hrun, Result.andThen_ok]
  exact hK _ _ (h _ w1 rfl h1 h2 h3)
theorem wpList_next_set {ops : Array Oper} {rest : List Oper} {o : Oper} {a : Act} {w : World} {Q : Exit → Act → World → Prop} (hgd : o.guard = none) (it : Operand) (ho : o.op = .next it false) {r b : Nat} {ks todo : List Int}
    (hit : a.eval it = .pointer (some ⟨r, 0, none⟩)) (hs : RngAt w r b ks todo)
    (hDone : todo = [] → wpList Tryd.prog ops Q rest (a.put o.dst (.tuple #[.bool false])) w)
    (hMore : ∀ (k : Int) (todo' : List Int) (w1 : World), k ∈ todo → todo'.length < todo.length → (∀ x ∈ todo, x = k ∨ x ∈ todo') → (∀ x ∈ todo', x ∈ todo) → RngAt w1 r b ks todo' → w.grownBy w1 (some r) →
      (Instr.entry (.pointer (some ⟨r, 0, none⟩))).run Tryd.prog w1 = .ok (.tuple #[.int .i64 k, .bool true]) w1 → wpList Tryd.prog ops Q rest (a.put o.dst (.tuple #[.bool true, .int .i64 k, .bool true])) w1) : wpList Tryd.prog ops Q (o :: rest) a w := by
  refine wpList_plain hgd fun _ hK => ?_
  unfold Oper.wp execOp
  rcases set_next hs o.type with ⟨h0, hrun⟩ | ⟨k, todo', w1, h1, h2, h3, h4, hrun, h5, h6, h7⟩
  · simp only [ho, hit, Sem.run_bind, hrun, Result.andThen_ok]
    exact hK _ _ (hDone h0)
  · simp only [ho, hit, Sem.run_bind, hrun, Result.andThen_ok]
    exact hK _ _ (hMore k todo' w1 h1 h2 h3 h4 h5 h6 h7)

end Go.Proofs.YtfkdameegljkeaaDoor

/- A queue of integers in memory of the call's own: a slice that may begin behind its array's head. -/
namespace Go.Proofs.YtfkdameegljkeaaDoor
open Go.RowKit
set_option linter.unusedVariables false

/-- v is the slice of the integers xs in block g (from B on), with room for cap elements -/
def QI (w : World) (B g off cap : Nat) (v : Value) (xs : List Int) : Prop :=
  v = .slice (some ⟨g, off, none⟩) xs.length cap ∧ B ≤ g ∧ g < w.heap.size ∧ xs.length ≤ cap ∧
    (∀ j, j < cap → (w.cell? ⟨g, off + j, none⟩).isSome = true ∧ w.frozen? ⟨g, off + j, none⟩ = false) ∧ ∀ j x, xs[j]? = some x → w.cell? ⟨g, off + j, none⟩ = some (.int .i64 x)
theorem QI.blk {w w' : World} {B g off cap : Nat} {v : Value} {xs : List Int} (h : QI w B g off cap v xs) (hb : w'.heap[g]? = w.heap[g]?) (hz : w.heap.size ≤ w'.heap.size) : QI w' B g off cap v xs := by
  obtain ⟨h1, h2, h3, h4, h5, h6⟩ := h
  refine ⟨h1, h2, by omega, h4, fun j hj => ?_, fun j x hj => ?_⟩
  · rw [World.cell?_of_block (w := w) (a := ⟨g, off + j, none⟩) hb, World.frozen?_of_block (w := w) (a := ⟨g, off + j, none⟩) hb]
    exact h5 j hj
  · rw [World.cell?_of_block (w := w) (a := ⟨g, off + j, none⟩) hb]
    exact h6 j x hj
theorem QI.below {w w' : World} {B g off cap : Nat} {v : Value} {xs : List Int} (h : QI w B g off cap v xs) (hb : Below w.heap.size w w') : QI w' B g off cap v xs :=
  h.blk (hb.block g h.2.2.1) hb.size
theorem QI.tail {w : World} {B g off cap : Nat} {v : Value} {x : Int} {xs : List Int} (h : QI w B g off cap v (x :: xs)) : QI w B g (off + 1) (cap - 1) (.slice (some ⟨g, off + 1, none⟩) xs.length (cap - 1)) xs := by
  obtain ⟨h1, h2, h3, h4, h5, h6⟩ := h
  rw [List.length_cons] at h4
  refine ⟨rfl, h2, h3, by omega, fun j hj => ?_, fun j y hj => ?_⟩
  · have := h5 (j + 1) (by omega)
    rwa [show off + (j + 1) = off + 1 + j by omega] at this
  · have := h6 (j + 1) y (by simpa using hj)
    rwa [show off + (j + 1) = off + 1 + j by omega] at this
theorem QI.init {w : World} {B g off cap : Nat} {v : Value} {x : Int} {xs : List Int} (h : QI w B g off cap v (xs ++ [x])) : QI w B g off cap (.slice (some ⟨g, off, none⟩) xs.length cap) xs := by
  obtain ⟨h1, h2, h3, h4, h5, h6⟩ := h
  rw [List.length_append] at h4
  refine ⟨rfl, h2, h3, by omega, h5, fun j y hj => h6 j y ?_⟩
  rw [List.getElem?_append_left (List.getElem?_eq_some_iff.1 hj).1]
  exact hj
theorem QI.one (w : World) (B e : Nat) (x : Int) (hB : B ≤ w.heap.size) : QI (w.alloc (.cells #[.int .i64 x] e)) B w.heap.size 0 1 (.slice (some ⟨w.heap.size, 0, none⟩) 1 1) [x] := by
  refine ⟨rfl, hB, by rw [alloc_size]; omega, by simp, fun j hj => ?_, fun j y hj => ?_⟩
  · have : j = 0 := by omega
    subst this
    rw [cell_new, frozen_new]; simp
  · cases j with
    | zero => simp at hj; subst hj; rw [cell_new]; rfl
    | succ j => simp at hj
theorem QI.own_ {w : World} {B e : Nat} {v : Value} {n : Nat} {xs : List Int} (hn : n = xs.length) (h0 : 0 < n) (h : w.ownsRow B e 1 v n (xs.map (Value.int .i64))) : ∃ g cap, QI w B g 0 cap v xs ∧ v.ownBlock = some g := by
  subst hn
  rcases h.2 with ⟨_, h1⟩ | ⟨g, cap, cur, rfl, hB, hg, hn, hm, hc, ht⟩
  · omega
  · refine ⟨g, cap, ⟨rfl, hB, (Array.getElem?_eq_some_iff.1 hg).1, hn, fun j hj => ?_, fun j x hj => ?_⟩, rfl⟩
    · rw [cell_of_row w g _ cur e (0, 0) hg, Nat.zero_add]
      refine ⟨?_, by simp [World.frozen?, hg]⟩
      rw [Array.getElem?_eq_getElem (by omega)]; rfl
    · rw [cell_of_row w g _ cur e (0, 0) hg, Nat.zero_add, ← Array.getElem?_toList]
      have hjl := (List.getElem?_eq_some_iff.1 hj).1
      have : (cur.toList.take (xs.length * 1))[j]? = some (Value.int .i64 x) := by rw [ht, List.getElem?_map, hj]; rfl
      rw [List.getElem?_take, if_pos (by omega)] at this
      exact this
theorem wp_pushQ {P : Program} {wr : World} {ops : Array Oper} {rest : List Oper} {o : Oper} {a : Act} {Q : Exit → Act → World → Prop} (hgd : o.guard = none) (s x : Operand) (t : TypeId)
    (ho : o.op = .call { callee := .builtin .append, args := #[s, x], argTypes := #[t, t] })
    {B e g off cap : Nat} (ht : P.underlying t = some (.slice e)) (hinf : (P.info? e).map (fun i => (i.zero, i.size, i.bytes)) = some (some (.int .i64 0), 1, 8))
    {v : Value} {xs : List Int} {u : Int} (hown : QI wr B g off cap v xs) (hs : a.eval s = v) (hx : a.eval x = .slice (some ⟨wr.heap.size, 0, none⟩) 1 1)
    (hn : xs.length ≤ 1099511627776) (hB : B ≤ wr.heap.size)
    (h : ∀ v' w' g' off' cap', QI w' B g' off' cap' v' (xs ++ [u]) → (∀ B', B' ≤ B → Below B' wr w') → wr.heap.size ≤ w'.heap.size → (∀ b, b < wr.heap.size → b ≠ g → w'.heap[b]? = wr.heap[b]? ∧ b ≠ g') → wpList P ops Q rest (a.put o.dst v') w') :
    wpList P ops Q (o :: rest) a (wr.alloc (.cells #[.int .i64 u] e)) := by
  obtain ⟨i, hi, hiz, his, hib⟩ := info_parts hinf
  obtain ⟨rfl, q2, q3, q4, q5, q6⟩ := hown
  have hcg : ∀ k, (wr.alloc (.cells #[.int .i64 u] e)).cell? ⟨g, k, none⟩ = wr.cell? ⟨g, k, none⟩ := fun k => World.cell?_of_block (w := wr) (a := ⟨g, k, none⟩) (heap_alloc_old wr _ q3)
  have hfg : ∀ k, (wr.alloc (.cells #[.int .i64 u] e)).frozen? ⟨g, k, none⟩ = wr.frozen? ⟨g, k, none⟩ := fun k => World.frozen?_of_block (w := wr) (a := ⟨g, k, none⟩) (heap_alloc_old wr _ q3)
  have hb0 : ∀ B', B' ≤ B → Below B' wr (wr.alloc (.cells #[.int .i64 u] e)) := fun B' hB' => (Below.refl _ _).alloc (by omega) _
  refine wpList_append_arg _ hgd s x t ho e i (.int .i64 0) 1 8 ht hi hiz his hib rfl (by omega) g off xs.length cap (xs.map (Value.int .i64)) hs (by simp) ?_ ⟨wr.heap.size, 0, none⟩ 1 1 [.int .i64 u] hx rfl ?_ ?_ ?_ (by simp only [maxLen]; omega) (by omega) ?_ ?_
  · intro j y hj
    rw [hcg]
    rw [List.getElem?_map] at hj
    obtain ⟨z, hz, rfl⟩ := Option.map_eq_some_iff.1 hj
    exact q6 j z hz
  · intro j y hj
    cases j with
    | zero =>
      simp only [List.getElem?_cons_zero, Option.some.injEq] at hj
      subst hj
      have : (⟨wr.heap.size, 0, none⟩ : Addr).add 0 = ⟨wr.heap.size, 0, none⟩ := rfl
      rw [this, cell_new]; rfl
    | succ j => simp at hj
  · intro y hy
    rw [List.mem_singleton.1 hy]; rfl
  · intro hr j hj
    simp only [List.length_singleton] at hj
    rw [hcg, hfg, Nat.mul_one, Nat.add_assoc]
    exact q5 _ (by omega)
  · intro hr
    have hset : (wr.alloc (.cells #[.int .i64 u] e)).setCells g (off + xs.length * 1) [.int .i64 u] = (wr.alloc (.cells #[.int .i64 u] e)).setCell ⟨g, off + xs.length, none⟩ (.int .i64 u) := by
      simp only [World.setCells, Nat.mul_one]
    rw [hset]
    have honly := only_setCell (wr.alloc (.cells #[.int .i64 u] e)) g (off + xs.length) (.int .i64 u)
    have hsz := honly.size
    rw [alloc_size] at hsz
    refine h _ _ g off cap ⟨by rw [List.length_append]; rfl, q2, by omega, by simpa using hr, fun j hj => ?_, fun j y hj => ?_⟩ (fun B' hB' => ?_) (by omega) (fun b hb hne => ⟨?_, hne⟩)
    · have h5 := q5 j hj
      rw [World.frozen?_setCell, hfg]
      refine ⟨?_, h5.2⟩
      by_cases ej : j = xs.length
      · subst ej
        obtain ⟨y, hy⟩ := Option.isSome_iff_exists.1 h5.1
        rw [cell_setCell_same (v := y) (by rw [hcg]; exact hy)]; rfl
      · rw [World.cell?_setCell_other _ _ _ _ (by intro x; injection x with _ x; omega), hcg]
        exact h5.1
    · by_cases ej : j = xs.length
      · subst ej
        rw [List.getElem?_append_right (by omega)] at hj
        simp at hj
        subst hj
        obtain ⟨y, hy⟩ := Option.isSome_iff_exists.1 (q5 xs.length (by omega)).1
        exact cell_setCell_same (v := y) (by rw [hcg]; exact hy)
      · have hjl := (List.getElem?_eq_some_iff.1 hj).1
        rw [List.length_append, List.length_singleton] at hjl
        rw [List.getElem?_append_left (by omega)] at hj
        rw [World.cell?_setCell_other _ _ _ _ (by intro x; injection x with _ x; omega), hcg]
        exact q6 j y hj
    · exact (hb0 B' hB').trans (Below.of_grown honly (by omega) (by rw [alloc_size]; omega))
    · rw [honly.block b (by rw [alloc_size]; omega) (by intro e; injection e with e; exact hne e)]
      exact heap_alloc_old wr _ hb
  · intro hr v' w' hown' hgr
    have hgs := hgr.size
    have hown2 : w'.ownsRow (wr.heap.size + 1) e 1 v' (xs.length + 1) ((xs ++ [u]).map (Value.int .i64)) := by
      have := hown'
      rw [alloc_size] at this
      simpa using this
    rw [alloc_size] at hgs
    obtain ⟨g', cap', hq, hob⟩ := QI.own_ (xs := xs ++ [u]) (by simp) (by omega) hown2
    have hq2 := hq.2.1
    refine h v' w' g' 0 cap' ⟨hq.1, by omega, hq.2.2⟩ (fun B' hB' => ?_) (by omega) (fun b hb hne => ⟨?_, by omega⟩)
    · exact (hb0 B' hB').trans ⟨hgr.os, hgr.tape, hgr.output, hgr.size, fun k hk => hgr.block k (by rw [alloc_size]; omega) (by simp)⟩
    · rw [hgr.block b (by rw [alloc_size]; omega) (by simp)]
      exact heap_alloc_old wr _ hb
end Go.Proofs.YtfkdameegljkeaaDoor

/- Plain facts on what can be reached. -/
namespace Go.Proofs.YtfkdameegljkeaaDoor
open Go.RowKit

/-- t is reached from s by some steps along nx -/
inductive Rch (nx : Nat → List Nat) (s : Nat) : Nat → Prop
  | refl : Rch nx s s
  | step {t u : Nat} : Rch nx s t → u ∈ nx t → Rch nx s u
theorem Rch.trans {nx : Nat → List Nat} {a b c : Nat} (h : Rch nx a b) (k : Rch nx b c) : Rch nx a c := by
  induction k with
  | refl => exact h
  | step _ hu ih => exact ih.step hu
/-- a search under way from s: met are the states met, todo those of them whose next states are not looked at yet -/
structure SrchI (nx : Nat → List Nat) (N s : Nat) (met todo : List Nat) : Prop where
  start : s ∈ met
  nd : met.Nodup
  lt : ∀ x ∈ met, x < N
  sub : ∀ x ∈ met, Rch nx s x
  sd : ∀ x ∈ todo, x ∈ met
  done : ∀ x ∈ met, x ∉ todo → ∀ u ∈ nx x, u ∈ met
theorem SrchI.first (nx : Nat → List Nat) {N s : Nat} (h : s < N) : SrchI nx N s [s] [s] :=
  ⟨by simp, by simp, by simpa using h, by intro x hx; simp at hx; subst hx; exact .refl, by simp, by intro x hx hn; exact absurd hx hn⟩
theorem SrchI.fin {nx : Nat → List Nat} {N s : Nat} {met : List Nat} (h : SrchI nx N s met []) (x : Nat) : x ∈ met ↔ Rch nx s x := by
  constructor
  · exact h.sub x
  · intro hr
    induction hr with
    | refl => exact h.start
    | step _ hu ih => exact h.done _ ih (by simp) _ hu
/-- .. while the first j next states of t, which is no more to do, have been looked at -/
structure SrchJ (nx : Nat → List Nat) (N s t j : Nat) (met todo : List Nat) : Prop where
  start : s ∈ met
  nd : met.Nodup
  lt : ∀ x ∈ met, x < N
  sub : ∀ x ∈ met, Rch nx s x
  sd : ∀ x ∈ todo, x ∈ met
  tm : t ∈ met
  done : ∀ x ∈ met, x ∉ todo → x ≠ t → ∀ u ∈ nx x, u ∈ met
  part : ∀ u ∈ (nx t).take j, u ∈ met
theorem SrchI.open_ {nx : Nat → List Nat} {N s t : Nat} {met todo todo' : List Nat} (h : SrchI nx N s met todo) (ht : t ∈ todo) (hs : ∀ x ∈ todo', x ∈ todo) (hr : ∀ x ∈ todo, x = t ∨ x ∈ todo') : SrchJ nx N s t 0 met todo' :=
  ⟨h.start, h.nd, h.lt, h.sub, fun x hx => h.sd x (hs x hx), h.sd t ht, fun x hx hn hne => h.done x hx (fun hm => (hr x hm).elim hne hn), by simp⟩
theorem SrchJ.skip {nx : Nat → List Nat} {N s t j u : Nat} {met todo : List Nat} (h : SrchJ nx N s t j met todo) (hu : (nx t)[j]? = some u) (hm : u ∈ met) : SrchJ nx N s t (j + 1) met todo :=
  ⟨h.start, h.nd, h.lt, h.sub, h.sd, h.tm, h.done, by
    intro x hx
    rw [List.take_add_one, hu] at hx
    rcases List.mem_append.1 hx with hx | hx
    · exact h.part x hx
    · simp at hx; subst hx; exact hm⟩
theorem SrchJ.push {nx : Nat → List Nat} {N s t j u : Nat} {met todo : List Nat} (h : SrchJ nx N s t j met todo) (hu : (nx t)[j]? = some u) (hN : u < N) (hm : u ∉ met) : SrchJ nx N s t (j + 1) (met ++ [u]) (todo ++ [u]) := by
  have hmem : ∀ x, x ∈ met → x ∈ met ++ [u] := fun x hx => by simp [hx]
  refine ⟨hmem _ h.start, ?_, ?_, ?_, ?_, hmem _ h.tm, ?_, ?_⟩
  · rw [List.nodup_append]
    exact ⟨h.nd, by simp, by intro a ha b hb; simp at hb; subst hb; intro e; subst e; exact hm ha⟩
  · intro x hx
    rcases List.mem_append.1 hx with hx | hx
    · exact h.lt x hx
    · simp at hx; subst hx; exact hN
  · intro x hx
    rcases List.mem_append.1 hx with hx | hx
    · exact h.sub x hx
    · simp at hx; subst hx; exact (h.sub t h.tm).step (List.mem_of_getElem? hu)
  · intro x hx
    rcases List.mem_append.1 hx with hx | hx
    · exact hmem _ (h.sd x hx)
    · simp at hx; subst hx; simp
  · intro x hx hn hne v hv
    rcases List.mem_append.1 hx with hx | hx
    · exact hmem _ (h.done x hx (fun hm => hn (by simp [hm])) hne v hv)
    · simp at hx; subst hx; exact absurd (by simp) hn
  · intro x hx
    rw [List.take_add_one, hu] at hx
    rcases List.mem_append.1 hx with hx | hx
    · exact hmem _ (h.part x hx)
    · simp at hx; subst hx; simp
theorem SrchJ.close {nx : Nat → List Nat} {N s t j : Nat} {met todo : List Nat} (h : SrchJ nx N s t j met todo) (hj : (nx t).length ≤ j) : SrchI nx N s met todo :=
  ⟨h.start, h.nd, h.lt, h.sub, h.sd, fun x hx hn u hu => by
    by_cases e : x = t
    · subst e
      exact h.part u (by rw [List.take_of_length_le hj]; exact hu)
    · exact h.done x hx hn e u hu⟩
theorem SrchI.len {nx : Nat → List Nat} {N s : Nat} {met todo : List Nat} (h : SrchI nx N s met todo) : met.length ≤ N := nodup_le h.nd h.lt
theorem SrchJ.len {nx : Nat → List Nat} {N s t j : Nat} {met todo : List Nat} (h : SrchJ nx N s t j met todo) : met.length ≤ N := nodup_le h.nd h.lt
/-! within k steps -/
/-- some k steps or fewer lead from u to t -/
def wi (nx : Nat → List Nat) (t : Nat) : Nat → Nat → Bool
  | 0, u => u == t
  | k + 1, u => wi nx t k u || (nx u).any (wi nx t k)
theorem wi_up {nx : Nat → List Nat} {t k u : Nat} (h : wi nx t k u = true) : wi nx t (k + 1) u = true := by rw [wi, h, Bool.true_or]
theorem wi_le {nx : Nat → List Nat} {t k u : Nat} (h : wi nx t k u = true) : ∀ j, wi nx t (k + j) u = true
  | 0 => h
  | j + 1 => wi_up (wi_le h j)
theorem wi_rch {nx : Nat → List Nat} {t : Nat} : ∀ {k u : Nat}, wi nx t k u = true → Rch nx u t
  | 0, u, h => by
    rw [wi, beq_iff_eq] at h
    subst h; exact .refl
  | k + 1, u, h => by
    rw [wi, Bool.or_eq_true] at h
    rcases h with h | h
    · exact wi_rch h
    · obtain ⟨v, hv, h2⟩ := List.any_eq_true.1 h
      exact Rch.trans (Rch.step .refl hv) (wi_rch h2)
theorem wi_more {nx : Nat → List Nat} {t u : Nat} (hu : u ∈ nx t) : ∀ {k s : Nat}, wi nx t k s = true → wi nx u (k + 1) s = true
  | 0, s, h => by
    rw [wi, beq_iff_eq] at h
    subst h
    rw [wi, Bool.or_eq_true]
    exact .inr (List.any_eq_true.2 ⟨u, hu, by rw [wi]; exact beq_self_eq_true _⟩)
  | k + 1, s, h => by
    rw [wi, Bool.or_eq_true] at h
    rw [wi, Bool.or_eq_true]
    rcases h with h | h
    · exact .inl (wi_more hu h)
    · obtain ⟨v, hv, h2⟩ := List.any_eq_true.1 h
      exact .inr (List.any_eq_true.2 ⟨v, hv, wi_more hu h2⟩)
theorem wi_of_rch {nx : Nat → List Nat} {s t : Nat} (h : Rch nx s t) : ∃ k, wi nx t k s = true := by
  induction h with
  | refl => exact ⟨0, by rw [wi]; exact beq_self_eq_true _⟩
  | step _ hu ih => obtain ⟨k, hk⟩ := ih; exact ⟨k + 1, wi_more hu hk⟩
theorem wi_stab {nx : Nat → List Nat} {N t k : Nat} (hN : ∀ x, x < N → ∀ u ∈ nx x, u < N) (hs : ∀ u, u < N → wi nx t (k + 1) u = true → wi nx t k u = true) : ∀ j u, u < N → wi nx t (k + j) u = true → wi nx t k u = true
  | 0, u, _, h => h
  | j + 1, u, hu, h => by
    rw [← Nat.add_assoc, wi, Bool.or_eq_true] at h
    rcases h with h | h
    · exact wi_stab hN hs j u hu h
    · obtain ⟨v, hv, h2⟩ := List.any_eq_true.1 h
      refine hs u hu ?_
      rw [wi, Bool.or_eq_true]
      exact .inr (List.any_eq_true.2 ⟨v, hv, wi_stab hN hs j v (hN u hu v hv) h2⟩)
theorem len_grow {p q : Nat → Bool} (hpq : ∀ x, p x = true → q x = true) {e : Nat} (he : p e = false) (hq : q e = true) : ∀ {l : List Nat}, e ∈ l → (l.filter p).length < (l.filter q).length := by
  have hle : ∀ l : List Nat, (l.filter p).length ≤ (l.filter q).length := by
    intro l
    induction l with
    | nil => simp
    | cons a l ih =>
      by_cases ha : p a = true
      · rw [List.filter_cons_of_pos ha, List.filter_cons_of_pos (hpq a ha)]; simpa using ih
      · rw [List.filter_cons_of_neg ha]
        by_cases hb : q a = true
        · rw [List.filter_cons_of_pos hb]; simp; omega
        · rw [List.filter_cons_of_neg hb]; exact ih
  intro l
  induction l with
  | nil => intro h; simp at h
  | cons a l ih =>
    intro h
    rcases List.mem_cons.1 h with rfl | h
    · rw [List.filter_cons_of_neg (by simp [he]), List.filter_cons_of_pos hq]
      have := hle l
      simp; omega
    · have := ih h
      by_cases ha : p a = true
      · rw [List.filter_cons_of_pos ha, List.filter_cons_of_pos (hpq a ha)]; simpa using this
      · rw [List.filter_cons_of_neg ha]
        by_cases hb : q a = true
        · rw [List.filter_cons_of_pos hb]; simp; omega
        · rw [List.filter_cons_of_neg hb]; exact this
theorem wi_all {nx : Nat → List Nat} {N t : Nat} (hN : ∀ x, x < N → ∀ u ∈ nx x, u < N) {k u : Nat} (hu : u < N) (h : wi nx t k u = true) : wi nx t N u = true := by
  have key : ∀ k, (∃ j, j < k ∧ ∀ u, u < N → wi nx t (j + 1) u = true → wi nx t j u = true) ∨ k ≤ ((List.range N).filter (wi nx t k)).length := by
    intro k
    induction k with
    | zero => exact .inr (Nat.zero_le _)
    | succ k ih =>
      rcases ih with ⟨j, hj, h⟩ | ih
      · exact .inl ⟨j, by omega, h⟩
      · by_cases hs : ∀ u, u < N → wi nx t (k + 1) u = true → wi nx t k u = true
        · exact .inl ⟨k, by omega, hs⟩
        · right
          have ⟨u, h1⟩ := Classical.not_forall.1 hs
          have ⟨h2, h3⟩ := Classical.not_imp.1 h1
          have ⟨h4, h5⟩ := Classical.not_imp.1 h3
          have := len_grow (p := wi nx t k) (q := wi nx t (k + 1)) (fun x hx => wi_up hx) (by simpa using h5) h4 (List.mem_range.2 h2)
          omega
  rcases key (N + 1) with ⟨j, hj, hs⟩ | h2
  · have h3 : wi nx t j u = true := by
      by_cases hjk : j ≤ k
      · exact wi_stab hN hs (k - j) u hu (by rwa [show j + (k - j) = k by omega])
      · have := wi_le h (j - k)
        rwa [show k + (j - k) = j by omega] at this
    have := wi_le h3 (N - j)
    rwa [show j + (N - j) = N by omega] at this
  · have h3 := List.length_filter_le (wi nx t (N + 1)) (List.range N)
    rw [List.length_range] at h3
    omega
/-- can t be reached from s? -/
def rb (nx : Nat → List Nat) (s t : Nat) : Bool := wi nx t 32 s
theorem rb_iff {nx : Nat → List Nat} {N s t : Nat} (hN : ∀ x, x < N → ∀ u ∈ nx x, u < N) (h32 : N ≤ 32) (hs : s < N) : rb nx s t = true ↔ Rch nx s t := by
  constructor
  · exact wi_rch
  · intro h
    obtain ⟨k, hk⟩ := wi_of_rch h
    have := wi_le (wi_all hN hs hk) (32 - N)
    rwa [show N + (32 - N) = 32 by omega] at this
theorem Rch.lt {nx : Nat → List Nat} {N s t : Nat} (hN : ∀ x, x < N → ∀ u ∈ nx x, u < N) (hs : s < N) (h : Rch nx s t) : t < N := by
  induction h with
  | refl => exact hs
  | step _ hu ih => exact hN _ ih _ hu
/-- the relation of one network -/
theorem next_lt {ps : List (List UInt8)} {N : Nat} (h : okN ps = true) (hN : N = 2 ^ ps.length) : ∀ x, x < N → ∀ u ∈ nextN ps x, u < N := by
  subst hN
  intro x hx u hu
  exact nextTo_lt h hx _ (Nat.le_refl _) u hu
def rbN (ps : List (List UInt8)) (s t : Nat) : Bool := rb (nextN ps) s t
theorem rbN_iff {ps : List (List UInt8)} {N s t : Nat} (h : okN ps = true) (hN : N = 2 ^ ps.length) (hs : s < N) : rbN ps s t = true ↔ Rch (nextN ps) s t :=
  rb_iff (next_lt h hN) (by rw [hN]; exact two_le _ (okN_le h)) hs
/-- what the finished search has met -/
theorem SrchI.mem {ps : List (List UInt8)} {N s : Nat} {met : List Nat} (hok : okN ps = true) (hN : N = 2 ^ ps.length) (hs : s < N) (h : SrchI (nextN ps) N s met []) (x : Nat) : decide (x ∈ met) = rbN ps s x := by
  rw [Bool.eq_iff_iff, decide_eq_true_iff, h.fin, rbN_iff hok hN hs]
/-- the states that are reached -/
def reaN (ps : List (List UInt8)) (t : Int) : List Int := if okSt ps t then ints (sel (2 ^ ps.length) (rbN ps t.toNat)) else []
theorem reaN_yes {ps : List (List UInt8)} {t N : Nat} (h : okSt ps t = true) (hN : N = 2 ^ ps.length) : reaN ps t = ints (sel N (rbN ps t)) := by rw [reaN, if_pos h, hN]; rfl
theorem reaN_no {ps : List (List UInt8)} {t : Int} (h : okSt ps t = false) : reaN ps t = [] := by rw [reaN, h]; rfl
theorem reaN_len (ps : List (List UInt8)) (t : Int) : (reaN ps t).length ≤ 1048576 := by
  by_cases h : okSt ps t = true
  · obtain ⟨hok, s, rfl, _⟩ := okSt_true h
    rw [reaN_yes h rfl, ints_length]
    have := sel_len (2 ^ ps.length) (rbN ps s)
    have h32 := two_le _ (okN_le hok)
    omega
  · rw [reaN_no (by simpa using h)]; simp
/-- can a state be reached from another one? -/
def canN (ps : List (List UInt8)) (t u : Int) : Bool := okSt ps t && inW ps.length u && rbN ps t.toNat u.toNat
theorem canN_yes {ps : List (List UInt8)} {t u N : Nat} (h : okSt ps t = true) (hN : N = 2 ^ ps.length) (hu : u < N) : canN ps t u = rbN ps t u := by
  rw [canN, h, (inW_yes hN).2 ⟨by omega, by omega⟩]; rfl
theorem canN_no {ps : List (List UInt8)} {t u : Int} (h : okSt ps t = false) : canN ps t u = false := by rw [canN, h]; rfl
theorem canN_out {ps : List (List UInt8)} {t u : Int} {N : Nat} (hN : N = 2 ^ ps.length) (hu : ¬ (0 ≤ u ∧ u < N)) : canN ps t u = false := by
  have : inW ps.length u = false := by
    cases h : inW ps.length u
    · rfl
    · have := (inW_yes hN).1 h
      exact absurd ⟨this.1, by omega⟩ hu
  rw [canN, this, Bool.and_false, Bool.false_and]
end Go.Proofs.YtfkdameegljkeaaDoor

/- Plain facts on steady states and attractors. -/
namespace Go.Proofs.YtfkdameegljkeaaDoor
open Go.RowKit
set_option linter.unusedVariables false

/-- a relation of reaching on the states below N -/
structure RB (rb : Nat → Nat → Bool) (N : Nat) : Prop where
  refl : ∀ s, s < N → rb s s = true
  lt : ∀ s t, s < N → rb s t = true → t < N
  trans : ∀ s t u, s < N → rb s t = true → rb t u = true → rb s u = true
theorem rbN_rb {ps : List (List UInt8)} {N : Nat} (h : okN ps = true) (hN : N = 2 ^ ps.length) : RB (rbN ps) N := by
  have hlt : ∀ s t, s < N → rbN ps s t = true → t < N := fun s t hs h2 => ((rbN_iff h hN hs).1 h2).lt (next_lt h hN) hs
  exact ⟨fun s hs => (rbN_iff h hN hs).2 .refl, hlt,
    fun s t u hs h1 h2 => (rbN_iff h hN hs).2 (((rbN_iff h hN hs).1 h1).trans ((rbN_iff h hN (hlt s t hs h1)).1 h2))⟩
def std (rb : Nat → Nat → Bool) (N s : Nat) : Bool := (List.range N).all fun t => !rb s t || rb t s
def low (rb : Nat → Nat → Bool) (s : Nat) : Bool := (List.range s).all fun t => !rb s t
/-- s is the least state of an attractor -/
def att (rb : Nat → Nat → Bool) (N s : Nat) : Bool := std rb N s && low rb s
def atts (rb : Nat → Nat → Bool) (N k : Nat) : List Nat := sel k (att rb N)
def doneB (rb : Nat → Nat → Bool) (N k t : Nat) : Bool := (atts rb N k).any fun a => rb a t
def outs (rb : Nat → Nat → Bool) (N s : Nat) : List Nat := (atts rb N N).filter (rb s)
/-- the least state that is reached -/
def lea (rb : Nat → Nat → Bool) (N s : Nat) : Nat := (sel N (rb s)).headD 0
theorem std_iff {rb : Nat → Nat → Bool} {N s : Nat} : std rb N s = true ↔ ∀ t, t < N → rb s t = true → rb t s = true := by
  rw [std, List.all_eq_true]
  constructor
  · intro h t ht h1
    have := h t (List.mem_range.2 ht)
    simpa [h1] using this
  · intro h t ht
    cases h1 : rb s t
    · rfl
    · simpa using h t (List.mem_range.1 ht) h1
theorem low_iff {rb : Nat → Nat → Bool} {s : Nat} : low rb s = true ↔ ∀ t, t < s → rb s t = false := by
  rw [low, List.all_eq_true]
  simp only [List.mem_range, Bool.not_eq_true']
theorem mem_sel {N : Nat} {p : Nat → Bool} {s : Nat} : s ∈ sel N p ↔ s < N ∧ p s = true := by simp [sel]
theorem mem_atts {rb : Nat → Nat → Bool} {N k a : Nat} : a ∈ atts rb N k ↔ a < k ∧ att rb N a = true := mem_sel
theorem att_iff {rb : Nat → Nat → Bool} {N s : Nat} : att rb N s = true ↔ std rb N s = true ∧ low rb s = true := by rw [att, Bool.and_eq_true]
section
variable {rb : Nat → Nat → Bool} {N : Nat} (h : RB rb N)
include h
theorem std_back {s t : Nat} (hs : s < N) (h1 : std rb N s = true) (h2 : rb s t = true) : rb t s = true := std_iff.1 h1 t (h.lt s t hs h2) h2
theorem std_to {s t : Nat} (hs : s < N) (h1 : std rb N s = true) (h2 : rb s t = true) : std rb N t = true := by
  have ht := h.lt s t hs h2
  refine std_iff.2 fun u hu h3 => ?_
  have h4 : rb s u = true := h.trans s t u hs h2 h3
  exact h.trans u s t hu (std_iff.1 h1 u hu h4) h2
theorem sel_low {s : Nat} (hs : s < N) (h1 : low rb s = true) : ∃ l, sel N (rb s) = s :: l := by
  have e : List.range N = List.range s ++ (List.range (N - s)).map (s + ·) := by
    rw [← List.range_add]; congr 1; omega
  have h2 : (List.range s).filter (rb s) = [] := List.filter_eq_nil_iff.2 fun t ht => by rw [low_iff.1 h1 t (List.mem_range.1 ht)]; simp
  have h3 : List.range (N - s) = 0 :: (List.range (N - s - 1)).map (· + 1) := by
    rw [show N - s = (N - s - 1) + 1 by omega, List.range_succ_eq_map]; rfl
  suffices h4 : sel N (rb s) = s :: ((((List.range (N - s - 1)).map (· + 1)).map (s + ·)).filter (rb s)) from ⟨_, h4⟩
  unfold sel
  rw [e, List.filter_append, h2, List.nil_append, h3, List.map_cons, Nat.add_zero, List.filter_cons_of_pos (h.refl s hs)]
/-- the least state reached from s -/
theorem lea_all {s : Nat} (hs : s < N) : rb s (lea rb N s) = true ∧ lea rb N s < N ∧ ∀ t, t < lea rb N s → rb s t = false := by
  have hm : s ∈ sel N (rb s) := mem_sel.2 ⟨hs, h.refl s hs⟩
  have hp : (sel N (rb s)).Pairwise (· < ·) := List.Pairwise.filter _ List.pairwise_lt_range
  unfold lea
  cases hl : sel N (rb s) with
  | nil => rw [hl] at hm; simp at hm
  | cons a l =>
    have ha : a ∈ sel N (rb s) := by rw [hl]; simp
    have ha2 := mem_sel.1 ha
    refine ⟨ha2.2, ha2.1, fun t ht => ?_⟩
    have ht' : t < a := ht
    cases hr : rb s t
    · rfl
    · have hmt : t ∈ sel N (rb s) := mem_sel.2 ⟨by omega, hr⟩
      rw [hl] at hp hmt
      rcases List.mem_cons.1 hmt with e | hmt
      · omega
      · have := (List.pairwise_cons.1 hp).1 t hmt
        omega
theorem lea_att {s : Nat} (hs : s < N) (h1 : std rb N s = true) : att rb N (lea rb N s) = true ∧ rb (lea rb N s) s = true := by
  obtain ⟨h2, h3, h4⟩ := lea_all h hs
  refine ⟨att_iff.2 ⟨std_to h hs h1 h2, low_iff.2 fun t ht => ?_⟩, std_back h hs h1 h2⟩
  cases hr : rb (lea rb N s) t
  · rfl
  · have := h.trans s _ t hs h2 hr
    rw [h4 t ht] at this
    cases this
/-- an attractor that has a steady state is the one of its least state -/
theorem att_lea {a s : Nat} (ha : a < N) (hs : s < N) (h1 : att rb N a = true) (h2 : std rb N s = true) : rb a s = true ↔ a = lea rb N s := by
  obtain ⟨h3, h4, h5⟩ := lea_all h hs
  constructor
  · intro hr
    have h6 := std_back h ha (att_iff.1 h1).1 hr
    have h7 : ¬ a < lea rb N s := fun hlt => by rw [h5 a hlt] at h6; cases h6
    have h8 : rb a (lea rb N s) = true := h.trans a s _ ha hr h3
    have h9 : ¬ lea rb N s < a := fun hlt => by rw [low_iff.1 (att_iff.1 h1).2 _ hlt] at h8; cases h8
    omega
  · intro e
    rw [e]
    exact (lea_att h hs h2).2
theorem skip_iff {s : Nat} (hs : s < N) : (doneB rb N s s || !std rb N s) = !att rb N s := by
  cases h1 : std rb N s
  · rw [att, h1]; simp
  · cases h2 : low rb s
    · rw [att, h1, h2]
      simp only [Bool.not_true, Bool.or_false, Bool.and_false, Bool.not_false]
      have hn : ¬ ∀ t, t < s → rb s t = false := fun hh => by rw [low_iff.2 hh] at h2; cases h2
      obtain ⟨t, ht⟩ := Classical.not_forall.1 hn
      obtain ⟨ht1, ht2⟩ := Classical.not_imp.1 ht
      have ht3 : rb s t = true := by simpa using ht2
      obtain ⟨h3, h4, h5⟩ := lea_all h hs
      obtain ⟨h6, h7⟩ := lea_att h hs h1
      have h8 : lea rb N s ≤ t := by
        apply Nat.le_of_not_lt
        intro hlt
        rw [h5 t hlt] at ht3; cases ht3
      exact List.any_eq_true.2 ⟨_, mem_atts.2 ⟨by omega, h6⟩, h7⟩
    · rw [att, h1, h2]
      simp only [Bool.not_true, Bool.or_false, Bool.and_self]
      cases hd : doneB rb N s s
      · rfl
      · obtain ⟨a, ha, hr⟩ := List.any_eq_true.1 hd
        obtain ⟨ha1, ha2⟩ := mem_atts.1 ha
        have h6 := std_back h (by omega) (att_iff.1 ha2).1 hr
        rw [low_iff.1 h2 a ha1] at h6; cases h6
theorem may_iff {s k : Nat} (hs : s < N) (hk : k < N) (h1 : std rb N s = true) : (outs rb N k).contains (lea rb N s) = rb k s := by
  obtain ⟨h3, h4, h5⟩ := lea_all h hs
  obtain ⟨h6, h7⟩ := lea_att h hs h1
  rw [Bool.eq_iff_iff, List.contains_iff_mem, outs, List.mem_filter, mem_atts]
  constructor
  · rintro ⟨_, h8⟩
    exact h.trans k _ s hk h8 h7
  · intro h8
    exact ⟨⟨h4, h6⟩, h.trans k s _ hk h8 h3⟩
theorem must_iff {s k : Nat} (hs : s < N) (_ : k < N) (h1 : std rb N s = true) :
    ((outs rb N k).contains (lea rb N s) && (outs rb N k).length == 1) = (atts rb N N).all fun a => rb k a == rb a s := by
  obtain ⟨h3, h4, h5⟩ := lea_all h hs
  obtain ⟨h6, h7⟩ := lea_att h hs h1
  have hnd : (outs rb N k).Nodup := (List.nodup_range.filter _).filter _
  rw [Bool.eq_iff_iff, Bool.and_eq_true, List.contains_iff_mem, beq_iff_eq, List.all_eq_true]
  constructor
  · rintro ⟨h8, h9⟩ a ha
    obtain ⟨b, hb⟩ := List.length_eq_one_iff.1 h9
    have ha2 := mem_atts.1 ha
    have e := att_lea h ha2.1 hs ha2.2 h1
    rw [hb] at h8
    rw [List.mem_singleton] at h8
    rw [beq_iff_eq, Bool.eq_iff_iff, e]
    constructor
    · intro hr
      have : a ∈ outs rb N k := List.mem_filter.2 ⟨ha, hr⟩
      rw [hb, List.mem_singleton] at this
      rw [this, h8]
    · intro ea
      have : lea rb N s ∈ outs rb N k := by rw [hb, h8]; simp
      rw [ea]
      exact (List.mem_filter.1 this).2
  · intro h8
    have hl : lea rb N s ∈ atts rb N N := mem_atts.2 ⟨h4, h6⟩
    have hm : lea rb N s ∈ outs rb N k := List.mem_filter.2 ⟨hl, by
      have := h8 _ hl
      rw [beq_iff_eq] at this
      rw [this]; exact h7⟩
    refine ⟨hm, ?_⟩
    have hall : ∀ a ∈ outs rb N k, a = lea rb N s := fun a ha => by
      have ha2 := List.mem_filter.1 ha
      have ha3 := mem_atts.1 ha2.1
      have := h8 a ha2.1
      rw [beq_iff_eq, ha2.2] at this
      exact (att_lea h ha3.1 hs ha3.2 h1).1 this.symm
    cases hl2 : outs rb N k with
    | nil => rw [hl2] at hm; simp at hm
    | cons a l =>
      cases l with
      | nil => rfl
      | cons b l =>
        have ha := hall a (by rw [hl2]; simp)
        have hb := hall b (by rw [hl2]; simp)
        rw [hl2] at hnd
        have := (List.nodup_cons.1 hnd).1
        rw [ha, hb] at this
        simp at this
end
theorem doneB_next {rb : Nat → Nat → Bool} {N k t : Nat} : doneB rb N (k + 1) t = (doneB rb N k t || (att rb N k && rb k t)) := by
  unfold doneB atts
  cases ha : att rb N k
  · rw [sel_no ha]; simp
  · rw [sel_yes ha, List.any_append]; simp
theorem atts_le (rb : Nat → Nat → Bool) (N k : Nat) : (atts rb N k).length ≤ k := sel_len _ _
theorem outs_le (rb : Nat → Nat → Bool) (N s : Nat) : (outs rb N s).length ≤ N := Nat.le_trans (List.length_filter_le _ _) (sel_len _ _)
/-- does a state belong to an attractor? -/
def stdN (ps : List (List UInt8)) (t : Int) : Bool := okSt ps t && std (rbN ps) (2 ^ ps.length) t.toNat
theorem stdN_yes {ps : List (List UInt8)} {t N : Nat} (h : okSt ps t = true) (hN : N = 2 ^ ps.length) : stdN ps t = std (rbN ps) N t := by rw [stdN, h, hN]; rfl
theorem stdN_no {ps : List (List UInt8)} {t : Int} (h : okSt ps t = false) : stdN ps t = false := by rw [stdN, h]; rfl
/-- the least states of the attractors that can be reached -/
def outN (ps : List (List UInt8)) (t : Int) : List Int := if okSt ps t then ints (outs (rbN ps) (2 ^ ps.length) t.toNat) else []
theorem outN_yes {ps : List (List UInt8)} {t N : Nat} (h : okSt ps t = true) (hN : N = 2 ^ ps.length) : outN ps t = ints (outs (rbN ps) N t) := by rw [outN, if_pos h, hN]; rfl
theorem outN_no {ps : List (List UInt8)} {t : Int} (h : okSt ps t = false) : outN ps t = [] := by rw [outN, h]; rfl
theorem outN_len (ps : List (List UInt8)) (t : Int) : (outN ps t).length ≤ 1048576 := by
  by_cases h : okSt ps t = true
  · obtain ⟨hok, s, rfl, _⟩ := okSt_true h
    rw [outN_yes h rfl, ints_length]
    have := outs_le (rbN ps) (2 ^ ps.length) s
    have h32 := two_le _ (okN_le hok)
    omega
  · rw [outN_no (by simpa using h)]; simp
/-- the states that may lead to the attractor of a steady state -/
def mayN (ps : List (List UInt8)) (t : Int) : List Int := if stdN ps t then ints (sel (2 ^ ps.length) fun k => rbN ps k t.toNat) else []
theorem mayN_yes {ps : List (List UInt8)} {t N : Nat} (h : stdN ps t = true) (hN : N = 2 ^ ps.length) : mayN ps t = ints (sel N fun k => rbN ps k t) := by rw [mayN, if_pos h, hN]; rfl
theorem mayN_no {ps : List (List UInt8)} {t : Int} (h : stdN ps t = false) : mayN ps t = [] := by rw [mayN, h]; rfl
/-- .. and to it alone -/
def mstN (ps : List (List UInt8)) (t : Int) : List Int := if stdN ps t then ints (sel (2 ^ ps.length) fun k => (atts (rbN ps) (2 ^ ps.length) (2 ^ ps.length)).all fun a => rbN ps k a == rbN ps a t.toNat) else []
theorem mstN_yes {ps : List (List UInt8)} {t N : Nat} (h : stdN ps t = true) (hN : N = 2 ^ ps.length) : mstN ps t = ints (sel N fun k => (atts (rbN ps) N N).all fun a => rbN ps k a == rbN ps a t) := by rw [mstN, if_pos h, hN]; rfl
theorem mstN_no {ps : List (List UInt8)} {t : Int} (h : stdN ps t = false) : mstN ps t = [] := by rw [mstN, h]; rfl
theorem stdN_ok {ps : List (List UInt8)} {t : Int} (h : stdN ps t = true) : okSt ps t = true := by rw [stdN, Bool.and_eq_true] at h; exact h.1
theorem mayN_len (ps : List (List UInt8)) (t : Int) : (mayN ps t).length ≤ 1048576 := by
  by_cases h : stdN ps t = true
  · obtain ⟨hok, s, rfl, _⟩ := okSt_true (stdN_ok h)
    rw [mayN_yes h rfl, ints_length]
    have := sel_len (2 ^ ps.length) fun k => rbN ps k s
    have h32 := two_le _ (okN_le hok)
    omega
  · rw [mayN_no (by simpa using h)]; simp
theorem mstN_len (ps : List (List UInt8)) (t : Int) : (mstN ps t).length ≤ 1048576 := by
  by_cases h : stdN ps t = true
  · obtain ⟨hok, s, rfl, _⟩ := okSt_true (stdN_ok h)
    rw [mstN_yes h rfl, ints_length]
    have := sel_len (2 ^ ps.length) fun k => (atts (rbN ps) (2 ^ ps.length) (2 ^ ps.length)).all fun a => rbN ps k a == rbN ps a s
    have h32 := two_le _ (okN_le hok)
    omega
  · rw [mstN_no (by simpa using h)]; simp
end Go.Proofs.YtfkdameegljkeaaDoor

/- Words for the searches: a list that stays readable beside a queue and a set. -/
namespace Go.Proofs.YtfkdameegljkeaaDoor
open Go.RowKit
set_option linter.unusedVariables false

/-- the slice A holds vs, in a block that is neither g nor b -/
def RdB (w : World) (A : Option Addr) (vs : List Value) (g b : Nat) : Prop :=
  vs = [] ∨ ∃ g3 off3, A = some ⟨g3, off3, none⟩ ∧ g3 ≠ g ∧ g3 ≠ b ∧ ∀ j v, vs[j]? = some v → w.cell? ⟨g3, off3 + j, none⟩ = some v
theorem RdB.of_own {w : World} {B g b : Nat} {A : Option Addr} {vs : List Value} (h : Own w B A vs) (hg : g < B) (hb : b < B) : RdB w A vs g b := by
  rcases h with h | ⟨g3, off3, hA, hB, hc⟩
  · exact .inl h
  · exact .inr ⟨g3, off3, hA, by omega, by omega, fun j v hj => (hc j v hj).1⟩
theorem RdB.at_ {w : World} {A : Option Addr} {vs : List Value} {g b j : Nat} {v : Value} (h : RdB w A vs g b) (hj : vs[j]? = some v) : ∃ g3 off3, A = some ⟨g3, off3, none⟩ ∧ w.cell? ⟨g3, off3 + j, none⟩ = some v := by
  rcases h with h | ⟨g3, off3, hA, _, _, hc⟩
  · rw [h] at hj; simp at hj
  · exact ⟨g3, off3, hA, hc j v hj⟩
theorem RdB.at2 {w : World} {A : Option Addr} {vs : List Value} {g b j : Nat} {v : Value} (h : RdB w A vs g b) (hj : vs[j]? = some v) : ∃ g3 off3, A = some ⟨g3, off3, none⟩ ∧ g3 ≠ g ∧ g3 ≠ b ∧ w.cell? ⟨g3, off3 + j, none⟩ = some v := by
  rcases h with h | ⟨g3, off3, hA, h1, h2, hc⟩
  · rw [h] at hj; simp at hj
  · exact ⟨g3, off3, hA, h1, h2, hc j v hj⟩
theorem RdB.blk {w w' : World} {A : Option Addr} {vs : List Value} {g g' b : Nat} (h : RdB w A vs g b) (hb : ∀ k, k < w.heap.size → k ≠ g → k ≠ b → w'.heap[k]? = w.heap[k]? ∧ k ≠ g') : RdB w' A vs g' b := by
  cases vs with
  | nil => exact .inl rfl
  | cons x vs =>
    rcases h with h | ⟨g3, off3, hA, h1, h2, hc⟩
    · cases h
    · have h0 := hc 0 x rfl
      have := hb g3 (World.block_lt_of_cell? w _ h0) h1 h2
      exact .inr ⟨g3, off3, hA, this.2, h2, fun j v hj => (World.cell?_of_block (w := w) (a := ⟨g3, off3 + j, none⟩) this.1).trans (hc j v hj)⟩
theorem mem_ints {l : List Nat} {k : Nat} : ((k : Int) ∈ ints l) ↔ k ∈ l := by
  simp only [ints, List.mem_map]
  exact ⟨fun ⟨a, ha, e⟩ => by
    have e2 : a = k := by omega
    exact e2 ▸ ha, fun h => ⟨k, h, rfl⟩⟩
theorem put_ints {l : List Nat} {k : Nat} (h : k ∉ l) : (if ((k : Nat) : Int) ∈ ints l then ints l else ints l ++ [((k : Nat) : Int)]) = ints (l ++ [k]) := by
  rw [if_neg (fun hm => h (mem_ints.1 hm)), ints_append]; rfl
theorem nextN_get {ps : List (List UInt8)} {t j : Nat} (h : j < (nextN ps t).length) : ((ints (nextN ps t)).map (Value.int .i64))[j]? = some (.int .i64 (((nextN ps t)[j] : Nat) : Int)) := ints_at h

theorem QI.tail1 {w : World} {B g off cap : Nat} {v : Value} {x : Int} {xs : List Int} (h : QI w B g off cap v (x :: xs)) (hc : cap = 1) : QI w B g off (cap - 1) (.slice (some ⟨g, off, none⟩) xs.length (cap - 1)) xs := by
  obtain ⟨h1, h2, h3, h4, h5, h6⟩ := h
  rw [List.length_cons] at h4
  obtain rfl : xs = [] := List.eq_nil_of_length_eq_zero (by omega)
  exact ⟨rfl, h2, h3, by simp, fun j hj => by omega, fun j y hj => by simp at hj⟩
end Go.Proofs.YtfkdameegljkeaaDoor

/- Walks of reach and steady. -/
namespace Go.Proofs.YtfkdameegljkeaaDoor
open Go.RowKit
set_option linter.unusedVariables false

/-- it returns a set of states, in memory from block B on -/
def RetSet (B N : Nat) (p : Nat → Bool) (e : Ending) (w' : World) : Prop :=
  ∃ b met, e = .returned (.map (some b)) ∧ B ≤ b ∧ SetAt w' b (ints met) ∧ (∀ t ∈ met, t < N) ∧ ∀ t, decide (t ∈ met) = p t
set_option maxHeartbeats 1000000 in
theorem reach_any (A : Option Addr) (c s N : Nat) (ps : List (List UInt8)) (w : World) (hx : Hid (Rd w A (netL ps))) (hok : Hid (okN ps = true)) (HN : Hid (N = 2 ^ ps.length)) (hs : s < N) :
    Calls Tryd.prog 30 #[.slice A ps.length c, .int .i64 (s : Int)] w fun e w' => RetSet w.heap.size N (rbN ps s) e w' ∧ Below w.heap.size w w' := by
  have hN32 : N ≤ 32 := by rw [HN.out]; exact two_le _ (okN_le hok.out)
  have HNL := Lib.hid (next_lt hok.out HN.out)
  have hmm := @run_makeMap Tryd.prog
  go_enter Tryd.func30, Tryd.ntmps30
  go_wp2_with ((with_reducible refine wpStop (o := ⟨_, Op.insert _ _ _ _, _, _, _, _⟩) ?_); refine ⟨?_⟩; refine wpList_ins rfl _ _ _ rfl rfl rfl rfl (SetAt.made w) ?_; intro w1 hS1 hg1)
  have hBm : Below w.heap.size w (w.alloc (.map #[] 0)) := (Below.refl _ _).alloc (Nat.le_refl _) _
  have hB1 : Below w.heap.size w w1 := hBm.trans (Below.of_grown hg1 (Nat.le_refl _) (by rw [alloc_size]; omega))
  have hz1 : w.heap.size + 1 ≤ w1.heap.size := by have := hg1.size; rw [alloc_size] at this; exact this
  have HS1 : Hid (SetAt w1 w.heap.size (ints [s])) := Lib.hid hS1
  clear hS1 hg1 hBm
  go_wp2
  go_loopg [6] (2 * N) (fun gk v wr => ∃ (met todo : List Nat) (g off cap : Nat), todo.length + 2 * (N - met.length) ≤ gk ∧ Hid (SrchI (nextN ps) N s met todo) ∧ Hid (SetAt wr w.heap.size (ints met)) ∧ Hid (QI wr (w.heap.size + 1) g off cap v (ints todo)) ∧ gk ≤ 64 ∧ Below w.heap.size w wr)
  case atStart =>
    refine ⟨[s], [s], w1.heap.size, 0, 1, ?_, Lib.hid (SrchI.first _ hs), Lib.hid (HS1.out.below ((Below.refl _ _).alloc (Nat.le_refl _) _)), Lib.hid (QI.one w1 _ _ _ hz1), by omega, hB1.alloc (by omega) _⟩
    simp; omega
  case round =>
    obtain ⟨met, todo, g, off, cap, hgk, HI, HS, HQ, htl, hB⟩ := hrel
    have hsz := hB.size
    have hbl := HS.out.lt
    have hml := HI.out.len
    have hv := HQ.out.1
    have hil : (ints todo).length = todo.length := ints_length _
    rw [hil] at hv
    subst hv
    rcases List.eq_nil_or_concat todo with h0 | ⟨init, t, h0⟩
    · subst h0
      have HM := Lib.hid (HI.out.mem hok.out HN.out hs)
      have HL := Lib.hid HI.out.lt
      go_wp2
      go_ret
      exact ⟨⟨_, met, rfl, Nat.le_refl _, HS.out, HL.out, HM.out⟩, hB⟩
    · rw [List.concat_eq_append] at h0
      subst h0
      have htm : t ∈ met := HI.out.sd t (by simp)
      have htN : t < N := HI.out.lt t htm
      have hcell : wr.cell? ⟨g, off + init.length, none⟩ = some (.int .i64 (t : Int)) := HQ.out.2.2.2.2.2 init.length (t : Int) (by simp [ints])
      have HQa : Hid (QI wr (w.heap.size + 1) g off cap (.slice (some ⟨g, off, none⟩) init.length cap) (ints init)) := Lib.hid (by
        have h := HQ.out
        rw [ints_append] at h
        have := QI.init h
        rwa [ints_length] at this)
      have HJ : Hid (SrchJ (nextN ps) N s t 0 met init) := Lib.hid (HI.out.open_ (by simp) (by intro x hx; simp [hx]) (by intro x hx; simp at hx; rcases hx with hx | hx; exact .inr hx; exact .inl hx))
      have hcap := HQ.out.2.2.2.1
      have hgl := HQ.out.2.2.1
      have hgb := HQ.out.2.1
      rw [hil] at hcap
      have hl1 : (init ++ [t]).length = init.length + 1 := by simp
      rw [hl1] at hcap hgk ⊢
      have HS2 : Hid (t < 2 ^ ps.length) := Lib.hid (by rw [← HN.out]; exact htN)
      have HR := Lib.hid (hx.out.below hB)
      have hnl := nextN_len hok.out t
      have hil3 : (ints (nextN ps t)).length = (nextN ps t).length := ints_length _
      clear hil
      go_wp2_with (go_at_call 60; refine (next_any _ _ _ _ _ HR hok HS2).mono ?_; rintro e w3 ⟨⟨A3, c3, rfl, hc3, hO3⟩, hB3⟩)
      have HRB := Lib.hid (RdB.of_own hO3 hgl hbl)
      clear hO3
      go_loopw [6, 33] (fun v q wr2 => ∃ (j : Nat) (met todo : List Nat) (g off cap : Nat), j ≤ (nextN ps t).length ∧ q = .int .i64 j ∧ todo.length + 2 * (N - met.length) < gk ∧ Hid (SrchJ (nextN ps) N s t j met todo) ∧ Hid (SetAt wr2 w.heap.size (ints met)) ∧ Hid (QI wr2 (w.heap.size + 1) g off cap v (ints todo)) ∧ Hid (RdB wr2 A3 ((ints (nextN ps t)).map (Value.int .i64)) g w.heap.size) ∧ Below w.heap.size w wr2) (fun _ q _ => (nextN ps t).length - (intOf q).toNat)
      case atStart => exact ⟨0, met, init, g, _, _, Nat.zero_le _, rfl, by omega, HJ, Lib.hid (HS.out.below hB3), Lib.hid (HQa.out.below hB3), HRB, hB.trans (hB3.mono hsz)⟩
      case round =>
        obtain ⟨j, met2, todo2, g2, off2, cap2, hj, rfl, hgk2, HJ2, HS3, HQ2, HRB2, hB2⟩ := hrel
        have hsz2 := hB2.size
        have hbl2 := HS3.out.lt
        have hv2 := HQ2.out.1
        rw [ints_length] at hv2
        subst hv2
        have hml2 := HJ2.out.len
        have hgb2 := HQ2.out.2.1
        have hgl2 := HQ2.out.2.2.1
        by_cases hlt : j < (nextN ps t).length
        · obtain ⟨g3, off3, hA, hng, hnb, hcell3⟩ := HRB2.out.at2 (nextN_get hlt)
          subst hA
          have hu : (nextN ps t)[j]? = some (nextN ps t)[j] := List.getElem?_eq_getElem hlt
          have huN : (nextN ps t)[j] < N := HNL.out t htN _ (List.getElem_mem hlt)
          have hlk := set_look HS3.out (((nextN ps t)[j] : Nat) : Int)
          by_cases hm : (nextN ps t)[j] ∈ met2
          · rw [decide_eq_true (mem_ints.2 hm)] at hlk
            have HJ3 := Lib.hid (HJ2.out.skip hu hm)
            clear hm hu
            go_wp2_with fail
            go_roundw
            case rel => exact ⟨j + 1, met2, todo2, g2, off2, cap2, by omega, by go_num, hgk2, HJ3, HS3, HQ2, HRB2, hB2⟩
            case measure => simp [intOf]; omega
          · rw [decide_eq_false (fun h => hm (mem_ints.1 h))] at hlk
            have HJ3 := Lib.hid (HJ2.out.push hu huN hm)
            have HPI := Lib.hid (put_ints hm)
            clear hm hu
            have hml3 := HJ3.out.len
            rw [List.length_append, List.length_singleton] at hml3
            go_wp2_with (first
              | (at_mapUpdate; refine wpList_put rfl _ _ _ rfl rfl rfl rfl HS3.out ?_; intro w4 hS4 hg4; rw [HPI.out] at hS4; have HS4 := Lib.hid hS4; clear hS4; have hz4 := hg4.size; have HQ4 := Lib.hid (HQ2.out.blk (hg4.block g2 hgl2 (by intro e; injection e; omega)) hz4); have HR4 := Lib.hid (HRB2.out.blk (g' := g2) (fun k hk h1 h2 => ⟨hg4.block k hk (by intro e; injection e with e; exact h2 e), h1⟩)); have hB4 := Below.of_grown (B := w.heap.size) hg4 (Nat.le_refl _) hsz2; clear hg4)
              | (at_builtin; refine wp_pushQ rfl _ _ _ rfl Tryd.underlying25 info_int HQ4.out rfl rfl (by rw [ints_length]; omega) (by omega) ?_; intro v5 w5 g5 off5 cap5 hQ5 hbel5 hsz5 hfr5))
            have HS5 := Lib.hid (HS4.out.blk (hfr5 _ HS4.out.lt (by omega)).1)
            have HR5 := Lib.hid (HR4.out.blk (fun k hk h1 h2 => hfr5 k hk h1))
            have HQ5 : Hid (QI w5 (w.heap.size + 1) g5 off5 cap5 v5 (ints (todo2 ++ [(nextN ps t)[j]]))) := Lib.hid (by rw [ints_append]; exact hQ5)
            have hB5 : Below w.heap.size w w5 := (hB2.trans hB4).trans (hbel5 _ (by omega))
            clear hfr5 hQ5 hbel5
            go_roundw
            case rel => exact ⟨j + 1, met2 ++ [(nextN ps t)[j]], todo2 ++ [(nextN ps t)[j]], g5, off5, cap5, by omega, by go_num, by simp; omega, HJ3, HS5, HQ5, HR5, hB5⟩
            case measure => simp [intOf]; omega
        · have HI2 := Lib.hid (HJ2.out.close (by omega))
          go_wp2_with fail
          go_roundg (gk - 1)
          case rel => exact ⟨met2, todo2, g2, off2, cap2, by omega, HI2, HS3, HQ2, by omega, hB2⟩
          case measure => omega

set_option maxHeartbeats 1000000 in
theorem steady_any (A : Option Addr) (c s N : Nat) (ps : List (List UInt8)) (w : World) (hx : Hid (Rd w A (netL ps))) (hok : Hid (okN ps = true)) (HN : Hid (N = 2 ^ ps.length)) (hs : s < N) :
    Calls Tryd.prog 36 #[.slice A ps.length c, .int .i64 (s : Int)] w fun e w' => e = .returned (.bool (std (rbN ps) N s)) ∧ Below w.heap.size w w' := by
  go_enter Tryd.func36, Tryd.ntmps36
  go_wp2_with fail
  refine (reach_any _ _ _ N _ _ hx hok HN hs).mono ?_
  rintro e w1 ⟨⟨b, met, rfl, hb, hS, hml, hM⟩, hB1⟩
  have HS := Lib.hid hS
  have HM := Lib.hid hM
  have HL := Lib.hid hml
  have hz1 := hB1.size
  clear hS hM hml
  go_wp2_with (at_range; refine wpList_range_set rfl _ rfl rfl HS.out ?_; intro r w2 hr hR2 hB2 hz2)
  have HR2 := Lib.hid hR2
  have hrw : w.heap.size ≤ r := by rw [hr]; exact hz1
  have hBw2 : Below w.heap.size w w2 := hB1.trans (hB2.mono hz1)
  clear hr hR2 hB2 hz2
  go_frame
  go_loopg [5] met.length (fun gk _ wr => ∃ todo : List Int, todo.length ≤ gk ∧ Hid (RngAt wr r b (ints met) todo) ∧ Hid (∀ t ∈ met, (t : Int) ∈ todo ∨ rbN ps t s = true) ∧ Hid (∀ x ∈ todo, ∃ t ∈ met, x = (t : Int)) ∧ Below w.heap.size w wr)
  case atStart => exact ⟨ints met, by rw [ints_length]; exact Nat.le_refl _, HR2, Lib.hid (fun t ht => .inl (mem_ints.2 ht)), Lib.hid (fun x hx => by simp only [ints, List.mem_map] at hx; obtain ⟨t, ht, e⟩ := hx; exact ⟨t, ht, e.symm⟩), hBw2⟩
  case round =>
    obtain ⟨todo, htl, HR, HA, HT, hB⟩ := hrel
    have hsz := hB.size
    go_wp2_with (at_next; refine wpList_next_set rfl _ rfl rfl HR.out ?_ ?_)
    · intro h0
      subst h0
      have HV : Hid (std (rbN ps) N s = true) := Lib.hid (std_iff.2 fun t ht h => by
        have htm : t ∈ met := by
          have := HM.out t
          rw [h, decide_eq_true_iff] at this
          exact this
        rcases HA.out t htm with h1 | h1
        · simp at h1
        · exact h1)
      go_wp2
      go_ret
      exact ⟨by rw [HV.out]; rfl, hB⟩
    · intro k todo' w3 hk hlen hsub1 hsub2 hR3 hg3 hen
      obtain ⟨t, htm, rfl⟩ := HT.out k hk
      have htN := HL.out t htm
      have htr : Hid (rbN ps s t = true) := Lib.hid (by rw [← HM.out t]; simpa using htm)
      have hB3 : Below w.heap.size w w3 := hB.trans (Below.of_grown hg3 hrw hsz)
      have hsz3 := hB3.size
      have HR3 := Lib.hid hR3
      have HT3 : Hid (∀ x ∈ todo', ∃ t ∈ met, x = (t : Int)) := Lib.hid (fun x hx => HT.out x (hsub2 x hx))
      by_cases hp : rbN ps t s = true
      · have HA3 : Hid (∀ u ∈ met, (u : Int) ∈ todo' ∨ rbN ps u s = true) := Lib.hid (fun u hu => by
          rcases HA.out u hu with h1 | h1
          · rcases hsub1 _ h1 with h2 | h2
            · right
              have : u = t := by omega
              rw [this]; exact hp
            · exact .inl h2
          · exact .inr h1)
        clear hk hsub1 hsub2 hR3 hg3 htm
        go_wp2_with fail
        refine (reach_any _ _ _ N _ _ (Lib.hid (hx.out.below hB3)) hok HN htN).mono ?_
        rintro e w4 ⟨⟨b4, met4, rfl, hb4, hS4, hml4, hM4⟩, hB4⟩
        have hlk := set_look hS4 (s : Int)
        have e4 : decide ((s : Int) ∈ ints met4) = true := by
          have h4 := hM4 s
          rw [hp, decide_eq_true_iff] at h4
          rw [decide_eq_true_iff, mem_ints]
          exact h4
        rw [e4] at hlk
        clear e4 hS4 hml4 hM4
        go_wp2
        go_roundg todo'.length
        case rel => exact ⟨todo', Nat.le_refl _, Lib.hid (HR3.out.below hB4), HA3, HT3, hB3.trans (hB4.mono hsz3)⟩
        case measure => omega
      · have hp' : rbN ps t s = false := by simpa using hp
        have HV : Hid (std (rbN ps) N s = false) := Lib.hid (by
          cases h : std (rbN ps) N s
          · rfl
          · have := std_iff.1 h t htN htr.out
            rw [hp'] at this; cases this)
        clear hk hsub1 hsub2 hR3 hg3 htm hp
        go_wp2_with fail
        refine (reach_any _ _ _ N _ _ (Lib.hid (hx.out.below hB3)) hok HN htN).mono ?_
        rintro e w4 ⟨⟨b4, met4, rfl, hb4, hS4, hml4, hM4⟩, hB4⟩
        have hlk := set_look hS4 (s : Int)
        have e4 : decide ((s : Int) ∈ ints met4) = false := by
          rw [decide_eq_false_iff_not, mem_ints]
          intro hm
          have := hM4 s
          rw [hp', decide_eq_false_iff_not] at this
          exact this hm
        rw [e4] at hlk
        clear e4 hS4 hml4 hM4
        go_wp2
        go_ret
        exact ⟨by rw [HV.out]; rfl, hB3.trans (hB4.mono hsz3)⟩

end Go.Proofs.YtfkdameegljkeaaDoor

/- Walks of the reference's l5Reach, l5Sorted and l5Steady. -/
namespace Go.Proofs.YtfkdameegljkeaaDoor
open Go.RowKit
set_option linter.unusedVariables false

/-- the truths of the first N states -/
def bolL (N : Nat) (p : Nat → Bool) : List Value := (List.range N).map fun t => .bool (p t)
theorem bolL_length (N : Nat) (p : Nat → Bool) : (bolL N p).length = N := by simp [bolL]
theorem bolL_get {N t : Nat} (p : Nat → Bool) (h : t < N) : (bolL N p)[t]? = some (.bool (p t)) := by simp [bolL, h]
theorem bolL_none (N : Nat) : (bolL N fun t => decide (t ∈ ([] : List Nat))).toArray = Array.replicate N (.bool false) := by
  apply Array.ext'
  simp [bolL, List.map_const']
theorem bolL_set {N : Nat} {met : List Nat} (t : Nat) : (bolL N fun x => decide (x ∈ met)).toArray.setIfInBounds t (.bool true) = (bolL N fun x => decide (x ∈ met ++ [t])).toArray := by
  apply Array.ext'
  rw [Array.toList_setIfInBounds]
  apply List.ext_getElem?
  intro j
  rw [List.getElem?_set, List.toList_toArray, List.toList_toArray]
  by_cases hj : j < N
  · rw [bolL_get _ hj, bolL_get _ hj, bolL_length]
    by_cases e : t = j
    · subst e; simp [hj]
    · have e2 : ¬ j = t := fun h => e h.symm
      simp [e, e2]
  · rw [List.getElem?_eq_none (l := bolL N fun x => decide (x ∈ met ++ [t])) (by rw [bolL_length]; omega), List.getElem?_eq_none (l := bolL N fun x => decide (x ∈ met)) (by rw [bolL_length]; omega), bolL_length]
    split
    · rename_i e; subst e; rw [if_neg hj]
    · rfl
theorem bolL_congr {N : Nat} {p q : Nat → Bool} (h : ∀ t, p t = q t) : bolL N p = bolL N q := by
  have : p = q := funext h
  rw [this]
theorem bolL_own {w : World} {g B N : Nat} {t : TypeId} {p : Nat → Bool} (h : Blk w g t (bolL N p).toArray) (hB : B ≤ g) : Own w B (some ⟨g, 0, none⟩) (bolL N p) :=
  .inr ⟨g, 0, rfl, hB, fun j v hj => by
    rw [Nat.zero_add, h.cell, h.frozen, List.getElem?_toArray]
    exact ⟨hj, rfl⟩⟩
/-- it returns the truths of the first N states, in memory from block B on -/
def RetB (B N : Nat) (p : Nat → Bool) (e : Ending) (w' : World) : Prop := ∃ A c, e = .returned (.slice A N c) ∧ N ≤ c ∧ Own w' B A (bolL N p)

theorem l5Sorted_any (A : Option Addr) (c N : Nat) (p : Nat → Bool) (w : World) (hx : Hid (Rd w A (bolL N p))) (hN : N ≤ 32) :
    Calls Tryd.prog 65 #[.slice A N c] w fun e w' => RetI w.heap.size (ints (sel N p)) e w' ∧ Below w.heap.size w w' := by
  go_enter Tryd.func65, Tryd.ntmps65
  go_wp2
  go_loopw [3, 4] (fun v q wr => ∃ k : Nat, k ≤ N ∧ q = .int .i64 k ∧ Hid (OI wr w.heap.size 3 v (ints (sel k p))) ∧ Below w.heap.size w wr) (fun _ q _ => N - (intOf q).toNat)
  case atStart => exact ⟨0, Nat.zero_le _, rfl, Lib.hid (OI.empty _ _ _ (Nat.le_refl _)), (Below.refl _ _).alloc (Nat.le_refl _) _⟩
  case round =>
    obtain ⟨k, hk, rfl, HO, hB⟩ := hrel
    have hsz := hB.size
    have hlen : (ints (sel k p)).length ≤ k := by rw [ints_length]; exact sel_len _ _
    by_cases hlt : k < N
    · obtain ⟨g, off, hA, hcell⟩ := (hx.out.below hB).at_ (bolL_get p hlt)
      subst hA
      by_cases hp : p k = true
      · have HE := Lib.hid (sel_yesI hp)
        rw [hp] at hcell
        go_wp2_with (at_builtin; refine wp_pushI rfl _ _ _ rfl Tryd.underlying25 info_int HO.out rfl rfl (by omega) hsz ?_; intro v' w3 hown hbel hsz3)
        go_roundw
        case rel => exact ⟨k + 1, by omega, by go_num, Lib.hid (by rw [HE.out]; exact hown), hB.trans (hbel _ (Nat.le_refl _))⟩
        case measure => simp [intOf]; omega
      · have hp' : p k = false := by simpa using hp
        have HE := Lib.hid (sel_noI hp')
        rw [hp'] at hcell
        clear hp
        go_wp2_with fail
        go_roundw
        case rel => exact ⟨k + 1, by omega, by go_num, Lib.hid (by rw [HE.out]; exact HO.out), hB⟩
        case measure => simp [intOf]; omega
    · have hkn : k = N := by omega
      subst hkn
      obtain ⟨A', c', hv, hc, hO⟩ := HO.out.form
      have HV := Lib.hid hv
      clear hv
      go_wp2
      go_ret
      exact ⟨⟨A', c', by rw [← HV.out]; rfl, hc, hO⟩, hB⟩

theorem info_bool : (Tryd.prog.info? 4).map (fun i => (i.zero, i.size, i.bytes)) = some (some (.bool false), 1, 1) := by kernel_rfl
set_option maxHeartbeats 1000000 in
theorem l5Reach_any (A : Option Addr) (c s N : Nat) (ps : List (List UInt8)) (w : World) (hx : Hid (Rd w A (strs ps))) (hok : Hid (okN ps = true)) (HN : Hid (N = 2 ^ ps.length)) (hs : s < N) :
    Calls Tryd.prog 66 #[.slice A ps.length c, .int .i64 (s : Int)] w fun e w' => RetB w.heap.size N (rbN ps s) e w' ∧ Below w.heap.size w w' := by
  have hn5 := okN_le hok.out
  have hN32 : N ≤ 32 := by rw [HN.out]; exact two_le _ hn5
  have HNL := Lib.hid (next_lt hok.out HN.out)
  have hmk := make_row Tryd.underlying90 info_bool rfl N (by omega) (by omega)
  have hc0 : (w.alloc (.cells (Array.replicate N (.bool false)) 4)).cell? ⟨w.heap.size, s, none⟩ = some (.bool false) := by rw [cell_new]; simp [hs]
  have hf0 := frozen_new w (Array.replicate N (.bool false)) 4 s
  have HB0 : Hid (Blk (w.alloc (.cells (Array.replicate N (.bool false)) 4)) w.heap.size 4 (bolL N fun t => decide (t ∈ ([] : List Nat))).toArray) := Lib.hid (by rw [bolL_none]; exact Blk.new _ _ _)
  have hBa : Below w.heap.size w (w.alloc (.cells (Array.replicate N (.bool false)) 4)) := (Below.refl _ _).alloc (Nat.le_refl _) _
  go_enter Tryd.func66, Tryd.ntmps66
  go_wp2_with (go_at_call 67; refine (l3All_any _ _ _ N _ hn5 HN).mono ?_; rintro e w2 ⟨rfl, rfl⟩)
  go_loopg [6] (2 * N) (fun gk v wr => ∃ (met todo : List Nat) (g off cap : Nat), todo.length + 2 * (N - met.length) ≤ gk ∧ Hid (SrchI (nextN ps) N s met todo) ∧ Hid (Blk wr w.heap.size 4 (bolL N fun x => decide (x ∈ met)).toArray) ∧ Hid (QI wr (w.heap.size + 1) g off cap v (ints todo)) ∧ gk ≤ 64 ∧ Below w.heap.size w wr)
  case atStart =>
    have HX : Hid (Blk (w.alloc (.cells ((Array.replicate N (.bool false)).setIfInBounds s (.bool true)) 4)) w.heap.size 4 (bolL N fun t => decide (t ∈ [s])).toArray) := Lib.hid (by
      have h : (bolL N fun x => decide (x ∈ ([] : List Nat))).toArray.setIfInBounds s (.bool true) = (bolL N fun x => decide (x ∈ [s])).toArray := bolL_set (met := []) s
      rw [bolL_none] at h
      rw [h]
      exact Blk.new _ _ _)
    refine ⟨[s], [s], w.heap.size + 1, 0, 1, ?_, Lib.hid (SrchI.first _ hs), ?_, ?_, by omega, ?_⟩
    · simp; omega
    · exact Lib.hid (HX.out.keep ((Below.refl _ _).alloc (Nat.le_refl _) _))
    · have h := QI.one (w.alloc (.cells ((Array.replicate N (.bool false)).setIfInBounds s (.bool true)) 4)) (w.heap.size + 1) 3 (s : Int) (by rw [alloc_size]; exact Nat.le_refl _)
      rw [alloc_size] at h
      exact Lib.hid h
    · exact ((Below.refl _ _).alloc (Nat.le_refl _) _).alloc (by rw [alloc_size]; omega) _
  case round =>
    obtain ⟨met, todo, g, off, cap, hgk, HI, HS, HQ, htl, hB⟩ := hrel
    have hsz := hB.size
    have hbl := HS.out.lt
    have hml := HI.out.len
    have hv := HQ.out.1
    have hil : (ints todo).length = todo.length := ints_length _
    rw [hil] at hv
    subst hv
    cases todo with
    | nil =>
      have HM : Hid ((bolL N fun x => decide (x ∈ met)) = bolL N (rbN ps s)) := Lib.hid (bolL_congr (HI.out.mem hok.out HN.out hs))
      go_wp2
      go_ret
      exact ⟨⟨_, N, rfl, Nat.le_refl _, by rw [← HM.out]; exact bolL_own HS.out (Nat.le_refl _)⟩, hB⟩
    | cons t todo =>
      have htm : t ∈ met := HI.out.sd t (by simp)
      have htN : t < N := HI.out.lt t htm
      have hcell : wr.cell? ⟨g, off, none⟩ = some (.int .i64 (t : Int)) := HQ.out.2.2.2.2.2 0 (t : Int) (by simp [ints])
      have HJ : Hid (SrchJ (nextN ps) N s t 0 met todo) := Lib.hid (HI.out.open_ (by simp) (by intro x hx; simp [hx]) (by intro x hx; simp at hx; exact hx))
      have hcap := HQ.out.2.2.2.1
      have hgl := HQ.out.2.2.1
      have hgb := HQ.out.2.1
      rw [hil] at hcap
      have hl1 : (t :: todo).length = todo.length + 1 := by simp
      rw [hl1] at hcap hgk ⊢
      have HS2 : Hid (t < 2 ^ ps.length) := Lib.hid (by rw [← HN.out]; exact htN)
      have HR := Lib.hid (hx.out.below hB)
      clear hil
      have HQa : Hid (¬ cap = 1 → QI wr (w.heap.size + 1) g (off + 1) (cap - 1) (.slice (some ⟨g, off + 1, none⟩) todo.length (cap - 1)) (ints todo)) := Lib.hid (fun _ => by
        have h := QI.tail (x := (t : Int)) (xs := ints todo) HQ.out
        rwa [ints_length] at h)
      have HQb : Hid (cap = 1 → QI wr (w.heap.size + 1) g off 0 (.slice (some ⟨g, off, none⟩) todo.length 0) (ints todo)) := Lib.hid (fun h1 => by
        have h := QI.tail1 (x := (t : Int)) (xs := ints todo) HQ.out h1
        rwa [ints_length, h1] at h)
      have hnl := nextN_len hok.out t
      have hil3 : (ints (nextN ps t)).length = (nextN ps t).length := ints_length _
      go_wp2_with (go_at_call 92; refine (l5Next_any _ _ _ _ _ HR hok HS2).mono ?_; rintro e w3 ⟨⟨A3, c3, rfl, hc3, hO3⟩, hB3⟩)
      all_goals
        have HRB := Lib.hid (RdB.of_own hO3 hgl hbl)
        clear hO3
        go_loopw [6, 8] (fun v q wr2 => ∃ (j : Nat) (met todo : List Nat) (g off cap : Nat), j ≤ (nextN ps t).length ∧ q = .int .i64 j ∧ todo.length + 2 * (N - met.length) < gk ∧ Hid (SrchJ (nextN ps) N s t j met todo) ∧ Hid (Blk wr2 w.heap.size 4 (bolL N fun x => decide (x ∈ met)).toArray) ∧ Hid (QI wr2 (w.heap.size + 1) g off cap v (ints todo)) ∧ Hid (RdB wr2 A3 ((ints (nextN ps t)).map (Value.int .i64)) g w.heap.size) ∧ Below w.heap.size w wr2) (fun _ q _ => (nextN ps t).length - (intOf q).toNat)
        case atStart => exact ⟨0, met, todo, g, _, _, Nat.zero_le _, rfl, by omega, HJ, Lib.hid (HS.out.keep hB3), by first | exact Lib.hid ((HQa.out ‹_›).below hB3) | exact Lib.hid ((HQb.out ‹_›).below hB3), HRB, hB.trans (hB3.mono hsz)⟩
        case round =>
          obtain ⟨j, met2, todo2, g2, off2, cap2, hj, rfl, hgk2, HJ2, HS3, HQ2, HRB2, hB2⟩ := hrel
          have hsz2 := hB2.size
          have hv2 := HQ2.out.1
          rw [ints_length] at hv2
          subst hv2
          have hml2 := HJ2.out.len
          have hgb2 := HQ2.out.2.1
          have hgl2 := HQ2.out.2.2.1
          by_cases hlt : j < (nextN ps t).length
          · obtain ⟨g3, off3, hA, hng, hnb, hcell3⟩ := HRB2.out.at2 (nextN_get hlt)
            subst hA
            have hu : (nextN ps t)[j]? = some (nextN ps t)[j] := List.getElem?_eq_getElem hlt
            have huN : (nextN ps t)[j] < N := HNL.out t htN _ (List.getElem_mem hlt)
            by_cases hm : (nextN ps t)[j] ∈ met2
            · have hcu : wr.cell? ⟨w.heap.size, (nextN ps t)[j], none⟩ = some (.bool true) := by
                rw [HS3.out.cell, List.getElem?_toArray, bolL_get _ huN, decide_eq_true hm]
              have HJ3 := Lib.hid (HJ2.out.skip hu hm)
              clear hm hu
              go_wp2_with fail
              go_roundw
              case rel => exact ⟨j + 1, met2, todo2, g2, off2, cap2, by omega, by go_num, hgk2, HJ3, HS3, HQ2, HRB2, hB2⟩
              case measure => simp [intOf]; omega
            · have hcu : wr.cell? ⟨w.heap.size, (nextN ps t)[j], none⟩ = some (.bool false) := by
                rw [HS3.out.cell, List.getElem?_toArray, bolL_get _ huN, decide_eq_false hm]
              have hfu := HS3.out.frozen (nextN ps t)[j]
              have HJ3 := Lib.hid (HJ2.out.push hu huN hm)
              clear hm hu
              have hcell4 := (World.cell?_setCell_other wr ⟨w.heap.size, (nextN ps t)[j], none⟩ ⟨g3, off3 + j, none⟩ (.bool true) (by intro e; injection e with e; exact hnb e.symm)).trans hcell3
              have hml3 := HJ3.out.len
              rw [List.length_append, List.length_singleton] at hml3
              go_wp2_with (at_builtin; refine wp_pushQ rfl _ _ _ rfl Tryd.underlying25 info_int ((HQ2.out.blk ((only_setCell _ _ _ _).block g2 hgl2 (by intro e; injection e; omega)) (by rw [setCell_size]; exact Nat.le_refl _))) rfl (by rw [setCell_size]; rfl) (by rw [ints_length]; omega) (by rw [setCell_size]; omega) ?_; intro v5 w5 g5 off5 cap5 hQ5 hbel5 hsz5 hfr5)
              have HS5 : Hid (Blk w5 w.heap.size 4 (bolL N fun x => decide (x ∈ met2 ++ [(nextN ps t)[j]])).toArray) := Lib.hid (by
                have h := HS3.out.set_ (nextN ps t)[j] (.bool true)
                rw [bolL_set] at h
                exact (hfr5 _ h.lt (by omega)).1.trans h)
              have HR5 := Lib.hid ((HRB2.out.blk (g' := g2) (fun k hk h1 h2 => ⟨(only_setCell wr w.heap.size (nextN ps t)[j] (.bool true)).block k hk (by intro e; injection e with e; exact h2 e), h1⟩)).blk (fun k hk h1 h2 => hfr5 k hk h1))
              have HQ5 : Hid (QI w5 (w.heap.size + 1) g5 off5 cap5 v5 (ints (todo2 ++ [(nextN ps t)[j]]))) := Lib.hid (by rw [ints_append]; exact hQ5)
              have hB5 : Below w.heap.size w w5 := (hB2.setCell (by show w.heap.size ≤ w.heap.size; omega) _).trans (hbel5 _ (by omega))
              clear hfr5 hQ5 hbel5
              go_roundw
              case rel => exact ⟨j + 1, met2 ++ [(nextN ps t)[j]], todo2 ++ [(nextN ps t)[j]], g5, off5, cap5, by omega, by go_num, by simp; omega, HJ3, HS5, HQ5, HR5, hB5⟩
              case measure => simp [intOf]; omega
          · have HI2 := Lib.hid (HJ2.out.close (by omega))
            go_wp2_with fail
            go_roundg (gk - 1)
            case rel => exact ⟨met2, todo2, g2, off2, cap2, by omega, HI2, HS3, HQ2, by omega, hB2⟩
            case measure => omega

theorem l5Steady_any (A : Option Addr) (c s N : Nat) (ps : List (List UInt8)) (w : World) (hx : Hid (Rd w A (strs ps))) (hok : Hid (okN ps = true)) (HN : Hid (N = 2 ^ ps.length)) (hs : s < N) :
    Calls Tryd.prog 64 #[.slice A ps.length c, .int .i64 (s : Int)] w fun e w' => e = .returned (.bool (std (rbN ps) N s)) ∧ Below w.heap.size w w' := by
  have hN32 : N ≤ 32 := by rw [HN.out]; exact two_le _ (okN_le hok.out)
  have hsl := sel_len N (rbN ps s)
  have hil : (ints (sel N (rbN ps s))).length = (sel N (rbN ps s)).length := ints_length _
  have HLT := Lib.hid (fun t (h : t ∈ sel N (rbN ps s)) => mem_sel.1 h)
  go_enter Tryd.func64, Tryd.ntmps64
  go_wp2_with fail
  refine (l5Reach_any _ _ _ N _ _ hx hok HN hs).mono ?_
  rintro e w1 ⟨⟨A1, c1, rfl, hc1, hO1⟩, hB1⟩
  have hz1 := hB1.size
  go_wp2_with fail
  refine (l5Sorted_any _ _ _ _ _ (Lib.hid hO1.rd) hN32).mono ?_
  rintro e w2 ⟨⟨A2, c2, rfl, hc2, hO2⟩, hB2⟩
  have hB12 : Below w.heap.size w w2 := hB1.trans (hB2.mono hz1)
  have HR2 := Lib.hid hO2.rd
  clear hO1 hO2 hB2 hB1 hz1
  have hz2 := hB12.size
  go_wp2
  go_loopw [6] (fun q wr => ∃ k : Nat, k ≤ (sel N (rbN ps s)).length ∧ q = .int .i64 k ∧ Hid (∀ j, (hj : j < k) → (hl : j < (sel N (rbN ps s)).length) → rbN ps (sel N (rbN ps s))[j] s = true) ∧ Below w2.heap.size w2 wr) (fun q _ => (sel N (rbN ps s)).length - (intOf q).toNat)
  case atStart => exact ⟨0, Nat.zero_le _, rfl, Lib.hid (fun j hj => by omega), Below.refl _ _⟩
  case round =>
    obtain ⟨k, hk, rfl, HA, hB⟩ := hrel
    have hsz := hB.size
    by_cases hlt : k < (sel N (rbN ps s)).length
    · obtain ⟨g, off, hA, hcell⟩ := (HR2.out.below hB).at_ (ints_at hlt)
      subst hA
      have htN : (sel N (rbN ps s))[k] < N := (HLT.out _ (List.getElem_mem hlt)).1
      have htr := (HLT.out _ (List.getElem_mem hlt)).2
      by_cases hp : rbN ps (sel N (rbN ps s))[k] s = true
      · have HA2 : Hid (∀ j, (hj : j < k + 1) → (hl : j < (sel N (rbN ps s)).length) → rbN ps (sel N (rbN ps s))[j] s = true) := Lib.hid (fun j hj hl => by
          by_cases e : j = k
          · subst e; exact hp
          · exact HA.out j (by omega) hl)
        clear htr
        go_wp2_with fail
        refine (l5Reach_any _ _ _ N _ _ (Lib.hid (hx.out.below (hB12.trans (hB.mono hz2)))) hok HN htN).mono ?_
        rintro e w3 ⟨⟨A3, c3, rfl, hc3, hO3⟩, hB3⟩
        have hb3 := bolL_get (rbN ps (sel N (rbN ps s))[k]) hs
        rw [hp] at hb3
        obtain ⟨g3, off3, hA3, _, hcell3, _⟩ := hO3.at_ hb3
        subst hA3
        clear hO3 hb3
        go_wp2
        go_roundw
        case rel => exact ⟨k + 1, by omega, by go_num, HA2, hB.trans (hB3.mono hsz)⟩
        case measure => simp [intOf]; omega
      · have hp' : rbN ps (sel N (rbN ps s))[k] s = false := by simpa using hp
        have HV : Hid (std (rbN ps) N s = false) := Lib.hid (by
          cases h : std (rbN ps) N s
          · rfl
          · have := std_iff.1 h _ htN htr
            rw [hp'] at this; cases this)
        clear hp htr
        go_wp2_with fail
        refine (l5Reach_any _ _ _ N _ _ (Lib.hid (hx.out.below (hB12.trans (hB.mono hz2)))) hok HN htN).mono ?_
        rintro e w3 ⟨⟨A3, c3, rfl, hc3, hO3⟩, hB3⟩
        have hb3 := bolL_get (rbN ps (sel N (rbN ps s))[k]) hs
        rw [hp'] at hb3
        obtain ⟨g3, off3, hA3, _, hcell3, _⟩ := hO3.at_ hb3
        subst hA3
        clear hO3 hb3
        go_wp2
        go_ret
        exact ⟨by rw [HV.out]; rfl, hB12.trans ((hB.trans (hB3.mono hsz)).mono hz2)⟩
    · have HV : Hid (std (rbN ps) N s = true) := Lib.hid (std_iff.2 fun t ht h => by
        obtain ⟨j, hj, e⟩ := List.getElem_of_mem (mem_sel.2 ⟨ht, h⟩)
        have := HA.out j (by omega) hj
        rwa [e] at this)
      go_wp2
      go_ret
      exact ⟨by rw [HV.out]; rfl, hB12.trans (hB.mono hz2)⟩

end Go.Proofs.YtfkdameegljkeaaDoor

/- Walks of ReachableFrom, CanReach and IsSteady. Printed by wip/mkf.py. -/
namespace Go.Proofs.YtfkdameegljkeaaDoor
open Go.RowKit
set_option linter.unusedVariables false

theorem ReachableFrom1_any (b p5 k : Nat) (ks : List Int) (w : World) (h5 : w.cell? ⟨p5, 0, none⟩ = some (.map (some b))) (hS : Hid (SetAt w b ks)) :
    Calls Tryd.prog 39 #[.int .i64 (k : Int), .pointer (some ⟨p5, 0, none⟩)] w fun e w' => e = .returned (.bool (decide ((k : Int) ∈ ks))) ∧ w = w' := by
  have hrun := set_look hS.out (k : Int)
  obtain ⟨q, hq⟩ : ∃ q, q = decide ((k : Int) ∈ ks) := ⟨_, rfl⟩
  rw [← hq] at hrun ⊢
  clear hq
  go_enter Tryd.func39, Tryd.ntmps39
  go_wp2
  go_ret
  exact ⟨rfl, rfl⟩

set_option maxHeartbeats 400000 in
theorem ReachableFrom_any (s : ByteArray) (t : Int) (w : World) (hm : Hid (HasM w)) (hs : s.size ≤ 1073741824) :
    Calls Tryd.prog 16 #[.string s, .int .i64 t] w fun e w' => RetI w.heap.size (reaN (cutL s.data.toList) t) e w' ∧ Below w.heap.size w w' := by
  obtain ⟨ps, HPS⟩ : ∃ ps, Hid (ps = cutL s.data.toList) := ⟨_, rfl⟩
  rw [← HPS.out]
  by_cases h : okSt ps t = true
  · obtain ⟨hok, t, rfl, hlt⟩ := okSt_true h
    have hn5 := okN_le hok
    obtain ⟨N, HN, hN, hN32, hN0⟩ := wrap_two ps.length hn5
    have HOK := Lib.hid hok
    have HS := Lib.hid hlt
    have htN : t < N := by rw [HN.out]; exact hlt
    have HST := Lib.hid h
    have HV := Lib.hid (reaN_yes h HN.out)
    clear h hok hlt
    go_enter Tryd.func16, Tryd.ntmps16
    go_wp2_with fail
    refine (stateOf_any s ((t : Nat) : Int) w hm hs).mono ?_
    rintro e w1 ⟨⟨A, k0, c, rfl, himp⟩, hB1⟩
    rw [← HPS.out] at himp ⊢
    obtain ⟨rfl, hc, hO⟩ := himp HST.out
    rw [HST.out]
    have HR := Lib.hid hO.rd
    have hz1 := hB1.size
    clear hO himp
    go_wp2_with fail
    refine (reach_any _ _ _ N _ _ HR HOK HN htN).mono ?_
    rintro e w2 ⟨⟨b, met, rfl, hb, hS, hml, hM⟩, hB2⟩
    have HS2 := Lib.hid hS
    have HM2 := Lib.hid hM
    have hz2 := hB2.size
    have hbl := hS.lt
    have hB12 : Below w.heap.size w w2 := hB1.trans (hB2.mono hz1)
    clear hS hM hml
    have HX := Lib.hid (Blk.new w2 50 #[.map (some b)])
    have hBn : Below w2.heap.size w2 (w2.alloc (.cells #[.map (some b)] 50)) := (Below.refl _ _).alloc (Nat.le_refl _) _
    have HC : Hid (CloB (w2.alloc (.cells #[.map (some b)] 50)) N 39 #[.pointer (some ⟨w2.heap.size, 0, none⟩)] (rbN ps t)) := Lib.hid (fun k wX hk hBX => by
      have h := ReachableFrom1_any b w2.heap.size k (ints met) wX (((HX.out.keep hBX).cell 0).trans rfl) (Lib.hid (HS2.out.below (hBn.trans (hBX.mono (by rw [alloc_size]; omega)))))
      have e : decide ((k : Int) ∈ ints met) = rbN ps t k := by rw [← HM2.out k, Bool.eq_iff_iff, decide_eq_true_iff, decide_eq_true_iff, mem_ints]
      rw [e] at h
      exact h.mono fun e w' ⟨h1, h2⟩ => ⟨h1, by rw [← h2]; exact Below.refl _ _⟩)
    go_wp2_with fail
    refine (which_any _ _ _ N _ _ _ _ hn5 HN (fun _ _ => by kernel_rfl) HC).mono ?_
    rintro e w3 ⟨⟨A2, c2, rfl, hc2, hO2⟩, hB3⟩
    have hO2' := hO2.mono (show w.heap.size ≤ _ by rw [alloc_size]; omega)
    go_wp2
    go_ret
    exact ⟨⟨A2, c2, by rw [HV.out]; rfl, by rw [HV.out]; exact hc2, by rw [HV.out]; exact hO2'⟩, hB12.trans ((hBn.trans (hB3.mono (by rw [alloc_size]; omega))).mono hB12.size)⟩
  · have h' : okSt ps t = false := by simpa using h
    have HST := Lib.hid h'
    have HV := Lib.hid (reaN_no (t := t) h')
    clear h h'
    go_enter Tryd.func16, Tryd.ntmps16
    go_wp2_with fail
    refine (stateOf_any s t w hm hs).mono ?_
    rintro e w1 ⟨⟨A, k0, c, rfl, himp⟩, hB1⟩
    clear himp
    rw [← HPS.out, HST.out]
    go_wp2
    go_ret
    exact ⟨⟨none, 0, by rw [HV.out]; rfl, by rw [HV.out]; exact Nat.le_refl _, by rw [HV.out]; exact Own.nil _ _ _⟩, hB1⟩

set_option maxHeartbeats 400000 in
theorem CanReach_any (s : ByteArray) (t : Int) (u : Int) (w : World) (hm : Hid (HasM w)) (hs : s.size ≤ 1073741824) :
    Calls Tryd.prog 14 #[.string s, .int .i64 t, .int .i64 u] w fun e w' => e = .returned (.bool (canN (cutL s.data.toList) t u)) ∧ Below w.heap.size w w' := by
  obtain ⟨ps, HPS⟩ : ∃ ps, Hid (ps = cutL s.data.toList) := ⟨_, rfl⟩
  rw [← HPS.out]
  by_cases h : okSt ps t = true
  · obtain ⟨hok, t, rfl, hlt⟩ := okSt_true h
    have hn5 := okN_le hok
    obtain ⟨N, HN, hN, hN32, hN0⟩ := wrap_two ps.length hn5
    have HOK := Lib.hid hok
    have HS := Lib.hid hlt
    have htN : t < N := by rw [HN.out]; exact hlt
    have HST := Lib.hid h
    have HV := Lib.hid (trivial)
    clear h hok hlt
    go_enter Tryd.func14, Tryd.ntmps14
    go_wp2_with fail
    refine (stateOf_any s ((t : Nat) : Int) w hm hs).mono ?_
    rintro e w1 ⟨⟨A, k0, c, rfl, himp⟩, hB1⟩
    rw [← HPS.out] at himp ⊢
    obtain ⟨rfl, hc, hO⟩ := himp HST.out
    rw [HST.out]
    have HR := Lib.hid hO.rd
    have hz1 := hB1.size
    clear hO himp
    by_cases hu0 : 0 ≤ u
    · by_cases huN : u < N
      · obtain ⟨u, rfl⟩ : ∃ n : Nat, u = n := ⟨u.toNat, by omega⟩
        have HV2 := Lib.hid (canN_yes (u := u) HST.out HN.out (by omega))
        have huN' : u < N := by omega
        go_wp2_with fail
        refine (states_any _ _ _ N _ hn5 HN).mono ?_
        rintro e w5 ⟨rfl, rfl⟩
        go_wp2_with fail
        refine (reach_any _ _ _ N _ _ HR HOK HN htN).mono ?_
        rintro e w2 ⟨⟨b, met, rfl, hb, hS, hml, hM⟩, hB2⟩
        have hlk := set_look hS (u : Int)
        have e : decide ((u : Int) ∈ ints met) = rbN ps t u := by rw [← hM u, Bool.eq_iff_iff, decide_eq_true_iff, decide_eq_true_iff, mem_ints]
        rw [e] at hlk
        clear e hM hml hS
        have hB12 : Below w.heap.size w w2 := hB1.trans (hB2.mono hz1)
        go_wp2
        go_ret
        exact ⟨by rw [HV2.out]; first | rfl | simp, hB12⟩
      · have HV2 := Lib.hid (canN_out (ps := ps) (t := t) (u := u) HN.out (by omega))
        go_wp2_with fail
        refine (states_any _ _ _ N _ hn5 HN).mono ?_
        rintro e w5 ⟨rfl, rfl⟩
        go_wp2
        go_ret
        exact ⟨by rw [HV2.out]; rfl, hB1⟩
    · have HV2 := Lib.hid (canN_out (ps := ps) (t := t) (u := u) HN.out (by omega))
      go_wp2
      go_ret
      exact ⟨by rw [HV2.out]; rfl, hB1⟩
  · have h' : okSt ps t = false := by simpa using h
    have HST := Lib.hid h'
    have HV := Lib.hid (canN_no (t := t) (u := u) h')
    clear h h'
    go_enter Tryd.func14, Tryd.ntmps14
    go_wp2_with fail
    refine (stateOf_any s t w hm hs).mono ?_
    rintro e w1 ⟨⟨A, k0, c, rfl, himp⟩, hB1⟩
    clear himp
    rw [← HPS.out, HST.out]
    go_wp2
    go_ret
    exact ⟨by rw [HV.out]; rfl, hB1⟩

set_option maxHeartbeats 400000 in
theorem IsSteady_any (s : ByteArray) (t : Int) (w : World) (hm : Hid (HasM w)) (hs : s.size ≤ 1073741824) :
    Calls Tryd.prog 12 #[.string s, .int .i64 t] w fun e w' => e = .returned (.bool (stdN (cutL s.data.toList) t)) ∧ Below w.heap.size w w' := by
  obtain ⟨ps, HPS⟩ : ∃ ps, Hid (ps = cutL s.data.toList) := ⟨_, rfl⟩
  rw [← HPS.out]
  by_cases h : okSt ps t = true
  · obtain ⟨hok, t, rfl, hlt⟩ := okSt_true h
    have hn5 := okN_le hok
    obtain ⟨N, HN, hN, hN32, hN0⟩ := wrap_two ps.length hn5
    have HOK := Lib.hid hok
    have HS := Lib.hid hlt
    have htN : t < N := by rw [HN.out]; exact hlt
    have HST := Lib.hid h
    have HV := Lib.hid (stdN_yes h HN.out)
    clear h hok hlt
    go_enter Tryd.func12, Tryd.ntmps12
    go_wp2_with fail
    refine (stateOf_any s ((t : Nat) : Int) w hm hs).mono ?_
    rintro e w1 ⟨⟨A, k0, c, rfl, himp⟩, hB1⟩
    rw [← HPS.out] at himp ⊢
    obtain ⟨rfl, hc, hO⟩ := himp HST.out
    rw [HST.out]
    have HR := Lib.hid hO.rd
    have hz1 := hB1.size
    clear hO himp
    go_wp2_with fail
    refine (steady_any _ _ _ N _ _ HR HOK HN htN).mono ?_
    rintro e w2 ⟨rfl, hB2⟩
    have hB12 : Below w.heap.size w w2 := hB1.trans (hB2.mono hz1)
    go_wp2
    go_ret
    exact ⟨by rw [HV.out]; first | rfl | simp, hB12⟩
  · have h' : okSt ps t = false := by simpa using h
    have HST := Lib.hid h'
    have HV := Lib.hid (stdN_no (t := t) h')
    clear h h'
    go_enter Tryd.func12, Tryd.ntmps12
    go_wp2_with fail
    refine (stateOf_any s t w hm hs).mono ?_
    rintro e w1 ⟨⟨A, k0, c, rfl, himp⟩, hB1⟩
    clear himp
    rw [← HPS.out, HST.out]
    go_wp2
    go_ret
    exact ⟨by rw [HV.out]; rfl, hB1⟩

end Go.Proofs.YtfkdameegljkeaaDoor

/- Plain facts on cycles. -/
namespace Go.Proofs.YtfkdameegljkeaaDoor
open Go.RowKit

def minN (r : List Nat) : Nat := r.foldl min (r.headD 0)
/-- where the least one stands first -/
def mni (r : List Nat) : Nat := r.idxOf (minN r)
theorem foldl_min : ∀ (l : List Nat) (a : Nat), l.foldl min a ≤ a ∧ (∀ x ∈ l, l.foldl min a ≤ x) ∧ (l.foldl min a = a ∨ l.foldl min a ∈ l)
  | [], a => by simp
  | b :: l, a => by
    have ⟨h1, h2, h3⟩ := foldl_min l (min a b)
    rw [List.foldl_cons]
    refine ⟨by omega, fun x hx => ?_, ?_⟩
    · rcases List.mem_cons.1 hx with rfl | hx
      · omega
      · exact h2 x hx
    · rcases h3 with h3 | h3
      · rw [h3]
        by_cases hab : a ≤ b
        · left; omega
        · right; rw [show min a b = b by omega]; simp
      · right; exact List.mem_cons_of_mem _ h3
theorem minN_le {r : List Nat} {x : Nat} (h : x ∈ r) : minN r ≤ x := (foldl_min r _).2.1 x h
theorem minN_mem {r : List Nat} (h : r ≠ []) : minN r ∈ r := by
  cases r with
  | nil => exact absurd rfl h
  | cons a l =>
    rcases (foldl_min (a :: l) a).2.2 with h2 | h2
    · have : minN (a :: l) = a := h2
      rw [this]; simp
    · exact h2
theorem mni_lt {r : List Nat} (h : r ≠ []) : mni r < r.length := List.idxOf_lt_length_iff.2 (minN_mem h)
theorem mni_get {r : List Nat} (h : r ≠ []) : r[mni r]'(mni_lt h) = minN r := List.getElem_idxOf (mni_lt h)
/-- the search of the least one -/
theorem mni_of {r : List Nat} {k : Nat} (hk : k < r.length) (h1 : ∀ j, (hj : j < r.length) → r[k] ≤ r[j]) (h2 : ∀ j, (hj : j < k) → r[k] < r[j]) : mni r = k := by
  have hne : r ≠ [] := by intro e; subst e; simp at hk
  have hm : r[k] = minN r := by
    have a := minN_le (List.getElem_mem hk)
    obtain ⟨j, hj, e⟩ := List.getElem_of_mem (minN_mem hne)
    have b := h1 j hj
    omega
  exact (idxOf_first hk hm (fun j hj => by have := h2 j hj; omega)).2
theorem minOf_ints (r : List Nat) : Lib.minOf (ints r) = (minN r : Int) := by
  have key : ∀ (l : List Nat) (a : Nat), (ints l).foldl min (a : Int) = ((l.foldl min a : Nat) : Int) := by
    intro l
    induction l with
    | nil => intro a; rfl
    | cons b l ih =>
      intro a
      have := ih (min a b)
      rw [List.foldl_cons, ← this]
      show (ints l).foldl min (min (a : Int) (b : Int)) = _
      congr 1
      omega
  unfold Lib.minOf minN
  cases r with
  | nil => rfl
  | cons a l => exact key (a :: l) a
theorem idxOf_ints {r : List Nat} (h : r ≠ []) : Lib.idxOf (ints r) ((minN r : Nat) : Int) = (mni r : Int) := by
  have hk := mni_lt h
  have hl : (ints r).length = r.length := ints_length r
  have hg : ∀ j, (hj : j < r.length) → (ints r).getD j 0 = (r[j] : Int) := fun j hj => by simp [ints, hj]
  have := Lib.idxOf_hit (ints r) r.length (mni r) ((minN r : Nat) : Int) hk (by omega) (by rw [hg _ hk, mni_get h]) (fun j hj e => by
    rw [hg j (by omega)] at e
    have e2 : r[j]'(by omega) = minN r := by omega
    have h3 : ¬ mni r ≤ j := by omega
    have h4 := List.not_of_lt_findIdx (p := fun x => x == minN r) (xs := r) (i := j) (by simpa [mni, List.idxOf] using hj)
    simp [e2] at h4)
  rwa [List.take_of_length_le (by omega)] at this
/-- turned so that the least one comes first -/
def rot (r : List Nat) : List Nat := r.drop (mni r) ++ r.take (mni r)
theorem rot_length (r : List Nat) : (rot r).length = r.length := by
  rw [rot, List.length_append, List.length_drop, List.length_take]; omega
theorem rot_head {r : List Nat} (h : r ≠ []) : ∃ l, rot r = minN r :: l := by
  have hk := mni_lt h
  refine ⟨r.drop (mni r + 1) ++ r.take (mni r), ?_⟩
  rw [rot, ← mni_get h, ← List.cons_append, List.getElem_cons_drop]
/-- the round of a state: the states that come again -/
def rnd (f : Nat → Nat) (s : Nat) : List Nat := (orb f s).1.drop (orb f s).2
/-- the cycle of a state -/
def cyc (f : Nat → Nat) (s : Nat) : List Nat := rot (rnd f s)
/-- its least state -/
def cy0 (f : Nat → Nat) (s : Nat) : Nat := minN (rnd f s)
section
variable {f : Nat → Nat} {N s : Nat} (hN : N ≤ 32) (hf : ∀ x, x < N → f x < N) (hs : s < N)
include hN hf hs
theorem rnd_ne : rnd f s ≠ [] := by
  have h := (orb_all hN hf hs).2.1
  intro e
  have := congrArg List.length e
  rw [rnd, List.length_drop, List.length_nil] at this
  omega
theorem rnd_len : (rnd f s).length ≤ N ∧ 0 < (rnd f s).length := by
  have h := orb_all hN hf hs
  rw [rnd, List.length_drop]
  omega
theorem rnd_lt : ∀ x ∈ rnd f s, x < N := fun x hx => (orb_all hN hf hs).2.2 x (List.mem_of_mem_drop hx)
theorem cyc_len : (cyc f s).length ≤ N ∧ 0 < (cyc f s).length := by rw [cyc, rot_length]; exact rnd_len hN hf hs
theorem cyc_head : ∃ l, cyc f s = cy0 f s :: l := rot_head (rnd_ne hN hf hs)
theorem cyc_lt : ∀ x ∈ cyc f s, x < N := fun x hx => by
  rw [cyc, rot] at hx
  rcases List.mem_append.1 hx with hx | hx
  · exact rnd_lt hN hf hs x (List.mem_of_mem_drop hx)
  · exact rnd_lt hN hf hs x (List.mem_of_mem_take hx)
end
end Go.Proofs.YtfkdameegljkeaaDoor

/- Walks of the functions on cycles. -/
namespace Go.Proofs.YtfkdameegljkeaaDoor
open Go.RowKit
set_option linter.unusedVariables false

/-- append of a list of integers -/
theorem wp_catI {P : Program} {wr : World} {ops : Array Oper} {rest : List Oper} {o : Oper} {a : Act} {Q : Exit → Act → World → Prop} (hgd : o.guard = none) (s x : Operand) (t : TypeId)
    (ho : o.op = .call { callee := .builtin .append, args := #[s, x], argTypes := #[t, t] })
    {B e n c : Nat} {ad : Addr} (ht : P.underlying t = some (.slice e)) (hinf : (P.info? e).map (fun i => (i.zero, i.size, i.bytes)) = some (some (.int .i64 0), 1, 8))
    {v : Value} {xs ys : List Int} (hown : OI wr B e v xs) (hs : a.eval s = v) (hx : a.eval x = .slice (some ad) n c) (hn : ys.length = n) (hr : ∀ j u, (ys.map (Value.int .i64))[j]? = some u → wr.cell? (ad.add j) = some u)
    (hl : xs.length + n ≤ 1099511627776) (hB : B ≤ wr.heap.size)
    (h : ∀ v' w', OI w' B e v' (xs ++ ys) → (∀ B', B' ≤ B → Below B' wr w') → wr.heap.size ≤ w'.heap.size → (∀ g, g < wr.heap.size → v.ownBlock ≠ some g → w'.heap[g]? = wr.heap[g]? ∧ v'.ownBlock ≠ some g) → wpList P ops Q rest (a.put o.dst v') w') :
    wpList P ops Q (o :: rest) a wr := by
  obtain ⟨i, hi, hiz, his, hib⟩ := info_parts hinf
  refine wpList_append_own_at _ hgd s x t ho B e i (.int .i64 0) 1 8 ht hi hiz his hib rfl (by omega) v xs.length (xs.map (Value.int .i64)) hs hown ad n c (ys.map (Value.int .i64)) hx (by simp [hn]) hr ?_ (by simp only [maxLen]; omega) (by omega) (by omega) ?_
  · intro y hy
    obtain ⟨z, _, rfl⟩ := List.mem_map.1 hy
    rfl
  · intro v' w' h1 h2 _ h4
    refine h v' w' (by unfold OI; rw [List.map_append, List.length_append, hn]; exact h1) (fun B' hB' => ⟨h2.os, h2.tape, h2.output, h2.size, fun k hk => h2.block k (by omega) (fun e => ?_)⟩) h2.size (fun g hg hne => ⟨h2.block g hg (fun e => hne e.symm), ?_⟩)
    · have := (World.ownsRow.lt hown k e.symm).1
      omega
    · rcases h4 with h4 | h4
      · rw [h4]; exact hne
      · rw [h4]; intro e; injection e; omega
/-- .. as one step of a region that draws its order -/
theorem step_catI {P : Program} {wr : World} {ops : Array Oper} {o : Oper} {a : Act} {K : Act → World → Prop} {Q : Exit → Act → World → Prop} {E : Prop} (hgd : o.guard = none) (s x : Operand) (t : TypeId)
    (ho : o.op = .call { callee := .builtin .append, args := #[s, x], argTypes := #[t, t] })
    {B e n c : Nat} {ad : Addr} (ht : P.underlying t = some (.slice e)) (hinf : (P.info? e).map (fun i => (i.zero, i.size, i.bytes)) = some (some (.int .i64 0), 1, 8))
    {v : Value} {xs ys : List Int} (hown : OI wr B e v xs) (hs : a.eval s = v) (hx : a.eval x = .slice (some ad) n c) (hn : ys.length = n) (hr : ∀ j u, (ys.map (Value.int .i64))[j]? = some u → wr.cell? (ad.add j) = some u)
    (hl : xs.length + n ≤ 1099511627776) (hB : B ≤ wr.heap.size)
    (h : ∀ v' w', OI w' B e v' (xs ++ ys) → (∀ B', B' ≤ B → Below B' wr w') → wr.heap.size ≤ w'.heap.size → K (a.put o.dst v') w') :
    if Region.wanted o (yielded ops a.tmps) = true then Oper.wp P o a wr K Q else E := by
  have hw : Region.wanted o (yielded ops a.tmps) = true := by simp [Region.wanted, hgd]
  rw [if_pos hw]
  obtain ⟨i, hi, hiz, his, hib⟩ := info_parts hinf
  obtain ⟨v', w', hrun, h1, h2, _⟩ := run_append_own (P := P) wr B t o.type e i (.int .i64 0) 1 8 ht hi hiz his hib rfl (by omega) v xs.length (xs.map (Value.int .i64)) hown ad n c (ys.map (Value.int .i64)) (by simp [hn]) hr (by
    intro y hy
    obtain ⟨z, _, rfl⟩ := List.mem_map.1 hy
    rfl) (by simp only [maxLen]; omega) (by omega) hB
  unfold Oper.wp
  simp [execOp, ho, resolve, invoke, builtin, hs, hx, hrun, Result.andThen]
  refine h v' w' (by unfold OI; rw [List.map_append, List.length_append, hn]; exact h1) (fun B' hB' => ⟨h2.os, h2.tape, h2.output, h2.size, fun k hk => h2.block k (by omega) (fun e => ?_)⟩) h2.size
  have := (World.ownsRow.lt hown k e.symm).1
  omega
theorem add_none (g off j : Nat) : (⟨g, off, none⟩ : Addr).add j = ⟨g, off + j, none⟩ := by unfold Addr.add; split <;> simp_all
/-- a slice of integers is readable from a place on -/
theorem Rd.drop_ {w : World} {g off k : Nat} {vs : List Value} (h : Rd w (some ⟨g, off, none⟩) vs) : Rd w (some ⟨g, off + k, none⟩) (vs.drop k) := by
  rcases h with h | ⟨g', off', hA, hc⟩
  · left; rw [h]; simp
  · injection hA with hA
    injection hA with h1 h2
    subst h1; subst h2
    refine .inr ⟨g, off + k, rfl, fun j v hj => ?_⟩
    rw [List.getElem?_drop] at hj
    rw [Nat.add_assoc]
    exact hc _ _ hj
theorem Rd.take_ {w : World} {A : Option Addr} {k : Nat} {vs : List Value} (h : Rd w A vs) : Rd w A (vs.take k) := by
  rcases h with h | ⟨g, off, hA, hc⟩
  · left; rw [h]; simp
  · refine .inr ⟨g, off, hA, fun j v hj => ?_⟩
    rw [List.getElem?_take] at hj
    split at hj
    · exact hc _ _ hj
    · cases hj
theorem Rd.adds {w : World} {g off : Nat} {vs : List Value} (h : Rd w (some ⟨g, off, none⟩) vs) : ∀ j u, vs[j]? = some u → w.cell? ((⟨g, off, none⟩ : Addr).add j) = some u := fun j u hj => by
  rw [add_none]; exact h.cell hj
theorem ints_drop (l : List Nat) (k : Nat) : (ints l).drop k = ints (l.drop k) := by simp [ints, List.map_drop]
theorem ints_take (l : List Nat) (k : Nat) : (ints l).take k = ints (l.take k) := by simp [ints, List.map_take]

end Go.Proofs.YtfkdameegljkeaaDoor

