/- Walks and plain facts, joined: Wj Wg Mk Y2 Mv Mw Wq Y3 Yd Yh Yl Yt. -/
import Derived.Test.YtpehimjngofnkaaDoorProg
import Derived.WalkKit
import Derived.WalkSpells
import Derived.WalkLawsBesides
import Derived.Lib.Hide
import Derived.Deep.QuietTactic
import Derived.Deep.LoopGhost
import Derived.BigQuiet
import Derived.Test.YtpehimjngofnkaaDoorG2
import Derived.Test.YtpehimjngofnkaaDoorG3
import Derived.Carry
import Derived.Lib.Slices
import Derived.Lib.AppendZerosOnto
import Derived.Deep.RegionHeld3
import Derived.Deep.RegionWith
import Derived.Deep.RegionLaw
import Derived.Test.YtpehimjngofnkaaDoorSh
import Derived.Test.YtpehimjngofnkaaDoorG1
/- Walks of the reference's l5Reach, l5Sorted and l5Steady. -/
namespace Go.Proofs.YtpehimjngofnkaaDoor
open Go.RowKit
set_option linter.unusedVariables false

/-- the truths of the first N states -/
def bolL (N : Nat) (p : Nat → Bool) : List Value := (List.range N).map fun t => .bool (p t)
theorem bolL_length (N : Nat) (p : Nat → Bool) : (bolL N p).length = N := by simp [bolL]
theorem bolL_get {N t : Nat} (p : Nat → Bool) (h : t < N) : (bolL N p)[t]? = some (.bool (p t)) := by simp [bolL, h]
theorem bolL_none (N : Nat) : (bolL N fun t => decide (t ∈ ([] : List Nat))).toArray = Array.replicate N (.bool false) := by
  apply Array.ext'
  simp [bolL, List.map_const']
theorem bolL_set {N : Nat} {met : List Nat} (t : Nat) : (bolL N fun x => decide (x ∈ met)).toArray.setIfInBounds t (.bool true) = (bolL N fun x => decide (x ∈ met ++ [t])).toArray := by
  apply Array.ext'
  rw [Array.toList_setIfInBounds]
  apply List.ext_getElem?
  intro j
  rw [List.getElem?_set, List.toList_toArray, List.toList_toArray]
  by_cases hj : j < N
  · rw [bolL_get _ hj, bolL_get _ hj, bolL_length]
    by_cases e : t = j
    · subst e; simp [hj]
    · have e2 : ¬ j = t := fun h => e h.symm
      simp [e, e2]
  · rw [List.getElem?_eq_none (l := bolL N fun x => decide (x ∈ met ++ [t])) (by rw [bolL_length]; omega), List.getElem?_eq_none (l := bolL N fun x => decide (x ∈ met)) (by rw [bolL_length]; omega), bolL_length]
    split
    · rename_i e; subst e; rw [if_neg hj]
    · rfl
theorem bolL_congr {N : Nat} {p q : Nat → Bool} (h : ∀ t, p t = q t) : bolL N p = bolL N q := by
  have : p = q := funext h
  rw [this]
theorem bolL_own {w : World} {g B N : Nat} {t : TypeId} {p : Nat → Bool} (h : Blk w g t (bolL N p).toArray) (hB : B ≤ g) : Own w B (some ⟨g, 0, none⟩) (bolL N p) :=
  .inr ⟨g, 0, rfl, hB, fun j v hj => by
    rw [Nat.zero_add, h.cell, h.frozen, List.getElem?_toArray]
    exact ⟨hj, rfl⟩⟩
/-- it returns the truths of the first N states, in memory from block B on -/
def RetB (B N : Nat) (p : Nat → Bool) (e : Ending) (w' : World) : Prop := ∃ A c, e = .returned (.slice A N c) ∧ N ≤ c ∧ Own w' B A (bolL N p)

theorem l5Sorted_any (A : Option Addr) (c N : Nat) (p : Nat → Bool) (w : World) (hx : Hid (Rd w A (bolL N p))) (hN : N ≤ 32) :
    Calls Tryd.prog 107 #[.slice A N c] w fun e w' => RetI w.heap.size (ints (sel N p)) e w' ∧ Below w.heap.size w w' := by
  go_enter Tryd.func107, Tryd.ntmps107
  go_wp2
  go_loopw [3, 4] (fun v q wr => ∃ k : Nat, k ≤ N ∧ q = .int .i64 k ∧ Hid (OI wr w.heap.size 3 v (ints (sel k p))) ∧ Below w.heap.size w wr) (fun _ q _ => N - (intOf q).toNat)
  case atStart => exact ⟨0, Nat.zero_le _, rfl, Lib.hid (OI.empty _ _ _ (Nat.le_refl _)), (Below.refl _ _).alloc (Nat.le_refl _) _⟩
  case round =>
    obtain ⟨k, hk, rfl, HO, hB⟩ := hrel
    have hsz := hB.size
    have hlen : (ints (sel k p)).length ≤ k := by rw [ints_length]; exact sel_len _ _
    by_cases hlt : k < N
    · obtain ⟨g, off, hA, hcell⟩ := (hx.out.below hB).at_ (bolL_get p hlt)
      subst hA
      by_cases hp : p k = true
      · have HE := Lib.hid (sel_yesI hp)
        rw [hp] at hcell
        go_wp2_with (at_builtin; refine wp_pushI rfl _ _ _ rfl Tryd.underlying22 info_int HO.out rfl rfl (by omega) hsz ?_; intro v' w3 hown hbel hsz3)
        go_roundw
        case rel => exact ⟨k + 1, by omega, by go_num, Lib.hid (by rw [HE.out]; exact hown), hB.trans (hbel _ (Nat.le_refl _))⟩
        case measure => simp [intOf]; omega
      · have hp' : p k = false := by simpa using hp
        have HE := Lib.hid (sel_noI hp')
        rw [hp'] at hcell
        clear hp
        go_wp2_with fail
        go_roundw
        case rel => exact ⟨k + 1, by omega, by go_num, Lib.hid (by rw [HE.out]; exact HO.out), hB⟩
        case measure => simp [intOf]; omega
    · have hkn : k = N := by omega
      subst hkn
      obtain ⟨A', c', hv, hc, hO⟩ := HO.out.form
      have HV := Lib.hid hv
      clear hv
      go_wp2
      go_ret
      exact ⟨⟨A', c', by rw [← HV.out]; rfl, hc, hO⟩, hB⟩

theorem info_bool : (Tryd.prog.info? 4).map (fun i => (i.zero, i.size, i.bytes)) = some (some (.bool false), 1, 1) := by kernel_rfl
set_option maxHeartbeats 1000000 in
theorem l5Reach_any (A : Option Addr) (c s N : Nat) (ps : List (List UInt8)) (w : World) (hx : Hid (Rd w A (strs ps))) (hok : Hid (okN ps = true)) (HN : Hid (N = 2 ^ ps.length)) (hs : s < N) :
    Calls Tryd.prog 106 #[.slice A ps.length c, .int .i64 (s : Int)] w fun e w' => RetB w.heap.size N (rbN ps s) e w' ∧ Below w.heap.size w w' := by
  have hn5 := okN_le hok.out
  have hN32 : N ≤ 32 := by rw [HN.out]; exact two_le _ hn5
  have HNL := Lib.hid (next_lt hok.out HN.out)
  have hmk := make_row Tryd.underlying103 info_bool rfl N (by omega) (by omega)
  have hc0 : (w.alloc (.cells (Array.replicate N (.bool false)) 4)).cell? ⟨w.heap.size, s, none⟩ = some (.bool false) := by rw [cell_new]; simp [hs]
  have hf0 := frozen_new w (Array.replicate N (.bool false)) 4 s
  have HB0 : Hid (Blk (w.alloc (.cells (Array.replicate N (.bool false)) 4)) w.heap.size 4 (bolL N fun t => decide (t ∈ ([] : List Nat))).toArray) := Lib.hid (by rw [bolL_none]; exact Blk.new _ _ _)
  have hBa : Below w.heap.size w (w.alloc (.cells (Array.replicate N (.bool false)) 4)) := (Below.refl _ _).alloc (Nat.le_refl _) _
  go_enter Tryd.func106, Tryd.ntmps106
  go_wp2_with (go_at_call 105; refine (l3All_any _ _ _ N _ hn5 HN).mono ?_; rintro e w2 ⟨rfl, rfl⟩)
  go_loopg [6] (2 * N) (fun gk v wr => ∃ (met todo : List Nat) (g off cap : Nat), todo.length + 2 * (N - met.length) ≤ gk ∧ Hid (SrchI (nextN ps) N s met todo) ∧ Hid (Blk wr w.heap.size 4 (bolL N fun x => decide (x ∈ met)).toArray) ∧ Hid (QI wr (w.heap.size + 1) g off cap v (ints todo)) ∧ gk ≤ 64 ∧ Below w.heap.size w wr)
  case atStart =>
    have HX : Hid (Blk (w.alloc (.cells ((Array.replicate N (.bool false)).setIfInBounds s (.bool true)) 4)) w.heap.size 4 (bolL N fun t => decide (t ∈ [s])).toArray) := Lib.hid (by
      have h : (bolL N fun x => decide (x ∈ ([] : List Nat))).toArray.setIfInBounds s (.bool true) = (bolL N fun x => decide (x ∈ [s])).toArray := bolL_set (met := []) s
      rw [bolL_none] at h
      rw [h]
      exact Blk.new _ _ _)
    refine ⟨[s], [s], w.heap.size + 1, 0, 1, ?_, Lib.hid (SrchI.first _ hs), ?_, ?_, by omega, ?_⟩
    · simp; omega
    · exact Lib.hid (HX.out.keep ((Below.refl _ _).alloc (Nat.le_refl _) _))
    · have h := QI.one (w.alloc (.cells ((Array.replicate N (.bool false)).setIfInBounds s (.bool true)) 4)) (w.heap.size + 1) 3 (s : Int) (by rw [alloc_size]; exact Nat.le_refl _)
      rw [alloc_size] at h
      exact Lib.hid h
    · exact ((Below.refl _ _).alloc (Nat.le_refl _) _).alloc (by rw [alloc_size]; omega) _
  case round =>
    obtain ⟨met, todo, g, off, cap, hgk, HI, HS, HQ, htl, hB⟩ := hrel
    have hsz := hB.size
    have hbl := HS.out.lt
    have hml := HI.out.len
    have hv := HQ.out.1
    have hil : (ints todo).length = todo.length := ints_length _
    rw [hil] at hv
    subst hv
    cases todo with
    | nil =>
      have HM : Hid ((bolL N fun x => decide (x ∈ met)) = bolL N (rbN ps s)) := Lib.hid (bolL_congr (HI.out.mem hok.out HN.out hs))
      go_wp2
      go_ret
      exact ⟨⟨_, N, rfl, Nat.le_refl _, by rw [← HM.out]; exact bolL_own HS.out (Nat.le_refl _)⟩, hB⟩
    | cons t todo =>
      have htm : t ∈ met := HI.out.sd t (by simp)
      have htN : t < N := HI.out.lt t htm
      have hcell : wr.cell? ⟨g, off, none⟩ = some (.int .i64 (t : Int)) := HQ.out.2.2.2.2.2 0 (t : Int) (by simp [ints])
      have HJ : Hid (SrchJ (nextN ps) N s t 0 met todo) := Lib.hid (HI.out.open_ (by simp) (by intro x hx; simp [hx]) (by intro x hx; simp at hx; exact hx))
      have hcap := HQ.out.2.2.2.1
      have hgl := HQ.out.2.2.1
      have hgb := HQ.out.2.1
      rw [hil] at hcap
      have hl1 : (t :: todo).length = todo.length + 1 := by simp
      rw [hl1] at hcap hgk ⊢
      have HS2 : Hid (t < 2 ^ ps.length) := Lib.hid (by rw [← HN.out]; exact htN)
      have HR := Lib.hid (hx.out.below hB)
      clear hil
      have HQa : Hid (¬ cap = 1 → QI wr (w.heap.size + 1) g (off + 1) (cap - 1) (.slice (some ⟨g, off + 1, none⟩) todo.length (cap - 1)) (ints todo)) := Lib.hid (fun _ => by
        have h := QI.tail (x := (t : Int)) (xs := ints todo) HQ.out
        rwa [ints_length] at h)
      have HQb : Hid (cap = 1 → QI wr (w.heap.size + 1) g off 0 (.slice (some ⟨g, off, none⟩) todo.length 0) (ints todo)) := Lib.hid (fun h1 => by
        have h := QI.tail1 (x := (t : Int)) (xs := ints todo) HQ.out h1
        rwa [ints_length, h1] at h)
      have hnl := nextN_len hok.out t
      have hil3 : (ints (nextN ps t)).length = (nextN ps t).length := ints_length _
      go_wp2_with (go_at_call 103; refine (l5Next_any _ _ _ _ _ HR hok HS2).mono ?_; rintro e w3 ⟨⟨A3, c3, rfl, hc3, hO3⟩, hB3⟩)
      all_goals
        have HRB := Lib.hid (RdB.of_own hO3 hgl hbl)
        clear hO3
        go_loopw [6, 8] (fun v q wr2 => ∃ (j : Nat) (met todo : List Nat) (g off cap : Nat), j ≤ (nextN ps t).length ∧ q = .int .i64 j ∧ todo.length + 2 * (N - met.length) < gk ∧ Hid (SrchJ (nextN ps) N s t j met todo) ∧ Hid (Blk wr2 w.heap.size 4 (bolL N fun x => decide (x ∈ met)).toArray) ∧ Hid (QI wr2 (w.heap.size + 1) g off cap v (ints todo)) ∧ Hid (RdB wr2 A3 ((ints (nextN ps t)).map (Value.int .i64)) g w.heap.size) ∧ Below w.heap.size w wr2) (fun _ q _ => (nextN ps t).length - (intOf q).toNat)
        case atStart => exact ⟨0, met, todo, g, _, _, Nat.zero_le _, rfl, by omega, HJ, Lib.hid (HS.out.keep hB3), by first | exact Lib.hid ((HQa.out ‹_›).below hB3) | exact Lib.hid ((HQb.out ‹_›).below hB3), HRB, hB.trans (hB3.mono hsz)⟩
        case round =>
          obtain ⟨j, met2, todo2, g2, off2, cap2, hj, rfl, hgk2, HJ2, HS3, HQ2, HRB2, hB2⟩ := hrel
          have hsz2 := hB2.size
          have hv2 := HQ2.out.1
          rw [ints_length] at hv2
          subst hv2
          have hml2 := HJ2.out.len
          have hgb2 := HQ2.out.2.1
          have hgl2 := HQ2.out.2.2.1
          by_cases hlt : j < (nextN ps t).length
          · obtain ⟨g3, off3, hA, hng, hnb, hcell3⟩ := HRB2.out.at2 (nextN_get hlt)
            subst hA
            have hu : (nextN ps t)[j]? = some (nextN ps t)[j] := List.getElem?_eq_getElem hlt
            have huN : (nextN ps t)[j] < N := HNL.out t htN _ (List.getElem_mem hlt)
            by_cases hm : (nextN ps t)[j] ∈ met2
            · have hcu : wr.cell? ⟨w.heap.size, (nextN ps t)[j], none⟩ = some (.bool true) := by
                rw [HS3.out.cell, List.getElem?_toArray, bolL_get _ huN, decide_eq_true hm]
              have HJ3 := Lib.hid (HJ2.out.skip hu hm)
              clear hm hu
              go_wp2_with fail
              go_roundw
              case rel => exact ⟨j + 1, met2, todo2, g2, off2, cap2, by omega, by go_num, hgk2, HJ3, HS3, HQ2, HRB2, hB2⟩
              case measure => simp [intOf]; omega
            · have hcu : wr.cell? ⟨w.heap.size, (nextN ps t)[j], none⟩ = some (.bool false) := by
                rw [HS3.out.cell, List.getElem?_toArray, bolL_get _ huN, decide_eq_false hm]
              have hfu := HS3.out.frozen (nextN ps t)[j]
              have HJ3 := Lib.hid (HJ2.out.push hu huN hm)
              clear hm hu
              have hcell4 := (World.cell?_setCell_other wr ⟨w.heap.size, (nextN ps t)[j], none⟩ ⟨g3, off3 + j, none⟩ (.bool true) (by intro e; injection e with e; exact hnb e.symm)).trans hcell3
              have hml3 := HJ3.out.len
              rw [List.length_append, List.length_singleton] at hml3
              go_wp2_with (at_builtin; refine wp_pushQ rfl _ _ _ rfl Tryd.underlying22 info_int ((HQ2.out.blk ((only_setCell _ _ _ _).block g2 hgl2 (by intro e; injection e; omega)) (by rw [setCell_size]; exact Nat.le_refl _))) rfl (by rw [setCell_size]; rfl) (by rw [ints_length]; omega) (by rw [setCell_size]; omega) ?_; intro v5 w5 g5 off5 cap5 hQ5 hbel5 hsz5 hfr5)
              have HS5 : Hid (Blk w5 w.heap.size 4 (bolL N fun x => decide (x ∈ met2 ++ [(nextN ps t)[j]])).toArray) := Lib.hid (by
                have h := HS3.out.set_ (nextN ps t)[j] (.bool true)
                rw [bolL_set] at h
                exact (hfr5 _ h.lt (by omega)).1.trans h)
              have HR5 := Lib.hid ((HRB2.out.blk (g' := g2) (fun k hk h1 h2 => ⟨(only_setCell wr w.heap.size (nextN ps t)[j] (.bool true)).block k hk (by intro e; injection e with e; exact h2 e), h1⟩)).blk (fun k hk h1 h2 => hfr5 k hk h1))
              have HQ5 : Hid (QI w5 (w.heap.size + 1) g5 off5 cap5 v5 (ints (todo2 ++ [(nextN ps t)[j]]))) := Lib.hid (by rw [ints_append]; exact hQ5)
              have hB5 : Below w.heap.size w w5 := (hB2.setCell (by show w.heap.size ≤ w.heap.size; omega) _).trans (hbel5 _ (by omega))
              clear hfr5 hQ5 hbel5
              go_roundw
              case rel => exact ⟨j + 1, met2 ++ [(nextN ps t)[j]], todo2 ++ [(nextN ps t)[j]], g5, off5, cap5, by omega, by go_num, by simp; omega, HJ3, HS5, HQ5, HR5, hB5⟩
              case measure => simp [intOf]; omega
          · have HI2 := Lib.hid (HJ2.out.close (by omega))
            go_wp2_with fail
            go_roundg (gk - 1)
            case rel => exact ⟨met2, todo2, g2, off2, cap2, by omega, HI2, HS3, HQ2, by omega, hB2⟩
            case measure => omega

theorem l5Steady_any (A : Option Addr) (c s N : Nat) (ps : List (List UInt8)) (w : World) (hx : Hid (Rd w A (strs ps))) (hok : Hid (okN ps = true)) (HN : Hid (N = 2 ^ ps.length)) (hs : s < N) :
    Calls Tryd.prog 81 #[.slice A ps.length c, .int .i64 (s : Int)] w fun e w' => e = .returned (.bool (std (rbN ps) N s)) ∧ Below w.heap.size w w' := by
  have hN32 : N ≤ 32 := by rw [HN.out]; exact two_le _ (okN_le hok.out)
  have hsl := sel_len N (rbN ps s)
  have hil : (ints (sel N (rbN ps s))).length = (sel N (rbN ps s)).length := ints_length _
  have HLT := Lib.hid (fun t (h : t ∈ sel N (rbN ps s)) => mem_sel.1 h)
  go_enter Tryd.func81, Tryd.ntmps81
  go_wp2_with fail
  refine (l5Reach_any _ _ _ N _ _ hx hok HN hs).mono ?_
  rintro e w1 ⟨⟨A1, c1, rfl, hc1, hO1⟩, hB1⟩
  have hz1 := hB1.size
  go_wp2_with fail
  refine (l5Sorted_any _ _ _ _ _ (Lib.hid hO1.rd) hN32).mono ?_
  rintro e w2 ⟨⟨A2, c2, rfl, hc2, hO2⟩, hB2⟩
  have hB12 : Below w.heap.size w w2 := hB1.trans (hB2.mono hz1)
  have HR2 := Lib.hid hO2.rd
  clear hO1 hO2 hB2 hB1 hz1
  have hz2 := hB12.size
  go_wp2
  go_loopw [6] (fun q wr => ∃ k : Nat, k ≤ (sel N (rbN ps s)).length ∧ q = .int .i64 k ∧ Hid (∀ j, (hj : j < k) → (hl : j < (sel N (rbN ps s)).length) → rbN ps (sel N (rbN ps s))[j] s = true) ∧ Below w2.heap.size w2 wr) (fun q _ => (sel N (rbN ps s)).length - (intOf q).toNat)
  case atStart => exact ⟨0, Nat.zero_le _, rfl, Lib.hid (fun j hj => by omega), Below.refl _ _⟩
  case round =>
    obtain ⟨k, hk, rfl, HA, hB⟩ := hrel
    have hsz := hB.size
    by_cases hlt : k < (sel N (rbN ps s)).length
    · obtain ⟨g, off, hA, hcell⟩ := (HR2.out.below hB).at_ (ints_at hlt)
      subst hA
      have htN : (sel N (rbN ps s))[k] < N := (HLT.out _ (List.getElem_mem hlt)).1
      have htr := (HLT.out _ (List.getElem_mem hlt)).2
      by_cases hp : rbN ps (sel N (rbN ps s))[k] s = true
      · have HA2 : Hid (∀ j, (hj : j < k + 1) → (hl : j < (sel N (rbN ps s)).length) → rbN ps (sel N (rbN ps s))[j] s = true) := Lib.hid (fun j hj hl => by
          by_cases e : j = k
          · subst e; exact hp
          · exact HA.out j (by omega) hl)
        clear htr
        go_wp2_with fail
        refine (l5Reach_any _ _ _ N _ _ (Lib.hid (hx.out.below (hB12.trans (hB.mono hz2)))) hok HN htN).mono ?_
        rintro e w3 ⟨⟨A3, c3, rfl, hc3, hO3⟩, hB3⟩
        have hb3 := bolL_get (rbN ps (sel N (rbN ps s))[k]) hs
        rw [hp] at hb3
        obtain ⟨g3, off3, hA3, _, hcell3, _⟩ := hO3.at_ hb3
        subst hA3
        clear hO3 hb3
        go_wp2
        go_roundw
        case rel => exact ⟨k + 1, by omega, by go_num, HA2, hB.trans (hB3.mono hsz)⟩
        case measure => simp [intOf]; omega
      · have hp' : rbN ps (sel N (rbN ps s))[k] s = false := by simpa using hp
        have HV : Hid (std (rbN ps) N s = false) := Lib.hid (by
          cases h : std (rbN ps) N s
          · rfl
          · have := std_iff.1 h _ htN htr
            rw [hp'] at this; cases this)
        clear hp htr
        go_wp2_with fail
        refine (l5Reach_any _ _ _ N _ _ (Lib.hid (hx.out.below (hB12.trans (hB.mono hz2)))) hok HN htN).mono ?_
        rintro e w3 ⟨⟨A3, c3, rfl, hc3, hO3⟩, hB3⟩
        have hb3 := bolL_get (rbN ps (sel N (rbN ps s))[k]) hs
        rw [hp'] at hb3
        obtain ⟨g3, off3, hA3, _, hcell3, _⟩ := hO3.at_ hb3
        subst hA3
        clear hO3 hb3
        go_wp2
        go_ret
        exact ⟨by rw [HV.out]; rfl, hB12.trans ((hB.trans (hB3.mono hsz)).mono hz2)⟩
    · have HV : Hid (std (rbN ps) N s = true) := Lib.hid (std_iff.2 fun t ht h => by
        obtain ⟨j, hj, e⟩ := List.getElem_of_mem (mem_sel.2 ⟨ht, h⟩)
        have := HA.out j (by omega) hj
        rwa [e] at this)
      go_wp2
      go_ret
      exact ⟨by rw [HV.out]; rfl, hB12.trans (hB.mono hz2)⟩

end Go.Proofs.YtpehimjngofnkaaDoor

/- Walks of ReachableFrom, CanReach and IsSteady. Printed by wip/mkf.py. -/
namespace Go.Proofs.YtpehimjngofnkaaDoor
open Go.RowKit
set_option linter.unusedVariables false

theorem ReachableFrom1_any (b p5 k : Nat) (ks : List Int) (w : World) (h5 : w.cell? ⟨p5, 0, none⟩ = some (.map (some b))) (hS : Hid (SetAt w b ks)) :
    Calls Tryd.prog 78 #[.int .i64 (k : Int), .pointer (some ⟨p5, 0, none⟩)] w fun e w' => e = .returned (.bool (decide ((k : Int) ∈ ks))) ∧ w = w' := by
  have hrun := set_look hS.out (k : Int)
  obtain ⟨q, hq⟩ : ∃ q, q = decide ((k : Int) ∈ ks) := ⟨_, rfl⟩
  rw [← hq] at hrun ⊢
  clear hq
  go_enter Tryd.func78, Tryd.ntmps78
  go_wp2
  go_ret
  exact ⟨rfl, rfl⟩

set_option maxHeartbeats 400000 in
theorem ReachableFrom_any (s : ByteArray) (t : Int) (w : World) (hm : Hid (HasM w)) (hs : s.size ≤ 1073741824) :
    Calls Tryd.prog 37 #[.string s, .int .i64 t] w fun e w' => RetI w.heap.size (reaN (cutL s.data.toList) t) e w' ∧ Below w.heap.size w w' := by
  obtain ⟨ps, HPS⟩ : ∃ ps, Hid (ps = cutL s.data.toList) := ⟨_, rfl⟩
  rw [← HPS.out]
  by_cases h : okSt ps t = true
  · obtain ⟨hok, t, rfl, hlt⟩ := okSt_true h
    have hn5 := okN_le hok
    obtain ⟨N, HN, hN, hN32, hN0⟩ := wrap_two ps.length hn5
    have HOK := Lib.hid hok
    have HS := Lib.hid hlt
    have htN : t < N := by rw [HN.out]; exact hlt
    have HST := Lib.hid h
    have HV := Lib.hid (reaN_yes h HN.out)
    clear h hok hlt
    go_enter Tryd.func37, Tryd.ntmps37
    go_wp2_with fail
    refine (stateOf_any s ((t : Nat) : Int) w hm hs).mono ?_
    rintro e w1 ⟨⟨A, k0, c, rfl, himp⟩, hB1⟩
    rw [← HPS.out] at himp ⊢
    obtain ⟨rfl, hc, hO⟩ := himp HST.out
    rw [HST.out]
    have HR := Lib.hid hO.rd
    have hz1 := hB1.size
    clear hO himp
    go_wp2_with fail
    refine (reach_any _ _ _ N _ _ HR HOK HN htN).mono ?_
    rintro e w2 ⟨⟨b, met, rfl, hb, hS, hml, hM⟩, hB2⟩
    have HS2 := Lib.hid hS
    have HM2 := Lib.hid hM
    have hz2 := hB2.size
    have hbl := hS.lt
    have hB12 : Below w.heap.size w w2 := hB1.trans (hB2.mono hz1)
    clear hS hM hml
    have HX := Lib.hid (Blk.new w2 62 #[.map (some b)])
    have hBn : Below w2.heap.size w2 (w2.alloc (.cells #[.map (some b)] 62)) := (Below.refl _ _).alloc (Nat.le_refl _) _
    have HC : Hid (CloB (w2.alloc (.cells #[.map (some b)] 62)) N 78 #[.pointer (some ⟨w2.heap.size, 0, none⟩)] (rbN ps t)) := Lib.hid (fun k wX hk hBX => by
      have h := ReachableFrom1_any b w2.heap.size k (ints met) wX (((HX.out.keep hBX).cell 0).trans rfl) (Lib.hid (HS2.out.below (hBn.trans (hBX.mono (by rw [alloc_size]; omega)))))
      have e : decide ((k : Int) ∈ ints met) = rbN ps t k := by rw [← HM2.out k, Bool.eq_iff_iff, decide_eq_true_iff, decide_eq_true_iff, mem_ints]
      rw [e] at h
      exact h.mono fun e w' ⟨h1, h2⟩ => ⟨h1, by rw [← h2]; exact Below.refl _ _⟩)
    go_wp2_with fail
    refine (which_any _ _ _ N _ _ _ _ hn5 HN (fun _ _ => by kernel_rfl) HC).mono ?_
    rintro e w3 ⟨⟨A2, c2, rfl, hc2, hO2⟩, hB3⟩
    have hO2' := hO2.mono (show w.heap.size ≤ _ by rw [alloc_size]; omega)
    go_wp2
    go_ret
    exact ⟨⟨A2, c2, by rw [HV.out]; rfl, by rw [HV.out]; exact hc2, by rw [HV.out]; exact hO2'⟩, hB12.trans ((hBn.trans (hB3.mono (by rw [alloc_size]; omega))).mono hB12.size)⟩
  · have h' : okSt ps t = false := by simpa using h
    have HST := Lib.hid h'
    have HV := Lib.hid (reaN_no (t := t) h')
    clear h h'
    go_enter Tryd.func37, Tryd.ntmps37
    go_wp2_with fail
    refine (stateOf_any s t w hm hs).mono ?_
    rintro e w1 ⟨⟨A, k0, c, rfl, himp⟩, hB1⟩
    clear himp
    rw [← HPS.out, HST.out]
    go_wp2
    go_ret
    exact ⟨⟨none, 0, by rw [HV.out]; rfl, by rw [HV.out]; exact Nat.le_refl _, by rw [HV.out]; exact Own.nil _ _ _⟩, hB1⟩

set_option maxHeartbeats 400000 in
theorem CanReach_any (s : ByteArray) (t : Int) (u : Int) (w : World) (hm : Hid (HasM w)) (hs : s.size ≤ 1073741824) :
    Calls Tryd.prog 33 #[.string s, .int .i64 t, .int .i64 u] w fun e w' => e = .returned (.bool (canN (cutL s.data.toList) t u)) ∧ Below w.heap.size w w' := by
  obtain ⟨ps, HPS⟩ : ∃ ps, Hid (ps = cutL s.data.toList) := ⟨_, rfl⟩
  rw [← HPS.out]
  by_cases h : okSt ps t = true
  · obtain ⟨hok, t, rfl, hlt⟩ := okSt_true h
    have hn5 := okN_le hok
    obtain ⟨N, HN, hN, hN32, hN0⟩ := wrap_two ps.length hn5
    have HOK := Lib.hid hok
    have HS := Lib.hid hlt
    have htN : t < N := by rw [HN.out]; exact hlt
    have HST := Lib.hid h
    have HV := Lib.hid (trivial)
    clear h hok hlt
    go_enter Tryd.func33, Tryd.ntmps33
    go_wp2_with fail
    refine (stateOf_any s ((t : Nat) : Int) w hm hs).mono ?_
    rintro e w1 ⟨⟨A, k0, c, rfl, himp⟩, hB1⟩
    rw [← HPS.out] at himp ⊢
    obtain ⟨rfl, hc, hO⟩ := himp HST.out
    rw [HST.out]
    have HR := Lib.hid hO.rd
    have hz1 := hB1.size
    clear hO himp
    by_cases hu0 : 0 ≤ u
    · by_cases huN : u < N
      · obtain ⟨u, rfl⟩ : ∃ n : Nat, u = n := ⟨u.toNat, by omega⟩
        have HV2 := Lib.hid (canN_yes (u := u) HST.out HN.out (by omega))
        have huN' : u < N := by omega
        go_wp2_with fail
        refine (states_any _ _ _ N _ hn5 HN).mono ?_
        rintro e w5 ⟨rfl, rfl⟩
        go_wp2_with fail
        refine (reach_any _ _ _ N _ _ HR HOK HN htN).mono ?_
        rintro e w2 ⟨⟨b, met, rfl, hb, hS, hml, hM⟩, hB2⟩
        have hlk := set_look hS (u : Int)
        have e : decide ((u : Int) ∈ ints met) = rbN ps t u := by rw [← hM u, Bool.eq_iff_iff, decide_eq_true_iff, decide_eq_true_iff, mem_ints]
        rw [e] at hlk
        clear e hM hml hS
        have hB12 : Below w.heap.size w w2 := hB1.trans (hB2.mono hz1)
        go_wp2
        go_ret
        exact ⟨by rw [HV2.out]; first | rfl | simp, hB12⟩
      · have HV2 := Lib.hid (canN_out (ps := ps) (t := t) (u := u) HN.out (by omega))
        go_wp2_with fail
        refine (states_any _ _ _ N _ hn5 HN).mono ?_
        rintro e w5 ⟨rfl, rfl⟩
        go_wp2
        go_ret
        exact ⟨by rw [HV2.out]; rfl, hB1⟩
    · have HV2 := Lib.hid (canN_out (ps := ps) (t := t) (u := u) HN.out (by omega))
      go_wp2
      go_ret
      exact ⟨by rw [HV2.out]; rfl, hB1⟩
  · have h' : okSt ps t = false := by simpa using h
    have HST := Lib.hid h'
    have HV := Lib.hid (canN_no (t := t) (u := u) h')
    clear h h'
    go_enter Tryd.func33, Tryd.ntmps33
    go_wp2_with fail
    refine (stateOf_any s t w hm hs).mono ?_
    rintro e w1 ⟨⟨A, k0, c, rfl, himp⟩, hB1⟩
    clear himp
    rw [← HPS.out, HST.out]
    go_wp2
    go_ret
    exact ⟨by rw [HV.out]; rfl, hB1⟩

set_option maxHeartbeats 400000 in
theorem sCanReach_any (s : ByteArray) (t : Int) (u : Int) (w : World) (hs : s.size ≤ 1073741824) :
    Calls Tryd.prog 57 #[.string s, .int .i64 t, .int .i64 u] w fun e w' => e = .returned (.bool (canN (cutL s.data.toList) t u)) ∧ Below w.heap.size w w' := by
  obtain ⟨ps, HPS⟩ : ∃ ps, Hid (ps = cutL s.data.toList) := ⟨_, rfl⟩
  rw [← HPS.out]
  by_cases h : okSt ps t = true
  · obtain ⟨hok, t, rfl, hlt⟩ := okSt_true h
    have hn5 := okN_le hok
    obtain ⟨N, HN, hN, hN32, hN0⟩ := wrap_two ps.length hn5
    have HOK := Lib.hid hok
    have HS := Lib.hid hlt
    have htN : t < N := by rw [HN.out]; exact hlt
    have HST := Lib.hid h
    have HV := Lib.hid (trivial)
    clear h hok hlt
    go_enter Tryd.func57, Tryd.ntmps57
    go_wp2_with fail
    refine (l3State_any s ((t : Nat) : Int) w hs).mono ?_
    rintro e w1 ⟨⟨A, k0, c, rfl, himp⟩, hB1⟩
    rw [← HPS.out] at himp ⊢
    obtain ⟨rfl, hc, hO⟩ := himp HST.out
    rw [HST.out]
    have HR := Lib.hid hO.rd
    have hz1 := hB1.size
    clear hO himp
    by_cases hu0 : 0 ≤ u
    · by_cases huN : u < N
      · obtain ⟨u, rfl⟩ : ∃ n : Nat, u = n := ⟨u.toNat, by omega⟩
        have HV2 := Lib.hid (canN_yes (u := u) HST.out HN.out (by omega))
        have huN' : u < N := by omega
        have hin : (decide (0 ≤ (u : Int)) && decide ((u : Int) ≤ (N : Int) - 1)) = true := by simp; omega
        go_wp2_with fail
        refine (l3All_any _ _ _ N _ hn5 HN).mono ?_
        rintro e w5 ⟨rfl, rfl⟩
        go_wp2_with fail
        refine (l1In_any _ _ _ _).mono ?_
        rintro e w5 ⟨rfl, rfl⟩
        rw [hin]
        go_wp2_with fail
        refine (l5Reach_any _ _ _ N _ _ HR HOK HN htN).mono ?_
        rintro e w2 ⟨⟨A2, c2, rfl, hc2, hO2⟩, hB2⟩
        have hB12 : Below w.heap.size w w2 := hB1.trans (hB2.mono hz1)
        obtain ⟨g, off, hA, _, hcell, _⟩ := hO2.at_ (bolL_get (N := N) (rbN ps t) huN')
        subst hA
        go_wp2
        go_ret
        exact ⟨by rw [HV2.out]; first | rfl | simp, hB12⟩
      · have HV2 := Lib.hid (canN_out (ps := ps) (t := t) (u := u) HN.out (by omega))
        have hin : (decide (0 ≤ u) && decide (u ≤ (N : Int) - 1)) = false := by simp; omega
        go_wp2_with fail
        refine (l3All_any _ _ _ N _ hn5 HN).mono ?_
        rintro e w5 ⟨rfl, rfl⟩
        go_wp2_with fail
        refine (l1In_any _ _ _ _).mono ?_
        rintro e w5 ⟨rfl, rfl⟩
        rw [hin]
        go_wp2
        go_ret
        exact ⟨by rw [HV2.out]; rfl, hB1⟩
    · have HV2 := Lib.hid (canN_out (ps := ps) (t := t) (u := u) HN.out (by omega))
      have hin : (decide (0 ≤ u) && decide (u ≤ (N : Int) - 1)) = false := by simp; omega
      go_wp2_with fail
      refine (l3All_any _ _ _ N _ hn5 HN).mono ?_
      rintro e w5 ⟨rfl, rfl⟩
      go_wp2_with fail
      refine (l1In_any _ _ _ _).mono ?_
      rintro e w5 ⟨rfl, rfl⟩
      rw [hin]
      go_wp2
      go_ret
      exact ⟨by rw [HV2.out]; rfl, hB1⟩
  · have h' : okSt ps t = false := by simpa using h
    have HST := Lib.hid h'
    have HV := Lib.hid (canN_no (t := t) (u := u) h')
    clear h h'
    go_enter Tryd.func57, Tryd.ntmps57
    go_wp2_with fail
    refine (l3State_any s t w hs).mono ?_
    rintro e w1 ⟨⟨A, k0, c, rfl, himp⟩, hB1⟩
    clear himp
    rw [← HPS.out, HST.out]
    go_wp2
    go_ret
    exact ⟨by rw [HV.out]; rfl, hB1⟩

set_option maxHeartbeats 400000 in
theorem IsSteady_any (s : ByteArray) (t : Int) (w : World) (hm : Hid (HasM w)) (hs : s.size ≤ 1073741824) :
    Calls Tryd.prog 32 #[.string s, .int .i64 t] w fun e w' => e = .returned (.bool (stdN (cutL s.data.toList) t)) ∧ Below w.heap.size w w' := by
  obtain ⟨ps, HPS⟩ : ∃ ps, Hid (ps = cutL s.data.toList) := ⟨_, rfl⟩
  rw [← HPS.out]
  by_cases h : okSt ps t = true
  · obtain ⟨hok, t, rfl, hlt⟩ := okSt_true h
    have hn5 := okN_le hok
    obtain ⟨N, HN, hN, hN32, hN0⟩ := wrap_two ps.length hn5
    have HOK := Lib.hid hok
    have HS := Lib.hid hlt
    have htN : t < N := by rw [HN.out]; exact hlt
    have HST := Lib.hid h
    have HV := Lib.hid (stdN_yes h HN.out)
    clear h hok hlt
    go_enter Tryd.func32, Tryd.ntmps32
    go_wp2_with fail
    refine (stateOf_any s ((t : Nat) : Int) w hm hs).mono ?_
    rintro e w1 ⟨⟨A, k0, c, rfl, himp⟩, hB1⟩
    rw [← HPS.out] at himp ⊢
    obtain ⟨rfl, hc, hO⟩ := himp HST.out
    rw [HST.out]
    have HR := Lib.hid hO.rd
    have hz1 := hB1.size
    clear hO himp
    go_wp2_with fail
    refine (steady_any _ _ _ N _ _ HR HOK HN htN).mono ?_
    rintro e w2 ⟨rfl, hB2⟩
    have hB12 : Below w.heap.size w w2 := hB1.trans (hB2.mono hz1)
    go_wp2
    go_ret
    exact ⟨by rw [HV.out]; first | rfl | simp, hB12⟩
  · have h' : okSt ps t = false := by simpa using h
    have HST := Lib.hid h'
    have HV := Lib.hid (stdN_no (t := t) h')
    clear h h'
    go_enter Tryd.func32, Tryd.ntmps32
    go_wp2_with fail
    refine (stateOf_any s t w hm hs).mono ?_
    rintro e w1 ⟨⟨A, k0, c, rfl, himp⟩, hB1⟩
    clear himp
    rw [← HPS.out, HST.out]
    go_wp2
    go_ret
    exact ⟨by rw [HV.out]; rfl, hB1⟩

set_option maxHeartbeats 400000 in
theorem sIsSteady_any (s : ByteArray) (t : Int) (w : World) (hs : s.size ≤ 1073741824) :
    Calls Tryd.prog 41 #[.string s, .int .i64 t] w fun e w' => e = .returned (.bool (stdN (cutL s.data.toList) t)) ∧ Below w.heap.size w w' := by
  obtain ⟨ps, HPS⟩ : ∃ ps, Hid (ps = cutL s.data.toList) := ⟨_, rfl⟩
  rw [← HPS.out]
  by_cases h : okSt ps t = true
  · obtain ⟨hok, t, rfl, hlt⟩ := okSt_true h
    have hn5 := okN_le hok
    obtain ⟨N, HN, hN, hN32, hN0⟩ := wrap_two ps.length hn5
    have HOK := Lib.hid hok
    have HS := Lib.hid hlt
    have htN : t < N := by rw [HN.out]; exact hlt
    have HST := Lib.hid h
    have HV := Lib.hid (stdN_yes h HN.out)
    clear h hok hlt
    go_enter Tryd.func41, Tryd.ntmps41
    go_wp2_with fail
    refine (l3State_any s ((t : Nat) : Int) w hs).mono ?_
    rintro e w1 ⟨⟨A, k0, c, rfl, himp⟩, hB1⟩
    rw [← HPS.out] at himp ⊢
    obtain ⟨rfl, hc, hO⟩ := himp HST.out
    rw [HST.out]
    have HR := Lib.hid hO.rd
    have hz1 := hB1.size
    clear hO himp
    go_wp2_with fail
    refine (l5Steady_any _ _ _ N _ _ HR HOK HN htN).mono ?_
    rintro e w2 ⟨rfl, hB2⟩
    have hB12 : Below w.heap.size w w2 := hB1.trans (hB2.mono hz1)
    go_wp2
    go_ret
    exact ⟨by rw [HV.out]; first | rfl | simp, hB12⟩
  · have h' : okSt ps t = false := by simpa using h
    have HST := Lib.hid h'
    have HV := Lib.hid (stdN_no (t := t) h')
    clear h h'
    go_enter Tryd.func41, Tryd.ntmps41
    go_wp2_with fail
    refine (l3State_any s t w hs).mono ?_
    rintro e w1 ⟨⟨A, k0, c, rfl, himp⟩, hB1⟩
    clear himp
    rw [← HPS.out, HST.out]
    go_wp2
    go_ret
    exact ⟨by rw [HV.out]; rfl, hB1⟩

end Go.Proofs.YtpehimjngofnkaaDoor

/- Plain facts on cycles. -/
namespace Go.Proofs.YtpehimjngofnkaaDoor
open Go.RowKit

def minN (r : List Nat) : Nat := r.foldl min (r.headD 0)
/-- where the least one stands first -/
def mni (r : List Nat) : Nat := r.idxOf (minN r)
theorem foldl_min : ∀ (l : List Nat) (a : Nat), l.foldl min a ≤ a ∧ (∀ x ∈ l, l.foldl min a ≤ x) ∧ (l.foldl min a = a ∨ l.foldl min a ∈ l)
  | [], a => by simp
  | b :: l, a => by
    have ⟨h1, h2, h3⟩ := foldl_min l (min a b)
    rw [List.foldl_cons]
    refine ⟨by omega, fun x hx => ?_, ?_⟩
    · rcases List.mem_cons.1 hx with rfl | hx
      · omega
      · exact h2 x hx
    · rcases h3 with h3 | h3
      · rw [h3]
        by_cases hab : a ≤ b
        · left; omega
        · right; rw [show min a b = b by omega]; simp
      · right; exact List.mem_cons_of_mem _ h3
theorem minN_le {r : List Nat} {x : Nat} (h : x ∈ r) : minN r ≤ x := (foldl_min r _).2.1 x h
theorem minN_mem {r : List Nat} (h : r ≠ []) : minN r ∈ r := by
  cases r with
  | nil => exact absurd rfl h
  | cons a l =>
    rcases (foldl_min (a :: l) a).2.2 with h2 | h2
    · have : minN (a :: l) = a := h2
      rw [this]; simp
    · exact h2
theorem mni_lt {r : List Nat} (h : r ≠ []) : mni r < r.length := List.idxOf_lt_length_iff.2 (minN_mem h)
theorem mni_get {r : List Nat} (h : r ≠ []) : r[mni r]'(mni_lt h) = minN r := List.getElem_idxOf (mni_lt h)
/-- the search of the least one -/
theorem mni_of {r : List Nat} {k : Nat} (hk : k < r.length) (h1 : ∀ j, (hj : j < r.length) → r[k] ≤ r[j]) (h2 : ∀ j, (hj : j < k) → r[k] < r[j]) : mni r = k := by
  have hne : r ≠ [] := by intro e; subst e; simp at hk
  have hm : r[k] = minN r := by
    have a := minN_le (List.getElem_mem hk)
    obtain ⟨j, hj, e⟩ := List.getElem_of_mem (minN_mem hne)
    have b := h1 j hj
    omega
  exact (idxOf_first hk hm (fun j hj => by have := h2 j hj; omega)).2
theorem minOf_ints (r : List Nat) : Lib.minOf (ints r) = (minN r : Int) := by
  have key : ∀ (l : List Nat) (a : Nat), (ints l).foldl min (a : Int) = ((l.foldl min a : Nat) : Int) := by
    intro l
    induction l with
    | nil => intro a; rfl
    | cons b l ih =>
      intro a
      have := ih (min a b)
      rw [List.foldl_cons, ← this]
      show (ints l).foldl min (min (a : Int) (b : Int)) = _
      congr 1
      omega
  unfold Lib.minOf minN
  cases r with
  | nil => rfl
  | cons a l => exact key (a :: l) a
theorem idxOf_ints {r : List Nat} (h : r ≠ []) : Lib.idxOf (ints r) ((minN r : Nat) : Int) = (mni r : Int) := by
  have hk := mni_lt h
  have hl : (ints r).length = r.length := ints_length r
  have hg : ∀ j, (hj : j < r.length) → (ints r).getD j 0 = (r[j] : Int) := fun j hj => by simp [ints, hj]
  have := Lib.idxOf_hit (ints r) r.length (mni r) ((minN r : Nat) : Int) hk (by omega) (by rw [hg _ hk, mni_get h]) (fun j hj e => by
    rw [hg j (by omega)] at e
    have e2 : r[j]'(by omega) = minN r := by omega
    have h3 : ¬ mni r ≤ j := by omega
    have h4 := List.not_of_lt_findIdx (p := fun x => x == minN r) (xs := r) (i := j) (by simpa [mni, List.idxOf] using hj)
    simp [e2] at h4)
  rwa [List.take_of_length_le (by omega)] at this
/-- turned so that the least one comes first -/
def rot (r : List Nat) : List Nat := r.drop (mni r) ++ r.take (mni r)
theorem rot_length (r : List Nat) : (rot r).length = r.length := by
  rw [rot, List.length_append, List.length_drop, List.length_take]; omega
theorem rot_head {r : List Nat} (h : r ≠ []) : ∃ l, rot r = minN r :: l := by
  have hk := mni_lt h
  refine ⟨r.drop (mni r + 1) ++ r.take (mni r), ?_⟩
  rw [rot, ← mni_get h, ← List.cons_append, List.getElem_cons_drop]
/-- the round of a state: the states that come again -/
def rnd (f : Nat → Nat) (s : Nat) : List Nat := (orb f s).1.drop (orb f s).2
/-- the cycle of a state -/
def cyc (f : Nat → Nat) (s : Nat) : List Nat := rot (rnd f s)
/-- its least state -/
def cy0 (f : Nat → Nat) (s : Nat) : Nat := minN (rnd f s)
section
variable {f : Nat → Nat} {N s : Nat} (hN : N ≤ 32) (hf : ∀ x, x < N → f x < N) (hs : s < N)
include hN hf hs
theorem rnd_ne : rnd f s ≠ [] := by
  have h := (orb_all hN hf hs).2.1
  intro e
  have := congrArg List.length e
  rw [rnd, List.length_drop, List.length_nil] at this
  omega
theorem rnd_len : (rnd f s).length ≤ N ∧ 0 < (rnd f s).length := by
  have h := orb_all hN hf hs
  rw [rnd, List.length_drop]
  omega
theorem rnd_lt : ∀ x ∈ rnd f s, x < N := fun x hx => (orb_all hN hf hs).2.2 x (List.mem_of_mem_drop hx)
theorem cyc_len : (cyc f s).length ≤ N ∧ 0 < (cyc f s).length := by rw [cyc, rot_length]; exact rnd_len hN hf hs
theorem cyc_head : ∃ l, cyc f s = cy0 f s :: l := rot_head (rnd_ne hN hf hs)
theorem cyc_lt : ∀ x ∈ cyc f s, x < N := fun x hx => by
  rw [cyc, rot] at hx
  rcases List.mem_append.1 hx with hx | hx
  · exact rnd_lt hN hf hs x (List.mem_of_mem_drop hx)
  · exact rnd_lt hN hf hs x (List.mem_of_mem_take hx)
end
end Go.Proofs.YtpehimjngofnkaaDoor

/- Walks of the functions on cycles. -/
namespace Go.Proofs.YtpehimjngofnkaaDoor
open Go.RowKit
set_option linter.unusedVariables false

/-- append of a list of integers -/
theorem wp_catI {P : Program} {wr : World} {ops : Array Oper} {rest : List Oper} {o : Oper} {a : Act} {Q : Exit → Act → World → Prop} (hgd : o.guard = none) (s x : Operand) (t : TypeId)
    (ho : o.op = .call { callee := .builtin .append, args := #[s, x], argTypes := #[t, t] })
    {B e n c : Nat} {ad : Addr} (ht : P.underlying t = some (.slice e)) (hinf : (P.info? e).map (fun i => (i.zero, i.size, i.bytes)) = some (some (.int .i64 0), 1, 8))
    {v : Value} {xs ys : List Int} (hown : OI wr B e v xs) (hs : a.eval s = v) (hx : a.eval x = .slice (some ad) n c) (hn : ys.length = n) (hr : ∀ j u, (ys.map (Value.int .i64))[j]? = some u → wr.cell? (ad.add j) = some u)
    (hl : xs.length + n ≤ 1099511627776) (hB : B ≤ wr.heap.size)
    (h : ∀ v' w', OI w' B e v' (xs ++ ys) → (∀ B', B' ≤ B → Below B' wr w') → wr.heap.size ≤ w'.heap.size → (∀ g, g < wr.heap.size → v.ownBlock ≠ some g → w'.heap[g]? = wr.heap[g]? ∧ v'.ownBlock ≠ some g) → wpList P ops Q rest (a.put o.dst v') w') :
    wpList P ops Q (o :: rest) a wr := by
  obtain ⟨i, hi, hiz, his, hib⟩ := info_parts hinf
  refine wpList_append_own_at _ hgd s x t ho B e i (.int .i64 0) 1 8 ht hi hiz his hib rfl (by omega) v xs.length (xs.map (Value.int .i64)) hs hown ad n c (ys.map (Value.int .i64)) hx (by simp [hn]) hr ?_ (by simp only [maxLen]; omega) (by omega) (by omega) ?_
  · intro y hy
    obtain ⟨z, _, rfl⟩ := List.mem_map.1 hy
    rfl
  · intro v' w' h1 h2 _ h4
    refine h v' w' (by unfold OI; rw [List.map_append, List.length_append, hn]; exact h1) (fun B' hB' => ⟨h2.os, h2.tape, h2.output, h2.size, fun k hk => h2.block k (by omega) (fun e => ?_)⟩) h2.size (fun g hg hne => ⟨h2.block g hg (fun e => hne e.symm), ?_⟩)
    · have := (World.ownsRow.lt hown k e.symm).1
      omega
    · rcases h4 with h4 | h4
      · rw [h4]; exact hne
      · rw [h4]; intro e; injection e; omega
/-- .. as one step of a region that draws its order -/
theorem step_catI {P : Program} {wr : World} {ops : Array Oper} {o : Oper} {a : Act} {K : Act → World → Prop} {Q : Exit → Act → World → Prop} {E : Prop} (hgd : o.guard = none) (s x : Operand) (t : TypeId)
    (ho : o.op = .call { callee := .builtin .append, args := #[s, x], argTypes := #[t, t] })
    {B e n c : Nat} {ad : Addr} (ht : P.underlying t = some (.slice e)) (hinf : (P.info? e).map (fun i => (i.zero, i.size, i.bytes)) = some (some (.int .i64 0), 1, 8))
    {v : Value} {xs ys : List Int} (hown : OI wr B e v xs) (hs : a.eval s = v) (hx : a.eval x = .slice (some ad) n c) (hn : ys.length = n) (hr : ∀ j u, (ys.map (Value.int .i64))[j]? = some u → wr.cell? (ad.add j) = some u)
    (hl : xs.length + n ≤ 1099511627776) (hB : B ≤ wr.heap.size)
    (h : ∀ v' w', OI w' B e v' (xs ++ ys) → (∀ B', B' ≤ B → Below B' wr w') → wr.heap.size ≤ w'.heap.size → K (a.put o.dst v') w') :
    if Region.wanted o (yielded ops a.tmps) = true then Oper.wp P o a wr K Q else E := by
  have hw : Region.wanted o (yielded ops a.tmps) = true := by simp [Region.wanted, hgd]
  rw [if_pos hw]
  obtain ⟨i, hi, hiz, his, hib⟩ := info_parts hinf
  obtain ⟨v', w', hrun, h1, h2, _⟩ := run_append_own (P := P) wr B t o.type e i (.int .i64 0) 1 8 ht hi hiz his hib rfl (by omega) v xs.length (xs.map (Value.int .i64)) hown ad n c (ys.map (Value.int .i64)) (by simp [hn]) hr (by
    intro y hy
    obtain ⟨z, _, rfl⟩ := List.mem_map.1 hy
    rfl) (by simp only [maxLen]; omega) (by omega) hB
  unfold Oper.wp
  simp [execOp, ho, resolve, invoke, builtin, hs, hx, hrun, Result.andThen]
  refine h v' w' (by unfold OI; rw [List.map_append, List.length_append, hn]; exact h1) (fun B' hB' => ⟨h2.os, h2.tape, h2.output, h2.size, fun k hk => h2.block k (by omega) (fun e => ?_)⟩) h2.size
  have := (World.ownsRow.lt hown k e.symm).1
  omega
theorem add_none (g off j : Nat) : (⟨g, off, none⟩ : Addr).add j = ⟨g, off + j, none⟩ := by unfold Addr.add; split <;> simp_all
/-- a slice of integers is readable from a place on -/
theorem Rd.drop_ {w : World} {g off k : Nat} {vs : List Value} (h : Rd w (some ⟨g, off, none⟩) vs) : Rd w (some ⟨g, off + k, none⟩) (vs.drop k) := by
  rcases h with h | ⟨g', off', hA, hc⟩
  · left; rw [h]; simp
  · injection hA with hA
    injection hA with h1 h2
    subst h1; subst h2
    refine .inr ⟨g, off + k, rfl, fun j v hj => ?_⟩
    rw [List.getElem?_drop] at hj
    rw [Nat.add_assoc]
    exact hc _ _ hj
theorem Rd.take_ {w : World} {A : Option Addr} {k : Nat} {vs : List Value} (h : Rd w A vs) : Rd w A (vs.take k) := by
  rcases h with h | ⟨g, off, hA, hc⟩
  · left; rw [h]; simp
  · refine .inr ⟨g, off, hA, fun j v hj => ?_⟩
    rw [List.getElem?_take] at hj
    split at hj
    · exact hc _ _ hj
    · cases hj
theorem Rd.adds {w : World} {g off : Nat} {vs : List Value} (h : Rd w (some ⟨g, off, none⟩) vs) : ∀ j u, vs[j]? = some u → w.cell? ((⟨g, off, none⟩ : Addr).add j) = some u := fun j u hj => by
  rw [add_none]; exact h.cell hj
theorem ints_drop (l : List Nat) (k : Nat) : (ints l).drop k = ints (l.drop k) := by simp [ints, List.map_drop]
theorem ints_take (l : List Nat) (k : Nat) : (ints l).take k = ints (l.take k) := by simp [ints, List.map_take]

end Go.Proofs.YtpehimjngofnkaaDoor

/- Plain facts: orbits and cycles told as iterates of a step. -/
namespace Go.Proofs.YtpehimjngofnkaaDoor
open Go.RowKit

/-- the state after k steps -/
def itf (f : Nat → Nat) : Nat → Nat → Nat
  | 0, s => s
  | k + 1, s => itf f k (f s)
theorem itf_add (f : Nat → Nat) : ∀ j k s, itf f (j + k) s = itf f k (itf f j s)
  | 0, k, s => by rw [Nat.zero_add]; rfl
  | j + 1, k, s => by rw [show j + 1 + k = (j + k) + 1 by omega]; exact itf_add f j k (f s)
theorem itf_succ (f : Nat → Nat) (k s : Nat) : itf f (k + 1) s = f (itf f k s) := itf_add f k 1 s
theorem itf_lt {f : Nat → Nat} {N s : Nat} (hf : ∀ x, x < N → f x < N) (hs : s < N) : ∀ k, itf f k s < N
  | 0 => hs
  | k + 1 => by rw [itf_succ]; exact hf _ (itf_lt hf hs k)
/-- the first k states -/
def itl (f : Nat → Nat) (s k : Nat) : List Nat := (List.range k).map fun j => itf f j s
theorem itl_len (f : Nat → Nat) (s k : Nat) : (itl f s k).length = k := by simp [itl]
theorem itl_get (f : Nat → Nat) (s k j : Nat) (h : j < k) : (itl f s k)[j]'(by rw [itl_len]; exact h) = itf f j s := by simp [itl]
theorem itl_getD (f : Nat → Nat) (s k j : Nat) (h : j < k) : (itl f s k).getD j 0 = itf f j s := by
  rw [List.getD_eq_getElem?_getD, List.getElem?_eq_getElem (by rw [itl_len]; exact h), Option.getD_some, itl_get _ _ _ _ h]
theorem itl_mem {f : Nat → Nat} {s k x : Nat} : x ∈ itl f s k ↔ ∃ j, j < k ∧ itf f j s = x := by simp [itl]
theorem itl_succ (f : Nat → Nat) (s k : Nat) : itl f s (k + 1) = itl f s k ++ [itf f k s] := by simp [itl, List.range_succ]
theorem itl_add (f : Nat → Nat) (s a : Nat) : ∀ b, itl f s (a + b) = itl f s a ++ itl f (itf f a s) b
  | 0 => by simp [itl]
  | b + 1 => by rw [show a + (b + 1) = (a + b) + 1 by omega, itl_succ, itl_add f s a b, itl_succ, itf_add, List.append_assoc]
theorem itl_drop (f : Nat → Nat) (s a b : Nat) : (itl f s (a + b)).drop a = itl f (itf f a s) b := by
  rw [itl_add, List.drop_left' (itl_len _ _ _)]
theorem itl_take (f : Nat → Nat) (s a b : Nat) : (itl f s (a + b)).take a = itl f s a := by
  rw [itl_add, List.take_left' (itl_len _ _ _)]
theorem itl_inj {f : Nat → Nat} {s k i j : Nat} (h : (itl f s k).Nodup) (hi : i < k) (hj : j < k) (e : itf f i s = itf f j s) : i = j := by
  have h2 := List.pairwise_iff_getElem.1 h
  rcases Nat.lt_trichotomy i j with hlt | rfl | hlt
  · exact absurd (by rw [itl_get _ _ _ _ hi, itl_get _ _ _ _ hj]; exact e) (h2 i j (by rw [itl_len]; exact hi) (by rw [itl_len]; exact hj) hlt)
  · rfl
  · exact absurd (by rw [itl_get _ _ _ _ hi, itl_get _ _ _ _ hj]; exact e.symm) (h2 j i (by rw [itl_len]; exact hj) (by rw [itl_len]; exact hi) hlt)
theorem itl_nodup {f : Nat → Nat} {s k : Nat} (h : ∀ i j, i < j → j < k → itf f i s ≠ itf f j s) : (itl f s k).Nodup := by
  refine List.pairwise_iff_getElem.2 fun i j hi hj hij => ?_
  rw [itl_len] at hi hj
  rw [itl_get _ _ _ _ hi, itl_get _ _ _ _ hj]
  exact h i j hij hj
/-- an orbit: its states are the first L ones, and the next one is that at T -/
structure OrbF (f : Nat → Nat) (N s L T : Nat) : Prop where
  eq : orb f s = (itl f s L, T)
  lt : T < L
  le : L ≤ N
  nd : (itl f s L).Nodup
  rep : itf f L s = itf f T s
theorem orb_form {f : Nat → Nat} {N s : Nat} (hN : N ≤ 32) (hf : ∀ x, x < N → f x < N) (hs : s < N) : ∃ L T, OrbF f N s L T := by
  suffices h : ∀ k m, OrbI f N s (itl f s m) (itf f m s) → m + k = 33 → ∃ L T, OrbF f N s L T by
    exact h 33 0 (OrbI.start f hs) rfl
  intro k
  induction k with
  | zero => intro m h hk; have := h.len; rw [itl_len] at this; omega
  | succ k ih =>
    intro m h hk
    by_cases hm : itf f m s ∈ itl f s m
    · have hl := h.len
      rw [itl_len] at hl
      have hT : (itl f s m).idxOf (itf f m s) < (itl f s m).length := List.idxOf_lt_length_iff.2 hm
      have hT2 := hT
      rw [itl_len] at hT2
      have e := List.getElem_idxOf hT
      rw [itl_get _ _ _ _ hT2] at e
      exact ⟨m, (itl f s m).idxOf (itf f m s), h.fin hN hm, hT2, hl, h.nd, e.symm⟩
    · refine ih (m + 1) ?_ (by omega)
      have := h.more hN hf hm
      rw [itl_succ, itf_succ]
      exact this
theorem orb_uniq {f : Nat → Nat} {N s L T : Nat} (hN : N ≤ 32) (hf : ∀ x, x < N → f x < N) (hs : s < N) (hT : T < L) (hnd : (itl f s L).Nodup) (hr : itf f L s = itf f T s) : OrbF f N s L T := by
  obtain ⟨L', T', h⟩ := orb_form hN hf hs
  have hLL : L = L' := by
    rcases Nat.lt_trichotomy L L' with hlt | e | hlt
    · have := itl_inj h.nd hlt (Nat.lt_trans hT hlt) hr
      omega
    · exact e
    · have := itl_inj hnd hlt (Nat.lt_trans h.lt hlt) h.rep
      have := h.lt
      omega
  subst hLL
  have hTT : T = T' := itl_inj hnd hT h.lt (by rw [← hr, h.rep])
  subst hTT
  exact h
/-- the states of a round come again -/
theorem OrbF.per {f : Nat → Nat} {N s L T : Nat} (h : OrbF f N s L T) {j : Nat} (hj : T ≤ j) : itf f (j + (L - T)) s = itf f j s := by
  have hlt := h.lt
  rw [show j + (L - T) = L + (j - T) by omega, itf_add, h.rep, ← itf_add, show T + (j - T) = j by omega]
theorem itf_round {f : Nat → Nat} {p x : Nat} (h : itf f p x = x) : ∀ m, itf f (p * m) x = x
  | 0 => rfl
  | m + 1 => by rw [Nat.mul_succ, Nat.add_comm, itf_add, h, itf_round h m]
theorem itf_mod {f : Nat → Nat} {p x : Nat} (h : itf f p x = x) (k : Nat) : itf f k x = itf f (k % p) x := by
  have := Nat.div_add_mod k p
  rw [← this, itf_add, itf_round h, this]
/-- the place in the orbit after k steps -/
theorem OrbF.at_ {f : Nat → Nat} {N s L T : Nat} (h : OrbF f N s L T) (k : Nat) : (itl f s L).getD (if k < L then k else T + (k - T) % (L - T)) 0 = itf f k s := by
  have hlt := h.lt
  split
  · rename_i hk
    exact itl_getD _ _ _ _ hk
  · rename_i hk
    have hm : (k - T) % (L - T) < L - T := Nat.mod_lt _ (by omega)
    have hp : itf f (L - T) (itf f T s) = itf f T s := by rw [← itf_add]; exact h.per (Nat.le_refl _)
    rw [itl_getD _ _ _ _ (by omega), itf_add, ← itf_mod hp, ← itf_add, show T + (k - T) = k by omega]
/-- the orbit from a state of the round -/
theorem OrbF.on {f : Nat → Nat} {N s L T : Nat} (hN : N ≤ 32) (hf : ∀ x, x < N → f x < N) (hs : s < N) (h : OrbF f N s L T) {j : Nat} (hj : T ≤ j) : OrbF f N (itf f j s) (L - T) 0 := by
  have hlt := h.lt
  have hper : itf f (L - T) (itf f j s) = itf f j s := by rw [← itf_add]; exact h.per hj
  refine orb_uniq hN hf (itf_lt hf hs j) (by omega) (itl_nodup fun a b hab hb e => ?_) hper
  -- all states of the round would come again after b - a steps
  have hy : itf f (b - a) (itf f (j + a) s) = itf f (j + a) s := by
    rw [← itf_add, show j + a + (b - a) = j + b by omega, itf_add, itf_add, e]
  have hmul : ∀ m, itf f (T + (L - T) * m) s = itf f T s := fun m => by
    rw [itf_add]; exact itf_round (by rw [← itf_add]; exact h.per (Nat.le_refl _)) m
  have hge : j + a ≤ T + (L - T) * (j + a) := by
    have : 1 * (j + a) ≤ (L - T) * (j + a) := Nat.mul_le_mul_right _ (by omega)
    omega
  have hz : itf f (T + (b - a)) s = itf f T s := by
    have e1 : itf f T s = itf f (T + (L - T) * (j + a) - (j + a)) (itf f (j + a) s) := by
      rw [← itf_add, show j + a + (T + (L - T) * (j + a) - (j + a)) = T + (L - T) * (j + a) by omega, hmul]
    rw [itf_add, e1, ← itf_add _ _ (b - a), Nat.add_comm, itf_add _ (b - a), hy]
  have := itl_inj h.nd (show T + (b - a) < L by omega) h.lt hz
  omega
theorem minN_congr {a b : List Nat} (h : ∀ x, x ∈ a ↔ x ∈ b) (hne : a ≠ []) : minN a = minN b := by
  have h1 := minN_mem hne
  have hb : b ≠ [] := by intro e; subst e; have := (h _).1 h1; simp at this
  have h2 := minN_mem hb
  have h3 := minN_le ((h _).1 h1)
  have h4 := minN_le ((h _).2 h2)
  omega
theorem itl_ne {f : Nat → Nat} {s k : Nat} (h : 0 < k) : itl f s k ≠ [] := by
  intro e
  have := congrArg List.length e
  rw [itl_len, List.length_nil] at this
  omega
theorem itl_all {f : Nat → Nat} {p x z : Nat} (h : itf f p x = x) (h0 : 0 < p) : z ∈ itl f x p ↔ ∃ k, itf f k x = z := by
  rw [itl_mem]
  constructor
  · rintro ⟨j, _, e⟩; exact ⟨j, e⟩
  · rintro ⟨k, e⟩; exact ⟨k % p, Nat.mod_lt _ h0, by rw [← itf_mod h, e]⟩
/-- a state of the round leads around it -/
theorem itf_back {f : Nat → Nat} {p x i : Nat} (h : itf f p x = x) (h0 : 0 < p) : ∃ k, itf f k (itf f i x) = x := by
  refine ⟨p * i - i, ?_⟩
  have : 1 * i ≤ p * i := Nat.mul_le_mul_right _ h0
  rw [← itf_add, show i + (p * i - i) = p * i by omega, itf_round h]
theorem itl_same {f : Nat → Nat} {p x i : Nat} (h : itf f p x = x) (h0 : 0 < p) : ∀ z, z ∈ itl f (itf f i x) p ↔ z ∈ itl f x p := by
  intro z
  have h2 : itf f p (itf f i x) = itf f i x := by rw [← itf_add, Nat.add_comm, itf_add, h]
  rw [itl_all h h0, itl_all h2 h0]
  constructor
  · rintro ⟨k, e⟩; exact ⟨i + k, by rw [itf_add]; exact e⟩
  · rintro ⟨k, e⟩
    obtain ⟨m, hm⟩ := itf_back (i := i) h h0
    exact ⟨m + k, by rw [itf_add, hm]; exact e⟩
/-- a round turned so that its least state comes first -/
theorem rot_itl {f : Nat → Nat} {p x : Nat} (h : itf f p x = x) (h0 : 0 < p) : rot (itl f x p) = itl f (minN (itl f x p)) p ∧ ∃ i, i < p ∧ itf f i x = minN (itl f x p) := by
  have hne := itl_ne (f := f) (s := x) h0
  have hk := mni_lt hne
  have hg := mni_get hne
  rw [itl_len] at hk
  rw [itl_get _ _ _ _ hk] at hg
  refine ⟨?_, _, hk, hg⟩
  obtain ⟨i, hi⟩ : ∃ i, i = mni (itl f x p) := ⟨_, rfl⟩
  rw [← hg, rot, ← hi]
  rw [← hi] at hk
  have h1 := itl_drop f x i (p - i)
  have h2 := itl_take f x i (p - i)
  have h3 := itl_add f (itf f i x) (p - i) i
  rw [show i + (p - i) = p by omega] at h1 h2
  rw [show p - i + i = p by omega, ← itf_add, show i + (p - i) = p by omega, h] at h3
  rw [h1, h2, h3]
theorem OrbF.rnd_ {f : Nat → Nat} {N s L T : Nat} (h : OrbF f N s L T) : rnd f s = itl f (itf f T s) (L - T) := by
  have hlt := h.lt
  rw [rnd, h.eq]
  show (itl f s L).drop T = _
  have := itl_drop f s T (L - T)
  rwa [show T + (L - T) = L by omega] at this
section
variable {f : Nat → Nat} {N s : Nat} (hN : N ≤ 32) (hf : ∀ x, x < N → f x < N) (hs : s < N)
include hN hf hs
/-- the cycle from its least state on -/
theorem OrbF.cyc_ {L T : Nat} (h : OrbF f N s L T) : cyc f s = itl f (cy0 f s) (L - T) ∧ OrbF f N (cy0 f s) (L - T) 0 ∧ ∃ j, itf f j s = cy0 f s := by
  have hlt := h.lt
  have hp : itf f (L - T) (itf f T s) = itf f T s := by rw [← itf_add]; exact h.per (Nat.le_refl _)
  obtain ⟨h1, i, hi, h2⟩ := rot_itl hp (by omega)
  have hr := h.rnd_
  rw [cyc, cy0, hr]
  refine ⟨h1, ?_, T + i, by rw [itf_add, h2]⟩
  have := h.on hN hf hs (show T ≤ T + i by omega)
  rwa [itf_add, h2] at this
theorem OrbF.cy0_on {L T j : Nat} (h : OrbF f N s L T) (hj : T ≤ j) : cy0 f (itf f j s) = cy0 f s := by
  have hlt := h.lt
  have hp : itf f (L - T) (itf f T s) = itf f T s := by rw [← itf_add]; exact h.per (Nat.le_refl _)
  have h2 := h.on hN hf hs hj
  rw [cy0, cy0, h.rnd_, h2.rnd_]
  show minN (itl f (itf f j s) (L - T)) = _
  refine minN_congr ?_ (itl_ne (by omega))
  have e : itf f j s = itf f (j - T) (itf f T s) := by rw [← itf_add, show T + (j - T) = j by omega]
  rw [e]
  exact itl_same hp (by omega)
theorem cy0_step : cy0 f (f s) = cy0 f s := by
  obtain ⟨L, T, h⟩ := orb_form hN hf hs
  obtain ⟨L', T', h'⟩ := orb_form hN hf (hf s hs)
  have h1 := h.cy0_on hN hf hs (show T ≤ (T + T') + 1 by omega)
  have h2 := h'.cy0_on hN hf (hf s hs) (show T' ≤ T + T' by omega)
  rw [← h1, ← h2]
  rfl
end
theorem cy0_itf {f : Nat → Nat} {N : Nat} (hN : N ≤ 32) (hf : ∀ x, x < N → f x < N) : ∀ (k s : Nat), s < N → cy0 f (itf f k s) = cy0 f s
  | 0, _, _ => rfl
  | k + 1, s, hs => by
    show cy0 f (itf f k (f s)) = _
    rw [cy0_itf hN hf k (f s) (hf s hs), cy0_step hN hf hs]
theorem cyc_same {f : Nat → Nat} {N s x : Nat} (hN : N ≤ 32) (hf : ∀ x, x < N → f x < N) (hs : s < N) (hx : x < N) (h : cy0 f x = cy0 f s) : cyc f x = cyc f s := by
  obtain ⟨L, T, h1⟩ := orb_form hN hf hs
  obtain ⟨L', T', h2⟩ := orb_form hN hf hx
  obtain ⟨e1, g1, _⟩ := h1.cyc_ hN hf hs
  obtain ⟨e2, g2, _⟩ := h2.cyc_ hN hf hx
  have k1 := g1.eq
  have k2 := g2.eq
  rw [h] at k2
  rw [k1] at k2
  rw [e1, e2, h]
  exact (congrArg Prod.fst k2).symm
/-- all that is told of a cycle -/
structure CycF (f : Nat → Nat) (N s : Nat) (l : List Nat) (p : Nat) : Prop where
  eq : cyc f s = l
  len : l.length = p
  pos : 0 < p
  le : p ≤ N
  lt : ∀ i, i < p → l.getD i 0 < N
  nx : ∀ i, i < p → f (l.getD i 0) = l.getD ((i + 1) % p) 0
  least : ∀ i, i < p → l.getD 0 0 ≤ l.getD i 0
  tail : ∀ i, i < p → (orb f (l.getD i 0)).2 = 0
  same : ∀ i, i < p → cyc f (l.getD i 0) = l
  step : cyc f (f s) = l
  per : p = (orb f s).1.length - (orb f s).2
  nd : l.Nodup
  base : ∀ i, i < p → cy0 f (l.getD i 0) = cy0 f s
theorem cyc_all {f : Nat → Nat} {N s : Nat} (hN : N ≤ 32) (hf : ∀ x, x < N → f x < N) (hs : s < N) : ∃ p, CycF f N s (cyc f s) p := by
  obtain ⟨L, T, h⟩ := orb_form hN hf hs
  obtain ⟨e, g, j, hj⟩ := h.cyc_ hN hf hs
  have hlt := h.lt
  have hle := h.le
  have hm : cy0 f s < N := by rw [← hj]; exact itf_lt hf hs j
  have hp : itf f (L - T) (cy0 f s) = cy0 f s := g.rep
  have hg : ∀ i, i < L - T → (cyc f s).getD i 0 = itf f i (cy0 f s) := fun i hi => by rw [e, itl_getD _ _ _ _ hi]
  have hb : ∀ k, cy0 f (itf f k (cy0 f s)) = cy0 f s := fun k => by
    have h5 := cy0_itf hN hf j s hs
    rw [hj] at h5
    rw [cy0_itf hN hf k _ hm, h5]
  refine ⟨L - T, rfl, by rw [e, itl_len], by omega, by omega, fun i hi => by rw [hg i hi]; exact itf_lt hf hm i, fun i hi => ?_, fun i hi => ?_, fun i hi => ?_, fun i hi => ?_, ?_, ?_, ?_, fun i hi => by rw [hg i hi, hb]⟩
  · rw [hg i hi, hg _ (Nat.mod_lt _ (by omega)), ← itf_mod hp]
    exact (itf_succ f i _).symm
  · rw [hg i hi, hg 0 (by omega)]
    show cy0 f s ≤ _
    have h4 : minN (rnd f (itf f i (cy0 f s))) = cy0 f s := hb i
    have h2 := g.on hN hf hm (Nat.zero_le i)
    have h5 : itf f i (cy0 f s) ∈ rnd f (itf f i (cy0 f s)) := by
      rw [h2.rnd_]
      exact itl_mem.2 ⟨0, by omega, rfl⟩
    have h6 := minN_le h5
    omega
  · rw [hg i hi, (g.on hN hf hm (Nat.zero_le i)).eq]
  · rw [hg i hi]
    exact cyc_same hN hf hs (itf_lt hf hm i) (hb i)
  · exact cyc_same hN hf hs (hf s hs) (cy0_step hN hf hs)
  · rw [h.eq, itl_len]
  · rw [e]; exact g.nd
theorem nodup_erase_lt {N : Nat} {l : List Nat} (h : l.Nodup) (hl : ∀ x ∈ l, x < N + 1) : ∀ x ∈ l.erase N, x < N ∧ x ∈ l := by
  intro x hx
  have h2 := (List.Nodup.mem_erase_iff h).1 hx
  have := hl x h2.2
  exact ⟨by omega, h2.2⟩

end Go.Proofs.YtpehimjngofnkaaDoor

/- Plain facts: counting. -/
namespace Go.Proofs.YtpehimjngofnkaaDoor
open Go.RowKit

/-- different numbers below N with a property are no more than all such numbers -/
theorem sel_ge {p : Nat → Bool} : ∀ {N : Nat} {l : List Nat}, l.Nodup → (∀ x ∈ l, x < N ∧ p x = true) → l.length ≤ (sel N p).length
  | 0, l, _, hl => by
    cases l with
    | nil => simp
    | cons a l => have := (hl a (by simp)).1; omega
  | N + 1, l, h, hl => by
    have h1 := sel_ge (p := p) (N := N) (l := l.erase N) (h.erase N) (fun x hx => by
      have h2 := nodup_erase_lt h (fun y hy => (hl y hy).1) x hx
      exact ⟨h2.1, (hl x h2.2).2⟩)
    rw [List.length_erase] at h1
    by_cases hm : N ∈ l
    · have hp := (hl N hm).2
      rw [if_pos hm] at h1
      rw [sel_yes hp, List.length_append, List.length_singleton]
      omega
    · rw [if_neg hm] at h1
      by_cases hp : p N = true
      · rw [sel_yes hp, List.length_append]; omega
      · rw [sel_no (by simpa using hp)]; exact h1
def sumTo (g : Nat → Nat) : Nat → Nat
  | 0 => 0
  | k + 1 => sumTo g k + g k
theorem sumTo_add (g h : Nat → Nat) : ∀ k, sumTo (fun x => g x + h x) k = sumTo g k + sumTo h k
  | 0 => rfl
  | k + 1 => by simp only [sumTo]; rw [sumTo_add g h k]; omega
theorem sumTo_congr {g h : Nat → Nat} : ∀ k, (∀ x, x < k → g x = h x) → sumTo g k = sumTo h k
  | 0, _ => rfl
  | k + 1, e => by simp only [sumTo]; rw [sumTo_congr k (fun x hx => e x (by omega)), e k (by omega)]
theorem sumTo_one (v : Nat) : ∀ N, sumTo (fun k => if v = k then 1 else 0) N = if v < N then 1 else 0
  | 0 => rfl
  | N + 1 => by
    simp only [sumTo]
    rw [sumTo_one v N]
    split <;> split <;> split <;> omega
theorem sumTo_zero : ∀ N, sumTo (fun _ => 0) N = 0
  | 0 => rfl
  | N + 1 => by simp only [sumTo]; rw [sumTo_zero N]
theorem sumTo_le {g : Nat → Nat} {c : Nat} : ∀ k, (∀ x, x < k → g x ≤ c) → sumTo g k ≤ c * k
  | 0, _ => by simp [sumTo]
  | k + 1, h => by
    have := sumTo_le k (fun x hx => h x (by omega))
    have := h k (by omega)
    rw [sumTo, Nat.mul_succ]; omega
/-- each number is before one -/
theorem sum_sel {f : Nat → Nat} {N : Nat} : ∀ M, (∀ x, x < M → f x < N) → sumTo (fun k => (sel M (fun x => f x == k)).length) N = M
  | 0, _ => by
    have : (fun k => (sel 0 (fun x => f x == k)).length) = fun _ => 0 := rfl
    rw [this, sumTo_zero]
  | M + 1, h => by
    have ih := sum_sel M (fun x hx => h x (by omega))
    have e : (fun k => (sel (M + 1) (fun x => f x == k)).length) = fun k => (sel M (fun x => f x == k)).length + (if f M = k then 1 else 0) := by
      funext k
      by_cases hk : f M = k
      · rw [sel_yes (by simpa using hk), List.length_append, if_pos hk]; rfl
      · rw [sel_no (by simpa using hk), if_neg hk]; rfl
    rw [e, sumTo_add, ih, sumTo_one, if_pos (h M (by omega))]
theorem sel_mem {N : Nat} {p : Nat → Bool} {x : Nat} : x ∈ sel N p ↔ x < N ∧ p x = true := by simp [sel]
theorem sel_nodup (N : Nat) (p : Nat → Bool) : (sel N p).Nodup := List.Pairwise.filter _ List.nodup_range
theorem sel_asc : ∀ (N : Nat) (p : Nat → Bool) (i j : Nat) (hi : i < (sel N p).length) (hj : j < (sel N p).length), i < j → (sel N p)[i] < (sel N p)[j]
  | 0, p, i, j, hi, _, _ => by simp [sel] at hi
  | N + 1, p, i, j, hi, hj, hij => by
    have h2 : ((List.range (N + 1)).filter p).Pairwise (· < ·) := List.Pairwise.filter _ List.pairwise_lt_range
    exact List.pairwise_iff_getElem.1 h2 i j hi hj hij
/-- a state of the round has one before it -/
theorem OrbF.before {f : Nat → Nat} {N s L : Nat} (h : OrbF f N s L 0) : ∃ j, f (itf f j s) = s ∧ j < L := by
  have hlt := h.lt
  refine ⟨L - 1, ?_, by omega⟩
  rw [← itf_succ f, show L - 1 + 1 = L by omega, h.rep]
  rfl
end Go.Proofs.YtpehimjngofnkaaDoor

/- Walks of the functions that tell of orbits and of next states. Printed by wip/mkq.py. -/
namespace Go.Proofs.YtpehimjngofnkaaDoor
open Go.RowKit

def tailN (ps : List (List UInt8)) (t : Int) : Int := if okSt ps t then ((orb (stp ps) t.toNat).2 : Int) else -1
theorem tailN_yes {ps : List (List UInt8)} {t : Nat} (h : okSt ps t = true) : tailN ps t = ((orb (stp ps) t).2 : Int) := if_pos h
theorem tailN_no {ps : List (List UInt8)} {t : Int} (h : okSt ps t = false) : tailN ps t = -1 := by rw [tailN, h]; rfl
def perN (ps : List (List UInt8)) (t : Int) : Int := if okSt ps t then ((orb (stp ps) t.toNat).1.length : Int) - ((orb (stp ps) t.toNat).2 : Int) else -1
theorem perN_yes {ps : List (List UInt8)} {t : Nat} (h : okSt ps t = true) : perN ps t = ((orb (stp ps) t).1.length : Int) - ((orb (stp ps) t).2 : Int) := if_pos h
theorem perN_no {ps : List (List UInt8)} {t : Int} (h : okSt ps t = false) : perN ps t = -1 := by rw [perN, h]; rfl
def orbN (ps : List (List UInt8)) (t : Int) : List Int := if okSt ps t then ints (orb (stp ps) t.toNat).1 else []
theorem orbN_yes {ps : List (List UInt8)} {t : Nat} (h : okSt ps t = true) : orbN ps t = ints (orb (stp ps) t).1 := if_pos h
theorem orbN_no {ps : List (List UInt8)} {t : Int} (h : okSt ps t = false) : orbN ps t = [] := by rw [orbN, h]; rfl
def nxtN (ps : List (List UInt8)) (t : Int) : List Int := if okSt ps t then ints (nextN ps t.toNat) else []
theorem nxtN_yes {ps : List (List UInt8)} {t : Nat} (h : okSt ps t = true) : nxtN ps t = ints (nextN ps t) := if_pos h
theorem nxtN_no {ps : List (List UInt8)} {t : Int} (h : okSt ps t = false) : nxtN ps t = [] := by rw [nxtN, h]; rfl
theorem nxtN_len (ps : List (List UInt8)) (t : Int) : (nxtN ps t).length ≤ 1048576 := by
  by_cases h : okSt ps t = true
  · obtain ⟨hok, s, rfl, _⟩ := okSt_true h
    rw [nxtN_yes h, ints_length]
    have := nextN_len hok s
    omega
  · rw [nxtN_no (by simpa using h)]; simp
theorem orbN_len (ps : List (List UInt8)) (t : Int) : (orbN ps t).length ≤ 1048576 := by
  by_cases h : okSt ps t = true
  · obtain ⟨hok, s, rfl, hs⟩ := okSt_true h
    rw [orbN_yes h, ints_length]
    have h32 := two_le _ (okN_le hok)
    have := (orb_all (f := stp ps) (N := 2 ^ ps.length) h32 (fun x _ => stp_lt hok x) hs).1
    omega
  · rw [orbN_no (by simpa using h)]; simp
/-- the place in the orbit after k steps -/
def aftI (o : List Nat × Nat) (k : Nat) : Nat := if k < o.1.length then k else o.2 + (k - o.2) % (o.1.length - o.2)
def aftN (ps : List (List UInt8)) (t k : Int) : Int := if okSt ps t && decide (0 ≤ k) then ((orb (stp ps) t.toNat).1.getD (aftI (orb (stp ps) t.toNat) k.toNat) 0 : Int) else -1
theorem aftN_yes {ps : List (List UInt8)} {t k : Nat} (h : okSt ps t = true) : aftN ps t k = ((orb (stp ps) t).1.getD (aftI (orb (stp ps) t) k) 0 : Int) := by
  rw [aftN, h, decide_eq_true (by omega)]; rfl
theorem aftN_no {ps : List (List UInt8)} {t k : Int} (h : okSt ps t = false) : aftN ps t k = -1 := by rw [aftN, h]; rfl
theorem aftN_neg {ps : List (List UInt8)} {t k : Int} (h : ¬ 0 ≤ k) : aftN ps t k = -1 := by rw [aftN, decide_eq_false h, Bool.and_false]; rfl
theorem aftI_lt {o : List Nat × Nat} {k : Nat} (h : o.2 < o.1.length) : aftI o k < o.1.length := by
  unfold aftI
  split
  · assumption
  · have : (k - o.2) % (o.1.length - o.2) < o.1.length - o.2 := Nat.mod_lt _ (by omega)
    omega

/-- the greatest number of states ahead of a cycle, of the orbits from the first k states -/
def lonTo (ps : List (List UInt8)) : Nat → Nat
  | 0 => 0
  | k + 1 => max (lonTo ps k) (orb (stp ps) k).2
theorem lonTo_le {ps : List (List UInt8)} (h : okN ps = true) : ∀ k, k ≤ 2 ^ ps.length → lonTo ps k ≤ 32
  | 0, _ => by simp [lonTo]
  | k + 1, hk => by
    have := lonTo_le h k (by omega)
    have h32 := two_le _ (okN_le h)
    have h2 := orb_all (f := stp ps) (N := 2 ^ ps.length) h32 (fun x _ => stp_lt h x) (show k < 2 ^ ps.length by omega)
    rw [lonTo]; omega
def lonN (ps : List (List UInt8)) : Int := if okN ps then (lonTo ps (2 ^ ps.length) : Int) else -1
theorem lonN_yes {ps : List (List UInt8)} {N : Nat} (h : okN ps = true) (hN : N = 2 ^ ps.length) : lonN ps = (lonTo ps N : Int) := by rw [lonN, if_pos h, hN]
theorem lonN_no {ps : List (List UInt8)} (h : okN ps = false) : lonN ps = -1 := by rw [lonN, h]; rfl
set_option maxHeartbeats 400000 in
theorem NextOf_any (s : ByteArray) (t : Int) (w : World) (hm : Hid (HasM w)) (hs : s.size ≤ 1073741824) :
    Calls Tryd.prog 34 #[.string s, .int .i64 t] w fun e w' => RetI w.heap.size (nxtN (cutL s.data.toList) t) e w' ∧ Below w.heap.size w w' := by
  obtain ⟨ps, HPS⟩ : ∃ ps, Hid (ps = cutL s.data.toList) := ⟨_, rfl⟩
  rw [← HPS.out]
  by_cases h : okSt ps t = true
  · obtain ⟨hok, t, rfl, hlt⟩ := okSt_true h
    have hn5 := okN_le hok
    obtain ⟨N, HN, hN, hN32, hN0⟩ := wrap_two ps.length hn5
    have HOK := Lib.hid hok
    have HS := Lib.hid hlt
    have htN : t < N := by rw [HN.out]; exact hlt
    have HST := Lib.hid h
    have HV := Lib.hid (nxtN_yes h)
    clear h hok hlt
    go_enter Tryd.func34, Tryd.ntmps34
    go_wp2_with fail
    refine (stateOf_any s ((t : Nat) : Int) w hm hs).mono ?_
    rintro e w1 ⟨⟨A, k0, c, rfl, himp⟩, hB1⟩
    rw [← HPS.out] at himp ⊢
    obtain ⟨rfl, hc, hO⟩ := himp HST.out
    rw [HST.out]
    have HR := Lib.hid hO.rd
    have hz1 := hB1.size
    clear hO himp
    go_wp2_with fail
    refine (next_any _ _ _ _ _ HR HOK HS).mono ?_
    rintro e w2 ⟨⟨A2, c2, rfl, hc2, hO2⟩, hB2⟩
    have hB12 : Below w.heap.size w w2 := hB1.trans (hB2.mono hz1)
    go_wp2
    go_ret
    exact ⟨⟨A2, c2, by rw [HV.out]; rfl, by rw [HV.out]; exact hc2, by rw [HV.out]; exact hO2.mono hz1⟩, hB12⟩
  · have h' : okSt ps t = false := by simpa using h
    have HST := Lib.hid h'
    have HV := Lib.hid (nxtN_no (t := t) h')
    clear h h'
    go_enter Tryd.func34, Tryd.ntmps34
    go_wp2_with fail
    refine (stateOf_any s t w hm hs).mono ?_
    rintro e w1 ⟨⟨A, k0, c, rfl, himp⟩, hB1⟩
    clear himp
    rw [← HPS.out, HST.out]
    go_wp2
    go_ret
    exact ⟨⟨none, 0, by rw [HV.out]; rfl, by rw [HV.out]; exact Nat.le_refl _, by rw [HV.out]; exact Own.nil _ _ _⟩, hB1⟩

end Go.Proofs.YtpehimjngofnkaaDoor

/- Walks of CycleOf and BasinOf. Printed by wip/mky.py. -/
namespace Go.Proofs.YtpehimjngofnkaaDoor
open Go.RowKit
set_option linter.unusedVariables false

theorem stp_lt32 {ps : List (List UInt8)} {N : Nat} (h : okN ps = true) (hN : N = 2 ^ ps.length) : N ≤ 32 ∧ ∀ x, x < N → stp ps x < N := ⟨by rw [hN]; exact two_le _ (okN_le h), fun x _ => by rw [hN]; exact stp_lt h x⟩
def cycN (ps : List (List UInt8)) (t : Int) : List Int := if okSt ps t then ints (cyc (stp ps) t.toNat) else []
theorem cycN_yes {ps : List (List UInt8)} {t : Nat} (h : okSt ps t = true) : cycN ps t = ints (cyc (stp ps) t) := if_pos h
theorem cycN_no {ps : List (List UInt8)} {t : Int} (h : okSt ps t = false) : cycN ps t = [] := by rw [cycN, h]; rfl
theorem cycN_len (ps : List (List UInt8)) (t : Int) : (cycN ps t).length ≤ 1048576 := by
  by_cases h : okSt ps t = true
  · obtain ⟨hok, s, rfl, hs⟩ := okSt_true h
    rw [cycN_yes h, ints_length]
    have hf := stp_lt32 hok rfl
    have := (cyc_len hf.1 hf.2 hs).1
    omega
  · rw [cycN_no (by simpa using h)]; simp
def basN (ps : List (List UInt8)) (t : Int) : List Int := if okSt ps t then ints (sel (2 ^ ps.length) fun k => cy0 (stp ps) k == cy0 (stp ps) t.toNat) else []
theorem basN_yes {ps : List (List UInt8)} {t N : Nat} (h : okSt ps t = true) (hN : N = 2 ^ ps.length) : basN ps t = ints (sel N fun k => cy0 (stp ps) k == cy0 (stp ps) t) := by rw [basN, if_pos h, hN]; rfl
theorem basN_no {ps : List (List UInt8)} {t : Int} (h : okSt ps t = false) : basN ps t = [] := by rw [basN, h]; rfl
theorem basN_len (ps : List (List UInt8)) (t : Int) : (basN ps t).length ≤ 1048576 := by
  by_cases h : okSt ps t = true
  · obtain ⟨hok, s, rfl, hs⟩ := okSt_true h
    rw [basN_yes h rfl, ints_length]
    have := sel_len (2 ^ ps.length) fun k => cy0 (stp ps) k == cy0 (stp ps) s
    have h32 := two_le _ (okN_le hok)
    omega
  · rw [basN_no (by simpa using h)]; simp
/-- the address A does not lie in v's own block -/
def OffB (v : Value) (A : Option Addr) : Prop := ∀ a, A = some a → v.ownBlock ≠ some a.block
theorem offB_own {w : World} {B g n c : Nat} {A : Option Addr} {vs : List Value} (h : Own w B A vs) (hg : g < B) : OffB (.slice (some ⟨g, 0, none⟩) n c) A ∨ vs = [] := by
  rcases h with h | ⟨g2, off, hA, hB, _⟩
  · exact .inr h
  · left
    intro a ha
    rw [hA] at ha
    injection ha with ha
    subst ha
    simp only [Value.ownBlock, ne_eq, Option.some.injEq]
    omega
theorem offB_push {w w' : World} {v v' : Value} {A : Option Addr} {vs : List Value} (h : Rd w A vs) (ho : OffB v A) (hf : ∀ g, g < w.heap.size → v.ownBlock ≠ some g → w'.heap[g]? = w.heap[g]? ∧ v'.ownBlock ≠ some g) (hne : vs ≠ []) : Rd w' A vs ∧ OffB v' A := by
  rcases h with h | ⟨g, off, hA, hc⟩
  · exact absurd h hne
  · have hlt : g < w.heap.size := by
      cases vs with
      | nil => exact absurd rfl hne
      | cons x l => exact World.block_lt_of_cell? w _ (hc 0 x rfl)
    have h2 := hf g hlt (ho _ hA)
    refine ⟨.inr ⟨g, off, hA, fun j v hj => (World.cell?_of_block (w := w) (a := ⟨g, off + j, none⟩) h2.1).trans (hc j v hj)⟩, fun a ha => ?_⟩
    rw [hA] at ha
    injection ha with ha
    subst ha
    exact h2.2
/-- the first of a cycle's cells -/
theorem cyc_cell {ps : List (List UInt8)} {N s : Nat} (h : okN ps = true) (hN : N = 2 ^ ps.length) (hs : s < N) : ((ints (cyc (stp ps) s)).map (Value.int .i64))[0]? = some (.int .i64 (cy0 (stp ps) s : Int)) ∧ 0 < (ints (cyc (stp ps) s)).length := by
  have hf := stp_lt32 h hN
  obtain ⟨l, e⟩ := cyc_head hf.1 hf.2 hs
  rw [e]
  exact ⟨rfl, by simp [ints]⟩

end Go.Proofs.YtpehimjngofnkaaDoor

/- The walk of the law FnFixedPoints. -/
namespace Go.Proofs.YtpehimjngofnkaaDoor
open Go.RowKit
set_option linter.unusedVariables false

theorem sel_pre {p : Nat → Bool} {k : Nat} : ∀ N, k ≤ N → ∃ r, sel N p = sel k p ++ r := by
  intro N
  induction N with
  | zero => intro h; exact ⟨[], by rw [show k = 0 by omega]; simp⟩
  | succ N ih =>
    intro h
    by_cases hk : k = N + 1
    · exact ⟨[], by rw [hk]; simp⟩
    · obtain ⟨r, hr⟩ := ih (by omega)
      by_cases hp : p N = true
      · exact ⟨r ++ [N], by rw [sel_yes hp, hr, List.append_assoc]⟩
      · exact ⟨r, by rw [sel_no (by simpa using hp), hr]⟩
theorem sel_at {p : Nat → Bool} {k N : Nat} (hk : k < N) (hp : p k = true) : (ints (sel N p))[(sel k p).length]? = some (k : Int) ∧ (sel k p).length < (ints (sel N p)).length := by
  obtain ⟨r, hr⟩ := sel_pre (p := p) (k := k + 1) N hk
  rw [sel_yes hp] at hr
  constructor
  · rw [hr, ints, List.getElem?_map, List.append_assoc, List.getElem?_append_right (Nat.le_refl _)]
    simp
  · rw [ints_length, hr]; simp
theorem rsA_k {ps : List (List UInt8)} {k : Nat} (h : okSt ps (k : Int) = true) : rsA ps (k : Int) = ((stp ps k ^^^ k : Nat) : Int) := by rw [rsA, if_pos h]; rfl
theorem stA_k {ps : List (List UInt8)} {k : Nat} (h : okSt ps (k : Int) = true) : stA ps (k : Int) = (stp ps k : Int) := by rw [stA, if_pos h]; rfl

theorem xor_ne : ∀ a, a < 32 → ∀ b, b < 32 → a ^^^ b = 0 → a = b := by decide +kernel
end Go.Proofs.YtpehimjngofnkaaDoor

/- Plain facts for the laws: orbits, cycles, next states of a network. -/
namespace Go.Proofs.YtpehimjngofnkaaDoor
open Go.RowKit
set_option linter.unusedVariables false

/-- what is known of a network with a state -/
theorem st_open {ps : List (List UInt8)} {t : Int} (h : okSt ps t = true) : Hid (okN ps = true) ∧ ∃ N s : Nat, t = (s : Int) ∧ Hid (N = 2 ^ ps.length) ∧ N ≤ 32 ∧ 0 < N ∧ s < N ∧ Hid (∀ x, x < N → okSt ps (x : Int) = true) ∧ ∀ x, x < N → stp ps x < N := by
  obtain ⟨hok, s, rfl, hs⟩ := okSt_true h
  obtain ⟨N, HN⟩ : ∃ N : Nat, N = 2 ^ ps.length := ⟨_, rfl⟩
  refine ⟨hok, N, s, rfl, HN, by rw [HN]; exact two_le _ (okN_le hok), by rw [HN]; exact Nat.two_pow_pos _, by rw [HN]; exact hs, Lib.hid fun x hx => ?_, fun x _ => by rw [HN]; exact stp_lt hok x⟩
  rw [okSt_of hok HN]; simp; omega
theorem itl_int {f : Nat → Nat} {s k i : Nat} (h : i < k) : (ints (itl f s k))[i]? = some ((itf f i s : Nat) : Int) := by
  rw [ints, List.getElem?_map, List.getElem?_eq_getElem (by rw [itl_len]; exact h), itl_get _ _ _ _ h]; rfl
theorem lonTo_ge {ps : List (List UInt8)} {k : Nat} : ∀ N, k < N → (orb (stp ps) k).2 ≤ lonTo ps N
  | 0, h => by omega
  | N + 1, h => by
    rw [lonTo]
    by_cases e : k = N
    · subst e; omega
    · have := lonTo_ge (ps := ps) (k := k) N (by omega); omega
theorem aft_itf {ps : List (List UInt8)} {N x k : Nat} (hN : N ≤ 32) (hf : ∀ x, x < N → stp ps x < N) (hx : x < N) (h : okSt ps (x : Int) = true) : aftN ps (x : Int) (k : Int) = ((itf (stp ps) k x : Nat) : Int) := by
  obtain ⟨L, T, hF⟩ := orb_form hN hf hx
  rw [aftN_yes h, hF.eq]
  have := hF.at_ k
  unfold aftI
  rw [itl_len]
  show (((itl (stp ps) x L).getD (if k < L then k else T + (k - T) % (L - T)) 0 : Nat) : Int) = _
  rw [this]
/-! steps of one switch -/
theorem hold_casesB : ∀ s, s < 32 → ∀ i, i < 5 → ∀ v, v < 2 → (if v == bit s i then holdN s i v == s else (holdN s i v == s ^^^ 2 ^ i) && !(holdN s i v == s)) = true := by decide +kernel
theorem hold_cases (s : Nat) (hs : s < 32) (i : Nat) (hi : i < 5) (v : Nat) (hv : v < 2) : (v = bit s i → holdN s i v = s) ∧ (v ≠ bit s i → holdN s i v = s ^^^ 2 ^ i ∧ holdN s i v ≠ s) := by
  have h := hold_casesB s hs i hi v hv
  by_cases e : v = bit s i
  · rw [if_pos (by simpa using e)] at h
    exact ⟨fun _ => by simpa using h, fun hne => absurd e hne⟩
  · rw [if_neg (by simpa using e)] at h
    exact ⟨fun he => absurd he e, fun _ => by simpa using h⟩
theorem xor_bit : ∀ a, a < 32 → ∀ b, b < 32 → ∀ i, i < 5 → bit (a ^^^ b) i = if bit a i = bit b i then 0 else 1 := by decide +kernel
theorem stp_bit {ps : List (List UInt8)} (h : okN ps = true) {s i : Nat} (hi : i < ps.length) : bit (stp ps s) i = nb ps s i := bit_asm (nb_lt h s) i _ hi
/-- the restless switches are those whose own steps change the state -/
theorem rst_bit {ps : List (List UInt8)} (h : okN ps = true) {s i : Nat} (hs : s < 2 ^ ps.length) (hi : i < ps.length) :
    (stp1 ps s i = s → bit (stp ps s ^^^ s) i = 0) ∧ (stp1 ps s i ≠ s → bit (stp ps s ^^^ s) i = 1 ∧ stp1 ps s i = s ^^^ 2 ^ i) := by
  have h32 := two_le _ (okN_le h)
  have hn5 := okN_le h
  have h1 := xor_bit (stp ps s) (Nat.lt_of_lt_of_le (stp_lt h s) h32) s (Nat.lt_of_lt_of_le hs h32) i (by omega)
  have h2 := hold_cases s (Nat.lt_of_lt_of_le hs h32) i (by omega) (nb ps s i) (nb_lt h s i)
  rw [stp_bit h hi] at h1
  rw [stp1]
  by_cases e : nb ps s i = bit s i
  · rw [if_pos e] at h1
    exact ⟨fun _ => h1, fun hne => absurd (h2.1 e) hne⟩
  · rw [if_neg e] at h1
    exact ⟨fun he => absurd he (h2.2 e).2, fun _ => ⟨h1, (h2.2 e).1⟩⟩
theorem nextTo_pre {ps : List (List UInt8)} {s k : Nat} : ∀ n, k ≤ n → ∃ r, nextTo ps s n = nextTo ps s k ++ r := by
  intro n
  induction n with
  | zero => intro h; exact ⟨[], by rw [show k = 0 by omega]; simp⟩
  | succ n ih =>
    intro h
    by_cases hk : k = n + 1
    · exact ⟨[], by rw [hk]; simp⟩
    · obtain ⟨r, hr⟩ := ih (by omega)
      rw [nextTo]
      split
      · exact ⟨r, hr⟩
      · exact ⟨r ++ [stp1 ps s n], by rw [hr, List.append_assoc]⟩
theorem nextTo_at {ps : List (List UInt8)} {s i : Nat} (hi : i < ps.length) (h : stp1 ps s i ≠ s) : (ints (nextN ps s))[(nextTo ps s i).length]? = some ((stp1 ps s i : Nat) : Int) ∧ (nextTo ps s i).length < (ints (nextN ps s)).length := by
  obtain ⟨r, hr⟩ := nextTo_pre (ps := ps) (s := s) (k := i + 1) ps.length hi
  rw [nextTo, if_neg h] at hr
  constructor
  · rw [nextN, hr, ints, List.getElem?_map, List.append_assoc, List.getElem?_append_right (Nat.le_refl _)]
    simp
  · rw [nextN, ints_length, hr]; simp
/-! sets of states as numbers -/
def maskT (xs : List Nat) : Nat → Nat
  | 0 => 0
  | k + 1 => maskT xs k ||| 2 ^ xs.getD k 0
theorem maskT_lt {xs : List Nat} (h : ∀ i, xs.getD i 0 < 32) : ∀ k, maskT xs k < 2 ^ 32
  | 0 => by simp [maskT]
  | k + 1 => Nat.or_lt_two_pow (maskT_lt h k) (Nat.pow_lt_pow_right (by omega) (h k))
theorem maskT_bit {xs : List Nat} {j : Nat} : ∀ k, j < k → bit (maskT xs k) (xs.getD j 0) = 1
  | 0, h => by omega
  | k + 1, h => by
    rw [maskT, bit_testBit, Nat.testBit_or]
    by_cases e : j = k
    · subst e
      rw [Nat.testBit_two_pow_self, Bool.or_true]; rfl
    · have := maskT_bit (xs := xs) k (show j < k by omega)
      rw [bit_testBit] at this
      cases hb : (maskT xs k).testBit (xs.getD j 0)
      · rw [hb] at this; simp at this
      · rfl
theorem wrap_pow32 : ∀ x, x < 32 → wrap64 ((2 : Int) ^ x) = ((2 ^ x : Nat) : Int) := by decide +kernel
theorem wf_i64 {k : Int} (h : -1 ≤ k ∧ k ≤ 9223372036854775807) : (Lit.int .i64 k).wf = true := by
  simp [Lit.wf, IntKind.max, IntKind.min, IntKind.bits, IntKind.signed]; omega
theorem ints_getD (c : List Nat) (i : Nat) (h : i < c.length) : (ints c)[i]? = some ((c.getD i 0 : Nat) : Int) := by
  rw [ints, List.getElem?_map, List.getD_eq_getElem?_getD, List.getElem?_eq_getElem h]; rfl

end Go.Proofs.YtpehimjngofnkaaDoor

/- Walks: lists of lists of integers; the cycles of a network on both sides. -/
namespace Go.Proofs.YtpehimjngofnkaaDoor
open Go.RowKit
set_option linter.unusedVariables false

/-- an own list of values of one cell each -/
def OV (w : World) (B : Nat) (e : TypeId) (v : Value) (ys : List Value) : Prop := w.ownsRow B e 1 v ys.length ys
theorem OV.nil (w : World) (B : Nat) (e : TypeId) : OV w B e (.slice none 0 0) [] := World.ownsRow_nil w B e 1
theorem OV.empty (w : World) (B : Nat) (e : TypeId) (hB : B ≤ w.heap.size) : OV (w.alloc (.cells #[] e)) B e (.slice (some ⟨w.heap.size, 0, none⟩) 0 0) [] :=
  World.ownsRow_made w #[] 0 hB (Nat.zero_le _) rfl
theorem OV.below {w w' : World} {B : Nat} {e : TypeId} {v : Value} {ys : List Value} (h : OV w B e v ys) (hb : Below w.heap.size w w') : OV w' B e v ys := ownsRow_below h hb
theorem OV.form {w : World} {B : Nat} {e : TypeId} {v : Value} {ys : List Value} (h : OV w B e v ys) : ∃ A c, v = .slice A ys.length c ∧ ys.length ≤ c ∧ Own w B A ys := by
  rcases h.2 with ⟨rfl, h0⟩ | ⟨g, cap, cur, rfl, hB, hg, hn, rest⟩
  · exact ⟨none, 0, by rw [h0], by omega, .inl (List.eq_nil_of_length_eq_zero h0)⟩
  · exact ⟨_, cap, rfl, hn, Own.of_own h⟩
theorem OV.own_lt {w : World} {B g : Nat} {e : TypeId} {v : Value} {ys : List Value} (h : OV w B e v ys) (hg : v.ownBlock = some g) : B ≤ g ∧ g < w.heap.size :=
  ⟨(World.ownsRow.lt h g hg).1, (World.ownsRow.lt h g hg).2⟩
theorem own_ne {w : World} {B g : Nat} {e : TypeId} {v : Value} {ys : List Value} (h : OV w B e v ys) (hg : w.heap.size ≤ g) : v.ownBlock ≠ some g := fun e => by have := (h.own_lt e).2; omega
theorem wp_pushL {P : Program} {wr : World} {ops : Array Oper} {rest : List Oper} {o : Oper} {a : Act} {Q : Exit → Act → World → Prop} (hgd : o.guard = none) (s x : Operand) (t : TypeId)
    (ho : o.op = .call { callee := .builtin .append, args := #[s, x], argTypes := #[t, t] })
    {B e : Nat} (ht : P.underlying t = some (.slice e)) (hinf : (P.info? e).map (fun i => (i.zero, i.size, i.bytes)) = some (some (.slice none 0 0), 1, 24))
    {v : Value} {ys : List Value} {u : Value} (hu : u.oneCell' = true) (hown : OV wr B e v ys) (hs : a.eval s = v) (hx : a.eval x = .slice (some ⟨wr.heap.size, 0, none⟩) 1 1)
    (hn : ys.length ≤ 1099511627776) (hB : B ≤ wr.heap.size)
    (h : ∀ v' w', OV w' B e v' (ys ++ [u]) → (∀ B', B' ≤ B → Below B' wr w') → wr.heap.size ≤ w'.heap.size → (∀ g, g < wr.heap.size → v.ownBlock ≠ some g → w'.heap[g]? = wr.heap[g]? ∧ v'.ownBlock ≠ some g) → wpList P ops Q rest (a.put o.dst v') w') :
    wpList P ops Q (o :: rest) a (wr.alloc (.cells #[u] e)) := by
  obtain ⟨i, hi, hiz, his, hib⟩ := info_parts hinf
  refine wpList_append_own_at _ hgd s x t ho B e i (.slice none 0 0) 1 24 ht hi hiz his hib rfl (by omega) v ys.length ys hs (World.ownsRow.alloc hown _) ⟨wr.heap.size, 0, none⟩ 1 1 [u] hx rfl ?_ ?_ (by simp only [maxLen]; omega) (by omega) (by rw [alloc_size]; omega) ?_
  · intro j y hj
    cases j with
    | zero =>
      simp only [List.getElem?_cons_zero, Option.some.injEq] at hj
      subst hj
      have : (⟨wr.heap.size, 0, none⟩ : Addr).add 0 = ⟨wr.heap.size, 0, none⟩ := rfl
      rw [this, cell_new]; rfl
    | succ j => simp at hj
  · intro y hy
    rw [List.mem_singleton.1 hy]; exact hu
  · intro v' w' h1 h2 _ h4
    have hz := h2.size
    rw [alloc_size] at hz
    refine h v' w' (by unfold OV; simpa using h1) (fun B' hB' => ?_) (by omega) (fun g hg hne => ⟨?_, ?_⟩)
    · have hb0 : Below B' wr (wr.alloc (.cells #[u] e)) := (Below.refl _ _).alloc (by omega) _
      refine hb0.grown h2 (by rw [alloc_size]; omega) ?_
      intro k hk
      have := (World.ownsRow.lt hown k hk).1
      omega
    · have := h2.block g (by rw [alloc_size]; omega) (fun e => hne e.symm)
      rw [this]
      exact heap_alloc_old wr _ hg
    · rcases h4 with h4 | h4
      · rw [h4]; exact hne
      · rw [h4, alloc_size]; intro e; injection e; omega
theorem Own.blk {w w' : World} {B g off : Nat} {vs : List Value} (h : Own w B (some ⟨g, off, none⟩) vs) (hb : w'.heap[g]? = w.heap[g]?) : Own w' B (some ⟨g, off, none⟩) vs := by
  rcases h with h | ⟨g', off', hA, hB, hc⟩
  · exact .inl h
  · injection hA with hA
    injection hA with h1 h2
    subst h1 h2
    refine .inr ⟨g, off, rfl, hB, fun j v hj => ?_⟩
    exact ⟨(World.cell?_of_block (w := w) (a := ⟨g, off + j, none⟩) hb).trans (hc j v hj).1, (World.frozen?_of_block (w := w) (a := ⟨g, off + j, none⟩) hb).trans (hc j v hj).2⟩
/-- the lists of a list of lists: each in a block of its own, which is not that of the list v itself -/
structure LL (w : World) (B : Nat) (v : Value) (gs : List Nat) (ys : List Value) (xss : List (List Int)) : Prop where
  len : ys.length = xss.length
  gl : gs.length = xss.length
  nd : gs.Nodup
  lt : ∀ g ∈ gs, B ≤ g ∧ g < w.heap.size ∧ v.ownBlock ≠ some g
  at_ : ∀ (i : Nat) (xs : List Int), xss[i]? = some xs → ∃ (g off c : Nat), gs[i]? = some g ∧ ys[i]? = some (Value.slice (some ⟨g, off, none⟩) xs.length c) ∧ xs.length ≤ c ∧ Own w B (some ⟨g, off, none⟩) (xs.map (Value.int .i64))
theorem LL.nil (w : World) (B : Nat) (v : Value) : LL w B v [] [] [] := ⟨rfl, rfl, by simp, by simp, by intro i xs h; simp at h⟩
theorem LL.blk {w w' : World} {B : Nat} {v v' : Value} {gs : List Nat} {ys : List Value} {xss : List (List Int)} (h : LL w B v gs ys xss) (hb : ∀ g ∈ gs, w'.heap[g]? = w.heap[g]? ∧ v'.ownBlock ≠ some g) (hz : w.heap.size ≤ w'.heap.size) : LL w' B v' gs ys xss :=
  ⟨h.len, h.gl, h.nd, fun g hg => ⟨(h.lt g hg).1, Nat.lt_of_lt_of_le (h.lt g hg).2.1 hz, (hb g hg).2⟩, fun i xs hi => by
    obtain ⟨g, off, c, h1, h2, h3, h4⟩ := h.at_ i xs hi
    exact ⟨g, off, c, h1, h2, h3, h4.blk (hb g (List.mem_of_getElem? h1)).1⟩⟩
theorem LL.below {w w' : World} {B : Nat} {v : Value} {gs : List Nat} {ys : List Value} {xss : List (List Int)} (h : LL w B v gs ys xss) (hb : Below w.heap.size w w') : LL w' B v gs ys xss :=
  h.blk (fun g hg => ⟨hb.block g (h.lt g hg).2.1, (h.lt g hg).2.2⟩) hb.size
theorem LL.snoc {w : World} {B g off c : Nat} {v : Value} {gs : List Nat} {ys : List Value} {xss : List (List Int)} {xs : List Int} (h : LL w B v gs ys xss) (hg : g ∉ gs) (hB : B ≤ g) (hw : g < w.heap.size) (hv : v.ownBlock ≠ some g) (hc : xs.length ≤ c)
    (ho : Own w B (some ⟨g, off, none⟩) (xs.map (Value.int .i64))) : LL w B v (gs ++ [g]) (ys ++ [.slice (some ⟨g, off, none⟩) xs.length c]) (xss ++ [xs]) := by
  refine ⟨by rw [List.length_append, List.length_append, h.len]; rfl, by rw [List.length_append, List.length_append, h.gl]; rfl, ?_, ?_, ?_⟩
  · rw [List.nodup_append]
    exact ⟨h.nd, by simp, by intro a ha b hb; simp at hb; subst hb; intro e; subst e; exact hg ha⟩
  · intro x hx
    rcases List.mem_append.1 hx with hx | hx
    · exact h.lt x hx
    · simp at hx; subst hx; exact ⟨hB, hw, hv⟩
  · intro i zs hi
    by_cases hlt : i < xss.length
    · rw [List.getElem?_append_left hlt] at hi
      obtain ⟨g', off', c', h1, h2, h3, h4⟩ := h.at_ i zs hi
      exact ⟨g', off', c', by rw [List.getElem?_append_left (by rw [h.gl]; exact hlt)]; exact h1, by rw [List.getElem?_append_left (by rw [h.len]; exact hlt)]; exact h2, h3, h4⟩
    · have hie : i = xss.length := by
        have := (List.getElem?_eq_some_iff.1 hi).1
        rw [List.length_append, List.length_singleton] at this; omega
      subst hie
      rw [List.getElem?_append_right (Nat.le_refl _), Nat.sub_self] at hi
      simp at hi
      subst hi
      exact ⟨g, off, c, by rw [← h.gl, List.getElem?_append_right (Nat.le_refl _), Nat.sub_self]; rfl, by rw [← h.len, List.getElem?_append_right (Nat.le_refl _), Nat.sub_self]; rfl, hc, ho⟩
theorem LL.mono {w : World} {B B' : Nat} {v : Value} {gs : List Nat} {ys : List Value} {xss : List (List Int)} (h : LL w B v gs ys xss) (hB : B' ≤ B) : LL w B' v gs ys xss :=
  ⟨h.len, h.gl, h.nd, fun g hg => ⟨Nat.le_trans hB (h.lt g hg).1, (h.lt g hg).2⟩, fun i xs hi => by
    obtain ⟨g, off, c, h1, h2, h3, h4⟩ := h.at_ i xs hi
    exact ⟨g, off, c, h1, h2, h3, h4.mono hB⟩⟩
/-- a list of lists was handed back -/
def RetLL (B : Nat) (xss : List (List Int)) (e : Ending) (w' : World) : Prop :=
  ∃ A c gs ys, e = .returned (.slice A xss.length c) ∧ xss.length ≤ c ∧ Own w' B A ys ∧ LL w' B (.slice A xss.length c) gs ys xss
theorem info_sl : (Tryd.prog.info? 22).map (fun i => (i.zero, i.size, i.bytes)) = some (some (.slice none 0 0), 1, 24) := by kernel_rfl
/-- the cycles of the first k states that are least in their cycle -/
def cylTo (f : Nat → Nat) (k : Nat) : List (List Int) := (sel k fun s => cy0 f s == s).map fun s => ints (cyc f s)
theorem cylTo_yes {f : Nat → Nat} {k : Nat} (h : cy0 f k = k) : cylTo f (k + 1) = cylTo f k ++ [ints (cyc f k)] := by rw [cylTo, sel_yes (by simpa using h), List.map_append]; rfl
theorem cylTo_no {f : Nat → Nat} {k : Nat} (h : ¬ cy0 f k = k) : cylTo f (k + 1) = cylTo f k := by rw [cylTo, sel_no (by simpa using h)]; rfl
theorem cylTo_len (f : Nat → Nat) (k : Nat) : (cylTo f k).length ≤ k := by rw [cylTo, List.length_map]; exact sel_len _ _
def cylN (ps : List (List UInt8)) : List (List Int) := if okN ps then cylTo (stp ps) (2 ^ ps.length) else []
theorem cylN_yes {ps : List (List UInt8)} {N : Nat} (h : okN ps = true) (hN : N = 2 ^ ps.length) : cylN ps = cylTo (stp ps) N := by rw [cylN, if_pos h, hN]
theorem cylN_no {ps : List (List UInt8)} (h : okN ps = false) : cylN ps = [] := by rw [cylN, h]; rfl

end Go.Proofs.YtpehimjngofnkaaDoor

/- Plain facts on attractors as lists. -/
namespace Go.Proofs.YtpehimjngofnkaaDoor
open Go.RowKit
set_option linter.unusedVariables false

/-- the attractors whose least states are below k -/
def attTo (rb : Nat → Nat → Bool) (N k : Nat) : List (List Int) := (atts rb N k).map fun a => ints (sel N (rb a))
theorem attTo_yes {rb : Nat → Nat → Bool} {N k : Nat} (h : att rb N k = true) : attTo rb N (k + 1) = attTo rb N k ++ [ints (sel N (rb k))] := by
  rw [attTo, atts, sel_yes h, List.map_append]; rfl
theorem attTo_no {rb : Nat → Nat → Bool} {N k : Nat} (h : att rb N k = false) : attTo rb N (k + 1) = attTo rb N k := by
  rw [attTo, atts, sel_no h]; rfl
theorem attTo_len (rb : Nat → Nat → Bool) (N k : Nat) : (attTo rb N k).length ≤ k := by rw [attTo, List.length_map]; exact atts_le rb N k
theorem attTo_lens {rb : Nat → Nat → Bool} {N k : Nat} : ∀ xs ∈ attTo rb N k, xs.length ≤ N := by
  intro xs hx
  rw [attTo, List.mem_map] at hx
  obtain ⟨a, _, rfl⟩ := hx
  rw [ints_length]; exact sel_len _ _
/-- an attractor begins with its least state -/
theorem att_head {rb : Nat → Nat → Bool} {N a : Nat} (h : RB rb N) (ha : a < N) (h1 : att rb N a = true) : (ints (sel N (rb a)))[0]? = some (a : Int) := by
  obtain ⟨l, hl⟩ := sel_low h ha (att_iff.1 h1).2
  rw [hl]; rfl
theorem attTo_at {rb : Nat → Nat → Bool} {N k i : Nat} (hi : i < (atts rb N k).length) : (attTo rb N k)[i]? = some (ints (sel N (rb ((atts rb N k).getD i 0)))) := by
  rw [attTo, List.getElem?_map, List.getD_eq_getElem?_getD, List.getElem?_eq_getElem hi]; rfl
def attN (ps : List (List UInt8)) : List (List Int) := if okN ps then attTo (rbN ps) (2 ^ ps.length) (2 ^ ps.length) else []
theorem attN_yes {ps : List (List UInt8)} {N : Nat} (h : okN ps = true) (hN : N = 2 ^ ps.length) : attN ps = attTo (rbN ps) N N := by rw [attN, if_pos h, hN]
theorem attN_no {ps : List (List UInt8)} (h : okN ps = false) : attN ps = [] := by rw [attN, h]; rfl
theorem attN_len (ps : List (List UInt8)) : (attN ps).length ≤ 1000 := by
  by_cases h : okN ps = true
  · rw [attN_yes h rfl]
    have := attTo_len (rbN ps) (2 ^ ps.length) (2 ^ ps.length)
    have := two_le _ (okN_le h)
    omega
  · rw [attN_no (by simpa using h)]; simp
theorem attN_lens (ps : List (List UInt8)) : ∀ xs ∈ attN ps, xs.length ≤ 1000 := by
  intro xs hx
  by_cases h : okN ps = true
  · rw [attN_yes h rfl] at hx
    have := attTo_lens xs hx
    have := two_le _ (okN_le h)
    omega
  · rw [attN_no (by simpa using h)] at hx; simp at hx
/-- the states that a search marks: those of the attractors so far -/
theorem att_skip {rb : Nat → Nat → Bool} {N k : Nat} (h : RB rb N) (hk : k < N) : (doneB rb N k k = false ∧ std rb N k = true) ↔ att rb N k = true := by
  constructor
  · rintro ⟨h1, h2⟩
    refine att_iff.2 ⟨h2, low_iff.2 fun t ht => ?_⟩
    cases hr : rb k t
    · rfl
    · exfalso
      -- the least state that k reaches is that of an attractor below k
      have hs := std_to h hk h2 hr
      have htN := h.lt k t hk hr
      obtain ⟨l1, l2, l3⟩ := lea_all h hk
      have h5 : lea rb N k ≤ t := by
        by_cases hle : lea rb N k ≤ t
        · exact hle
        · have := l3 t (by omega); rw [hr] at this; cases this
      have h6 : att rb N (lea rb N k) = true := att_iff.2 ⟨std_to h hk h2 l1, low_iff.2 fun u hu => by
        cases h7 : rb (lea rb N k) u
        · rfl
        · have h8 := h.trans k _ u hk l1 h7
          have := l3 u hu
          rw [h8] at this; cases this⟩
      have h9 : doneB rb N k k = true := by
        unfold doneB
        exact List.any_eq_true.2 ⟨lea rb N k, mem_atts.2 ⟨by omega, h6⟩, std_back h hk h2 l1⟩
      rw [h1] at h9; cases h9
  · intro h1
    have h2 := att_iff.1 h1
    refine ⟨?_, h2.1⟩
    cases hd : doneB rb N k k
    · rfl
    · unfold doneB at hd
      obtain ⟨a, ha, hr⟩ := List.any_eq_true.1 hd
      obtain ⟨h3, h4⟩ := mem_atts.1 ha
      have h5 := std_back h (show a < N by omega) (att_iff.1 h4).1 hr
      have := low_iff.1 h2.2 a h3
      rw [h5] at this; cases this

end Go.Proofs.YtpehimjngofnkaaDoor

