/- Walks of the reference's l5Reach, l5Sorted and l5Steady. -/
import Derived.Test.YtpehimjngofnkaaDoorProg
import Derived.WalkKit
import Derived.WalkSpells
import Derived.WalkLawsBesides
import Derived.Lib.Hide
import Derived.Deep.QuietTactic
import Derived.Deep.LoopGhost
import Derived.BigQuiet
import Derived.Test.YtpehimjngofnkaaDoorWx
import Derived.Test.YtpehimjngofnkaaDoorMu
namespace Go.Proofs.YtpehimjngofnkaaDoor
open Go.RowKit
set_option linter.unusedVariables false

/-- the truths of the first N states -/
def bolL (N : Nat) (p : Nat → Bool) : List Value := (List.range N).map fun t => .bool (p t)
theorem bolL_length (N : Nat) (p : Nat → Bool) : (bolL N p).length = N := by simp [bolL]
theorem bolL_get {N t : Nat} (p : Nat → Bool) (h : t < N) : (bolL N p)[t]? = some (.bool (p t)) := by simp [bolL, h]
theorem bolL_none (N : Nat) : (bolL N fun t => decide (t ∈ ([] : List Nat))).toArray = Array.replicate N (.bool false) := by
  apply Array.ext'
  simp [bolL, List.map_const']
theorem bolL_set {N : Nat} {met : List Nat} (t : Nat) : (bolL N fun x => decide (x ∈ met)).toArray.setIfInBounds t (.bool true) = (bolL N fun x => decide (x ∈ met ++ [t])).toArray := by
  apply Array.ext'
  rw [Array.toList_setIfInBounds]
  apply List.ext_getElem?
  intro j
  rw [List.getElem?_set, List.toList_toArray, List.toList_toArray]
  by_cases hj : j < N
  · rw [bolL_get _ hj, bolL_get _ hj, bolL_length]
    by_cases e : t = j
    · subst e; simp [hj]
    · have e2 : ¬ j = t := fun h => e h.symm
      simp [e, e2]
  · rw [List.getElem?_eq_none (l := bolL N fun x => decide (x ∈ met ++ [t])) (by rw [bolL_length]; omega), List.getElem?_eq_none (l := bolL N fun x => decide (x ∈ met)) (by rw [bolL_length]; omega), bolL_length]
    split
    · rename_i e; subst e; rw [if_neg hj]
    · rfl
theorem bolL_congr {N : Nat} {p q : Nat → Bool} (h : ∀ t, p t = q t) : bolL N p = bolL N q := by
  have : p = q := funext h
  rw [this]
theorem bolL_own {w : World} {g B N : Nat} {t : TypeId} {p : Nat → Bool} (h : Blk w g t (bolL N p).toArray) (hB : B ≤ g) : Own w B (some ⟨g, 0, none⟩) (bolL N p) :=
  .inr ⟨g, 0, rfl, hB, fun j v hj => by
    rw [Nat.zero_add, h.cell, h.frozen, List.getElem?_toArray]
    exact ⟨hj, rfl⟩⟩
/-- it returns the truths of the first N states, in memory from block B on -/
def RetB (B N : Nat) (p : Nat → Bool) (e : Ending) (w' : World) : Prop := ∃ A c, e = .returned (.slice A N c) ∧ N ≤ c ∧ Own w' B A (bolL N p)

theorem l5Sorted_any (A : Option Addr) (c N : Nat) (p : Nat → Bool) (w : World) (hx : Hid (Rd w A (bolL N p))) (hN : N ≤ 32) :
    Calls Tryd.prog 107 #[.slice A N c] w fun e w' => RetI w.heap.size (ints (sel N p)) e w' ∧ Below w.heap.size w w' := by
  go_enter Tryd.func107, Tryd.ntmps107
  go_wp2
  go_loopw [3, 4] (fun v q wr => ∃ k : Nat, k ≤ N ∧ q = .int .i64 k ∧ Hid (OI wr w.heap.size 3 v (ints (sel k p))) ∧ Below w.heap.size w wr) (fun _ q _ => N - (intOf q).toNat)
  case atStart => exact ⟨0, Nat.zero_le _, rfl, Lib.hid (OI.empty _ _ _ (Nat.le_refl _)), (Below.refl _ _).alloc (Nat.le_refl _) _⟩
  case round =>
    obtain ⟨k, hk, rfl, HO, hB⟩ := hrel
    have hsz := hB.size
    have hlen : (ints (sel k p)).length ≤ k := by rw [ints_length]; exact sel_len _ _
    by_cases hlt : k < N
    · obtain ⟨g, off, hA, hcell⟩ := (hx.out.below hB).at_ (bolL_get p hlt)
      subst hA
      by_cases hp : p k = true
      · have HE := Lib.hid (sel_yesI hp)
        rw [hp] at hcell
        go_wp2_with (at_builtin; refine wp_pushI rfl _ _ _ rfl Tryd.underlying22 info_int HO.out rfl rfl (by omega) hsz ?_; intro v' w3 hown hbel hsz3)
        go_roundw
        case rel => exact ⟨k + 1, by omega, by go_num, Lib.hid (by rw [HE.out]; exact hown), hB.trans (hbel _ (Nat.le_refl _))⟩
        case measure => simp [intOf]; omega
      · have hp' : p k = false := by simpa using hp
        have HE := Lib.hid (sel_noI hp')
        rw [hp'] at hcell
        clear hp
        go_wp2_with fail
        go_roundw
        case rel => exact ⟨k + 1, by omega, by go_num, Lib.hid (by rw [HE.out]; exact HO.out), hB⟩
        case measure => simp [intOf]; omega
    · have hkn : k = N := by omega
      subst hkn
      obtain ⟨A', c', hv, hc, hO⟩ := HO.out.form
      have HV := Lib.hid hv
      clear hv
      go_wp2
      go_ret
      exact ⟨⟨A', c', by rw [← HV.out]; rfl, hc, hO⟩, hB⟩

theorem info_bool : (Tryd.prog.info? 4).map (fun i => (i.zero, i.size, i.bytes)) = some (some (.bool false), 1, 1) := by kernel_rfl
set_option maxHeartbeats 1000000 in
theorem l5Reach_any (A : Option Addr) (c s N : Nat) (ps : List (List UInt8)) (w : World) (hx : Hid (Rd w A (strs ps))) (hok : Hid (okN ps = true)) (HN : Hid (N = 2 ^ ps.length)) (hs : s < N) :
    Calls Tryd.prog 106 #[.slice A ps.length c, .int .i64 (s : Int)] w fun e w' => RetB w.heap.size N (rbN ps s) e w' ∧ Below w.heap.size w w' := by
  have hn5 := okN_le hok.out
  have hN32 : N ≤ 32 := by rw [HN.out]; exact two_le _ hn5
  have HNL := Lib.hid (next_lt hok.out HN.out)
  have hmk := make_row Tryd.underlying103 info_bool rfl N (by omega) (by omega)
  have hc0 : (w.alloc (.cells (Array.replicate N (.bool false)) 4)).cell? ⟨w.heap.size, s, none⟩ = some (.bool false) := by rw [cell_new]; simp [hs]
  have hf0 := frozen_new w (Array.replicate N (.bool false)) 4 s
  have HB0 : Hid (Blk (w.alloc (.cells (Array.replicate N (.bool false)) 4)) w.heap.size 4 (bolL N fun t => decide (t ∈ ([] : List Nat))).toArray) := Lib.hid (by rw [bolL_none]; exact Blk.new _ _ _)
  have hBa : Below w.heap.size w (w.alloc (.cells (Array.replicate N (.bool false)) 4)) := (Below.refl _ _).alloc (Nat.le_refl _) _
  go_enter Tryd.func106, Tryd.ntmps106
  go_wp2_with (go_at_call 105; refine (l3All_any _ _ _ N _ hn5 HN).mono ?_; rintro e w2 ⟨rfl, rfl⟩)
  go_loopg [6] (2 * N) (fun gk v wr => ∃ (met todo : List Nat) (g off cap : Nat), todo.length + 2 * (N - met.length) ≤ gk ∧ Hid (SrchI (nextN ps) N s met todo) ∧ Hid (Blk wr w.heap.size 4 (bolL N fun x => decide (x ∈ met)).toArray) ∧ Hid (QI wr (w.heap.size + 1) g off cap v (ints todo)) ∧ gk ≤ 64 ∧ Below w.heap.size w wr)
  case atStart =>
    have HX : Hid (Blk (w.alloc (.cells ((Array.replicate N (.bool false)).setIfInBounds s (.bool true)) 4)) w.heap.size 4 (bolL N fun t => decide (t ∈ [s])).toArray) := Lib.hid (by
      have h : (bolL N fun x => decide (x ∈ ([] : List Nat))).toArray.setIfInBounds s (.bool true) = (bolL N fun x => decide (x ∈ [s])).toArray := bolL_set (met := []) s
      rw [bolL_none] at h
      rw [h]
      exact Blk.new _ _ _)
    refine ⟨[s], [s], w.heap.size + 1, 0, 1, ?_, Lib.hid (SrchI.first _ hs), ?_, ?_, by omega, ?_⟩
    · simp; omega
    · exact Lib.hid (HX.out.keep ((Below.refl _ _).alloc (Nat.le_refl _) _))
    · have h := QI.one (w.alloc (.cells ((Array.replicate N (.bool false)).setIfInBounds s (.bool true)) 4)) (w.heap.size + 1) 3 (s : Int) (by rw [alloc_size]; exact Nat.le_refl _)
      rw [alloc_size] at h
      exact Lib.hid h
    · exact ((Below.refl _ _).alloc (Nat.le_refl _) _).alloc (by rw [alloc_size]; omega) _
  case round =>
    obtain ⟨met, todo, g, off, cap, hgk, HI, HS, HQ, htl, hB⟩ := hrel
    have hsz := hB.size
    have hbl := HS.out.lt
    have hml := HI.out.len
    have hv := HQ.out.1
    have hil : (ints todo).length = todo.length := ints_length _
    rw [hil] at hv
    subst hv
    cases todo with
    | nil =>
      have HM : Hid ((bolL N fun x => decide (x ∈ met)) = bolL N (rbN ps s)) := Lib.hid (bolL_congr (HI.out.mem hok.out HN.out hs))
      go_wp2
      go_ret
      exact ⟨⟨_, N, rfl, Nat.le_refl _, by rw [← HM.out]; exact bolL_own HS.out (Nat.le_refl _)⟩, hB⟩
    | cons t todo =>
      have htm : t ∈ met := HI.out.sd t (by simp)
      have htN : t < N := HI.out.lt t htm
      have hcell : wr.cell? ⟨g, off, none⟩ = some (.int .i64 (t : Int)) := HQ.out.2.2.2.2.2 0 (t : Int) (by simp [ints])
      have HJ : Hid (SrchJ (nextN ps) N s t 0 met todo) := Lib.hid (HI.out.open_ (by simp) (by intro x hx; simp [hx]) (by intro x hx; simp at hx; exact hx))
      have hcap := HQ.out.2.2.2.1
      have hgl := HQ.out.2.2.1
      have hgb := HQ.out.2.1
      rw [hil] at hcap
      have hl1 : (t :: todo).length = todo.length + 1 := by simp
      rw [hl1] at hcap hgk ⊢
      have HS2 : Hid (t < 2 ^ ps.length) := Lib.hid (by rw [← HN.out]; exact htN)
      have HR := Lib.hid (hx.out.below hB)
      clear hil
      have HQa : Hid (¬ cap = 1 → QI wr (w.heap.size + 1) g (off + 1) (cap - 1) (.slice (some ⟨g, off + 1, none⟩) todo.length (cap - 1)) (ints todo)) := Lib.hid (fun _ => by
        have h := QI.tail (x := (t : Int)) (xs := ints todo) HQ.out
        rwa [ints_length] at h)
      have HQb : Hid (cap = 1 → QI wr (w.heap.size + 1) g off 0 (.slice (some ⟨g, off, none⟩) todo.length 0) (ints todo)) := Lib.hid (fun h1 => by
        have h := QI.tail1 (x := (t : Int)) (xs := ints todo) HQ.out h1
        rwa [ints_length, h1] at h)
      have hnl := nextN_len hok.out t
      have hil3 : (ints (nextN ps t)).length = (nextN ps t).length := ints_length _
      go_wp2_with (go_at_call 103; refine (l5Next_any _ _ _ _ _ HR hok HS2).mono ?_; rintro e w3 ⟨⟨A3, c3, rfl, hc3, hO3⟩, hB3⟩)
      all_goals
        have HRB := Lib.hid (RdB.of_own hO3 hgl hbl)
        clear hO3
        go_loopw [6, 8] (fun v q wr2 => ∃ (j : Nat) (met todo : List Nat) (g off cap : Nat), j ≤ (nextN ps t).length ∧ q = .int .i64 j ∧ todo.length + 2 * (N - met.length) < gk ∧ Hid (SrchJ (nextN ps) N s t j met todo) ∧ Hid (Blk wr2 w.heap.size 4 (bolL N fun x => decide (x ∈ met)).toArray) ∧ Hid (QI wr2 (w.heap.size + 1) g off cap v (ints todo)) ∧ Hid (RdB wr2 A3 ((ints (nextN ps t)).map (Value.int .i64)) g w.heap.size) ∧ Below w.heap.size w wr2) (fun _ q _ => (nextN ps t).length - (intOf q).toNat)
        case atStart => exact ⟨0, met, todo, g, _, _, Nat.zero_le _, rfl, by omega, HJ, Lib.hid (HS.out.keep hB3), by first | exact Lib.hid ((HQa.out ‹_›).below hB3) | exact Lib.hid ((HQb.out ‹_›).below hB3), HRB, hB.trans (hB3.mono hsz)⟩
        case round =>
          obtain ⟨j, met2, todo2, g2, off2, cap2, hj, rfl, hgk2, HJ2, HS3, HQ2, HRB2, hB2⟩ := hrel
          have hsz2 := hB2.size
          have hv2 := HQ2.out.1
          rw [ints_length] at hv2
          subst hv2
          have hml2 := HJ2.out.len
          have hgb2 := HQ2.out.2.1
          have hgl2 := HQ2.out.2.2.1
          by_cases hlt : j < (nextN ps t).length
          · obtain ⟨g3, off3, hA, hng, hnb, hcell3⟩ := HRB2.out.at2 (nextN_get hlt)
            subst hA
            have hu : (nextN ps t)[j]? = some (nextN ps t)[j] := List.getElem?_eq_getElem hlt
            have huN : (nextN ps t)[j] < N := HNL.out t htN _ (List.getElem_mem hlt)
            by_cases hm : (nextN ps t)[j] ∈ met2
            · have hcu : wr.cell? ⟨w.heap.size, (nextN ps t)[j], none⟩ = some (.bool true) := by
                rw [HS3.out.cell, List.getElem?_toArray, bolL_get _ huN, decide_eq_true hm]
              have HJ3 := Lib.hid (HJ2.out.skip hu hm)
              clear hm hu
              go_wp2_with fail
              go_roundw
              case rel => exact ⟨j + 1, met2, todo2, g2, off2, cap2, by omega, by go_num, hgk2, HJ3, HS3, HQ2, HRB2, hB2⟩
              case measure => simp [intOf]; omega
            · have hcu : wr.cell? ⟨w.heap.size, (nextN ps t)[j], none⟩ = some (.bool false) := by
                rw [HS3.out.cell, List.getElem?_toArray, bolL_get _ huN, decide_eq_false hm]
              have hfu := HS3.out.frozen (nextN ps t)[j]
              have HJ3 := Lib.hid (HJ2.out.push hu huN hm)
              clear hm hu
              have hcell4 := (World.cell?_setCell_other wr ⟨w.heap.size, (nextN ps t)[j], none⟩ ⟨g3, off3 + j, none⟩ (.bool true) (by intro e; injection e with e; exact hnb e.symm)).trans hcell3
              have hml3 := HJ3.out.len
              rw [List.length_append, List.length_singleton] at hml3
              go_wp2_with (at_builtin; refine wp_pushQ rfl _ _ _ rfl Tryd.underlying22 info_int ((HQ2.out.blk ((only_setCell _ _ _ _).block g2 hgl2 (by intro e; injection e; omega)) (by rw [setCell_size]; exact Nat.le_refl _))) rfl (by rw [setCell_size]; rfl) (by rw [ints_length]; omega) (by rw [setCell_size]; omega) ?_; intro v5 w5 g5 off5 cap5 hQ5 hbel5 hsz5 hfr5)
              have HS5 : Hid (Blk w5 w.heap.size 4 (bolL N fun x => decide (x ∈ met2 ++ [(nextN ps t)[j]])).toArray) := Lib.hid (by
                have h := HS3.out.set_ (nextN ps t)[j] (.bool true)
                rw [bolL_set] at h
                exact (hfr5 _ h.lt (by omega)).1.trans h)
              have HR5 := Lib.hid ((HRB2.out.blk (g' := g2) (fun k hk h1 h2 => ⟨(only_setCell wr w.heap.size (nextN ps t)[j] (.bool true)).block k hk (by intro e; injection e with e; exact h2 e), h1⟩)).blk (fun k hk h1 h2 => hfr5 k hk h1))
              have HQ5 : Hid (QI w5 (w.heap.size + 1) g5 off5 cap5 v5 (ints (todo2 ++ [(nextN ps t)[j]]))) := Lib.hid (by rw [ints_append]; exact hQ5)
              have hB5 : Below w.heap.size w w5 := (hB2.setCell (by show w.heap.size ≤ w.heap.size; omega) _).trans (hbel5 _ (by omega))
              clear hfr5 hQ5 hbel5
              go_roundw
              case rel => exact ⟨j + 1, met2 ++ [(nextN ps t)[j]], todo2 ++ [(nextN ps t)[j]], g5, off5, cap5, by omega, by go_num, by simp; omega, HJ3, HS5, HQ5, HR5, hB5⟩
              case measure => simp [intOf]; omega
          · have HI2 := Lib.hid (HJ2.out.close (by omega))
            go_wp2_with fail
            go_roundg (gk - 1)
            case rel => exact ⟨met2, todo2, g2, off2, cap2, by omega, HI2, HS3, HQ2, by omega, hB2⟩
            case measure => omega

theorem l5Steady_any (A : Option Addr) (c s N : Nat) (ps : List (List UInt8)) (w : World) (hx : Hid (Rd w A (strs ps))) (hok : Hid (okN ps = true)) (HN : Hid (N = 2 ^ ps.length)) (hs : s < N) :
    Calls Tryd.prog 81 #[.slice A ps.length c, .int .i64 (s : Int)] w fun e w' => e = .returned (.bool (std (rbN ps) N s)) ∧ Below w.heap.size w w' := by
  have hN32 : N ≤ 32 := by rw [HN.out]; exact two_le _ (okN_le hok.out)
  have hsl := sel_len N (rbN ps s)
  have hil : (ints (sel N (rbN ps s))).length = (sel N (rbN ps s)).length := ints_length _
  have HLT := Lib.hid (fun t (h : t ∈ sel N (rbN ps s)) => mem_sel.1 h)
  go_enter Tryd.func81, Tryd.ntmps81
  go_wp2_with fail
  refine (l5Reach_any _ _ _ N _ _ hx hok HN hs).mono ?_
  rintro e w1 ⟨⟨A1, c1, rfl, hc1, hO1⟩, hB1⟩
  have hz1 := hB1.size
  go_wp2_with fail
  refine (l5Sorted_any _ _ _ _ _ (Lib.hid hO1.rd) hN32).mono ?_
  rintro e w2 ⟨⟨A2, c2, rfl, hc2, hO2⟩, hB2⟩
  have hB12 : Below w.heap.size w w2 := hB1.trans (hB2.mono hz1)
  have HR2 := Lib.hid hO2.rd
  clear hO1 hO2 hB2 hB1 hz1
  have hz2 := hB12.size
  go_wp2
  go_loopw [6] (fun q wr => ∃ k : Nat, k ≤ (sel N (rbN ps s)).length ∧ q = .int .i64 k ∧ Hid (∀ j, (hj : j < k) → (hl : j < (sel N (rbN ps s)).length) → rbN ps (sel N (rbN ps s))[j] s = true) ∧ Below w2.heap.size w2 wr) (fun q _ => (sel N (rbN ps s)).length - (intOf q).toNat)
  case atStart => exact ⟨0, Nat.zero_le _, rfl, Lib.hid (fun j hj => by omega), Below.refl _ _⟩
  case round =>
    obtain ⟨k, hk, rfl, HA, hB⟩ := hrel
    have hsz := hB.size
    by_cases hlt : k < (sel N (rbN ps s)).length
    · obtain ⟨g, off, hA, hcell⟩ := (HR2.out.below hB).at_ (ints_at hlt)
      subst hA
      have htN : (sel N (rbN ps s))[k] < N := (HLT.out _ (List.getElem_mem hlt)).1
      have htr := (HLT.out _ (List.getElem_mem hlt)).2
      by_cases hp : rbN ps (sel N (rbN ps s))[k] s = true
      · have HA2 : Hid (∀ j, (hj : j < k + 1) → (hl : j < (sel N (rbN ps s)).length) → rbN ps (sel N (rbN ps s))[j] s = true) := Lib.hid (fun j hj hl => by
          by_cases e : j = k
          · subst e; exact hp
          · exact HA.out j (by omega) hl)
        clear htr
        go_wp2_with fail
        refine (l5Reach_any _ _ _ N _ _ (Lib.hid (hx.out.below (hB12.trans (hB.mono hz2)))) hok HN htN).mono ?_
        rintro e w3 ⟨⟨A3, c3, rfl, hc3, hO3⟩, hB3⟩
        have hb3 := bolL_get (rbN ps (sel N (rbN ps s))[k]) hs
        rw [hp] at hb3
        obtain ⟨g3, off3, hA3, _, hcell3, _⟩ := hO3.at_ hb3
        subst hA3
        clear hO3 hb3
        go_wp2
        go_roundw
        case rel => exact ⟨k + 1, by omega, by go_num, HA2, hB.trans (hB3.mono hsz)⟩
        case measure => simp [intOf]; omega
      · have hp' : rbN ps (sel N (rbN ps s))[k] s = false := by simpa using hp
        have HV : Hid (std (rbN ps) N s = false) := Lib.hid (by
          cases h : std (rbN ps) N s
          · rfl
          · have := std_iff.1 h _ htN htr
            rw [hp'] at this; cases this)
        clear hp htr
        go_wp2_with fail
        refine (l5Reach_any _ _ _ N _ _ (Lib.hid (hx.out.below (hB12.trans (hB.mono hz2)))) hok HN htN).mono ?_
        rintro e w3 ⟨⟨A3, c3, rfl, hc3, hO3⟩, hB3⟩
        have hb3 := bolL_get (rbN ps (sel N (rbN ps s))[k]) hs
        rw [hp'] at hb3
        obtain ⟨g3, off3, hA3, _, hcell3, _⟩ := hO3.at_ hb3
        subst hA3
        clear hO3 hb3
        go_wp2
        go_ret
        exact ⟨by rw [HV.out]; rfl, hB12.trans ((hB.trans (hB3.mono hsz)).mono hz2)⟩
    · have HV : Hid (std (rbN ps) N s = true) := Lib.hid (std_iff.2 fun t ht h => by
        obtain ⟨j, hj, e⟩ := List.getElem_of_mem (mem_sel.2 ⟨ht, h⟩)
        have := HA.out j (by omega) hj
        rwa [e] at this)
      go_wp2
      go_ret
      exact ⟨by rw [HV.out]; rfl, hB12.trans (hB.mono hz2)⟩

end Go.Proofs.YtpehimjngofnkaaDoor
