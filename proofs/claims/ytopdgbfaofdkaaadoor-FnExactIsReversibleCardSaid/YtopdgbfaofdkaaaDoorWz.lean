/- Walks of the program's UnreachedOf. -/
import Derived.Test.YtopdgbfaofdkaaaDoorProg
import Derived.WalkKit
import Derived.WalkSpells
import Derived.WalkLawsBesides
import Derived.Lib.Hide
import Derived.Deep.QuietTactic
import Derived.Deep.RegionHeld3
import Derived.Deep.RegionWith
import Derived.BigQuiet
import Derived.Carry
import Derived.Test.YtopdgbfaofdkaaaDoorWa
import Derived.Test.YtopdgbfaofdkaaaDoorWp
namespace Go.Proofs.YtopdgbfaofdkaaaDoor
open Go.RowKit
set_option linter.unusedVariables false

theorem UnreachedOf1_any (b p5 k : Nat) (ks : List Int) (w : World) (h5 : w.cell? ⟨p5, 0, none⟩ = some (.map (some b))) (hS : Hid (SetAt w b ks)) :
    Calls Tryd.prog 106 #[.int .i64 (k : Int), .pointer (some ⟨p5, 0, none⟩)] w fun e w' => e = .returned (.bool (!decide ((k : Int) ∈ ks))) ∧ w = w' := by
  have hrun := set_look hS.out (k : Int)
  obtain ⟨q, hq⟩ : ∃ q, q = decide ((k : Int) ∈ ks) := ⟨_, rfl⟩
  rw [← hq] at hrun ⊢
  clear hq
  go_enter Tryd.func106, Tryd.ntmps106
  go_wp2
  go_ret
  exact ⟨rfl, rfl⟩

/-- the states after the first k ones, each once, in the order in which they come -/
def stSet (ps : List (List UInt8)) : Nat → List Int
  | 0 => []
  | k + 1 => if (stp ps k : Int) ∈ stSet ps k then stSet ps k else stSet ps k ++ [(stp ps k : Int)]
theorem stSet_mem (ps : List (List UInt8)) (x : Int) : ∀ k, x ∈ stSet ps k ↔ ∃ s, s < k ∧ x = (stp ps s : Int)
  | 0 => by simp [stSet]
  | k + 1 => by
    have ih := stSet_mem ps x k
    rw [stSet]
    constructor
    · intro h
      have h2 : x ∈ stSet ps k ∨ x = (stp ps k : Int) := by
        split at h
        · exact .inl h
        · simpa using h
      rcases h2 with h2 | h2
      · obtain ⟨s, h3, h4⟩ := ih.1 h2
        exact ⟨s, by omega, h4⟩
      · exact ⟨k, by omega, h2⟩
    · rintro ⟨s, h3, h4⟩
      by_cases e : s = k
      · subst e; subst h4; split <;> simp_all
      · have := ih.2 ⟨s, by omega, h4⟩
        split <;> simp_all
theorem unr_eq {ps : List (List UInt8)} {N k : Nat} (h : okN ps = true) (hN : N = 2 ^ ps.length) (hk : k < N) : (!decide ((k : Int) ∈ stSet ps N)) = (befN ps (k : Int)).isEmpty := by
  have ho : okSt ps (k : Int) = true := by rw [okSt, h, Bool.true_and]; exact (inW_yes hN).2 ⟨by omega, by omega⟩
  rw [befN_yes ho hN, Bool.eq_iff_iff]
  simp only [Bool.not_eq_true', decide_eq_false_iff_not, stSet_mem, List.isEmpty_iff, ints, List.map_eq_nil_iff, sel, List.filter_eq_nil_iff, List.mem_range, beq_iff_eq]
  constructor
  · intro h s hs e; exact h ⟨s, hs, by rw [e]⟩
  · rintro h ⟨s, hs, e⟩; exact h s hs (by omega)

set_option maxHeartbeats 400000 in
theorem UnreachedOf_any (s : ByteArray) (w : World) (hm : Hid (HasM w)) (hs : s.size ≤ 1073741824) :
    Calls Tryd.prog 76 #[.string s] w fun e w' => RetI w.heap.size (unrN (cutL s.data.toList)) e w' ∧ Below w.heap.size w w' := by
  obtain ⟨ps, HPS⟩ : ∃ ps, Hid (ps = cutL s.data.toList) := ⟨_, rfl⟩
  rw [← HPS.out]
  by_cases h : okN ps = true
  · have hn5 := okN_le h
    obtain ⟨N, HN, hN, hN32, hN0⟩ := wrap_two ps.length hn5
    have HOK := Lib.hid h
    have HV := Lib.hid (unrN_yes h HN.out)
    clear h
    have hmm := @run_makeMap Tryd.prog
    go_enter Tryd.func76, Tryd.ntmps76
    go_wp2_with fail
    refine (readNetwork_any s w hm hs).mono ?_
    rintro e w1 ⟨⟨A, k0, c, rfl, himp⟩, hB1⟩
    rw [← HPS.out] at himp ⊢
    obtain ⟨rfl, hc, hO⟩ := himp HOK.out
    rw [HOK.out]
    have HR := Lib.hid hO.rd
    have hz1 := hB1.size
    clear hO himp
    go_wp2_with (go_at_call 55; refine (states_any _ _ _ N _ hn5 HN).mono ?_; rintro e w2 ⟨rfl, rfl⟩)
    go_loopw [17] (fun q wr => ∃ k : Nat, k ≤ N ∧ q = .int .i64 k ∧ Hid (SetAt wr w1.heap.size (stSet ps k)) ∧ Hid (wr.cell? ⟨w1.heap.size + 1, 0, none⟩ = some (.map (some w1.heap.size))) ∧ Below w1.heap.size w1 wr) (fun q _ => N - (intOf q).toNat)
    case atStart => exact ⟨0, Nat.zero_le _, rfl, Lib.hid ((SetAt.made w1).below ((Below.refl _ _).alloc (Nat.le_refl _) _)), Lib.hid (by rw [← alloc_size w1 (.map #[] 0), cell_new]; rfl), ((Below.refl _ _).alloc (Nat.le_refl _) _).alloc (by rw [alloc_size]; omega) _⟩
    case round =>
      obtain ⟨k, hk, rfl, HS, HC, hB⟩ := hrel
      have hsz := hB.size
      by_cases hlt : k < N
      · have HK : Hid (k < 2 ^ ps.length) := Lib.hid (by rw [← HN.out]; exact hlt)
        have hcell := HC.out
        have hxr : Hid (Rd wr A (netL ps)) := Lib.hid (HR.out.below hB)
        have hpl : w1.heap.size + 1 < wr.heap.size := World.block_lt_of_cell? wr _ hcell
        go_wp2_with fail
        go_region_with (first | (go_at_call 86; refine (step_any A c ps k wr.drew (show Hid (Rd wr.drew A (netL ps)) from hxr) HOK HK).mono ?_; rintro e w' ⟨rfl, hB'⟩; have hc' := (World.cell?_of_block (w := wr.drew) (hB'.block _ hpl)).trans hcell; obtain ⟨w6, hput, hS6, hg6⟩ := set_put (SetAt.below (w := wr.drew) HS.out hB') ((stp ps k : Nat) : Int)))
        all_goals (
          go_wp2
          go_roundw
          case rel => exact ⟨k + 1, by omega, by go_num, Lib.hid (by rw [stSet]; exact hS6), Lib.hid ((World.cell?_of_block (w := w') (hg6.block _ (World.block_lt_of_cell? w' _ hc') (by intro e; have e2 : w1.heap.size + 1 = w1.heap.size := Option.some.inj e; omega))).trans hc'), (hB.trans ((show Below wr.heap.size wr w' from ⟨hB'.os, hB'.tape, hB'.output, hB'.size, hB'.block⟩).mono hsz)).trans (Below.of_grown hg6 (Nat.le_refl _) (by have := hB'.size; have : wr.heap.size ≤ w'.heap.size := this; omega))⟩
          case measure => simp [intOf]; omega)
      · have hkn : k = N := by omega
        subst hkn
        have HC2 : Hid (CloB wr k 106 #[.pointer (some ⟨w1.heap.size + 1, 0, none⟩)] (fun x => (befN ps (x : Int)).isEmpty)) := Lib.hid (fun x wX hx hBX => by
          have h := UnreachedOf1_any w1.heap.size (w1.heap.size + 1) x (stSet ps k) wX ((World.cell?_of_block (w := wr) (hBX.block _ (World.block_lt_of_cell? wr _ HC.out))).trans HC.out) (Lib.hid (HS.out.below hBX))
          rw [unr_eq HOK.out HN.out hx] at h
          exact h.mono fun e w' ⟨h1, h2⟩ => ⟨h1, by rw [← h2]; exact Below.refl _ _⟩)
        go_wp2_with fail
        refine (which_any _ _ _ k _ _ _ _ hn5 HN (fun _ _ => by kernel_rfl) HC2).mono ?_
        rintro e w2 ⟨⟨A2, c2, rfl, hc2, hO2⟩, hB2⟩
        go_wp2
        go_ret
        exact ⟨⟨A2, c2, by rw [HV.out]; rfl, by rw [HV.out]; exact hc2, by rw [HV.out]; exact hO2.mono (by omega)⟩, hB1.trans ((hB.trans (hB2.mono hsz)).mono hz1)⟩
  · have h' : okN ps = false := by simpa using h
    have HOK := Lib.hid h'
    have HV := Lib.hid (unrN_no h')
    clear h h'
    go_enter Tryd.func76, Tryd.ntmps76
    go_wp2_with fail
    refine (readNetwork_any s w hm hs).mono ?_
    rintro e w1 ⟨⟨A, k0, c, rfl, himp⟩, hB1⟩
    clear himp
    rw [← HPS.out, HOK.out]
    go_wp2
    go_ret
    exact ⟨⟨none, 0, by rw [HV.out]; rfl, by rw [HV.out]; exact Nat.le_refl _, by rw [HV.out]; exact Own.nil _ _ _⟩, hB1⟩

end Go.Proofs.YtopdgbfaofdkaaaDoor
