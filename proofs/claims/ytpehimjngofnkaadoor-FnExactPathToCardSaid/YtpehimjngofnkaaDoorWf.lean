/- Walks of reach and steady. -/
import Derived.Test.YtpehimjngofnkaaDoorProg
import Derived.WalkKit
import Derived.WalkSpells
import Derived.WalkLawsBesides
import Derived.Lib.Hide
import Derived.Deep.QuietTactic
import Derived.Deep.LoopGhost
import Derived.Maps.Own
import Derived.Maps.OwnOps
import Derived.Maps.RangeWalk
import Derived.BigQuiet
import Derived.Carry
import Derived.Test.YtpehimjngofnkaaDoorWa
import Derived.Test.YtpehimjngofnkaaDoorWp
import Derived.Test.YtpehimjngofnkaaDoorMu
namespace Go.Proofs.YtpehimjngofnkaaDoor
open Go.RowKit
set_option linter.unusedVariables false

/-- it returns a set of states, in memory from block B on -/
def RetSet (B N : Nat) (p : Nat → Bool) (e : Ending) (w' : World) : Prop :=
  ∃ b met, e = .returned (.map (some b)) ∧ B ≤ b ∧ SetAt w' b (ints met) ∧ (∀ t ∈ met, t < N) ∧ ∀ t, decide (t ∈ met) = p t
set_option maxHeartbeats 1000000 in
theorem reach_any (A : Option Addr) (c s N : Nat) (ps : List (List UInt8)) (w : World) (hx : Hid (Rd w A (netL ps))) (hok : Hid (okN ps = true)) (HN : Hid (N = 2 ^ ps.length)) (hs : s < N) :
    Calls Tryd.prog 62 #[.slice A ps.length c, .int .i64 (s : Int)] w fun e w' => RetSet w.heap.size N (rbN ps s) e w' ∧ Below w.heap.size w w' := by
  have hN32 : N ≤ 32 := by rw [HN.out]; exact two_le _ (okN_le hok.out)
  have HNL := Lib.hid (next_lt hok.out HN.out)
  have hmm := @run_makeMap Tryd.prog
  go_enter Tryd.func62, Tryd.ntmps62
  go_wp2_with ((with_reducible refine wpStop (o := ⟨_, Op.insert _ _ _ _, _, _, _, _⟩) ?_); refine ⟨?_⟩; refine wpList_ins rfl _ _ _ rfl rfl rfl rfl (SetAt.made w) ?_; intro w1 hS1 hg1)
  have hBm : Below w.heap.size w (w.alloc (.map #[] 0)) := (Below.refl _ _).alloc (Nat.le_refl _) _
  have hB1 : Below w.heap.size w w1 := hBm.trans (Below.of_grown hg1 (Nat.le_refl _) (by rw [alloc_size]; omega))
  have hz1 : w.heap.size + 1 ≤ w1.heap.size := by have := hg1.size; rw [alloc_size] at this; exact this
  have HS1 : Hid (SetAt w1 w.heap.size (ints [s])) := Lib.hid hS1
  clear hS1 hg1 hBm
  go_wp2
  go_loopg [6] (2 * N) (fun gk v wr => ∃ (met todo : List Nat) (g off cap : Nat), todo.length + 2 * (N - met.length) ≤ gk ∧ Hid (SrchI (nextN ps) N s met todo) ∧ Hid (SetAt wr w.heap.size (ints met)) ∧ Hid (QI wr (w.heap.size + 1) g off cap v (ints todo)) ∧ gk ≤ 64 ∧ Below w.heap.size w wr)
  case atStart =>
    refine ⟨[s], [s], w1.heap.size, 0, 1, ?_, Lib.hid (SrchI.first _ hs), Lib.hid (HS1.out.below ((Below.refl _ _).alloc (Nat.le_refl _) _)), Lib.hid (QI.one w1 _ _ _ hz1), by omega, hB1.alloc (by omega) _⟩
    simp; omega
  case round =>
    obtain ⟨met, todo, g, off, cap, hgk, HI, HS, HQ, htl, hB⟩ := hrel
    have hsz := hB.size
    have hbl := HS.out.lt
    have hml := HI.out.len
    have hv := HQ.out.1
    have hil : (ints todo).length = todo.length := ints_length _
    rw [hil] at hv
    subst hv
    rcases List.eq_nil_or_concat todo with h0 | ⟨init, t, h0⟩
    · subst h0
      have HM := Lib.hid (HI.out.mem hok.out HN.out hs)
      have HL := Lib.hid HI.out.lt
      go_wp2
      go_ret
      exact ⟨⟨_, met, rfl, Nat.le_refl _, HS.out, HL.out, HM.out⟩, hB⟩
    · rw [List.concat_eq_append] at h0
      subst h0
      have htm : t ∈ met := HI.out.sd t (by simp)
      have htN : t < N := HI.out.lt t htm
      have hcell : wr.cell? ⟨g, off + init.length, none⟩ = some (.int .i64 (t : Int)) := HQ.out.2.2.2.2.2 init.length (t : Int) (by simp [ints])
      have HQa : Hid (QI wr (w.heap.size + 1) g off cap (.slice (some ⟨g, off, none⟩) init.length cap) (ints init)) := Lib.hid (by
        have h := HQ.out
        rw [ints_append] at h
        have := QI.init h
        rwa [ints_length] at this)
      have HJ : Hid (SrchJ (nextN ps) N s t 0 met init) := Lib.hid (HI.out.open_ (by simp) (by intro x hx; simp [hx]) (by intro x hx; simp at hx; rcases hx with hx | hx; exact .inr hx; exact .inl hx))
      have hcap := HQ.out.2.2.2.1
      have hgl := HQ.out.2.2.1
      have hgb := HQ.out.2.1
      rw [hil] at hcap
      have hl1 : (init ++ [t]).length = init.length + 1 := by simp
      rw [hl1] at hcap hgk ⊢
      have HS2 : Hid (t < 2 ^ ps.length) := Lib.hid (by rw [← HN.out]; exact htN)
      have HR := Lib.hid (hx.out.below hB)
      have hnl := nextN_len hok.out t
      have hil3 : (ints (nextN ps t)).length = (nextN ps t).length := ints_length _
      clear hil
      go_wp2_with (go_at_call 77; refine (next_any _ _ _ _ _ HR hok HS2).mono ?_; rintro e w3 ⟨⟨A3, c3, rfl, hc3, hO3⟩, hB3⟩)
      have HRB := Lib.hid (RdB.of_own hO3 hgl hbl)
      clear hO3
      go_loopw [6, 33] (fun v q wr2 => ∃ (j : Nat) (met todo : List Nat) (g off cap : Nat), j ≤ (nextN ps t).length ∧ q = .int .i64 j ∧ todo.length + 2 * (N - met.length) < gk ∧ Hid (SrchJ (nextN ps) N s t j met todo) ∧ Hid (SetAt wr2 w.heap.size (ints met)) ∧ Hid (QI wr2 (w.heap.size + 1) g off cap v (ints todo)) ∧ Hid (RdB wr2 A3 ((ints (nextN ps t)).map (Value.int .i64)) g w.heap.size) ∧ Below w.heap.size w wr2) (fun _ q _ => (nextN ps t).length - (intOf q).toNat)
      case atStart => exact ⟨0, met, init, g, _, _, Nat.zero_le _, rfl, by omega, HJ, Lib.hid (HS.out.below hB3), Lib.hid (HQa.out.below hB3), HRB, hB.trans (hB3.mono hsz)⟩
      case round =>
        obtain ⟨j, met2, todo2, g2, off2, cap2, hj, rfl, hgk2, HJ2, HS3, HQ2, HRB2, hB2⟩ := hrel
        have hsz2 := hB2.size
        have hbl2 := HS3.out.lt
        have hv2 := HQ2.out.1
        rw [ints_length] at hv2
        subst hv2
        have hml2 := HJ2.out.len
        have hgb2 := HQ2.out.2.1
        have hgl2 := HQ2.out.2.2.1
        by_cases hlt : j < (nextN ps t).length
        · obtain ⟨g3, off3, hA, hng, hnb, hcell3⟩ := HRB2.out.at2 (nextN_get hlt)
          subst hA
          have hu : (nextN ps t)[j]? = some (nextN ps t)[j] := List.getElem?_eq_getElem hlt
          have huN : (nextN ps t)[j] < N := HNL.out t htN _ (List.getElem_mem hlt)
          have hlk := set_look HS3.out (((nextN ps t)[j] : Nat) : Int)
          by_cases hm : (nextN ps t)[j] ∈ met2
          · rw [decide_eq_true (mem_ints.2 hm)] at hlk
            have HJ3 := Lib.hid (HJ2.out.skip hu hm)
            clear hm hu
            go_wp2_with fail
            go_roundw
            case rel => exact ⟨j + 1, met2, todo2, g2, off2, cap2, by omega, by go_num, hgk2, HJ3, HS3, HQ2, HRB2, hB2⟩
            case measure => simp [intOf]; omega
          · rw [decide_eq_false (fun h => hm (mem_ints.1 h))] at hlk
            have HJ3 := Lib.hid (HJ2.out.push hu huN hm)
            have HPI := Lib.hid (put_ints hm)
            clear hm hu
            have hml3 := HJ3.out.len
            rw [List.length_append, List.length_singleton] at hml3
            go_wp2_with (first
              | (at_mapUpdate; refine wpList_put rfl _ _ _ rfl rfl rfl rfl HS3.out ?_; intro w4 hS4 hg4; rw [HPI.out] at hS4; have HS4 := Lib.hid hS4; clear hS4; have hz4 := hg4.size; have HQ4 := Lib.hid (HQ2.out.blk (hg4.block g2 hgl2 (by intro e; injection e; omega)) hz4); have HR4 := Lib.hid (HRB2.out.blk (g' := g2) (fun k hk h1 h2 => ⟨hg4.block k hk (by intro e; injection e with e; exact h2 e), h1⟩)); have hB4 := Below.of_grown (B := w.heap.size) hg4 (Nat.le_refl _) hsz2; clear hg4)
              | (at_builtin; refine wp_pushQ rfl _ _ _ rfl Tryd.underlying22 info_int HQ4.out rfl rfl (by rw [ints_length]; omega) (by omega) ?_; intro v5 w5 g5 off5 cap5 hQ5 hbel5 hsz5 hfr5))
            have HS5 := Lib.hid (HS4.out.blk (hfr5 _ HS4.out.lt (by omega)).1)
            have HR5 := Lib.hid (HR4.out.blk (fun k hk h1 h2 => hfr5 k hk h1))
            have HQ5 : Hid (QI w5 (w.heap.size + 1) g5 off5 cap5 v5 (ints (todo2 ++ [(nextN ps t)[j]]))) := Lib.hid (by rw [ints_append]; exact hQ5)
            have hB5 : Below w.heap.size w w5 := (hB2.trans hB4).trans (hbel5 _ (by omega))
            clear hfr5 hQ5 hbel5
            go_roundw
            case rel => exact ⟨j + 1, met2 ++ [(nextN ps t)[j]], todo2 ++ [(nextN ps t)[j]], g5, off5, cap5, by omega, by go_num, by simp; omega, HJ3, HS5, HQ5, HR5, hB5⟩
            case measure => simp [intOf]; omega
        · have HI2 := Lib.hid (HJ2.out.close (by omega))
          go_wp2_with fail
          go_roundg (gk - 1)
          case rel => exact ⟨met2, todo2, g2, off2, cap2, by omega, HI2, HS3, HQ2, by omega, hB2⟩
          case measure => omega

set_option maxHeartbeats 1000000 in
theorem steady_any (A : Option Addr) (c s N : Nat) (ps : List (List UInt8)) (w : World) (hx : Hid (Rd w A (netL ps))) (hok : Hid (okN ps = true)) (HN : Hid (N = 2 ^ ps.length)) (hs : s < N) :
    Calls Tryd.prog 75 #[.slice A ps.length c, .int .i64 (s : Int)] w fun e w' => e = .returned (.bool (std (rbN ps) N s)) ∧ Below w.heap.size w w' := by
  go_enter Tryd.func75, Tryd.ntmps75
  go_wp2_with fail
  refine (reach_any _ _ _ N _ _ hx hok HN hs).mono ?_
  rintro e w1 ⟨⟨b, met, rfl, hb, hS, hml, hM⟩, hB1⟩
  have HS := Lib.hid hS
  have HM := Lib.hid hM
  have HL := Lib.hid hml
  have hz1 := hB1.size
  clear hS hM hml
  go_wp2_with (at_range; refine wpList_range_set rfl _ rfl rfl HS.out ?_; intro r w2 hr hR2 hB2 hz2)
  have HR2 := Lib.hid hR2
  have hrw : w.heap.size ≤ r := by rw [hr]; exact hz1
  have hBw2 : Below w.heap.size w w2 := hB1.trans (hB2.mono hz1)
  clear hr hR2 hB2 hz2
  go_frame
  go_loopg [5] met.length (fun gk _ wr => ∃ todo : List Int, todo.length ≤ gk ∧ Hid (RngAt wr r b (ints met) todo) ∧ Hid (∀ t ∈ met, (t : Int) ∈ todo ∨ rbN ps t s = true) ∧ Hid (∀ x ∈ todo, ∃ t ∈ met, x = (t : Int)) ∧ Below w.heap.size w wr)
  case atStart => exact ⟨ints met, by rw [ints_length]; exact Nat.le_refl _, HR2, Lib.hid (fun t ht => .inl (mem_ints.2 ht)), Lib.hid (fun x hx => by simp only [ints, List.mem_map] at hx; obtain ⟨t, ht, e⟩ := hx; exact ⟨t, ht, e.symm⟩), hBw2⟩
  case round =>
    obtain ⟨todo, htl, HR, HA, HT, hB⟩ := hrel
    have hsz := hB.size
    go_wp2_with (at_next; refine wpList_next_set rfl _ rfl rfl HR.out ?_ ?_)
    · intro h0
      subst h0
      have HV : Hid (std (rbN ps) N s = true) := Lib.hid (std_iff.2 fun t ht h => by
        have htm : t ∈ met := by
          have := HM.out t
          rw [h, decide_eq_true_iff] at this
          exact this
        rcases HA.out t htm with h1 | h1
        · simp at h1
        · exact h1)
      go_wp2
      go_ret
      exact ⟨by rw [HV.out]; rfl, hB⟩
    · intro k todo' w3 hk hlen hsub1 hsub2 hR3 hg3 hen
      obtain ⟨t, htm, rfl⟩ := HT.out k hk
      have htN := HL.out t htm
      have htr : Hid (rbN ps s t = true) := Lib.hid (by rw [← HM.out t]; simpa using htm)
      have hB3 : Below w.heap.size w w3 := hB.trans (Below.of_grown hg3 hrw hsz)
      have hsz3 := hB3.size
      have HR3 := Lib.hid hR3
      have HT3 : Hid (∀ x ∈ todo', ∃ t ∈ met, x = (t : Int)) := Lib.hid (fun x hx => HT.out x (hsub2 x hx))
      by_cases hp : rbN ps t s = true
      · have HA3 : Hid (∀ u ∈ met, (u : Int) ∈ todo' ∨ rbN ps u s = true) := Lib.hid (fun u hu => by
          rcases HA.out u hu with h1 | h1
          · rcases hsub1 _ h1 with h2 | h2
            · right
              have : u = t := by omega
              rw [this]; exact hp
            · exact .inl h2
          · exact .inr h1)
        clear hk hsub1 hsub2 hR3 hg3 htm
        go_wp2_with fail
        refine (reach_any _ _ _ N _ _ (Lib.hid (hx.out.below hB3)) hok HN htN).mono ?_
        rintro e w4 ⟨⟨b4, met4, rfl, hb4, hS4, hml4, hM4⟩, hB4⟩
        have hlk := set_look hS4 (s : Int)
        have e4 : decide ((s : Int) ∈ ints met4) = true := by
          have h4 := hM4 s
          rw [hp, decide_eq_true_iff] at h4
          rw [decide_eq_true_iff, mem_ints]
          exact h4
        rw [e4] at hlk
        clear e4 hS4 hml4 hM4
        go_wp2
        go_roundg todo'.length
        case rel => exact ⟨todo', Nat.le_refl _, Lib.hid (HR3.out.below hB4), HA3, HT3, hB3.trans (hB4.mono hsz3)⟩
        case measure => omega
      · have hp' : rbN ps t s = false := by simpa using hp
        have HV : Hid (std (rbN ps) N s = false) := Lib.hid (by
          cases h : std (rbN ps) N s
          · rfl
          · have := std_iff.1 h t htN htr.out
            rw [hp'] at this; cases this)
        clear hk hsub1 hsub2 hR3 hg3 htm hp
        go_wp2_with fail
        refine (reach_any _ _ _ N _ _ (Lib.hid (hx.out.below hB3)) hok HN htN).mono ?_
        rintro e w4 ⟨⟨b4, met4, rfl, hb4, hS4, hml4, hM4⟩, hB4⟩
        have hlk := set_look hS4 (s : Int)
        have e4 : decide ((s : Int) ∈ ints met4) = false := by
          rw [decide_eq_false_iff_not, mem_ints]
          intro hm
          have := hM4 s
          rw [hp', decide_eq_false_iff_not] at this
          exact this hm
        rw [e4] at hlk
        clear e4 hS4 hml4 hM4
        go_wp2
        go_ret
        exact ⟨by rw [HV.out]; rfl, hB3.trans (hB4.mono hsz3)⟩

end Go.Proofs.YtpehimjngofnkaaDoor
