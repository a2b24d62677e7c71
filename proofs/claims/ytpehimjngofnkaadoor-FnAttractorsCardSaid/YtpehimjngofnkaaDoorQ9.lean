/- Walks: more draws of a network and states. -/
import Derived.Test.YtpehimjngofnkaaDoorProg
import Derived.WalkKit
import Derived.WalkSpells
import Derived.WalkLawsBesides
import Derived.Lib.Hide
import Derived.Deep.QuietTactic
import Derived.Deep.RegionWith
import Derived.OwnWalk
import Derived.BigQuiet
import Derived.Test.YtpehimjngofnkaaDoorG3
import Derived.Test.YtpehimjngofnkaaDoorG5
namespace Go.Proofs.YtpehimjngofnkaaDoor
open Go.RowKit
set_option linter.unusedVariables false

theorem attN_mem {ps : List (List UInt8)} {xs : List Int} (h : xs ∈ attN ps) : 0 < xs.length ∧ xs.length ≤ 32 ∧ ∀ x ∈ xs, 0 ≤ x ∧ x < 32 := by
  by_cases hok : okN ps = true
  · obtain ⟨N, HN⟩ : ∃ N : Nat, N = 2 ^ ps.length := ⟨_, rfl⟩
    have h32 : N ≤ 32 := by rw [HN]; exact two_le _ (okN_le hok)
    rw [attN_yes hok HN, attTo, List.mem_map] at h
    obtain ⟨a, ha, rfl⟩ := h
    obtain ⟨h1, h2⟩ := mem_atts.1 ha
    refine ⟨(List.getElem?_eq_some_iff.1 (att_head (rbN_rb hok HN) h1 h2)).1, by rw [ints_length]; have := sel_len N (rbN ps a); omega, fun x hx => ?_⟩
    simp only [ints, List.mem_map] at hx
    obtain ⟨y, hy, rfl⟩ := hx
    have := (mem_sel.1 hy).1
    omega
  · rw [attN_no (by simpa using hok)] at h; simp at h

set_option maxHeartbeats 1000000 in
set_option maxRecDepth 100000 in
theorem l5Known_any (B g p : Nat) (w : World) (h : Rdr w B g p) (hp : p ≤ 700000) :
    Calls Tryd.prog 80 #[.pointer (some ⟨g, 0, none⟩)] w fun e w' => WithP w B g p 330 e w' := by
  go_enter Tryd.func80, Tryd.ntmps80
  go_wp2_with fail
  refine (l5Small_any B g p _ h (by omega)).mono ?_
  rintro e w1 ⟨t, s, p1, rfl, ht, hs, hp1, hR1, hG1⟩
  obtain ⟨ps, HPS⟩ : ∃ ps, Hid (ps = cutL t.data.toList) := ⟨_, rfl⟩
  go_wp2_with fail
  refine (sAttractorsOf_any t _ (by omega)).mono ?_
  rintro e w2 ⟨⟨A2, c2, gs, ys, rfl, hc2, hO2, hL2⟩, hB2⟩
  rw [← HPS.out] at hc2 hL2 ⊢
  have hz2 := hB2.size
  have hgl := hR1.lt.2
  have hR2 := hR1.keep hB2
  have HG2 := Lib.hid (grn_trans hG1 (grn_below hB2))
  obtain ⟨L, HL⟩ : ∃ L, Hid (L = attN ps) := ⟨_, rfl⟩
  rw [← HL.out] at hc2 hL2 ⊢
  have hLL : L.length ≤ 1000 := by rw [HL.out]; exact attN_len ps
  have HM := Lib.hid (fun xs (hx : xs ∈ L) => attN_mem (ps := ps) (by rw [← HL.out]; exact hx))
  have HO2 := Lib.hid (And.intro hO2 hL2)
  clear hR1 hG1 hB2 hO2 hL2
  by_cases h0 : 0 < L.length
  · go_wp2_with fail
    refine (pick_any B g p1 _ _ hR2 (by omega) (by omega) (by omega)).mono ?_
    rintro e w3 ⟨k, rfl, hk, hR3, hG3⟩
    have HG3 := Lib.hid (grn_trans HG2.out hG3)
    have HO3 := Lib.hid (And.intro (HO2.out.1.only hgl hG3) (HO2.out.2.blk (v' := .slice A2 L.length c2) (fun x hx => ⟨hG3.block x (HO2.out.2.lt x hx).2.1 (by intro e; injection e; have := (HO2.out.2.lt x hx).1; omega), (HO2.out.2.lt x hx).2.2⟩) hG3.size))
    clear hR2 hG3 HO2
    by_cases hk0 : 0 < k
    · go_wp2_with fail
      refine (pick_any B g (p1 + 1) _ _ hR3 (by omega) (by omega) (by omega)).mono ?_
      rintro e w4 ⟨i, rfl, hi, hR4, hG4⟩
      have hiL : i < L.length := by omega
      have HG4 := Lib.hid (grn_trans HG3.out hG4)
      have HO4 := Lib.hid (And.intro (HO3.out.1.only hgl hG4) (HO3.out.2.blk (v' := .slice A2 L.length c2) (fun x hx => ⟨hG4.block x (HO3.out.2.lt x hx).2.1 (by intro e; injection e; have := (HO3.out.2.lt x hx).1; omega), (HO3.out.2.lt x hx).2.2⟩) hG4.size))
      clear hR3 hG4 HO3 hi
      obtain ⟨xs, HXS⟩ : ∃ xs, Hid (L[i]? = some xs) := ⟨_, List.getElem?_eq_getElem hiL⟩
      obtain ⟨hx0, hx32, hxm⟩ := HM.out xs (List.mem_of_getElem? HXS.out)
      have HXM := Lib.hid hxm
      obtain ⟨g5, o5, c5, k1, k2, k3, k4⟩ := HO4.out.2.at_ i xs HXS.out
      have hg5 := (HO4.out.2.lt g5 (List.mem_of_getElem? k1)).1
      obtain ⟨gA, oA, rfl, hcell⟩ := HO4.out.1.rd.at_ k2
      have HK4 := Lib.hid k4
      clear k1 k2 k4 hxm
      have hgl4 := hR4.lt.2
      have hRd := hR4.keep (drewN_below _ 1)
      have HPK := Lib.hid (pick_any B g (p1 + 1 + 1) (xs.length : Int) (w4.drewN 1) hRd (by omega) (by omega) (by omega))
      go_wp2_with fail
      go_region_with (go_at_call 116; refine HPK.out.mono ?_; rintro e w5 ⟨j, rfl, hj, hR5, hG5⟩; have hjl : j < xs.length := (by omega); have HK5 := HK4.out.only (by omega) (grn_trans (grn_below (drewN_below w4 1)) hG5); have hc5 := (HK5.cell (k := j) (v := .int .i64 xs[j]) (by rw [List.getElem?_map, List.getElem?_eq_getElem hjl]; rfl)).1; have hxj := HXM.out xs[j] (List.getElem_mem hjl); have HGF := Lib.hid (grn_trans HG4.out (grn_trans (grn_below (drewN_below w4 1)) hG5)); clear hG5 HK5)
      all_goals
        go_wp2_with fail
        go_ret2
        exact ⟨t, xs[j], _, rfl, ht, by omega, by omega, hR5, HGF.out⟩
    · have hk00 : k = 0 := by omega
      subst hk00
      go_wp2
      go_ret2
      exact ⟨t, s, _, rfl, ht, hs, by omega, hR3, HG3.out⟩
  · have h00 : L.length = 0 := by omega
    have hL0 : L = [] := List.eq_nil_of_length_eq_zero h00
    subst hL0
    go_wp2
    go_ret2
    exact ⟨t, s, _, rfl, ht, hs, by omega, hR2, HG2.out⟩

/-- a text and two states have been drawn -/
def WithPP (w : World) (B g p q : Nat) (e : Ending) (w' : World) : Prop :=
  ∃ (t : ByteArray) (s u : Int) (p2 : Nat), e = .returned (.tuple #[.string t, .int .i64 s, .int .i64 u]) ∧ t.size ≤ 1010 ∧ (-1 ≤ s ∧ s ≤ 9223372036854775807) ∧ (-1 ≤ u ∧ u ≤ 9223372036854775807) ∧ p2 ≤ p + q ∧ Rdr w' B g p2 ∧ w.grownBy w' (some g)

set_option maxHeartbeats 1000000 in
set_option maxRecDepth 100000 in
theorem l5Two_any (B g p : Nat) (w : World) (h : Rdr w B g p) (hp : p ≤ 700000) :
    Calls Tryd.prog 104 #[.pointer (some ⟨g, 0, none⟩)] w fun e w' => WithPP w B g p 330 e w' := by
  go_enter Tryd.func104, Tryd.ntmps104
  go_wp2_with fail
  refine (l5Small_any B g p _ h (by omega)).mono ?_
  rintro e w1 ⟨t, s, p1, rfl, ht, hs, hp1, hR1, hG1⟩
  obtain ⟨ps, HPS⟩ : ∃ ps, Hid (ps = cutL t.data.toList) := ⟨_, rfl⟩
  go_wp2_with fail
  refine (sSizeOf_any t _ (by omega)).mono ?_
  rintro e w2 ⟨rfl, hB2⟩
  rw [← HPS.out]
  have hR2 := hR1.keep hB2
  have HG2 := Lib.hid (grn_trans hG1 (grn_below hB2))
  clear hR1 hG1 hB2
  by_cases hok : okN ps = true
  · have hn5 := okN_le hok
    have hn1 := cut_pos HPS
    obtain ⟨N, HN, hNw, hN32, hN0⟩ := wrap_two ps.length hn5
    have HSZ : Hid (szN ps = (ps.length : Int)) := Lib.hid (by rw [szN, if_pos hok])
    clear hok
    rw [HSZ.out]
    go_wp2_with fail
    refine (pick_any B g p1 _ _ hR2 (by omega) (by omega) (by omega)).mono ?_
    rintro e w3 ⟨k, rfl, hk, hR3, hG3⟩
    have HG3 := Lib.hid (grn_trans HG2.out hG3)
    clear hR2 hG3
    by_cases hk0 : 0 < k
    · go_wp2_with fail
      refine (pick_any B g (p1 + 1) _ _ hR3 (by omega) (by omega) (by omega)).mono ?_
      rintro e w4 ⟨u, rfl, hu, hR4, hG4⟩
      have hu2 : u < 32 := by omega
      have HG4 := Lib.hid (grn_trans HG3.out hG4)
      clear hNw hG4 hu
      go_wp2
      go_ret3
      exact ⟨t, s, u, _, rfl, ht, hs, by omega, by omega, hR4, HG4.out⟩
    · have hk00 : k = 0 := by omega
      subst hk00
      clear hNw hk0
      have hgl3 := hR3.lt.2
      go_wp2_with fail
      refine (num_any B g _ 3 _ [0, -1, 32] _ (hR3.keep ((Below.refl _ _).alloc (Nat.le_refl _) _)) (by omega) (Own.lit _ _ _ (by omega)) (by simp) (by simp)).mono ?_
      rintro e w5 ⟨v, hv, rfl, hR5, hG5⟩
      have hv2 : -1 ≤ v ∧ v ≤ 9223372036854775807 := by simp at hv; omega
      have HG := Lib.hid (grn_trans HG3.out (grn_trans (grn_below ((Below.refl _ _).alloc (Nat.le_refl _) _)) hG5))
      clear hv hG5
      go_wp2
      go_ret3
      exact ⟨t, s, v, _, rfl, ht, hs, hv2, by omega, hR5, HG.out⟩
  · have HSZ : Hid (szN ps = -1) := Lib.hid (by rw [szN, if_neg hok])
    clear hok
    rw [HSZ.out]
    have hR3 := hR2
    have HG3 := HG2
    have hgl3 := hR3.lt.2
    go_wp2_with fail
    refine (num_any B g _ 3 _ [0, -1, 32] _ (hR3.keep ((Below.refl _ _).alloc (Nat.le_refl _) _)) (by omega) (Own.lit _ _ _ (by omega)) (by simp) (by simp)).mono ?_
    rintro e w5 ⟨v, hv, rfl, hR5, hG5⟩
    have hv2 : -1 ≤ v ∧ v ≤ 9223372036854775807 := by simp at hv; omega
    have HG := Lib.hid (grn_trans HG3.out (grn_trans (grn_below ((Below.refl _ _).alloc (Nat.le_refl _) _)) hG5))
    clear hv hG5
    go_wp2
    go_ret3
    exact ⟨t, s, v, _, rfl, ht, hs, hv2, by omega, hR5, HG.out⟩

theorem DrawPathTo_any (A : Option Addr) (n c : Nat) (bs : List Int) (w : World) (hn : n = bs.length) (hnc : n ≤ c) (hc : c ≤ 9223372036854775807) (hr : Hid (Rd w A (bs.map (Value.int .u8)))) (hx : Hid (∀ x ∈ bs, 0 ≤ x ∧ x < 256)) :
    Calls Tryd.prog 56 #[.slice A n c] w fun e w' => DrwSS w.heap.size w e w' := by
  have HNL := Lib.hid hn
  clear hn
  go_enter Tryd.func56, Tryd.ntmps56
  go_wp2_with fail
  refine (l14Open_any _ _ _ _ _ HNL.out hnc hc hr hx).mono ?_
  rintro e w1 ⟨g, rfl, hR, hg, hB1⟩
  go_wp2_with fail
  refine (l5Two_any g g 0 _ hR (by omega)).mono ?_
  rintro e w2 ⟨t, s, u, p2, rfl, ht, hs, hu, hp2, hR2, hG2⟩
  have HG := Lib.hid hG2
  clear hG2
  go_wp2
  go_ret3
  exact ⟨⟨t, s, u, rfl, ht, hs, hu.1, hu.2⟩, hB1.trans (Below.of_grown HG.out hg hB1.size)⟩

theorem DrawIsSteady_any (A : Option Addr) (n c : Nat) (bs : List Int) (w : World) (hn : n = bs.length) (hnc : n ≤ c) (hc : c ≤ 9223372036854775807) (hr : Hid (Rd w A (bs.map (Value.int .u8)))) (hx : Hid (∀ x ∈ bs, 0 ≤ x ∧ x < 256)) :
    Calls Tryd.prog 40 #[.slice A n c] w fun e w' => DrwS w.heap.size w e w' := by
  have HNL := Lib.hid hn
  clear hn
  go_enter Tryd.func40, Tryd.ntmps40
  go_wp2_with fail
  refine (l14Open_any _ _ _ _ _ HNL.out hnc hc hr hx).mono ?_
  rintro e w1 ⟨g, rfl, hR, hg, hB1⟩
  go_wp2_with fail
  refine (l5Known_any g g 0 _ hR (by omega)).mono ?_
  rintro e w2 ⟨t, s, p2, rfl, ht, hs, hp2, hR2, hG2⟩
  have HG := Lib.hid hG2
  clear hG2
  go_wp2
  go_ret2
  exact ⟨⟨t, s, rfl, ht, hs.1, hs.2⟩, hB1.trans (Below.of_grown HG.out hg hB1.size)⟩

theorem DrawAttractorsOf_any (A : Option Addr) (n c : Nat) (bs : List Int) (w : World) (hn : n = bs.length) (hnc : n ≤ c) (hc : c ≤ 9223372036854775807) (hr : Hid (Rd w A (bs.map (Value.int .u8)))) (hx : Hid (∀ x ∈ bs, 0 ≤ x ∧ x < 256)) :
    Calls Tryd.prog 35 #[.slice A n c] w fun e w' => DrwP w.heap.size w e w' := by
  have HNL := Lib.hid hn
  clear hn
  go_enter Tryd.func35, Tryd.ntmps35
  go_wp2_with fail
  refine (l14Open_any _ _ _ _ _ HNL.out hnc hc hr hx).mono ?_
  rintro e w1 ⟨g, rfl, hR, hg, hB1⟩
  go_wp2_with fail
  refine (l5Small_any g g 0 _ hR (by omega)).mono ?_
  rintro e w2 ⟨t, s, p2, rfl, ht, hs, hp2, hR2, hG2⟩
  have HG := Lib.hid hG2
  clear hG2
  go_wp2
  go_ret
  exact ⟨⟨t, rfl, ht⟩, hB1.trans (Below.of_grown HG.out hg hB1.size)⟩

end Go.Proofs.YtpehimjngofnkaaDoor
