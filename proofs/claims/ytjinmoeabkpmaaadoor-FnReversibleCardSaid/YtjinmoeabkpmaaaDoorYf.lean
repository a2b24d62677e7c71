/- Walks: draws of a network and a state. Printed by wip/mkd.py. -/
import Derived.Test.YtjinmoeabkpmaaaDoorProg
import Derived.WalkKit
import Derived.WalkSpells
import Derived.WalkLawsBesides
import Derived.Lib.Hide
import Derived.Deep.QuietTactic
import Derived.Deep.RegionWith
import Derived.OwnWalk
import Derived.BigQuiet
import Derived.Test.YtjinmoeabkpmaaaDoorYb
import Derived.Test.YtjinmoeabkpmaaaDoorYc
namespace Go.Proofs.YtjinmoeabkpmaaaDoor
open Go.RowKit
set_option linter.unusedVariables false

theorem sSizeOf_any (s : ByteArray) (w : World) (hs : s.size ≤ 1073741824) :
    Calls Tryd.prog 126 #[.string s] w fun e w' => e = .returned (.int .i64 (szN (cutL s.data.toList))) ∧ Below w.heap.size w w' := by
  obtain ⟨ps, HPS⟩ : ∃ ps, Hid (ps = cutL s.data.toList) := ⟨_, rfl⟩
  rw [← HPS.out]
  by_cases h : okN ps = true
  · have HOK := Lib.hid h
    have HV : Hid (szN ps = (ps.length : Int)) := Lib.hid (by rw [szN, if_pos h])
    clear h
    go_enter Tryd.func126, Tryd.ntmps126
    go_wp2_with fail
    refine (l3Open_any s w hs).mono ?_
    rintro e w1 ⟨⟨A, k0, c, rfl, himp⟩, hB1⟩
    rw [← HPS.out] at himp ⊢
    obtain ⟨rfl, hc, hO⟩ := himp HOK.out
    rw [HOK.out]
    clear hO himp
    go_wp2
    go_ret
    exact ⟨by rw [HV.out]; rfl, hB1⟩
  · have HOK : Hid (okN ps = false) := Lib.hid (by simpa using h)
    have HV : Hid (szN ps = -1) := Lib.hid (by rw [szN, HOK.out]; rfl)
    clear h
    go_enter Tryd.func126, Tryd.ntmps126
    go_wp2_with fail
    refine (l3Open_any s w hs).mono ?_
    rintro e w1 ⟨⟨A, k0, c, rfl, himp⟩, hB1⟩
    clear himp
    rw [← HPS.out, HOK.out]
    go_wp2
    go_ret
    exact ⟨by rw [HV.out]; rfl, hB1⟩

/-- a text and a state have been drawn -/
def WithP (w : World) (B g p q : Nat) (e : Ending) (w' : World) : Prop :=
  ∃ (t : ByteArray) (s : Int) (p2 : Nat), e = .returned (.tuple #[.string t, .int .i64 s]) ∧ t.size ≤ 1010 ∧ (-1 ≤ s ∧ s ≤ 9223372036854775807) ∧ p2 ≤ p + q ∧ Rdr w' B g p2 ∧ w.grownBy w' (some g)
/-- a text of at most 1010 bytes and a number -/
def DrwS (B : Nat) (w : World) (e : Ending) (w' : World) : Prop := (∃ (t : ByteArray) (s : Int), e = .returned (.tuple #[.string t, .int .i64 s]) ∧ t.size ≤ 1010 ∧ -1 ≤ s ∧ s ≤ 9223372036854775807) ∧ Below B w w'
/-- a text of at most 1010 bytes and two numbers -/
def DrwSS (B : Nat) (w : World) (e : Ending) (w' : World) : Prop := (∃ (t : ByteArray) (s i : Int), e = .returned (.tuple #[.string t, .int .i64 s, .int .i64 i]) ∧ t.size ≤ 1010 ∧ (-1 ≤ s ∧ s ≤ 9223372036854775807) ∧ -1 ≤ i ∧ i ≤ 9223372036854775807) ∧ Below B w w'
theorem cut_pos {s : ByteArray} {ps : List (List UInt8)} (h : Hid (ps = cutL s.data.toList)) : 1 ≤ ps.length := by rw [h.out]; exact (cutL_len _).2

theorem l1Switch_any (B g p : Nat) (w : World) (h : Rdr w B g p) (hp : p ≤ 900000) :
    Calls Tryd.prog 89 #[.pointer (some ⟨g, 0, none⟩)] w fun e w' => ∃ v : Int, e = .returned (.int .i64 v) ∧ (-1 ≤ v ∧ v ≤ 9223372036854775807) ∧ Rdr w' B g (p + 1) ∧ w.grownBy w' (some g) := by
  have hgl := h.lt.2
  go_enter Tryd.func89, Tryd.ntmps89
  go_wp2_with fail
  refine (num_any B g p 10 _ [0, 1, 2, 0, 1, 3, 0, 1, -1, 9223372036854775807] _ (h.keep ((Below.refl _ _).alloc (Nat.le_refl _) _)) (by omega) (Own.lit w _ _ (by omega)) (by simp) (by simp)).mono ?_
  rintro e w2 ⟨v, hv, rfl, hR2, hG2⟩
  have hv2 : -1 ≤ v ∧ v ≤ 9223372036854775807 := by simp at hv; omega
  have HG := Lib.hid (grn_trans (grn_below ((Below.refl _ _).alloc (Nat.le_refl _) _)) hG2)
  clear hv hG2
  go_wp2
  go_ret
  exact ⟨v, rfl, hv2, hR2, HG.out⟩

set_option maxHeartbeats 1000000 in
set_option maxRecDepth 100000 in
theorem l3With_any (B g p : Nat) (w : World) (h : Rdr w B g p) (hp : p ≤ 700000) :
    Calls Tryd.prog 82 #[.pointer (some ⟨g, 0, none⟩)] w fun e w' => WithP w B g p 320 e w' := by
  go_enter Tryd.func82, Tryd.ntmps82
  go_wp2_with fail
  refine (l3Network_any B g p _ h (by omega)).mono ?_
  rintro e w1 ⟨t, p1, rfl, ht, hp1, hR1, hG1⟩
  obtain ⟨ps, HPS⟩ : ∃ ps, Hid (ps = cutL t.data.toList) := ⟨_, rfl⟩
  go_wp2_with fail
  refine (sSizeOf_any t _ (by omega)).mono ?_
  rintro e w2 ⟨rfl, hB2⟩
  rw [← HPS.out]
  have hR2 := hR1.keep hB2
  have HG2 := Lib.hid (grn_trans hG1 (grn_below hB2))
  clear hR1 hG1 hB2
  by_cases hok : okN ps = true
  · have hn5 := okN_le hok
    have hn1 := cut_pos HPS
    obtain ⟨N, HN, hNw, hN32, hN0⟩ := wrap_two ps.length hn5
    have HSZ : Hid (szN ps = (ps.length : Int)) := Lib.hid (by rw [szN, if_pos hok])
    clear hok
    rw [HSZ.out]
    go_wp2_with fail
    refine (pick_any B g p1 _ _ hR2 (by omega) (by omega) (by omega)).mono ?_
    rintro e w3 ⟨k, rfl, hk, hR3, hG3⟩
    have HG3 := Lib.hid (grn_trans HG2.out hG3)
    clear hR2 hG3
    by_cases hk0 : 0 < k
    · go_wp2_with fail
      refine (pick_any B g (p1 + 1) _ _ hR3 (by omega) (by omega) (by omega)).mono ?_
      rintro e w4 ⟨s, rfl, hs, hR4, hG4⟩
      have hs2 : s < 32 := by omega
      have HG4 := Lib.hid (grn_trans HG3.out hG4)
      clear hNw hG4 hs
      go_wp2
      go_ret2
      exact ⟨t, s, _, rfl, ht, by omega, by omega, hR4, HG4.out⟩
    · have hk00 : k = 0 := by omega
      subst hk00
      clear hNw hk0
      have hgl3 := hR3.lt.2
      go_wp2_with fail
      refine (num_any B g _ 4 _ [0, -1, 32, 9223372036854775807] _ (hR3.keep ((Below.refl _ _).alloc (Nat.le_refl _) _)) (by omega) (Own.lit _ _ _ (by omega)) (by simp) (by simp)).mono ?_
      rintro e w5 ⟨v, hv, rfl, hR5, hG5⟩
      have hv2 : -1 ≤ v ∧ v ≤ 9223372036854775807 := by simp at hv; omega
      have HG := Lib.hid (grn_trans HG3.out (grn_trans (grn_below ((Below.refl _ _).alloc (Nat.le_refl _) _)) hG5))
      clear hv hG5
      go_wp2
      go_ret2
      exact ⟨t, v, _, rfl, ht, hv2, by omega, hR5, HG.out⟩
  · have HSZ : Hid (szN ps = -1) := Lib.hid (by rw [szN, if_neg hok])
    clear hok
    rw [HSZ.out]
    have hR3 := hR2
    have HG3 := HG2
    have hgl3 := hR3.lt.2
    go_wp2_with fail
    refine (num_any B g _ 4 _ [0, -1, 32, 9223372036854775807] _ (hR3.keep ((Below.refl _ _).alloc (Nat.le_refl _) _)) (by omega) (Own.lit _ _ _ (by omega)) (by simp) (by simp)).mono ?_
    rintro e w5 ⟨v, hv, rfl, hR5, hG5⟩
    have hv2 : -1 ≤ v ∧ v ≤ 9223372036854775807 := by simp at hv; omega
    have HG := Lib.hid (grn_trans HG3.out (grn_trans (grn_below ((Below.refl _ _).alloc (Nat.le_refl _) _)) hG5))
    clear hv hG5
    go_wp2
    go_ret2
    exact ⟨t, v, _, rfl, ht, hv2, by omega, hR5, HG.out⟩

set_option maxHeartbeats 1000000 in
set_option maxRecDepth 100000 in
theorem l5Small_any (B g p : Nat) (w : World) (h : Rdr w B g p) (hp : p ≤ 700000) :
    Calls Tryd.prog 104 #[.pointer (some ⟨g, 0, none⟩)] w fun e w' => WithP w B g p 320 e w' := by
  go_enter Tryd.func104, Tryd.ntmps104
  have hgl := h.lt.2
  go_wp2_with fail
  refine (num_any B g p 5 _ [3, 2, 3, 1, 2] _ (h.keep ((Below.refl _ _).alloc (Nat.le_refl _) _)) (by omega) (Own.lit w _ _ (by omega)) (by simp) (by simp)).mono ?_
  rintro e wa ⟨n0, hn0, rfl, hRa, hGa⟩
  obtain ⟨n, rfl, hn1, hn5⟩ : ∃ n : Nat, n0 = (n : Int) ∧ 1 ≤ n ∧ n ≤ 5 := ⟨n0.toNat, by simp at hn0; omega, by simp at hn0; omega, by simp at hn0; omega⟩
  have HGa := Lib.hid (grn_trans (grn_below ((Below.refl _ _).alloc (Nat.le_refl _) _)) hGa)
  clear hn0 hGa
  go_wp2_with fail
  refine (l3Draw_any B g (p + 1) n _ hRa (by omega) hn1 hn5).mono ?_
  rintro e wb ⟨t0, pb, rfl, ht1, ht2, hpb, hRb, hGb⟩
  have HGb := Lib.hid (grn_trans HGa.out hGb)
  clear hRa hGb
  go_wp2_with fail
  refine (l3Bad_any B g pb ⟨t0.toArray⟩ _ hRb (by omega) (by rw [str_size]; exact ht1) (by rw [str_size]; omega)).mono ?_
  rintro e w1 ⟨t, p1, rfl, ht, hp1, hR1, hG0⟩
  have hG1 := grn_trans HGb.out hG0
  clear hRb hG0
  clear hn1 hn5
  obtain ⟨ps, HPS⟩ : ∃ ps, Hid (ps = cutL t.data.toList) := ⟨_, rfl⟩
  go_wp2_with fail
  refine (sSizeOf_any t _ (by omega)).mono ?_
  rintro e w2 ⟨rfl, hB2⟩
  rw [← HPS.out]
  have hR2 := hR1.keep hB2
  have HG2 := Lib.hid (grn_trans hG1 (grn_below hB2))
  clear hR1 hG1 hB2
  by_cases hok : okN ps = true
  · have hn5 := okN_le hok
    have hn1 := cut_pos HPS
    obtain ⟨N, HN, hNw, hN32, hN0⟩ := wrap_two ps.length hn5
    have HSZ : Hid (szN ps = (ps.length : Int)) := Lib.hid (by rw [szN, if_pos hok])
    clear hok
    rw [HSZ.out]
    go_wp2_with fail
    refine (pick_any B g p1 _ _ hR2 (by omega) (by omega) (by omega)).mono ?_
    rintro e w3 ⟨k, rfl, hk, hR3, hG3⟩
    have HG3 := Lib.hid (grn_trans HG2.out hG3)
    clear hR2 hG3
    by_cases hk0 : 0 < k
    · go_wp2_with fail
      refine (pick_any B g (p1 + 1) _ _ hR3 (by omega) (by omega) (by omega)).mono ?_
      rintro e w4 ⟨s, rfl, hs, hR4, hG4⟩
      have hs2 : s < 32 := by omega
      have HG4 := Lib.hid (grn_trans HG3.out hG4)
      clear hNw hG4 hs
      go_wp2
      go_ret2
      exact ⟨t, s, _, rfl, ht, by omega, by omega, hR4, HG4.out⟩
    · have hk00 : k = 0 := by omega
      subst hk00
      clear hNw hk0
      have hgl3 := hR3.lt.2
      go_wp2_with fail
      refine (num_any B g _ 4 _ [0, -1, 32, 9223372036854775807] _ (hR3.keep ((Below.refl _ _).alloc (Nat.le_refl _) _)) (by omega) (Own.lit _ _ _ (by omega)) (by simp) (by simp)).mono ?_
      rintro e w5 ⟨v, hv, rfl, hR5, hG5⟩
      have hv2 : -1 ≤ v ∧ v ≤ 9223372036854775807 := by simp at hv; omega
      have HG := Lib.hid (grn_trans HG3.out (grn_trans (grn_below ((Below.refl _ _).alloc (Nat.le_refl _) _)) hG5))
      clear hv hG5
      go_wp2
      go_ret2
      exact ⟨t, v, _, rfl, ht, hv2, by omega, hR5, HG.out⟩
  · have HSZ : Hid (szN ps = -1) := Lib.hid (by rw [szN, if_neg hok])
    clear hok
    rw [HSZ.out]
    have hR3 := hR2
    have HG3 := HG2
    have hgl3 := hR3.lt.2
    go_wp2_with fail
    refine (num_any B g _ 4 _ [0, -1, 32, 9223372036854775807] _ (hR3.keep ((Below.refl _ _).alloc (Nat.le_refl _) _)) (by omega) (Own.lit _ _ _ (by omega)) (by simp) (by simp)).mono ?_
    rintro e w5 ⟨v, hv, rfl, hR5, hG5⟩
    have hv2 : -1 ≤ v ∧ v ≤ 9223372036854775807 := by simp at hv; omega
    have HG := Lib.hid (grn_trans HG3.out (grn_trans (grn_below ((Below.refl _ _).alloc (Nat.le_refl _) _)) hG5))
    clear hv hG5
    go_wp2
    go_ret2
    exact ⟨t, v, _, rfl, ht, hv2, by omega, hR5, HG.out⟩

set_option maxHeartbeats 1000000 in
theorem DrawOrbitOf_any (A : Option Addr) (n c : Nat) (bs : List Int) (w : World) (hn : n = bs.length) (hnc : n ≤ c) (hc : c ≤ 9223372036854775807) (hr : Hid (Rd w A (bs.map (Value.int .u8)))) (hx : Hid (∀ x ∈ bs, 0 ≤ x ∧ x < 256)) :
    Calls Tryd.prog 47 #[.slice A n c] w fun e w' => DrwS w.heap.size w e w' := by
  have HNL := Lib.hid hn
  clear hn
  go_enter Tryd.func47, Tryd.ntmps47
  go_wp2_with fail
  refine (l14Open_any _ _ _ _ _ HNL.out hnc hc hr hx).mono ?_
  rintro e w1 ⟨g, rfl, hR, hg, hB1⟩
  go_wp2_with fail
  refine (l3With_any g g 0 _ hR (by omega)).mono ?_
  rintro e w2 ⟨t, s, p2, rfl, ht, hs, hp2, hR2, hG2⟩
  have HG := Lib.hid hG2
  clear hG2
  go_wp2
  go_ret2
  exact ⟨⟨t, s, rfl, ht, hs.1, hs.2⟩, hB1.trans (Below.of_grown HG.out hg hB1.size)⟩

set_option maxHeartbeats 1000000 in
theorem DrawCycleOf_any (A : Option Addr) (n c : Nat) (bs : List Int) (w : World) (hn : n = bs.length) (hnc : n ≤ c) (hc : c ≤ 9223372036854775807) (hr : Hid (Rd w A (bs.map (Value.int .u8)))) (hx : Hid (∀ x ∈ bs, 0 ≤ x ∧ x < 256)) :
    Calls Tryd.prog 60 #[.slice A n c] w fun e w' => DrwS w.heap.size w e w' := by
  have HNL := Lib.hid hn
  clear hn
  go_enter Tryd.func60, Tryd.ntmps60
  go_wp2_with fail
  refine (l14Open_any _ _ _ _ _ HNL.out hnc hc hr hx).mono ?_
  rintro e w1 ⟨g, rfl, hR, hg, hB1⟩
  go_wp2_with fail
  refine (l3With_any g g 0 _ hR (by omega)).mono ?_
  rintro e w2 ⟨t, s, p2, rfl, ht, hs, hp2, hR2, hG2⟩
  have HG := Lib.hid hG2
  clear hG2
  go_wp2
  go_ret2
  exact ⟨⟨t, s, rfl, ht, hs.1, hs.2⟩, hB1.trans (Below.of_grown HG.out hg hB1.size)⟩

set_option maxHeartbeats 1000000 in
theorem DrawBasinOf_any (A : Option Addr) (n c : Nat) (bs : List Int) (w : World) (hn : n = bs.length) (hnc : n ≤ c) (hc : c ≤ 9223372036854775807) (hr : Hid (Rd w A (bs.map (Value.int .u8)))) (hx : Hid (∀ x ∈ bs, 0 ≤ x ∧ x < 256)) :
    Calls Tryd.prog 63 #[.slice A n c] w fun e w' => DrwS w.heap.size w e w' := by
  have HNL := Lib.hid hn
  clear hn
  go_enter Tryd.func63, Tryd.ntmps63
  go_wp2_with fail
  refine (l14Open_any _ _ _ _ _ HNL.out hnc hc hr hx).mono ?_
  rintro e w1 ⟨g, rfl, hR, hg, hB1⟩
  go_wp2_with fail
  refine (l3With_any g g 0 _ hR (by omega)).mono ?_
  rintro e w2 ⟨t, s, p2, rfl, ht, hs, hp2, hR2, hG2⟩
  have HG := Lib.hid hG2
  clear hG2
  go_wp2
  go_ret2
  exact ⟨⟨t, s, rfl, ht, hs.1, hs.2⟩, hB1.trans (Below.of_grown HG.out hg hB1.size)⟩

set_option maxHeartbeats 1000000 in
theorem DrawBeforeOf_any (A : Option Addr) (n c : Nat) (bs : List Int) (w : World) (hn : n = bs.length) (hnc : n ≤ c) (hc : c ≤ 9223372036854775807) (hr : Hid (Rd w A (bs.map (Value.int .u8)))) (hx : Hid (∀ x ∈ bs, 0 ≤ x ∧ x < 256)) :
    Calls Tryd.prog 42 #[.slice A n c] w fun e w' => DrwS w.heap.size w e w' := by
  have HNL := Lib.hid hn
  clear hn
  go_enter Tryd.func42, Tryd.ntmps42
  go_wp2_with fail
  refine (l14Open_any _ _ _ _ _ HNL.out hnc hc hr hx).mono ?_
  rintro e w1 ⟨g, rfl, hR, hg, hB1⟩
  go_wp2_with fail
  refine (l3With_any g g 0 _ hR (by omega)).mono ?_
  rintro e w2 ⟨t, s, p2, rfl, ht, hs, hp2, hR2, hG2⟩
  have HG := Lib.hid hG2
  clear hG2
  go_wp2
  go_ret2
  exact ⟨⟨t, s, rfl, ht, hs.1, hs.2⟩, hB1.trans (Below.of_grown HG.out hg hB1.size)⟩

set_option maxHeartbeats 1000000 in
theorem DrawNextOf_any (A : Option Addr) (n c : Nat) (bs : List Int) (w : World) (hn : n = bs.length) (hnc : n ≤ c) (hc : c ≤ 9223372036854775807) (hr : Hid (Rd w A (bs.map (Value.int .u8)))) (hx : Hid (∀ x ∈ bs, 0 ≤ x ∧ x < 256)) :
    Calls Tryd.prog 36 #[.slice A n c] w fun e w' => DrwS w.heap.size w e w' := by
  have HNL := Lib.hid hn
  clear hn
  go_enter Tryd.func36, Tryd.ntmps36
  go_wp2_with fail
  refine (l14Open_any _ _ _ _ _ HNL.out hnc hc hr hx).mono ?_
  rintro e w1 ⟨g, rfl, hR, hg, hB1⟩
  go_wp2_with fail
  refine (l3With_any g g 0 _ hR (by omega)).mono ?_
  rintro e w2 ⟨t, s, p2, rfl, ht, hs, hp2, hR2, hG2⟩
  have HG := Lib.hid hG2
  clear hG2
  go_wp2
  go_ret2
  exact ⟨⟨t, s, rfl, ht, hs.1, hs.2⟩, hB1.trans (Below.of_grown HG.out hg hB1.size)⟩

set_option maxHeartbeats 1000000 in
theorem DrawReachableFrom_any (A : Option Addr) (n c : Nat) (bs : List Int) (w : World) (hn : n = bs.length) (hnc : n ≤ c) (hc : c ≤ 9223372036854775807) (hr : Hid (Rd w A (bs.map (Value.int .u8)))) (hx : Hid (∀ x ∈ bs, 0 ≤ x ∧ x < 256)) :
    Calls Tryd.prog 52 #[.slice A n c] w fun e w' => DrwS w.heap.size w e w' := by
  have HNL := Lib.hid hn
  clear hn
  go_enter Tryd.func52, Tryd.ntmps52
  go_wp2_with fail
  refine (l14Open_any _ _ _ _ _ HNL.out hnc hc hr hx).mono ?_
  rintro e w1 ⟨g, rfl, hR, hg, hB1⟩
  go_wp2_with fail
  refine (l5Small_any g g 0 _ hR (by omega)).mono ?_
  rintro e w2 ⟨t, s, p2, rfl, ht, hs, hp2, hR2, hG2⟩
  have HG := Lib.hid hG2
  clear hG2
  go_wp2
  go_ret2
  exact ⟨⟨t, s, rfl, ht, hs.1, hs.2⟩, hB1.trans (Below.of_grown HG.out hg hB1.size)⟩

set_option maxHeartbeats 1000000 in
theorem DrawCyclesOf_any (A : Option Addr) (n c : Nat) (bs : List Int) (w : World) (hn : n = bs.length) (hnc : n ≤ c) (hc : c ≤ 9223372036854775807) (hr : Hid (Rd w A (bs.map (Value.int .u8)))) (hx : Hid (∀ x ∈ bs, 0 ≤ x ∧ x < 256)) :
    Calls Tryd.prog 66 #[.slice A n c] w fun e w' => DrwP w.heap.size w e w' := by
  have HNL := Lib.hid hn
  clear hn
  go_enter Tryd.func66, Tryd.ntmps66
  go_wp2_with fail
  refine (l14Open_any _ _ _ _ _ HNL.out hnc hc hr hx).mono ?_
  rintro e w1 ⟨g, rfl, hR, hg, hB1⟩
  go_wp2_with fail
  refine (l3Network_any g g 0 _ hR (by omega)).mono ?_
  rintro e w2 ⟨t, p2, rfl, ht, hp2, hR2, hG2⟩
  have HG := Lib.hid hG2
  clear hG2
  go_wp2
  go_ret
  exact ⟨⟨t, rfl, ht⟩, hB1.trans (Below.of_grown HG.out hg hB1.size)⟩

set_option maxHeartbeats 1000000 in
theorem DrawRuleOf_any (A : Option Addr) (n c : Nat) (bs : List Int) (w : World) (hn : n = bs.length) (hnc : n ≤ c) (hc : c ≤ 9223372036854775807) (hr : Hid (Rd w A (bs.map (Value.int .u8)))) (hx : Hid (∀ x ∈ bs, 0 ≤ x ∧ x < 256)) :
    Calls Tryd.prog 109 #[.slice A n c] w fun e w' => DrwS w.heap.size w e w' := by
  have HNL := Lib.hid hn
  clear hn
  go_enter Tryd.func109, Tryd.ntmps109
  go_wp2_with fail
  refine (l14Open_any _ _ _ _ _ HNL.out hnc hc hr hx).mono ?_
  rintro e w1 ⟨g, rfl, hR, hg, hB1⟩
  go_wp2_with fail
  refine (l3Network_any g g 0 _ hR (by omega)).mono ?_
  rintro e w2 ⟨t, p2, rfl, ht, hp2, hR2, hG2⟩
  have HG := Lib.hid hG2
  clear hG2
  go_wp2_with fail
  refine (l1Switch_any g g _ _ hR2 (by omega)).mono ?_
  rintro e w3 ⟨i, rfl, hi, hR3, hG3⟩
  replace HG := Lib.hid (grn_trans HG.out hG3)
  clear hG3
  go_wp2
  go_ret2
  exact ⟨⟨t, i, rfl, ht, hi.1, hi.2⟩, hB1.trans (Below.of_grown HG.out hg hB1.size)⟩

theorem DrawTurnNetwork_any (A : Option Addr) (n c : Nat) (bs : List Int) (w : World) (hn : n = bs.length) (hnc : n ≤ c) (hc : c ≤ 9223372036854775807) (hr : Hid (Rd w A (bs.map (Value.int .u8)))) (hx : Hid (∀ x ∈ bs, 0 ≤ x ∧ x < 256)) :
    Calls Tryd.prog 56 #[.slice A n c] w fun e w' => DrwS w.heap.size w e w' := by
  have HNL := Lib.hid hn
  clear hn
  go_enter Tryd.func56, Tryd.ntmps56
  go_wp2_with fail
  refine (DrawRuleOf_any _ _ _ _ _ HNL.out hnc hc hr hx).mono ?_
  rintro e w1 ⟨⟨t, s, rfl, ht⟩, hB1⟩
  go_wp2
  go_ret2
  exact ⟨⟨t, s, rfl, ht⟩, hB1⟩

set_option maxHeartbeats 1000000 in
theorem DrawStepOne_any (A : Option Addr) (n c : Nat) (bs : List Int) (w : World) (hn : n = bs.length) (hnc : n ≤ c) (hc : c ≤ 9223372036854775807) (hr : Hid (Rd w A (bs.map (Value.int .u8)))) (hx : Hid (∀ x ∈ bs, 0 ≤ x ∧ x < 256)) :
    Calls Tryd.prog 26 #[.slice A n c] w fun e w' => DrwSS w.heap.size w e w' := by
  have HNL := Lib.hid hn
  clear hn
  go_enter Tryd.func26, Tryd.ntmps26
  go_wp2_with fail
  refine (l14Open_any _ _ _ _ _ HNL.out hnc hc hr hx).mono ?_
  rintro e w1 ⟨g, rfl, hR, hg, hB1⟩
  go_wp2_with fail
  refine (l3With_any g g 0 _ hR (by omega)).mono ?_
  rintro e w2 ⟨t, s, p2, rfl, ht, hs, hp2, hR2, hG2⟩
  have HG := Lib.hid hG2
  clear hG2
  go_wp2_with fail
  refine (l1Switch_any g g _ _ hR2 (by omega)).mono ?_
  rintro e w3 ⟨i, rfl, hi, hR3, hG3⟩
  replace HG := Lib.hid (grn_trans HG.out hG3)
  clear hG3
  go_wp2
  go_ret3
  exact ⟨⟨t, s, i, rfl, ht, hs, hi.1, hi.2⟩, hB1.trans (Below.of_grown HG.out hg hB1.size)⟩

set_option maxHeartbeats 1000000 in
theorem DrawAfterSteps_any (A : Option Addr) (n c : Nat) (bs : List Int) (w : World) (hn : n = bs.length) (hnc : n ≤ c) (hc : c ≤ 9223372036854775807) (hr : Hid (Rd w A (bs.map (Value.int .u8)))) (hx : Hid (∀ x ∈ bs, 0 ≤ x ∧ x < 256)) :
    Calls Tryd.prog 20 #[.slice A n c] w fun e w' => DrwSS w.heap.size w e w' := by
  have HNL := Lib.hid hn
  clear hn
  go_enter Tryd.func20, Tryd.ntmps20
  go_wp2_with fail
  refine (l14Open_any _ _ _ _ _ HNL.out hnc hc hr hx).mono ?_
  rintro e w1 ⟨g, rfl, hR, hg, hB1⟩
  go_wp2_with fail
  refine (l3With_any g g 0 _ hR (by omega)).mono ?_
  rintro e w2 ⟨t, s, p2, rfl, ht, hs, hp2, hR2, hG2⟩
  have HG := Lib.hid hG2
  clear hG2
  have hgl2 := hR2.lt.2
  go_wp2_with fail
  refine (pick_any g g _ _ _ hR2 (by omega) (by omega) (by omega)).mono ?_
  rintro e w3 ⟨k, rfl, hk, hR3, hG3⟩
  replace HG := Lib.hid (grn_trans HG.out hG3)
  have hgl3 := hR3.lt.2
  clear hG3 hR2
  go_wp2_with fail
  refine (num_any g g _ 6 _ [(k : Int), 1, 0, 100, -1, 9223372036854775807] _ (hR3.keep ((Below.refl _ _).alloc (Nat.le_refl _) _)) (by omega) (Own.lit _ _ _ (by omega)) (by simp) (by simp)).mono ?_
  rintro e w4 ⟨i, hi0, rfl, hR4, hG4⟩
  have hi : -1 ≤ i ∧ i ≤ 9223372036854775807 := by simp at hi0; omega
  replace HG := Lib.hid (grn_trans HG.out (grn_trans (grn_below ((Below.refl _ _).alloc (Nat.le_refl _) _)) hG4))
  clear hi0 hG4
  go_wp2
  go_ret3
  exact ⟨⟨t, s, i, rfl, ht, hs, hi.1, hi.2⟩, hB1.trans (Below.of_grown HG.out hg hB1.size)⟩

end Go.Proofs.YtjinmoeabkpmaaaDoor
