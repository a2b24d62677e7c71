/- Walks: a draw of a network, a switch and a rule. -/
import Derived.Test.YtpehimjngofnkaaDoorProg
import Derived.WalkKit
import Derived.WalkSpells
import Derived.WalkLawsBesides
import Derived.Lib.Hide
import Derived.Deep.QuietTactic
import Derived.Deep.RegionWith
import Derived.OwnWalk
import Derived.BigQuiet
import Derived.Test.YtpehimjngofnkaaDoorN2
namespace Go.Proofs.YtpehimjngofnkaaDoor
open Go.RowKit
set_option linter.unusedVariables false

set_option maxHeartbeats 1000000 in
set_option maxRecDepth 100000 in
theorem l1Bad_any (B g p : Nat) (t : ByteArray) (w : World) (h : Rdr w B g p) (hp : p ≤ 900000) (ht1 : 1 ≤ t.size) (ht2 : t.size ≤ 1000) :
    Calls Tryd.prog 95 #[.pointer (some ⟨g, 0, none⟩), .string t] w fun e w' => StrP w B g p 1010 10 e w' := by
  have hgl := h.lt.2
  go_enter Tryd.func95, Tryd.ntmps95
  go_wp2_with fail
  refine (pick_any B g p _ _ h (by omega) (by omega) (by omega)).mono ?_
  rintro e w1 ⟨k, rfl, hk, hR1, hG1⟩
  have hgl1 := hR1.lt.2
  have hkk : k = 0 ∨ k = 1 ∨ k = 2 ∨ 3 ≤ k := by omega
  rcases hkk with rfl | rfl | rfl | hk2
  · go_wp2_with fail
    refine (of_any B g (p + 1) 3 _ [⟨#[48]⟩, ⟨#[120]⟩, ⟨#[]⟩] _ (hR1.keep ((Below.refl _ _).alloc (Nat.le_refl _) _)) (by omega) (Own.lit w1 _ _ (by omega)) (by simp) (by simp)).mono ?_
    rintro e w2 ⟨v, hv, rfl, hR2, hG2⟩
    have hv3 : v.size ≤ 3 := by simp at hv; rcases hv with rfl | rfl | rfl <;> decide
    have HG := Lib.hid (grn_trans hG1 (grn_trans (grn_below ((Below.refl _ _).alloc (Nat.le_refl _) _)) hG2))
    have HR := Lib.hid hR2
    clear hv hG1 hG2 hR1 hR2
    go_wp2
    go_ret
    exact ⟨_, p + 1 + 1, rfl, by simp; omega, by omega, HR.out, HG.out⟩
  · go_wp2_with fail
    refine (pick_any B g (p + 1) _ _ hR1 (by omega) (by omega) (by omega)).mono ?_
    rintro e w2 ⟨k, rfl, hk, hR2, hG2⟩
    have hgl2 := hR2.lt.2
    have hkt : k < t.size := by omega
    have HG := Lib.hid (grn_trans hG1 hG2)
    have HR := Lib.hid hR2
    clear hG1 hG2 hR1 hR2
    obtain ⟨W, hW⟩ : ∃ W, W = (w2.alloc (.cells #[.string { data := #[] }, .string { data := #[50] }, .string { data := #[32] }] 9)).drew := ⟨_, rfl⟩
    have hBW : Below w2.heap.size w2 W := by rw [hW]; exact ((Below.refl _ _).alloc (Nat.le_refl _) _).trans (drewN_below _ 1)
    have HWR : Rdr W B g (p + 1 + 1) := HR.out.keep hBW
    have HOW : Own W (g + 1) (some ⟨w2.heap.size, 0, none⟩) (([⟨#[]⟩, ⟨#[50]⟩, ⟨#[32]⟩] : List ByteArray).map Value.string) := by
      rw [hW]
      exact (Own.lit w2 9 _ (by omega)).below (drewN_below _ 1)
    have HC := of_any B g (p + 1 + 1) 3 _ [⟨#[]⟩, ⟨#[50]⟩, ⟨#[32]⟩] W HWR (by omega) HOW (by simp) (by simp)
    have HGW : Hid (w.grownBy W (some g)) := Lib.hid (grn_trans HG.out (grn_below hBW))
    rw [hW] at HC HGW
    have HC2 := Lib.hid HC
    clear HC HWR HOW hBW hW
    have h30 : (0 : Int) ≤ (k : Int) + 1 := by omega
    have h32 : (k : Int) + 1 ≤ (t.size : Int) := by omega
    have h33 : k + 1 ≤ t.size := by omega
    have h34 : IntKind.i64.wrap ((k : Int) + 1) = (k : Int) + 1 := IntWalk.i64_in _ (by omega)
    have h31 : ((k : Int) + 1).toNat = k + 1 := by omega
    go_wp2_with fail
    go_region_with (first
      | (go_at_call 125; refine HC2.out.mono ?_; rintro e w3 ⟨v, hv, rfl, hR3, hG3⟩; have hv3 : v.size ≤ 3 := (by simp at hv; rcases hv with rfl | rfl | rfl <;> decide)))
    all_goals
      clear h34 h31
      go_wp2
      go_ret
      exact ⟨_, p + 1 + 1 + 1, rfl, by simp; omega, by omega, hR3, grn_trans HGW.out hG3⟩
  · go_wp2_with fail
    refine (num_any B g (p + 1) 3 _ [16, 32, 1] _ (hR1.keep ((Below.refl _ _).alloc (Nat.le_refl _) _)) (by omega) (Own.lit w1 _ _ (by omega)) (by simp) (by simp)).mono ?_
    rintro e w2 ⟨v, hv, rfl, hR2, hG2⟩
    obtain ⟨m, hm, rfl⟩ : ∃ m : Nat, m ≤ 32 ∧ v = (m : Int) := by
      simp at hv; exact ⟨v.toNat, by omega, by omega⟩
    have HG := Lib.hid (grn_trans hG1 (grn_trans (grn_below ((Below.refl _ _).alloc (Nat.le_refl _) _)) hG2))
    have HR := Lib.hid hR2
    clear hv hG1 hG2 hR1 hR2
    go_wp2_with fail
    refine (l14Many_any _ m 64 _ (by show 2 * m ≤ 64; omega) (by omega) (by omega)).mono ?_
    rintro e w3 ⟨t3, rfl, ht3, rfl⟩
    go_wp2
    go_ret
    exact ⟨t3, p + 1 + 1, rfl, by omega, by omega, HR.out, HG.out⟩
  · go_wp2
    go_ret
    exact ⟨t, p + 1, rfl, by omega, by omega, hR1, hG1⟩

/-- a network, a switch and a rule have been drawn -/
def DrwW (w : World) (e : Ending) (w' : World) : Prop := (∃ (t : ByteArray) (i : Int) (f : List UInt8), e = .returned (.tuple #[.string t, .int .i64 i, .string ⟨f.toArray⟩]) ∧ t.size ≤ 1010 ∧ f.length ≤ 1010 ∧ -1 ≤ i ∧ i ≤ 9223372036854775807) ∧ Below w.heap.size w w'

set_option maxHeartbeats 1000000 in
theorem DrawWithRule_any (A : Option Addr) (n c : Nat) (bs : List Int) (w : World) (hn : n = bs.length) (hnc : n ≤ c) (hc : c ≤ 9223372036854775807) (hr : Hid (Rd w A (bs.map (Value.int .u8)))) (hx : Hid (∀ x ∈ bs, 0 ≤ x ∧ x < 256)) :
    Calls Tryd.prog 46 #[.slice A n c] w fun e w' => DrwW w e w' := by
  have HNL := Lib.hid hn
  clear hn
  go_enter Tryd.func46, Tryd.ntmps46
  go_wp2_with fail
  refine (l14Open_any _ _ _ _ _ HNL.out hnc hc hr hx).mono ?_
  rintro e w1 ⟨g, rfl, hR, hg, hB1⟩
  go_wp2_with fail
  refine (l3Network_any g g 0 _ hR (by omega)).mono ?_
  rintro e w2 ⟨t, p2, rfl, ht, hp2, hR2, hG2⟩
  obtain ⟨ps, HPS⟩ : ∃ ps, Hid (ps = cutL t.data.toList) := ⟨_, Lib.hid rfl⟩
  have HG2 := Lib.hid hG2
  clear hG2
  go_wp2_with fail
  refine (sSizeOf_any t _ (by omega)).mono ?_
  rw [← HPS.out]
  rintro e w3 ⟨rfl, hB3⟩
  have hR3 := hR2.keep hB3
  have HG3 := Lib.hid (grn_trans HG2.out (grn_below hB3))
  clear hR2 hB3
  obtain ⟨m, hm1, hm5, hmx⟩ : ∃ m : Nat, 1 ≤ m ∧ m ≤ 5 ∧ max (szN ps) 1 = (m : Int) := by
    by_cases hok : okN ps = true
    · have h1 : 1 ≤ ps.length := by rw [HPS.out]; exact (cutL_len _).2
      exact ⟨ps.length, h1, okN_le hok, by rw [szN, if_pos hok]; omega⟩
    · exact ⟨1, by omega, by omega, by rw [szN, if_neg hok]; rfl⟩
  obtain ⟨z, HZ⟩ : ∃ z, Hid (z = szN ps) := ⟨_, Lib.hid rfl⟩
  rw [← HZ.out] at hmx ⊢
  go_wp2_with fail
  try rw [hmx]
  refine (l1Switch_any g g p2 _ hR3 (by omega)).mono ?_
  rintro e w4 ⟨i, rfl, hi, hR4, hG4⟩
  have HG4 := Lib.hid (grn_trans HG3.out hG4)
  clear hG4
  go_wp2_with fail
  try rw [hmx]
  refine (l1Draw_any g g _ m _ hR4 (by omega) hm1 hm5).mono ?_
  rintro e w5 ⟨f, p5, rfl, hf1, hf2, hp5, hR5, hG5⟩
  have HG5 := Lib.hid (grn_trans HG4.out hG5)
  clear hG5
  go_wp2_with fail
  refine (l1Bad_any g g p5 ⟨f.toArray⟩ _ hR5 (by omega) (by rw [str_size]; exact hf1) (by rw [str_size]; omega)).mono ?_
  rintro e w6 ⟨v, p6, rfl, hv, hp6, hR6, hG6⟩
  have HG6 := Lib.hid (grn_trans HG5.out hG6)
  clear hG6
  go_wp2
  go_ret3
  refine ⟨⟨t, i, v.data.toList, by rw [str_of_list]; rfl, ht, ?_, hi.1, hi.2⟩, hB1.trans (Below.of_grown HG6.out hg hB1.size)⟩
  rw [← str_size, str_of_list]; exact hv

end Go.Proofs.YtpehimjngofnkaaDoor
