/- Walks: a drawn text that is sometimes no network. -/
import Derived.Test.YtpehimjngofnkaaDoorProg
import Derived.WalkKit
import Derived.WalkSpells
import Derived.WalkLawsBesides
import Derived.Lib.Hide
import Derived.Deep.QuietTactic
import Derived.Deep.RegionWith
import Derived.BigQuiet
import Derived.Test.YtpehimjngofnkaaDoorY5
namespace Go.Proofs.YtpehimjngofnkaaDoor
open Go.RowKit
set_option linter.unusedVariables false

/-- a text has been drawn -/
def StrP (w : World) (B g p hi q : Nat) (e : Ending) (w' : World) : Prop :=
  ∃ (t : ByteArray) (p2 : Nat), e = .returned (.string t) ∧ t.size ≤ hi ∧ p2 ≤ p + q ∧ Rdr w' B g p2 ∧ w.grownBy w' (some g)
set_option maxHeartbeats 1000000 in
set_option maxRecDepth 100000 in
theorem l3Bad_any (B g p : Nat) (t : ByteArray) (w : World) (h : Rdr w B g p) (hp : p ≤ 900000) (ht1 : 1 ≤ t.size) (ht2 : t.size ≤ 1000) :
    Calls Tryd.prog 113 #[.pointer (some ⟨g, 0, none⟩), .string t] w fun e w' => StrP w B g p 1010 10 e w' := by
  have hgl := h.lt.2
  go_enter Tryd.func113, Tryd.ntmps113
  go_wp2_with fail
  refine (pick_any B g p _ _ h (by omega) (by omega) (by omega)).mono ?_
  rintro e w1 ⟨k, rfl, hk, hR1, hG1⟩
  have hgl1 := hR1.lt.2
  have hkk : k = 0 ∨ k = 1 ∨ 2 ≤ k := by omega
  rcases hkk with rfl | rfl | hk2
  · go_wp2_with fail
    refine (of_any B g (p + 1) 4 _ [⟨#[44]⟩, ⟨#[48]⟩, ⟨#[44, 48, 49]⟩, ⟨#[120]⟩] _ (hR1.keep ((Below.refl _ _).alloc (Nat.le_refl _) _)) (by omega) (Own.lit w1 _ _ (by omega)) (by simp) (by simp)).mono ?_
    rintro e w2 ⟨v, hv, rfl, hR2, hG2⟩
    have hv3 : v.size ≤ 3 := by simp at hv; rcases hv with rfl | rfl | rfl | rfl <;> decide
    have HG := Lib.hid (grn_trans hG1 (grn_trans (grn_below ((Below.refl _ _).alloc (Nat.le_refl _) _)) hG2))
    have HR := Lib.hid hR2
    clear hv hG1 hG2 hR1 hR2
    go_wp2
    go_ret
    exact ⟨_, p + 1 + 1, rfl, by simp; omega, by omega, HR.out, HG.out⟩
  · go_wp2_with fail
    refine (pick_any B g (p + 1) _ _ hR1 (by omega) (by omega) (by omega)).mono ?_
    rintro e w2 ⟨k, rfl, hk, hR2, hG2⟩
    have hgl2 := hR2.lt.2
    have hkt : k < t.size := by omega
    have HG := Lib.hid (grn_trans hG1 hG2)
    have HR := Lib.hid hR2
    clear hG1 hG2 hR1 hR2
    obtain ⟨W, hW⟩ : ∃ W, W = (w2.alloc (.cells #[.string { data := #[] }, .string { data := #[44] }, .string { data := #[50] }] 9)).drew := ⟨_, rfl⟩
    have hBW : Below w2.heap.size w2 W := by rw [hW]; exact ((Below.refl _ _).alloc (Nat.le_refl _) _).trans (drewN_below _ 1)
    have HWR : Rdr W B g (p + 1 + 1) := HR.out.keep hBW
    have HOW : Own W (g + 1) (some ⟨w2.heap.size, 0, none⟩) (([⟨#[]⟩, ⟨#[44]⟩, ⟨#[50]⟩] : List ByteArray).map Value.string) := by
      rw [hW]
      exact (Own.lit w2 9 _ (by omega)).below (drewN_below _ 1)
    have HC := of_any B g (p + 1 + 1) 3 _ [⟨#[]⟩, ⟨#[44]⟩, ⟨#[50]⟩] W HWR (by omega) HOW (by simp) (by simp)
    have HGW : Hid (w.grownBy W (some g)) := Lib.hid (grn_trans HG.out (grn_below hBW))
    rw [hW] at HC HGW
    have HC2 := Lib.hid HC
    clear HC HWR HOW hBW hW
    have h30 : (0 : Int) ≤ (k : Int) + 1 := by omega
    have h32 : (k : Int) + 1 ≤ (t.size : Int) := by omega
    have h33 : k + 1 ≤ t.size := by omega
    have h34 : IntKind.i64.wrap ((k : Int) + 1) = (k : Int) + 1 := IntWalk.i64_in _ (by omega)
    have h31 : ((k : Int) + 1).toNat = k + 1 := by omega
    go_wp2_with fail
    go_region_with (first
      | (go_at_call 125; refine HC2.out.mono ?_; rintro e w3 ⟨v, hv, rfl, hR3, hG3⟩; have hv3 : v.size ≤ 3 := (by simp at hv; rcases hv with rfl | rfl | rfl <;> decide)))
    all_goals
      clear h34 h31
      go_wp2
      go_ret
      exact ⟨_, p + 1 + 1 + 1, rfl, by simp; omega, by omega, hR3, grn_trans HGW.out hG3⟩
  · go_wp2
    go_ret
    exact ⟨t, p + 1, rfl, by omega, by omega, hR1, hG1⟩

theorem l3Network_any (B g p : Nat) (w : World) (h : Rdr w B g p) (hp : p ≤ 800000) :
    Calls Tryd.prog 92 #[.pointer (some ⟨g, 0, none⟩)] w fun e w' => StrP w B g p 1010 310 e w' := by
  go_enter Tryd.func92, Tryd.ntmps92
  go_wp2_with fail
  refine (l3Some_any B g p _ h hp).mono ?_
  rintro e w1 ⟨t, p1, rfl, ht1, ht2, hp1, hR1, hG1⟩
  go_wp2_with fail
  refine (l3Bad_any B g p1 ⟨t.toArray⟩ _ hR1 (by omega) (by rw [str_size]; exact ht1) (by rw [str_size]; omega)).mono ?_
  rintro e w2 ⟨v, p2, rfl, hv, hp2, hR2, hG2⟩
  go_wp2
  go_ret
  exact ⟨v, p2, rfl, hv, by omega, hR2, grn_trans hG1 hG2⟩

/-- a text of at most 1010 bytes -/
def DrwP (B : Nat) (w : World) (e : Ending) (w' : World) : Prop := (∃ t : ByteArray, e = .returned (.string t) ∧ t.size ≤ 1010) ∧ Below B w w'
end Go.Proofs.YtpehimjngofnkaaDoor
