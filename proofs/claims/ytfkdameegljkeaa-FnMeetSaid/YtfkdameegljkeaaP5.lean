/- Walks: the draws of two terms; only their sizes are told. -/
import Derived.Test.YtfkdameegljkeaaProg
import Derived.WalkKit
import Derived.WalkSpells
import Derived.WalkLawsBesides
import Derived.Lib.Hide
import Derived.IntWalk
import Derived.Deep.QuietTactic
import Derived.Deep.RegionWith
import Derived.BigQuiet
import Derived.Test.YtfkdameegljkeaaWd
namespace Go.Proofs.Ytfkdameegljkeaa
open Go.RowKit
set_option linter.unusedVariables false

theorem grw_trans {a b c : World} {g : Nat} (h : a.grownBy b (some g)) (k : b.grownBy c (some g)) : a.grownBy c (some g) :=
  ⟨k.os.trans h.os, k.tape.trans h.tape, k.output.trans h.output, Nat.le_trans h.size k.size, fun i hi hne => (k.block i (Nat.lt_of_lt_of_le hi h.size) hne).trans (h.block i hi hne)⟩
theorem grw_below {a b : World} {g : Nat} (h : Below a.heap.size a b) : a.grownBy b (some g) := ⟨h.os, h.tape, h.output, h.size, fun i hi _ => h.block i hi⟩
/-- a text of lo to hi bytes has been drawn -/
def SizP (w : World) (B g p lo hi q : Nat) (e : Ending) (w' : World) : Prop :=
  ∃ (t : ByteArray) (p2 : Nat), e = .returned (.string t) ∧ lo ≤ t.size ∧ t.size ≤ hi ∧ p2 ≤ p + q ∧ Rdr w' B g p2 ∧ w.grownBy w' (some g)

set_option maxHeartbeats 400000 in
theorem l2Term_any (B g p n : Nat) (w : World) (h : Rdr w B g p) (hp : p ≤ 900000) (hn : n ≤ 1000) :
    Calls Try.prog 23 #[.pointer (some ⟨g, 0, none⟩), .int .i64 (n : Int)] w fun e w' => SizP w B g p n n n e w' := by
  have hgl := h.lt.2
  have H0 : Hid (Rdr w B g p ∧ w.grownBy w (some g)) := Lib.hid ⟨h, grw_below (Below.refl _ _)⟩
  clear h
  go_enter Try.func23, Try.ntmps23
  go_wp2_with fail
  go_loopw [5, 6] (fun o q wr => ∃ (k p' : Nat) (t : ByteArray), k ≤ n ∧ q = .int .i64 k ∧ o = .string t ∧ t.size ≤ k ∧ k ≤ t.size ∧ p' ≤ p + k ∧ Hid (Rdr wr B g p' ∧ w.grownBy wr (some g))) (fun _ q _ => n - (intOf q).toNat)
  case atStart => exact ⟨0, p, ⟨#[]⟩, Nat.zero_le _, rfl, rfl, by decide, by decide, by omega, H0⟩
  case round =>
    obtain ⟨k, p', t, hk, rfl, rfl, ht1, ht2, hp', HR⟩ := hrel
    have hglr := HR.out.1.lt.2
    by_cases hlt : k < n
    · go_wp2_with fail
      refine (of_any B g p' 4 _ [⟨#[42]⟩, ⟨#[48]⟩, ⟨#[49]⟩, ⟨#[42]⟩] _ (HR.out.1.keep ((Below.refl _ _).alloc (Nat.le_refl _) _)) (by omega) (Own.lit wr _ _ (by omega)) (by simp) (by simp)).mono ?_
      rintro e w2 ⟨v, hv, rfl, hR2, hG2⟩
      have hv1 : v.size = 1 := by simp at hv; rcases hv with rfl | rfl | rfl | rfl <;> decide
      have HG := Lib.hid (And.intro hR2 (grw_trans HR.out.2 (grw_trans (grw_below ((Below.refl _ _).alloc (Nat.le_refl _) _)) hG2)))
      have hs : (t ++ v).size = k + 1 := by rw [ByteArray.size_append]; omega
      have HSZ := Lib.hid hs
      clear hv hG2 hR2 hs
      go_wp2_with fail
      go_roundw
      case rel => exact ⟨k + 1, p' + 1, _, by omega, by go_num, rfl, by rw [HSZ.out]; exact Nat.le_refl _, by rw [HSZ.out]; exact Nat.le_refl _, by omega, HG⟩
      case measure => simp [intOf]; omega
    · have hkn : k = n := by omega
      subst hkn
      go_wp2_with fail
      go_ret
      exact ⟨t, p', rfl, ht2, ht1, hp', HR.out.1, HR.out.2⟩

set_option maxHeartbeats 400000 in
theorem l2Bad_any (B g p lo hi : Nat) (t : ByteArray) (w : World) (h : Rdr w B g p) (hp : p ≤ 900000) (h1 : lo ≤ t.size) (h2 : t.size ≤ hi) (h3 : hi ≤ 1000) :
    Calls Try.prog 24 #[.pointer (some ⟨g, 0, none⟩), .string t] w fun e w' => SizP w B g p lo (hi + 6) 2 e w' := by
  have hgl := h.lt.2
  go_enter Try.func24, Try.ntmps24
  go_wp2_with fail
  refine (pick_any B g p _ _ h (by omega) (by omega) (by omega)).mono ?_
  rintro e w1 ⟨k, rfl, hk, hR1, hG1⟩
  have hgl1 := hR1.lt.2
  by_cases hk0 : k = 0
  · subst hk0
    go_wp2_with fail
    refine (of_any B g (p + 1) 4 _ [⟨#[42]⟩, ⟨#[120]⟩, ⟨#[49, 49, 49, 49, 49, 49]⟩, ⟨#[45]⟩] _ (hR1.keep ((Below.refl _ _).alloc (Nat.le_refl _) _)) (by omega) (Own.lit w1 _ _ (by omega)) (by simp) (by simp)).mono ?_
    rintro e w2 ⟨v, hv, rfl, hR2, hG2⟩
    have hv6 : v.size ≤ 6 := by simp at hv; rcases hv with rfl | rfl | rfl | rfl <;> decide
    have HG := Lib.hid (grw_trans hG1 (grw_trans (grw_below ((Below.refl _ _).alloc (Nat.le_refl _) _)) hG2))
    have HR := Lib.hid hR2
    have hs : (t ++ v).size = t.size + v.size := ByteArray.size_append
    have HSZ := Lib.hid hs
    clear hv hG1 hG2 hR1 hR2 hs
    go_wp2_with fail
    go_ret
    exact ⟨_, p + 1 + 1, rfl, by rw [HSZ.out]; omega, by rw [HSZ.out]; omega, by omega, HR.out, HG.out⟩
  · have hd : ((k : Int) == 0) = false := by rw [beq_eq_false_iff_ne]; omega
    go_wp2_with fail
    go_ret
    exact ⟨t, p + 1, rfl, h1, by omega, by omega, hR1, hG1⟩

/-- two texts of at most 100 bytes -/
def Drw2 (B : Nat) (w : World) (e : Ending) (w' : World) : Prop := (∃ t u : ByteArray, e = .returned (.tuple #[.string t, .string u]) ∧ t.size ≤ 100 ∧ u.size ≤ 100) ∧ Below B w w'
set_option maxHeartbeats 1000000 in
theorem DrawIsInside_any (A : Option Addr) (n c : Nat) (bs : List Int) (w : World) (hn : n = bs.length) (hnc : n ≤ c) (hc : c ≤ 9223372036854775807) (hr : Hid (Rd w A (bs.map (Value.int .u8)))) (hx : Hid (∀ x ∈ bs, 0 ≤ x ∧ x < 256)) :
    Calls Try.prog 12 #[.slice A n c] w fun e w' => Drw2 w.heap.size w e w' := by
  have HNL := Lib.hid hn
  clear hn
  go_enter Try.func12, Try.ntmps12
  go_wp2_with fail
  refine (l14Open_any _ _ _ _ _ HNL.out hnc hc hr hx).mono ?_
  rintro e w1 ⟨g, rfl, hR, hg, hB1⟩
  go_wp2_with fail
  refine (pick_any g g 0 _ _ hR (by omega) (by omega) (by omega)).mono ?_
  rintro e w2 ⟨n0, rfl, hn0, hR2, hG2⟩
  obtain ⟨m, hm0, hm1, hm5⟩ : ∃ m : Nat, (1 : Int) + (n0 : Int) = (m : Int) ∧ 1 ≤ m ∧ m ≤ 5 := ⟨1 + n0, by omega, by omega, by omega⟩
  have HMW := Lib.hid hm0
  clear hm0
  go_wp2_with fail
  rw [HMW.out]
  refine (l2Term_any g g 1 m _ hR2 (by omega) (by omega)).mono ?_
  rintro e w3 ⟨t, p3, rfl, ht1, ht2, hp3, hR3, hG3⟩
  go_wp2_with fail
  refine (l2Term_any g g p3 m _ hR3 (by omega) (by omega)).mono ?_
  rintro e w4 ⟨u, p4, rfl, hu1, hu2, hp4, hR4, hG4⟩
  go_wp2_with fail
  refine (pick_any g g p4 _ _ hR4 (by omega) (by omega) (by omega)).mono ?_
  rintro e w5 ⟨b, rfl, hb, hR5, hG5⟩
  have HG5 := Lib.hid (grw_trans hG2 (grw_trans hG3 (grw_trans hG4 hG5)))
  clear hG2 hG3 hG4 hG5 hR hR2 hR3 hR4
  by_cases hb0 : b = 0
  · subst hb0
    go_wp2_with fail
    refine (pick_any g g (p4 + 1) _ _ hR5 (by omega) (by omega) (by omega)).mono ?_
    rintro e w6 ⟨k, rfl, hk, hR6, hG6⟩
    have hkt : k < t.size := by omega
    have HR6 := Lib.hid (And.intro hR6 (grw_trans HG5.out hG6))
    clear hR5 hR6 hG6
    have h30 : (0 : Int) ≤ (k : Int) + 1 := by omega
    have h32 : (k : Int) + 1 ≤ (t.size : Int) := by omega
    have h33 : k + 1 ≤ t.size := by omega
    have h35 : k ≤ t.size := by omega
    have h34 : IntKind.i64.wrap ((k : Int) + 1) = (k : Int) + 1 := IntWalk.i64_in _ (by omega)
    have h31 : ((k : Int) + 1).toNat = k + 1 := by omega
    go_wp2_with fail
    go_quiet (fail)
    have hsz : ((t.extract 0 k ++ (⟨#[42]⟩ : ByteArray)) ++ t.extract (k + 1) t.size).size ≤ 5 := by
      rw [ByteArray.size_append, ByteArray.size_append, ByteArray.size_extract, ByteArray.size_extract]
      show min k t.size - 0 + 1 + (min t.size t.size - (k + 1)) ≤ 5
      omega
    have HSZ := Lib.hid hsz
    clear hsz h34 h31
    have HR7 := HR6.out.1.keep (drewN_below w6 nq)
    go_wp2_with fail
    refine (l2Bad_any g g (p4 + 1 + 1) 0 5 t _ HR7 (by omega) (by omega) (by omega) (by omega)).mono ?_
    rintro e w7 ⟨t2, p7, rfl, _, ht7, hp7, hR7, hG7⟩
    go_wp2_with fail
    refine (l2Bad_any g g p7 0 5 _ _ hR7 (by omega) (by omega) (by rw [show (5 : Nat) = 5 from rfl]; exact HSZ.out) (by omega)).mono ?_
    rintro e w8 ⟨u2, p8, rfl, _, hu8, hp8, hR8, hG8⟩
    go_wp2_with fail
    go_ret2
    exact ⟨⟨t2, u2, rfl, by omega, by omega⟩, hB1.trans (Below.of_grown (grw_trans HR6.out.2 (grw_trans (grw_below (drewN_below w6 nq)) (grw_trans hG7 hG8))) hg hB1.size)⟩
  · have hd : ((b : Int) == 0) = false := by rw [beq_eq_false_iff_ne]; omega
    go_wp2_with fail
    refine (l2Bad_any g g (p4 + 1) 0 5 t _ hR5 (by omega) (by omega) (by omega) (by omega)).mono ?_
    rintro e w7 ⟨t2, p7, rfl, _, ht7, hp7, hR7, hG7⟩
    go_wp2_with fail
    refine (l2Bad_any g g p7 0 5 u _ hR7 (by omega) (by omega) (by omega) (by omega)).mono ?_
    rintro e w8 ⟨u2, p8, rfl, _, hu8, hp8, hR8, hG8⟩
    go_wp2_with fail
    go_ret2
    exact ⟨⟨t2, u2, rfl, by omega, by omega⟩, hB1.trans (Below.of_grown (grw_trans HG5.out (grw_trans hG7 hG8)) hg hB1.size)⟩

theorem DrawMeetTerms_any (A : Option Addr) (n c : Nat) (bs : List Int) (w : World) (hn : n = bs.length) (hnc : n ≤ c) (hc : c ≤ 9223372036854775807) (hr : Hid (Rd w A (bs.map (Value.int .u8)))) (hx : Hid (∀ x ∈ bs, 0 ≤ x ∧ x < 256)) :
    Calls Try.prog 4 #[.slice A n c] w fun e w' => Drw2 w.heap.size w e w' := by
  have HNL := Lib.hid hn
  clear hn
  go_enter Try.func4, Try.ntmps4
  go_wp2_with fail
  refine (DrawIsInside_any _ _ _ _ _ HNL.out hnc hc hr hx).mono ?_
  rintro e w1 ⟨⟨t, u, rfl, ht, hu⟩, hB1⟩
  go_wp2_with fail
  go_ret2
  exact ⟨⟨t, u, rfl, ht, hu⟩, hB1⟩

end Go.Proofs.Ytfkdameegljkeaa
