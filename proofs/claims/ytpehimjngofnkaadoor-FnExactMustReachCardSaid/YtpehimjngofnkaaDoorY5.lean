/- Walks: draws of networks; only their sizes are told, and that nothing but the source's own block changes. -/
import Derived.Test.YtpehimjngofnkaaDoorProg
import Derived.WalkKit
import Derived.WalkSpells
import Derived.WalkLawsBesides
import Derived.Lib.Hide
import Derived.Deep.QuietTactic
import Derived.Deep.RegionWith
import Derived.BigQuiet
import Derived.Test.YtpehimjngofnkaaDoorWd
import Derived.Test.YtpehimjngofnkaaDoorY9
namespace Go.Proofs.YtpehimjngofnkaaDoor
open Go.RowKit
set_option linter.unusedVariables false

theorem grn_trans {a b c : World} {g : Nat} (h : a.grownBy b (some g)) (k : b.grownBy c (some g)) : a.grownBy c (some g) :=
  ⟨k.os.trans h.os, k.tape.trans h.tape, k.output.trans h.output, Nat.le_trans h.size k.size, fun i hi hne => (k.block i (Nat.lt_of_lt_of_le hi h.size) hne).trans (h.block i hi hne)⟩
theorem grn_below {a b : World} {g : Nat} (h : Below a.heap.size a b) : a.grownBy b (some g) := ⟨h.os, h.tape, h.output, h.size, fun i hi _ => h.block i hi⟩
theorem grn_bel {a b c : World} {g : Nat} (h : a.grownBy b (some g)) (k : Below a.heap.size b c) : a.grownBy c (some g) :=
  ⟨k.os.trans h.os, k.tape.trans h.tape, k.output.trans h.output, Nat.le_trans h.size k.size, fun i hi hne => (k.block i hi).trans (h.block i hi hne)⟩
theorem OS.only {w w' : World} {B g : Nat} {e : TypeId} {v : Value} {ps : List (List UInt8)} (h : OS w B e v ps) (hg : g < B) (hw : w.grownBy w' (some g)) : OS w' B e v ps := by
  exact World.ownsRow.kept h hw (by
    rcases h.2 with ⟨rfl, _⟩ | ⟨g', cap, cur, rfl, hB, _⟩
    · exact .inl rfl
    · refine .inr ?_
      simp only [Value.ownBlock, ne_eq, Option.some.injEq]
      omega)
theorem ints_snoc (vs : List Nat) (u : Nat) : ints (vs ++ [u]) = ints vs ++ [(u : Int)] := by rw [ints_append]; rfl
/-- two numbers 0 or 1 -/
theorem xor2 {a b : Nat} (ha : a < 2) (hb : b < 2) : ∃ x : Nat, x < 2 ∧ bits .xor .i64 (a : Int) (b : Int) = (x : Int) := by
  rcases (show a = 0 ∨ a = 1 by omega) with rfl | rfl <;> rcases (show b = 0 ∨ b = 1 by omega) with rfl | rfl <;>
  first | exact ⟨0, by omega, by decide +kernel⟩ | exact ⟨1, by omega, by decide +kernel⟩
theorem and2 {a b : Nat} (ha : a < 2) (hb : b < 2) : ∃ x : Nat, x < 2 ∧ bits .and .i64 (a : Int) (b : Int) = (x : Int) := by
  rcases (show a = 0 ∨ a = 1 by omega) with rfl | rfl <;> rcases (show b = 0 ∨ b = 1 by omega) with rfl | rfl <;>
  first | exact ⟨0, by omega, by decide +kernel⟩ | exact ⟨1, by omega, by decide +kernel⟩
theorem or2 {a b : Nat} (ha : a < 2) (hb : b < 2) : ∃ x : Nat, x < 2 ∧ bits .or .i64 (a : Int) (b : Int) = (x : Int) := by
  rcases (show a = 0 ∨ a = 1 by omega) with rfl | rfl <;> rcases (show b = 0 ∨ b = 1 by omega) with rfl | rfl <;>
  first | exact ⟨0, by omega, by decide +kernel⟩ | exact ⟨1, by omega, by decide +kernel⟩
/-- a text has been drawn -/
def TxtP (w : World) (B g p lo hi q : Nat) (e : Ending) (w' : World) : Prop :=
  ∃ (t : List UInt8) (p2 : Nat), e = .returned (.string ⟨t.toArray⟩) ∧ lo ≤ t.length ∧ t.length ≤ hi ∧ p2 ≤ p + q ∧ Rdr w' B g p2 ∧ w.grownBy w' (some g)

theorem l1Text_ints (A : Option Addr) (c : Nat) (xs : List Nat) (w : World) (hx : Rd w A ((ints xs).map (Value.int .i64))) (hb : ∀ x ∈ xs, x < 2) (hl : xs.length ≤ 1000000) :
    Calls Tryd.prog 85 #[.slice A (ints xs).length c] w fun e w' => e = .returned (.string ⟨(chrs xs).toArray⟩) ∧ ∃ n, w.drewN n = w' := by
  rw [ints_length]
  exact l1Text_any A c xs w (Lib.hid hx) (Lib.hid hb) hl

set_option maxHeartbeats 2000000 in
set_option maxRecDepth 100000 in
theorem l1Draw_any (B g p n : Nat) (w : World) (h : Rdr w B g p) (hp : p ≤ 1000000) (hn1 : 1 ≤ n) (hn5 : n ≤ 5) :
    Calls Tryd.prog 96 #[.pointer (some ⟨g, 0, none⟩), .int .i64 (n : Int)] w fun e w' => TxtP w B g p 1 32 40 e w' := by
  obtain ⟨N, HN, hNw, hN32, hN0⟩ := wrap_two n hn5
  have hgl := h.lt.2
  have h0 := h.keep ((Below.refl _ _).alloc (Nat.le_refl _) (.cells #[] 3))
  have hE := OI.empty w w.heap.size 3 (Nat.le_refl _)
  have hG0 : w.grownBy (w.alloc (.cells #[] 3)) (some g) := grn_below ((Below.refl _ _).alloc (Nat.le_refl _) _)
  go_enter Tryd.func96, Tryd.ntmps96
  go_wp2_with fail
  refine (pick_any B g p _ _ h0 (by omega) (by omega) (by omega)).mono ?_
  rintro e w1 ⟨a, rfl, ha, hR1, hG1⟩
  go_wp2_with fail
  refine (pick_any B g (p + 1) _ _ hR1 (by omega) (by omega) (by omega)).mono ?_
  rintro e w2 ⟨b, rfl, hb, hR2, hG2⟩
  go_wp2_with fail
  refine (pick_any B g (p + 1 + 1) _ _ hR2 (by omega) (by omega) (by omega)).mono ?_
  rintro e w3 ⟨kind, rfl, hkd, hR3, hG3⟩
  go_wp2_with fail
  refine (pick_any B g (p + 1 + 1 + 1) _ _ hR3 (by omega) (by omega) (by omega)).mono ?_
  rintro e w4 ⟨sg, rfl, hsg, hR4, hG4⟩
  have HO4 := Lib.hid ((((hE.only hgl hG1).only hgl hG2).only hgl hG3).only hgl hG4)
  have HG4 := Lib.hid (grn_trans (grn_trans (grn_trans (grn_trans hG0 hG1) hG2) hG3) hG4)
  have HR4 := Lib.hid hR4
  have ha5 : a < 5 := by omega
  have hb5 : b < 5 := by omega
  have hsg2 : sg < 2 := by omega
  clear hG0 hG1 hG2 hG3 hG4 hR1 hR2 hR3 hR4 hE h0 ha hb hsg
  have hkk : kind = 0 ∨ kind = 1 ∨ kind = 2 ∨ kind = 3 ∨ kind = 4 ∨ 5 ≤ kind := by omega
  rcases hkk with rfl | rfl | rfl | rfl | rfl | hk5
  all_goals
    go_wp2_with fail
    go_loopw [5, 10] (fun v q wr => ∃ (k p' : Nat) (vs : List Nat), k ≤ N ∧ q = .int .i64 k ∧ Hid (vs.length = k) ∧ p' ≤ p + 4 + k ∧ Hid (OI wr w.heap.size 3 v (ints vs) ∧ ∀ x ∈ vs, x < 2) ∧ Hid (Rdr wr B g p' ∧ w.grownBy wr (some g))) (fun _ q _ => N - (intOf q).toNat)
    case atStart => exact ⟨0, _, [], Nat.zero_le _, rfl, rfl, by omega, Lib.hid ⟨HO4.out, by simp⟩, Lib.hid ⟨HR4.out, HG4.out⟩⟩
  all_goals
    obtain ⟨k, p', vs, hk, rfl, HL, hp', HO, HR⟩ := hrel
    have hvl : (ints vs).length ≤ 32 := by rw [ints_length, HL.out]; omega
    have hszw : w.heap.size ≤ wr.heap.size := HR.out.2.size
    by_cases hlt : k < N
    · obtain ⟨x, hx2, e1⟩ := xor2 (bit_lt k a) hsg2
      have hy2 := bit_lt k b
      obtain ⟨v1, hv1, e2⟩ := and2 hx2 hy2
      obtain ⟨v2, hv2, e3⟩ := or2 hx2 hy2
      obtain ⟨v3, hv3, e4⟩ := xor2 hx2 hy2
      go_wp2_with (first
        | (go_at_call 118; refine (l1Bit_any _ _ _ (by omega) (by omega)).mono ?_; rintro e w5 ⟨rfl, rfl⟩)
        | (go_at_call 116; refine (pick_any B g p' _ _ HR.out.1 (by omega) (by omega) (by omega)).mono ?_; rintro e w6 ⟨v5, rfl, hv5, hR6, hG6⟩; have hsz6 : w.heap.size ≤ w6.heap.size := Nat.le_trans hszw hG6.size; have hv52 : v5 < 2 := by omega)
        | (at_builtin; refine wp_pushI rfl _ _ _ rfl Tryd.underlying22 info_int (by first | exact HO.out.1 | exact HO.out.1.only hgl hG6) rfl rfl (by omega) (by omega) ?_; intro v' w7 hown hbel hsz7))
      have hP1 : p' ≤ p + 4 + (k + 1) := by omega
      have hK1 : k + 1 ≤ N := by omega
      have hall : ∀ u : Nat, u < 2 → ∀ x ∈ vs ++ [u], x < 2 := fun u hu x hx => by
        rcases List.mem_append.1 hx with hx | hx
        · exact HO.out.2 x hx
        · simp at hx; rw [hx]; exact hu
      have hlen : ∀ u : Nat, (vs ++ [u]).length = k + 1 := fun u => by rw [List.length_append, HL.out]; rfl
      have hRG : ∃ p7, p7 ≤ p + 4 + (k + 1) ∧ Rdr w7 B g p7 ∧ w.grownBy w7 (some g) := by
        first
          | exact ⟨p' + 1, by omega, hR6.keepB (hbel (g + 1) hgl), grn_bel (grn_trans HR.out.2 hG6) (hbel _ (Nat.le_refl _))⟩
          | exact ⟨p', hP1, HR.out.1.keepB (hbel (g + 1) hgl), grn_bel HR.out.2 (hbel _ (Nat.le_refl _))⟩
      have hU : ∃ u : Nat, u < 2 ∧ OI w7 w.heap.size 3 v' (ints (vs ++ [u])) := by
        simp only [ints_snoc]
        first
          | exact ⟨v5, hv52, by with_reducible exact hown⟩
          | exact ⟨x, hx2, by with_reducible exact hown⟩
          | exact ⟨v1, hv1, by with_reducible exact hown⟩
          | exact ⟨v2, hv2, by with_reducible exact hown⟩
          | exact ⟨v3, hv3, by with_reducible exact hown⟩
          | exact ⟨sg, hsg2, by with_reducible exact hown⟩
      obtain ⟨p7, hp7, hR7, hG7⟩ := hRG
      obtain ⟨u, hu2, hO7⟩ := hU
      have HF := Lib.hid (And.intro (And.intro hO7 (hall u hu2)) (And.intro hR7 hG7))
      have HLU := Lib.hid (hlen u)
      clear hall hlen hR7 hG7 hO7 hown hbel
      go_roundw
      case rel => exact ⟨k + 1, p7, vs ++ [u], hK1, by go_num, HLU, hp7, Lib.hid HF.out.1, Lib.hid HF.out.2⟩
      case measure => simp [intOf]; omega
    · have hkn : k = N := by omega
      subst hkn
      have hlen : (chrs vs).length = k := by rw [chrs_length]; exact HL.out
      have HL2 := Lib.hid hlen
      clear hlen
      obtain ⟨A', c', rfl, hc', hO'⟩ := HO.out.1.form
      have HFI : Hid ((1 ≤ (chrs vs).length ∧ (chrs vs).length ≤ 32) ∧ p' ≤ p + 40) := Lib.hid ⟨⟨by rw [HL2.out]; exact hN0, by rw [HL2.out]; exact hN32⟩, Nat.le_trans hp' (by clear hNw; omega)⟩
      have HFR : Hid (∀ n5 : Nat, Rdr (wr.drewN n5) B g p' ∧ w.grownBy (wr.drewN n5) (some g)) := Lib.hid (fun n5 => ⟨HR.out.1.keep (drewN_below _ _), grn_bel HR.out.2 (drewN_below _ _)⟩)
      have hk6 : k ≤ 1000000 := Nat.le_trans hN32 (by decide)
      have HT1 := Lib.hid (l1Text_ints A' c' vs wr hO'.rd HO.out.2 (by rw [HL.out]; exact hk6))
      clear hO'
      go_wp2_with (go_at_call 85; refine HT1.out.mono ?_; rintro e w5 ⟨rfl, n5, rfl⟩)
      go_ret
      exact ⟨chrs vs, p', rfl, HFI.out.1.1, HFI.out.1.2, HFI.out.2, (HFR.out n5).1, (HFR.out n5).2⟩

theorem joinN_pos {ps : List (List UInt8)} (hp : ∀ p ∈ ps, 1 ≤ p.length) : ∀ k, 1 ≤ k → k ≤ ps.length → 1 ≤ (joinN (ps.take k)).length := by
  intro k h1 hk
  obtain ⟨j, rfl⟩ : ∃ j, k = j + 1 := ⟨k - 1, by omega⟩
  by_cases h0 : j = 0
  · subst h0
    rw [joinN_one (by omega)]
    exact hp _ (List.getElem_mem _)
  · rw [joinN_succ (by omega) h0]
    simp only [List.length_append, List.length_cons, List.length_nil]
    omega

set_option maxHeartbeats 1000000 in
set_option maxRecDepth 100000 in
theorem l3Draw_any (B g p n : Nat) (w : World) (h : Rdr w B g p) (hp : p ≤ 900000) (hn1 : 1 ≤ n) (hn5 : n ≤ 5) :
    Calls Tryd.prog 114 #[.pointer (some ⟨g, 0, none⟩), .int .i64 (n : Int)] w fun e w' => TxtP w B g p 1 165 200 e w' := by
  have hgl := h.lt.2
  have h0 := Lib.hid (h.keep ((Below.refl _ _).alloc (Nat.le_refl _) (.cells #[] 9)))
  have hE := Lib.hid (OS.empty w w.heap.size 9 (Nat.le_refl _))
  have hG0 : Hid (w.grownBy (w.alloc (.cells #[] 9)) (some g)) := Lib.hid (grn_below ((Below.refl _ _).alloc (Nat.le_refl _) _))
  go_enter Tryd.func114, Tryd.ntmps114
  go_wp2_with fail
  go_loopw [5, 6] (fun v q wr => ∃ (k p' : Nat) (ps : List (List UInt8)), k ≤ n ∧ q = .int .i64 k ∧ Hid (ps.length = k) ∧ p' ≤ p + 40 * k ∧ Hid (OS wr w.heap.size 9 v ps ∧ ∀ x ∈ ps, 1 ≤ x.length ∧ x.length ≤ 32) ∧ Hid (Rdr wr B g p' ∧ w.grownBy wr (some g))) (fun _ q _ => n - (intOf q).toNat)
  case atStart => exact ⟨0, _, [], Nat.zero_le _, rfl, rfl, by omega, Lib.hid ⟨hE.out, by simp⟩, Lib.hid ⟨h0.out, hG0.out⟩⟩
  case round =>
    obtain ⟨k, p', ps, hk, rfl, HL, hp', HO, HR⟩ := hrel
    have hvl : ps.length ≤ 5 := by rw [HL.out]; omega
    have hszw : w.heap.size ≤ wr.heap.size := HR.out.2.size
    by_cases hlt : k < n
    · go_wp2_with (first
        | (go_at_call 96; refine (l1Draw_any B g p' n _ HR.out.1 (by omega) hn1 hn5).mono ?_; rintro e w6 ⟨t, p6, rfl, ht1, ht2, hp6, hR6, hG6⟩; have hsz6 : w.heap.size ≤ w6.heap.size := Nat.le_trans hszw hG6.size)
        | (at_builtin; refine wp_pushS rfl _ _ _ rfl Tryd.underlying65 info_str (HO.out.1.only hgl hG6) rfl rfl (by omega) (by omega) ?_; intro v' w7 hown hbel hsz7))
      go_roundw
      case rel => exact ⟨k + 1, p6, ps ++ [t], by omega, by go_num, Lib.hid (by rw [List.length_append, HL.out]; rfl), by omega, Lib.hid ⟨hown, fun x hx => by
        rcases List.mem_append.1 hx with hx | hx
        · exact HO.out.2 x hx
        · simp at hx; rw [hx]; exact ⟨ht1, ht2⟩⟩, Lib.hid ⟨hR6.keepB (hbel (g + 1) hgl), grn_bel (grn_trans HR.out.2 hG6) (hbel _ (Nat.le_refl _))⟩⟩
      case measure => simp [intOf]; omega
    · have hkn : k = n := by omega
      subst hkn
      obtain ⟨A', c', rfl, hc', hO'⟩ := HO.out.1.form
      have hle := joinN_len (M := 32) (fun x hx => (HO.out.2 x hx).2) ps.length (Nat.le_refl _)
      have hge := joinN_pos (fun x hx => (HO.out.2 x hx).1) ps.length (by rw [HL.out]; exact hn1) (Nat.le_refl _)
      rw [List.take_length] at hle hge
      have HT1 := Lib.hid (l3Text_any A' c' ps wr (Lib.hid hO'.rd) (Lib.hid (fun x hx => Nat.le_trans (HO.out.2 x hx).2 (by omega))) (by omega))
      clear hO'
      go_wp2_with (go_at_call 86; refine HT1.out.mono ?_; rintro e w5 ⟨rfl, rfl⟩)
      go_ret
      exact ⟨joinN ps, p', rfl, hge, by omega, by omega, HR.out.1, HR.out.2⟩

theorem l3Some_any (B g p : Nat) (w : World) (h : Rdr w B g p) (hp : p ≤ 800000) :
    Calls Tryd.prog 124 #[.pointer (some ⟨g, 0, none⟩)] w fun e w' => TxtP w B g p 1 165 300 e w' := by
  have hgl := h.lt.2
  go_enter Tryd.func124, Tryd.ntmps124
  go_wp2_with fail
  refine (num_any B g p 6 _ [3, 2, 3, 1, 4, 3] _ (h.keep ((Below.refl _ _).alloc (Nat.le_refl _) _)) (by omega) (Own.lit w _ _ (by omega)) (by simp) (by simp)).mono ?_
  rintro e w2 ⟨n0, hn0, rfl, hR2, hG2⟩
  obtain ⟨n, rfl, hn1, hn5⟩ : ∃ n : Nat, n0 = (n : Int) ∧ 1 ≤ n ∧ n ≤ 5 := ⟨n0.toNat, by simp at hn0; omega, by simp at hn0; omega, by simp at hn0; omega⟩
  have HG := Lib.hid (grn_trans (grn_below ((Below.refl _ _).alloc (Nat.le_refl _) _)) hG2)
  clear hn0 hG2
  go_wp2_with fail
  refine (l3Draw_any B g (p + 1) n _ hR2 (by omega) hn1 hn5).mono ?_
  rintro e w3 ⟨t, p3, rfl, ht1, ht2, hp3, hR3, hG3⟩
  go_wp2
  go_ret
  exact ⟨t, p3, rfl, ht1, ht2, by omega, hR3, grn_trans HG.out hG3⟩

end Go.Proofs.YtpehimjngofnkaaDoor
