/- The walk of the exact law of RenameNetwork. -/
import Derived.Test.YtpehimjngofnkaaDoorProg
import Derived.WalkKit
import Derived.WalkSpells
import Derived.WalkLawsBesides
import Derived.Lib.Hide
import Derived.Deep.QuietTactic
import Derived.BigQuiet
import Derived.Test.YtpehimjngofnkaaDoorG1
import Derived.Test.YtpehimjngofnkaaDoorR2
namespace Go.Proofs.YtpehimjngofnkaaDoor
open Go.RowKit
set_option linter.unusedVariables false

theorem intL_map (to : List Int) : intL to.length (fun j => if j < to.length then to.getD j 0 else 0) = to.map (Value.int .i64) := by
  apply List.ext_getElem?
  intro j
  by_cases hj : j < to.length
  · rw [intL_get _ hj, if_pos hj, List.getElem?_map, List.getElem?_eq_getElem hj, List.getD_eq_getElem?_getD, List.getElem?_eq_getElem hj]; rfl
  · rw [List.getElem?_eq_none (by rw [intL_length]; omega), List.getElem?_eq_none (by rw [List.length_map]; omega)]
set_option maxHeartbeats 1000000 in
theorem toIntS_any (A : Option Addr) (c : Nat) (to : List Int) (w : World) (hx : Hid (Rd w A (to.map (Value.int .i64)))) (hl : to.length ≤ 1048576) :
    Calls Tryd.prog 43 #[.slice A to.length c] w fun e w' => e = .returned (.slice (some ⟨w.heap.size, 0, none⟩) to.length to.length) ∧ Own w' w.heap.size (some ⟨w.heap.size, 0, none⟩) (to.map (Value.int .i64)) ∧ Below w.heap.size w w' := by
  have hmk := make_row Tryd.underlying22 info_int rfl to.length (by omega) (by omega)
  have HS0 : Hid (Blk (w.alloc (.cells (Array.replicate to.length (.int .i64 0)) 3)) w.heap.size 3 (intL to.length fun j => if j < 0 then to.getD j 0 else 0).toArray) := Lib.hid (by
    have : (fun j : Nat => if j < 0 then to.getD j 0 else 0) = fun _ => 0 := by funext j; simp
    rw [this, intL_zero]; exact Blk.new _ _ _)
  have hBa : Below w.heap.size w (w.alloc (.cells (Array.replicate to.length (.int .i64 0)) 3)) := (Below.refl _ _).alloc (Nat.le_refl _) _
  go_enter Tryd.func43, Tryd.ntmps43
  go_wp2_with fail
  go_loopw [4] (fun q wr => ∃ k : Nat, k ≤ to.length ∧ q = .int .i64 k ∧ Hid (Blk wr w.heap.size 3 (intL to.length fun j => if j < k then to.getD j 0 else 0).toArray) ∧ Below w.heap.size w wr) (fun q _ => to.length - (intOf q).toNat)
  case atStart => exact ⟨0, Nat.zero_le _, rfl, HS0, hBa⟩
  case round =>
    clear HS0 hBa
    obtain ⟨k, hk, rfl, HS, hB⟩ := hrel
    have hsz := hB.size
    by_cases hlt : k < to.length
    · obtain ⟨x, HX⟩ : ∃ x, Hid (to[k]? = some x) := ⟨_, Lib.hid (List.getElem?_eq_getElem hlt)⟩
      obtain ⟨g, off, hA, hcell⟩ := (hx.out.below hB).at_ (k := k) (v := .int .i64 x) (by rw [List.getElem?_map, HX.out]; rfl)
      subst hA
      have hcu : wr.cell? ⟨w.heap.size, k, none⟩ = some (.int .i64 0) := by rw [HS.out.cell, List.getElem?_toArray, intL_get _ hlt, if_neg (by omega)]
      have hfu := HS.out.frozen k
      have HS2 : Hid (Blk (wr.setCell ⟨w.heap.size, k, none⟩ (.int .i64 x)) w.heap.size 3 (intL to.length fun j => if j < k + 1 then to.getD j 0 else 0).toArray) := Lib.hid (by
        have h := HS.out.set_ k (.int .i64 x)
        rw [intL_set] at h
        have e : (fun u : Nat => if u = k then x else if u < k then to.getD u 0 else 0) = fun u => if u < k + 1 then to.getD u 0 else 0 := by
          funext u
          by_cases h1 : u = k
          · rw [if_pos h1, if_pos (by omega), h1, List.getD_eq_getElem?_getD, HX.out]; rfl
          · rw [if_neg h1]
            by_cases h2 : u < k
            · rw [if_pos h2, if_pos (by omega)]
            · rw [if_neg h2, if_neg (by omega)]
        rw [e] at h
        exact h)
      go_wp2_with fail
      go_roundw
      case rel => exact ⟨k + 1, by omega, by go_num, HS2, hB.setCell (by show w.heap.size ≤ w.heap.size; omega) _⟩
      case measure => simp [intOf]; omega
    · have hkn : k = to.length := by omega
      have HS1 : Hid (Own wr w.heap.size (some ⟨w.heap.size, 0, none⟩) (to.map (Value.int .i64))) := Lib.hid (by
        rw [← intL_map]
        have h := HS.out
        rw [hkn] at h
        exact intL_own h (Nat.le_refl _))
      go_wp2_with fail
      go_ret
      exact ⟨rfl, HS1.out, hB⟩

set_option maxHeartbeats 1000000 in
set_option maxRecDepth 100000 in
theorem fnExactRenameNetwork_walk (a0 : ByteArray) (a1 : Option Addr) (len1 cap1 : Nat) (z1 : List Int) (w : World) (hm : Hid (HasM w)) (w0 : a0.size ≤ maxLen) (w1 : IsRow .i64 w a1 len1 cap1 z1) :
    Calls Tryd.prog 10 #[.string a0, .slice a1 len1 cap1] w fun e w' => e = .returned (.bool true) ∧ Below w.heap.size w w' := by
  unfold maxLen at w0
  by_cases h0 : 1048576 < a0.size
  · go_enter Tryd.func10, Tryd.ntmps10
    go_wp2
    go_ret
    exact ⟨rfl, Below.refl _ _⟩
  · by_cases h1 : 1048576 < len1
    · go_enter Tryd.func10, Tryd.ntmps10
      go_wp2
      go_ret
      exact ⟨rfl, Below.refl _ _⟩
    obtain ⟨to, hbl, hrd, hwf, hcap, hmax⟩ := w1.rdk
    subst hbl
    have HRD := Lib.hid hrd
    have hl : to.length ≤ 1048576 := by omega
    obtain ⟨tx, HT⟩ : ∃ tx : ByteArray, Hid (tx = ⟨(renN (cutL a0.data.toList) to).toArray⟩) := ⟨_, Lib.hid rfl⟩
    obtain ⟨q, HQ⟩ : ∃ q, Hid (q = okR (cutL a0.data.toList) to) := ⟨_, Lib.hid rfl⟩
    have hqq : (q != q) = false := by cases q <;> rfl
    have htt := bytes_eqb tx
    clear hrd hwf
    go_enter Tryd.func10, Tryd.ntmps10
    go_wp2_with fail
    refine (toIntS_any a1 cap1 to _ HRD hl).mono ?_
    rintro e W1 ⟨rfl, hO1, hB1⟩
    have hz1 := hB1.size
    go_wp2_with fail
    refine (sRenameNetwork_any a0 _ _ to _ (by omega) (Lib.hid hO1.rd) hl).mono ?_
    rintro e W2 ⟨rfl, hB2⟩
    unfold txtV
    rw [← HT.out, ← HQ.out]
    have hB02 := hB1.trans (hB2.mono hz1)
    have hz2 := hB02.size
    go_wp2_with fail
    refine (toIntS_any a1 cap1 to _ (Lib.hid (HRD.out.below hB02)) hl).mono ?_
    rintro e W3 ⟨rfl, hO3, hB3⟩
    have hB03 := hB02.trans (hB3.mono hz2)
    have hz3 := hB03.size
    go_wp2_with fail
    refine (RenameNetwork_any a0 _ _ to _ (Lib.hid (hm.out.below hB03)) (by omega) (Lib.hid hO3.rd) hl (Nat.le_refl _)).mono ?_
    rintro e W4 ⟨rfl, hB4⟩
    unfold txtV
    rw [← HT.out, ← HQ.out]
    have hB04 := hB03.trans (hB4.mono hz3)
    have hz4 := hB04.size
    go_wp2_with fail
    refine (toIntS_any a1 cap1 to _ (Lib.hid (HRD.out.below hB04)) hl).mono ?_
    rintro e W5 ⟨rfl, hO5, hB5⟩
    have hB05 := hB04.trans (hB5.mono hz4)
    go_wp2_with fail
    refine (eqIntS_any _ _ _ _ to to W5 ((hO3.rd.below hB4).below hB5) hO5.rd (by omega) (by omega)).mono ?_
    rintro e W6 ⟨rfl, n, rfl⟩
    rw [decide_eq_true rfl]
    go_wp2
    go_ret
    exact ⟨rfl, hB05.trans (drewN_below _ _)⟩

end Go.Proofs.YtpehimjngofnkaaDoor
