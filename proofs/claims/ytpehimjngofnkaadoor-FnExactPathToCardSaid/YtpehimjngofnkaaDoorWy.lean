/- Walks of the program's functions on the steps of networks. -/
import Derived.Test.YtpehimjngofnkaaDoorProg
import Derived.WalkKit
import Derived.WalkSpells
import Derived.WalkLawsBesides
import Derived.Lib.Hide
import Derived.Deep.QuietTactic
import Derived.Deep.WholeRow
import Derived.Deep.MidRow
import Derived.BigQuiet
import Derived.Test.YtpehimjngofnkaaDoorWn
import Derived.Test.YtpehimjngofnkaaDoorWx
namespace Go.Proofs.YtpehimjngofnkaaDoor
open Go.RowKit

theorem states_any (A : Option Addr) (n c N : Nat) (w : World) (hn : n ≤ 5) (HN : Hid (N = 2 ^ n)) :
    Calls Tryd.prog 76 #[.slice A n c] w fun e w' => e = .returned (.int .i64 (N : Int)) ∧ w = w' := by
  have hN : wrap64 ((2 : Int) ^ n) = (N : Int) := by
    rw [HN.out, show ((2 : Int) ^ n) = ((2 ^ n : Nat) : Int) by simp]
    exact wrap64_small _ (two_le n hn)
  go_enter Tryd.func76, Tryd.ntmps76
  go_wp2
  simp only [hN]
  go_ret
  exact ⟨rfl, rfl⟩

theorem hold_any (s i v : Nat) (w : World) (hs : s < 32) (hi : i < 5) (hv : v < 2) :
    Calls Tryd.prog 131 #[.int .i64 (s : Int), .int .i64 (i : Int), .int .i64 (v : Int)] w fun e w' => e = .returned (.int .i64 (holdN s i v : Int)) ∧ ∃ n, w.drewN n = w' := by
  have hb := hold_bits s hs i hi v hv
  go_enter Tryd.func131, Tryd.ntmps131
  go_wp2_with fail
  go_quiet (fail)
  go_wp2_with fail
  go_ret
  exact ⟨rfl, _, rfl⟩

theorem netL_range {w : World} {A : Option Addr} {ps : List (List UInt8)} {i : Nat} (h : Rd w A (netL ps)) (hi : i < ps.length) :
    ∃ g off, A = some ⟨g, off, none⟩ ∧ w.rangeAt g (off + i * 33) (tabL ps.length (tv ps.length ps[i])) := by
  have h0 : (netL ps)[33 * i + 0]? = some (.int .i64 (ps.length : Int)) := (netT_get _ ps i 0 hi (by omega)).trans (tabL_n _ _)
  obtain ⟨g, off, rfl, hc⟩ := h.at_ h0
  refine ⟨g, off, rfl, fun j v hj => ?_⟩
  have hj33 : j < 33 := by
    have := (List.getElem?_eq_some_iff.1 hj).1
    rwa [tabL_length] at this
  have := h.cell ((netT_get _ ps i j hi hj33).trans hj)
  rwa [← Nat.add_assoc, Nat.mul_comm] at this
theorem netL_bit {w : World} {A : Option Addr} {ps : List (List UInt8)} {i s : Nat} (h : Rd w A (netL ps)) (hi : i < ps.length) (h5 : ps.length ≤ 5) (hs : s < 2 ^ ps.length) :
    ∃ g off, A = some ⟨g, off, none⟩ ∧ w.cell? ⟨g, off + i * 33 + 1 + s, none⟩ = some (.int .u8 (nb ps s i : Int)) := by
  obtain ⟨g, off, rfl, hr⟩ := netL_range h hi
  have h32 := two_le _ h5
  exact ⟨g, off, rfl, by rw [Nat.add_assoc (off + i * 33)]; exact hr _ _ (by rw [tabL_b _ _ _ (by omega), tv, if_pos hs, nb_at s hi])⟩
set_option maxHeartbeats 400000 in
theorem step_any (A : Option Addr) (c : Nat) (ps : List (List UInt8)) (s : Nat) (w : World) (hx : Hid (Rd w A (netL ps))) (hok : Hid (okN ps = true)) (hs : Hid (s < 2 ^ ps.length)) :
    Calls Tryd.prog 74 #[.slice A ps.length c, .int .i64 (s : Int)] w fun e w' => e = .returned (.int .i64 (stp ps s : Int)) ∧ Below w.heap.size w w' := by
  have hn5 := okN_le hok.out
  have h32 : s < 32 := Nat.lt_of_lt_of_le hs.out (two_le _ hn5)
  unfold stp
  go_enter Tryd.func74, Tryd.ntmps74
  go_wp2
  go_loopw [5, 10] (fun v q wr => ∃ k o : Nat, k ≤ ps.length ∧ q = .int .i64 k ∧ v = .int .i64 o ∧ Hid (o = asm (nb ps s) k) ∧ Below w.heap.size w wr) (fun _ q _ => ps.length - (intOf q).toNat)
  case atStart => exact ⟨0, 0, Nat.zero_le _, rfl, rfl, rfl, Below.refl _ _⟩
  case round =>
    obtain ⟨k, o, hk, rfl, rfl, HO, hB⟩ := hrel
    have hsz := hB.size
    by_cases hlt : k < ps.length
    · obtain ⟨g, off, hA, hr⟩ := netL_range (hx.out.below hB) hlt
      subst hA
      have hob : bits .or .i64 (o : Int) (wrap64 ((nb ps s k : Int) * 2 ^ k)) = ((asm (nb ps s) (k + 1) : Nat) : Int) := by
        rw [HO.out, or_bits k (by omega) _ (asm_lt (nb_lt hok.out s) k) _ (nb_lt hok.out s k)]; rfl
      have hv2 := nb_lt hok.out s k
      have HR := Lib.hid hr
      clear hr
      go_wp2_with (first
        | ((with_reducible refine wpStop (o := ⟨some 14, _, _, _, _, _⟩) ?_); refine ⟨?_⟩; refine wpList_load_mid rfl _ _ rfl g _ rfl (tabL ps.length (tv ps.length ps[k])) _ HR.out Tryd.underlying95 rfl (by rw [tab_size, tabL_length]) ?_)
        | ((with_reducible refine wpStop (o := ⟨some 7, _, _, _, _, _⟩) ?_); refine ⟨?_⟩; refine wpList_alloc_blk rfl _ rfl _ (tab_alloc _) ?_; intro g3 w3 hg3 hb3 hB3)
        | ((with_reducible refine wpStop (o := ⟨none, Op.store 95 _ _, _, _, _, _⟩) ?_); refine ⟨?_⟩; refine wpList_store_blk rfl _ _ _ rfl rfl rfl hb3 (tab_fits _ _) (tab_same _ _ _ _) (tab_all _ _) ?_; intro w4 hb4 ho4; have hB24 : Below wr.heap.size wr w4 := (hB3 _ (Nat.le_refl _)).trans (Below.of_grown ho4 hg3 (hB3 0 (Nat.zero_le _)).size); have hc4 : w4.cell? ⟨g3, 1 + s, none⟩ = some (.int .u8 (nb ps s k : Int)) := by rw [hb4.cell, List.getElem?_toArray, tabL_b _ _ _ h32, tv, if_pos hs.out, nb_at s hlt]))
      go_roundw
      case rel => exact ⟨k + 1, _, by omega, by go_num, rfl, rfl, hB.trans (hB24.mono hsz)⟩
      case measure => simp [intOf]; omega
    · have hkn : k = ps.length := by omega
      subst hkn
      go_wp2
      go_ret
      exact ⟨by rw [← HO.out]; rfl, hB⟩

theorem stepOne_any (A : Option Addr) (c : Nat) (ps : List (List UInt8)) (s i : Nat) (w : World) (hx : Hid (Rd w A (netL ps))) (hok : Hid (okN ps = true)) (hs : Hid (s < 2 ^ ps.length)) (hi : i < ps.length) :
    Calls Tryd.prog 117 #[.slice A ps.length c, .int .i64 (s : Int), .int .i64 (i : Int)] w fun e w' => e = .returned (.int .i64 (stp1 ps s i : Int)) ∧ ∃ n, w.drewN n = w' := by
  have hn5 := okN_le hok.out
  have h32 : s < 32 := Nat.lt_of_lt_of_le hs.out (two_le _ hn5)
  obtain ⟨g, off, hA, hc⟩ := netL_bit hx.out hi hn5 hs.out
  subst hA
  have hv2 := nb_lt hok.out s i
  go_enter Tryd.func117, Tryd.ntmps117
  go_wp2_with fail
  refine (hold_any s i (nb ps s i) _ h32 (by omega) hv2).mono ?_
  rintro e w2 ⟨rfl, n, rfl⟩
  go_wp2
  go_ret
  exact ⟨rfl, _, rfl⟩

theorem next_any (A : Option Addr) (c : Nat) (ps : List (List UInt8)) (s : Nat) (w : World) (hx : Hid (Rd w A (netL ps))) (hok : Hid (okN ps = true)) (hs : Hid (s < 2 ^ ps.length)) :
    Calls Tryd.prog 77 #[.slice A ps.length c, .int .i64 (s : Int)] w fun e w' => RetI w.heap.size (ints (nextN ps s)) e w' ∧ Below w.heap.size w w' := by
  have hn5 := okN_le hok.out
  unfold nextN
  go_enter Tryd.func77, Tryd.ntmps77
  go_wp2
  go_loopw [5, 10] (fun v q wr => ∃ k : Nat, k ≤ ps.length ∧ q = .int .i64 k ∧ Hid (OI wr w.heap.size 3 v (ints (nextTo ps s k))) ∧ Below w.heap.size w wr) (fun _ q _ => ps.length - (intOf q).toNat)
  case atStart => exact ⟨0, Nat.zero_le _, rfl, Lib.hid (OI.nil _ _ _), Below.refl _ _⟩
  case round =>
    obtain ⟨k, hk, rfl, HO, hB⟩ := hrel
    have hsz := hB.size
    have HR := Lib.hid (hx.out.below hB)
    have hlen : (ints (nextTo ps s k)).length ≤ k := by rw [ints_length]; exact nextTo_len _ _ _
    by_cases hlt : k < ps.length
    · by_cases he : stp1 ps s k = s
      · have HE := Lib.hid (nextTo_no he)
        have hd : ((stp1 ps s k : Int) != (s : Int)) = false := by rw [he]; exact bne_self_eq_false _
        clear he
        go_wp2_with (go_at_call 117; refine (stepOne_any _ _ _ _ _ _ HR hok hs hlt).mono ?_; rintro e w2 ⟨rfl, n, rfl⟩)
        go_roundw
        case rel => exact ⟨k + 1, by omega, by go_num, Lib.hid (by rw [HE.out]; exact HO.out.drewN n), below_drewN hB _⟩
        case measure => simp [intOf]; omega
      · have HE := Lib.hid (nextTo_yes he)
        have hd : ((stp1 ps s k : Int) != (s : Int)) = true := by simp; omega
        clear he
        go_wp2_with (first
          | (go_at_call 117; refine (stepOne_any _ _ _ _ _ _ HR hok hs hlt).mono ?_; rintro e w2 ⟨rfl, n, rfl⟩)
          | (at_builtin; refine wp_pushI rfl _ _ _ rfl Tryd.underlying22 info_int (HO.out.drewN n) rfl rfl (by omega) hsz ?_; intro v' w3 hown hbel hsz3))
        go_roundw
        case rel => exact ⟨k + 1, by omega, by go_num, Lib.hid (by rw [HE.out]; exact hown), (below_drewN hB _).trans (hbel _ (Nat.le_refl _))⟩
        case measure => simp [intOf]; omega
    · have hkn : k = ps.length := by omega
      subst hkn
      go_wp2_with (go_at_call 69; refine (clip_any _ _ _ _ _ HO.out).mono ?_; rintro e w2 ⟨⟨A', c', rfl, hc, hO⟩, rfl⟩)
      go_ret
      exact ⟨⟨A', c', rfl, hc, hO⟩, hB⟩

/-- what the reading of a network and a state hands back -/
def NetS (B : Nat) (ps : List (List UInt8)) (t : Int) (e : Ending) (w' : World) : Prop :=
  ∃ A k c, e = .returned (.tuple #[.slice A k c, .bool (okSt ps t)]) ∧ (okSt ps t = true → k = ps.length ∧ ps.length ≤ c ∧ Own w' B A (netL ps))
theorem stateOf_any (s : ByteArray) (t : Int) (w : World) (hm : Hid (HasM w)) (hs : s.size ≤ 1073741824) :
    Calls Tryd.prog 68 #[.string s, .int .i64 t] w fun e w' => NetS w.heap.size (cutL s.data.toList) t e w' ∧ Below w.heap.size w w' := by
  obtain ⟨ps, HPS⟩ : ∃ ps, Hid (ps = cutL s.data.toList) := ⟨_, rfl⟩
  rw [← HPS.out]
  by_cases h : okN ps = true
  · obtain ⟨N, HN, hN, hN32, hN0⟩ := wrap_two ps.length (okN_le h)
    have hn5 := okN_le h
    have HOK := Lib.hid h
    by_cases h0 : 0 ≤ t
    · have HST : Hid (okSt ps t = decide (t < (N : Int))) := Lib.hid (by rw [okSt_of h HN.out, Bool.eq_iff_iff]; simp; omega)
      clear h
      go_enter Tryd.func68, Tryd.ntmps68
      go_wp2_with fail
      refine (readNetwork_any s w hm hs).mono ?_
      rintro e w1 ⟨⟨A, k, c, rfl, himp⟩, hB1⟩
      rw [← HPS.out] at himp ⊢
      obtain ⟨rfl, hc, hO⟩ := himp HOK.out
      rw [HOK.out]
      have HO := Lib.hid hO
      clear hO himp
      go_wp2_with fail
      refine (states_any _ _ _ N _ hn5 HN).mono ?_
      rintro e w2 ⟨rfl, rfl⟩
      go_wp2
      go_ret2
      exact ⟨⟨_, _, _, by rw [HST.out]; rfl, fun _ => ⟨rfl, hc, HO.out⟩⟩, hB1⟩
    · have HST : Hid (okSt ps t = false) := Lib.hid (by rw [okSt_of h HN.out, decide_eq_false h0, Bool.false_and])
      clear h
      go_enter Tryd.func68, Tryd.ntmps68
      go_wp2_with fail
      refine (readNetwork_any s w hm hs).mono ?_
      rintro e w1 ⟨⟨A, k, c, rfl, himp⟩, hB1⟩
      clear himp
      rw [← HPS.out, HOK.out]
      go_wp2
      go_ret2
      exact ⟨⟨_, _, _, by rw [HST.out]; rfl, fun h => by rw [HST.out] at h; cases h⟩, hB1⟩
  · have h' : okN ps = false := by simpa using h
    have HST := Lib.hid (okSt_no (t := t) h')
    have HOK := Lib.hid h'
    clear h h'
    go_enter Tryd.func68, Tryd.ntmps68
    go_wp2_with fail
    refine (readNetwork_any s w hm hs).mono ?_
    rintro e w1 ⟨⟨A, k, c, rfl, himp⟩, hB1⟩
    clear himp
    rw [← HPS.out, HOK.out]
    go_wp2
    go_ret2
    exact ⟨⟨_, _, _, by rw [HST.out]; rfl, fun h => by rw [HST.out] at h; cases h⟩, hB1⟩

end Go.Proofs.YtpehimjngofnkaaDoor
