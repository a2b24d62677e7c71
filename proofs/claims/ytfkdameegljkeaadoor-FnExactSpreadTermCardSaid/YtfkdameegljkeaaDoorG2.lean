/- Walks and plain facts, joined: Wb Wv Wn Wx Wy Wu Wm Y1 Y7 Mo Mk Mv Mw Y8. -/
import Derived.Test.YtfkdameegljkeaaDoorProg
import Derived.WalkKit
import Derived.WalkSpells
import Derived.WalkLawsBesides
import Derived.Lib.Hide
import Derived.Deep.QuietTactic
import Derived.Deep.WholeRow
import Derived.Deep.MidRow
import Derived.BigQuiet
import Derived.Test.YtfkdameegljkeaaDoorG1
import Derived.Test.YtfkdameegljkeaaDoorSh
import Derived.Deep.RegionHeld3
import Derived.Lib.Slices
import Derived.Lib.Join
/- Walks of the functions on tables. -/
namespace Go.Proofs.YtfkdameegljkeaaDoor
open Go.RowKit
set_option linter.unusedVariables false

/-- the cells of a table: how many inputs, and the values of 32 states -/
def tabL (n : Nat) (b : Nat → Nat) : List Value := .int .i64 (n : Int) :: (List.range 32).map fun s => .int .u8 (b s : Int)
theorem tabL_length (n : Nat) (b : Nat → Nat) : (tabL n b).length = 33 := by simp [tabL]
theorem tabL_n (n : Nat) (b : Nat → Nat) : (tabL n b)[0]? = some (.int .i64 (n : Int)) := rfl
theorem tabL_b (n : Nat) (b : Nat → Nat) (s : Nat) (h : s < 32) : (tabL n b)[1 + s]? = some (.int .u8 (b s : Int)) := by
  rw [tabL, Nat.add_comm, List.getElem?_cons_succ, List.getElem?_map, List.getElem?_range h]; rfl

def zeroB (_ : Nat) : Nat := 0
theorem tab_size : (Tryd.prog.info? 74).map (fun i => i.size) = some 33 := by kernel_rfl
theorem tab_alloc (W : World) : (Instr.alloc 74 true (.tuple #[])).run Tryd.prog W = .ok (.pointer (some ⟨W.heap.size, 0, none⟩)) (W.alloc (.cells (tabL 0 zeroB).toArray 74)) := by kernel_rfl
theorem tab_fits (n : Nat) (b : Nat → Nat) : (Tryd.prog.info? 74).map (fun i => i.size) = some (tabL n b).toArray.size := by rw [tab_size, List.size_toArray, tabL_length]
theorem tab_same (n m : Nat) (b c : Nat → Nat) : (tabL n b).toArray.size = (tabL m c).toArray.size := by rw [List.size_toArray, List.size_toArray, tabL_length, tabL_length]
theorem tab_build (n : Nat) (W : World) : (Instr.build 74 #[(0, .int .i64 (n : Int))]).run Tryd.prog W = .ok (.agg (tabL n zeroB).toArray) W := by kernel_rfl
theorem tab_build0 (W : World) : (Instr.build 74 #[]).run Tryd.prog W = .ok (.agg (tabL 0 zeroB).toArray) W := by kernel_rfl

theorem width_any (n N : Nat) (b : Nat → Nat) (w : World) (hn : n ≤ 5) (HN : Hid (N = 2 ^ n)) :
    Calls Tryd.prog 83 #[.agg (tabL n b).toArray] w fun e w' => e = .returned (.int .i64 (N : Int)) ∧ Below w.heap.size w w' := by
  have hN : wrap64 ((2 : Int) ^ n) = (N : Int) := by
    rw [HN.out, show ((2 : Int) ^ n) = ((2 ^ n : Nat) : Int) by simp]
    exact wrap64_small _ (two_le n hn)
  have hc : (w.alloc (.cells (tabL n b).toArray 74)).cell? ⟨w.heap.size, 0, none⟩ = some (.int .i64 (n : Int)) := by rw [cell_new]; simp [tabL]
  go_enter Tryd.func83, Tryd.ntmps83
  go_wp2
  simp only [hN]
  go_ret
  exact ⟨rfl, (Below.refl _ _).alloc (Nat.le_refl _) _⟩

/-- calling the closure at a state gives a byte, and writes nothing that was there -/
def Clo (w : World) (N F : Nat) (caps : Array Value) (b : Nat → Nat) : Prop :=
  ∀ (s : Nat) (w1 : World), s < N → Below w.heap.size w w1 → Calls Tryd.prog F (#[.int .i64 (s : Int)] ++ caps) w1 fun e w2 => e = .returned (.int .u8 (b s : Int)) ∧ Below w1.heap.size w1 w2
theorem tabL_one (n : Nat) (b : Nat → Nat) : ∀ v ∈ tabL n b, v.oneCell' = true := by
  intro v hv
  simp only [tabL, List.mem_cons, List.mem_map] at hv
  rcases hv with rfl | ⟨_, _, rfl⟩ <;> rfl
theorem tab_all (n : Nat) (b : Nat → Nat) : (tabL n b).toArray.all (·.oneCell') = true := all_oneCell_toArray (tabL_one n b)
theorem tab_set (n : Nat) (b : Nat → Nat) (k v : Nat) (h : k < 32) : (tabL n b).toArray.setIfInBounds (1 + k) (.int .u8 (v : Int)) = (tabL n fun s => if s = k then v else b s).toArray := by
  apply Array.ext'
  rw [Array.toList_setIfInBounds]
  apply List.ext_getElem?
  intro j
  rw [List.getElem?_set]
  cases j with
  | zero => rw [if_neg (by omega)]; rfl
  | succ j =>
    simp only [tabL, List.getElem?_cons_succ, List.getElem?_map, List.length_cons, List.length_map, List.length_range]
    by_cases hj : j < 32
    · rw [List.getElem?_range hj]
      by_cases e : k = j
      · subst e; rw [if_pos (by omega), if_pos (by omega)]; simp
      · rw [if_neg (by omega)]; simp [Ne.symm e]
    · rw [if_neg (by omega), List.getElem?_eq_none (by simpa using hj)]; rfl
theorem tabL_congr (n : Nat) (b c : Nat → Nat) (h : ∀ s, s < 32 → b s = c s) : tabL n b = tabL n c := by
  unfold tabL
  congr 1
  apply List.map_congr_left
  intro s hs
  rw [h s (by simpa using hs)]
set_option maxHeartbeats 400000 in
theorem each_any (n F : Nat) (caps : Array Value) (b : Nat → Nat) (w : World) (hn : n ≤ 5) (hF : ∀ (args : Array Value) (W : World), (callFunc F args).run Tryd.prog W = .ok (.enter F args) W) (hC : Hid (Clo w (2 ^ n) F caps b)) :
    Calls Tryd.prog 51 #[.int .i64 (n : Int), .func (.func F) #[] caps] w fun e w' => e = .returned (.agg (tabL n fun s => if s < 2 ^ n then b s else 0).toArray) ∧ Below w.heap.size w w' := by
  obtain ⟨N, HN, hN2⟩ : ∃ N : Nat, Hid (N = 2 ^ n) ∧ N ≤ 32 := ⟨2 ^ n, rfl, two_le n hn⟩
  rw [← HN.out] at hC ⊢
  go_enter Tryd.func51, Tryd.ntmps51
  go_wp2_with (first
    | ((with_reducible refine wpStop (o := ⟨some 4, _, _, _, _, _⟩) ?_); refine ⟨?_⟩; refine wpList_alloc_blk rfl _ rfl _ (tab_alloc _) ?_; intro g0 w1 hg0 hb0 hB1)
    | ((with_reducible refine wpStop (o := ⟨some 8, _, _, _, _, _⟩) ?_); refine ⟨?_⟩; refine wpList_build_as rfl _ _ rfl [(0, .int .i64 (n : Int))] rfl _ (tab_build _ _) ?_)
    | ((with_reducible refine wpStop (o := ⟨some 5, _, _, _, _, _⟩) ?_); refine ⟨?_⟩; refine wpList_alloc_blk rfl _ rfl _ (tab_alloc _) ?_; intro g1 w2 hg1 hb1 hB2)
    | ((with_reducible refine wpStop (o := ⟨none, Op.store 74 _ _, _, _, _, _⟩) ?_); refine ⟨?_⟩; refine wpList_store_blk rfl _ _ _ rfl rfl rfl hb1 (tab_fits _ _) (tab_same _ _ _ _) (tab_all _ _) ?_; intro w3 hb2 ho3)
    | ((with_reducible refine wpStop (o := ⟨some 9, _, _, _, _, _⟩) ?_); refine ⟨?_⟩; refine wpList_load_blk rfl _ _ rfl rfl hb2 Tryd.underlying74 rfl (tab_fits _ _) ?_)
    | (go_at_call 83; refine (width_any _ N _ _ hn HN).mono ?_; rintro e w4 ⟨rfl, hB4⟩))
  have hl0 := hb0.lt
  have hl1 := hb1.lt
  have hz3 := ho3.size
  have hBw : Below w.heap.size w w4 := ((hB1 _ (Nat.le_refl _)).trans (hB2 _ (by omega))).trans ((Below.of_grown ho3 (by omega) (by omega)).trans (hB4.mono (by omega)))
  have HT := Lib.hid (hb2.keep hB4)
  have H0 := Lib.hid (((hb0.below (hB2 _ (Nat.le_refl _)) hl0).only ho3 (by omega)).keep hB4)
  clear hb0 hb1 hb2 hB1 hB2 ho3 hB4
  go_loopw [11] (fun q wr => ∃ k : Nat, k ≤ N ∧ q = .int .i64 k ∧ Hid (Blk wr g1 74 (tabL n fun s => if s < k then b s else 0).toArray) ∧ Hid (Blk wr g0 74 (tabL 0 zeroB).toArray) ∧ Below w.heap.size w wr) (fun q _ => N - (intOf q).toNat)
  case atStart => exact ⟨0, Nat.zero_le _, rfl, Lib.hid (by rw [tabL_congr n (fun s => if s < 0 then b s else 0) zeroB (fun s _ => by simp [zeroB])]; exact HT.out), H0, hBw⟩
  case round =>
    clear hBw
    obtain ⟨k, hk, rfl, HT, H0, hB⟩ := hrel
    have hsz := hB.size
    have hl1 := HT.out.lt
    have hl0 := H0.out.lt
    by_cases hlt : k < N
    · have hk32 : k < 32 := by omega
      go_wp2_with fail
      refine (hC.out k wr hlt hB).mono ?_
      rintro e w5 ⟨rfl, hB5⟩
      have hT5 := HT.out.keep hB5
      have hc5 : w5.cell? ⟨g1, 1 + k, none⟩ = some (.int .u8 0) := by
        rw [hT5.cell, List.getElem?_toArray, tabL_b _ _ _ hk32, if_neg (by omega)]; rfl
      have hf5 := hT5.frozen (1 + k)
      have HS := Lib.hid (hT5.set_ (1 + k) (.int .u8 (b k : Int)))
      have H05 := Lib.hid (H0.out.keep hB5)
      have hz5 := hB5.size
      clear hT5
      go_wp2_with fail
      go_roundw
      case rel => exact ⟨k + 1, by omega, by go_num, Lib.hid (by
        have h := HS.out
        rw [tab_set _ _ _ _ hk32, tabL_congr n _ (fun s => if s < k + 1 then b s else 0) (fun s _ => by
          by_cases e : s = k
          · rw [if_pos e, if_pos (by omega), e]
          · rw [if_neg e]
            by_cases e2 : s < k
            · rw [if_pos e2, if_pos (by omega)]
            · rw [if_neg e2, if_neg (by omega)])] at h
        exact h), Lib.hid (H05.out.only (only_setCell _ _ _ _) (by omega)), (hB.trans (hB5.mono hsz)).setCell (by show w.heap.size ≤ g1; omega) _⟩
      case measure => simp [intOf]; omega
    · have hkN : k = N := by omega
      subst hkN
      have h0 := H0.out
      have hT := HT.out
      go_wp2_with (first
        | ((with_reducible refine wpStop (o := ⟨some 21, _, _, _, _, _⟩) ?_); refine ⟨?_⟩; refine wpList_load_blk rfl _ _ rfl rfl hT Tryd.underlying74 rfl (tab_fits _ _) ?_)
        | ((with_reducible refine wpStop (o := ⟨none, Op.store 74 _ _, _, _, _, _⟩) ?_); refine ⟨?_⟩; refine wpList_store_blk rfl _ _ _ rfl rfl rfl h0 (tab_fits _ _) (tab_same _ _ _ _) (tab_all _ _) ?_; intro w6 hb6 ho6))
      refine bodyPost_ret (results_cell_row rfl _ _ _ _ _ _ _ rfl hb6 Tryd.underlying74 rfl (tab_fits _ _)) rfl ⟨rfl, hB.trans (Below.of_grown ho6 hg0 (by omega))⟩

theorem txt_row {b : Nat → Nat} {N k : Nat} {w : World} {g : Nat} (hk : k < N) (hb : b k < 10) (h : BytesAt w g (txt k b ++ List.replicate (N - k) 0)) :
    BytesAt (w.setCell ⟨g, k, none⟩ (.int .u8 (48 + (b k : Int)))) g (txt (k + 1) b ++ List.replicate (N - (k + 1)) 0) := by
  have h1 := h.set_ k (chr (b k))
  rw [chr_toNat _ hb] at h1
  have e : (txt k b ++ List.replicate (N - k) 0).set k (chr (b k)) = txt (k + 1) b ++ List.replicate (N - (k + 1)) 0 := by
    rw [List.set_append_right _ _ (by rw [txt_length]; omega), txt_length, Nat.sub_self, txt_succ]
    rw [show N - k = (N - (k + 1)) + 1 by omega, List.replicate_succ, List.set_cons_zero]
    simp
  rw [e] at h1
  simpa using h1
set_option maxHeartbeats 400000 in
theorem text_any (n N : Nat) (b : Nat → Nat) (w : World) (hn : n ≤ 5) (HN : Hid (N = 2 ^ n)) (hb : Hid (∀ s, s < N → b s < 2)) :
    Calls Tryd.prog 54 #[.agg (tabL n b).toArray] w fun e w' => e = .returned (.string ⟨(txt N b).toArray⟩) ∧ Below w.heap.size w w' := by
  have hN32 : N ≤ 32 := by rw [HN.out]; exact two_le n hn
  have hmk := fun W => make_row Tryd.underlying22 info_u8 rfl N (by omega) (by omega) W
  obtain ⟨g, hg⟩ : ∃ g, g = w.heap.size := ⟨_, rfl⟩
  have HB0 := Lib.hid (show Blk (w.alloc (.cells (tabL n b).toArray 74)) w.heap.size 74 (tabL n b).toArray from Blk.new _ _ _)
  have hBW : Below w.heap.size w (w.alloc (.cells (tabL n b).toArray 74)) := (Below.refl _ _).alloc (Nat.le_refl _) _
  go_enter Tryd.func54, Tryd.ntmps54
  go_wp2_with (first
    | ((with_reducible refine wpStop (o := ⟨some 5, _, _, _, _, _⟩) ?_); refine ⟨?_⟩; refine wpList_load_blk rfl _ _ rfl rfl HB0.out Tryd.underlying74 rfl (tab_fits _ _) ?_)
    | (go_at_call 83; refine (width_any _ N _ _ hn HN).mono ?_; rintro e w1 ⟨rfl, hB1⟩))
  have hz1 := hB1.size
  rw [alloc_size] at hz1
  have HT := Lib.hid (HB0.out.keep hB1)
  have hBw1 : Below w.heap.size w w1 := hBW.trans (hB1.mono (by rw [alloc_size]; omega))
  clear hB1 hBW
  go_loopw [10] (fun q wr => ∃ k : Nat, k ≤ N ∧ q = .int .i64 k ∧ Hid (BytesAt wr w1.heap.size (txt k b ++ List.replicate (N - k) 0)) ∧ Hid (Blk wr w.heap.size 74 (tabL n b).toArray) ∧ Below w.heap.size w wr ∧ w1.heap.size < wr.heap.size) (fun q _ => N - (intOf q).toNat)
  case atStart => exact ⟨0, Nat.zero_le _, rfl, Lib.hid (BytesAt.made w1 N _), Lib.hid (HT.out.keep ((Below.refl _ _).alloc (Nat.le_refl _) _)), hBw1.alloc (by omega) _, by rw [alloc_size]; omega⟩
  case round =>
    obtain ⟨k, hk, rfl, HR, HT, hB, hz⟩ := hrel
    by_cases hlt : k < N
    · have hk32 : k < 32 := by omega
      obtain ⟨hc1, hc2⟩ := HR.out.at_ (j := k) (c := 0) (by
        rw [List.getElem?_append_right (by rw [txt_length]; omega), txt_length, Nat.sub_self]
        rw [show N - k = (N - (k + 1)) + 1 by omega, List.replicate_succ]; rfl)
      have hcb : wr.cell? ⟨w.heap.size, 1 + k, none⟩ = some (.int .u8 (b k : Int)) := by rw [HT.out.cell, List.getElem?_toArray, tabL_b _ _ _ hk32]
      have hbk : (b k : Int) < 2 := by have := hb.out k hlt; omega
      go_wp2_with fail
      go_roundw
      case rel => exact ⟨k + 1, by omega, by go_num, Lib.hid (txt_row hlt (by omega) HR.out), Lib.hid (HT.out.only (only_setCell _ _ _ _) (by omega)), hB.setCell (by show w.heap.size ≤ w1.heap.size; omega) _, by rw [setCell_size]; omega⟩
      case measure => simp [intOf]; omega
    · have hkn : k = N := by omega
      subst hkn
      have hback := conv_back (P := Tryd.prog) wr 22 9 5 w1.heap.size k k (txt k b) (txt_length k b).symm Tryd.underlying22 Tryd.underlying5 Tryd.underlying9 (by simpa using HR.out)
      go_wp2_with fail
      go_ret
      exact ⟨rfl, hB⟩

theorem readTable1_any (f : ByteArray) (p : Nat) (s : Nat) (w : World) (hs : s < f.size) (hp : w.cell? ⟨p, 0, none⟩ = some (.string f)) (hb : Hid (b01 f[s] = true)) :
    Calls Tryd.prog 89 #[.int .i64 (s : Int), .pointer (some ⟨p, 0, none⟩)] w fun e w' => e = .returned (.int .u8 (val f.data.toList s : Int)) ∧ Below w.heap.size w w' := by
  have hr : 48 ≤ (f[s].toNat : Int) ∧ (f[s].toNat : Int) ≤ 49 := by have := hb.out; simp [b01] at this; omega
  obtain ⟨hr1, hr2⟩ := hr
  have hv : Hid ((val f.data.toList s : Int) = (f[s].toNat : Int) - 48) := Lib.hid (by
    have e : val f.data.toList s = f[s].toNat - 48 := val_get (l := f.data.toList) (by simpa using hs)
    rw [e]; omega)
  go_enter Tryd.func89, Tryd.ntmps89
  go_wp2
  go_ret
  exact ⟨ret_int hv.out.symm, Below.refl _ _⟩

/-- the table of a text, the empty one if it is none -/
def tabOf (l : List UInt8) : List Value := if okT l then tabL (tin l.length) (fun s => if s < 2 ^ tin l.length then val l s else 0) else tabL 0 zeroB
theorem tabOf_no {l : List UInt8} (h : okT l = false) : tabOf l = tabL 0 zeroB := by rw [tabOf, h]; rfl
theorem tabOf_yes {l : List UInt8} {n : Nat} (h : okT l = true) (hn : tin l.length = n) : tabOf l = tabL n (fun s => if s < 2 ^ n then val l s else 0) := by rw [tabOf, h, hn]; rfl
theorem closed_readTable : ∀ (args : Array Value) (W : World), (callFunc 89 args).run Tryd.prog W = .ok (.enter 89 args) W := fun _ _ => by kernel_rfl
set_option maxHeartbeats 1000000 in
theorem readTable_any (f : ByteArray) (w : World) (hf : f.size ≤ 9223372036854775807) :
    Calls Tryd.prog 59 #[.string f] w fun e w' => e = .returned (.tuple #[.agg (tabOf f.data.toList).toArray, .bool (okT f.data.toList)]) ∧ Below w.heap.size w w' := by
  have hbx : Blk (w.alloc (.cells #[.string f] 9)) w.heap.size 9 #[.string f] := Blk.new _ _ _
  have hBx : Below w.heap.size w (w.alloc (.cells #[.string f] 9)) := (Below.refl _ _).alloc (Nat.le_refl _) _
  obtain ⟨p, hp⟩ : ∃ p, p = w.heap.size := ⟨_, rfl⟩
  go_enter Tryd.func59, Tryd.ntmps59
  go_wp2_with ((with_reducible refine wpStop (o := ⟨some 2, _, _, _, _, _⟩) ?_); refine ⟨?_⟩; refine wpList_alloc_blk rfl _ rfl _ (tab_alloc _) ?_; intro g w1 hg hb0 hB1)
  rw [alloc_size] at hg
  have HX := Lib.hid (hbx.below (hB1 _ (Nat.le_refl _)) hbx.lt)
  have HBw := Lib.hid (hBx.trans (hB1 _ (by rw [alloc_size]; omega)))
  have HT := Lib.hid hb0
  have hgl := hb0.lt
  have HP := Lib.hid hp
  have hpl : p ≤ w.heap.size ∧ w.heap.size ≤ p := by omega
  rw [← HP.out] at hg HX HBw ⊢
  clear hB1 hbx hBx hb0 hp
  go_loopw [4, 5] (fun q _ wr => ∃ k n : Nat, 1 ≤ k ∧ k ≤ 6 ∧ q = .int .i64 k ∧ Hid (∀ m, 1 ≤ m → m < k → ¬ f.size = 2 ^ m) ∧ wr = w1.drewN n) (fun q _ _ => 6 - (intOf q).toNat)
  case atStart => exact ⟨1, 0, by omega, by omega, rfl, Lib.hid (fun m h1 h2 => by omega), rfl⟩
  case round =>
    obtain ⟨k, nd, hk1, hk6, rfl, HA, rfl⟩ := hrel
    have hcx := HX.out.cell 0
    have hcx2 : w1.cell? ⟨p, 0, none⟩ = some (.string f) := hcx
    clear hcx
    by_cases hlt : k ≤ 5
    · obtain ⟨N, HN, hN, hN32, hN0⟩ := wrap_two k hlt
      by_cases hs : (f.size : Int) = N
      · have hd : ((f.size : Int) != (N : Int)) = false := by simp [hs]
        have hfs1 : f.size ≤ N := by omega
        have hfs2 : N ≤ f.size := by omega
        have HT2 : Hid (tin f.data.toList.length = k) := Lib.hid (by
          rw [Array.length_toList, ByteArray.size_data, show f.size = 2 ^ k by rw [← HN.out]; omega]; exact tin_pow k hk1 hlt)
        clear hs
        go_wp2_with fail
        go_quiet (fail)
        go_wp2_with fail
        simp only [hN]
        obtain ⟨nd2, hnd2⟩ : ∃ nd2, (w1.drewN nd).drewN nq = w1.drewN nd2 := ⟨_, drewN2 _ _ _⟩
        rw [hnd2]
        clear hnd2
        go_loopw [5] (fun q wr => ∃ i : Nat, i ≤ N ∧ q = .int .i64 i ∧ Hid ((f.data.toList.take i).all b01 = true) ∧ wr = w1.drewN nd2) (fun q _ => N - (intOf q).toNat)
        case atStart => exact ⟨0, Nat.zero_le _, rfl, Lib.hid rfl, rfl⟩
        case round =>
          obtain ⟨i, hi, rfl, HI, rfl⟩ := hrel
          by_cases hil : i < N
          · have hif : i < f.size := by omega
            by_cases hb0 : b01 f[i] = true
            · have HI2 := Lib.hid (all_take_snoc hif HI.out hb0)
              have h01 : (f[i].toNat : Int) = 48 ∨ (f[i].toNat : Int) = 49 := by simp [b01] at hb0; omega
              clear hb0
              rcases h01 with h48 | h49
              · have hd1 : ((f[i].toNat : Int) != 48) = false := by simp [h48]
                clear h48
                go_wp2_with fail
                go_roundw
                case rel => exact ⟨i + 1, by omega, by go_num, HI2, trivial⟩
                case measure => simp [intOf]; omega
              · have hd1 : ((f[i].toNat : Int) != 48) = true := by simp [h49]
                have hd2 : ((f[i].toNat : Int) != 49) = false := by simp [h49]
                clear h49
                go_wp2_with fail
                go_roundw
                case rel => exact ⟨i + 1, by omega, by go_num, HI2, trivial⟩
                case measure => simp [intOf]; omega
            · have hb1 : b01 f[i] = false := by simpa using hb0
              have HO : Hid (okT f.data.toList = false) := Lib.hid (by
                have h := all_take_bad (p := b01) hif hb1
                rw [okT, h, Bool.and_false])
              have h48 : ¬ (f[i].toNat : Int) = 48 := fun e => by simp [b01] at hb1; omega
              have h49 : ¬ (f[i].toNat : Int) = 49 := fun e => by simp [b01] at hb1; omega
              clear hb0 hb1
              have hd1 : ((f[i].toNat : Int) != 48) = true := by simpa using h48
              have hd2 : ((f[i].toNat : Int) != 49) = true := by simpa using h49
              clear h48 h49
              have hT := HT.out
              go_wp2_with (first
                | ((with_reducible refine wpStop (o := ⟨some 31, _, _, _, _, _⟩) ?_); refine ⟨?_⟩; refine wpList_build_as rfl _ _ rfl [] rfl _ (tab_build0 _) ?_)
                | ((with_reducible refine wpStop (o := ⟨none, Op.store 74 _ _, _, _, _, _⟩) ?_); refine ⟨?_⟩; refine wpList_store_blk (w := w1.drewN nd2) rfl _ _ _ rfl rfl rfl hT (tab_fits _ _) (tab_same _ _ _ _) (tab_all _ _) ?_; intro w6 hb6 ho6))
              refine bodyPost_ret (results_row_tmp rfl _ rfl hb6 Tryd.underlying74 rfl (tab_fits _ _)) rfl ⟨by rw [HO.out, tabOf_no HO.out]; rfl, ?_⟩
              rw [← HP.out]
              exact HBw.out.trans ((drewN_below _ _).trans (Below.of_grown ho6 (by omega) (by rw [drewN_size]; omega)))
          · have HI2 := HI.out
            rw [List.take_of_length_le (by simp; omega)] at HI2
            have HO : Hid (okT f.data.toList = true) := Lib.hid (by rw [okT, HI2, HT2.out]; simp; omega)
            have HIh := Lib.hid (List.all_eq_true.1 HI2)
            clear HI2
            have hC : Hid (Clo (w1.drewN nd2) (2 ^ k) 89 #[.pointer (some ⟨p, 0, none⟩)] (val f.data.toList)) := Lib.hid (fun s wX hs hBX => by
              have hsf : s < f.size := by have := HN.out; omega
              refine readTable1_any f p s wX hsf ?_ (Lib.hid (HIh.out _ ?_))
              · exact ((HX.out.drewN nd2).below hBX (by rw [drewN_size]; omega)).cell 0
              · exact List.getElem_mem (l := f.data.toList) (by simpa using hsf))
            have hT := HT.out
            go_wp2_with (first
              | (go_at_call 51; refine (each_any k _ _ _ _ hlt closed_readTable hC).mono ?_; rintro e w5 ⟨rfl, hB5⟩)
              | ((with_reducible refine wpStop (o := ⟨none, Op.store 74 _ _, _, _, _, _⟩) ?_); refine ⟨?_⟩; refine wpList_store_blk (w := w5) rfl _ _ _ rfl rfl rfl ((HT.out.drewN nd2).keep hB5) (tab_fits _ _) (tab_same _ _ _ _) (tab_all _ _) ?_; intro w6 hb6 ho6))
            refine bodyPost_ret (results_row_tmp rfl _ rfl hb6 Tryd.underlying74 rfl (tab_fits _ _)) rfl ⟨by rw [HO.out, tabOf_yes HO.out HT2.out]; rfl, ?_⟩
            rw [← HP.out]
            have hz5 := hB5.size
            rw [drewN_size] at hz5
            exact HBw.out.trans ((drewN_below _ _).trans ((hB5.mono (by rw [drewN_size]; omega)).trans (Below.of_grown ho6 (by omega) (by omega))))
      · have hd : ((f.size : Int) != (N : Int)) = true := by simpa using hs
        have HA2 : Hid (∀ m, 1 ≤ m → m < k + 1 → ¬ f.size = 2 ^ m) := Lib.hid (fun m h1 h2 => by
          by_cases e : m = k
          · subst e; have := HN.out; omega
          · exact HA.out m h1 (by omega))
        clear hs
        go_wp2_with fail
        go_quiet (fail)
        go_wp2_with fail
        go_roundw
        case rel => exact ⟨k + 1, _, by omega, by omega, by go_num, HA2, rfl⟩
        case measure => simp [intOf]; omega
    · have HO : Hid (okT f.data.toList = false) := Lib.hid (by
        have h : tin f.data.toList.length = 0 := tin_none _ (fun m h1 h5 => by
          have := HA.out m h1 (by omega); simpa using this)
        rw [okT, h]; rfl)
      have hT := HT.out
      go_wp2_with (first
        | ((with_reducible refine wpStop (o := ⟨some 35, _, _, _, _, _⟩) ?_); refine ⟨?_⟩; refine wpList_build_as rfl _ _ rfl [] rfl _ (tab_build0 _) ?_)
        | ((with_reducible refine wpStop (o := ⟨none, Op.store 74 _ _, _, _, _, _⟩) ?_); refine ⟨?_⟩; refine wpList_store_blk (w := w1.drewN nd) rfl _ _ _ rfl rfl rfl hT (tab_fits _ _) (tab_same _ _ _ _) (tab_all _ _) ?_; intro w6 hb6 ho6))
      refine bodyPost_ret (results_row_tmp rfl _ rfl hb6 Tryd.underlying74 rfl (tab_fits _ _)) rfl ⟨by rw [HO.out, tabOf_no HO.out]; rfl, ?_⟩
      rw [← HP.out]
      exact HBw.out.trans ((drewN_below _ _).trans (Below.of_grown ho6 (by omega) (by rw [drewN_size]; omega)))

end Go.Proofs.YtfkdameegljkeaaDoor

/- Walks of the reference's functions on the texts of networks. -/
namespace Go.Proofs.YtfkdameegljkeaaDoor
open Go.RowKit
set_option linter.unusedVariables false

theorem info_str : (Tryd.prog.info? 9).map (fun i => (i.zero, i.size, i.bytes)) = some (some (.string ByteArray.empty), 1, 16) := by kernel_rfl
/-- texts as values -/
def strs (ps : List (List UInt8)) : List Value := ps.map fun l => .string ⟨l.toArray⟩
theorem strs_append (a b : List (List UInt8)) : strs (a ++ b) = strs a ++ strs b := by simp [strs]
theorem strs_length (a : List (List UInt8)) : (strs a).length = a.length := by simp [strs]
theorem strs_get {ps : List (List UInt8)} {i : Nat} (h : i < ps.length) : (strs ps)[i]? = some (.string ⟨ps[i].toArray⟩) := by simp [strs, h]
/-- the value v is the call's own slice of the texts ps -/
def OS (w : World) (B : Nat) (e : TypeId) (v : Value) (ps : List (List UInt8)) : Prop := w.ownsRow B e 1 v ps.length (strs ps)
theorem OS.empty (w : World) (B : Nat) (e : TypeId) (hB : B ≤ w.heap.size) : OS (w.alloc (.cells #[] e)) B e (.slice (some ⟨w.heap.size, 0, none⟩) 0 0) [] :=
  World.ownsRow_made w #[] 0 hB (Nat.zero_le _) rfl
theorem OS.nil (w : World) (B : Nat) (e : TypeId) : OS w B e (.slice none 0 0) [] := World.ownsRow_nil w B e 1
theorem OS.below {w w' : World} {B : Nat} {e : TypeId} {v : Value} {ps : List (List UInt8)} (h : OS w B e v ps) (hb : Below w.heap.size w w') : OS w' B e v ps := ownsRow_below h hb
theorem OS.form {w : World} {B : Nat} {e : TypeId} {v : Value} {ps : List (List UInt8)} (h : OS w B e v ps) : ∃ A c, v = .slice A ps.length c ∧ ps.length ≤ c ∧ Own w B A (strs ps) := by
  rcases h.2 with ⟨rfl, h0⟩ | ⟨g, cap, cur, rfl, hB, hg, hn, rest⟩
  · exact ⟨none, 0, by rw [h0], by omega, .inl (by rw [List.eq_nil_of_length_eq_zero h0]; rfl)⟩
  · exact ⟨_, cap, rfl, hn, Own.of_own h⟩
theorem wp_pushS {P : Program} {wr : World} {ops : Array Oper} {rest : List Oper} {o : Oper} {a : Act} {Q : Exit → Act → World → Prop} (hgd : o.guard = none) (s x : Operand) (t : TypeId)
    (ho : o.op = .call { callee := .builtin .append, args := #[s, x], argTypes := #[t, t] })
    {B e : Nat} (ht : P.underlying t = some (.slice e)) (hinf : (P.info? e).map (fun i => (i.zero, i.size, i.bytes)) = some (some (.string ByteArray.empty), 1, 16))
    {v : Value} {ps : List (List UInt8)} {u : ByteArray} (hown : OS wr B e v ps) (hs : a.eval s = v) (hx : a.eval x = .slice (some ⟨wr.heap.size, 0, none⟩) 1 1)
    (hn : ps.length ≤ 1099511627776) (hB : B ≤ wr.heap.size)
    (h : ∀ v' w', OS w' B e v' (ps ++ [u.data.toList]) → (∀ B', B' ≤ B → Below B' wr w') → wr.heap.size ≤ w'.heap.size → wpList P ops Q rest (a.put o.dst v') w') :
    wpList P ops Q (o :: rest) a (wr.alloc (.cells #[.string u] e)) :=
  wp_push hgd s x t ho ht hinf rfl hown hs hx rfl hn (by omega) hB fun v' w' h1 h2 h3 => h v' w' (by unfold OS; simpa [strs] using h1) h2 h3
/-- it returns a slice of the texts ps, in memory from block B on -/
def RetS (B : Nat) (ps : List (List UInt8)) (e : Ending) (w' : World) : Prop := ∃ A c, e = .returned (.slice A ps.length c) ∧ ps.length ≤ c ∧ Own w' B A (strs ps)
theorem Rd.text {w : World} {A : Option Addr} {ps : List (List UInt8)} {j : Nat} (h : Rd w A (strs ps)) (hj : j < ps.length) : ∃ g off, A = some ⟨g, off, none⟩ ∧ w.cell? ⟨g, off + j, none⟩ = some (.string ⟨ps[j].toArray⟩) :=
  h.at_ (strs_get hj)

theorem l14Cut_any (s : ByteArray) (w : World) (hs : s.size ≤ 1073741824) :
    Calls Tryd.prog 93 #[.string s, .int .u8 44] w fun e w' => RetS w.heap.size (cutL s.data.toList) e w' ∧ Below w.heap.size w w' := by
  go_enter Tryd.func93, Tryd.ntmps93
  go_wp2
  go_loopw [5, 6, 7] (fun v q r wr => ∃ (fr i : Nat) (done : List (List UInt8)), q = .int .i64 fr ∧ r = .int .i64 i ∧ i ≤ s.size + 1 ∧ fr ≤ i ∧ done.length ≤ i ∧ Hid (OS wr w.heap.size 9 v done) ∧ Hid (CutInv s.data.toList done fr i) ∧ Below w.heap.size w wr) (fun _ _ r _ => s.size + 1 - (intOf r).toNat)
  case atStart => exact ⟨0, 0, [], rfl, rfl, Nat.zero_le _, Nat.zero_le _, Nat.zero_le _, Lib.hid (OS.empty _ _ _ (Nat.le_refl _)), Lib.hid (cutInv_start _), (Below.refl _ _).alloc (Nat.le_refl _) _⟩
  case round =>
    obtain ⟨fr, i, done, rfl, rfl, hi, hfr, hdl, HO, HC, hB⟩ := hrel
    have hsz := hB.size
    by_cases hend : i = s.size + 1
    · have HD := Lib.hid (cutInv_done HC.out (by simpa using hend))
      obtain ⟨A, c, hv, hc, hO⟩ := HO.out.form
      have HV := Lib.hid hv
      clear hv
      go_wp2
      go_ret
      exact ⟨⟨A, c, by rw [← HD.out, ← HV.out]; rfl, by rw [← HD.out]; exact hc, by rw [← HD.out]; exact hO⟩, hB⟩
    · have hi2 : i ≤ s.size := by omega
      by_cases hsz2 : i = s.size
      · have hd : ((i : Int) == (s.size : Int)) = true := by simp [hsz2]
        have HX : Hid (CutInv s.data.toList (done ++ [(s.extract fr s.size).data.toList]) (i + 1) (i + 1)) := Lib.hid (by
          have h := cutInv_end HC.out (by simpa using hsz2)
          rw [show s.extract fr s.size = s.extract fr i by rw [hsz2]]
          rwa [← ext_list] at h)
        go_wp2_with (at_builtin; refine wp_pushS rfl _ _ _ rfl Tryd.underlying36 info_str HO.out rfl rfl (by omega) hsz ?_; intro v' w3 hown hbel hsz3)
        go_roundw
        case rel => exact ⟨i + 1, i + 1, _, by go_num, by go_num, by omega, by omega, by simp; omega, Lib.hid hown, HX, hB.trans (hbel _ (Nat.le_refl _))⟩
        case measure => simp [intOf]; omega
      · have hlt : i < s.size := by omega
        have hd : ((i : Int) == (s.size : Int)) = false := by simp; omega
        by_cases hc : s[i] = 44
        · have hq : ((s[i].toNat : Int) == 44) = true := by simp [hc]
          have HX : Hid (CutInv s.data.toList (done ++ [(s.extract fr i).data.toList]) (i + 1) (i + 1)) := Lib.hid (by
            have h := cutInv_cut HC.out (by simpa using hlt) hc
            rwa [← ext_list] at h)
          clear hc
          go_wp2_with (at_builtin; refine wp_pushS rfl _ _ _ rfl Tryd.underlying36 info_str HO.out rfl rfl (by omega) hsz ?_; intro v' w3 hown hbel hsz3)
          go_roundw
          case rel => exact ⟨i + 1, i + 1, _, by go_num, by go_num, by omega, by omega, by simp; omega, Lib.hid hown, HX, hB.trans (hbel _ (Nat.le_refl _))⟩
          case measure => simp [intOf]; omega
        · have hq : ((s[i].toNat : Int) == 44) = false := by
            have : ¬ s[i].toNat = 44 := fun e => hc (UInt8.toNat_inj.1 e)
            simp; omega
          have HX : Hid (CutInv s.data.toList done fr (i + 1)) := Lib.hid (cutInv_skip HC.out (by simpa using hlt) hc)
          clear hc
          go_wp2_with fail
          go_roundw
          case rel => exact ⟨fr, i + 1, _, rfl, by go_num, by omega, by omega, by omega, HO, HX, hB⟩
          case measure => simp [intOf]; omega

theorem l1Inputs_any (n : Nat) (w : World) (hn : n ≤ 9223372036854775807) :
    Calls Tryd.prog 95 #[.int .i64 (n : Int)] w fun e w' => e = .returned (.int .i64 (inN n)) ∧ w = w' := by
  go_enter Tryd.func95, Tryd.ntmps95
  go_wp2
  go_loopw [3] (fun q wr => ∃ k : Nat, 1 ≤ k ∧ k ≤ 6 ∧ q = .int .i64 k ∧ Hid (∀ m, 1 ≤ m → m < k → ¬ n = 2 ^ m) ∧ wr = w) (fun q _ => 6 - (intOf q).toNat)
  case atStart => exact ⟨1, by omega, by omega, rfl, Lib.hid (fun m h1 h2 => by omega), rfl⟩
  case round =>
    obtain ⟨k, hk1, hk6, rfl, HA, rfl⟩ := hrel
    by_cases hlt : k ≤ 5
    · obtain ⟨N, HN, hN, hN32, hN0⟩ := wrap_two k hlt
      by_cases hs : n = N
      · have HT : Hid (inN n = k) := Lib.hid (by
          have ht := tin_pow k hk1 hlt
          rw [show n = 2 ^ k by rw [hs, HN.out], inN_yes (by omega), ht])
        have hd : ((n : Int) == (N : Int)) = true := by simp [hs]
        clear hs
        go_wp2_with fail
        simp only [hN]
        go_wp2_with fail
        go_ret
        exact ⟨by rw [HT.out]; rfl, rfl⟩
      · have hd : ((n : Int) == (N : Int)) = false := by simp; omega
        have HA2 : Hid (∀ m, 1 ≤ m → m < k + 1 → ¬ n = 2 ^ m) := Lib.hid (fun m h1 h2 => by
          by_cases e : m = k
          · subst e; have := HN.out; omega
          · exact HA.out m h1 (by omega))
        clear hs
        go_wp2_with fail
        go_roundw
        case rel => exact ⟨k + 1, by omega, by omega, by go_num, HA2, trivial⟩
        case measure => simp [intOf]; omega
    · have HT : Hid (inN n = -1) := Lib.hid (inN_no (tin_none _ (fun m h1 h5 => HA.out m h1 (by omega))))
      go_wp2_with fail
      go_ret
      exact ⟨by rw [HT.out]; rfl, rfl⟩

theorem sTableValid_any (f : ByteArray) (w : World) (hf : f.size ≤ 9223372036854775806) :
    Calls Tryd.prog 94 #[.string f] w fun e w' => e = .returned (.bool (okT f.data.toList)) ∧ w = w' := by
  go_enter Tryd.func94, Tryd.ntmps94
  go_wp2
  go_loopw [3] (fun q wr => ∃ i : Nat, i ≤ f.size ∧ q = .int .i64 i ∧ Hid ((f.data.toList.take i).all b01 = true) ∧ wr = w) (fun q _ => f.size - (intOf q).toNat)
  case atStart => exact ⟨0, Nat.zero_le _, rfl, Lib.hid rfl, rfl⟩
  case round =>
    obtain ⟨i, hi, rfl, HI, rfl⟩ := hrel
    by_cases hif : i < f.size
    · by_cases hb0 : b01 f[i] = true
      · have HI2 := Lib.hid (all_take_snoc hif HI.out hb0)
        have h01 : (f[i].toNat : Int) = 48 ∨ (f[i].toNat : Int) = 49 := by simp [b01] at hb0; omega
        clear hb0
        rcases h01 with h48 | h49
        · have hd1 : ((f[i].toNat : Int) != 48) = false := by simp [h48]
          clear h48
          go_wp2_with fail
          go_roundw
          case rel => exact ⟨i + 1, by omega, by go_num, HI2, trivial⟩
          case measure => simp [intOf]; omega
        · have hd1 : ((f[i].toNat : Int) != 48) = true := by simp [h49]
          have hd2 : ((f[i].toNat : Int) != 49) = false := by simp [h49]
          clear h49
          go_wp2_with fail
          go_roundw
          case rel => exact ⟨i + 1, by omega, by go_num, HI2, trivial⟩
          case measure => simp [intOf]; omega
      · have hb1 : b01 f[i] = false := by simpa using hb0
        have HO : Hid (okT f.data.toList = false) := Lib.hid (by
          have h := all_take_bad (p := b01) hif hb1
          rw [okT, h, Bool.and_false])
        have h48 : ¬ (f[i].toNat : Int) = 48 := fun e => by simp [b01] at hb1; omega
        have h49 : ¬ (f[i].toNat : Int) = 49 := fun e => by simp [b01] at hb1; omega
        clear hb0 hb1
        have hd1 : ((f[i].toNat : Int) != 48) = true := by simpa using h48
        have hd2 : ((f[i].toNat : Int) != 49) = true := by simpa using h49
        clear h48 h49
        go_wp2_with fail
        go_ret
        exact ⟨by rw [HO.out]; rfl, rfl⟩
    · have HI2 := HI.out
      rw [List.take_of_length_le (by simp; omega)] at HI2
      have HO : Hid (decide (0 < inN f.size) = okT f.data.toList) := Lib.hid (by
        rw [okT, HI2, Array.length_toList, ByteArray.size_data]
        by_cases h : tin f.size = 0
        · simp [inN_no h, h]
        · simp [inN_yes h, h]; omega)
      go_wp2_with fail
      refine (l1Inputs_any _ _ (by omega)).mono ?_
      rintro e w' ⟨rfl, rfl⟩
      go_wp2_with fail
      go_ret
      exact ⟨by rw [← HO.out]; rfl, rfl⟩

end Go.Proofs.YtfkdameegljkeaaDoor

/- Walks of the program's functions on networks. -/
namespace Go.Proofs.YtfkdameegljkeaaDoor
open Go.RowKit

/-- the values of a rule: 0 behind the last state -/
def tv (n : Nat) (p : List UInt8) (s : Nat) : Nat := if s < 2 ^ n then val p s else 0
def netT (n : Nat) (ps : List (List UInt8)) : List Value := ps.flatMap fun p => tabL n (tv n p)
/-- the cells of a network -/
def netL (ps : List (List UInt8)) : List Value := netT ps.length ps
theorem netT_append (n : Nat) (a b : List (List UInt8)) : netT n (a ++ b) = netT n a ++ netT n b := by simp [netT]
theorem netT_get (n : Nat) : ∀ (ps : List (List UInt8)) (i j : Nat) (hi : i < ps.length), j < 33 → (netT n ps)[33 * i + j]? = (tabL n (tv n ps[i]))[j]?
  | [], i, j, hi, _ => by simp at hi
  | p :: ps, 0, j, _, hj => by
    rw [netT, List.flatMap_cons, List.getElem?_append_left (by rw [tabL_length]; omega)]
    simp
  | p :: ps, i + 1, j, hi, hj => by
    have ih := netT_get n ps i j (by simpa using hi) hj
    rw [netT, List.flatMap_cons, List.getElem?_append_right (by rw [tabL_length]; omega), tabL_length, show 33 * (i + 1) + j - 33 = 33 * i + j by omega]
    exact ih
theorem tabOf_tv {l : List UInt8} {n : Nat} (h : okT l = true) (hn : tin l.length = n) : tabOf l = tabL n (tv n l) := tabOf_yes h hn
theorem tabOf_any (l : List UInt8) : ∃ m b, tabOf l = tabL m b ∧ (okT l = true → m = tin l.length) := by
  by_cases h : okT l = true
  · exact ⟨_, _, tabOf_tv h rfl, fun _ => rfl⟩
  · have h' : okT l = false := by simpa using h
    exact ⟨_, _, tabOf_no h', fun e => absurd e h⟩
/-- the value v is the call's own slice of the tables ps, n inputs each -/
def OT (w : World) (B : Nat) (v : Value) (n : Nat) (ps : List (List UInt8)) : Prop := w.ownsRow B 74 33 v ps.length (netT n ps)
theorem OT.nil (w : World) (B n : Nat) : OT w B (.slice none 0 0) n [] := World.ownsRow_nil w B _ 33
theorem OT.below {w w' : World} {B n : Nat} {v : Value} {ps : List (List UInt8)} (h : OT w B v n ps) (hb : Below w.heap.size w w') : OT w' B v n ps := ownsRow_below h hb
theorem OT.keepT {w w' : World} {B n g : Nat} {v : Value} {ps : List (List UInt8)} (h : OT w B v n ps) (hw : w.grownBy w' (some g)) (hne : ∀ c, v = .slice (some ⟨g, 0, none⟩) ps.length c → False) : OT w' B v n ps :=
  World.ownsRow.kept h hw (by
    rcases h.2 with ⟨rfl, _⟩ | ⟨g', cap, cur, rfl, hB, _⟩
    · exact .inl rfl
    · refine .inr ?_
      simp only [Value.ownBlock, ne_eq, Option.some.injEq]
      rintro rfl
      exact hne _ rfl)
theorem Own.of_ownT {w : World} {B e n c : Nat} {A : Option Addr} {vs : List Value} (h : w.ownsRow B e 33 (.slice A n c) n vs) : Own w B A vs := by
  rcases h.2 with ⟨hv, rfl⟩ | ⟨g, cap, cur, hv, hB, hg, hn, _, hsz, htake⟩
  · left; exact List.eq_nil_of_length_eq_zero (by simpa using h.1)
  · injection hv with hA _ _
    refine .inr ⟨g, 0, hA, hB, fun j v hj => ?_⟩
    rw [Nat.zero_add, cell_of_row w g j cur e (0, 0) hg]
    refine ⟨?_, by simp [World.frozen?, hg]⟩
    rw [← htake, List.getElem?_take] at hj
    split at hj
    · simpa using hj
    · cases hj
theorem OT.form {w : World} {B n : Nat} {v : Value} {ps : List (List UInt8)} (h : OT w B v n ps) : ∃ A c, v = .slice A ps.length c ∧ ps.length ≤ c ∧ Own w B A (netT n ps) := by
  rcases h.2 with ⟨rfl, h0⟩ | ⟨g, cap, cur, rfl, hB, hg, hn, rest⟩
  · exact ⟨none, 0, by rw [h0], by omega, .inl (by rw [List.eq_nil_of_length_eq_zero h0]; rfl)⟩
  · exact ⟨_, cap, rfl, hn, Own.of_ownT h⟩
theorem info_tab : (Tryd.prog.info? 74).map (fun i => (i.zero.isSome, i.zero.map (·.cells.size), i.size, i.bytes)) = some (true, some 33, 33, 40) := by kernel_rfl
theorem tab_bslice (n : Nat) (b : Nat → Nat) (W : World) : (Instr.buildSlice 46 1 #[(0, .agg (tabL n b).toArray)]).run Tryd.prog W = .ok (.slice (some ⟨W.heap.size, 0, none⟩) 1 1) (W.alloc (.cells (tabL n b).toArray 74)) := by kernel_rfl
theorem wpList_bslice_tab {ops : Array Oper} {rest : List Oper} {o : Oper} {a : Act} {w : World} {Q : Exit → Act → World → Prop} (hgd : o.guard = none) (x : Operand) (ho : o.op = .buildSlice 46 1 #[(0, x)]) (n : Nat) (b : Nat → Nat)
    (hx : a.eval x = .agg (tabL n b).toArray) (h : ∀ g w1, g = w.heap.size → w1 = w.alloc (.cells (tabL n b).toArray 74) → wpList Tryd.prog ops Q rest (a.put o.dst (.slice (some ⟨g, 0, none⟩) 1 1)) w1) : wpList Tryd.prog ops Q (o :: rest) a w :=
  wpList_plain hgd fun _ hK => by
    have e : ((#[(0, x)] : Array (Nat × Operand)).map fun (i, x) => (i, a.eval x)) = #[(0, .agg (tabL n b).toArray)] := by simp [hx]
    unfold Oper.wp execOp
    simp only [ho, e, Sem.run_bind, tab_bslice, Result.andThen_ok]
    exact hK _ _ (h _ _ rfl rfl)
theorem wp_pushT {wr : World} {ops : Array Oper} {rest : List Oper} {o : Oper} {a : Act} {Q : Exit → Act → World → Prop} (hgd : o.guard = none) (s x : Operand)
    (ho : o.op = .call { callee := .builtin .append, args := #[s, x], argTypes := #[46, 46] })
    {B n g : Nat} {W : World} {v : Value} {ps : List (List UInt8)} {p : List UInt8} (hg : g = wr.heap.size) (hW : W = wr.alloc (.cells (tabL n (tv n p)).toArray 74)) (hown : OT wr B v n ps) (hs : a.eval s = v) (hx : a.eval x = .slice (some ⟨g, 0, none⟩) 1 1)
    (hn : ps.length ≤ 1048576) (hB : B ≤ wr.heap.size)
    (h : ∀ v' w', OT w' B v' n (ps ++ [p]) → (∀ B', B' ≤ B → Below B' wr w') → wr.heap.size ≤ w'.heap.size → wpList Tryd.prog ops Q rest (a.put o.dst v') w') :
    wpList Tryd.prog ops Q (o :: rest) a W := by
  subst hg hW
  have hi0 := info_tab
  cases hi : Tryd.prog.info? 74 with
  | none => rw [hi] at hi0; cases hi0
  | some i =>
    rw [hi, Option.map_some, Option.some.injEq, Prod.mk.injEq, Prod.mk.injEq, Prod.mk.injEq] at hi0
    obtain ⟨h1, h2, h3, h4⟩ := hi0
    obtain ⟨z, hz⟩ := Option.isSome_iff_exists.1 h1
    rw [hz, Option.map_some, Option.some.injEq] at h2
    refine wpList_append_own _ hgd s x _ ho B 74 i z 33 40 Tryd.underlying46 hi hz h3 h4 h2 (by omega) v ps.length (netT n ps) hs (hown.alloc _) ⟨wr.heap.size, 0, none⟩ 1 1 (tabL n (tv n p)) hx (by rw [tabL_length]) ?_ (tabL_one _ _) (by simp only [maxLen]; omega) (by omega) (by rw [alloc_size]; omega) ?_
    · intro j u hj
      rw [Addr.add_mid, Nat.zero_add, cell_new, List.getElem?_toArray]
      exact hj
    · intro v' w' h1 h2 _
      refine h v' w' (by unfold OT; rw [netT_append, List.length_append]; simpa [netT] using h1) (fun B' hB' => ?_) ?_
      · have hb0 : Below B' wr (wr.alloc (.cells (tabL n (tv n p)).toArray 74)) := (Below.refl _ _).alloc (by omega) _
        refine hb0.grown h2 (by rw [alloc_size]; omega) ?_
        intro k hk
        have := (hown.lt k hk).1
        omega
      · have := h2.size
        rw [alloc_size] at this
        omega

/-- the cell that strings.Split reads -/
def HasM (w : World) : Prop := ∃ m, w.cell? ⟨0, 0, none⟩ = some (.int .i64 m)
theorem HasM.below {w w' : World} (h : HasM w) (hb : Below w.heap.size w w') : HasM w' := by
  obtain ⟨m, hm⟩ := h
  exact ⟨m, (World.cell?_of_block (w := w) (hb.block _ (World.block_lt_of_cell? w _ hm))).trans hm⟩
theorem split_any (s : ByteArray) (w : World) (hm : HasM w) (hs : s.size < 4294967281) :
    Calls Tryd.prog 58 #[.string s, .string { data := #[44] }] w fun e w' => RetS w.heap.size (cutL s.data.toList) e w' ∧ Below w.heap.size w w' := by
  obtain ⟨m, hm⟩ := hm
  refine (Tryd.strings_Split s { data := #[44] } m w hs hm (by decide)).mono ?_
  rintro e w' ⟨rfl, rfl⟩
  rw [splitB_cutB, countB_cut]
  have e : (cutB s).map Value.string = strs (cutL s.data.toList) := by simp [cutB, strs]
  rw [e]
  exact ⟨⟨_, _, rfl, Nat.le_refl _, Own.lit w _ _ (Nat.le_refl _)⟩, (Below.refl _ _).alloc (Nat.le_refl _) _⟩

theorem readTableL (l : List UInt8) (w : World) (hf : l.length ≤ 9223372036854775807) :
    Calls Tryd.prog 59 #[.string ⟨l.toArray⟩] w fun e w' => e = .returned (.tuple #[.agg (tabOf l).toArray, .bool (okT l)]) ∧ Below w.heap.size w w' := by
  have h := readTable_any ⟨l.toArray⟩ w (by rw [str_size]; exact hf)
  simpa using h

/-- what the reading of a network hands back -/
def NetP (B : Nat) (ps : List (List UInt8)) (e : Ending) (w' : World) : Prop :=
  ∃ A k c, e = .returned (.tuple #[.slice A k c, .bool (okN ps)]) ∧ (okN ps = true → k = ps.length ∧ ps.length ≤ c ∧ Own w' B A (netL ps))
set_option maxHeartbeats 1000000 in
theorem readNetwork_any (s : ByteArray) (w : World) (hm : Hid (HasM w)) (hs : s.size ≤ 1073741824) :
    Calls Tryd.prog 27 #[.string s] w fun e w' => NetP w.heap.size (cutL s.data.toList) e w' ∧ Below w.heap.size w w' := by
  have hcl := cutL_len s.data.toList
  have HPL := Lib.hid (cutL_part s.data.toList)
  rw [show s.data.toList.length = s.size from by simp] at hcl HPL
  obtain ⟨ps, HPS⟩ : ∃ ps, Hid (ps = cutL s.data.toList) := ⟨_, rfl⟩
  rw [← HPS.out] at hcl HPL ⊢
  by_cases h5 : ps.length ≤ 5
  · go_enter Tryd.func27, Tryd.ntmps27
    go_wp2_with fail
    refine (split_any s w hm.out (by omega)).mono ?_
    rintro e w1 ⟨⟨A, c, rfl, hc, hO⟩, hB1⟩
    rw [← HPS.out] at hc hO ⊢
    have HO := Lib.hid hO
    have hz1 := hB1.size
    clear hO
    go_wp2
    go_loopw [5, 17] (fun v q wr => ∃ i : Nat, i ≤ ps.length ∧ q = .int .i64 i ∧ Hid (((ps.take i).all fun p => okT p && (tin p.length == ps.length)) = true) ∧ Hid (OT wr w1.heap.size v ps.length (ps.take i)) ∧ Below w1.heap.size w1 wr) (fun _ q _ => ps.length - (intOf q).toNat)
    case atStart => exact ⟨0, Nat.zero_le _, rfl, Lib.hid rfl, Lib.hid (OT.nil _ _ _), Below.refl _ _⟩
    case round =>
      obtain ⟨i, hi, rfl, HI, HT, hB⟩ := hrel
      have hsz := hB.size
      by_cases hil : i < ps.length
      · obtain ⟨g, off, hA, hcell0⟩ := HO.out.rd.text hil
        subst hA
        have hcell : wr.cell? ⟨g, off + i, none⟩ = some (.string ⟨ps[i].toArray⟩) := (World.cell?_of_block (w := w1) (hB.block _ (World.block_lt_of_cell? w1 _ hcell0))).trans hcell0
        have hpl : ps[i].length ≤ s.size := HPL.out _ (List.getElem_mem hil)
        have hrt := readTableL ps[i] wr (by omega)
        clear hcell0
        by_cases h1 : okT ps[i] = true
        · rw [h1] at hrt
          by_cases h2 : tin ps[i].length = ps.length
          · rw [tabOf_tv h1 h2] at hrt
            have HI2 := Lib.hid (okN_take hil HI.out h1 h2)
            have HTK : Hid (ps.take (i + 1) = ps.take i ++ [ps[i]]) := Lib.hid (by rw [List.take_add_one, List.getElem?_eq_getElem hil]; rfl)
            have hlt5 : (ps.take i).length ≤ 5 := by rw [List.length_take]; omega
            clear h1 h2
            go_wp2_with (first
              | (go_at_call 59; refine hrt.mono ?_; rintro e w2 ⟨rfl, hB2⟩)
              | ((with_reducible refine wpStop (o := ⟨some 8, _, _, _, _, _⟩) ?_); refine ⟨?_⟩; refine wpList_alloc_blk rfl _ rfl _ (tab_alloc _) ?_; intro g3 w3 hg3 hb3 hB3)
              | ((with_reducible refine wpStop (o := ⟨none, Op.store 74 _ _, _, _, _, _⟩) ?_); refine ⟨?_⟩; refine wpList_store_blk rfl _ _ _ rfl rfl rfl hb3 (tab_fits _ _) (tab_same _ _ _ _) (tab_all _ _) ?_; intro w4 hb4 ho4; have hB24 : Below w2.heap.size w2 w4 := (hB3 _ (Nat.le_refl _)).trans (Below.of_grown ho4 hg3 (hB3 0 (Nat.zero_le _)).size); have hc4 : w4.cell? ⟨g3, 0, none⟩ = some (.int .i64 (ps.length : Int)) := (hb4.cell 0).trans rfl)
              | ((with_reducible refine wpStop (o := ⟨some 36, _, _, _, _, _⟩) ?_); refine ⟨?_⟩; refine wpList_load_blk rfl _ _ rfl rfl hb4 Tryd.underlying74 rfl (tab_fits _ _) ?_)
              | ((with_reducible refine wpStop (o := ⟨some 37, _, _, _, _, _⟩) ?_); refine ⟨?_⟩; refine wpList_bslice_tab rfl _ rfl _ _ rfl ?_; intro g5 w5 hg5 hw5)
              | ((with_reducible refine wpStop (o := ⟨some 38, _, _, _, _, _⟩) ?_); refine ⟨?_⟩; refine wp_pushT rfl _ _ rfl hg5 hw5 ((HT.out.below hB2).below hB24) rfl rfl (by omega) (by have := hB24.size; have := hB2.size; omega) ?_; clear hg5 hw5; intro v' w6 hown hbel hsz6))
            go_roundw
            case rel => exact ⟨i + 1, by omega, by go_num, HI2, Lib.hid (by rw [HTK.out]; exact hown), hB.trans ((hB2.mono hsz).trans ((hB24.mono (by have := hB2.size; omega)).trans (hbel _ (Nat.le_refl _))))⟩
            case measure => simp [intOf]; omega
          · have hd : ((tin ps[i].length : Int) != (ps.length : Int)) = true := by simp; omega
            have HN : Hid (okN ps = false) := Lib.hid (okN_bad (List.getElem_mem hil) (.inr h2))
            rw [tabOf_tv h1 rfl] at hrt
            clear h1 h2
            go_wp2_with (first
              | (go_at_call 59; refine hrt.mono ?_; rintro e w2 ⟨rfl, hB2⟩)
              | ((with_reducible refine wpStop (o := ⟨some 8, _, _, _, _, _⟩) ?_); refine ⟨?_⟩; refine wpList_alloc_blk rfl _ rfl _ (tab_alloc _) ?_; intro g3 w3 hg3 hb3 hB3)
              | ((with_reducible refine wpStop (o := ⟨none, Op.store 74 _ _, _, _, _, _⟩) ?_); refine ⟨?_⟩; refine wpList_store_blk rfl _ _ _ rfl rfl rfl hb3 (tab_fits _ _) (tab_same _ _ _ _) (tab_all _ _) ?_; intro w4 hb4 ho4; have hB24 : Below w2.heap.size w2 w4 := (hB3 _ (Nat.le_refl _)).trans (Below.of_grown ho4 hg3 (hB3 0 (Nat.zero_le _)).size); have hc4 : w4.cell? ⟨g3, 0, none⟩ = some (.int .i64 (tin ps[i].length : Int)) := (hb4.cell 0).trans rfl))
            go_ret2
            exact ⟨⟨_, _, _, by rw [HN.out]; rfl, fun h => by rw [HN.out] at h; cases h⟩, hB1.trans ((hB.trans ((hB2.mono hsz).trans (hB24.mono (by have := hB2.size; omega)))).mono hz1)⟩
        · have h1' : okT ps[i] = false := by simpa using h1
          have HN : Hid (okN ps = false) := Lib.hid (okN_bad (List.getElem_mem hil) (.inl h1'))
          rw [h1', tabOf_no h1'] at hrt
          clear h1 h1'
          go_wp2_with (first
            | (go_at_call 59; refine hrt.mono ?_; rintro e w2 ⟨rfl, hB2⟩)
            | ((with_reducible refine wpStop (o := ⟨some 8, _, _, _, _, _⟩) ?_); refine ⟨?_⟩; refine wpList_alloc_blk rfl _ rfl _ (tab_alloc _) ?_; intro g3 w3 hg3 hb3 hB3)
            | ((with_reducible refine wpStop (o := ⟨none, Op.store 74 _ _, _, _, _, _⟩) ?_); refine ⟨?_⟩; refine wpList_store_blk rfl _ _ _ rfl rfl rfl hb3 (tab_fits _ _) (tab_same _ _ _ _) (tab_all _ _) ?_; intro w4 hb4 ho4; have hB24 : Below w2.heap.size w2 w4 := (hB3 _ (Nat.le_refl _)).trans (Below.of_grown ho4 hg3 (hB3 0 (Nat.zero_le _)).size)))
          go_ret2
          exact ⟨⟨_, _, _, by rw [HN.out]; rfl, fun h => by rw [HN.out] at h; cases h⟩, hB1.trans ((hB.trans ((hB2.mono hsz).trans (hB24.mono (by have := hB2.size; omega)))).mono hz1)⟩
      · have HN : Hid (okN ps = true) := Lib.hid (by
          have h := HI.out
          rw [List.take_of_length_le (by omega)] at h
          exact h)
        have hin : i = ps.length := by omega
        subst hin
        have hT := HT.out
        rw [List.take_of_length_le (Nat.le_refl _)] at hT
        obtain ⟨A', c', hv, hc', hO'⟩ := hT.form
        have HV := Lib.hid hv
        clear hv hT
        go_wp2_with fail
        go_ret2
        exact ⟨⟨A', ps.length, c', by rw [HN.out, ← HV.out]; rfl, fun _ => ⟨rfl, hc', hO'.mono hz1⟩⟩, hB1.trans (hB.mono hz1)⟩
  · have HN : Hid (okN ps = false) := Lib.hid (by
      by_cases h : okN ps = true
      · exact absurd (okN_le h) h5
      · simpa using h)
    go_enter Tryd.func27, Tryd.ntmps27
    go_wp2_with fail
    refine (split_any s w hm.out (by omega)).mono ?_
    rintro e w1 ⟨⟨A, c, rfl, hc, hO⟩, hB1⟩
    rw [← HPS.out] at hc hO ⊢
    clear hO
    go_wp2
    go_ret2
    exact ⟨⟨_, _, _, by rw [HN.out]; rfl, fun h => by rw [HN.out] at h; cases h⟩, hB1⟩

end Go.Proofs.YtfkdameegljkeaaDoor

/- Walks of the reference's functions on the steps of networks. -/
namespace Go.Proofs.YtfkdameegljkeaaDoor
open Go.RowKit

theorem sTableValidL (l : List UInt8) (w : World) (hf : l.length ≤ 9223372036854775806) :
    Calls Tryd.prog 94 #[.string ⟨l.toArray⟩] w fun e w' => e = .returned (.bool (okT l)) ∧ w = w' := by
  have h := sTableValid_any ⟨l.toArray⟩ w (by rw [str_size]; exact hf)
  simpa using h

/-- what the opening of a network's text hands back -/
def OpnS (B : Nat) (ps : List (List UInt8)) (e : Ending) (w' : World) : Prop :=
  ∃ A k c, e = .returned (.tuple #[.slice A k c, .bool (okN ps)]) ∧ (okN ps = true → k = ps.length ∧ ps.length ≤ c ∧ Own w' B A (strs ps))
set_option maxHeartbeats 400000 in
theorem l3Open_any (s : ByteArray) (w : World) (hs : s.size ≤ 1073741824) :
    Calls Tryd.prog 69 #[.string s] w fun e w' => OpnS w.heap.size (cutL s.data.toList) e w' ∧ Below w.heap.size w w' := by
  have hcl := cutL_len s.data.toList
  have HPL := Lib.hid (cutL_part s.data.toList)
  rw [show s.data.toList.length = s.size from by simp] at hcl HPL
  obtain ⟨ps, HPS⟩ : ∃ ps, Hid (ps = cutL s.data.toList) := ⟨_, rfl⟩
  rw [← HPS.out] at hcl HPL ⊢
  go_enter Tryd.func69, Tryd.ntmps69
  go_wp2_with fail
  refine (l14Cut_any s w hs).mono ?_
  rintro e w1 ⟨⟨A, c, rfl, hc, hO⟩, hB1⟩
  rw [← HPS.out] at hc hO ⊢
  have HO := Lib.hid hO
  have hz1 := hB1.size
  clear hO
  go_wp2
  go_loopw [5] (fun q wr => ∃ i : Nat, i ≤ ps.length ∧ q = .int .i64 i ∧ Hid (((ps.take i).all fun p => okT p && (tin p.length == ps.length)) = true) ∧ wr = w1) (fun q _ => ps.length - (intOf q).toNat)
  case atStart => exact ⟨0, Nat.zero_le _, rfl, Lib.hid rfl, rfl⟩
  case round =>
    obtain ⟨i, hi, rfl, HI, rfl⟩ := hrel
    by_cases hil : i < ps.length
    · obtain ⟨g, off, hA, hcell⟩ := HO.out.rd.text hil
      have HA := Lib.hid hA
      have hpl : ps[i].length ≤ s.size := HPL.out _ (List.getElem_mem hil)
      subst hA
      by_cases h1 : okT ps[i] = true
      · by_cases h2 : tin ps[i].length = ps.length
        · have HI2 := Lib.hid (okN_take hil HI.out h1 h2)
          have hd : (inN ps[i].length != (ps.length : Int)) = false := by
            rw [inN_yes (by rw [h2]; omega), h2]; exact bne_self_eq_false _
          have h1' := h1
          clear h1 h2
          go_wp2_with (first
            | (go_at_call 94; refine (sTableValidL ps[i] _ (by omega)).mono ?_; rintro e w2 ⟨rfl, rfl⟩; rw [h1'])
            | (go_at_call 95; refine (l1Inputs_any _ _ (by omega)).mono ?_; rintro e w3 ⟨rfl, rfl⟩))
          go_roundw
          case rel => exact ⟨i + 1, by omega, by go_num, HI2, trivial⟩
          case measure => simp [intOf]; omega
        · have hd : (inN ps[i].length != (ps.length : Int)) = true := by
            unfold inN
            split
            · simp
            · simp; omega
          have HN : Hid (okN ps = false) := Lib.hid (okN_bad (List.getElem_mem hil) (.inr h2))
          have h1' := h1
          clear h1 h2
          go_wp2_with (first
            | (go_at_call 94; refine (sTableValidL ps[i] _ (by omega)).mono ?_; rintro e w2 ⟨rfl, rfl⟩; rw [h1'])
            | (go_at_call 95; refine (l1Inputs_any _ _ (by omega)).mono ?_; rintro e w3 ⟨rfl, rfl⟩))
          go_ret2
          exact ⟨⟨_, _, _, by rw [HN.out]; rfl, fun h => by rw [HN.out] at h; cases h⟩, hB1.alloc (by omega) _⟩
      · have h1' : okT ps[i] = false := by simpa using h1
        have HN : Hid (okN ps = false) := Lib.hid (okN_bad (List.getElem_mem hil) (.inl h1'))
        clear h1
        go_wp2_with (go_at_call 94; refine (sTableValidL ps[i] _ (by omega)).mono ?_; rintro e w2 ⟨rfl, rfl⟩; rw [h1'])
        go_ret2
        exact ⟨⟨_, _, _, by rw [HN.out]; rfl, fun h => by rw [HN.out] at h; cases h⟩, hB1.alloc (by omega) _⟩
    · have HN : Hid (okN ps = true) := Lib.hid (by
        have h := HI.out
        rw [List.take_of_length_le (by omega)] at h
        exact h)
      go_wp2_with fail
      go_ret2
      exact ⟨⟨_, _, _, by rw [HN.out]; rfl, fun _ => ⟨rfl, hc, HO.out⟩⟩, hB1⟩

theorem l1At_any (l : List UInt8) (s : Nat) (w : World) (hs : s < l.length) (hb : Hid (b01 l[s] = true)) :
    Calls Tryd.prog 98 #[.string ⟨l.toArray⟩, .int .i64 (s : Int)] w fun e w' => e = .returned (.int .i64 (val l s : Int)) ∧ w = w' := by
  have hr : 48 ≤ (l[s].toNat : Int) ∧ (l[s].toNat : Int) ≤ 49 := by have := hb.out; simp [b01] at this; omega
  obtain ⟨hr1, hr2⟩ := hr
  have hv : Hid ((val l s : Int) = (l[s].toNat : Int) - 48) := Lib.hid (by rw [val_get hs]; omega)
  have hs2 : s < (⟨l.toArray⟩ : ByteArray).size := by rw [str_size]; exact hs
  have he : (⟨l.toArray⟩ : ByteArray)[s] = l[s] := by rfl
  go_enter Tryd.func98, Tryd.ntmps98
  go_wp2
  go_ret
  exact ⟨ret_int hv.out.symm, rfl⟩

theorem l1Set_any (s i v : Nat) (w : World) (hs : s < 32) (hi : i < 5) (hv : v < 2) :
    Calls Tryd.prog 117 #[.int .i64 (s : Int), .int .i64 (i : Int), .int .i64 (v : Int)] w fun e w' => e = .returned (.int .i64 (holdN s i v : Int)) ∧ w = w' := by
  have hb := hold_bits s hs i hi v hv
  go_enter Tryd.func117, Tryd.ntmps117
  go_wp2
  go_ret
  exact ⟨rfl, rfl⟩

theorem l3All_any (A : Option Addr) (n c N : Nat) (w : World) (hn : n ≤ 5) (HN : Hid (N = 2 ^ n)) :
    Calls Tryd.prog 67 #[.slice A n c] w fun e w' => e = .returned (.int .i64 ((N : Int) - 1)) ∧ w = w' := by
  have hN : wrap64 ((2 : Int) ^ n) = (N : Int) := by
    rw [HN.out, show ((2 : Int) ^ n) = ((2 ^ n : Nat) : Int) by simp]
    exact wrap64_small _ (two_le n hn)
  have hN32 : N ≤ 32 := by rw [HN.out]; exact two_le n hn
  go_enter Tryd.func67, Tryd.ntmps67
  go_wp2
  simp only [hN]
  go_ret
  exact ⟨rfl, rfl⟩

/-- what the opening of a network's text at a state hands back -/
def StS (B : Nat) (ps : List (List UInt8)) (t : Int) (e : Ending) (w' : World) : Prop :=
  ∃ A k c, e = .returned (.tuple #[.slice A k c, .bool (okSt ps t)]) ∧ (okSt ps t = true → k = ps.length ∧ ps.length ≤ c ∧ Own w' B A (strs ps))
theorem l3State_any (s : ByteArray) (t : Int) (w : World) (hs : s.size ≤ 1073741824) :
    Calls Tryd.prog 63 #[.string s, .int .i64 t] w fun e w' => StS w.heap.size (cutL s.data.toList) t e w' ∧ Below w.heap.size w w' := by
  obtain ⟨ps, HPS⟩ : ∃ ps, Hid (ps = cutL s.data.toList) := ⟨_, rfl⟩
  rw [← HPS.out]
  by_cases h : okN ps = true
  · obtain ⟨N, HN, hN, hN32, hN0⟩ := wrap_two ps.length (okN_le h)
    have HST := Lib.hid (okSt_of (t := t) h HN.out)
    have hn5 := okN_le h
    have HOK := Lib.hid h
    clear h
    go_enter Tryd.func63, Tryd.ntmps63
    go_wp2_with fail
    refine (l3Open_any s w hs).mono ?_
    rintro e w1 ⟨⟨A, k, c, rfl, himp⟩, hB1⟩
    rw [← HPS.out] at himp ⊢
    obtain ⟨rfl, hc, hO⟩ := himp HOK.out
    rw [HOK.out]
    have HO := Lib.hid hO
    clear hO himp
    go_wp2_with fail
    refine (l3All_any _ _ _ N _ hn5 HN).mono ?_
    rintro e w2 ⟨rfl, rfl⟩
    go_wp2_with fail
    refine (l1In_any _ _ _ _).mono ?_
    rintro e w2 ⟨rfl, rfl⟩
    go_wp2
    go_ret2
    exact ⟨⟨_, _, _, by rw [HST.out]; rfl, fun _ => ⟨rfl, hc, HO.out⟩⟩, hB1⟩
  · have h' : okN ps = false := by simpa using h
    have HST := Lib.hid (okSt_no (t := t) h')
    have HOK := Lib.hid h'
    clear h h'
    go_enter Tryd.func63, Tryd.ntmps63
    go_wp2_with fail
    refine (l3Open_any s w hs).mono ?_
    rintro e w1 ⟨⟨A, k, c, rfl, himp⟩, hB1⟩
    clear himp
    rw [← HPS.out, HOK.out]
    go_wp2
    go_ret2
    exact ⟨⟨_, _, _, by rw [HST.out]; rfl, fun h => by rw [HST.out] at h; cases h⟩, hB1⟩

theorem l3Step_any (A : Option Addr) (c : Nat) (ps : List (List UInt8)) (s W : Nat) (w : World) (hx : Hid (Rd w A (strs ps))) (hok : Hid (okN ps = true)) (hs : Hid (s < 2 ^ ps.length)) (hW : W < 32) :
    Calls Tryd.prog 109 #[.slice A ps.length c, .int .i64 (s : Int), .int .i64 (W : Int)] w fun e w' => e = .returned (.int .i64 (stW (nb ps s) s W ps.length : Int)) ∧ w = w' := by
  have hn5 := okN_le hok.out
  obtain ⟨N, HN, hN, hN32, hN0⟩ := wrap_two ps.length hn5
  have hsN : s < N := by rw [HN.out]; exact hs.out
  have HLT := Lib.hid (fun k hk => stW_lt (W := W) (nb_lt hok.out s) hn5 hs.out k hk)
  rw [← HN.out] at HLT
  go_enter Tryd.func109, Tryd.ntmps109
  go_wp2
  go_loopw [7, 8] (fun v q wr => ∃ k o : Nat, k ≤ ps.length ∧ q = .int .i64 k ∧ v = .int .i64 o ∧ Hid (o = stW (nb ps s) s W k) ∧ wr = w) (fun _ q _ => ps.length - (intOf q).toNat)
  case atStart => exact ⟨0, s, Nat.zero_le _, rfl, rfl, rfl, rfl⟩
  case round =>
    obtain ⟨k, o, hk, rfl, rfl, HO, rfl⟩ := hrel
    by_cases hlt : k < ps.length
    · have ho : o < N := by rw [HO.out]; exact HLT.out k hk
      obtain ⟨g, off, hA, hcell⟩ := hx.out.text hlt
      have hpl : ps[k].length = N := part_len hok.out HN.out hlt
      subst hA
      have hsl : s < ps[k].length := by omega
      have hb01 := Lib.hid (part_b01 hok.out hlt hsl)
      have hv2 : val ps[k] s < 2 := by rw [← nb_at s hlt]; exact nb_lt hok.out s k
      by_cases hw : bit W k = 1
      · have HO2 : Hid (holdN o k (val ps[k] s) = stW (nb ps s) s W (k + 1)) := Lib.hid (by rw [stW, if_pos hw, ← HO.out, nb_at s hlt])
        have hd : ((bit W k : Int) == 1) = true := by rw [hw]; rfl
        clear hw
        go_wp2_with (first
          | (go_at_call 103; refine (l1Bit_any _ _ _ (by omega) (by omega)).mono ?_; rintro e w2 ⟨rfl, rfl⟩)
          | (go_at_call 98; refine (l1At_any _ _ _ hsl hb01).mono ?_; rintro e w2 ⟨rfl, rfl⟩)
          | (go_at_call 117; refine (l1Set_any _ _ _ _ (by omega) (by omega) hv2).mono ?_; rintro e w2 ⟨rfl, rfl⟩))
        go_roundw
        case rel => exact ⟨k + 1, _, by omega, by go_num, rfl, HO2, trivial⟩
        case measure => simp [intOf]; omega
      · have HO2 : Hid (o = stW (nb ps s) s W (k + 1)) := Lib.hid (by rw [stW, if_neg hw, ← HO.out])
        have hd : ((bit W k : Int) == 1) = false := by simp; omega
        clear hw
        go_wp2_with (go_at_call 103; refine (l1Bit_any _ _ _ (by omega) (by omega)).mono ?_; rintro e w2 ⟨rfl, rfl⟩)
        go_roundw
        case rel => exact ⟨k + 1, _, by omega, by go_num, rfl, HO2, trivial⟩
        case measure => simp [intOf]; omega
    · have hkn : k = ps.length := by omega
      subst hkn
      go_wp2
      go_ret
      exact ⟨by rw [← HO.out]; rfl, rfl⟩

theorem l3AllN_any (A : Option Addr) (n c N : Nat) (w : World) (hn : n ≤ 5) (HN : Hid (N = 2 ^ n)) (h0 : 0 < N) :
    Calls Tryd.prog 67 #[.slice A n c] w fun e w' => e = .returned (.int .i64 ((N - 1 : Nat) : Int)) ∧ w = w' := by
  have h := l3All_any A n c N w hn HN
  rwa [show ((N : Int) - 1) = ((N - 1 : Nat) : Int) by omega] at h
theorem l3StepA_any (A : Option Addr) (c : Nat) (ps : List (List UInt8)) (s N : Nat) (w : World) (hx : Hid (Rd w A (strs ps))) (hok : Hid (okN ps = true)) (HN : Hid (N = 2 ^ ps.length)) (hs : Hid (s < 2 ^ ps.length)) :
    Calls Tryd.prog 109 #[.slice A ps.length c, .int .i64 (s : Int), .int .i64 ((N - 1 : Nat) : Int)] w fun e w' => e = .returned (.int .i64 (stp ps s : Int)) ∧ w = w' := by
  have h32 := two_le _ (okN_le hok.out)
  have h := l3Step_any A c ps s (N - 1) w hx hok hs (by have := HN.out; omega)
  have e : stW (nb ps s) s (N - 1) ps.length = stp ps s := by rw [HN.out]; exact stp_of hok.out hs.out
  rwa [e] at h

theorem nextTo_yes {ps : List (List UInt8)} {s k : Nat} (h : ¬ stp1 ps s k = s) : ints (nextTo ps s (k + 1)) = ints (nextTo ps s k) ++ [(stp1 ps s k : Int)] := by rw [nextTo, if_neg h, ints_append]; rfl
theorem nextTo_no {ps : List (List UInt8)} {s k : Nat} (h : stp1 ps s k = s) : ints (nextTo ps s (k + 1)) = ints (nextTo ps s k) := by rw [nextTo, if_pos h]
theorem l5Next_any (A : Option Addr) (c : Nat) (ps : List (List UInt8)) (s : Nat) (w : World) (hx : Hid (Rd w A (strs ps))) (hok : Hid (okN ps = true)) (hs : Hid (s < 2 ^ ps.length)) :
    Calls Tryd.prog 92 #[.slice A ps.length c, .int .i64 (s : Int)] w fun e w' => RetI w.heap.size (ints (nextN ps s)) e w' ∧ Below w.heap.size w w' := by
  have hn5 := okN_le hok.out
  have h32 : s < 32 := Nat.lt_of_lt_of_le hs.out (two_le _ hn5)
  unfold nextN
  go_enter Tryd.func92, Tryd.ntmps92
  go_wp2
  go_loopw [5, 6] (fun v q wr => ∃ k : Nat, k ≤ ps.length ∧ q = .int .i64 k ∧ Hid (OI wr w.heap.size 3 v (ints (nextTo ps s k))) ∧ Below w.heap.size w wr) (fun _ q _ => ps.length - (intOf q).toNat)
  case atStart => exact ⟨0, Nat.zero_le _, rfl, Lib.hid (OI.empty _ _ _ (Nat.le_refl _)), (Below.refl _ _).alloc (Nat.le_refl _) _⟩
  case round =>
    obtain ⟨k, hk, rfl, HO, hB⟩ := hrel
    have HR := Lib.hid (hx.out.below hB)
    have hsz := hB.size
    have hlen : (ints (nextTo ps s k)).length ≤ k := by rw [ints_length]; exact nextTo_len _ _ _
    by_cases hlt : k < ps.length
    · obtain ⟨W, HW, hW, hW32, hW0⟩ := wrap_two k (by omega)
      have hWlt : W < 32 := by
        rw [HW.out]
        have : 2 ^ k ≤ 2 ^ 4 := Nat.pow_le_pow_right (by omega) (by omega)
        omega
      have HS : Hid (stW (nb ps s) s W ps.length = stp1 ps s k) := Lib.hid (by rw [HW.out]; exact stp1_of hok.out hs.out hlt)
      by_cases he : stp1 ps s k = s
      · have HE := Lib.hid (nextTo_no he)
        have hd : ((stp1 ps s k : Int) != (s : Int)) = false := by rw [he]; exact bne_self_eq_false _
        clear he
        go_wp2_with fail
        simp only [hW]
        go_wp2_with (go_at_call 109; refine (l3Step_any _ _ _ _ W _ HR hok hs hWlt).mono ?_; rintro e w2 ⟨rfl, rfl⟩; rw [HS.out])
        go_roundw
        case rel => exact ⟨k + 1, by omega, by go_num, Lib.hid (by rw [HE.out]; exact HO.out), hB⟩
        case measure => simp [intOf]; omega
      · have HE := Lib.hid (nextTo_yes he)
        have hd : ((stp1 ps s k : Int) != (s : Int)) = true := by simp; omega
        clear he
        go_wp2_with fail
        simp only [hW]
        go_wp2_with (first
          | (go_at_call 109; refine (l3Step_any _ _ _ _ W _ HR hok hs hWlt).mono ?_; rintro e w2 ⟨rfl, rfl⟩; rw [HS.out])
          | (at_builtin; refine wp_pushI rfl _ _ _ rfl Tryd.underlying25 info_int HO.out rfl rfl (by omega) hsz ?_; intro v' w3 hown hbel hsz3))
        go_roundw
        case rel => exact ⟨k + 1, by omega, by go_num, Lib.hid (by rw [HE.out]; exact hown), hB.trans (hbel _ (Nat.le_refl _))⟩
        case measure => simp [intOf]; omega
    · have hkn : k = ps.length := by omega
      subst hkn
      obtain ⟨A', c', hv, hc, hO⟩ := HO.out.form
      have HV := Lib.hid hv
      clear hv
      go_wp2
      go_ret
      exact ⟨⟨A', c', by rw [← HV.out]; rfl, hc, hO⟩, hB⟩

end Go.Proofs.YtfkdameegljkeaaDoor

/- Walks of the program's functions on the steps of networks. -/
namespace Go.Proofs.YtfkdameegljkeaaDoor
open Go.RowKit

theorem states_any (A : Option Addr) (n c N : Nat) (w : World) (hn : n ≤ 5) (HN : Hid (N = 2 ^ n)) :
    Calls Tryd.prog 37 #[.slice A n c] w fun e w' => e = .returned (.int .i64 (N : Int)) ∧ w = w' := by
  have hN : wrap64 ((2 : Int) ^ n) = (N : Int) := by
    rw [HN.out, show ((2 : Int) ^ n) = ((2 ^ n : Nat) : Int) by simp]
    exact wrap64_small _ (two_le n hn)
  go_enter Tryd.func37, Tryd.ntmps37
  go_wp2
  simp only [hN]
  go_ret
  exact ⟨rfl, rfl⟩

theorem hold_any (s i v : Nat) (w : World) (hs : s < 32) (hi : i < 5) (hv : v < 2) :
    Calls Tryd.prog 108 #[.int .i64 (s : Int), .int .i64 (i : Int), .int .i64 (v : Int)] w fun e w' => e = .returned (.int .i64 (holdN s i v : Int)) ∧ ∃ n, w.drewN n = w' := by
  have hb := hold_bits s hs i hi v hv
  go_enter Tryd.func108, Tryd.ntmps108
  go_wp2_with fail
  go_quiet (fail)
  go_wp2_with fail
  go_ret
  exact ⟨rfl, _, rfl⟩

theorem netL_range {w : World} {A : Option Addr} {ps : List (List UInt8)} {i : Nat} (h : Rd w A (netL ps)) (hi : i < ps.length) :
    ∃ g off, A = some ⟨g, off, none⟩ ∧ w.rangeAt g (off + i * 33) (tabL ps.length (tv ps.length ps[i])) := by
  have h0 : (netL ps)[33 * i + 0]? = some (.int .i64 (ps.length : Int)) := (netT_get _ ps i 0 hi (by omega)).trans (tabL_n _ _)
  obtain ⟨g, off, rfl, hc⟩ := h.at_ h0
  refine ⟨g, off, rfl, fun j v hj => ?_⟩
  have hj33 : j < 33 := by
    have := (List.getElem?_eq_some_iff.1 hj).1
    rwa [tabL_length] at this
  have := h.cell ((netT_get _ ps i j hi hj33).trans hj)
  rwa [← Nat.add_assoc, Nat.mul_comm] at this
theorem netL_bit {w : World} {A : Option Addr} {ps : List (List UInt8)} {i s : Nat} (h : Rd w A (netL ps)) (hi : i < ps.length) (h5 : ps.length ≤ 5) (hs : s < 2 ^ ps.length) :
    ∃ g off, A = some ⟨g, off, none⟩ ∧ w.cell? ⟨g, off + i * 33 + 1 + s, none⟩ = some (.int .u8 (nb ps s i : Int)) := by
  obtain ⟨g, off, rfl, hr⟩ := netL_range h hi
  have h32 := two_le _ h5
  exact ⟨g, off, rfl, by rw [Nat.add_assoc (off + i * 33)]; exact hr _ _ (by rw [tabL_b _ _ _ (by omega), tv, if_pos hs, nb_at s hi])⟩

theorem stepOne_any (A : Option Addr) (c : Nat) (ps : List (List UInt8)) (s i : Nat) (w : World) (hx : Hid (Rd w A (netL ps))) (hok : Hid (okN ps = true)) (hs : Hid (s < 2 ^ ps.length)) (hi : i < ps.length) :
    Calls Tryd.prog 90 #[.slice A ps.length c, .int .i64 (s : Int), .int .i64 (i : Int)] w fun e w' => e = .returned (.int .i64 (stp1 ps s i : Int)) ∧ ∃ n, w.drewN n = w' := by
  have hn5 := okN_le hok.out
  have h32 : s < 32 := Nat.lt_of_lt_of_le hs.out (two_le _ hn5)
  obtain ⟨g, off, hA, hc⟩ := netL_bit hx.out hi hn5 hs.out
  subst hA
  have hv2 := nb_lt hok.out s i
  go_enter Tryd.func90, Tryd.ntmps90
  go_wp2_with fail
  refine (hold_any s i (nb ps s i) _ h32 (by omega) hv2).mono ?_
  rintro e w2 ⟨rfl, n, rfl⟩
  go_wp2
  go_ret
  exact ⟨rfl, _, rfl⟩

theorem next_any (A : Option Addr) (c : Nat) (ps : List (List UInt8)) (s : Nat) (w : World) (hx : Hid (Rd w A (netL ps))) (hok : Hid (okN ps = true)) (hs : Hid (s < 2 ^ ps.length)) :
    Calls Tryd.prog 60 #[.slice A ps.length c, .int .i64 (s : Int)] w fun e w' => RetI w.heap.size (ints (nextN ps s)) e w' ∧ Below w.heap.size w w' := by
  have hn5 := okN_le hok.out
  unfold nextN
  go_enter Tryd.func60, Tryd.ntmps60
  go_wp2
  go_loopw [5, 10] (fun v q wr => ∃ k : Nat, k ≤ ps.length ∧ q = .int .i64 k ∧ Hid (OI wr w.heap.size 3 v (ints (nextTo ps s k))) ∧ Below w.heap.size w wr) (fun _ q _ => ps.length - (intOf q).toNat)
  case atStart => exact ⟨0, Nat.zero_le _, rfl, Lib.hid (OI.nil _ _ _), Below.refl _ _⟩
  case round =>
    obtain ⟨k, hk, rfl, HO, hB⟩ := hrel
    have hsz := hB.size
    have HR := Lib.hid (hx.out.below hB)
    have hlen : (ints (nextTo ps s k)).length ≤ k := by rw [ints_length]; exact nextTo_len _ _ _
    by_cases hlt : k < ps.length
    · by_cases he : stp1 ps s k = s
      · have HE := Lib.hid (nextTo_no he)
        have hd : ((stp1 ps s k : Int) != (s : Int)) = false := by rw [he]; exact bne_self_eq_false _
        clear he
        go_wp2_with (go_at_call 90; refine (stepOne_any _ _ _ _ _ _ HR hok hs hlt).mono ?_; rintro e w2 ⟨rfl, n, rfl⟩)
        go_roundw
        case rel => exact ⟨k + 1, by omega, by go_num, Lib.hid (by rw [HE.out]; exact HO.out.drewN n), below_drewN hB _⟩
        case measure => simp [intOf]; omega
      · have HE := Lib.hid (nextTo_yes he)
        have hd : ((stp1 ps s k : Int) != (s : Int)) = true := by simp; omega
        clear he
        go_wp2_with (first
          | (go_at_call 90; refine (stepOne_any _ _ _ _ _ _ HR hok hs hlt).mono ?_; rintro e w2 ⟨rfl, n, rfl⟩)
          | (at_builtin; refine wp_pushI rfl _ _ _ rfl Tryd.underlying25 info_int (HO.out.drewN n) rfl rfl (by omega) hsz ?_; intro v' w3 hown hbel hsz3))
        go_roundw
        case rel => exact ⟨k + 1, by omega, by go_num, Lib.hid (by rw [HE.out]; exact hown), (below_drewN hB _).trans (hbel _ (Nat.le_refl _))⟩
        case measure => simp [intOf]; omega
    · have hkn : k = ps.length := by omega
      subst hkn
      go_wp2_with (go_at_call 38; refine (clip_any _ _ _ _ _ HO.out).mono ?_; rintro e w2 ⟨⟨A', c', rfl, hc, hO⟩, rfl⟩)
      go_ret
      exact ⟨⟨A', c', rfl, hc, hO⟩, hB⟩

/-- what the reading of a network and a state hands back -/
def NetS (B : Nat) (ps : List (List UInt8)) (t : Int) (e : Ending) (w' : World) : Prop :=
  ∃ A k c, e = .returned (.tuple #[.slice A k c, .bool (okSt ps t)]) ∧ (okSt ps t = true → k = ps.length ∧ ps.length ≤ c ∧ Own w' B A (netL ps))
theorem stateOf_any (s : ByteArray) (t : Int) (w : World) (hm : Hid (HasM w)) (hs : s.size ≤ 1073741824) :
    Calls Tryd.prog 35 #[.string s, .int .i64 t] w fun e w' => NetS w.heap.size (cutL s.data.toList) t e w' ∧ Below w.heap.size w w' := by
  obtain ⟨ps, HPS⟩ : ∃ ps, Hid (ps = cutL s.data.toList) := ⟨_, rfl⟩
  rw [← HPS.out]
  by_cases h : okN ps = true
  · obtain ⟨N, HN, hN, hN32, hN0⟩ := wrap_two ps.length (okN_le h)
    have hn5 := okN_le h
    have HOK := Lib.hid h
    by_cases h0 : 0 ≤ t
    · have HST : Hid (okSt ps t = decide (t < (N : Int))) := Lib.hid (by rw [okSt_of h HN.out, Bool.eq_iff_iff]; simp; omega)
      clear h
      go_enter Tryd.func35, Tryd.ntmps35
      go_wp2_with fail
      refine (readNetwork_any s w hm hs).mono ?_
      rintro e w1 ⟨⟨A, k, c, rfl, himp⟩, hB1⟩
      rw [← HPS.out] at himp ⊢
      obtain ⟨rfl, hc, hO⟩ := himp HOK.out
      rw [HOK.out]
      have HO := Lib.hid hO
      clear hO himp
      go_wp2_with fail
      refine (states_any _ _ _ N _ hn5 HN).mono ?_
      rintro e w2 ⟨rfl, rfl⟩
      go_wp2
      go_ret2
      exact ⟨⟨_, _, _, by rw [HST.out]; rfl, fun _ => ⟨rfl, hc, HO.out⟩⟩, hB1⟩
    · have HST : Hid (okSt ps t = false) := Lib.hid (by rw [okSt_of h HN.out, decide_eq_false h0, Bool.false_and])
      clear h
      go_enter Tryd.func35, Tryd.ntmps35
      go_wp2_with fail
      refine (readNetwork_any s w hm hs).mono ?_
      rintro e w1 ⟨⟨A, k, c, rfl, himp⟩, hB1⟩
      clear himp
      rw [← HPS.out, HOK.out]
      go_wp2
      go_ret2
      exact ⟨⟨_, _, _, by rw [HST.out]; rfl, fun h => by rw [HST.out] at h; cases h⟩, hB1⟩
  · have h' : okN ps = false := by simpa using h
    have HST := Lib.hid (okSt_no (t := t) h')
    have HOK := Lib.hid h'
    clear h h'
    go_enter Tryd.func35, Tryd.ntmps35
    go_wp2_with fail
    refine (readNetwork_any s w hm hs).mono ?_
    rintro e w1 ⟨⟨A, k, c, rfl, himp⟩, hB1⟩
    clear himp
    rw [← HPS.out, HOK.out]
    go_wp2
    go_ret2
    exact ⟨⟨_, _, _, by rw [HST.out]; rfl, fun h => by rw [HST.out] at h; cases h⟩, hB1⟩

end Go.Proofs.YtfkdameegljkeaaDoor

/- Walks: slices of integers, the states of a term. -/
namespace Go.Proofs.YtfkdameegljkeaaDoor
open Go.RowKit

set_option maxHeartbeats 400000 in
theorem statesOf_any (t : ByteArray) (w : World) (ht : t.size ≤ 5) (hok : Hid (t.data.toList.all okc = true)) :
    Calls Tryd.prog 74 #[.string t] w fun e w' => RetI w.heap.size (ints (stL t.data.toList)) e w' ∧ Below w.heap.size w w' := by
  obtain ⟨N, HN, hN, hNb, _⟩ := wrap_two t.size ht
  rw [stL_of HN.out]
  go_enter Tryd.func74, Tryd.ntmps74
  go_wp2
  simp only [hN]
  go_loopw [3, 8] (fun v i wr => ∃ k : Nat, k ≤ N ∧ i = .int .i64 k ∧ Hid (OI wr w.heap.size 3 v (ints (sel k (hasS t.data.toList)))) ∧ Below w.heap.size w wr) (fun _ i _ => N - (intOf i).toNat)
  case atStart => exact ⟨0, Nat.zero_le _, rfl, Lib.hid (OI.nil _ _ _), Below.refl _ _⟩
  case round =>
    obtain ⟨k, hk, rfl, HO, hB⟩ := hrel
    have hsz := hB.size
    have hlen : (ints (sel k (hasS t.data.toList))).length ≤ k := by rw [ints_length]; exact sel_len _ _
    by_cases hlt : k < N
    · by_cases hs : hasS t.data.toList k = true
      · have HS := Lib.hid (sel_yesI hs)
        go_wp2_with (first
          | (go_at_call 99; refine (hasState_any _ _ _ (by omega) (by omega) hok).mono ?_; rintro e w2 ⟨rfl, n, rfl⟩)
          | (at_builtin; refine wp_pushI rfl _ _ _ rfl Tryd.underlying25 info_int (HO.out.drewN n) rfl rfl (by omega) hsz ?_; intro v' w3 hown hbel hsz3))
        go_roundw
        case rel => exact ⟨k + 1, by omega, by go_num, Lib.hid (by rw [HS.out]; exact hown), (below_drewN hB _).trans (hbel _ (Nat.le_refl _))⟩
        case measure => simp [intOf]; omega
      · have hs' : hasS t.data.toList k = false := by simpa using hs
        have HS := Lib.hid (sel_noI hs')
        clear hs
        go_wp2_with (go_at_call 99; refine (hasState_any _ _ _ (by omega) (by omega) hok).mono ?_; rintro e w2 ⟨rfl, n, rfl⟩)
        go_roundw
        case rel => exact ⟨k + 1, by omega, by go_num, Lib.hid (by rw [HS.out]; exact HO.out.drewN n), below_drewN hB _⟩
        case measure => simp [intOf]; omega
    · have hkn : k = N := by omega
      subst hkn
      go_wp2_with (go_at_call 38; refine (clip_any _ _ _ _ _ HO.out).mono ?_; rintro e w2 ⟨⟨A, c, rfl, hc, hO⟩, rfl⟩)
      go_ret
      exact ⟨⟨A, c, rfl, hc, hO⟩, hB⟩

end Go.Proofs.YtfkdameegljkeaaDoor

/- The walk of MeetTerms: what each returns. -/
namespace Go.Proofs.YtfkdameegljkeaaDoor
open Go.RowKit

end Go.Proofs.YtfkdameegljkeaaDoor

/- Walks of IsTrap and TrapsOf. -/
namespace Go.Proofs.YtfkdameegljkeaaDoor
open Go.RowKit
set_option linter.unusedVariables false

/-- does no step leave a term? -/
def trpB (ps : List (List UInt8)) (l : List UInt8) : Bool := (stL l).all fun s => hasS l (stp ps s)
theorem stL_lt {l : List UInt8} {s : Nat} (h : s ∈ stL l) : s < 2 ^ l.length := by simp [stL, sel] at h; exact h.1
theorem trp_bad {ps : List (List UInt8)} {l : List UInt8} {k : Nat} (hk : k < (stL l).length) (h : hasS l (stp ps (stL l)[k]) = false) : trpB ps l = false := by
  cases ha : trpB ps l
  · rfl
  · have := List.all_eq_true.1 ha _ (List.getElem_mem hk)
    rw [h] at this; cases this
theorem trp_all {ps : List (List UInt8)} {l : List UInt8} (h : ∀ k, (hk : k < (stL l).length) → hasS l (stp ps (stL l)[k]) = true) : trpB ps l = true := by
  refine List.all_eq_true.2 fun s hs => ?_
  obtain ⟨k, hk, rfl⟩ := List.getElem_of_mem hs
  exact h k hk
theorem stL_len (l : List UInt8) (h : l.length ≤ 5) : (stL l).length ≤ 32 := Nat.le_trans (sel_len _ _) (two_le _ h)
/-- a term of a network's switches, no step of which leaves it -/
def itrN (ps : List (List UInt8)) (l : List UInt8) : Bool := okN ps && TV l ps.length && trpB ps l

/-- is it a network, and a term of its switches? -/
def okTm (ps : List (List UInt8)) (l : List UInt8) : Bool := okN ps && TV l ps.length
theorem okTm_true {ps : List (List UInt8)} {l : List UInt8} (h : okTm ps l = true) : okN ps = true ∧ TV l ps.length = true := by rwa [okTm, Bool.and_eq_true] at h

/-- what the reading of a network and a term hands back -/
def NetT2 (B : Nat) (ps : List (List UInt8)) (l : List UInt8) (e : Ending) (w' : World) : Prop :=
  ∃ A k c, e = .returned (.tuple #[.slice A k c, .bool (okTm ps l)]) ∧ (okTm ps l = true → k = ps.length ∧ ps.length ≤ c ∧ Own w' B A (netL ps))
theorem termOf_any (s t : ByteArray) (w : World) (hm : Hid (HasM w)) (hs : s.size ≤ 1073741824) (ht : t.size ≤ 1073741824) :
    Calls Tryd.prog 42 #[.string s, .string t] w fun e w' => NetT2 w.heap.size (cutL s.data.toList) t.data.toList e w' ∧ Below w.heap.size w w' := by
  obtain ⟨ps, HPS⟩ : ∃ ps, Hid (ps = cutL s.data.toList) := ⟨_, rfl⟩
  rw [← HPS.out]
  by_cases h : okN ps = true
  · have hn5 := okN_le h
    have HOK := Lib.hid h
    have HT : Hid (okTm ps t.data.toList = TV t.data.toList ps.length) := Lib.hid (by rw [okTm, h]; rfl)
    clear h
    go_enter Tryd.func42, Tryd.ntmps42
    go_wp2_with fail
    refine (readNetwork_any s w hm hs).mono ?_
    rintro e w1 ⟨⟨A, k, c, rfl, himp⟩, hB1⟩
    rw [← HPS.out] at himp ⊢
    obtain ⟨rfl, hc, hO⟩ := himp HOK.out
    rw [HOK.out]
    have HO := Lib.hid hO
    clear hO himp
    go_wp2_with fail
    refine (termValid_any t _ _ (by omega)).mono ?_
    rintro e w2 ⟨rfl, rfl⟩
    go_wp2
    go_ret2
    exact ⟨⟨_, _, _, by rw [HT.out]; rfl, fun _ => ⟨rfl, hc, HO.out⟩⟩, hB1⟩
  · have h' : okN ps = false := by simpa using h
    have HT : Hid (okTm ps t.data.toList = false) := Lib.hid (by rw [okTm, h']; rfl)
    have HOK := Lib.hid h'
    clear h h'
    go_enter Tryd.func42, Tryd.ntmps42
    go_wp2_with fail
    refine (readNetwork_any s w hm hs).mono ?_
    rintro e w1 ⟨⟨A, k, c, rfl, himp⟩, hB1⟩
    clear himp
    rw [← HPS.out, HOK.out]
    go_wp2
    go_ret2
    exact ⟨⟨_, _, _, by rw [HT.out]; rfl, fun h => by rw [HT.out] at h; cases h⟩, hB1⟩

/-- what the reading of a network and a term hands back -/
def NetT3 (B : Nat) (ps : List (List UInt8)) (l : List UInt8) (e : Ending) (w' : World) : Prop :=
  ∃ A k c, e = .returned (.tuple #[.slice A k c, .bool (okTm ps l)]) ∧ (okTm ps l = true → k = ps.length ∧ ps.length ≤ c ∧ Own w' B A (strs ps))
theorem l6Term_any (s t : ByteArray) (w : World) (hs : s.size ≤ 1073741824) (ht : t.size ≤ 1073741824) :
    Calls Tryd.prog 40 #[.string s, .string t] w fun e w' => NetT3 w.heap.size (cutL s.data.toList) t.data.toList e w' ∧ Below w.heap.size w w' := by
  obtain ⟨ps, HPS⟩ : ∃ ps, Hid (ps = cutL s.data.toList) := ⟨_, rfl⟩
  rw [← HPS.out]
  by_cases h : okN ps = true
  · have hn5 := okN_le h
    have HOK := Lib.hid h
    have HT : Hid (okTm ps t.data.toList = TV t.data.toList ps.length) := Lib.hid (by rw [okTm, h]; rfl)
    clear h
    go_enter Tryd.func40, Tryd.ntmps40
    go_wp2_with fail
    refine (l3Open_any s w hs).mono ?_
    rintro e w1 ⟨⟨A, k, c, rfl, himp⟩, hB1⟩
    rw [← HPS.out] at himp ⊢
    obtain ⟨rfl, hc, hO⟩ := himp HOK.out
    rw [HOK.out]
    have HO := Lib.hid hO
    clear hO himp
    go_wp2_with fail
    refine (sTermValid_any t _ _ (by omega)).mono ?_
    rintro e w2 ⟨rfl, rfl⟩
    go_wp2
    go_ret2
    exact ⟨⟨_, _, _, by rw [HT.out]; rfl, fun _ => ⟨rfl, hc, HO.out⟩⟩, hB1⟩
  · have h' : okN ps = false := by simpa using h
    have HT : Hid (okTm ps t.data.toList = false) := Lib.hid (by rw [okTm, h']; rfl)
    have HOK := Lib.hid h'
    clear h h'
    go_enter Tryd.func40, Tryd.ntmps40
    go_wp2_with fail
    refine (l3Open_any s w hs).mono ?_
    rintro e w1 ⟨⟨A, k, c, rfl, himp⟩, hB1⟩
    clear himp
    rw [← HPS.out, HOK.out]
    go_wp2
    go_ret2
    exact ⟨⟨_, _, _, by rw [HT.out]; rfl, fun h => by rw [HT.out] at h; cases h⟩, hB1⟩

end Go.Proofs.YtfkdameegljkeaaDoor

/- Walks of fromStep and of the texts of networks. -/
namespace Go.Proofs.YtfkdameegljkeaaDoor
open Go.RowKit
set_option linter.unusedVariables false

/-- the texts of the network of n switches of which a step is f -/
def frS (n : Nat) (f : Nat → Nat) : List (List UInt8) := (List.range n).map fun k => txt (2 ^ n) fun s => bit (f s) k
theorem frS_length (n : Nat) (f : Nat → Nat) : (frS n f).length = n := by simp [frS]
theorem frS_get (n : Nat) (f : Nat → Nat) {k : Nat} (h : k < n) : (frS n f)[k]'(by rw [frS_length]; exact h) = txt (2 ^ n) fun s => bit (f s) k := by simp [frS]
theorem val_txt {N : Nat} {b : Nat → Nat} {s : Nat} (h : s < N) (hb : b s < 2) : val (txt N b) s = b s := by
  rw [val_get (by rw [txt_length]; exact h)]
  simp only [txt, List.getElem_map, List.getElem_range]
  rw [chr_toNat _ (by omega)]
  omega
theorem okT_txt {n : Nat} {b : Nat → Nat} (h1 : 1 ≤ n) (h5 : n ≤ 5) (hb : ∀ s, b s < 2) : okT (txt (2 ^ n) b) = true ∧ tin (txt (2 ^ n) b).length = n := by
  rw [okT, txt_length, tin_pow n h1 h5]
  refine ⟨?_, rfl⟩
  rw [Bool.and_eq_true]
  refine ⟨by simp; omega, List.all_eq_true.2 fun c hc => ?_⟩
  simp only [txt, List.mem_map, List.mem_range] at hc
  obtain ⟨s, _, rfl⟩ := hc
  have := hb s
  have h2 := chr_toNat (b s) (by omega)
  simp only [b01, h2]
  have : b s = 0 ∨ b s = 1 := by omega
  rcases this with h | h <;> rw [h] <;> rfl
theorem frS_ok {n : Nat} {f : Nat → Nat} (h1 : 1 ≤ n) (h5 : n ≤ 5) : okN (frS n f) = true := by
  refine List.all_eq_true.2 fun p hp => ?_
  rw [frS_length]
  simp only [frS, List.mem_map, List.mem_range] at hp
  obtain ⟨k, _, rfl⟩ := hp
  have := okT_txt h1 h5 (fun s => bit_lt (f s) k)
  simp [this.1, this.2]
theorem tv_txt (n : Nat) (b : Nat → Nat) (hb : ∀ s, b s < 2) : tabL n (tv n (txt (2 ^ n) b)) = tabL n fun s => if s < 2 ^ n then b s else 0 :=
  tabL_congr _ _ _ fun s _ => by
    unfold tv
    split
    · rw [val_txt (by assumption) (hb s)]
    · rfl

end Go.Proofs.YtfkdameegljkeaaDoor

/- Plain facts on orbits. -/
namespace Go.Proofs.YtfkdameegljkeaaDoor
open Go.RowKit

/-- the states from s on until one comes again, and the place of the one that comes again; done are those so far -/
def orbGo (f : Nat → Nat) : Nat → List Nat → Nat → List Nat × Nat
  | 0, done, _ => (done, 0)
  | n + 1, done, s => if s ∈ done then (done, done.idxOf s) else orbGo f n (done ++ [s]) (f s)
def orb (f : Nat → Nat) (s : Nat) : List Nat × Nat := orbGo f 33 [] s
/-- the orbit under way -/
structure OrbI (f : Nat → Nat) (N s0 : Nat) (done : List Nat) (t : Nat) : Prop where
  eq : orb f s0 = orbGo f (33 - done.length) done t
  nd : done.Nodup
  lt : ∀ x ∈ done, x < N
  t : t < N
theorem nodup_le : ∀ {N : Nat} {l : List Nat}, l.Nodup → (∀ x ∈ l, x < N) → l.length ≤ N
  | 0, l, _, hl => by
    cases l with
    | nil => simp
    | cons a l => have := hl a (by simp); omega
  | N + 1, l, h, hl => by
    have h1 := nodup_le (N := N) (h.erase N) (by
      intro x hx
      have h2 := (List.Nodup.mem_erase_iff h).1 hx
      have := hl x h2.2
      omega)
    rw [List.length_erase] at h1
    split at h1 <;> omega
theorem OrbI.start (f : Nat → Nat) {N s : Nat} (h : s < N) : OrbI f N s [] s := ⟨rfl, List.nodup_nil, by simp, h⟩
theorem OrbI.len {f : Nat → Nat} {N s0 t : Nat} {done : List Nat} (h : OrbI f N s0 done t) : done.length ≤ N := nodup_le h.nd h.lt
theorem OrbI.more {f : Nat → Nat} {N s0 t : Nat} {done : List Nat} (h : OrbI f N s0 done t) (hN : N ≤ 32) (hf : ∀ x, x < N → f x < N) (hn : t ∉ done) : OrbI f N s0 (done ++ [t]) (f t) := by
  have hl := h.len
  refine ⟨?_, ?_, ?_, hf _ h.t⟩
  · rw [h.eq, show 33 - done.length = (33 - (done ++ [t]).length) + 1 by simp; omega, orbGo, if_neg hn]
  · rw [List.nodup_append]
    exact ⟨h.nd, by simp, by intro a ha b hb; simp at hb; subst hb; intro e; subst e; exact hn ha⟩
  · intro x hx
    rcases List.mem_append.1 hx with hx | hx
    · exact h.lt x hx
    · simp at hx; subst hx; exact h.t
theorem OrbI.fin {f : Nat → Nat} {N s0 t : Nat} {done : List Nat} (h : OrbI f N s0 done t) (hN : N ≤ 32) (hm : t ∈ done) : orb f s0 = (done, done.idxOf t) := by
  have hl := h.len
  rw [h.eq, show 33 - done.length = (32 - done.length) + 1 by omega, orbGo, if_pos hm]
theorem OrbI.room {f : Nat → Nat} {N s0 t : Nat} {done : List Nat} (h : OrbI f N s0 done t) (hn : t ∉ done) : done.length < N := by
  have h2 : (t :: done).Nodup := List.nodup_cons.2 ⟨hn, h.nd⟩
  have := nodup_le (N := N) h2 (fun x hx => (List.mem_cons.1 hx).elim (fun e => e ▸ h.t) (h.lt x))
  rw [List.length_cons] at this
  exact this
/-- what is known of a finished orbit -/
theorem orb_all {f : Nat → Nat} {N s : Nat} (hN : N ≤ 32) (hf : ∀ x, x < N → f x < N) (hs : s < N) :
    (orb f s).1.length ≤ N ∧ (orb f s).2 < (orb f s).1.length ∧ ∀ x ∈ (orb f s).1, x < N := by
  suffices h : ∀ k done t, OrbI f N s done t → done.length + k = 33 → (orb f s).1.length ≤ N ∧ (orb f s).2 < (orb f s).1.length ∧ ∀ x ∈ (orb f s).1, x < N by
    exact h 33 [] s (OrbI.start f hs) rfl
  intro k
  induction k with
  | zero => intro done t h hk; have := h.len; omega
  | succ k ih =>
    intro done t h hk
    by_cases hm : t ∈ done
    · rw [h.fin hN hm]
      exact ⟨h.len, List.idxOf_lt_length_iff.2 hm, h.lt⟩
    · exact ih _ _ (h.more hN hf hm) (by simp; omega)
/-- the marks of the states met: 0, or the place and one -/
def mark (done : List Nat) (t : Nat) : Nat := if t ∈ done then done.idxOf t + 1 else 0
theorem mark_no {done : List Nat} {t : Nat} (h : t ∉ done) : mark done t = 0 := if_neg h
theorem mark_yes {done : List Nat} {t : Nat} (h : t ∈ done) : mark done t = done.idxOf t + 1 := if_pos h
theorem mark_snoc {done : List Nat} {t : Nat} (h : t ∉ done) (x : Nat) : mark (done ++ [t]) x = if x = t then done.length + 1 else mark done x := by
  by_cases e : x = t
  · subst e
    rw [if_pos rfl, mark_yes (by simp), List.idxOf_append, if_neg h]
    simp
  · rw [if_neg e]
    by_cases hx : x ∈ done
    · rw [mark_yes hx, mark_yes (by simp [hx]), List.idxOf_append, if_pos hx]
    · rw [mark_no hx, mark_no (by simp [hx, e])]
def markL (done : List Nat) : List Value := (List.range 32).map fun t => .int .i64 (mark done t : Int)
theorem markL_length (done : List Nat) : (markL done).length = 32 := by simp [markL]
theorem markL_get (done : List Nat) (t : Nat) (h : t < 32) : (markL done)[t]? = some (.int .i64 (mark done t : Int)) := by simp [markL, h]
theorem markL_set {done : List Nat} {t : Nat} (h : t ∉ done) : (markL done).toArray.setIfInBounds t (.int .i64 ((done.length : Int) + 1)) = (markL (done ++ [t])).toArray := by
  apply Array.ext'
  rw [Array.toList_setIfInBounds]
  apply List.ext_getElem?
  intro j
  rw [List.getElem?_set, List.toList_toArray, List.toList_toArray]
  by_cases hj : j < 32
  · rw [markL_get (done ++ [t]) j hj, mark_snoc h]
    by_cases e : t = j
    · subst e
      rw [if_pos rfl, if_pos rfl, if_pos (by rw [markL_length]; exact hj)]
      simp
    · rw [if_neg e, if_neg (Ne.symm e), markL_get _ _ hj]
  · rw [List.getElem?_eq_none (l := markL (done ++ [t])) (by rw [markL_length]; omega)]
    split
    · rw [if_neg (by rw [markL_length]; omega)]
    · rw [List.getElem?_eq_none (by rw [markL_length]; omega)]
/-- the search of a state among those so far -/
theorem idxOf_first {l : List Nat} {k t : Nat} (hk : k < l.length) (h : l[k] = t) (hb : ∀ j, (hj : j < k) → ¬ l[j] = t) : t ∈ l ∧ l.idxOf t = k := by
  have hm : t ∈ l := h ▸ List.getElem_mem hk
  refine ⟨hm, ?_⟩
  have h1 : l.idxOf t < l.length := List.idxOf_lt_length_iff.2 hm
  have h2 : l[l.idxOf t] = t := List.getElem_idxOf h1
  have h3 : ¬ l.idxOf t < k := fun hlt => hb _ hlt h2
  have h4 : ¬ k < l.idxOf t := fun hlt => by
    have := List.not_of_lt_findIdx (p := fun x => x == t) hlt
    simp [h] at this
  omega
theorem not_mem_all {l : List Nat} {t : Nat} (hb : ∀ j, (hj : j < l.length) → ¬ l[j] = t) : t ∉ l := fun hm => by
  obtain ⟨j, hj, e⟩ := List.getElem_of_mem hm
  exact hb j hj e
end Go.Proofs.YtfkdameegljkeaaDoor

/- Plain facts on cycles. -/
namespace Go.Proofs.YtfkdameegljkeaaDoor
open Go.RowKit

def minN (r : List Nat) : Nat := r.foldl min (r.headD 0)
/-- where the least one stands first -/
def mni (r : List Nat) : Nat := r.idxOf (minN r)
theorem foldl_min : ∀ (l : List Nat) (a : Nat), l.foldl min a ≤ a ∧ (∀ x ∈ l, l.foldl min a ≤ x) ∧ (l.foldl min a = a ∨ l.foldl min a ∈ l)
  | [], a => by simp
  | b :: l, a => by
    have ⟨h1, h2, h3⟩ := foldl_min l (min a b)
    rw [List.foldl_cons]
    refine ⟨by omega, fun x hx => ?_, ?_⟩
    · rcases List.mem_cons.1 hx with rfl | hx
      · omega
      · exact h2 x hx
    · rcases h3 with h3 | h3
      · rw [h3]
        by_cases hab : a ≤ b
        · left; omega
        · right; rw [show min a b = b by omega]; simp
      · right; exact List.mem_cons_of_mem _ h3
theorem minN_le {r : List Nat} {x : Nat} (h : x ∈ r) : minN r ≤ x := (foldl_min r _).2.1 x h
theorem minN_mem {r : List Nat} (h : r ≠ []) : minN r ∈ r := by
  cases r with
  | nil => exact absurd rfl h
  | cons a l =>
    rcases (foldl_min (a :: l) a).2.2 with h2 | h2
    · have : minN (a :: l) = a := h2
      rw [this]; simp
    · exact h2
theorem mni_lt {r : List Nat} (h : r ≠ []) : mni r < r.length := List.idxOf_lt_length_iff.2 (minN_mem h)
theorem mni_get {r : List Nat} (h : r ≠ []) : r[mni r]'(mni_lt h) = minN r := List.getElem_idxOf (mni_lt h)
/-- the search of the least one -/
theorem mni_of {r : List Nat} {k : Nat} (hk : k < r.length) (h1 : ∀ j, (hj : j < r.length) → r[k] ≤ r[j]) (h2 : ∀ j, (hj : j < k) → r[k] < r[j]) : mni r = k := by
  have hne : r ≠ [] := by intro e; subst e; simp at hk
  have hm : r[k] = minN r := by
    have a := minN_le (List.getElem_mem hk)
    obtain ⟨j, hj, e⟩ := List.getElem_of_mem (minN_mem hne)
    have b := h1 j hj
    omega
  exact (idxOf_first hk hm (fun j hj => by have := h2 j hj; omega)).2
theorem minOf_ints (r : List Nat) : Lib.minOf (ints r) = (minN r : Int) := by
  have key : ∀ (l : List Nat) (a : Nat), (ints l).foldl min (a : Int) = ((l.foldl min a : Nat) : Int) := by
    intro l
    induction l with
    | nil => intro a; rfl
    | cons b l ih =>
      intro a
      have := ih (min a b)
      rw [List.foldl_cons, ← this]
      show (ints l).foldl min (min (a : Int) (b : Int)) = _
      congr 1
      omega
  unfold Lib.minOf minN
  cases r with
  | nil => rfl
  | cons a l => exact key (a :: l) a
theorem idxOf_ints {r : List Nat} (h : r ≠ []) : Lib.idxOf (ints r) ((minN r : Nat) : Int) = (mni r : Int) := by
  have hk := mni_lt h
  have hl : (ints r).length = r.length := ints_length r
  have hg : ∀ j, (hj : j < r.length) → (ints r).getD j 0 = (r[j] : Int) := fun j hj => by simp [ints, hj]
  have := Lib.idxOf_hit (ints r) r.length (mni r) ((minN r : Nat) : Int) hk (by omega) (by rw [hg _ hk, mni_get h]) (fun j hj e => by
    rw [hg j (by omega)] at e
    have e2 : r[j]'(by omega) = minN r := by omega
    have h3 : ¬ mni r ≤ j := by omega
    have h4 := List.not_of_lt_findIdx (p := fun x => x == minN r) (xs := r) (i := j) (by simpa [mni, List.idxOf] using hj)
    simp [e2] at h4)
  rwa [List.take_of_length_le (by omega)] at this
/-- turned so that the least one comes first -/
def rot (r : List Nat) : List Nat := r.drop (mni r) ++ r.take (mni r)
theorem rot_length (r : List Nat) : (rot r).length = r.length := by
  rw [rot, List.length_append, List.length_drop, List.length_take]; omega
theorem rot_head {r : List Nat} (h : r ≠ []) : ∃ l, rot r = minN r :: l := by
  have hk := mni_lt h
  refine ⟨r.drop (mni r + 1) ++ r.take (mni r), ?_⟩
  rw [rot, ← mni_get h, ← List.cons_append, List.getElem_cons_drop]
/-- the round of a state: the states that come again -/
def rnd (f : Nat → Nat) (s : Nat) : List Nat := (orb f s).1.drop (orb f s).2
/-- the cycle of a state -/
def cyc (f : Nat → Nat) (s : Nat) : List Nat := rot (rnd f s)
/-- its least state -/
def cy0 (f : Nat → Nat) (s : Nat) : Nat := minN (rnd f s)
section
variable {f : Nat → Nat} {N s : Nat} (hN : N ≤ 32) (hf : ∀ x, x < N → f x < N) (hs : s < N)
include hN hf hs
theorem rnd_ne : rnd f s ≠ [] := by
  have h := (orb_all hN hf hs).2.1
  intro e
  have := congrArg List.length e
  rw [rnd, List.length_drop, List.length_nil] at this
  omega
theorem rnd_len : (rnd f s).length ≤ N ∧ 0 < (rnd f s).length := by
  have h := orb_all hN hf hs
  rw [rnd, List.length_drop]
  omega
theorem rnd_lt : ∀ x ∈ rnd f s, x < N := fun x hx => (orb_all hN hf hs).2.2 x (List.mem_of_mem_drop hx)
theorem cyc_len : (cyc f s).length ≤ N ∧ 0 < (cyc f s).length := by rw [cyc, rot_length]; exact rnd_len hN hf hs
theorem cyc_head : ∃ l, cyc f s = cy0 f s :: l := rot_head (rnd_ne hN hf hs)
theorem cyc_lt : ∀ x ∈ cyc f s, x < N := fun x hx => by
  rw [cyc, rot] at hx
  rcases List.mem_append.1 hx with hx | hx
  · exact rnd_lt hN hf hs x (List.mem_of_mem_drop hx)
  · exact rnd_lt hN hf hs x (List.mem_of_mem_take hx)
end
end Go.Proofs.YtfkdameegljkeaaDoor

/- Plain facts: orbits and cycles told as iterates of a step. -/
namespace Go.Proofs.YtfkdameegljkeaaDoor
open Go.RowKit

/-- the state after k steps -/
def itf (f : Nat → Nat) : Nat → Nat → Nat
  | 0, s => s
  | k + 1, s => itf f k (f s)
theorem itf_add (f : Nat → Nat) : ∀ j k s, itf f (j + k) s = itf f k (itf f j s)
  | 0, k, s => by rw [Nat.zero_add]; rfl
  | j + 1, k, s => by rw [show j + 1 + k = (j + k) + 1 by omega]; exact itf_add f j k (f s)
theorem itf_succ (f : Nat → Nat) (k s : Nat) : itf f (k + 1) s = f (itf f k s) := itf_add f k 1 s
theorem itf_lt {f : Nat → Nat} {N s : Nat} (hf : ∀ x, x < N → f x < N) (hs : s < N) : ∀ k, itf f k s < N
  | 0 => hs
  | k + 1 => by rw [itf_succ]; exact hf _ (itf_lt hf hs k)
/-- the first k states -/
def itl (f : Nat → Nat) (s k : Nat) : List Nat := (List.range k).map fun j => itf f j s
theorem itl_len (f : Nat → Nat) (s k : Nat) : (itl f s k).length = k := by simp [itl]
theorem itl_get (f : Nat → Nat) (s k j : Nat) (h : j < k) : (itl f s k)[j]'(by rw [itl_len]; exact h) = itf f j s := by simp [itl]
theorem itl_getD (f : Nat → Nat) (s k j : Nat) (h : j < k) : (itl f s k).getD j 0 = itf f j s := by
  rw [List.getD_eq_getElem?_getD, List.getElem?_eq_getElem (by rw [itl_len]; exact h), Option.getD_some, itl_get _ _ _ _ h]
theorem itl_mem {f : Nat → Nat} {s k x : Nat} : x ∈ itl f s k ↔ ∃ j, j < k ∧ itf f j s = x := by simp [itl]
theorem itl_succ (f : Nat → Nat) (s k : Nat) : itl f s (k + 1) = itl f s k ++ [itf f k s] := by simp [itl, List.range_succ]
theorem itl_add (f : Nat → Nat) (s a : Nat) : ∀ b, itl f s (a + b) = itl f s a ++ itl f (itf f a s) b
  | 0 => by simp [itl]
  | b + 1 => by rw [show a + (b + 1) = (a + b) + 1 by omega, itl_succ, itl_add f s a b, itl_succ, itf_add, List.append_assoc]
theorem itl_drop (f : Nat → Nat) (s a b : Nat) : (itl f s (a + b)).drop a = itl f (itf f a s) b := by
  rw [itl_add, List.drop_left' (itl_len _ _ _)]
theorem itl_take (f : Nat → Nat) (s a b : Nat) : (itl f s (a + b)).take a = itl f s a := by
  rw [itl_add, List.take_left' (itl_len _ _ _)]
theorem itl_inj {f : Nat → Nat} {s k i j : Nat} (h : (itl f s k).Nodup) (hi : i < k) (hj : j < k) (e : itf f i s = itf f j s) : i = j := by
  have h2 := List.pairwise_iff_getElem.1 h
  rcases Nat.lt_trichotomy i j with hlt | rfl | hlt
  · exact absurd (by rw [itl_get _ _ _ _ hi, itl_get _ _ _ _ hj]; exact e) (h2 i j (by rw [itl_len]; exact hi) (by rw [itl_len]; exact hj) hlt)
  · rfl
  · exact absurd (by rw [itl_get _ _ _ _ hi, itl_get _ _ _ _ hj]; exact e.symm) (h2 j i (by rw [itl_len]; exact hj) (by rw [itl_len]; exact hi) hlt)
theorem itl_nodup {f : Nat → Nat} {s k : Nat} (h : ∀ i j, i < j → j < k → itf f i s ≠ itf f j s) : (itl f s k).Nodup := by
  refine List.pairwise_iff_getElem.2 fun i j hi hj hij => ?_
  rw [itl_len] at hi hj
  rw [itl_get _ _ _ _ hi, itl_get _ _ _ _ hj]
  exact h i j hij hj
/-- an orbit: its states are the first L ones, and the next one is that at T -/
structure OrbF (f : Nat → Nat) (N s L T : Nat) : Prop where
  eq : orb f s = (itl f s L, T)
  lt : T < L
  le : L ≤ N
  nd : (itl f s L).Nodup
  rep : itf f L s = itf f T s
theorem orb_form {f : Nat → Nat} {N s : Nat} (hN : N ≤ 32) (hf : ∀ x, x < N → f x < N) (hs : s < N) : ∃ L T, OrbF f N s L T := by
  suffices h : ∀ k m, OrbI f N s (itl f s m) (itf f m s) → m + k = 33 → ∃ L T, OrbF f N s L T by
    exact h 33 0 (OrbI.start f hs) rfl
  intro k
  induction k with
  | zero => intro m h hk; have := h.len; rw [itl_len] at this; omega
  | succ k ih =>
    intro m h hk
    by_cases hm : itf f m s ∈ itl f s m
    · have hl := h.len
      rw [itl_len] at hl
      have hT : (itl f s m).idxOf (itf f m s) < (itl f s m).length := List.idxOf_lt_length_iff.2 hm
      have hT2 := hT
      rw [itl_len] at hT2
      have e := List.getElem_idxOf hT
      rw [itl_get _ _ _ _ hT2] at e
      exact ⟨m, (itl f s m).idxOf (itf f m s), h.fin hN hm, hT2, hl, h.nd, e.symm⟩
    · refine ih (m + 1) ?_ (by omega)
      have := h.more hN hf hm
      rw [itl_succ, itf_succ]
      exact this
theorem orb_uniq {f : Nat → Nat} {N s L T : Nat} (hN : N ≤ 32) (hf : ∀ x, x < N → f x < N) (hs : s < N) (hT : T < L) (hnd : (itl f s L).Nodup) (hr : itf f L s = itf f T s) : OrbF f N s L T := by
  obtain ⟨L', T', h⟩ := orb_form hN hf hs
  have hLL : L = L' := by
    rcases Nat.lt_trichotomy L L' with hlt | e | hlt
    · have := itl_inj h.nd hlt (Nat.lt_trans hT hlt) hr
      omega
    · exact e
    · have := itl_inj hnd hlt (Nat.lt_trans h.lt hlt) h.rep
      have := h.lt
      omega
  subst hLL
  have hTT : T = T' := itl_inj hnd hT h.lt (by rw [← hr, h.rep])
  subst hTT
  exact h
/-- the states of a round come again -/
theorem OrbF.per {f : Nat → Nat} {N s L T : Nat} (h : OrbF f N s L T) {j : Nat} (hj : T ≤ j) : itf f (j + (L - T)) s = itf f j s := by
  have hlt := h.lt
  rw [show j + (L - T) = L + (j - T) by omega, itf_add, h.rep, ← itf_add, show T + (j - T) = j by omega]
theorem itf_round {f : Nat → Nat} {p x : Nat} (h : itf f p x = x) : ∀ m, itf f (p * m) x = x
  | 0 => rfl
  | m + 1 => by rw [Nat.mul_succ, Nat.add_comm, itf_add, h, itf_round h m]
theorem itf_mod {f : Nat → Nat} {p x : Nat} (h : itf f p x = x) (k : Nat) : itf f k x = itf f (k % p) x := by
  have := Nat.div_add_mod k p
  rw [← this, itf_add, itf_round h, this]
/-- the place in the orbit after k steps -/
theorem OrbF.at_ {f : Nat → Nat} {N s L T : Nat} (h : OrbF f N s L T) (k : Nat) : (itl f s L).getD (if k < L then k else T + (k - T) % (L - T)) 0 = itf f k s := by
  have hlt := h.lt
  split
  · rename_i hk
    exact itl_getD _ _ _ _ hk
  · rename_i hk
    have hm : (k - T) % (L - T) < L - T := Nat.mod_lt _ (by omega)
    have hp : itf f (L - T) (itf f T s) = itf f T s := by rw [← itf_add]; exact h.per (Nat.le_refl _)
    rw [itl_getD _ _ _ _ (by omega), itf_add, ← itf_mod hp, ← itf_add, show T + (k - T) = k by omega]
/-- the orbit from a state of the round -/
theorem OrbF.on {f : Nat → Nat} {N s L T : Nat} (hN : N ≤ 32) (hf : ∀ x, x < N → f x < N) (hs : s < N) (h : OrbF f N s L T) {j : Nat} (hj : T ≤ j) : OrbF f N (itf f j s) (L - T) 0 := by
  have hlt := h.lt
  have hper : itf f (L - T) (itf f j s) = itf f j s := by rw [← itf_add]; exact h.per hj
  refine orb_uniq hN hf (itf_lt hf hs j) (by omega) (itl_nodup fun a b hab hb e => ?_) hper
  -- all states of the round would come again after b - a steps
  have hy : itf f (b - a) (itf f (j + a) s) = itf f (j + a) s := by
    rw [← itf_add, show j + a + (b - a) = j + b by omega, itf_add, itf_add, e]
  have hmul : ∀ m, itf f (T + (L - T) * m) s = itf f T s := fun m => by
    rw [itf_add]; exact itf_round (by rw [← itf_add]; exact h.per (Nat.le_refl _)) m
  have hge : j + a ≤ T + (L - T) * (j + a) := by
    have : 1 * (j + a) ≤ (L - T) * (j + a) := Nat.mul_le_mul_right _ (by omega)
    omega
  have hz : itf f (T + (b - a)) s = itf f T s := by
    have e1 : itf f T s = itf f (T + (L - T) * (j + a) - (j + a)) (itf f (j + a) s) := by
      rw [← itf_add, show j + a + (T + (L - T) * (j + a) - (j + a)) = T + (L - T) * (j + a) by omega, hmul]
    rw [itf_add, e1, ← itf_add _ _ (b - a), Nat.add_comm, itf_add _ (b - a), hy]
  have := itl_inj h.nd (show T + (b - a) < L by omega) h.lt hz
  omega
theorem minN_congr {a b : List Nat} (h : ∀ x, x ∈ a ↔ x ∈ b) (hne : a ≠ []) : minN a = minN b := by
  have h1 := minN_mem hne
  have hb : b ≠ [] := by intro e; subst e; have := (h _).1 h1; simp at this
  have h2 := minN_mem hb
  have h3 := minN_le ((h _).1 h1)
  have h4 := minN_le ((h _).2 h2)
  omega
theorem itl_ne {f : Nat → Nat} {s k : Nat} (h : 0 < k) : itl f s k ≠ [] := by
  intro e
  have := congrArg List.length e
  rw [itl_len, List.length_nil] at this
  omega
theorem itl_all {f : Nat → Nat} {p x z : Nat} (h : itf f p x = x) (h0 : 0 < p) : z ∈ itl f x p ↔ ∃ k, itf f k x = z := by
  rw [itl_mem]
  constructor
  · rintro ⟨j, _, e⟩; exact ⟨j, e⟩
  · rintro ⟨k, e⟩; exact ⟨k % p, Nat.mod_lt _ h0, by rw [← itf_mod h, e]⟩
/-- a state of the round leads around it -/
theorem itf_back {f : Nat → Nat} {p x i : Nat} (h : itf f p x = x) (h0 : 0 < p) : ∃ k, itf f k (itf f i x) = x := by
  refine ⟨p * i - i, ?_⟩
  have : 1 * i ≤ p * i := Nat.mul_le_mul_right _ h0
  rw [← itf_add, show i + (p * i - i) = p * i by omega, itf_round h]
theorem itl_same {f : Nat → Nat} {p x i : Nat} (h : itf f p x = x) (h0 : 0 < p) : ∀ z, z ∈ itl f (itf f i x) p ↔ z ∈ itl f x p := by
  intro z
  have h2 : itf f p (itf f i x) = itf f i x := by rw [← itf_add, Nat.add_comm, itf_add, h]
  rw [itl_all h h0, itl_all h2 h0]
  constructor
  · rintro ⟨k, e⟩; exact ⟨i + k, by rw [itf_add]; exact e⟩
  · rintro ⟨k, e⟩
    obtain ⟨m, hm⟩ := itf_back (i := i) h h0
    exact ⟨m + k, by rw [itf_add, hm]; exact e⟩
/-- a round turned so that its least state comes first -/
theorem rot_itl {f : Nat → Nat} {p x : Nat} (h : itf f p x = x) (h0 : 0 < p) : rot (itl f x p) = itl f (minN (itl f x p)) p ∧ ∃ i, i < p ∧ itf f i x = minN (itl f x p) := by
  have hne := itl_ne (f := f) (s := x) h0
  have hk := mni_lt hne
  have hg := mni_get hne
  rw [itl_len] at hk
  rw [itl_get _ _ _ _ hk] at hg
  refine ⟨?_, _, hk, hg⟩
  obtain ⟨i, hi⟩ : ∃ i, i = mni (itl f x p) := ⟨_, rfl⟩
  rw [← hg, rot, ← hi]
  rw [← hi] at hk
  have h1 := itl_drop f x i (p - i)
  have h2 := itl_take f x i (p - i)
  have h3 := itl_add f (itf f i x) (p - i) i
  rw [show i + (p - i) = p by omega] at h1 h2
  rw [show p - i + i = p by omega, ← itf_add, show i + (p - i) = p by omega, h] at h3
  rw [h1, h2, h3]
theorem OrbF.rnd_ {f : Nat → Nat} {N s L T : Nat} (h : OrbF f N s L T) : rnd f s = itl f (itf f T s) (L - T) := by
  have hlt := h.lt
  rw [rnd, h.eq]
  show (itl f s L).drop T = _
  have := itl_drop f s T (L - T)
  rwa [show T + (L - T) = L by omega] at this
section
variable {f : Nat → Nat} {N s : Nat} (hN : N ≤ 32) (hf : ∀ x, x < N → f x < N) (hs : s < N)
include hN hf hs
/-- the cycle from its least state on -/
theorem OrbF.cyc_ {L T : Nat} (h : OrbF f N s L T) : cyc f s = itl f (cy0 f s) (L - T) ∧ OrbF f N (cy0 f s) (L - T) 0 ∧ ∃ j, itf f j s = cy0 f s := by
  have hlt := h.lt
  have hp : itf f (L - T) (itf f T s) = itf f T s := by rw [← itf_add]; exact h.per (Nat.le_refl _)
  obtain ⟨h1, i, hi, h2⟩ := rot_itl hp (by omega)
  have hr := h.rnd_
  rw [cyc, cy0, hr]
  refine ⟨h1, ?_, T + i, by rw [itf_add, h2]⟩
  have := h.on hN hf hs (show T ≤ T + i by omega)
  rwa [itf_add, h2] at this
theorem OrbF.cy0_on {L T j : Nat} (h : OrbF f N s L T) (hj : T ≤ j) : cy0 f (itf f j s) = cy0 f s := by
  have hlt := h.lt
  have hp : itf f (L - T) (itf f T s) = itf f T s := by rw [← itf_add]; exact h.per (Nat.le_refl _)
  have h2 := h.on hN hf hs hj
  rw [cy0, cy0, h.rnd_, h2.rnd_]
  show minN (itl f (itf f j s) (L - T)) = _
  refine minN_congr ?_ (itl_ne (by omega))
  have e : itf f j s = itf f (j - T) (itf f T s) := by rw [← itf_add, show T + (j - T) = j by omega]
  rw [e]
  exact itl_same hp (by omega)
theorem cy0_step : cy0 f (f s) = cy0 f s := by
  obtain ⟨L, T, h⟩ := orb_form hN hf hs
  obtain ⟨L', T', h'⟩ := orb_form hN hf (hf s hs)
  have h1 := h.cy0_on hN hf hs (show T ≤ (T + T') + 1 by omega)
  have h2 := h'.cy0_on hN hf (hf s hs) (show T' ≤ T + T' by omega)
  rw [← h1, ← h2]
  rfl
end
theorem cy0_itf {f : Nat → Nat} {N : Nat} (hN : N ≤ 32) (hf : ∀ x, x < N → f x < N) : ∀ (k s : Nat), s < N → cy0 f (itf f k s) = cy0 f s
  | 0, _, _ => rfl
  | k + 1, s, hs => by
    show cy0 f (itf f k (f s)) = _
    rw [cy0_itf hN hf k (f s) (hf s hs), cy0_step hN hf hs]
theorem cyc_same {f : Nat → Nat} {N s x : Nat} (hN : N ≤ 32) (hf : ∀ x, x < N → f x < N) (hs : s < N) (hx : x < N) (h : cy0 f x = cy0 f s) : cyc f x = cyc f s := by
  obtain ⟨L, T, h1⟩ := orb_form hN hf hs
  obtain ⟨L', T', h2⟩ := orb_form hN hf hx
  obtain ⟨e1, g1, _⟩ := h1.cyc_ hN hf hs
  obtain ⟨e2, g2, _⟩ := h2.cyc_ hN hf hx
  have k1 := g1.eq
  have k2 := g2.eq
  rw [h] at k2
  rw [k1] at k2
  rw [e1, e2, h]
  exact (congrArg Prod.fst k2).symm
/-- all that is told of a cycle -/
structure CycF (f : Nat → Nat) (N s : Nat) (l : List Nat) (p : Nat) : Prop where
  eq : cyc f s = l
  len : l.length = p
  pos : 0 < p
  le : p ≤ N
  lt : ∀ i, i < p → l.getD i 0 < N
  nx : ∀ i, i < p → f (l.getD i 0) = l.getD ((i + 1) % p) 0
  least : ∀ i, i < p → l.getD 0 0 ≤ l.getD i 0
  tail : ∀ i, i < p → (orb f (l.getD i 0)).2 = 0
  same : ∀ i, i < p → cyc f (l.getD i 0) = l
  step : cyc f (f s) = l
  per : p = (orb f s).1.length - (orb f s).2
  nd : l.Nodup
  base : ∀ i, i < p → cy0 f (l.getD i 0) = cy0 f s
theorem cyc_all {f : Nat → Nat} {N s : Nat} (hN : N ≤ 32) (hf : ∀ x, x < N → f x < N) (hs : s < N) : ∃ p, CycF f N s (cyc f s) p := by
  obtain ⟨L, T, h⟩ := orb_form hN hf hs
  obtain ⟨e, g, j, hj⟩ := h.cyc_ hN hf hs
  have hlt := h.lt
  have hle := h.le
  have hm : cy0 f s < N := by rw [← hj]; exact itf_lt hf hs j
  have hp : itf f (L - T) (cy0 f s) = cy0 f s := g.rep
  have hg : ∀ i, i < L - T → (cyc f s).getD i 0 = itf f i (cy0 f s) := fun i hi => by rw [e, itl_getD _ _ _ _ hi]
  have hb : ∀ k, cy0 f (itf f k (cy0 f s)) = cy0 f s := fun k => by
    have h5 := cy0_itf hN hf j s hs
    rw [hj] at h5
    rw [cy0_itf hN hf k _ hm, h5]
  refine ⟨L - T, rfl, by rw [e, itl_len], by omega, by omega, fun i hi => by rw [hg i hi]; exact itf_lt hf hm i, fun i hi => ?_, fun i hi => ?_, fun i hi => ?_, fun i hi => ?_, ?_, ?_, ?_, fun i hi => by rw [hg i hi, hb]⟩
  · rw [hg i hi, hg _ (Nat.mod_lt _ (by omega)), ← itf_mod hp]
    exact (itf_succ f i _).symm
  · rw [hg i hi, hg 0 (by omega)]
    show cy0 f s ≤ _
    have h4 : minN (rnd f (itf f i (cy0 f s))) = cy0 f s := hb i
    have h2 := g.on hN hf hm (Nat.zero_le i)
    have h5 : itf f i (cy0 f s) ∈ rnd f (itf f i (cy0 f s)) := by
      rw [h2.rnd_]
      exact itl_mem.2 ⟨0, by omega, rfl⟩
    have h6 := minN_le h5
    omega
  · rw [hg i hi, (g.on hN hf hm (Nat.zero_le i)).eq]
  · rw [hg i hi]
    exact cyc_same hN hf hs (itf_lt hf hm i) (hb i)
  · exact cyc_same hN hf hs (hf s hs) (cy0_step hN hf hs)
  · rw [h.eq, itl_len]
  · rw [e]; exact g.nd
theorem nodup_erase_lt {N : Nat} {l : List Nat} (h : l.Nodup) (hl : ∀ x ∈ l, x < N + 1) : ∀ x ∈ l.erase N, x < N ∧ x ∈ l := by
  intro x hx
  have h2 := (List.Nodup.mem_erase_iff h).1 hx
  have := hl x h2.2
  exact ⟨by omega, h2.2⟩

end Go.Proofs.YtfkdameegljkeaaDoor

/- Plain facts: counting. -/
namespace Go.Proofs.YtfkdameegljkeaaDoor
open Go.RowKit

/-- different numbers below N with a property are no more than all such numbers -/
theorem sel_ge {p : Nat → Bool} : ∀ {N : Nat} {l : List Nat}, l.Nodup → (∀ x ∈ l, x < N ∧ p x = true) → l.length ≤ (sel N p).length
  | 0, l, _, hl => by
    cases l with
    | nil => simp
    | cons a l => have := (hl a (by simp)).1; omega
  | N + 1, l, h, hl => by
    have h1 := sel_ge (p := p) (N := N) (l := l.erase N) (h.erase N) (fun x hx => by
      have h2 := nodup_erase_lt h (fun y hy => (hl y hy).1) x hx
      exact ⟨h2.1, (hl x h2.2).2⟩)
    rw [List.length_erase] at h1
    by_cases hm : N ∈ l
    · have hp := (hl N hm).2
      rw [if_pos hm] at h1
      rw [sel_yes hp, List.length_append, List.length_singleton]
      omega
    · rw [if_neg hm] at h1
      by_cases hp : p N = true
      · rw [sel_yes hp, List.length_append]; omega
      · rw [sel_no (by simpa using hp)]; exact h1
def sumTo (g : Nat → Nat) : Nat → Nat
  | 0 => 0
  | k + 1 => sumTo g k + g k
theorem sumTo_add (g h : Nat → Nat) : ∀ k, sumTo (fun x => g x + h x) k = sumTo g k + sumTo h k
  | 0 => rfl
  | k + 1 => by simp only [sumTo]; rw [sumTo_add g h k]; omega
theorem sumTo_congr {g h : Nat → Nat} : ∀ k, (∀ x, x < k → g x = h x) → sumTo g k = sumTo h k
  | 0, _ => rfl
  | k + 1, e => by simp only [sumTo]; rw [sumTo_congr k (fun x hx => e x (by omega)), e k (by omega)]
theorem sumTo_one (v : Nat) : ∀ N, sumTo (fun k => if v = k then 1 else 0) N = if v < N then 1 else 0
  | 0 => rfl
  | N + 1 => by
    simp only [sumTo]
    rw [sumTo_one v N]
    split <;> split <;> split <;> omega
theorem sumTo_zero : ∀ N, sumTo (fun _ => 0) N = 0
  | 0 => rfl
  | N + 1 => by simp only [sumTo]; rw [sumTo_zero N]
theorem sumTo_le {g : Nat → Nat} {c : Nat} : ∀ k, (∀ x, x < k → g x ≤ c) → sumTo g k ≤ c * k
  | 0, _ => by simp [sumTo]
  | k + 1, h => by
    have := sumTo_le k (fun x hx => h x (by omega))
    have := h k (by omega)
    rw [sumTo, Nat.mul_succ]; omega
/-- each number is before one -/
theorem sum_sel {f : Nat → Nat} {N : Nat} : ∀ M, (∀ x, x < M → f x < N) → sumTo (fun k => (sel M (fun x => f x == k)).length) N = M
  | 0, _ => by
    have : (fun k => (sel 0 (fun x => f x == k)).length) = fun _ => 0 := rfl
    rw [this, sumTo_zero]
  | M + 1, h => by
    have ih := sum_sel M (fun x hx => h x (by omega))
    have e : (fun k => (sel (M + 1) (fun x => f x == k)).length) = fun k => (sel M (fun x => f x == k)).length + (if f M = k then 1 else 0) := by
      funext k
      by_cases hk : f M = k
      · rw [sel_yes (by simpa using hk), List.length_append, if_pos hk]; rfl
      · rw [sel_no (by simpa using hk), if_neg hk]; rfl
    rw [e, sumTo_add, ih, sumTo_one, if_pos (h M (by omega))]
theorem sel_mem {N : Nat} {p : Nat → Bool} {x : Nat} : x ∈ sel N p ↔ x < N ∧ p x = true := by simp [sel]
theorem sel_nodup (N : Nat) (p : Nat → Bool) : (sel N p).Nodup := List.Pairwise.filter _ List.nodup_range
theorem sel_asc : ∀ (N : Nat) (p : Nat → Bool) (i j : Nat) (hi : i < (sel N p).length) (hj : j < (sel N p).length), i < j → (sel N p)[i] < (sel N p)[j]
  | 0, p, i, j, hi, _, _ => by simp [sel] at hi
  | N + 1, p, i, j, hi, hj, hij => by
    have h2 : ((List.range (N + 1)).filter p).Pairwise (· < ·) := List.Pairwise.filter _ List.pairwise_lt_range
    exact List.pairwise_iff_getElem.1 h2 i j hi hj hij
/-- a state of the round has one before it -/
theorem OrbF.before {f : Nat → Nat} {N s L : Nat} (h : OrbF f N s L 0) : ∃ j, f (itf f j s) = s ∧ j < L := by
  have hlt := h.lt
  refine ⟨L - 1, ?_, by omega⟩
  rw [← itf_succ f, show L - 1 + 1 = L by omega, h.rep]
  rfl
end Go.Proofs.YtfkdameegljkeaaDoor

/- Walks: the texts of tables and of networks, on both sides. -/
namespace Go.Proofs.YtfkdameegljkeaaDoor
open Go.RowKit
set_option linter.unusedVariables false

/-- the text of the texts of tables -/
def joinN (ps : List (List UInt8)) : List UInt8 := Lib.join ps [44]
theorem joinN_one {ps : List (List UInt8)} (h : 0 < ps.length) : joinN (ps.take 1) = ps[0] := by
  cases ps with
  | nil => simp at h
  | cons p r => exact Lib.join_one p [44]
theorem joinN_succ {ps : List (List UInt8)} {k : Nat} (h : k < ps.length) (h0 : ¬ k = 0) : joinN (ps.take (k + 1)) = joinN (ps.take k) ++ [44] ++ ps[k] := by
  obtain ⟨j, rfl⟩ : ∃ j, k = j + 1 := ⟨k - 1, by omega⟩
  cases ps with
  | nil => simp at h
  | cons p r =>
    have hj : j < r.length := by simpa using h
    rw [List.take_succ_cons, List.take_succ_cons, joinN, joinN, Lib.join_cons, Lib.join_cons, Lib.joinTail_take_succ [44] r j r[j] (List.getElem?_eq_getElem hj)]
    simp
theorem joinN_len {ps : List (List UInt8)} {M : Nat} (hM : ∀ p ∈ ps, p.length ≤ M) : ∀ k, k ≤ ps.length → (joinN (ps.take k)).length ≤ (M + 1) * k := by
  intro k
  induction k with
  | zero => intro _; simp [joinN, Lib.join_nil]
  | succ k ih =>
    intro h
    have h1 := ih (by omega)
    have h2 := hM _ (List.getElem_mem (show k < ps.length by omega))
    by_cases h0 : k = 0
    · subst h0
      rw [joinN_one (by omega)]
      omega
    · rw [joinN_succ (by omega) h0]
      simp only [List.length_append, List.length_cons, List.length_nil]
      rw [Nat.mul_succ]
      omega
theorem txt_tv {ps : List (List UInt8)} {k N : Nat} (h : okN ps = true) (HN : N = 2 ^ ps.length) (hk : k < ps.length) : txt N (tv ps.length ps[k]) = ps[k] := by
  have hl := part_len h HN hk
  have hb : ∀ c ∈ ps[k], b01 c = true := (okT_true (okN_of h (List.getElem_mem hk)).1).2.2.2
  have h1 := txt_val hb
  rw [hl] at h1
  refine Eq.trans (txt_congr fun s hs => ?_) h1
  rw [tv, if_pos (by rw [← HN]; exact hs)]
theorem tv_lt {ps : List (List UInt8)} {k s : Nat} (h : okN ps = true) (hk : k < ps.length) : tv ps.length ps[k] s < 2 := by
  unfold tv
  split
  · exact val_lt (okT_true (okN_of h (List.getElem_mem hk)).1).2.2.2 s
  · omega

theorem str_add (a b : List UInt8) : (⟨a.toArray⟩ : ByteArray) ++ ⟨b.toArray⟩ = ⟨(a ++ b).toArray⟩ := str_append a b
set_option maxHeartbeats 400000 in
theorem l3Text_any (A : Option Addr) (c : Nat) (ps : List (List UInt8)) (w : World) (hx : Hid (Rd w A (strs ps))) (hl : Hid (∀ p ∈ ps, p.length ≤ 1000)) (hn : ps.length ≤ 1000) :
    Calls Tryd.prog 49 #[.slice A ps.length c] w fun e w' => e = .returned (.string ⟨(joinN ps).toArray⟩) ∧ w = w' := by
  have HLN := Lib.hid (joinN_len hl.out)
  go_enter Tryd.func49, Tryd.ntmps49
  go_wp2
  go_loopw [3, 4] (fun o i wr => ∃ k : Nat, k ≤ ps.length ∧ i = .int .i64 k ∧ o = .string ⟨(joinN (ps.take k)).toArray⟩ ∧ wr = w) (fun _ i _ => ps.length - (intOf i).toNat)
  case atStart => exact ⟨0, Nat.zero_le _, rfl, rfl, rfl⟩
  case round =>
    obtain ⟨k, hk, rfl, rfl, rfl⟩ := hrel
    by_cases hlt : k < ps.length
    · obtain ⟨g, off, hA, hcell⟩ := hx.out.text hlt
      subst hA
      have hj1 := HLN.out k hk
      have hj2 := hl.out ps[k] (List.getElem_mem hlt)
      by_cases h0 : k = 0
      · subst h0
        have HE := Lib.hid (joinN_one hlt)
        rw [Nat.add_zero] at hcell
        have hj0 : (joinN ([] : List (List UInt8))).length ≤ 0 := Nat.le_refl _
        go_wp2_with fail
        go_roundw
        case rel => exact ⟨1, by omega, by go_num, by rw [HE.out]; exact congrArg Value.string (str_add [] ps[0]), trivial⟩
        case measure => simp [intOf]; omega
      · have HE := Lib.hid (joinN_succ hlt h0)
        have h00 : 0 < k := by omega
        clear h0
        go_wp2_with fail
        go_roundw
        case rel => exact ⟨k + 1, by omega, by go_num, by rw [HE.out, show (({ data := #[44] } : ByteArray)) = ⟨[44].toArray⟩ from rfl, str_add, str_add], trivial⟩
        case measure => simp [intOf]; omega
    · have hkn : k = ps.length := by omega
      subst hkn
      go_wp2
      go_ret
      exact ⟨by rw [List.take_length]; rfl, rfl⟩

end Go.Proofs.YtfkdameegljkeaaDoor

