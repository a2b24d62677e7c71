/- Walks of the functions on tables. -/
import Derived.Test.YtfkdameegljkeaaProg
import Derived.WalkKit
import Derived.WalkSpells
import Derived.WalkLawsBesides
import Derived.Lib.Hide
import Derived.Deep.QuietTactic
import Derived.Deep.WholeRow
import Derived.Deep.MidRow
import Derived.BigQuiet
import Derived.Test.YtfkdameegljkeaaWh
namespace Go.Proofs.Ytfkdameegljkeaa
open Go.RowKit
set_option linter.unusedVariables false

/-- the cells of a table: how many inputs, and the values of 32 states -/
def tabL (n : Nat) (b : Nat → Nat) : List Value := .int .i64 (n : Int) :: (List.range 32).map fun s => .int .u8 (b s : Int)
theorem tabL_length (n : Nat) (b : Nat → Nat) : (tabL n b).length = 33 := by simp [tabL]
theorem tabL_n (n : Nat) (b : Nat → Nat) : (tabL n b)[0]? = some (.int .i64 (n : Int)) := rfl
theorem tabL_b (n : Nat) (b : Nat → Nat) (s : Nat) (h : s < 32) : (tabL n b)[1 + s]? = some (.int .u8 (b s : Int)) := by
  rw [tabL, Nat.add_comm, List.getElem?_cons_succ, List.getElem?_map, List.getElem?_range h]; rfl

def zeroB (_ : Nat) : Nat := 0
theorem tab_size : (Try.prog.info? 38).map (fun i => i.size) = some 33 := by kernel_rfl
theorem tab_alloc (W : World) : (Instr.alloc 38 true (.tuple #[])).run Try.prog W = .ok (.pointer (some ⟨W.heap.size, 0, none⟩)) (W.alloc (.cells (tabL 0 zeroB).toArray 38)) := by kernel_rfl
theorem tab_fits (n : Nat) (b : Nat → Nat) : (Try.prog.info? 38).map (fun i => i.size) = some (tabL n b).toArray.size := by rw [tab_size, List.size_toArray, tabL_length]
theorem tab_same (n m : Nat) (b c : Nat → Nat) : (tabL n b).toArray.size = (tabL m c).toArray.size := by rw [List.size_toArray, List.size_toArray, tabL_length, tabL_length]
theorem tab_build (n : Nat) (W : World) : (Instr.build 38 #[(0, .int .i64 (n : Int))]).run Try.prog W = .ok (.agg (tabL n zeroB).toArray) W := by kernel_rfl
theorem tab_build0 (W : World) : (Instr.build 38 #[]).run Try.prog W = .ok (.agg (tabL 0 zeroB).toArray) W := by kernel_rfl

theorem width_any (n N : Nat) (b : Nat → Nat) (w : World) (hn : n ≤ 5) (HN : Hid (N = 2 ^ n)) :
    Calls Try.prog 33 #[.agg (tabL n b).toArray] w fun e w' => e = .returned (.int .i64 (N : Int)) ∧ Below w.heap.size w w' := by
  have hN : wrap64 ((2 : Int) ^ n) = (N : Int) := by
    rw [HN.out, show ((2 : Int) ^ n) = ((2 ^ n : Nat) : Int) by simp]
    exact wrap64_small _ (two_le n hn)
  have hc : (w.alloc (.cells (tabL n b).toArray 38)).cell? ⟨w.heap.size, 0, none⟩ = some (.int .i64 (n : Int)) := by rw [cell_new]; simp [tabL]
  go_enter Try.func33, Try.ntmps33
  go_wp2
  simp only [hN]
  go_ret
  exact ⟨rfl, (Below.refl _ _).alloc (Nat.le_refl _) _⟩

/-- calling the closure at a state gives a byte, and writes nothing that was there -/
def Clo (w : World) (N F : Nat) (caps : Array Value) (b : Nat → Nat) : Prop :=
  ∀ (s : Nat) (w1 : World), s < N → Below w.heap.size w w1 → Calls Try.prog F (#[.int .i64 (s : Int)] ++ caps) w1 fun e w2 => e = .returned (.int .u8 (b s : Int)) ∧ Below w1.heap.size w1 w2
theorem tabL_one (n : Nat) (b : Nat → Nat) : ∀ v ∈ tabL n b, v.oneCell' = true := by
  intro v hv
  simp only [tabL, List.mem_cons, List.mem_map] at hv
  rcases hv with rfl | ⟨_, _, rfl⟩ <;> rfl
theorem tab_all (n : Nat) (b : Nat → Nat) : (tabL n b).toArray.all (·.oneCell') = true := all_oneCell_toArray (tabL_one n b)
theorem tab_set (n : Nat) (b : Nat → Nat) (k v : Nat) (h : k < 32) : (tabL n b).toArray.setIfInBounds (1 + k) (.int .u8 (v : Int)) = (tabL n fun s => if s = k then v else b s).toArray := by
  apply Array.ext'
  rw [Array.toList_setIfInBounds]
  apply List.ext_getElem?
  intro j
  rw [List.getElem?_set]
  cases j with
  | zero => rw [if_neg (by omega)]; rfl
  | succ j =>
    simp only [tabL, List.getElem?_cons_succ, List.getElem?_map, List.length_cons, List.length_map, List.length_range]
    by_cases hj : j < 32
    · rw [List.getElem?_range hj]
      by_cases e : k = j
      · subst e; rw [if_pos (by omega), if_pos (by omega)]; simp
      · rw [if_neg (by omega)]; simp [Ne.symm e]
    · rw [if_neg (by omega), List.getElem?_eq_none (by simpa using hj)]; rfl
theorem tabL_congr (n : Nat) (b c : Nat → Nat) (h : ∀ s, s < 32 → b s = c s) : tabL n b = tabL n c := by
  unfold tabL
  congr 1
  apply List.map_congr_left
  intro s hs
  rw [h s (by simpa using hs)]
set_option maxHeartbeats 400000 in
theorem each_any (n F : Nat) (caps : Array Value) (b : Nat → Nat) (w : World) (hn : n ≤ 5) (hF : ∀ (args : Array Value) (W : World), (callFunc F args).run Try.prog W = .ok (.enter F args) W) (hC : Hid (Clo w (2 ^ n) F caps b)) :
    Calls Try.prog 17 #[.int .i64 (n : Int), .func (.func F) #[] caps] w fun e w' => e = .returned (.agg (tabL n fun s => if s < 2 ^ n then b s else 0).toArray) ∧ Below w.heap.size w w' := by
  obtain ⟨N, HN, hN2⟩ : ∃ N : Nat, Hid (N = 2 ^ n) ∧ N ≤ 32 := ⟨2 ^ n, rfl, two_le n hn⟩
  rw [← HN.out] at hC ⊢
  go_enter Try.func17, Try.ntmps17
  go_wp2_with (first
    | ((with_reducible refine wpStop (o := ⟨some 4, _, _, _, _, _⟩) ?_); refine ⟨?_⟩; refine wpList_alloc_blk rfl _ rfl _ (tab_alloc _) ?_; intro g0 w1 hg0 hb0 hB1)
    | ((with_reducible refine wpStop (o := ⟨some 8, _, _, _, _, _⟩) ?_); refine ⟨?_⟩; refine wpList_build_as rfl _ _ rfl [(0, .int .i64 (n : Int))] rfl _ (tab_build _ _) ?_)
    | ((with_reducible refine wpStop (o := ⟨some 5, _, _, _, _, _⟩) ?_); refine ⟨?_⟩; refine wpList_alloc_blk rfl _ rfl _ (tab_alloc _) ?_; intro g1 w2 hg1 hb1 hB2)
    | ((with_reducible refine wpStop (o := ⟨none, Op.store 38 _ _, _, _, _, _⟩) ?_); refine ⟨?_⟩; refine wpList_store_blk rfl _ _ _ rfl rfl rfl hb1 (tab_fits _ _) (tab_same _ _ _ _) (tab_all _ _) ?_; intro w3 hb2 ho3)
    | ((with_reducible refine wpStop (o := ⟨some 9, _, _, _, _, _⟩) ?_); refine ⟨?_⟩; refine wpList_load_blk rfl _ _ rfl rfl hb2 Try.underlying38 rfl (tab_fits _ _) ?_)
    | (go_at_call 33; refine (width_any _ N _ _ hn HN).mono ?_; rintro e w4 ⟨rfl, hB4⟩))
  have hl0 := hb0.lt
  have hl1 := hb1.lt
  have hz3 := ho3.size
  have hBw : Below w.heap.size w w4 := ((hB1 _ (Nat.le_refl _)).trans (hB2 _ (by omega))).trans ((Below.of_grown ho3 (by omega) (by omega)).trans (hB4.mono (by omega)))
  have HT := Lib.hid (hb2.keep hB4)
  have H0 := Lib.hid (((hb0.below (hB2 _ (Nat.le_refl _)) hl0).only ho3 (by omega)).keep hB4)
  clear hb0 hb1 hb2 hB1 hB2 ho3 hB4
  go_loopw [11] (fun q wr => ∃ k : Nat, k ≤ N ∧ q = .int .i64 k ∧ Hid (Blk wr g1 38 (tabL n fun s => if s < k then b s else 0).toArray) ∧ Hid (Blk wr g0 38 (tabL 0 zeroB).toArray) ∧ Below w.heap.size w wr) (fun q _ => N - (intOf q).toNat)
  case atStart => exact ⟨0, Nat.zero_le _, rfl, Lib.hid (by rw [tabL_congr n (fun s => if s < 0 then b s else 0) zeroB (fun s _ => by simp [zeroB])]; exact HT.out), H0, hBw⟩
  case round =>
    clear hBw
    obtain ⟨k, hk, rfl, HT, H0, hB⟩ := hrel
    have hsz := hB.size
    have hl1 := HT.out.lt
    have hl0 := H0.out.lt
    by_cases hlt : k < N
    · have hk32 : k < 32 := by omega
      go_wp2_with fail
      refine (hC.out k wr hlt hB).mono ?_
      rintro e w5 ⟨rfl, hB5⟩
      have hT5 := HT.out.keep hB5
      have hc5 : w5.cell? ⟨g1, 1 + k, none⟩ = some (.int .u8 0) := by
        rw [hT5.cell, List.getElem?_toArray, tabL_b _ _ _ hk32, if_neg (by omega)]; rfl
      have hf5 := hT5.frozen (1 + k)
      have HS := Lib.hid (hT5.set_ (1 + k) (.int .u8 (b k : Int)))
      have H05 := Lib.hid (H0.out.keep hB5)
      have hz5 := hB5.size
      clear hT5
      go_wp2_with fail
      go_roundw
      case rel => exact ⟨k + 1, by omega, by go_num, Lib.hid (by
        have h := HS.out
        rw [tab_set _ _ _ _ hk32, tabL_congr n _ (fun s => if s < k + 1 then b s else 0) (fun s _ => by
          by_cases e : s = k
          · rw [if_pos e, if_pos (by omega), e]
          · rw [if_neg e]
            by_cases e2 : s < k
            · rw [if_pos e2, if_pos (by omega)]
            · rw [if_neg e2, if_neg (by omega)])] at h
        exact h), Lib.hid (H05.out.only (only_setCell _ _ _ _) (by omega)), (hB.trans (hB5.mono hsz)).setCell (by show w.heap.size ≤ g1; omega) _⟩
      case measure => simp [intOf]; omega
    · have hkN : k = N := by omega
      subst hkN
      have h0 := H0.out
      have hT := HT.out
      go_wp2_with (first
        | ((with_reducible refine wpStop (o := ⟨some 21, _, _, _, _, _⟩) ?_); refine ⟨?_⟩; refine wpList_load_blk rfl _ _ rfl rfl hT Try.underlying38 rfl (tab_fits _ _) ?_)
        | ((with_reducible refine wpStop (o := ⟨none, Op.store 38 _ _, _, _, _, _⟩) ?_); refine ⟨?_⟩; refine wpList_store_blk rfl _ _ _ rfl rfl rfl h0 (tab_fits _ _) (tab_same _ _ _ _) (tab_all _ _) ?_; intro w6 hb6 ho6))
      refine bodyPost_ret (results_cell_row rfl _ _ _ _ _ _ _ rfl hb6 Try.underlying38 rfl (tab_fits _ _)) rfl ⟨rfl, hB.trans (Below.of_grown ho6 hg0 (by omega))⟩

theorem txt_row {b : Nat → Nat} {N k : Nat} {w : World} {g : Nat} (hk : k < N) (hb : b k < 10) (h : BytesAt w g (txt k b ++ List.replicate (N - k) 0)) :
    BytesAt (w.setCell ⟨g, k, none⟩ (.int .u8 (48 + (b k : Int)))) g (txt (k + 1) b ++ List.replicate (N - (k + 1)) 0) := by
  have h1 := h.set_ k (chr (b k))
  rw [chr_toNat _ hb] at h1
  have e : (txt k b ++ List.replicate (N - k) 0).set k (chr (b k)) = txt (k + 1) b ++ List.replicate (N - (k + 1)) 0 := by
    rw [List.set_append_right _ _ (by rw [txt_length]; omega), txt_length, Nat.sub_self, txt_succ]
    rw [show N - k = (N - (k + 1)) + 1 by omega, List.replicate_succ, List.set_cons_zero]
    simp
  rw [e] at h1
  simpa using h1
set_option maxHeartbeats 400000 in
theorem text_any (n N : Nat) (b : Nat → Nat) (w : World) (hn : n ≤ 5) (HN : Hid (N = 2 ^ n)) (hb : Hid (∀ s, s < N → b s < 2)) :
    Calls Try.prog 19 #[.agg (tabL n b).toArray] w fun e w' => e = .returned (.string ⟨(txt N b).toArray⟩) ∧ Below w.heap.size w w' := by
  have hN32 : N ≤ 32 := by rw [HN.out]; exact two_le n hn
  have hmk := fun W => make_row Try.underlying22 info_u8 rfl N (by omega) (by omega) W
  obtain ⟨g, hg⟩ : ∃ g, g = w.heap.size := ⟨_, rfl⟩
  have HB0 := Lib.hid (show Blk (w.alloc (.cells (tabL n b).toArray 38)) w.heap.size 38 (tabL n b).toArray from Blk.new _ _ _)
  have hBW : Below w.heap.size w (w.alloc (.cells (tabL n b).toArray 38)) := (Below.refl _ _).alloc (Nat.le_refl _) _
  go_enter Try.func19, Try.ntmps19
  go_wp2_with (first
    | ((with_reducible refine wpStop (o := ⟨some 5, _, _, _, _, _⟩) ?_); refine ⟨?_⟩; refine wpList_load_blk rfl _ _ rfl rfl HB0.out Try.underlying38 rfl (tab_fits _ _) ?_)
    | (go_at_call 33; refine (width_any _ N _ _ hn HN).mono ?_; rintro e w1 ⟨rfl, hB1⟩))
  have hz1 := hB1.size
  rw [alloc_size] at hz1
  have HT := Lib.hid (HB0.out.keep hB1)
  have hBw1 : Below w.heap.size w w1 := hBW.trans (hB1.mono (by rw [alloc_size]; omega))
  clear hB1 hBW
  go_loopw [10] (fun q wr => ∃ k : Nat, k ≤ N ∧ q = .int .i64 k ∧ Hid (BytesAt wr w1.heap.size (txt k b ++ List.replicate (N - k) 0)) ∧ Hid (Blk wr w.heap.size 38 (tabL n b).toArray) ∧ Below w.heap.size w wr ∧ w1.heap.size < wr.heap.size) (fun q _ => N - (intOf q).toNat)
  case atStart => exact ⟨0, Nat.zero_le _, rfl, Lib.hid (BytesAt.made w1 N _), Lib.hid (HT.out.keep ((Below.refl _ _).alloc (Nat.le_refl _) _)), hBw1.alloc (by omega) _, by rw [alloc_size]; omega⟩
  case round =>
    obtain ⟨k, hk, rfl, HR, HT, hB, hz⟩ := hrel
    by_cases hlt : k < N
    · have hk32 : k < 32 := by omega
      obtain ⟨hc1, hc2⟩ := HR.out.at_ (j := k) (c := 0) (by
        rw [List.getElem?_append_right (by rw [txt_length]; omega), txt_length, Nat.sub_self]
        rw [show N - k = (N - (k + 1)) + 1 by omega, List.replicate_succ]; rfl)
      have hcb : wr.cell? ⟨w.heap.size, 1 + k, none⟩ = some (.int .u8 (b k : Int)) := by rw [HT.out.cell, List.getElem?_toArray, tabL_b _ _ _ hk32]
      have hbk : (b k : Int) < 2 := by have := hb.out k hlt; omega
      go_wp2_with fail
      go_roundw
      case rel => exact ⟨k + 1, by omega, by go_num, Lib.hid (txt_row hlt (by omega) HR.out), Lib.hid (HT.out.only (only_setCell _ _ _ _) (by omega)), hB.setCell (by show w.heap.size ≤ w1.heap.size; omega) _, by rw [setCell_size]; omega⟩
      case measure => simp [intOf]; omega
    · have hkn : k = N := by omega
      subst hkn
      have hback := conv_back (P := Try.prog) wr 22 9 5 w1.heap.size k k (txt k b) (txt_length k b).symm Try.underlying22 Try.underlying5 Try.underlying9 (by simpa using HR.out)
      go_wp2_with fail
      go_ret
      exact ⟨rfl, hB⟩

theorem readTable1_any (f : ByteArray) (p : Nat) (s : Nat) (w : World) (hs : s < f.size) (hp : w.cell? ⟨p, 0, none⟩ = some (.string f)) (hb : Hid (b01 f[s] = true)) :
    Calls Try.prog 36 #[.int .i64 (s : Int), .pointer (some ⟨p, 0, none⟩)] w fun e w' => e = .returned (.int .u8 (val f.data.toList s : Int)) ∧ Below w.heap.size w w' := by
  have hr : 48 ≤ (f[s].toNat : Int) ∧ (f[s].toNat : Int) ≤ 49 := by have := hb.out; simp [b01] at this; omega
  obtain ⟨hr1, hr2⟩ := hr
  have hv : Hid ((val f.data.toList s : Int) = (f[s].toNat : Int) - 48) := Lib.hid (by
    have e : val f.data.toList s = f[s].toNat - 48 := val_get (l := f.data.toList) (by simpa using hs)
    rw [e]; omega)
  go_enter Try.func36, Try.ntmps36
  go_wp2
  go_ret
  exact ⟨ret_int hv.out.symm, Below.refl _ _⟩

/-- the table of a text, the empty one if it is none -/
def tabOf (l : List UInt8) : List Value := if okT l then tabL (tin l.length) (fun s => if s < 2 ^ tin l.length then val l s else 0) else tabL 0 zeroB
theorem tabOf_no {l : List UInt8} (h : okT l = false) : tabOf l = tabL 0 zeroB := by rw [tabOf, h]; rfl
theorem tabOf_yes {l : List UInt8} {n : Nat} (h : okT l = true) (hn : tin l.length = n) : tabOf l = tabL n (fun s => if s < 2 ^ n then val l s else 0) := by rw [tabOf, h, hn]; rfl
theorem closed_readTable : ∀ (args : Array Value) (W : World), (callFunc 36 args).run Try.prog W = .ok (.enter 36 args) W := fun _ _ => by kernel_rfl
set_option maxHeartbeats 1000000 in
theorem readTable_any (f : ByteArray) (w : World) (hf : f.size ≤ 9223372036854775807) :
    Calls Try.prog 31 #[.string f] w fun e w' => e = .returned (.tuple #[.agg (tabOf f.data.toList).toArray, .bool (okT f.data.toList)]) ∧ Below w.heap.size w w' := by
  have hbx : Blk (w.alloc (.cells #[.string f] 9)) w.heap.size 9 #[.string f] := Blk.new _ _ _
  have hBx : Below w.heap.size w (w.alloc (.cells #[.string f] 9)) := (Below.refl _ _).alloc (Nat.le_refl _) _
  obtain ⟨p, hp⟩ : ∃ p, p = w.heap.size := ⟨_, rfl⟩
  go_enter Try.func31, Try.ntmps31
  go_wp2_with ((with_reducible refine wpStop (o := ⟨some 2, _, _, _, _, _⟩) ?_); refine ⟨?_⟩; refine wpList_alloc_blk rfl _ rfl _ (tab_alloc _) ?_; intro g w1 hg hb0 hB1)
  rw [alloc_size] at hg
  have HX := Lib.hid (hbx.below (hB1 _ (Nat.le_refl _)) hbx.lt)
  have HBw := Lib.hid (hBx.trans (hB1 _ (by rw [alloc_size]; omega)))
  have HT := Lib.hid hb0
  have hgl := hb0.lt
  have HP := Lib.hid hp
  have hpl : p ≤ w.heap.size ∧ w.heap.size ≤ p := by omega
  rw [← HP.out] at hg HX HBw ⊢
  clear hB1 hbx hBx hb0 hp
  go_loopw [4, 5] (fun q _ wr => ∃ k n : Nat, 1 ≤ k ∧ k ≤ 6 ∧ q = .int .i64 k ∧ Hid (∀ m, 1 ≤ m → m < k → ¬ f.size = 2 ^ m) ∧ wr = w1.drewN n) (fun q _ _ => 6 - (intOf q).toNat)
  case atStart => exact ⟨1, 0, by omega, by omega, rfl, Lib.hid (fun m h1 h2 => by omega), rfl⟩
  case round =>
    obtain ⟨k, nd, hk1, hk6, rfl, HA, rfl⟩ := hrel
    have hcx := HX.out.cell 0
    have hcx2 : w1.cell? ⟨p, 0, none⟩ = some (.string f) := hcx
    clear hcx
    by_cases hlt : k ≤ 5
    · obtain ⟨N, HN, hN, hN32, hN0⟩ := wrap_two k hlt
      by_cases hs : (f.size : Int) = N
      · have hd : ((f.size : Int) != (N : Int)) = false := by simp [hs]
        have hfs1 : f.size ≤ N := by omega
        have hfs2 : N ≤ f.size := by omega
        have HT2 : Hid (tin f.data.toList.length = k) := Lib.hid (by
          rw [Array.length_toList, ByteArray.size_data, show f.size = 2 ^ k by rw [← HN.out]; omega]; exact tin_pow k hk1 hlt)
        clear hs
        go_wp2_with fail
        go_quiet (fail)
        go_wp2_with fail
        simp only [hN]
        obtain ⟨nd2, hnd2⟩ : ∃ nd2, (w1.drewN nd).drewN nq = w1.drewN nd2 := ⟨_, drewN2 _ _ _⟩
        rw [hnd2]
        clear hnd2
        go_loopw [5] (fun q wr => ∃ i : Nat, i ≤ N ∧ q = .int .i64 i ∧ Hid ((f.data.toList.take i).all b01 = true) ∧ wr = w1.drewN nd2) (fun q _ => N - (intOf q).toNat)
        case atStart => exact ⟨0, Nat.zero_le _, rfl, Lib.hid rfl, rfl⟩
        case round =>
          obtain ⟨i, hi, rfl, HI, rfl⟩ := hrel
          by_cases hil : i < N
          · have hif : i < f.size := by omega
            by_cases hb0 : b01 f[i] = true
            · have HI2 := Lib.hid (all_take_snoc hif HI.out hb0)
              have h01 : (f[i].toNat : Int) = 48 ∨ (f[i].toNat : Int) = 49 := by simp [b01] at hb0; omega
              clear hb0
              rcases h01 with h48 | h49
              · have hd1 : ((f[i].toNat : Int) != 48) = false := by simp [h48]
                clear h48
                go_wp2_with fail
                go_roundw
                case rel => exact ⟨i + 1, by omega, by go_num, HI2, trivial⟩
                case measure => simp [intOf]; omega
              · have hd1 : ((f[i].toNat : Int) != 48) = true := by simp [h49]
                have hd2 : ((f[i].toNat : Int) != 49) = false := by simp [h49]
                clear h49
                go_wp2_with fail
                go_roundw
                case rel => exact ⟨i + 1, by omega, by go_num, HI2, trivial⟩
                case measure => simp [intOf]; omega
            · have hb1 : b01 f[i] = false := by simpa using hb0
              have HO : Hid (okT f.data.toList = false) := Lib.hid (by
                have h := all_take_bad (p := b01) hif hb1
                rw [okT, h, Bool.and_false])
              have h48 : ¬ (f[i].toNat : Int) = 48 := fun e => by simp [b01] at hb1; omega
              have h49 : ¬ (f[i].toNat : Int) = 49 := fun e => by simp [b01] at hb1; omega
              clear hb0 hb1
              have hd1 : ((f[i].toNat : Int) != 48) = true := by simpa using h48
              have hd2 : ((f[i].toNat : Int) != 49) = true := by simpa using h49
              clear h48 h49
              have hT := HT.out
              go_wp2_with (first
                | ((with_reducible refine wpStop (o := ⟨some 31, _, _, _, _, _⟩) ?_); refine ⟨?_⟩; refine wpList_build_as rfl _ _ rfl [] rfl _ (tab_build0 _) ?_)
                | ((with_reducible refine wpStop (o := ⟨none, Op.store 38 _ _, _, _, _, _⟩) ?_); refine ⟨?_⟩; refine wpList_store_blk (w := w1.drewN nd2) rfl _ _ _ rfl rfl rfl hT (tab_fits _ _) (tab_same _ _ _ _) (tab_all _ _) ?_; intro w6 hb6 ho6))
              refine bodyPost_ret (results_row_tmp rfl _ rfl hb6 Try.underlying38 rfl (tab_fits _ _)) rfl ⟨by rw [HO.out, tabOf_no HO.out]; rfl, ?_⟩
              rw [← HP.out]
              exact HBw.out.trans ((drewN_below _ _).trans (Below.of_grown ho6 (by omega) (by rw [drewN_size]; omega)))
          · have HI2 := HI.out
            rw [List.take_of_length_le (by simp; omega)] at HI2
            have HO : Hid (okT f.data.toList = true) := Lib.hid (by rw [okT, HI2, HT2.out]; simp; omega)
            have HIh := Lib.hid (List.all_eq_true.1 HI2)
            clear HI2
            have hC : Hid (Clo (w1.drewN nd2) (2 ^ k) 36 #[.pointer (some ⟨p, 0, none⟩)] (val f.data.toList)) := Lib.hid (fun s wX hs hBX => by
              have hsf : s < f.size := by have := HN.out; omega
              refine readTable1_any f p s wX hsf ?_ (Lib.hid (HIh.out _ ?_))
              · exact ((HX.out.drewN nd2).below hBX (by rw [drewN_size]; omega)).cell 0
              · exact List.getElem_mem (l := f.data.toList) (by simpa using hsf))
            have hT := HT.out
            go_wp2_with (first
              | (go_at_call 17; refine (each_any k _ _ _ _ hlt closed_readTable hC).mono ?_; rintro e w5 ⟨rfl, hB5⟩)
              | ((with_reducible refine wpStop (o := ⟨none, Op.store 38 _ _, _, _, _, _⟩) ?_); refine ⟨?_⟩; refine wpList_store_blk (w := w5) rfl _ _ _ rfl rfl rfl ((HT.out.drewN nd2).keep hB5) (tab_fits _ _) (tab_same _ _ _ _) (tab_all _ _) ?_; intro w6 hb6 ho6))
            refine bodyPost_ret (results_row_tmp rfl _ rfl hb6 Try.underlying38 rfl (tab_fits _ _)) rfl ⟨by rw [HO.out, tabOf_yes HO.out HT2.out]; rfl, ?_⟩
            rw [← HP.out]
            have hz5 := hB5.size
            rw [drewN_size] at hz5
            exact HBw.out.trans ((drewN_below _ _).trans ((hB5.mono (by rw [drewN_size]; omega)).trans (Below.of_grown ho6 (by omega) (by omega))))
      · have hd : ((f.size : Int) != (N : Int)) = true := by simpa using hs
        have HA2 : Hid (∀ m, 1 ≤ m → m < k + 1 → ¬ f.size = 2 ^ m) := Lib.hid (fun m h1 h2 => by
          by_cases e : m = k
          · subst e; have := HN.out; omega
          · exact HA.out m h1 (by omega))
        clear hs
        go_wp2_with fail
        go_quiet (fail)
        go_wp2_with fail
        go_roundw
        case rel => exact ⟨k + 1, _, by omega, by omega, by go_num, HA2, rfl⟩
        case measure => simp [intOf]; omega
    · have HO : Hid (okT f.data.toList = false) := Lib.hid (by
        have h : tin f.data.toList.length = 0 := tin_none _ (fun m h1 h5 => by
          have := HA.out m h1 (by omega); simpa using this)
        rw [okT, h]; rfl)
      have hT := HT.out
      go_wp2_with (first
        | ((with_reducible refine wpStop (o := ⟨some 35, _, _, _, _, _⟩) ?_); refine ⟨?_⟩; refine wpList_build_as rfl _ _ rfl [] rfl _ (tab_build0 _) ?_)
        | ((with_reducible refine wpStop (o := ⟨none, Op.store 38 _ _, _, _, _, _⟩) ?_); refine ⟨?_⟩; refine wpList_store_blk (w := w1.drewN nd) rfl _ _ _ rfl rfl rfl hT (tab_fits _ _) (tab_same _ _ _ _) (tab_all _ _) ?_; intro w6 hb6 ho6))
      refine bodyPost_ret (results_row_tmp rfl _ rfl hb6 Try.underlying38 rfl (tab_fits _ _)) rfl ⟨by rw [HO.out, tabOf_no HO.out]; rfl, ?_⟩
      rw [← HP.out]
      exact HBw.out.trans ((drewN_below _ _).trans (Below.of_grown ho6 (by omega) (by rw [drewN_size]; omega)))

end Go.Proofs.Ytfkdameegljkeaa
