/- Walks of the functions on hulls. -/
import Derived.Test.YtddnibpldjdhpaaProg
import Derived.WalkKit
import Derived.WalkSpells
import Derived.WalkLawsBesides
import Derived.Lib.Hide
import Derived.Deep.QuietTactic
import Derived.BigQuiet
import Derived.Test.YtddnibpldjdhpaaWs
namespace Go.Proofs.Ytddnibpldjdhpaa
open Go.RowKit

theorem BytesAt.one (w : World) (c : UInt8) (e : TypeId) : BytesAt (w.alloc (.cells #[.int .u8 (c.toNat : Int)] e)) w.heap.size [c] := by
  intro j hj
  have hj' : j = 0 := by simpa using hj
  subst hj'
  exact ⟨by rw [cell_new]; rfl, frozen_new _ _ _ _⟩
theorem l14Dec_any (d : Nat) (w : World) (hd : d < 10) :
    Calls Try.prog 58 #[.int .i64 (d : Int)] w fun e w' => e = .returned (.string ⟨[chr d].toArray⟩) ∧ Below w.heap.size w w' := by
  have hb := BytesAt.one w (chr d) 5
  have ht := chr_toNat d hd
  rw [ht] at hb
  have hback := conv_back (P := Try.prog) _ 33 9 5 w.heap.size 1 1 [chr d] rfl Try.underlying33 Try.underlying5 Try.underlying9 hb
  rw [show (((48 + d : Nat) : Int)) = 48 + (d : Int) by omega] at hback
  clear hb ht
  have h0 : (d : Int) ≤ 9 := by omega
  have h1 : (0 : Int) ≤ (d : Int) := by omega
  go_enter Try.func58, Try.ntmps58
  go_wp2_with fail
  go_loopw [0, 3] (fun n o wr => n = .int .i64 (d : Int) ∧ o = .string ⟨#[]⟩ ∧ wr = w) (fun _ _ _ => 0)
  case atStart => exact ⟨rfl, rfl, rfl⟩
  case round =>
    obtain ⟨rfl, rfl, rfl⟩ := hrel
    go_wp2
    go_ret
    exact ⟨by rw [show ({ data := #[] } : ByteArray) = ⟨([] : List UInt8).toArray⟩ from rfl, str_append]; rfl, (Below.refl _ _).alloc (Nat.le_refl _) _⟩

theorem l3Told_any (s n : Nat) (w : World) (hs : s < 4294967296) (hn : n ≤ 63) :
    Calls Try.prog 44 #[.int .i64 (s : Int), .int .i64 (n : Int)] w fun e w' => e = .returned (.string ⟨(fmtL s n).toArray⟩) ∧ Below w.heap.size w w' := by
  go_enter Try.func44, Try.ntmps44
  go_wp2_with fail
  go_loopw [5, 6] (fun o i wr => ∃ k : Nat, k ≤ n ∧ i = .int .i64 k ∧ o = .string ⟨(fmtL s k).toArray⟩ ∧ Below w.heap.size w wr) (fun _ i _ => n - (intOf i).toNat)
  case atStart => exact ⟨0, Nat.zero_le _, rfl, rfl, Below.refl _ _⟩
  case round =>
    obtain ⟨k, hk, rfl, rfl, hB⟩ := hrel
    have hsz := hB.size
    have hl : (fmtL s k).length ≤ 63 := by rw [fmtL_length]; omega
    by_cases hlt : k < n
    · have hb2 := bit_lt s k
      have HS := Lib.hid (fmtL_succ s k)
      go_wp2_with (first
        | (go_at_call 45; refine (l1Bit_any _ _ _ (by omega) (by omega)).mono ?_; rintro e w2 ⟨rfl, rfl⟩)
        | (go_at_call 58; refine (l14Dec_any _ _ (by omega)).mono ?_; rintro e w3 ⟨rfl, hB3⟩))
      go_roundw
      case rel => exact ⟨k + 1, by omega, by go_num, by rw [HS.out, str_append]; rfl, hB.trans (hB3.mono hsz)⟩
      case measure => simp [intOf]; omega
    · have hkn : k = n := by omega
      subst hkn
      go_wp2_with fail
      go_ret
      exact ⟨rfl, hB⟩

/-- a text with one byte turned to a star, as the walk writes it -/
theorem star_at (ob : ByteArray) (i : Nat) (h : i < ob.size) : ((ob.extract 0 i ++ ({ data := #[42] } : ByteArray)) ++ ob.extract (i + 1) ob.size).data.toList = ob.data.toList.set i 42 := by
  simp only [ByteArray.data_append, Array.toList_append, ByteArray.data_extract, Array.toList_extract, List.extract_eq_take_drop, Nat.sub_zero, List.drop_zero]
  rw [List.set_eq_take_append_cons_drop, if_pos (by simpa using h)]
  have e : ob.size - (i + 1) = (ob.data.toList.drop (i + 1)).length := by simp
  rw [e, List.take_length]
  simp
theorem star_size (ob : ByteArray) (i : Nat) (h : i < ob.size) : ((ob.extract 0 i ++ ({ data := #[42] } : ByteArray)) ++ ob.extract (i + 1) ob.size).size = ob.size := by
  have h2 := congrArg List.length (star_at ob i h)
  rw [List.length_set, Array.length_toList, Array.length_toList] at h2
  exact h2
set_option maxHeartbeats 1000000 in
theorem l6Hull_any (A : Option Addr) (c x n : Nat) (r : List Nat) (w : World) (hx : Rd w A ((ints (x :: r)).map (Value.int .i64))) (hn : n ≤ 5) (hlen : r.length ≤ 1048576) (hr : Hid (∀ y ∈ x :: r, y < 32)) :
    Calls Try.prog 28 #[.slice A (ints (x :: r)).length c, .int .i64 (n : Int)] w fun e w' => e = .returned (.string ⟨(hullL x r n).toArray⟩) ∧ Below w.heap.size w w' := by
  have HX := Lib.hid hx
  obtain ⟨g, off, rfl, hc0⟩ := hx.int (j := 0) (by simp [ints])
  clear hx
  simp only [Nat.add_zero] at hc0
  have e0 : (ints (x :: r))[0]'(by simp [ints]) = (x : Int) := rfl
  rw [e0] at hc0
  have hx32 : x < 32 := hr.out x List.mem_cons_self
  obtain ⟨L, hL1, hL2, HLr⟩ : ∃ L : Nat, L ≤ 1048577 ∧ 1 ≤ L ∧ Hid (L = r.length + 1) := ⟨r.length + 1, by omega, by omega, rfl⟩
  have eL : (ints (x :: r)).length = L := by rw [HLr.out]; simp [ints]
  rw [eL]
  clear eL
  go_enter Try.func28, Try.ntmps28
  go_wp2_with (go_at_call 44; refine (l3Told_any _ _ _ (by omega) (by omega)).mono ?_; rintro e w1 ⟨rfl, hB1⟩)
  go_loopw [5, 6, 7] (fun o k i wr => ∃ (m : Nat) (ob : ByteArray), m + 1 ≤ L ∧ k = .int .i64 ((m + 1 : Nat) : Int) ∧ o = .string ob ∧ Hid (ob.data.toList = (r.take m).foldl hullS (fmtL x n)) ∧ ob.size ≤ n ∧ n ≤ ob.size ∧ Below w.heap.size w wr) (fun _ k _ _ => L - (intOf k).toNat)
  case atStart => exact ⟨0, _, by omega, rfl, rfl, Lib.hid rfl, Nat.le_of_eq (fmtL_length x n), Nat.le_of_eq (fmtL_length x n).symm, hB1⟩
  case round =>
    obtain ⟨m, ob, hm, rfl, rfl, HO, ho1, ho2, hB⟩ := hrel
    by_cases hlt : m + 1 < L
    · have hmr : m < r.length := by have := HLr.out; omega
      have hy : r[m] < 32 := hr.out _ (List.mem_cons_of_mem _ (List.getElem_mem _))
      have hcm := (HX.out.below hB).cell (k := m + 1) (v := .int .i64 (r[m] : Int)) (ints_at (l := x :: r) (k := m + 1) (Nat.succ_lt_succ hmr))
      obtain ⟨y, hy0⟩ : ∃ y : Nat, y = r[m] := ⟨_, rfl⟩
      rw [← hy0] at hcm hy
      have HY := Lib.hid hy0
      clear hy0
      obtain ⟨o0, ho0⟩ : ∃ o0 : List UInt8, o0 = ob.data.toList := ⟨_, rfl⟩
      have hol : o0.length ≤ n ∧ n ≤ o0.length := by rw [ho0]; simp; omega
      obtain ⟨hol1, hol2⟩ := hol
      rw [← ho0] at HO
      have HO0 := Lib.hid ho0
      clear ho0
      go_wp2_with fail
      go_loopw [5, 7] (fun o i wr => ∃ (j : Nat) (oc : ByteArray), j ≤ n ∧ i = .int .i64 j ∧ o = .string oc ∧ Hid (oc.data.toList = hullTo o0 y j) ∧ oc.size ≤ n ∧ n ≤ oc.size ∧ Below w.heap.size w wr) (fun _ i _ => n - (intOf i).toNat)
      case atStart => exact ⟨0, ob, Nat.zero_le _, rfl, rfl, Lib.hid (by rw [hullTo_zero, HO0.out]), ho1, ho2, hB⟩
      case round =>
        rename_i wr0 _ _ _ _ _
        clear hB hcm
        obtain ⟨j, oc, hj, rfl, rfl, HC, hc1, hc2, hB⟩ := hrel
        have hcm := (HX.out.below hB).cell (k := m + 1) (v := .int .i64 (y : Int)) (by rw [HY.out]; exact ints_at (l := x :: r) (k := m + 1) (Nat.succ_lt_succ hmr))
        by_cases hjn : j < n
        · have hjc : j < oc.size := by omega
          have hj0 : j < o0.length := by omega
          have HE : Hid (oc[j] = o0[j]) := Lib.hid (by
            have h := hullTo_get o0 y j hj0
            rw [← HC.out, List.getElem?_eq_getElem (by simpa using hjc)] at h
            injection h)
          have hb2 := bit_lt y j
          by_cases h42 : (oc[j].toNat : Int) = 42
          · have hd : ((oc[j].toNat : Int) != 42) = false := by simp [h42]
            have HF := Lib.hid (HC.out.trans (hullTo_keep o0 y j hj0 (by rw [← HE.out]; simp [fits]; omega)).symm)
            clear h42
            go_wp2_with fail
            go_quiet (fail)
            go_wp2_with fail
            go_roundw
            case rel => exact ⟨j + 1, oc, by omega, by go_num, rfl, HF, hc1, hc2, below_drewN hB _⟩
            case measure => simp [intOf]; omega
          · have hd : ((oc[j].toNat : Int) != 42) = true := by simpa using h42
            have hcb : (oc[j].toNat : Int) < 256 := by have := oc[j].toNat_lt; omega
            by_cases hf : (oc[j].toNat : Int) - 48 = bit y j
            · have hd2 : (((oc[j].toNat : Int) - 48) != (bit y j : Int)) = false := by simp [hf]
              have HF := Lib.hid (HC.out.trans (hullTo_keep o0 y j hj0 (by rw [← HE.out]; simp [fits]; omega)).symm)
              clear h42 hf
              go_wp2_with fail
              go_quiet ((go_at_call 45; exact quiet_left (l1Bit_any _ _ _ (by omega) (by omega))))
              go_wp2_with fail
              go_roundw
              case rel => exact ⟨j + 1, oc, by omega, by go_num, rfl, HF, hc1, hc2, below_drewN hB _⟩
              case measure => simp [intOf]; omega
            · have hd2 : (((oc[j].toNat : Int) - 48) != (bit y j : Int)) = true := by simpa using hf
              have HF := Lib.hid ((star_at oc j hjc).trans ((congrArg (fun l : List UInt8 => l.set j 42) HC.out).trans (hullTo_star hj0 (by rw [← HE.out]; simp [fits]; omega)).symm))
              clear h42 hf
              go_wp2_with fail
              go_quiet ((go_at_call 45; exact quiet_left (l1Bit_any _ _ _ (by omega) (by omega))))
              go_wp2_with fail
              go_quiet (fail)
              go_wp2_with fail
              go_roundw
              case rel => exact ⟨j + 1, _, by omega, by go_num, rfl, HF, by rw [star_size _ _ hjc]; exact hc1, by rw [star_size _ _ hjc]; exact hc2, by first | exact below_drewN hB _ | exact below_drewN (below_drewN hB _) _⟩
              case measure => simp [intOf]; omega
        · have HF : Hid (oc.data.toList = (r.take (m + 1)).foldl hullS (fmtL x n)) := Lib.hid (by
            rw [HC.out, hullTo_end _ _ _ (by omega), HO.out, List.take_succ_eq_append_getElem hmr, List.foldl_append, HY.out]; rfl)
          go_wp2_with fail
          go_roundw
          case rel => exact ⟨m + 1, oc, by omega, by go_num, rfl, HF, hc1, hc2, hB⟩
          case measure => simp [intOf]; omega
    · have HF : Hid (ob = ⟨(hullL x r n).toArray⟩) := Lib.hid (by
        have h := HO.out
        rw [List.take_of_length_le (by have := HLr.out; omega)] at h
        apply ByteArray.ext
        apply Array.ext'
        exact h)
      go_wp2_with fail
      go_ret
      exact ⟨by rw [HF.out]; rfl, hB⟩

set_option maxHeartbeats 1000000 in
theorem hull_any (A : Option Addr) (c x n : Nat) (r : List Nat) (w : World) (hx : Rd w A ((ints (x :: r)).map (Value.int .i64))) (hn : n ≤ 5) (hlen : r.length ≤ 1048576) (hr : Hid (∀ y ∈ x :: r, y < 32)) :
    Calls Try.prog 29 #[.slice A (ints (x :: r)).length c, .int .i64 (n : Int)] w fun e w' => e = .returned (.string ⟨(hullL x r n).toArray⟩) ∧ Below w.heap.size w w' := by
  have HX := Lib.hid hx
  obtain ⟨g, off, rfl, hc0⟩ := hx.int (j := 0) (by simp [ints])
  clear hx
  simp only [Nat.add_zero] at hc0
  have e0 : (ints (x :: r))[0]'(by simp [ints]) = (x : Int) := rfl
  rw [e0] at hc0
  have hx32 : x < 32 := hr.out x List.mem_cons_self
  obtain ⟨L, hL1, hL2, HLr⟩ : ∃ L : Nat, L ≤ 1048577 ∧ 1 ≤ L ∧ Hid (L = (x :: r).length) := ⟨r.length + 1, by omega, by omega, rfl⟩
  have eL : (ints (x :: r)).length = L := by rw [HLr.out]; simp [ints]
  rw [eL]
  clear eL
  go_enter Try.func29, Try.ntmps29
  go_wp2_with (go_at_call 46; refine (formatState_any _ _ _ (by omega) (by omega)).mono ?_; rintro e w1 ⟨rfl, hB1⟩)
  obtain ⟨cb, W2, hconv, hB2, hz2, HR⟩ := conv_bytes (P := Try.prog) w1 9 33 5 ⟨(fmtL x n).toArray⟩ Try.underlying9 Try.underlying33 Try.underlying5
  have hs : ({ data := (fmtL x n).toArray } : ByteArray).size = n := fmtL_length x n
  rw [hs] at hconv
  clear hs
  go_wp2_with fail
  clear hconv
  have hw1 := hB1.size
  obtain ⟨b, Hb⟩ : ∃ b, Hid (b = w1.heap.size) := ⟨_, rfl⟩
  rw [← Hb.out] at hB2 hz2 HR hw1 ⊢
  have hB02 : Below w.heap.size w W2 := hB1.trans (hB2.mono hw1)
  go_loopw [17] (fun q wr => ∃ m : Nat, m ≤ L ∧ q = .int .i64 m ∧ Hid (BytesAt wr b (((x :: r).take m).foldl hullS (fmtL x n))) ∧ Below w.heap.size w wr ∧ b < wr.heap.size) (fun k _ => L - (intOf k).toNat)
  case atStart => exact ⟨0, Nat.zero_le _, rfl, HR, hB02, hz2⟩
  case round =>
    obtain ⟨m, hm, rfl, HO, hB, hbz⟩ := hrel
    by_cases hlt : m < L
    · have hmr : m < (x :: r).length := by have := HLr.out; omega
      have hy : (x :: r)[m] < 32 := hr.out _ (List.getElem_mem _)
      have hcm := (HX.out.below hB).cell (k := m) (v := .int .i64 ((x :: r)[m] : Int)) (ints_at hmr)
      obtain ⟨y, hy0⟩ : ∃ y : Nat, y = (x :: r)[m] := ⟨_, rfl⟩
      rw [← hy0] at hcm hy
      have HY := Lib.hid hy0
      clear hy0
      obtain ⟨o0, ho0⟩ : ∃ o0 : List UInt8, o0 = ((x :: r).take m).foldl hullS (fmtL x n) := ⟨_, rfl⟩
      have hol : o0.length = n := by rw [ho0, fold_length, fmtL_length]
      have hok : Hid (∀ c ∈ o0, okc c = true) := Lib.hid (by rw [ho0]; exact okc_fold _ _ (List.all_eq_true.1 (okc_fmt x n)))
      rw [← ho0] at HO
      have HO0 := Lib.hid ho0
      have hol1 : n ≤ o0.length := by omega
      have hol2 : o0.length ≤ n := by omega
      clear ho0 hol
      go_wp2_with fail
      go_loopw [23] (fun q wr => ∃ j : Nat, j ≤ n ∧ q = .int .i64 j ∧ Hid (BytesAt wr b (hullTo o0 y j)) ∧ Below w.heap.size w wr ∧ b < wr.heap.size) (fun k _ => n - (intOf k).toNat)
      case atStart => exact ⟨0, Nat.zero_le _, rfl, Lib.hid (by rw [hullTo_zero]; exact HO.out), hB, hbz⟩
      case round =>
        clear hB hcm hbz
        obtain ⟨j, hj, rfl, HC, hB, hbz⟩ := hrel
        by_cases hjn : j < n
        · have hj0 : j < o0.length := by omega
          obtain ⟨hc1, hc2⟩ := HC.out.at_ (hullTo_get o0 y j hj0)
          have hb := bit_and y j (by omega)
          have hb2 : (bit y j : Int) < 2 := by have := bit_lt y j; omega
          have hkc := hok.out _ (List.getElem_mem hj0)
          by_cases h42 : (o0[j].toNat : Int) = 42
          · have hd : ((o0[j].toNat : Int) != 42) = false := by simp [h42]
            have HF := Lib.hid (hullTo_keep o0 y j hj0 (by simp [fits]; omega))
            clear h42 hkc
            go_wp2_with fail
            go_quiet (fail)
            go_wp2_with fail
            go_roundw
            case rel => exact ⟨j + 1, by omega, by go_num, Lib.hid (by rw [HF.out]; exact HC.out), below_drewN hB _, by rw [drewN_size]; omega⟩
            case measure => simp [intOf]; omega
          · have hd : ((o0[j].toNat : Int) != 42) = true := by simpa using h42
            have hr : 48 ≤ (o0[j].toNat : Int) ∧ (o0[j].toNat : Int) ≤ 49 := by simp [okc] at hkc; omega
            obtain ⟨hr1, hr2⟩ := hr
            by_cases hf : (o0[j].toNat : Int) - 48 = bit y j
            · have hd2 : (((o0[j].toNat : Int) - 48) != (bit y j : Int)) = false := by simp [hf]
              have HF := Lib.hid (hullTo_keep o0 y j hj0 (by simp [fits]; omega))
              clear h42 hf hkc
              go_wp2_with fail
              go_quiet (fail)
              go_wp2_with fail
              go_roundw
              case rel => exact ⟨j + 1, by omega, by go_num, Lib.hid (by rw [HF.out]; exact HC.out), below_drewN hB _, by rw [drewN_size]; omega⟩
              case measure => simp [intOf]; omega
            · have hd2 : (((o0[j].toNat : Int) - 48) != (bit y j : Int)) = true := by simpa using hf
              have HF := Lib.hid (hullTo_star (s := y) hj0 (by simp [fits]; omega))
              clear h42 hf hkc
              go_wp2_with fail
              go_quiet (fail)
              go_wp2_with fail
              go_roundw
              case rel => exact ⟨j + 1, by omega, by go_num, Lib.hid (by rw [HF.out]; exact HC.out.drewN _ |>.set_ j 42), (below_drewN hB _).setCell hw1 _, by rw [setCell_size, drewN_size]; omega⟩
              case measure => simp [intOf]; omega
        · have HF : Hid (hullTo o0 y j = ((x :: r).take (m + 1)).foldl hullS (fmtL x n)) := Lib.hid (by
            rw [hullTo_end _ _ _ (by omega), HO0.out, List.take_succ_eq_append_getElem hmr, List.foldl_append, HY.out]; rfl)
          go_wp2_with fail
          go_roundw
          case rel => exact ⟨m + 1, by omega, by go_num, Lib.hid (by rw [← HF.out]; exact HC.out), hB, hbz⟩
          case measure => simp [intOf]; omega
    · have hfin : ((x :: r).take m).foldl hullS (fmtL x n) = hullL x r n := by
        rw [List.take_of_length_le (by have := HLr.out; omega), List.foldl_cons, hullS_fmt]; rfl
      have HO2 := HO.out
      rw [hfin] at HO2
      have hback := conv_back (P := Try.prog) wr 33 9 5 b n cb (hullL x r n) (by rw [hullL, fold_length, fmtL_length]) Try.underlying33 Try.underlying5 Try.underlying9 HO2
      clear HO2 hfin
      go_wp2_with fail
      go_ret
      exact ⟨rfl, hB⟩

end Go.Proofs.Ytddnibpldjdhpaa
