/- Walks: RenameNetwork of the program. -/
import Derived.Test.YtpehimjngofnkaaDoorProg
import Derived.WalkKit
import Derived.WalkSpells
import Derived.WalkLawsBesides
import Derived.Lib.Hide
import Derived.Deep.QuietTactic
import Derived.BigQuiet
import Derived.Carry
import Derived.Sort.OwnSortedInts
import Derived.Test.YtpehimjngofnkaaDoorYe
import Derived.Test.YtpehimjngofnkaaDoorYj
import Derived.Test.YtpehimjngofnkaaDoorS2
namespace Go.Proofs.YtpehimjngofnkaaDoor
open Go.RowKit
set_option linter.unusedVariables false

/-- a network and an order of its switches -/
def okR (ps : List (List UInt8)) (to : List Int) : Bool := okN ps && okO to ps.length
def nats (to : List Int) : List Nat := to.map Int.toNat
theorem nats_ints (p : List Nat) : nats (ints p) = p := by simp [nats, ints, List.map_map, Function.comp_def]
/-- the text of the renamed network -/
def renN (ps : List (List UInt8)) (to : List Int) : List UInt8 := if okR ps to then joinN (frS ps.length (renF ps (nats to))) else []
theorem renN_no {ps : List (List UInt8)} {to : List Int} (h : okR ps to = false) : renN ps to = [] := by rw [renN, h]; rfl
theorem renN_yes {ps : List (List UInt8)} {p : List Nat} (h : okR ps (ints p) = true) : renN ps (ints p) = joinN (frS ps.length (renF ps p)) := by rw [renN, if_pos h, nats_ints]
theorem okR_true {ps : List (List UInt8)} {to : List Int} (h : okR ps to = true) : okN ps = true ∧ ∃ p, to = ints p ∧ Ord p ps.length := by
  rw [okR, Bool.and_eq_true] at h
  exact ⟨h.1, okO_true h.2⟩
theorem renF_lt {ps : List (List UInt8)} {p : List Nat} (h : Ord p ps.length) (x : Nat) : renF ps p x < 2 ^ ps.length := movF_lt h _

set_option maxHeartbeats 1000000 in
set_option maxRecDepth 100000 in
theorem RenameNetwork1_any (p3 p6 s : Nat) (A B : Option Addr) (c c2 : Nat) (ps : List (List UInt8)) (p : List Nat) (w : World) (h3 : w.cell? ⟨p3, 0, none⟩ = some (.slice B ps.length c2)) (h6 : w.cell? ⟨p6, 0, none⟩ = some (.slice A ps.length c))
    (hx : Hid (Rd w A (netL ps))) (hy : Hid (Rd w B ((ints p).map (Value.int .i64)))) (hok : Hid (okN ps = true)) (ho : Hid (Ord p ps.length)) (hs : Hid (s < 2 ^ ps.length)) :
    Calls Tryd.prog 90 #[.int .i64 (s : Int), .pointer (some ⟨p3, 0, none⟩), .pointer (some ⟨p6, 0, none⟩)] w fun e w' => e = .returned (.int .i64 (renF ps p s : Int)) ∧ Below w.heap.size w w' := by
  have hl3 : p3 < w.heap.size := World.block_lt_of_cell? w _ h3
  have hn5 := okN_le hok.out
  have h32 := two_le _ hn5
  have hs32 : s < 32 := by have := hs.out; omega
  have HPL : Hid (p.length = ps.length) := Lib.hid ho.out.len
  go_enter Tryd.func90, Tryd.ntmps90
  go_wp2_with fail
  go_loop [5, 14] (fun o i => ∃ k q : Nat, k ≤ ps.length ∧ i = .int .i64 k ∧ o = .int .i64 q ∧ Hid (q = asm (fun i => bit s (p.getD i 0)) k)) (fun _ i => ps.length - (intOf i).toNat)
  case atStart => exact ⟨0, 0, Nat.zero_le _, rfl, rfl, Lib.hid rfl⟩
  case round =>
    obtain ⟨k, q, hk, rfl, rfl, HQ⟩ := hrel
    by_cases hlt : k < ps.length
    · obtain ⟨t, htn, ht, hget⟩ := ord_get ho.out hlt
      obtain ⟨g, off, hA, hc⟩ := hy.out.at_ hget
      subst hA
      have ht5 : t < 5 := by omega
      have hk5 : k < 5 := by omega
      have hb := bit_and s t (by omega)
      have hbl := bit_lt s t
      have hob : bits .or .i64 (q : Int) (wrap64 ((bit s t : Int) * 2 ^ k)) = ((asm (fun i => bit s (p.getD i 0)) (k + 1) : Nat) : Int) := by
        rw [HQ.out, or_bits k (by omega) _ (asm_lt (fun i => bit_lt s _) k) _ hbl, asm, ht]
      clear ht
      go_wp2_with fail
      go_round
      case rel => exact ⟨k + 1, _, by omega, by go_num, rfl, Lib.hid rfl⟩
      case measure => simp [intOf]; omega
    · have hkn : k = ps.length := by omega
      obtain ⟨o, HOo⟩ : ∃ o, Hid (o = oldF p s) := ⟨_, Lib.hid rfl⟩
      have hqo : q = o := by rw [HQ.out, HOo.out, oldF, HPL.out, hkn]
      subst hqo
      have HOL : Hid (q < 2 ^ ps.length) := Lib.hid (by rw [HOo.out, ← HPL.out]; exact oldF_lt p s)
      obtain ⟨a, HA⟩ : ∃ a, Hid (a = stp ps q) := ⟨_, Lib.hid rfl⟩
      have ha32 : a < 32 := by rw [HA.out]; exact Nat.lt_of_lt_of_le (stp_lt hok.out q) h32
      go_wp2_with fail
      refine (step_any A c ps q w hx hok HOL).mono ?_
      rw [← HA.out]
      rintro e w2 ⟨rfl, hB2⟩
      have h32' := (World.cell?_of_block (w := w) (a := ⟨p3, 0, none⟩) (hB2.block _ hl3)).trans h3
      have HY2 := Lib.hid (hy.out.below hB2)
      go_wp2_with fail
      go_loopw [9, 33] (fun o i wr => ∃ k q : Nat, k ≤ ps.length ∧ i = .int .i64 k ∧ o = .int .i64 q ∧ Hid (q = movTo p a k) ∧ wr = w2) (fun _ i _ => ps.length - (intOf i).toNat)
      case atStart => exact ⟨0, 0, Nat.zero_le _, rfl, rfl, Lib.hid rfl, rfl⟩
      case round =>
        obtain ⟨k, m, hk, rfl, rfl, HQ2, hw2⟩ := hrel
        subst hw2
        by_cases hlt : k < ps.length
        · obtain ⟨t, htn, ht, hget⟩ := ord_get ho.out hlt
          obtain ⟨g, off, hA, hc⟩ := HY2.out.at_ hget
          subst hA
          have ht5 : t < 5 := by omega
          have hm32 : m < 32 := by rw [HQ2.out]; exact Nat.lt_of_lt_of_le (movTo_lt ho.out a k hk) h32
          have hb := bit_and a k (by omega)
          have hbl := bit_lt a k
          have e1 := or_shift hm32 hbl ht5
          have HQ3 : Hid (m ||| bit a k * 2 ^ t = movTo p a (k + 1)) := Lib.hid (by rw [movTo, ← HQ2.out, ht])
          rw [HQ3.out] at e1
          clear ht
          go_wp2_with fail
          go_roundw
          case rel => exact ⟨k + 1, _, by omega, by go_num, rfl, Lib.hid rfl, by first | trivial | rfl⟩
          case measure => simp [intOf]; omega
        · have hkn : k = ps.length := by omega
          have HV : Hid (m = renF ps p s) := Lib.hid (by rw [HQ2.out, renF, movF, HPL.out, hkn, HA.out, HOo.out])
          go_wp2_with fail
          go_ret
          exact ⟨by rw [← HV.out]; rfl, hB2⟩

theorem closed_Rename : ∀ (args : Array Value) (W : World), (callFunc 90 args).run Tryd.prog W = .ok (.enter 90 args) W := fun _ _ => by kernel_rfl
set_option maxHeartbeats 2000000 in
set_option maxRecDepth 100000 in
theorem RenameNetwork_any (s : ByteArray) (A : Option Addr) (c : Nat) (to : List Int) (w : World) (hm : Hid (HasM w)) (hs : s.size ≤ 1073741824) (hx : Hid (Rd w A (to.map (Value.int .i64)))) (hl : to.length ≤ 1048576) (hc : to.length ≤ c) :
    Calls Tryd.prog 44 #[.string s, .slice A to.length c] w fun e w' => e = .returned (txtV (renN (cutL s.data.toList) to) (okR (cutL s.data.toList) to)) ∧ Below w.heap.size w w' := by
  obtain ⟨ps, HPS⟩ : ∃ ps, Hid (ps = cutL s.data.toList) := ⟨_, Lib.hid rfl⟩
  rw [← HPS.out]
  have hBe : Below w.heap.size w (w.alloc (.cells #[.slice A to.length c] 22)) := (Below.refl _ _).alloc (Nat.le_refl _) _
  have HM := Lib.hid (hm.out.below hBe)
  have hbx : Blk (w.alloc (.cells #[.slice A to.length c] 22)) w.heap.size 22 #[.slice A to.length c] := Blk.new _ _ _
  have hze : (w.alloc (.cells #[.slice A to.length c] 22)).heap.size = w.heap.size + 1 := alloc_size _ _
  by_cases h : okN ps = true
  · have HOK := Lib.hid h
    have hn5 := okN_le h
    have hps : 1 ≤ ps.length := by rw [HPS.out]; exact (cutL_len _).2
    clear h
    go_enter Tryd.func44, Tryd.ntmps44
    go_wp2_with fail
    refine (readNetwork_any s _ HM hs).mono ?_
    rintro e w1 ⟨⟨A1, k0, c1, rfl, himp⟩, hB1⟩
    rw [← HPS.out] at himp ⊢
    obtain ⟨rfl, hc1, hO⟩ := himp HOK.out
    rw [HOK.out]
    have hz1 := hB1.size
    have HR := Lib.hid hO.rd
    have hbx1 := hbx.keep hB1
    have hB01 : Below w.heap.size w w1 := hBe.trans (hB1.mono (by omega))
    have HX := Lib.hid (Blk.new w1 58 #[.slice A1 ps.length c1])
    have hBn : Below w1.heap.size w1 (w1.alloc (.cells #[.slice A1 ps.length c1] 58)) := (Below.refl _ _).alloc (Nat.le_refl _) _
    have hzn : (w1.alloc (.cells #[.slice A1 ps.length c1] 58)).heap.size = w1.heap.size + 1 := alloc_size _ _
    have HBX2 := Lib.hid (hbx1.keep hBn)
    have hB02 := hB01.trans (hBn.mono (by omega))
    have h3 : (w1.alloc (.cells #[.slice A1 ps.length c1] 58)).cell? ⟨w.heap.size, 0, none⟩ = some (.slice A to.length c) := (HBX2.out.cell 0).trans rfl
    have HRX2 := Lib.hid (hx.out.below hB02)
    have HR2 := Lib.hid (HR.out.below hBn)
    have HB02 := Lib.hid hB02
    clear hO himp hB1 hbx hbx1 hBe hB01
    by_cases hlen : to.length = ps.length
    · have HLEN := Lib.hid hlen
      rw [hlen] at hc hl h3 ⊢
      clear hlen
      have hd : ((ps.length : Int) != (ps.length : Int)) = false := bne_self_eq_false _
      have h6 : (w1.alloc (.cells #[.slice A1 ps.length c1] 58)).cell? ⟨w1.heap.size, 0, none⟩ = some (.slice A1 ps.length c1) := (HX.out.cell 0).trans rfl
      obtain ⟨wN, HWN⟩ : ∃ x, Hid (x = w1.alloc (.cells #[.slice A1 ps.length c1] 58)) := ⟨_, Lib.hid rfl⟩
      -- the list lies somewhere
      obtain ⟨gA, oA, rfl⟩ : ∃ g off, A = some ⟨g, off, none⟩ := by
        have h0 : 0 < to.length := by rw [HLEN.out]; omega
        obtain ⟨g, off, hA, _⟩ := hx.out.at_ (k := 0) (v := .int .i64 to[0]) (by rw [List.getElem?_map, List.getElem?_eq_getElem h0]; rfl)
        exact ⟨g, off, hA⟩
      have HCL : Hid (Calls Tryd.prog 87 #[.slice (some ⟨gA, oA, none⟩) ps.length c] (w1.alloc (.cells #[.slice A1 ps.length c1] 58)) fun e w' => ∃ (g cap : Nat) (cur : Array Value), e = .returned (.slice (some ⟨g, 0, none⟩) ps.length cap) ∧ w1.heap.size + 1 ≤ g ∧ w'.heap[g]? = some (.cells cur 3 (0, 0)) ∧ ps.length ≤ cap ∧ cap ≤ maxLen ∧ cur.size = cap * 1 ∧ cur.toList.take ps.length = to.map (Value.int .i64) ∧ Below (w1.heap.size + 1) (w1.alloc (.cells #[.slice A1 ps.length c1] 58)) w') := Lib.hid (by
        refine (Tryd.slices_Clone_int gA oA ps.length c to _ (Nat.le_of_eq HLEN.out.symm) (by omega) (fun j hj => ?_)).mono ?_
        · refine HRX2.out.cell (k := j) ?_
          rw [List.getElem?_map, List.getElem?_eq_getElem hj, List.getD_eq_getElem?_getD, List.getElem?_eq_getElem hj]; rfl
        · rintro e w' ⟨v', rfl, hown, hne, hb⟩
          rw [hzn] at hown hb
          rcases hown.2 with ⟨_, h0⟩ | ⟨g, cap, cur, rfl, hg1, hg2, hg3, hg4, hg5, hg6⟩
          · omega
          · refine ⟨g, cap, cur, rfl, hg1, hg2, hg3, hg4, hg5, ?_, hb⟩
            rw [Nat.mul_one, ← HLEN.out, List.take_length] at hg6
            rw [← HLEN.out]; exact hg6)
      clear hzn
      go_wp2_with fail
      refine HCL.out.mono ?_
      rintro e w3 ⟨g, cap, cur, rfl, hg1, hg2, hg3, hg4, hg5, hg6, hB3⟩
      obtain ⟨zs, HZS⟩ : ∃ zs, Hid (zs = to.mergeSort fun x y => decide (x ≤ y)) := ⟨_, Lib.hid rfl⟩
      have HZL : Hid (zs.length = ps.length) := Lib.hid (by rw [HZS.out, List.length_mergeSort]; exact HLEN.out)
      have hglt : g < w3.heap.size := (Array.getElem?_eq_some_iff.1 hg2).1
      have HST : Hid (Calls Tryd.prog 88 #[.slice (some ⟨g, 0, none⟩) ps.length cap] w3 fun e w' => e = .returned (.tuple #[]) ∧ Rd w' (some ⟨g, 0, none⟩) (zs.map (Value.int .i64)) ∧ w3.grownBy w' (some g)) := Lib.hid (by
        have h0 := Tryd.slices_Sort_int g 0 cap to w3 (holds_of_blockI hg2 (by rw [HLEN.out]; exact hg6)) hglt (by rw [HLEN.out]; omega)
        rw [HLEN.out] at h0
        refine h0.mono ?_
        rintro e w' ⟨rfl, n, os, rfl⟩
        have h1 := ownsRow_sortedI (n := n) (os := os) (ss := to) (ts := to.mergeSort fun x y => decide (x ≤ y)) (base := 0) (by rw [List.length_mergeSort]) (Nat.zero_le _) hg2 (by rw [HLEN.out]; exact hg3) hg4 hg5
        refine ⟨rfl, ?_, grownBy_sortedI _⟩
        rw [HZS.out]
        exact (Own.of_own h1).rd)
      have HB3 := Lib.hid hB3
      clear hg2 hg3 hg4 hg5 hg6 hB3
      go_wp2_with fail
      refine HST.out.mono ?_
      rintro e w4 ⟨rfl, hR4, hG4⟩
      have HR4 := Lib.hid hR4
      have hz3 := HB3.out.size
      have HBN4 : Hid (Below (w1.heap.size + 1) (w1.alloc (.cells #[.slice A1 ps.length c1] 58)) w4) := Lib.hid (HB3.out.trans (Below.of_grown hG4 hg1 (by rw [alloc_size] at hz3; exact hz3)))
      have hz4 : w1.heap.size + 1 ≤ w4.heap.size := by have := HBN4.out.size; rw [alloc_size] at this; exact this
      have h34 : w4.cell? ⟨w.heap.size, 0, none⟩ = some (.slice (some ⟨gA, oA, none⟩) ps.length c) := (World.cell?_of_block (w := w1.alloc (.cells #[.slice A1 ps.length c1] 58)) (a := ⟨w.heap.size, 0, none⟩) (HBN4.out.block _ (by show w.heap.size < _; omega))).trans h3
      have h64 : w4.cell? ⟨w1.heap.size, 0, none⟩ = some (.slice A1 ps.length c1) := (World.cell?_of_block (w := w1.alloc (.cells #[.slice A1 ps.length c1] 58)) (a := ⟨w1.heap.size, 0, none⟩) (HBN4.out.block _ (by show w1.heap.size < _; omega))).trans h6
      have HBW4 : Hid (Below w.heap.size w w4) := Lib.hid (HB02.out.trans (HBN4.out.mono (by omega)))
      clear hR4 hG4 h3 h6 hz3
      go_wp2_with fail
      go_loopw [31] (fun i wr => ∃ k : Nat, k ≤ ps.length ∧ i = .int .i64 k ∧ Hid (∀ j, j < k → zs[j]? = some (j : Int)) ∧ wr = w4) (fun i _ => ps.length - (intOf i).toNat)
      case atStart => exact ⟨0, Nat.zero_le _, rfl, Lib.hid (fun j hj => by omega), rfl⟩
      case round =>
        obtain ⟨k, hk, rfl, HSO, hw4⟩ := hrel
        subst hw4
        by_cases hlt : k < ps.length
        · obtain ⟨v, HVv⟩ : ∃ v, Hid (zs[k]? = some v) := ⟨_, Lib.hid (List.getElem?_eq_getElem (by rw [HZL.out]; exact hlt))⟩
          have hcv := HR4.out.cell (k := k) (v := .int .i64 v) (by rw [List.getElem?_map, HVv.out]; rfl)
          rw [Nat.zero_add] at hcv
          by_cases hv : v = (k : Int)
          · have hvd : (v != (k : Int)) = false := by rw [hv]; exact bne_self_eq_false _
            have HSN : Hid (∀ j, j < k + 1 → zs[j]? = some (j : Int)) := Lib.hid (fun j hj => by
              by_cases e : j = k
              · rw [e, HVv.out, hv]
              · exact HSO.out j (by omega))
            subst hv
            go_wp2_with fail
            go_roundw
            case rel => exact ⟨k + 1, by omega, by go_num, HSN, by first | trivial | rfl⟩
            case measure => simp [intOf]; omega
          · have hvd : (v != (k : Int)) = true := by simpa using hv
            have HV : Hid (okR ps to = false) := Lib.hid (by
              rw [okR, HOK.out, Bool.true_and]
              cases ho : okO to ps.length
              · rfl
              · exfalso
                obtain ⟨p, rfl, hp⟩ := okO_true ho
                have h1 := hp.sorted
                rw [← HZS.out] at h1
                have h2 := HVv.out
                rw [h1, ints, List.getElem?_map, List.getElem?_range hlt] at h2
                injection h2 with h2
                exact hv h2.symm)
            have HVN := Lib.hid (renN_no HV.out)
            have hve : (v == (k : Int)) = false := by simpa using hv
            go_wp2_with fail
            go_ret2
            exact ⟨by rw [HVN.out, HV.out]; rfl, HBW4.out⟩
        · have hke : k = ps.length := by omega
          have hzr : zs = ints (List.range ps.length) := by
            apply List.ext_getElem?
            intro j
            by_cases hj : j < ps.length
            · rw [HSO.out j (by omega), ints, List.getElem?_map, List.getElem?_range hj]; rfl
            · rw [List.getElem?_eq_none (by rw [HZL.out]; omega), List.getElem?_eq_none (by rw [ints_length, List.length_range]; omega)]
          have HO0 : Hid (okO to ps.length = true) := Lib.hid (sorted_okO (by rw [← HZS.out]; exact hzr))
          have HV : Hid (okR ps to = true) := Lib.hid (by rw [okR, HOK.out, HO0.out]; rfl)
          obtain ⟨p, hp, hO⟩ := okO_true HO0.out
          subst hp
          have HOP := Lib.hid hO
          have HVN := Lib.hid (renN_yes HV.out)
          have HFO := Lib.hid (frS_ok (n := ps.length) (f := renF ps p) hps hn5)
          have HFL : Hid ((frS ps.length (renF ps p)).length = ps.length) := Lib.hid (frS_length _ _)
          have HF32 : Hid (∀ s, s < 2 ^ ps.length → renF ps p s < 32) := Lib.hid (fun s _ => Nat.lt_of_lt_of_le (renF_lt hO s) (two_le _ hn5))
          have HRN := Lib.hid (HR2.out.below (show Below (w1.alloc (.cells #[.slice A1 ps.length c1] 58)).heap.size _ wr from by rw [alloc_size]; exact HBN4.out))
          have HRT := Lib.hid (hx.out.below HBW4.out)
          have HCN : Hid (CloN wr (2 ^ ps.length) 90 #[.pointer (some ⟨w.heap.size, 0, none⟩), .pointer (some ⟨w1.heap.size, 0, none⟩)] (renF ps p)) := Lib.hid (fun s wX hs hBX =>
            RenameNetwork1_any w.heap.size w1.heap.size s A1 (some ⟨gA, oA, none⟩) c1 c ps p wX ((World.cell?_of_block (w := wr) (a := ⟨w.heap.size, 0, none⟩) (hBX.block _ (by show w.heap.size < _; omega))).trans h34) ((World.cell?_of_block (w := wr) (a := ⟨w1.heap.size, 0, none⟩) (hBX.block _ (by show w1.heap.size < _; omega))).trans h64)
              (Lib.hid (HRN.out.below hBX)) (Lib.hid (HRT.out.below hBX)) HOK HOP (Lib.hid hs))
          clear hzr hO hke
          go_wp2_with fail
          refine (fromStep_any ps.length _ _ (renF ps p) _ hn5 HF32 closed_Rename HCN).mono ?_
          rintro e w5 ⟨⟨A5, c5, rfl, hc5, hO5⟩, hB5⟩
          have hz5 := hB5.size
          have HT := netText_any A5 c5 (frS ps.length (renF ps p)) w5 (Lib.hid hO5.rd) HFO (by rw [HFL.out]; exact hps)
          rw [HFL.out] at HT
          have HT2 := Lib.hid HT
          clear HT hO5
          go_wp2_with fail
          refine HT2.out.mono ?_
          rintro e w6 ⟨rfl, hB6⟩
          go_wp2
          go_ret2
          exact ⟨by rw [HVN.out, HV.out]; rfl, HBW4.out.trans ((hB5.mono (by omega)).trans (hB6.mono (by omega)))⟩
    · have hd : ((to.length : Int) != (ps.length : Int)) = true := by simp; omega
      have HV : Hid (okR ps to = false) := Lib.hid (by
        rw [okR, okO, decide_eq_false hlen, Bool.false_and, Bool.false_and, Bool.and_false])
      have HVN := Lib.hid (renN_no HV.out)
      have h6 : (w1.alloc (.cells #[.slice A1 ps.length c1] 58)).cell? ⟨w1.heap.size, 0, none⟩ = some (.slice A1 ps.length c1) := (HX.out.cell 0).trans rfl
      clear hlen hzn
      go_wp2_with fail
      go_ret2
      exact ⟨by rw [HVN.out, HV.out]; rfl, HB02.out⟩
  · have HOK : Hid (okN ps = false) := Lib.hid (by simpa using h)
    have HV : Hid (okR ps to = false) := Lib.hid (by rw [okR, HOK.out]; rfl)
    have HVN := Lib.hid (renN_no HV.out)
    clear h
    go_enter Tryd.func44, Tryd.ntmps44
    go_wp2_with fail
    refine (readNetwork_any s _ HM hs).mono ?_
    rintro e w1 ⟨⟨A1, k0, c1, rfl, himp⟩, hB1⟩
    have hz1 := hB1.size
    rw [← HPS.out, HOK.out]
    clear himp
    go_wp2_with fail
    go_ret2
    exact ⟨by rw [HVN.out, HV.out]; rfl, (hBe.trans (hB1.mono (by omega))).alloc (by omega) _⟩

end Go.Proofs.YtpehimjngofnkaaDoor
