/- Walks: TurnNetwork, on both sides. -/
import Derived.Test.YtjinmoeabkpmaaaDoorProg
import Derived.WalkKit
import Derived.WalkSpells
import Derived.WalkLawsBesides
import Derived.Lib.Hide
import Derived.Deep.QuietTactic
import Derived.BigQuiet
import Derived.Test.YtjinmoeabkpmaaaDoorY9
namespace Go.Proofs.YtjinmoeabkpmaaaDoor
open Go.RowKit
set_option linter.unusedVariables false

set_option maxRecDepth 100000 in
theorem turned_any (A : Option Addr) (c m : Nat) (ps : List (List UInt8)) (w : World) (hx : Hid (Rd w A (netL ps))) (hok : Hid (okN ps = true)) (hm : Hid (m < 2 ^ ps.length)) :
    Calls Tryd.prog 110 #[.slice A ps.length c, .int .i64 (m : Int)] w fun e w' => RetN w.heap.size (frS ps.length (trnF ps m)) ps.length e w' ∧ Below w.heap.size w w' := by
  have hn5 := okN_le hok.out
  have HF1 := Lib.hid (fun (args : Array Value) (W : World) => (show (callFunc 136 args).run Tryd.prog W = .ok (.enter 136 args) W by kernel_rfl))
  have HX1 := Lib.hid (Blk.new w 53 #[.slice A ps.length c])
  have HB1 : Hid (Below w.heap.size w (w.alloc (.cells #[.slice A ps.length c] 53))) := Lib.hid ((Below.refl _ _).alloc (Nat.le_refl _) _)
  have HX2 := Lib.hid (Blk.new (w.alloc (.cells #[.slice A ps.length c] 53)) 3 #[.int .i64 (m : Int)])
  have HB2 : Hid (Below (w.heap.size + 1) (w.alloc (.cells #[.slice A ps.length c] 53)) ((w.alloc (.cells #[.slice A ps.length c] 53)).alloc (.cells #[.int .i64 (m : Int)] 3))) := Lib.hid ((Below.refl _ _).alloc (by rw [alloc_size]; exact Nat.le_refl _) _)
  have HCN : Hid (CloN ((w.alloc (.cells #[.slice A ps.length c] 53)).alloc (.cells #[.int .i64 (m : Int)] 3)) (2 ^ ps.length) 136 #[.pointer (some ⟨w.heap.size, 0, none⟩), .pointer (some ⟨w.heap.size + 1, 0, none⟩)] (trnF ps m)) := Lib.hid (fun s w3 hs hB3 => by
    have h1 := HX1.out.below HB2.out (by omega)
    have h2 := HX2.out
    rw [alloc_size] at h2
    have hz : w.heap.size + 1 < ((w.alloc (.cells #[.slice A ps.length c] 53)).alloc (.cells #[.int .i64 (m : Int)] 3)).heap.size := by rw [alloc_size, alloc_size]; omega
    have hBe : Below w.heap.size w w3 := HB1.out.trans ((HB2.out.mono (by omega)).trans (hB3.mono (by omega)))
    exact turned1_any w.heap.size (w.heap.size + 1) m s A c ps w3 (((h1.keep hB3).cell 0).trans rfl) (((h2.keep hB3).cell 0).trans rfl) (Lib.hid (hx.out.below hBe)) hok (Lib.hid hs) hm)
  have HFL : Hid (∀ s, s < 2 ^ ps.length → trnF ps m s < 32) := Lib.hid (fun s _ => Nat.lt_of_lt_of_le (trnF_lt hok.out hm.out s) (two_le _ hn5))
  go_enter Tryd.func110, Tryd.ntmps110
  go_wp2_with (go_at_call 135; refine (fromStep_any ps.length _ _ (trnF ps m) _ hn5 HFL HF1.out HCN).mono ?_; rintro e w4 ⟨⟨A', c', rfl, hc, hO⟩, hB4⟩)
  go_ret
  rw [alloc_size, alloc_size] at hO hB4
  exact ⟨⟨A', c', rfl, hc, hO.mono (by omega)⟩, HB1.out.trans ((HB2.out.mono (by omega)).trans (hB4.mono (by omega)))⟩

/-- the text of a network with a switch the other way round -/
def turnN (ps : List (List UInt8)) (t : Int) : List UInt8 := if okSw ps t then joinN (frS ps.length (trnF ps (2 ^ t.toNat))) else []
theorem turnN_no {ps : List (List UInt8)} {t : Int} (h : okSw ps t = false) : turnN ps t = [] := by rw [turnN, h]; rfl
theorem turnN_yes {ps : List (List UInt8)} {k : Nat} (h : okSw ps (k : Int) = true) : turnN ps (k : Int) = joinN (frS ps.length (trnF ps (2 ^ k))) := by rw [turnN, if_pos h]; rfl
/-- a text and whether there is one -/
def txtV (l : List UInt8) (b : Bool) : Value := .tuple #[.string ⟨l.toArray⟩, .bool b]

theorem TurnNetwork_any (s : ByteArray) (t : Int) (w : World) (hm : Hid (HasM w)) (hs : s.size ≤ 1073741824) :
    Calls Tryd.prog 57 #[.string s, .int .i64 t] w fun e w' => e = .returned (txtV (turnN (cutL s.data.toList) t) (okSw (cutL s.data.toList) t)) ∧ Below w.heap.size w w' := by
  obtain ⟨ps, HPS⟩ : ∃ ps, Hid (ps = cutL s.data.toList) := ⟨_, rfl⟩
  rw [← HPS.out]
  by_cases h : okSw ps t = true
  · obtain ⟨h1, k, rfl, hk⟩ := okSw_true h
    have hn5 := okN_le h1
    obtain ⟨m, HM, hmw, hm32, hm0⟩ := wrap_two k (by omega)
    have HOK := Lib.hid h1
    have HW := Lib.hid h
    have HV := Lib.hid (turnN_yes h)
    have HML : Hid (m < 2 ^ ps.length) := Lib.hid (by rw [HM.out]; exact Nat.pow_lt_pow_right (by omega) hk)
    have HFO := Lib.hid (frS_ok (n := ps.length) (f := trnF ps m) (by omega) hn5)
    have HFL : Hid ((frS ps.length (trnF ps m)).length = ps.length) := Lib.hid (frS_length _ _)
    clear h h1
    go_enter Tryd.func57, Tryd.ntmps57
    go_wp2_with fail
    refine (switchOf_any s k w hm hs).mono ?_
    rintro e w1 ⟨⟨A, j, c, rfl, himp⟩, hB1⟩
    rw [← HPS.out] at himp ⊢
    obtain ⟨rfl, hc, hO⟩ := himp HW.out
    rw [HW.out]
    have hz1 := hB1.size
    have HR := Lib.hid hO.rd
    clear hO himp
    go_wp2_with fail
    refine (turned_any A c m ps _ HR HOK HML).mono ?_
    rintro e w2 ⟨⟨A2, c2, rfl, hc2, hO2⟩, hB2⟩
    have hz2 := hB2.size
    have HR2 := Lib.hid hO2.rd
    have HT := netText_any A2 c2 (frS ps.length (trnF ps m)) w2 HR2 HFO (by rw [HFL.out]; omega)
    rw [HFL.out] at HT
    have HT2 := Lib.hid HT
    clear HT hO2
    go_wp2_with fail
    refine HT2.out.mono ?_
    rintro e w3 ⟨rfl, hB3⟩
    go_wp2
    go_ret2
    exact ⟨by rw [HV.out, ← HM.out, HW.out]; rfl, hB1.trans ((hB2.mono hz1).trans (hB3.mono (by omega)))⟩
  · have HW : Hid (okSw ps t = false) := Lib.hid (by simpa using h)
    have HV := Lib.hid (turnN_no HW.out)
    clear h
    go_enter Tryd.func57, Tryd.ntmps57
    go_wp2_with fail
    refine (switchOf_any s t w hm hs).mono ?_
    rintro e w1 ⟨⟨A, j, c, rfl, himp⟩, hB1⟩
    clear himp
    rw [← HPS.out, HW.out]
    go_wp2
    go_ret2
    exact ⟨by rw [HV.out, HW.out]; rfl, hB1⟩

theorem bit_xor_pow : ∀ y, y < 32 → ∀ i, i < 5 → ∀ k, k < 5 → bit (y ^^^ 2 ^ i) k = if k = i then 1 - bit y k else bit y k := by decide +kernel
/-- the value of a rule of the turned network -/
def turnV (ps : List (List UInt8)) (i k s : Nat) : Nat := bit (trnF ps (2 ^ i) s) k
theorem turnV_eq {ps : List (List UInt8)} (h : okN ps = true) {i k : Nat} (hi : i < ps.length) (hk : k < ps.length) (s : Nat) :
    turnV ps i k s = if k = i then 1 - val ps[k] (s ^^^ 2 ^ i) else val ps[k] (s ^^^ 2 ^ i) := by
  have h5 := okN_le h
  have hy : stp ps (s ^^^ 2 ^ i) < 32 := Nat.lt_of_lt_of_le (stp_lt h _) (two_le _ h5)
  have hb : bit (stp ps (s ^^^ 2 ^ i)) k = val ps[k] (s ^^^ 2 ^ i) := by
    rw [stp, bit_asm (nb_lt h _) k _ hk, nb_at _ hk]
  rw [turnV, trnF, bit_xor_pow _ hy i (by omega) k (by omega), hb]
def turnVs (ps : List (List UInt8)) (i k j : Nat) : List Nat := (List.range j).map (turnV ps i k)
theorem turnVs_len (ps : List (List UInt8)) (i k j : Nat) : (turnVs ps i k j).length = j := by simp [turnVs]
theorem turnVs_succ (ps : List (List UInt8)) (i k j : Nat) : ints (turnVs ps i k (j + 1)) = ints (turnVs ps i k j) ++ [(turnV ps i k j : Int)] := by
  rw [turnVs, turnVs, List.range_succ, List.map_append, ints_append]; rfl
theorem turnVs_lt (ps : List (List UInt8)) (i k j : Nat) : ∀ x ∈ turnVs ps i k j, x < 2 := by
  intro x hx
  simp only [turnVs, List.mem_map] at hx
  obtain ⟨s, _, rfl⟩ := hx
  exact bit_lt _ _
theorem turnVs_txt (ps : List (List UInt8)) (i k : Nat) (N : Nat) : chrs (turnVs ps i k N) = txt N fun s => bit (trnF ps (2 ^ i) s) k := by
  rw [chrs, turnVs, txt, List.map_map]; rfl
theorem frS_lens {n : Nat} (h5 : n ≤ 5) (f : Nat → Nat) : ∀ p ∈ frS n f, p.length ≤ 32 := by
  intro p hp
  simp only [frS, List.mem_map] at hp
  obtain ⟨k, _, rfl⟩ := hp
  rw [txt_length]; exact two_le n h5

set_option maxHeartbeats 2000000 in
set_option maxRecDepth 100000 in
theorem sTurnNetwork_any (s : ByteArray) (t : Int) (w : World) (hs : s.size ≤ 1073741824) :
    Calls Tryd.prog 58 #[.string s, .int .i64 t] w fun e w' => e = .returned (txtV (turnN (cutL s.data.toList) t) (okSw (cutL s.data.toList) t)) ∧ Below w.heap.size w w' := by
  obtain ⟨ps, HPS⟩ : ∃ ps, Hid (ps = cutL s.data.toList) := ⟨_, rfl⟩
  rw [← HPS.out]
  by_cases h : okSw ps t = true
  · obtain ⟨h1, i, rfl, hi⟩ := okSw_true h
    have hn5 := okN_le h1
    obtain ⟨m, HM, hmw, hm32, hm0⟩ := wrap_two i (by omega)
    obtain ⟨N, HN, hNw, hN32, hN0⟩ := wrap_two ps.length hn5
    have HOK := Lib.hid h1
    have HW := Lib.hid h
    have HV := Lib.hid (turnN_yes h)
    have hIn : (decide ((0 : Int) ≤ (i : Int)) && decide ((i : Int) ≤ (ps.length : Int) - 1)) = true := by simp; omega
    have HML : Hid (m < 2 ^ ps.length) := Lib.hid (by rw [HM.out]; exact Nat.pow_lt_pow_right (by omega) hi)
    have HFL : Hid ((frS ps.length (trnF ps (2 ^ i))).length = ps.length) := Lib.hid (frS_length _ _)
    have HLEN := Lib.hid (frS_lens hn5 (trnF ps (2 ^ i)))
    clear h h1 hNw
    go_enter Tryd.func58, Tryd.ntmps58
    go_wp2_with fail
    refine (l3Open_any s w hs).mono ?_
    rintro e w1 ⟨⟨A, k0, c, rfl, himp⟩, hB1⟩
    rw [← HPS.out] at himp ⊢
    obtain ⟨rfl, hc, hO⟩ := himp HOK.out
    rw [HOK.out]
    have hz1 := hB1.size
    have HR := Lib.hid hO.rd
    clear hO himp
    go_wp2_with (go_at_call 92; refine (l1In_any _ _ _ _).mono ?_; rintro e w2 ⟨rfl, rfl⟩; rw [hIn])
    clear hIn
    go_loopw [8, 9] (fun v q wr => ∃ k : Nat, k ≤ ps.length ∧ q = .int .i64 k ∧ Hid (OS wr w1.heap.size 9 v ((frS ps.length (trnF ps (2 ^ i))).take k)) ∧ Below w1.heap.size w1 wr) (fun _ q _ => ps.length - (intOf q).toNat)
    case atStart => exact ⟨0, Nat.zero_le _, rfl, Lib.hid (OS.empty _ _ _ (Nat.le_refl _)), (Below.refl _ _).alloc (Nat.le_refl _) _⟩
    case round =>
      obtain ⟨k, hk, rfl, HO, hB⟩ := hrel
      have hsz := hB.size
      by_cases hlt : k < ps.length
      · obtain ⟨B2, hB2⟩ : ∃ B2, B2 = wr.heap.size := ⟨_, rfl⟩
        have HTK : Hid ((frS ps.length (trnF ps (2 ^ i))).take (k + 1) = (frS ps.length (trnF ps (2 ^ i))).take k ++ [txt N fun s => bit (trnF ps (2 ^ i) s) k]) := Lib.hid (by rw [HN.out]; exact frS_take hlt)
        have hlk : ((frS ps.length (trnF ps (2 ^ i))).take k).length ≤ 5 := by rw [List.length_take, HFL.out]; omega
        have HBW := Lib.hid hB
        clear hB
        have HLN : Hid (ps[k].length = N) := Lib.hid (part_len HOK.out HN.out hlt)
        have hl1 : ps[k].length ≤ N := Nat.le_of_eq HLN.out
        have hl2 : N ≤ ps[k].length := Nat.le_of_eq HLN.out.symm
        clear hB2
        go_wp2_with fail
        go_loopw [10, 11] (fun v q wq => ∃ j : Nat, j ≤ N ∧ q = .int .i64 j ∧ Hid (OI wq wr.heap.size 3 v (ints (turnVs ps i k j))) ∧ Below wr.heap.size wr wq) (fun _ q _ => N - (intOf q).toNat)
        case atStart => exact ⟨0, Nat.zero_le _, rfl, Lib.hid (OI.empty _ _ _ (Nat.le_refl _)), (Below.refl _ _).alloc (Nat.le_refl _) _⟩
        case round =>
          obtain ⟨j, hj, rfl, HI, hBi⟩ := hrel
          have hszi := hBi.size
          have hlen := turnVs_len ps i k j
          rw [← ints_length] at hlen
          have hle2 : (ints (turnVs ps i k j)).length ≤ 32 := by omega
          clear hlen
          obtain ⟨g, off, hA, hcell⟩ := (HR.out.below (HBW.out.trans (hBi.mono hsz))).text hlt
          subst hA
          by_cases hjl : j < N
          · obtain ⟨x, HX⟩ : ∃ x, Hid (x = j ^^^ m) := ⟨_, rfl⟩
            have hxN : x < N := by
              rw [HX.out, HN.out]
              exact Nat.xor_lt_two_pow (by rw [← HN.out]; exact hjl) HML.out
            have e1 : bits .xor .i64 (j : Int) (m : Int) = (x : Int) := by rw [HX.out]; exact i64_xor_nat j m (by omega) (by omega)
            have hxl : x < ps[k].length := by rw [HLN.out]; exact hxN
            have HBB := Lib.hid (part_b01 HOK.out hlt hxl)
            have hv2 : val ps[k] x < 2 := val_lt (okT_true (okN_of HOK.out (List.getElem_mem hlt)).1).2.2.2 x
            have HS := Lib.hid (turnVs_succ ps i k j)
            by_cases hki : k = i
            · have HE : Hid ((turnV ps i k j : Int) = 1 - (val ps[k] x : Int)) := Lib.hid (by
                rw [turnV_eq HOK.out hi hlt, if_pos hki, ← HM.out, ← HX.out]; omega)
              have hd : ((k : Int) == (i : Int)) = true := by simp [hki]
              clear hki
              go_wp2_with (first
                | (go_at_call 112; refine (l1At_any _ _ _ hxl HBB).mono ?_; rintro e w2 ⟨rfl, rfl⟩)
                | (at_builtin; refine wp_pushI rfl _ _ _ rfl Tryd.underlying31 info_int HI.out rfl rfl (by omega) hszi ?_; intro v' w3 hown hbel hsz3))
              go_roundw
              case rel => exact ⟨j + 1, by omega, by go_num, Lib.hid (by rw [HS.out, HE.out]; exact hown), hBi.trans (hbel _ (Nat.le_refl _))⟩
              case measure => simp [intOf]; omega
            · have HE : Hid ((turnV ps i k j : Int) = (val ps[k] x : Int)) := Lib.hid (by
                rw [turnV_eq HOK.out hi hlt, if_neg hki, ← HM.out, ← HX.out])
              have hd : ((k : Int) == (i : Int)) = false := by simp; omega
              clear hki
              go_wp2_with (first
                | (go_at_call 112; refine (l1At_any _ _ _ hxl HBB).mono ?_; rintro e w2 ⟨rfl, rfl⟩)
                | (at_builtin; refine wp_pushI rfl _ _ _ rfl Tryd.underlying31 info_int HI.out rfl rfl (by omega) hszi ?_; intro v' w3 hown hbel hsz3))
              go_roundw
              case rel => exact ⟨j + 1, by omega, by go_num, Lib.hid (by rw [HS.out, HE.out]; exact hown), hBi.trans (hbel _ (Nat.le_refl _))⟩
              case measure => simp [intOf]; omega
          · have hjn : j = N := by omega
            subst hjn
            obtain ⟨A', c', rfl, hc', hO'⟩ := HI.out.form
            have HT0 := l1Text_any A' c' (turnVs ps i k j) _ (Lib.hid hO'.rd) (Lib.hid (turnVs_lt ps i k j)) (by rw [turnVs_len]; omega)
            rw [turnVs_txt, ← ints_length] at HT0
            have HT1 := Lib.hid HT0
            have HO1 := Lib.hid (HO.out.below hBi)
            clear HT0 hO'
            go_wp2_with (first
              | (go_at_call 113; refine HT1.out.mono ?_; rintro e w2 ⟨rfl, n2, rfl⟩)
              | (at_builtin; refine wp_pushS rfl _ _ _ rfl Tryd.underlying47 info_str (HO1.out.below (drewN_below _ n2)) rfl rfl (by omega) (Nat.le_trans hsz hszi) ?_; intro v' w3 hown hbel hsz3))
            go_roundw
            case rel => exact ⟨k + 1, by omega, by go_num, Lib.hid (by rw [HTK.out]; exact hown), HBW.out.trans ((hBi.mono hsz).trans ((drewN_below _ n2).trans (hbel _ (Nat.le_refl _))))⟩
            case measure => simp [intOf]; omega
      · have hkn : k = ps.length := by omega
        subst hkn
        have HTE : Hid ((frS ps.length (trnF ps (2 ^ i))).take ps.length = frS ps.length (trnF ps (2 ^ i))) := Lib.hid (List.take_of_length_le (by rw [HFL.out]; exact Nat.le_refl _))
        have HOF := HO.out
        rw [HTE.out] at HOF
        obtain ⟨A', c', rfl, hc', hO'⟩ := HOF.form
        have HT0 := l3Text_any A' c' (frS ps.length (trnF ps (2 ^ i))) wr (Lib.hid hO'.rd) (Lib.hid (fun p hp => Nat.le_trans (HLEN.out p hp) (by omega))) (by rw [HFL.out]; omega)
        have HT1 := Lib.hid HT0
        clear HT0 hO' HOF
        go_wp2_with (go_at_call 114; refine HT1.out.mono ?_; rintro e w2 ⟨rfl, rfl⟩)
        go_ret2
        exact ⟨by rw [HV.out, HW.out]; rfl, hB1.trans (hB.mono hz1)⟩
  · have HW : Hid (okSw ps t = false) := Lib.hid (by simpa using h)
    have HV := Lib.hid (turnN_no HW.out)
    clear h
    by_cases h1 : okN ps = true
    · have hIn : (decide ((0 : Int) ≤ t) && decide (t ≤ (ps.length : Int) - 1)) = false := by
        have := HW.out
        simp only [okSw, h1, Bool.true_and, Bool.and_eq_false_iff, decide_eq_false_iff_not] at this ⊢
        omega
      have HOK := Lib.hid h1
      have hn5 := okN_le h1
      clear h1
      go_enter Tryd.func58, Tryd.ntmps58
      go_wp2_with fail
      refine (l3Open_any s w hs).mono ?_
      rintro e w1 ⟨⟨A, k0, c, rfl, himp⟩, hB1⟩
      rw [← HPS.out] at himp ⊢
      obtain ⟨rfl, hc, hO⟩ := himp HOK.out
      rw [HOK.out]
      clear hO himp
      go_wp2_with (go_at_call 92; refine (l1In_any _ _ _ _).mono ?_; rintro e w2 ⟨rfl, rfl⟩; rw [hIn])
      go_ret2
      exact ⟨by rw [HV.out, HW.out]; rfl, hB1⟩
    · have HOK : Hid (okN ps = false) := Lib.hid (by simpa using h1)
      clear h1
      go_enter Tryd.func58, Tryd.ntmps58
      go_wp2_with fail
      refine (l3Open_any s w hs).mono ?_
      rintro e w1 ⟨⟨A, k0, c, rfl, himp⟩, hB1⟩
      clear himp
      rw [← HPS.out, HOK.out]
      go_wp2
      go_ret2
      exact ⟨by rw [HV.out, HW.out]; rfl, hB1⟩

theorem bytes_eqb (a : ByteArray) : (a != a) = false := by
  have := (MapKept.bytes_beq a a).2 rfl
  simp [bne, this]
end Go.Proofs.YtjinmoeabkpmaaaDoor
