/- Walks of the reference's functions on the steps of networks. -/
import Derived.Test.YtfaidbngingjpaaDoorProg
import Derived.WalkKit
import Derived.WalkSpells
import Derived.WalkLawsBesides
import Derived.Lib.Hide
import Derived.Deep.QuietTactic
import Derived.BigQuiet
import Derived.Test.YtfaidbngingjpaaDoorWv
namespace Go.Proofs.YtfaidbngingjpaaDoor
open Go.RowKit

theorem sTableValidL (l : List UInt8) (w : World) (hf : l.length ≤ 9223372036854775806) :
    Calls Tryd.prog 107 #[.string ⟨l.toArray⟩] w fun e w' => e = .returned (.bool (okT l)) ∧ w = w' := by
  have h := sTableValid_any ⟨l.toArray⟩ w (by rw [str_size]; exact hf)
  simpa using h

/-- what the opening of a network's text hands back -/
def OpnS (B : Nat) (ps : List (List UInt8)) (e : Ending) (w' : World) : Prop :=
  ∃ A k c, e = .returned (.tuple #[.slice A k c, .bool (okN ps)]) ∧ (okN ps = true → k = ps.length ∧ ps.length ≤ c ∧ Own w' B A (strs ps))
set_option maxHeartbeats 400000 in
theorem l3Open_any (s : ByteArray) (w : World) (hs : s.size ≤ 1073741824) :
    Calls Tryd.prog 52 #[.string s] w fun e w' => OpnS w.heap.size (cutL s.data.toList) e w' ∧ Below w.heap.size w w' := by
  have hcl := cutL_len s.data.toList
  have HPL := Lib.hid (cutL_part s.data.toList)
  rw [show s.data.toList.length = s.size from by simp] at hcl HPL
  obtain ⟨ps, HPS⟩ : ∃ ps, Hid (ps = cutL s.data.toList) := ⟨_, rfl⟩
  rw [← HPS.out] at hcl HPL ⊢
  go_enter Tryd.func52, Tryd.ntmps52
  go_wp2_with fail
  refine (l14Cut_any s w hs).mono ?_
  rintro e w1 ⟨⟨A, c, rfl, hc, hO⟩, hB1⟩
  rw [← HPS.out] at hc hO ⊢
  have HO := Lib.hid hO
  have hz1 := hB1.size
  clear hO
  go_wp2
  go_loopw [5] (fun q wr => ∃ i : Nat, i ≤ ps.length ∧ q = .int .i64 i ∧ Hid (((ps.take i).all fun p => okT p && (tin p.length == ps.length)) = true) ∧ wr = w1) (fun q _ => ps.length - (intOf q).toNat)
  case atStart => exact ⟨0, Nat.zero_le _, rfl, Lib.hid rfl, rfl⟩
  case round =>
    obtain ⟨i, hi, rfl, HI, rfl⟩ := hrel
    by_cases hil : i < ps.length
    · obtain ⟨g, off, hA, hcell⟩ := HO.out.rd.text hil
      have HA := Lib.hid hA
      have hpl : ps[i].length ≤ s.size := HPL.out _ (List.getElem_mem hil)
      subst hA
      by_cases h1 : okT ps[i] = true
      · by_cases h2 : tin ps[i].length = ps.length
        · have HI2 := Lib.hid (okN_take hil HI.out h1 h2)
          have hd : (inN ps[i].length != (ps.length : Int)) = false := by
            rw [inN_yes (by rw [h2]; omega), h2]; exact bne_self_eq_false _
          have h1' := h1
          clear h1 h2
          go_wp2_with (first
            | (go_at_call 107; refine (sTableValidL ps[i] _ (by omega)).mono ?_; rintro e w2 ⟨rfl, rfl⟩; rw [h1'])
            | (go_at_call 108; refine (l1Inputs_any _ _ (by omega)).mono ?_; rintro e w3 ⟨rfl, rfl⟩))
          go_roundw
          case rel => exact ⟨i + 1, by omega, by go_num, HI2, trivial⟩
          case measure => simp [intOf]; omega
        · have hd : (inN ps[i].length != (ps.length : Int)) = true := by
            unfold inN
            split
            · simp
            · simp; omega
          have HN : Hid (okN ps = false) := Lib.hid (okN_bad (List.getElem_mem hil) (.inr h2))
          have h1' := h1
          clear h1 h2
          go_wp2_with (first
            | (go_at_call 107; refine (sTableValidL ps[i] _ (by omega)).mono ?_; rintro e w2 ⟨rfl, rfl⟩; rw [h1'])
            | (go_at_call 108; refine (l1Inputs_any _ _ (by omega)).mono ?_; rintro e w3 ⟨rfl, rfl⟩))
          go_ret2
          exact ⟨⟨_, _, _, by rw [HN.out]; rfl, fun h => by rw [HN.out] at h; cases h⟩, hB1.alloc (by omega) _⟩
      · have h1' : okT ps[i] = false := by simpa using h1
        have HN : Hid (okN ps = false) := Lib.hid (okN_bad (List.getElem_mem hil) (.inl h1'))
        clear h1
        go_wp2_with (go_at_call 107; refine (sTableValidL ps[i] _ (by omega)).mono ?_; rintro e w2 ⟨rfl, rfl⟩; rw [h1'])
        go_ret2
        exact ⟨⟨_, _, _, by rw [HN.out]; rfl, fun h => by rw [HN.out] at h; cases h⟩, hB1.alloc (by omega) _⟩
    · have HN : Hid (okN ps = true) := Lib.hid (by
        have h := HI.out
        rw [List.take_of_length_le (by omega)] at h
        exact h)
      go_wp2_with fail
      go_ret2
      exact ⟨⟨_, _, _, by rw [HN.out]; rfl, fun _ => ⟨rfl, hc, HO.out⟩⟩, hB1⟩

theorem l1At_any (l : List UInt8) (s : Nat) (w : World) (hs : s < l.length) (hb : Hid (b01 l[s] = true)) :
    Calls Tryd.prog 70 #[.string ⟨l.toArray⟩, .int .i64 (s : Int)] w fun e w' => e = .returned (.int .i64 (val l s : Int)) ∧ w = w' := by
  have hr : 48 ≤ (l[s].toNat : Int) ∧ (l[s].toNat : Int) ≤ 49 := by have := hb.out; simp [b01] at this; omega
  obtain ⟨hr1, hr2⟩ := hr
  have hv : Hid ((val l s : Int) = (l[s].toNat : Int) - 48) := Lib.hid (by rw [val_get hs]; omega)
  have hs2 : s < (⟨l.toArray⟩ : ByteArray).size := by rw [str_size]; exact hs
  have he : (⟨l.toArray⟩ : ByteArray)[s] = l[s] := by rfl
  go_enter Tryd.func70, Tryd.ntmps70
  go_wp2
  go_ret
  exact ⟨ret_int hv.out.symm, rfl⟩

theorem l1Set_any (s i v : Nat) (w : World) (hs : s < 32) (hi : i < 5) (hv : v < 2) :
    Calls Tryd.prog 139 #[.int .i64 (s : Int), .int .i64 (i : Int), .int .i64 (v : Int)] w fun e w' => e = .returned (.int .i64 (holdN s i v : Int)) ∧ w = w' := by
  have hb := hold_bits s hs i hi v hv
  go_enter Tryd.func139, Tryd.ntmps139
  go_wp2
  go_ret
  exact ⟨rfl, rfl⟩

theorem l3All_any (A : Option Addr) (n c N : Nat) (w : World) (hn : n ≤ 5) (HN : Hid (N = 2 ^ n)) :
    Calls Tryd.prog 53 #[.slice A n c] w fun e w' => e = .returned (.int .i64 ((N : Int) - 1)) ∧ w = w' := by
  have hN : wrap64 ((2 : Int) ^ n) = (N : Int) := by
    rw [HN.out, show ((2 : Int) ^ n) = ((2 ^ n : Nat) : Int) by simp]
    exact wrap64_small _ (two_le n hn)
  have hN32 : N ≤ 32 := by rw [HN.out]; exact two_le n hn
  go_enter Tryd.func53, Tryd.ntmps53
  go_wp2
  simp only [hN]
  go_ret
  exact ⟨rfl, rfl⟩

/-- what the opening of a network's text at a state hands back -/
def StS (B : Nat) (ps : List (List UInt8)) (t : Int) (e : Ending) (w' : World) : Prop :=
  ∃ A k c, e = .returned (.tuple #[.slice A k c, .bool (okSt ps t)]) ∧ (okSt ps t = true → k = ps.length ∧ ps.length ≤ c ∧ Own w' B A (strs ps))
theorem l3State_any (s : ByteArray) (t : Int) (w : World) (hs : s.size ≤ 1073741824) :
    Calls Tryd.prog 76 #[.string s, .int .i64 t] w fun e w' => StS w.heap.size (cutL s.data.toList) t e w' ∧ Below w.heap.size w w' := by
  obtain ⟨ps, HPS⟩ : ∃ ps, Hid (ps = cutL s.data.toList) := ⟨_, rfl⟩
  rw [← HPS.out]
  by_cases h : okN ps = true
  · obtain ⟨N, HN, hN, hN32, hN0⟩ := wrap_two ps.length (okN_le h)
    have HST := Lib.hid (okSt_of (t := t) h HN.out)
    have hn5 := okN_le h
    have HOK := Lib.hid h
    clear h
    go_enter Tryd.func76, Tryd.ntmps76
    go_wp2_with fail
    refine (l3Open_any s w hs).mono ?_
    rintro e w1 ⟨⟨A, k, c, rfl, himp⟩, hB1⟩
    rw [← HPS.out] at himp ⊢
    obtain ⟨rfl, hc, hO⟩ := himp HOK.out
    rw [HOK.out]
    have HO := Lib.hid hO
    clear hO himp
    go_wp2_with fail
    refine (l3All_any _ _ _ N _ hn5 HN).mono ?_
    rintro e w2 ⟨rfl, rfl⟩
    go_wp2_with fail
    refine (l1In_any _ _ _ _).mono ?_
    rintro e w2 ⟨rfl, rfl⟩
    go_wp2
    go_ret2
    exact ⟨⟨_, _, _, by rw [HST.out]; rfl, fun _ => ⟨rfl, hc, HO.out⟩⟩, hB1⟩
  · have h' : okN ps = false := by simpa using h
    have HST := Lib.hid (okSt_no (t := t) h')
    have HOK := Lib.hid h'
    clear h h'
    go_enter Tryd.func76, Tryd.ntmps76
    go_wp2_with fail
    refine (l3Open_any s w hs).mono ?_
    rintro e w1 ⟨⟨A, k, c, rfl, himp⟩, hB1⟩
    clear himp
    rw [← HPS.out, HOK.out]
    go_wp2
    go_ret2
    exact ⟨⟨_, _, _, by rw [HST.out]; rfl, fun h => by rw [HST.out] at h; cases h⟩, hB1⟩

theorem l3Step_any (A : Option Addr) (c : Nat) (ps : List (List UInt8)) (s W : Nat) (w : World) (hx : Hid (Rd w A (strs ps))) (hok : Hid (okN ps = true)) (hs : Hid (s < 2 ^ ps.length)) (hW : W < 32) :
    Calls Tryd.prog 98 #[.slice A ps.length c, .int .i64 (s : Int), .int .i64 (W : Int)] w fun e w' => e = .returned (.int .i64 (stW (nb ps s) s W ps.length : Int)) ∧ w = w' := by
  have hn5 := okN_le hok.out
  obtain ⟨N, HN, hN, hN32, hN0⟩ := wrap_two ps.length hn5
  have hsN : s < N := by rw [HN.out]; exact hs.out
  have HLT := Lib.hid (fun k hk => stW_lt (W := W) (nb_lt hok.out s) hn5 hs.out k hk)
  rw [← HN.out] at HLT
  go_enter Tryd.func98, Tryd.ntmps98
  go_wp2
  go_loopw [7, 8] (fun v q wr => ∃ k o : Nat, k ≤ ps.length ∧ q = .int .i64 k ∧ v = .int .i64 o ∧ Hid (o = stW (nb ps s) s W k) ∧ wr = w) (fun _ q _ => ps.length - (intOf q).toNat)
  case atStart => exact ⟨0, s, Nat.zero_le _, rfl, rfl, rfl, rfl⟩
  case round =>
    obtain ⟨k, o, hk, rfl, rfl, HO, rfl⟩ := hrel
    by_cases hlt : k < ps.length
    · have ho : o < N := by rw [HO.out]; exact HLT.out k hk
      obtain ⟨g, off, hA, hcell⟩ := hx.out.text hlt
      have hpl : ps[k].length = N := part_len hok.out HN.out hlt
      subst hA
      have hsl : s < ps[k].length := by omega
      have hb01 := Lib.hid (part_b01 hok.out hlt hsl)
      have hv2 : val ps[k] s < 2 := by rw [← nb_at s hlt]; exact nb_lt hok.out s k
      by_cases hw : bit W k = 1
      · have HO2 : Hid (holdN o k (val ps[k] s) = stW (nb ps s) s W (k + 1)) := Lib.hid (by rw [stW, if_pos hw, ← HO.out, nb_at s hlt])
        have hd : ((bit W k : Int) == 1) = true := by rw [hw]; rfl
        clear hw
        go_wp2_with (first
          | (go_at_call 121; refine (l1Bit_any _ _ _ (by omega) (by omega)).mono ?_; rintro e w2 ⟨rfl, rfl⟩)
          | (go_at_call 70; refine (l1At_any _ _ _ hsl hb01).mono ?_; rintro e w2 ⟨rfl, rfl⟩)
          | (go_at_call 139; refine (l1Set_any _ _ _ _ (by omega) (by omega) hv2).mono ?_; rintro e w2 ⟨rfl, rfl⟩))
        go_roundw
        case rel => exact ⟨k + 1, _, by omega, by go_num, rfl, HO2, trivial⟩
        case measure => simp [intOf]; omega
      · have HO2 : Hid (o = stW (nb ps s) s W (k + 1)) := Lib.hid (by rw [stW, if_neg hw, ← HO.out])
        have hd : ((bit W k : Int) == 1) = false := by simp; omega
        clear hw
        go_wp2_with (go_at_call 121; refine (l1Bit_any _ _ _ (by omega) (by omega)).mono ?_; rintro e w2 ⟨rfl, rfl⟩)
        go_roundw
        case rel => exact ⟨k + 1, _, by omega, by go_num, rfl, HO2, trivial⟩
        case measure => simp [intOf]; omega
    · have hkn : k = ps.length := by omega
      subst hkn
      go_wp2
      go_ret
      exact ⟨by rw [← HO.out]; rfl, rfl⟩

theorem l3AllN_any (A : Option Addr) (n c N : Nat) (w : World) (hn : n ≤ 5) (HN : Hid (N = 2 ^ n)) (h0 : 0 < N) :
    Calls Tryd.prog 53 #[.slice A n c] w fun e w' => e = .returned (.int .i64 ((N - 1 : Nat) : Int)) ∧ w = w' := by
  have h := l3All_any A n c N w hn HN
  rwa [show ((N : Int) - 1) = ((N - 1 : Nat) : Int) by omega] at h
theorem l3StepA_any (A : Option Addr) (c : Nat) (ps : List (List UInt8)) (s N : Nat) (w : World) (hx : Hid (Rd w A (strs ps))) (hok : Hid (okN ps = true)) (HN : Hid (N = 2 ^ ps.length)) (hs : Hid (s < 2 ^ ps.length)) :
    Calls Tryd.prog 98 #[.slice A ps.length c, .int .i64 (s : Int), .int .i64 ((N - 1 : Nat) : Int)] w fun e w' => e = .returned (.int .i64 (stp ps s : Int)) ∧ w = w' := by
  have h32 := two_le _ (okN_le hok.out)
  have h := l3Step_any A c ps s (N - 1) w hx hok hs (by have := HN.out; omega)
  have e : stW (nb ps s) s (N - 1) ps.length = stp ps s := by rw [HN.out]; exact stp_of hok.out hs.out
  rwa [e] at h

theorem nextTo_yes {ps : List (List UInt8)} {s k : Nat} (h : ¬ stp1 ps s k = s) : ints (nextTo ps s (k + 1)) = ints (nextTo ps s k) ++ [(stp1 ps s k : Int)] := by rw [nextTo, if_neg h, ints_append]; rfl
theorem nextTo_no {ps : List (List UInt8)} {s k : Nat} (h : stp1 ps s k = s) : ints (nextTo ps s (k + 1)) = ints (nextTo ps s k) := by rw [nextTo, if_pos h]
theorem l5Next_any (A : Option Addr) (c : Nat) (ps : List (List UInt8)) (s : Nat) (w : World) (hx : Hid (Rd w A (strs ps))) (hok : Hid (okN ps = true)) (hs : Hid (s < 2 ^ ps.length)) :
    Calls Tryd.prog 102 #[.slice A ps.length c, .int .i64 (s : Int)] w fun e w' => RetI w.heap.size (ints (nextN ps s)) e w' ∧ Below w.heap.size w w' := by
  have hn5 := okN_le hok.out
  have h32 : s < 32 := Nat.lt_of_lt_of_le hs.out (two_le _ hn5)
  unfold nextN
  go_enter Tryd.func102, Tryd.ntmps102
  go_wp2
  go_loopw [5, 6] (fun v q wr => ∃ k : Nat, k ≤ ps.length ∧ q = .int .i64 k ∧ Hid (OI wr w.heap.size 3 v (ints (nextTo ps s k))) ∧ Below w.heap.size w wr) (fun _ q _ => ps.length - (intOf q).toNat)
  case atStart => exact ⟨0, Nat.zero_le _, rfl, Lib.hid (OI.empty _ _ _ (Nat.le_refl _)), (Below.refl _ _).alloc (Nat.le_refl _) _⟩
  case round =>
    obtain ⟨k, hk, rfl, HO, hB⟩ := hrel
    have HR := Lib.hid (hx.out.below hB)
    have hsz := hB.size
    have hlen : (ints (nextTo ps s k)).length ≤ k := by rw [ints_length]; exact nextTo_len _ _ _
    by_cases hlt : k < ps.length
    · obtain ⟨W, HW, hW, hW32, hW0⟩ := wrap_two k (by omega)
      have hWlt : W < 32 := by
        rw [HW.out]
        have : 2 ^ k ≤ 2 ^ 4 := Nat.pow_le_pow_right (by omega) (by omega)
        omega
      have HS : Hid (stW (nb ps s) s W ps.length = stp1 ps s k) := Lib.hid (by rw [HW.out]; exact stp1_of hok.out hs.out hlt)
      by_cases he : stp1 ps s k = s
      · have HE := Lib.hid (nextTo_no he)
        have hd : ((stp1 ps s k : Int) != (s : Int)) = false := by rw [he]; exact bne_self_eq_false _
        clear he
        go_wp2_with fail
        simp only [hW]
        go_wp2_with (go_at_call 98; refine (l3Step_any _ _ _ _ W _ HR hok hs hWlt).mono ?_; rintro e w2 ⟨rfl, rfl⟩; rw [HS.out])
        go_roundw
        case rel => exact ⟨k + 1, by omega, by go_num, Lib.hid (by rw [HE.out]; exact HO.out), hB⟩
        case measure => simp [intOf]; omega
      · have HE := Lib.hid (nextTo_yes he)
        have hd : ((stp1 ps s k : Int) != (s : Int)) = true := by simp; omega
        clear he
        go_wp2_with fail
        simp only [hW]
        go_wp2_with (first
          | (go_at_call 98; refine (l3Step_any _ _ _ _ W _ HR hok hs hWlt).mono ?_; rintro e w2 ⟨rfl, rfl⟩; rw [HS.out])
          | (at_builtin; refine wp_pushI rfl _ _ _ rfl Tryd.underlying22 info_int HO.out rfl rfl (by omega) hsz ?_; intro v' w3 hown hbel hsz3))
        go_roundw
        case rel => exact ⟨k + 1, by omega, by go_num, Lib.hid (by rw [HE.out]; exact hown), hB.trans (hbel _ (Nat.le_refl _))⟩
        case measure => simp [intOf]; omega
    · have hkn : k = ps.length := by omega
      subst hkn
      obtain ⟨A', c', hv, hc, hO⟩ := HO.out.form
      have HV := Lib.hid hv
      clear hv
      go_wp2
      go_ret
      exact ⟨⟨A', c', by rw [← HV.out]; rfl, hc, hO⟩, hB⟩

end Go.Proofs.YtfaidbngingjpaaDoor
