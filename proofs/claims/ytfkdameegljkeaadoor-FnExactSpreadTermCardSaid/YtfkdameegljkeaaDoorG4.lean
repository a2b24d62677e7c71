/- Walks and plain facts, joined: S1 S4 S3. -/
import Derived.Test.YtfkdameegljkeaaDoorProg
import Derived.WalkKit
import Derived.WalkSpells
import Derived.WalkLawsBesides
import Derived.Lib.Hide
import Derived.Deep.QuietTactic
import Derived.BigQuiet
import Derived.Test.YtfkdameegljkeaaDoorG1
import Derived.Test.YtfkdameegljkeaaDoorG2
import Derived.Test.YtfkdameegljkeaaDoorG3
import Derived.Laws.StructEq
import Derived.MapKept
/- Walks: what a term comes to (the reference's side). -/
namespace Go.Proofs.YtfkdameegljkeaaDoor
open Go.RowKit
set_option linter.unusedVariables false

theorem val_lt2 {l : List UInt8} {s : Nat} (h : s < l.length) (hb : b01 l[s] = true) : val l s < 2 := by
  rw [val_get h]
  simp [b01] at hb
  omega
set_option maxHeartbeats 1000000 in
theorem l6Forced_any (l : List UInt8) (t : ByteArray) (w : World) (hl : Hid (l.length = 2 ^ t.size)) (hb : Hid (∀ c ∈ l, b01 c = true)) (ht : t.size ≤ 5) (hok : Hid (t.data.toList.all okc = true)) :
    Calls Tryd.prog 71 #[.string ⟨l.toArray⟩, .string t] w fun e w' => e = .returned (.int .i64 (frcI l t.data.toList)) ∧ Below w.heap.size w w' := by
  obtain ⟨S, HS⟩ : ∃ S, Hid (S = stL t.data.toList) := ⟨_, rfl⟩
  have hsl : S.length ≤ 32 := by rw [HS.out]; exact stL_len t.data.toList (by simpa using ht)
  have h0 : 0 < S.length := by rw [HS.out]; exact stL_pos (List.all_eq_true.1 hok.out)
  have HLT : Hid (∀ j (h : j < S.length), S[j] < l.length) := Lib.hid fun j h => by
    subst S
    have := stL_lt (List.getElem_mem h)
    rw [hl.out]; simpa using this
  have HB : Hid (∀ j (h : j < l.length), b01 l[j] = true) := Lib.hid fun j h => hb.out _ (List.getElem_mem h)
  have hil : (ints S).length = S.length := ints_length _
  have hF1 : Hid ((∀ j (h : j < S.length), val l S[j] = val l S[0]) → frcI l t.data.toList = (val l S[0] : Int)) := Lib.hid fun h => by
    have hv := val_lt2 (HLT.out 0 h0) (HB.out _ (HLT.out 0 h0))
    have e := HS.out
    subst e
    exact frcI_all hv h0 fun j hj => h j hj
  have hF2 : Hid (∀ j (h : j < S.length), val l S[j] ≠ val l S[0] → frcI l t.data.toList = -1) := Lib.hid fun j h hne => by
    have hv := val_lt2 (HLT.out 0 h0) (HB.out _ (HLT.out 0 h0))
    have hv2 := val_lt2 (HLT.out j h) (HB.out _ (HLT.out j h))
    have e := HS.out
    subst e
    exact frcI_two h h0 hv2 hv hne
  go_enter Tryd.func71, Tryd.ntmps71
  go_wp2_with fail
  refine (l6States_any t w ht hok).mono ?_
  rw [← HS.out]
  rintro e w1 ⟨⟨A1, c1, rfl, hc1, hO1⟩, hB1⟩
  have HR1 := Lib.hid hO1.rd
  clear hO1
  go_wp2_with fail
  go_loopw [6] (fun q wr => ∃ k : Nat, 1 ≤ k ∧ k ≤ S.length ∧ q = .int .i64 k ∧ Hid (∀ j (h : j < S.length), j < k → val l S[j] = val l S[0]) ∧ Below w1.heap.size w1 wr) (fun q _ => S.length - (intOf q).toNat)
  case atStart => exact ⟨1, by omega, by omega, rfl, Lib.hid (fun j h hj => by have : j = 0 := by omega
                                                                               subst this; rfl), Below.refl _ _⟩
  case round =>
    obtain ⟨k, hk1, hk, rfl, HA, hB⟩ := hrel
    have HRR := Lib.hid (HR1.out.below hB)
    obtain ⟨g, off, hA, hcell0⟩ := HRR.out.at_ (ints_at h0)
    subst hA
    rw [Nat.add_zero] at hcell0
    have hl0 := HLT.out 0 h0
    have hb0 := Lib.hid (HB.out _ hl0)
    by_cases hlt : k < S.length
    · have hcellk := HRR.out.cell (ints_at hlt)
      have hlk := HLT.out k hlt
      have hbk := Lib.hid (HB.out _ hlk)
      by_cases he : val l S[k] = val l S[0]
      · have HA2 : Hid (∀ j (h : j < S.length), j < k + 1 → val l S[j] = val l S[0]) := Lib.hid (fun j h hj => by
          by_cases e : j = k
          · subst e; exact he
          · exact HA.out j h (by omega))
        have hd : ((val l S[k] : Int) != (val l S[0] : Int)) = false := by rw [he]; exact bne_self_eq_false _
        clear he
        go_wp2_with fail
        go_quiet (first
          | (go_at_call 98; exact quiet_left (l1At_any _ _ _ hlk hbk))
          | (go_at_call 98; exact quiet_left (l1At_any _ _ _ hl0 hb0)))
        go_wp2_with fail
        go_roundw
        case rel => exact ⟨k + 1, by omega, by omega, by go_num, HA2, below_drewN hB _⟩
        case measure => simp [intOf]; omega
      · have hd : ((val l S[k] : Int) != (val l S[0] : Int)) = true := by simp; omega
        have HV := Lib.hid (hF2.out k hlt he)
        clear he
        go_wp2_with fail
        go_quiet (first
          | (go_at_call 98; exact quiet_left (l1At_any _ _ _ hlk hbk))
          | (go_at_call 98; exact quiet_left (l1At_any _ _ _ hl0 hb0)))
        go_wp2_with fail
        go_ret
        exact ⟨by rw [HV.out]; rfl, hB1.trans (by first | exact hB.mono hB1.size | exact (below_drewN hB _).mono hB1.size)⟩
    · have HV := Lib.hid (hF1.out fun j h => HA.out j h (by omega))
      go_wp2_with (go_at_call 98; refine (l1At_any _ _ _ hl0 hb0).mono ?_; rintro e w2 ⟨rfl, rfl⟩)
      go_ret
      exact ⟨by rw [HV.out]; rfl, hB1.trans (by first | exact hB.mono hB1.size | exact (below_drewN hB _).mono hB1.size)⟩

/-- the bytes of a text, a truth as a number: for measures -/
def btOf : Value → List UInt8 | .string b => b.data.toList | _ => []
def blOf : Value → Nat | .bool true => 1 | _ => 0
theorem str_slice1 (a : List UInt8) (t : ByteArray) (i : Nat) (h : i < t.data.toList.length) : ((⟨a.toArray⟩ : ByteArray) ++ t.extract i (i + 1)) = ⟨(a ++ [t.data.toList[i]]).toArray⟩ := by
  apply ByteArray.ext
  apply Array.ext'
  simp only [ByteArray.data_append, Array.toList_append, ByteArray.data_extract, Array.toList_extract, List.extract_eq_take_drop]
  rw [show i + 1 - i = 1 by omega, List.drop_eq_getElem_cons h]
  rfl
theorem sprS_take {ps : List (List UInt8)} {t : List UInt8} {i : Nat} (h : i < t.length) : (sprS ps t).take (i + 1) = (sprS ps t).take i ++ [sprC (ps.getD i []) t t[i]] := by
  rw [List.take_succ_eq_append_getElem (by rw [sprS_length]; exact h), sprS_get h]
/-- the bytes before i have changed -/
def sprD (ps : List (List UInt8)) (t : List UInt8) (i : Nat) : Bool := decide ((sprS ps t).take i ≠ t.take i)
theorem sprD_same {ps : List (List UInt8)} {t : List UInt8} {i : Nat} (h : i < t.length) (he : sprC (ps.getD i []) t t[i] = t[i]) : sprD ps t (i + 1) = sprD ps t i := by
  rw [sprD, sprD, sprS_take h, he, List.take_succ_eq_append_getElem h, Bool.eq_iff_iff, decide_eq_true_iff, decide_eq_true_iff]
  exact ⟨fun h1 h2 => h1 (by rw [h2]), fun h1 h2 => h1 (List.append_cancel_right h2)⟩
theorem sprD_new {ps : List (List UInt8)} {t : List UInt8} {i : Nat} (h : i < t.length) (he : sprC (ps.getD i []) t t[i] ≠ t[i]) : sprD ps t (i + 1) = true := by
  rw [sprD, sprS_take h, List.take_succ_eq_append_getElem h, decide_eq_true_iff]
  intro e
  have h1 : ((sprS ps t).take i).length = (t.take i).length := by rw [List.length_take, List.length_take, sprS_length]
  have := (List.append_inj e h1).2
  simp at this
  exact he this
theorem sprD_end (ps : List (List UInt8)) (t : List UInt8) : sprD ps t t.length = decide (sprS ps t ≠ t) := by
  rw [sprD, List.take_length, List.take_of_length_le (by rw [sprS_length]; exact Nat.le_refl _)]
theorem frcI_ge {p t : List UInt8} : frcI p t = -1 ∨ frcI p t = 0 ∨ frcI p t = 1 := by
  unfold frcI
  cases sn p t 0 <;> cases sn p t 1 <;> decide

set_option maxHeartbeats 2000000 in
set_option maxRecDepth 100000 in
theorem l6Spread_any (A : Option Addr) (c : Nat) (ps : List (List UInt8)) (t0 : ByteArray) (w : World) (hx : Hid (Rd w A (strs ps))) (hok : Hid (okN ps = true)) (hl : Hid (t0.size = ps.length)) (hc : Hid (∀ c ∈ t0.data.toList, okc c = true)) :
    Calls Tryd.prog 41 #[.slice A ps.length c, .string t0] w fun e w' => e = .returned (.string ⟨(sprN ps t0.data.toList).toArray⟩) ∧ Below w.heap.size w w' := by
  have hn5 := okN_le hok.out
  obtain ⟨R, HR⟩ : ∃ R, Hid (R = sprN ps t0.data.toList) := ⟨_, rfl⟩
  rw [← HR.out]
  have HPL : Hid (∀ i (h : i < ps.length), ps[i].length = 2 ^ ps.length ∧ ∀ c ∈ ps[i], b01 c = true) := Lib.hid fun i h => by
    have h1 := okN_of hok.out (List.getElem_mem h)
    have h2 := okT_true h1.1
    exact ⟨by rw [h2.2.2.1, h1.2], h2.2.2.2⟩
  go_enter Tryd.func41, Tryd.ntmps41
  go_wp2_with fail
  go_loopw [1, 5] (fun tv ch wr => ∃ (tb : ByteArray) (k : Nat) (b : Bool), tv = .string tb ∧ ch = .bool b ∧ Hid (tb.size = ps.length) ∧ Hid (∀ c ∈ tb.data.toList, okc c = true) ∧ Hid (stars tb.data.toList ≤ k ∧ spr ps k tb.data.toList = R) ∧ Hid (b = false → sprS ps tb.data.toList = tb.data.toList) ∧ Below w.heap.size w wr) (fun tv ch _ => 2 * stars (btOf tv) + blOf ch)
  case atStart => exact ⟨t0, _, true, rfl, rfl, hl, hc, Lib.hid ⟨Nat.le_refl _, by rw [HR.out]; rfl⟩, Lib.hid (fun h => by cases h), Below.refl _ _⟩
  case round =>
    obtain ⟨tb, k, b, rfl, rfl, HL, HC, HK, HE, hB⟩ := hrel
    cases b with
    | false =>
      have HV : Hid (tb = ⟨R.toArray⟩) := Lib.hid (by
        have := HK.out.2
        rw [spr_stop (HE.out rfl)] at this
        rw [← this])
      go_wp2_with fail
      go_ret
      exact ⟨by rw [HV.out]; rfl, hB⟩
    | true =>
      have hl5 : tb.size ≤ 5 := by rw [HL.out]; exact hn5
      have HCA : Hid (tb.data.toList.all okc = true) := Lib.hid (List.all_eq_true.2 HC.out)
      obtain ⟨tl, HTL⟩ : ∃ tl, Hid (tl = tb.data.toList) := ⟨_, rfl⟩
      have htl1 : tl.length ≤ ps.length := by have := HL.out; rw [HTL.out]; simp; omega
      have htl2 : ps.length ≤ tl.length := by have := HL.out; rw [HTL.out]; simp; omega
      have hts1 : tb.size ≤ ps.length := by have := HL.out; omega
      have hts2 : ps.length ≤ tb.size := by have := HL.out; omega
      go_wp2_with fail
      go_loopw [5, 6, 7] (fun ch nx iv w2 => ∃ i : Nat, i ≤ ps.length ∧ iv = .int .i64 i ∧ nx = .string ⟨((sprS ps tl).take i).toArray⟩ ∧ ch = .bool (sprD ps tl i) ∧ Below w.heap.size w w2) (fun _ _ iv _ => ps.length - (intOf iv).toNat)
      case atStart => exact ⟨0, Nat.zero_le _, rfl, rfl, rfl, hB⟩
      case round =>
        clear hB
        obtain ⟨i, hi, rfl, rfl, rfl, hB⟩ := hrel
        have hsz := hB.size
        by_cases hlt : i < ps.length
        · have hit : i < tl.length := by omega
          have hib : i < tb.size := by omega
          have HG : Hid (tb[i] = tl[i]) := Lib.hid (by have e := HTL.out; subst e; rfl)
          obtain ⟨g, off, hA, hcell⟩ := (hx.out.below hB).text hlt
          subst hA
          have HFO := Lib.hid (l6Forced_any ps[i] tb wr (Lib.hid (by rw [(HPL.out i hlt).1, HL.out])) (Lib.hid (HPL.out i hlt).2) hl5 HCA)
          rw [← HTL.out] at HFO
          have HGD : Hid (ps.getD i [] = ps[i]) := Lib.hid (by rw [List.getD_eq_getElem?_getD, List.getElem?_eq_getElem hlt, Option.getD_some])
          obtain ⟨fv, HFV⟩ : ∃ fv : Int, Hid (fv = frcI ps[i] tl) := ⟨_, Lib.hid rfl⟩
          rw [← HFV.out] at HFO
          have HTK := Lib.hid (sprS_take (ps := ps) hit)
          have hnl : ((sprS ps tl).take i).length ≤ 5 := by rw [List.length_take, sprS_length]; omega
          by_cases h42 : (tb[i].toNat : Int) = 42
          · have h42' : tl[i] = 42 := by rw [← HG.out]; exact byte_eq (m := 42) h42 (by omega)
            by_cases hv : 0 ≤ fv
            · have hsc := sprC_forced (p := ps[i]) (t := tl) (by rw [← HFV.out]; exact hv)
              rw [← HFV.out] at hsc
              obtain ⟨d, rfl, hd2⟩ : ∃ d : Nat, fv = (d : Int) ∧ d < 2 := ⟨fv.toNat, by omega, by omega⟩
              have HS : Hid (sprC (ps.getD i []) tl tl[i] = chr d) := Lib.hid (by rw [HGD.out, h42', hsc.1, Int.toNat_natCast])
              have HD : Hid (sprD ps tl (i + 1) = true) := Lib.hid (sprD_new hit (by
                rw [HS.out, h42']
                rcases (show d = 0 ∨ d = 1 by omega) with rfl | rfl <;> decide))
              have HN : Hid ((⟨((sprS ps tl).take i).toArray⟩ : ByteArray) ++ ⟨[chr d].toArray⟩ = ⟨((sprS ps tl).take (i + 1)).toArray⟩) := Lib.hid (by rw [str_append, HTK.out, HS.out])
              have hdd : ((tb[i].toNat : Int) == 42) = true := by simp [h42]
              clear hsc h42 h42'
              go_wp2_with (first
                | (go_at_call 71; refine HFO.out.mono ?_; rintro e w3 ⟨rfl, hB3⟩)
                | (go_at_call 72; refine (l14Dec_any d _ (by omega)).mono ?_; rintro e w4 ⟨rfl, hB4⟩))
              go_roundw
              case rel => exact ⟨i + 1, by omega, by go_num, by rw [← HN.out], by rw [HD.out], hB.trans ((hB3.mono hsz).trans (hB4.mono (Nat.le_trans hsz hB3.size)))⟩
              case measure => simp [intOf]; omega
            · have HS : Hid (sprC (ps.getD i []) tl tl[i] = tl[i]) := Lib.hid (by rw [HGD.out, h42']; exact sprC_free (by rw [← HFV.out]; exact hv))
              have HD := Lib.hid (sprD_same hit HS.out)
              have HN : Hid ((⟨((sprS ps tl).take i).toArray⟩ : ByteArray) ++ tb.extract i (i + 1) = ⟨((sprS ps tl).take (i + 1)).toArray⟩) := Lib.hid (by
                have e := HTL.out
                rw [str_slice1 _ tb i (by rw [← e]; exact hit), HTK.out, HS.out]
                subst e; rfl)
              have hdd : ((tb[i].toNat : Int) == 42) = true := by simp [h42]
              have hdv : decide ((0 : Int) ≤ fv) = false := decide_eq_false hv
              clear h42 h42'
              go_wp2_with (go_at_call 71; refine HFO.out.mono ?_; rintro e w3 ⟨rfl, hB3⟩)
              go_roundw
              case rel => exact ⟨i + 1, by omega, by go_num, by rw [← HN.out], by rw [HD.out], hB.trans (hB3.mono hsz)⟩
              case measure => simp [intOf]; omega
          · have HS : Hid (sprC (ps.getD i []) tl tl[i] = tl[i]) := Lib.hid (sprC_no (by rw [← HG.out]; intro e; exact h42 (by rw [e]; rfl)))
            have HD := Lib.hid (sprD_same hit HS.out)
            have HN : Hid ((⟨((sprS ps tl).take i).toArray⟩ : ByteArray) ++ tb.extract i (i + 1) = ⟨((sprS ps tl).take (i + 1)).toArray⟩) := Lib.hid (by
              have e := HTL.out
              rw [str_slice1 _ tb i (by rw [← e]; exact hit), HTK.out, HS.out]
              subst e; rfl)
            have hdd : ((tb[i].toNat : Int) == 42) = false := by simpa using h42
            clear h42
            go_wp2_with (go_at_call 71; refine HFO.out.mono ?_; rintro e w3 ⟨rfl, hB3⟩)
            go_roundw
            case rel => exact ⟨i + 1, by omega, by go_num, by rw [← HN.out], by rw [HD.out], hB.trans (hB3.mono hsz)⟩
            case measure => simp [intOf]; omega
        · have hin : i = ps.length := by omega
          subst hin
          have HTE : Hid ((sprS ps tl).take ps.length = sprS ps tl) := Lib.hid (List.take_of_length_le (by rw [sprS_length]; omega))
          have HDE : Hid (sprD ps tl ps.length = decide (sprS ps tl ≠ tl)) := Lib.hid (by
            have e : tl.length = ps.length := by omega
            rw [← e]; exact sprD_end ps tl)
          rw [HTE.out, HDE.out]
          have HC2 : Hid (∀ c ∈ sprS ps tl, okc c = true) := Lib.hid (sprS_ok (by rw [HTL.out]; exact HC.out))
          obtain ⟨q, HQ⟩ : ∃ q : ByteArray, Hid (q = ⟨(sprS ps tl).toArray⟩) := ⟨_, rfl⟩
          have HQL : Hid (q.data.toList = sprS ps tl) := Lib.hid (by rw [HQ.out])
          have HQS : Hid (q.size = ps.length) := Lib.hid (by
            rw [HQ.out]
            show (sprS ps tl).toArray.size = _
            rw [List.size_toArray, sprS_length]; omega)
          rw [← HQ.out]
          have HK2 := HK.out
          rw [← HTL.out] at HK2
          have HTBL := HTL.out
          by_cases hse : sprS ps tl = tl
          · have hdf : decide (sprS ps tl ≠ tl) = false := decide_eq_false (fun h => h hse)
            rw [hdf]
            have HM : Hid (stars q.data.toList ≤ stars tb.data.toList) := Lib.hid (by rw [HQL.out, hse, HTBL]; exact Nat.le_refl _)
            have HKN : Hid (stars q.data.toList ≤ k ∧ spr ps k q.data.toList = R) := Lib.hid (by rw [HQL.out, hse]; exact HK2)
            have HEN : Hid (false = false → sprS ps q.data.toList = q.data.toList) := Lib.hid (fun _ => by rw [HQL.out, hse, hse])
            clear hse hdf HK2 HTBL
            go_wp2_with fail
            go_roundw
            case rel => exact ⟨q, k, false, rfl, rfl, HQS, Lib.hid (by rw [HQL.out]; exact HC2.out), HKN, HEN, hB⟩
            case measure =>
              have := HM.out
              show 2 * stars q.data.toList + 0 < 2 * stars tb.data.toList + 1
              omega
          · have hdf : decide (sprS ps tl ≠ tl) = true := decide_eq_true hse
            rw [hdf]
            obtain ⟨k2, hk2, hk3⟩ := spr_go hse HK2.1
            have HM : Hid (stars q.data.toList < stars tb.data.toList) := Lib.hid (by rw [HQL.out, ← HTBL]; exact stars_lt hse)
            have HKN : Hid (stars q.data.toList ≤ k2 ∧ spr ps k2 q.data.toList = R) := Lib.hid (by rw [HQL.out]; exact ⟨hk2, by rw [← hk3]; exact HK2.2⟩)
            clear hse hdf HK2 HTBL hk2 hk3
            go_wp2_with fail
            go_roundw
            case rel => exact ⟨q, k2, true, rfl, rfl, HQS, Lib.hid (by rw [HQL.out]; exact HC2.out), HKN, Lib.hid (fun h => by cases h), hB⟩
            case measure =>
              have := HM.out
              show 2 * stars q.data.toList + 1 < 2 * stars tb.data.toList + 1
              omega

end Go.Proofs.YtfkdameegljkeaaDoor

/- Walks: what a term comes to (the program's side). -/
namespace Go.Proofs.YtfkdameegljkeaaDoor
open Go.RowKit
set_option linter.unusedVariables false

theorem netL_bit2 {w : World} {g off : Nat} {ps : List (List UInt8)} {i s : Nat} (h : Rd w (some ⟨g, off, none⟩) (netL ps)) (hi : i < ps.length) (h5 : ps.length ≤ 5) (hs : s < 2 ^ ps.length) :
    w.cell? ⟨g, off + i * 33 + 1 + s, none⟩ = some (.int .u8 (nb ps s i : Int)) := by
  obtain ⟨g', off', hA, hc⟩ := netL_bit h hi h5 hs
  injection hA with hA
  injection hA with h1 h2
  subst h1; subst h2
  exact hc
theorem BytesAt.below {w w' : World} {g : Nat} {l : List UInt8} (h : BytesAt w g l) (hb : Below w.heap.size w w') (hg : g < w.heap.size) : BytesAt w' g l := h.keep (hb.block g hg)
set_option maxHeartbeats 4000000 in
set_option maxRecDepth 100000 in
theorem spread_any (A : Option Addr) (c : Nat) (ps : List (List UInt8)) (t0 : ByteArray) (w : World) (hx : Hid (Rd w A (netL ps))) (hok : Hid (okN ps = true)) (hl : Hid (t0.size = ps.length)) (hc : Hid (∀ c ∈ t0.data.toList, okc c = true)) :
    Calls Tryd.prog 43 #[.slice A ps.length c, .string t0] w fun e w' => e = .returned (.string ⟨(sprN ps t0.data.toList).toArray⟩) ∧ Below w.heap.size w w' := by
  have hn5 := okN_le hok.out
  have h32 := two_le _ hn5
  obtain ⟨R, HR⟩ : ∃ R, Hid (R = sprN ps t0.data.toList) := ⟨_, rfl⟩
  rw [← HR.out]
  go_enter Tryd.func43, Tryd.ntmps43
  go_wp2_with fail
  go_loopw [1] (fun tv wr => ∃ (tb : ByteArray) (k : Nat), tv = .string tb ∧ Hid (tb.size = ps.length) ∧ Hid (∀ c ∈ tb.data.toList, okc c = true) ∧ Hid (stars tb.data.toList ≤ k ∧ spr ps k tb.data.toList = R) ∧ Below w.heap.size w wr) (fun tv _ => stars (btOf tv))
  case atStart => exact ⟨t0, _, rfl, hl, hc, Lib.hid ⟨Nat.le_refl _, by rw [HR.out]; rfl⟩, Below.refl _ _⟩
  case round =>
    obtain ⟨tb, k, rfl, HL, HC, HK, hB⟩ := hrel
    have hl5 : tb.size ≤ 5 := by rw [HL.out]; exact hn5
    have HCA : Hid (tb.data.toList.all okc = true) := Lib.hid (List.all_eq_true.2 HC.out)
    obtain ⟨tl, HTL⟩ : ∃ tl, Hid (tl = tb.data.toList) := ⟨_, rfl⟩
    have htl1 : tl.length ≤ ps.length := by have := HL.out; rw [HTL.out]; simp; omega
    have htl2 : ps.length ≤ tl.length := by have := HL.out; rw [HTL.out]; simp; omega
    have hts1 : tb.size ≤ ps.length := by have := HL.out; omega
    have hts2 : ps.length ≤ tb.size := by have := HL.out; omega
    have hsz := hB.size
    obtain ⟨cb, W2, hconv, hB2, hz2, HB0⟩ := conv_bytes (P := Tryd.prog) wr 9 22 5 tb Tryd.underlying9 Tryd.underlying22 Tryd.underlying5
    obtain ⟨b, Hb⟩ : ∃ b, Hid (b = wr.heap.size) := ⟨_, rfl⟩
    go_wp2_with fail
    clear hconv
    have hbw : w.heap.size ≤ b := by rw [Hb.out]; exact hsz
    rw [← Hb.out] at hB2 hz2 HB0 ⊢
    have HB1 : Hid (Below w.heap.size w W2) := Lib.hid (hB.trans (hB2.mono hbw))
    rw [← HTL.out] at HB0
    clear hB2
    go_loopw [14] (fun q w2 => ∃ i : Nat, i ≤ ps.length ∧ q = .int .i64 i ∧ Hid (BytesAt w2 b (sprTo ps tl i)) ∧ Hid (Below w.heap.size w w2) ∧ b < w2.heap.size) (fun q _ => ps.length - (intOf q).toNat)
    case atStart => exact ⟨0, Nat.zero_le _, rfl, HB0, HB1, hz2⟩
    case round =>
      clear HB0 HB1 hz2 hB hsz
      obtain ⟨i, hi, rfl, HN, HB, hbz⟩ := hrel
      obtain ⟨V, rfl⟩ : ∃ x, x = wr := ⟨_, rfl⟩
      by_cases hlt : i < ps.length
      · have hit : i < tl.length := by omega
        obtain ⟨hc1, hc2⟩ := HN.out.at_ (sprTo_get (ps := ps) hit)
        by_cases h42 : (tl[i].toNat : Int) = 42
        · have h42' : tl[i] = 42 := byte_eq (m := 42) h42 (by omega)
          have hd : ((tl[i].toNat : Int) != 42) = false := by simp [h42]
          have HSC : Hid (sprC (ps.getD i []) tl tl[i] = if sn (ps.getD i []) tl 0 then (if sn (ps.getD i []) tl 1 then 42 else 48) else 49) := Lib.hid (by rw [sprC, if_pos h42'])
          have hsu := sprTo_succ (ps := ps) hit
          have hke := sprTo_keep (ps := ps) hit
          rw [HSC.out] at hsu hke
          obtain ⟨g, off, hA, hc0⟩ := netL_bit (s := 0) hx.out hlt hn5 (Nat.pos_of_ne_zero (by simp))
          subst hA
          clear hc0
          have HC42 := Lib.hid h42'
          clear h42 h42'
          have HX1 := Lib.hid (Blk.new V 97 #[.bool false, .bool false])
          have HV1 : Hid (Below V.heap.size V (V.alloc (.cells #[.bool false, .bool false] 97))) := Lib.hid ((Below.refl _ _).alloc (Nat.le_refl _) _)
          have hVz : (V.alloc (.cells #[.bool false, .bool false] 97)).heap.size = V.heap.size + 1 := by rw [alloc_size]
          have hsl := stL_len tb.data.toList (by simpa using hl5)
          have HST := Lib.hid (statesOf_any tb (V.alloc (.cells #[.bool false, .bool false] 97)) hl5 HCA)
          obtain ⟨S, HS⟩ : ∃ S, Hid (S = stL tb.data.toList) := ⟨_, rfl⟩
          rw [← HS.out] at HST hsl
          have HSL : Hid (∀ j (h : j < S.length), S[j] < 2 ^ ps.length) := Lib.hid fun j h => by
            have e := HS.out
            subst e
            have := stL_lt (List.getElem_mem h)
            rw [← HL.out]; simpa using this
          have hil : (ints S).length = S.length := ints_length _
          have HSU := Lib.hid hsu
          have HKE := Lib.hid hke
          clear hsu hke
          go_wp2_with fail
          refine HST.out.mono ?_
          rintro e W4 ⟨⟨A1, c1, rfl, hc1', hO1⟩, hB4⟩
          have HB4 : Hid (Below V.heap.size V W4) := Lib.hid (HV1.out.trans (hB4.mono (by omega)))
          have hz4 := hB4.size
          obtain ⟨gs, Hgs⟩ : ∃ gs, Hid (gs = V.heap.size) := ⟨_, rfl⟩
          have HX4 := Lib.hid (HX1.out.keep hB4)
          have hgs4 : gs + 1 ≤ (V.alloc (.cells #[.bool false, .bool false] 97)).heap.size := by rw [Hgs.out]; omega
          have HO1 := Lib.hid (hO1.mono hgs4)
          clear hO1 hc1'
          rw [← Hgs.out] at HX4 ⊢
          go_wp2_with fail
          go_loopw [26] (fun q wq => ∃ j : Nat, j ≤ S.length ∧ q = .int .i64 j ∧ Hid (Blk wq gs 97 #[.bool (seT (ps.getD i []) S j 0), .bool (seT (ps.getD i []) S j 1)]) ∧ Hid (Own wq (gs + 1) A1 ((ints S).map (Value.int .i64))) ∧ Hid (Below V.heap.size V wq)) (fun q _ => S.length - (intOf q).toNat)
          case atStart => exact ⟨0, Nat.zero_le _, rfl, HX4, HO1, HB4⟩
          case round =>
            clear HX4 HO1 HB4
            obtain ⟨j, hj, rfl, HX, HO, HBV⟩ := hrel
            by_cases hjl : j < S.length
            · have hS := HSL.out j hjl
              have hcb := netL_bit2 ((hx.out.below (HB.out)).below (HBV.out)) hlt hn5 hS
              obtain ⟨g2, off2, hA2, hge2, hcs, _⟩ := HO.out.int (j := j) (by rw [hil]; exact hjl)
              subst hA2
              have hcs' : wr.cell? ⟨g2, off2 + j, none⟩ = some (.int .i64 (S[j] : Int)) := by
                rw [hcs]; simp [ints]
              clear hcs
              have hv2 := nb_lt hok.out S[j] i
              have hS32 : (S[j] : Int) < 32 := by omega
              obtain ⟨v, HV⟩ : ∃ v, Hid (v = nb ps S[j] i) := ⟨_, Lib.hid rfl⟩
              rw [← HV.out] at hv2 hcb
              have hcq : ∃ u, wr.cell? ⟨gs, v, none⟩ = some (.bool u) := by
                rw [HX.out.cell]
                rcases (show v = 0 ∨ v = 1 by omega) with e | e <;> rw [e] <;> exact ⟨_, rfl⟩
              obtain ⟨u, hcu⟩ := hcq
              have hfu := HX.out.frozen v
              have HSET := Lib.hid (HX.out.set_ v (.bool true))
              have HSS : Hid ((#[.bool (seT (ps.getD i []) S j 0), .bool (seT (ps.getD i []) S j 1)] : Array Value).setIfInBounds v (.bool true) = #[.bool (seT (ps.getD i []) S (j + 1) 0), .bool (seT (ps.getD i []) S (j + 1) 1)]) := Lib.hid (by
                have h2 := hv2
                rw [HV.out] at h2 ⊢
                exact seT_set hjl h2)
              have hiv : (0 : Int) ≤ (v : Int) := by omega
              have hiv2 : (v : Int) < 2 := by omega
              go_wp2_with fail
              go_roundw
              case rel => exact ⟨j + 1, by omega, by go_num, Lib.hid (by rw [← HSS.out]; exact HSET.out), Lib.hid (HO.out.only (Nat.lt_succ_self gs) (only_setCell _ _ _ _)), Lib.hid (HBV.out.setCell (by rw [← Hgs.out]; exact Nat.le_refl _) _)⟩
              case measure => simp [intOf]; omega
            · have hjn : j = S.length := by omega
              subst hjn
              have HXF := HX.out
              have HSX := HS.out
              have hsn0 : seT (ps.getD i []) S S.length 0 = sn (ps.getD i []) tl 0 := by rw [HSX, seT_end, HTL.out]
              have hsn1 : seT (ps.getD i []) S S.length 1 = sn (ps.getD i []) tl 1 := by rw [HSX, seT_end, HTL.out]
              rw [hsn0, hsn1] at HXF
              clear hsn0 hsn1 HSX
              have hc0 := HXF.cell 0
              have hc1' := HXF.cell 1
              obtain ⟨x0, HX0⟩ : ∃ x, Hid (x = sn (ps.getD i []) tl 0) := ⟨_, rfl⟩
              obtain ⟨x1, HX1'⟩ : ∃ x, Hid (x = sn (ps.getD i []) tl 1) := ⟨_, rfl⟩
              have hc0' : wr.cell? ⟨gs, 0, none⟩ = some (.bool x0) := by rw [hc0, HX0.out]; rfl
              have hc1'' : wr.cell? ⟨gs, 1, none⟩ = some (.bool x1) := by rw [hc1', HX1'.out]; rfl
              clear hc0 hc1' HXF
              have HNQ := Lib.hid (HN.out.below HBV.out hbz)
              have HBQ : Hid (Below w.heap.size w wr) := Lib.hid (HB.out.trans (HBV.out.mono HB.out.size))
              have hbq : b < wr.heap.size := Nat.lt_of_lt_of_le hbz HBV.out.size
              have hsu := HSU.out
              have hke := HKE.out
              rw [← HX0.out, ← HX1'.out] at hsu hke
              have HSU2 := Lib.hid hsu
              have HKE2 := Lib.hid hke
              clear hsu hke
              have hcell := (HNQ.out.at_ (sprTo_get (ps := ps) hit)).1
              have hfro := (HNQ.out.at_ (sprTo_get (ps := ps) hit)).2
              clear hc1 hc2
              cases x0 with
              | false =>
                have HSUC : Hid (sprTo ps tl (i + 1) = (sprTo ps tl i).set i 49) := HSU2
                go_wp2_with fail
                go_roundw
                case rel => exact ⟨i + 1, by omega, by go_num, Lib.hid (by rw [HSUC.out]; exact HNQ.out.set_ i 49), Lib.hid (HBQ.out.setCell hbw _), by rw [setCell_size]; exact hbq⟩
                case measure => simp [intOf]; omega
              | true =>
                cases x1 with
                | false =>
                  have HSUC : Hid (sprTo ps tl (i + 1) = (sprTo ps tl i).set i 48) := HSU2
                  go_wp2_with fail
                  go_roundw
                  case rel => exact ⟨i + 1, by omega, by go_num, Lib.hid (by rw [HSUC.out]; exact HNQ.out.set_ i 48), Lib.hid (HBQ.out.setCell hbw _), by rw [setCell_size]; exact hbq⟩
                  case measure => simp [intOf]; omega
                | true =>
                  have HSUC : Hid (sprTo ps tl (i + 1) = sprTo ps tl i) := Lib.hid (HKE2.out (by rw [HC42.out]; rfl))
                  go_wp2_with fail
                  go_roundw
                  case rel => exact ⟨i + 1, by omega, by go_num, Lib.hid (by rw [HSUC.out]; exact HNQ.out), HBQ, hbq⟩
                  case measure => simp [intOf]; omega
        · have hd : ((tl[i].toNat : Int) != 42) = true := by simpa using h42
          have HF := Lib.hid (sprTo_keep (ps := ps) hit (sprC_no (fun e => h42 (by rw [e]; rfl))))
          clear h42
          go_wp2_with fail
          go_roundw
          case rel => exact ⟨i + 1, by omega, by go_num, Lib.hid (by rw [HF.out]; exact HN.out), HB, hbz⟩
          case measure => simp [intOf]; omega
      · have hin : i = ps.length := by omega
        subst hin
        have HTE : Hid (sprTo ps tl ps.length = sprS ps tl) := Lib.hid (by
          have e : tl.length = ps.length := by omega
          rw [← e]; exact sprTo_end ps tl)
        have HNF := HN.out
        rw [HTE.out] at HNF
        have hback := conv_back (P := Tryd.prog) V 22 9 5 b tb.size cb (sprS ps tl) (by rw [sprS_length]; omega) Tryd.underlying22 Tryd.underlying5 Tryd.underlying9 HNF
        clear HNF
        have HC2 : Hid (∀ c ∈ sprS ps tl, okc c = true) := Lib.hid (sprS_ok (by rw [HTL.out]; exact HC.out))
        obtain ⟨q, HQ⟩ : ∃ q : ByteArray, Hid (q = ⟨(sprS ps tl).toArray⟩) := ⟨_, rfl⟩
        have HQL : Hid (q.data.toList = sprS ps tl) := Lib.hid (by rw [HQ.out])
        have HQS : Hid (q.size = ps.length) := Lib.hid (by
          rw [HQ.out]
          show (sprS ps tl).toArray.size = _
          rw [List.size_toArray, sprS_length]; omega)
        rw [← HQ.out] at hback
        have HK2 := HK.out
        rw [← HTL.out] at HK2
        have HTBL := HTL.out
        by_cases hse : sprS ps tl = tl
        · have hqt : q = tb := by
            apply ByteArray.ext
            apply Array.ext'
            rw [HQL.out, hse, HTBL]
          have hqe : (q.toList == tb.toList) = true := by rw [hqt]; exact beq_self_eq_true _
          have HV : Hid (tb = ⟨R.toArray⟩) := Lib.hid (by
            have := HK2.2
            rw [spr_stop hse, HTBL] at this
            rw [← this])
          clear hse HK2 HTBL hqt
          go_wp2_with fail
          go_ret
          exact ⟨by rw [← HV.out]; rfl, HB.out⟩
        · have hqe : (q.toList == tb.toList) = false := by
            rw [← beq_toListBytes, ← Bool.not_eq_true, MapKept.bytes_beq]
            intro e
            apply hse
            rw [← HQL.out, e, HTBL]
          obtain ⟨k2, hk2, hk3⟩ := spr_go hse HK2.1
          have HM : Hid (stars q.data.toList < stars tb.data.toList) := Lib.hid (by rw [HQL.out, ← HTBL]; exact stars_lt hse)
          have HKN : Hid (stars q.data.toList ≤ k2 ∧ spr ps k2 q.data.toList = R) := Lib.hid (by rw [HQL.out]; exact ⟨hk2, by rw [← hk3]; exact HK2.2⟩)
          clear hse HK2 HTBL hk2 hk3
          go_wp2_with fail
          go_roundw
          case rel => exact ⟨q, k2, rfl, HQS, Lib.hid (by rw [HQL.out]; exact HC2.out), HKN, HB.out⟩
          case measure =>
            have := HM.out
            show stars q.data.toList < stars tb.data.toList
            omega

end Go.Proofs.YtfkdameegljkeaaDoor

/- The walk of the law FnExactSpreadTerm. -/
namespace Go.Proofs.YtfkdameegljkeaaDoor
open Go.RowKit
set_option linter.unusedVariables false

/-- the text that a term comes to, and whether there is one -/
def sprA (ps : List (List UInt8)) (t : List UInt8) : List UInt8 := if okTm ps t then sprN ps t else []
theorem sprA_yes {ps : List (List UInt8)} {t : List UInt8} (h : okTm ps t = true) : sprA ps t = sprN ps t := by rw [sprA, h]; rfl
theorem sprA_no {ps : List (List UInt8)} {t : List UInt8} (h : okTm ps t = false) : sprA ps t = [] := by rw [sprA, h]; rfl
def sprV (ps : List (List UInt8)) (t : List UInt8) : Value := .tuple #[.string ⟨(sprA ps t).toArray⟩, .bool (okTm ps t)]
theorem bytes_eqs (a : ByteArray) : (a != a) = false := by
  have := (MapKept.bytes_beq a a).2 rfl
  simp [bne, this]

theorem SpreadTerm_any (s t : ByteArray) (w : World) (hm : Hid (HasM w)) (hs : s.size ≤ 1073741824) (ht : t.size ≤ 1073741824) :
    Calls Tryd.prog 18 #[.string s, .string t] w fun e w' => e = .returned (sprV (cutL s.data.toList) t.data.toList) ∧ Below w.heap.size w w' := by
  obtain ⟨ps, HPS⟩ : ∃ ps, Hid (ps = cutL s.data.toList) := ⟨_, rfl⟩
  rw [← HPS.out]
  by_cases h : okTm ps t.data.toList = true
  · obtain ⟨hok, htv⟩ := okTm_true h
    have htv2 := TV_true htv
    have hlen : t.size = ps.length := by have := htv2.2.2.1; simp at this; omega
    have HC : Hid (∀ c ∈ t.data.toList, okc c = true) := Lib.hid htv2.2.2.2
    have HOK := Lib.hid hok
    have HT := Lib.hid h
    have HV := Lib.hid (sprA_yes h)
    have HLN := Lib.hid hlen
    clear h hok htv htv2 hlen
    go_enter Tryd.func18, Tryd.ntmps18
    go_wp2_with fail
    refine (termOf_any s t w hm hs ht).mono ?_
    rintro e w1 ⟨⟨A, k, c, rfl, himp⟩, hB1⟩
    rw [← HPS.out] at himp ⊢
    obtain ⟨rfl, hc, hO⟩ := himp HT.out
    rw [HT.out]
    have HR := Lib.hid hO.rd
    have hz1 := hB1.size
    clear hO himp
    go_wp2_with fail
    refine (spread_any _ _ ps t _ HR HOK HLN HC).mono ?_
    rintro e w2 ⟨rfl, hB2⟩
    go_wp2
    go_ret2
    exact ⟨by rw [sprV, HV.out, HT.out]; rfl, hB1.trans (hB2.mono hz1)⟩
  · have h' : okTm ps t.data.toList = false := by simpa using h
    have HT := Lib.hid h'
    have HV := Lib.hid (sprA_no h')
    clear h h'
    go_enter Tryd.func18, Tryd.ntmps18
    go_wp2_with fail
    refine (termOf_any s t w hm hs ht).mono ?_
    rintro e w1 ⟨⟨A, k, c, rfl, himp⟩, hB1⟩
    clear himp
    rw [← HPS.out, HT.out]
    go_wp2
    go_ret2
    exact ⟨by rw [sprV, HV.out, HT.out]; rfl, hB1⟩

theorem sSpreadTerm_any (s t : ByteArray) (w : World) (hs : s.size ≤ 1073741824) (ht : t.size ≤ 1073741824) :
    Calls Tryd.prog 17 #[.string s, .string t] w fun e w' => e = .returned (sprV (cutL s.data.toList) t.data.toList) ∧ Below w.heap.size w w' := by
  obtain ⟨ps, HPS⟩ : ∃ ps, Hid (ps = cutL s.data.toList) := ⟨_, rfl⟩
  rw [← HPS.out]
  by_cases h : okTm ps t.data.toList = true
  · obtain ⟨hok, htv⟩ := okTm_true h
    have htv2 := TV_true htv
    have hlen : t.size = ps.length := by have := htv2.2.2.1; simp at this; omega
    have HC : Hid (∀ c ∈ t.data.toList, okc c = true) := Lib.hid htv2.2.2.2
    have HOK := Lib.hid hok
    have HT := Lib.hid h
    have HV := Lib.hid (sprA_yes h)
    have HLN := Lib.hid hlen
    clear h hok htv htv2 hlen
    go_enter Tryd.func17, Tryd.ntmps17
    go_wp2_with fail
    refine (l6Term_any s t w hs ht).mono ?_
    rintro e w1 ⟨⟨A, k, c, rfl, himp⟩, hB1⟩
    rw [← HPS.out] at himp ⊢
    obtain ⟨rfl, hc, hO⟩ := himp HT.out
    rw [HT.out]
    have HR := Lib.hid hO.rd
    have hz1 := hB1.size
    clear hO himp
    go_wp2_with fail
    refine (l6Spread_any _ _ ps t _ HR HOK HLN HC).mono ?_
    rintro e w2 ⟨rfl, hB2⟩
    go_wp2
    go_ret2
    exact ⟨by rw [sprV, HV.out, HT.out]; rfl, hB1.trans (hB2.mono hz1)⟩
  · have h' : okTm ps t.data.toList = false := by simpa using h
    have HT := Lib.hid h'
    have HV := Lib.hid (sprA_no h')
    clear h h'
    go_enter Tryd.func17, Tryd.ntmps17
    go_wp2_with fail
    refine (l6Term_any s t w hs ht).mono ?_
    rintro e w1 ⟨⟨A, k, c, rfl, himp⟩, hB1⟩
    clear himp
    rw [← HPS.out, HT.out]
    go_wp2
    go_ret2
    exact ⟨by rw [sprV, HV.out, HT.out]; rfl, hB1⟩

theorem fnExactSpreadTerm_walk (a0 a1 : ByteArray) (w : World) (hm : Hid (HasM w)) (w0 : a0.size ≤ maxLen) (w1 : a1.size ≤ maxLen) :
    Calls Tryd.prog 4 #[.string a0, .string a1] w fun e w' => e = .returned (.bool true) ∧ Below w.heap.size w w' := by
  unfold maxLen at w0 w1
  by_cases h0 : 1048576 < a0.size
  · go_enter Tryd.func4, Tryd.ntmps4
    go_wp2
    go_ret
    exact ⟨rfl, Below.refl _ _⟩
  · by_cases h1 : 1048576 < a1.size
    · go_enter Tryd.func4, Tryd.ntmps4
      go_wp2
      go_ret
      exact ⟨rfl, Below.refl _ _⟩
    · obtain ⟨tx, HTX⟩ : ∃ tx : ByteArray, Hid (tx = ⟨(sprA (cutL a0.data.toList) a1.data.toList).toArray⟩) := ⟨_, rfl⟩
      obtain ⟨b, HB⟩ : ∃ b, Hid (b = okTm (cutL a0.data.toList) a1.data.toList) := ⟨_, rfl⟩
      have hd1 := bytes_eqs tx
      have hd2 : (b != b) = false := bne_self_eq_false _
      go_enter Tryd.func4, Tryd.ntmps4
      go_wp2_with fail
      refine (sSpreadTerm_any a0 a1 _ (by omega) (by omega)).mono ?_
      rintro e W1 ⟨rfl, hB1⟩
      unfold sprV
      rw [← HTX.out, ← HB.out]
      go_wp2_with fail
      refine (SpreadTerm_any a0 a1 _ (Lib.hid (hm.out.below hB1)) (by omega) (by omega)).mono ?_
      rintro e W2 ⟨rfl, hB2⟩
      unfold sprV
      rw [← HTX.out, ← HB.out]
      go_wp2
      go_ret
      exact ⟨rfl, hB1.trans (hB2.mono hB1.size)⟩

end Go.Proofs.YtfkdameegljkeaaDoor

