/- The walk of MeetTerms: what each returns. -/
import Derived.Test.YtfkdameegljkeaaProg
import Derived.WalkKit
import Derived.WalkSpells
import Derived.WalkLawsBesides
import Derived.Lib.Hide
import Derived.Deep.QuietTactic
import Derived.BigQuiet
import Derived.Test.YtfkdameegljkeaaWt
namespace Go.Proofs.Ytfkdameegljkeaa
open Go.RowKit

theorem meet_row {t : ByteArray} {k : Nat} {p : List UInt8} {x : UInt8} {w : World} {g : Nat} (hp : p.length = k) (hk : k < t.size) (h : BytesAt (w.setCell ⟨g, k, none⟩ (.int .u8 (x.toNat : Int))) g ((p ++ t.data.toList.drop k).set k x)) :
    BytesAt (w.setCell ⟨g, k, none⟩ (.int .u8 (x.toNat : Int))) g ((p ++ [x]) ++ t.data.toList.drop (k + 1)) := by
  have e : (p ++ t.data.toList.drop k).set k x = (p ++ [x]) ++ t.data.toList.drop (k + 1) := by
    rw [List.set_append_right _ _ (by omega), hp, Nat.sub_self, List.drop_eq_getElem_cons (by simpa using hk)]
    simp
  rwa [e] at h
theorem meet_row2 {t : ByteArray} {k : Nat} {p : List UInt8} {w : World} {g : Nat} (hk : k < t.size) (h : BytesAt w g (p ++ t.data.toList.drop k)) :
    BytesAt w g ((p ++ [t[k]]) ++ t.data.toList.drop (k + 1)) := by
  rw [List.drop_eq_getElem_cons (by simpa using hk)] at h
  have e : t[k] = t.data.toList[k]'(by simpa using hk) := rfl
  rw [e, List.append_assoc]
  exact h
set_option maxHeartbeats 400000 in
theorem meet_any (t u : ByteArray) (w : World) (ht : t.size ≤ 9223372036854775807) (hu : u.size ≤ 9223372036854775807) :
    Calls Try.prog 5 #[.string t, .string u] w fun e w' => e = .returned (optT (MT t.data.toList u.data.toList)) ∧ Below w.heap.size w w' := by
  have H1 := @MT_no1 t.data.toList u.data.toList
  have H2 := @MT_no2 t.data.toList u.data.toList
  have H3 := @MT_yes t.data.toList u.data.toList
  simp only [Array.length_toList, ByteArray.size_data] at H1 H2 H3
  cases hT : TV t.data.toList (t.size : Int)
  · rw [H1 hT]
    clear H1 H2 H3
    go_enter Try.func5, Try.ntmps5
    go_wp2_with (go_at_call 7; refine (termValid_any _ _ _ (by omega)).mono ?_; rintro e w' ⟨rfl, rfl⟩)
    go_ret2
    exact ⟨rfl, Below.refl _ _⟩
  · cases hU : TV u.data.toList (t.size : Int)
    · rw [H2 hU]
      clear H1 H2 H3
      go_enter Try.func5, Try.ntmps5
      go_wp2_with (go_at_call 7; refine (termValid_any _ _ _ (by omega)).mono ?_; rintro e w' ⟨rfl, rfl⟩)
      go_ret2
      exact ⟨rfl, Below.refl _ _⟩
    · rw [H3 hT hU]
      have hlen : (u.size : Int) ≤ t.size ∧ (t.size : Int) ≤ u.size := by have := (TV_true hU).2.2.1; simp at this; omega
      obtain ⟨hl1, hl2⟩ := hlen
      clear H1 H2 H3
      generalize hM : meetL t.data.toList u.data.toList = M
      have HM := Lib.hid hM
      clear hM
      obtain ⟨c, W1, hconv, hB1, hz1, HR⟩ := conv_bytes (P := Try.prog) w 9 22 5 t Try.underlying9 Try.underlying22 Try.underlying5
      go_enter Try.func5, Try.ntmps5
      go_wp2_with (go_at_call 7; refine (termValid_any _ _ _ (by omega)).mono ?_; rintro e w' ⟨rfl, rfl⟩)
      clear hconv
      generalize hg : w.heap.size = g at *
      go_loopw [24] (fun i wr => ∃ (k : Nat) (p : List UInt8), k ≤ t.size ∧ i = .int .i64 k ∧ Hid (meetL (t.data.toList.take k) (u.data.toList.take k) = some p) ∧ Hid (BytesAt wr g (p ++ t.data.toList.drop k)) ∧ Below g w wr ∧ g < wr.heap.size) (fun i _ => t.size - (intOf i).toNat)
      case atStart => exact ⟨0, [], Nat.zero_le _, rfl, Lib.hid rfl, HR, hB1, hz1⟩
      case round =>
        obtain ⟨k, p, hk, rfl, HP, HR, hB, hz⟩ := hrel
        have hpl : p.length = k := meet_len hk (by omega) HP.out
        have hrow := HR.out
        by_cases hlt : k < t.size
        · have hltu : k < u.size := by omega
          obtain ⟨hc1, hc2⟩ := hrow.at_ (j := k) (c := t[k]) (by
            rw [List.getElem?_append_right (by omega), hpl, Nat.sub_self, List.getElem?_drop, Nat.add_zero]
            exact List.getElem?_eq_getElem (by simpa using hlt))
          have Hpl := Lib.hid hpl
          clear hrow hpl
          by_cases h42 : (t[k].toNat : Int) = 42
          · have hb : ((t[k].toNat : Int) == 42) = true := by simp [h42]
            have HH := Lib.hid (meet_step hlt hltu HP.out (meetC_a h42))
            clear h42
            go_wp2
            go_roundw
            case rel => exact ⟨k + 1, _, by omega, by go_num, HH, Lib.hid (meet_row Hpl.out hlt (HR.out.set_ k u[k])), hB.setCell (Nat.le_refl _) _, by rw [setCell_size]; omega⟩
            case measure => simp [intOf]; omega
          · have hb : ((t[k].toNat : Int) == 42) = false := by simpa using h42
            by_cases hu42 : (u[k].toNat : Int) = 42
            · have hd : ((u[k].toNat : Int) != 42) = false := by simp [hu42]
              have HH := Lib.hid (meet_step hlt hltu HP.out (meetC_b h42 hu42))
              clear h42 hu42
              go_wp2
              go_quiet (fail)
              go_wp2
              go_roundw
              case rel => exact ⟨k + 1, _, by omega, by go_num, HH, Lib.hid (meet_row2 hlt HR.out), below_drewN hB _, by rw [drewN_size]; omega⟩
              case measure => simp [intOf]; omega
            · have hd : ((u[k].toNat : Int) != 42) = true := by simpa using hu42
              by_cases huc : (u[k].toNat : Int) = t[k].toNat
              · have hd2 : ((u[k].toNat : Int) != (t[k].toNat : Int)) = false := by simp [huc]
                have HH := Lib.hid (meet_step hlt hltu HP.out (meetC_c h42 huc))
                clear h42 hu42 huc
                go_wp2
                go_quiet (fail)
                go_wp2
                go_roundw
                case rel => exact ⟨k + 1, _, by omega, by go_num, HH, Lib.hid (meet_row2 hlt HR.out), below_drewN hB _, by rw [drewN_size]; omega⟩
                case measure => simp [intOf]; omega
              · have hd2 : ((u[k].toNat : Int) != (t[k].toNat : Int)) = true := by simpa using huc
                have HH := Lib.hid (HM.out.symm.trans (meet_stop hlt hltu (meetC_d h42 hu42 huc)))
                clear h42 hu42 huc
                go_wp2
                go_quiet (fail)
                go_wp2
                go_ret2
                exact ⟨by rw [HH.out]; rfl, by rw [hg]; exact below_drewN hB _⟩
        · have HH : Hid (M = some p) := Lib.hid (by
            have h := HP.out
            have e1 : t.data.toList.take k = t.data.toList := List.take_of_length_le (by simp; omega)
            have e2 : u.data.toList.take k = u.data.toList := List.take_of_length_le (by simp; omega)
            rw [e1, e2] at h
            exact HM.out.symm.trans h)
          have hback := conv_back (P := Try.prog) wr 22 9 5 g t.size c p (by omega) Try.underlying22 Try.underlying5 Try.underlying9 (by
            have e : t.data.toList.drop k = [] := List.drop_of_length_le (by simp; omega)
            rw [e, List.append_nil] at hrow
            exact hrow)
          have Hpl := Lib.hid hpl
          clear hrow hpl
          go_wp2
          go_ret2
          exact ⟨by rw [HH.out]; rfl, by rw [hg]; exact hB⟩


end Go.Proofs.Ytfkdameegljkeaa
