/- Walks of IsTrap and TrapsOf. -/
import Derived.Test.YtfaidbngingjpaaDoorProg
import Derived.WalkKit
import Derived.WalkSpells
import Derived.WalkLawsBesides
import Derived.Lib.Hide
import Derived.Deep.QuietTactic
import Derived.BigQuiet
import Derived.Test.YtfaidbngingjpaaDoorWy
import Derived.Test.YtfaidbngingjpaaDoorWu
import Derived.Test.YtfaidbngingjpaaDoorWm
namespace Go.Proofs.YtfaidbngingjpaaDoor
open Go.RowKit
set_option linter.unusedVariables false

/-- does no step leave a term? -/
def trpB (ps : List (List UInt8)) (l : List UInt8) : Bool := (stL l).all fun s => hasS l (stp ps s)
theorem stL_lt {l : List UInt8} {s : Nat} (h : s ∈ stL l) : s < 2 ^ l.length := by simp [stL, sel] at h; exact h.1
theorem trp_bad {ps : List (List UInt8)} {l : List UInt8} {k : Nat} (hk : k < (stL l).length) (h : hasS l (stp ps (stL l)[k]) = false) : trpB ps l = false := by
  cases ha : trpB ps l
  · rfl
  · have := List.all_eq_true.1 ha _ (List.getElem_mem hk)
    rw [h] at this; cases this
theorem trp_all {ps : List (List UInt8)} {l : List UInt8} (h : ∀ k, (hk : k < (stL l).length) → hasS l (stp ps (stL l)[k]) = true) : trpB ps l = true := by
  refine List.all_eq_true.2 fun s hs => ?_
  obtain ⟨k, hk, rfl⟩ := List.getElem_of_mem hs
  exact h k hk
theorem stL_len (l : List UInt8) (h : l.length ≤ 5) : (stL l).length ≤ 32 := Nat.le_trans (sel_len _ _) (two_le _ h)
/-- a term of a network's switches, no step of which leaves it -/
def itrN (ps : List (List UInt8)) (l : List UInt8) : Bool := okN ps && TV l ps.length && trpB ps l

theorem trap_any (A : Option Addr) (c : Nat) (ps : List (List UInt8)) (t : ByteArray) (w : World) (hx : Hid (Rd w A (netL ps))) (hok : Hid (okN ps = true)) (hl : t.size = ps.length) (hc : Hid (t.data.toList.all okc = true)) :
    Calls Tryd.prog 82 #[.slice A ps.length c, .string t] w fun e w' => e = .returned (.bool (trpB ps t.data.toList)) ∧ Below w.heap.size w w' := by
  have hn5 := okN_le hok.out
  have hsl := stL_len t.data.toList (by simp; omega)
  have HLT := Lib.hid (fun s (h : s ∈ stL t.data.toList) => stL_lt h)
  have hil : (ints (stL t.data.toList)).length = (stL t.data.toList).length := ints_length _
  have HL := Lib.hid hl
  clear hl
  go_enter Tryd.func82, Tryd.ntmps82
  go_wp2_with fail
  refine (statesOf_any t w (by have := HL.out; omega) hc).mono ?_
  rintro e w1 ⟨⟨A1, c1, rfl, hc1, hO1⟩, hB1⟩
  have HR1 := Lib.hid hO1.rd
  clear hO1
  go_wp2
  go_loopw [10] (fun q wr => ∃ k : Nat, k ≤ (stL t.data.toList).length ∧ q = .int .i64 k ∧ Hid (∀ j, (hj : j < k) → (hl : j < (stL t.data.toList).length) → hasS t.data.toList (stp ps (stL t.data.toList)[j]) = true) ∧ Below w1.heap.size w1 wr) (fun q _ => (stL t.data.toList).length - (intOf q).toNat)
  case atStart => exact ⟨0, Nat.zero_le _, rfl, Lib.hid (fun j hj => by omega), Below.refl _ _⟩
  case round =>
    obtain ⟨k, hk, rfl, HA, hB⟩ := hrel
    have hsz := hB.size
    by_cases hlt : k < (stL t.data.toList).length
    · obtain ⟨g, off, hA, hcell⟩ := (HR1.out.below hB).at_ (ints_at hlt)
      subst hA
      have HS : Hid ((stL t.data.toList)[k] < 2 ^ ps.length) := Lib.hid (by have := HLT.out _ (List.getElem_mem hlt); have h2 := HL.out; simpa [h2] using this)
      have h32 := stp_lt hok.out (stL t.data.toList)[k]
      have h33 := two_le _ hn5
      by_cases hp : hasS t.data.toList (stp ps (stL t.data.toList)[k]) = true
      · have HA2 : Hid (∀ j, (hj : j < k + 1) → (hl : j < (stL t.data.toList).length) → hasS t.data.toList (stp ps (stL t.data.toList)[j]) = true) := Lib.hid (fun j hj hl => by
          by_cases e : j = k
          · subst e; exact hp
          · exact HA.out j (by omega) hl)
        go_wp2_with fail
        refine (step_any _ _ _ _ _ (Lib.hid (hx.out.below (hB1.trans (hB.mono hB1.size)))) hok HS).mono ?_
        rintro e w2 ⟨rfl, hB2⟩
        go_wp2_with fail
        refine (hasState_any t _ _ (by have := HL.out; omega) (by omega) hc).mono ?_
        rintro e w3 ⟨rfl, n, rfl⟩
        rw [hp]
        go_wp2
        go_roundw
        case rel => exact ⟨k + 1, by omega, by go_num, HA2, below_drewN (hB.trans (hB2.mono hsz)) _⟩
        case measure => simp [intOf]; omega
      · have hp' : hasS t.data.toList (stp ps (stL t.data.toList)[k]) = false := by simpa using hp
        have HV := Lib.hid (trp_bad hlt hp')
        clear hp
        go_wp2_with fail
        refine (step_any _ _ _ _ _ (Lib.hid (hx.out.below (hB1.trans (hB.mono hB1.size)))) hok HS).mono ?_
        rintro e w2 ⟨rfl, hB2⟩
        go_wp2_with fail
        refine (hasState_any t _ _ (by have := HL.out; omega) (by omega) hc).mono ?_
        rintro e w3 ⟨rfl, n, rfl⟩
        rw [hp']
        go_wp2
        go_ret
        exact ⟨by rw [HV.out]; rfl, below_drewN (hB1.trans ((hB.trans (hB2.mono hsz)).mono hB1.size)) _⟩
    · have HV : Hid (trpB ps t.data.toList = true) := Lib.hid (trp_all fun j hj => HA.out j (by omega) hj)
      go_wp2
      go_ret
      exact ⟨by rw [HV.out]; rfl, hB1.trans (hB.mono hB1.size)⟩

theorem l6Trap_any (A : Option Addr) (c : Nat) (ps : List (List UInt8)) (t : ByteArray) (w : World) (hx : Hid (Rd w A (strs ps))) (hok : Hid (okN ps = true)) (hl : t.size = ps.length) (hc : Hid (t.data.toList.all okc = true)) :
    Calls Tryd.prog 80 #[.slice A ps.length c, .string t] w fun e w' => e = .returned (.bool (trpB ps t.data.toList)) ∧ Below w.heap.size w w' := by
  have hn5 := okN_le hok.out
  obtain ⟨N, HN, hN, hN32, hN0⟩ := wrap_two ps.length hn5
  have hW : ((N : Int) - 1) = ((N - 1 : Nat) : Int) := by omega
  have HST : Hid (∀ s, s < 2 ^ ps.length → stW (nb ps s) s (N - 1) ps.length = stp ps s) := Lib.hid (fun s hs => by rw [HN.out]; exact stp_of hok.out hs)
  have hsl := stL_len t.data.toList (by simp; omega)
  have HLT := Lib.hid (fun s (h : s ∈ stL t.data.toList) => stL_lt h)
  have hil : (ints (stL t.data.toList)).length = (stL t.data.toList).length := ints_length _
  have HL := Lib.hid hl
  have htl : t.size ≤ 63 := by omega
  clear hl
  go_enter Tryd.func80, Tryd.ntmps80
  go_wp2_with fail
  refine (l6States_any t w (by have := HL.out; omega) hc).mono ?_
  rintro e w1 ⟨⟨A1, c1, rfl, hc1, hO1⟩, hB1⟩
  have HR1 := Lib.hid hO1.rd
  clear hO1
  go_wp2
  go_loopw [6] (fun q wr => ∃ k : Nat, k ≤ (stL t.data.toList).length ∧ q = .int .i64 k ∧ Hid (∀ j, (hj : j < k) → (hl : j < (stL t.data.toList).length) → hasS t.data.toList (stp ps (stL t.data.toList)[j]) = true) ∧ Below w1.heap.size w1 wr) (fun q _ => (stL t.data.toList).length - (intOf q).toNat)
  case atStart => exact ⟨0, Nat.zero_le _, rfl, Lib.hid (fun j hj => by omega), Below.refl _ _⟩
  case round =>
    obtain ⟨k, hk, rfl, HA, hB⟩ := hrel
    have hsz := hB.size
    by_cases hlt : k < (stL t.data.toList).length
    · obtain ⟨g, off, hA, hcell⟩ := (HR1.out.below hB).at_ (ints_at hlt)
      subst hA
      have HS : Hid ((stL t.data.toList)[k] < 2 ^ ps.length) := Lib.hid (by have := HLT.out _ (List.getElem_mem hlt); have h2 := HL.out; simpa [h2] using this)
      have h32 := stp_lt hok.out (stL t.data.toList)[k]
      have h33 := two_le _ hn5
      have h34 : stp ps (stL t.data.toList)[k] < 4294967296 := by omega
      have HR := Lib.hid (hx.out.below (hB1.trans (hB.mono hB1.size)))
      by_cases hp : hasS t.data.toList (stp ps (stL t.data.toList)[k]) = true
      · have HA2 : Hid (∀ j, (hj : j < k + 1) → (hl : j < (stL t.data.toList).length) → hasS t.data.toList (stp ps (stL t.data.toList)[j]) = true) := Lib.hid (fun j hj hl => by
          by_cases e : j = k
          · subst e; exact hp
          · exact HA.out j (by omega) hl)
        go_wp2_with fail
        go_quiet (first
          | (go_at_call 53; exact quiet_left (l3AllN_any _ _ _ N _ hn5 HN hN0))
          | (go_at_call 98; exact quiet_left (l3StepA_any _ _ ps _ N _ (show Hid (Rd (wr.drewN _) _ _) from HR) hok HN HS))
          | (go_at_call 124; exact quiet_left2 (l2Has_any t _ _ htl h34 hc)))
        clear HR
        go_wp2_with fail
        go_roundw
        case rel => exact ⟨k + 1, by omega, by go_num, HA2, below_drewN hB _⟩
        case measure => simp [intOf]; omega
      · have hp' : hasS t.data.toList (stp ps (stL t.data.toList)[k]) = false := by simpa using hp
        have HV := Lib.hid (trp_bad hlt hp')
        clear hp
        go_wp2_with fail
        go_quiet (first
          | (go_at_call 53; exact quiet_left (l3AllN_any _ _ _ N _ hn5 HN hN0))
          | (go_at_call 98; exact quiet_left (l3StepA_any _ _ ps _ N _ (show Hid (Rd (wr.drewN _) _ _) from HR) hok HN HS))
          | (go_at_call 124; exact quiet_left2 (l2Has_any t _ _ htl h34 hc)))
        clear HR
        go_wp2_with fail
        go_ret
        exact ⟨by rw [HV.out]; rfl, below_drewN (hB1.trans (hB.mono hB1.size)) _⟩
    · have HV : Hid (trpB ps t.data.toList = true) := Lib.hid (trp_all fun j hj => HA.out j (by omega) hj)
      go_wp2
      go_ret
      exact ⟨by rw [HV.out]; rfl, hB1.trans (hB.mono hB1.size)⟩

/-- is it a network, and a term of its switches? -/
def okTm (ps : List (List UInt8)) (l : List UInt8) : Bool := okN ps && TV l ps.length
theorem okTm_true {ps : List (List UInt8)} {l : List UInt8} (h : okTm ps l = true) : okN ps = true ∧ TV l ps.length = true := by rwa [okTm, Bool.and_eq_true] at h

/-- what the reading of a network and a term hands back -/
def NetT2 (B : Nat) (ps : List (List UInt8)) (l : List UInt8) (e : Ending) (w' : World) : Prop :=
  ∃ A k c, e = .returned (.tuple #[.slice A k c, .bool (okTm ps l)]) ∧ (okTm ps l = true → k = ps.length ∧ ps.length ≤ c ∧ Own w' B A (netL ps))
theorem termOf_any (s t : ByteArray) (w : World) (hm : Hid (HasM w)) (hs : s.size ≤ 1073741824) (ht : t.size ≤ 1073741824) :
    Calls Tryd.prog 81 #[.string s, .string t] w fun e w' => NetT2 w.heap.size (cutL s.data.toList) t.data.toList e w' ∧ Below w.heap.size w w' := by
  obtain ⟨ps, HPS⟩ : ∃ ps, Hid (ps = cutL s.data.toList) := ⟨_, rfl⟩
  rw [← HPS.out]
  by_cases h : okN ps = true
  · have hn5 := okN_le h
    have HOK := Lib.hid h
    have HT : Hid (okTm ps t.data.toList = TV t.data.toList ps.length) := Lib.hid (by rw [okTm, h]; rfl)
    clear h
    go_enter Tryd.func81, Tryd.ntmps81
    go_wp2_with fail
    refine (readNetwork_any s w hm hs).mono ?_
    rintro e w1 ⟨⟨A, k, c, rfl, himp⟩, hB1⟩
    rw [← HPS.out] at himp ⊢
    obtain ⟨rfl, hc, hO⟩ := himp HOK.out
    rw [HOK.out]
    have HO := Lib.hid hO
    clear hO himp
    go_wp2_with fail
    refine (termValid_any t _ _ (by omega)).mono ?_
    rintro e w2 ⟨rfl, rfl⟩
    go_wp2
    go_ret2
    exact ⟨⟨_, _, _, by rw [HT.out]; rfl, fun _ => ⟨rfl, hc, HO.out⟩⟩, hB1⟩
  · have h' : okN ps = false := by simpa using h
    have HT : Hid (okTm ps t.data.toList = false) := Lib.hid (by rw [okTm, h']; rfl)
    have HOK := Lib.hid h'
    clear h h'
    go_enter Tryd.func81, Tryd.ntmps81
    go_wp2_with fail
    refine (readNetwork_any s w hm hs).mono ?_
    rintro e w1 ⟨⟨A, k, c, rfl, himp⟩, hB1⟩
    clear himp
    rw [← HPS.out, HOK.out]
    go_wp2
    go_ret2
    exact ⟨⟨_, _, _, by rw [HT.out]; rfl, fun h => by rw [HT.out] at h; cases h⟩, hB1⟩

/-- what the reading of a network and a term hands back -/
def NetT3 (B : Nat) (ps : List (List UInt8)) (l : List UInt8) (e : Ending) (w' : World) : Prop :=
  ∃ A k c, e = .returned (.tuple #[.slice A k c, .bool (okTm ps l)]) ∧ (okTm ps l = true → k = ps.length ∧ ps.length ≤ c ∧ Own w' B A (strs ps))
theorem l6Term_any (s t : ByteArray) (w : World) (hs : s.size ≤ 1073741824) (ht : t.size ≤ 1073741824) :
    Calls Tryd.prog 79 #[.string s, .string t] w fun e w' => NetT3 w.heap.size (cutL s.data.toList) t.data.toList e w' ∧ Below w.heap.size w w' := by
  obtain ⟨ps, HPS⟩ : ∃ ps, Hid (ps = cutL s.data.toList) := ⟨_, rfl⟩
  rw [← HPS.out]
  by_cases h : okN ps = true
  · have hn5 := okN_le h
    have HOK := Lib.hid h
    have HT : Hid (okTm ps t.data.toList = TV t.data.toList ps.length) := Lib.hid (by rw [okTm, h]; rfl)
    clear h
    go_enter Tryd.func79, Tryd.ntmps79
    go_wp2_with fail
    refine (l3Open_any s w hs).mono ?_
    rintro e w1 ⟨⟨A, k, c, rfl, himp⟩, hB1⟩
    rw [← HPS.out] at himp ⊢
    obtain ⟨rfl, hc, hO⟩ := himp HOK.out
    rw [HOK.out]
    have HO := Lib.hid hO
    clear hO himp
    go_wp2_with fail
    refine (sTermValid_any t _ _ (by omega)).mono ?_
    rintro e w2 ⟨rfl, rfl⟩
    go_wp2
    go_ret2
    exact ⟨⟨_, _, _, by rw [HT.out]; rfl, fun _ => ⟨rfl, hc, HO.out⟩⟩, hB1⟩
  · have h' : okN ps = false := by simpa using h
    have HT : Hid (okTm ps t.data.toList = false) := Lib.hid (by rw [okTm, h']; rfl)
    have HOK := Lib.hid h'
    clear h h'
    go_enter Tryd.func79, Tryd.ntmps79
    go_wp2_with fail
    refine (l3Open_any s w hs).mono ?_
    rintro e w1 ⟨⟨A, k, c, rfl, himp⟩, hB1⟩
    clear himp
    rw [← HPS.out, HOK.out]
    go_wp2
    go_ret2
    exact ⟨⟨_, _, _, by rw [HT.out]; rfl, fun h => by rw [HT.out] at h; cases h⟩, hB1⟩

theorem IsTrap_any (s t : ByteArray) (w : World) (hm : Hid (HasM w)) (hs : s.size ≤ 1073741824) (ht : t.size ≤ 1073741824) :
    Calls Tryd.prog 28 #[.string s, .string t] w fun e w' => e = .returned (.bool (itrN (cutL s.data.toList) t.data.toList)) ∧ Below w.heap.size w w' := by
  obtain ⟨ps, HPS⟩ : ∃ ps, Hid (ps = cutL s.data.toList) := ⟨_, rfl⟩
  rw [← HPS.out]
  by_cases h : okTm ps t.data.toList = true
  · obtain ⟨hok, htv⟩ := okTm_true h
    have htv2 := TV_true htv
    have hlen : t.size = ps.length := by have := htv2.2.2.1; simp at this; omega
    have HC : Hid (t.data.toList.all okc = true) := Lib.hid (List.all_eq_true.2 htv2.2.2.2)
    have HOK := Lib.hid hok
    have HT := Lib.hid h
    have HV : Hid (itrN ps t.data.toList = trpB ps t.data.toList) := Lib.hid (by rw [itrN, hok, htv]; rfl)
    have HLN := Lib.hid hlen
    clear h hok htv htv2 hlen
    go_enter Tryd.func28, Tryd.ntmps28
    go_wp2_with fail
    refine (termOf_any s t w hm hs ht).mono ?_
    rintro e w1 ⟨⟨A, k, c, rfl, himp⟩, hB1⟩
    rw [← HPS.out] at himp ⊢
    obtain ⟨rfl, hc, hO⟩ := himp HT.out
    rw [HT.out]
    have HR := Lib.hid hO.rd
    have hz1 := hB1.size
    clear hO himp
    go_wp2_with fail
    refine (trap_any _ _ ps t _ HR HOK HLN.out HC).mono ?_
    rintro e w2 ⟨rfl, hB2⟩
    go_wp2
    go_ret
    exact ⟨by rw [HV.out]; first | rfl | simp, hB1.trans (hB2.mono hz1)⟩
  · have h' : okTm ps t.data.toList = false := by simpa using h
    have HT := Lib.hid h'
    have HV : Hid (itrN ps t.data.toList = false) := Lib.hid (by
      rw [okTm] at h'
      rw [itrN, h']; rfl)
    clear h h'
    go_enter Tryd.func28, Tryd.ntmps28
    go_wp2_with fail
    refine (termOf_any s t w hm hs ht).mono ?_
    rintro e w1 ⟨⟨A, k, c, rfl, himp⟩, hB1⟩
    clear himp
    rw [← HPS.out, HT.out]
    go_wp2
    go_ret
    exact ⟨by rw [HV.out]; rfl, hB1⟩

theorem sIsTrap_any (s t : ByteArray) (w : World) (hs : s.size ≤ 1073741824) (ht : t.size ≤ 1073741824) :
    Calls Tryd.prog 27 #[.string s, .string t] w fun e w' => e = .returned (.bool (itrN (cutL s.data.toList) t.data.toList)) ∧ Below w.heap.size w w' := by
  obtain ⟨ps, HPS⟩ : ∃ ps, Hid (ps = cutL s.data.toList) := ⟨_, rfl⟩
  rw [← HPS.out]
  by_cases h : okTm ps t.data.toList = true
  · obtain ⟨hok, htv⟩ := okTm_true h
    have htv2 := TV_true htv
    have hlen : t.size = ps.length := by have := htv2.2.2.1; simp at this; omega
    have HC : Hid (t.data.toList.all okc = true) := Lib.hid (List.all_eq_true.2 htv2.2.2.2)
    have HOK := Lib.hid hok
    have HT := Lib.hid h
    have HV : Hid (itrN ps t.data.toList = trpB ps t.data.toList) := Lib.hid (by rw [itrN, hok, htv]; rfl)
    have HLN := Lib.hid hlen
    clear h hok htv htv2 hlen
    go_enter Tryd.func27, Tryd.ntmps27
    go_wp2_with fail
    refine (l6Term_any s t w hs ht).mono ?_
    rintro e w1 ⟨⟨A, k, c, rfl, himp⟩, hB1⟩
    rw [← HPS.out] at himp ⊢
    obtain ⟨rfl, hc, hO⟩ := himp HT.out
    rw [HT.out]
    have HR := Lib.hid hO.rd
    have hz1 := hB1.size
    clear hO himp
    go_wp2_with fail
    refine (l6Trap_any _ _ ps t _ HR HOK HLN.out HC).mono ?_
    rintro e w2 ⟨rfl, hB2⟩
    go_wp2
    go_ret
    exact ⟨by rw [HV.out]; first | rfl | simp, hB1.trans (hB2.mono hz1)⟩
  · have h' : okTm ps t.data.toList = false := by simpa using h
    have HT := Lib.hid h'
    have HV : Hid (itrN ps t.data.toList = false) := Lib.hid (by
      rw [okTm] at h'
      rw [itrN, h']; rfl)
    clear h h'
    go_enter Tryd.func27, Tryd.ntmps27
    go_wp2_with fail
    refine (l6Term_any s t w hs ht).mono ?_
    rintro e w1 ⟨⟨A, k, c, rfl, himp⟩, hB1⟩
    clear himp
    rw [← HPS.out, HT.out]
    go_wp2
    go_ret
    exact ⟨by rw [HV.out]; rfl, hB1⟩

end Go.Proofs.YtfaidbngingjpaaDoor
