/-
  The law FnMeet returns true for all arguments: the common term has the states of both terms, there is none exactly if there are no such states, and a term lies within another one exactly if it is what they have in common.
  Conditions: none.
-/
import Derived.BigQuiet
import Derived.Deep.QuietTactic
import Derived.MapKept
import Derived.Laws.StructEq
import Derived.Test.YtfkdameegljkeaaLa
import Derived.Test.YtfkdameegljkeaaP4
import Derived.Test.YtfkdameegljkeaaP5
import Derived.Test.YtfkdameegljkeaaWm
import Derived.Test.YtfkdameegljkeaaMx
namespace Go.Proofs.Ytfkdameegljkeaa
open Go.RowKit
set_option linter.unusedVariables false
theorem bytes_eqb2 (a : ByteArray) : (a != a) = false := by
  have := (MapKept.bytes_beq a a).2 rfl
  simp [bne, this]
theorem bytes_eqt (a : ByteArray) : (a == a) = true := (MapKept.bytes_beq a a).2 rfl
theorem meetL_okc : ∀ (t u m : List UInt8), (∀ c ∈ t, okc c = true) → (∀ c ∈ u, okc c = true) → meetL t u = some m → ∀ c ∈ m, okc c = true
  | [], u, m, _, _, h => by
    have : m = [] := by simpa [meetL] using h.symm
    subst this; simp
  | c :: t, [], m, _, _, h => by
    have : m = [] := by simpa [meetL] using h.symm
    subst this; simp
  | c :: t, d :: u, m, ht, hu, h => by
    rw [meetL] at h
    have ih := fun m' (hm : meetL t u = some m') => meetL_okc t u m' (fun c hc => ht c (List.mem_cons_of_mem _ hc)) (fun c hc => hu c (List.mem_cons_of_mem _ hc)) hm
    rcases meetC_cases c d with ⟨rfl, e⟩ | ⟨h1, h2, e⟩ | ⟨h1, h2, h3, e⟩ <;> rw [e] at h
    · cases hm : meetL t u with
      | none => rw [hm] at h; cases h
      | some m' =>
        rw [hm] at h
        injection h with h
        subst h
        intro x hx
        rcases List.mem_cons.1 hx with rfl | hx
        · exact hu _ List.mem_cons_self
        · exact ih _ hm x hx
    · cases hm : meetL t u with
      | none => rw [hm] at h; cases h
      | some m' =>
        rw [hm] at h
        injection h with h
        subst h
        intro x hx
        rcases List.mem_cons.1 hx with rfl | hx
        · exact ht _ List.mem_cons_self
        · exact ih _ hm x hx
    · cases h
theorem tmT_ok {t : List UInt8} (h1 : 1 ≤ t.length) (h5 : t.length ≤ 5) : okT (tmT t) = true ∧ tin (tmT t).length = t.length := okT_txt2 h1 h5 fun s => by split <;> omega
theorem tmT_len {t : List UInt8} (h5 : t.length ≤ 5) : (tmT t).length ≤ 1000 := by
  rw [tmT, txt_length]
  have := two_le _ h5
  omega
theorem tmT_and {t u : List UInt8} (hl : t.length = u.length) : (txt (2 ^ t.length) fun s => val (tmT t) s * val (tmT u) s) = andT t.length t u := txt_congr fun s hs => by
  rw [tmT, tmT, val_txt2 hs (by split <;> omega), val_txt2 (by rw [← hl]; exact hs) (by split <;> omega)]
theorem TV_len {t : ByteArray} : t.data.toList.length = t.size := by simp
theorem TV_of {l : List UInt8} {n : Nat} (h1 : 1 ≤ n) (h5 : n ≤ 5) (hl : l.length = n) (ho : ∀ c ∈ l, okc c = true) : TV l (n : Int) = true := by
  simp only [TV, Bool.and_eq_true, decide_eq_true_eq, List.all_eq_true]
  exact ⟨⟨⟨by omega, by omega⟩, by omega⟩, ho⟩
set_option maxHeartbeats 2000000 in
set_option maxRecDepth 100000 in
theorem fnMeet_walk (a0 : Option Addr) (len0 cap0 : Nat) (z0 : List Int) (w : World) (w0 : IsRow .u8 w a0 len0 cap0 z0) :
    Calls Try.prog 3 #[.slice a0 len0 cap0] w fun e w' => e = .returned (.bool true) ∧ Below w.heap.size w w' := by
  by_cases h0 : 1048576 < len0
  · go_enter Try.func3, Try.ntmps3
    go_wp2
    go_ret
    exact ⟨rfl, Below.refl _ _⟩
  · obtain ⟨bs, hbl, hrd, hwf, hcap, hmax⟩ := w0.rdk
    unfold maxLen at hmax
    have HRD := Lib.hid hrd
    have HWF := Lib.hid (fun x hx => wf_u8 (hwf x hx))
    have HBL := Lib.hid hbl.symm
    clear hbl hrd hwf w0
    go_enter Try.func3, Try.ntmps3
    go_wp2_with fail
    refine (DrawMeetTerms_any _ _ _ _ _ HBL.out hcap (by omega) HRD HWF).mono ?_
    rintro e W1 ⟨⟨t, u, rfl, ht, hu⟩, hB1⟩
    have hz1 := hB1.size
    obtain ⟨m, HM⟩ : ∃ m : ByteArray, Hid (m = ⟨((MT t.data.toList u.data.toList).getD []).toArray⟩) := ⟨_, rfl⟩
    obtain ⟨b, HB⟩ : ∃ b : Bool, Hid (b = (MT t.data.toList u.data.toList).isSome) := ⟨_, rfl⟩
    have HO : Hid (optT (MT t.data.toList u.data.toList) = .tuple #[.string m, .bool b]) := Lib.hid (by rw [HM.out, HB.out]; rfl)
    have hm1 := bytes_eqb2 m
    have hm2 := bytes_eqt m
    have hb1 : (b != b) = false := by cases b <;> rfl
    have hb2 : (b == b) = true := by cases b <;> rfl
    by_cases hlen : t.size = u.size
    · cases hv1 : TV t.data.toList (t.size : Int) with
      | false =>
        have HV1 := Lib.hid hv1
        have hll : ((t.size : Int) != (u.size : Int)) = false := by rw [hlen]; exact bne_self_eq_false _
        clear hv1 hlen
        go_wp2_with (first
          | (go_at_call 5; refine (meet_any t u _ (by omega) (by omega)).mono ?_; rintro e W2 ⟨rfl, hB2⟩; rw [HO.out])
          | (go_at_call 6; refine (sMeet_any t u _ (by omega) (by omega)).mono ?_; rintro e W3 ⟨rfl, hB3⟩; rw [HO.out])
          | (go_at_call 7; refine (termValid_any t _ _ (by omega)).mono ?_; rintro e W4 ⟨rfl, rfl⟩; rw [HV1.out]))
        go_ret
        have hB2' : Below w.heap.size w W2 := hB1.trans (hB2.mono hz1)
        exact ⟨rfl, hB2'.trans (hB3.mono hB2'.size)⟩
      | true =>
        cases hv2 : TV u.data.toList (t.size : Int) with
        | false =>
          have HV1 := Lib.hid hv1
          have HV2 : Hid (TV u.data.toList (u.size : Int) = false) := Lib.hid (by rw [← hlen]; exact hv2)
          have hll : ((t.size : Int) != (u.size : Int)) = false := by rw [hlen]; exact bne_self_eq_false _
          clear hv1 hv2 hlen
          go_wp2_with (first
            | (go_at_call 5; refine (meet_any t u _ (by omega) (by omega)).mono ?_; rintro e W2 ⟨rfl, hB2⟩; rw [HO.out])
            | (go_at_call 6; refine (sMeet_any t u _ (by omega) (by omega)).mono ?_; rintro e W3 ⟨rfl, hB3⟩; rw [HO.out])
            | (have hn := hfst; go_at_call 7; refine (termValid_any u _ _ (by omega)).mono ?_; rintro e W4 ⟨rfl, rfl⟩; rw [HV2.out])
            | (go_at_call 7; refine (termValid_any t _ _ (by omega)).mono ?_; rintro e W4 ⟨rfl, rfl⟩; rw [HV1.out]; have hfst := True.intro))
          go_ret
          have hB2' : Below w.heap.size w W2 := hB1.trans (hB2.mono hz1)
          exact ⟨rfl, hB2'.trans (hB3.mono hB2'.size)⟩
        | true =>
          have htv := TV_true hv1
          have huv := TV_true hv2
          have h1 : 1 ≤ t.size := by have := htv.1; omega
          have h5 : t.size ≤ 5 := by have := htv.2.1; omega
          have HV1 := Lib.hid hv1
          have HV2 : Hid (TV u.data.toList (u.size : Int) = true) := Lib.hid (by rw [← hlen]; exact hv2)
          have HV2t := Lib.hid hv2
          have HLE := Lib.hid hlen
          have hll : ((t.size : Int) != (u.size : Int)) = false := by rw [hlen]; exact bne_self_eq_false _
          have HMT : Hid (MT t.data.toList u.data.toList = meetL t.data.toList u.data.toList) := Lib.hid (MT_yes (by rw [TV_len]; exact hv1) (by rw [TV_len]; exact hv2))
          have HMT2 : Hid (MT u.data.toList t.data.toList = MT t.data.toList u.data.toList) := Lib.hid (by
            rw [HMT.out, MT_yes (by rw [TV_len, ← hlen]; exact hv2) (by rw [TV_len, ← hlen]; exact hv1)]
            exact meetL_comm _ _ (by rw [TV_len, TV_len, hlen]))
          have htl : t.data.toList.length = u.data.toList.length := by rw [TV_len, TV_len, hlen]
          have HA1 : Hid (okT (tmT t.data.toList) = true ∧ tin (tmT t.data.toList).length = t.size) := Lib.hid (by
            have := tmT_ok (t := t.data.toList) (by rw [TV_len]; exact h1) (by rw [TV_len]; exact h5)
            rwa [TV_len] at this)
          have HA2 : Hid (okT (tmT u.data.toList) = true ∧ tin (tmT u.data.toList).length = t.size) := Lib.hid (by
            have := tmT_ok (t := u.data.toList) (by rw [TV_len, ← hlen]; exact h1) (by rw [TV_len, ← hlen]; exact h5)
            rwa [TV_len, ← hlen] at this)
          have HLN : Hid ((tmT t.data.toList).length ≤ 1000 ∧ (tmT u.data.toList).length ≤ 1000) := Lib.hid ⟨tmT_len (by rw [TV_len]; exact h5), tmT_len (by rw [TV_len, ← hlen]; exact h5)⟩
          obtain ⟨X, HX⟩ : ∃ X : ByteArray, Hid (X = ⟨(andT t.size t.data.toList u.data.toList).toArray⟩) := ⟨_, rfl⟩
          obtain ⟨Z, HZ⟩ : ∃ Z : ByteArray, Hid (Z = ⟨(txt (2 ^ t.size) fun _ => 0).toArray⟩) := ⟨_, rfl⟩
          obtain ⟨TA, HTA⟩ : ∃ X : ByteArray, Hid (X = ⟨(tmT t.data.toList).toArray⟩) := ⟨_, rfl⟩
          obtain ⟨TB, HTB⟩ : ∃ X : ByteArray, Hid (X = ⟨(tmT u.data.toList).toArray⟩) := ⟨_, rfl⟩
          have HCA : Hid (txtY (tmT t.data.toList) = .tuple #[.string TA, .bool true]) := Lib.hid (by rw [HTA.out]; rfl)
          have HCB : Hid (txtY (tmT u.data.toList) = .tuple #[.string TB, .bool true]) := Lib.hid (by rw [HTB.out]; rfl)
          have HAND : Hid (∀ W, Calls Try.prog 9 #[.string TA, .string TB] W fun e w' => e = .returned (.tuple #[.string X, .bool true]) ∧ Below W.heap.size W w') := Lib.hid fun W => by
            have h := AndTables_any (tmT t.data.toList) (tmT u.data.toList) t.size W HA1 HA2 HLN.out
            have e := tmT_and htl
            rw [TV_len] at e
            rw [e] at h
            rw [HTA.out, HTB.out, HX.out]
            exact h
          have HCON : Hid (∀ W, Calls Try.prog 10 #[.int .i64 (t.size : Int), .int .i64 0] W fun e w' => e = .returned (.tuple #[.string Z, .bool true]) ∧ Below W.heap.size W w') := Lib.hid fun W => by
            have h := ConstantTable_any t.size 0 W h1 h5 (by omega)
            rw [HZ.out]
            exact h
          cases hM : meetL t.data.toList u.data.toList with
          | none =>
            have hbf : b = false := by rw [HB.out, HMT.out, hM]; rfl
            subst hbf
            have hXZ : X = Z := by
              have e := meet_zero htl hM
              rw [TV_len] at e
              rw [HX.out, HZ.out, e]
            subst hXZ
            have hx := bytes_eqt X
            clear hM htv huv htl hv1 hv2 hlen h1 h5
            go_wp2_with (first
              | (go_at_call 5; refine (meet_any t u _ (by omega) (by omega)).mono ?_; rintro e W2 ⟨rfl, hB2⟩; rw [HO.out])
              | (go_at_call 6; refine (sMeet_any t u _ (by omega) (by omega)).mono ?_; rintro e W3 ⟨rfl, hB3⟩; rw [HO.out])
              | (have hn := hfst; go_at_call 7; refine (termValid_any u _ _ (by omega)).mono ?_; rintro e W4 ⟨rfl, rfl⟩; rw [HV2.out])
              | (go_at_call 7; refine (termValid_any t _ _ (by omega)).mono ?_; rintro e W4 ⟨rfl, rfl⟩; rw [HV1.out]; have hfst := True.intro)
              | (have hn := htab; go_at_call 8; refine (TermTable_any u _ HV2).mono ?_; rintro e W6 ⟨rfl, hB6⟩; rw [HCB.out])
              | (go_at_call 8; refine (TermTable_any t _ HV1).mono ?_; rintro e W5 ⟨rfl, hB5⟩; rw [HCA.out]; have htab := True.intro)
              | (go_at_call 9; refine (HAND.out _).mono ?_; rintro e W7 ⟨rfl, hB7⟩)
              | (go_at_call 10; refine (HCON.out _).mono ?_; rintro e W8 ⟨rfl, hB8⟩))
            go_ret
            have h2 : Below w.heap.size w W2 := hB1.trans (hB2.mono hz1)
            have h3 : Below w.heap.size w W3 := h2.trans (hB3.mono h2.size)
            have h5 : Below w.heap.size w W5 := h3.trans (hB5.mono h3.size)
            have h6 : Below w.heap.size w W6 := h5.trans (hB6.mono h5.size)
            have h7 : Below w.heap.size w W7 := h6.trans (hB7.mono h6.size)
            exact ⟨rfl, h7.trans (hB8.mono h7.size)⟩
          | some ml =>
            have hbt : b = true := by rw [HB.out, HMT.out, hM]; rfl
            subst hbt
            have hmm : m.data.toList = ml := by rw [HM.out, HMT.out, hM]; rfl
            have hml : ml.length = t.size := by rw [meetL_length _ _ _ htl hM, TV_len]
            have hms : m.size = t.size := by rw [← TV_len, hmm, hml]
            have hmok := meetL_okc _ _ _ htv.2.2.2 huv.2.2.2 hM
            have HVM : Hid (TV m.data.toList (m.size : Int) = true) := Lib.hid (by rw [hmm, hms]; exact TV_of h1 h5 hml hmok)
            have HVMt : Hid (TV t.data.toList (m.size : Int) = true) := Lib.hid (by rw [hms]; exact hv1)
            have HVMu : Hid (TV u.data.toList (m.size : Int) = true) := Lib.hid (by rw [hms]; exact hv2)
            have hin := meet_in _ _ _ htl hM
            have HCM : Hid (txtY (tmT m.data.toList) = .tuple #[.string X, .bool true]) := Lib.hid (by
              have e := meet_tab htl (by rw [hml, TV_len]) hM
              rw [TV_len] at e
              rw [hmm, HX.out, e]; rfl)
            have HI1 : Hid (insL m.data.toList t.data.toList = true) := Lib.hid (by rw [hmm]; exact hin.1)
            have HI2 : Hid (insL m.data.toList u.data.toList = true) := Lib.hid (by rw [hmm]; exact hin.2.1)
            have HI3 : Hid (insL t.data.toList u.data.toList = (m == t)) := Lib.hid (by
              rw [Bool.eq_iff_iff, hin.2.2, MapKept.bytes_beq]
              constructor
              · intro e; apply ByteArray.ext; apply Array.ext'; rw [hmm, e]
              · intro e; rw [← hmm, e])
            obtain ⟨q, HQ⟩ : ∃ q, Hid (q = (m == t)) := ⟨_, rfl⟩
            have hq : (m == t) = q := HQ.out.symm
            have hqq : (q == q) = true := by cases q <;> rfl
            have hxx := bytes_eqt X
            clear hM htv huv htl hv1 hv2 hlen h1 h5 hin hmok hms hml hmm
            go_wp2_with (first
              | (have hn := hmt2; go_at_call 5; refine (meet_any u t _ (by omega) (by omega)).mono ?_; rw [HMT2.out]; rintro e W10 ⟨rfl, hB10⟩; rw [HO.out])
              | (go_at_call 5; refine (meet_any t u _ (by omega) (by omega)).mono ?_; rintro e W2 ⟨rfl, hB2⟩; rw [HO.out]; have hmt2 := True.intro)
              | (go_at_call 6; refine (sMeet_any t u _ (by omega) (by omega)).mono ?_; rintro e W3 ⟨rfl, hB3⟩; rw [HO.out])
              | (have hn := hfst; go_at_call 7; refine (termValid_any u _ _ (by omega)).mono ?_; rintro e W4 ⟨rfl, rfl⟩; rw [HV2.out])
              | (go_at_call 7; refine (termValid_any t _ _ (by omega)).mono ?_; rintro e W4 ⟨rfl, rfl⟩; rw [HV1.out]; have hfst := True.intro)
              | (have hn := htab2; go_at_call 8; refine (TermTable_any m _ HVM).mono ?_; rintro e W9 ⟨rfl, hB9⟩; rw [HCM.out])
              | (have hn := htab; go_at_call 8; refine (TermTable_any u _ HV2).mono ?_; rintro e W6 ⟨rfl, hB6⟩; rw [HCB.out]; have htab2 := True.intro)
              | (go_at_call 8; refine (TermTable_any t _ HV1).mono ?_; rintro e W5 ⟨rfl, hB5⟩; rw [HCA.out]; have htab := True.intro)
              | (go_at_call 9; refine (HAND.out _).mono ?_; rintro e W7 ⟨rfl, hB7⟩)
              | (go_at_call 10; refine (HCON.out _).mono ?_; rintro e W8 ⟨rfl, hB8⟩)
              | (have hn := hins2; go_at_call 11; refine (IsInside_any t u _ HV1.out HV2t.out).mono ?_; rintro e W13 ⟨rfl, hB13⟩; rw [HI3.out, ← HQ.out])
              | (have hn := hins; go_at_call 11; refine (IsInside_any m u _ HVM.out HVMu.out).mono ?_; rintro e W12 ⟨rfl, hB12⟩; rw [HI2.out]; have hins2 := True.intro)
              | (go_at_call 11; refine (IsInside_any m t _ HVM.out HVMt.out).mono ?_; rintro e W11 ⟨rfl, hB11⟩; rw [HI1.out]; have hins := True.intro))
            go_ret
            have h2 : Below w.heap.size w W2 := hB1.trans (hB2.mono hz1)
            have h3 : Below w.heap.size w W3 := h2.trans (hB3.mono h2.size)
            have h5 : Below w.heap.size w W5 := h3.trans (hB5.mono h3.size)
            have h6 : Below w.heap.size w W6 := h5.trans (hB6.mono h5.size)
            have h7 : Below w.heap.size w W7 := h6.trans (hB7.mono h6.size)
            have h8 : Below w.heap.size w W8 := h7.trans (hB8.mono h7.size)
            have h9 : Below w.heap.size w W9 := h8.trans (hB9.mono h8.size)
            have h10 : Below w.heap.size w W10 := h9.trans (hB10.mono h9.size)
            have h11 : Below w.heap.size w W11 := h10.trans (hB11.mono h10.size)
            have h12 : Below w.heap.size w W12 := h11.trans (hB12.mono h11.size)
            refine ⟨?_, h12.trans (hB13.mono h12.size)⟩
            have hq2 : (m.toList == t.toList) = q := (beq_toListBytes m t).symm.trans hq
            show Ending.returned (.bool (q == (m.toList == t.toList))) = _
            rw [hq2, hqq]
    · have hll : ((t.size : Int) != (u.size : Int)) = true := by rw [bne_iff_ne]; omega
      clear hlen
      go_wp2_with (first
        | (go_at_call 5; refine (meet_any t u _ (by omega) (by omega)).mono ?_; rintro e W2 ⟨rfl, hB2⟩; rw [HO.out])
        | (go_at_call 6; refine (sMeet_any t u _ (by omega) (by omega)).mono ?_; rintro e W3 ⟨rfl, hB3⟩; rw [HO.out]))
      go_ret
      have hB2' : Below w.heap.size w W2 := hB1.trans (hB2.mono hz1)
      exact ⟨rfl, hB2'.trans (hB3.mono hB2'.size)⟩

namespace fnMeet
open Go.ChangeShapes Go.WideShapes Go.ChangeAt Go.RowKit
open Go.ChangeMaps (open_string shut_string)
set_option linter.unusedVariables false
set_option maxRecDepth 100000 in
/-- the row's step: the arguments are opened, the walk is called, the arguments are shut -/
theorem lifted (os : Os) (started : os.Started) (H : Type) (enc : TypeId × Value → H) :
    ReturnsInHanded {} Try.checked os 3 .any (Rows.fnMeetSpec.pre6 enc Try.prog Try.f3 Rows.fnMeetRow.domain false) (Rows.fnMeetSpec.post enc Try.prog Try.f3 false true false false) := by
  refine returnsInHanded_of_change (C := Try.checked) own started (by kernel_rfl) Try.func3
    (ChangeSpec.witness6 (enc := enc) (C := Try.checked) false ⟨#[], #[.slice none 0 0], []⟩ 8 (by kernel_rfl) (by kernel_rfl) (by kernel_rfl) (by kernel_rfl)) ?_
  intro W base args ds gs before hval0 hW hcnd _
  have hval : ∀ (j : Nat) t v, Try.f3.params[j]? = some t → args[j]? = some v → Value.okWide Try.prog W .any base t v := hval0
  have hW' := hW
  obtain ⟨p, q, hA0, hV, rfl, hfz, hnd⟩ := hW
  have hA : DataW.TrodAll enc Try.prog W 0 (fun _ => true) true Try.f3.params.toList args.toList ds p := hA0
  rw [Try.params3] at hA hval
  obtain ⟨v0, vs0, d0, ds0, p0, q0, hargs, rfl, rfl, h0, r0⟩ := trodAll_cons hA
  obtain ⟨rfl, rfl, rfl⟩ := trodAll_nil r0
  obtain rfl : args = #[v0] := by cases args; simp_all
  obtain ⟨rfl, rfl⟩ := trodVars_none hV
  obtain ⟨a0, len0, cap0, rfl⟩ := okWide_slice Try.underlying22 (hval 0 22 v0 rfl rfl)
  have k0 := h0
  have lt0 : ∀ x ∈ p0, x.block < W.heap.size := by obtain ⟨m, hm⟩ := k0; exact DataW.trod_lt m _ _ _ hm
  obtain ⟨z0, w0⟩ : ∃ zs, IsRow .u8 W a0 len0 cap0 zs := by
    obtain ⟨fuel, hf⟩ := h0
    rcases open_ints Try.underlying22 Try.underlying5 (by kernel_rfl) hf with ⟨hcs, _⟩ | ⟨x, l, c, zs, hcs, _, hl, hm, hz, _, hcell, hwz⟩
    · simp [Value.cells] at hcs
      obtain ⟨rfl, rfl, rfl⟩ := hcs
      exact ⟨[], .inl ⟨rfl, rfl, rfl, rfl⟩⟩
    · simp [Value.cells] at hcs
      obtain ⟨rfl, rfl, rfl⟩ := hcs
      exact ⟨zs, .inr ⟨_, rfl, hl, hm, by simpa using hz, hcell, hwz⟩⟩
  clear hA0 hval0
  refine (fnMeet_walk a0 len0 cap0 z0 W w0).mono fun e W' ⟨he, bel⟩ => ?_
  subst he
  exact ⟨_, rfl, _, _, _, [], _, [], hW', trodAll_mk1 (shut_bool Try.underlying4 _), (trodAll_cons_mk (Below.trod laidOut (by kernel_rfl) (of_decide_eq_true (by kernel_rfl)) k0 bel lt0) trodAll_mk0), rfl, bel.frame _, fun h => by cases h⟩

theorem over : Rows.fnMeetRow.holds Try.pinned (OpenSpec.ofChange Rows.fnMeetSpec) :=
  OpenClaim.holds_of_wide 3 Try.f3 rfl rfl rfl rfl rfl rfl rfl ⟨rfl, rfl, rfl, rfl, rfl⟩ rfl rfl rfl rfl rfl (by kernel_rfl) Try.func3 (by kernel_rfl)
    (of_decide_eq_true (by kernel_rfl)) (by unfold Func.isWrapper; first | (rw [if_pos (by decide +kernel)]; kernel_rfl) | (rw [if_neg (by decide +kernel)]; exact ⟨rfl, rfl⟩))
    (fun os started H enc _ => lifted os started H enc)

/-- THE STATEMENT -/
theorem proved : Rows.FnMeetSaid := over
#print axioms proved
end fnMeet

end Go.Proofs.Ytfkdameegljkeaa
