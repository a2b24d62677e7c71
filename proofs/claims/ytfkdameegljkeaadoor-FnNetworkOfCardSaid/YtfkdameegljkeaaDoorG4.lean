/- Walks and plain facts, joined: F2 F5 F6 F7 Yk F8. -/
import Derived.Test.YtfkdameegljkeaaDoorProg
import Derived.WalkKit
import Derived.WalkSpells
import Derived.WalkLawsBesides
import Derived.Lib.Hide
import Derived.Deep.QuietTactic
import Derived.BigQuiet
import Derived.Test.YtfkdameegljkeaaDoorG3
import Derived.Test.YtfkdameegljkeaaDoorG2
import Derived.Laws.StructEq
import Derived.Great.BuildSlice
import Derived.BigFrame
import Derived.MapKept
import Derived.Test.YtfkdameegljkeaaDoorG1
/- Walks: the value of a formula, whether it is one, and its table (the reference's side). -/
namespace Go.Proofs.YtfkdameegljkeaaDoor
open Go.RowKit
set_option linter.unusedVariables false

theorem v01 {a : Nat} (h : a < 2) : a = 0 ∨ a = 1 := by omega
theorem sgn_and {a b : Nat} (ha : a < 2) (hb : b < 2) : bits .and .i64 (a : Int) (b : Int) = (sgn 38 a b : Int) := by
  rcases v01 ha with rfl | rfl <;> rcases v01 hb with rfl | rfl <;> decide
theorem sgn_or {a b : Nat} (ha : a < 2) (hb : b < 2) : bits .or .i64 (a : Int) (b : Int) = (sgn 124 a b : Int) := by
  rcases v01 ha with rfl | rfl <;> rcases v01 hb with rfl | rfl <;> decide
theorem sgn_xor {a b : Nat} (ha : a < 2) (hb : b < 2) : bits .xor .i64 (a : Int) (b : Int) = (sgn 94 a b : Int) := by
  rcases v01 ha with rfl | rfl <;> rcases v01 hb with rfl | rfl <;> decide
theorem sub01 {a : Nat} (ha : a < 2) : (1 : Int) - (a : Int) = ((1 - a : Nat) : Int) := by omega
/-- reading at a place, by its byte -/
theorem prs_at {n k j : Nat} {l : List UInt8} {p : Nd × List UInt8} (h : prs n k (l.drop j) = some p) : ∃ (m : Nat) (hj : j < l.length), k = m + 1 ∧ prs n (m + 1) (l[j] :: l.drop (j + 1)) = some p := by
  cases k with
  | zero => rw [prs] at h; cases h
  | succ m =>
    by_cases hj : j < l.length
    · exact ⟨m, hj, rfl, by rw [← List.drop_eq_getElem_cons hj]; exact h⟩
    · rw [List.drop_eq_nil_of_le (by omega), prs_nil] at h; cases h
/-- the five kinds of formulas -/
theorem prs_kind {n k : Nat} {c : UInt8} {r l : List UInt8} {x : Nd} (hn : n ≤ 5) (h : prs n (k + 1) (c :: r) = some (x, l)) :
    (((c.toNat : Int) = 48 ∨ (c.toNat : Int) = 49) ∧ x = .con (c.toNat - 48) ∧ l = r) ∨ ((97 ≤ (c.toNat : Int) ∧ (c.toNat : Int) - 97 < n) ∧ x = .inp (c.toNat - 97) ∧ l = r) ∨
    ((c.toNat : Int) = 33 ∧ ∃ a, prs n k r = some (a, l) ∧ x = .neg a) ∨
    (((c.toNat : Int) = 38 ∨ (c.toNat : Int) = 124 ∨ (c.toNat : Int) = 94) ∧ ∃ a m b, prs n k r = some (a, m) ∧ prs n k m = some (b, l) ∧ x = .par c a b) := by
  by_cases h1 : c = 48 ∨ c = 49
  · rw [prs_con h1] at h
    injection h with h
    injection h with h2 h3
    exact .inl ⟨by rcases h1 with rfl | rfl; exact .inl rfl; exact .inr rfl, h2.symm, h3.symm⟩
  · cases h2 : ltr n c with
    | true =>
      rw [prs_inp h1 h2] at h
      injection h with h
      injection h with h3 h4
      rw [ltr, Bool.and_eq_true, decide_eq_true_iff, decide_eq_true_iff] at h2
      exact .inr (.inl ⟨by omega, h3.symm, h4.symm⟩)
    | false =>
      by_cases h3 : c = 33
      · subst h3
        rw [prs_neg hn] at h
        obtain ⟨⟨a, m⟩, h4, h5⟩ := Option.map_eq_some_iff.1 h
        injection h5 with h6 h7
        exact .inr (.inr (.inl ⟨rfl, a, by rw [h4, ← h7], h6.symm⟩))
      · cases h4 : sg2 c with
        | true =>
          rw [prs_par h1 h2 h3 h4] at h
          obtain ⟨⟨a, m⟩, h5, h6⟩ := Option.bind_eq_some_iff.1 h
          obtain ⟨⟨b, m2⟩, h7, h8⟩ := Option.map_eq_some_iff.1 h6
          injection h8 with h9 h10
          exact .inr (.inr (.inr ⟨sg2_iff.1 h4, a, m, b, h5, by rw [show prs n k m = some (b, m2) from h7, ← h10], h9.symm⟩))
        | false => rw [prs_bad h1 h2 h3 h4] at h; cases h

set_option maxHeartbeats 1000000 in
set_option maxRecDepth 100000 in
theorem l2Value_any (e : ByteArray) (n s : Nat) (hn : n ≤ 5) (hs : s < 32) (he : e.size ≤ 100) (k : Nat) : ∀ (j : Nat) (x : Nd) (l : List UInt8) (w : World), prs n k (e.data.toList.drop j) = some (x, l) →
    Calls Tryd.prog 80 #[.string e, .int .i64 (j : Int), .int .i64 (s : Int)] w fun en w' => en = .returned (.tuple #[.int .i64 (evl s x : Int), .int .i64 ((e.size - l.length : Nat) : Int)]) ∧ w = w' := by
  have hel : e.data.toList.length = e.size := by simp
  induction k with
  | zero => intro j x l w h; rw [prs] at h; cases h
  | succ k ih =>
    intro j x l w h
    obtain ⟨m, hjl, hm, h'⟩ := prs_at h
    clear h
    obtain rfl : m = k := by omega
    have hj : j < e.size := by omega
    have ec : prs n (m + 1) (e[j] :: e.data.toList.drop (j + 1)) = some (x, l) := h'
    clear h'
    have h := ec
    have h256 : (e[j].toNat : Int) < 256 := by have := e[j].toNat_lt; omega
    have hdr : e.size - (e.data.toList.drop (j + 1)).length = j + 1 := by rw [List.length_drop]; omega
    rcases prs_kind hn h with ⟨hc, rfl, rfl⟩ | ⟨⟨hl1, hl2⟩, rfl, rfl⟩ | ⟨hc, a, ha, rfl⟩ | ⟨hc, a, m2, b, ha, hb, rfl⟩
    · rw [hdr]
      clear h ih hdr ec hel
      rcases hc with hc | hc
      · have HV : Hid ((evl s (.con (e[j].toNat - 48)) : Int) = 0) := Lib.hid (by
          show (((e[j].toNat - 48) % 2 : Nat) : Int) = _
          omega)
        go_enter Tryd.func80, Tryd.ntmps80
        go_wp2_with fail
        go_ret2
        exact ⟨by rw [HV.out]; rfl, rfl⟩
      · have HV : Hid ((evl s (.con (e[j].toNat - 48)) : Int) = 1) := Lib.hid (by
          show (((e[j].toNat - 48) % 2 : Nat) : Int) = _
          omega)
        go_enter Tryd.func80, Tryd.ntmps80
        go_wp2_with fail
        go_ret2
        exact ⟨by rw [HV.out]; rfl, rfl⟩
    · rw [hdr]
      have HC := l1Bit_any s (e[j].toNat - 97) w (by omega) (by omega)
      rw [show ((e[j].toNat - 97 : Nat) : Int) = (e[j].toNat : Int) - 97 by omega] at HC
      have HC2 := Lib.hid HC
      have hb48 : ((e[j].toNat : Int) == 48) = false := by simp; omega
      have hb49 : ((e[j].toNat : Int) == 49) = false := by simp; omega
      have hb33 : ((e[j].toNat : Int) == 33) = false := by simp; omega
      have hb38 : ((e[j].toNat : Int) == 38) = false := by simp; omega
      have hb124 : ((e[j].toNat : Int) == 124) = false := by simp; omega
      have hb94 : ((e[j].toNat : Int) == 94) = false := by simp; omega
      clear h ih hdr ec hel HC
      go_enter Tryd.func80, Tryd.ntmps80
      go_wp2_with (go_at_call 103; refine HC2.out.mono ?_; rintro en w1 ⟨rfl, rfl⟩)
      go_ret2
      exact ⟨rfl, rfl⟩
    · have IH := Lib.hid (ih (j + 1) a l w ha)
      have HE : Hid ((1 : Int) - (evl s a : Int) = (evl s (.neg a) : Int)) := Lib.hid (sub01 (evl_lt s a))
      have ha2 : (evl s a : Int) < 2 := by have := evl_lt s a; omega
      have hb48 : ((e[j].toNat : Int) == 48) = false := by simp; omega
      have hb49 : ((e[j].toNat : Int) == 49) = false := by simp; omega
      clear h ih hdr ec hel ha
      go_enter Tryd.func80, Tryd.ntmps80
      go_wp2_with (go_at_call 80; refine IH.out.mono ?_; rintro en w1 ⟨rfl, rfl⟩)
      go_ret2
      exact ⟨by rw [← HE.out]; rfl, rfl⟩
    · have hd := prs_drop ha
      rw [hel] at hd
      have IH := Lib.hid (ih (j + 1) a m2 w ha)
      have IH2 := Lib.hid (ih (e.size - m2.length) b l w (by rw [← hd.1]; exact hb))
      have ha2 := evl_lt s a
      have hb2 := evl_lt s b
      have hb48 : ((e[j].toNat : Int) == 48) = false := by simp; omega
      have hb49 : ((e[j].toNat : Int) == 49) = false := by simp; omega
      have hb33 : ((e[j].toNat : Int) == 33) = false := by simp; omega
      obtain ⟨x, HX⟩ : ∃ x : Nat, Hid (x = evl s a) := ⟨_, rfl⟩
      obtain ⟨y, HY⟩ : ∃ y : Nat, Hid (y = evl s b) := ⟨_, rfl⟩
      rw [← HX.out] at ha2 IH
      rw [← HY.out] at hb2 IH2
      clear h ih hdr ec hel ha hb hd
      rcases hc with hc | hc | hc
      · have hop := sgn_and ha2 hb2
        have HE : Hid (evl s (.par e[j] a b) = sgn 38 x y) := Lib.hid (by rw [HX.out, HY.out, evl, byte_eq (m := 38) hc (by omega)]; rfl)
        have hb124 : ((e[j].toNat : Int) == 124) = false := by simp; omega
        have hb94 : ((e[j].toNat : Int) == 94) = false := by simp; omega
        go_enter Tryd.func80, Tryd.ntmps80
        go_wp2_with (first
          | (have hn := hfst; go_at_call 80; refine IH2.out.mono ?_; rintro en w1 ⟨rfl, rfl⟩)
          | (go_at_call 80; refine IH.out.mono ?_; rintro en w1 ⟨rfl, rfl⟩; have hfst := True.intro))
        go_ret2
        exact ⟨by rw [HE.out]; rfl, rfl⟩
      · have hop := sgn_or ha2 hb2
        have HE : Hid (evl s (.par e[j] a b) = sgn 124 x y) := Lib.hid (by rw [HX.out, HY.out, evl, byte_eq (m := 124) hc (by omega)]; rfl)
        have hb38 : ((e[j].toNat : Int) == 38) = false := by simp; omega
        have hb94 : ((e[j].toNat : Int) == 94) = false := by simp; omega
        go_enter Tryd.func80, Tryd.ntmps80
        go_wp2_with (first
          | (have hn := hfst; go_at_call 80; refine IH2.out.mono ?_; rintro en w1 ⟨rfl, rfl⟩)
          | (go_at_call 80; refine IH.out.mono ?_; rintro en w1 ⟨rfl, rfl⟩; have hfst := True.intro))
        go_ret2
        exact ⟨by rw [HE.out]; rfl, rfl⟩
      · have hop := sgn_xor ha2 hb2
        have HE : Hid (evl s (.par e[j] a b) = sgn 94 x y) := Lib.hid (by rw [HX.out, HY.out, evl, byte_eq (m := 94) hc (by omega)]; rfl)
        have hb38 : ((e[j].toNat : Int) == 38) = false := by simp; omega
        have hb124 : ((e[j].toNat : Int) == 124) = false := by simp; omega
        go_enter Tryd.func80, Tryd.ntmps80
        go_wp2_with (first
          | (have hn := hfst; go_at_call 80; refine IH2.out.mono ?_; rintro en w1 ⟨rfl, rfl⟩)
          | (go_at_call 80; refine IH.out.mono ?_; rintro en w1 ⟨rfl, rfl⟩; have hfst := True.intro))
        go_ret2
        exact ⟨by rw [HE.out]; rfl, rfl⟩

theorem okF_isSome {l : List UInt8} {n : Nat} (h1 : 1 ≤ n) (h5 : n ≤ 5) (hl : l.length ≤ 100) : (okF l (n : Int)).isSome = decide (endZ n l.length l 0 = (l.length : Int)) := by
  rw [show (0 : Int) = ((0 : Nat) : Int) from rfl, endZ_nat, endI, List.drop_zero]
  cases hp : prs n l.length l with
  | none =>
    rw [okF_no (fun x h => by rw [hp] at h; cases h)]
    symm
    exact decide_eq_false (by show ¬ (-1 : Int) = _; omega)
  | some p =>
    obtain ⟨x, m⟩ := p
    cases m with
    | nil =>
      rw [okF_yes h1 h5 hl hp]
      symm
      exact decide_eq_true (by show ((l.length - 0 : Nat) : Int) = _; omega)
    | cons c m =>
      rw [okF_no (fun y h => by rw [hp] at h; cases h)]
      symm
      have := prs_len hp
      exact decide_eq_false (by show ¬ ((l.length - (m.length + 1) : Nat) : Int) = _; simp at this; omega)
theorem FormulaValid_any (e : ByteArray) (n : Nat) (w : World) (he : e.size ≤ 1000000) (hn : n ≤ 1000000) :
    Calls Tryd.prog 79 #[.string e, .int .i64 (n : Int)] w fun en w' => en = .returned (.bool (okF e.data.toList (n : Int)).isSome) ∧ w = w' := by
  have hel : e.data.toList.length = e.size := by simp
  by_cases hn2 : 1 ≤ n ∧ n ≤ 5
  · obtain ⟨h1, h5⟩ := hn2
    have hin : (decide ((1 : Int) ≤ (n : Int)) && decide ((n : Int) ≤ 5)) = true := by simp; omega
    by_cases hs : e.size ≤ 100
    · have HV := Lib.hid (okF_isSome (l := e.data.toList) h1 h5 (by omega))
      have HC := Lib.hid (l2End_any e n h5 hs e.size 0 w (.inr (by simp)))
      have HL := Lib.hid hel
      rw [hel] at HV
      clear hel
      obtain ⟨r, HR⟩ : ∃ r, Hid (r = endZ n e.size e.data.toList 0) := ⟨_, rfl⟩
      rw [← HR.out] at HV HC
      by_cases hr : r = (e.size : Int)
      · have HV2 : Hid ((okF e.data.toList (n : Int)).isSome = true) := Lib.hid (by rw [HV.out]; exact decide_eq_true hr)
        have hr2 : (r == (e.size : Int)) = true := by simp [hr]
        clear hr
        go_enter Tryd.func79, Tryd.ntmps79
        go_wp2_with (first
          | (go_at_call 91; refine (l1In_any _ _ _ _).mono ?_; rintro en w2 ⟨rfl, rfl⟩; rw [hin])
          | (go_at_call 102; refine HC.out.mono ?_; rintro en w2 ⟨rfl, rfl⟩))
        go_ret
        exact ⟨by rw [HV2.out]; first | rfl | simp, rfl⟩
      · have HV2 : Hid ((okF e.data.toList (n : Int)).isSome = false) := Lib.hid (by rw [HV.out]; exact decide_eq_false hr)
        have hr2 : (r == (e.size : Int)) = false := by simpa using hr
        clear hr
        go_enter Tryd.func79, Tryd.ntmps79
        go_wp2_with (first
          | (go_at_call 91; refine (l1In_any _ _ _ _).mono ?_; rintro en w2 ⟨rfl, rfl⟩; rw [hin])
          | (go_at_call 102; refine HC.out.mono ?_; rintro en w2 ⟨rfl, rfl⟩))
        go_ret
        exact ⟨by rw [HV2.out]; first | rfl | simp, rfl⟩
    · have HV : Hid ((okF e.data.toList (n : Int)).isSome = false) := Lib.hid (by rw [okF_out (by omega)]; rfl)
      clear hel
      go_enter Tryd.func79, Tryd.ntmps79
      go_wp2_with (go_at_call 91; refine (l1In_any _ _ _ _).mono ?_; rintro en w2 ⟨rfl, rfl⟩; rw [hin])
      go_ret
      exact ⟨by rw [HV.out]; first | rfl | simp, rfl⟩
  · have hin : (decide ((1 : Int) ≤ (n : Int)) && decide ((n : Int) ≤ 5)) = false := by
      rw [Bool.and_eq_false_iff, decide_eq_false_iff_not, decide_eq_false_iff_not]; omega
    have HV : Hid ((okF e.data.toList (n : Int)).isSome = false) := Lib.hid (by rw [okF_out (by omega)]; rfl)
    clear hel hn2
    go_enter Tryd.func79, Tryd.ntmps79
    go_wp2_with (go_at_call 91; refine (l1In_any _ _ _ _).mono ?_; rintro en w2 ⟨rfl, rfl⟩; rw [hin])
    go_ret
    exact ⟨by rw [HV.out]; first | rfl | simp, rfl⟩

/-- the first values of a formula -/
def evlL (x : Nd) (s : Nat) : List Nat := (List.range s).map fun t => evl t x
theorem evlL_length (x : Nd) (s : Nat) : (evlL x s).length = s := by simp [evlL]
theorem evlL_succ (x : Nd) (s : Nat) : evlL x (s + 1) = evlL x s ++ [evl s x] := by simp [evlL, List.range_succ]
theorem evlL_lt (x : Nd) (s : Nat) : ∀ v ∈ evlL x s, v < 2 := fun v hv => by
  obtain ⟨t, _, rfl⟩ := List.mem_map.1 hv
  exact evl_lt t x
theorem evlL_txt (x : Nd) (s : Nat) : chrs (evlL x s) = txt s fun t => evl t x := by simp [chrs, evlL, txt]
set_option maxHeartbeats 1000000 in
theorem sTableOf_any (e : ByteArray) (n : Nat) (w : World) (he : e.size ≤ 1000000) (hn : n ≤ 1000000) :
    Calls Tryd.prog 48 #[.string e, .int .i64 (n : Int)] w fun en w' => en = .returned (txtV (tblF e.data.toList (n : Int)) (okF e.data.toList (n : Int)).isSome) ∧ Below w.heap.size w w' := by
  have hBe : Below w.heap.size w (w.alloc (.cells #[] 3)) := (Below.refl _ _).alloc (Nat.le_refl _) _
  have hE := OI.empty w w.heap.size 3 (Nat.le_refl _)
  have HC := Lib.hid (FormulaValid_any e n (w.alloc (.cells #[] 3)) he hn)
  cases ho : okF e.data.toList (n : Int) with
  | none =>
    rw [ho] at HC
    have HV := Lib.hid (tblF_no ho)
    clear ho
    go_enter Tryd.func48, Tryd.ntmps48
    go_wp2_with (go_at_call 79; refine HC.out.mono ?_; rintro en w2 ⟨rfl, rfl⟩)
    go_ret2
    exact ⟨by rw [HV.out]; rfl, hBe⟩
  | some x =>
    rw [ho] at HC
    obtain ⟨⟨h1, h5, h100⟩, hp⟩ := okF_some ho
    have h100' : e.size ≤ 100 := by simpa using h100
    have h5' : n ≤ 5 := by omega
    obtain ⟨N, HN, hNw, hN32, hN0⟩ := wrap_two n h5'
    have HV : Hid (tblF e.data.toList (n : Int) = txt N fun s => evl s x) := Lib.hid (by rw [tblF_yes ho, HN.out])
    rw [Int.toNat_natCast] at hp
    have HVal := Lib.hid (fun (s : Nat) (hs : s < 32) (W : World) => l2Value_any e n s h5' hs h100' e.data.toList.length 0 x [] W (by rw [List.drop_zero]; exact hp))
    clear ho hp h100
    go_enter Tryd.func48, Tryd.ntmps48
    go_wp2_with (go_at_call 79; refine HC.out.mono ?_; rintro en w2 ⟨rfl, rfl⟩)
    go_loopw [6, 7] (fun v i wr => ∃ s : Nat, s ≤ N ∧ i = .int .i64 s ∧ Hid (OI wr w.heap.size 3 v (ints (evlL x s))) ∧ Below w.heap.size w wr) (fun _ i _ => N - (intOf i).toNat)
    case atStart => exact ⟨0, Nat.zero_le _, rfl, Lib.hid hE, hBe⟩
    case round =>
      obtain ⟨s, hs, rfl, HO, hB⟩ := hrel
      have hsz := hB.size
      have hvl : (ints (evlL x s)).length ≤ 32 := by rw [ints_length, evlL_length]; omega
      by_cases hlt : s < N
      · have HS := Lib.hid (evlL_succ x s)
        have hs32 : s < 32 := by omega
        go_wp2_with (first
          | (go_at_call 80; refine (HVal.out s hs32 _).mono ?_; rintro en w5 ⟨rfl, rfl⟩)
          | (at_builtin; refine wp_pushI rfl _ _ _ rfl Tryd.underlying25 info_int HO.out rfl rfl (by omega) (by omega) ?_; intro v' w7 hown hbel hsz7))
        go_roundw
        case rel => exact ⟨s + 1, by omega, by go_num, Lib.hid (by rw [HS.out, ints_snoc]; exact hown), hB.trans (hbel _ (Nat.le_refl _))⟩
        case measure => simp [intOf]; omega
      · have hkn : s = N := by omega
        subst hkn
        obtain ⟨A', c', rfl, hc', hO'⟩ := HO.out.form
        have HT := Lib.hid (l1Text_ints A' c' (evlL x s) wr hO'.rd (evlL_lt x s) (by rw [evlL_length]; omega))
        rw [evlL_txt] at HT
        clear hO'
        go_wp2_with (go_at_call 81; refine HT.out.mono ?_; rintro en w5 ⟨rfl, n5, rfl⟩)
        go_ret2
        exact ⟨by rw [HV.out]; rfl, hB.trans (drewN_below _ _)⟩

end Go.Proofs.YtfkdameegljkeaaDoor

/- Walks: reading a formula (the program's side). -/
namespace Go.Proofs.YtfkdameegljkeaaDoor
open Go.RowKit
set_option linter.unusedVariables false

/-- what reading a formula hands back -/
def PrsP (o : Option (Nd × List UInt8)) (e : Ending) : Prop :=
  ∃ (v : Value) (l : ByteArray), e = .returned (.tuple #[v, .string l, .bool o.isSome]) ∧ (v = .nilIface ∨ ∃ t u, v = .iface t u) ∧ ∀ x m, o = some (x, m) → v = ndV x ∧ l = ⟨m.toArray⟩
theorem PrsP.no {o : Option (Nd × List UInt8)} {v : Value} {l : ByteArray} (h : o = none) (hv : v = .nilIface ∨ ∃ t u, v = .iface t u) : PrsP o (.returned (.tuple #[v, .string l, .bool false])) := by
  subst h
  exact ⟨v, l, rfl, hv, fun x m h => by cases h⟩
theorem PrsP.yes {o : Option (Nd × List UInt8)} {x : Nd} {m : List UInt8} {v : Value} {l : ByteArray} (h : o = some (x, m)) (hv : v = ndV x) (hl : l = ⟨m.toArray⟩) : PrsP o (.returned (.tuple #[v, .string l, .bool true])) := by
  subst h
  refine ⟨v, l, rfl, ?_, fun y p h => ?_⟩
  · obtain ⟨t, u, hx⟩ := ndV_form x
    exact .inr ⟨t, u, by rw [hv, hx]⟩
  · injection h with h
    injection h with h1 h2
    subst h1; subst h2
    exact ⟨hv, hl⟩
theorem tail_list (e : ByteArray) : (e.extract 1 e.size).data.toList = e.data.toList.drop 1 := by
  simp only [ByteArray.data_extract, Array.toList_extract, List.extract_eq_take_drop]
  exact List.take_of_length_le (by simp)
theorem tail_size (e : ByteArray) : (e.extract 1 e.size).size = e.size - 1 := by simp [ByteArray.size_extract]
theorem tail_eta (e : ByteArray) : e.extract 1 e.size = ⟨(e.data.toList.drop 1).toArray⟩ := by
  rw [← tail_list]
theorem emp_of {e : ByteArray} (h : e.size = 0) : e = ⟨#[]⟩ := by
  apply ByteArray.ext
  exact Array.eq_empty_of_size_eq_zero h
theorem ne_emp {e : ByteArray} (h : 0 < e.size) : (e.toList == (⟨#[]⟩ : ByteArray).toList) = false := by
  rw [← beq_toListBytes, ← Bool.not_eq_true, MapKept.bytes_beq]
  intro x; subst x
  exact absurd h (by decide)
set_option maxHeartbeats 2000000 in
set_option maxRecDepth 100000 in
theorem parseNode_any (n : Nat) (hn : n ≤ 5) (k : Nat) : ∀ (e : ByteArray) (w : World), e.size ≤ k → e.size ≤ 100 →
    Calls Tryd.prog 82 #[.string e, .int .i64 (n : Int)] w fun en w' => PrsP (prs n k e.data.toList) en ∧ ∃ m, w.drewN m = w' := by
  induction k with
  | zero =>
    intro e w hk h100
    obtain rfl := emp_of (e := e) (by omega)
    go_enter Tryd.func82, Tryd.ntmps82
    go_wp2_with fail
    go_ret3
    exact ⟨PrsP.no (prs_nil _ _) (.inl rfl), 0, rfl⟩
  | succ k ih =>
    intro e w hk h100
    by_cases h0 : e.size = 0
    · obtain rfl := emp_of h0
      clear ih
      go_enter Tryd.func82, Tryd.ntmps82
      go_wp2_with fail
      go_ret3
      exact ⟨PrsP.no (prs_nil _ _) (.inl rfl), 0, rfl⟩
    · have hpos : 0 < e.size := by omega
      have hne : e.toList.isEmpty = false := by have := ne_emp hpos; simpa using this
      have hpl : 0 < e.data.toList.length := by simpa using hpos
      have hel : e.data.toList = e[0]'hpos :: e.data.toList.drop 1 := by
        have := List.drop_eq_getElem_cons hpl
        rwa [List.drop_zero] at this
      obtain ⟨r, HR⟩ : ∃ r, Hid (r = e.data.toList.drop 1) := ⟨_, rfl⟩
      have HT : Hid (e.extract 1 e.size = ⟨r.toArray⟩) := Lib.hid (by rw [HR.out]; exact tail_eta e)
      rw [← HR.out] at hel
      have hrl : r.length ≤ k := by rw [HR.out, List.length_drop]; simp; omega
      have hrl2 : r.length ≤ 100 := by rw [HR.out, List.length_drop]; simp; omega
      have IH := fun (l : List UInt8) (h1 : l.length ≤ k) (h2 : l.length ≤ 100) (W : World) => ih ⟨l.toArray⟩ W (by simpa [ByteArray.size] using h1) (by simpa [ByteArray.size] using h2)
      simp only at IH
      have HI := Lib.hid IH
      clear ih IH h0
      rw [hel]
      have h256 : ((e[0]'hpos).toNat : Int) < 256 := by have := (e[0]'hpos).toNat_lt; omega
      have hsz1 : (1 : Int) ≤ (e.size : Int) := by omega
      have hsz0 : (0 : Int) < (e.size : Int) := by omega
      have P1 := @prs_con n k (e[0]'hpos) r
      have P2 := @prs_inp n k (e[0]'hpos) r
      have P4 := @prs_par n k (e[0]'hpos) r
      have P5 := @prs_bad n k (e[0]'hpos) r
      have P3 : e[0]'hpos = 33 → prs n (k + 1) (e[0]'hpos :: r) = (prs n k r).map fun p => (.neg p.1, p.2) := fun h => by rw [h]; exact prs_neg hn
      clear hel hpl HR hk h100
      by_cases h48 : ((e[0]'hpos).toNat : Int) = 48
      · have HV := Lib.hid (P1 (.inl (byte_eq (m := 48) h48 (by omega))))
        have HN : Hid (Value.iface 113 (.agg #[.int .u8 0]) = ndV (.con ((e[0]'hpos).toNat - 48))) := Lib.hid (by rw [show (e[0]'hpos).toNat - 48 = 0 by omega]; rfl)
        clear P1 P2 P3 P4 P5 HI hrl hrl2
        go_enter Tryd.func82, Tryd.ntmps82
        go_wp2_with fail
        go_quiet (fail)
        go_wp2_with fail
        go_ret3
        exact ⟨PrsP.yes HV.out HN.out HT.out, _, rfl⟩
      · by_cases h49 : ((e[0]'hpos).toNat : Int) = 49
        · have HV := Lib.hid (P1 (.inr (byte_eq (m := 49) h49 (by omega))))
          have HN : Hid (Value.iface 113 (.agg #[.int .u8 1]) = ndV (.con ((e[0]'hpos).toNat - 48))) := Lib.hid (by rw [show (e[0]'hpos).toNat - 48 = 1 by omega]; rfl)
          clear P1 P2 P3 P4 P5 HI hrl hrl2
          go_enter Tryd.func82, Tryd.ntmps82
          go_wp2_with fail
          go_quiet (fail)
          go_wp2_with fail
          go_ret3
          exact ⟨PrsP.yes HV.out HN.out HT.out, _, rfl⟩
        · have hnc : ¬ (e[0]'hpos = 48 ∨ e[0]'hpos = 49) := by
            rintro (h | h)
            · exact h48 (by rw [h]; rfl)
            · exact h49 (by rw [h]; rfl)
          have hb48 : (((e[0]'hpos).toNat : Int) == 48) = false := by simpa using h48
          have hb49 : (((e[0]'hpos).toNat : Int) == 49) = false := by simpa using h49
          clear h48 h49 P1
          by_cases hl : 97 ≤ ((e[0]'hpos).toNat : Int) ∧ ((e[0]'hpos).toNat : Int) - 97 < n
          · obtain ⟨hl1, hl2⟩ := hl
            have HV := Lib.hid (P2 hnc (ltr_true hl1 hl2))
            have HN : Hid (Value.iface 115 (.agg #[.int .i64 (((e[0]'hpos).toNat : Int) - 97)]) = ndV (.inp ((e[0]'hpos).toNat - 97))) := Lib.hid (by
              show _ = Value.iface _ (.agg #[.int .i64 (((e[0]'hpos).toNat - 97 : Nat) : Int)])
              rw [show (((e[0]'hpos).toNat - 97 : Nat) : Int) = ((e[0]'hpos).toNat : Int) - 97 by omega])
            clear P2 P3 P4 P5 HI hrl hrl2 hnc
            go_enter Tryd.func82, Tryd.ntmps82
            go_wp2_with fail
            go_quiet (fail)
            go_wp2_with fail
            go_ret3
            exact ⟨PrsP.yes HV.out HN.out HT.out, _, rfl⟩
          · have hlf := ltr_false hl
            clear P2
            by_cases h33 : ((e[0]'hpos).toNat : Int) = 33
            · have hP := P3 (byte_eq (m := 33) h33 (by omega))
              have hng : ¬ 97 ≤ ((e[0]'hpos).toNat : Int) := by omega
              have hb97 : decide ((97 : Int) ≤ ((e[0]'hpos).toNat : Int)) = false := decide_eq_false hng
              clear P3 P4 P5 hnc hlf hl
              go_enter Tryd.func82, Tryd.ntmps82
              go_wp2_with fail
              go_quiet (fail)
              rw [HT.out]
              go_wp2_with fail
              refine (HI.out r hrl hrl2 _).mono ?_
              rintro en w2 ⟨⟨v, l, rfl, hv, hq⟩, m2, rfl⟩
              cases hpr : prs n k r with
              | none =>
                have HV : Hid (prs n (k + 1) (e[0]'hpos :: r) = none) := Lib.hid (by rw [hP, hpr]; rfl)
                clear hq hP hpr
                rcases hv with rfl | ⟨t, u, rfl⟩
                · go_wp2_with fail
                  go_ret3
                  exact ⟨PrsP.no HV.out (.inr ⟨_, _, rfl⟩), _, rfl⟩
                · go_wp2_with fail
                  go_ret3
                  exact ⟨PrsP.no HV.out (.inr ⟨_, _, rfl⟩), _, rfl⟩
              | some p =>
                obtain ⟨x, m⟩ := p
                obtain ⟨rfl, rfl⟩ := hq x m hpr
                have HV : Hid (prs n (k + 1) (e[0]'hpos :: r) = some (.neg x, m)) := Lib.hid (by rw [hP, hpr]; rfl)
                obtain ⟨t, u, htu⟩ := ndV_form x
                have HN : Hid (Value.iface 117 (.agg #[.iface t u]) = ndV (.neg x)) := Lib.hid (by rw [ndV, htu])
                rw [htu]
                clear hq hP hpr hv htu
                go_wp2_with fail
                go_ret3
                exact ⟨PrsP.yes HV.out HN.out rfl, _, rfl⟩
            · have h33' : ¬ e[0]'hpos = 33 := fun h => h33 (by rw [h]; rfl)
              have hb33 : (((e[0]'hpos).toNat : Int) == 33) = false := by simpa using h33
              clear P3 h33
              cases hs : sg2 (e[0]'hpos) with
              | true =>
                have hP := P4 hnc hlf h33' hs
                have hcs := sg2_iff.1 hs
                have hng : ¬ (97 ≤ ((e[0]'hpos).toNat : Int) ∧ ((e[0]'hpos).toNat : Int) - 97 < n) := hl
                obtain ⟨P, HP⟩ : ∃ P : Option (Nd × List UInt8), Hid (P = prs n (k + 1) (e[0]'hpos :: r)) := ⟨_, rfl⟩
                rw [← HP.out] at hP ⊢
                clear P4 P5 hnc hlf hl hs h33'
                rcases hcs with hc | hc | hc
                · have hx : e[0]'hpos = 38 := byte_eq (m := 38) hc (by omega)
                  have HXV : Hid (((e[0]'hpos).toNat : Int) = 38) := Lib.hid hc
                  have hl1 : ¬ 97 ≤ ((e[0]'hpos).toNat : Int) := by omega
                  clear hng
                  go_enter Tryd.func82, Tryd.ntmps82
                  go_wp2_with fail
                  go_quiet (fail)
                  rw [HT.out]
                  go_wp2_with fail
                  refine (HI.out r hrl hrl2 _).mono ?_
                  rintro en w2 ⟨⟨v, l, rfl, hv, hq⟩, m2, rfl⟩
                  cases hpr : prs n k r with
                  | none =>
                    have HV : Hid (P = none) := Lib.hid (by rw [hP, hpr]; rfl)
                    clear hq hP hpr hv
                    go_wp2_with fail
                    go_ret3
                    exact ⟨PrsP.no HV.out (.inl rfl), _, rfl⟩
                  | some p =>
                    obtain ⟨x, m⟩ := p
                    obtain ⟨rfl, rfl⟩ := hq x m hpr
                    have hml := prs_len hpr
                    have hml1 : m.length ≤ k := by omega
                    have hml2 : m.length ≤ 100 := by omega
                    clear hq hv hml
                    go_wp2_with fail
                    refine (HI.out m hml1 hml2 _).mono ?_
                    rintro en w3 ⟨⟨v, l, rfl, hv, hq⟩, m3, rfl⟩
                    obtain ⟨t, u, htu⟩ := ndV_form x
                    cases hpm : prs n k m with
                    | none =>
                      have HV : Hid (P = none) := Lib.hid (by
                        rw [hP, hpr]
                        show (prs n k m).map _ = none
                        rw [hpm]; rfl)
                      rw [htu]
                      clear hq hP hpr hpm htu
                      rcases hv with rfl | ⟨t2, u2, rfl⟩
                      · go_wp2_with fail
                        go_ret3
                        exact ⟨PrsP.no HV.out (.inr ⟨_, _, rfl⟩), _, rfl⟩
                      · go_wp2_with fail
                        go_ret3
                        exact ⟨PrsP.no HV.out (.inr ⟨_, _, rfl⟩), _, rfl⟩
                    | some p2 =>
                      obtain ⟨y, m4⟩ := p2
                      obtain ⟨rfl, rfl⟩ := hq y m4 hpm
                      have HV : Hid (P = some (.par (e[0]'hpos) x y, m4)) := Lib.hid (by
                        rw [hP, hpr]
                        show (prs n k m).map _ = _
                        rw [hpm]; rfl)
                      obtain ⟨t2, u2, htu2⟩ := ndV_form y
                      have HN : Hid (Value.iface 119 (.agg #[.int .u8 38, .iface t u, .iface t2 u2]) = ndV (.par (e[0]'hpos) x y)) := Lib.hid (by rw [ndV, htu, htu2, hc])
                      rw [htu, htu2]
                      clear hq hP hpr hpm htu htu2 hv hx
                      go_wp2_with fail
                      go_ret3
                      exact ⟨PrsP.yes HV.out HN.out rfl, _, rfl⟩
                · have hx : e[0]'hpos = 124 := byte_eq (m := 124) hc (by omega)
                  have HXV : Hid (((e[0]'hpos).toNat : Int) = 124) := Lib.hid hc
                  have hl2 : ¬ ((e[0]'hpos).toNat : Int) - 97 < n := by omega
                  clear hng
                  go_enter Tryd.func82, Tryd.ntmps82
                  go_wp2_with fail
                  go_quiet (fail)
                  rw [HT.out]
                  go_wp2_with fail
                  refine (HI.out r hrl hrl2 _).mono ?_
                  rintro en w2 ⟨⟨v, l, rfl, hv, hq⟩, m2, rfl⟩
                  cases hpr : prs n k r with
                  | none =>
                    have HV : Hid (P = none) := Lib.hid (by rw [hP, hpr]; rfl)
                    clear hq hP hpr hv
                    go_wp2_with fail
                    go_ret3
                    exact ⟨PrsP.no HV.out (.inl rfl), _, rfl⟩
                  | some p =>
                    obtain ⟨x, m⟩ := p
                    obtain ⟨rfl, rfl⟩ := hq x m hpr
                    have hml := prs_len hpr
                    have hml1 : m.length ≤ k := by omega
                    have hml2 : m.length ≤ 100 := by omega
                    clear hq hv hml
                    go_wp2_with fail
                    refine (HI.out m hml1 hml2 _).mono ?_
                    rintro en w3 ⟨⟨v, l, rfl, hv, hq⟩, m3, rfl⟩
                    obtain ⟨t, u, htu⟩ := ndV_form x
                    cases hpm : prs n k m with
                    | none =>
                      have HV : Hid (P = none) := Lib.hid (by
                        rw [hP, hpr]
                        show (prs n k m).map _ = none
                        rw [hpm]; rfl)
                      rw [htu]
                      clear hq hP hpr hpm htu
                      rcases hv with rfl | ⟨t2, u2, rfl⟩
                      · go_wp2_with fail
                        go_ret3
                        exact ⟨PrsP.no HV.out (.inr ⟨_, _, rfl⟩), _, rfl⟩
                      · go_wp2_with fail
                        go_ret3
                        exact ⟨PrsP.no HV.out (.inr ⟨_, _, rfl⟩), _, rfl⟩
                    | some p2 =>
                      obtain ⟨y, m4⟩ := p2
                      obtain ⟨rfl, rfl⟩ := hq y m4 hpm
                      have HV : Hid (P = some (.par (e[0]'hpos) x y, m4)) := Lib.hid (by
                        rw [hP, hpr]
                        show (prs n k m).map _ = _
                        rw [hpm]; rfl)
                      obtain ⟨t2, u2, htu2⟩ := ndV_form y
                      have HN : Hid (Value.iface 119 (.agg #[.int .u8 124, .iface t u, .iface t2 u2]) = ndV (.par (e[0]'hpos) x y)) := Lib.hid (by rw [ndV, htu, htu2, hc])
                      rw [htu, htu2]
                      clear hq hP hpr hpm htu htu2 hv hx
                      go_wp2_with fail
                      go_ret3
                      exact ⟨PrsP.yes HV.out HN.out rfl, _, rfl⟩
                · have hx : e[0]'hpos = 94 := byte_eq (m := 94) hc (by omega)
                  have HXV : Hid (((e[0]'hpos).toNat : Int) = 94) := Lib.hid hc
                  have hl1 : ¬ 97 ≤ ((e[0]'hpos).toNat : Int) := by omega
                  clear hng
                  go_enter Tryd.func82, Tryd.ntmps82
                  go_wp2_with fail
                  go_quiet (fail)
                  rw [HT.out]
                  go_wp2_with fail
                  refine (HI.out r hrl hrl2 _).mono ?_
                  rintro en w2 ⟨⟨v, l, rfl, hv, hq⟩, m2, rfl⟩
                  cases hpr : prs n k r with
                  | none =>
                    have HV : Hid (P = none) := Lib.hid (by rw [hP, hpr]; rfl)
                    clear hq hP hpr hv
                    go_wp2_with fail
                    go_ret3
                    exact ⟨PrsP.no HV.out (.inl rfl), _, rfl⟩
                  | some p =>
                    obtain ⟨x, m⟩ := p
                    obtain ⟨rfl, rfl⟩ := hq x m hpr
                    have hml := prs_len hpr
                    have hml1 : m.length ≤ k := by omega
                    have hml2 : m.length ≤ 100 := by omega
                    clear hq hv hml
                    go_wp2_with fail
                    refine (HI.out m hml1 hml2 _).mono ?_
                    rintro en w3 ⟨⟨v, l, rfl, hv, hq⟩, m3, rfl⟩
                    obtain ⟨t, u, htu⟩ := ndV_form x
                    cases hpm : prs n k m with
                    | none =>
                      have HV : Hid (P = none) := Lib.hid (by
                        rw [hP, hpr]
                        show (prs n k m).map _ = none
                        rw [hpm]; rfl)
                      rw [htu]
                      clear hq hP hpr hpm htu
                      rcases hv with rfl | ⟨t2, u2, rfl⟩
                      · go_wp2_with fail
                        go_ret3
                        exact ⟨PrsP.no HV.out (.inr ⟨_, _, rfl⟩), _, rfl⟩
                      · go_wp2_with fail
                        go_ret3
                        exact ⟨PrsP.no HV.out (.inr ⟨_, _, rfl⟩), _, rfl⟩
                    | some p2 =>
                      obtain ⟨y, m4⟩ := p2
                      obtain ⟨rfl, rfl⟩ := hq y m4 hpm
                      have HV : Hid (P = some (.par (e[0]'hpos) x y, m4)) := Lib.hid (by
                        rw [hP, hpr]
                        show (prs n k m).map _ = _
                        rw [hpm]; rfl)
                      obtain ⟨t2, u2, htu2⟩ := ndV_form y
                      have HN : Hid (Value.iface 119 (.agg #[.int .u8 94, .iface t u, .iface t2 u2]) = ndV (.par (e[0]'hpos) x y)) := Lib.hid (by rw [ndV, htu, htu2, hc])
                      rw [htu, htu2]
                      clear hq hP hpr hpm htu htu2 hv hx
                      go_wp2_with fail
                      go_ret3
                      exact ⟨PrsP.yes HV.out HN.out rfl, _, rfl⟩
              | false =>
                have HV := Lib.hid (P5 hnc hlf h33' hs)
                have hnot : ¬ (((e[0]'hpos).toNat : Int) = 38 ∨ ((e[0]'hpos).toNat : Int) = 124 ∨ ((e[0]'hpos).toNat : Int) = 94) := fun h => by rw [sg2_iff.2 h] at hs; cases hs
                have hb38 : (((e[0]'hpos).toNat : Int) == 38) = false := by simp; omega
                have hb124 : (((e[0]'hpos).toNat : Int) == 124) = false := by simp; omega
                have hb94 : (((e[0]'hpos).toNat : Int) == 94) = false := by simp; omega
                clear P4 P5 hnc hlf hs h33' hnot HI
                by_cases hl1 : 97 ≤ ((e[0]'hpos).toNat : Int)
                · have hl2 : ¬ ((e[0]'hpos).toNat : Int) - 97 < n := fun h => hl ⟨hl1, h⟩
                  clear hl
                  go_enter Tryd.func82, Tryd.ntmps82
                  go_wp2_with fail
                  go_quiet (fail)
                  go_wp2_with fail
                  go_ret3
                  exact ⟨PrsP.no HV.out (.inl rfl), _, rfl⟩
                · clear hl
                  go_enter Tryd.func82, Tryd.ntmps82
                  go_wp2_with fail
                  go_quiet (fail)
                  go_wp2_with fail
                  go_ret3
                  exact ⟨PrsP.no HV.out (.inl rfl), _, rfl⟩

end Go.Proofs.YtfkdameegljkeaaDoor

/- Walks: a formula's table (the program's side), networks of formulas (both sides). -/
namespace Go.Proofs.YtfkdameegljkeaaDoor
open Go.RowKit
set_option linter.unusedVariables false

/-- what reading a whole formula hands back -/
def PrfP (o : Option Nd) (e : Ending) : Prop :=
  ∃ v : Value, e = .returned (.tuple #[v, .bool o.isSome]) ∧ (v = .nilIface ∨ ∃ t u, v = .iface t u) ∧ ∀ x, o = some x → v = ndV x
theorem PrfP.no {o : Option Nd} {v : Value} (h : o = none) (hv : v = .nilIface ∨ ∃ t u, v = .iface t u) : PrfP o (.returned (.tuple #[v, .bool false])) := by
  subst h
  exact ⟨v, rfl, hv, fun x h => by cases h⟩
theorem PrfP.yes {o : Option Nd} {x : Nd} {v : Value} (h : o = some x) (hv : v = ndV x) : PrfP o (.returned (.tuple #[v, .bool true])) := by
  subst h
  refine ⟨v, rfl, ?_, fun y h => ?_⟩
  · obtain ⟨t, u, hx⟩ := ndV_form x
    exact .inr ⟨t, u, by rw [hv, hx]⟩
  · injection h with h
    subst h
    exact hv
set_option maxHeartbeats 1000000 in
theorem parse_any (e : ByteArray) (n : Nat) (w : World) (he : e.size ≤ 1000000) (hn : n ≤ 1000000) :
    Calls Tryd.prog 50 #[.string e, .int .i64 (n : Int)] w fun en w' => PrfP (okF e.data.toList (n : Int)) en ∧ ∃ m, w.drewN m = w' := by
  have hel : e.data.toList.length = e.size := by simp
  by_cases h100 : e.size ≤ 100
  · by_cases h1 : 1 ≤ n
    · by_cases h5 : n ≤ 5
      · have HC := Lib.hid (parseNode_any n h5 e.size e w (Nat.le_refl _) h100)
        have HY := fun x h => okF_yes (e := e.data.toList) (x := x) h1 h5 (by omega) h
        have HN := fun h => okF_no (e := e.data.toList) (n := n) h
        rw [hel] at HY HN
        go_enter Tryd.func50, Tryd.ntmps50
        go_wp2_with fail
        refine HC.out.mono ?_
        rintro en w2 ⟨⟨v, l, rfl, hv, hq⟩, m2, rfl⟩
        cases hp : prs n e.size e.data.toList with
        | none =>
          have HV := Lib.hid (HN fun x h => by rw [hp] at h; cases h)
          clear HY HN hq hp
          rcases hv with rfl | ⟨t, u, rfl⟩
          · go_wp2_with fail
            go_ret2
            exact ⟨PrfP.no HV.out (.inl rfl), _, rfl⟩
          · go_wp2_with fail
            go_ret2
            exact ⟨PrfP.no HV.out (.inr ⟨_, _, rfl⟩), _, rfl⟩
        | some p =>
          obtain ⟨x, m⟩ := p
          obtain ⟨rfl, rfl⟩ := hq x m hp
          obtain ⟨t, u, htu⟩ := ndV_form x
          cases m with
          | nil =>
            have HV := Lib.hid (HY x hp)
            have HT := Lib.hid htu.symm
            rw [htu]
            clear HY HN hq hp hv htu
            go_wp2_with fail
            go_ret2
            exact ⟨PrfP.yes HV.out HT.out, _, rfl⟩
          | cons c m =>
            have HV := Lib.hid (HN fun x h => by rw [hp] at h; cases h)
            have hle : (⟨(c :: m).toArray⟩ : ByteArray).toList.isEmpty = false := by simp
            obtain ⟨L, HL⟩ : ∃ L : ByteArray, Hid (L = ⟨(c :: m).toArray⟩) := ⟨_, rfl⟩
            rw [← HL.out] at hle ⊢
            rw [htu]
            clear HY HN hq hp hv htu
            go_wp2_with fail
            go_ret2
            exact ⟨PrfP.no HV.out (.inr ⟨_, _, rfl⟩), _, rfl⟩
      · have HV := Lib.hid (okF_out (e := e.data.toList) (n := (n : Int)) (by omega))
        clear hel
        go_enter Tryd.func50, Tryd.ntmps50
        go_wp2_with fail
        go_ret2
        exact ⟨PrfP.no HV.out (.inl rfl), 0, rfl⟩
    · have HV := Lib.hid (okF_out (e := e.data.toList) (n := (n : Int)) (by omega))
      clear hel
      go_enter Tryd.func50, Tryd.ntmps50
      go_wp2_with fail
      go_ret2
      exact ⟨PrfP.no HV.out (.inl rfl), 0, rfl⟩
  · have HV := Lib.hid (okF_out (e := e.data.toList) (n := (n : Int)) (by omega))
    clear hel
    go_enter Tryd.func50, Tryd.ntmps50
    go_wp2_with fail
    go_ret2
    exact ⟨PrfP.no HV.out (.inl rfl), 0, rfl⟩

theorem TableOf1_any (x : Nd) (p s : Nat) (w : World) (hok : okNd x) (hs : s < 32) (hp : w.cell? ⟨p, 0, none⟩ = some (ndV x)) :
    Calls Tryd.prog 52 #[.int .i64 (s : Int), .pointer (some ⟨p, 0, none⟩)] w fun e w' => e = .returned (.int .u8 (evl s x : Int)) ∧ Below w.heap.size w w' := by
  have HC := Lib.hid (eval_any s hs x w hok)
  obtain ⟨t, u, htu⟩ := ndV_form x
  rw [htu] at hp HC
  clear htu
  go_enter Tryd.func52, Tryd.ntmps52
  go_wp2_with (go_at_call 53; refine HC.out.mono ?_; rintro e w2 ⟨rfl, hB2⟩)
  go_ret
  exact ⟨rfl, hB2⟩

theorem store_new1 (w : World) (v : Value) (h1 : v.oneCell' = true) : (Instr.storeAt 69 (.pointer (some ⟨w.heap.size, 0, none⟩)) v).run Tryd.prog (w.alloc (.cells #[.nilIface] 69)) = .ok () (w.alloc (.cells #[v] 69)) := by
  simp only [Instr.storeAt, Instr.sureAddr, Sem.run_bind, Sem.run_pure, Result.andThen]
  rw [run_storeVar_one _ _ 69 69 .nilIface v (heap_alloc_last w _) (by kernel_rfl) h1, World.setRow_alloc_new]
theorem closed_TableOf : ∀ (args : Array Value) (W : World), (callFunc 52 args).run Tryd.prog W = .ok (.enter 52 args) W := fun _ _ => by kernel_rfl
set_option maxHeartbeats 1000000 in
theorem TableOf_any (e : ByteArray) (n : Nat) (w : World) (he : e.size ≤ 1000000) (hn : n ≤ 1000000) :
    Calls Tryd.prog 22 #[.string e, .int .i64 (n : Int)] w fun en w' => en = .returned (txtV (tblF e.data.toList (n : Int)) (okF e.data.toList (n : Int)).isSome) ∧ Below w.heap.size w w' := by
  have HC := Lib.hid (parse_any e n w he hn)
  cases ho : okF e.data.toList (n : Int) with
  | none =>
    have HV := Lib.hid (tblF_no ho)
    rw [ho] at HC
    clear ho
    go_enter Tryd.func22, Tryd.ntmps22
    go_wp2_with fail
    refine HC.out.mono ?_
    rintro en w2 ⟨⟨v, rfl, hv, hq⟩, m2, rfl⟩
    clear hq
    rcases hv with rfl | ⟨t, u, rfl⟩
    · go_wp2_with ((with_reducible refine wpStop (o := ⟨none, Op.store 69 _ _, _, _, _, _⟩) ?_); refine ⟨?_⟩; refine wpList_store_as rfl _ _ _ rfl _ _ rfl rfl (store_new1 (w.drewN m2) _ rfl) ?_)
      go_ret2
      exact ⟨by rw [HV.out]; rfl, (drewN_below _ _).alloc (Nat.le_refl _) _⟩
    · go_wp2_with ((with_reducible refine wpStop (o := ⟨none, Op.store 69 _ _, _, _, _, _⟩) ?_); refine ⟨?_⟩; refine wpList_store_as rfl _ _ _ rfl _ _ rfl rfl (store_new1 (w.drewN m2) _ rfl) ?_)
      go_ret2
      exact ⟨by rw [HV.out]; rfl, (drewN_below _ _).alloc (Nat.le_refl _) _⟩
  | some x =>
    obtain ⟨⟨h1, h5, h100⟩, hp⟩ := okF_some ho
    rw [ho] at HC
    have h5' : n ≤ 5 := by omega
    obtain ⟨N, HN, hN32, hN0⟩ : ∃ N : Nat, Hid (N = 2 ^ n) ∧ N ≤ 32 ∧ 0 < N := ⟨_, Lib.hid rfl, two_le _ h5', Nat.pos_of_ne_zero (by simp)⟩
    have HV : Hid (tblF e.data.toList (n : Int) = txt N fun s => evl s x) := Lib.hid (by rw [tblF_yes ho, HN.out])
    rw [Int.toNat_natCast] at hp
    have HOK := Lib.hid (prs_okNd h5' _ hp)
    have HB2 : Hid (∀ s, s < N → (if s < 2 ^ n then evl s x else 0) < 2) := Lib.hid (fun s _ => by split <;> first | exact evl_lt s x | omega)
    have HTX : Hid ((txt N fun s => if s < 2 ^ n then evl s x else 0) = txt N fun s => evl s x) := Lib.hid (txt_congr fun s hs => by rw [if_pos (by rw [← HN.out]; exact hs)])
    clear ho hp h1 h5 h100
    go_enter Tryd.func22, Tryd.ntmps22
    go_wp2_with fail
    refine HC.out.mono ?_
    rintro en w2 ⟨⟨v, rfl, hv, hq⟩, m2, rfl⟩
    have hvx := hq x rfl
    obtain ⟨t, u, htu⟩ := ndV_form x
    have HX := Lib.hid (Blk.new (w.drewN m2) 69 #[.iface t u])
    have hBe : Below w.heap.size w ((w.drewN m2).alloc (.cells #[.iface t u] 69)) := (drewN_below _ _).alloc (Nat.le_refl _) _
    have HCL : Hid (Clo ((w.drewN m2).alloc (.cells #[.iface t u] 69)) (2 ^ n) 52 #[.pointer (some ⟨(w.drewN m2).heap.size, 0, none⟩)] (fun s => evl s x)) := Lib.hid (fun s w1 hs hB => by
      have h32 := two_le _ h5'
      exact TableOf1_any x _ s w1 HOK.out (by omega) (((HX.out.keep hB).cell 0).trans (by rw [htu]; rfl)))
    rw [hvx, htu]
    clear hvx htu hv hq
    go_wp2_with (first
      | ((with_reducible refine wpStop (o := ⟨none, Op.store 69 _ _, _, _, _, _⟩) ?_); refine ⟨?_⟩; refine wpList_store_as rfl _ _ _ rfl _ _ rfl rfl (store_new1 (w.drewN m2) _ rfl) ?_)
      | (go_at_call 51; refine (each_any n _ _ (fun s => evl s x) _ h5' closed_TableOf HCL).mono ?_; rintro en w4 ⟨rfl, hB4⟩)
      | (go_at_call 54; refine (text_any n N _ _ h5' HN HB2).mono ?_; rintro en w5 ⟨rfl, hB5⟩; rw [HTX.out]))
    go_ret2
    have h4 : Below w.heap.size w w4 := hBe.trans (hB4.mono hBe.size)
    exact ⟨by rw [HV.out]; rfl, h4.trans (hB5.mono h4.size)⟩

end Go.Proofs.YtfkdameegljkeaaDoor

/- Walks: networks of formulas (both sides). -/
namespace Go.Proofs.YtfkdameegljkeaaDoor
open Go.RowKit
set_option linter.unusedVariables false

theorem okFs_of {es : List (List UInt8)} (h0 : 0 < es.length) (h : ∀ j (hj : j < es.length), (okF es[j] (es.length : Int)).isSome = true) : okFs es = true := by
  rw [okFs, Bool.and_eq_true, decide_eq_true_iff, List.all_eq_true]
  refine ⟨h0, fun e he => ?_⟩
  obtain ⟨j, hj, rfl⟩ := List.getElem_of_mem he
  exact h j hj
theorem okFs_no {es : List (List UInt8)} {j : Nat} (hj : j < es.length) (h : okF es[j] (es.length : Int) = none) : okFs es = false := by
  rw [← Bool.not_eq_true]
  intro hh
  obtain ⟨x, hx⟩ := (okFs_true hh).2.2 _ (List.getElem_mem hj)
  rw [h] at hx; cases hx
theorem okFs_nil {es : List (List UInt8)} (h : es.length = 0) : okFs es = false := by rw [okFs, decide_eq_false (by omega)]; rfl
theorem netF_no {es : List (List UInt8)} (h : okFs es = false) : netF es = [] := by rw [netF, h]; rfl
theorem netF_yes {es : List (List UInt8)} (h : okFs es = true) : netF es = joinN (rulF es) := by rw [netF, h]; rfl
theorem rulF_take {es : List (List UInt8)} {k : Nat} (h : k < es.length) : (rulF es).take (k + 1) = (rulF es).take k ++ [tblF es[k] (es.length : Int)] := by
  rw [List.take_succ_eq_append_getElem (by rw [rulF_length]; exact h)]
  congr 1
  simp [rulF]
theorem tblF_len {e : List UInt8} {n : Nat} {x : Nd} (h : okF e (n : Int) = some x) : (tblF e (n : Int)).length ≤ 32 := by
  rw [tblF_yes h, txt_length]
  have := (okF_some h).1.2.1
  exact two_le _ (by omega)
theorem rulF_len {es : List (List UInt8)} (h : okFs es = true) : ∀ p ∈ rulF es, p.length ≤ 32 := fun p hp => by
  obtain ⟨x, rfl⟩ := rulF_part h p hp
  rw [txt_length]
  exact two_le _ (okFs_true h).2.1

theorem join_any (A : Option Addr) (c : Nat) (ps : List (List UInt8)) (w : World) (hx : Hid (Rd w A (strs ps))) (hc : ps.length ≤ c) (h1 : 1 ≤ ps.length) (hn : ps.length ≤ 1000) (hl : Hid (∀ p ∈ ps, p.length ≤ 1000)) :
    Calls Tryd.prog 47 #[.slice A ps.length c, .string ⟨#[44]⟩] w fun e w' => e = .returned (.string ⟨(joinN ps).toArray⟩) ∧ Below w.heap.size w w' := by
  obtain ⟨g, off, hA, h0⟩ := hx.out.text h1
  subst hA
  have HC : ∀ (j : Nat) x, (ps.map fun l => (⟨l.toArray⟩ : ByteArray))[j]? = some x → w.cell? ⟨g, off + j, none⟩ = some (.string x) := fun j x hj => by
    have hjl : j < ps.length := by simpa using (List.getElem?_eq_some_iff.1 hj).1
    rw [List.getElem?_map, List.getElem?_eq_getElem hjl] at hj
    injection hj with hj
    rw [hx.out.cell (strs_get hjl), ← hj]
  have hgl : g < w.heap.size := World.block_lt_of_cell? w _ h0
  have HM : (ps.map fun l => (⟨l.toArray⟩ : ByteArray)).map (·.data.toList) = ps := by rw [List.map_map]; exact (List.map_congr_left (g := id) fun l _ => by simp).trans (List.map_id ps)
  have HLL : ps.length = (ps.map fun l => (⟨l.toArray⟩ : ByteArray)).length := by simp
  have hlen : (Lib.join ps [44]).length ≤ 140737488355328 := by
    have := joinN_len hl.out ps.length (Nat.le_refl _)
    rw [List.take_length, joinN] at this
    have h2 : 1001 * ps.length ≤ 1001 * 1000 := Nat.mul_le_mul_left _ hn
    omega
  have HJ := Tryd.strings_Join g off c (ps.map fun l => ⟨l.toArray⟩) { data := #[44] } w HC hgl (by rw [← HLL]; omega) (by rw [← HLL]; exact hc) (by rw [HM]; exact hlen)
  rw [HM, ← HLL] at HJ
  exact HJ

set_option maxHeartbeats 1000000 in
theorem NetworkOf_any (A : Option Addr) (c : Nat) (es : List (List UInt8)) (w : World) (hx : Hid (Rd w A (strs es))) (hn : es.length ≤ 1000) (hl : Hid (∀ x ∈ es, x.length ≤ 1000)) :
    Calls Tryd.prog 20 #[.slice A es.length c] w fun e w' => e = .returned (txtV (netF es) (okFs es)) ∧ Below w.heap.size w w' := by
  go_enter Tryd.func20, Tryd.ntmps20
  go_wp2_with fail
  go_loopw [4, 11] (fun v q wr => ∃ k : Nat, k ≤ es.length ∧ q = .int .i64 k ∧ Hid (OS wr w.heap.size 9 v ((rulF es).take k)) ∧ Hid (∀ j (hj : j < es.length), j < k → (okF es[j] (es.length : Int)).isSome = true) ∧ Below w.heap.size w wr) (fun _ q _ => es.length - (intOf q).toNat)
  case atStart => exact ⟨0, Nat.zero_le _, rfl, Lib.hid (OS.nil _ _ _), Lib.hid (fun j _ h => by omega), Below.refl _ _⟩
  case round =>
    obtain ⟨k, hk, rfl, HO, HA, hB⟩ := hrel
    have hsz := hB.size
    have hlk : ((rulF es).take k).length ≤ 1000 := by rw [List.length_take]; omega
    by_cases hlt : k < es.length
    · obtain ⟨g, off, hA, hcell⟩ := (hx.out.below hB).text hlt
      subst hA
      have hel := hl.out _ (List.getElem_mem hlt)
      have HT := TableOf_any ⟨es[k].toArray⟩ es.length wr (by simp [ByteArray.size]; omega) (by omega)
      simp only at HT
      cases ho : okF es[k] (es.length : Int) with
      | none =>
        have HV := Lib.hid (okFs_no hlt ho)
        rw [tblF_no ho, ho] at HT
        have HT2 := Lib.hid HT
        clear HT ho
        go_wp2_with (go_at_call 22; refine HT2.out.mono ?_; rintro e w2 ⟨rfl, hB2⟩; unfold txtV)
        go_ret2
        exact ⟨by rw [HV.out, netF_no HV.out]; rfl, hB.trans (hB2.mono hsz)⟩
      | some x =>
        have HTK := Lib.hid (rulF_take hlt)
        have HA2 : Hid (∀ j (hj : j < es.length), j < k + 1 → (okF es[j] (es.length : Int)).isSome = true) := Lib.hid (fun j hj h => by
          by_cases e : j = k
          · subst e; rw [ho]; rfl
          · exact HA.out j hj (by omega))
        rw [ho] at HT
        have HT2 := Lib.hid HT
        clear HT ho
        go_wp2_with (first
          | (go_at_call 22; refine HT2.out.mono ?_; rintro e w2 ⟨rfl, hB2⟩; unfold txtV; have HO2 := Lib.hid (HO.out.below hB2); have hz2 := hB2.size)
          | (at_builtin; refine wp_pushS rfl _ _ _ rfl Tryd.underlying36 info_str HO2.out rfl rfl (by omega) (by omega) ?_; intro v' w6 hown hbel hsz6))
        go_roundw
        case rel => exact ⟨k + 1, by omega, by go_num, Lib.hid (by rw [HTK.out]; exact hown), HA2, hB.trans ((hB2.mono hsz).trans (hbel _ (Nat.le_refl _)))⟩
        case measure => simp [intOf]; omega
    · have hkn : k = es.length := by omega
      subst hkn
      have HOF := HO.out
      rw [List.take_of_length_le (by rw [rulF_length]; exact Nat.le_refl _)] at HOF
      obtain ⟨A', c', rfl, hc, hO⟩ := HOF.form
      clear HOF
      rw [rulF_length] at hc ⊢
      have HR := Lib.hid hO.rd
      clear hO
      by_cases h0 : es.length = 0
      · have HV := Lib.hid (okFs_nil h0)
        have hd : ((es.length : Int) == 0) = true := by simp [h0]
        go_wp2_with fail
        go_ret2
        exact ⟨by rw [HV.out, netF_no HV.out]; rfl, hB⟩
      · have hd : ((es.length : Int) == 0) = false := by simp; intro e; exact h0 (by rw [e]; rfl)
        have HV := Lib.hid (okFs_of (by omega) fun j hj => HA.out j hj hj)
        have HJ0 := join_any A' c' (rulF es) wr HR (by rw [rulF_length]; exact hc) (by rw [rulF_length]; omega) (by rw [rulF_length]; exact hn) (Lib.hid fun p hp => Nat.le_trans (rulF_len HV.out p hp) (by omega))
        rw [rulF_length] at HJ0
        have HJ := Lib.hid HJ0
        clear HJ0 h0
        go_wp2_with (go_at_call 47; refine HJ.out.mono ?_; rintro e w7 ⟨rfl, hB7⟩)
        go_ret2
        exact ⟨by rw [HV.out, netF_yes HV.out]; rfl, hB.trans (hB7.mono hsz)⟩

set_option maxHeartbeats 1000000 in
theorem sNetworkOf_any (A : Option Addr) (c : Nat) (es : List (List UInt8)) (w : World) (hx : Hid (Rd w A (strs es))) (hn : es.length ≤ 1000) (hl : Hid (∀ x ∈ es, x.length ≤ 1000)) :
    Calls Tryd.prog 21 #[.slice A es.length c] w fun e w' => e = .returned (txtV (netF es) (okFs es)) ∧ Below w.heap.size w w' := by
  go_enter Tryd.func21, Tryd.ntmps21
  go_wp2_with fail
  go_loopw [4, 5] (fun v q wr => ∃ k : Nat, k ≤ es.length ∧ q = .int .i64 k ∧ Hid (OS wr w.heap.size 9 v ((rulF es).take k)) ∧ Hid (∀ j (hj : j < es.length), j < k → (okF es[j] (es.length : Int)).isSome = true) ∧ Below w.heap.size w wr) (fun _ q _ => es.length - (intOf q).toNat)
  case atStart => exact ⟨0, Nat.zero_le _, rfl, Lib.hid (OS.empty _ _ _ (Nat.le_refl _)), Lib.hid (fun j _ h => by omega), (Below.refl _ _).alloc (Nat.le_refl _) _⟩
  case round =>
    obtain ⟨k, hk, rfl, HO, HA, hB⟩ := hrel
    have hsz := hB.size
    have hlk : ((rulF es).take k).length ≤ 1000 := by rw [List.length_take]; omega
    by_cases hlt : k < es.length
    · obtain ⟨g, off, hA, hcell⟩ := (hx.out.below hB).text hlt
      subst hA
      have hel := hl.out _ (List.getElem_mem hlt)
      have HT := sTableOf_any ⟨es[k].toArray⟩ es.length wr (by simp [ByteArray.size]; omega) (by omega)
      simp only at HT
      cases ho : okF es[k] (es.length : Int) with
      | none =>
        have HV := Lib.hid (okFs_no hlt ho)
        rw [tblF_no ho, ho] at HT
        have HT2 := Lib.hid HT
        clear HT ho
        go_wp2_with (go_at_call 48; refine HT2.out.mono ?_; rintro e w2 ⟨rfl, hB2⟩; unfold txtV)
        go_ret2
        exact ⟨by rw [HV.out, netF_no HV.out]; rfl, hB.trans (hB2.mono hsz)⟩
      | some x =>
        have HTK := Lib.hid (rulF_take hlt)
        have HA2 : Hid (∀ j (hj : j < es.length), j < k + 1 → (okF es[j] (es.length : Int)).isSome = true) := Lib.hid (fun j hj h => by
          by_cases e : j = k
          · subst e; rw [ho]; rfl
          · exact HA.out j hj (by omega))
        rw [ho] at HT
        have HT2 := Lib.hid HT
        clear HT ho
        go_wp2_with (first
          | (go_at_call 48; refine HT2.out.mono ?_; rintro e w2 ⟨rfl, hB2⟩; unfold txtV; have HO2 := Lib.hid (HO.out.below hB2); have hz2 := hB2.size)
          | (at_builtin; refine wp_pushS rfl _ _ _ rfl Tryd.underlying36 info_str HO2.out rfl rfl (by omega) (by omega) ?_; intro v' w6 hown hbel hsz6))
        go_roundw
        case rel => exact ⟨k + 1, by omega, by go_num, Lib.hid (by rw [HTK.out]; exact hown), HA2, hB.trans ((hB2.mono hsz).trans (hbel _ (Nat.le_refl _)))⟩
        case measure => simp [intOf]; omega
    · have hkn : k = es.length := by omega
      subst hkn
      have HOF := HO.out
      rw [List.take_of_length_le (by rw [rulF_length]; exact Nat.le_refl _)] at HOF
      obtain ⟨A', c', rfl, hc, hO⟩ := HOF.form
      clear HOF
      have HR := Lib.hid hO.rd
      clear hO
      obtain ⟨J, HJD⟩ : ∃ J : ByteArray, Hid (J = ⟨(joinN (rulF es)).toArray⟩) := ⟨_, rfl⟩
      by_cases h0 : es.length = 0
      · have HV := Lib.hid (okFs_nil h0)
        have hrn : rulF es = [] := List.eq_nil_of_length_eq_zero (by rw [rulF_length]; exact h0)
        have HT1 := Lib.hid (l3Text_any A' c' (rulF es) wr HR (Lib.hid (fun p hp => by rw [hrn] at hp; cases hp)) (by rw [hrn]; simp))
        rw [← HJD.out] at HT1
        have HJN : Hid (J = ⟨#[]⟩) := Lib.hid (by rw [HJD.out, hrn]; rfl)
        have hJ : J.toList.isEmpty = true := by rw [HJN.out]; simp
        clear hrn h0
        go_wp2_with (go_at_call 49; refine HT1.out.mono ?_; rintro e w7 ⟨rfl, rfl⟩)
        go_ret2
        exact ⟨by rw [HV.out, netF_no HV.out, HJN.out]; rfl, hB⟩
      · have HV := Lib.hid (okFs_of (by omega) fun j hj => HA.out j hj hj)
        have HT1 := Lib.hid (l3Text_any A' c' (rulF es) wr HR (Lib.hid fun p hp => Nat.le_trans (rulF_len HV.out p hp) (by omega)) (by rw [rulF_length]; exact hn))
        rw [← HJD.out] at HT1
        have hJ : J.toList.isEmpty = false := by
          have hpos := joinN_pos (ps := rulF es) (fun p hp => by
            obtain ⟨x, rfl⟩ := rulF_part HV.out p hp
            rw [txt_length]; exact Nat.one_le_two_pow) (rulF es).length (by rw [rulF_length]; omega) (Nat.le_refl _)
          rw [List.take_length] at hpos
          have hpos2 : 0 < (joinN (rulF es)).length := hpos
          have := ne_emp (e := J) (by rw [HJD.out]; simpa [ByteArray.size] using hpos2)
          simpa using this
        clear h0
        go_wp2_with (go_at_call 49; refine HT1.out.mono ?_; rintro e w7 ⟨rfl, rfl⟩)
        go_ret2
        refine ⟨?_, hB⟩
        rw [HV.out, netF_yes HV.out]
        show Ending.returned (.tuple #[.string J, .bool true]) = _
        rw [HJD.out]; rfl

end Go.Proofs.YtfkdameegljkeaaDoor

/- Walks: the rule of a switch, the value of a table. -/
namespace Go.Proofs.YtfkdameegljkeaaDoor
open Go.RowKit
set_option linter.unusedVariables false

set_option maxHeartbeats 1000000 in
set_option maxRecDepth 100000 in
theorem RuleOf_ok (s : ByteArray) (k : Nat) (w : World) (hm : Hid (HasM w)) (hs : s.size ≤ 1073741824) (h : Hid (okSw (cutL s.data.toList) (k : Int) = true)) :
    Calls Tryd.prog 23 #[.string s, .int .i64 (k : Int)] w fun e w' => e = .returned (.string ⟨((cutL s.data.toList).getD k []).toArray⟩) ∧ Below w.heap.size w w' := by
  obtain ⟨ps, HPS⟩ : ∃ ps, Hid (ps = cutL s.data.toList) := ⟨_, rfl⟩
  rw [← HPS.out] at h ⊢
  obtain ⟨hok, k', hk', hlt'⟩ := okSw_true h.out
  have hlt : k < ps.length := by omega
  clear hk' hlt'
  have hn5 := okN_le hok
  obtain ⟨N, HN, hN32, hN0⟩ : ∃ N : Nat, Hid (N = 2 ^ ps.length) ∧ N ≤ 32 ∧ 0 < N := ⟨_, rfl, two_le _ hn5, Nat.pos_of_ne_zero (by simp)⟩
  obtain ⟨pk, HPK⟩ : ∃ pk, Hid (pk = ps.getD k []) := ⟨_, rfl⟩
  rw [← HPK.out]
  have HT : Hid (txt N (tv ps.length ps[k]) = pk) := Lib.hid (by rw [HPK.out, txt_tv hok HN.out hlt, List.getD_eq_getElem?_getD, List.getElem?_eq_getElem hlt, Option.getD_some])
  have HB2 : Hid (∀ s, s < N → tv ps.length ps[k] s < 2) := Lib.hid (fun s _ => tv_lt hok hlt)
  clear hok
  go_enter Tryd.func23, Tryd.ntmps23
  go_wp2_with fail
  refine (switchOf_any s k w hm hs).mono ?_
  rintro e w1 ⟨⟨A, j, c, rfl, himp⟩, hB1⟩
  rw [← HPS.out] at himp ⊢
  obtain ⟨rfl, hc, hO⟩ := himp h.out
  rw [h.out]
  obtain ⟨g, off, hA, hr⟩ := netL_range hO.rd hlt
  subst hA
  have HR := Lib.hid hr
  clear hr hO himp
  go_wp2_with (first
    | ((with_reducible refine wpStop (o := ⟨some 18, _, _, _, _, _⟩) ?_); refine ⟨?_⟩; refine wpList_load_mid rfl _ _ rfl g _ rfl (tabL ps.length (tv ps.length ps[k])) _ HR.out Tryd.underlying74 rfl (by rw [tab_size, tabL_length]) ?_)
    | (go_at_call 54; refine (text_any ps.length N _ _ hn5 HN HB2).mono ?_; rintro e w5 ⟨rfl, hB5⟩; rw [HT.out]))
  go_ret
  exact ⟨rfl, hB1.trans (hB5.mono hB1.size)⟩

/-- the rule of a switch, or no text -/
def rulN (ps : List (List UInt8)) (t : Int) : List UInt8 := if okSw ps t then ps.getD t.toNat [] else []
theorem RuleOf_any (s : ByteArray) (t : Int) (w : World) (hm : Hid (HasM w)) (hs : s.size ≤ 1073741824) :
    Calls Tryd.prog 23 #[.string s, .int .i64 t] w fun e w' => e = .returned (.string ⟨(rulN (cutL s.data.toList) t).toArray⟩) ∧ Below w.heap.size w w' := by
  by_cases h : okSw (cutL s.data.toList) t = true
  · obtain ⟨_, k, rfl, _⟩ := okSw_true h
    have e : rulN (cutL s.data.toList) ((k : Nat) : Int) = (cutL s.data.toList).getD k [] := by rw [rulN, if_pos h]; rfl
    rw [e]
    exact RuleOf_ok s k w hm hs (Lib.hid h)
  · have HSW : Hid (okSw (cutL s.data.toList) t = false) := Lib.hid (by simpa using h)
    have HV : Hid (rulN (cutL s.data.toList) t = []) := Lib.hid (by rw [rulN, if_neg h])
    clear h
    go_enter Tryd.func23, Tryd.ntmps23
    go_wp2_with fail
    refine (switchOf_any s t w hm hs).mono ?_
    rintro e w1 ⟨⟨A, j, c, rfl, himp⟩, hB1⟩
    clear himp
    rw [HSW.out]
    go_wp2
    go_ret
    exact ⟨by rw [HV.out]; rfl, hB1⟩

section
variable {P : Program} {ops : Array Oper} {rest : List Oper} {o : Oper} {a : Act} {w : World} {Q : Exit → Act → World → Prop}
theorem wpList_load_blk_g (hw : Region.wanted o (yielded ops a.tmps) = true) (ty : TypeId) (x : Operand) (ho : o.op = .load ty x) {g : Nat} {cs : Array Value} {d : TypeDesc} (hx : a.eval x = .pointer (some ⟨g, 0, none⟩))
    (hg : Blk w g ty cs) (hu : P.underlying ty = some d) (hd : d.isRow = true) (hi : (P.info? ty).map (·.size) = some cs.size)
    (h : wpList P ops Q rest (a.put o.dst (.agg cs)) w) : wpList P ops Q (o :: rest) a w :=
  BigFrame.wpList_want hw fun _ hK => wp_load_row ty x ho g hx ty cs (0, 0) d hg hu (by cases d <;> simp_all) hi (hK _ _ h)
end
end Go.Proofs.YtfkdameegljkeaaDoor

/- The walk of the law FnNetworkOf. -/
namespace Go.Proofs.YtfkdameegljkeaaDoor
open Go.RowKit
set_option linter.unusedVariables false

theorem list_eqt (a : ByteArray) : (a.toList == a.toList) = true := by rw [← beq_toListBytes]; exact (MapKept.bytes_beq a a).2 rfl
set_option maxHeartbeats 2000000 in
set_option maxRecDepth 100000 in
theorem fnNetworkOf_walk (a0 : Option Addr) (len0 cap0 : Nat) (z0 : List Int) (w : World) (hm : Hid (HasM w)) (w0 : IsRow .u8 w a0 len0 cap0 z0) :
    Calls Tryd.prog 5 #[.slice a0 len0 cap0] w fun e w' => e = .returned (.bool true) ∧ Below w.heap.size w w' := by
  by_cases h0 : 1048576 < len0
  · go_enter Tryd.func5, Tryd.ntmps5
    go_wp2
    go_ret
    exact ⟨rfl, Below.refl _ _⟩
  · obtain ⟨bs, hbl, hrd, hwf, hcap, hmax⟩ := w0.rdk
    unfold maxLen at hmax
    have HRD := Lib.hid hrd
    have HWF := Lib.hid (fun x hx => wf_u8 (hwf x hx))
    have HBL := Lib.hid hbl.symm
    clear hbl hrd hwf w0
    go_enter Tryd.func5, Tryd.ntmps5
    go_wp2_with fail
    refine (DrawNetworkOf_any _ _ _ _ _ HBL.out hcap (by omega) HRD HWF).mono ?_
    rintro e W1 ⟨⟨A, c, es, rfl, hn6, hc, hl8, hO⟩, hB1⟩
    have HL8 := Lib.hid (fun x hx => Nat.le_trans (hl8 x hx) (show 8 ≤ 1000 by omega))
    have HR1 := Lib.hid hO.rd
    have HM1 := Lib.hid (hm.out.below hB1)
    obtain ⟨J, HJ⟩ : ∃ J : ByteArray, Hid (J = ⟨(netF es).toArray⟩) := ⟨_, rfl⟩
    have HTV : Hid (txtV (netF es) (okFs es) = .tuple #[.string J, .bool (okFs es)]) := Lib.hid (by rw [HJ.out]; rfl)
    have hJJ := list_eqt J
    clear hO hl8
    go_wp2_with fail
    refine (NetworkOf_any A c es _ HR1 (by omega) HL8).mono ?_
    rw [HTV.out]
    rintro e W2 ⟨rfl, hB2⟩
    have hB12 : Below w.heap.size w W2 := hB1.trans (hB2.mono hB1.size)
    have HM2 := Lib.hid (HM1.out.below hB2)
    have HR2 := Lib.hid (HR1.out.below hB2)
    go_wp2_with fail
    refine (sNetworkOf_any A c es _ HR2 (by omega) HL8).mono ?_
    rw [HTV.out]
    rintro e W3 ⟨rfl, hB3⟩
    have hB13 : Below w.heap.size w W3 := hB12.trans (hB3.mono hB12.size)
    have HM3 := Lib.hid (HM2.out.below hB3)
    have HR3 := Lib.hid (HR2.out.below hB3)
    clear hB1 hB2 hB3 hB12
    cases hok : okFs es with
    | false =>
      clear hok HTV
      go_wp2_with fail
      go_ret
      exact ⟨by simp, hB13⟩
    | true =>
      obtain ⟨h1, h5, hall⟩ := okFs_true hok
      have HALL := Lib.hid hall
      have HCUT : Hid (cutL J.data.toList = rulF es) := Lib.hid (by rw [HJ.out, netF_yes hok]; exact rulF_cut hok)
      have HOKN := Lib.hid (rulF_ok hok)
      have hJs : J.size ≤ 1073741824 := by
        rw [HJ.out, netF_yes hok]
        have := joinN_len (rulF_len hok) (rulF es).length (Nat.le_refl _)
        rw [List.take_length, rulF_length] at this
        show (joinN (rulF es)).toArray.size ≤ _
        simp only [List.size_toArray]
        omega
      have HSZ : Hid (szN (rulF es) = (es.length : Int)) := Lib.hid (by rw [szN, if_pos HOKN.out, rulF_length])
      clear hok HTV hall
      go_wp2_with fail
      go_loopw [8] (fun i wr => ∃ k : Nat, k ≤ es.length ∧ i = .int .i64 k ∧ Hid (HasM wr) ∧ Hid (Rd wr A (strs es)) ∧ Hid (Below w.heap.size w wr)) (fun i _ => es.length - (intOf i).toNat)
      case atStart => exact ⟨0, Nat.zero_le _, rfl, HM3, HR3, Lib.hid hB13⟩
      case round =>
        obtain ⟨k, hk, rfl, HM, HR, HB⟩ := hrel
        by_cases hlt : k < es.length
        · obtain ⟨g, off, hA, hcell⟩ := HR.out.text hlt
          subst hA
          obtain ⟨x, hx⟩ := HALL.out _ (List.getElem_mem hlt)
          obtain ⟨f, HF⟩ : ∃ f : ByteArray, Hid (f = ⟨(tblF es[k] (es.length : Int)).toArray⟩) := ⟨_, Lib.hid rfl⟩
          have hel := HL8.out _ (List.getElem_mem hlt)
          have HT := TableOf_any ⟨es[k].toArray⟩ es.length wr (by simp [ByteArray.size]; omega) (by omega)
          simp only at HT
          rw [hx] at HT
          have HT2 : Hid (Calls Tryd.prog 22 #[.string ⟨es[k].toArray⟩, .int .i64 (es.length : Int)] wr fun en w' => en = .returned (.tuple #[.string f, .bool true]) ∧ Below wr.heap.size wr w') := Lib.hid (by rw [HF.out]; exact HT)
          have HRU : Hid (∀ W, HasM W → Calls Tryd.prog 23 #[.string J, .int .i64 (k : Int)] W fun e w' => e = .returned (.string f) ∧ Below W.heap.size W w') := Lib.hid (fun W hW => by
            have h := RuleOf_ok J k W (Lib.hid hW) hJs (Lib.hid (by rw [HCUT.out, okSw, HOKN.out, rulF_length]; simp; omega))
            rw [HCUT.out] at h
            have e : (rulF es).getD k [] = tblF es[k] (es.length : Int) := by
              rw [List.getD_eq_getElem?_getD, List.getElem?_eq_getElem (by rw [rulF_length]; exact hlt), Option.getD_some]
              simp [rulF]
            rw [e, ← HF.out] at h
            exact h)
          have hff := list_eqt f
          clear HT hx
          go_wp2_with fail
          refine HT2.out.mono ?_
          rintro e V1 ⟨rfl, hV1⟩
          have HM1 := HM.out.below hV1
          go_wp2_with fail
          refine (HRU.out _ HM1).mono ?_
          rintro e V2 ⟨rfl, hV2⟩
          have HM2 := Lib.hid (HM1.below hV2)
          have HR2 := Lib.hid ((HR.out.below hV1).below hV2)
          have HB1 : Below w.heap.size w V1 := HB.out.trans (hV1.mono HB.out.size)
          have HB2 := Lib.hid (HB1.trans (hV2.mono HB1.size))
          clear hcell HM1 hV1 hV2 HB1
          go_wp2_with fail
          go_roundw
          case rel => exact ⟨k + 1, by omega, by go_num, HM2, HR2, HB2⟩
          case measure => simp [intOf]; omega
        · have hkn : k = es.length := by omega
          subst hkn
          go_wp2_with fail
          refine (NetworkValid_any J _ HM (by omega)).mono ?_
          rw [HCUT.out, HOKN.out]
          rintro e V1 ⟨rfl, hV1⟩
          have HM1 := Lib.hid (HM.out.below hV1)
          have HB1 : Below w.heap.size w V1 := HB.out.trans (hV1.mono HB.out.size)
          go_wp2_with fail
          refine (SizeOf_any J _ HM1 (by omega)).mono ?_
          rw [HCUT.out, HSZ.out]
          rintro e V2 ⟨rfl, hV2⟩
          have HB2 := Lib.hid (HB1.trans (hV2.mono HB1.size))
          clear HB1 hV1 hV2
          go_wp2_with fail
          go_ret
          exact ⟨by simp, HB2.out⟩

end Go.Proofs.YtfkdameegljkeaaDoor

