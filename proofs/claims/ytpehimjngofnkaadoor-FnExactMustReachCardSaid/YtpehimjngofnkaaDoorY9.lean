/- Walks: a network turned, on both sides. -/
import Derived.Test.YtpehimjngofnkaaDoorProg
import Derived.WalkKit
import Derived.WalkSpells
import Derived.WalkLawsBesides
import Derived.Lib.Hide
import Derived.Deep.QuietTactic
import Derived.Deep.RegionHeld3
import Derived.BigQuiet
import Derived.Test.YtpehimjngofnkaaDoorY8
import Derived.Test.YtpehimjngofnkaaDoorWk
namespace Go.Proofs.YtpehimjngofnkaaDoor
open Go.RowKit
set_option linter.unusedVariables false

def chrs (xs : List Nat) : List UInt8 := xs.map chr
theorem chrs_length (xs : List Nat) : (chrs xs).length = xs.length := by simp [chrs]
theorem lit01 : ∀ v, v < 2 → (({ data := #[48, 49] } : ByteArray).extract v (v + 1)) = ⟨[chr v].toArray⟩ := by decide +kernel
theorem chrs_take {xs : List Nat} {k : Nat} (h : k < xs.length) : (⟨(chrs (xs.take k)).toArray⟩ : ByteArray) ++ ⟨[chr xs[k]].toArray⟩ = ⟨(chrs (xs.take (k + 1))).toArray⟩ := by
  rw [str_add, List.take_succ_eq_append_getElem h, chrs, chrs, List.map_append]; rfl
theorem l1Text_any (A : Option Addr) (c : Nat) (xs : List Nat) (w : World) (hx : Hid (Rd w A ((ints xs).map (Value.int .i64)))) (hb : Hid (∀ x ∈ xs, x < 2)) (hl : xs.length ≤ 1000000) :
    Calls Tryd.prog 85 #[.slice A xs.length c] w fun e w' => e = .returned (.string ⟨(chrs xs).toArray⟩) ∧ ∃ n, w.drewN n = w' := by
  have hil : (ints xs).length = xs.length := ints_length _
  go_enter Tryd.func85, Tryd.ntmps85
  go_wp2
  go_loopw [3, 4] (fun o i wr => ∃ k : Nat, k ≤ xs.length ∧ i = .int .i64 k ∧ o = .string ⟨(chrs (xs.take k)).toArray⟩ ∧ ∃ n, w.drewN n = wr) (fun _ i _ => xs.length - (intOf i).toNat)
  case atStart => exact ⟨0, Nat.zero_le _, rfl, rfl, 0, rfl⟩
  case round =>
    obtain ⟨k, hk, rfl, rfl, n, rfl⟩ := hrel
    have hcl : (chrs (xs.take k)).length ≤ k := by rw [chrs_length, List.length_take]; omega
    by_cases hlt : k < xs.length
    · obtain ⟨g, off, hA, hcell⟩ := hx.out.at_ (ints_at hlt)
      subst hA
      have hv := hb.out _ (List.getElem_mem hlt)
      have HE := Lib.hid (chrs_take hlt)
      have HX := Lib.hid (lit01 _ hv)
      go_wp2_with fail
      go_quiet (fail)
      go_wp2_with fail
      go_roundw
      case rel => exact ⟨k + 1, by omega, by go_num, by rw [← HE.out, ← HX.out], _, rfl⟩
      case measure => simp [intOf]; omega
    · have hkn : k = xs.length := by omega
      subst hkn
      go_wp2
      go_ret
      exact ⟨by rw [List.take_length]; rfl, n, rfl⟩

/-- a switch of a network -/
def okSw (ps : List (List UInt8)) (i : Int) : Bool := okN ps && (decide (0 ≤ i) && decide (i < (ps.length : Int)))
theorem okSw_true {ps : List (List UInt8)} {i : Int} (h : okSw ps i = true) : okN ps = true ∧ ∃ k : Nat, i = k ∧ k < ps.length := by
  simp only [okSw, Bool.and_eq_true, decide_eq_true_eq] at h
  exact ⟨h.1, i.toNat, by omega, by omega⟩
/-- what the reading of a network and a switch hands back -/
def NetW (B : Nat) (ps : List (List UInt8)) (t : Int) (e : Ending) (w' : World) : Prop :=
  ∃ A k c, e = .returned (.tuple #[.slice A k c, .bool (okSw ps t)]) ∧ (okSw ps t = true → k = ps.length ∧ ps.length ≤ c ∧ Own w' B A (netL ps))
theorem switchOf_any (s : ByteArray) (t : Int) (w : World) (hm : Hid (HasM w)) (hs : s.size ≤ 1073741824) :
    Calls Tryd.prog 97 #[.string s, .int .i64 t] w fun e w' => NetW w.heap.size (cutL s.data.toList) t e w' ∧ Below w.heap.size w w' := by
  obtain ⟨ps, HPS⟩ : ∃ ps, Hid (ps = cutL s.data.toList) := ⟨_, rfl⟩
  rw [← HPS.out]
  by_cases h : okN ps = true
  · have hn5 := okN_le h
    have HOK := Lib.hid h
    by_cases h0 : 0 ≤ t
    · have HST : Hid (okSw ps t = decide (t < (ps.length : Int))) := Lib.hid (by rw [okSw, h, decide_eq_true h0]; rfl)
      clear h
      go_enter Tryd.func97, Tryd.ntmps97
      go_wp2_with fail
      refine (readNetwork_any s w hm hs).mono ?_
      rintro e w1 ⟨⟨A, k, c, rfl, himp⟩, hB1⟩
      rw [← HPS.out] at himp ⊢
      obtain ⟨rfl, hc, hO⟩ := himp HOK.out
      rw [HOK.out]
      have HO := Lib.hid hO
      clear hO himp
      go_wp2
      go_ret2
      exact ⟨⟨_, _, _, by rw [HST.out]; rfl, fun _ => ⟨rfl, hc, HO.out⟩⟩, hB1⟩
    · have HST : Hid (okSw ps t = false) := Lib.hid (by rw [okSw, h, decide_eq_false h0]; rfl)
      clear h
      go_enter Tryd.func97, Tryd.ntmps97
      go_wp2_with fail
      refine (readNetwork_any s w hm hs).mono ?_
      rintro e w1 ⟨⟨A, k, c, rfl, himp⟩, hB1⟩
      clear himp
      rw [← HPS.out, HOK.out]
      go_wp2
      go_ret2
      exact ⟨⟨_, _, _, by rw [HST.out]; rfl, fun h => by rw [HST.out] at h; cases h⟩, hB1⟩
  · have h' : okN ps = false := by simpa using h
    have HST : Hid (okSw ps t = false) := Lib.hid (by rw [okSw, h']; rfl)
    have HOK := Lib.hid h'
    clear h h'
    go_enter Tryd.func97, Tryd.ntmps97
    go_wp2_with fail
    refine (readNetwork_any s w hm hs).mono ?_
    rintro e w1 ⟨⟨A, k, c, rfl, himp⟩, hB1⟩
    clear himp
    rw [← HPS.out, HOK.out]
    go_wp2
    go_ret2
    exact ⟨⟨_, _, _, by rw [HST.out]; rfl, fun h => by rw [HST.out] at h; cases h⟩, hB1⟩

/-- a step of the network with a switch the other way round -/
def trnF (ps : List (List UInt8)) (m s : Nat) : Nat := stp ps (s ^^^ m) ^^^ m
theorem trnF_lt {ps : List (List UInt8)} (h : okN ps = true) {m : Nat} (hm : m < 2 ^ ps.length) (s : Nat) : trnF ps m s < 2 ^ ps.length := Nat.xor_lt_two_pow (stp_lt h _) hm

end Go.Proofs.YtpehimjngofnkaaDoor
