/- Walks: a network turned, on both sides. -/
import Derived.Test.YtjinmoeabkpmaaaDoorProg
import Derived.WalkKit
import Derived.WalkSpells
import Derived.WalkLawsBesides
import Derived.Lib.Hide
import Derived.Deep.QuietTactic
import Derived.Deep.RegionHeld3
import Derived.BigQuiet
import Derived.Test.YtjinmoeabkpmaaaDoorY8
import Derived.Test.YtjinmoeabkpmaaaDoorWk
namespace Go.Proofs.YtjinmoeabkpmaaaDoor
open Go.RowKit
set_option linter.unusedVariables false

def chrs (xs : List Nat) : List UInt8 := xs.map chr
theorem chrs_length (xs : List Nat) : (chrs xs).length = xs.length := by simp [chrs]
theorem lit01 : ∀ v, v < 2 → (({ data := #[48, 49] } : ByteArray).extract v (v + 1)) = ⟨[chr v].toArray⟩ := by decide +kernel
theorem chrs_take {xs : List Nat} {k : Nat} (h : k < xs.length) : (⟨(chrs (xs.take k)).toArray⟩ : ByteArray) ++ ⟨[chr xs[k]].toArray⟩ = ⟨(chrs (xs.take (k + 1))).toArray⟩ := by
  rw [str_add, List.take_succ_eq_append_getElem h, chrs, chrs, List.map_append]; rfl
theorem l1Text_any (A : Option Addr) (c : Nat) (xs : List Nat) (w : World) (hx : Hid (Rd w A ((ints xs).map (Value.int .i64)))) (hb : Hid (∀ x ∈ xs, x < 2)) (hl : xs.length ≤ 1000000) :
    Calls Tryd.prog 113 #[.slice A xs.length c] w fun e w' => e = .returned (.string ⟨(chrs xs).toArray⟩) ∧ ∃ n, w.drewN n = w' := by
  have hil : (ints xs).length = xs.length := ints_length _
  go_enter Tryd.func113, Tryd.ntmps113
  go_wp2
  go_loopw [3, 4] (fun o i wr => ∃ k : Nat, k ≤ xs.length ∧ i = .int .i64 k ∧ o = .string ⟨(chrs (xs.take k)).toArray⟩ ∧ ∃ n, w.drewN n = wr) (fun _ i _ => xs.length - (intOf i).toNat)
  case atStart => exact ⟨0, Nat.zero_le _, rfl, rfl, 0, rfl⟩
  case round =>
    obtain ⟨k, hk, rfl, rfl, n, rfl⟩ := hrel
    have hcl : (chrs (xs.take k)).length ≤ k := by rw [chrs_length, List.length_take]; omega
    by_cases hlt : k < xs.length
    · obtain ⟨g, off, hA, hcell⟩ := hx.out.at_ (ints_at hlt)
      subst hA
      have hv := hb.out _ (List.getElem_mem hlt)
      have HE := Lib.hid (chrs_take hlt)
      have HX := Lib.hid (lit01 _ hv)
      go_wp2_with fail
      go_quiet (fail)
      go_wp2_with fail
      go_roundw
      case rel => exact ⟨k + 1, by omega, by go_num, by rw [← HE.out, ← HX.out], _, rfl⟩
      case measure => simp [intOf]; omega
    · have hkn : k = xs.length := by omega
      subst hkn
      go_wp2
      go_ret
      exact ⟨by rw [List.take_length]; rfl, n, rfl⟩

/-- a switch of a network -/
def okSw (ps : List (List UInt8)) (i : Int) : Bool := okN ps && (decide (0 ≤ i) && decide (i < (ps.length : Int)))
theorem okSw_true {ps : List (List UInt8)} {i : Int} (h : okSw ps i = true) : okN ps = true ∧ ∃ k : Nat, i = k ∧ k < ps.length := by
  simp only [okSw, Bool.and_eq_true, decide_eq_true_eq] at h
  exact ⟨h.1, i.toNat, by omega, by omega⟩
/-- what the reading of a network and a switch hands back -/
def NetW (B : Nat) (ps : List (List UInt8)) (t : Int) (e : Ending) (w' : World) : Prop :=
  ∃ A k c, e = .returned (.tuple #[.slice A k c, .bool (okSw ps t)]) ∧ (okSw ps t = true → k = ps.length ∧ ps.length ≤ c ∧ Own w' B A (netL ps))
theorem switchOf_any (s : ByteArray) (t : Int) (w : World) (hm : Hid (HasM w)) (hs : s.size ≤ 1073741824) :
    Calls Tryd.prog 97 #[.string s, .int .i64 t] w fun e w' => NetW w.heap.size (cutL s.data.toList) t e w' ∧ Below w.heap.size w w' := by
  obtain ⟨ps, HPS⟩ : ∃ ps, Hid (ps = cutL s.data.toList) := ⟨_, rfl⟩
  rw [← HPS.out]
  by_cases h : okN ps = true
  · have hn5 := okN_le h
    have HOK := Lib.hid h
    by_cases h0 : 0 ≤ t
    · have HST : Hid (okSw ps t = decide (t < (ps.length : Int))) := Lib.hid (by rw [okSw, h, decide_eq_true h0]; rfl)
      clear h
      go_enter Tryd.func97, Tryd.ntmps97
      go_wp2_with fail
      refine (readNetwork_any s w hm hs).mono ?_
      rintro e w1 ⟨⟨A, k, c, rfl, himp⟩, hB1⟩
      rw [← HPS.out] at himp ⊢
      obtain ⟨rfl, hc, hO⟩ := himp HOK.out
      rw [HOK.out]
      have HO := Lib.hid hO
      clear hO himp
      go_wp2
      go_ret2
      exact ⟨⟨_, _, _, by rw [HST.out]; rfl, fun _ => ⟨rfl, hc, HO.out⟩⟩, hB1⟩
    · have HST : Hid (okSw ps t = false) := Lib.hid (by rw [okSw, h, decide_eq_false h0]; rfl)
      clear h
      go_enter Tryd.func97, Tryd.ntmps97
      go_wp2_with fail
      refine (readNetwork_any s w hm hs).mono ?_
      rintro e w1 ⟨⟨A, k, c, rfl, himp⟩, hB1⟩
      clear himp
      rw [← HPS.out, HOK.out]
      go_wp2
      go_ret2
      exact ⟨⟨_, _, _, by rw [HST.out]; rfl, fun h => by rw [HST.out] at h; cases h⟩, hB1⟩
  · have h' : okN ps = false := by simpa using h
    have HST : Hid (okSw ps t = false) := Lib.hid (by rw [okSw, h']; rfl)
    have HOK := Lib.hid h'
    clear h h'
    go_enter Tryd.func97, Tryd.ntmps97
    go_wp2_with fail
    refine (readNetwork_any s w hm hs).mono ?_
    rintro e w1 ⟨⟨A, k, c, rfl, himp⟩, hB1⟩
    clear himp
    rw [← HPS.out, HOK.out]
    go_wp2
    go_ret2
    exact ⟨⟨_, _, _, by rw [HST.out]; rfl, fun h => by rw [HST.out] at h; cases h⟩, hB1⟩

/-- a step of the network with a switch the other way round -/
def trnF (ps : List (List UInt8)) (m s : Nat) : Nat := stp ps (s ^^^ m) ^^^ m
theorem trnF_lt {ps : List (List UInt8)} (h : okN ps = true) {m : Nat} (hm : m < 2 ^ ps.length) (s : Nat) : trnF ps m s < 2 ^ ps.length := Nat.xor_lt_two_pow (stp_lt h _) hm

set_option maxRecDepth 100000 in
set_option maxHeartbeats 400000 in
theorem turned1_any (p1 p2 m s : Nat) (A : Option Addr) (c : Nat) (ps : List (List UInt8)) (w : World) (h1 : w.cell? ⟨p1, 0, none⟩ = some (.slice A ps.length c)) (h2 : w.cell? ⟨p2, 0, none⟩ = some (.int .i64 (m : Int)))
    (hx : Hid (Rd w A (netL ps))) (hok : Hid (okN ps = true)) (hs : Hid (s < 2 ^ ps.length)) (hm : Hid (m < 2 ^ ps.length)) :
    Calls Tryd.prog 136 #[.int .i64 (s : Int), .pointer (some ⟨p1, 0, none⟩), .pointer (some ⟨p2, 0, none⟩)] w fun e w' => e = .returned (.int .i64 (trnF ps m s : Int)) ∧ Below w.heap.size w w' := by
  have hl1 : p1 < w.heap.size := World.block_lt_of_cell? w _ h1
  have hl2 : p2 < w.heap.size := World.block_lt_of_cell? w _ h2
  have hn5 := okN_le hok.out
  have h32 := two_le _ hn5
  have hs32 : s < 32 := by have := hs.out; omega
  have hm32 : m < 32 := by have := hm.out; omega
  obtain ⟨x, HXE⟩ : ∃ x, Hid (x = s ^^^ m) := ⟨_, rfl⟩
  obtain ⟨y, HYE⟩ : ∃ y, Hid (y = stp ps x) := ⟨_, rfl⟩
  obtain ⟨z, HZE⟩ : ∃ z, Hid (z = trnF ps m s) := ⟨_, rfl⟩
  have hX : Hid (x < 2 ^ ps.length) := Lib.hid (by rw [HXE.out]; exact Nat.xor_lt_two_pow hs.out hm.out)
  have hy32 : y < 32 := by have := stp_lt hok.out x; rw [HYE.out]; omega
  have e1 : bits .xor .i64 (s : Int) (m : Int) = (x : Int) := by rw [HXE.out]; exact i64_xor_nat s m (by omega) (by omega)
  have e2 : bits .xor .i64 (y : Int) (m : Int) = (z : Int) := by
    rw [HZE.out, trnF, ← HXE.out, ← HYE.out]
    exact i64_xor_nat y m (by omega) (by omega)
  rw [← HZE.out]
  have HBd : Hid (Below w.heap.size w w.drew) := Lib.hid (drewN_below w 1)
  have HRd : Hid (Rd w.drew A (netL ps)) := Lib.hid (hx.out.below HBd.out)
  have HC0 := step_any A c ps x w.drew HRd hok hX
  rw [← HYE.out] at HC0
  have HC := Lib.hid HC0
  clear HC0
  go_enter Tryd.func136, Tryd.ntmps136
  go_wp2_with fail
  go_region_held3 (fun w' => w'.cell? ⟨p1, 0, none⟩ = some (.slice A ps.length c) ∧ w'.cell? ⟨p2, 0, none⟩ = some (.int .i64 (m : Int))) (first | exact ⟨h1, h2⟩ | exact ⟨h1', h2'⟩)
    (first | (go_at_call 91; refine HC.out.mono ?_; rintro e w' ⟨rfl, hB'⟩; have h1' := (World.cell?_of_block (w := w.drew) (hB'.block _ hl1)).trans h1; have h2' := (World.cell?_of_block (w := w.drew) (hB'.block _ hl2)).trans h2))
  go_wp2
  go_ret
  exact ⟨rfl, ⟨hB'.os, hB'.tape, hB'.output, hB'.size, hB'.block⟩⟩

end Go.Proofs.YtjinmoeabkpmaaaDoor
