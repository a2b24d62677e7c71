/- Walks: the table of an input and the negated table, on the reference's side. -/
import Derived.Test.YtjinmoeabkpmaaaDoorProg
import Derived.WalkKit
import Derived.WalkSpells
import Derived.WalkLawsBesides
import Derived.Lib.Hide
import Derived.Deep.QuietTactic
import Derived.BigQuiet
import Derived.Test.YtjinmoeabkpmaaaDoorY5
import Derived.Test.YtjinmoeabkpmaaaDoorYh
namespace Go.Proofs.YtjinmoeabkpmaaaDoor
open Go.RowKit
set_option linter.unusedVariables false

theorem chr_b01 : ∀ v, v < 2 → b01 (chr v) = true := by decide
/-- a text of digits 0 and 1 and whether there is one -/
def InpP (B N : Nat) (e : Ending) (w' : World) : Prop := ∃ vs : List Nat, e = .returned (.tuple #[.string ⟨(chrs vs).toArray⟩, .bool true]) ∧ vs.length = N ∧ ∀ x ∈ vs, x < 2
/-- a text of digits 0 and 1 -/
def NotP (n : Nat) (e : Ending) (w' : World) : Prop := ∃ vs : List Nat, e = .returned (.string ⟨(chrs vs).toArray⟩) ∧ vs.length = n ∧ ∀ x ∈ vs, x < 2

set_option maxHeartbeats 1000000 in
theorem InputTable_any (n k N : Nat) (w : World) (hn1 : 1 ≤ n) (hn5 : n ≤ 5) (hk : k < n) (HN : Hid (N = 2 ^ n)) :
    Calls Tryd.prog 140 #[.int .i64 (n : Int), .int .i64 (k : Int)] w fun e w' => InpP w.heap.size N e w' ∧ Below w.heap.size w w' := by
  obtain ⟨N', HN', hNw, hN32, hN0⟩ := wrap_two n hn5
  obtain rfl : N = N' := by rw [HN.out, HN'.out]
  have hBe : Below w.heap.size w (w.alloc (.cells #[] 3)) := (Below.refl _ _).alloc (Nat.le_refl _) _
  have hE := OI.empty w w.heap.size 3 (Nat.le_refl _)
  have hd1 : decide ((1 : Int) ≤ (n : Int)) = true := decide_eq_true (by omega)
  have hd2 : decide ((n : Int) ≤ 5) = true := decide_eq_true (by omega)
  have hd3 : decide ((0 : Int) ≤ (k : Int)) = true := decide_eq_true (by omega)
  have hd4 : decide ((k : Int) ≤ (n : Int) - 1) = true := decide_eq_true (by omega)
  go_enter Tryd.func140, Tryd.ntmps140
  go_wp2_with fail
  refine (l1In_any _ _ _ _).mono ?_
  rintro e w2 ⟨rfl, rfl⟩
  rw [hd1, hd2]
  clear hd1 hd2
  go_wp2_with fail
  refine (l1In_any _ _ _ _).mono ?_
  rintro e w2 ⟨rfl, rfl⟩
  rw [hd3, hd4]
  clear hd3 hd4
  go_wp2_with fail
  go_loopw [6, 7] (fun v i wr => ∃ (s : Nat) (vs : List Nat), s ≤ N ∧ i = .int .i64 s ∧ Hid (vs.length = s) ∧ Hid (OI wr w.heap.size 3 v (ints vs) ∧ ∀ x ∈ vs, x < 2) ∧ Below w.heap.size w wr) (fun _ i _ => N - (intOf i).toNat)
  case atStart => exact ⟨0, [], Nat.zero_le _, rfl, rfl, Lib.hid ⟨hE, by simp⟩, hBe⟩
  case round =>
    obtain ⟨s, vs, hs, rfl, HL, HO, hB⟩ := hrel
    have hsz := hB.size
    have hvl : (ints vs).length ≤ 32 := by rw [ints_length, HL.out]; omega
    by_cases hlt : s < N
    · obtain ⟨b, HBb⟩ : ∃ b, Hid (b = bit s k) := ⟨_, rfl⟩
      have hb2 : b < 2 := by rw [HBb.out]; exact bit_lt s k
      go_wp2_with (first
        | (go_at_call 129; refine (l1Bit_any _ _ _ (by omega) (by omega)).mono ?_; rintro e w5 ⟨rfl, rfl⟩; rw [← HBb.out])
        | (at_builtin; refine wp_pushI rfl _ _ _ rfl Tryd.underlying31 info_int HO.out.1 rfl rfl (by omega) (by omega) ?_; intro v' w7 hown hbel hsz7))
      go_roundw
      case rel => exact ⟨s + 1, vs ++ [b], by omega, by go_num, Lib.hid (by rw [List.length_append, HL.out]; rfl), Lib.hid ⟨by rw [ints_snoc]; exact hown, fun x hx => by
        rcases List.mem_append.1 hx with hx | hx
        · exact HO.out.2 x hx
        · simp at hx; rw [hx]; exact hb2⟩, hB.trans (hbel _ (Nat.le_refl _))⟩
      case measure => simp [intOf]; omega
    · have hkn : s = N := by omega
      subst hkn
      obtain ⟨A', c', rfl, hc', hO'⟩ := HO.out.1.form
      have HT := Lib.hid (l1Text_ints A' c' vs wr hO'.rd HO.out.2 (by rw [HL.out]; omega))
      clear hO'
      go_wp2_with (go_at_call 113; refine HT.out.mono ?_; rintro e w5 ⟨rfl, n5, rfl⟩)
      go_ret2
      exact ⟨⟨vs, rfl, HL.out, HO.out.2⟩, hB.trans (drewN_below _ _)⟩

set_option maxHeartbeats 1000000 in
theorem l1Not_any (us : List Nat) (w : World) (hb : Hid (∀ x ∈ us, x < 2)) (hl : us.length ≤ 1000) :
    Calls Tryd.prog 141 #[.string ⟨(chrs us).toArray⟩] w fun e w' => NotP us.length e w' ∧ Below w.heap.size w w' := by
  have hBe : Below w.heap.size w (w.alloc (.cells #[] 3)) := (Below.refl _ _).alloc (Nat.le_refl _) _
  have hE := OI.empty w w.heap.size 3 (Nat.le_refl _)
  obtain ⟨t, HT⟩ : ∃ t, Hid (t = chrs us) := ⟨_, rfl⟩
  have htl : t.length = us.length := by rw [HT.out, chrs_length]
  have hts : (⟨t.toArray⟩ : ByteArray).size = t.length := str_size t
  have HTB : Hid (∀ (s : Nat) (h : s < t.length), b01 t[s] = true ∧ val t s < 2) := Lib.hid fun s h => by
    have hall : ∀ c ∈ t, b01 c = true := by
      rw [HT.out, chrs]
      intro c hc
      obtain ⟨x, hx, rfl⟩ := List.mem_map.1 hc
      exact chr_b01 x (hb.out x hx)
    exact ⟨hall _ (List.getElem_mem _), val_lt hall s⟩
  rw [← HT.out]
  go_enter Tryd.func141, Tryd.ntmps141
  go_wp2_with fail
  go_loopw [3, 4] (fun v i wr => ∃ (s : Nat) (vs : List Nat), s ≤ t.length ∧ i = .int .i64 s ∧ Hid (vs.length = s) ∧ Hid (OI wr w.heap.size 3 v (ints vs) ∧ ∀ x ∈ vs, x < 2) ∧ Below w.heap.size w wr) (fun _ i _ => t.length - (intOf i).toNat)
  case atStart => exact ⟨0, [], Nat.zero_le _, rfl, rfl, Lib.hid ⟨hE, by simp⟩, hBe⟩
  case round =>
    obtain ⟨s, vs, hs, rfl, HL, HO, hB⟩ := hrel
    have hsz := hB.size
    have hvl : (ints vs).length ≤ 1000 := by rw [ints_length, HL.out]; omega
    by_cases hlt : s < t.length
    · obtain ⟨h1, h2⟩ := HTB.out s hlt
      obtain ⟨b, HBb⟩ : ∃ b, Hid (b = val t s) := ⟨_, rfl⟩
      rw [← HBb.out] at h2
      obtain ⟨b', hb'⟩ : ∃ b', b' + b = 1 := ⟨1 - b, by omega⟩
      have hsub : (1 : Int) - (b : Int) = (b' : Int) := by omega
      have HC := Lib.hid (l1At_any t s wr hlt (Lib.hid h1))
      clear h1
      go_wp2_with (first
        | (go_at_call 112; refine HC.out.mono ?_; rintro e w5 ⟨rfl, rfl⟩; rw [← HBb.out])
        | (at_builtin; refine wp_pushI (u := (b' : Int)) rfl _ _ _ rfl Tryd.underlying31 info_int HO.out.1 rfl rfl (by omega) (by omega) ?_; intro v' w7 hown hbel hsz7))
      go_roundw
      case rel => exact ⟨s + 1, vs ++ [b'], by omega, by go_num, Lib.hid (by rw [List.length_append, HL.out]; rfl), Lib.hid ⟨by rw [ints_snoc]; exact hown, fun x hx => by
        rcases List.mem_append.1 hx with hx | hx
        · exact HO.out.2 x hx
        · simp at hx; rw [hx]; omega⟩, hB.trans (hbel _ (Nat.le_refl _))⟩
      case measure => simp [intOf]; omega
    · have hkn : s = t.length := by omega
      subst hkn
      obtain ⟨A', c', rfl, hc', hO'⟩ := HO.out.1.form
      have HT2 := Lib.hid (l1Text_ints A' c' vs wr hO'.rd HO.out.2 (by rw [HL.out]; omega))
      clear hO'
      go_wp2_with (go_at_call 113; refine HT2.out.mono ?_; rintro e w5 ⟨rfl, n5, rfl⟩)
      go_ret
      exact ⟨⟨vs, rfl, by rw [HL.out, htl], HO.out.2⟩, hB.trans (drewN_below _ _)⟩

end Go.Proofs.YtjinmoeabkpmaaaDoor
