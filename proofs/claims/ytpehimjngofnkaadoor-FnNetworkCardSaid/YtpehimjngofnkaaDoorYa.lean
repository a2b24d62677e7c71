/- Walks: TurnNetwork, on both sides. -/
import Derived.Test.YtpehimjngofnkaaDoorProg
import Derived.WalkKit
import Derived.WalkSpells
import Derived.WalkLawsBesides
import Derived.Lib.Hide
import Derived.Deep.QuietTactic
import Derived.BigQuiet
import Derived.Test.YtpehimjngofnkaaDoorG2
namespace Go.Proofs.YtpehimjngofnkaaDoor
open Go.RowKit
set_option linter.unusedVariables false

/-- the text of a network with a switch the other way round -/
def turnN (ps : List (List UInt8)) (t : Int) : List UInt8 := if okSw ps t then joinN (frS ps.length (trnF ps (2 ^ t.toNat))) else []
theorem turnN_no {ps : List (List UInt8)} {t : Int} (h : okSw ps t = false) : turnN ps t = [] := by rw [turnN, h]; rfl
theorem turnN_yes {ps : List (List UInt8)} {k : Nat} (h : okSw ps (k : Int) = true) : turnN ps (k : Int) = joinN (frS ps.length (trnF ps (2 ^ k))) := by rw [turnN, if_pos h]; rfl
/-- a text and whether there is one -/
def txtV (l : List UInt8) (b : Bool) : Value := .tuple #[.string ⟨l.toArray⟩, .bool b]

theorem bit_xor_pow : ∀ y, y < 32 → ∀ i, i < 5 → ∀ k, k < 5 → bit (y ^^^ 2 ^ i) k = if k = i then 1 - bit y k else bit y k := by decide +kernel
/-- the value of a rule of the turned network -/
def turnV (ps : List (List UInt8)) (i k s : Nat) : Nat := bit (trnF ps (2 ^ i) s) k
theorem turnV_eq {ps : List (List UInt8)} (h : okN ps = true) {i k : Nat} (hi : i < ps.length) (hk : k < ps.length) (s : Nat) :
    turnV ps i k s = if k = i then 1 - val ps[k] (s ^^^ 2 ^ i) else val ps[k] (s ^^^ 2 ^ i) := by
  have h5 := okN_le h
  have hy : stp ps (s ^^^ 2 ^ i) < 32 := Nat.lt_of_lt_of_le (stp_lt h _) (two_le _ h5)
  have hb : bit (stp ps (s ^^^ 2 ^ i)) k = val ps[k] (s ^^^ 2 ^ i) := by
    rw [stp, bit_asm (nb_lt h _) k _ hk, nb_at _ hk]
  rw [turnV, trnF, bit_xor_pow _ hy i (by omega) k (by omega), hb]
def turnVs (ps : List (List UInt8)) (i k j : Nat) : List Nat := (List.range j).map (turnV ps i k)
theorem turnVs_len (ps : List (List UInt8)) (i k j : Nat) : (turnVs ps i k j).length = j := by simp [turnVs]
theorem turnVs_succ (ps : List (List UInt8)) (i k j : Nat) : ints (turnVs ps i k (j + 1)) = ints (turnVs ps i k j) ++ [(turnV ps i k j : Int)] := by
  rw [turnVs, turnVs, List.range_succ, List.map_append, ints_append]; rfl
theorem turnVs_lt (ps : List (List UInt8)) (i k j : Nat) : ∀ x ∈ turnVs ps i k j, x < 2 := by
  intro x hx
  simp only [turnVs, List.mem_map] at hx
  obtain ⟨s, _, rfl⟩ := hx
  exact bit_lt _ _
theorem turnVs_txt (ps : List (List UInt8)) (i k : Nat) (N : Nat) : chrs (turnVs ps i k N) = txt N fun s => bit (trnF ps (2 ^ i) s) k := by
  rw [chrs, turnVs, txt, List.map_map]; rfl
theorem frS_lens {n : Nat} (h5 : n ≤ 5) (f : Nat → Nat) : ∀ p ∈ frS n f, p.length ≤ 32 := by
  intro p hp
  simp only [frS, List.mem_map] at hp
  obtain ⟨k, _, rfl⟩ := hp
  rw [txt_length]; exact two_le n h5

theorem bytes_eqb (a : ByteArray) : (a != a) = false := by
  have := (MapKept.bytes_beq a a).2 rfl
  simp [bne, this]
end Go.Proofs.YtpehimjngofnkaaDoor
