/- Walks and plain facts, joined: Mn Wv Wn Wx Wy Y7 Y8 Wk Y9 Y5 F3 Mo. -/
import Derived.Test.YtfkdameegljkeaaDoorG1
import Derived.Lib.SplitLaws
import Derived.WalkKit
import Derived.WalkLawsBesides
import Derived.Test.YtfkdameegljkeaaDoorProg
import Derived.WalkSpells
import Derived.Lib.Hide
import Derived.Deep.QuietTactic
import Derived.BigQuiet
import Derived.Deep.WholeRow
import Derived.Deep.MidRow
import Derived.Test.YtfkdameegljkeaaDoorSh
import Derived.Deep.RegionHeld3
import Derived.Lib.Join
import Derived.Deep.RegionWith
import Derived.IntWalk
/- Plain facts on the texts of networks and on their steps. -/
namespace Go.Proofs.YtfkdameegljkeaaDoor
open Go.RowKit

/-- a text cut at every comma -/
def cutL : List UInt8 → List (List UInt8)
  | [] => [[]]
  | c :: l => if c = 44 then [] :: cutL l else (c :: (cutL l).headD []) :: (cutL l).tail
theorem cutL_ne : ∀ l : List UInt8, cutL l ≠ []
  | [] => by simp [cutL]
  | c :: l => by unfold cutL; split <;> simp
theorem cutL_eta (l : List UInt8) : (cutL l).headD [] :: (cutL l).tail = cutL l := by
  cases h : cutL l with
  | nil => exact absurd h (cutL_ne l)
  | cons a b => rfl
theorem cutL_no {p : List UInt8} (l : List UInt8) (h : ∀ c ∈ p, c ≠ 44) : cutL (p ++ l) = (p ++ (cutL l).headD []) :: (cutL l).tail := by
  induction p with
  | nil => rw [List.nil_append, List.nil_append, cutL_eta]
  | cons c p ih =>
    rw [List.cons_append, cutL, if_neg (h c (by simp)), ih (fun d hd => h d (by simp [hd]))]
    rfl
theorem cutL_end {p : List UInt8} (h : ∀ c ∈ p, c ≠ 44) : cutL p = [p] := by
  have := cutL_no (p := p) [] h
  simpa [cutL] using this
theorem cutL_comma {p : List UInt8} (l : List UInt8) (h : ∀ c ∈ p, c ≠ 44) : cutL (p ++ 44 :: l) = p :: cutL l := by
  rw [cutL_no _ h]
  simp [cutL]
theorem cut_cases : ∀ s : List UInt8, (∀ c ∈ s, c ≠ 44) ∨ ∃ p l, s = p ++ 44 :: l ∧ ∀ c ∈ p, c ≠ 44
  | [] => .inl (by simp)
  | c :: s => by
    by_cases hc : c = 44
    · exact .inr ⟨[], s, by simp [hc], by simp⟩
    · rcases cut_cases s with h | ⟨p, l, rfl, h⟩
      · exact .inl (fun d hd => (List.mem_cons.1 hd).elim (fun e => e ▸ hc) (h d))
      · exact .inr ⟨c :: p, l, rfl, fun d hd => (List.mem_cons.1 hd).elim (fun e => e ▸ hc) (h d)⟩
theorem index_no : ∀ {p : List UInt8}, (∀ c ∈ p, c ≠ 44) → Lib.index p [44] = -1
  | [], _ => rfl
  | c :: p, h => by
    have hc : ¬ (44 : UInt8) = c := fun e => h c (by simp) e.symm
    have ih := index_no (p := p) (fun d hd => h d (by simp [hd]))
    simp [Lib.index, ih, hc]
theorem index_at : ∀ {p : List UInt8} (l : List UInt8), (∀ c ∈ p, c ≠ 44) → Lib.index (p ++ 44 :: l) [44] = (p.length : Nat)
  | [], l, _ => by simp [Lib.index]
  | c :: p, l, h => by
    have hc : ¬ (44 : UInt8) = c := fun e => h c (by simp) e.symm
    have ih := index_at (p := p) l (fun d hd => h d (by simp [hd]))
    have hne : ¬ ((p.length : Nat) : Int) = -1 := by omega
    simp [Lib.index, ih, hc, hne]
theorem splitK_cut : ∀ (k : Nat) (s : List UInt8), Lib.count s [44] = k → Lib.splitK [44] 0 k s = cutL s := by
  intro k
  induction k with
  | zero =>
    intro s hk
    rcases cut_cases s with h | ⟨p, l, rfl, h⟩
    · rw [cutL_end h]; rfl
    · rw [Lib.count_hit (by simp) (index_at l h)] at hk; omega
  | succ k ih =>
    intro s hk
    rcases cut_cases s with h | ⟨p, l, rfl, h⟩
    · rw [Lib.count_miss (index_no h)] at hk; omega
    · rw [Lib.count_hit (by simp) (index_at l h)] at hk
      have e : (p ++ 44 :: l).drop (p.length + 1) = l := by
        rw [show p ++ 44 :: l = (p ++ [44]) ++ l by simp, List.drop_left' (by simp)]
      have e2 : (p ++ 44 :: l).drop (p.length + ([44] : List UInt8).length) = l := e
      rw [e2] at hk
      have hne : ¬ (((p.length : Nat) : Int) == -1) = true := by simp
      rw [cutL_comma l h, Lib.splitK, index_at l h, if_neg hne]
      have et : ((p.length : Nat) : Int).toNat = p.length := rfl
      rw [et, e2, Nat.add_zero, List.take_left' rfl, ih l (by omega)]
theorem splitB_cut (s : ByteArray) : (Lib.splitB ⟨#[44]⟩ 0 (Lib.countB s ⟨#[44]⟩) s).map (·.data.toList) = cutL s.data.toList := by
  rw [Lib.splitB_data]
  exact splitK_cut _ _ rfl
/-- the parts as strings -/
def cutB (s : ByteArray) : List ByteArray := (cutL s.data.toList).map fun l => ⟨l.toArray⟩
theorem str_of_list (s : ByteArray) : (⟨s.data.toList.toArray⟩ : ByteArray) = s := by cases s; simp
theorem splitB_cutB (s : ByteArray) : Lib.splitB ⟨#[44]⟩ 0 (Lib.countB s ⟨#[44]⟩) s = cutB s := by
  rw [cutB, ← splitB_cut, List.map_map]
  have : ((fun l : List UInt8 => (⟨l.toArray⟩ : ByteArray)) ∘ fun x : ByteArray => x.data.toList) = id := by
    funext x; exact str_of_list x
  rw [this, List.map_id]
theorem cutB_length (s : ByteArray) : (cutB s).length = (cutL s.data.toList).length := by simp [cutB]
theorem countB_cut (s : ByteArray) : Lib.countB s ⟨#[44]⟩ + 1 = (cutL s.data.toList).length := by
  rw [← cutB_length, ← splitB_cutB, Lib.splitB_all _ (by decide) 0 _ s rfl]
theorem cutL_len : ∀ l : List UInt8, (cutL l).length ≤ l.length + 1 ∧ 1 ≤ (cutL l).length
  | [] => by simp [cutL]
  | c :: l => by
    have := cutL_len l
    unfold cutL
    split <;> simp <;> omega
theorem cutL_part : ∀ (l p : List UInt8), p ∈ cutL l → p.length ≤ l.length
  | [], p, h => by simp [cutL] at h; simp [h]
  | c :: l, p, h => by
    unfold cutL at h
    split at h
    · rcases List.mem_cons.1 h with rfl | h
      · simp
      · have := cutL_part l p h; simp; omega
    · rcases List.mem_cons.1 h with rfl | h
      · have := cutL_part l ((cutL l).headD []) (by rw [← cutL_eta l]; simp)
        simp only [List.length_cons]; omega
      · have := cutL_part l p (List.mem_of_mem_tail h)
        simp only [List.length_cons]; omega

/-- are the parts the rules of a network? -/
def okN (ps : List (List UInt8)) : Bool := ps.all fun p => okT p && (tin p.length == ps.length)
theorem okN_of {ps : List (List UInt8)} (h : okN ps = true) {p : List UInt8} (hp : p ∈ ps) : okT p = true ∧ tin p.length = ps.length := by
  have := List.all_eq_true.1 h p hp
  simpa using this
theorem okN_bad {ps : List (List UInt8)} {p : List UInt8} (hp : p ∈ ps) (h : okT p = false ∨ ¬ tin p.length = ps.length) : okN ps = false := by
  by_cases hn : okN ps = true
  · have := okN_of hn hp
    rcases h with h | h
    · rw [h] at this; cases this.1
    · exact absurd this.2 h
  · simpa using hn
theorem okN_le {ps : List (List UInt8)} (h : okN ps = true) : ps.length ≤ 5 := by
  cases ps with
  | nil => simp
  | cons p ps =>
    have h2 := okN_of h (p := p) (by simp)
    have h3 := okT_true h2.1
    omega
/-- the value of a switch's rule in a state -/
def nb (ps : List (List UInt8)) (s i : Nat) : Nat := val (ps.getD i []) s
theorem nb_lt {ps : List (List UInt8)} (h : okN ps = true) (s i : Nat) : nb ps s i < 2 := by
  unfold nb
  by_cases hi : i < ps.length
  · rw [List.getD_eq_getElem?_getD, List.getElem?_eq_getElem hi, Option.getD_some]
    exact val_lt (okT_true (okN_of h (List.getElem_mem hi)).1).2.2.2 s
  · rw [List.getD_eq_getElem?_getD, List.getElem?_eq_none (by omega)]
    simp [val]
/-- the number whose digits are b -/
def asm (b : Nat → Nat) : Nat → Nat
  | 0 => 0
  | k + 1 => asm b k + b k * 2 ^ k
theorem asm_lt {b : Nat → Nat} (h : ∀ i, b i < 2) : ∀ k, asm b k < 2 ^ k
  | 0 => by simp [asm]
  | k + 1 => by
    have := asm_lt h k
    have hb := h k
    rw [asm, Nat.pow_succ]
    have : b k * 2 ^ k ≤ 1 * 2 ^ k := Nat.mul_le_mul_right _ (by omega)
    omega
theorem bit_add_mul (a v i k : Nat) (h : i < k) : bit (a + v * 2 ^ k) i = bit a i := by
  obtain ⟨m, rfl⟩ : ∃ m, k = i + (m + 1) := ⟨k - i - 1, by omega⟩
  rw [bit, bit, Nat.pow_add, Nat.pow_succ, show v * (2 ^ i * (2 ^ m * 2)) = 2 ^ i * (v * 2 ^ m * 2) by
    rw [← Nat.mul_assoc, Nat.mul_comm v, Nat.mul_assoc, ← Nat.mul_assoc v], Nat.add_mul_div_left _ _ (Nat.two_pow_pos i), Nat.add_mul_mod_self_right]
theorem bit_asm {b : Nat → Nat} (h : ∀ i, b i < 2) (i : Nat) : ∀ k, i < k → bit (asm b k) i = b i
  | 0, hk => by omega
  | k + 1, hk => by
    rw [asm]
    by_cases e : i = k
    · subst e
      rw [bit, Nat.add_mul_div_right _ _ (Nat.two_pow_pos i), Nat.div_eq_of_lt (asm_lt h i), Nat.zero_add]
      exact Nat.mod_eq_of_lt (h i)
    · rw [bit_add_mul _ _ _ _ (by omega), bit_asm h i k (by omega)]
theorem bit_top {x n : Nat} (h : x < 2 ^ (n + 1)) : x = x % 2 ^ n + bit x n * 2 ^ n := by
  have h1 := Nat.mod_add_div x (2 ^ n)
  have h2 : x / 2 ^ n < 2 := by rw [Nat.div_lt_iff_lt_mul (Nat.two_pow_pos n), Nat.mul_comm, ← Nat.pow_succ]; exact h
  rw [bit, Nat.mod_eq_of_lt h2, Nat.mul_comm]
  exact h1.symm
theorem bit_mod {x n i : Nat} (h : i < n) : bit (x % 2 ^ n) i = bit x i := by
  rw [bit_testBit, bit_testBit, Nat.testBit_mod_two_pow]
  simp [h]
theorem bit_ext : ∀ {n x y : Nat}, x < 2 ^ n → y < 2 ^ n → (∀ i, i < n → bit x i = bit y i) → x = y
  | 0, x, y, hx, hy, _ => by simp at hx hy; omega
  | n + 1, x, y, hx, hy, h => by
    have h1 := bit_ext (n := n) (Nat.mod_lt x (Nat.two_pow_pos n)) (Nat.mod_lt y (Nat.two_pow_pos n)) (fun i hi => by rw [bit_mod hi, bit_mod hi]; exact h i (by omega))
    rw [bit_top hx, bit_top hy, h1, h n (by omega)]
/-- a state in which a switch is held at a value -/
def holdN (s i v : Nat) : Nat := s - bit s i * 2 ^ i + v * 2 ^ i
theorem holdN_bit : ∀ s, s < 32 → ∀ i, i < 5 → ∀ v, v < 2 → ∀ j, j < 5 → bit (holdN s i v) j = if j = i then v else bit s j := by decide +kernel
theorem holdN_lt : ∀ n, n < 6 → ∀ s, s < 2 ^ n → ∀ i, i < n → ∀ v, v < 2 → holdN s i v < 2 ^ n := by decide +kernel
theorem hold_bits : ∀ s, s < 32 → ∀ i, i < 5 → ∀ v, v < 2 → bits .or .i64 (bits .andNot .i64 ((s : Nat) : Int) (wrap64 (2 ^ i))) (wrap64 (((v : Nat) : Int) * 2 ^ i)) = ((holdN s i v : Nat) : Int) := by decide +kernel
theorem or_bits : ∀ i, i < 5 → ∀ s, s < 2 ^ i → ∀ v, v < 2 → bits .or .i64 ((s : Nat) : Int) (wrap64 (((v : Nat) : Int) * 2 ^ i)) = ((s + v * 2 ^ i : Nat) : Int) := by decide +kernel
/-- a step of the switches of a set, up to switch k -/
def stW (b : Nat → Nat) (s W : Nat) : Nat → Nat
  | 0 => s
  | k + 1 => if bit W k = 1 then holdN (stW b s W k) k (b k) else stW b s W k
theorem stW_lt {b : Nat → Nat} (h : ∀ i, b i < 2) {n s W : Nat} (hn : n ≤ 5) (hs : s < 2 ^ n) : ∀ k, k ≤ n → stW b s W k < 2 ^ n
  | 0, _ => hs
  | k + 1, hk => by
    have ih := stW_lt h hn hs (W := W) k (by omega)
    rw [stW]
    split
    · exact holdN_lt n (by omega) _ ih k (by omega) _ (h k)
    · exact ih
theorem stW_bit {b : Nat → Nat} (h : ∀ i, b i < 2) {n s W : Nat} (hn : n ≤ 5) (hs : s < 2 ^ n) (j : Nat) (hj : j < n) : ∀ k, k ≤ n → bit (stW b s W k) j = if j < k ∧ bit W j = 1 then b j else bit s j
  | 0, _ => by simp [stW]
  | k + 1, hk => by
    have ih := stW_bit h hn hs (W := W) j hj k (by omega)
    have hl := stW_lt h hn hs (W := W) k (by omega)
    have h32 := two_le n hn
    rw [stW]
    by_cases hw : bit W k = 1
    · rw [if_pos hw, holdN_bit _ (by omega) k (by omega) _ (h k) j (by omega), ih]
      by_cases e : j = k
      · subst e; rw [if_pos rfl, if_pos ⟨by omega, hw⟩]
      · rw [if_neg e]
        by_cases hjk : j < k
        · simp [hjk, show j < k + 1 by omega]
        · simp [hjk, show ¬ j < k + 1 by omega]
    · rw [if_neg hw, ih]
      by_cases e : j = k
      · subst e; rw [if_neg (by omega), if_neg (fun h => hw h.2)]
      · by_cases hjk : j < k
        · simp [hjk, show j < k + 1 by omega]
        · simp [hjk, show ¬ j < k + 1 by omega]
theorem bit_all : ∀ n, n < 6 → ∀ j, j < n → bit (2 ^ n - 1) j = 1 := by decide +kernel
theorem bit_pow : ∀ i, i < 5 → ∀ j, j < 5 → bit (2 ^ i) j = if j = i then 1 else 0 := by decide +kernel
theorem stW_all {b : Nat → Nat} (h : ∀ i, b i < 2) {n s : Nat} (hn : n ≤ 5) (hs : s < 2 ^ n) : stW b s (2 ^ n - 1) n = asm b n :=
  bit_ext (stW_lt h hn hs n (Nat.le_refl _)) (asm_lt h n) fun j hj => by
    rw [stW_bit h hn hs j hj n (Nat.le_refl _), if_pos ⟨hj, bit_all n (by omega) j hj⟩, bit_asm h j n hj]
theorem stW_one {b : Nat → Nat} (h : ∀ i, b i < 2) {n s i : Nat} (hn : n ≤ 5) (hs : s < 2 ^ n) (hi : i < n) : stW b s (2 ^ i) n = holdN s i (b i) :=
  bit_ext (stW_lt h hn hs n (Nat.le_refl _)) (holdN_lt n (by omega) s hs i hi _ (h i)) fun j hj => by
    have h32 := two_le n hn
    rw [stW_bit h hn hs j hj n (Nat.le_refl _), holdN_bit s (by omega) i (by omega) _ (h i) j (by omega), bit_pow i (by omega) j (by omega)]
    by_cases e : j = i
    · subst e; simp [hj]
    · simp [e]
/-- the state after a step of all switches -/
def stp (ps : List (List UInt8)) (s : Nat) : Nat := asm (nb ps s) ps.length
/-- the state after a step of one switch -/
def stp1 (ps : List (List UInt8)) (s i : Nat) : Nat := holdN s i (nb ps s i)
theorem stp_lt {ps : List (List UInt8)} (h : okN ps = true) (s : Nat) : stp ps s < 2 ^ ps.length := asm_lt (nb_lt h s) _
theorem stp1_lt {ps : List (List UInt8)} (h : okN ps = true) {s i : Nat} (hs : s < 2 ^ ps.length) (hi : i < ps.length) : stp1 ps s i < 2 ^ ps.length :=
  holdN_lt _ (by have := okN_le h; omega) s hs i hi _ (nb_lt h s i)
theorem stp_of {ps : List (List UInt8)} (h : okN ps = true) {s : Nat} (hs : s < 2 ^ ps.length) : stW (nb ps s) s (2 ^ ps.length - 1) ps.length = stp ps s := stW_all (nb_lt h s) (okN_le h) hs
theorem stp1_of {ps : List (List UInt8)} (h : okN ps = true) {s i : Nat} (hs : s < 2 ^ ps.length) (hi : i < ps.length) : stW (nb ps s) s (2 ^ i) ps.length = stp1 ps s i := stW_one (nb_lt h s) (okN_le h) hs hi
/-- the states after a step of one restless switch, of the first k ones -/
def nextTo (ps : List (List UInt8)) (s : Nat) : Nat → List Nat
  | 0 => []
  | k + 1 => if stp1 ps s k = s then nextTo ps s k else nextTo ps s k ++ [stp1 ps s k]
def nextN (ps : List (List UInt8)) (s : Nat) : List Nat := nextTo ps s ps.length
theorem nextTo_len (ps : List (List UInt8)) (s : Nat) : ∀ k, (nextTo ps s k).length ≤ k
  | 0 => by simp [nextTo]
  | k + 1 => by
    have := nextTo_len ps s k
    rw [nextTo]
    split
    · omega
    · simp; omega
theorem nextTo_lt {ps : List (List UInt8)} (h : okN ps = true) {s : Nat} (hs : s < 2 ^ ps.length) : ∀ k, k ≤ ps.length → ∀ t ∈ nextTo ps s k, t < 2 ^ ps.length
  | 0, _, t, ht => by simp [nextTo] at ht
  | k + 1, hk, t, ht => by
    rw [nextTo] at ht
    split at ht
    · exact nextTo_lt h hs k (by omega) t ht
    · rcases List.mem_append.1 ht with ht | ht
      · exact nextTo_lt h hs k (by omega) t ht
      · simp at ht; subst ht; exact stp1_lt h hs (by omega)
/-- the cutting under way: done are the parts so far, the next one begins at fr, the byte at i comes next -/
def CutInv (l : List UInt8) (done : List (List UInt8)) (fr i : Nat) : Prop :=
  (i ≤ l.length ∧ fr ≤ i ∧ cutL l = done ++ cutL (l.drop fr) ∧ ∀ c ∈ (l.drop fr).take (i - fr), c ≠ 44) ∨ (i = l.length + 1 ∧ done = cutL l)
theorem cutInv_start (l : List UInt8) : CutInv l [] 0 0 := .inl ⟨Nat.zero_le _, Nat.le_refl _, by simp, by simp⟩
theorem cutInv_done {l : List UInt8} {done : List (List UInt8)} {fr i : Nat} (h : CutInv l done fr i) (hi : i = l.length + 1) : done = cutL l := by
  rcases h with h | h
  · omega
  · exact h.2
theorem take_next {l : List UInt8} {fr i : Nat} (h : fr ≤ i) (hi : i < l.length) : (l.drop fr).take (i + 1 - fr) = (l.drop fr).take (i - fr) ++ [l[i]] := by
  rw [show i + 1 - fr = (i - fr) + 1 by omega, List.take_add_one]
  have : (l.drop fr)[i - fr]? = some l[i] := by
    rw [List.getElem?_drop, show fr + (i - fr) = i by omega, List.getElem?_eq_getElem hi]
  rw [this]; rfl
theorem cutInv_skip {l : List UInt8} {done : List (List UInt8)} {fr i : Nat} (h : CutInv l done fr i) (hi : i < l.length) (hc : l[i] ≠ 44) : CutInv l done fr (i + 1) := by
  rcases h with ⟨h1, h2, h3, h4⟩ | h
  · refine .inl ⟨hi, by omega, h3, ?_⟩
    rw [take_next h2 hi]
    intro c hc'
    rcases List.mem_append.1 hc' with hc' | hc'
    · exact h4 c hc'
    · simp at hc'; exact hc' ▸ hc
  · omega
theorem drop_split {l : List UInt8} {fr i : Nat} (h : fr ≤ i) (hi : i < l.length) : l.drop fr = (l.drop fr).take (i - fr) ++ l[i] :: l.drop (i + 1) := by
  have h2 : (l.drop fr).drop (i - fr) = l[i] :: l.drop (i + 1) := by
    rw [List.drop_drop, show fr + (i - fr) = i by omega, List.drop_eq_getElem_cons hi]
  rw [← h2, List.take_append_drop]
theorem cutInv_cut {l : List UInt8} {done : List (List UInt8)} {fr i : Nat} (h : CutInv l done fr i) (hi : i < l.length) (hc : l[i] = 44) : CutInv l (done ++ [(l.drop fr).take (i - fr)]) (i + 1) (i + 1) := by
  rcases h with ⟨h1, h2, h3, h4⟩ | h
  · refine .inl ⟨hi, by omega, ?_, by simp⟩
    have hs := drop_split h2 hi
    rw [hc] at hs
    rw [h3, hs, cutL_comma _ h4, ← hs]
    simp
  · omega
theorem cutInv_end {l : List UInt8} {done : List (List UInt8)} {fr i : Nat} (h : CutInv l done fr i) (hi : i = l.length) : CutInv l (done ++ [(l.drop fr).take (i - fr)]) (i + 1) (i + 1) := by
  rcases h with ⟨h1, h2, h3, h4⟩ | h
  · refine .inr ⟨by omega, ?_⟩
    have e : (l.drop fr).take (i - fr) = l.drop fr := List.take_of_length_le (by rw [List.length_drop]; omega)
    rw [e] at h4 ⊢
    rw [h3, cutL_end h4]
  · omega
theorem ext_list (s : ByteArray) (a b : Nat) : (s.extract a b).data.toList = (s.data.toList.drop a).take (b - a) := by
  rw [ByteArray.data_extract, Array.toList_extract, List.extract_eq_take_drop]
/-- the number of inputs of a table of a length, -1 if there is none -/
def inN (len : Nat) : Int := if tin len = 0 then -1 else (tin len : Int)
theorem inN_yes {len : Nat} (h : ¬ tin len = 0) : inN len = (tin len : Int) := if_neg h
theorem inN_no {len : Nat} (h : tin len = 0) : inN len = -1 := if_pos h
/-- is it a network with this state? -/
def okSt (ps : List (List UInt8)) (t : Int) : Bool := okN ps && inW ps.length t
theorem okSt_true {ps : List (List UInt8)} {t : Int} (h : okSt ps t = true) : okN ps = true ∧ ∃ s : Nat, t = s ∧ s < 2 ^ ps.length := by
  rw [okSt, Bool.and_eq_true] at h
  have h2 := (inW_yes (N := 2 ^ ps.length) rfl).1 h.2
  exact ⟨h.1, t.toNat, by omega, by omega⟩
theorem okSt_of {ps : List (List UInt8)} {t : Int} {N : Nat} (h : okN ps = true) (hN : N = 2 ^ ps.length) : okSt ps t = (decide (0 ≤ t) && decide (t ≤ (N : Int) - 1)) := by
  rw [okSt, h, Bool.true_and, Bool.eq_iff_iff, inW_yes hN]
  simp; omega
theorem okSt_no {ps : List (List UInt8)} {t : Int} (h : okN ps = false) : okSt ps t = false := by rw [okSt, h]; rfl
theorem part_len {ps : List (List UInt8)} {N i : Nat} (h : okN ps = true) (hN : N = 2 ^ ps.length) (hi : i < ps.length) : ps[i].length = N := by
  have h1 := okN_of h (List.getElem_mem hi)
  rw [hN, ← h1.2]; exact (okT_true h1.1).2.2.1
theorem part_b01 {ps : List (List UInt8)} {i s : Nat} (h : okN ps = true) (hi : i < ps.length) (hs : s < ps[i].length) : b01 ps[i][s] = true :=
  (okT_true (okN_of h (List.getElem_mem hi)).1).2.2.2 _ (List.getElem_mem hs)
theorem nb_at {ps : List (List UInt8)} {i : Nat} (s : Nat) (hi : i < ps.length) : nb ps s i = val ps[i] s := by
  rw [nb, List.getD_eq_getElem?_getD, List.getElem?_eq_getElem hi, Option.getD_some]
theorem okN_take {ps : List (List UInt8)} {i : Nat} (hi : i < ps.length) (h : ((ps.take i).all fun p => okT p && (tin p.length == ps.length)) = true) (h1 : okT ps[i] = true) (h2 : tin ps[i].length = ps.length) :
    ((ps.take (i + 1)).all fun p => okT p && (tin p.length == ps.length)) = true := by
  rw [List.take_add_one, List.getElem?_eq_getElem hi, List.all_append, h]
  simp [h1, h2]
theorem str_size (l : List UInt8) : (⟨l.toArray⟩ : ByteArray).size = l.length := by simp [ByteArray.size]
theorem nextN_len {ps : List (List UInt8)} (h : okN ps = true) (s : Nat) : (nextN ps s).length ≤ 5 := Nat.le_trans (nextTo_len _ _ _) (okN_le h)
/-- how many steps of one restless switch there are from the first k states -/
def cntTo (ps : List (List UInt8)) : Nat → Nat
  | 0 => 0
  | k + 1 => cntTo ps k + (nextN ps k).length
theorem cntTo_le {ps : List (List UInt8)} (h : okN ps = true) : ∀ k, cntTo ps k ≤ 5 * k
  | 0 => by simp [cntTo]
  | k + 1 => by
    have := cntTo_le h k
    have := nextN_len h k
    rw [cntTo]; omega
def cntN (ps : List (List UInt8)) : Int := if okN ps then (cntTo ps (2 ^ ps.length) : Int) else -1
theorem cntN_yes {ps : List (List UInt8)} {N : Nat} (h : okN ps = true) (hN : N = 2 ^ ps.length) : cntN ps = (cntTo ps N : Int) := by rw [cntN, if_pos h, hN]
theorem cntN_no {ps : List (List UInt8)} (h : okN ps = false) : cntN ps = -1 := by rw [cntN, h]; rfl
end Go.Proofs.YtfkdameegljkeaaDoor

/- Walks of the reference's functions on the texts of networks. -/
namespace Go.Proofs.YtfkdameegljkeaaDoor
open Go.RowKit
set_option linter.unusedVariables false

theorem info_str : (Tryd.prog.info? 9).map (fun i => (i.zero, i.size, i.bytes)) = some (some (.string ByteArray.empty), 1, 16) := by kernel_rfl
/-- texts as values -/
def strs (ps : List (List UInt8)) : List Value := ps.map fun l => .string ⟨l.toArray⟩
theorem strs_append (a b : List (List UInt8)) : strs (a ++ b) = strs a ++ strs b := by simp [strs]
theorem strs_length (a : List (List UInt8)) : (strs a).length = a.length := by simp [strs]
theorem strs_get {ps : List (List UInt8)} {i : Nat} (h : i < ps.length) : (strs ps)[i]? = some (.string ⟨ps[i].toArray⟩) := by simp [strs, h]
/-- the value v is the call's own slice of the texts ps -/
def OS (w : World) (B : Nat) (e : TypeId) (v : Value) (ps : List (List UInt8)) : Prop := w.ownsRow B e 1 v ps.length (strs ps)
theorem OS.empty (w : World) (B : Nat) (e : TypeId) (hB : B ≤ w.heap.size) : OS (w.alloc (.cells #[] e)) B e (.slice (some ⟨w.heap.size, 0, none⟩) 0 0) [] :=
  World.ownsRow_made w #[] 0 hB (Nat.zero_le _) rfl
theorem OS.nil (w : World) (B : Nat) (e : TypeId) : OS w B e (.slice none 0 0) [] := World.ownsRow_nil w B e 1
theorem OS.below {w w' : World} {B : Nat} {e : TypeId} {v : Value} {ps : List (List UInt8)} (h : OS w B e v ps) (hb : Below w.heap.size w w') : OS w' B e v ps := ownsRow_below h hb
theorem OS.form {w : World} {B : Nat} {e : TypeId} {v : Value} {ps : List (List UInt8)} (h : OS w B e v ps) : ∃ A c, v = .slice A ps.length c ∧ ps.length ≤ c ∧ Own w B A (strs ps) := by
  rcases h.2 with ⟨rfl, h0⟩ | ⟨g, cap, cur, rfl, hB, hg, hn, rest⟩
  · exact ⟨none, 0, by rw [h0], by omega, .inl (by rw [List.eq_nil_of_length_eq_zero h0]; rfl)⟩
  · exact ⟨_, cap, rfl, hn, Own.of_own h⟩
theorem wp_pushS {P : Program} {wr : World} {ops : Array Oper} {rest : List Oper} {o : Oper} {a : Act} {Q : Exit → Act → World → Prop} (hgd : o.guard = none) (s x : Operand) (t : TypeId)
    (ho : o.op = .call { callee := .builtin .append, args := #[s, x], argTypes := #[t, t] })
    {B e : Nat} (ht : P.underlying t = some (.slice e)) (hinf : (P.info? e).map (fun i => (i.zero, i.size, i.bytes)) = some (some (.string ByteArray.empty), 1, 16))
    {v : Value} {ps : List (List UInt8)} {u : ByteArray} (hown : OS wr B e v ps) (hs : a.eval s = v) (hx : a.eval x = .slice (some ⟨wr.heap.size, 0, none⟩) 1 1)
    (hn : ps.length ≤ 1099511627776) (hB : B ≤ wr.heap.size)
    (h : ∀ v' w', OS w' B e v' (ps ++ [u.data.toList]) → (∀ B', B' ≤ B → Below B' wr w') → wr.heap.size ≤ w'.heap.size → wpList P ops Q rest (a.put o.dst v') w') :
    wpList P ops Q (o :: rest) a (wr.alloc (.cells #[.string u] e)) :=
  wp_push hgd s x t ho ht hinf rfl hown hs hx rfl hn (by omega) hB fun v' w' h1 h2 h3 => h v' w' (by unfold OS; simpa [strs] using h1) h2 h3
/-- it returns a slice of the texts ps, in memory from block B on -/
def RetS (B : Nat) (ps : List (List UInt8)) (e : Ending) (w' : World) : Prop := ∃ A c, e = .returned (.slice A ps.length c) ∧ ps.length ≤ c ∧ Own w' B A (strs ps)
theorem Rd.text {w : World} {A : Option Addr} {ps : List (List UInt8)} {j : Nat} (h : Rd w A (strs ps)) (hj : j < ps.length) : ∃ g off, A = some ⟨g, off, none⟩ ∧ w.cell? ⟨g, off + j, none⟩ = some (.string ⟨ps[j].toArray⟩) :=
  h.at_ (strs_get hj)

theorem l14Cut_any (s : ByteArray) (w : World) (hs : s.size ≤ 1073741824) :
    Calls Tryd.prog 93 #[.string s, .int .u8 44] w fun e w' => RetS w.heap.size (cutL s.data.toList) e w' ∧ Below w.heap.size w w' := by
  go_enter Tryd.func93, Tryd.ntmps93
  go_wp2
  go_loopw [5, 6, 7] (fun v q r wr => ∃ (fr i : Nat) (done : List (List UInt8)), q = .int .i64 fr ∧ r = .int .i64 i ∧ i ≤ s.size + 1 ∧ fr ≤ i ∧ done.length ≤ i ∧ Hid (OS wr w.heap.size 9 v done) ∧ Hid (CutInv s.data.toList done fr i) ∧ Below w.heap.size w wr) (fun _ _ r _ => s.size + 1 - (intOf r).toNat)
  case atStart => exact ⟨0, 0, [], rfl, rfl, Nat.zero_le _, Nat.zero_le _, Nat.zero_le _, Lib.hid (OS.empty _ _ _ (Nat.le_refl _)), Lib.hid (cutInv_start _), (Below.refl _ _).alloc (Nat.le_refl _) _⟩
  case round =>
    obtain ⟨fr, i, done, rfl, rfl, hi, hfr, hdl, HO, HC, hB⟩ := hrel
    have hsz := hB.size
    by_cases hend : i = s.size + 1
    · have HD := Lib.hid (cutInv_done HC.out (by simpa using hend))
      obtain ⟨A, c, hv, hc, hO⟩ := HO.out.form
      have HV := Lib.hid hv
      clear hv
      go_wp2
      go_ret
      exact ⟨⟨A, c, by rw [← HD.out, ← HV.out]; rfl, by rw [← HD.out]; exact hc, by rw [← HD.out]; exact hO⟩, hB⟩
    · have hi2 : i ≤ s.size := by omega
      by_cases hsz2 : i = s.size
      · have hd : ((i : Int) == (s.size : Int)) = true := by simp [hsz2]
        have HX : Hid (CutInv s.data.toList (done ++ [(s.extract fr s.size).data.toList]) (i + 1) (i + 1)) := Lib.hid (by
          have h := cutInv_end HC.out (by simpa using hsz2)
          rw [show s.extract fr s.size = s.extract fr i by rw [hsz2]]
          rwa [← ext_list] at h)
        go_wp2_with (at_builtin; refine wp_pushS rfl _ _ _ rfl Tryd.underlying36 info_str HO.out rfl rfl (by omega) hsz ?_; intro v' w3 hown hbel hsz3)
        go_roundw
        case rel => exact ⟨i + 1, i + 1, _, by go_num, by go_num, by omega, by omega, by simp; omega, Lib.hid hown, HX, hB.trans (hbel _ (Nat.le_refl _))⟩
        case measure => simp [intOf]; omega
      · have hlt : i < s.size := by omega
        have hd : ((i : Int) == (s.size : Int)) = false := by simp; omega
        by_cases hc : s[i] = 44
        · have hq : ((s[i].toNat : Int) == 44) = true := by simp [hc]
          have HX : Hid (CutInv s.data.toList (done ++ [(s.extract fr i).data.toList]) (i + 1) (i + 1)) := Lib.hid (by
            have h := cutInv_cut HC.out (by simpa using hlt) hc
            rwa [← ext_list] at h)
          clear hc
          go_wp2_with (at_builtin; refine wp_pushS rfl _ _ _ rfl Tryd.underlying36 info_str HO.out rfl rfl (by omega) hsz ?_; intro v' w3 hown hbel hsz3)
          go_roundw
          case rel => exact ⟨i + 1, i + 1, _, by go_num, by go_num, by omega, by omega, by simp; omega, Lib.hid hown, HX, hB.trans (hbel _ (Nat.le_refl _))⟩
          case measure => simp [intOf]; omega
        · have hq : ((s[i].toNat : Int) == 44) = false := by
            have : ¬ s[i].toNat = 44 := fun e => hc (UInt8.toNat_inj.1 e)
            simp; omega
          have HX : Hid (CutInv s.data.toList done fr (i + 1)) := Lib.hid (cutInv_skip HC.out (by simpa using hlt) hc)
          clear hc
          go_wp2_with fail
          go_roundw
          case rel => exact ⟨fr, i + 1, _, rfl, by go_num, by omega, by omega, by omega, HO, HX, hB⟩
          case measure => simp [intOf]; omega

theorem l1Inputs_any (n : Nat) (w : World) (hn : n ≤ 9223372036854775807) :
    Calls Tryd.prog 95 #[.int .i64 (n : Int)] w fun e w' => e = .returned (.int .i64 (inN n)) ∧ w = w' := by
  go_enter Tryd.func95, Tryd.ntmps95
  go_wp2
  go_loopw [3] (fun q wr => ∃ k : Nat, 1 ≤ k ∧ k ≤ 6 ∧ q = .int .i64 k ∧ Hid (∀ m, 1 ≤ m → m < k → ¬ n = 2 ^ m) ∧ wr = w) (fun q _ => 6 - (intOf q).toNat)
  case atStart => exact ⟨1, by omega, by omega, rfl, Lib.hid (fun m h1 h2 => by omega), rfl⟩
  case round =>
    obtain ⟨k, hk1, hk6, rfl, HA, rfl⟩ := hrel
    by_cases hlt : k ≤ 5
    · obtain ⟨N, HN, hN, hN32, hN0⟩ := wrap_two k hlt
      by_cases hs : n = N
      · have HT : Hid (inN n = k) := Lib.hid (by
          have ht := tin_pow k hk1 hlt
          rw [show n = 2 ^ k by rw [hs, HN.out], inN_yes (by omega), ht])
        have hd : ((n : Int) == (N : Int)) = true := by simp [hs]
        clear hs
        go_wp2_with fail
        simp only [hN]
        go_wp2_with fail
        go_ret
        exact ⟨by rw [HT.out]; rfl, rfl⟩
      · have hd : ((n : Int) == (N : Int)) = false := by simp; omega
        have HA2 : Hid (∀ m, 1 ≤ m → m < k + 1 → ¬ n = 2 ^ m) := Lib.hid (fun m h1 h2 => by
          by_cases e : m = k
          · subst e; have := HN.out; omega
          · exact HA.out m h1 (by omega))
        clear hs
        go_wp2_with fail
        go_roundw
        case rel => exact ⟨k + 1, by omega, by omega, by go_num, HA2, trivial⟩
        case measure => simp [intOf]; omega
    · have HT : Hid (inN n = -1) := Lib.hid (inN_no (tin_none _ (fun m h1 h5 => HA.out m h1 (by omega))))
      go_wp2_with fail
      go_ret
      exact ⟨by rw [HT.out]; rfl, rfl⟩

theorem sTableValid_any (f : ByteArray) (w : World) (hf : f.size ≤ 9223372036854775806) :
    Calls Tryd.prog 94 #[.string f] w fun e w' => e = .returned (.bool (okT f.data.toList)) ∧ w = w' := by
  go_enter Tryd.func94, Tryd.ntmps94
  go_wp2
  go_loopw [3] (fun q wr => ∃ i : Nat, i ≤ f.size ∧ q = .int .i64 i ∧ Hid ((f.data.toList.take i).all b01 = true) ∧ wr = w) (fun q _ => f.size - (intOf q).toNat)
  case atStart => exact ⟨0, Nat.zero_le _, rfl, Lib.hid rfl, rfl⟩
  case round =>
    obtain ⟨i, hi, rfl, HI, rfl⟩ := hrel
    by_cases hif : i < f.size
    · by_cases hb0 : b01 f[i] = true
      · have HI2 := Lib.hid (all_take_snoc hif HI.out hb0)
        have h01 : (f[i].toNat : Int) = 48 ∨ (f[i].toNat : Int) = 49 := by simp [b01] at hb0; omega
        clear hb0
        rcases h01 with h48 | h49
        · have hd1 : ((f[i].toNat : Int) != 48) = false := by simp [h48]
          clear h48
          go_wp2_with fail
          go_roundw
          case rel => exact ⟨i + 1, by omega, by go_num, HI2, trivial⟩
          case measure => simp [intOf]; omega
        · have hd1 : ((f[i].toNat : Int) != 48) = true := by simp [h49]
          have hd2 : ((f[i].toNat : Int) != 49) = false := by simp [h49]
          clear h49
          go_wp2_with fail
          go_roundw
          case rel => exact ⟨i + 1, by omega, by go_num, HI2, trivial⟩
          case measure => simp [intOf]; omega
      · have hb1 : b01 f[i] = false := by simpa using hb0
        have HO : Hid (okT f.data.toList = false) := Lib.hid (by
          have h := all_take_bad (p := b01) hif hb1
          rw [okT, h, Bool.and_false])
        have h48 : ¬ (f[i].toNat : Int) = 48 := fun e => by simp [b01] at hb1; omega
        have h49 : ¬ (f[i].toNat : Int) = 49 := fun e => by simp [b01] at hb1; omega
        clear hb0 hb1
        have hd1 : ((f[i].toNat : Int) != 48) = true := by simpa using h48
        have hd2 : ((f[i].toNat : Int) != 49) = true := by simpa using h49
        clear h48 h49
        go_wp2_with fail
        go_ret
        exact ⟨by rw [HO.out]; rfl, rfl⟩
    · have HI2 := HI.out
      rw [List.take_of_length_le (by simp; omega)] at HI2
      have HO : Hid (decide (0 < inN f.size) = okT f.data.toList) := Lib.hid (by
        rw [okT, HI2, Array.length_toList, ByteArray.size_data]
        by_cases h : tin f.size = 0
        · simp [inN_no h, h]
        · simp [inN_yes h, h]; omega)
      go_wp2_with fail
      refine (l1Inputs_any _ _ (by omega)).mono ?_
      rintro e w' ⟨rfl, rfl⟩
      go_wp2_with fail
      go_ret
      exact ⟨by rw [← HO.out]; rfl, rfl⟩

end Go.Proofs.YtfkdameegljkeaaDoor

/- Walks of the program's functions on networks. -/
namespace Go.Proofs.YtfkdameegljkeaaDoor
open Go.RowKit

/-- the values of a rule: 0 behind the last state -/
def tv (n : Nat) (p : List UInt8) (s : Nat) : Nat := if s < 2 ^ n then val p s else 0
def netT (n : Nat) (ps : List (List UInt8)) : List Value := ps.flatMap fun p => tabL n (tv n p)
/-- the cells of a network -/
def netL (ps : List (List UInt8)) : List Value := netT ps.length ps
theorem netT_append (n : Nat) (a b : List (List UInt8)) : netT n (a ++ b) = netT n a ++ netT n b := by simp [netT]
theorem netT_get (n : Nat) : ∀ (ps : List (List UInt8)) (i j : Nat) (hi : i < ps.length), j < 33 → (netT n ps)[33 * i + j]? = (tabL n (tv n ps[i]))[j]?
  | [], i, j, hi, _ => by simp at hi
  | p :: ps, 0, j, _, hj => by
    rw [netT, List.flatMap_cons, List.getElem?_append_left (by rw [tabL_length]; omega)]
    simp
  | p :: ps, i + 1, j, hi, hj => by
    have ih := netT_get n ps i j (by simpa using hi) hj
    rw [netT, List.flatMap_cons, List.getElem?_append_right (by rw [tabL_length]; omega), tabL_length, show 33 * (i + 1) + j - 33 = 33 * i + j by omega]
    exact ih
theorem tabOf_tv {l : List UInt8} {n : Nat} (h : okT l = true) (hn : tin l.length = n) : tabOf l = tabL n (tv n l) := tabOf_yes h hn
theorem tabOf_any (l : List UInt8) : ∃ m b, tabOf l = tabL m b ∧ (okT l = true → m = tin l.length) := by
  by_cases h : okT l = true
  · exact ⟨_, _, tabOf_tv h rfl, fun _ => rfl⟩
  · have h' : okT l = false := by simpa using h
    exact ⟨_, _, tabOf_no h', fun e => absurd e h⟩
/-- the value v is the call's own slice of the tables ps, n inputs each -/
def OT (w : World) (B : Nat) (v : Value) (n : Nat) (ps : List (List UInt8)) : Prop := w.ownsRow B 74 33 v ps.length (netT n ps)
theorem OT.nil (w : World) (B n : Nat) : OT w B (.slice none 0 0) n [] := World.ownsRow_nil w B _ 33
theorem OT.below {w w' : World} {B n : Nat} {v : Value} {ps : List (List UInt8)} (h : OT w B v n ps) (hb : Below w.heap.size w w') : OT w' B v n ps := ownsRow_below h hb
theorem OT.keepT {w w' : World} {B n g : Nat} {v : Value} {ps : List (List UInt8)} (h : OT w B v n ps) (hw : w.grownBy w' (some g)) (hne : ∀ c, v = .slice (some ⟨g, 0, none⟩) ps.length c → False) : OT w' B v n ps :=
  World.ownsRow.kept h hw (by
    rcases h.2 with ⟨rfl, _⟩ | ⟨g', cap, cur, rfl, hB, _⟩
    · exact .inl rfl
    · refine .inr ?_
      simp only [Value.ownBlock, ne_eq, Option.some.injEq]
      rintro rfl
      exact hne _ rfl)
theorem Own.of_ownT {w : World} {B e n c : Nat} {A : Option Addr} {vs : List Value} (h : w.ownsRow B e 33 (.slice A n c) n vs) : Own w B A vs := by
  rcases h.2 with ⟨hv, rfl⟩ | ⟨g, cap, cur, hv, hB, hg, hn, _, hsz, htake⟩
  · left; exact List.eq_nil_of_length_eq_zero (by simpa using h.1)
  · injection hv with hA _ _
    refine .inr ⟨g, 0, hA, hB, fun j v hj => ?_⟩
    rw [Nat.zero_add, cell_of_row w g j cur e (0, 0) hg]
    refine ⟨?_, by simp [World.frozen?, hg]⟩
    rw [← htake, List.getElem?_take] at hj
    split at hj
    · simpa using hj
    · cases hj
theorem OT.form {w : World} {B n : Nat} {v : Value} {ps : List (List UInt8)} (h : OT w B v n ps) : ∃ A c, v = .slice A ps.length c ∧ ps.length ≤ c ∧ Own w B A (netT n ps) := by
  rcases h.2 with ⟨rfl, h0⟩ | ⟨g, cap, cur, rfl, hB, hg, hn, rest⟩
  · exact ⟨none, 0, by rw [h0], by omega, .inl (by rw [List.eq_nil_of_length_eq_zero h0]; rfl)⟩
  · exact ⟨_, cap, rfl, hn, Own.of_ownT h⟩
theorem info_tab : (Tryd.prog.info? 74).map (fun i => (i.zero.isSome, i.zero.map (·.cells.size), i.size, i.bytes)) = some (true, some 33, 33, 40) := by kernel_rfl
theorem tab_bslice (n : Nat) (b : Nat → Nat) (W : World) : (Instr.buildSlice 46 1 #[(0, .agg (tabL n b).toArray)]).run Tryd.prog W = .ok (.slice (some ⟨W.heap.size, 0, none⟩) 1 1) (W.alloc (.cells (tabL n b).toArray 74)) := by kernel_rfl
theorem wpList_bslice_tab {ops : Array Oper} {rest : List Oper} {o : Oper} {a : Act} {w : World} {Q : Exit → Act → World → Prop} (hgd : o.guard = none) (x : Operand) (ho : o.op = .buildSlice 46 1 #[(0, x)]) (n : Nat) (b : Nat → Nat)
    (hx : a.eval x = .agg (tabL n b).toArray) (h : ∀ g w1, g = w.heap.size → w1 = w.alloc (.cells (tabL n b).toArray 74) → wpList Tryd.prog ops Q rest (a.put o.dst (.slice (some ⟨g, 0, none⟩) 1 1)) w1) : wpList Tryd.prog ops Q (o :: rest) a w :=
  wpList_plain hgd fun _ hK => by
    have e : ((#[(0, x)] : Array (Nat × Operand)).map fun (i, x) => (i, a.eval x)) = #[(0, .agg (tabL n b).toArray)] := by simp [hx]
    unfold Oper.wp execOp
    simp only [ho, e, Sem.run_bind, tab_bslice, Result.andThen_ok]
    exact hK _ _ (h _ _ rfl rfl)
theorem wp_pushT {wr : World} {ops : Array Oper} {rest : List Oper} {o : Oper} {a : Act} {Q : Exit → Act → World → Prop} (hgd : o.guard = none) (s x : Operand)
    (ho : o.op = .call { callee := .builtin .append, args := #[s, x], argTypes := #[46, 46] })
    {B n g : Nat} {W : World} {v : Value} {ps : List (List UInt8)} {p : List UInt8} (hg : g = wr.heap.size) (hW : W = wr.alloc (.cells (tabL n (tv n p)).toArray 74)) (hown : OT wr B v n ps) (hs : a.eval s = v) (hx : a.eval x = .slice (some ⟨g, 0, none⟩) 1 1)
    (hn : ps.length ≤ 1048576) (hB : B ≤ wr.heap.size)
    (h : ∀ v' w', OT w' B v' n (ps ++ [p]) → (∀ B', B' ≤ B → Below B' wr w') → wr.heap.size ≤ w'.heap.size → wpList Tryd.prog ops Q rest (a.put o.dst v') w') :
    wpList Tryd.prog ops Q (o :: rest) a W := by
  subst hg hW
  have hi0 := info_tab
  cases hi : Tryd.prog.info? 74 with
  | none => rw [hi] at hi0; cases hi0
  | some i =>
    rw [hi, Option.map_some, Option.some.injEq, Prod.mk.injEq, Prod.mk.injEq, Prod.mk.injEq] at hi0
    obtain ⟨h1, h2, h3, h4⟩ := hi0
    obtain ⟨z, hz⟩ := Option.isSome_iff_exists.1 h1
    rw [hz, Option.map_some, Option.some.injEq] at h2
    refine wpList_append_own _ hgd s x _ ho B 74 i z 33 40 Tryd.underlying46 hi hz h3 h4 h2 (by omega) v ps.length (netT n ps) hs (hown.alloc _) ⟨wr.heap.size, 0, none⟩ 1 1 (tabL n (tv n p)) hx (by rw [tabL_length]) ?_ (tabL_one _ _) (by simp only [maxLen]; omega) (by omega) (by rw [alloc_size]; omega) ?_
    · intro j u hj
      rw [Addr.add_mid, Nat.zero_add, cell_new, List.getElem?_toArray]
      exact hj
    · intro v' w' h1 h2 _
      refine h v' w' (by unfold OT; rw [netT_append, List.length_append]; simpa [netT] using h1) (fun B' hB' => ?_) ?_
      · have hb0 : Below B' wr (wr.alloc (.cells (tabL n (tv n p)).toArray 74)) := (Below.refl _ _).alloc (by omega) _
        refine hb0.grown h2 (by rw [alloc_size]; omega) ?_
        intro k hk
        have := (hown.lt k hk).1
        omega
      · have := h2.size
        rw [alloc_size] at this
        omega

/-- the cell that strings.Split reads -/
def HasM (w : World) : Prop := ∃ m, w.cell? ⟨0, 0, none⟩ = some (.int .i64 m)
theorem HasM.below {w w' : World} (h : HasM w) (hb : Below w.heap.size w w') : HasM w' := by
  obtain ⟨m, hm⟩ := h
  exact ⟨m, (World.cell?_of_block (w := w) (hb.block _ (World.block_lt_of_cell? w _ hm))).trans hm⟩
theorem split_any (s : ByteArray) (w : World) (hm : HasM w) (hs : s.size < 4294967281) :
    Calls Tryd.prog 58 #[.string s, .string { data := #[44] }] w fun e w' => RetS w.heap.size (cutL s.data.toList) e w' ∧ Below w.heap.size w w' := by
  obtain ⟨m, hm⟩ := hm
  refine (Tryd.strings_Split s { data := #[44] } m w hs hm (by decide)).mono ?_
  rintro e w' ⟨rfl, rfl⟩
  rw [splitB_cutB, countB_cut]
  have e : (cutB s).map Value.string = strs (cutL s.data.toList) := by simp [cutB, strs]
  rw [e]
  exact ⟨⟨_, _, rfl, Nat.le_refl _, Own.lit w _ _ (Nat.le_refl _)⟩, (Below.refl _ _).alloc (Nat.le_refl _) _⟩

theorem readTableL (l : List UInt8) (w : World) (hf : l.length ≤ 9223372036854775807) :
    Calls Tryd.prog 59 #[.string ⟨l.toArray⟩] w fun e w' => e = .returned (.tuple #[.agg (tabOf l).toArray, .bool (okT l)]) ∧ Below w.heap.size w w' := by
  have h := readTable_any ⟨l.toArray⟩ w (by rw [str_size]; exact hf)
  simpa using h

/-- what the reading of a network hands back -/
def NetP (B : Nat) (ps : List (List UInt8)) (e : Ending) (w' : World) : Prop :=
  ∃ A k c, e = .returned (.tuple #[.slice A k c, .bool (okN ps)]) ∧ (okN ps = true → k = ps.length ∧ ps.length ≤ c ∧ Own w' B A (netL ps))
set_option maxHeartbeats 1000000 in
theorem readNetwork_any (s : ByteArray) (w : World) (hm : Hid (HasM w)) (hs : s.size ≤ 1073741824) :
    Calls Tryd.prog 27 #[.string s] w fun e w' => NetP w.heap.size (cutL s.data.toList) e w' ∧ Below w.heap.size w w' := by
  have hcl := cutL_len s.data.toList
  have HPL := Lib.hid (cutL_part s.data.toList)
  rw [show s.data.toList.length = s.size from by simp] at hcl HPL
  obtain ⟨ps, HPS⟩ : ∃ ps, Hid (ps = cutL s.data.toList) := ⟨_, rfl⟩
  rw [← HPS.out] at hcl HPL ⊢
  by_cases h5 : ps.length ≤ 5
  · go_enter Tryd.func27, Tryd.ntmps27
    go_wp2_with fail
    refine (split_any s w hm.out (by omega)).mono ?_
    rintro e w1 ⟨⟨A, c, rfl, hc, hO⟩, hB1⟩
    rw [← HPS.out] at hc hO ⊢
    have HO := Lib.hid hO
    have hz1 := hB1.size
    clear hO
    go_wp2
    go_loopw [5, 17] (fun v q wr => ∃ i : Nat, i ≤ ps.length ∧ q = .int .i64 i ∧ Hid (((ps.take i).all fun p => okT p && (tin p.length == ps.length)) = true) ∧ Hid (OT wr w1.heap.size v ps.length (ps.take i)) ∧ Below w1.heap.size w1 wr) (fun _ q _ => ps.length - (intOf q).toNat)
    case atStart => exact ⟨0, Nat.zero_le _, rfl, Lib.hid rfl, Lib.hid (OT.nil _ _ _), Below.refl _ _⟩
    case round =>
      obtain ⟨i, hi, rfl, HI, HT, hB⟩ := hrel
      have hsz := hB.size
      by_cases hil : i < ps.length
      · obtain ⟨g, off, hA, hcell0⟩ := HO.out.rd.text hil
        subst hA
        have hcell : wr.cell? ⟨g, off + i, none⟩ = some (.string ⟨ps[i].toArray⟩) := (World.cell?_of_block (w := w1) (hB.block _ (World.block_lt_of_cell? w1 _ hcell0))).trans hcell0
        have hpl : ps[i].length ≤ s.size := HPL.out _ (List.getElem_mem hil)
        have hrt := readTableL ps[i] wr (by omega)
        clear hcell0
        by_cases h1 : okT ps[i] = true
        · rw [h1] at hrt
          by_cases h2 : tin ps[i].length = ps.length
          · rw [tabOf_tv h1 h2] at hrt
            have HI2 := Lib.hid (okN_take hil HI.out h1 h2)
            have HTK : Hid (ps.take (i + 1) = ps.take i ++ [ps[i]]) := Lib.hid (by rw [List.take_add_one, List.getElem?_eq_getElem hil]; rfl)
            have hlt5 : (ps.take i).length ≤ 5 := by rw [List.length_take]; omega
            clear h1 h2
            go_wp2_with (first
              | (go_at_call 59; refine hrt.mono ?_; rintro e w2 ⟨rfl, hB2⟩)
              | ((with_reducible refine wpStop (o := ⟨some 8, _, _, _, _, _⟩) ?_); refine ⟨?_⟩; refine wpList_alloc_blk rfl _ rfl _ (tab_alloc _) ?_; intro g3 w3 hg3 hb3 hB3)
              | ((with_reducible refine wpStop (o := ⟨none, Op.store 74 _ _, _, _, _, _⟩) ?_); refine ⟨?_⟩; refine wpList_store_blk rfl _ _ _ rfl rfl rfl hb3 (tab_fits _ _) (tab_same _ _ _ _) (tab_all _ _) ?_; intro w4 hb4 ho4; have hB24 : Below w2.heap.size w2 w4 := (hB3 _ (Nat.le_refl _)).trans (Below.of_grown ho4 hg3 (hB3 0 (Nat.zero_le _)).size); have hc4 : w4.cell? ⟨g3, 0, none⟩ = some (.int .i64 (ps.length : Int)) := (hb4.cell 0).trans rfl)
              | ((with_reducible refine wpStop (o := ⟨some 36, _, _, _, _, _⟩) ?_); refine ⟨?_⟩; refine wpList_load_blk rfl _ _ rfl rfl hb4 Tryd.underlying74 rfl (tab_fits _ _) ?_)
              | ((with_reducible refine wpStop (o := ⟨some 37, _, _, _, _, _⟩) ?_); refine ⟨?_⟩; refine wpList_bslice_tab rfl _ rfl _ _ rfl ?_; intro g5 w5 hg5 hw5)
              | ((with_reducible refine wpStop (o := ⟨some 38, _, _, _, _, _⟩) ?_); refine ⟨?_⟩; refine wp_pushT rfl _ _ rfl hg5 hw5 ((HT.out.below hB2).below hB24) rfl rfl (by omega) (by have := hB24.size; have := hB2.size; omega) ?_; clear hg5 hw5; intro v' w6 hown hbel hsz6))
            go_roundw
            case rel => exact ⟨i + 1, by omega, by go_num, HI2, Lib.hid (by rw [HTK.out]; exact hown), hB.trans ((hB2.mono hsz).trans ((hB24.mono (by have := hB2.size; omega)).trans (hbel _ (Nat.le_refl _))))⟩
            case measure => simp [intOf]; omega
          · have hd : ((tin ps[i].length : Int) != (ps.length : Int)) = true := by simp; omega
            have HN : Hid (okN ps = false) := Lib.hid (okN_bad (List.getElem_mem hil) (.inr h2))
            rw [tabOf_tv h1 rfl] at hrt
            clear h1 h2
            go_wp2_with (first
              | (go_at_call 59; refine hrt.mono ?_; rintro e w2 ⟨rfl, hB2⟩)
              | ((with_reducible refine wpStop (o := ⟨some 8, _, _, _, _, _⟩) ?_); refine ⟨?_⟩; refine wpList_alloc_blk rfl _ rfl _ (tab_alloc _) ?_; intro g3 w3 hg3 hb3 hB3)
              | ((with_reducible refine wpStop (o := ⟨none, Op.store 74 _ _, _, _, _, _⟩) ?_); refine ⟨?_⟩; refine wpList_store_blk rfl _ _ _ rfl rfl rfl hb3 (tab_fits _ _) (tab_same _ _ _ _) (tab_all _ _) ?_; intro w4 hb4 ho4; have hB24 : Below w2.heap.size w2 w4 := (hB3 _ (Nat.le_refl _)).trans (Below.of_grown ho4 hg3 (hB3 0 (Nat.zero_le _)).size); have hc4 : w4.cell? ⟨g3, 0, none⟩ = some (.int .i64 (tin ps[i].length : Int)) := (hb4.cell 0).trans rfl))
            go_ret2
            exact ⟨⟨_, _, _, by rw [HN.out]; rfl, fun h => by rw [HN.out] at h; cases h⟩, hB1.trans ((hB.trans ((hB2.mono hsz).trans (hB24.mono (by have := hB2.size; omega)))).mono hz1)⟩
        · have h1' : okT ps[i] = false := by simpa using h1
          have HN : Hid (okN ps = false) := Lib.hid (okN_bad (List.getElem_mem hil) (.inl h1'))
          rw [h1', tabOf_no h1'] at hrt
          clear h1 h1'
          go_wp2_with (first
            | (go_at_call 59; refine hrt.mono ?_; rintro e w2 ⟨rfl, hB2⟩)
            | ((with_reducible refine wpStop (o := ⟨some 8, _, _, _, _, _⟩) ?_); refine ⟨?_⟩; refine wpList_alloc_blk rfl _ rfl _ (tab_alloc _) ?_; intro g3 w3 hg3 hb3 hB3)
            | ((with_reducible refine wpStop (o := ⟨none, Op.store 74 _ _, _, _, _, _⟩) ?_); refine ⟨?_⟩; refine wpList_store_blk rfl _ _ _ rfl rfl rfl hb3 (tab_fits _ _) (tab_same _ _ _ _) (tab_all _ _) ?_; intro w4 hb4 ho4; have hB24 : Below w2.heap.size w2 w4 := (hB3 _ (Nat.le_refl _)).trans (Below.of_grown ho4 hg3 (hB3 0 (Nat.zero_le _)).size)))
          go_ret2
          exact ⟨⟨_, _, _, by rw [HN.out]; rfl, fun h => by rw [HN.out] at h; cases h⟩, hB1.trans ((hB.trans ((hB2.mono hsz).trans (hB24.mono (by have := hB2.size; omega)))).mono hz1)⟩
      · have HN : Hid (okN ps = true) := Lib.hid (by
          have h := HI.out
          rw [List.take_of_length_le (by omega)] at h
          exact h)
        have hin : i = ps.length := by omega
        subst hin
        have hT := HT.out
        rw [List.take_of_length_le (Nat.le_refl _)] at hT
        obtain ⟨A', c', hv, hc', hO'⟩ := hT.form
        have HV := Lib.hid hv
        clear hv hT
        go_wp2_with fail
        go_ret2
        exact ⟨⟨A', ps.length, c', by rw [HN.out, ← HV.out]; rfl, fun _ => ⟨rfl, hc', hO'.mono hz1⟩⟩, hB1.trans (hB.mono hz1)⟩
  · have HN : Hid (okN ps = false) := Lib.hid (by
      by_cases h : okN ps = true
      · exact absurd (okN_le h) h5
      · simpa using h)
    go_enter Tryd.func27, Tryd.ntmps27
    go_wp2_with fail
    refine (split_any s w hm.out (by omega)).mono ?_
    rintro e w1 ⟨⟨A, c, rfl, hc, hO⟩, hB1⟩
    rw [← HPS.out] at hc hO ⊢
    clear hO
    go_wp2
    go_ret2
    exact ⟨⟨_, _, _, by rw [HN.out]; rfl, fun h => by rw [HN.out] at h; cases h⟩, hB1⟩

end Go.Proofs.YtfkdameegljkeaaDoor

/- Walks of the reference's functions on the steps of networks. -/
namespace Go.Proofs.YtfkdameegljkeaaDoor
open Go.RowKit

theorem sTableValidL (l : List UInt8) (w : World) (hf : l.length ≤ 9223372036854775806) :
    Calls Tryd.prog 94 #[.string ⟨l.toArray⟩] w fun e w' => e = .returned (.bool (okT l)) ∧ w = w' := by
  have h := sTableValid_any ⟨l.toArray⟩ w (by rw [str_size]; exact hf)
  simpa using h

/-- what the opening of a network's text hands back -/
def OpnS (B : Nat) (ps : List (List UInt8)) (e : Ending) (w' : World) : Prop :=
  ∃ A k c, e = .returned (.tuple #[.slice A k c, .bool (okN ps)]) ∧ (okN ps = true → k = ps.length ∧ ps.length ≤ c ∧ Own w' B A (strs ps))
set_option maxHeartbeats 400000 in
theorem l3Open_any (s : ByteArray) (w : World) (hs : s.size ≤ 1073741824) :
    Calls Tryd.prog 69 #[.string s] w fun e w' => OpnS w.heap.size (cutL s.data.toList) e w' ∧ Below w.heap.size w w' := by
  have hcl := cutL_len s.data.toList
  have HPL := Lib.hid (cutL_part s.data.toList)
  rw [show s.data.toList.length = s.size from by simp] at hcl HPL
  obtain ⟨ps, HPS⟩ : ∃ ps, Hid (ps = cutL s.data.toList) := ⟨_, rfl⟩
  rw [← HPS.out] at hcl HPL ⊢
  go_enter Tryd.func69, Tryd.ntmps69
  go_wp2_with fail
  refine (l14Cut_any s w hs).mono ?_
  rintro e w1 ⟨⟨A, c, rfl, hc, hO⟩, hB1⟩
  rw [← HPS.out] at hc hO ⊢
  have HO := Lib.hid hO
  have hz1 := hB1.size
  clear hO
  go_wp2
  go_loopw [5] (fun q wr => ∃ i : Nat, i ≤ ps.length ∧ q = .int .i64 i ∧ Hid (((ps.take i).all fun p => okT p && (tin p.length == ps.length)) = true) ∧ wr = w1) (fun q _ => ps.length - (intOf q).toNat)
  case atStart => exact ⟨0, Nat.zero_le _, rfl, Lib.hid rfl, rfl⟩
  case round =>
    obtain ⟨i, hi, rfl, HI, rfl⟩ := hrel
    by_cases hil : i < ps.length
    · obtain ⟨g, off, hA, hcell⟩ := HO.out.rd.text hil
      have HA := Lib.hid hA
      have hpl : ps[i].length ≤ s.size := HPL.out _ (List.getElem_mem hil)
      subst hA
      by_cases h1 : okT ps[i] = true
      · by_cases h2 : tin ps[i].length = ps.length
        · have HI2 := Lib.hid (okN_take hil HI.out h1 h2)
          have hd : (inN ps[i].length != (ps.length : Int)) = false := by
            rw [inN_yes (by rw [h2]; omega), h2]; exact bne_self_eq_false _
          have h1' := h1
          clear h1 h2
          go_wp2_with (first
            | (go_at_call 94; refine (sTableValidL ps[i] _ (by omega)).mono ?_; rintro e w2 ⟨rfl, rfl⟩; rw [h1'])
            | (go_at_call 95; refine (l1Inputs_any _ _ (by omega)).mono ?_; rintro e w3 ⟨rfl, rfl⟩))
          go_roundw
          case rel => exact ⟨i + 1, by omega, by go_num, HI2, trivial⟩
          case measure => simp [intOf]; omega
        · have hd : (inN ps[i].length != (ps.length : Int)) = true := by
            unfold inN
            split
            · simp
            · simp; omega
          have HN : Hid (okN ps = false) := Lib.hid (okN_bad (List.getElem_mem hil) (.inr h2))
          have h1' := h1
          clear h1 h2
          go_wp2_with (first
            | (go_at_call 94; refine (sTableValidL ps[i] _ (by omega)).mono ?_; rintro e w2 ⟨rfl, rfl⟩; rw [h1'])
            | (go_at_call 95; refine (l1Inputs_any _ _ (by omega)).mono ?_; rintro e w3 ⟨rfl, rfl⟩))
          go_ret2
          exact ⟨⟨_, _, _, by rw [HN.out]; rfl, fun h => by rw [HN.out] at h; cases h⟩, hB1.alloc (by omega) _⟩
      · have h1' : okT ps[i] = false := by simpa using h1
        have HN : Hid (okN ps = false) := Lib.hid (okN_bad (List.getElem_mem hil) (.inl h1'))
        clear h1
        go_wp2_with (go_at_call 94; refine (sTableValidL ps[i] _ (by omega)).mono ?_; rintro e w2 ⟨rfl, rfl⟩; rw [h1'])
        go_ret2
        exact ⟨⟨_, _, _, by rw [HN.out]; rfl, fun h => by rw [HN.out] at h; cases h⟩, hB1.alloc (by omega) _⟩
    · have HN : Hid (okN ps = true) := Lib.hid (by
        have h := HI.out
        rw [List.take_of_length_le (by omega)] at h
        exact h)
      go_wp2_with fail
      go_ret2
      exact ⟨⟨_, _, _, by rw [HN.out]; rfl, fun _ => ⟨rfl, hc, HO.out⟩⟩, hB1⟩

theorem l1At_any (l : List UInt8) (s : Nat) (w : World) (hs : s < l.length) (hb : Hid (b01 l[s] = true)) :
    Calls Tryd.prog 98 #[.string ⟨l.toArray⟩, .int .i64 (s : Int)] w fun e w' => e = .returned (.int .i64 (val l s : Int)) ∧ w = w' := by
  have hr : 48 ≤ (l[s].toNat : Int) ∧ (l[s].toNat : Int) ≤ 49 := by have := hb.out; simp [b01] at this; omega
  obtain ⟨hr1, hr2⟩ := hr
  have hv : Hid ((val l s : Int) = (l[s].toNat : Int) - 48) := Lib.hid (by rw [val_get hs]; omega)
  have hs2 : s < (⟨l.toArray⟩ : ByteArray).size := by rw [str_size]; exact hs
  have he : (⟨l.toArray⟩ : ByteArray)[s] = l[s] := by rfl
  go_enter Tryd.func98, Tryd.ntmps98
  go_wp2
  go_ret
  exact ⟨ret_int hv.out.symm, rfl⟩

theorem l1Set_any (s i v : Nat) (w : World) (hs : s < 32) (hi : i < 5) (hv : v < 2) :
    Calls Tryd.prog 117 #[.int .i64 (s : Int), .int .i64 (i : Int), .int .i64 (v : Int)] w fun e w' => e = .returned (.int .i64 (holdN s i v : Int)) ∧ w = w' := by
  have hb := hold_bits s hs i hi v hv
  go_enter Tryd.func117, Tryd.ntmps117
  go_wp2
  go_ret
  exact ⟨rfl, rfl⟩

theorem l3All_any (A : Option Addr) (n c N : Nat) (w : World) (hn : n ≤ 5) (HN : Hid (N = 2 ^ n)) :
    Calls Tryd.prog 67 #[.slice A n c] w fun e w' => e = .returned (.int .i64 ((N : Int) - 1)) ∧ w = w' := by
  have hN : wrap64 ((2 : Int) ^ n) = (N : Int) := by
    rw [HN.out, show ((2 : Int) ^ n) = ((2 ^ n : Nat) : Int) by simp]
    exact wrap64_small _ (two_le n hn)
  have hN32 : N ≤ 32 := by rw [HN.out]; exact two_le n hn
  go_enter Tryd.func67, Tryd.ntmps67
  go_wp2
  simp only [hN]
  go_ret
  exact ⟨rfl, rfl⟩

/-- what the opening of a network's text at a state hands back -/
def StS (B : Nat) (ps : List (List UInt8)) (t : Int) (e : Ending) (w' : World) : Prop :=
  ∃ A k c, e = .returned (.tuple #[.slice A k c, .bool (okSt ps t)]) ∧ (okSt ps t = true → k = ps.length ∧ ps.length ≤ c ∧ Own w' B A (strs ps))
theorem l3State_any (s : ByteArray) (t : Int) (w : World) (hs : s.size ≤ 1073741824) :
    Calls Tryd.prog 63 #[.string s, .int .i64 t] w fun e w' => StS w.heap.size (cutL s.data.toList) t e w' ∧ Below w.heap.size w w' := by
  obtain ⟨ps, HPS⟩ : ∃ ps, Hid (ps = cutL s.data.toList) := ⟨_, rfl⟩
  rw [← HPS.out]
  by_cases h : okN ps = true
  · obtain ⟨N, HN, hN, hN32, hN0⟩ := wrap_two ps.length (okN_le h)
    have HST := Lib.hid (okSt_of (t := t) h HN.out)
    have hn5 := okN_le h
    have HOK := Lib.hid h
    clear h
    go_enter Tryd.func63, Tryd.ntmps63
    go_wp2_with fail
    refine (l3Open_any s w hs).mono ?_
    rintro e w1 ⟨⟨A, k, c, rfl, himp⟩, hB1⟩
    rw [← HPS.out] at himp ⊢
    obtain ⟨rfl, hc, hO⟩ := himp HOK.out
    rw [HOK.out]
    have HO := Lib.hid hO
    clear hO himp
    go_wp2_with fail
    refine (l3All_any _ _ _ N _ hn5 HN).mono ?_
    rintro e w2 ⟨rfl, rfl⟩
    go_wp2_with fail
    refine (l1In_any _ _ _ _).mono ?_
    rintro e w2 ⟨rfl, rfl⟩
    go_wp2
    go_ret2
    exact ⟨⟨_, _, _, by rw [HST.out]; rfl, fun _ => ⟨rfl, hc, HO.out⟩⟩, hB1⟩
  · have h' : okN ps = false := by simpa using h
    have HST := Lib.hid (okSt_no (t := t) h')
    have HOK := Lib.hid h'
    clear h h'
    go_enter Tryd.func63, Tryd.ntmps63
    go_wp2_with fail
    refine (l3Open_any s w hs).mono ?_
    rintro e w1 ⟨⟨A, k, c, rfl, himp⟩, hB1⟩
    clear himp
    rw [← HPS.out, HOK.out]
    go_wp2
    go_ret2
    exact ⟨⟨_, _, _, by rw [HST.out]; rfl, fun h => by rw [HST.out] at h; cases h⟩, hB1⟩

theorem l3Step_any (A : Option Addr) (c : Nat) (ps : List (List UInt8)) (s W : Nat) (w : World) (hx : Hid (Rd w A (strs ps))) (hok : Hid (okN ps = true)) (hs : Hid (s < 2 ^ ps.length)) (hW : W < 32) :
    Calls Tryd.prog 109 #[.slice A ps.length c, .int .i64 (s : Int), .int .i64 (W : Int)] w fun e w' => e = .returned (.int .i64 (stW (nb ps s) s W ps.length : Int)) ∧ w = w' := by
  have hn5 := okN_le hok.out
  obtain ⟨N, HN, hN, hN32, hN0⟩ := wrap_two ps.length hn5
  have hsN : s < N := by rw [HN.out]; exact hs.out
  have HLT := Lib.hid (fun k hk => stW_lt (W := W) (nb_lt hok.out s) hn5 hs.out k hk)
  rw [← HN.out] at HLT
  go_enter Tryd.func109, Tryd.ntmps109
  go_wp2
  go_loopw [7, 8] (fun v q wr => ∃ k o : Nat, k ≤ ps.length ∧ q = .int .i64 k ∧ v = .int .i64 o ∧ Hid (o = stW (nb ps s) s W k) ∧ wr = w) (fun _ q _ => ps.length - (intOf q).toNat)
  case atStart => exact ⟨0, s, Nat.zero_le _, rfl, rfl, rfl, rfl⟩
  case round =>
    obtain ⟨k, o, hk, rfl, rfl, HO, rfl⟩ := hrel
    by_cases hlt : k < ps.length
    · have ho : o < N := by rw [HO.out]; exact HLT.out k hk
      obtain ⟨g, off, hA, hcell⟩ := hx.out.text hlt
      have hpl : ps[k].length = N := part_len hok.out HN.out hlt
      subst hA
      have hsl : s < ps[k].length := by omega
      have hb01 := Lib.hid (part_b01 hok.out hlt hsl)
      have hv2 : val ps[k] s < 2 := by rw [← nb_at s hlt]; exact nb_lt hok.out s k
      by_cases hw : bit W k = 1
      · have HO2 : Hid (holdN o k (val ps[k] s) = stW (nb ps s) s W (k + 1)) := Lib.hid (by rw [stW, if_pos hw, ← HO.out, nb_at s hlt])
        have hd : ((bit W k : Int) == 1) = true := by rw [hw]; rfl
        clear hw
        go_wp2_with (first
          | (go_at_call 103; refine (l1Bit_any _ _ _ (by omega) (by omega)).mono ?_; rintro e w2 ⟨rfl, rfl⟩)
          | (go_at_call 98; refine (l1At_any _ _ _ hsl hb01).mono ?_; rintro e w2 ⟨rfl, rfl⟩)
          | (go_at_call 117; refine (l1Set_any _ _ _ _ (by omega) (by omega) hv2).mono ?_; rintro e w2 ⟨rfl, rfl⟩))
        go_roundw
        case rel => exact ⟨k + 1, _, by omega, by go_num, rfl, HO2, trivial⟩
        case measure => simp [intOf]; omega
      · have HO2 : Hid (o = stW (nb ps s) s W (k + 1)) := Lib.hid (by rw [stW, if_neg hw, ← HO.out])
        have hd : ((bit W k : Int) == 1) = false := by simp; omega
        clear hw
        go_wp2_with (go_at_call 103; refine (l1Bit_any _ _ _ (by omega) (by omega)).mono ?_; rintro e w2 ⟨rfl, rfl⟩)
        go_roundw
        case rel => exact ⟨k + 1, _, by omega, by go_num, rfl, HO2, trivial⟩
        case measure => simp [intOf]; omega
    · have hkn : k = ps.length := by omega
      subst hkn
      go_wp2
      go_ret
      exact ⟨by rw [← HO.out]; rfl, rfl⟩

theorem l3AllN_any (A : Option Addr) (n c N : Nat) (w : World) (hn : n ≤ 5) (HN : Hid (N = 2 ^ n)) (h0 : 0 < N) :
    Calls Tryd.prog 67 #[.slice A n c] w fun e w' => e = .returned (.int .i64 ((N - 1 : Nat) : Int)) ∧ w = w' := by
  have h := l3All_any A n c N w hn HN
  rwa [show ((N : Int) - 1) = ((N - 1 : Nat) : Int) by omega] at h
theorem l3StepA_any (A : Option Addr) (c : Nat) (ps : List (List UInt8)) (s N : Nat) (w : World) (hx : Hid (Rd w A (strs ps))) (hok : Hid (okN ps = true)) (HN : Hid (N = 2 ^ ps.length)) (hs : Hid (s < 2 ^ ps.length)) :
    Calls Tryd.prog 109 #[.slice A ps.length c, .int .i64 (s : Int), .int .i64 ((N - 1 : Nat) : Int)] w fun e w' => e = .returned (.int .i64 (stp ps s : Int)) ∧ w = w' := by
  have h32 := two_le _ (okN_le hok.out)
  have h := l3Step_any A c ps s (N - 1) w hx hok hs (by have := HN.out; omega)
  have e : stW (nb ps s) s (N - 1) ps.length = stp ps s := by rw [HN.out]; exact stp_of hok.out hs.out
  rwa [e] at h

theorem nextTo_yes {ps : List (List UInt8)} {s k : Nat} (h : ¬ stp1 ps s k = s) : ints (nextTo ps s (k + 1)) = ints (nextTo ps s k) ++ [(stp1 ps s k : Int)] := by rw [nextTo, if_neg h, ints_append]; rfl
theorem nextTo_no {ps : List (List UInt8)} {s k : Nat} (h : stp1 ps s k = s) : ints (nextTo ps s (k + 1)) = ints (nextTo ps s k) := by rw [nextTo, if_pos h]
theorem l5Next_any (A : Option Addr) (c : Nat) (ps : List (List UInt8)) (s : Nat) (w : World) (hx : Hid (Rd w A (strs ps))) (hok : Hid (okN ps = true)) (hs : Hid (s < 2 ^ ps.length)) :
    Calls Tryd.prog 92 #[.slice A ps.length c, .int .i64 (s : Int)] w fun e w' => RetI w.heap.size (ints (nextN ps s)) e w' ∧ Below w.heap.size w w' := by
  have hn5 := okN_le hok.out
  have h32 : s < 32 := Nat.lt_of_lt_of_le hs.out (two_le _ hn5)
  unfold nextN
  go_enter Tryd.func92, Tryd.ntmps92
  go_wp2
  go_loopw [5, 6] (fun v q wr => ∃ k : Nat, k ≤ ps.length ∧ q = .int .i64 k ∧ Hid (OI wr w.heap.size 3 v (ints (nextTo ps s k))) ∧ Below w.heap.size w wr) (fun _ q _ => ps.length - (intOf q).toNat)
  case atStart => exact ⟨0, Nat.zero_le _, rfl, Lib.hid (OI.empty _ _ _ (Nat.le_refl _)), (Below.refl _ _).alloc (Nat.le_refl _) _⟩
  case round =>
    obtain ⟨k, hk, rfl, HO, hB⟩ := hrel
    have HR := Lib.hid (hx.out.below hB)
    have hsz := hB.size
    have hlen : (ints (nextTo ps s k)).length ≤ k := by rw [ints_length]; exact nextTo_len _ _ _
    by_cases hlt : k < ps.length
    · obtain ⟨W, HW, hW, hW32, hW0⟩ := wrap_two k (by omega)
      have hWlt : W < 32 := by
        rw [HW.out]
        have : 2 ^ k ≤ 2 ^ 4 := Nat.pow_le_pow_right (by omega) (by omega)
        omega
      have HS : Hid (stW (nb ps s) s W ps.length = stp1 ps s k) := Lib.hid (by rw [HW.out]; exact stp1_of hok.out hs.out hlt)
      by_cases he : stp1 ps s k = s
      · have HE := Lib.hid (nextTo_no he)
        have hd : ((stp1 ps s k : Int) != (s : Int)) = false := by rw [he]; exact bne_self_eq_false _
        clear he
        go_wp2_with fail
        simp only [hW]
        go_wp2_with (go_at_call 109; refine (l3Step_any _ _ _ _ W _ HR hok hs hWlt).mono ?_; rintro e w2 ⟨rfl, rfl⟩; rw [HS.out])
        go_roundw
        case rel => exact ⟨k + 1, by omega, by go_num, Lib.hid (by rw [HE.out]; exact HO.out), hB⟩
        case measure => simp [intOf]; omega
      · have HE := Lib.hid (nextTo_yes he)
        have hd : ((stp1 ps s k : Int) != (s : Int)) = true := by simp; omega
        clear he
        go_wp2_with fail
        simp only [hW]
        go_wp2_with (first
          | (go_at_call 109; refine (l3Step_any _ _ _ _ W _ HR hok hs hWlt).mono ?_; rintro e w2 ⟨rfl, rfl⟩; rw [HS.out])
          | (at_builtin; refine wp_pushI rfl _ _ _ rfl Tryd.underlying25 info_int HO.out rfl rfl (by omega) hsz ?_; intro v' w3 hown hbel hsz3))
        go_roundw
        case rel => exact ⟨k + 1, by omega, by go_num, Lib.hid (by rw [HE.out]; exact hown), hB.trans (hbel _ (Nat.le_refl _))⟩
        case measure => simp [intOf]; omega
    · have hkn : k = ps.length := by omega
      subst hkn
      obtain ⟨A', c', hv, hc, hO⟩ := HO.out.form
      have HV := Lib.hid hv
      clear hv
      go_wp2
      go_ret
      exact ⟨⟨A', c', by rw [← HV.out]; rfl, hc, hO⟩, hB⟩

end Go.Proofs.YtfkdameegljkeaaDoor

/- Walks of the program's functions on the steps of networks. -/
namespace Go.Proofs.YtfkdameegljkeaaDoor
open Go.RowKit

theorem states_any (A : Option Addr) (n c N : Nat) (w : World) (hn : n ≤ 5) (HN : Hid (N = 2 ^ n)) :
    Calls Tryd.prog 37 #[.slice A n c] w fun e w' => e = .returned (.int .i64 (N : Int)) ∧ w = w' := by
  have hN : wrap64 ((2 : Int) ^ n) = (N : Int) := by
    rw [HN.out, show ((2 : Int) ^ n) = ((2 ^ n : Nat) : Int) by simp]
    exact wrap64_small _ (two_le n hn)
  go_enter Tryd.func37, Tryd.ntmps37
  go_wp2
  simp only [hN]
  go_ret
  exact ⟨rfl, rfl⟩

theorem hold_any (s i v : Nat) (w : World) (hs : s < 32) (hi : i < 5) (hv : v < 2) :
    Calls Tryd.prog 108 #[.int .i64 (s : Int), .int .i64 (i : Int), .int .i64 (v : Int)] w fun e w' => e = .returned (.int .i64 (holdN s i v : Int)) ∧ ∃ n, w.drewN n = w' := by
  have hb := hold_bits s hs i hi v hv
  go_enter Tryd.func108, Tryd.ntmps108
  go_wp2_with fail
  go_quiet (fail)
  go_wp2_with fail
  go_ret
  exact ⟨rfl, _, rfl⟩

theorem netL_range {w : World} {A : Option Addr} {ps : List (List UInt8)} {i : Nat} (h : Rd w A (netL ps)) (hi : i < ps.length) :
    ∃ g off, A = some ⟨g, off, none⟩ ∧ w.rangeAt g (off + i * 33) (tabL ps.length (tv ps.length ps[i])) := by
  have h0 : (netL ps)[33 * i + 0]? = some (.int .i64 (ps.length : Int)) := (netT_get _ ps i 0 hi (by omega)).trans (tabL_n _ _)
  obtain ⟨g, off, rfl, hc⟩ := h.at_ h0
  refine ⟨g, off, rfl, fun j v hj => ?_⟩
  have hj33 : j < 33 := by
    have := (List.getElem?_eq_some_iff.1 hj).1
    rwa [tabL_length] at this
  have := h.cell ((netT_get _ ps i j hi hj33).trans hj)
  rwa [← Nat.add_assoc, Nat.mul_comm] at this
theorem netL_bit {w : World} {A : Option Addr} {ps : List (List UInt8)} {i s : Nat} (h : Rd w A (netL ps)) (hi : i < ps.length) (h5 : ps.length ≤ 5) (hs : s < 2 ^ ps.length) :
    ∃ g off, A = some ⟨g, off, none⟩ ∧ w.cell? ⟨g, off + i * 33 + 1 + s, none⟩ = some (.int .u8 (nb ps s i : Int)) := by
  obtain ⟨g, off, rfl, hr⟩ := netL_range h hi
  have h32 := two_le _ h5
  exact ⟨g, off, rfl, by rw [Nat.add_assoc (off + i * 33)]; exact hr _ _ (by rw [tabL_b _ _ _ (by omega), tv, if_pos hs, nb_at s hi])⟩

theorem stepOne_any (A : Option Addr) (c : Nat) (ps : List (List UInt8)) (s i : Nat) (w : World) (hx : Hid (Rd w A (netL ps))) (hok : Hid (okN ps = true)) (hs : Hid (s < 2 ^ ps.length)) (hi : i < ps.length) :
    Calls Tryd.prog 90 #[.slice A ps.length c, .int .i64 (s : Int), .int .i64 (i : Int)] w fun e w' => e = .returned (.int .i64 (stp1 ps s i : Int)) ∧ ∃ n, w.drewN n = w' := by
  have hn5 := okN_le hok.out
  have h32 : s < 32 := Nat.lt_of_lt_of_le hs.out (two_le _ hn5)
  obtain ⟨g, off, hA, hc⟩ := netL_bit hx.out hi hn5 hs.out
  subst hA
  have hv2 := nb_lt hok.out s i
  go_enter Tryd.func90, Tryd.ntmps90
  go_wp2_with fail
  refine (hold_any s i (nb ps s i) _ h32 (by omega) hv2).mono ?_
  rintro e w2 ⟨rfl, n, rfl⟩
  go_wp2
  go_ret
  exact ⟨rfl, _, rfl⟩

theorem next_any (A : Option Addr) (c : Nat) (ps : List (List UInt8)) (s : Nat) (w : World) (hx : Hid (Rd w A (netL ps))) (hok : Hid (okN ps = true)) (hs : Hid (s < 2 ^ ps.length)) :
    Calls Tryd.prog 60 #[.slice A ps.length c, .int .i64 (s : Int)] w fun e w' => RetI w.heap.size (ints (nextN ps s)) e w' ∧ Below w.heap.size w w' := by
  have hn5 := okN_le hok.out
  unfold nextN
  go_enter Tryd.func60, Tryd.ntmps60
  go_wp2
  go_loopw [5, 10] (fun v q wr => ∃ k : Nat, k ≤ ps.length ∧ q = .int .i64 k ∧ Hid (OI wr w.heap.size 3 v (ints (nextTo ps s k))) ∧ Below w.heap.size w wr) (fun _ q _ => ps.length - (intOf q).toNat)
  case atStart => exact ⟨0, Nat.zero_le _, rfl, Lib.hid (OI.nil _ _ _), Below.refl _ _⟩
  case round =>
    obtain ⟨k, hk, rfl, HO, hB⟩ := hrel
    have hsz := hB.size
    have HR := Lib.hid (hx.out.below hB)
    have hlen : (ints (nextTo ps s k)).length ≤ k := by rw [ints_length]; exact nextTo_len _ _ _
    by_cases hlt : k < ps.length
    · by_cases he : stp1 ps s k = s
      · have HE := Lib.hid (nextTo_no he)
        have hd : ((stp1 ps s k : Int) != (s : Int)) = false := by rw [he]; exact bne_self_eq_false _
        clear he
        go_wp2_with (go_at_call 90; refine (stepOne_any _ _ _ _ _ _ HR hok hs hlt).mono ?_; rintro e w2 ⟨rfl, n, rfl⟩)
        go_roundw
        case rel => exact ⟨k + 1, by omega, by go_num, Lib.hid (by rw [HE.out]; exact HO.out.drewN n), below_drewN hB _⟩
        case measure => simp [intOf]; omega
      · have HE := Lib.hid (nextTo_yes he)
        have hd : ((stp1 ps s k : Int) != (s : Int)) = true := by simp; omega
        clear he
        go_wp2_with (first
          | (go_at_call 90; refine (stepOne_any _ _ _ _ _ _ HR hok hs hlt).mono ?_; rintro e w2 ⟨rfl, n, rfl⟩)
          | (at_builtin; refine wp_pushI rfl _ _ _ rfl Tryd.underlying25 info_int (HO.out.drewN n) rfl rfl (by omega) hsz ?_; intro v' w3 hown hbel hsz3))
        go_roundw
        case rel => exact ⟨k + 1, by omega, by go_num, Lib.hid (by rw [HE.out]; exact hown), (below_drewN hB _).trans (hbel _ (Nat.le_refl _))⟩
        case measure => simp [intOf]; omega
    · have hkn : k = ps.length := by omega
      subst hkn
      go_wp2_with (go_at_call 38; refine (clip_any _ _ _ _ _ HO.out).mono ?_; rintro e w2 ⟨⟨A', c', rfl, hc, hO⟩, rfl⟩)
      go_ret
      exact ⟨⟨A', c', rfl, hc, hO⟩, hB⟩

/-- what the reading of a network and a state hands back -/
def NetS (B : Nat) (ps : List (List UInt8)) (t : Int) (e : Ending) (w' : World) : Prop :=
  ∃ A k c, e = .returned (.tuple #[.slice A k c, .bool (okSt ps t)]) ∧ (okSt ps t = true → k = ps.length ∧ ps.length ≤ c ∧ Own w' B A (netL ps))
theorem stateOf_any (s : ByteArray) (t : Int) (w : World) (hm : Hid (HasM w)) (hs : s.size ≤ 1073741824) :
    Calls Tryd.prog 35 #[.string s, .int .i64 t] w fun e w' => NetS w.heap.size (cutL s.data.toList) t e w' ∧ Below w.heap.size w w' := by
  obtain ⟨ps, HPS⟩ : ∃ ps, Hid (ps = cutL s.data.toList) := ⟨_, rfl⟩
  rw [← HPS.out]
  by_cases h : okN ps = true
  · obtain ⟨N, HN, hN, hN32, hN0⟩ := wrap_two ps.length (okN_le h)
    have hn5 := okN_le h
    have HOK := Lib.hid h
    by_cases h0 : 0 ≤ t
    · have HST : Hid (okSt ps t = decide (t < (N : Int))) := Lib.hid (by rw [okSt_of h HN.out, Bool.eq_iff_iff]; simp; omega)
      clear h
      go_enter Tryd.func35, Tryd.ntmps35
      go_wp2_with fail
      refine (readNetwork_any s w hm hs).mono ?_
      rintro e w1 ⟨⟨A, k, c, rfl, himp⟩, hB1⟩
      rw [← HPS.out] at himp ⊢
      obtain ⟨rfl, hc, hO⟩ := himp HOK.out
      rw [HOK.out]
      have HO := Lib.hid hO
      clear hO himp
      go_wp2_with fail
      refine (states_any _ _ _ N _ hn5 HN).mono ?_
      rintro e w2 ⟨rfl, rfl⟩
      go_wp2
      go_ret2
      exact ⟨⟨_, _, _, by rw [HST.out]; rfl, fun _ => ⟨rfl, hc, HO.out⟩⟩, hB1⟩
    · have HST : Hid (okSt ps t = false) := Lib.hid (by rw [okSt_of h HN.out, decide_eq_false h0, Bool.false_and])
      clear h
      go_enter Tryd.func35, Tryd.ntmps35
      go_wp2_with fail
      refine (readNetwork_any s w hm hs).mono ?_
      rintro e w1 ⟨⟨A, k, c, rfl, himp⟩, hB1⟩
      clear himp
      rw [← HPS.out, HOK.out]
      go_wp2
      go_ret2
      exact ⟨⟨_, _, _, by rw [HST.out]; rfl, fun h => by rw [HST.out] at h; cases h⟩, hB1⟩
  · have h' : okN ps = false := by simpa using h
    have HST := Lib.hid (okSt_no (t := t) h')
    have HOK := Lib.hid h'
    clear h h'
    go_enter Tryd.func35, Tryd.ntmps35
    go_wp2_with fail
    refine (readNetwork_any s w hm hs).mono ?_
    rintro e w1 ⟨⟨A, k, c, rfl, himp⟩, hB1⟩
    clear himp
    rw [← HPS.out, HOK.out]
    go_wp2
    go_ret2
    exact ⟨⟨_, _, _, by rw [HST.out]; rfl, fun h => by rw [HST.out] at h; cases h⟩, hB1⟩

end Go.Proofs.YtfkdameegljkeaaDoor

/- Walks of fromStep and of the texts of networks. -/
namespace Go.Proofs.YtfkdameegljkeaaDoor
open Go.RowKit
set_option linter.unusedVariables false

/-- the texts of the network of n switches of which a step is f -/
def frS (n : Nat) (f : Nat → Nat) : List (List UInt8) := (List.range n).map fun k => txt (2 ^ n) fun s => bit (f s) k
theorem frS_length (n : Nat) (f : Nat → Nat) : (frS n f).length = n := by simp [frS]
theorem frS_get (n : Nat) (f : Nat → Nat) {k : Nat} (h : k < n) : (frS n f)[k]'(by rw [frS_length]; exact h) = txt (2 ^ n) fun s => bit (f s) k := by simp [frS]
theorem val_txt {N : Nat} {b : Nat → Nat} {s : Nat} (h : s < N) (hb : b s < 2) : val (txt N b) s = b s := by
  rw [val_get (by rw [txt_length]; exact h)]
  simp only [txt, List.getElem_map, List.getElem_range]
  rw [chr_toNat _ (by omega)]
  omega
theorem okT_txt {n : Nat} {b : Nat → Nat} (h1 : 1 ≤ n) (h5 : n ≤ 5) (hb : ∀ s, b s < 2) : okT (txt (2 ^ n) b) = true ∧ tin (txt (2 ^ n) b).length = n := by
  rw [okT, txt_length, tin_pow n h1 h5]
  refine ⟨?_, rfl⟩
  rw [Bool.and_eq_true]
  refine ⟨by simp; omega, List.all_eq_true.2 fun c hc => ?_⟩
  simp only [txt, List.mem_map, List.mem_range] at hc
  obtain ⟨s, _, rfl⟩ := hc
  have := hb s
  have h2 := chr_toNat (b s) (by omega)
  simp only [b01, h2]
  have : b s = 0 ∨ b s = 1 := by omega
  rcases this with h | h <;> rw [h] <;> rfl
theorem frS_ok {n : Nat} {f : Nat → Nat} (h1 : 1 ≤ n) (h5 : n ≤ 5) : okN (frS n f) = true := by
  refine List.all_eq_true.2 fun p hp => ?_
  rw [frS_length]
  simp only [frS, List.mem_map, List.mem_range] at hp
  obtain ⟨k, _, rfl⟩ := hp
  have := okT_txt h1 h5 (fun s => bit_lt (f s) k)
  simp [this.1, this.2]
theorem tv_txt (n : Nat) (b : Nat → Nat) (hb : ∀ s, b s < 2) : tabL n (tv n (txt (2 ^ n) b)) = tabL n fun s => if s < 2 ^ n then b s else 0 :=
  tabL_congr _ _ _ fun s _ => by
    unfold tv
    split
    · rw [val_txt (by assumption) (hb s)]
    · rfl

end Go.Proofs.YtfkdameegljkeaaDoor

/- Walks: the texts of tables and of networks, on both sides. -/
namespace Go.Proofs.YtfkdameegljkeaaDoor
open Go.RowKit
set_option linter.unusedVariables false

/-- the text of the texts of tables -/
def joinN (ps : List (List UInt8)) : List UInt8 := Lib.join ps [44]
theorem joinN_one {ps : List (List UInt8)} (h : 0 < ps.length) : joinN (ps.take 1) = ps[0] := by
  cases ps with
  | nil => simp at h
  | cons p r => exact Lib.join_one p [44]
theorem joinN_succ {ps : List (List UInt8)} {k : Nat} (h : k < ps.length) (h0 : ¬ k = 0) : joinN (ps.take (k + 1)) = joinN (ps.take k) ++ [44] ++ ps[k] := by
  obtain ⟨j, rfl⟩ : ∃ j, k = j + 1 := ⟨k - 1, by omega⟩
  cases ps with
  | nil => simp at h
  | cons p r =>
    have hj : j < r.length := by simpa using h
    rw [List.take_succ_cons, List.take_succ_cons, joinN, joinN, Lib.join_cons, Lib.join_cons, Lib.joinTail_take_succ [44] r j r[j] (List.getElem?_eq_getElem hj)]
    simp
theorem joinN_len {ps : List (List UInt8)} {M : Nat} (hM : ∀ p ∈ ps, p.length ≤ M) : ∀ k, k ≤ ps.length → (joinN (ps.take k)).length ≤ (M + 1) * k := by
  intro k
  induction k with
  | zero => intro _; simp [joinN, Lib.join_nil]
  | succ k ih =>
    intro h
    have h1 := ih (by omega)
    have h2 := hM _ (List.getElem_mem (show k < ps.length by omega))
    by_cases h0 : k = 0
    · subst h0
      rw [joinN_one (by omega)]
      omega
    · rw [joinN_succ (by omega) h0]
      simp only [List.length_append, List.length_cons, List.length_nil]
      rw [Nat.mul_succ]
      omega
theorem txt_tv {ps : List (List UInt8)} {k N : Nat} (h : okN ps = true) (HN : N = 2 ^ ps.length) (hk : k < ps.length) : txt N (tv ps.length ps[k]) = ps[k] := by
  have hl := part_len h HN hk
  have hb : ∀ c ∈ ps[k], b01 c = true := (okT_true (okN_of h (List.getElem_mem hk)).1).2.2.2
  have h1 := txt_val hb
  rw [hl] at h1
  refine Eq.trans (txt_congr fun s hs => ?_) h1
  rw [tv, if_pos (by rw [← HN]; exact hs)]
theorem tv_lt {ps : List (List UInt8)} {k s : Nat} (h : okN ps = true) (hk : k < ps.length) : tv ps.length ps[k] s < 2 := by
  unfold tv
  split
  · exact val_lt (okT_true (okN_of h (List.getElem_mem hk)).1).2.2.2 s
  · omega

theorem str_add (a b : List UInt8) : (⟨a.toArray⟩ : ByteArray) ++ ⟨b.toArray⟩ = ⟨(a ++ b).toArray⟩ := str_append a b
set_option maxHeartbeats 400000 in
theorem l3Text_any (A : Option Addr) (c : Nat) (ps : List (List UInt8)) (w : World) (hx : Hid (Rd w A (strs ps))) (hl : Hid (∀ p ∈ ps, p.length ≤ 1000)) (hn : ps.length ≤ 1000) :
    Calls Tryd.prog 49 #[.slice A ps.length c] w fun e w' => e = .returned (.string ⟨(joinN ps).toArray⟩) ∧ w = w' := by
  have HLN := Lib.hid (joinN_len hl.out)
  go_enter Tryd.func49, Tryd.ntmps49
  go_wp2
  go_loopw [3, 4] (fun o i wr => ∃ k : Nat, k ≤ ps.length ∧ i = .int .i64 k ∧ o = .string ⟨(joinN (ps.take k)).toArray⟩ ∧ wr = w) (fun _ i _ => ps.length - (intOf i).toNat)
  case atStart => exact ⟨0, Nat.zero_le _, rfl, rfl, rfl⟩
  case round =>
    obtain ⟨k, hk, rfl, rfl, rfl⟩ := hrel
    by_cases hlt : k < ps.length
    · obtain ⟨g, off, hA, hcell⟩ := hx.out.text hlt
      subst hA
      have hj1 := HLN.out k hk
      have hj2 := hl.out ps[k] (List.getElem_mem hlt)
      by_cases h0 : k = 0
      · subst h0
        have HE := Lib.hid (joinN_one hlt)
        rw [Nat.add_zero] at hcell
        have hj0 : (joinN ([] : List (List UInt8))).length ≤ 0 := Nat.le_refl _
        go_wp2_with fail
        go_roundw
        case rel => exact ⟨1, by omega, by go_num, by rw [HE.out]; exact congrArg Value.string (str_add [] ps[0]), trivial⟩
        case measure => simp [intOf]; omega
      · have HE := Lib.hid (joinN_succ hlt h0)
        have h00 : 0 < k := by omega
        clear h0
        go_wp2_with fail
        go_roundw
        case rel => exact ⟨k + 1, by omega, by go_num, by rw [HE.out, show (({ data := #[44] } : ByteArray)) = ⟨[44].toArray⟩ from rfl, str_add, str_add], trivial⟩
        case measure => simp [intOf]; omega
    · have hkn : k = ps.length := by omega
      subst hkn
      go_wp2
      go_ret
      exact ⟨by rw [List.take_length]; rfl, rfl⟩

end Go.Proofs.YtfkdameegljkeaaDoor

/- Walks of the functions on hulls. -/
namespace Go.Proofs.YtfkdameegljkeaaDoor
open Go.RowKit

theorem BytesAt.one (w : World) (c : UInt8) (e : TypeId) : BytesAt (w.alloc (.cells #[.int .u8 (c.toNat : Int)] e)) w.heap.size [c] := by
  intro j hj
  have hj' : j = 0 := by simpa using hj
  subst hj'
  exact ⟨by rw [cell_new]; rfl, frozen_new _ _ _ _⟩
set_option maxRecDepth 100000 in
theorem l14Dec_any (d : Nat) (w : World) (hd : d < 10) :
    Calls Tryd.prog 72 #[.int .i64 (d : Int)] w fun e w' => e = .returned (.string ⟨[chr d].toArray⟩) ∧ Below w.heap.size w w' := by
  have hb := BytesAt.one w (chr d) 5
  have ht := chr_toNat d hd
  rw [ht] at hb
  have hback := conv_back (P := Tryd.prog) _ 22 9 5 w.heap.size 1 1 [chr d] rfl Tryd.underlying22 Tryd.underlying5 Tryd.underlying9 hb
  rw [show (((48 + d : Nat) : Int)) = 48 + (d : Int) by omega] at hback
  clear hb ht
  have h0 : (d : Int) ≤ 9 := by omega
  have h1 : (0 : Int) ≤ (d : Int) := by omega
  go_enter Tryd.func72, Tryd.ntmps72
  go_wp2_with fail
  go_loopw [0, 3] (fun n o wr => n = .int .i64 (d : Int) ∧ o = .string ⟨#[]⟩ ∧ wr = w) (fun _ _ _ => 0)
  case atStart => exact ⟨rfl, rfl, rfl⟩
  case round =>
    obtain ⟨rfl, rfl, rfl⟩ := hrel
    go_wp2
    go_ret
    exact ⟨by rw [show ({ data := #[] } : ByteArray) = ⟨([] : List UInt8).toArray⟩ from rfl, str_append]; rfl, (Below.refl _ _).alloc (Nat.le_refl _) _⟩

end Go.Proofs.YtfkdameegljkeaaDoor

/- Walks: a network turned, on both sides. -/
namespace Go.Proofs.YtfkdameegljkeaaDoor
open Go.RowKit
set_option linter.unusedVariables false

def chrs (xs : List Nat) : List UInt8 := xs.map chr
theorem chrs_length (xs : List Nat) : (chrs xs).length = xs.length := by simp [chrs]
theorem lit01 : ∀ v, v < 2 → (({ data := #[48, 49] } : ByteArray).extract v (v + 1)) = ⟨[chr v].toArray⟩ := by decide +kernel
theorem chrs_take {xs : List Nat} {k : Nat} (h : k < xs.length) : (⟨(chrs (xs.take k)).toArray⟩ : ByteArray) ++ ⟨[chr xs[k]].toArray⟩ = ⟨(chrs (xs.take (k + 1))).toArray⟩ := by
  rw [str_add, List.take_succ_eq_append_getElem h, chrs, chrs, List.map_append]; rfl
theorem l1Text_any (A : Option Addr) (c : Nat) (xs : List Nat) (w : World) (hx : Hid (Rd w A ((ints xs).map (Value.int .i64)))) (hb : Hid (∀ x ∈ xs, x < 2)) (hl : xs.length ≤ 1000000) :
    Calls Tryd.prog 81 #[.slice A xs.length c] w fun e w' => e = .returned (.string ⟨(chrs xs).toArray⟩) ∧ ∃ n, w.drewN n = w' := by
  have hil : (ints xs).length = xs.length := ints_length _
  go_enter Tryd.func81, Tryd.ntmps81
  go_wp2
  go_loopw [3, 4] (fun o i wr => ∃ k : Nat, k ≤ xs.length ∧ i = .int .i64 k ∧ o = .string ⟨(chrs (xs.take k)).toArray⟩ ∧ ∃ n, w.drewN n = wr) (fun _ i _ => xs.length - (intOf i).toNat)
  case atStart => exact ⟨0, Nat.zero_le _, rfl, rfl, 0, rfl⟩
  case round =>
    obtain ⟨k, hk, rfl, rfl, n, rfl⟩ := hrel
    have hcl : (chrs (xs.take k)).length ≤ k := by rw [chrs_length, List.length_take]; omega
    by_cases hlt : k < xs.length
    · obtain ⟨g, off, hA, hcell⟩ := hx.out.at_ (ints_at hlt)
      subst hA
      have hv := hb.out _ (List.getElem_mem hlt)
      have HE := Lib.hid (chrs_take hlt)
      have HX := Lib.hid (lit01 _ hv)
      go_wp2_with fail
      go_quiet (fail)
      go_wp2_with fail
      go_roundw
      case rel => exact ⟨k + 1, by omega, by go_num, by rw [← HE.out, ← HX.out], _, rfl⟩
      case measure => simp [intOf]; omega
    · have hkn : k = xs.length := by omega
      subst hkn
      go_wp2
      go_ret
      exact ⟨by rw [List.take_length]; rfl, n, rfl⟩

/-- a switch of a network -/
def okSw (ps : List (List UInt8)) (i : Int) : Bool := okN ps && (decide (0 ≤ i) && decide (i < (ps.length : Int)))
theorem okSw_true {ps : List (List UInt8)} {i : Int} (h : okSw ps i = true) : okN ps = true ∧ ∃ k : Nat, i = k ∧ k < ps.length := by
  simp only [okSw, Bool.and_eq_true, decide_eq_true_eq] at h
  exact ⟨h.1, i.toNat, by omega, by omega⟩
/-- what the reading of a network and a switch hands back -/
def NetW (B : Nat) (ps : List (List UInt8)) (t : Int) (e : Ending) (w' : World) : Prop :=
  ∃ A k c, e = .returned (.tuple #[.slice A k c, .bool (okSw ps t)]) ∧ (okSw ps t = true → k = ps.length ∧ ps.length ≤ c ∧ Own w' B A (netL ps))
theorem switchOf_any (s : ByteArray) (t : Int) (w : World) (hm : Hid (HasM w)) (hs : s.size ≤ 1073741824) :
    Calls Tryd.prog 55 #[.string s, .int .i64 t] w fun e w' => NetW w.heap.size (cutL s.data.toList) t e w' ∧ Below w.heap.size w w' := by
  obtain ⟨ps, HPS⟩ : ∃ ps, Hid (ps = cutL s.data.toList) := ⟨_, rfl⟩
  rw [← HPS.out]
  by_cases h : okN ps = true
  · have hn5 := okN_le h
    have HOK := Lib.hid h
    by_cases h0 : 0 ≤ t
    · have HST : Hid (okSw ps t = decide (t < (ps.length : Int))) := Lib.hid (by rw [okSw, h, decide_eq_true h0]; rfl)
      clear h
      go_enter Tryd.func55, Tryd.ntmps55
      go_wp2_with fail
      refine (readNetwork_any s w hm hs).mono ?_
      rintro e w1 ⟨⟨A, k, c, rfl, himp⟩, hB1⟩
      rw [← HPS.out] at himp ⊢
      obtain ⟨rfl, hc, hO⟩ := himp HOK.out
      rw [HOK.out]
      have HO := Lib.hid hO
      clear hO himp
      go_wp2
      go_ret2
      exact ⟨⟨_, _, _, by rw [HST.out]; rfl, fun _ => ⟨rfl, hc, HO.out⟩⟩, hB1⟩
    · have HST : Hid (okSw ps t = false) := Lib.hid (by rw [okSw, h, decide_eq_false h0]; rfl)
      clear h
      go_enter Tryd.func55, Tryd.ntmps55
      go_wp2_with fail
      refine (readNetwork_any s w hm hs).mono ?_
      rintro e w1 ⟨⟨A, k, c, rfl, himp⟩, hB1⟩
      clear himp
      rw [← HPS.out, HOK.out]
      go_wp2
      go_ret2
      exact ⟨⟨_, _, _, by rw [HST.out]; rfl, fun h => by rw [HST.out] at h; cases h⟩, hB1⟩
  · have h' : okN ps = false := by simpa using h
    have HST : Hid (okSw ps t = false) := Lib.hid (by rw [okSw, h']; rfl)
    have HOK := Lib.hid h'
    clear h h'
    go_enter Tryd.func55, Tryd.ntmps55
    go_wp2_with fail
    refine (readNetwork_any s w hm hs).mono ?_
    rintro e w1 ⟨⟨A, k, c, rfl, himp⟩, hB1⟩
    clear himp
    rw [← HPS.out, HOK.out]
    go_wp2
    go_ret2
    exact ⟨⟨_, _, _, by rw [HST.out]; rfl, fun h => by rw [HST.out] at h; cases h⟩, hB1⟩

/-- a step of the network with a switch the other way round -/
def trnF (ps : List (List UInt8)) (m s : Nat) : Nat := stp ps (s ^^^ m) ^^^ m
theorem trnF_lt {ps : List (List UInt8)} (h : okN ps = true) {m : Nat} (hm : m < 2 ^ ps.length) (s : Nat) : trnF ps m s < 2 ^ ps.length := Nat.xor_lt_two_pow (stp_lt h _) hm

end Go.Proofs.YtfkdameegljkeaaDoor

/- Walks: draws of networks; only their sizes are told, and that nothing but the source's own block changes. -/
namespace Go.Proofs.YtfkdameegljkeaaDoor
open Go.RowKit
set_option linter.unusedVariables false

theorem grn_trans {a b c : World} {g : Nat} (h : a.grownBy b (some g)) (k : b.grownBy c (some g)) : a.grownBy c (some g) :=
  ⟨k.os.trans h.os, k.tape.trans h.tape, k.output.trans h.output, Nat.le_trans h.size k.size, fun i hi hne => (k.block i (Nat.lt_of_lt_of_le hi h.size) hne).trans (h.block i hi hne)⟩
theorem grn_below {a b : World} {g : Nat} (h : Below a.heap.size a b) : a.grownBy b (some g) := ⟨h.os, h.tape, h.output, h.size, fun i hi _ => h.block i hi⟩
theorem grn_bel {a b c : World} {g : Nat} (h : a.grownBy b (some g)) (k : Below a.heap.size b c) : a.grownBy c (some g) :=
  ⟨k.os.trans h.os, k.tape.trans h.tape, k.output.trans h.output, Nat.le_trans h.size k.size, fun i hi hne => (k.block i hi).trans (h.block i hi hne)⟩
theorem OS.only {w w' : World} {B g : Nat} {e : TypeId} {v : Value} {ps : List (List UInt8)} (h : OS w B e v ps) (hg : g < B) (hw : w.grownBy w' (some g)) : OS w' B e v ps := by
  exact World.ownsRow.kept h hw (by
    rcases h.2 with ⟨rfl, _⟩ | ⟨g', cap, cur, rfl, hB, _⟩
    · exact .inl rfl
    · refine .inr ?_
      simp only [Value.ownBlock, ne_eq, Option.some.injEq]
      omega)
theorem ints_snoc (vs : List Nat) (u : Nat) : ints (vs ++ [u]) = ints vs ++ [(u : Int)] := by rw [ints_append]; rfl
/-- two numbers 0 or 1 -/
theorem xor2 {a b : Nat} (ha : a < 2) (hb : b < 2) : ∃ x : Nat, x < 2 ∧ bits .xor .i64 (a : Int) (b : Int) = (x : Int) := by
  rcases (show a = 0 ∨ a = 1 by omega) with rfl | rfl <;> rcases (show b = 0 ∨ b = 1 by omega) with rfl | rfl <;>
  first | exact ⟨0, by omega, by decide +kernel⟩ | exact ⟨1, by omega, by decide +kernel⟩
theorem and2 {a b : Nat} (ha : a < 2) (hb : b < 2) : ∃ x : Nat, x < 2 ∧ bits .and .i64 (a : Int) (b : Int) = (x : Int) := by
  rcases (show a = 0 ∨ a = 1 by omega) with rfl | rfl <;> rcases (show b = 0 ∨ b = 1 by omega) with rfl | rfl <;>
  first | exact ⟨0, by omega, by decide +kernel⟩ | exact ⟨1, by omega, by decide +kernel⟩
theorem or2 {a b : Nat} (ha : a < 2) (hb : b < 2) : ∃ x : Nat, x < 2 ∧ bits .or .i64 (a : Int) (b : Int) = (x : Int) := by
  rcases (show a = 0 ∨ a = 1 by omega) with rfl | rfl <;> rcases (show b = 0 ∨ b = 1 by omega) with rfl | rfl <;>
  first | exact ⟨0, by omega, by decide +kernel⟩ | exact ⟨1, by omega, by decide +kernel⟩
/-- a text has been drawn -/
def TxtP (w : World) (B g p lo hi q : Nat) (e : Ending) (w' : World) : Prop :=
  ∃ (t : List UInt8) (p2 : Nat), e = .returned (.string ⟨t.toArray⟩) ∧ lo ≤ t.length ∧ t.length ≤ hi ∧ p2 ≤ p + q ∧ Rdr w' B g p2 ∧ w.grownBy w' (some g)

theorem l1Text_ints (A : Option Addr) (c : Nat) (xs : List Nat) (w : World) (hx : Rd w A ((ints xs).map (Value.int .i64))) (hb : ∀ x ∈ xs, x < 2) (hl : xs.length ≤ 1000000) :
    Calls Tryd.prog 81 #[.slice A (ints xs).length c] w fun e w' => e = .returned (.string ⟨(chrs xs).toArray⟩) ∧ ∃ n, w.drewN n = w' := by
  rw [ints_length]
  exact l1Text_any A c xs w (Lib.hid hx) (Lib.hid hb) hl

set_option maxHeartbeats 2000000 in
set_option maxRecDepth 100000 in
theorem l1Draw_any (B g p n : Nat) (w : World) (h : Rdr w B g p) (hp : p ≤ 1000000) (hn1 : 1 ≤ n) (hn5 : n ≤ 5) :
    Calls Tryd.prog 104 #[.pointer (some ⟨g, 0, none⟩), .int .i64 (n : Int)] w fun e w' => TxtP w B g p 1 32 40 e w' := by
  obtain ⟨N, HN, hNw, hN32, hN0⟩ := wrap_two n hn5
  have hgl := h.lt.2
  have h0 := h.keep ((Below.refl _ _).alloc (Nat.le_refl _) (.cells #[] 3))
  have hE := OI.empty w w.heap.size 3 (Nat.le_refl _)
  have hG0 : w.grownBy (w.alloc (.cells #[] 3)) (some g) := grn_below ((Below.refl _ _).alloc (Nat.le_refl _) _)
  go_enter Tryd.func104, Tryd.ntmps104
  go_wp2_with fail
  refine (pick_any B g p _ _ h0 (by omega) (by omega) (by omega)).mono ?_
  rintro e w1 ⟨a, rfl, ha, hR1, hG1⟩
  go_wp2_with fail
  refine (pick_any B g (p + 1) _ _ hR1 (by omega) (by omega) (by omega)).mono ?_
  rintro e w2 ⟨b, rfl, hb, hR2, hG2⟩
  go_wp2_with fail
  refine (pick_any B g (p + 1 + 1) _ _ hR2 (by omega) (by omega) (by omega)).mono ?_
  rintro e w3 ⟨kind, rfl, hkd, hR3, hG3⟩
  go_wp2_with fail
  refine (pick_any B g (p + 1 + 1 + 1) _ _ hR3 (by omega) (by omega) (by omega)).mono ?_
  rintro e w4 ⟨sg, rfl, hsg, hR4, hG4⟩
  have HO4 := Lib.hid ((((hE.only hgl hG1).only hgl hG2).only hgl hG3).only hgl hG4)
  have HG4 := Lib.hid (grn_trans (grn_trans (grn_trans (grn_trans hG0 hG1) hG2) hG3) hG4)
  have HR4 := Lib.hid hR4
  have ha5 : a < 5 := by omega
  have hb5 : b < 5 := by omega
  have hsg2 : sg < 2 := by omega
  clear hG0 hG1 hG2 hG3 hG4 hR1 hR2 hR3 hR4 hE h0 ha hb hsg
  have hkk : kind = 0 ∨ kind = 1 ∨ kind = 2 ∨ kind = 3 ∨ kind = 4 ∨ 5 ≤ kind := by omega
  rcases hkk with rfl | rfl | rfl | rfl | rfl | hk5
  all_goals
    go_wp2_with fail
    go_loopw [5, 10] (fun v q wr => ∃ (k p' : Nat) (vs : List Nat), k ≤ N ∧ q = .int .i64 k ∧ Hid (vs.length = k) ∧ p' ≤ p + 4 + k ∧ Hid (OI wr w.heap.size 3 v (ints vs) ∧ ∀ x ∈ vs, x < 2) ∧ Hid (Rdr wr B g p' ∧ w.grownBy wr (some g))) (fun _ q _ => N - (intOf q).toNat)
    case atStart => exact ⟨0, _, [], Nat.zero_le _, rfl, rfl, by omega, Lib.hid ⟨HO4.out, by simp⟩, Lib.hid ⟨HR4.out, HG4.out⟩⟩
  all_goals
    obtain ⟨k, p', vs, hk, rfl, HL, hp', HO, HR⟩ := hrel
    have hvl : (ints vs).length ≤ 32 := by rw [ints_length, HL.out]; omega
    have hszw : w.heap.size ≤ wr.heap.size := HR.out.2.size
    by_cases hlt : k < N
    · obtain ⟨x, hx2, e1⟩ := xor2 (bit_lt k a) hsg2
      have hy2 := bit_lt k b
      obtain ⟨v1, hv1, e2⟩ := and2 hx2 hy2
      obtain ⟨v2, hv2, e3⟩ := or2 hx2 hy2
      obtain ⟨v3, hv3, e4⟩ := xor2 hx2 hy2
      go_wp2_with (first
        | (go_at_call 103; refine (l1Bit_any _ _ _ (by omega) (by omega)).mono ?_; rintro e w5 ⟨rfl, rfl⟩)
        | (go_at_call 46; refine (pick_any B g p' _ _ HR.out.1 (by omega) (by omega) (by omega)).mono ?_; rintro e w6 ⟨v5, rfl, hv5, hR6, hG6⟩; have hsz6 : w.heap.size ≤ w6.heap.size := Nat.le_trans hszw hG6.size; have hv52 : v5 < 2 := by omega)
        | (at_builtin; refine wp_pushI rfl _ _ _ rfl Tryd.underlying25 info_int (by first | exact HO.out.1 | exact HO.out.1.only hgl hG6) rfl rfl (by omega) (by omega) ?_; intro v' w7 hown hbel hsz7))
      have hP1 : p' ≤ p + 4 + (k + 1) := by omega
      have hK1 : k + 1 ≤ N := by omega
      have hall : ∀ u : Nat, u < 2 → ∀ x ∈ vs ++ [u], x < 2 := fun u hu x hx => by
        rcases List.mem_append.1 hx with hx | hx
        · exact HO.out.2 x hx
        · simp at hx; rw [hx]; exact hu
      have hlen : ∀ u : Nat, (vs ++ [u]).length = k + 1 := fun u => by rw [List.length_append, HL.out]; rfl
      have hRG : ∃ p7, p7 ≤ p + 4 + (k + 1) ∧ Rdr w7 B g p7 ∧ w.grownBy w7 (some g) := by
        first
          | exact ⟨p' + 1, by omega, hR6.keepB (hbel (g + 1) hgl), grn_bel (grn_trans HR.out.2 hG6) (hbel _ (Nat.le_refl _))⟩
          | exact ⟨p', hP1, HR.out.1.keepB (hbel (g + 1) hgl), grn_bel HR.out.2 (hbel _ (Nat.le_refl _))⟩
      have hU : ∃ u : Nat, u < 2 ∧ OI w7 w.heap.size 3 v' (ints (vs ++ [u])) := by
        simp only [ints_snoc]
        first
          | exact ⟨v5, hv52, by with_reducible exact hown⟩
          | exact ⟨x, hx2, by with_reducible exact hown⟩
          | exact ⟨v1, hv1, by with_reducible exact hown⟩
          | exact ⟨v2, hv2, by with_reducible exact hown⟩
          | exact ⟨v3, hv3, by with_reducible exact hown⟩
          | exact ⟨sg, hsg2, by with_reducible exact hown⟩
      obtain ⟨p7, hp7, hR7, hG7⟩ := hRG
      obtain ⟨u, hu2, hO7⟩ := hU
      have HF := Lib.hid (And.intro (And.intro hO7 (hall u hu2)) (And.intro hR7 hG7))
      have HLU := Lib.hid (hlen u)
      clear hall hlen hR7 hG7 hO7 hown hbel
      go_roundw
      case rel => exact ⟨k + 1, p7, vs ++ [u], hK1, by go_num, HLU, hp7, Lib.hid HF.out.1, Lib.hid HF.out.2⟩
      case measure => simp [intOf]; omega
    · have hkn : k = N := by omega
      subst hkn
      have hlen : (chrs vs).length = k := by rw [chrs_length]; exact HL.out
      have HL2 := Lib.hid hlen
      clear hlen
      obtain ⟨A', c', rfl, hc', hO'⟩ := HO.out.1.form
      have HFI : Hid ((1 ≤ (chrs vs).length ∧ (chrs vs).length ≤ 32) ∧ p' ≤ p + 40) := Lib.hid ⟨⟨by rw [HL2.out]; exact hN0, by rw [HL2.out]; exact hN32⟩, Nat.le_trans hp' (by clear hNw; omega)⟩
      have HFR : Hid (∀ n5 : Nat, Rdr (wr.drewN n5) B g p' ∧ w.grownBy (wr.drewN n5) (some g)) := Lib.hid (fun n5 => ⟨HR.out.1.keep (drewN_below _ _), grn_bel HR.out.2 (drewN_below _ _)⟩)
      have hk6 : k ≤ 1000000 := Nat.le_trans hN32 (by decide)
      have HT1 := Lib.hid (l1Text_ints A' c' vs wr hO'.rd HO.out.2 (by rw [HL.out]; exact hk6))
      clear hO'
      go_wp2_with (go_at_call 81; refine HT1.out.mono ?_; rintro e w5 ⟨rfl, n5, rfl⟩)
      go_ret
      exact ⟨chrs vs, p', rfl, HFI.out.1.1, HFI.out.1.2, HFI.out.2, (HFR.out n5).1, (HFR.out n5).2⟩

theorem joinN_pos {ps : List (List UInt8)} (hp : ∀ p ∈ ps, 1 ≤ p.length) : ∀ k, 1 ≤ k → k ≤ ps.length → 1 ≤ (joinN (ps.take k)).length := by
  intro k h1 hk
  obtain ⟨j, rfl⟩ : ∃ j, k = j + 1 := ⟨k - 1, by omega⟩
  by_cases h0 : j = 0
  · subst h0
    rw [joinN_one (by omega)]
    exact hp _ (List.getElem_mem _)
  · rw [joinN_succ (by omega) h0]
    simp only [List.length_append, List.length_cons, List.length_nil]
    omega

set_option maxHeartbeats 1000000 in
set_option maxRecDepth 100000 in
theorem l3Draw_any (B g p n : Nat) (w : World) (h : Rdr w B g p) (hp : p ≤ 900000) (hn1 : 1 ≤ n) (hn5 : n ≤ 5) :
    Calls Tryd.prog 85 #[.pointer (some ⟨g, 0, none⟩), .int .i64 (n : Int)] w fun e w' => TxtP w B g p 1 165 200 e w' := by
  have hgl := h.lt.2
  have h0 := Lib.hid (h.keep ((Below.refl _ _).alloc (Nat.le_refl _) (.cells #[] 9)))
  have hE := Lib.hid (OS.empty w w.heap.size 9 (Nat.le_refl _))
  have hG0 : Hid (w.grownBy (w.alloc (.cells #[] 9)) (some g)) := Lib.hid (grn_below ((Below.refl _ _).alloc (Nat.le_refl _) _))
  go_enter Tryd.func85, Tryd.ntmps85
  go_wp2_with fail
  go_loopw [5, 6] (fun v q wr => ∃ (k p' : Nat) (ps : List (List UInt8)), k ≤ n ∧ q = .int .i64 k ∧ Hid (ps.length = k) ∧ p' ≤ p + 40 * k ∧ Hid (OS wr w.heap.size 9 v ps ∧ ∀ x ∈ ps, 1 ≤ x.length ∧ x.length ≤ 32) ∧ Hid (Rdr wr B g p' ∧ w.grownBy wr (some g))) (fun _ q _ => n - (intOf q).toNat)
  case atStart => exact ⟨0, _, [], Nat.zero_le _, rfl, rfl, by omega, Lib.hid ⟨hE.out, by simp⟩, Lib.hid ⟨h0.out, hG0.out⟩⟩
  case round =>
    obtain ⟨k, p', ps, hk, rfl, HL, hp', HO, HR⟩ := hrel
    have hvl : ps.length ≤ 5 := by rw [HL.out]; omega
    have hszw : w.heap.size ≤ wr.heap.size := HR.out.2.size
    by_cases hlt : k < n
    · go_wp2_with (first
        | (go_at_call 104; refine (l1Draw_any B g p' n _ HR.out.1 (by omega) hn1 hn5).mono ?_; rintro e w6 ⟨t, p6, rfl, ht1, ht2, hp6, hR6, hG6⟩; have hsz6 : w.heap.size ≤ w6.heap.size := Nat.le_trans hszw hG6.size)
        | (at_builtin; refine wp_pushS rfl _ _ _ rfl Tryd.underlying36 info_str (HO.out.1.only hgl hG6) rfl rfl (by omega) (by omega) ?_; intro v' w7 hown hbel hsz7))
      go_roundw
      case rel => exact ⟨k + 1, p6, ps ++ [t], by omega, by go_num, Lib.hid (by rw [List.length_append, HL.out]; rfl), by omega, Lib.hid ⟨hown, fun x hx => by
        rcases List.mem_append.1 hx with hx | hx
        · exact HO.out.2 x hx
        · simp at hx; rw [hx]; exact ⟨ht1, ht2⟩⟩, Lib.hid ⟨hR6.keepB (hbel (g + 1) hgl), grn_bel (grn_trans HR.out.2 hG6) (hbel _ (Nat.le_refl _))⟩⟩
      case measure => simp [intOf]; omega
    · have hkn : k = n := by omega
      subst hkn
      obtain ⟨A', c', rfl, hc', hO'⟩ := HO.out.1.form
      have hle := joinN_len (M := 32) (fun x hx => (HO.out.2 x hx).2) ps.length (Nat.le_refl _)
      have hge := joinN_pos (fun x hx => (HO.out.2 x hx).1) ps.length (by rw [HL.out]; exact hn1) (Nat.le_refl _)
      rw [List.take_length] at hle hge
      have HT1 := Lib.hid (l3Text_any A' c' ps wr (Lib.hid hO'.rd) (Lib.hid (fun x hx => Nat.le_trans (HO.out.2 x hx).2 (by omega))) (by omega))
      clear hO'
      go_wp2_with (go_at_call 49; refine HT1.out.mono ?_; rintro e w5 ⟨rfl, rfl⟩)
      go_ret
      exact ⟨joinN ps, p', rfl, hge, by omega, by omega, HR.out.1, HR.out.2⟩

end Go.Proofs.YtfkdameegljkeaaDoor

/- Walks: the draws of formulas and of lists of formulas; only their sizes are told. -/
namespace Go.Proofs.YtfkdameegljkeaaDoor
open Go.RowKit
set_option linter.unusedVariables false

/-- the greatest length of a drawn formula -/
def hiD : Nat → Nat | 0 => 1 | d + 1 => 2 * hiD d + 1
/-- how many numbers are drawn for it -/
def usD : Nat → Nat | 0 => 2 | d + 1 => 2 * usD d + 1
theorem hiD_le {d : Nat} (h : d ≤ 2) : hiD d ≤ 7 ∧ usD d ≤ 11 := by
  rcases (show d = 0 ∨ d = 1 ∨ d = 2 by omega) with rfl | rfl | rfl <;> decide
theorem two_cat (c : UInt8) (a b : List UInt8) : ((⟨#[c]⟩ : ByteArray) ++ ⟨a.toArray⟩) ++ ⟨b.toArray⟩ = ⟨(c :: (a ++ b)).toArray⟩ := by
  apply ByteArray.ext; simp
theorem one_cat (c : UInt8) (a : List UInt8) : (⟨#[c]⟩ : ByteArray) ++ ⟨a.toArray⟩ = ⟨(c :: a).toArray⟩ := by
  apply ByteArray.ext; simp
theorem str_eta (v : ByteArray) : v = ⟨v.data.toList.toArray⟩ := rfl

set_option maxHeartbeats 1000000 in
set_option maxRecDepth 100000 in
theorem l2Draw_any (B g n : Nat) (hn1 : 1 ≤ n) (hn5 : n ≤ 5) (d : Nat) : ∀ (p : Nat) (w : World), d ≤ 2 → Rdr w B g p → p + usD d ≤ 900000 →
    Calls Tryd.prog 45 #[.pointer (some ⟨g, 0, none⟩), .int .i64 (n : Int), .int .i64 (d : Int)] w fun e w' => TxtP w B g p 1 (hiD d) (usD d) e w' := by
  induction d with
  | zero =>
    intro p w hd h hp
    have hgl := h.lt.2
    go_enter Tryd.func45, Tryd.ntmps45
    go_wp2_with fail
    refine (pick_any B g p _ _ h (by omega) (by omega) (by omega)).mono ?_
    rintro e w1 ⟨k, rfl, hk, hR1, hG1⟩
    have hgl1 := hR1.lt.2
    by_cases hk0 : k = 0
    · subst hk0
      go_wp2_with fail
      refine (of_any B g (p + 1) 2 _ [⟨#[48]⟩, ⟨#[49]⟩] _ (hR1.keep ((Below.refl _ _).alloc (Nat.le_refl _) _)) (by omega) (Own.lit w1 _ _ (by omega)) (by simp) (by simp)).mono ?_
      rintro e w2 ⟨v, hv, rfl, hR2, hG2⟩
      have hv1 : v.data.toList.length = 1 := by simp at hv; rcases hv with rfl | rfl <;> rfl
      have HG := Lib.hid (grn_trans hG1 (grn_trans (grn_below ((Below.refl _ _).alloc (Nat.le_refl _) _)) hG2))
      clear hv hG1 hG2
      go_wp2_with fail
      go_ret
      exact ⟨v.data.toList, p + 1 + 1, rfl, by omega, by show _ ≤ 1; omega, by show _ ≤ p + 2; omega, hR2, HG.out⟩
    · have hd0 : ((k : Int) == 0) = false := by rw [beq_eq_false_iff_ne]; omega
      clear hk0
      go_wp2_with fail
      refine (pick_any B g (p + 1) _ _ hR1 (by omega) (by omega) (by omega)).mono ?_
      rintro e w2 ⟨k2, rfl, hk2, hR2, hG2⟩
      have hk5 : k2 < 5 := by omega
      have HL : Hid (((⟨#[97, 98, 99, 100, 101]⟩ : ByteArray).extract k2 (k2 + 1)).data.toList.length = 1) := Lib.hid (by
        rcases (show k2 = 0 ∨ k2 = 1 ∨ k2 = 2 ∨ k2 = 3 ∨ k2 = 4 by omega) with rfl | rfl | rfl | rfl | rfl <;> decide +kernel)
      have HG := Lib.hid (grn_trans hG1 hG2)
      clear hG1 hG2 hR1
      go_wp2_with fail
      go_ret
      exact ⟨((⟨#[97, 98, 99, 100, 101]⟩ : ByteArray).extract k2 (k2 + 1)).data.toList, p + 1 + 1, rfl, by rw [HL.out]; exact Nat.le_refl _, by rw [HL.out]; exact Nat.le_refl _, by show _ ≤ p + 2; omega, hR2, HG.out⟩
  | succ d ih =>
    intro p w hd h hp
    have hgl := h.lt.2
    obtain ⟨hh7, hu11⟩ := hiD_le (show d ≤ 2 by omega)
    have eh : hiD (d + 1) = 2 * hiD d + 1 := rfl
    have eu : usD (d + 1) = 2 * usD d + 1 := rfl
    rw [eu] at hp
    rw [eh, eu]
    clear eh eu
    obtain ⟨H, HH⟩ : ∃ H, Hid (H = hiD d) := ⟨_, rfl⟩
    obtain ⟨U, HU⟩ : ∃ U, Hid (U = usD d) := ⟨_, rfl⟩
    rw [← HH.out] at ih hh7 ⊢
    rw [← HU.out] at ih hu11 hp ⊢
    go_enter Tryd.func45, Tryd.ntmps45
    go_wp2_with fail
    refine (pick_any B g p _ _ h (by omega) (by omega) (by omega)).mono ?_
    rintro e w1 ⟨k, rfl, hk, hR1, hG1⟩
    have IH := Lib.hid (fun p w hR hp => ih p w (by omega) hR hp)
    clear ih
    rcases (show k = 0 ∨ k = 1 ∨ k = 2 ∨ k = 3 ∨ k = 4 by omega) with rfl | rfl | rfl | rfl | rfl
    · go_wp2_with fail
      refine (IH.out (p + 1) _ hR1 (by omega)).mono ?_
      rintro e w2 ⟨a, p2, rfl, ha1, ha2, hp2, hR2, hG2⟩
      have HS := Lib.hid (one_cat 33 a)
      have HG := Lib.hid (grn_trans hG1 hG2)
      clear hG1 hG2 hR1
      go_wp2_with fail
      go_ret
      exact ⟨33 :: a, p2, by rw [← HS.out]; rfl, by simp, by rw [List.length_cons]; omega, by omega, hR2, HG.out⟩
    · go_wp2_with fail
      refine (IH.out (p + 1) _ hR1 (by omega)).mono ?_
      rintro e w2 ⟨a, p2, rfl, ha1, ha2, hp2, hR2, hG2⟩
      go_wp2_with fail
      refine (IH.out p2 _ hR2 (by omega)).mono ?_
      rintro e w3 ⟨b, p3, rfl, hb1, hb2, hp3, hR3, hG3⟩
      have HS := Lib.hid (two_cat 38 a b)
      have HG := Lib.hid (grn_trans hG1 (grn_trans hG2 hG3))
      clear hG1 hG2 hG3 hR1 hR2
      go_wp2_with fail
      go_ret
      exact ⟨38 :: (a ++ b), p3, by rw [← HS.out]; rfl, by simp, by rw [List.length_cons, List.length_append]; omega, by omega, hR3, HG.out⟩
    · go_wp2_with fail
      refine (IH.out (p + 1) _ hR1 (by omega)).mono ?_
      rintro e w2 ⟨a, p2, rfl, ha1, ha2, hp2, hR2, hG2⟩
      go_wp2_with fail
      refine (IH.out p2 _ hR2 (by omega)).mono ?_
      rintro e w3 ⟨b, p3, rfl, hb1, hb2, hp3, hR3, hG3⟩
      have HS := Lib.hid (two_cat 38 a b)
      have HG := Lib.hid (grn_trans hG1 (grn_trans hG2 hG3))
      clear hG1 hG2 hG3 hR1 hR2
      go_wp2_with fail
      go_ret
      exact ⟨38 :: (a ++ b), p3, by rw [← HS.out]; rfl, by simp, by rw [List.length_cons, List.length_append]; omega, by omega, hR3, HG.out⟩
    · go_wp2_with fail
      refine (IH.out (p + 1) _ hR1 (by omega)).mono ?_
      rintro e w2 ⟨a, p2, rfl, ha1, ha2, hp2, hR2, hG2⟩
      go_wp2_with fail
      refine (IH.out p2 _ hR2 (by omega)).mono ?_
      rintro e w3 ⟨b, p3, rfl, hb1, hb2, hp3, hR3, hG3⟩
      have HS := Lib.hid (two_cat 124 a b)
      have HG := Lib.hid (grn_trans hG1 (grn_trans hG2 hG3))
      clear hG1 hG2 hG3 hR1 hR2
      go_wp2_with fail
      go_ret
      exact ⟨124 :: (a ++ b), p3, by rw [← HS.out]; rfl, by simp, by rw [List.length_cons, List.length_append]; omega, by omega, hR3, HG.out⟩
    · go_wp2_with fail
      refine (IH.out (p + 1) _ hR1 (by omega)).mono ?_
      rintro e w2 ⟨a, p2, rfl, ha1, ha2, hp2, hR2, hG2⟩
      go_wp2_with fail
      refine (IH.out p2 _ hR2 (by omega)).mono ?_
      rintro e w3 ⟨b, p3, rfl, hb1, hb2, hp3, hR3, hG3⟩
      have HS := Lib.hid (two_cat 94 a b)
      have HG := Lib.hid (grn_trans hG1 (grn_trans hG2 hG3))
      clear hG1 hG2 hG3 hR1 hR2
      go_wp2_with fail
      go_ret
      exact ⟨94 :: (a ++ b), p3, by rw [← HS.out]; rfl, by simp, by rw [List.length_cons, List.length_append]; omega, by omega, hR3, HG.out⟩

/-- a list of at most 6 texts of at most 8 bytes -/
def DrwF (B : Nat) (e : Ending) (w' : World) : Prop := ∃ (A : Option Addr) (c : Nat) (es : List (List UInt8)), e = .returned (.slice A es.length c) ∧ es.length ≤ 6 ∧ es.length ≤ c ∧ (∀ x ∈ es, x.length ≤ 8) ∧ Own w' B A (strs es)
set_option maxHeartbeats 1000000 in
set_option maxRecDepth 100000 in
theorem DrawNetworkOf_any (A : Option Addr) (n c : Nat) (bs : List Int) (w : World) (hn : n = bs.length) (hnc : n ≤ c) (hc : c ≤ 9223372036854775807) (hr : Hid (Rd w A (bs.map (Value.int .u8)))) (hx : Hid (∀ x ∈ bs, 0 ≤ x ∧ x < 256)) :
    Calls Tryd.prog 19 #[.slice A n c] w fun e w' => DrwF w.heap.size e w' ∧ Below w.heap.size w w' := by
  have HNL := Lib.hid hn
  clear hn
  go_enter Tryd.func19, Tryd.ntmps19
  go_wp2_with fail
  refine (l14Open_any _ _ _ _ _ HNL.out hnc hc hr hx).mono ?_
  rintro e w1 ⟨g, rfl, hR, hg, hB1⟩
  have hgl := hR.lt.2
  go_wp2_with fail
  refine (num_any g g 0 6 _ [2, 3, 1, 4, 0, 6] _ (hR.keep ((Below.refl _ _).alloc (Nat.le_refl _) _)) (by omega) (Own.lit w1 _ _ (by omega)) (by simp) (by simp)).mono ?_
  rintro e w2 ⟨n0, hn0, rfl, hR2, hG2⟩
  obtain ⟨m, rfl, hm6⟩ : ∃ m : Nat, n0 = (m : Int) ∧ m ≤ 6 := ⟨n0.toNat, by simp at hn0; omega, by simp at hn0; omega⟩
  have HG2 := Lib.hid (grn_trans (grn_below ((Below.refl _ _).alloc (Nat.le_refl _) _)) hG2)
  have hgl2 := hR2.lt.2
  have hz2 : w1.heap.size ≤ w2.heap.size := HG2.out.size
  have hE := Lib.hid (OS.empty w2 w1.heap.size 9 hz2)
  have HR2 := Lib.hid (hR2.keep ((Below.refl _ _).alloc (Nat.le_refl _) (.cells #[] 9)))
  have HG3 : Hid (w1.grownBy (w2.alloc (.cells #[] 9)) (some g)) := Lib.hid (grn_trans HG2.out (grn_below ((Below.refl _ _).alloc (Nat.le_refl _) _)))
  clear hn0 hG2 hR hR2
  go_wp2_with fail
  go_loopw [5, 6] (fun v q wr => ∃ (k p' : Nat) (es : List (List UInt8)), k ≤ m ∧ q = .int .i64 k ∧ Hid (es.length = k) ∧ p' ≤ 1 + 20 * k ∧ Hid (OS wr w1.heap.size 9 v es ∧ ∀ x ∈ es, x.length ≤ 8) ∧ Hid (Rdr wr g g p' ∧ w1.grownBy wr (some g))) (fun _ q _ => m - (intOf q).toNat)
  case atStart => exact ⟨0, 1, [], Nat.zero_le _, rfl, rfl, by omega, Lib.hid ⟨hE.out, by simp⟩, Lib.hid ⟨HR2.out, HG3.out⟩⟩
  case round =>
    obtain ⟨k, p', es, hk, rfl, HL, hp', HO, HR⟩ := hrel
    have hvl : es.length ≤ 6 := by rw [HL.out]; omega
    have hglr := HR.out.1.lt.2
    by_cases hlt : k < m
    · obtain ⟨m5, hm5a, hm5b, hm5⟩ : ∃ m5 : Nat, 1 ≤ m5 ∧ m5 ≤ 5 ∧ min (m : Int) 5 = (m5 : Int) := ⟨min m 5, by omega, by omega, by omega⟩
      go_wp2_with fail
      clear hm5
      refine (pick_any g g p' _ _ HR.out.1 (by omega) (by omega) (by omega)).mono ?_
      rintro e w3 ⟨d, rfl, hd, hR3, hG3⟩
      obtain ⟨hh7, hu11⟩ := hiD_le (show d ≤ 2 by omega)
      go_wp2_with fail
      refine (l2Draw_any g g m5 hm5a hm5b d (p' + 1) _ (by omega) hR3 (by omega)).mono ?_
      rintro e w4 ⟨t, p4, rfl, ht1, ht2, hp4, hR4, hG4⟩
      have ht7 : t.length ≤ 7 := by omega
      have hp4' : p4 ≤ p' + 1 + 11 := by omega
      clear ht2 hp4
      go_wp2_with fail
      refine (pick_any g g p4 _ _ hR4 (by omega) (by omega) (by omega)).mono ?_
      rintro e w5 ⟨b, rfl, hb, hR5, hG5⟩
      have HG5 := Lib.hid (grn_trans hG3 (grn_trans hG4 hG5))
      have hgl5 := hR5.lt.2
      have hz5 : w1.heap.size ≤ w5.heap.size := Nat.le_trans HR.out.2.size HG5.out.size
      clear hG3 hG4 hG5 hR3 hR4
      by_cases hb0 : b = 0
      · subst hb0
        have HS : Hid ((⟨t.toArray⟩ : ByteArray) ++ ⟨#[97]⟩ = ⟨(t ++ [97]).toArray⟩) := Lib.hid (by apply ByteArray.ext; simp)
        have HLT : Hid ((t ++ [97]).length ≤ 8) := Lib.hid (by rw [List.length_append]; simp; omega)
        go_wp2_with ((at_builtin; refine wp_pushS rfl _ _ _ rfl Tryd.underlying36 info_str (HO.out.1.only hgl HG5.out) rfl rfl (by omega) (by omega) ?_; intro v' w7 hown hbel hsz7))
        go_roundw
        case rel => exact ⟨k + 1, p4 + 1, es ++ [t ++ [97]], by omega, by go_num, Lib.hid (by rw [List.length_append, HL.out]; rfl), by omega, Lib.hid ⟨by
            have e := HS.out
            first | (rw [e] at hown; exact hown) | exact (by simpa using hown), fun x hx => by
          rcases List.mem_append.1 hx with hx | hx
          · exact HO.out.2 x hx
          · rw [List.mem_singleton.1 hx]; exact HLT.out⟩, Lib.hid ⟨hR5.keepB (hbel (g + 1) hgl), grn_bel (grn_trans HR.out.2 HG5.out) (hbel _ (Nat.le_refl _))⟩⟩
        case measure => simp [intOf]; omega
      · have hd0 : ((b : Int) == 0) = false := by rw [beq_eq_false_iff_ne]; omega
        clear hb0
        go_wp2_with ((at_builtin; refine wp_pushS rfl _ _ _ rfl Tryd.underlying36 info_str (HO.out.1.only hgl HG5.out) rfl rfl (by omega) (by omega) ?_; intro v' w7 hown hbel hsz7))
        go_roundw
        case rel => exact ⟨k + 1, p4 + 1, es ++ [t], by omega, by go_num, Lib.hid (by rw [List.length_append, HL.out]; rfl), by omega, Lib.hid ⟨hown, fun x hx => by
          rcases List.mem_append.1 hx with hx | hx
          · exact HO.out.2 x hx
          · rw [List.mem_singleton.1 hx]; omega⟩, Lib.hid ⟨hR5.keepB (hbel (g + 1) hgl), grn_bel (grn_trans HR.out.2 HG5.out) (hbel _ (Nat.le_refl _))⟩⟩
        case measure => simp [intOf]; omega
    · have hkn : k = m := by omega
      subst hkn
      obtain ⟨A', c', rfl, hc', hO'⟩ := HO.out.1.form
      have HO2 := Lib.hid hO'
      clear hO'
      go_wp2_with fail
      go_ret
      exact ⟨⟨A', c', es, rfl, hvl, hc', HO.out.2, HO2.out.mono hB1.size⟩, hB1.trans (Below.of_grown HR.out.2 hg hB1.size)⟩

end Go.Proofs.YtfkdameegljkeaaDoor

/- Plain facts on orbits. -/
namespace Go.Proofs.YtfkdameegljkeaaDoor
open Go.RowKit

/-- the states from s on until one comes again, and the place of the one that comes again; done are those so far -/
def orbGo (f : Nat → Nat) : Nat → List Nat → Nat → List Nat × Nat
  | 0, done, _ => (done, 0)
  | n + 1, done, s => if s ∈ done then (done, done.idxOf s) else orbGo f n (done ++ [s]) (f s)
def orb (f : Nat → Nat) (s : Nat) : List Nat × Nat := orbGo f 33 [] s
/-- the orbit under way -/
structure OrbI (f : Nat → Nat) (N s0 : Nat) (done : List Nat) (t : Nat) : Prop where
  eq : orb f s0 = orbGo f (33 - done.length) done t
  nd : done.Nodup
  lt : ∀ x ∈ done, x < N
  t : t < N
theorem nodup_le : ∀ {N : Nat} {l : List Nat}, l.Nodup → (∀ x ∈ l, x < N) → l.length ≤ N
  | 0, l, _, hl => by
    cases l with
    | nil => simp
    | cons a l => have := hl a (by simp); omega
  | N + 1, l, h, hl => by
    have h1 := nodup_le (N := N) (h.erase N) (by
      intro x hx
      have h2 := (List.Nodup.mem_erase_iff h).1 hx
      have := hl x h2.2
      omega)
    rw [List.length_erase] at h1
    split at h1 <;> omega
theorem OrbI.start (f : Nat → Nat) {N s : Nat} (h : s < N) : OrbI f N s [] s := ⟨rfl, List.nodup_nil, by simp, h⟩
theorem OrbI.len {f : Nat → Nat} {N s0 t : Nat} {done : List Nat} (h : OrbI f N s0 done t) : done.length ≤ N := nodup_le h.nd h.lt
theorem OrbI.more {f : Nat → Nat} {N s0 t : Nat} {done : List Nat} (h : OrbI f N s0 done t) (hN : N ≤ 32) (hf : ∀ x, x < N → f x < N) (hn : t ∉ done) : OrbI f N s0 (done ++ [t]) (f t) := by
  have hl := h.len
  refine ⟨?_, ?_, ?_, hf _ h.t⟩
  · rw [h.eq, show 33 - done.length = (33 - (done ++ [t]).length) + 1 by simp; omega, orbGo, if_neg hn]
  · rw [List.nodup_append]
    exact ⟨h.nd, by simp, by intro a ha b hb; simp at hb; subst hb; intro e; subst e; exact hn ha⟩
  · intro x hx
    rcases List.mem_append.1 hx with hx | hx
    · exact h.lt x hx
    · simp at hx; subst hx; exact h.t
theorem OrbI.fin {f : Nat → Nat} {N s0 t : Nat} {done : List Nat} (h : OrbI f N s0 done t) (hN : N ≤ 32) (hm : t ∈ done) : orb f s0 = (done, done.idxOf t) := by
  have hl := h.len
  rw [h.eq, show 33 - done.length = (32 - done.length) + 1 by omega, orbGo, if_pos hm]
theorem OrbI.room {f : Nat → Nat} {N s0 t : Nat} {done : List Nat} (h : OrbI f N s0 done t) (hn : t ∉ done) : done.length < N := by
  have h2 : (t :: done).Nodup := List.nodup_cons.2 ⟨hn, h.nd⟩
  have := nodup_le (N := N) h2 (fun x hx => (List.mem_cons.1 hx).elim (fun e => e ▸ h.t) (h.lt x))
  rw [List.length_cons] at this
  exact this
/-- what is known of a finished orbit -/
theorem orb_all {f : Nat → Nat} {N s : Nat} (hN : N ≤ 32) (hf : ∀ x, x < N → f x < N) (hs : s < N) :
    (orb f s).1.length ≤ N ∧ (orb f s).2 < (orb f s).1.length ∧ ∀ x ∈ (orb f s).1, x < N := by
  suffices h : ∀ k done t, OrbI f N s done t → done.length + k = 33 → (orb f s).1.length ≤ N ∧ (orb f s).2 < (orb f s).1.length ∧ ∀ x ∈ (orb f s).1, x < N by
    exact h 33 [] s (OrbI.start f hs) rfl
  intro k
  induction k with
  | zero => intro done t h hk; have := h.len; omega
  | succ k ih =>
    intro done t h hk
    by_cases hm : t ∈ done
    · rw [h.fin hN hm]
      exact ⟨h.len, List.idxOf_lt_length_iff.2 hm, h.lt⟩
    · exact ih _ _ (h.more hN hf hm) (by simp; omega)
/-- the marks of the states met: 0, or the place and one -/
def mark (done : List Nat) (t : Nat) : Nat := if t ∈ done then done.idxOf t + 1 else 0
theorem mark_no {done : List Nat} {t : Nat} (h : t ∉ done) : mark done t = 0 := if_neg h
theorem mark_yes {done : List Nat} {t : Nat} (h : t ∈ done) : mark done t = done.idxOf t + 1 := if_pos h
theorem mark_snoc {done : List Nat} {t : Nat} (h : t ∉ done) (x : Nat) : mark (done ++ [t]) x = if x = t then done.length + 1 else mark done x := by
  by_cases e : x = t
  · subst e
    rw [if_pos rfl, mark_yes (by simp), List.idxOf_append, if_neg h]
    simp
  · rw [if_neg e]
    by_cases hx : x ∈ done
    · rw [mark_yes hx, mark_yes (by simp [hx]), List.idxOf_append, if_pos hx]
    · rw [mark_no hx, mark_no (by simp [hx, e])]
def markL (done : List Nat) : List Value := (List.range 32).map fun t => .int .i64 (mark done t : Int)
theorem markL_length (done : List Nat) : (markL done).length = 32 := by simp [markL]
theorem markL_get (done : List Nat) (t : Nat) (h : t < 32) : (markL done)[t]? = some (.int .i64 (mark done t : Int)) := by simp [markL, h]
theorem markL_set {done : List Nat} {t : Nat} (h : t ∉ done) : (markL done).toArray.setIfInBounds t (.int .i64 ((done.length : Int) + 1)) = (markL (done ++ [t])).toArray := by
  apply Array.ext'
  rw [Array.toList_setIfInBounds]
  apply List.ext_getElem?
  intro j
  rw [List.getElem?_set, List.toList_toArray, List.toList_toArray]
  by_cases hj : j < 32
  · rw [markL_get (done ++ [t]) j hj, mark_snoc h]
    by_cases e : t = j
    · subst e
      rw [if_pos rfl, if_pos rfl, if_pos (by rw [markL_length]; exact hj)]
      simp
    · rw [if_neg e, if_neg (Ne.symm e), markL_get _ _ hj]
  · rw [List.getElem?_eq_none (l := markL (done ++ [t])) (by rw [markL_length]; omega)]
    split
    · rw [if_neg (by rw [markL_length]; omega)]
    · rw [List.getElem?_eq_none (by rw [markL_length]; omega)]
/-- the search of a state among those so far -/
theorem idxOf_first {l : List Nat} {k t : Nat} (hk : k < l.length) (h : l[k] = t) (hb : ∀ j, (hj : j < k) → ¬ l[j] = t) : t ∈ l ∧ l.idxOf t = k := by
  have hm : t ∈ l := h ▸ List.getElem_mem hk
  refine ⟨hm, ?_⟩
  have h1 : l.idxOf t < l.length := List.idxOf_lt_length_iff.2 hm
  have h2 : l[l.idxOf t] = t := List.getElem_idxOf h1
  have h3 : ¬ l.idxOf t < k := fun hlt => hb _ hlt h2
  have h4 : ¬ k < l.idxOf t := fun hlt => by
    have := List.not_of_lt_findIdx (p := fun x => x == t) hlt
    simp [h] at this
  omega
theorem not_mem_all {l : List Nat} {t : Nat} (hb : ∀ j, (hj : j < l.length) → ¬ l[j] = t) : t ∉ l := fun hm => by
  obtain ⟨j, hj, e⟩ := List.getElem_of_mem hm
  exact hb j hj e
end Go.Proofs.YtfkdameegljkeaaDoor

