/- Plain facts on the texts of networks and on their steps. -/
import Derived.Test.YtpehimjngofnkaaDoorMb
import Derived.Lib.SplitLaws
import Derived.WalkKit
import Derived.WalkLawsBesides
namespace Go.Proofs.YtpehimjngofnkaaDoor
open Go.RowKit

/-- a text cut at every comma -/
def cutL : List UInt8 → List (List UInt8)
  | [] => [[]]
  | c :: l => if c = 44 then [] :: cutL l else (c :: (cutL l).headD []) :: (cutL l).tail
theorem cutL_ne : ∀ l : List UInt8, cutL l ≠ []
  | [] => by simp [cutL]
  | c :: l => by unfold cutL; split <;> simp
theorem cutL_eta (l : List UInt8) : (cutL l).headD [] :: (cutL l).tail = cutL l := by
  cases h : cutL l with
  | nil => exact absurd h (cutL_ne l)
  | cons a b => rfl
theorem cutL_no {p : List UInt8} (l : List UInt8) (h : ∀ c ∈ p, c ≠ 44) : cutL (p ++ l) = (p ++ (cutL l).headD []) :: (cutL l).tail := by
  induction p with
  | nil => rw [List.nil_append, List.nil_append, cutL_eta]
  | cons c p ih =>
    rw [List.cons_append, cutL, if_neg (h c (by simp)), ih (fun d hd => h d (by simp [hd]))]
    rfl
theorem cutL_end {p : List UInt8} (h : ∀ c ∈ p, c ≠ 44) : cutL p = [p] := by
  have := cutL_no (p := p) [] h
  simpa [cutL] using this
theorem cutL_comma {p : List UInt8} (l : List UInt8) (h : ∀ c ∈ p, c ≠ 44) : cutL (p ++ 44 :: l) = p :: cutL l := by
  rw [cutL_no _ h]
  simp [cutL]
theorem cut_cases : ∀ s : List UInt8, (∀ c ∈ s, c ≠ 44) ∨ ∃ p l, s = p ++ 44 :: l ∧ ∀ c ∈ p, c ≠ 44
  | [] => .inl (by simp)
  | c :: s => by
    by_cases hc : c = 44
    · exact .inr ⟨[], s, by simp [hc], by simp⟩
    · rcases cut_cases s with h | ⟨p, l, rfl, h⟩
      · exact .inl (fun d hd => (List.mem_cons.1 hd).elim (fun e => e ▸ hc) (h d))
      · exact .inr ⟨c :: p, l, rfl, fun d hd => (List.mem_cons.1 hd).elim (fun e => e ▸ hc) (h d)⟩
theorem index_no : ∀ {p : List UInt8}, (∀ c ∈ p, c ≠ 44) → Lib.index p [44] = -1
  | [], _ => rfl
  | c :: p, h => by
    have hc : ¬ (44 : UInt8) = c := fun e => h c (by simp) e.symm
    have ih := index_no (p := p) (fun d hd => h d (by simp [hd]))
    simp [Lib.index, ih, hc]
theorem index_at : ∀ {p : List UInt8} (l : List UInt8), (∀ c ∈ p, c ≠ 44) → Lib.index (p ++ 44 :: l) [44] = (p.length : Nat)
  | [], l, _ => by simp [Lib.index]
  | c :: p, l, h => by
    have hc : ¬ (44 : UInt8) = c := fun e => h c (by simp) e.symm
    have ih := index_at (p := p) l (fun d hd => h d (by simp [hd]))
    have hne : ¬ ((p.length : Nat) : Int) = -1 := by omega
    simp [Lib.index, ih, hc, hne]
theorem splitK_cut : ∀ (k : Nat) (s : List UInt8), Lib.count s [44] = k → Lib.splitK [44] 0 k s = cutL s := by
  intro k
  induction k with
  | zero =>
    intro s hk
    rcases cut_cases s with h | ⟨p, l, rfl, h⟩
    · rw [cutL_end h]; rfl
    · rw [Lib.count_hit (by simp) (index_at l h)] at hk; omega
  | succ k ih =>
    intro s hk
    rcases cut_cases s with h | ⟨p, l, rfl, h⟩
    · rw [Lib.count_miss (index_no h)] at hk; omega
    · rw [Lib.count_hit (by simp) (index_at l h)] at hk
      have e : (p ++ 44 :: l).drop (p.length + 1) = l := by
        rw [show p ++ 44 :: l = (p ++ [44]) ++ l by simp, List.drop_left' (by simp)]
      have e2 : (p ++ 44 :: l).drop (p.length + ([44] : List UInt8).length) = l := e
      rw [e2] at hk
      have hne : ¬ (((p.length : Nat) : Int) == -1) = true := by simp
      rw [cutL_comma l h, Lib.splitK, index_at l h, if_neg hne]
      have et : ((p.length : Nat) : Int).toNat = p.length := rfl
      rw [et, e2, Nat.add_zero, List.take_left' rfl, ih l (by omega)]
theorem splitB_cut (s : ByteArray) : (Lib.splitB ⟨#[44]⟩ 0 (Lib.countB s ⟨#[44]⟩) s).map (·.data.toList) = cutL s.data.toList := by
  rw [Lib.splitB_data]
  exact splitK_cut _ _ rfl
/-- the parts as strings -/
def cutB (s : ByteArray) : List ByteArray := (cutL s.data.toList).map fun l => ⟨l.toArray⟩
theorem str_of_list (s : ByteArray) : (⟨s.data.toList.toArray⟩ : ByteArray) = s := by cases s; simp
theorem splitB_cutB (s : ByteArray) : Lib.splitB ⟨#[44]⟩ 0 (Lib.countB s ⟨#[44]⟩) s = cutB s := by
  rw [cutB, ← splitB_cut, List.map_map]
  have : ((fun l : List UInt8 => (⟨l.toArray⟩ : ByteArray)) ∘ fun x : ByteArray => x.data.toList) = id := by
    funext x; exact str_of_list x
  rw [this, List.map_id]
theorem cutB_length (s : ByteArray) : (cutB s).length = (cutL s.data.toList).length := by simp [cutB]
theorem countB_cut (s : ByteArray) : Lib.countB s ⟨#[44]⟩ + 1 = (cutL s.data.toList).length := by
  rw [← cutB_length, ← splitB_cutB, Lib.splitB_all _ (by decide) 0 _ s rfl]
theorem cutL_len : ∀ l : List UInt8, (cutL l).length ≤ l.length + 1 ∧ 1 ≤ (cutL l).length
  | [] => by simp [cutL]
  | c :: l => by
    have := cutL_len l
    unfold cutL
    split <;> simp <;> omega
theorem cutL_part : ∀ (l p : List UInt8), p ∈ cutL l → p.length ≤ l.length
  | [], p, h => by simp [cutL] at h; simp [h]
  | c :: l, p, h => by
    unfold cutL at h
    split at h
    · rcases List.mem_cons.1 h with rfl | h
      · simp
      · have := cutL_part l p h; simp; omega
    · rcases List.mem_cons.1 h with rfl | h
      · have := cutL_part l ((cutL l).headD []) (by rw [← cutL_eta l]; simp)
        simp only [List.length_cons]; omega
      · have := cutL_part l p (List.mem_of_mem_tail h)
        simp only [List.length_cons]; omega

/-- are the parts the rules of a network? -/
def okN (ps : List (List UInt8)) : Bool := ps.all fun p => okT p && (tin p.length == ps.length)
theorem okN_of {ps : List (List UInt8)} (h : okN ps = true) {p : List UInt8} (hp : p ∈ ps) : okT p = true ∧ tin p.length = ps.length := by
  have := List.all_eq_true.1 h p hp
  simpa using this
theorem okN_bad {ps : List (List UInt8)} {p : List UInt8} (hp : p ∈ ps) (h : okT p = false ∨ ¬ tin p.length = ps.length) : okN ps = false := by
  by_cases hn : okN ps = true
  · have := okN_of hn hp
    rcases h with h | h
    · rw [h] at this; cases this.1
    · exact absurd this.2 h
  · simpa using hn
theorem okN_le {ps : List (List UInt8)} (h : okN ps = true) : ps.length ≤ 5 := by
  cases ps with
  | nil => simp
  | cons p ps =>
    have h2 := okN_of h (p := p) (by simp)
    have h3 := okT_true h2.1
    omega
/-- the value of a switch's rule in a state -/
def nb (ps : List (List UInt8)) (s i : Nat) : Nat := val (ps.getD i []) s
theorem nb_lt {ps : List (List UInt8)} (h : okN ps = true) (s i : Nat) : nb ps s i < 2 := by
  unfold nb
  by_cases hi : i < ps.length
  · rw [List.getD_eq_getElem?_getD, List.getElem?_eq_getElem hi, Option.getD_some]
    exact val_lt (okT_true (okN_of h (List.getElem_mem hi)).1).2.2.2 s
  · rw [List.getD_eq_getElem?_getD, List.getElem?_eq_none (by omega)]
    simp [val]
/-- the number whose digits are b -/
def asm (b : Nat → Nat) : Nat → Nat
  | 0 => 0
  | k + 1 => asm b k + b k * 2 ^ k
theorem asm_lt {b : Nat → Nat} (h : ∀ i, b i < 2) : ∀ k, asm b k < 2 ^ k
  | 0 => by simp [asm]
  | k + 1 => by
    have := asm_lt h k
    have hb := h k
    rw [asm, Nat.pow_succ]
    have : b k * 2 ^ k ≤ 1 * 2 ^ k := Nat.mul_le_mul_right _ (by omega)
    omega
theorem bit_add_mul (a v i k : Nat) (h : i < k) : bit (a + v * 2 ^ k) i = bit a i := by
  obtain ⟨m, rfl⟩ : ∃ m, k = i + (m + 1) := ⟨k - i - 1, by omega⟩
  rw [bit, bit, Nat.pow_add, Nat.pow_succ, show v * (2 ^ i * (2 ^ m * 2)) = 2 ^ i * (v * 2 ^ m * 2) by
    rw [← Nat.mul_assoc, Nat.mul_comm v, Nat.mul_assoc, ← Nat.mul_assoc v], Nat.add_mul_div_left _ _ (Nat.two_pow_pos i), Nat.add_mul_mod_self_right]
theorem bit_asm {b : Nat → Nat} (h : ∀ i, b i < 2) (i : Nat) : ∀ k, i < k → bit (asm b k) i = b i
  | 0, hk => by omega
  | k + 1, hk => by
    rw [asm]
    by_cases e : i = k
    · subst e
      rw [bit, Nat.add_mul_div_right _ _ (Nat.two_pow_pos i), Nat.div_eq_of_lt (asm_lt h i), Nat.zero_add]
      exact Nat.mod_eq_of_lt (h i)
    · rw [bit_add_mul _ _ _ _ (by omega), bit_asm h i k (by omega)]
theorem bit_top {x n : Nat} (h : x < 2 ^ (n + 1)) : x = x % 2 ^ n + bit x n * 2 ^ n := by
  have h1 := Nat.mod_add_div x (2 ^ n)
  have h2 : x / 2 ^ n < 2 := by rw [Nat.div_lt_iff_lt_mul (Nat.two_pow_pos n), Nat.mul_comm, ← Nat.pow_succ]; exact h
  rw [bit, Nat.mod_eq_of_lt h2, Nat.mul_comm]
  exact h1.symm
theorem bit_mod {x n i : Nat} (h : i < n) : bit (x % 2 ^ n) i = bit x i := by
  rw [bit_testBit, bit_testBit, Nat.testBit_mod_two_pow]
  simp [h]
theorem bit_ext : ∀ {n x y : Nat}, x < 2 ^ n → y < 2 ^ n → (∀ i, i < n → bit x i = bit y i) → x = y
  | 0, x, y, hx, hy, _ => by simp at hx hy; omega
  | n + 1, x, y, hx, hy, h => by
    have h1 := bit_ext (n := n) (Nat.mod_lt x (Nat.two_pow_pos n)) (Nat.mod_lt y (Nat.two_pow_pos n)) (fun i hi => by rw [bit_mod hi, bit_mod hi]; exact h i (by omega))
    rw [bit_top hx, bit_top hy, h1, h n (by omega)]
/-- a state in which a switch is held at a value -/
def holdN (s i v : Nat) : Nat := s - bit s i * 2 ^ i + v * 2 ^ i
theorem holdN_bit : ∀ s, s < 32 → ∀ i, i < 5 → ∀ v, v < 2 → ∀ j, j < 5 → bit (holdN s i v) j = if j = i then v else bit s j := by decide +kernel
theorem holdN_lt : ∀ n, n < 6 → ∀ s, s < 2 ^ n → ∀ i, i < n → ∀ v, v < 2 → holdN s i v < 2 ^ n := by decide +kernel
theorem hold_bits : ∀ s, s < 32 → ∀ i, i < 5 → ∀ v, v < 2 → bits .or .i64 (bits .andNot .i64 ((s : Nat) : Int) (wrap64 (2 ^ i))) (wrap64 (((v : Nat) : Int) * 2 ^ i)) = ((holdN s i v : Nat) : Int) := by decide +kernel
theorem or_bits : ∀ i, i < 5 → ∀ s, s < 2 ^ i → ∀ v, v < 2 → bits .or .i64 ((s : Nat) : Int) (wrap64 (((v : Nat) : Int) * 2 ^ i)) = ((s + v * 2 ^ i : Nat) : Int) := by decide +kernel
/-- a step of the switches of a set, up to switch k -/
def stW (b : Nat → Nat) (s W : Nat) : Nat → Nat
  | 0 => s
  | k + 1 => if bit W k = 1 then holdN (stW b s W k) k (b k) else stW b s W k
theorem stW_lt {b : Nat → Nat} (h : ∀ i, b i < 2) {n s W : Nat} (hn : n ≤ 5) (hs : s < 2 ^ n) : ∀ k, k ≤ n → stW b s W k < 2 ^ n
  | 0, _ => hs
  | k + 1, hk => by
    have ih := stW_lt h hn hs (W := W) k (by omega)
    rw [stW]
    split
    · exact holdN_lt n (by omega) _ ih k (by omega) _ (h k)
    · exact ih
theorem stW_bit {b : Nat → Nat} (h : ∀ i, b i < 2) {n s W : Nat} (hn : n ≤ 5) (hs : s < 2 ^ n) (j : Nat) (hj : j < n) : ∀ k, k ≤ n → bit (stW b s W k) j = if j < k ∧ bit W j = 1 then b j else bit s j
  | 0, _ => by simp [stW]
  | k + 1, hk => by
    have ih := stW_bit h hn hs (W := W) j hj k (by omega)
    have hl := stW_lt h hn hs (W := W) k (by omega)
    have h32 := two_le n hn
    rw [stW]
    by_cases hw : bit W k = 1
    · rw [if_pos hw, holdN_bit _ (by omega) k (by omega) _ (h k) j (by omega), ih]
      by_cases e : j = k
      · subst e; rw [if_pos rfl, if_pos ⟨by omega, hw⟩]
      · rw [if_neg e]
        by_cases hjk : j < k
        · simp [hjk, show j < k + 1 by omega]
        · simp [hjk, show ¬ j < k + 1 by omega]
    · rw [if_neg hw, ih]
      by_cases e : j = k
      · subst e; rw [if_neg (by omega), if_neg (fun h => hw h.2)]
      · by_cases hjk : j < k
        · simp [hjk, show j < k + 1 by omega]
        · simp [hjk, show ¬ j < k + 1 by omega]
theorem bit_all : ∀ n, n < 6 → ∀ j, j < n → bit (2 ^ n - 1) j = 1 := by decide +kernel
theorem bit_pow : ∀ i, i < 5 → ∀ j, j < 5 → bit (2 ^ i) j = if j = i then 1 else 0 := by decide +kernel
theorem stW_all {b : Nat → Nat} (h : ∀ i, b i < 2) {n s : Nat} (hn : n ≤ 5) (hs : s < 2 ^ n) : stW b s (2 ^ n - 1) n = asm b n :=
  bit_ext (stW_lt h hn hs n (Nat.le_refl _)) (asm_lt h n) fun j hj => by
    rw [stW_bit h hn hs j hj n (Nat.le_refl _), if_pos ⟨hj, bit_all n (by omega) j hj⟩, bit_asm h j n hj]
theorem stW_one {b : Nat → Nat} (h : ∀ i, b i < 2) {n s i : Nat} (hn : n ≤ 5) (hs : s < 2 ^ n) (hi : i < n) : stW b s (2 ^ i) n = holdN s i (b i) :=
  bit_ext (stW_lt h hn hs n (Nat.le_refl _)) (holdN_lt n (by omega) s hs i hi _ (h i)) fun j hj => by
    have h32 := two_le n hn
    rw [stW_bit h hn hs j hj n (Nat.le_refl _), holdN_bit s (by omega) i (by omega) _ (h i) j (by omega), bit_pow i (by omega) j (by omega)]
    by_cases e : j = i
    · subst e; simp [hj]
    · simp [e]
/-- the state after a step of all switches -/
def stp (ps : List (List UInt8)) (s : Nat) : Nat := asm (nb ps s) ps.length
/-- the state after a step of one switch -/
def stp1 (ps : List (List UInt8)) (s i : Nat) : Nat := holdN s i (nb ps s i)
theorem stp_lt {ps : List (List UInt8)} (h : okN ps = true) (s : Nat) : stp ps s < 2 ^ ps.length := asm_lt (nb_lt h s) _
theorem stp1_lt {ps : List (List UInt8)} (h : okN ps = true) {s i : Nat} (hs : s < 2 ^ ps.length) (hi : i < ps.length) : stp1 ps s i < 2 ^ ps.length :=
  holdN_lt _ (by have := okN_le h; omega) s hs i hi _ (nb_lt h s i)
theorem stp_of {ps : List (List UInt8)} (h : okN ps = true) {s : Nat} (hs : s < 2 ^ ps.length) : stW (nb ps s) s (2 ^ ps.length - 1) ps.length = stp ps s := stW_all (nb_lt h s) (okN_le h) hs
theorem stp1_of {ps : List (List UInt8)} (h : okN ps = true) {s i : Nat} (hs : s < 2 ^ ps.length) (hi : i < ps.length) : stW (nb ps s) s (2 ^ i) ps.length = stp1 ps s i := stW_one (nb_lt h s) (okN_le h) hs hi
/-- the states after a step of one restless switch, of the first k ones -/
def nextTo (ps : List (List UInt8)) (s : Nat) : Nat → List Nat
  | 0 => []
  | k + 1 => if stp1 ps s k = s then nextTo ps s k else nextTo ps s k ++ [stp1 ps s k]
def nextN (ps : List (List UInt8)) (s : Nat) : List Nat := nextTo ps s ps.length
theorem nextTo_len (ps : List (List UInt8)) (s : Nat) : ∀ k, (nextTo ps s k).length ≤ k
  | 0 => by simp [nextTo]
  | k + 1 => by
    have := nextTo_len ps s k
    rw [nextTo]
    split
    · omega
    · simp; omega
theorem nextTo_lt {ps : List (List UInt8)} (h : okN ps = true) {s : Nat} (hs : s < 2 ^ ps.length) : ∀ k, k ≤ ps.length → ∀ t ∈ nextTo ps s k, t < 2 ^ ps.length
  | 0, _, t, ht => by simp [nextTo] at ht
  | k + 1, hk, t, ht => by
    rw [nextTo] at ht
    split at ht
    · exact nextTo_lt h hs k (by omega) t ht
    · rcases List.mem_append.1 ht with ht | ht
      · exact nextTo_lt h hs k (by omega) t ht
      · simp at ht; subst ht; exact stp1_lt h hs (by omega)
/-- the cutting under way: done are the parts so far, the next one begins at fr, the byte at i comes next -/
def CutInv (l : List UInt8) (done : List (List UInt8)) (fr i : Nat) : Prop :=
  (i ≤ l.length ∧ fr ≤ i ∧ cutL l = done ++ cutL (l.drop fr) ∧ ∀ c ∈ (l.drop fr).take (i - fr), c ≠ 44) ∨ (i = l.length + 1 ∧ done = cutL l)
theorem cutInv_start (l : List UInt8) : CutInv l [] 0 0 := .inl ⟨Nat.zero_le _, Nat.le_refl _, by simp, by simp⟩
theorem cutInv_done {l : List UInt8} {done : List (List UInt8)} {fr i : Nat} (h : CutInv l done fr i) (hi : i = l.length + 1) : done = cutL l := by
  rcases h with h | h
  · omega
  · exact h.2
theorem take_next {l : List UInt8} {fr i : Nat} (h : fr ≤ i) (hi : i < l.length) : (l.drop fr).take (i + 1 - fr) = (l.drop fr).take (i - fr) ++ [l[i]] := by
  rw [show i + 1 - fr = (i - fr) + 1 by omega, List.take_add_one]
  have : (l.drop fr)[i - fr]? = some l[i] := by
    rw [List.getElem?_drop, show fr + (i - fr) = i by omega, List.getElem?_eq_getElem hi]
  rw [this]; rfl
theorem cutInv_skip {l : List UInt8} {done : List (List UInt8)} {fr i : Nat} (h : CutInv l done fr i) (hi : i < l.length) (hc : l[i] ≠ 44) : CutInv l done fr (i + 1) := by
  rcases h with ⟨h1, h2, h3, h4⟩ | h
  · refine .inl ⟨hi, by omega, h3, ?_⟩
    rw [take_next h2 hi]
    intro c hc'
    rcases List.mem_append.1 hc' with hc' | hc'
    · exact h4 c hc'
    · simp at hc'; exact hc' ▸ hc
  · omega
theorem drop_split {l : List UInt8} {fr i : Nat} (h : fr ≤ i) (hi : i < l.length) : l.drop fr = (l.drop fr).take (i - fr) ++ l[i] :: l.drop (i + 1) := by
  have h2 : (l.drop fr).drop (i - fr) = l[i] :: l.drop (i + 1) := by
    rw [List.drop_drop, show fr + (i - fr) = i by omega, List.drop_eq_getElem_cons hi]
  rw [← h2, List.take_append_drop]
theorem cutInv_cut {l : List UInt8} {done : List (List UInt8)} {fr i : Nat} (h : CutInv l done fr i) (hi : i < l.length) (hc : l[i] = 44) : CutInv l (done ++ [(l.drop fr).take (i - fr)]) (i + 1) (i + 1) := by
  rcases h with ⟨h1, h2, h3, h4⟩ | h
  · refine .inl ⟨hi, by omega, ?_, by simp⟩
    have hs := drop_split h2 hi
    rw [hc] at hs
    rw [h3, hs, cutL_comma _ h4, ← hs]
    simp
  · omega
theorem cutInv_end {l : List UInt8} {done : List (List UInt8)} {fr i : Nat} (h : CutInv l done fr i) (hi : i = l.length) : CutInv l (done ++ [(l.drop fr).take (i - fr)]) (i + 1) (i + 1) := by
  rcases h with ⟨h1, h2, h3, h4⟩ | h
  · refine .inr ⟨by omega, ?_⟩
    have e : (l.drop fr).take (i - fr) = l.drop fr := List.take_of_length_le (by rw [List.length_drop]; omega)
    rw [e] at h4 ⊢
    rw [h3, cutL_end h4]
  · omega
theorem ext_list (s : ByteArray) (a b : Nat) : (s.extract a b).data.toList = (s.data.toList.drop a).take (b - a) := by
  rw [ByteArray.data_extract, Array.toList_extract, List.extract_eq_take_drop]
/-- the number of inputs of a table of a length, -1 if there is none -/
def inN (len : Nat) : Int := if tin len = 0 then -1 else (tin len : Int)
theorem inN_yes {len : Nat} (h : ¬ tin len = 0) : inN len = (tin len : Int) := if_neg h
theorem inN_no {len : Nat} (h : tin len = 0) : inN len = -1 := if_pos h
/-- is it a network with this state? -/
def okSt (ps : List (List UInt8)) (t : Int) : Bool := okN ps && inW ps.length t
theorem okSt_true {ps : List (List UInt8)} {t : Int} (h : okSt ps t = true) : okN ps = true ∧ ∃ s : Nat, t = s ∧ s < 2 ^ ps.length := by
  rw [okSt, Bool.and_eq_true] at h
  have h2 := (inW_yes (N := 2 ^ ps.length) rfl).1 h.2
  exact ⟨h.1, t.toNat, by omega, by omega⟩
theorem okSt_of {ps : List (List UInt8)} {t : Int} {N : Nat} (h : okN ps = true) (hN : N = 2 ^ ps.length) : okSt ps t = (decide (0 ≤ t) && decide (t ≤ (N : Int) - 1)) := by
  rw [okSt, h, Bool.true_and, Bool.eq_iff_iff, inW_yes hN]
  simp; omega
theorem okSt_no {ps : List (List UInt8)} {t : Int} (h : okN ps = false) : okSt ps t = false := by rw [okSt, h]; rfl
theorem part_len {ps : List (List UInt8)} {N i : Nat} (h : okN ps = true) (hN : N = 2 ^ ps.length) (hi : i < ps.length) : ps[i].length = N := by
  have h1 := okN_of h (List.getElem_mem hi)
  rw [hN, ← h1.2]; exact (okT_true h1.1).2.2.1
theorem part_b01 {ps : List (List UInt8)} {i s : Nat} (h : okN ps = true) (hi : i < ps.length) (hs : s < ps[i].length) : b01 ps[i][s] = true :=
  (okT_true (okN_of h (List.getElem_mem hi)).1).2.2.2 _ (List.getElem_mem hs)
theorem nb_at {ps : List (List UInt8)} {i : Nat} (s : Nat) (hi : i < ps.length) : nb ps s i = val ps[i] s := by
  rw [nb, List.getD_eq_getElem?_getD, List.getElem?_eq_getElem hi, Option.getD_some]
theorem okN_take {ps : List (List UInt8)} {i : Nat} (hi : i < ps.length) (h : ((ps.take i).all fun p => okT p && (tin p.length == ps.length)) = true) (h1 : okT ps[i] = true) (h2 : tin ps[i].length = ps.length) :
    ((ps.take (i + 1)).all fun p => okT p && (tin p.length == ps.length)) = true := by
  rw [List.take_add_one, List.getElem?_eq_getElem hi, List.all_append, h]
  simp [h1, h2]
theorem str_size (l : List UInt8) : (⟨l.toArray⟩ : ByteArray).size = l.length := by simp [ByteArray.size]
theorem nextN_len {ps : List (List UInt8)} (h : okN ps = true) (s : Nat) : (nextN ps s).length ≤ 5 := Nat.le_trans (nextTo_len _ _ _) (okN_le h)
/-- how many steps of one restless switch there are from the first k states -/
def cntTo (ps : List (List UInt8)) : Nat → Nat
  | 0 => 0
  | k + 1 => cntTo ps k + (nextN ps k).length
theorem cntTo_le {ps : List (List UInt8)} (h : okN ps = true) : ∀ k, cntTo ps k ≤ 5 * k
  | 0 => by simp [cntTo]
  | k + 1 => by
    have := cntTo_le h k
    have := nextN_len h k
    rw [cntTo]; omega
def cntN (ps : List (List UInt8)) : Int := if okN ps then (cntTo ps (2 ^ ps.length) : Int) else -1
theorem cntN_yes {ps : List (List UInt8)} {N : Nat} (h : okN ps = true) (hN : N = 2 ^ ps.length) : cntN ps = (cntTo ps N : Int) := by rw [cntN, if_pos h, hN]
theorem cntN_no {ps : List (List UInt8)} (h : okN ps = false) : cntN ps = -1 := by rw [cntN, h]; rfl
end Go.Proofs.YtpehimjngofnkaaDoor
