/- Plain lemmas on states, their digits, the states of a term, hulls. No program is in sight. -/
import Derived.Test.YtfkdameegljkeaaMa
namespace Go.Proofs.Ytfkdameegljkeaa
open Go.RowKit

/-- the digit i of a state -/
def bit (s i : Nat) : Nat := s / 2 ^ i % 2
theorem bit_lt (s i : Nat) : bit s i < 2 := Nat.mod_lt _ (by omega)
theorem bit_01 (s i : Nat) : bit s i = 0 ∨ bit s i = 1 := by have := bit_lt s i; omega
theorem bit_testBit (s i : Nat) : bit s i = (s.testBit i).toNat := by
  rw [bit, Nat.testBit_eq_decide_div_mod_eq]
  have : s / 2 ^ i % 2 < 2 := Nat.mod_lt _ (by omega)
  by_cases h : s / 2 ^ i % 2 = 1
  · simp [h]
  · simp [h]; omega

theorem and_one (x : Nat) (hx : x < 9223372036854775808) : bits .and .i64 (x : Int) 1 = ((x % 2 : Nat) : Int) := by
  have h1 : (BitVec.ofInt 64 (x : Int)).toNat = x := by
    rw [BitVec.ofInt_natCast, BitVec.toNat_ofNat]; exact Nat.mod_eq_of_lt (by omega)
  show IntKind.i64.wrap ((BitVec.ofInt 64 (x : Int) &&& BitVec.ofInt 64 1).toNat : Int) = _
  rw [BitVec.toNat_and, h1]
  have h2 : (BitVec.ofInt 64 1).toNat = 1 := rfl
  rw [h2, Nat.and_one_is_mod, IntKind.wrap_i64]
  omega
/-- 's>>i & 1' as the walk writes it -/
theorem bit_and (s i : Nat) (hs : s < 9223372036854775808) : bits .and .i64 ((s : Int) / 2 ^ i) 1 = (bit s i : Int) := by
  have e : ((s : Int) / 2 ^ i) = ((s / 2 ^ i : Nat) : Int) := by simp
  rw [e, and_one _ (Nat.lt_of_le_of_lt (Nat.div_le_self _ _) hs)]
  rfl
theorem two_le (n : Nat) (h : n ≤ 5) : 2 ^ n ≤ 32 := by
  have : 2 ^ n ≤ 2 ^ 5 := Nat.pow_le_pow_right (by omega) h
  omega
theorem wrap64_small (N : Nat) (h : N ≤ 32) : wrap64 (N : Int) = (N : Int) := by unfold wrap64; omega
theorem wrap_two (n : Nat) (h : n ≤ 5) : ∃ N : Nat, Hid (N = 2 ^ n) ∧ wrap64 ((2 : Int) ^ n) = (N : Int) ∧ N ≤ 32 ∧ 0 < N := by
  refine ⟨2 ^ n, rfl, ?_, two_le n h, Nat.two_pow_pos n⟩
  have h1 : ((2 : Int) ^ n) = ((2 ^ n : Nat) : Int) := by simp
  rw [h1]
  exact wrap64_small _ (two_le n h)
/-- the bytes of a term or a state are digits or '*' -/
def chr (d : Nat) : UInt8 := UInt8.ofNat (48 + d)
theorem chr_toNat (d : Nat) (h : d < 10) : (chr d).toNat = 48 + d := by rw [chr, UInt8.toNat_ofNat']; omega
def dig (s i : Nat) : UInt8 := chr (bit s i)
theorem dig_toNat (s i : Nat) : (dig s i).toNat = 48 + bit s i := chr_toNat _ (by have := bit_lt s i; omega)
/-- what FormatState writes -/
def fmtL (s n : Nat) : List UInt8 := (List.range n).map (dig s)
theorem fmtL_length (s n : Nat) : (fmtL s n).length = n := by simp [fmtL]
theorem fmtL_succ (s n : Nat) : fmtL s (n + 1) = fmtL s n ++ [dig s n] := by simp [fmtL, List.range_succ]
theorem fmtL_get (s n i : Nat) (h : i < n) : (fmtL s n)[i]? = some (dig s i) := by simp [fmtL, h]

/-- whether a byte of a term lets a digit be -/
def fits (c : UInt8) (b : Nat) : Bool := c.toNat == 42 || c.toNat == 48 + b
/-- whether a state is one of a term: the bytes from the place i on -/
def hasF : List UInt8 → Nat → Nat → Bool
  | [], _, _ => true
  | c :: r, i, s => fits c (bit s i) && hasF r (i + 1) s
def hasS (l : List UInt8) (s : Nat) : Bool := hasF l 0 s
theorem hasF_snoc (l : List UInt8) (c : UInt8) (i s : Nat) : hasF (l ++ [c]) i s = (hasF l i s && fits c (bit s (i + l.length))) := by
  induction l generalizing i with
  | nil => simp [hasF]
  | cons a r ih => simp only [List.cons_append, hasF, ih, List.length_cons, Bool.and_assoc]; rw [show i + 1 + r.length = i + (r.length + 1) by omega]
theorem hasF_bad (l : List UInt8) (i s k : Nat) (h : k < l.length) (hb : fits l[k] (bit s (i + k)) = false) : hasF l i s = false := by
  induction l generalizing i k with
  | nil => simp at h
  | cons a r ih =>
    cases k with
    | zero => simp only [List.getElem_cons_zero, Nat.add_zero] at hb; simp [hasF, hb]
    | succ k =>
      simp only [List.getElem_cons_succ] at hb
      rw [show i + (k + 1) = i + 1 + k by omega] at hb
      simp [hasF, ih (i + 1) k (by simpa using h) hb]
theorem hasS_step {t : ByteArray} {s k : Nat} (hk : k < t.size) (h : hasS (t.data.toList.take k) s = true) (hf : fits t[k] (bit s k) = true) : hasS (t.data.toList.take (k + 1)) s = true := by
  rw [take_snoc t k hk]
  unfold hasS at h ⊢
  have hl : (t.data.toList.take k).length = k := by rw [List.length_take]; have : t.data.toList.length = t.size := by simp
                                                    omega
  rw [hasF_snoc, h, hl, Nat.zero_add, hf]; rfl
theorem hasS_stop {t : ByteArray} {s k : Nat} (hk : k < t.size) (hf : fits t[k] (bit s k) = false) : hasS t.data.toList s = false := by
  refine hasF_bad _ 0 s k (by simpa using hk) ?_
  rw [Nat.zero_add]; exact hf

/-- the numbers below N that are chosen, in ascending order -/
def sel (N : Nat) (p : Nat → Bool) : List Nat := (List.range N).filter p
theorem sel_yes {k : Nat} {p : Nat → Bool} (h : p k = true) : sel (k + 1) p = sel k p ++ [k] := by simp [sel, List.range_succ, h]
theorem sel_no {k : Nat} {p : Nat → Bool} (h : p k = false) : sel (k + 1) p = sel k p := by simp [sel, List.range_succ, h]
theorem sel_len (N : Nat) (p : Nat → Bool) : (sel N p).length ≤ N := by have := List.length_filter_le p (List.range N); simpa [sel] using this
def ints (l : List Nat) : List Int := l.map fun s : Nat => (s : Int)
theorem ints_length (l : List Nat) : (ints l).length = l.length := by simp [ints]
theorem ints_append (a b : List Nat) : ints (a ++ b) = ints a ++ ints b := by simp [ints]
theorem sel_yesI {k : Nat} {p : Nat → Bool} (h : p k = true) : ints (sel (k + 1) p) = ints (sel k p) ++ [(k : Int)] := by rw [sel_yes h, ints_append]; rfl
theorem sel_noI {k : Nat} {p : Nat → Bool} (h : p k = false) : ints (sel (k + 1) p) = ints (sel k p) := by rw [sel_no h]
set_option maxHeartbeats 400000 in
def stL (l : List UInt8) : List Nat := sel (2 ^ l.length) (hasS l)

/-- what StatesOf answers -/
def STL (l : List UInt8) : List Nat := if TV l l.length then stL l else []
/-- one state more in a hull -/
def hullC (c : UInt8) (b : Nat) : UInt8 := if fits c b then c else 42
def hullS (o : List UInt8) (s : Nat) : List UInt8 := o.mapIdx fun i c => hullC c (bit s i)
theorem hullS_length (o : List UInt8) (s : Nat) : (hullS o s).length = o.length := by simp [hullS]
theorem hullS_get (o : List UInt8) (s i : Nat) (h : i < o.length) : (hullS o s)[i]'(by rw [hullS_length]; exact h) = hullC o[i] (bit s i) := by simp [hullS]
/-- the hull's round: the places before i are done -/
def hullTo (o : List UInt8) (s i : Nat) : List UInt8 := (hullS o s).take i ++ o.drop i
theorem hullTo_zero (o : List UInt8) (s : Nat) : hullTo o s 0 = o := by simp [hullTo]
theorem hullTo_end (o : List UInt8) (s i : Nat) (h : o.length ≤ i) : hullTo o s i = hullS o s := by
  rw [hullTo, List.take_of_length_le (by rw [hullS_length]; omega), List.drop_of_length_le h, List.append_nil]
theorem hullTo_length (o : List UInt8) (s i : Nat) : (hullTo o s i).length = o.length := by
  simp [hullTo, hullS_length]; omega
theorem hullTo_get (o : List UInt8) (s i : Nat) (h : i < o.length) : (hullTo o s i)[i]? = some o[i] := by
  have hl : ((hullS o s).take i).length = i := by rw [List.length_take, hullS_length]; omega
  rw [hullTo, List.getElem?_append_right (by omega), hl, Nat.sub_self, List.getElem?_drop, Nat.add_zero]
  exact List.getElem?_eq_getElem h
theorem hullTo_succ (o : List UInt8) (s i : Nat) (h : i < o.length) : hullTo o s (i + 1) = (hullTo o s i).set i (hullC o[i] (bit s i)) := by
  have hl : ((hullS o s).take i).length = i := by rw [List.length_take, hullS_length]; omega
  unfold hullTo
  rw [List.set_append_right _ _ (by omega), hl, Nat.sub_self, List.drop_eq_getElem_cons h, List.set_cons_zero,
    List.take_succ_eq_append_getElem (by rw [hullS_length]; exact h), hullS_get o s i h]
  simp
theorem hullTo_keep (o : List UInt8) (s i : Nat) (h : i < o.length) (hf : fits o[i] (bit s i) = true) : hullTo o s (i + 1) = hullTo o s i := by
  rw [hullTo_succ o s i h]
  have : hullC o[i] (bit s i) = o[i] := by simp [hullC, hf]
  rw [this]
  have hg := hullTo_get o s i h
  apply List.ext_getElem?
  intro j
  rw [List.getElem?_set]
  split
  · subst j; rw [hg]; split
    · rfl
    · rename_i hn; rw [hullTo_length] at hn; omega
  · rfl
theorem hullS_fmt (s n : Nat) : hullS (fmtL s n) s = fmtL s n := by
  apply List.ext_getElem
  · rw [hullS_length]
  · intro i h1 h2
    rw [hullS_get _ _ _ h2]
    have h3 : i < n := by simpa [fmtL_length] using h2
    have hg : (fmtL s n)[i] = dig s i := by simp [fmtL]
    rw [hg, hullC, if_pos]
    simp [fits, dig_toNat]
/-- the hull of a list of states, at least one -/
def hullL (x : Nat) (r : List Nat) (n : Nat) : List UInt8 := r.foldl hullS (fmtL x n)
/-- what HullOf answers -/
def inW (n : Int) (x : Int) : Bool := decide (0 ≤ x) && decide (x < 2 ^ n.toNat)
def HO (xs : List Int) (n : Int) : Option (List UInt8) :=
  if 1 ≤ n ∧ n ≤ 5 then match xs with
    | [] => none
    | x :: r => if xs.all (inW n) then some (hullL x.toNat (r.map Int.toNat) n.toNat) else none
  else none
/-- the bytes of a hull are digits or '*' -/
theorem okc_dig (s i : Nat) : okc (dig s i) = true := by
  have := bit_01 s i
  simp [okc, dig_toNat]; omega
theorem okc_fmt (s n : Nat) : (fmtL s n).all okc = true := by
  rw [List.all_eq_true]; intro c hc; simp only [fmtL, List.mem_map] at hc; obtain ⟨i, _, rfl⟩ := hc; exact okc_dig s i
theorem okc_hullC (c : UInt8) (b : Nat) (h : okc c = true) : okc (hullC c b) = true := by
  unfold hullC; split
  · exact h
  · rfl
theorem okc_hullS (o : List UInt8) (s : Nat) (h : ∀ c ∈ o, okc c = true) : ∀ c ∈ hullS o s, okc c = true := by
  intro c hc
  obtain ⟨i, hi, rfl⟩ := List.getElem_of_mem hc
  rw [hullS_get o s i (by simpa [hullS_length] using hi)]
  exact okc_hullC _ _ (h _ (List.getElem_mem _))
theorem okc_fold (r : List Nat) (o : List UInt8) (h : ∀ c ∈ o, okc c = true) : ∀ c ∈ r.foldl hullS o, okc c = true := by
  induction r generalizing o with
  | nil => exact h
  | cons y r ih => exact ih _ (okc_hullS o y h)
theorem fold_length (r : List Nat) (o : List UInt8) : (r.foldl hullS o).length = o.length := by
  induction r generalizing o with
  | nil => rfl
  | cons y r ih => rw [List.foldl_cons, ih, hullS_length]
theorem hullTo_star {o : List UInt8} {s i : Nat} (h : i < o.length) (hf : fits o[i] (bit s i) = false) : hullTo o s (i + 1) = (hullTo o s i).set i 42 := by
  rw [hullTo_succ o s i h]; simp [hullC, hf]
theorem ints_at {l : List Nat} {k : Nat} (h : k < l.length) : ((ints l).map (Value.int .i64))[k]? = some (.int .i64 (l[k] : Int)) := by
  rw [List.getElem?_map, ints, List.getElem?_map, List.getElem?_eq_getElem h]; rfl
theorem HO_out {xs : List Int} {n : Int} (h : ¬ (1 ≤ n ∧ n ≤ 5)) : HO xs n = none := by unfold HO; exact if_neg h
theorem HO_nil {n : Int} : HO [] n = none := by unfold HO; split <;> rfl
theorem HO_bad {xs : List Int} {n : Int} {y : Int} (hy : y ∈ xs) (h : inW n y = false) : HO xs n = none := by
  unfold HO
  split
  · cases xs with
    | nil => cases hy
    | cons x r =>
      have : ¬ (x :: r).all (inW n) = true := by
        intro ha
        have := List.all_eq_true.1 ha y hy
        rw [this] at h; cases h
      simp only [this]
      rfl
  · rfl
theorem HO_ok {x n : Nat} {r : List Nat} (h1 : 1 ≤ n) (h5 : n ≤ 5) (hr : ∀ y ∈ x :: r, y < 2 ^ n) : HO (ints (x :: r)) (n : Int) = some (hullL x r n) := by
  have ha : ((x : Int) :: ints r).all (inW n) = true := by
    rw [List.all_eq_true]
    intro y hy
    have hy' : y ∈ ints (x :: r) := hy
    simp only [ints, List.mem_map] at hy'
    obtain ⟨z, hz, rfl⟩ := hy'
    have := hr z hz
    have h2 : ((z : Int) < 2 ^ n) := by
      have : ((2 : Int) ^ n) = ((2 ^ n : Nat) : Int) := by simp
      omega
    simp [inW, h2]
  have e : (ints r).map Int.toNat = r := by
    rw [ints, List.map_map]
    exact List.map_id'' (fun y => by simp) r
  unfold HO
  rw [if_pos ⟨by omega, by omega⟩]
  show (if ((x : Int) :: ints r).all (inW n) = true then some (hullL (x : Int).toNat ((ints r).map Int.toNat) (n : Int).toNat) else none) = _
  rw [if_pos ha, e]
  simp
/-- integers that are not negative are casts -/
theorem ints_of (xs : List Int) (h : ∀ y ∈ xs, 0 ≤ y) : ∃ ys, xs = ints ys := by
  refine ⟨xs.map Int.toNat, ?_⟩
  rw [ints, List.map_map]
  induction xs with
  | nil => rfl
  | cons x r ih =>
    rw [List.map_cons, ← ih (fun y hy => h y (List.mem_cons_of_mem _ hy))]
    have := h x List.mem_cons_self
    congr 1
    show x = ((x.toNat : Nat) : Int)
    omega
theorem inW_yes {n : Nat} {N : Nat} {y : Int} (hN : N = 2 ^ n) : inW (n : Int) y = true ↔ 0 ≤ y ∧ y < N := by
  have : ((2 : Int) ^ n) = ((2 ^ n : Nat) : Int) := by simp
  rw [inW, hN]
  simp
theorem ofInt_i64 (a : Nat) (ha : a < 9223372036854775808) : (BitVec.ofInt 64 (a : Int)).toNat = a := by
  rw [BitVec.ofInt_natCast, BitVec.toNat_ofNat]; exact Nat.mod_eq_of_lt (by omega)
theorem i64_or_nat (a b : Nat) (ha : a < 9223372036854775808) (hb : b < 9223372036854775808) : bits .or .i64 (a : Int) (b : Int) = ((a ||| b : Nat) : Int) := by
  have hx : a ||| b < 2 ^ 63 := Nat.or_lt_two_pow (by omega) (by omega)
  show IntKind.i64.wrap ((BitVec.ofInt 64 (a : Int) ||| BitVec.ofInt 64 (b : Int)).toNat : Int) = _
  rw [BitVec.toNat_or, ofInt_i64 a ha, ofInt_i64 b hb, IntKind.wrap_i64]
  omega
theorem i64_xor_nat (a b : Nat) (ha : a < 9223372036854775808) (hb : b < 9223372036854775808) : bits .xor .i64 (a : Int) (b : Int) = ((a ^^^ b : Nat) : Int) := by
  have hx : a ^^^ b < 2 ^ 63 := Nat.xor_lt_two_pow (by omega) (by omega)
  show IntKind.i64.wrap ((BitVec.ofInt 64 (a : Int) ^^^ BitVec.ofInt 64 (b : Int)).toNat : Int) = _
  rw [BitVec.toNat_xor, ofInt_i64 a ha, ofInt_i64 b hb, IntKind.wrap_i64]
  omega
theorem i64_and_nat (a b : Nat) (ha : a < 9223372036854775808) (hb : b < 9223372036854775808) : bits .and .i64 (a : Int) (b : Int) = ((a &&& b : Nat) : Int) := by
  have hx : a &&& b < 2 ^ 63 := Nat.and_lt_two_pow _ (by omega)
  show IntKind.i64.wrap ((BitVec.ofInt 64 (a : Int) &&& BitVec.ofInt 64 (b : Int)).toNat : Int) = _
  rw [BitVec.toNat_and, ofInt_i64 a ha, ofInt_i64 b hb, IntKind.wrap_i64]
  omega
/-! tables -/
/-- how many inputs a table of a length has; 0 if none has this length -/
def tin (len : Nat) : Nat := if len = 2 then 1 else if len = 4 then 2 else if len = 8 then 3 else if len = 16 then 4 else if len = 32 then 5 else 0
theorem tin_pow (n : Nat) (h1 : 1 ≤ n) (h5 : n ≤ 5) : tin (2 ^ n) = n := by
  have : n = 1 ∨ n = 2 ∨ n = 3 ∨ n = 4 ∨ n = 5 := by omega
  rcases this with rfl | rfl | rfl | rfl | rfl <;> rfl
theorem tin_none (len : Nat) (h : ∀ m, 1 ≤ m → m ≤ 5 → ¬ len = 2 ^ m) : tin len = 0 := by
  have h1 := h 1 (by omega) (by omega)
  have h2 := h 2 (by omega) (by omega)
  have h3 := h 3 (by omega) (by omega)
  have h4 := h 4 (by omega) (by omega)
  have h5 := h 5 (by omega) (by omega)
  unfold tin
  rw [if_neg (by omega), if_neg (by omega), if_neg (by omega), if_neg (by omega), if_neg (by omega)]
theorem tin_some {len : Nat} (h : ¬ tin len = 0) : 1 ≤ tin len ∧ tin len ≤ 5 ∧ len = 2 ^ tin len := by
  unfold tin at h ⊢
  split
  · rename_i e; subst e; decide
  · split
    · rename_i e; subst e; decide
    · split
      · rename_i e; subst e; decide
      · split
        · rename_i e; subst e; decide
        · split
          · rename_i e; subst e; decide
          · rename_i a b c d e
            rw [if_neg a, if_neg b, if_neg c, if_neg d, if_neg e] at h
            exact absurd rfl h
def b01 (c : UInt8) : Bool := c.toNat == 48 || c.toNat == 49
/-- whether a text is a table -/
def okT (l : List UInt8) : Bool := decide (¬ tin l.length = 0) && l.all b01
/-- the value of a table for a state -/
def val (l : List UInt8) (s : Nat) : Nat := (l.getD s 48).toNat - 48
theorem okT_true {l : List UInt8} (h : okT l = true) : 1 ≤ tin l.length ∧ tin l.length ≤ 5 ∧ l.length = 2 ^ tin l.length ∧ ∀ c ∈ l, b01 c = true := by
  simp only [okT, Bool.and_eq_true, decide_eq_true_eq, List.all_eq_true] at h
  obtain ⟨h1, h2, h3⟩ := tin_some h.1
  exact ⟨h1, h2, h3, h.2⟩
theorem val_lt {l : List UInt8} (h : ∀ c ∈ l, b01 c = true) (s : Nat) : val l s < 2 := by
  unfold val
  rw [List.getD]
  cases hc : l[s]? with
  | none => decide
  | some c =>
    have := h c (List.mem_of_getElem? hc)
    simp [b01] at this
    simp only [Option.getD_some]
    omega
theorem val_get {l : List UInt8} {s : Nat} (h : s < l.length) : val l s = l[s].toNat - 48 := by
  unfold val; rw [List.getD, List.getElem?_eq_getElem h]; rfl
/-- the text of values -/
def txt (N : Nat) (b : Nat → Nat) : List UInt8 := (List.range N).map fun s => chr (b s)
theorem txt_length (N : Nat) (b : Nat → Nat) : (txt N b).length = N := by simp [txt]
theorem txt_succ (N : Nat) (b : Nat → Nat) : txt (N + 1) b = txt N b ++ [chr (b N)] := by simp [txt, List.range_succ]
theorem txt_congr {N : Nat} {b c : Nat → Nat} (h : ∀ s, s < N → b s = c s) : txt N b = txt N c := by
  unfold txt
  apply List.map_congr_left
  intro s hs
  rw [h s (by simpa using hs)]
/-- a table is the text of its values -/
theorem txt_val {l : List UInt8} (h : ∀ c ∈ l, b01 c = true) : txt l.length (val l) = l := by
  apply List.ext_getElem
  · rw [txt_length]
  · intro i h1 h2
    simp only [txt, List.getElem_map, List.getElem_range]
    rw [val_get h2]
    have := h _ (List.getElem_mem h2)
    simp [b01] at this
    apply UInt8.toNat_inj.1
    rw [chr_toNat _ (by omega)]
    omega
end Go.Proofs.Ytfkdameegljkeaa
