/- Walks and plain facts, joined: Y9 Ya Wr Wa Yc Wq Y2 Y3 Wd Y5 Yb Yd Yh Yj Mf F1. -/
import Derived.Test.YtfkdameegljkeaaDoorProg
import Derived.WalkKit
import Derived.WalkSpells
import Derived.WalkLawsBesides
import Derived.Lib.Hide
import Derived.Deep.QuietTactic
import Derived.Deep.RegionHeld3
import Derived.BigQuiet
import Derived.Test.YtfkdameegljkeaaDoorG2
import Derived.Test.YtfkdameegljkeaaDoorG1
import Derived.Maps.AppendAt
import Derived.Lib.AppendZerosOnto
import Derived.Deep.RegionWith
import Derived.Deep.RegionLaw
import Derived.Test.YtfkdameegljkeaaDoorSh
/- Walks: a network turned, on both sides. -/
namespace Go.Proofs.YtfkdameegljkeaaDoor
open Go.RowKit
set_option linter.unusedVariables false

def chrs (xs : List Nat) : List UInt8 := xs.map chr
theorem chrs_length (xs : List Nat) : (chrs xs).length = xs.length := by simp [chrs]
theorem lit01 : ∀ v, v < 2 → (({ data := #[48, 49] } : ByteArray).extract v (v + 1)) = ⟨[chr v].toArray⟩ := by decide +kernel
theorem chrs_take {xs : List Nat} {k : Nat} (h : k < xs.length) : (⟨(chrs (xs.take k)).toArray⟩ : ByteArray) ++ ⟨[chr xs[k]].toArray⟩ = ⟨(chrs (xs.take (k + 1))).toArray⟩ := by
  rw [str_add, List.take_succ_eq_append_getElem h, chrs, chrs, List.map_append]; rfl
theorem l1Text_any (A : Option Addr) (c : Nat) (xs : List Nat) (w : World) (hx : Hid (Rd w A ((ints xs).map (Value.int .i64)))) (hb : Hid (∀ x ∈ xs, x < 2)) (hl : xs.length ≤ 1000000) :
    Calls Tryd.prog 81 #[.slice A xs.length c] w fun e w' => e = .returned (.string ⟨(chrs xs).toArray⟩) ∧ ∃ n, w.drewN n = w' := by
  have hil : (ints xs).length = xs.length := ints_length _
  go_enter Tryd.func81, Tryd.ntmps81
  go_wp2
  go_loopw [3, 4] (fun o i wr => ∃ k : Nat, k ≤ xs.length ∧ i = .int .i64 k ∧ o = .string ⟨(chrs (xs.take k)).toArray⟩ ∧ ∃ n, w.drewN n = wr) (fun _ i _ => xs.length - (intOf i).toNat)
  case atStart => exact ⟨0, Nat.zero_le _, rfl, rfl, 0, rfl⟩
  case round =>
    obtain ⟨k, hk, rfl, rfl, n, rfl⟩ := hrel
    have hcl : (chrs (xs.take k)).length ≤ k := by rw [chrs_length, List.length_take]; omega
    by_cases hlt : k < xs.length
    · obtain ⟨g, off, hA, hcell⟩ := hx.out.at_ (ints_at hlt)
      subst hA
      have hv := hb.out _ (List.getElem_mem hlt)
      have HE := Lib.hid (chrs_take hlt)
      have HX := Lib.hid (lit01 _ hv)
      go_wp2_with fail
      go_quiet (fail)
      go_wp2_with fail
      go_roundw
      case rel => exact ⟨k + 1, by omega, by go_num, by rw [← HE.out, ← HX.out], _, rfl⟩
      case measure => simp [intOf]; omega
    · have hkn : k = xs.length := by omega
      subst hkn
      go_wp2
      go_ret
      exact ⟨by rw [List.take_length]; rfl, n, rfl⟩

/-- a switch of a network -/
def okSw (ps : List (List UInt8)) (i : Int) : Bool := okN ps && (decide (0 ≤ i) && decide (i < (ps.length : Int)))
theorem okSw_true {ps : List (List UInt8)} {i : Int} (h : okSw ps i = true) : okN ps = true ∧ ∃ k : Nat, i = k ∧ k < ps.length := by
  simp only [okSw, Bool.and_eq_true, decide_eq_true_eq] at h
  exact ⟨h.1, i.toNat, by omega, by omega⟩
/-- what the reading of a network and a switch hands back -/
def NetW (B : Nat) (ps : List (List UInt8)) (t : Int) (e : Ending) (w' : World) : Prop :=
  ∃ A k c, e = .returned (.tuple #[.slice A k c, .bool (okSw ps t)]) ∧ (okSw ps t = true → k = ps.length ∧ ps.length ≤ c ∧ Own w' B A (netL ps))
theorem switchOf_any (s : ByteArray) (t : Int) (w : World) (hm : Hid (HasM w)) (hs : s.size ≤ 1073741824) :
    Calls Tryd.prog 55 #[.string s, .int .i64 t] w fun e w' => NetW w.heap.size (cutL s.data.toList) t e w' ∧ Below w.heap.size w w' := by
  obtain ⟨ps, HPS⟩ : ∃ ps, Hid (ps = cutL s.data.toList) := ⟨_, rfl⟩
  rw [← HPS.out]
  by_cases h : okN ps = true
  · have hn5 := okN_le h
    have HOK := Lib.hid h
    by_cases h0 : 0 ≤ t
    · have HST : Hid (okSw ps t = decide (t < (ps.length : Int))) := Lib.hid (by rw [okSw, h, decide_eq_true h0]; rfl)
      clear h
      go_enter Tryd.func55, Tryd.ntmps55
      go_wp2_with fail
      refine (readNetwork_any s w hm hs).mono ?_
      rintro e w1 ⟨⟨A, k, c, rfl, himp⟩, hB1⟩
      rw [← HPS.out] at himp ⊢
      obtain ⟨rfl, hc, hO⟩ := himp HOK.out
      rw [HOK.out]
      have HO := Lib.hid hO
      clear hO himp
      go_wp2
      go_ret2
      exact ⟨⟨_, _, _, by rw [HST.out]; rfl, fun _ => ⟨rfl, hc, HO.out⟩⟩, hB1⟩
    · have HST : Hid (okSw ps t = false) := Lib.hid (by rw [okSw, h, decide_eq_false h0]; rfl)
      clear h
      go_enter Tryd.func55, Tryd.ntmps55
      go_wp2_with fail
      refine (readNetwork_any s w hm hs).mono ?_
      rintro e w1 ⟨⟨A, k, c, rfl, himp⟩, hB1⟩
      clear himp
      rw [← HPS.out, HOK.out]
      go_wp2
      go_ret2
      exact ⟨⟨_, _, _, by rw [HST.out]; rfl, fun h => by rw [HST.out] at h; cases h⟩, hB1⟩
  · have h' : okN ps = false := by simpa using h
    have HST : Hid (okSw ps t = false) := Lib.hid (by rw [okSw, h']; rfl)
    have HOK := Lib.hid h'
    clear h h'
    go_enter Tryd.func55, Tryd.ntmps55
    go_wp2_with fail
    refine (readNetwork_any s w hm hs).mono ?_
    rintro e w1 ⟨⟨A, k, c, rfl, himp⟩, hB1⟩
    clear himp
    rw [← HPS.out, HOK.out]
    go_wp2
    go_ret2
    exact ⟨⟨_, _, _, by rw [HST.out]; rfl, fun h => by rw [HST.out] at h; cases h⟩, hB1⟩

/-- a step of the network with a switch the other way round -/
def trnF (ps : List (List UInt8)) (m s : Nat) : Nat := stp ps (s ^^^ m) ^^^ m
theorem trnF_lt {ps : List (List UInt8)} (h : okN ps = true) {m : Nat} (hm : m < 2 ^ ps.length) (s : Nat) : trnF ps m s < 2 ^ ps.length := Nat.xor_lt_two_pow (stp_lt h _) hm

end Go.Proofs.YtfkdameegljkeaaDoor

/- Walks: TurnNetwork, on both sides. -/
namespace Go.Proofs.YtfkdameegljkeaaDoor
open Go.RowKit
set_option linter.unusedVariables false

/-- the text of a network with a switch the other way round -/
def turnN (ps : List (List UInt8)) (t : Int) : List UInt8 := if okSw ps t then joinN (frS ps.length (trnF ps (2 ^ t.toNat))) else []
theorem turnN_no {ps : List (List UInt8)} {t : Int} (h : okSw ps t = false) : turnN ps t = [] := by rw [turnN, h]; rfl
theorem turnN_yes {ps : List (List UInt8)} {k : Nat} (h : okSw ps (k : Int) = true) : turnN ps (k : Int) = joinN (frS ps.length (trnF ps (2 ^ k))) := by rw [turnN, if_pos h]; rfl
/-- a text and whether there is one -/
def txtV (l : List UInt8) (b : Bool) : Value := .tuple #[.string ⟨l.toArray⟩, .bool b]

theorem bit_xor_pow : ∀ y, y < 32 → ∀ i, i < 5 → ∀ k, k < 5 → bit (y ^^^ 2 ^ i) k = if k = i then 1 - bit y k else bit y k := by decide +kernel
/-- the value of a rule of the turned network -/
def turnV (ps : List (List UInt8)) (i k s : Nat) : Nat := bit (trnF ps (2 ^ i) s) k
theorem turnV_eq {ps : List (List UInt8)} (h : okN ps = true) {i k : Nat} (hi : i < ps.length) (hk : k < ps.length) (s : Nat) :
    turnV ps i k s = if k = i then 1 - val ps[k] (s ^^^ 2 ^ i) else val ps[k] (s ^^^ 2 ^ i) := by
  have h5 := okN_le h
  have hy : stp ps (s ^^^ 2 ^ i) < 32 := Nat.lt_of_lt_of_le (stp_lt h _) (two_le _ h5)
  have hb : bit (stp ps (s ^^^ 2 ^ i)) k = val ps[k] (s ^^^ 2 ^ i) := by
    rw [stp, bit_asm (nb_lt h _) k _ hk, nb_at _ hk]
  rw [turnV, trnF, bit_xor_pow _ hy i (by omega) k (by omega), hb]
def turnVs (ps : List (List UInt8)) (i k j : Nat) : List Nat := (List.range j).map (turnV ps i k)
theorem turnVs_len (ps : List (List UInt8)) (i k j : Nat) : (turnVs ps i k j).length = j := by simp [turnVs]
theorem turnVs_succ (ps : List (List UInt8)) (i k j : Nat) : ints (turnVs ps i k (j + 1)) = ints (turnVs ps i k j) ++ [(turnV ps i k j : Int)] := by
  rw [turnVs, turnVs, List.range_succ, List.map_append, ints_append]; rfl
theorem turnVs_lt (ps : List (List UInt8)) (i k j : Nat) : ∀ x ∈ turnVs ps i k j, x < 2 := by
  intro x hx
  simp only [turnVs, List.mem_map] at hx
  obtain ⟨s, _, rfl⟩ := hx
  exact bit_lt _ _
theorem turnVs_txt (ps : List (List UInt8)) (i k : Nat) (N : Nat) : chrs (turnVs ps i k N) = txt N fun s => bit (trnF ps (2 ^ i) s) k := by
  rw [chrs, turnVs, txt, List.map_map]; rfl
theorem frS_lens {n : Nat} (h5 : n ≤ 5) (f : Nat → Nat) : ∀ p ∈ frS n f, p.length ≤ 32 := by
  intro p hp
  simp only [frS, List.mem_map] at hp
  obtain ⟨k, _, rfl⟩ := hp
  rw [txt_length]; exact two_le n h5

theorem bytes_eqb (a : ByteArray) : (a != a) = false := by
  have := (MapKept.bytes_beq a a).2 rfl
  simp [bne, this]
end Go.Proofs.YtfkdameegljkeaaDoor

/- Walks of the functions on orbits. -/
namespace Go.Proofs.YtfkdameegljkeaaDoor
open Go.RowKit
set_option linter.unusedVariables false

def lenV : Value → Nat
  | .slice _ n _ => n
  | _ => 0
theorem OI.lenV {w : World} {B : Nat} {e : TypeId} {v : Value} {xs : List Int} (h : OI w B e v xs) : lenV v = xs.length := by
  obtain ⟨A, c, rfl, _⟩ := h.form
  rfl

theorem clipD_any (A : Option Addr) (n c : Nat) (w : World) (h : n ≤ c) (hm : n ≤ 9223372036854775807) :
    Calls Tryd.prog 38 #[.slice A n c] w fun e w' => e = .returned (.slice A n n) ∧ w = w' := by
  go_enter Tryd.func38, Tryd.ntmps38
  go_wp2
  go_ret
  exact ⟨rfl, rfl⟩

end Go.Proofs.YtfkdameegljkeaaDoor

/- Walks of which, BeforeOf and UnreachedOf. -/
namespace Go.Proofs.YtfkdameegljkeaaDoor
open Go.RowKit
set_option linter.unusedVariables false

/-- append of one integer, with what else stays: a block that is not the slice's own is as it was, and is not the new slice's own -/
theorem wp_pushI_at {P : Program} {wr : World} {ops : Array Oper} {rest : List Oper} {o : Oper} {a : Act} {Q : Exit → Act → World → Prop} (hgd : o.guard = none) (s x : Operand) (t : TypeId)
    (ho : o.op = .call { callee := .builtin .append, args := #[s, x], argTypes := #[t, t] })
    {B e : Nat} (ht : P.underlying t = some (.slice e)) (hinf : (P.info? e).map (fun i => (i.zero, i.size, i.bytes)) = some (some (.int .i64 0), 1, 8))
    {v : Value} {xs : List Int} {u : Int} (hown : OI wr B e v xs) (hs : a.eval s = v) (hx : a.eval x = .slice (some ⟨wr.heap.size, 0, none⟩) 1 1)
    (hn : xs.length ≤ 1099511627776) (hB : B ≤ wr.heap.size)
    (h : ∀ v' w', OI w' B e v' (xs ++ [u]) → (∀ B', B' ≤ B → Below B' wr w') → wr.heap.size ≤ w'.heap.size → (∀ g, g < wr.heap.size → v.ownBlock ≠ some g → w'.heap[g]? = wr.heap[g]? ∧ v'.ownBlock ≠ some g) → wpList P ops Q rest (a.put o.dst v') w') :
    wpList P ops Q (o :: rest) a (wr.alloc (.cells #[.int .i64 u] e)) := by
  obtain ⟨i, hi, hiz, his, hib⟩ := info_parts hinf
  refine wpList_append_own_at _ hgd s x t ho B e i (.int .i64 0) 1 8 ht hi hiz his hib rfl (by omega) v xs.length (xs.map (Value.int .i64)) hs (World.ownsRow.alloc hown _) ⟨wr.heap.size, 0, none⟩ 1 1 [.int .i64 u] hx rfl ?_ ?_ (by simp only [maxLen]; omega) (by omega) (by rw [alloc_size]; omega) ?_
  · intro j y hj
    cases j with
    | zero =>
      simp only [List.getElem?_cons_zero, Option.some.injEq] at hj
      subst hj
      have : (⟨wr.heap.size, 0, none⟩ : Addr).add 0 = ⟨wr.heap.size, 0, none⟩ := rfl
      rw [this, cell_new]; rfl
    | succ j => simp at hj
  · intro y hy
    rw [List.mem_singleton.1 hy]; rfl
  · intro v' w' h1 h2 _ h4
    have hz := h2.size
    rw [alloc_size] at hz
    refine h v' w' (by unfold OI; simpa using h1) (fun B' hB' => ?_) (by omega) (fun g hg hne => ⟨?_, ?_⟩)
    · have hb0 : Below B' wr (wr.alloc (.cells #[.int .i64 u] e)) := (Below.refl _ _).alloc (by omega) _
      refine hb0.grown h2 (by rw [alloc_size]; omega) ?_
      intro k hk
      have := (World.ownsRow.lt hown k hk).1
      omega
    · have := h2.block g (by rw [alloc_size]; omega) (fun e => hne e.symm)
      rw [this]
      exact heap_alloc_old wr _ hg
    · rcases h4 with h4 | h4
      · rw [h4]; exact hne
      · rw [h4, alloc_size]; intro e; injection e; omega
theorem Rd.blk {w w' : World} {g off : Nat} {vs : List Value} (h : Rd w (some ⟨g, off, none⟩) vs) (hb : w'.heap[g]? = w.heap[g]?) : Rd w' (some ⟨g, off, none⟩) vs := by
  rcases h with h | ⟨g', off', hA, hc⟩
  · exact .inl h
  · injection hA with hA
    injection hA with h1 h2
    subst h1; subst h2
    exact .inr ⟨g, off, rfl, fun j v hj => (World.cell?_of_block (w := w) (a := ⟨g, off + j, none⟩) hb).trans (hc j v hj)⟩

/-- calling the closure at a state tells a truth, and writes nothing that was there -/
def CloB (w : World) (N F : Nat) (caps : Array Value) (p : Nat → Bool) : Prop :=
  ∀ (s : Nat) (w1 : World), s < N → Below w.heap.size w w1 → Calls Tryd.prog F (#[.int .i64 (s : Int)] ++ caps) w1 fun e w2 => e = .returned (.bool (p s)) ∧ Below w1.heap.size w1 w2
theorem which_any (A : Option Addr) (n c N F : Nat) (caps : Array Value) (p : Nat → Bool) (w : World) (hn : n ≤ 5) (HN : Hid (N = 2 ^ n)) (hF : ∀ (args : Array Value) (W : World), (callFunc F args).run Tryd.prog W = .ok (.enter F args) W) (hC : Hid (CloB w N F caps p)) :
    Calls Tryd.prog 28 #[.slice A n c, .func (.func F) #[] caps] w fun e w' => RetI w.heap.size (ints (sel N p)) e w' ∧ Below w.heap.size w w' := by
  have hN32 : N ≤ 32 := by rw [HN.out]; exact two_le _ hn
  go_enter Tryd.func28, Tryd.ntmps28
  go_wp2_with fail
  refine (states_any _ _ _ N _ hn HN).mono ?_
  rintro e w2 ⟨rfl, rfl⟩
  go_wp2
  go_loopw [5, 9] (fun v q wr => ∃ k : Nat, k ≤ N ∧ q = .int .i64 k ∧ Hid (OI wr w.heap.size 3 v (ints (sel k p))) ∧ Below w.heap.size w wr) (fun _ q _ => N - (intOf q).toNat)
  case atStart => exact ⟨0, Nat.zero_le _, rfl, Lib.hid (OI.nil _ _ _), Below.refl _ _⟩
  case round =>
    obtain ⟨k, hk, rfl, HO, hB⟩ := hrel
    have hsz := hB.size
    have hlen : (ints (sel k p)).length ≤ k := by rw [ints_length]; exact sel_len _ _
    by_cases hlt : k < N
    · by_cases hp : p k = true
      · have HE := Lib.hid (sel_yesI hp)
        go_wp2_with fail
        refine (hC.out k wr hlt hB).mono ?_
        rintro e w5 ⟨rfl, hB5⟩
        rw [hp]
        have hz5 := hB5.size
        go_wp2_with (at_builtin; refine wp_pushI rfl _ _ _ rfl Tryd.underlying25 info_int (HO.out.below hB5) rfl rfl (by omega) (by omega) ?_; intro v' w3 hown hbel hsz3)
        go_roundw
        case rel => exact ⟨k + 1, by omega, by go_num, Lib.hid (by rw [HE.out]; exact hown), hB.trans ((hB5.mono hsz).trans (hbel _ (Nat.le_refl _)))⟩
        case measure => simp [intOf]; omega
      · have hp' : p k = false := by simpa using hp
        have HE := Lib.hid (sel_noI hp')
        clear hp
        go_wp2_with fail
        refine (hC.out k wr hlt hB).mono ?_
        rintro e w5 ⟨rfl, hB5⟩
        rw [hp']
        go_wp2
        go_roundw
        case rel => exact ⟨k + 1, by omega, by go_num, Lib.hid (by rw [HE.out]; exact HO.out.below hB5), hB.trans (hB5.mono hsz)⟩
        case measure => simp [intOf]; omega
    · have hkn : k = N := by omega
      subst hkn
      go_wp2_with (go_at_call 38; refine (clip_any _ _ _ _ _ HO.out).mono ?_; rintro e w2 ⟨⟨A', c', rfl, hc, hO⟩, rfl⟩)
      go_ret
      exact ⟨⟨A', c', rfl, hc, hO⟩, hB⟩

/-- the states before a state -/
def befN (ps : List (List UInt8)) (t : Int) : List Int := if okSt ps t then ints (sel (2 ^ ps.length) fun k => stp ps k == t.toNat) else []
theorem befN_yes {ps : List (List UInt8)} {t N : Nat} (h : okSt ps t = true) (hN : N = 2 ^ ps.length) : befN ps t = ints (sel N fun k => stp ps k == t) := by rw [befN, if_pos h, hN]; rfl
theorem befN_no {ps : List (List UInt8)} {t : Int} (h : okSt ps t = false) : befN ps t = [] := by rw [befN, h]; rfl
theorem befN_len (ps : List (List UInt8)) (t : Int) : (befN ps t).length ≤ 1048576 := by
  by_cases h : okSt ps t = true
  · obtain ⟨hok, s, rfl, _⟩ := okSt_true h
    rw [befN_yes h rfl, ints_length]
    have := sel_len (2 ^ ps.length) fun k => stp ps k == s
    have h32 := two_le _ (okN_le hok)
    omega
  · rw [befN_no (by simpa using h)]; simp

/-- the states after none -/
def unrN (ps : List (List UInt8)) : List Int := if okN ps then ints (sel (2 ^ ps.length) fun k => (befN ps (k : Int)).isEmpty) else []
theorem unrN_yes {ps : List (List UInt8)} {N : Nat} (h : okN ps = true) (hN : N = 2 ^ ps.length) : unrN ps = ints (sel N fun k => (befN ps (k : Int)).isEmpty) := by rw [unrN, if_pos h, hN]
theorem unrN_no {ps : List (List UInt8)} (h : okN ps = false) : unrN ps = [] := by rw [unrN, h]; rfl
theorem unrN_len (ps : List (List UInt8)) : (unrN ps).length ≤ 1048576 := by
  by_cases h : okN ps = true
  · rw [unrN_yes h rfl, ints_length]
    have := sel_len (2 ^ ps.length) fun k => (befN ps (k : Int)).isEmpty
    have h32 := two_le _ (okN_le h)
    omega
  · rw [unrN_no (by simpa using h)]; simp

end Go.Proofs.YtfkdameegljkeaaDoor

/- Walks: the fixed points of a network, on both sides; steps and the restless switches; equal lists of the laws. -/
namespace Go.Proofs.YtfkdameegljkeaaDoor
open Go.RowKit
set_option linter.unusedVariables false

/-- a state that no step changes -/
def fixB (ps : List (List UInt8)) (s : Nat) : Bool := stp ps s == s
def fixN (ps : List (List UInt8)) : List Nat := if okN ps then sel (2 ^ ps.length) (fixB ps) else []
theorem fixN_no {ps : List (List UInt8)} (h : okN ps = false) : fixN ps = [] := by rw [fixN, h]; rfl
theorem fixN_yes {ps : List (List UInt8)} {N : Nat} (h : okN ps = true) (hN : N = 2 ^ ps.length) : fixN ps = sel N (fixB ps) := by rw [fixN, if_pos h, hN]

/-- the step of a state, or -1 -/
def stA (ps : List (List UInt8)) (t : Int) : Int := if okSt ps t then (stp ps t.toNat : Int) else -1
/-- the switches that a step changes, or -1 -/
def rsA (ps : List (List UInt8)) (t : Int) : Int := if okSt ps t then ((stp ps t.toNat ^^^ t.toNat : Nat) : Int) else -1

theorem NetworkValid_any (s : ByteArray) (w : World) (hm : Hid (HasM w)) (hs : s.size ≤ 1073741824) :
    Calls Tryd.prog 24 #[.string s] w fun e w' => e = .returned (.bool (okN (cutL s.data.toList))) ∧ Below w.heap.size w w' := by
  go_enter Tryd.func24, Tryd.ntmps24
  go_wp2_with fail
  refine (readNetwork_any s w hm hs).mono ?_
  rintro e w1 ⟨⟨A, j, c, rfl, himp⟩, hB1⟩
  clear himp
  go_wp2
  go_ret
  exact ⟨rfl, hB1⟩

/-- how many switches a network has, or -1 -/
def szN (ps : List (List UInt8)) : Int := if okN ps then (ps.length : Int) else -1
theorem SizeOf_any (s : ByteArray) (w : World) (hm : Hid (HasM w)) (hs : s.size ≤ 1073741824) :
    Calls Tryd.prog 13 #[.string s] w fun e w' => e = .returned (.int .i64 (szN (cutL s.data.toList))) ∧ Below w.heap.size w w' := by
  obtain ⟨ps, HPS⟩ : ∃ ps, Hid (ps = cutL s.data.toList) := ⟨_, rfl⟩
  rw [← HPS.out]
  by_cases h : okN ps = true
  · have HOK := Lib.hid h
    have HV : Hid (szN ps = (ps.length : Int)) := Lib.hid (by rw [szN, if_pos h])
    clear h
    go_enter Tryd.func13, Tryd.ntmps13
    go_wp2_with fail
    refine (readNetwork_any s w hm hs).mono ?_
    rintro e w1 ⟨⟨A, k0, c, rfl, himp⟩, hB1⟩
    rw [← HPS.out] at himp ⊢
    obtain ⟨rfl, hc, hO⟩ := himp HOK.out
    rw [HOK.out]
    clear hO himp
    go_wp2
    go_ret
    exact ⟨by rw [HV.out]; rfl, hB1⟩
  · have HOK : Hid (okN ps = false) := Lib.hid (by simpa using h)
    have HV : Hid (szN ps = -1) := Lib.hid (by rw [szN, HOK.out]; rfl)
    clear h
    go_enter Tryd.func13, Tryd.ntmps13
    go_wp2_with fail
    refine (readNetwork_any s w hm hs).mono ?_
    rintro e w1 ⟨⟨A, k0, c, rfl, himp⟩, hB1⟩
    clear himp
    rw [← HPS.out, HOK.out]
    go_wp2
    go_ret
    exact ⟨by rw [HV.out]; rfl, hB1⟩

/-- a list equals itself, wherever it lies -/
theorem bnSame_any (A A' : Option Addr) (c c' : Nat) (xs : List Int) (w : World) (hx : Hid (Rd w A (xs.map (Value.int .i64)))) (hy : Hid (Rd w A' (xs.map (Value.int .i64)))) (hl : xs.length ≤ 1000000) :
    Calls Tryd.prog 9 #[.slice A xs.length c, .slice A' xs.length c'] w fun e w' => e = .returned (.bool true) ∧ ∃ n, w.drewN n = w' := by
  go_enter Tryd.func9, Tryd.ntmps9
  go_wp2
  go_loopw [5] (fun i wr => ∃ k : Nat, k ≤ xs.length ∧ i = .int .i64 k ∧ ∃ n, wr = w.drewN n) (fun i _ => xs.length - (intOf i).toNat)
  case atStart => exact ⟨0, Nat.zero_le _, rfl, 0, rfl⟩
  case round =>
    obtain ⟨k, hk, rfl, n, rfl⟩ := hrel
    by_cases hlt : k < xs.length
    · obtain ⟨g, off, hA, hc⟩ := hx.out.int hlt
      obtain ⟨g', off', hA', hc'⟩ := hy.out.int hlt
      subst hA hA'
      have hd : (xs[k] != xs[k]) = false := bne_self_eq_false _
      go_wp2
      go_quiet (fail)
      go_wp2
      go_roundw
      case rel => exact ⟨k + 1, by omega, by go_num, _, rfl⟩
      case measure => simp [intOf]; omega
    · have hkn : k = xs.length := by omega
      subst hkn
      go_wp2
      go_ret
      exact ⟨rfl, _, rfl⟩

/-- the address A does not lie in v's own block -/
def OffV (v : Value) (A : Option Addr) : Prop := ∀ a, A = some a → v.ownBlock ≠ some a.block
theorem offV_own {w : World} {B g n c : Nat} {A : Option Addr} {vs : List Value} (h : Own w B A vs) (hg : g < B) : OffV (.slice (some ⟨g, 0, none⟩) n c) A ∨ vs = [] := by
  rcases h with h | ⟨g2, off, hA, hB, _⟩
  · exact .inr h
  · left
    intro a ha
    rw [hA] at ha
    injection ha with ha
    subst ha
    simp only [Value.ownBlock, ne_eq, Option.some.injEq]
    omega
theorem offV_push {w w' : World} {v v' : Value} {A : Option Addr} {vs : List Value} (h : Rd w A vs) (ho : OffV v A) (hf : ∀ g, g < w.heap.size → v.ownBlock ≠ some g → w'.heap[g]? = w.heap[g]? ∧ v'.ownBlock ≠ some g) (hne : vs ≠ []) : Rd w' A vs ∧ OffV v' A := by
  rcases h with h | ⟨g, off, hA, hc⟩
  · exact absurd h hne
  · have hlt : g < w.heap.size := by
      cases vs with
      | nil => exact absurd rfl hne
      | cons x l => exact World.block_lt_of_cell? w _ (hc 0 x rfl)
    have h2 := hf g hlt (ho _ hA)
    refine ⟨.inr ⟨g, off, hA, fun j v hj => (World.cell?_of_block (w := w) (a := ⟨g, off + j, none⟩) h2.1).trans (hc j v hj)⟩, fun a ha => ?_⟩
    rw [hA] at ha
    injection ha with ha
    subst ha
    exact h2.2

end Go.Proofs.YtfkdameegljkeaaDoor

/- Walks of the functions that tell of orbits and of next states. Printed by wip/mkq.py. -/
namespace Go.Proofs.YtfkdameegljkeaaDoor
open Go.RowKit

def tailN (ps : List (List UInt8)) (t : Int) : Int := if okSt ps t then ((orb (stp ps) t.toNat).2 : Int) else -1
theorem tailN_yes {ps : List (List UInt8)} {t : Nat} (h : okSt ps t = true) : tailN ps t = ((orb (stp ps) t).2 : Int) := if_pos h
theorem tailN_no {ps : List (List UInt8)} {t : Int} (h : okSt ps t = false) : tailN ps t = -1 := by rw [tailN, h]; rfl
def perN (ps : List (List UInt8)) (t : Int) : Int := if okSt ps t then ((orb (stp ps) t.toNat).1.length : Int) - ((orb (stp ps) t.toNat).2 : Int) else -1
theorem perN_yes {ps : List (List UInt8)} {t : Nat} (h : okSt ps t = true) : perN ps t = ((orb (stp ps) t).1.length : Int) - ((orb (stp ps) t).2 : Int) := if_pos h
theorem perN_no {ps : List (List UInt8)} {t : Int} (h : okSt ps t = false) : perN ps t = -1 := by rw [perN, h]; rfl
def orbN (ps : List (List UInt8)) (t : Int) : List Int := if okSt ps t then ints (orb (stp ps) t.toNat).1 else []
theorem orbN_yes {ps : List (List UInt8)} {t : Nat} (h : okSt ps t = true) : orbN ps t = ints (orb (stp ps) t).1 := if_pos h
theorem orbN_no {ps : List (List UInt8)} {t : Int} (h : okSt ps t = false) : orbN ps t = [] := by rw [orbN, h]; rfl
def nxtN (ps : List (List UInt8)) (t : Int) : List Int := if okSt ps t then ints (nextN ps t.toNat) else []
theorem nxtN_yes {ps : List (List UInt8)} {t : Nat} (h : okSt ps t = true) : nxtN ps t = ints (nextN ps t) := if_pos h
theorem nxtN_no {ps : List (List UInt8)} {t : Int} (h : okSt ps t = false) : nxtN ps t = [] := by rw [nxtN, h]; rfl
theorem nxtN_len (ps : List (List UInt8)) (t : Int) : (nxtN ps t).length ≤ 1048576 := by
  by_cases h : okSt ps t = true
  · obtain ⟨hok, s, rfl, _⟩ := okSt_true h
    rw [nxtN_yes h, ints_length]
    have := nextN_len hok s
    omega
  · rw [nxtN_no (by simpa using h)]; simp
theorem orbN_len (ps : List (List UInt8)) (t : Int) : (orbN ps t).length ≤ 1048576 := by
  by_cases h : okSt ps t = true
  · obtain ⟨hok, s, rfl, hs⟩ := okSt_true h
    rw [orbN_yes h, ints_length]
    have h32 := two_le _ (okN_le hok)
    have := (orb_all (f := stp ps) (N := 2 ^ ps.length) h32 (fun x _ => stp_lt hok x) hs).1
    omega
  · rw [orbN_no (by simpa using h)]; simp
/-- the place in the orbit after k steps -/
def aftI (o : List Nat × Nat) (k : Nat) : Nat := if k < o.1.length then k else o.2 + (k - o.2) % (o.1.length - o.2)
def aftN (ps : List (List UInt8)) (t k : Int) : Int := if okSt ps t && decide (0 ≤ k) then ((orb (stp ps) t.toNat).1.getD (aftI (orb (stp ps) t.toNat) k.toNat) 0 : Int) else -1
theorem aftN_yes {ps : List (List UInt8)} {t k : Nat} (h : okSt ps t = true) : aftN ps t k = ((orb (stp ps) t).1.getD (aftI (orb (stp ps) t) k) 0 : Int) := by
  rw [aftN, h, decide_eq_true (by omega)]; rfl
theorem aftN_no {ps : List (List UInt8)} {t k : Int} (h : okSt ps t = false) : aftN ps t k = -1 := by rw [aftN, h]; rfl
theorem aftN_neg {ps : List (List UInt8)} {t k : Int} (h : ¬ 0 ≤ k) : aftN ps t k = -1 := by rw [aftN, decide_eq_false h, Bool.and_false]; rfl
theorem aftI_lt {o : List Nat × Nat} {k : Nat} (h : o.2 < o.1.length) : aftI o k < o.1.length := by
  unfold aftI
  split
  · assumption
  · have : (k - o.2) % (o.1.length - o.2) < o.1.length - o.2 := Nat.mod_lt _ (by omega)
    omega

/-- the greatest number of states ahead of a cycle, of the orbits from the first k states -/
def lonTo (ps : List (List UInt8)) : Nat → Nat
  | 0 => 0
  | k + 1 => max (lonTo ps k) (orb (stp ps) k).2
theorem lonTo_le {ps : List (List UInt8)} (h : okN ps = true) : ∀ k, k ≤ 2 ^ ps.length → lonTo ps k ≤ 32
  | 0, _ => by simp [lonTo]
  | k + 1, hk => by
    have := lonTo_le h k (by omega)
    have h32 := two_le _ (okN_le h)
    have h2 := orb_all (f := stp ps) (N := 2 ^ ps.length) h32 (fun x _ => stp_lt h x) (show k < 2 ^ ps.length by omega)
    rw [lonTo]; omega
def lonN (ps : List (List UInt8)) : Int := if okN ps then (lonTo ps (2 ^ ps.length) : Int) else -1
theorem lonN_yes {ps : List (List UInt8)} {N : Nat} (h : okN ps = true) (hN : N = 2 ^ ps.length) : lonN ps = (lonTo ps N : Int) := by rw [lonN, if_pos h, hN]
theorem lonN_no {ps : List (List UInt8)} (h : okN ps = false) : lonN ps = -1 := by rw [lonN, h]; rfl
end Go.Proofs.YtfkdameegljkeaaDoor

/- Walks of the functions on cycles. -/
namespace Go.Proofs.YtfkdameegljkeaaDoor
open Go.RowKit
set_option linter.unusedVariables false

/-- append of a list of integers -/
theorem wp_catI {P : Program} {wr : World} {ops : Array Oper} {rest : List Oper} {o : Oper} {a : Act} {Q : Exit → Act → World → Prop} (hgd : o.guard = none) (s x : Operand) (t : TypeId)
    (ho : o.op = .call { callee := .builtin .append, args := #[s, x], argTypes := #[t, t] })
    {B e n c : Nat} {ad : Addr} (ht : P.underlying t = some (.slice e)) (hinf : (P.info? e).map (fun i => (i.zero, i.size, i.bytes)) = some (some (.int .i64 0), 1, 8))
    {v : Value} {xs ys : List Int} (hown : OI wr B e v xs) (hs : a.eval s = v) (hx : a.eval x = .slice (some ad) n c) (hn : ys.length = n) (hr : ∀ j u, (ys.map (Value.int .i64))[j]? = some u → wr.cell? (ad.add j) = some u)
    (hl : xs.length + n ≤ 1099511627776) (hB : B ≤ wr.heap.size)
    (h : ∀ v' w', OI w' B e v' (xs ++ ys) → (∀ B', B' ≤ B → Below B' wr w') → wr.heap.size ≤ w'.heap.size → (∀ g, g < wr.heap.size → v.ownBlock ≠ some g → w'.heap[g]? = wr.heap[g]? ∧ v'.ownBlock ≠ some g) → wpList P ops Q rest (a.put o.dst v') w') :
    wpList P ops Q (o :: rest) a wr := by
  obtain ⟨i, hi, hiz, his, hib⟩ := info_parts hinf
  refine wpList_append_own_at _ hgd s x t ho B e i (.int .i64 0) 1 8 ht hi hiz his hib rfl (by omega) v xs.length (xs.map (Value.int .i64)) hs hown ad n c (ys.map (Value.int .i64)) hx (by simp [hn]) hr ?_ (by simp only [maxLen]; omega) (by omega) (by omega) ?_
  · intro y hy
    obtain ⟨z, _, rfl⟩ := List.mem_map.1 hy
    rfl
  · intro v' w' h1 h2 _ h4
    refine h v' w' (by unfold OI; rw [List.map_append, List.length_append, hn]; exact h1) (fun B' hB' => ⟨h2.os, h2.tape, h2.output, h2.size, fun k hk => h2.block k (by omega) (fun e => ?_)⟩) h2.size (fun g hg hne => ⟨h2.block g hg (fun e => hne e.symm), ?_⟩)
    · have := (World.ownsRow.lt hown k e.symm).1
      omega
    · rcases h4 with h4 | h4
      · rw [h4]; exact hne
      · rw [h4]; intro e; injection e; omega
/-- .. as one step of a region that draws its order -/
theorem step_catI {P : Program} {wr : World} {ops : Array Oper} {o : Oper} {a : Act} {K : Act → World → Prop} {Q : Exit → Act → World → Prop} {E : Prop} (hgd : o.guard = none) (s x : Operand) (t : TypeId)
    (ho : o.op = .call { callee := .builtin .append, args := #[s, x], argTypes := #[t, t] })
    {B e n c : Nat} {ad : Addr} (ht : P.underlying t = some (.slice e)) (hinf : (P.info? e).map (fun i => (i.zero, i.size, i.bytes)) = some (some (.int .i64 0), 1, 8))
    {v : Value} {xs ys : List Int} (hown : OI wr B e v xs) (hs : a.eval s = v) (hx : a.eval x = .slice (some ad) n c) (hn : ys.length = n) (hr : ∀ j u, (ys.map (Value.int .i64))[j]? = some u → wr.cell? (ad.add j) = some u)
    (hl : xs.length + n ≤ 1099511627776) (hB : B ≤ wr.heap.size)
    (h : ∀ v' w', OI w' B e v' (xs ++ ys) → (∀ B', B' ≤ B → Below B' wr w') → wr.heap.size ≤ w'.heap.size → K (a.put o.dst v') w') :
    if Region.wanted o (yielded ops a.tmps) = true then Oper.wp P o a wr K Q else E := by
  have hw : Region.wanted o (yielded ops a.tmps) = true := by simp [Region.wanted, hgd]
  rw [if_pos hw]
  obtain ⟨i, hi, hiz, his, hib⟩ := info_parts hinf
  obtain ⟨v', w', hrun, h1, h2, _⟩ := run_append_own (P := P) wr B t o.type e i (.int .i64 0) 1 8 ht hi hiz his hib rfl (by omega) v xs.length (xs.map (Value.int .i64)) hown ad n c (ys.map (Value.int .i64)) (by simp [hn]) hr (by
    intro y hy
    obtain ⟨z, _, rfl⟩ := List.mem_map.1 hy
    rfl) (by simp only [maxLen]; omega) (by omega) hB
  unfold Oper.wp
  simp [execOp, ho, resolve, invoke, builtin, hs, hx, hrun, Result.andThen]
  refine h v' w' (by unfold OI; rw [List.map_append, List.length_append, hn]; exact h1) (fun B' hB' => ⟨h2.os, h2.tape, h2.output, h2.size, fun k hk => h2.block k (by omega) (fun e => ?_)⟩) h2.size
  have := (World.ownsRow.lt hown k e.symm).1
  omega
theorem add_none (g off j : Nat) : (⟨g, off, none⟩ : Addr).add j = ⟨g, off + j, none⟩ := by unfold Addr.add; split <;> simp_all
/-- a slice of integers is readable from a place on -/
theorem Rd.drop_ {w : World} {g off k : Nat} {vs : List Value} (h : Rd w (some ⟨g, off, none⟩) vs) : Rd w (some ⟨g, off + k, none⟩) (vs.drop k) := by
  rcases h with h | ⟨g', off', hA, hc⟩
  · left; rw [h]; simp
  · injection hA with hA
    injection hA with h1 h2
    subst h1; subst h2
    refine .inr ⟨g, off + k, rfl, fun j v hj => ?_⟩
    rw [List.getElem?_drop] at hj
    rw [Nat.add_assoc]
    exact hc _ _ hj
theorem Rd.take_ {w : World} {A : Option Addr} {k : Nat} {vs : List Value} (h : Rd w A vs) : Rd w A (vs.take k) := by
  rcases h with h | ⟨g, off, hA, hc⟩
  · left; rw [h]; simp
  · refine .inr ⟨g, off, hA, fun j v hj => ?_⟩
    rw [List.getElem?_take] at hj
    split at hj
    · exact hc _ _ hj
    · cases hj
theorem Rd.adds {w : World} {g off : Nat} {vs : List Value} (h : Rd w (some ⟨g, off, none⟩) vs) : ∀ j u, vs[j]? = some u → w.cell? ((⟨g, off, none⟩ : Addr).add j) = some u := fun j u hj => by
  rw [add_none]; exact h.cell hj
theorem ints_drop (l : List Nat) (k : Nat) : (ints l).drop k = ints (l.drop k) := by simp [ints, List.map_drop]
theorem ints_take (l : List Nat) (k : Nat) : (ints l).take k = ints (l.take k) := by simp [ints, List.map_take]

end Go.Proofs.YtfkdameegljkeaaDoor

/- Walks of CycleOf and BasinOf. Printed by wip/mky.py. -/
namespace Go.Proofs.YtfkdameegljkeaaDoor
open Go.RowKit
set_option linter.unusedVariables false

theorem stp_lt32 {ps : List (List UInt8)} {N : Nat} (h : okN ps = true) (hN : N = 2 ^ ps.length) : N ≤ 32 ∧ ∀ x, x < N → stp ps x < N := ⟨by rw [hN]; exact two_le _ (okN_le h), fun x _ => by rw [hN]; exact stp_lt h x⟩
def cycN (ps : List (List UInt8)) (t : Int) : List Int := if okSt ps t then ints (cyc (stp ps) t.toNat) else []
theorem cycN_yes {ps : List (List UInt8)} {t : Nat} (h : okSt ps t = true) : cycN ps t = ints (cyc (stp ps) t) := if_pos h
theorem cycN_no {ps : List (List UInt8)} {t : Int} (h : okSt ps t = false) : cycN ps t = [] := by rw [cycN, h]; rfl
theorem cycN_len (ps : List (List UInt8)) (t : Int) : (cycN ps t).length ≤ 1048576 := by
  by_cases h : okSt ps t = true
  · obtain ⟨hok, s, rfl, hs⟩ := okSt_true h
    rw [cycN_yes h, ints_length]
    have hf := stp_lt32 hok rfl
    have := (cyc_len hf.1 hf.2 hs).1
    omega
  · rw [cycN_no (by simpa using h)]; simp
def basN (ps : List (List UInt8)) (t : Int) : List Int := if okSt ps t then ints (sel (2 ^ ps.length) fun k => cy0 (stp ps) k == cy0 (stp ps) t.toNat) else []
theorem basN_yes {ps : List (List UInt8)} {t N : Nat} (h : okSt ps t = true) (hN : N = 2 ^ ps.length) : basN ps t = ints (sel N fun k => cy0 (stp ps) k == cy0 (stp ps) t) := by rw [basN, if_pos h, hN]; rfl
theorem basN_no {ps : List (List UInt8)} {t : Int} (h : okSt ps t = false) : basN ps t = [] := by rw [basN, h]; rfl
theorem basN_len (ps : List (List UInt8)) (t : Int) : (basN ps t).length ≤ 1048576 := by
  by_cases h : okSt ps t = true
  · obtain ⟨hok, s, rfl, hs⟩ := okSt_true h
    rw [basN_yes h rfl, ints_length]
    have := sel_len (2 ^ ps.length) fun k => cy0 (stp ps) k == cy0 (stp ps) s
    have h32 := two_le _ (okN_le hok)
    omega
  · rw [basN_no (by simpa using h)]; simp
/-- the address A does not lie in v's own block -/
def OffB (v : Value) (A : Option Addr) : Prop := ∀ a, A = some a → v.ownBlock ≠ some a.block
theorem offB_own {w : World} {B g n c : Nat} {A : Option Addr} {vs : List Value} (h : Own w B A vs) (hg : g < B) : OffB (.slice (some ⟨g, 0, none⟩) n c) A ∨ vs = [] := by
  rcases h with h | ⟨g2, off, hA, hB, _⟩
  · exact .inr h
  · left
    intro a ha
    rw [hA] at ha
    injection ha with ha
    subst ha
    simp only [Value.ownBlock, ne_eq, Option.some.injEq]
    omega
theorem offB_push {w w' : World} {v v' : Value} {A : Option Addr} {vs : List Value} (h : Rd w A vs) (ho : OffB v A) (hf : ∀ g, g < w.heap.size → v.ownBlock ≠ some g → w'.heap[g]? = w.heap[g]? ∧ v'.ownBlock ≠ some g) (hne : vs ≠ []) : Rd w' A vs ∧ OffB v' A := by
  rcases h with h | ⟨g, off, hA, hc⟩
  · exact absurd h hne
  · have hlt : g < w.heap.size := by
      cases vs with
      | nil => exact absurd rfl hne
      | cons x l => exact World.block_lt_of_cell? w _ (hc 0 x rfl)
    have h2 := hf g hlt (ho _ hA)
    refine ⟨.inr ⟨g, off, hA, fun j v hj => (World.cell?_of_block (w := w) (a := ⟨g, off + j, none⟩) h2.1).trans (hc j v hj)⟩, fun a ha => ?_⟩
    rw [hA] at ha
    injection ha with ha
    subst ha
    exact h2.2
/-- the first of a cycle's cells -/
theorem cyc_cell {ps : List (List UInt8)} {N s : Nat} (h : okN ps = true) (hN : N = 2 ^ ps.length) (hs : s < N) : ((ints (cyc (stp ps) s)).map (Value.int .i64))[0]? = some (.int .i64 (cy0 (stp ps) s : Int)) ∧ 0 < (ints (cyc (stp ps) s)).length := by
  have hf := stp_lt32 h hN
  obtain ⟨l, e⟩ := cyc_head hf.1 hf.2 hs
  rw [e]
  exact ⟨rfl, by simp [ints]⟩

end Go.Proofs.YtfkdameegljkeaaDoor

/- Walks of the drawing source: what it hands out lies in its bounds; only its own block changes. -/
namespace Go.Proofs.YtfkdameegljkeaaDoor
open Go.RowKit

/-- the source: block g (from B on) holds the slice of bytes and the counter p; the bytes lie below block B -/
def Rdr (w : World) (B g p : Nat) : Prop := ∃ (A : Option Addr) (n c : Nat) (bs : List Int), B ≤ g ∧ w.heap[g]? = some (.cells #[.slice A n c, .int .i64 (p : Int)] 81 (0, 0)) ∧
  n = bs.length ∧ n ≤ 2000 ∧ n ≤ c ∧ (bs = [] ∨ ∃ h off, A = some ⟨h, off, none⟩ ∧ h < B ∧ ∀ j v, (bs.map (Value.int .u8))[j]? = some v → w.cell? ⟨h, off + j, none⟩ = some v) ∧ ∀ x ∈ bs, 0 ≤ x ∧ x < 256
theorem Rdr.keep {w w' : World} {B g p : Nat} (h : Rdr w B g p) (hb : Below w.heap.size w w') : Rdr w' B g p := by
  obtain ⟨A, n, c, bs, hB, hg, hn, hn2, hc, hr, hx⟩ := h
  refine ⟨A, n, c, bs, hB, ?_, hn, hn2, hc, ?_, hx⟩
  · rw [hb.block g (Array.getElem?_eq_some_iff.1 hg).1]; exact hg
  · rcases hr with hr | ⟨h, off, hA, hh, hcell⟩
    · exact .inl hr
    · exact .inr ⟨h, off, hA, hh, fun j v hj => (hb.cell (World.block_lt_of_cell? w _ (hcell j v hj))).trans (hcell j v hj)⟩
theorem Rdr.keepB {w w' : World} {B g p : Nat} (h : Rdr w B g p) (hb : Below (g + 1) w w') : Rdr w' B g p := by
  obtain ⟨A, n, c, bs, hB, hg, hn, hn2, hc, hr, hx⟩ := h
  refine ⟨A, n, c, bs, hB, ?_, hn, hn2, hc, ?_, hx⟩
  · rw [hb.block g (by omega)]; exact hg
  · rcases hr with hr | ⟨h, off, hA, hh, hcell⟩
    · exact .inl hr
    · exact .inr ⟨h, off, hA, hh, fun j v hj => (hb.cell (p := ⟨h, off + j, none⟩) (by show h < g + 1; omega)).trans (hcell j v hj)⟩
theorem Rdr.lt {w : World} {B g p : Nat} (h : Rdr w B g p) : B ≤ g ∧ g < w.heap.size := by
  obtain ⟨A, n, c, bs, hB, hg, _⟩ := h
  exact ⟨hB, (Array.getElem?_eq_some_iff.1 hg).1⟩
/-- what num hands back: one of the list -/
def NumP (w : World) (B g p : Nat) (xs : List Int) (e : Ending) (w' : World) : Prop := ∃ v, v ∈ xs ∧ e = .returned (.int .i64 v) ∧ Rdr w' B g (p + 1) ∧ w.grownBy w' (some g)
/-- what of hands back: one of the texts -/
def OfP (w : World) (B g p : Nat) (xs : List ByteArray) (e : Ending) (w' : World) : Prop := ∃ v, v ∈ xs ∧ e = .returned (.string v) ∧ Rdr w' B g (p + 1) ∧ w.grownBy w' (some g)
/-- a source has been laid open -/
def OpenP (w : World) (e : Ending) (w' : World) : Prop := ∃ g, e = .returned (.pointer (some ⟨g, 0, none⟩)) ∧ Rdr w' g g 0 ∧ w.heap.size ≤ g ∧ Below w.heap.size w w'
/-- what pick hands back -/
def PickP (w : World) (B g p : Nat) (n : Int) (e : Ending) (w' : World) : Prop := ∃ v : Nat, e = .returned (.int .i64 (v : Int)) ∧ (v : Int) < n ∧ Rdr w' B g (p + 1) ∧ w.grownBy w' (some g)

theorem Rdr.step {w : World} {B g p : Nat} (h : Rdr w B g p) (n : Nat) : Rdr ((w.setCell ⟨g, 1, none⟩ (.int .i64 ((p : Int) + 1))).drewN n) B g (p + 1) ∧ w.grownBy ((w.setCell ⟨g, 1, none⟩ (.int .i64 ((p : Int) + 1))).drewN n) (some g) := by
  obtain ⟨A, m, c, bs, hB, hg, hn, hn2, hc, hr, hx⟩ := h
  refine ⟨⟨A, m, c, bs, hB, ?_, hn, hn2, hc, ?_, hx⟩, ?_⟩
  · show (w.setCell ⟨g, 1, none⟩ (.int .i64 ((p : Int) + 1))).heap[g]? = _
    simp [World.setCell, Array.getElem?_modify, hg]
  · rcases hr with hr | ⟨h, off, hA, hh, hcell⟩
    · exact .inl hr
    · refine .inr ⟨h, off, hA, hh, fun j v hj => ?_⟩
      show (w.setCell ⟨g, 1, none⟩ (.int .i64 ((p : Int) + 1))).cell? _ = _
      rw [World.cell?_setCell_other _ _ _ _ (by intro x; injection x with x _; omega)]
      exact hcell j v hj
  · refine ⟨rfl, rfl, rfl, by show w.heap.size ≤ (w.setCell _ _).heap.size; rw [setCell_size]; omega, fun i _ hne => ?_⟩
    show (w.setCell ⟨g, 1, none⟩ (.int .i64 ((p : Int) + 1))).heap[i]? = _
    exact Below.heap_setCell _ _ _ _ (by intro e; exact hne (by rw [e]))
set_option maxHeartbeats 1000000 in
set_option maxRecDepth 100000 in
theorem pick_any (B g p : Nat) (nn : Int) (w : World) (h : Rdr w B g p) (hn1 : 1 ≤ nn) (hn2 : nn ≤ 4294967296) (hp : p ≤ 1073741824) :
    Calls Tryd.prog 46 #[.pointer (some ⟨g, 0, none⟩), .int .i64 nn] w fun e w' => PickP w B g p nn e w' := by
  have H0 := Lib.hid h
  obtain ⟨A, n, c, bs, hB, hg, hn, hnl, hnc, hr, hx⟩ := h
  have hc0 : w.cell? ⟨g, 0, none⟩ = some (.slice A n c) := by rw [cell_of_row w g 0 _ _ _ hg]; rfl
  have hc1 : w.cell? ⟨g, 1, none⟩ = some (.int .i64 (p : Int)) := by rw [cell_of_row w g 1 _ _ _ hg]; rfl
  have hf1 : w.frozen? ⟨g, 1, none⟩ = false := by simp [World.frozen?, hg]
  have hsz := (Array.getElem?_eq_some_iff.1 hg).1
  clear hg
  have HN := Lib.hid hn
  have HR := Lib.hid hr
  have HX := Lib.hid hx
  clear hn hr hx
  by_cases hz : n = 0
  · subst hz
    go_enter Tryd.func46, Tryd.ntmps46
    go_wp2
    go_ret
    refine ⟨0, rfl, by omega, ?_⟩
    have := H0.out.step 0
    exact this
  · have hb0 : ((n : Int) == 0) = false := by rw [beq_eq_false_iff_ne]; omega
    have hnp : 0 < n := by omega
    clear hz
    rcases HR.out with he | ⟨hh, off, rfl, hhB, hcell⟩
    · exfalso; have := HN.out; rw [he] at this; simp at this; omega
    · have HC := Lib.hid hcell
      clear hcell
      have hget : ∀ j, j < n → ∃ b : Nat, b < 256 ∧ w.cell? ⟨hh, off + j, none⟩ = some (.int .u8 (b : Int)) := fun j hj => by
        have hj' : j < bs.length := by have := HN.out; omega
        have h1 := HX.out _ (List.getElem_mem hj')
        refine ⟨bs[j].toNat, by omega, ?_⟩
        rw [show ((bs[j].toNat : Nat) : Int) = bs[j] by omega]
        exact HC.out j _ (by rw [List.getElem?_map, List.getElem?_eq_getElem hj']; rfl)
      by_cases hlt : p < n
      · obtain ⟨b, hb, hcb⟩ := hget p hlt
        clear hget
        have hbb : (b : Int) < 256 := by omega
        obtain ⟨m, rfl⟩ : ∃ m : Nat, nn = (m : Int) := ⟨nn.toNat, by omega⟩
        go_enter Tryd.func46, Tryd.ntmps46
        go_wp2
        go_ret
        refine ⟨b % m, ret_int (by simp), by have := Nat.mod_lt b (show 0 < m by omega); omega, ?_⟩
        exact H0.out.step 0
      · obtain ⟨b1, hb1, hcb1⟩ := hget (p % n) (Nat.mod_lt _ hnp)
        obtain ⟨b2, hb2, hcb2⟩ := hget ((p * 7 + 3) % n) (Nat.mod_lt _ hnp)
        clear hget
        have hbb1 : (b1 : Int) < 256 := by omega
        have hbb2 : (b2 : Int) < 256 := by omega
        have hq1 : (p : Int) / (n : Int) ≤ p := Int.ediv_le_self _ (by omega)
        have hq0 : 0 ≤ (p : Int) / (n : Int) := Int.ediv_nonneg (by omega) (by omega)
        obtain ⟨m, rfl⟩ : ∃ m : Nat, nn = (m : Int) := ⟨nn.toNat, by omega⟩
        have hne0 : ¬ n = 0 := by omega
        obtain ⟨i1, hi1⟩ : ∃ i1 : Nat, i1 = p % n := ⟨_, rfl⟩
        obtain ⟨i2, hi2⟩ : ∃ i2 : Nat, i2 = (p * 7 + 3) % n := ⟨_, rfl⟩
        have hi1n : i1 < n := by rw [hi1]; exact Nat.mod_lt _ hnp
        have hi2n : i2 < n := by rw [hi2]; exact Nat.mod_lt _ hnp
        have e1 : (p : Int).tmod (n : Int) = (i1 : Int) := by rw [hi1, Int.natCast_emod]; exact Int.tmod_eq_emod_of_nonneg (by omega)
        have e2 : ((p : Int) * 7 + 3).tmod (n : Int) = (i2 : Int) := by rw [hi2, Int.natCast_emod]; exact Int.tmod_eq_emod_of_nonneg (by omega)
        obtain ⟨q, hq⟩ : ∃ q : Nat, q = p / n := ⟨_, rfl⟩
        have hqp : q ≤ p := by rw [hq]; exact Nat.div_le_self _ _
        have e3 : (p : Int).tdiv (n : Int) = (q : Int) := by rw [hq, Int.natCast_ediv]; exact Int.tdiv_eq_ediv_of_nonneg (by omega)
        rw [← hi1] at hcb1
        rw [← hi2] at hcb2
        clear hi1 hi2 hq hq1 hq0
        have f1 : IntKind.i64.wrap ((b1 : Int) * 131) = (b1 : Int) * 131 := IntWalk.i64_in _ (by omega)
        have f2 : IntKind.i64.wrap ((p : Int) * 7) = (p : Int) * 7 := IntWalk.i64_in _ (by omega)
        have f3 : IntKind.i64.wrap ((p : Int) * 7 + 3) = (p : Int) * 7 + 3 := IntWalk.i64_in _ (by omega)
        have f4 : IntKind.i64.wrap ((b2 : Int) * 1117) = (b2 : Int) * 1117 := IntWalk.i64_in _ (by omega)
        have f5 : IntKind.i64.wrap ((b1 : Int) * 131 + (b2 : Int) * 1117) = (b1 : Int) * 131 + (b2 : Int) * 1117 := IntWalk.i64_in _ (by omega)
        have f6 : IntKind.i64.wrap ((p : Int) * 29) = (p : Int) * 29 := IntWalk.i64_in _ (by omega)
        have f7 : IntKind.i64.wrap ((b1 : Int) * 131 + (b2 : Int) * 1117 + (p : Int) * 29) = (b1 : Int) * 131 + (b2 : Int) * 1117 + (p : Int) * 29 := IntWalk.i64_in _ (by omega)
        have f8 : IntKind.i64.wrap (q : Int) = (q : Int) := IntWalk.i64_in _ (by omega)
        have f9 : IntKind.i64.wrap ((q : Int) * 53) = (q : Int) * 53 := IntWalk.i64_in _ (by omega)
        obtain ⟨X, hX⟩ : ∃ X : Nat, (b1 : Int) * 131 + (b2 : Int) * 1117 + (p : Int) * 29 + (q : Int) * 53 = (X : Int) := ⟨b1 * 131 + b2 * 1117 + p * 29 + q * 53, by omega⟩
        have hXb : X < 1099511627776 := by omega
        have fx : IntKind.i64.wrap ((b1 : Int) * 131 + (b2 : Int) * 1117 + (p : Int) * 29 + (q : Int) * 53) = (X : Int) := by rw [hX]; exact IntWalk.i64_in _ (by omega)
        obtain ⟨Y, hY⟩ : ∃ Y : Nat, bits .xor .i64 (X : Int) ((X : Int) / 64) = (Y : Int) := by
          refine ⟨X ^^^ (X / 64), ?_⟩
          rw [show ((X : Int) / 64) = ((X / 64 : Nat) : Int) by omega]
          exact i64_xor_nat _ _ (by omega) (by omega)
        clear hX
        go_enter Tryd.func46, Tryd.ntmps46
        go_wp2
        go_quiet (fail)
        clear e1 e2 e3 f1 f2 f3 f4 f5 f6 f7 f8 f9 fx
        go_wp2
        go_ret
        exact ⟨Y % m, ret_int (by simp), by have := Nat.mod_lt Y (show 0 < m by omega); omega, H0.out.step _⟩

theorem num_any (B g p c : Nat) (A : Option Addr) (xs : List Int) (w : World) (h : Rdr w B g p) (hp : p ≤ 1073741824) (hx : Own w (g + 1) A (xs.map (Value.int .i64))) (h0 : 0 < xs.length) (h1 : xs.length ≤ 1000000) :
    Calls Tryd.prog 44 #[.pointer (some ⟨g, 0, none⟩), .slice A xs.length c] w fun e w' => NumP w B g p xs e w' := by
  go_enter Tryd.func44, Tryd.ntmps44
  go_wp2_with fail
  refine (pick_any _ _ _ _ _ h (by omega) (by omega) hp).mono ?_
  rintro e w1 ⟨v, rfl, hv, hr, hg⟩
  have hv' : v < xs.length := by omega
  obtain ⟨g', off, rfl, hge, hc, _⟩ := (hx.only (Nat.lt_succ_self g) hg).int hv'
  go_wp2
  go_ret
  exact ⟨_, List.getElem_mem hv', rfl, hr, hg⟩

theorem of_any (B g p c : Nat) (A : Option Addr) (xs : List ByteArray) (w : World) (h : Rdr w B g p) (hp : p ≤ 1073741824) (hx : Own w (g + 1) A (xs.map Value.string)) (h0 : 0 < xs.length) (h1 : xs.length ≤ 1000000) :
    Calls Tryd.prog 75 #[.pointer (some ⟨g, 0, none⟩), .slice A xs.length c] w fun e w' => OfP w B g p xs e w' := by
  go_enter Tryd.func75, Tryd.ntmps75
  go_wp2_with fail
  refine (pick_any _ _ _ _ _ h (by omega) (by omega) hp).mono ?_
  rintro e w1 ⟨v, rfl, hv, hr, hg⟩
  have hv' : v < xs.length := by omega
  obtain ⟨g', off, rfl, hge, hc, _⟩ := (hx.only (Nat.lt_succ_self g) hg).at_ (k := v) (v := .string xs[v]) (by simp [hv'])
  go_wp2
  go_ret
  exact ⟨_, List.getElem_mem hv', rfl, hr, hg⟩

/-- the source is laid open over the bytes that came in -/
theorem l14Open_any (A : Option Addr) (n c : Nat) (bs : List Int) (w : World) (hn : n = bs.length) (hnc : n ≤ c) (hc : c ≤ 9223372036854775807) (hr : Hid (Rd w A (bs.map (Value.int .u8)))) (hx : Hid (∀ x ∈ bs, 0 ≤ x ∧ x < 256)) :
    Calls Tryd.prog 26 #[.slice A n c] w fun e w' => OpenP w e w' := by
  have hnew : ∀ (m : Nat), m ≤ n → m ≤ 2000 → Rdr (w.alloc (.cells #[.slice A m c, .int .i64 0] 81)) w.heap.size w.heap.size 0 := by
    intro m hm hm2
    refine ⟨A, m, c, bs.take m, Nat.le_refl _, heap_alloc_new w _, by rw [List.length_take]; omega, hm2, by omega, ?_, fun x hx' => hx.out x (List.mem_of_mem_take hx')⟩
    rcases hr.out with h | ⟨g, off, hA, hcell⟩
    · left
      have : bs = [] := by simpa using h
      rw [this]; simp
    · by_cases h0 : bs.take m = []
      · exact .inl h0
      · have hml : 0 < (bs.take m).length := List.length_pos_iff.2 h0
        have hbl : 0 < bs.length := by rw [List.length_take] at hml; omega
        have hlt := World.block_lt_of_cell? w _ (hcell 0 _ (by rw [List.getElem?_map, List.getElem?_eq_getElem hbl]; rfl))
        refine .inr ⟨g, off, hA, hlt, fun j v hj => ?_⟩
        rw [World.cell?_alloc_lt w _ ⟨g, off + j, none⟩ hlt]
        rw [List.map_take, List.getElem?_take] at hj
        split at hj
        · exact hcell j v hj
        · cases hj
  have HNL := Lib.hid hn
  by_cases h2 : 2000 < n
  · have HF := Lib.hid (hnew 2000 (by omega) (by omega))
    clear hnew hn
    go_enter Tryd.func26, Tryd.ntmps26
    go_wp2
    go_ret
    exact ⟨_, rfl, HF.out, Nat.le_refl _, (Below.refl _ _).alloc (Nat.le_refl _) _⟩
  · have HF := Lib.hid (hnew n (by omega) (by omega))
    clear hnew hn
    go_enter Tryd.func26, Tryd.ntmps26
    go_wp2
    go_ret
    exact ⟨_, rfl, HF.out, Nat.le_refl _, (Below.refl _ _).alloc (Nat.le_refl _) _⟩

end Go.Proofs.YtfkdameegljkeaaDoor

/- Walks: draws of networks; only their sizes are told, and that nothing but the source's own block changes. -/
namespace Go.Proofs.YtfkdameegljkeaaDoor
open Go.RowKit
set_option linter.unusedVariables false

theorem grn_trans {a b c : World} {g : Nat} (h : a.grownBy b (some g)) (k : b.grownBy c (some g)) : a.grownBy c (some g) :=
  ⟨k.os.trans h.os, k.tape.trans h.tape, k.output.trans h.output, Nat.le_trans h.size k.size, fun i hi hne => (k.block i (Nat.lt_of_lt_of_le hi h.size) hne).trans (h.block i hi hne)⟩
theorem grn_below {a b : World} {g : Nat} (h : Below a.heap.size a b) : a.grownBy b (some g) := ⟨h.os, h.tape, h.output, h.size, fun i hi _ => h.block i hi⟩
theorem grn_bel {a b c : World} {g : Nat} (h : a.grownBy b (some g)) (k : Below a.heap.size b c) : a.grownBy c (some g) :=
  ⟨k.os.trans h.os, k.tape.trans h.tape, k.output.trans h.output, Nat.le_trans h.size k.size, fun i hi hne => (k.block i hi).trans (h.block i hi hne)⟩
theorem OS.only {w w' : World} {B g : Nat} {e : TypeId} {v : Value} {ps : List (List UInt8)} (h : OS w B e v ps) (hg : g < B) (hw : w.grownBy w' (some g)) : OS w' B e v ps := by
  exact World.ownsRow.kept h hw (by
    rcases h.2 with ⟨rfl, _⟩ | ⟨g', cap, cur, rfl, hB, _⟩
    · exact .inl rfl
    · refine .inr ?_
      simp only [Value.ownBlock, ne_eq, Option.some.injEq]
      omega)
theorem ints_snoc (vs : List Nat) (u : Nat) : ints (vs ++ [u]) = ints vs ++ [(u : Int)] := by rw [ints_append]; rfl
/-- two numbers 0 or 1 -/
theorem xor2 {a b : Nat} (ha : a < 2) (hb : b < 2) : ∃ x : Nat, x < 2 ∧ bits .xor .i64 (a : Int) (b : Int) = (x : Int) := by
  rcases (show a = 0 ∨ a = 1 by omega) with rfl | rfl <;> rcases (show b = 0 ∨ b = 1 by omega) with rfl | rfl <;>
  first | exact ⟨0, by omega, by decide +kernel⟩ | exact ⟨1, by omega, by decide +kernel⟩
theorem and2 {a b : Nat} (ha : a < 2) (hb : b < 2) : ∃ x : Nat, x < 2 ∧ bits .and .i64 (a : Int) (b : Int) = (x : Int) := by
  rcases (show a = 0 ∨ a = 1 by omega) with rfl | rfl <;> rcases (show b = 0 ∨ b = 1 by omega) with rfl | rfl <;>
  first | exact ⟨0, by omega, by decide +kernel⟩ | exact ⟨1, by omega, by decide +kernel⟩
theorem or2 {a b : Nat} (ha : a < 2) (hb : b < 2) : ∃ x : Nat, x < 2 ∧ bits .or .i64 (a : Int) (b : Int) = (x : Int) := by
  rcases (show a = 0 ∨ a = 1 by omega) with rfl | rfl <;> rcases (show b = 0 ∨ b = 1 by omega) with rfl | rfl <;>
  first | exact ⟨0, by omega, by decide +kernel⟩ | exact ⟨1, by omega, by decide +kernel⟩
/-- a text has been drawn -/
def TxtP (w : World) (B g p lo hi q : Nat) (e : Ending) (w' : World) : Prop :=
  ∃ (t : List UInt8) (p2 : Nat), e = .returned (.string ⟨t.toArray⟩) ∧ lo ≤ t.length ∧ t.length ≤ hi ∧ p2 ≤ p + q ∧ Rdr w' B g p2 ∧ w.grownBy w' (some g)

theorem l1Text_ints (A : Option Addr) (c : Nat) (xs : List Nat) (w : World) (hx : Rd w A ((ints xs).map (Value.int .i64))) (hb : ∀ x ∈ xs, x < 2) (hl : xs.length ≤ 1000000) :
    Calls Tryd.prog 81 #[.slice A (ints xs).length c] w fun e w' => e = .returned (.string ⟨(chrs xs).toArray⟩) ∧ ∃ n, w.drewN n = w' := by
  rw [ints_length]
  exact l1Text_any A c xs w (Lib.hid hx) (Lib.hid hb) hl

set_option maxHeartbeats 2000000 in
set_option maxRecDepth 100000 in
theorem l1Draw_any (B g p n : Nat) (w : World) (h : Rdr w B g p) (hp : p ≤ 1000000) (hn1 : 1 ≤ n) (hn5 : n ≤ 5) :
    Calls Tryd.prog 104 #[.pointer (some ⟨g, 0, none⟩), .int .i64 (n : Int)] w fun e w' => TxtP w B g p 1 32 40 e w' := by
  obtain ⟨N, HN, hNw, hN32, hN0⟩ := wrap_two n hn5
  have hgl := h.lt.2
  have h0 := h.keep ((Below.refl _ _).alloc (Nat.le_refl _) (.cells #[] 3))
  have hE := OI.empty w w.heap.size 3 (Nat.le_refl _)
  have hG0 : w.grownBy (w.alloc (.cells #[] 3)) (some g) := grn_below ((Below.refl _ _).alloc (Nat.le_refl _) _)
  go_enter Tryd.func104, Tryd.ntmps104
  go_wp2_with fail
  refine (pick_any B g p _ _ h0 (by omega) (by omega) (by omega)).mono ?_
  rintro e w1 ⟨a, rfl, ha, hR1, hG1⟩
  go_wp2_with fail
  refine (pick_any B g (p + 1) _ _ hR1 (by omega) (by omega) (by omega)).mono ?_
  rintro e w2 ⟨b, rfl, hb, hR2, hG2⟩
  go_wp2_with fail
  refine (pick_any B g (p + 1 + 1) _ _ hR2 (by omega) (by omega) (by omega)).mono ?_
  rintro e w3 ⟨kind, rfl, hkd, hR3, hG3⟩
  go_wp2_with fail
  refine (pick_any B g (p + 1 + 1 + 1) _ _ hR3 (by omega) (by omega) (by omega)).mono ?_
  rintro e w4 ⟨sg, rfl, hsg, hR4, hG4⟩
  have HO4 := Lib.hid ((((hE.only hgl hG1).only hgl hG2).only hgl hG3).only hgl hG4)
  have HG4 := Lib.hid (grn_trans (grn_trans (grn_trans (grn_trans hG0 hG1) hG2) hG3) hG4)
  have HR4 := Lib.hid hR4
  have ha5 : a < 5 := by omega
  have hb5 : b < 5 := by omega
  have hsg2 : sg < 2 := by omega
  clear hG0 hG1 hG2 hG3 hG4 hR1 hR2 hR3 hR4 hE h0 ha hb hsg
  have hkk : kind = 0 ∨ kind = 1 ∨ kind = 2 ∨ kind = 3 ∨ kind = 4 ∨ 5 ≤ kind := by omega
  rcases hkk with rfl | rfl | rfl | rfl | rfl | hk5
  all_goals
    go_wp2_with fail
    go_loopw [5, 10] (fun v q wr => ∃ (k p' : Nat) (vs : List Nat), k ≤ N ∧ q = .int .i64 k ∧ Hid (vs.length = k) ∧ p' ≤ p + 4 + k ∧ Hid (OI wr w.heap.size 3 v (ints vs) ∧ ∀ x ∈ vs, x < 2) ∧ Hid (Rdr wr B g p' ∧ w.grownBy wr (some g))) (fun _ q _ => N - (intOf q).toNat)
    case atStart => exact ⟨0, _, [], Nat.zero_le _, rfl, rfl, by omega, Lib.hid ⟨HO4.out, by simp⟩, Lib.hid ⟨HR4.out, HG4.out⟩⟩
  all_goals
    obtain ⟨k, p', vs, hk, rfl, HL, hp', HO, HR⟩ := hrel
    have hvl : (ints vs).length ≤ 32 := by rw [ints_length, HL.out]; omega
    have hszw : w.heap.size ≤ wr.heap.size := HR.out.2.size
    by_cases hlt : k < N
    · obtain ⟨x, hx2, e1⟩ := xor2 (bit_lt k a) hsg2
      have hy2 := bit_lt k b
      obtain ⟨v1, hv1, e2⟩ := and2 hx2 hy2
      obtain ⟨v2, hv2, e3⟩ := or2 hx2 hy2
      obtain ⟨v3, hv3, e4⟩ := xor2 hx2 hy2
      go_wp2_with (first
        | (go_at_call 103; refine (l1Bit_any _ _ _ (by omega) (by omega)).mono ?_; rintro e w5 ⟨rfl, rfl⟩)
        | (go_at_call 46; refine (pick_any B g p' _ _ HR.out.1 (by omega) (by omega) (by omega)).mono ?_; rintro e w6 ⟨v5, rfl, hv5, hR6, hG6⟩; have hsz6 : w.heap.size ≤ w6.heap.size := Nat.le_trans hszw hG6.size; have hv52 : v5 < 2 := by omega)
        | (at_builtin; refine wp_pushI rfl _ _ _ rfl Tryd.underlying25 info_int (by first | exact HO.out.1 | exact HO.out.1.only hgl hG6) rfl rfl (by omega) (by omega) ?_; intro v' w7 hown hbel hsz7))
      have hP1 : p' ≤ p + 4 + (k + 1) := by omega
      have hK1 : k + 1 ≤ N := by omega
      have hall : ∀ u : Nat, u < 2 → ∀ x ∈ vs ++ [u], x < 2 := fun u hu x hx => by
        rcases List.mem_append.1 hx with hx | hx
        · exact HO.out.2 x hx
        · simp at hx; rw [hx]; exact hu
      have hlen : ∀ u : Nat, (vs ++ [u]).length = k + 1 := fun u => by rw [List.length_append, HL.out]; rfl
      have hRG : ∃ p7, p7 ≤ p + 4 + (k + 1) ∧ Rdr w7 B g p7 ∧ w.grownBy w7 (some g) := by
        first
          | exact ⟨p' + 1, by omega, hR6.keepB (hbel (g + 1) hgl), grn_bel (grn_trans HR.out.2 hG6) (hbel _ (Nat.le_refl _))⟩
          | exact ⟨p', hP1, HR.out.1.keepB (hbel (g + 1) hgl), grn_bel HR.out.2 (hbel _ (Nat.le_refl _))⟩
      have hU : ∃ u : Nat, u < 2 ∧ OI w7 w.heap.size 3 v' (ints (vs ++ [u])) := by
        simp only [ints_snoc]
        first
          | exact ⟨v5, hv52, by with_reducible exact hown⟩
          | exact ⟨x, hx2, by with_reducible exact hown⟩
          | exact ⟨v1, hv1, by with_reducible exact hown⟩
          | exact ⟨v2, hv2, by with_reducible exact hown⟩
          | exact ⟨v3, hv3, by with_reducible exact hown⟩
          | exact ⟨sg, hsg2, by with_reducible exact hown⟩
      obtain ⟨p7, hp7, hR7, hG7⟩ := hRG
      obtain ⟨u, hu2, hO7⟩ := hU
      have HF := Lib.hid (And.intro (And.intro hO7 (hall u hu2)) (And.intro hR7 hG7))
      have HLU := Lib.hid (hlen u)
      clear hall hlen hR7 hG7 hO7 hown hbel
      go_roundw
      case rel => exact ⟨k + 1, p7, vs ++ [u], hK1, by go_num, HLU, hp7, Lib.hid HF.out.1, Lib.hid HF.out.2⟩
      case measure => simp [intOf]; omega
    · have hkn : k = N := by omega
      subst hkn
      have hlen : (chrs vs).length = k := by rw [chrs_length]; exact HL.out
      have HL2 := Lib.hid hlen
      clear hlen
      obtain ⟨A', c', rfl, hc', hO'⟩ := HO.out.1.form
      have HFI : Hid ((1 ≤ (chrs vs).length ∧ (chrs vs).length ≤ 32) ∧ p' ≤ p + 40) := Lib.hid ⟨⟨by rw [HL2.out]; exact hN0, by rw [HL2.out]; exact hN32⟩, Nat.le_trans hp' (by clear hNw; omega)⟩
      have HFR : Hid (∀ n5 : Nat, Rdr (wr.drewN n5) B g p' ∧ w.grownBy (wr.drewN n5) (some g)) := Lib.hid (fun n5 => ⟨HR.out.1.keep (drewN_below _ _), grn_bel HR.out.2 (drewN_below _ _)⟩)
      have hk6 : k ≤ 1000000 := Nat.le_trans hN32 (by decide)
      have HT1 := Lib.hid (l1Text_ints A' c' vs wr hO'.rd HO.out.2 (by rw [HL.out]; exact hk6))
      clear hO'
      go_wp2_with (go_at_call 81; refine HT1.out.mono ?_; rintro e w5 ⟨rfl, n5, rfl⟩)
      go_ret
      exact ⟨chrs vs, p', rfl, HFI.out.1.1, HFI.out.1.2, HFI.out.2, (HFR.out n5).1, (HFR.out n5).2⟩

theorem joinN_pos {ps : List (List UInt8)} (hp : ∀ p ∈ ps, 1 ≤ p.length) : ∀ k, 1 ≤ k → k ≤ ps.length → 1 ≤ (joinN (ps.take k)).length := by
  intro k h1 hk
  obtain ⟨j, rfl⟩ : ∃ j, k = j + 1 := ⟨k - 1, by omega⟩
  by_cases h0 : j = 0
  · subst h0
    rw [joinN_one (by omega)]
    exact hp _ (List.getElem_mem _)
  · rw [joinN_succ (by omega) h0]
    simp only [List.length_append, List.length_cons, List.length_nil]
    omega

set_option maxHeartbeats 1000000 in
set_option maxRecDepth 100000 in
theorem l3Draw_any (B g p n : Nat) (w : World) (h : Rdr w B g p) (hp : p ≤ 900000) (hn1 : 1 ≤ n) (hn5 : n ≤ 5) :
    Calls Tryd.prog 85 #[.pointer (some ⟨g, 0, none⟩), .int .i64 (n : Int)] w fun e w' => TxtP w B g p 1 165 200 e w' := by
  have hgl := h.lt.2
  have h0 := Lib.hid (h.keep ((Below.refl _ _).alloc (Nat.le_refl _) (.cells #[] 9)))
  have hE := Lib.hid (OS.empty w w.heap.size 9 (Nat.le_refl _))
  have hG0 : Hid (w.grownBy (w.alloc (.cells #[] 9)) (some g)) := Lib.hid (grn_below ((Below.refl _ _).alloc (Nat.le_refl _) _))
  go_enter Tryd.func85, Tryd.ntmps85
  go_wp2_with fail
  go_loopw [5, 6] (fun v q wr => ∃ (k p' : Nat) (ps : List (List UInt8)), k ≤ n ∧ q = .int .i64 k ∧ Hid (ps.length = k) ∧ p' ≤ p + 40 * k ∧ Hid (OS wr w.heap.size 9 v ps ∧ ∀ x ∈ ps, 1 ≤ x.length ∧ x.length ≤ 32) ∧ Hid (Rdr wr B g p' ∧ w.grownBy wr (some g))) (fun _ q _ => n - (intOf q).toNat)
  case atStart => exact ⟨0, _, [], Nat.zero_le _, rfl, rfl, by omega, Lib.hid ⟨hE.out, by simp⟩, Lib.hid ⟨h0.out, hG0.out⟩⟩
  case round =>
    obtain ⟨k, p', ps, hk, rfl, HL, hp', HO, HR⟩ := hrel
    have hvl : ps.length ≤ 5 := by rw [HL.out]; omega
    have hszw : w.heap.size ≤ wr.heap.size := HR.out.2.size
    by_cases hlt : k < n
    · go_wp2_with (first
        | (go_at_call 104; refine (l1Draw_any B g p' n _ HR.out.1 (by omega) hn1 hn5).mono ?_; rintro e w6 ⟨t, p6, rfl, ht1, ht2, hp6, hR6, hG6⟩; have hsz6 : w.heap.size ≤ w6.heap.size := Nat.le_trans hszw hG6.size)
        | (at_builtin; refine wp_pushS rfl _ _ _ rfl Tryd.underlying36 info_str (HO.out.1.only hgl hG6) rfl rfl (by omega) (by omega) ?_; intro v' w7 hown hbel hsz7))
      go_roundw
      case rel => exact ⟨k + 1, p6, ps ++ [t], by omega, by go_num, Lib.hid (by rw [List.length_append, HL.out]; rfl), by omega, Lib.hid ⟨hown, fun x hx => by
        rcases List.mem_append.1 hx with hx | hx
        · exact HO.out.2 x hx
        · simp at hx; rw [hx]; exact ⟨ht1, ht2⟩⟩, Lib.hid ⟨hR6.keepB (hbel (g + 1) hgl), grn_bel (grn_trans HR.out.2 hG6) (hbel _ (Nat.le_refl _))⟩⟩
      case measure => simp [intOf]; omega
    · have hkn : k = n := by omega
      subst hkn
      obtain ⟨A', c', rfl, hc', hO'⟩ := HO.out.1.form
      have hle := joinN_len (M := 32) (fun x hx => (HO.out.2 x hx).2) ps.length (Nat.le_refl _)
      have hge := joinN_pos (fun x hx => (HO.out.2 x hx).1) ps.length (by rw [HL.out]; exact hn1) (Nat.le_refl _)
      rw [List.take_length] at hle hge
      have HT1 := Lib.hid (l3Text_any A' c' ps wr (Lib.hid hO'.rd) (Lib.hid (fun x hx => Nat.le_trans (HO.out.2 x hx).2 (by omega))) (by omega))
      clear hO'
      go_wp2_with (go_at_call 49; refine HT1.out.mono ?_; rintro e w5 ⟨rfl, rfl⟩)
      go_ret
      exact ⟨joinN ps, p', rfl, hge, by omega, by omega, HR.out.1, HR.out.2⟩

end Go.Proofs.YtfkdameegljkeaaDoor

/- Walks: a drawn text that is sometimes no network. -/
namespace Go.Proofs.YtfkdameegljkeaaDoor
open Go.RowKit
set_option linter.unusedVariables false

/-- a text has been drawn -/
def StrP (w : World) (B g p hi q : Nat) (e : Ending) (w' : World) : Prop :=
  ∃ (t : ByteArray) (p2 : Nat), e = .returned (.string t) ∧ t.size ≤ hi ∧ p2 ≤ p + q ∧ Rdr w' B g p2 ∧ w.grownBy w' (some g)
set_option maxHeartbeats 1000000 in
set_option maxRecDepth 100000 in
theorem l3Bad_any (B g p : Nat) (t : ByteArray) (w : World) (h : Rdr w B g p) (hp : p ≤ 900000) (ht1 : 1 ≤ t.size) (ht2 : t.size ≤ 1000) :
    Calls Tryd.prog 84 #[.pointer (some ⟨g, 0, none⟩), .string t] w fun e w' => StrP w B g p 1010 10 e w' := by
  have hgl := h.lt.2
  go_enter Tryd.func84, Tryd.ntmps84
  go_wp2_with fail
  refine (pick_any B g p _ _ h (by omega) (by omega) (by omega)).mono ?_
  rintro e w1 ⟨k, rfl, hk, hR1, hG1⟩
  have hgl1 := hR1.lt.2
  have hkk : k = 0 ∨ k = 1 ∨ 2 ≤ k := by omega
  rcases hkk with rfl | rfl | hk2
  · go_wp2_with fail
    refine (of_any B g (p + 1) 4 _ [⟨#[44]⟩, ⟨#[48]⟩, ⟨#[44, 48, 49]⟩, ⟨#[120]⟩] _ (hR1.keep ((Below.refl _ _).alloc (Nat.le_refl _) _)) (by omega) (Own.lit w1 _ _ (by omega)) (by simp) (by simp)).mono ?_
    rintro e w2 ⟨v, hv, rfl, hR2, hG2⟩
    have hv3 : v.size ≤ 3 := by simp at hv; rcases hv with rfl | rfl | rfl | rfl <;> decide
    have HG := Lib.hid (grn_trans hG1 (grn_trans (grn_below ((Below.refl _ _).alloc (Nat.le_refl _) _)) hG2))
    have HR := Lib.hid hR2
    clear hv hG1 hG2 hR1 hR2
    go_wp2
    go_ret
    exact ⟨_, p + 1 + 1, rfl, by simp; omega, by omega, HR.out, HG.out⟩
  · go_wp2_with fail
    refine (pick_any B g (p + 1) _ _ hR1 (by omega) (by omega) (by omega)).mono ?_
    rintro e w2 ⟨k, rfl, hk, hR2, hG2⟩
    have hgl2 := hR2.lt.2
    have hkt : k < t.size := by omega
    have HG := Lib.hid (grn_trans hG1 hG2)
    have HR := Lib.hid hR2
    clear hG1 hG2 hR1 hR2
    obtain ⟨W, hW⟩ : ∃ W, W = (w2.alloc (.cells #[.string { data := #[] }, .string { data := #[44] }, .string { data := #[50] }] 9)).drew := ⟨_, rfl⟩
    have hBW : Below w2.heap.size w2 W := by rw [hW]; exact ((Below.refl _ _).alloc (Nat.le_refl _) _).trans (drewN_below _ 1)
    have HWR : Rdr W B g (p + 1 + 1) := HR.out.keep hBW
    have HOW : Own W (g + 1) (some ⟨w2.heap.size, 0, none⟩) (([⟨#[]⟩, ⟨#[44]⟩, ⟨#[50]⟩] : List ByteArray).map Value.string) := by
      rw [hW]
      exact (Own.lit w2 9 _ (by omega)).below (drewN_below _ 1)
    have HC := of_any B g (p + 1 + 1) 3 _ [⟨#[]⟩, ⟨#[44]⟩, ⟨#[50]⟩] W HWR (by omega) HOW (by simp) (by simp)
    have HGW : Hid (w.grownBy W (some g)) := Lib.hid (grn_trans HG.out (grn_below hBW))
    rw [hW] at HC HGW
    have HC2 := Lib.hid HC
    clear HC HWR HOW hBW hW
    have h30 : (0 : Int) ≤ (k : Int) + 1 := by omega
    have h32 : (k : Int) + 1 ≤ (t.size : Int) := by omega
    have h33 : k + 1 ≤ t.size := by omega
    have h34 : IntKind.i64.wrap ((k : Int) + 1) = (k : Int) + 1 := IntWalk.i64_in _ (by omega)
    have h31 : ((k : Int) + 1).toNat = k + 1 := by omega
    go_wp2_with fail
    go_region_with (first
      | (go_at_call 75; refine HC2.out.mono ?_; rintro e w3 ⟨v, hv, rfl, hR3, hG3⟩; have hv3 : v.size ≤ 3 := (by simp at hv; rcases hv with rfl | rfl | rfl <;> decide)))
    all_goals
      clear h34 h31
      go_wp2
      go_ret
      exact ⟨_, p + 1 + 1 + 1, rfl, by simp; omega, by omega, hR3, grn_trans HGW.out hG3⟩
  · go_wp2
    go_ret
    exact ⟨t, p + 1, rfl, by omega, by omega, hR1, hG1⟩

/-- a text of at most 1010 bytes -/
def DrwP (B : Nat) (w : World) (e : Ending) (w' : World) : Prop := (∃ t : ByteArray, e = .returned (.string t) ∧ t.size ≤ 1010) ∧ Below B w w'
end Go.Proofs.YtfkdameegljkeaaDoor

/- The walk of the law FnFixedPoints. -/
namespace Go.Proofs.YtfkdameegljkeaaDoor
open Go.RowKit
set_option linter.unusedVariables false

theorem sel_pre {p : Nat → Bool} {k : Nat} : ∀ N, k ≤ N → ∃ r, sel N p = sel k p ++ r := by
  intro N
  induction N with
  | zero => intro h; exact ⟨[], by rw [show k = 0 by omega]; simp⟩
  | succ N ih =>
    intro h
    by_cases hk : k = N + 1
    · exact ⟨[], by rw [hk]; simp⟩
    · obtain ⟨r, hr⟩ := ih (by omega)
      by_cases hp : p N = true
      · exact ⟨r ++ [N], by rw [sel_yes hp, hr, List.append_assoc]⟩
      · exact ⟨r, by rw [sel_no (by simpa using hp), hr]⟩
theorem sel_at {p : Nat → Bool} {k N : Nat} (hk : k < N) (hp : p k = true) : (ints (sel N p))[(sel k p).length]? = some (k : Int) ∧ (sel k p).length < (ints (sel N p)).length := by
  obtain ⟨r, hr⟩ := sel_pre (p := p) (k := k + 1) N hk
  rw [sel_yes hp] at hr
  constructor
  · rw [hr, ints, List.getElem?_map, List.append_assoc, List.getElem?_append_right (Nat.le_refl _)]
    simp
  · rw [ints_length, hr]; simp
theorem rsA_k {ps : List (List UInt8)} {k : Nat} (h : okSt ps (k : Int) = true) : rsA ps (k : Int) = ((stp ps k ^^^ k : Nat) : Int) := by rw [rsA, if_pos h]; rfl
theorem stA_k {ps : List (List UInt8)} {k : Nat} (h : okSt ps (k : Int) = true) : stA ps (k : Int) = (stp ps k : Int) := by rw [stA, if_pos h]; rfl

theorem xor_ne : ∀ a, a < 32 → ∀ b, b < 32 → a ^^^ b = 0 → a = b := by decide +kernel
end Go.Proofs.YtfkdameegljkeaaDoor

/- Plain facts for the laws: orbits, cycles, next states of a network. -/
namespace Go.Proofs.YtfkdameegljkeaaDoor
open Go.RowKit
set_option linter.unusedVariables false

/-- what is known of a network with a state -/
theorem st_open {ps : List (List UInt8)} {t : Int} (h : okSt ps t = true) : Hid (okN ps = true) ∧ ∃ N s : Nat, t = (s : Int) ∧ Hid (N = 2 ^ ps.length) ∧ N ≤ 32 ∧ 0 < N ∧ s < N ∧ Hid (∀ x, x < N → okSt ps (x : Int) = true) ∧ ∀ x, x < N → stp ps x < N := by
  obtain ⟨hok, s, rfl, hs⟩ := okSt_true h
  obtain ⟨N, HN⟩ : ∃ N : Nat, N = 2 ^ ps.length := ⟨_, rfl⟩
  refine ⟨hok, N, s, rfl, HN, by rw [HN]; exact two_le _ (okN_le hok), by rw [HN]; exact Nat.two_pow_pos _, by rw [HN]; exact hs, Lib.hid fun x hx => ?_, fun x _ => by rw [HN]; exact stp_lt hok x⟩
  rw [okSt_of hok HN]; simp; omega
theorem itl_int {f : Nat → Nat} {s k i : Nat} (h : i < k) : (ints (itl f s k))[i]? = some ((itf f i s : Nat) : Int) := by
  rw [ints, List.getElem?_map, List.getElem?_eq_getElem (by rw [itl_len]; exact h), itl_get _ _ _ _ h]; rfl
theorem lonTo_ge {ps : List (List UInt8)} {k : Nat} : ∀ N, k < N → (orb (stp ps) k).2 ≤ lonTo ps N
  | 0, h => by omega
  | N + 1, h => by
    rw [lonTo]
    by_cases e : k = N
    · subst e; omega
    · have := lonTo_ge (ps := ps) (k := k) N (by omega); omega
theorem aft_itf {ps : List (List UInt8)} {N x k : Nat} (hN : N ≤ 32) (hf : ∀ x, x < N → stp ps x < N) (hx : x < N) (h : okSt ps (x : Int) = true) : aftN ps (x : Int) (k : Int) = ((itf (stp ps) k x : Nat) : Int) := by
  obtain ⟨L, T, hF⟩ := orb_form hN hf hx
  rw [aftN_yes h, hF.eq]
  have := hF.at_ k
  unfold aftI
  rw [itl_len]
  show (((itl (stp ps) x L).getD (if k < L then k else T + (k - T) % (L - T)) 0 : Nat) : Int) = _
  rw [this]
/-! steps of one switch -/
theorem hold_casesB : ∀ s, s < 32 → ∀ i, i < 5 → ∀ v, v < 2 → (if v == bit s i then holdN s i v == s else (holdN s i v == s ^^^ 2 ^ i) && !(holdN s i v == s)) = true := by decide +kernel
theorem hold_cases (s : Nat) (hs : s < 32) (i : Nat) (hi : i < 5) (v : Nat) (hv : v < 2) : (v = bit s i → holdN s i v = s) ∧ (v ≠ bit s i → holdN s i v = s ^^^ 2 ^ i ∧ holdN s i v ≠ s) := by
  have h := hold_casesB s hs i hi v hv
  by_cases e : v = bit s i
  · rw [if_pos (by simpa using e)] at h
    exact ⟨fun _ => by simpa using h, fun hne => absurd e hne⟩
  · rw [if_neg (by simpa using e)] at h
    exact ⟨fun he => absurd he e, fun _ => by simpa using h⟩
theorem xor_bit : ∀ a, a < 32 → ∀ b, b < 32 → ∀ i, i < 5 → bit (a ^^^ b) i = if bit a i = bit b i then 0 else 1 := by decide +kernel
theorem stp_bit {ps : List (List UInt8)} (h : okN ps = true) {s i : Nat} (hi : i < ps.length) : bit (stp ps s) i = nb ps s i := bit_asm (nb_lt h s) i _ hi
/-- the restless switches are those whose own steps change the state -/
theorem rst_bit {ps : List (List UInt8)} (h : okN ps = true) {s i : Nat} (hs : s < 2 ^ ps.length) (hi : i < ps.length) :
    (stp1 ps s i = s → bit (stp ps s ^^^ s) i = 0) ∧ (stp1 ps s i ≠ s → bit (stp ps s ^^^ s) i = 1 ∧ stp1 ps s i = s ^^^ 2 ^ i) := by
  have h32 := two_le _ (okN_le h)
  have hn5 := okN_le h
  have h1 := xor_bit (stp ps s) (Nat.lt_of_lt_of_le (stp_lt h s) h32) s (Nat.lt_of_lt_of_le hs h32) i (by omega)
  have h2 := hold_cases s (Nat.lt_of_lt_of_le hs h32) i (by omega) (nb ps s i) (nb_lt h s i)
  rw [stp_bit h hi] at h1
  rw [stp1]
  by_cases e : nb ps s i = bit s i
  · rw [if_pos e] at h1
    exact ⟨fun _ => h1, fun hne => absurd (h2.1 e) hne⟩
  · rw [if_neg e] at h1
    exact ⟨fun he => absurd he (h2.2 e).2, fun _ => ⟨h1, (h2.2 e).1⟩⟩
theorem nextTo_pre {ps : List (List UInt8)} {s k : Nat} : ∀ n, k ≤ n → ∃ r, nextTo ps s n = nextTo ps s k ++ r := by
  intro n
  induction n with
  | zero => intro h; exact ⟨[], by rw [show k = 0 by omega]; simp⟩
  | succ n ih =>
    intro h
    by_cases hk : k = n + 1
    · exact ⟨[], by rw [hk]; simp⟩
    · obtain ⟨r, hr⟩ := ih (by omega)
      rw [nextTo]
      split
      · exact ⟨r, hr⟩
      · exact ⟨r ++ [stp1 ps s n], by rw [hr, List.append_assoc]⟩
theorem nextTo_at {ps : List (List UInt8)} {s i : Nat} (hi : i < ps.length) (h : stp1 ps s i ≠ s) : (ints (nextN ps s))[(nextTo ps s i).length]? = some ((stp1 ps s i : Nat) : Int) ∧ (nextTo ps s i).length < (ints (nextN ps s)).length := by
  obtain ⟨r, hr⟩ := nextTo_pre (ps := ps) (s := s) (k := i + 1) ps.length hi
  rw [nextTo, if_neg h] at hr
  constructor
  · rw [nextN, hr, ints, List.getElem?_map, List.append_assoc, List.getElem?_append_right (Nat.le_refl _)]
    simp
  · rw [nextN, ints_length, hr]; simp
/-! sets of states as numbers -/
def maskT (xs : List Nat) : Nat → Nat
  | 0 => 0
  | k + 1 => maskT xs k ||| 2 ^ xs.getD k 0
theorem maskT_lt {xs : List Nat} (h : ∀ i, xs.getD i 0 < 32) : ∀ k, maskT xs k < 2 ^ 32
  | 0 => by simp [maskT]
  | k + 1 => Nat.or_lt_two_pow (maskT_lt h k) (Nat.pow_lt_pow_right (by omega) (h k))
theorem maskT_bit {xs : List Nat} {j : Nat} : ∀ k, j < k → bit (maskT xs k) (xs.getD j 0) = 1
  | 0, h => by omega
  | k + 1, h => by
    rw [maskT, bit_testBit, Nat.testBit_or]
    by_cases e : j = k
    · subst e
      rw [Nat.testBit_two_pow_self, Bool.or_true]; rfl
    · have := maskT_bit (xs := xs) k (show j < k by omega)
      rw [bit_testBit] at this
      cases hb : (maskT xs k).testBit (xs.getD j 0)
      · rw [hb] at this; simp at this
      · rfl
theorem wrap_pow32 : ∀ x, x < 32 → wrap64 ((2 : Int) ^ x) = ((2 ^ x : Nat) : Int) := by decide +kernel
theorem wf_i64 {k : Int} (h : -1 ≤ k ∧ k ≤ 9223372036854775807) : (Lit.int .i64 k).wf = true := by
  simp [Lit.wf, IntKind.max, IntKind.min, IntKind.bits, IntKind.signed]; omega
theorem ints_getD (c : List Nat) (i : Nat) (h : i < c.length) : (ints c)[i]? = some ((c.getD i 0 : Nat) : Int) := by
  rw [ints, List.getElem?_map, List.getD_eq_getElem?_getD, List.getElem?_eq_getElem h]; rfl

end Go.Proofs.YtfkdameegljkeaaDoor

/- Plain facts: texts of networks cut and joined, networks of a given step, networks turned. -/
namespace Go.Proofs.YtfkdameegljkeaaDoor
open Go.RowKit
set_option linter.unusedVariables false

theorem joinN_cons {p q : List UInt8} {r : List (List UInt8)} : joinN (p :: q :: r) = p ++ 44 :: joinN (q :: r) := by
  rw [joinN, joinN, Lib.join_cons, Lib.join_cons]
  simp [Lib.joinTail]
theorem joinN_single (p : List UInt8) : joinN [p] = p := Lib.join_one p [44]
/-- a text cut and joined again -/
theorem joinN_cut : ∀ (n : Nat) (s : List UInt8), s.length ≤ n → joinN (cutL s) = s
  | 0, s, h => by
    have : s = [] := List.length_eq_zero_iff.1 (by omega)
    subst this
    rw [cutL, joinN_single]
  | n + 1, s, h => by
    rcases cut_cases s with h1 | ⟨p, l, rfl, h1⟩
    · rw [cutL_end h1, joinN_single]
    · have ih := joinN_cut n l (by simp at h; omega)
      rw [cutL_comma l h1]
      cases hc : cutL l with
      | nil => exact absurd hc (cutL_ne l)
      | cons q r => rw [joinN_cons, ← hc, ih]
/-- parts joined and cut again -/
theorem cutL_join : ∀ (qs : List (List UInt8)), qs ≠ [] → (∀ p ∈ qs, ∀ c ∈ p, c ≠ 44) → cutL (joinN qs) = qs
  | [], h, _ => absurd rfl h
  | [p], _, h => by rw [joinN_single, cutL_end (h p (by simp))]
  | p :: q :: r, _, h => by rw [joinN_cons, cutL_comma _ (h p (by simp)), cutL_join (q :: r) (by simp) (fun x hx => h x (List.mem_cons_of_mem _ hx))]
theorem chr_ne : ∀ d, d < 2 → chr d ≠ 44 := by decide
theorem frS_ne44 {n : Nat} {f : Nat → Nat} : ∀ p ∈ frS n f, ∀ c ∈ p, c ≠ 44 := by
  intro p hp c hc
  simp only [frS, List.mem_map] at hp
  obtain ⟨k, _, rfl⟩ := hp
  simp only [txt, List.mem_map] at hc
  obtain ⟨s, _, rfl⟩ := hc
  exact chr_ne _ (bit_lt _ _)
theorem frS_cut {n : Nat} {f : Nat → Nat} (h1 : 1 ≤ n) : cutL (joinN (frS n f)) = frS n f :=
  cutL_join _ (fun e => by have := congrArg List.length e; rw [frS_length, List.length_nil] at this; omega) frS_ne44
theorem asm_congr {b c : Nat → Nat} : ∀ k, (∀ i, i < k → b i = c i) → asm b k = asm c k
  | 0, _ => rfl
  | k + 1, h => by rw [asm, asm, asm_congr k (fun i hi => h i (by omega)), h k (by omega)]
theorem asm_bits {x n : Nat} (h : x < 2 ^ n) : asm (bit x) n = x :=
  bit_ext (asm_lt (fun i => bit_lt x i) n) h fun i hi => bit_asm (fun i => bit_lt x i) i n hi
/-- the step of a network that was made of a step -/
theorem stp_frS {n : Nat} {f : Nat → Nat} {s : Nat} (hs : s < 2 ^ n) (hf : f s < 2 ^ n) : stp (frS n f) s = f s := by
  rw [stp, frS_length]
  refine (asm_congr n fun i hi => ?_).trans (asm_bits hf)
  have hi2 : i < (frS n f).length := by rw [frS_length]; exact hi
  rw [nb_at s hi2, frS_get n f hi]
  exact val_txt hs (bit_lt _ _)
theorem frS_congr {n : Nat} {f g : Nat → Nat} (h : ∀ s, s < 2 ^ n → f s = g s) : frS n f = frS n g := by
  unfold frS
  refine List.map_congr_left fun k _ => txt_congr fun s hs => by rw [h s hs]
/-- a network is made of its own step -/
theorem frS_stp {ps : List (List UInt8)} (h : okN ps = true) : frS ps.length (stp ps) = ps := by
  refine List.ext_getElem (frS_length _ _) fun i h1 h2 => ?_
  rw [frS_get _ _ h2]
  refine Eq.trans (txt_congr fun s hs => ?_) (txt_tv h rfl h2)
  rw [stp_bit h h2, nb_at s h2, tv, if_pos hs]
theorem xor_self_ (a b : Nat) : a ^^^ b ^^^ b = a := by rw [Nat.xor_assoc, Nat.xor_self, Nat.xor_zero]
/-- turned twice it is the network -/
theorem trn_twice {ps : List (List UInt8)} (h : okN ps = true) {m : Nat} (hm : m < 2 ^ ps.length) : frS ps.length (trnF (frS ps.length (trnF ps m)) m) = ps := by
  refine Eq.trans (frS_congr fun s hs => ?_) (frS_stp h)
  have hx : s ^^^ m < 2 ^ ps.length := Nat.xor_lt_two_pow hs hm
  rw [trnF, stp_frS hx (trnF_lt h hm _), trnF, xor_self_, xor_self_]
theorem sel_xor_le {p : Nat → Bool} {n m : Nat} (hm : m < 2 ^ n) : (sel (2 ^ n) fun s => p (s ^^^ m)).length ≤ (sel (2 ^ n) p).length := by
  have h1 : ((sel (2 ^ n) fun s => p (s ^^^ m)).map (· ^^^ m)).Nodup := by
    refine List.Pairwise.map _ (fun a b hab e => hab ?_) (sel_nodup _ _)
    have := congrArg (· ^^^ m) e
    simp only [xor_self_] at this
    exact this
  have := sel_ge (p := p) (N := 2 ^ n) h1 (fun x hx => by
    simp only [List.mem_map] at hx
    obtain ⟨y, hy, rfl⟩ := hx
    obtain ⟨h2, h3⟩ := sel_mem.1 hy
    exact ⟨Nat.xor_lt_two_pow h2 hm, h3⟩)
  rwa [List.length_map] at this
theorem sel_xor {p : Nat → Bool} {n m : Nat} (hm : m < 2 ^ n) : (sel (2 ^ n) fun s => p (s ^^^ m)).length = (sel (2 ^ n) p).length := by
  have h1 := sel_xor_le (p := p) hm
  have h2 := sel_xor_le (p := fun s => p (s ^^^ m)) hm
  have e : (fun s => (fun s => p (s ^^^ m)) (s ^^^ m)) = p := by funext s; simp only [xor_self_]
  rw [e] at h2
  omega
theorem sel_congr {N : Nat} {p q : Nat → Bool} (h : ∀ s, s < N → p s = q s) : sel N p = sel N q := by
  unfold sel
  exact List.filter_congr fun s hs => h s (List.mem_range.1 hs)
/-- a turned network has as many fixed points -/
theorem fix_trn {ps : List (List UInt8)} (h : okN ps = true) (h1 : 1 ≤ ps.length) {m : Nat} (hm : m < 2 ^ ps.length) : (fixN (frS ps.length (trnF ps m))).length = (fixN ps).length := by
  have hn5 := okN_le h
  have hf : okN (frS ps.length (trnF ps m)) = true := frS_ok h1 hn5
  rw [fixN_yes hf rfl, fixN_yes h rfl, frS_length, ← sel_xor (p := fixB ps) hm]
  congr 1
  refine sel_congr fun s hs => ?_
  rw [fixB, fixB, stp_frS hs (trnF_lt h hm s), trnF, Bool.eq_iff_iff, beq_iff_eq, beq_iff_eq]
  constructor
  · intro e
    have := congrArg (· ^^^ m) e
    simp only [xor_self_] at this
    exact this
  · intro e
    rw [e, xor_self_]

end Go.Proofs.YtfkdameegljkeaaDoor

/- Plain facts on formulas: what a text is read as, and its values. -/
namespace Go.Proofs.YtfkdameegljkeaaDoor
open Go.RowKit
set_option linter.unusedVariables false

/-- a formula -/
inductive Nd where
  | con (v : Nat)
  | inp (i : Nat)
  | neg (a : Nd)
  | par (c : UInt8) (a b : Nd)
/-- the value of a sign -/
def sgn (c : UInt8) (a b : Nat) : Nat := if c = 38 then a &&& b else if c = 124 then a ||| b else a ^^^ b
theorem sgn_lt {c : UInt8} : ∀ {a b : Nat}, a < 2 → b < 2 → sgn c a b < 2 := by
  intro a b ha hb
  have h1 : a = 0 ∨ a = 1 := by omega
  have h2 : b = 0 ∨ b = 1 := by omega
  rcases h1 with rfl | rfl <;> rcases h2 with rfl | rfl <;> unfold sgn <;> split <;> (try split) <;> decide
/-- the value of a formula for a state -/
def evl (s : Nat) : Nd → Nat
  | .con v => v % 2
  | .inp i => bit s i
  | .neg a => 1 - evl s a
  | .par c a b => sgn c (evl s a) (evl s b)
theorem evl_lt (s : Nat) : ∀ x : Nd, evl s x < 2
  | .con v => Nat.mod_lt _ (by omega)
  | .inp i => bit_lt s i
  | .neg a => by rw [evl]; omega
  | .par c a b => sgn_lt (evl_lt s a) (evl_lt s b)
/-- a sign of two formulas -/
def sg2 (c : UInt8) : Bool := c == 38 || c == 124 || c == 94
/-- a letter of one of the first n inputs -/
def ltr (n : Nat) (c : UInt8) : Bool := decide (97 ≤ c.toNat) && decide (c.toNat - 97 < n)
/-- a formula read from the front of a text, and what is left of it; at most k calls -/
def prs (n : Nat) : Nat → List UInt8 → Option (Nd × List UInt8)
  | 0, _ => none
  | _ + 1, [] => none
  | k + 1, c :: r =>
    if c = 48 ∨ c = 49 then some (.con (c.toNat - 48), r)
    else if ltr n c then some (.inp (c.toNat - 97), r)
    else if c = 33 then (prs n k r).map fun p => (.neg p.1, p.2)
    else if sg2 c then (prs n k r).bind fun p => (prs n k p.2).map fun q => (.par c p.1 q.1, q.2)
    else none
theorem prs_suf {n : Nat} : ∀ (k : Nat) {e l : List UInt8} {x : Nd}, prs n k e = some (x, l) → ∃ p, p ≠ [] ∧ e = p ++ l
  | 0, e, l, x, h => by rw [prs] at h; cases h
  | k + 1, [], l, x, h => by rw [prs] at h; cases h
  | k + 1, c :: r, l, x, h => by
    rw [prs] at h
    split at h
    · injection h with h; injection h with h1 h2; subst h2; exact ⟨[c], by simp, rfl⟩
    · split at h
      · injection h with h; injection h with h1 h2; subst h2; exact ⟨[c], by simp, rfl⟩
      · split at h
        · obtain ⟨⟨a, m⟩, h1, h2⟩ := Option.map_eq_some_iff.1 h
          injection h2 with h3 h4
          obtain ⟨p, _, hp⟩ := prs_suf k h1
          exact ⟨c :: p, by simp, by rw [hp, ← h4]; rfl⟩
        · split at h
          · obtain ⟨⟨a, m⟩, h1, h2⟩ := Option.bind_eq_some_iff.1 h
            obtain ⟨⟨b, m2⟩, h3, h4⟩ := Option.map_eq_some_iff.1 h2
            injection h4 with h5 h6
            obtain ⟨p, _, hp⟩ := prs_suf k h1
            obtain ⟨q, _, hq⟩ := prs_suf k h3
            exact ⟨c :: (p ++ q), by simp, by rw [hp, show m = q ++ m2 from hq, ← h6]; simp⟩
          · cases h
theorem prs_len {n k : Nat} {e l : List UInt8} {x : Nd} (h : prs n k e = some (x, l)) : l.length < e.length := by
  obtain ⟨p, hp, he⟩ := prs_suf k h
  have := List.length_pos_iff.2 hp
  rw [he, List.length_append]; omega
theorem prs_drop {n k i : Nat} {e l : List UInt8} {x : Nd} (h : prs n k (e.drop i) = some (x, l)) : l = e.drop (e.length - l.length) ∧ i < e.length - l.length ∧ l.length ≤ e.length := by
  obtain ⟨p, hp, he⟩ := prs_suf k h
  have h1 := List.length_pos_iff.2 hp
  have h2 : e.length - i = p.length + l.length := by rw [← List.length_drop, he, List.length_append]
  have h3 : i < e.length := by omega
  refine ⟨?_, by omega, by omega⟩
  have h4 : (e.drop i).drop p.length = l := by rw [he, List.drop_left]
  rw [List.drop_drop] at h4
  rw [show e.length - l.length = i + p.length by omega]
  exact h4.symm
/-- where a formula ends that begins at the place i, or -1 -/
def endI (n k : Nat) (e : List UInt8) (i : Nat) : Int := match prs n k (e.drop i) with | some (_, l) => ((e.length - l.length : Nat) : Int) | none => -1
/-- a whole formula of n inputs -/
def okF (e : List UInt8) (n : Int) : Option Nd :=
  if 1 ≤ n ∧ n ≤ 5 ∧ e.length ≤ 100 then (match prs n.toNat e.length e with | some (x, []) => some x | _ => none) else none
/-- the table of a formula -/
def tblF (e : List UInt8) (n : Int) : List UInt8 := match okF e n with | some x => txt (2 ^ n.toNat) fun s => evl s x | none => []
theorem okF_some {e : List UInt8} {n : Int} {x : Nd} (h : okF e n = some x) : (1 ≤ n ∧ n ≤ 5 ∧ e.length ≤ 100) ∧ prs n.toNat e.length e = some (x, []) := by
  unfold okF at h
  split at h
  · rename_i h1
    refine ⟨h1, ?_⟩
    split at h
    · rename_i y he; injection h with h; rw [he, h]
    · cases h
  · cases h
theorem okF_yes {e : List UInt8} {n : Nat} {x : Nd} (h1 : 1 ≤ n) (h5 : n ≤ 5) (hl : e.length ≤ 100) (h : prs n e.length e = some (x, [])) : okF e (n : Int) = some x := by
  rw [okF, if_pos ⟨by omega, by omega, hl⟩, Int.toNat_natCast, h]
theorem okF_no {e : List UInt8} {n : Nat} (h : ∀ x, prs n e.length e ≠ some (x, [])) : okF e (n : Int) = none := by
  unfold okF
  split
  · rw [Int.toNat_natCast]
    split
    · rename_i x he; exact absurd he (h x)
    · rfl
  · rfl
theorem okF_out {e : List UInt8} {n : Int} (h : ¬ (1 ≤ n ∧ n ≤ 5 ∧ e.length ≤ 100)) : okF e n = none := by rw [okF, if_neg h]
theorem tblF_yes {e : List UInt8} {n : Nat} {x : Nd} (h : okF e (n : Int) = some x) : tblF e (n : Int) = txt (2 ^ n) fun s => evl s x := by rw [tblF, h]; rfl
theorem tblF_no {e : List UInt8} {n : Int} (h : okF e n = none) : tblF e n = [] := by rw [tblF, h]
/-- the formulas of a network -/
def okFs (es : List (List UInt8)) : Bool := decide (0 < es.length) && es.all fun e => (okF e (es.length : Int)).isSome
/-- its rules -/
def rulF (es : List (List UInt8)) : List (List UInt8) := es.map fun e => tblF e (es.length : Int)
def netF (es : List (List UInt8)) : List UInt8 := if okFs es then joinN (rulF es) else []
theorem rulF_length (es : List (List UInt8)) : (rulF es).length = es.length := by simp [rulF]
theorem okFs_true {es : List (List UInt8)} (h : okFs es = true) : 0 < es.length ∧ es.length ≤ 5 ∧ ∀ e ∈ es, ∃ x, okF e (es.length : Int) = some x := by
  rw [okFs, Bool.and_eq_true, decide_eq_true_iff, List.all_eq_true] at h
  have hx : ∀ e ∈ es, ∃ x, okF e (es.length : Int) = some x := fun e he => Option.isSome_iff_exists.1 (h.2 e he)
  obtain ⟨x, hx0⟩ := hx es[0] (List.getElem_mem h.1)
  have := (okF_some hx0).1.2.1
  exact ⟨h.1, by omega, hx⟩
theorem rulF_part {es : List (List UInt8)} (h : okFs es = true) : ∀ p ∈ rulF es, ∃ x, p = txt (2 ^ es.length) fun s => evl s x := fun p hp => by
  obtain ⟨e, he, rfl⟩ := List.mem_map.1 hp
  obtain ⟨x, hx⟩ := (okFs_true h).2.2 e he
  exact ⟨x, tblF_yes hx⟩
theorem rulF_ok {es : List (List UInt8)} (h : okFs es = true) : okN (rulF es) = true := by
  obtain ⟨h0, h5, _⟩ := okFs_true h
  rw [okN, List.all_eq_true]
  intro p hp
  obtain ⟨x, rfl⟩ := rulF_part h p hp
  rw [rulF_length, Bool.and_eq_true, beq_iff_eq]
  exact okT_txt h0 h5 fun s => evl_lt s x
theorem rulF_cut {es : List (List UInt8)} (h : okFs es = true) : cutL (joinN (rulF es)) = rulF es := by
  refine cutL_join _ (fun e => ?_) fun p hp c hc => ?_
  · have := rulF_length es
    rw [e] at this
    have h0 := (okFs_true h).1
    simp at this; omega
  · obtain ⟨x, rfl⟩ := rulF_part h p hp
    rw [txt] at hc
    obtain ⟨s, _, rfl⟩ := List.mem_map.1 hc
    exact chr_ne _ (evl_lt s x)
theorem prs_nil (n k : Nat) : prs n k [] = none := by cases k <;> rfl
theorem prs_con {n k : Nat} {c : UInt8} {r : List UInt8} (h : c = 48 ∨ c = 49) : prs n (k + 1) (c :: r) = some (.con (c.toNat - 48), r) := by rw [prs, if_pos h]
theorem prs_inp {n k : Nat} {c : UInt8} {r : List UInt8} (h1 : ¬ (c = 48 ∨ c = 49)) (h2 : ltr n c = true) : prs n (k + 1) (c :: r) = some (.inp (c.toNat - 97), r) := by rw [prs, if_neg h1, if_pos h2]
theorem prs_neg {n k : Nat} {r : List UInt8} (hn : n ≤ 5) : prs n (k + 1) (33 :: r) = (prs n k r).map fun p => (.neg p.1, p.2) := by
  rw [prs, if_neg (by decide), if_neg (by rw [ltr]; simp), if_pos rfl]
theorem prs_par {n k : Nat} {c : UInt8} {r : List UInt8} (h1 : ¬ (c = 48 ∨ c = 49)) (h2 : ltr n c = false) (h3 : ¬ c = 33) (h4 : sg2 c = true) :
    prs n (k + 1) (c :: r) = (prs n k r).bind fun p => (prs n k p.2).map fun q => (.par c p.1 q.1, q.2) := by
  rw [prs, if_neg h1, if_neg (by rw [h2]; simp), if_neg h3, if_pos h4]
theorem prs_bad {n k : Nat} {c : UInt8} {r : List UInt8} (h1 : ¬ (c = 48 ∨ c = 49)) (h2 : ltr n c = false) (h3 : ¬ c = 33) (h4 : sg2 c = false) : prs n (k + 1) (c :: r) = none := by
  rw [prs, if_neg h1, if_neg (by rw [h2]; simp), if_neg h3, if_neg (by rw [h4]; simp)]
end Go.Proofs.YtfkdameegljkeaaDoor

/- Walks: where a formula ends, and its value (the reference's side). -/
namespace Go.Proofs.YtfkdameegljkeaaDoor
open Go.RowKit
set_option linter.unusedVariables false

/-- where a formula ends that begins at a place, or -1; no place before the text -/
def endZ (n k : Nat) (l : List UInt8) (i : Int) : Int := if i < 0 then -1 else endI n k l i.toNat
theorem endZ_low {n k : Nat} {l : List UInt8} {i : Int} (h : i < 0) : endZ n k l i = -1 := by rw [endZ, if_pos h]
theorem endZ_nat (n k : Nat) (l : List UInt8) (j : Nat) : endZ n k l (j : Int) = endI n k l j := by rw [endZ, if_neg (by omega), Int.toNat_natCast]
theorem endI_out {n k : Nat} {l : List UInt8} {j : Nat} (h : l.length ≤ j) : endI n k l j = -1 := by rw [endI, List.drop_eq_nil_of_le h, prs_nil]
theorem endI_one {n k : Nat} {l : List UInt8} {j : Nat} (h : j < l.length) (hc : (l[j] = 48 ∨ l[j] = 49) ∨ ltr n l[j] = true) : endI n (k + 1) l j = ((j + 1 : Nat) : Int) := by
  rw [endI, List.drop_eq_getElem_cons h]
  have e : l.length - (l.drop (j + 1)).length = j + 1 := by rw [List.length_drop]; omega
  by_cases h1 : l[j] = 48 ∨ l[j] = 49
  · rw [prs_con h1]; show ((l.length - (l.drop (j + 1)).length : Nat) : Int) = _; rw [e]
  · rw [prs_inp h1 (hc.resolve_left h1)]; show ((l.length - (l.drop (j + 1)).length : Nat) : Int) = _; rw [e]
theorem endI_neg {n k : Nat} {l : List UInt8} {j : Nat} (hn : n ≤ 5) (h : j < l.length) (hc : l[j] = 33) : endI n (k + 1) l j = endI n k l (j + 1) := by
  rw [endI, endI, List.drop_eq_getElem_cons h, hc, prs_neg hn]
  cases prs n k (l.drop (j + 1)) <;> rfl
theorem endI_par {n k : Nat} {l : List UInt8} {j : Nat} (h : j < l.length) (h1 : ¬ (l[j] = 48 ∨ l[j] = 49)) (h2 : ltr n l[j] = false) (h3 : ¬ l[j] = 33) (h4 : sg2 l[j] = true) :
    endI n (k + 1) l j = endZ n k l (endI n k l (j + 1)) := by
  rw [endI, List.drop_eq_getElem_cons h, prs_par h1 h2 h3 h4]
  cases hp : prs n k (l.drop (j + 1)) with
  | none =>
    have e : endI n k l (j + 1) = -1 := by rw [endI, hp]
    rw [e, endZ_low (by omega)]; rfl
  | some p =>
    obtain ⟨x, m⟩ := p
    have e : endI n k l (j + 1) = ((l.length - m.length : Nat) : Int) := by rw [endI, hp]
    rw [e, endZ_nat, endI, ← (prs_drop hp).1]
    simp only [Option.bind_some]
    cases prs n k m <;> rfl
theorem endI_bad {n k : Nat} {l : List UInt8} {j : Nat} (h : j < l.length) (h1 : ¬ (l[j] = 48 ∨ l[j] = 49)) (h2 : ltr n l[j] = false) (h3 : ¬ l[j] = 33) (h4 : sg2 l[j] = false) : endI n (k + 1) l j = -1 := by
  rw [endI, List.drop_eq_getElem_cons h, prs_bad h1 h2 h3 h4]
theorem endI_ge (n k : Nat) (l : List UInt8) (j : Nat) : -1 ≤ endI n k l j ∧ endI n k l j ≤ l.length ∧ (endI n k l j < 0 ∨ (j : Int) < endI n k l j) := by
  rw [endI]
  cases hp : prs n k (l.drop j) with
  | none => exact ⟨by show (-1 : Int) ≤ -1; omega, by show (-1 : Int) ≤ _; omega, .inl (by show (-1 : Int) < 0; omega)⟩
  | some p =>
    obtain ⟨x, m⟩ := p
    have h := prs_drop hp
    have h2 : (j : Int) < ((l.length - m.length : Nat) : Int) := by omega
    exact ⟨by show (-1 : Int) ≤ ((l.length - m.length : Nat) : Int); omega, by show ((l.length - m.length : Nat) : Int) ≤ _; omega, .inr h2⟩
theorem byte_eq {c : UInt8} {m : Nat} (h : (c.toNat : Int) = (m : Int)) (hm : m < 256) : c = UInt8.ofNat m := by
  apply UInt8.toNat_inj.1
  rw [UInt8.toNat_ofNat']
  omega
theorem ltr_true {n : Nat} {c : UInt8} (h1 : 97 ≤ (c.toNat : Int)) (h2 : (c.toNat : Int) - 97 < n) : ltr n c = true := by
  rw [ltr, Bool.and_eq_true, decide_eq_true_iff, decide_eq_true_iff]; omega
theorem ltr_false {n : Nat} {c : UInt8} (h : ¬ (97 ≤ (c.toNat : Int) ∧ (c.toNat : Int) - 97 < n)) : ltr n c = false := by
  rw [← Bool.not_eq_true, ltr, Bool.and_eq_true, decide_eq_true_iff, decide_eq_true_iff]; omega
theorem byte_ne {c d : UInt8} (h : ¬ (c.toNat : Int) = (d.toNat : Int)) : ¬ c = d := fun e => h (by rw [e])
theorem sg2_iff {c : UInt8} : sg2 c = true ↔ ((c.toNat : Int) = 38 ∨ (c.toNat : Int) = 124 ∨ (c.toNat : Int) = 94) := by
  rw [sg2, Bool.or_eq_true, Bool.or_eq_true, beq_iff_eq, beq_iff_eq, beq_iff_eq, ← UInt8.toNat_inj, ← UInt8.toNat_inj, ← UInt8.toNat_inj]
  have e1 : (38 : UInt8).toNat = 38 := rfl
  have e2 : (124 : UInt8).toNat = 124 := rfl
  have e3 : (94 : UInt8).toNat = 94 := rfl
  rw [e1, e2, e3]; omega
theorem find_sign (c : UInt8) : (sg2 c = true → 0 ≤ findB [38, 124, 94] (c.toNat : Int)) ∧ (sg2 c = false → findB [38, 124, 94] (c.toNat : Int) < 0) := by
  have e38 : (((38 : UInt8).toNat : Nat) : Int) = 38 := rfl
  have e124 : (((124 : UInt8).toNat : Nat) : Int) = 124 := rfl
  have e94 : (((94 : UInt8).toNat : Nat) : Int) = 94 := rfl
  have h3 : findB [] (c.toNat : Int) = -1 := rfl
  have h2 := find_cons 94 [] (c.toNat : Int)
  have h1 := find_cons 124 [94] (c.toNat : Int)
  have h0 := find_cons 38 [124, 94] (c.toNat : Int)
  rw [h3, e94] at h2
  rw [e124] at h1
  rw [e38] at h0
  have hs := sg2_iff (c := c)
  refine ⟨fun h => ?_, fun h => ?_⟩
  · have := hs.1 h
    split at h0 <;> split at h1 <;> split at h2 <;> (try split at h0) <;> (try split at h1) <;> omega
  · have : ¬ ((c.toNat : Int) = 38 ∨ (c.toNat : Int) = 124 ∨ (c.toNat : Int) = 94) := fun e => by rw [hs.2 e] at h; cases h
    split at h0 <;> split at h1 <;> split at h2 <;> (try split at h0) <;> (try split at h1) <;> omega

theorem l2End_out (e : ByteArray) (n : Nat) (i : Int) (w : World) (h : i < 0 ∨ (e.size : Int) ≤ i) (he : e.size ≤ 100) :
    Calls Tryd.prog 102 #[.string e, .int .i64 i, .int .i64 (n : Int)] w fun en w' => en = .returned (.int .i64 (-1)) ∧ w = w' := by
  by_cases h0 : i < 0
  · go_enter Tryd.func102, Tryd.ntmps102
    go_wp2_with fail
    go_ret
    exact ⟨rfl, rfl⟩
  · have h1 : (e.size : Int) ≤ i := by omega
    go_enter Tryd.func102, Tryd.ntmps102
    go_wp2_with fail
    go_ret
    exact ⟨rfl, rfl⟩
set_option maxHeartbeats 1000000 in
set_option maxRecDepth 100000 in
theorem l2End_any (e : ByteArray) (n : Nat) (hn : n ≤ 5) (he : e.size ≤ 100) (k : Nat) : ∀ (i : Int) (w : World), (i < 0 ∨ e.size - i.toNat ≤ k) →
    Calls Tryd.prog 102 #[.string e, .int .i64 i, .int .i64 (n : Int)] w fun en w' => en = .returned (.int .i64 (endZ n k e.data.toList i)) ∧ w = w' := by
  have hel : e.data.toList.length = e.size := by simp
  induction k with
  | zero =>
    intro i w hk
    refine (l2End_out e n i w (by omega) he).mono ?_
    rintro en w' ⟨rfl, rfl⟩
    refine ⟨?_, rfl⟩
    by_cases h0 : i < 0
    · rw [endZ_low h0]
    · rw [endZ, if_neg h0, endI_out (by omega)]
  | succ k ih =>
    intro i w hk
    by_cases h0 : i < 0 ∨ (e.size : Int) ≤ i
    · refine (l2End_out e n i w h0 he).mono ?_
      rintro en w' ⟨rfl, rfl⟩
      refine ⟨?_, rfl⟩
      by_cases h0 : i < 0
      · rw [endZ_low h0]
      · rw [endZ, if_neg h0, endI_out (by omega)]
    · obtain ⟨j, rfl⟩ : ∃ j : Nat, i = (j : Int) := ⟨i.toNat, by omega⟩
      have hj : j < e.size := by omega
      have hjl : j < e.data.toList.length := by omega
      have hkj : e.size - (j + 1) ≤ k := by omega
      have ec : e.data.toList[j] = e[j] := rfl
      have h256 : (e[j].toNat : Int) < 256 := by have := e[j].toNat_lt; omega
      have HO := @endI_one n k e.data.toList j hjl
      have HN := @endI_neg n k e.data.toList j hn hjl
      have HP := @endI_par n k e.data.toList j hjl
      have HB := @endI_bad n k e.data.toList j hjl
      have HG := endI_ge n k e.data.toList (j + 1)
      have HJ := endZ_nat n k e.data.toList (j + 1)
      rw [endZ_nat]
      rw [ec] at HO HN HP HB
      have IH1 := ih ((j + 1 : Nat) : Int) w (.inr (by omega))
      rw [HJ] at IH1
      have IH2 := ih (endI n k e.data.toList (j + 1)) w (by have := HG.2.2; omega)
      clear ih HJ hel ec hk h0
      by_cases h48 : (e[j].toNat : Int) = 48
      · have HV := Lib.hid (HO (.inl (.inl (byte_eq (m := 48) h48 (by omega)))))
        clear HO HN HP HB IH1 IH2 HG
        go_enter Tryd.func102, Tryd.ntmps102
        go_wp2_with fail
        go_ret
        exact ⟨by rw [HV.out]; rfl, rfl⟩
      · by_cases h49 : (e[j].toNat : Int) = 49
        · have HV := Lib.hid (HO (.inl (.inr (byte_eq (m := 49) h49 (by omega)))))
          clear HO HN HP HB IH1 IH2 HG
          go_enter Tryd.func102, Tryd.ntmps102
          go_wp2_with fail
          go_ret
          exact ⟨by rw [HV.out]; rfl, rfl⟩
        · have hne : ¬ (e[j] = 48 ∨ e[j] = 49) := by
            rintro (h | h)
            · exact h48 (by rw [h]; rfl)
            · exact h49 (by rw [h]; rfl)
          by_cases hl : 97 ≤ (e[j].toNat : Int) ∧ (e[j].toNat : Int) - 97 < n
          · obtain ⟨hl1, hl2⟩ := hl
            have HV := Lib.hid (HO (.inr (ltr_true hl1 hl2)))
            clear HO HN HP HB IH1 IH2 HG hne
            go_enter Tryd.func102, Tryd.ntmps102
            go_wp2_with fail
            go_ret
            exact ⟨by rw [HV.out]; rfl, rfl⟩
          · have hlf := ltr_false hl
            by_cases h33 : (e[j].toNat : Int) = 33
            · have HV := Lib.hid (HN (byte_eq (m := 33) h33 (by omega)))
              have HI := Lib.hid IH1
              clear HO HN HP HB IH1 IH2 HG hne hlf hl
              go_enter Tryd.func102, Tryd.ntmps102
              go_wp2_with (go_at_call 102; refine HI.out.mono ?_; rintro en w1 ⟨rfl, rfl⟩; rw [← HV.out])
              go_ret
              exact ⟨rfl, rfl⟩
            · have h33' : ¬ e[j] = 33 := fun h => h33 (by rw [h]; rfl)
              have hb48 : ((e[j].toNat : Int) == 48) = false := by simpa using h48
              have hb49 : ((e[j].toNat : Int) == 49) = false := by simpa using h49
              have hb33 : ((e[j].toNat : Int) == 33) = false := by simpa using h33
              have hfs := find_sign e[j]
              cases hs : sg2 e[j] with
              | true =>
                have hf := hfs.1 hs
                have HV := Lib.hid (HP hne hlf h33' hs)
                have HI := Lib.hid IH1
                have HI2 := Lib.hid IH2
                clear HO HN HP HB IH1 IH2 HG hne hlf h33' hfs hs
                by_cases hl1 : 97 ≤ (e[j].toNat : Int)
                · have hl2 : ¬ (e[j].toNat : Int) - 97 < n := fun h => hl ⟨hl1, h⟩
                  clear hl
                  go_enter Tryd.func102, Tryd.ntmps102
                  go_wp2_with (first
                    | (go_at_call 96; refine (l14Find_any _ _ _ (by decide) ⟨by omega, h256⟩).mono ?_; rintro en w1 ⟨rfl, rfl⟩)
                    | (have hn := hfst; go_at_call 102; refine HI2.out.mono ?_; rintro en w1 ⟨rfl, rfl⟩; rw [← HV.out])
                    | (go_at_call 102; refine HI.out.mono ?_; rintro en w1 ⟨rfl, rfl⟩; have hfst := True.intro))
                  go_ret
                  exact ⟨rfl, rfl⟩
                · clear hl
                  go_enter Tryd.func102, Tryd.ntmps102
                  go_wp2_with (first
                    | (go_at_call 96; refine (l14Find_any _ _ _ (by decide) ⟨by omega, h256⟩).mono ?_; rintro en w1 ⟨rfl, rfl⟩)
                    | (have hn := hfst; go_at_call 102; refine HI2.out.mono ?_; rintro en w1 ⟨rfl, rfl⟩; rw [← HV.out])
                    | (go_at_call 102; refine HI.out.mono ?_; rintro en w1 ⟨rfl, rfl⟩; have hfst := True.intro))
                  go_ret
                  exact ⟨rfl, rfl⟩
              | false =>
                have hf := hfs.2 hs
                have HV := Lib.hid (HB hne hlf h33' hs)
                clear HO HN HP HB IH1 IH2 HG hne hlf h33' hfs hs
                by_cases hl1 : 97 ≤ (e[j].toNat : Int)
                · have hl2 : ¬ (e[j].toNat : Int) - 97 < n := fun h => hl ⟨hl1, h⟩
                  clear hl
                  go_enter Tryd.func102, Tryd.ntmps102
                  go_wp2_with (go_at_call 96; refine (l14Find_any _ _ _ (by decide) ⟨by omega, h256⟩).mono ?_; rintro en w1 ⟨rfl, rfl⟩)
                  go_ret
                  exact ⟨by rw [HV.out]; rfl, rfl⟩
                · clear hl
                  go_enter Tryd.func102, Tryd.ntmps102
                  go_wp2_with (go_at_call 96; refine (l14Find_any _ _ _ (by decide) ⟨by omega, h256⟩).mono ?_; rintro en w1 ⟨rfl, rfl⟩)
                  go_ret
                  exact ⟨by rw [HV.out]; rfl, rfl⟩

end Go.Proofs.YtfkdameegljkeaaDoor

