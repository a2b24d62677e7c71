/- Walks of which, BeforeOf and UnreachedOf. -/
import Derived.Test.YtpehimjngofnkaaDoorProg
import Derived.WalkKit
import Derived.WalkSpells
import Derived.WalkLawsBesides
import Derived.Lib.Hide
import Derived.Deep.QuietTactic
import Derived.Deep.RegionHeld3
import Derived.BigQuiet
import Derived.Maps.AppendAt
import Derived.Test.YtpehimjngofnkaaDoorWr
import Derived.Test.YtpehimjngofnkaaDoorWs
namespace Go.Proofs.YtpehimjngofnkaaDoor
open Go.RowKit
set_option linter.unusedVariables false

/-- append of one integer, with what else stays: a block that is not the slice's own is as it was, and is not the new slice's own -/
theorem wp_pushI_at {P : Program} {wr : World} {ops : Array Oper} {rest : List Oper} {o : Oper} {a : Act} {Q : Exit → Act → World → Prop} (hgd : o.guard = none) (s x : Operand) (t : TypeId)
    (ho : o.op = .call { callee := .builtin .append, args := #[s, x], argTypes := #[t, t] })
    {B e : Nat} (ht : P.underlying t = some (.slice e)) (hinf : (P.info? e).map (fun i => (i.zero, i.size, i.bytes)) = some (some (.int .i64 0), 1, 8))
    {v : Value} {xs : List Int} {u : Int} (hown : OI wr B e v xs) (hs : a.eval s = v) (hx : a.eval x = .slice (some ⟨wr.heap.size, 0, none⟩) 1 1)
    (hn : xs.length ≤ 1099511627776) (hB : B ≤ wr.heap.size)
    (h : ∀ v' w', OI w' B e v' (xs ++ [u]) → (∀ B', B' ≤ B → Below B' wr w') → wr.heap.size ≤ w'.heap.size → (∀ g, g < wr.heap.size → v.ownBlock ≠ some g → w'.heap[g]? = wr.heap[g]? ∧ v'.ownBlock ≠ some g) → wpList P ops Q rest (a.put o.dst v') w') :
    wpList P ops Q (o :: rest) a (wr.alloc (.cells #[.int .i64 u] e)) := by
  obtain ⟨i, hi, hiz, his, hib⟩ := info_parts hinf
  refine wpList_append_own_at _ hgd s x t ho B e i (.int .i64 0) 1 8 ht hi hiz his hib rfl (by omega) v xs.length (xs.map (Value.int .i64)) hs (World.ownsRow.alloc hown _) ⟨wr.heap.size, 0, none⟩ 1 1 [.int .i64 u] hx rfl ?_ ?_ (by simp only [maxLen]; omega) (by omega) (by rw [alloc_size]; omega) ?_
  · intro j y hj
    cases j with
    | zero =>
      simp only [List.getElem?_cons_zero, Option.some.injEq] at hj
      subst hj
      have : (⟨wr.heap.size, 0, none⟩ : Addr).add 0 = ⟨wr.heap.size, 0, none⟩ := rfl
      rw [this, cell_new]; rfl
    | succ j => simp at hj
  · intro y hy
    rw [List.mem_singleton.1 hy]; rfl
  · intro v' w' h1 h2 _ h4
    have hz := h2.size
    rw [alloc_size] at hz
    refine h v' w' (by unfold OI; simpa using h1) (fun B' hB' => ?_) (by omega) (fun g hg hne => ⟨?_, ?_⟩)
    · have hb0 : Below B' wr (wr.alloc (.cells #[.int .i64 u] e)) := (Below.refl _ _).alloc (by omega) _
      refine hb0.grown h2 (by rw [alloc_size]; omega) ?_
      intro k hk
      have := (World.ownsRow.lt hown k hk).1
      omega
    · have := h2.block g (by rw [alloc_size]; omega) (fun e => hne e.symm)
      rw [this]
      exact heap_alloc_old wr _ hg
    · rcases h4 with h4 | h4
      · rw [h4]; exact hne
      · rw [h4, alloc_size]; intro e; injection e; omega
theorem Rd.blk {w w' : World} {g off : Nat} {vs : List Value} (h : Rd w (some ⟨g, off, none⟩) vs) (hb : w'.heap[g]? = w.heap[g]?) : Rd w' (some ⟨g, off, none⟩) vs := by
  rcases h with h | ⟨g', off', hA, hc⟩
  · exact .inl h
  · injection hA with hA
    injection hA with h1 h2
    subst h1; subst h2
    exact .inr ⟨g, off, rfl, fun j v hj => (World.cell?_of_block (w := w) (a := ⟨g, off + j, none⟩) hb).trans (hc j v hj)⟩

/-- calling the closure at a state tells a truth, and writes nothing that was there -/
def CloB (w : World) (N F : Nat) (caps : Array Value) (p : Nat → Bool) : Prop :=
  ∀ (s : Nat) (w1 : World), s < N → Below w.heap.size w w1 → Calls Tryd.prog F (#[.int .i64 (s : Int)] ++ caps) w1 fun e w2 => e = .returned (.bool (p s)) ∧ Below w1.heap.size w1 w2
theorem which_any (A : Option Addr) (n c N F : Nat) (caps : Array Value) (p : Nat → Bool) (w : World) (hn : n ≤ 5) (HN : Hid (N = 2 ^ n)) (hF : ∀ (args : Array Value) (W : World), (callFunc F args).run Tryd.prog W = .ok (.enter F args) W) (hC : Hid (CloB w N F caps p)) :
    Calls Tryd.prog 60 #[.slice A n c, .func (.func F) #[] caps] w fun e w' => RetI w.heap.size (ints (sel N p)) e w' ∧ Below w.heap.size w w' := by
  have hN32 : N ≤ 32 := by rw [HN.out]; exact two_le _ hn
  go_enter Tryd.func60, Tryd.ntmps60
  go_wp2_with fail
  refine (states_any _ _ _ N _ hn HN).mono ?_
  rintro e w2 ⟨rfl, rfl⟩
  go_wp2
  go_loopw [5, 9] (fun v q wr => ∃ k : Nat, k ≤ N ∧ q = .int .i64 k ∧ Hid (OI wr w.heap.size 3 v (ints (sel k p))) ∧ Below w.heap.size w wr) (fun _ q _ => N - (intOf q).toNat)
  case atStart => exact ⟨0, Nat.zero_le _, rfl, Lib.hid (OI.nil _ _ _), Below.refl _ _⟩
  case round =>
    obtain ⟨k, hk, rfl, HO, hB⟩ := hrel
    have hsz := hB.size
    have hlen : (ints (sel k p)).length ≤ k := by rw [ints_length]; exact sel_len _ _
    by_cases hlt : k < N
    · by_cases hp : p k = true
      · have HE := Lib.hid (sel_yesI hp)
        go_wp2_with fail
        refine (hC.out k wr hlt hB).mono ?_
        rintro e w5 ⟨rfl, hB5⟩
        rw [hp]
        have hz5 := hB5.size
        go_wp2_with (at_builtin; refine wp_pushI rfl _ _ _ rfl Tryd.underlying22 info_int (HO.out.below hB5) rfl rfl (by omega) (by omega) ?_; intro v' w3 hown hbel hsz3)
        go_roundw
        case rel => exact ⟨k + 1, by omega, by go_num, Lib.hid (by rw [HE.out]; exact hown), hB.trans ((hB5.mono hsz).trans (hbel _ (Nat.le_refl _)))⟩
        case measure => simp [intOf]; omega
      · have hp' : p k = false := by simpa using hp
        have HE := Lib.hid (sel_noI hp')
        clear hp
        go_wp2_with fail
        refine (hC.out k wr hlt hB).mono ?_
        rintro e w5 ⟨rfl, hB5⟩
        rw [hp']
        go_wp2
        go_roundw
        case rel => exact ⟨k + 1, by omega, by go_num, Lib.hid (by rw [HE.out]; exact HO.out.below hB5), hB.trans (hB5.mono hsz)⟩
        case measure => simp [intOf]; omega
    · have hkn : k = N := by omega
      subst hkn
      go_wp2_with (go_at_call 69; refine (clip_any _ _ _ _ _ HO.out).mono ?_; rintro e w2 ⟨⟨A', c', rfl, hc, hO⟩, rfl⟩)
      go_ret
      exact ⟨⟨A', c', rfl, hc, hO⟩, hB⟩

/-- the states before a state -/
def befN (ps : List (List UInt8)) (t : Int) : List Int := if okSt ps t then ints (sel (2 ^ ps.length) fun k => stp ps k == t.toNat) else []
theorem befN_yes {ps : List (List UInt8)} {t N : Nat} (h : okSt ps t = true) (hN : N = 2 ^ ps.length) : befN ps t = ints (sel N fun k => stp ps k == t) := by rw [befN, if_pos h, hN]; rfl
theorem befN_no {ps : List (List UInt8)} {t : Int} (h : okSt ps t = false) : befN ps t = [] := by rw [befN, h]; rfl
theorem befN_len (ps : List (List UInt8)) (t : Int) : (befN ps t).length ≤ 1048576 := by
  by_cases h : okSt ps t = true
  · obtain ⟨hok, s, rfl, _⟩ := okSt_true h
    rw [befN_yes h rfl, ints_length]
    have := sel_len (2 ^ ps.length) fun k => stp ps k == s
    have h32 := two_le _ (okN_le hok)
    omega
  · rw [befN_no (by simpa using h)]; simp

/-- the states after none -/
def unrN (ps : List (List UInt8)) : List Int := if okN ps then ints (sel (2 ^ ps.length) fun k => (befN ps (k : Int)).isEmpty) else []
theorem unrN_yes {ps : List (List UInt8)} {N : Nat} (h : okN ps = true) (hN : N = 2 ^ ps.length) : unrN ps = ints (sel N fun k => (befN ps (k : Int)).isEmpty) := by rw [unrN, if_pos h, hN]
theorem unrN_no {ps : List (List UInt8)} (h : okN ps = false) : unrN ps = [] := by rw [unrN, h]; rfl
theorem unrN_len (ps : List (List UInt8)) : (unrN ps).length ≤ 1048576 := by
  by_cases h : okN ps = true
  · rw [unrN_yes h rfl, ints_length]
    have := sel_len (2 ^ ps.length) fun k => (befN ps (k : Int)).isEmpty
    have h32 := two_le _ (okN_le h)
    omega
  · rw [unrN_no (by simpa using h)]; simp

end Go.Proofs.YtpehimjngofnkaaDoor
