/- Walks of which, BeforeOf and UnreachedOf. -/
import Derived.Test.YtjinmoeabkpmaaaDoorProg
import Derived.WalkKit
import Derived.WalkSpells
import Derived.WalkLawsBesides
import Derived.Lib.Hide
import Derived.Deep.QuietTactic
import Derived.Deep.RegionHeld3
import Derived.BigQuiet
import Derived.Maps.AppendAt
import Derived.Test.YtjinmoeabkpmaaaDoorWr
import Derived.Test.YtjinmoeabkpmaaaDoorWs
namespace Go.Proofs.YtjinmoeabkpmaaaDoor
open Go.RowKit
set_option linter.unusedVariables false

/-- append of one integer, with what else stays: a block that is not the slice's own is as it was, and is not the new slice's own -/
theorem wp_pushI_at {P : Program} {wr : World} {ops : Array Oper} {rest : List Oper} {o : Oper} {a : Act} {Q : Exit → Act → World → Prop} (hgd : o.guard = none) (s x : Operand) (t : TypeId)
    (ho : o.op = .call { callee := .builtin .append, args := #[s, x], argTypes := #[t, t] })
    {B e : Nat} (ht : P.underlying t = some (.slice e)) (hinf : (P.info? e).map (fun i => (i.zero, i.size, i.bytes)) = some (some (.int .i64 0), 1, 8))
    {v : Value} {xs : List Int} {u : Int} (hown : OI wr B e v xs) (hs : a.eval s = v) (hx : a.eval x = .slice (some ⟨wr.heap.size, 0, none⟩) 1 1)
    (hn : xs.length ≤ 1099511627776) (hB : B ≤ wr.heap.size)
    (h : ∀ v' w', OI w' B e v' (xs ++ [u]) → (∀ B', B' ≤ B → Below B' wr w') → wr.heap.size ≤ w'.heap.size → (∀ g, g < wr.heap.size → v.ownBlock ≠ some g → w'.heap[g]? = wr.heap[g]? ∧ v'.ownBlock ≠ some g) → wpList P ops Q rest (a.put o.dst v') w') :
    wpList P ops Q (o :: rest) a (wr.alloc (.cells #[.int .i64 u] e)) := by
  obtain ⟨i, hi, hiz, his, hib⟩ := info_parts hinf
  refine wpList_append_own_at _ hgd s x t ho B e i (.int .i64 0) 1 8 ht hi hiz his hib rfl (by omega) v xs.length (xs.map (Value.int .i64)) hs (World.ownsRow.alloc hown _) ⟨wr.heap.size, 0, none⟩ 1 1 [.int .i64 u] hx rfl ?_ ?_ (by simp only [maxLen]; omega) (by omega) (by rw [alloc_size]; omega) ?_
  · intro j y hj
    cases j with
    | zero =>
      simp only [List.getElem?_cons_zero, Option.some.injEq] at hj
      subst hj
      have : (⟨wr.heap.size, 0, none⟩ : Addr).add 0 = ⟨wr.heap.size, 0, none⟩ := rfl
      rw [this, cell_new]; rfl
    | succ j => simp at hj
  · intro y hy
    rw [List.mem_singleton.1 hy]; rfl
  · intro v' w' h1 h2 _ h4
    have hz := h2.size
    rw [alloc_size] at hz
    refine h v' w' (by unfold OI; simpa using h1) (fun B' hB' => ?_) (by omega) (fun g hg hne => ⟨?_, ?_⟩)
    · have hb0 : Below B' wr (wr.alloc (.cells #[.int .i64 u] e)) := (Below.refl _ _).alloc (by omega) _
      refine hb0.grown h2 (by rw [alloc_size]; omega) ?_
      intro k hk
      have := (World.ownsRow.lt hown k hk).1
      omega
    · have := h2.block g (by rw [alloc_size]; omega) (fun e => hne e.symm)
      rw [this]
      exact heap_alloc_old wr _ hg
    · rcases h4 with h4 | h4
      · rw [h4]; exact hne
      · rw [h4, alloc_size]; intro e; injection e; omega
theorem Rd.blk {w w' : World} {g off : Nat} {vs : List Value} (h : Rd w (some ⟨g, off, none⟩) vs) (hb : w'.heap[g]? = w.heap[g]?) : Rd w' (some ⟨g, off, none⟩) vs := by
  rcases h with h | ⟨g', off', hA, hc⟩
  · exact .inl h
  · injection hA with hA
    injection hA with h1 h2
    subst h1; subst h2
    exact .inr ⟨g, off, rfl, fun j v hj => (World.cell?_of_block (w := w) (a := ⟨g, off + j, none⟩) hb).trans (hc j v hj)⟩

/-- calling the closure at a state tells a truth, and writes nothing that was there -/
def CloB (w : World) (N F : Nat) (caps : Array Value) (p : Nat → Bool) : Prop :=
  ∀ (s : Nat) (w1 : World), s < N → Below w.heap.size w w1 → Calls Tryd.prog F (#[.int .i64 (s : Int)] ++ caps) w1 fun e w2 => e = .returned (.bool (p s)) ∧ Below w1.heap.size w1 w2
theorem which_any (A : Option Addr) (n c N F : Nat) (caps : Array Value) (p : Nat → Bool) (w : World) (hn : n ≤ 5) (HN : Hid (N = 2 ^ n)) (hF : ∀ (args : Array Value) (W : World), (callFunc F args).run Tryd.prog W = .ok (.enter F args) W) (hC : Hid (CloB w N F caps p)) :
    Calls Tryd.prog 101 #[.slice A n c, .func (.func F) #[] caps] w fun e w' => RetI w.heap.size (ints (sel N p)) e w' ∧ Below w.heap.size w w' := by
  have hN32 : N ≤ 32 := by rw [HN.out]; exact two_le _ hn
  go_enter Tryd.func101, Tryd.ntmps101
  go_wp2_with fail
  refine (states_any _ _ _ N _ hn HN).mono ?_
  rintro e w2 ⟨rfl, rfl⟩
  go_wp2
  go_loopw [5, 9] (fun v q wr => ∃ k : Nat, k ≤ N ∧ q = .int .i64 k ∧ Hid (OI wr w.heap.size 3 v (ints (sel k p))) ∧ Below w.heap.size w wr) (fun _ q _ => N - (intOf q).toNat)
  case atStart => exact ⟨0, Nat.zero_le _, rfl, Lib.hid (OI.nil _ _ _), Below.refl _ _⟩
  case round =>
    obtain ⟨k, hk, rfl, HO, hB⟩ := hrel
    have hsz := hB.size
    have hlen : (ints (sel k p)).length ≤ k := by rw [ints_length]; exact sel_len _ _
    by_cases hlt : k < N
    · by_cases hp : p k = true
      · have HE := Lib.hid (sel_yesI hp)
        go_wp2_with fail
        refine (hC.out k wr hlt hB).mono ?_
        rintro e w5 ⟨rfl, hB5⟩
        rw [hp]
        have hz5 := hB5.size
        go_wp2_with (at_builtin; refine wp_pushI rfl _ _ _ rfl Tryd.underlying31 info_int (HO.out.below hB5) rfl rfl (by omega) (by omega) ?_; intro v' w3 hown hbel hsz3)
        go_roundw
        case rel => exact ⟨k + 1, by omega, by go_num, Lib.hid (by rw [HE.out]; exact hown), hB.trans ((hB5.mono hsz).trans (hbel _ (Nat.le_refl _)))⟩
        case measure => simp [intOf]; omega
      · have hp' : p k = false := by simpa using hp
        have HE := Lib.hid (sel_noI hp')
        clear hp
        go_wp2_with fail
        refine (hC.out k wr hlt hB).mono ?_
        rintro e w5 ⟨rfl, hB5⟩
        rw [hp']
        go_wp2
        go_roundw
        case rel => exact ⟨k + 1, by omega, by go_num, Lib.hid (by rw [HE.out]; exact HO.out.below hB5), hB.trans (hB5.mono hsz)⟩
        case measure => simp [intOf]; omega
    · have hkn : k = N := by omega
      subst hkn
      go_wp2_with (go_at_call 127; refine (clip_any _ _ _ _ _ HO.out).mono ?_; rintro e w2 ⟨⟨A', c', rfl, hc, hO⟩, rfl⟩)
      go_ret
      exact ⟨⟨A', c', rfl, hc, hO⟩, hB⟩

/-- the states before a state -/
def befN (ps : List (List UInt8)) (t : Int) : List Int := if okSt ps t then ints (sel (2 ^ ps.length) fun k => stp ps k == t.toNat) else []
theorem befN_yes {ps : List (List UInt8)} {t N : Nat} (h : okSt ps t = true) (hN : N = 2 ^ ps.length) : befN ps t = ints (sel N fun k => stp ps k == t) := by rw [befN, if_pos h, hN]; rfl
theorem befN_no {ps : List (List UInt8)} {t : Int} (h : okSt ps t = false) : befN ps t = [] := by rw [befN, h]; rfl
theorem befN_len (ps : List (List UInt8)) (t : Int) : (befN ps t).length ≤ 1048576 := by
  by_cases h : okSt ps t = true
  · obtain ⟨hok, s, rfl, _⟩ := okSt_true h
    rw [befN_yes h rfl, ints_length]
    have := sel_len (2 ^ ps.length) fun k => stp ps k == s
    have h32 := two_le _ (okN_le hok)
    omega
  · rw [befN_no (by simpa using h)]; simp

set_option maxHeartbeats 400000 in
theorem sBeforeOf_any (s : ByteArray) (t : Int) (w : World) (hs : s.size ≤ 1073741824) :
    Calls Tryd.prog 44 #[.string s, .int .i64 t] w fun e w' => RetI w.heap.size (befN (cutL s.data.toList) t) e w' ∧ Below w.heap.size w w' := by
  obtain ⟨ps, HPS⟩ : ∃ ps, Hid (ps = cutL s.data.toList) := ⟨_, rfl⟩
  rw [← HPS.out]
  by_cases h : okSt ps t = true
  · obtain ⟨hok, t, rfl, hlt⟩ := okSt_true h
    have hn5 := okN_le hok
    obtain ⟨N, HN, hN, hN32, hN0⟩ := wrap_two ps.length hn5
    have HOK := Lib.hid hok
    have HST := Lib.hid h
    have HV := Lib.hid (befN_yes h HN.out)
    clear h hok hlt
    obtain ⟨B, hB⟩ : ∃ B, B = w.heap.size := ⟨_, rfl⟩
    have HE := OI.empty w B 3 (by omega)
    have hBe : Below w.heap.size w (w.alloc (.cells #[] 3)) := (Below.refl _ _).alloc (Nat.le_refl _) _
    have HE' := Lib.hid HE
    clear HE
    go_enter Tryd.func44, Tryd.ntmps44
    go_wp2_with fail
    refine (l3State_any s _ _ hs).mono ?_
    rintro e w1 ⟨⟨A, k0, c, rfl, himp⟩, hB1⟩
    rw [← HPS.out] at himp ⊢
    obtain ⟨rfl, hc, hO⟩ := himp HST.out
    rw [HST.out]
    have hz1 := hB1.size
    rw [alloc_size] at hz1
    have HR := Lib.hid hO.rd
    have HO1 := Lib.hid (HE'.out.below hB1)
    have hBw1 : Below w.heap.size w w1 := hBe.trans (hB1.mono (by rw [alloc_size]; omega))
    clear hO himp hB1
    go_wp2_with fail
    refine (l4Next_any _ _ N _ _ HR HOK HN).mono ?_
    rintro e w3 ⟨⟨A3, c3, rfl, hc3, hO3⟩, hB3⟩
    have hz3 := hB3.size
    have HR3 := Lib.hid hO3.rd
    have HO3 := Lib.hid (HO1.out.below hB3)
    have hBw3 : Below w.heap.size w w3 := hBw1.trans (hB3.mono (by omega))
    have hil : (ints (stpTo ps N)).length = N := by rw [ints_length, stpTo_len]
    obtain ⟨g, off, hA, hgB, _⟩ := hO3.at_ (stpTo_get hN0)
    subst hA
    have hg3 : g < w3.heap.size := World.block_lt_of_cell? w3 _ (HR3.out.cell (stpTo_get hN0))
    clear hB3 HO1 HR hBw1
    go_wp2
    go_loopw [5, 9] (fun v q wr => ∃ k : Nat, k ≤ N ∧ q = .int .i64 k ∧ Hid (OI wr B 3 v (ints (sel k fun k => stp ps k == t))) ∧ Hid (Rd wr (some ⟨g, off, none⟩) ((ints (stpTo ps N)).map (Value.int .i64))) ∧ g < wr.heap.size ∧ v.ownBlock ≠ some g ∧ Below w.heap.size w wr) (fun _ q _ => N - (intOf q).toNat)
    case atStart => exact ⟨0, Nat.zero_le _, rfl, by rw [show ints (sel 0 fun k => stp ps k == t) = [] from rfl]; rw [hB] at HO3 ⊢; exact HO3, HR3, hg3, by simp [Value.ownBlock]; omega, hBw3⟩
    case round =>
      obtain ⟨k, hk, rfl, HO, HR4, hgl, hne, hBw⟩ := hrel
      have hsz := hBw.size
      have hlen : (ints (sel k fun k => stp ps k == t)).length ≤ k := by rw [ints_length]; exact sel_len _ _
      by_cases hlt : k < N
      · have hcell := HR4.out.cell (stpTo_get hlt)
        by_cases hp : stp ps k = t
        · have HE := Lib.hid (sel_yesI (p := fun k => stp ps k == t) (k := k) (by simpa using hp))
          have hd : ((stp ps k : Int) == (t : Int)) = true := by rw [hp]; exact beq_self_eq_true _
          clear hp
          go_wp2_with (at_builtin; refine wp_pushI_at rfl _ _ _ rfl Tryd.underlying31 info_int HO.out rfl rfl (by omega) (by omega) ?_; intro v' w5 hown hbel hsz3 hkeep)
          have hk2 := hkeep g hgl hne
          go_roundw
          case rel => exact ⟨k + 1, by omega, by go_num, Lib.hid (by rw [HE.out]; exact hown), Lib.hid (HR4.out.blk hk2.1), by omega, hk2.2, hBw.trans (hbel _ (by omega))⟩
          case measure => simp [intOf]; omega
        · have HE := Lib.hid (sel_noI (p := fun k => stp ps k == t) (k := k) (by simpa using hp))
          have hd : ((stp ps k : Int) == (t : Int)) = false := by simp; omega
          clear hp
          go_wp2_with fail
          go_roundw
          case rel => exact ⟨k + 1, by omega, by go_num, Lib.hid (by rw [HE.out]; exact HO.out), HR4, hgl, hne, hBw⟩
          case measure => simp [intOf]; omega
      · have hkn : k = N := by omega
        subst hkn
        obtain ⟨A', c', hv, hc, hO⟩ := HO.out.form
        have HV2 := Lib.hid hv
        clear hv
        go_wp2
        go_ret
        exact ⟨⟨A', c', by rw [HV.out, ← HV2.out]; rfl, by rw [HV.out]; exact hc, by rw [HV.out, ← hB]; exact hO⟩, hBw⟩
  · have h' : okSt ps t = false := by simpa using h
    have HST := Lib.hid h'
    have HV := Lib.hid (befN_no (t := t) h')
    clear h h'
    have hBe : Below w.heap.size w (w.alloc (.cells #[] 3)) := (Below.refl _ _).alloc (Nat.le_refl _) _
    go_enter Tryd.func44, Tryd.ntmps44
    go_wp2_with fail
    refine (l3State_any s _ _ hs).mono ?_
    rintro e w1 ⟨⟨A, k0, c, rfl, himp⟩, hB1⟩
    clear himp
    rw [← HPS.out, HST.out]
    go_wp2
    go_ret
    exact ⟨⟨_, 0, by rw [HV.out]; rfl, by rw [HV.out]; exact Nat.le_refl _, by rw [HV.out]; exact Own.nil _ _ _⟩, hBe.trans (hB1.mono (by rw [alloc_size]; omega))⟩

set_option maxHeartbeats 400000 in
theorem BeforeOf1_any (A : Option Addr) (c p5 p3 k t : Nat) (ps : List (List UInt8)) (w : World) (h5 : w.cell? ⟨p5, 0, none⟩ = some (.slice A ps.length c)) (h3 : w.cell? ⟨p3, 0, none⟩ = some (.int .i64 (t : Int)))
    (hx : Hid (Rd w A (netL ps))) (hok : Hid (okN ps = true)) (hk : Hid (k < 2 ^ ps.length)) :
    Calls Tryd.prog 102 #[.int .i64 (k : Int), .pointer (some ⟨p5, 0, none⟩), .pointer (some ⟨p3, 0, none⟩)] w fun e w' => e = .returned (.bool (stp ps k == t)) ∧ Below w.heap.size w w' := by
  have hl3 : p3 < w.heap.size := World.block_lt_of_cell? w _ h3
  have hl5 : p5 < w.heap.size := World.block_lt_of_cell? w _ h5
  go_enter Tryd.func102, Tryd.ntmps102
  go_wp2_with fail
  go_region_held3 (fun w' => w'.cell? ⟨p3, 0, none⟩ = some (.int .i64 (t : Int)) ∧ w'.cell? ⟨p5, 0, none⟩ = some (.slice A ps.length c)) (go_keep)
    (first | (go_at_call 91; refine (step_any A c ps k w.drew (show Hid (Rd w.drew A (netL ps)) from hx) hok hk).mono ?_; rintro e w' ⟨rfl, hB'⟩; have h3' := (World.cell?_of_block (w := w.drew) (hB'.block _ hl3)).trans h3; have h5' := (World.cell?_of_block (w := w.drew) (hB'.block _ hl5)).trans h5))
  go_wp2
  go_ret
  exact ⟨ret_bool (by rw [Bool.eq_iff_iff]; simp; omega), ⟨hB'.os, hB'.tape, hB'.output, hB'.size, hB'.block⟩⟩

theorem closed_BeforeOf : ∀ (args : Array Value) (W : World), (callFunc 102 args).run Tryd.prog W = .ok (.enter 102 args) W := fun _ _ => by kernel_rfl
set_option maxHeartbeats 400000 in
theorem BeforeOf_any (s : ByteArray) (t : Int) (w : World) (hm : Hid (HasM w)) (hs : s.size ≤ 1073741824) :
    Calls Tryd.prog 43 #[.string s, .int .i64 t] w fun e w' => RetI w.heap.size (befN (cutL s.data.toList) t) e w' ∧ Below w.heap.size w w' := by
  obtain ⟨ps, HPS⟩ : ∃ ps, Hid (ps = cutL s.data.toList) := ⟨_, rfl⟩
  rw [← HPS.out]
  have hBe : Below w.heap.size w (w.alloc (.cells #[.int .i64 t] 3)) := (Below.refl _ _).alloc (Nat.le_refl _) _
  have HM := Lib.hid (hm.out.below hBe)
  have hbx : Blk (w.alloc (.cells #[.int .i64 t] 3)) w.heap.size 3 #[.int .i64 t] := Blk.new _ _ _
  by_cases h : okSt ps t = true
  · obtain ⟨hok, t, rfl, hlt⟩ := okSt_true h
    have hn5 := okN_le hok
    obtain ⟨N, HN, hN, hN32, hN0⟩ := wrap_two ps.length hn5
    have HOK := Lib.hid hok
    have HST := Lib.hid h
    have HV := Lib.hid (befN_yes h HN.out)
    clear h hok hlt
    go_enter Tryd.func43, Tryd.ntmps43
    go_wp2_with fail
    refine (stateOf_any s _ _ HM hs).mono ?_
    rintro e w1 ⟨⟨A, k0, c, rfl, himp⟩, hB1⟩
    rw [← HPS.out] at himp ⊢
    obtain ⟨rfl, hc, hO⟩ := himp HST.out
    rw [HST.out]
    have hz1 := hB1.size
    rw [alloc_size] at hz1
    have HR := Lib.hid hO.rd
    have h3 : w1.cell? ⟨w.heap.size, 0, none⟩ = some (.int .i64 (t : Int)) := ((hbx.keep hB1).cell 0).trans rfl
    have hBw1 : Below w.heap.size w w1 := hBe.trans (hB1.mono (by rw [alloc_size]; omega))
    clear hO himp hB1
    have HX := Lib.hid (Blk.new w1 53 #[.slice A ps.length c])
    have hBn : Below w1.heap.size w1 (w1.alloc (.cells #[.slice A ps.length c] 53)) := (Below.refl _ _).alloc (Nat.le_refl _) _
    have HC : Hid (CloB (w1.alloc (.cells #[.slice A ps.length c] 53)) N 102 #[.pointer (some ⟨w1.heap.size, 0, none⟩), .pointer (some ⟨w.heap.size, 0, none⟩)] (fun k => stp ps k == t)) := Lib.hid (fun k wX hk hBX =>
      BeforeOf1_any A c _ _ k t ps wX (((HX.out.keep hBX).cell 0).trans rfl) ((World.cell?_of_block (w := w1) ((hBX.block _ (by show w.heap.size < _; rw [alloc_size]; omega)).trans (hBn.block _ (by show w.heap.size < _; omega)))).trans h3) (Lib.hid (HR.out.below (hBn.trans (hBX.mono (by rw [alloc_size]; omega))))) HOK (Lib.hid (by rw [← HN.out]; exact hk)))
    go_wp2_with fail
    refine (which_any _ _ _ N _ _ _ _ hn5 HN closed_BeforeOf HC).mono ?_
    rintro e w2 ⟨⟨A2, c2, rfl, hc2, hO2⟩, hB2⟩
    go_wp2
    go_ret
    exact ⟨⟨A2, c2, by rw [HV.out]; rfl, by rw [HV.out]; exact hc2, by rw [HV.out]; exact hO2.mono (by rw [alloc_size]; omega)⟩, hBw1.trans ((hBn.trans (hB2.mono (by rw [alloc_size]; omega))).mono (by omega))⟩
  · have h' : okSt ps t = false := by simpa using h
    have HST := Lib.hid h'
    have HV := Lib.hid (befN_no (t := t) h')
    clear h h'
    go_enter Tryd.func43, Tryd.ntmps43
    go_wp2_with fail
    refine (stateOf_any s _ _ HM hs).mono ?_
    rintro e w1 ⟨⟨A, k0, c, rfl, himp⟩, hB1⟩
    clear himp
    rw [← HPS.out, HST.out]
    have hz1 := hB1.size
    rw [alloc_size] at hz1
    have hBw1 : Below w.heap.size w w1 := hBe.trans (hB1.mono (by rw [alloc_size]; omega))
    go_wp2
    go_ret
    exact ⟨⟨none, 0, by rw [HV.out]; rfl, by rw [HV.out]; exact Nat.le_refl _, by rw [HV.out]; exact Own.nil _ _ _⟩, hBw1.alloc (by omega) _⟩

/-- the states after none -/
def unrN (ps : List (List UInt8)) : List Int := if okN ps then ints (sel (2 ^ ps.length) fun k => (befN ps (k : Int)).isEmpty) else []
theorem unrN_yes {ps : List (List UInt8)} {N : Nat} (h : okN ps = true) (hN : N = 2 ^ ps.length) : unrN ps = ints (sel N fun k => (befN ps (k : Int)).isEmpty) := by rw [unrN, if_pos h, hN]
theorem unrN_no {ps : List (List UInt8)} (h : okN ps = false) : unrN ps = [] := by rw [unrN, h]; rfl
theorem unrN_len (ps : List (List UInt8)) : (unrN ps).length ≤ 1048576 := by
  by_cases h : okN ps = true
  · rw [unrN_yes h rfl, ints_length]
    have := sel_len (2 ^ ps.length) fun k => (befN ps (k : Int)).isEmpty
    have h32 := two_le _ (okN_le h)
    omega
  · rw [unrN_no (by simpa using h)]; simp

set_option maxHeartbeats 400000 in
theorem sUnreachedOf_any (s : ByteArray) (w : World) (hs : s.size ≤ 1073741824) :
    Calls Tryd.prog 46 #[.string s] w fun e w' => RetI w.heap.size (unrN (cutL s.data.toList)) e w' ∧ Below w.heap.size w w' := by
  obtain ⟨ps, HPS⟩ : ∃ ps, Hid (ps = cutL s.data.toList) := ⟨_, rfl⟩
  rw [← HPS.out]
  have hBe : Below w.heap.size w (w.alloc (.cells #[] 3)) := (Below.refl _ _).alloc (Nat.le_refl _) _
  by_cases h : okN ps = true
  · have hn5 := okN_le h
    obtain ⟨N, HN, hN, hN32, hN0⟩ := wrap_two ps.length hn5
    have HOK := Lib.hid h
    have HV := Lib.hid (unrN_yes h HN.out)
    clear h
    have HE := Lib.hid (OI.empty w w.heap.size 3 (Nat.le_refl _))
    go_enter Tryd.func46, Tryd.ntmps46
    go_wp2_with fail
    refine (l3Open_any s _ hs).mono ?_
    rintro e w1 ⟨⟨A, k0, c, rfl, himp⟩, hB1⟩
    rw [← HPS.out] at himp ⊢
    obtain ⟨rfl, hc, hO⟩ := himp HOK.out
    rw [HOK.out]
    have HO1 := Lib.hid (HE.out.below hB1)
    have hBw1 : Below w.heap.size w w1 := hBe.trans (hB1.mono (by rw [alloc_size]; omega))
    clear hO himp hB1
    go_wp2
    go_loopw [3, 6] (fun v q wr => ∃ k : Nat, k ≤ N ∧ q = .int .i64 k ∧ Hid (OI wr w.heap.size 3 v (ints (sel k fun k => (befN ps (k : Int)).isEmpty))) ∧ Below w.heap.size w wr) (fun _ q _ => N - (intOf q).toNat)
    case atStart => exact ⟨0, Nat.zero_le _, rfl, HO1, hBw1⟩
    case round =>
      obtain ⟨k, hk, rfl, HO, hB⟩ := hrel
      have hsz := hB.size
      have hlen : (ints (sel k fun k => (befN ps (k : Int)).isEmpty)).length ≤ k := by rw [ints_length]; exact sel_len _ _
      by_cases hlt : k < N
      · have hbl := befN_len ps (k : Int)
        by_cases hp : befN ps (k : Int) = []
        · have HE2 := Lib.hid (sel_yesI (p := fun k => (befN ps (k : Int)).isEmpty) (k := k) (by simp [hp]))
          have hd : (((befN ps (k : Int)).length : Int) == 0) = true := by simp [hp]
          clear hp
          go_wp2_with (first
            | (go_at_call 94; refine (l3All_any _ _ _ N _ hn5 HN).mono ?_; rintro e w2 ⟨rfl, rfl⟩)
            | (go_at_call 44; refine (sBeforeOf_any s _ _ hs).mono ?_; rintro e w3 ⟨⟨A3, c3, rfl, hc3, hO3⟩, hB3⟩; rw [← HPS.out])
            | (at_builtin; refine wp_pushI rfl _ _ _ rfl Tryd.underlying31 info_int (HO.out.below hB3) rfl rfl (by omega) (by have := hB3.size; omega) ?_; intro v' w5 hown hbel hsz3))
          go_roundw
          case rel => exact ⟨k + 1, by omega, by go_num, Lib.hid (by rw [HE2.out]; exact hown), hB.trans ((hB3.mono hsz).trans (hbel _ (Nat.le_refl _)))⟩
          case measure => simp [intOf]; omega
        · have HE2 := Lib.hid (sel_noI (p := fun k => (befN ps (k : Int)).isEmpty) (k := k) (by simpa using hp))
          have hd : (((befN ps (k : Int)).length : Int) == 0) = false := by simpa using hp
          clear hp
          go_wp2_with (first
            | (go_at_call 94; refine (l3All_any _ _ _ N _ hn5 HN).mono ?_; rintro e w2 ⟨rfl, rfl⟩)
            | (go_at_call 44; refine (sBeforeOf_any s _ _ hs).mono ?_; rintro e w3 ⟨⟨A3, c3, rfl, hc3, hO3⟩, hB3⟩; rw [← HPS.out]))
          go_roundw
          case rel => exact ⟨k + 1, by omega, by go_num, Lib.hid (by rw [HE2.out]; exact HO.out.below hB3), hB.trans (hB3.mono hsz)⟩
          case measure => simp [intOf]; omega
      · have hkn : k = N := by omega
        subst hkn
        obtain ⟨A', c', hv, hc, hO⟩ := HO.out.form
        have HV2 := Lib.hid hv
        clear hv
        go_wp2_with (go_at_call 94; refine (l3All_any _ _ _ k _ hn5 HN).mono ?_; rintro e w2 ⟨rfl, rfl⟩)
        go_ret
        exact ⟨⟨A', c', by rw [HV.out, ← HV2.out]; rfl, by rw [HV.out]; exact hc, by rw [HV.out]; exact hO⟩, hB⟩
  · have h' : okN ps = false := by simpa using h
    have HOK := Lib.hid h'
    have HV := Lib.hid (unrN_no h')
    clear h h'
    go_enter Tryd.func46, Tryd.ntmps46
    go_wp2_with fail
    refine (l3Open_any s _ hs).mono ?_
    rintro e w1 ⟨⟨A, k0, c, rfl, himp⟩, hB1⟩
    clear himp
    rw [← HPS.out, HOK.out]
    have hBw1 : Below w.heap.size w w1 := hBe.trans (hB1.mono (by rw [alloc_size]; omega))
    go_wp2
    go_loopw [3, 6] (fun v q wr => v = .slice (some ⟨w.heap.size, 0, none⟩) 0 0 ∧ q = .int .i64 0 ∧ wr = w1) (fun _ _ _ => 0)
    case atStart => exact ⟨rfl, rfl, rfl⟩
    case round =>
      obtain ⟨rfl, rfl, rfl⟩ := hrel
      go_wp2
      go_ret
      exact ⟨⟨_, 0, by rw [HV.out]; rfl, by rw [HV.out]; exact Nat.le_refl _, by rw [HV.out]; exact Own.nil _ _ _⟩, hBw1⟩

end Go.Proofs.YtjinmoeabkpmaaaDoor
