/- Walks: lists of lists of integers; the cycles of a network on both sides. -/
import Derived.Test.YtjinmoeabkpmaaaDoorProg
import Derived.WalkKit
import Derived.WalkSpells
import Derived.WalkLawsBesides
import Derived.Lib.Hide
import Derived.Deep.QuietTactic
import Derived.BigQuiet
import Derived.Test.YtjinmoeabkpmaaaDoorWa
import Derived.Test.YtjinmoeabkpmaaaDoorY2
import Derived.Test.YtjinmoeabkpmaaaDoorYh
namespace Go.Proofs.YtjinmoeabkpmaaaDoor
open Go.RowKit
set_option linter.unusedVariables false

/-- an own list of values of one cell each -/
def OV (w : World) (B : Nat) (e : TypeId) (v : Value) (ys : List Value) : Prop := w.ownsRow B e 1 v ys.length ys
theorem OV.nil (w : World) (B : Nat) (e : TypeId) : OV w B e (.slice none 0 0) [] := World.ownsRow_nil w B e 1
theorem OV.empty (w : World) (B : Nat) (e : TypeId) (hB : B ≤ w.heap.size) : OV (w.alloc (.cells #[] e)) B e (.slice (some ⟨w.heap.size, 0, none⟩) 0 0) [] :=
  World.ownsRow_made w #[] 0 hB (Nat.zero_le _) rfl
theorem OV.below {w w' : World} {B : Nat} {e : TypeId} {v : Value} {ys : List Value} (h : OV w B e v ys) (hb : Below w.heap.size w w') : OV w' B e v ys := ownsRow_below h hb
theorem OV.form {w : World} {B : Nat} {e : TypeId} {v : Value} {ys : List Value} (h : OV w B e v ys) : ∃ A c, v = .slice A ys.length c ∧ ys.length ≤ c ∧ Own w B A ys := by
  rcases h.2 with ⟨rfl, h0⟩ | ⟨g, cap, cur, rfl, hB, hg, hn, rest⟩
  · exact ⟨none, 0, by rw [h0], by omega, .inl (List.eq_nil_of_length_eq_zero h0)⟩
  · exact ⟨_, cap, rfl, hn, Own.of_own h⟩
theorem OV.own_lt {w : World} {B g : Nat} {e : TypeId} {v : Value} {ys : List Value} (h : OV w B e v ys) (hg : v.ownBlock = some g) : B ≤ g ∧ g < w.heap.size :=
  ⟨(World.ownsRow.lt h g hg).1, (World.ownsRow.lt h g hg).2⟩
theorem own_ne {w : World} {B g : Nat} {e : TypeId} {v : Value} {ys : List Value} (h : OV w B e v ys) (hg : w.heap.size ≤ g) : v.ownBlock ≠ some g := fun e => by have := (h.own_lt e).2; omega
theorem wp_pushL {P : Program} {wr : World} {ops : Array Oper} {rest : List Oper} {o : Oper} {a : Act} {Q : Exit → Act → World → Prop} (hgd : o.guard = none) (s x : Operand) (t : TypeId)
    (ho : o.op = .call { callee := .builtin .append, args := #[s, x], argTypes := #[t, t] })
    {B e : Nat} (ht : P.underlying t = some (.slice e)) (hinf : (P.info? e).map (fun i => (i.zero, i.size, i.bytes)) = some (some (.slice none 0 0), 1, 24))
    {v : Value} {ys : List Value} {u : Value} (hu : u.oneCell' = true) (hown : OV wr B e v ys) (hs : a.eval s = v) (hx : a.eval x = .slice (some ⟨wr.heap.size, 0, none⟩) 1 1)
    (hn : ys.length ≤ 1099511627776) (hB : B ≤ wr.heap.size)
    (h : ∀ v' w', OV w' B e v' (ys ++ [u]) → (∀ B', B' ≤ B → Below B' wr w') → wr.heap.size ≤ w'.heap.size → (∀ g, g < wr.heap.size → v.ownBlock ≠ some g → w'.heap[g]? = wr.heap[g]? ∧ v'.ownBlock ≠ some g) → wpList P ops Q rest (a.put o.dst v') w') :
    wpList P ops Q (o :: rest) a (wr.alloc (.cells #[u] e)) := by
  obtain ⟨i, hi, hiz, his, hib⟩ := info_parts hinf
  refine wpList_append_own_at _ hgd s x t ho B e i (.slice none 0 0) 1 24 ht hi hiz his hib rfl (by omega) v ys.length ys hs (World.ownsRow.alloc hown _) ⟨wr.heap.size, 0, none⟩ 1 1 [u] hx rfl ?_ ?_ (by simp only [maxLen]; omega) (by omega) (by rw [alloc_size]; omega) ?_
  · intro j y hj
    cases j with
    | zero =>
      simp only [List.getElem?_cons_zero, Option.some.injEq] at hj
      subst hj
      have : (⟨wr.heap.size, 0, none⟩ : Addr).add 0 = ⟨wr.heap.size, 0, none⟩ := rfl
      rw [this, cell_new]; rfl
    | succ j => simp at hj
  · intro y hy
    rw [List.mem_singleton.1 hy]; exact hu
  · intro v' w' h1 h2 _ h4
    have hz := h2.size
    rw [alloc_size] at hz
    refine h v' w' (by unfold OV; simpa using h1) (fun B' hB' => ?_) (by omega) (fun g hg hne => ⟨?_, ?_⟩)
    · have hb0 : Below B' wr (wr.alloc (.cells #[u] e)) := (Below.refl _ _).alloc (by omega) _
      refine hb0.grown h2 (by rw [alloc_size]; omega) ?_
      intro k hk
      have := (World.ownsRow.lt hown k hk).1
      omega
    · have := h2.block g (by rw [alloc_size]; omega) (fun e => hne e.symm)
      rw [this]
      exact heap_alloc_old wr _ hg
    · rcases h4 with h4 | h4
      · rw [h4]; exact hne
      · rw [h4, alloc_size]; intro e; injection e; omega
theorem Own.blk {w w' : World} {B g off : Nat} {vs : List Value} (h : Own w B (some ⟨g, off, none⟩) vs) (hb : w'.heap[g]? = w.heap[g]?) : Own w' B (some ⟨g, off, none⟩) vs := by
  rcases h with h | ⟨g', off', hA, hB, hc⟩
  · exact .inl h
  · injection hA with hA
    injection hA with h1 h2
    subst h1 h2
    refine .inr ⟨g, off, rfl, hB, fun j v hj => ?_⟩
    exact ⟨(World.cell?_of_block (w := w) (a := ⟨g, off + j, none⟩) hb).trans (hc j v hj).1, (World.frozen?_of_block (w := w) (a := ⟨g, off + j, none⟩) hb).trans (hc j v hj).2⟩
/-- the lists of a list of lists: each in a block of its own, which is not that of the list v itself -/
structure LL (w : World) (B : Nat) (v : Value) (gs : List Nat) (ys : List Value) (xss : List (List Int)) : Prop where
  len : ys.length = xss.length
  gl : gs.length = xss.length
  nd : gs.Nodup
  lt : ∀ g ∈ gs, B ≤ g ∧ g < w.heap.size ∧ v.ownBlock ≠ some g
  at_ : ∀ (i : Nat) (xs : List Int), xss[i]? = some xs → ∃ (g off c : Nat), gs[i]? = some g ∧ ys[i]? = some (Value.slice (some ⟨g, off, none⟩) xs.length c) ∧ xs.length ≤ c ∧ Own w B (some ⟨g, off, none⟩) (xs.map (Value.int .i64))
theorem LL.nil (w : World) (B : Nat) (v : Value) : LL w B v [] [] [] := ⟨rfl, rfl, by simp, by simp, by intro i xs h; simp at h⟩
theorem LL.blk {w w' : World} {B : Nat} {v v' : Value} {gs : List Nat} {ys : List Value} {xss : List (List Int)} (h : LL w B v gs ys xss) (hb : ∀ g ∈ gs, w'.heap[g]? = w.heap[g]? ∧ v'.ownBlock ≠ some g) (hz : w.heap.size ≤ w'.heap.size) : LL w' B v' gs ys xss :=
  ⟨h.len, h.gl, h.nd, fun g hg => ⟨(h.lt g hg).1, Nat.lt_of_lt_of_le (h.lt g hg).2.1 hz, (hb g hg).2⟩, fun i xs hi => by
    obtain ⟨g, off, c, h1, h2, h3, h4⟩ := h.at_ i xs hi
    exact ⟨g, off, c, h1, h2, h3, h4.blk (hb g (List.mem_of_getElem? h1)).1⟩⟩
theorem LL.below {w w' : World} {B : Nat} {v : Value} {gs : List Nat} {ys : List Value} {xss : List (List Int)} (h : LL w B v gs ys xss) (hb : Below w.heap.size w w') : LL w' B v gs ys xss :=
  h.blk (fun g hg => ⟨hb.block g (h.lt g hg).2.1, (h.lt g hg).2.2⟩) hb.size
theorem LL.snoc {w : World} {B g off c : Nat} {v : Value} {gs : List Nat} {ys : List Value} {xss : List (List Int)} {xs : List Int} (h : LL w B v gs ys xss) (hg : g ∉ gs) (hB : B ≤ g) (hw : g < w.heap.size) (hv : v.ownBlock ≠ some g) (hc : xs.length ≤ c)
    (ho : Own w B (some ⟨g, off, none⟩) (xs.map (Value.int .i64))) : LL w B v (gs ++ [g]) (ys ++ [.slice (some ⟨g, off, none⟩) xs.length c]) (xss ++ [xs]) := by
  refine ⟨by rw [List.length_append, List.length_append, h.len]; rfl, by rw [List.length_append, List.length_append, h.gl]; rfl, ?_, ?_, ?_⟩
  · rw [List.nodup_append]
    exact ⟨h.nd, by simp, by intro a ha b hb; simp at hb; subst hb; intro e; subst e; exact hg ha⟩
  · intro x hx
    rcases List.mem_append.1 hx with hx | hx
    · exact h.lt x hx
    · simp at hx; subst hx; exact ⟨hB, hw, hv⟩
  · intro i zs hi
    by_cases hlt : i < xss.length
    · rw [List.getElem?_append_left hlt] at hi
      obtain ⟨g', off', c', h1, h2, h3, h4⟩ := h.at_ i zs hi
      exact ⟨g', off', c', by rw [List.getElem?_append_left (by rw [h.gl]; exact hlt)]; exact h1, by rw [List.getElem?_append_left (by rw [h.len]; exact hlt)]; exact h2, h3, h4⟩
    · have hie : i = xss.length := by
        have := (List.getElem?_eq_some_iff.1 hi).1
        rw [List.length_append, List.length_singleton] at this; omega
      subst hie
      rw [List.getElem?_append_right (Nat.le_refl _), Nat.sub_self] at hi
      simp at hi
      subst hi
      exact ⟨g, off, c, by rw [← h.gl, List.getElem?_append_right (Nat.le_refl _), Nat.sub_self]; rfl, by rw [← h.len, List.getElem?_append_right (Nat.le_refl _), Nat.sub_self]; rfl, hc, ho⟩
theorem LL.mono {w : World} {B B' : Nat} {v : Value} {gs : List Nat} {ys : List Value} {xss : List (List Int)} (h : LL w B v gs ys xss) (hB : B' ≤ B) : LL w B' v gs ys xss :=
  ⟨h.len, h.gl, h.nd, fun g hg => ⟨Nat.le_trans hB (h.lt g hg).1, (h.lt g hg).2⟩, fun i xs hi => by
    obtain ⟨g, off, c, h1, h2, h3, h4⟩ := h.at_ i xs hi
    exact ⟨g, off, c, h1, h2, h3, h4.mono hB⟩⟩
/-- a list of lists was handed back -/
def RetLL (B : Nat) (xss : List (List Int)) (e : Ending) (w' : World) : Prop :=
  ∃ A c gs ys, e = .returned (.slice A xss.length c) ∧ xss.length ≤ c ∧ Own w' B A ys ∧ LL w' B (.slice A xss.length c) gs ys xss
theorem info_sl : (Tryd.prog.info? 31).map (fun i => (i.zero, i.size, i.bytes)) = some (some (.slice none 0 0), 1, 24) := by kernel_rfl
/-- the cycles of the first k states that are least in their cycle -/
def cylTo (f : Nat → Nat) (k : Nat) : List (List Int) := (sel k fun s => cy0 f s == s).map fun s => ints (cyc f s)
theorem cylTo_yes {f : Nat → Nat} {k : Nat} (h : cy0 f k = k) : cylTo f (k + 1) = cylTo f k ++ [ints (cyc f k)] := by rw [cylTo, sel_yes (by simpa using h), List.map_append]; rfl
theorem cylTo_no {f : Nat → Nat} {k : Nat} (h : ¬ cy0 f k = k) : cylTo f (k + 1) = cylTo f k := by rw [cylTo, sel_no (by simpa using h)]; rfl
theorem cylTo_len (f : Nat → Nat) (k : Nat) : (cylTo f k).length ≤ k := by rw [cylTo, List.length_map]; exact sel_len _ _
def cylN (ps : List (List UInt8)) : List (List Int) := if okN ps then cylTo (stp ps) (2 ^ ps.length) else []
theorem cylN_yes {ps : List (List UInt8)} {N : Nat} (h : okN ps = true) (hN : N = 2 ^ ps.length) : cylN ps = cylTo (stp ps) N := by rw [cylN, if_pos h, hN]
theorem cylN_no {ps : List (List UInt8)} (h : okN ps = false) : cylN ps = [] := by rw [cylN, h]; rfl

set_option maxHeartbeats 1000000 in
theorem CyclesOf_any (s : ByteArray) (w : World) (hm : Hid (HasM w)) (hs : s.size ≤ 1073741824) :
    Calls Tryd.prog 16 #[.string s] w fun e w' => RetLL w.heap.size (cylN (cutL s.data.toList)) e w' ∧ Below w.heap.size w w' := by
  obtain ⟨ps, HPS⟩ : ∃ ps, Hid (ps = cutL s.data.toList) := ⟨_, rfl⟩
  rw [← HPS.out]
  by_cases h : okN ps = true
  · have HOK := Lib.hid h
    have hn5 := okN_le h
    obtain ⟨N, HN, hN32, hN0⟩ : ∃ N : Nat, Hid (N = 2 ^ ps.length) ∧ N ≤ 32 ∧ 0 < N := ⟨_, rfl, two_le _ hn5, Nat.pos_of_ne_zero (by simp)⟩
    have HV := Lib.hid (cylN_yes h HN.out)
    have HF : Hid (∀ x, x < N → stp ps x < N) := Lib.hid fun x _ => by rw [HN.out]; exact stp_lt h x
    clear h
    go_enter Tryd.func16, Tryd.ntmps16
    go_wp2_with fail
    refine (readNetwork_any s w hm hs).mono ?_
    rintro e w1 ⟨⟨A, k0, c, rfl, himp⟩, hB1⟩
    rw [← HPS.out] at himp ⊢
    obtain ⟨rfl, hc, hO⟩ := himp HOK.out
    rw [HOK.out]
    have hz1 := hB1.size
    have HR := Lib.hid hO.rd
    clear hO himp
    go_wp2_with (go_at_call 76; refine (states_any _ _ _ N _ hn5 HN).mono ?_; rintro e w2 ⟨rfl, rfl⟩)
    go_loopw [5, 17] (fun v i wr => ∃ (k : Nat) (gs : List Nat) (ys : List Value), k ≤ N ∧ i = .int .i64 k ∧ Hid (OV wr w1.heap.size 31 v ys ∧ LL wr w1.heap.size v gs ys (cylTo (stp ps) k)) ∧ Hid (Below w1.heap.size w1 wr)) (fun _ i _ => N - (intOf i).toNat)
    case atStart => exact ⟨0, [], [], Nat.zero_le _, rfl, Lib.hid ⟨OV.nil _ _ _, LL.nil _ _ _⟩, Lib.hid (Below.refl _ _)⟩
    case round =>
      obtain ⟨k, gs, ys, hk, rfl, HO, HB⟩ := hrel
      have hzr := HB.out.size
      have hyl : ys.length ≤ 32 := by rw [HO.out.2.len]; have := cylTo_len (stp ps) k; omega
      by_cases hlt : k < N
      · obtain ⟨l, HCY⟩ : ∃ l, Hid (l = ints (cyc (stp ps) k)) := ⟨_, rfl⟩
        obtain ⟨c0, HC0⟩ : ∃ x, Hid (x = cy0 (stp ps) k) := ⟨_, rfl⟩
        have hl0 : l[0]? = some ((c0 : Nat) : Int) := by
          obtain ⟨r, hr⟩ := cyc_head hN32 HF.out hlt
          rw [HCY.out, hr, HC0.out]; rfl
        have hlp : 0 < l.length := (List.getElem?_eq_some_iff.1 hl0).1
        have HL0 := Lib.hid hl0
        have HC := Lib.hid (cycle_any A c k N ps wr (Lib.hid (HR.out.below HB.out)) HOK HN hlt)
        rw [← HCY.out] at HC
        clear hl0
        go_wp2_with fail
        refine HC.out.mono ?_
        rintro e w2 ⟨⟨A2, c2, rfl, hc2, hO2⟩, hB2⟩
        have hz2 := hB2.size
        obtain ⟨g, off, hA2, hcell⟩ := hO2.rd.at_ (k := 0) (v := .int .i64 (c0 : Int)) (by rw [List.getElem?_map, HL0.out]; rfl)
        subst hA2
        rw [Nat.add_zero] at hcell
        have hg : wr.heap.size ≤ g ∧ g < w2.heap.size := by
          refine ⟨?_, World.block_lt_of_cell? w2 _ hcell⟩
          rcases hO2 with h2 | ⟨g', off', hA', hB', _⟩
          · exact absurd h2 (by intro e; have := congrArg List.length e; rw [List.length_map, List.length_nil] at this; omega)
          · simp only [Option.some.injEq, Addr.mk.injEq] at hA'; omega
        have HO2 := Lib.hid (And.intro (HO.out.1.below hB2) (HO.out.2.below hB2))
        have HOW := Lib.hid (hO2.mono hzr)
        have HNG := Lib.hid (And.intro (show g ∉ gs from fun hm => by have := (HO.out.2.lt g hm).2.1; omega) (own_ne HO.out.1 hg.1))
        have HB2 := Lib.hid (HB.out.trans (hB2.mono hzr))
        clear hO2
        by_cases he : c0 = k
        · have HS : Hid (cylTo (stp ps) (k + 1) = cylTo (stp ps) k ++ [l]) := Lib.hid (by rw [HCY.out]; exact cylTo_yes (by rw [← HC0.out]; exact he))
          have hd : ((c0 : Int) == (k : Int)) = true := by rw [he]; simp
          go_wp2_with (at_builtin; refine wp_pushL rfl _ _ _ rfl Tryd.underlying22 info_sl rfl HO2.out.1 rfl rfl (by omega) (by omega) ?_; intro v' w3 hown hbel hsz3 hblk)
          go_roundw
          case rel =>
            refine ⟨k + 1, gs ++ [g], ys ++ [.slice (some ⟨g, off, none⟩) l.length c2], by omega, by go_num, Lib.hid ⟨hown, ?_⟩, Lib.hid (HB2.out.trans (hbel _ (Nat.le_refl _)))⟩
            rw [HS.out]
            have h1 := HO2.out.2.snoc (c := c2) HNG.out.1 (by omega) hg.2 HNG.out.2 hc2 HOW.out
            refine h1.blk (fun x hx => ?_) hsz3
            have h2 := h1.lt x hx
            exact hblk x h2.2.1 h2.2.2
          case measure => simp [intOf]; omega
        · have HS : Hid (cylTo (stp ps) (k + 1) = cylTo (stp ps) k) := Lib.hid (cylTo_no (by rw [← HC0.out]; exact he))
          have hd : ((c0 : Int) == (k : Int)) = false := by rw [beq_eq_false_iff_ne]; omega
          go_wp2_with fail
          go_roundw
          case rel => exact ⟨k + 1, gs, ys, by omega, by go_num, Lib.hid ⟨HO2.out.1, by rw [HS.out]; exact HO2.out.2⟩, HB2⟩
          case measure => simp [intOf]; omega
      · have hkn : k = N := by omega
        subst hkn
        have HFI := HO.out.1
        obtain ⟨A', c', rfl, hc', hO'⟩ := HFI.form
        have HLL := Lib.hid HO.out.2
        have HLE : Hid (ys.length = (cylTo (stp ps) k).length) := Lib.hid HO.out.2.len
        rw [HLE.out] at hc' HLL ⊢
        have HOO := Lib.hid (hO'.mono hz1)
        have HL2 := Lib.hid (HLL.out.mono hz1)
        clear HFI hO' HLL
        go_wp2
        go_ret
        exact ⟨⟨A', c', gs, ys, by rw [HV.out]; rfl, by rw [HV.out]; exact hc', HOO.out, by rw [HV.out]; exact HL2.out⟩, hB1.trans (HB.out.mono hz1)⟩
  · have HOK : Hid (okN ps = false) := Lib.hid (by simpa using h)
    have HV := Lib.hid (cylN_no HOK.out)
    clear h
    go_enter Tryd.func16, Tryd.ntmps16
    go_wp2_with fail
    refine (readNetwork_any s w hm hs).mono ?_
    rintro e w1 ⟨⟨A, k0, c, rfl, himp⟩, hB1⟩
    clear himp
    rw [← HPS.out, HOK.out]
    go_wp2
    go_ret
    exact ⟨⟨none, 0, [], [], by rw [HV.out]; rfl, by rw [HV.out]; exact Nat.le_refl _, .inl rfl, by rw [HV.out]; exact LL.nil _ _ _⟩, hB1⟩

set_option maxHeartbeats 1000000 in
theorem sCyclesOf_any (s : ByteArray) (w : World) (hs : s.size ≤ 1073741824) :
    Calls Tryd.prog 15 #[.string s] w fun e w' => RetLL w.heap.size (cylN (cutL s.data.toList)) e w' ∧ Below w.heap.size w w' := by
  obtain ⟨ps, HPS⟩ : ∃ ps, Hid (ps = cutL s.data.toList) := ⟨_, rfl⟩
  rw [← HPS.out]
  have hBe : Below w.heap.size w (w.alloc (.cells #[] 31)) := (Below.refl _ _).alloc (Nat.le_refl _) _
  have hOE := OV.empty w w.heap.size 31 (Nat.le_refl _)
  have hze : (w.alloc (.cells #[] 31)).heap.size = w.heap.size + 1 := alloc_size _ _
  by_cases h : okN ps = true
  · have HOK := Lib.hid h
    have hn5 := okN_le h
    obtain ⟨N, HN, hN32, hN0⟩ : ∃ N : Nat, Hid (N = 2 ^ ps.length) ∧ N ≤ 32 ∧ 0 < N := ⟨_, rfl, two_le _ hn5, Nat.pos_of_ne_zero (by simp)⟩
    have HV := Lib.hid (cylN_yes h HN.out)
    have HF : Hid (∀ x, x < N → stp ps x < N) := Lib.hid fun x _ => by rw [HN.out]; exact stp_lt h x
    have HLN : Hid ((ints (stpTo ps N)).length = N) := Lib.hid (by rw [ints_length, stpTo_len])
    clear h
    go_enter Tryd.func15, Tryd.ntmps15
    go_wp2_with fail
    refine (l3Open_any s _ hs).mono ?_
    rintro e w1 ⟨⟨A, k0, c, rfl, himp⟩, hB1⟩
    rw [← HPS.out] at himp ⊢
    obtain ⟨rfl, hc, hO⟩ := himp HOK.out
    rw [HOK.out]
    have hz1 := hB1.size
    have HR := Lib.hid hO.rd
    clear hO himp
    go_wp2_with fail
    refine (l4Next_any _ _ N _ _ HR HOK HN).mono ?_
    rintro e w2 ⟨⟨A3, c3, rfl, hc3, hO3⟩, hB2⟩
    have hz2 := hB2.size
    have hB02 : Below w.heap.size w w2 := hBe.trans ((hB1.trans (hB2.mono hz1)).mono (by omega))
    have hne : (ints (stpTo ps N)).map (Value.int .i64) ≠ [] := by intro e; have := congrArg List.length e; rw [List.length_map, HLN.out, List.length_nil] at this; omega
    have HOF : Hid (Rd w2 A3 ((ints (stpTo ps N)).map (Value.int .i64)) ∧ OffV (.slice (some ⟨w.heap.size, 0, none⟩) 0 0) A3) := Lib.hid ⟨hO3.rd, (offV_own hO3 (by omega)).resolve_right hne⟩
    have HOE : Hid (OV w2 w.heap.size 31 (.slice (some ⟨w.heap.size, 0, none⟩) 0 0) []) := Lib.hid ((hOE.below hB1).below hB2)
    have HNE := Lib.hid hne
    rw [HLN.out]
    clear hO3 hne hOE hBe
    go_wp2_with fail
    go_loopw [3, 7] (fun v i wr => ∃ (k : Nat) (gs : List Nat) (ys : List Value), k ≤ N ∧ i = .int .i64 k ∧ Hid (OV wr w.heap.size 31 v ys ∧ LL wr w.heap.size v gs ys (cylTo (stp ps) k)) ∧ Hid (Rd wr A3 ((ints (stpTo ps N)).map (Value.int .i64)) ∧ OffV v A3) ∧ Hid (Below w.heap.size w wr)) (fun _ i _ => N - (intOf i).toNat)
    case atStart => exact ⟨0, [], [], Nat.zero_le _, rfl, Lib.hid ⟨HOE.out, LL.nil _ _ _⟩, HOF, Lib.hid hB02⟩
    case round =>
      obtain ⟨k, gs, ys, hk, rfl, HO, HRO, HB⟩ := hrel
      have hzr := HB.out.size
      have hyl : ys.length ≤ 32 := by rw [HO.out.2.len]; have := cylTo_len (stp ps) k; omega
      by_cases hlt : k < N
      · obtain ⟨l, HCY⟩ : ∃ l, Hid (l = ints (cyc (stp ps) k)) := ⟨_, rfl⟩
        obtain ⟨c0, HC0⟩ : ∃ x, Hid (x = cy0 (stp ps) k) := ⟨_, rfl⟩
        have hl0 : l[0]? = some ((c0 : Nat) : Int) := by
          obtain ⟨r, hr⟩ := cyc_head hN32 HF.out hlt
          rw [HCY.out, hr, HC0.out]; rfl
        have hlp : 0 < l.length := (List.getElem?_eq_some_iff.1 hl0).1
        have HL0 := Lib.hid hl0
        have HC := Lib.hid (l4Cycle_any A3 c3 N N k ps wr (Lib.hid HRO.out.1) HOK HN hlt rfl)
        rw [← HCY.out] at HC
        clear hl0
        go_wp2_with fail
        refine HC.out.mono ?_
        rintro e wb ⟨⟨A2, c2, rfl, hc2, hO2⟩, hBb⟩
        have hzb := hBb.size
        obtain ⟨g, off, hA2, hcell⟩ := hO2.rd.at_ (k := 0) (v := .int .i64 (c0 : Int)) (by rw [List.getElem?_map, HL0.out]; rfl)
        subst hA2
        rw [Nat.add_zero] at hcell
        have hg : wr.heap.size ≤ g ∧ g < wb.heap.size := by
          refine ⟨?_, World.block_lt_of_cell? wb _ hcell⟩
          rcases hO2 with h2 | ⟨g', off', hA', hB', _⟩
          · exact absurd h2 (by intro e; have := congrArg List.length e; rw [List.length_map, List.length_nil] at this; omega)
          · simp only [Option.some.injEq, Addr.mk.injEq] at hA'; omega
        have HO2 := Lib.hid (And.intro (HO.out.1.below hBb) (HO.out.2.below hBb))
        have HOW := Lib.hid (hO2.mono hzr)
        have HNG := Lib.hid (And.intro (show g ∉ gs from fun hm => by have := (HO.out.2.lt g hm).2.1; omega) (own_ne HO.out.1 hg.1))
        have HRO2 := Lib.hid (And.intro (HRO.out.1.below hBb) HRO.out.2)
        have HBb := Lib.hid (HB.out.trans (hBb.mono hzr))
        clear hO2
        by_cases he : c0 = k
        · have HS : Hid (cylTo (stp ps) (k + 1) = cylTo (stp ps) k ++ [l]) := Lib.hid (by rw [HCY.out]; exact cylTo_yes (by rw [← HC0.out]; exact he))
          have hd : ((c0 : Int) == (k : Int)) = true := by rw [he]; simp
          go_wp2_with (at_builtin; refine wp_pushL rfl _ _ _ rfl Tryd.underlying22 info_sl rfl HO2.out.1 rfl rfl (by omega) (by omega) ?_; intro v' w3 hown hbel hsz3 hblk)
          go_roundw
          case rel =>
            refine ⟨k + 1, gs ++ [g], ys ++ [.slice (some ⟨g, off, none⟩) l.length c2], by omega, by go_num, Lib.hid ⟨hown, ?_⟩, Lib.hid (offV_push HRO2.out.1 HRO2.out.2 hblk HNE.out), Lib.hid (HBb.out.trans (hbel _ (Nat.le_refl _)))⟩
            rw [HS.out]
            have h1 := HO2.out.2.snoc (c := c2) HNG.out.1 (by omega) hg.2 HNG.out.2 hc2 HOW.out
            refine h1.blk (fun x hx => ?_) hsz3
            have h2 := h1.lt x hx
            exact hblk x h2.2.1 h2.2.2
          case measure => simp [intOf]; omega
        · have HS : Hid (cylTo (stp ps) (k + 1) = cylTo (stp ps) k) := Lib.hid (cylTo_no (by rw [← HC0.out]; exact he))
          have hd : ((c0 : Int) == (k : Int)) = false := by rw [beq_eq_false_iff_ne]; omega
          go_wp2_with fail
          go_roundw
          case rel => exact ⟨k + 1, gs, ys, by omega, by go_num, Lib.hid ⟨HO2.out.1, by rw [HS.out]; exact HO2.out.2⟩, HRO2, HBb⟩
          case measure => simp [intOf]; omega
      · have hkn : k = N := by omega
        subst hkn
        have HFI := HO.out.1
        obtain ⟨A', c', rfl, hc', hO'⟩ := HFI.form
        have HLL := Lib.hid HO.out.2
        have HLE : Hid (ys.length = (cylTo (stp ps) k).length) := Lib.hid HO.out.2.len
        rw [HLE.out] at hc' HLL ⊢
        have HOO := Lib.hid hO'
        clear HFI hO'
        go_wp2
        go_ret
        exact ⟨⟨A', c', gs, ys, by rw [HV.out]; rfl, by rw [HV.out]; exact hc', HOO.out, by rw [HV.out]; exact HLL.out⟩, HB.out⟩
  · have HOK : Hid (okN ps = false) := Lib.hid (by simpa using h)
    have HV := Lib.hid (cylN_no HOK.out)
    clear h
    go_enter Tryd.func15, Tryd.ntmps15
    go_wp2_with fail
    refine (l3Open_any s _ hs).mono ?_
    rintro e w1 ⟨⟨A, k0, c, rfl, himp⟩, hB1⟩
    clear himp
    rw [← HPS.out, HOK.out]
    go_wp2
    go_ret
    exact ⟨⟨some ⟨w.heap.size, 0, none⟩, 0, [], [], by rw [HV.out]; rfl, by rw [HV.out]; exact Nat.le_refl _, .inl rfl, by rw [HV.out]; exact LL.nil _ _ _⟩, hBe.trans (hB1.mono (by omega))⟩

end Go.Proofs.YtjinmoeabkpmaaaDoor
