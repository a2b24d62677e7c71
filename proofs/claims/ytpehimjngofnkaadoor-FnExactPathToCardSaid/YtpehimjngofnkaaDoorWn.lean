/- Walks of the program's functions on networks. -/
import Derived.Test.YtpehimjngofnkaaDoorProg
import Derived.WalkKit
import Derived.WalkSpells
import Derived.WalkLawsBesides
import Derived.Lib.Hide
import Derived.Deep.QuietTactic
import Derived.Deep.WholeRow
import Derived.Deep.MidRow
import Derived.BigQuiet
import Derived.Test.YtpehimjngofnkaaDoorWb
import Derived.Test.YtpehimjngofnkaaDoorWs
import Derived.Test.YtpehimjngofnkaaDoorWv
import Derived.Test.YtpehimjngofnkaaDoorSh
namespace Go.Proofs.YtpehimjngofnkaaDoor
open Go.RowKit

/-- the values of a rule: 0 behind the last state -/
def tv (n : Nat) (p : List UInt8) (s : Nat) : Nat := if s < 2 ^ n then val p s else 0
def netT (n : Nat) (ps : List (List UInt8)) : List Value := ps.flatMap fun p => tabL n (tv n p)
/-- the cells of a network -/
def netL (ps : List (List UInt8)) : List Value := netT ps.length ps
theorem netT_append (n : Nat) (a b : List (List UInt8)) : netT n (a ++ b) = netT n a ++ netT n b := by simp [netT]
theorem netT_get (n : Nat) : ∀ (ps : List (List UInt8)) (i j : Nat) (hi : i < ps.length), j < 33 → (netT n ps)[33 * i + j]? = (tabL n (tv n ps[i]))[j]?
  | [], i, j, hi, _ => by simp at hi
  | p :: ps, 0, j, _, hj => by
    rw [netT, List.flatMap_cons, List.getElem?_append_left (by rw [tabL_length]; omega)]
    simp
  | p :: ps, i + 1, j, hi, hj => by
    have ih := netT_get n ps i j (by simpa using hi) hj
    rw [netT, List.flatMap_cons, List.getElem?_append_right (by rw [tabL_length]; omega), tabL_length, show 33 * (i + 1) + j - 33 = 33 * i + j by omega]
    exact ih
theorem tabOf_tv {l : List UInt8} {n : Nat} (h : okT l = true) (hn : tin l.length = n) : tabOf l = tabL n (tv n l) := tabOf_yes h hn
theorem tabOf_any (l : List UInt8) : ∃ m b, tabOf l = tabL m b ∧ (okT l = true → m = tin l.length) := by
  by_cases h : okT l = true
  · exact ⟨_, _, tabOf_tv h rfl, fun _ => rfl⟩
  · have h' : okT l = false := by simpa using h
    exact ⟨_, _, tabOf_no h', fun e => absurd e h⟩
/-- the value v is the call's own slice of the tables ps, n inputs each -/
def OT (w : World) (B : Nat) (v : Value) (n : Nat) (ps : List (List UInt8)) : Prop := w.ownsRow B 95 33 v ps.length (netT n ps)
theorem OT.nil (w : World) (B n : Nat) : OT w B (.slice none 0 0) n [] := World.ownsRow_nil w B _ 33
theorem OT.below {w w' : World} {B n : Nat} {v : Value} {ps : List (List UInt8)} (h : OT w B v n ps) (hb : Below w.heap.size w w') : OT w' B v n ps := ownsRow_below h hb
theorem OT.keepT {w w' : World} {B n g : Nat} {v : Value} {ps : List (List UInt8)} (h : OT w B v n ps) (hw : w.grownBy w' (some g)) (hne : ∀ c, v = .slice (some ⟨g, 0, none⟩) ps.length c → False) : OT w' B v n ps :=
  World.ownsRow.kept h hw (by
    rcases h.2 with ⟨rfl, _⟩ | ⟨g', cap, cur, rfl, hB, _⟩
    · exact .inl rfl
    · refine .inr ?_
      simp only [Value.ownBlock, ne_eq, Option.some.injEq]
      rintro rfl
      exact hne _ rfl)
theorem Own.of_ownT {w : World} {B e n c : Nat} {A : Option Addr} {vs : List Value} (h : w.ownsRow B e 33 (.slice A n c) n vs) : Own w B A vs := by
  rcases h.2 with ⟨hv, rfl⟩ | ⟨g, cap, cur, hv, hB, hg, hn, _, hsz, htake⟩
  · left; exact List.eq_nil_of_length_eq_zero (by simpa using h.1)
  · injection hv with hA _ _
    refine .inr ⟨g, 0, hA, hB, fun j v hj => ?_⟩
    rw [Nat.zero_add, cell_of_row w g j cur e (0, 0) hg]
    refine ⟨?_, by simp [World.frozen?, hg]⟩
    rw [← htake, List.getElem?_take] at hj
    split at hj
    · simpa using hj
    · cases hj
theorem OT.form {w : World} {B n : Nat} {v : Value} {ps : List (List UInt8)} (h : OT w B v n ps) : ∃ A c, v = .slice A ps.length c ∧ ps.length ≤ c ∧ Own w B A (netT n ps) := by
  rcases h.2 with ⟨rfl, h0⟩ | ⟨g, cap, cur, rfl, hB, hg, hn, rest⟩
  · exact ⟨none, 0, by rw [h0], by omega, .inl (by rw [List.eq_nil_of_length_eq_zero h0]; rfl)⟩
  · exact ⟨_, cap, rfl, hn, Own.of_ownT h⟩
theorem info_tab : (Tryd.prog.info? 95).map (fun i => (i.zero.isSome, i.zero.map (·.cells.size), i.size, i.bytes)) = some (true, some 33, 33, 40) := by kernel_rfl
theorem tab_bslice (n : Nat) (b : Nat → Nat) (W : World) : (Instr.buildSlice 58 1 #[(0, .agg (tabL n b).toArray)]).run Tryd.prog W = .ok (.slice (some ⟨W.heap.size, 0, none⟩) 1 1) (W.alloc (.cells (tabL n b).toArray 95)) := by kernel_rfl
theorem wpList_bslice_tab {ops : Array Oper} {rest : List Oper} {o : Oper} {a : Act} {w : World} {Q : Exit → Act → World → Prop} (hgd : o.guard = none) (x : Operand) (ho : o.op = .buildSlice 58 1 #[(0, x)]) (n : Nat) (b : Nat → Nat)
    (hx : a.eval x = .agg (tabL n b).toArray) (h : ∀ g w1, g = w.heap.size → w1 = w.alloc (.cells (tabL n b).toArray 95) → wpList Tryd.prog ops Q rest (a.put o.dst (.slice (some ⟨g, 0, none⟩) 1 1)) w1) : wpList Tryd.prog ops Q (o :: rest) a w :=
  wpList_plain hgd fun _ hK => by
    have e : ((#[(0, x)] : Array (Nat × Operand)).map fun (i, x) => (i, a.eval x)) = #[(0, .agg (tabL n b).toArray)] := by simp [hx]
    unfold Oper.wp execOp
    simp only [ho, e, Sem.run_bind, tab_bslice, Result.andThen_ok]
    exact hK _ _ (h _ _ rfl rfl)
theorem wp_pushT {wr : World} {ops : Array Oper} {rest : List Oper} {o : Oper} {a : Act} {Q : Exit → Act → World → Prop} (hgd : o.guard = none) (s x : Operand)
    (ho : o.op = .call { callee := .builtin .append, args := #[s, x], argTypes := #[58, 58] })
    {B n g : Nat} {W : World} {v : Value} {ps : List (List UInt8)} {p : List UInt8} (hg : g = wr.heap.size) (hW : W = wr.alloc (.cells (tabL n (tv n p)).toArray 95)) (hown : OT wr B v n ps) (hs : a.eval s = v) (hx : a.eval x = .slice (some ⟨g, 0, none⟩) 1 1)
    (hn : ps.length ≤ 1048576) (hB : B ≤ wr.heap.size)
    (h : ∀ v' w', OT w' B v' n (ps ++ [p]) → (∀ B', B' ≤ B → Below B' wr w') → wr.heap.size ≤ w'.heap.size → wpList Tryd.prog ops Q rest (a.put o.dst v') w') :
    wpList Tryd.prog ops Q (o :: rest) a W := by
  subst hg hW
  have hi0 := info_tab
  cases hi : Tryd.prog.info? 95 with
  | none => rw [hi] at hi0; cases hi0
  | some i =>
    rw [hi, Option.map_some, Option.some.injEq, Prod.mk.injEq, Prod.mk.injEq, Prod.mk.injEq] at hi0
    obtain ⟨h1, h2, h3, h4⟩ := hi0
    obtain ⟨z, hz⟩ := Option.isSome_iff_exists.1 h1
    rw [hz, Option.map_some, Option.some.injEq] at h2
    refine wpList_append_own _ hgd s x _ ho B 95 i z 33 40 Tryd.underlying58 hi hz h3 h4 h2 (by omega) v ps.length (netT n ps) hs (hown.alloc _) ⟨wr.heap.size, 0, none⟩ 1 1 (tabL n (tv n p)) hx (by rw [tabL_length]) ?_ (tabL_one _ _) (by simp only [maxLen]; omega) (by omega) (by rw [alloc_size]; omega) ?_
    · intro j u hj
      rw [Addr.add_mid, Nat.zero_add, cell_new, List.getElem?_toArray]
      exact hj
    · intro v' w' h1 h2 _
      refine h v' w' (by unfold OT; rw [netT_append, List.length_append]; simpa [netT] using h1) (fun B' hB' => ?_) ?_
      · have hb0 : Below B' wr (wr.alloc (.cells (tabL n (tv n p)).toArray 95)) := (Below.refl _ _).alloc (by omega) _
        refine hb0.grown h2 (by rw [alloc_size]; omega) ?_
        intro k hk
        have := (hown.lt k hk).1
        omega
      · have := h2.size
        rw [alloc_size] at this
        omega

/-- the cell that strings.Split reads -/
def HasM (w : World) : Prop := ∃ m, w.cell? ⟨0, 0, none⟩ = some (.int .i64 m)
theorem HasM.below {w w' : World} (h : HasM w) (hb : Below w.heap.size w w') : HasM w' := by
  obtain ⟨m, hm⟩ := h
  exact ⟨m, (World.cell?_of_block (w := w) (hb.block _ (World.block_lt_of_cell? w _ hm))).trans hm⟩
theorem split_any (s : ByteArray) (w : World) (hm : HasM w) (hs : s.size < 4294967281) :
    Calls Tryd.prog 108 #[.string s, .string { data := #[44] }] w fun e w' => RetS w.heap.size (cutL s.data.toList) e w' ∧ Below w.heap.size w w' := by
  obtain ⟨m, hm⟩ := hm
  refine (Tryd.strings_Split s { data := #[44] } m w hs hm (by decide)).mono ?_
  rintro e w' ⟨rfl, rfl⟩
  rw [splitB_cutB, countB_cut]
  have e : (cutB s).map Value.string = strs (cutL s.data.toList) := by simp [cutB, strs]
  rw [e]
  exact ⟨⟨_, _, rfl, Nat.le_refl _, Own.lit w _ _ (Nat.le_refl _)⟩, (Below.refl _ _).alloc (Nat.le_refl _) _⟩

theorem readTableL (l : List UInt8) (w : World) (hf : l.length ≤ 9223372036854775807) :
    Calls Tryd.prog 98 #[.string ⟨l.toArray⟩] w fun e w' => e = .returned (.tuple #[.agg (tabOf l).toArray, .bool (okT l)]) ∧ Below w.heap.size w w' := by
  have h := readTable_any ⟨l.toArray⟩ w (by rw [str_size]; exact hf)
  simpa using h

/-- what the reading of a network hands back -/
def NetP (B : Nat) (ps : List (List UInt8)) (e : Ending) (w' : World) : Prop :=
  ∃ A k c, e = .returned (.tuple #[.slice A k c, .bool (okN ps)]) ∧ (okN ps = true → k = ps.length ∧ ps.length ≤ c ∧ Own w' B A (netL ps))
set_option maxHeartbeats 1000000 in
theorem readNetwork_any (s : ByteArray) (w : World) (hm : Hid (HasM w)) (hs : s.size ≤ 1073741824) :
    Calls Tryd.prog 59 #[.string s] w fun e w' => NetP w.heap.size (cutL s.data.toList) e w' ∧ Below w.heap.size w w' := by
  have hcl := cutL_len s.data.toList
  have HPL := Lib.hid (cutL_part s.data.toList)
  rw [show s.data.toList.length = s.size from by simp] at hcl HPL
  obtain ⟨ps, HPS⟩ : ∃ ps, Hid (ps = cutL s.data.toList) := ⟨_, rfl⟩
  rw [← HPS.out] at hcl HPL ⊢
  by_cases h5 : ps.length ≤ 5
  · go_enter Tryd.func59, Tryd.ntmps59
    go_wp2_with fail
    refine (split_any s w hm.out (by omega)).mono ?_
    rintro e w1 ⟨⟨A, c, rfl, hc, hO⟩, hB1⟩
    rw [← HPS.out] at hc hO ⊢
    have HO := Lib.hid hO
    have hz1 := hB1.size
    clear hO
    go_wp2
    go_loopw [5, 17] (fun v q wr => ∃ i : Nat, i ≤ ps.length ∧ q = .int .i64 i ∧ Hid (((ps.take i).all fun p => okT p && (tin p.length == ps.length)) = true) ∧ Hid (OT wr w1.heap.size v ps.length (ps.take i)) ∧ Below w1.heap.size w1 wr) (fun _ q _ => ps.length - (intOf q).toNat)
    case atStart => exact ⟨0, Nat.zero_le _, rfl, Lib.hid rfl, Lib.hid (OT.nil _ _ _), Below.refl _ _⟩
    case round =>
      obtain ⟨i, hi, rfl, HI, HT, hB⟩ := hrel
      have hsz := hB.size
      by_cases hil : i < ps.length
      · obtain ⟨g, off, hA, hcell0⟩ := HO.out.rd.text hil
        subst hA
        have hcell : wr.cell? ⟨g, off + i, none⟩ = some (.string ⟨ps[i].toArray⟩) := (World.cell?_of_block (w := w1) (hB.block _ (World.block_lt_of_cell? w1 _ hcell0))).trans hcell0
        have hpl : ps[i].length ≤ s.size := HPL.out _ (List.getElem_mem hil)
        have hrt := readTableL ps[i] wr (by omega)
        clear hcell0
        by_cases h1 : okT ps[i] = true
        · rw [h1] at hrt
          by_cases h2 : tin ps[i].length = ps.length
          · rw [tabOf_tv h1 h2] at hrt
            have HI2 := Lib.hid (okN_take hil HI.out h1 h2)
            have HTK : Hid (ps.take (i + 1) = ps.take i ++ [ps[i]]) := Lib.hid (by rw [List.take_add_one, List.getElem?_eq_getElem hil]; rfl)
            have hlt5 : (ps.take i).length ≤ 5 := by rw [List.length_take]; omega
            clear h1 h2
            go_wp2_with (first
              | (go_at_call 98; refine hrt.mono ?_; rintro e w2 ⟨rfl, hB2⟩)
              | ((with_reducible refine wpStop (o := ⟨some 8, _, _, _, _, _⟩) ?_); refine ⟨?_⟩; refine wpList_alloc_blk rfl _ rfl _ (tab_alloc _) ?_; intro g3 w3 hg3 hb3 hB3)
              | ((with_reducible refine wpStop (o := ⟨none, Op.store 95 _ _, _, _, _, _⟩) ?_); refine ⟨?_⟩; refine wpList_store_blk rfl _ _ _ rfl rfl rfl hb3 (tab_fits _ _) (tab_same _ _ _ _) (tab_all _ _) ?_; intro w4 hb4 ho4; have hB24 : Below w2.heap.size w2 w4 := (hB3 _ (Nat.le_refl _)).trans (Below.of_grown ho4 hg3 (hB3 0 (Nat.zero_le _)).size); have hc4 : w4.cell? ⟨g3, 0, none⟩ = some (.int .i64 (ps.length : Int)) := (hb4.cell 0).trans rfl)
              | ((with_reducible refine wpStop (o := ⟨some 36, _, _, _, _, _⟩) ?_); refine ⟨?_⟩; refine wpList_load_blk rfl _ _ rfl rfl hb4 Tryd.underlying95 rfl (tab_fits _ _) ?_)
              | ((with_reducible refine wpStop (o := ⟨some 37, _, _, _, _, _⟩) ?_); refine ⟨?_⟩; refine wpList_bslice_tab rfl _ rfl _ _ rfl ?_; intro g5 w5 hg5 hw5)
              | ((with_reducible refine wpStop (o := ⟨some 38, _, _, _, _, _⟩) ?_); refine ⟨?_⟩; refine wp_pushT rfl _ _ rfl hg5 hw5 ((HT.out.below hB2).below hB24) rfl rfl (by omega) (by have := hB24.size; have := hB2.size; omega) ?_; clear hg5 hw5; intro v' w6 hown hbel hsz6))
            go_roundw
            case rel => exact ⟨i + 1, by omega, by go_num, HI2, Lib.hid (by rw [HTK.out]; exact hown), hB.trans ((hB2.mono hsz).trans ((hB24.mono (by have := hB2.size; omega)).trans (hbel _ (Nat.le_refl _))))⟩
            case measure => simp [intOf]; omega
          · have hd : ((tin ps[i].length : Int) != (ps.length : Int)) = true := by simp; omega
            have HN : Hid (okN ps = false) := Lib.hid (okN_bad (List.getElem_mem hil) (.inr h2))
            rw [tabOf_tv h1 rfl] at hrt
            clear h1 h2
            go_wp2_with (first
              | (go_at_call 98; refine hrt.mono ?_; rintro e w2 ⟨rfl, hB2⟩)
              | ((with_reducible refine wpStop (o := ⟨some 8, _, _, _, _, _⟩) ?_); refine ⟨?_⟩; refine wpList_alloc_blk rfl _ rfl _ (tab_alloc _) ?_; intro g3 w3 hg3 hb3 hB3)
              | ((with_reducible refine wpStop (o := ⟨none, Op.store 95 _ _, _, _, _, _⟩) ?_); refine ⟨?_⟩; refine wpList_store_blk rfl _ _ _ rfl rfl rfl hb3 (tab_fits _ _) (tab_same _ _ _ _) (tab_all _ _) ?_; intro w4 hb4 ho4; have hB24 : Below w2.heap.size w2 w4 := (hB3 _ (Nat.le_refl _)).trans (Below.of_grown ho4 hg3 (hB3 0 (Nat.zero_le _)).size); have hc4 : w4.cell? ⟨g3, 0, none⟩ = some (.int .i64 (tin ps[i].length : Int)) := (hb4.cell 0).trans rfl))
            go_ret2
            exact ⟨⟨_, _, _, by rw [HN.out]; rfl, fun h => by rw [HN.out] at h; cases h⟩, hB1.trans ((hB.trans ((hB2.mono hsz).trans (hB24.mono (by have := hB2.size; omega)))).mono hz1)⟩
        · have h1' : okT ps[i] = false := by simpa using h1
          have HN : Hid (okN ps = false) := Lib.hid (okN_bad (List.getElem_mem hil) (.inl h1'))
          rw [h1', tabOf_no h1'] at hrt
          clear h1 h1'
          go_wp2_with (first
            | (go_at_call 98; refine hrt.mono ?_; rintro e w2 ⟨rfl, hB2⟩)
            | ((with_reducible refine wpStop (o := ⟨some 8, _, _, _, _, _⟩) ?_); refine ⟨?_⟩; refine wpList_alloc_blk rfl _ rfl _ (tab_alloc _) ?_; intro g3 w3 hg3 hb3 hB3)
            | ((with_reducible refine wpStop (o := ⟨none, Op.store 95 _ _, _, _, _, _⟩) ?_); refine ⟨?_⟩; refine wpList_store_blk rfl _ _ _ rfl rfl rfl hb3 (tab_fits _ _) (tab_same _ _ _ _) (tab_all _ _) ?_; intro w4 hb4 ho4; have hB24 : Below w2.heap.size w2 w4 := (hB3 _ (Nat.le_refl _)).trans (Below.of_grown ho4 hg3 (hB3 0 (Nat.zero_le _)).size)))
          go_ret2
          exact ⟨⟨_, _, _, by rw [HN.out]; rfl, fun h => by rw [HN.out] at h; cases h⟩, hB1.trans ((hB.trans ((hB2.mono hsz).trans (hB24.mono (by have := hB2.size; omega)))).mono hz1)⟩
      · have HN : Hid (okN ps = true) := Lib.hid (by
          have h := HI.out
          rw [List.take_of_length_le (by omega)] at h
          exact h)
        have hin : i = ps.length := by omega
        subst hin
        have hT := HT.out
        rw [List.take_of_length_le (Nat.le_refl _)] at hT
        obtain ⟨A', c', hv, hc', hO'⟩ := hT.form
        have HV := Lib.hid hv
        clear hv hT
        go_wp2_with fail
        go_ret2
        exact ⟨⟨A', ps.length, c', by rw [HN.out, ← HV.out]; rfl, fun _ => ⟨rfl, hc', hO'.mono hz1⟩⟩, hB1.trans (hB.mono hz1)⟩
  · have HN : Hid (okN ps = false) := Lib.hid (by
      by_cases h : okN ps = true
      · exact absurd (okN_le h) h5
      · simpa using h)
    go_enter Tryd.func59, Tryd.ntmps59
    go_wp2_with fail
    refine (split_any s w hm.out (by omega)).mono ?_
    rintro e w1 ⟨⟨A, c, rfl, hc, hO⟩, hB1⟩
    rw [← HPS.out] at hc hO ⊢
    clear hO
    go_wp2
    go_ret2
    exact ⟨⟨_, _, _, by rw [HN.out]; rfl, fun h => by rw [HN.out] at h; cases h⟩, hB1⟩

end Go.Proofs.YtpehimjngofnkaaDoor
