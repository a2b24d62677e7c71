/- Walks: another rule of a switch, on both sides; the inputs of a table. -/
import Derived.Test.YtpehimjngofnkaaDoorProg
import Derived.WalkKit
import Derived.WalkSpells
import Derived.WalkLawsBesides
import Derived.Lib.Hide
import Derived.Deep.QuietTactic
import Derived.Deep.MidRow
import Derived.BigQuiet
import Derived.BigFrame
import Derived.Test.YtpehimjngofnkaaDoorYa
import Derived.Test.YtpehimjngofnkaaDoorYk
namespace Go.Proofs.YtpehimjngofnkaaDoor
open Go.RowKit
set_option linter.unusedVariables false

set_option maxHeartbeats 1000000 in
set_option maxRecDepth 100000 in
theorem InputsOf_ok (l : List UInt8) (n : Nat) (w : World) (hl : l.length ≤ 1000) (hok : Hid (okT l = true)) (hn : Hid (tin l.length = n)) :
    Calls Tryd.prog 53 #[.string ⟨l.toArray⟩] w fun e w' => e = .returned (.int .i64 (n : Int)) ∧ Below w.heap.size w w' := by
  have h5 : n ≤ 5 := by have := okT_true hok.out; rw [← hn.out]; omega
  have HTB : Hid (tabOf l = tabL n (tv n l)) := Lib.hid (tabOf_tv hok.out hn.out)
  go_enter Tryd.func53, Tryd.ntmps53
  go_wp2_with fail
  refine (readTableL l w (by omega)).mono ?_
  rintro e w1 ⟨rfl, hB1⟩
  rw [hok.out, HTB.out]
  go_wp2_with (first
    | ((with_reducible refine wpStop (o := ⟨some 3, _, _, _, _, _⟩) ?_); refine ⟨?_⟩; refine wpList_alloc_blk rfl _ rfl _ (tab_alloc _) ?_; intro g3 w3 hg3 hb3 hB3)
    | ((with_reducible refine wpStop (o := ⟨none, Op.store 95 _ _, _, _, _, _⟩) ?_); refine ⟨?_⟩; refine wpList_store_blk rfl _ _ _ rfl rfl rfl hb3 (tab_fits _ _) (tab_same _ _ _ _) (tab_all _ _) ?_; intro w4 hb4 ho4; have hB24 : Below w1.heap.size w1 w4 := (hB3 _ (Nat.le_refl _)).trans (Below.of_grown ho4 hg3 (hB3 0 (Nat.zero_le _)).size); have hc4 : w4.cell? ⟨g3, 0, none⟩ = some (.int .i64 (n : Int)) := (by rw [hb4.cell, List.getElem?_toArray, tabL_n])))
  go_ret
  exact ⟨rfl, hB1.trans (hB24.mono hB1.size)⟩

/-- a network, a switch and a rule for it -/
def okW (ps : List (List UInt8)) (i : Int) (fl : List UInt8) : Bool := okSw ps i && (okT fl && decide (tin fl.length = ps.length))
/-- the text of the network with another rule -/
def witN (ps : List (List UInt8)) (i : Int) (fl : List UInt8) : List UInt8 := if okW ps i fl then joinN (ps.set i.toNat fl) else []
theorem witN_no {ps : List (List UInt8)} {i : Int} {fl : List UInt8} (h : okW ps i fl = false) : witN ps i fl = [] := by rw [witN, h]; rfl
theorem witN_yes {ps : List (List UInt8)} {k : Nat} {fl : List UInt8} (h : okW ps (k : Int) fl = true) : witN ps (k : Int) fl = joinN (ps.set k fl) := by rw [witN, if_pos h]; rfl
theorem okW_true {ps : List (List UInt8)} {i : Int} {fl : List UInt8} (h : okW ps i fl = true) : okSw ps i = true ∧ okT fl = true ∧ tin fl.length = ps.length := by
  simpa only [okW, Bool.and_eq_true, decide_eq_true_eq] using h
theorem okN_set {ps : List (List UInt8)} {fl : List UInt8} (h : okN ps = true) (h1 : okT fl = true) (h2 : tin fl.length = ps.length) (k : Nat) : okN (ps.set k fl) = true := by
  rw [okN, List.all_eq_true]
  intro p hp
  rw [List.length_set, Bool.and_eq_true, beq_iff_eq]
  rcases List.mem_or_eq_of_mem_set hp with hp | rfl
  · exact okN_of h hp
  · exact ⟨h1, h2⟩

theorem netT_length (n : Nat) : ∀ ps : List (List UInt8), (netT n ps).length = 33 * ps.length
  | [] => rfl
  | p :: ps => by
    have ih := netT_length n ps
    rw [netT, List.flatMap_cons, List.length_append, tabL_length, List.length_cons]
    rw [netT] at ih
    omega
theorem netL_there {w : World} {B : Nat} {A : Option Addr} {ps : List (List UInt8)} {k : Nat} (h : Own w B A (netL ps)) (hk : k < ps.length) :
    ∃ g off, A = some ⟨g, off, none⟩ ∧ B ≤ g ∧ w.there g (off + k * 33) 33 := by
  obtain ⟨g, off, rfl, hB, _⟩ := h.at_ (k := 33 * k) (v := .int .i64 (ps.length : Int)) ((netT_get _ ps k 0 hk (by omega)).trans (tabL_n _ _))
  refine ⟨g, off, rfl, hB, fun j hj => ?_⟩
  have hlt : 33 * k + j < (netL ps).length := by rw [netL, netT_length]; omega
  obtain ⟨v, hv⟩ : ∃ v, (netL ps)[33 * k + j]? = some v := ⟨_, List.getElem?_eq_getElem hlt⟩
  have := h.cell hv
  rw [← Nat.add_assoc, Nat.mul_comm 33 k] at this
  exact ⟨by rw [this.1]; rfl, this.2⟩
theorem own_setC {w : World} {B g off m : Nat} {vs us T : List Value} (h : Own w B (some ⟨g, off, none⟩) vs) (hB : B ≤ g) (hm : m + T.length ≤ vs.length)
    (hu : ∀ j v, us[j]? = some v → if m ≤ j ∧ j < m + T.length then T[j - m]? = some v else vs[j]? = some v) : Own (w.setCells g (off + m) T) B (some ⟨g, off, none⟩) us := by
  have hth : ∀ i, i < T.length → (w.cell? ⟨g, off + m + i, none⟩).isSome = true := fun i hi => by
    have hlt : m + i < vs.length := by omega
    have := (h.cell (List.getElem?_eq_getElem hlt)).1
    rw [← Nat.add_assoc] at this
    rw [this]; rfl
  refine Or.inr ⟨g, off, rfl, hB, fun j v hj => ?_⟩
  have hv := hu j v hj
  rw [World.frozen?_setCells]
  by_cases hc : m ≤ j ∧ j < m + T.length
  · rw [if_pos hc] at hv
    have hin := World.cell?_setCells_in g T (off + m) w hth (j - m) (by omega)
    rw [show off + m + (j - m) = off + j by omega] at hin
    have hlt : j < vs.length := by omega
    refine ⟨?_, (h.cell (List.getElem?_eq_getElem hlt)).2⟩
    rw [hin, ← hv, List.getElem?_eq_getElem]
  · rw [if_neg hc] at hv
    rw [World.cell?_setCells_out g T (off + m) w ⟨g, off + j, none⟩ (fun _ _ => by
      show off + j < off + m ∨ off + m + T.length ≤ off + j
      omega)]
    exact h.cell hv
theorem netT_set (n : Nat) {ps : List (List UInt8)} {fl : List UInt8} {k : Nat} (hk : k < ps.length) (j : Nat) (v : Value) (hj : (netT n (ps.set k fl))[j]? = some v) :
    if k * 33 ≤ j ∧ j < k * 33 + (tabL n (tv n fl)).length then (tabL n (tv n fl))[j - k * 33]? = some v else (netT n ps)[j]? = some v := by
  have hlt : j < 33 * ps.length := by
    have := (List.getElem?_eq_some_iff.1 hj).1
    rw [netT_length, List.length_set] at this
    exact this
  have hi : j / 33 < ps.length := by omega
  have hr : j % 33 < 33 := Nat.mod_lt _ (by omega)
  have hje : j = 33 * (j / 33) + j % 33 := (Nat.div_add_mod j 33).symm
  have hget : (tabL n (tv n ((ps.set k fl)[j / 33]'(by rw [List.length_set]; exact hi))))[j % 33]? = some v := by
    rw [← netT_get n (ps.set k fl) (j / 33) (j % 33) (by rw [List.length_set]; exact hi) hr, ← hje]
    exact hj
  rw [tabL_length]
  by_cases hk2 : j / 33 = k
  · rw [if_pos (by omega), show j - k * 33 = j % 33 by omega]
    rw [List.getElem_set, if_pos hk2.symm] at hget
    exact hget
  · rw [if_neg (by omega)]
    rw [List.getElem_set, if_neg (fun e => hk2 e.symm)] at hget
    rw [hje, netT_get n ps (j / 33) (j % 33) hi hr]
    exact hget
theorem netL_set {w : World} {B g off k : Nat} {ps : List (List UInt8)} {fl : List UInt8} (h : Own w B (some ⟨g, off, none⟩) (netL ps)) (hk : k < ps.length) (hB : B ≤ g) :
    Own (w.setCells g (off + k * 33) (tabL ps.length (tv ps.length fl))) B (some ⟨g, off, none⟩) (netL (ps.set k fl)) := by
  refine own_setC h hB (by rw [netL, netT_length, tabL_length]; omega) fun j v hj => ?_
  rw [netL, List.length_set] at hj
  exact netT_set ps.length hk j v hj
theorem below_setC {B b : Nat} {a : World} (hb : B ≤ b) : ∀ (vs : List Value) (o : Nat) (w : World), Below B a w → Below B a (w.setCells b o vs)
  | [], _, _, h => h
  | v :: r, o, w, h => below_setC hb r (o + 1) _ (h.setCell (by exact hb) v)

set_option maxHeartbeats 1000000 in
set_option maxRecDepth 100000 in
theorem WithRule_ok (s : ByteArray) (k : Nat) (fl : List UInt8) (w : World) (hm : Hid (HasM w)) (hs : s.size ≤ 1073741824) (hl : fl.length ≤ 1073741824) (h : Hid (okW (cutL s.data.toList) (k : Int) fl = true)) :
    Calls Tryd.prog 47 #[.string s, .int .i64 (k : Int), .string ⟨fl.toArray⟩] w fun e w' => e = .returned (txtV (joinN ((cutL s.data.toList).set k fl)) true) ∧ Below w.heap.size w w' := by
  obtain ⟨ps, HPS⟩ : ∃ ps, Hid (ps = cutL s.data.toList) := ⟨_, Lib.hid rfl⟩
  rw [← HPS.out] at h ⊢
  obtain ⟨hsw, hT, hT2⟩ := okW_true h.out
  have HSW := Lib.hid hsw
  obtain ⟨hok, k', hk', hlt'⟩ := okSw_true hsw
  have hlt : k < ps.length := by omega
  have hn5 := okN_le hok
  have HOK := Lib.hid hT
  have HTB : Hid (tabOf fl = tabL ps.length (tv ps.length fl)) := Lib.hid (tabOf_tv hT hT2)
  have HON := Lib.hid (okN_set hok hT hT2 k)
  have hd : ((ps.length : Int) != (ps.length : Int)) = false := bne_self_eq_false _
  clear hk' hlt' hsw hT hT2 hok
  go_enter Tryd.func47, Tryd.ntmps47
  go_wp2_with fail
  refine (switchOf_any s k w hm hs).mono ?_
  rintro e w1 ⟨⟨A, j, c, rfl, himp⟩, hB1⟩
  rw [← HPS.out] at himp ⊢
  obtain ⟨rfl, hc, hO⟩ := himp HSW.out
  rw [HSW.out]
  have HO1 := Lib.hid hO
  have HB1 := Lib.hid hB1
  clear hO himp hB1
  go_wp2_with fail
  refine (readTableL fl w1 (by omega)).mono ?_
  rintro e w2 ⟨rfl, hB2⟩
  rw [HOK.out, HTB.out]
  have HO2 := Lib.hid (HO1.out.below (hB2.mono (Nat.le_refl _)))
  have HB2 : Hid (Below w.heap.size w w2) := Lib.hid (HB1.out.trans (hB2.mono HB1.out.size))
  clear hB2
  obtain ⟨g, off, rfl, hBg, hth2⟩ := netL_there HO2.out hlt
  have HTH2 := Lib.hid hth2
  have HBG := Lib.hid hBg
  clear hth2 hBg
  go_wp2_with (first
    | ((with_reducible refine wpStop (o := ⟨some 10, _, _, _, _, _⟩) ?_); refine ⟨?_⟩; refine wpList_alloc_blk rfl _ rfl _ (tab_alloc _) ?_; intro g3 w3 hg3 hb3 hB3; have HB3 : Hid (Below w2.heap.size w2 w3) := (Lib.hid (hB3 _ (Nat.le_refl _))); clear hB3)
    | ((with_reducible refine wpStop (o := ⟨none, Op.store 95 _ _, _, _, _, _⟩) ?_); refine ⟨?_⟩; refine wpList_store_blk rfl _ _ _ rfl rfl rfl hb3 (tab_fits _ _) (tab_same _ _ _ _) (tab_all _ _) ?_; intro w4 hb4 ho4; have HB4 : Hid (Below w2.heap.size w2 w4) := (Lib.hid (HB3.out.trans (Below.of_grown ho4 hg3 HB3.out.size))); have hc4 : w4.cell? ⟨g3, 0, none⟩ = some (.int .i64 (ps.length : Int)) := (by rw [hb4.cell, List.getElem?_toArray, tabL_n]); clear ho4)
    | ((with_reducible refine wpStop (o := ⟨some 38, _, _, _, _, _⟩) ?_); refine ⟨?_⟩; refine wpList_load_blk rfl _ _ rfl rfl hb4 Tryd.underlying95 rfl (tab_fits _ _) ?_)
    | ((with_reducible refine wpStop (o := ⟨none, Op.store 95 _ _, _, _, _, _⟩) ?_); refine ⟨?_⟩; refine wpList_store_mid rfl _ _ _ rfl g (off + k * 33) (tabL ps.length (tv ps.length fl)).toArray rfl rfl (by rw [List.size_toArray, tabL_length]; obtain ⟨g', off', hA, _, hth⟩ := netL_there (HO2.out.below HB4.out) hlt; injection hA with hA; injection hA with h1 h2; subst h1; subst h2; exact hth) (tab_fits _ _) (tab_all _ _) ?_))
  have HOS := Lib.hid (netL_set (fl := fl) (HO2.out.below HB4.out) hlt HBG.out)
  have HTX := netText_any (some ⟨g, off, none⟩) c (ps.set k fl) _ (Lib.hid HOS.out.rd) HON (by rw [List.length_set]; omega)
  rw [List.length_set] at HTX
  have HTX2 := Lib.hid HTX
  clear HTX
  refine HTX2.out.mono ?_
  rintro e w5 ⟨rfl, hB5⟩
  go_wp2
  go_ret2
  have hBB : Below w.heap.size w (w4.setCells g (off + k * 33) (tabL ps.length (tv ps.length fl))) := below_setC HBG.out _ _ _ (HB2.out.trans (HB4.out.mono HB2.out.size))
  exact ⟨rfl, hBB.trans (hB5.mono hBB.size)⟩

set_option maxHeartbeats 2000000 in
set_option maxRecDepth 100000 in
theorem WithRule_any (s : ByteArray) (t : Int) (fl : List UInt8) (w : World) (hm : Hid (HasM w)) (hs : s.size ≤ 1073741824) (hl : fl.length ≤ 1073741824) :
    Calls Tryd.prog 47 #[.string s, .int .i64 t, .string ⟨fl.toArray⟩] w fun e w' => e = .returned (txtV (witN (cutL s.data.toList) t fl) (okW (cutL s.data.toList) t fl)) ∧ Below w.heap.size w w' := by
  by_cases h : okW (cutL s.data.toList) t fl = true
  · obtain ⟨hsw, _⟩ := okW_true h
    obtain ⟨_, k, rfl, _⟩ := okSw_true hsw
    rw [witN_yes h, h]
    exact WithRule_ok s k fl w hm hs hl (Lib.hid h)
  · obtain ⟨ps, HPS⟩ : ∃ ps, Hid (ps = cutL s.data.toList) := ⟨_, Lib.hid rfl⟩
    rw [← HPS.out] at h ⊢
    have HW : Hid (okW ps t fl = false) := Lib.hid (by simpa using h)
    have HV := Lib.hid (witN_no HW.out)
    clear h
    obtain ⟨m, b, htb, hmt⟩ := tabOf_any fl
    have HTB := Lib.hid htb
    have HMT := Lib.hid hmt
    clear htb hmt
    by_cases hsw : okSw ps t = true
    · have HSW := Lib.hid hsw
      by_cases hT : okT fl = true
      · have HT := Lib.hid hT
        have hne : ¬ m = ps.length := fun e => by
          have := HW.out
          rw [okW, hsw, hT, ← HMT.out hT, e] at this
          simp at this
        have hm5 : m ≤ 5 := by have := okT_true hT; rw [HMT.out hT]; omega
        have hd : ((m : Int) != (ps.length : Int)) = true := by simp; omega
        clear hsw hT
        go_enter Tryd.func47, Tryd.ntmps47
        go_wp2_with fail
        refine (switchOf_any s t w hm hs).mono ?_
        rintro e w1 ⟨⟨A, j, c, rfl, himp⟩, hB1⟩
        rw [← HPS.out] at himp ⊢
        obtain ⟨rfl, hc, hO⟩ := himp HSW.out
        rw [HSW.out]
        have HB1 := Lib.hid hB1
        clear hO himp hB1
        go_wp2_with fail
        refine (readTableL fl w1 (by omega)).mono ?_
        rintro e w2 ⟨rfl, hB2⟩
        rw [HT.out, HTB.out]
        have HB2 : Hid (Below w.heap.size w w2) := Lib.hid (HB1.out.trans (hB2.mono HB1.out.size))
        clear hB2
        go_wp2_with (first
          | ((with_reducible refine wpStop (o := ⟨some 10, _, _, _, _, _⟩) ?_); refine ⟨?_⟩; refine wpList_alloc_blk rfl _ rfl _ (tab_alloc _) ?_; intro g3 w3 hg3 hb3 hB3; have HB3 : Hid (Below w2.heap.size w2 w3) := (Lib.hid (hB3 _ (Nat.le_refl _))); clear hB3)
          | ((with_reducible refine wpStop (o := ⟨none, Op.store 95 _ _, _, _, _, _⟩) ?_); refine ⟨?_⟩; refine wpList_store_blk rfl _ _ _ rfl rfl rfl hb3 (tab_fits _ _) (tab_same _ _ _ _) (tab_all _ _) ?_; intro w4 hb4 ho4; have HB4 : Hid (Below w2.heap.size w2 w4) := (Lib.hid (HB3.out.trans (Below.of_grown ho4 hg3 HB3.out.size))); have hc4 : w4.cell? ⟨g3, 0, none⟩ = some (.int .i64 (m : Int)) := (by rw [hb4.cell, List.getElem?_toArray, tabL_n]); clear ho4))
        go_ret2
        exact ⟨by rw [HV.out, HW.out]; rfl, HB2.out.trans (HB4.out.mono HB2.out.size)⟩
      · have HT : Hid (okT fl = false) := Lib.hid (by simpa using hT)
        clear hsw hT
        go_enter Tryd.func47, Tryd.ntmps47
        go_wp2_with fail
        refine (switchOf_any s t w hm hs).mono ?_
        rintro e w1 ⟨⟨A, j, c, rfl, himp⟩, hB1⟩
        rw [← HPS.out] at himp ⊢
        obtain ⟨rfl, hc, hO⟩ := himp HSW.out
        rw [HSW.out]
        have HB1 := Lib.hid hB1
        clear hO himp hB1
        go_wp2_with fail
        refine (readTableL fl w1 (by omega)).mono ?_
        rintro e w2 ⟨rfl, hB2⟩
        rw [HT.out, HTB.out]
        have HB2 : Hid (Below w.heap.size w w2) := Lib.hid (HB1.out.trans (hB2.mono HB1.out.size))
        clear hB2
        go_wp2_with (first
          | ((with_reducible refine wpStop (o := ⟨some 10, _, _, _, _, _⟩) ?_); refine ⟨?_⟩; refine wpList_alloc_blk rfl _ rfl _ (tab_alloc _) ?_; intro g3 w3 hg3 hb3 hB3; have HB3 : Hid (Below w2.heap.size w2 w3) := (Lib.hid (hB3 _ (Nat.le_refl _))); clear hB3)
          | ((with_reducible refine wpStop (o := ⟨none, Op.store 95 _ _, _, _, _, _⟩) ?_); refine ⟨?_⟩; refine wpList_store_blk rfl _ _ _ rfl rfl rfl hb3 (tab_fits _ _) (tab_same _ _ _ _) (tab_all _ _) ?_; intro w4 hb4 ho4; have HB4 : Hid (Below w2.heap.size w2 w4) := (Lib.hid (HB3.out.trans (Below.of_grown ho4 hg3 HB3.out.size))); clear ho4))
        go_ret2
        exact ⟨by rw [HV.out, HW.out]; rfl, HB2.out.trans (HB4.out.mono HB2.out.size)⟩
    · have HSW : Hid (okSw ps t = false) := Lib.hid (by simpa using hsw)
      obtain ⟨q, HT⟩ : ∃ q, Hid (okT fl = q) := ⟨_, Lib.hid rfl⟩
      clear hsw
      go_enter Tryd.func47, Tryd.ntmps47
      go_wp2_with fail
      refine (switchOf_any s t w hm hs).mono ?_
      rintro e w1 ⟨⟨A, j, c, rfl, himp⟩, hB1⟩
      rw [← HPS.out] at himp ⊢
      rw [HSW.out]
      have HB1 := Lib.hid hB1
      clear himp hB1
      go_wp2_with fail
      refine (readTableL fl w1 (by omega)).mono ?_
      rintro e w2 ⟨rfl, hB2⟩
      rw [HT.out, HTB.out]
      have HB2 : Hid (Below w.heap.size w w2) := Lib.hid (HB1.out.trans (hB2.mono HB1.out.size))
      clear hB2
      go_wp2_with (first
        | ((with_reducible refine wpStop (o := ⟨some 10, _, _, _, _, _⟩) ?_); refine ⟨?_⟩; refine wpList_alloc_blk rfl _ rfl _ (tab_alloc _) ?_; intro g3 w3 hg3 hb3 hB3; have HB3 : Hid (Below w2.heap.size w2 w3) := (Lib.hid (hB3 _ (Nat.le_refl _))); clear hB3)
        | ((with_reducible refine wpStop (o := ⟨none, Op.store 95 _ _, _, _, _, _⟩) ?_); refine ⟨?_⟩; refine wpList_store_blk rfl _ _ _ rfl rfl rfl hb3 (tab_fits _ _) (tab_same _ _ _ _) (tab_all _ _) ?_; intro w4 hb4 ho4; have HB4 : Hid (Below w2.heap.size w2 w4) := (Lib.hid (HB3.out.trans (Below.of_grown ho4 hg3 HB3.out.size))); clear ho4))
      go_ret2
      exact ⟨by rw [HV.out, HW.out]; rfl, HB2.out.trans (HB4.out.mono HB2.out.size)⟩

end Go.Proofs.YtpehimjngofnkaaDoor
