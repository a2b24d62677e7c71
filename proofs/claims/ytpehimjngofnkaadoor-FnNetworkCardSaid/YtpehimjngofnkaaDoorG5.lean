/- Walks and plain facts, joined: Q1 Yg. -/
import Derived.Test.YtpehimjngofnkaaDoorProg
import Derived.WalkKit
import Derived.WalkSpells
import Derived.WalkLawsBesides
import Derived.Lib.Hide
import Derived.Deep.QuietTactic
import Derived.Deep.LoopGhost
import Derived.Maps.Own
import Derived.Maps.OwnOps
import Derived.Maps.RangeWalk
import Derived.BigQuiet
import Derived.Carry
import Derived.Test.YtpehimjngofnkaaDoorG4
import Derived.Test.YtpehimjngofnkaaDoorG2
import Derived.Test.YtpehimjngofnkaaDoorG1
/- Walks: the attractors of a network on both sides. -/
namespace Go.Proofs.YtpehimjngofnkaaDoor
open Go.RowKit
set_option linter.unusedVariables false

theorem lea_low {rb : Nat → Nat → Bool} {N s : Nat} (h : RB rb N) (hs : s < N) : lea rb N s = s ↔ low rb s = true := by
  constructor
  · intro e
    obtain ⟨_, _, h3⟩ := lea_all h hs
    exact low_iff.2 fun t ht => h3 t (by rw [e]; exact ht)
  · intro h1
    obtain ⟨l, hl⟩ := sel_low h hs h1
    rw [lea, hl]; rfl
theorem lea_head {rb : Nat → Nat → Bool} {N s : Nat} (h : RB rb N) (hs : s < N) : (ints (sel N (rb s)))[0]? = some ((lea rb N s : Nat) : Int) := by
  have hm : s ∈ sel N (rb s) := mem_sel.2 ⟨hs, h.refl s hs⟩
  unfold lea
  cases hl : sel N (rb s) with
  | nil => rw [hl] at hm; simp at hm
  | cons a l => rfl

set_option maxHeartbeats 1000000 in
set_option maxRecDepth 100000 in
theorem l5Attractors_any (A : Option Addr) (c N : Nat) (ps : List (List UInt8)) (w : World) (hx : Hid (Rd w A (strs ps))) (hok : Hid (okN ps = true)) (HN : Hid (N = 2 ^ ps.length)) :
    Calls Tryd.prog 64 #[.slice A ps.length c] w fun e w' => RetLL w.heap.size (attTo (rbN ps) N N) e w' ∧ Below w.heap.size w w' := by
  have hn5 := okN_le hok.out
  have hN32 : N ≤ 32 := by rw [HN.out]; exact two_le _ hn5
  have hN0 : 0 < N := by rw [HN.out]; exact Nat.two_pow_pos _
  have HRB := Lib.hid (rbN_rb hok.out HN.out)
  have hBe : Below w.heap.size w (w.alloc (.cells #[] 22)) := (Below.refl _ _).alloc (Nat.le_refl _) _
  have hOE := OV.empty w w.heap.size 22 (Nat.le_refl _)
  go_enter Tryd.func64, Tryd.ntmps64
  go_wp2_with fail
  go_loopw [3, 4] (fun v i wr => ∃ (k : Nat) (gs : List Nat) (ys : List Value), k ≤ N ∧ i = .int .i64 k ∧ Hid (OV wr w.heap.size 22 v ys ∧ LL wr w.heap.size v gs ys (attTo (rbN ps) N k)) ∧ Hid (Below w.heap.size w wr)) (fun _ i _ => N - (intOf i).toNat)
  case atStart => exact ⟨0, [], [], Nat.zero_le _, rfl, Lib.hid ⟨hOE, LL.nil _ _ _⟩, Lib.hid hBe⟩
  case round =>
    clear hOE hBe
    obtain ⟨k, gs, ys, hk, rfl, HO, HB⟩ := hrel
    have hzr := HB.out.size
    have hyl : ys.length ≤ 32 := by rw [HO.out.2.len]; have := attTo_len (rbN ps) N k; omega
    by_cases hlt : k < N
    · by_cases hst : std (rbN ps) N k = true
      · have HST := Lib.hid hst
        obtain ⟨l, HCY⟩ : ∃ l, Hid (l = ints (sel N (rbN ps k))) := ⟨_, rfl⟩
        obtain ⟨c0, HC0⟩ : ∃ x, Hid (x = lea (rbN ps) N k) := ⟨_, rfl⟩
        have hl0 : l[0]? = some ((c0 : Nat) : Int) := by rw [HCY.out, HC0.out]; exact lea_head HRB.out hlt
        have hlp : 0 < l.length := (List.getElem?_eq_some_iff.1 hl0).1
        have HL0 := Lib.hid hl0
        clear hl0 hst
        go_wp2_with (go_at_call 105; refine (l3All_any _ _ _ N _ hn5 HN).mono ?_; rintro e w2 ⟨rfl, rfl⟩)
        refine (l5Steady_any _ _ _ N _ _ (Lib.hid (hx.out.below HB.out)) hok HN hlt).mono ?_
        rintro e w1 ⟨rfl, hB1⟩
        rw [HST.out]
        have hz1 := hB1.size
        have HB1 := Lib.hid (HB.out.trans (hB1.mono hzr))
        go_wp2_with fail
        refine (l5Reach_any _ _ _ N _ _ (Lib.hid (hx.out.below HB1.out)) hok HN hlt).mono ?_
        rintro e w2 ⟨⟨A2, c2, rfl, hc2, hO2⟩, hB2⟩
        have hz2 := hB2.size
        have HB2 := Lib.hid (HB1.out.trans (hB2.mono (by omega)))
        have HR2 := Lib.hid hO2.rd
        clear hO2
        go_wp2_with fail
        refine (l5Sorted_any _ _ _ _ _ HR2 hN32).mono ?_
        rw [← HCY.out]
        rintro e wb ⟨⟨A3, c3, rfl, hc3, hO3⟩, hBb⟩
        have hzb := hBb.size
        obtain ⟨g, off, hA3, hcell⟩ := hO3.rd.at_ (k := 0) (v := .int .i64 (c0 : Int)) (by rw [List.getElem?_map, HL0.out]; rfl)
        subst hA3
        rw [Nat.add_zero] at hcell
        have hg : w2.heap.size ≤ g ∧ g < wb.heap.size := by
          refine ⟨?_, World.block_lt_of_cell? wb _ hcell⟩
          rcases hO3 with h2 | ⟨g', off', hA', hB', _⟩
          · exact absurd h2 (by intro e; have := congrArg List.length e; rw [List.length_map, List.length_nil] at this; omega)
          · simp only [Option.some.injEq, Addr.mk.injEq] at hA'; omega
        have hBrb : Below wr.heap.size wr wb := hB1.trans ((hB2.mono hz1).trans (hBb.mono (by omega)))
        have HO2 := Lib.hid (And.intro (HO.out.1.below hBrb) (HO.out.2.below hBrb))
        have HOW := Lib.hid (hO3.mono (show w.heap.size ≤ _ by omega))
        have HNG := Lib.hid (And.intro (show g ∉ gs from fun hm => by have := (HO.out.2.lt g hm).2.1; omega) (own_ne HO.out.1 (show wr.heap.size ≤ g by omega)))
        have HBb := Lib.hid (HB.out.trans (hBrb.mono hzr))
        clear hO3 hBrb hBb
        by_cases he : c0 = k
        · have HS : Hid (attTo (rbN ps) N (k + 1) = attTo (rbN ps) N k ++ [l]) := Lib.hid (by rw [HCY.out]; exact attTo_yes (att_iff.2 ⟨HST.out, (lea_low HRB.out hlt).1 (by rw [← HC0.out]; exact he)⟩))
          have hd : ((c0 : Int) == (k : Int)) = true := by rw [he]; simp
          go_wp2_with (at_builtin; refine wp_pushL rfl _ _ _ rfl Tryd.underlying27 info_sl rfl HO2.out.1 rfl rfl (by omega) (by omega) ?_; intro v' w3 hown hbel hsz3 hblk)
          go_roundw
          case rel =>
            refine ⟨k + 1, gs ++ [g], ys ++ [.slice (some ⟨g, off, none⟩) l.length c3], by omega, by go_num, Lib.hid ⟨hown, ?_⟩, Lib.hid (HBb.out.trans (hbel _ (Nat.le_refl _)))⟩
            rw [HS.out]
            have h1 := HO2.out.2.snoc (c := c3) HNG.out.1 (by omega) hg.2 HNG.out.2 hc3 HOW.out
            refine h1.blk (fun x hx => ?_) hsz3
            have h2 := h1.lt x hx
            exact hblk x h2.2.1 h2.2.2
          case measure => simp [intOf]; omega
        · have HS : Hid (attTo (rbN ps) N (k + 1) = attTo (rbN ps) N k) := Lib.hid (attTo_no (by
            cases ha : att (rbN ps) N k
            · rfl
            · exact absurd ((lea_low HRB.out hlt).2 (att_iff.1 ha).2) (by rw [← HC0.out]; exact he)))
          have hd : ((c0 : Int) == (k : Int)) = false := by rw [beq_eq_false_iff_ne]; omega
          go_wp2_with fail
          go_roundw
          case rel => exact ⟨k + 1, gs, ys, by omega, by go_num, Lib.hid ⟨HO2.out.1, by rw [HS.out]; exact HO2.out.2⟩, HBb⟩
          case measure => simp [intOf]; omega
      · have HST : Hid (std (rbN ps) N k = false) := Lib.hid (by simpa using hst)
        have HS : Hid (attTo (rbN ps) N (k + 1) = attTo (rbN ps) N k) := Lib.hid (attTo_no (by rw [att, HST.out]; rfl))
        clear hst
        go_wp2_with (go_at_call 105; refine (l3All_any _ _ _ N _ hn5 HN).mono ?_; rintro e w2 ⟨rfl, rfl⟩)
        refine (l5Steady_any _ _ _ N _ _ (Lib.hid (hx.out.below HB.out)) hok HN hlt).mono ?_
        rintro e w1 ⟨rfl, hB1⟩
        rw [HST.out]
        have HB1 := Lib.hid (HB.out.trans (hB1.mono hzr))
        have HO2 := Lib.hid (And.intro (HO.out.1.below hB1) (HO.out.2.below hB1))
        go_wp2_with fail
        go_roundw
        case rel => exact ⟨k + 1, gs, ys, by omega, by go_num, Lib.hid ⟨HO2.out.1, by rw [HS.out]; exact HO2.out.2⟩, HB1⟩
        case measure => simp [intOf]; omega
    · have hkn : k = N := by omega
      subst hkn
      have HFI := HO.out.1
      obtain ⟨A', c', rfl, hc', hO'⟩ := HFI.form
      have HLL := Lib.hid HO.out.2
      have HLE : Hid (ys.length = (attTo (rbN ps) k k).length) := Lib.hid HO.out.2.len
      rw [HLE.out] at hc' HLL ⊢
      have HOO := Lib.hid hO'
      clear HFI hO'
      go_wp2_with (go_at_call 105; refine (l3All_any _ _ _ k _ hn5 HN).mono ?_; rintro e w2 ⟨rfl, rfl⟩)
      go_ret
      exact ⟨⟨A', c', gs, ys, rfl, hc', HOO.out, HLL.out⟩, HB.out⟩

theorem sAttractorsOf_any (s : ByteArray) (w : World) (hs : s.size ≤ 1073741824) :
    Calls Tryd.prog 20 #[.string s] w fun e w' => RetLL w.heap.size (attN (cutL s.data.toList)) e w' ∧ Below w.heap.size w w' := by
  obtain ⟨ps, HPS⟩ : ∃ ps, Hid (ps = cutL s.data.toList) := ⟨_, rfl⟩
  rw [← HPS.out]
  by_cases h : okN ps = true
  · have HOK := Lib.hid h
    obtain ⟨N, HN⟩ : ∃ N : Nat, Hid (N = 2 ^ ps.length) := ⟨_, rfl⟩
    have HV := Lib.hid (attN_yes h HN.out)
    clear h
    go_enter Tryd.func20, Tryd.ntmps20
    go_wp2_with fail
    refine (l3Open_any s _ hs).mono ?_
    rintro e w1 ⟨⟨A, k0, c, rfl, himp⟩, hB1⟩
    rw [← HPS.out] at himp ⊢
    obtain ⟨rfl, hc, hO⟩ := himp HOK.out
    rw [HOK.out]
    have hz1 := hB1.size
    have HR := Lib.hid hO.rd
    clear hO himp
    go_wp2_with fail
    refine (l5Attractors_any _ _ N _ _ HR HOK HN).mono ?_
    rintro e w2 ⟨⟨A3, c3, gs, ys, rfl, hc3, hO3, hL3⟩, hB2⟩
    have HO3 := Lib.hid (And.intro (hO3.mono hz1) (hL3.mono hz1))
    clear hO3 hL3
    go_wp2
    go_ret
    exact ⟨⟨A3, c3, gs, ys, by rw [HV.out]; rfl, by rw [HV.out]; exact hc3, HO3.out.1, by rw [HV.out]; exact HO3.out.2⟩, hB1.trans (hB2.mono hz1)⟩
  · have HOK : Hid (okN ps = false) := Lib.hid (by simpa using h)
    have HV := Lib.hid (attN_no HOK.out)
    clear h
    go_enter Tryd.func20, Tryd.ntmps20
    go_wp2_with fail
    refine (l3Open_any s _ hs).mono ?_
    rintro e w1 ⟨⟨A, k0, c, rfl, himp⟩, hB1⟩
    clear himp
    rw [← HPS.out, HOK.out]
    have hz1 := hB1.size
    go_wp2
    go_ret
    exact ⟨⟨some ⟨w1.heap.size, 0, none⟩, 0, [], [], by rw [HV.out]; rfl, by rw [HV.out]; exact Nat.le_refl _, .inl rfl, by rw [HV.out]; exact LL.nil _ _ _⟩, hB1.alloc (by omega) _⟩

theorem OV.heap {w w' : World} {B : Nat} {e : TypeId} {v : Value} {ys : List Value} (h : OV w B e v ys) (hb : ∀ g, v.ownBlock = some g → w'.heap[g]? = w.heap[g]?) : OV w' B e v ys := by
  rcases h.2 with ⟨rfl, h0⟩ | ⟨g, cap, cur, rfl, hB, hg, rest⟩
  · exact ⟨h.1, .inl ⟨rfl, h0⟩⟩
  · exact ⟨h.1, .inr ⟨g, cap, cur, rfl, hB, (hb g rfl).trans hg, rest⟩⟩
theorem mark_next {rb : Nat → Nat → Bool} {N k : Nat} (h : RB rb N) (hk : k < N) (hd : doneB rb N k k = false) (hs : std rb N k = true) (t : Nat) : doneB rb N (k + 1) t = (doneB rb N k t || rb k t) := by
  rw [doneB_next, (att_skip h hk).1 ⟨hd, hs⟩, Bool.true_and]
theorem mark_done {rb : Nat → Nat → Bool} {N k : Nat} (h : RB rb N) (hk : k < N) (hd : doneB rb N k k = true) : att rb N k = false := by
  cases ha : att rb N k
  · rfl
  · have := ((att_skip h hk).2 ha).1
    rw [hd] at this; cases this
theorem mark_no2 {rb : Nat → Nat → Bool} {N k : Nat} (hs : std rb N k = false) : att rb N k = false := by rw [att, hs]; rfl
theorem done_no {rb : Nat → Nat → Bool} {N k t : Nat} (ha : att rb N k = false) : doneB rb N (k + 1) t = doneB rb N k t := by rw [doneB_next, ha, Bool.false_and, Bool.or_false]

theorem attractors1_any (b p5 k : Nat) (ks : List Int) (w : World) (h5 : w.cell? ⟨p5, 0, none⟩ = some (.map (some b))) (hS : Hid (SetAt w b ks)) :
    Calls Tryd.prog 111 #[.int .i64 (k : Int), .pointer (some ⟨p5, 0, none⟩)] w fun e w' => e = .returned (.bool (decide ((k : Int) ∈ ks))) ∧ w = w' := by
  have hrun := set_look hS.out (k : Int)
  obtain ⟨q, hq⟩ : ∃ q, q = decide ((k : Int) ∈ ks) := ⟨_, rfl⟩
  rw [← hq] at hrun ⊢
  clear hq
  go_enter Tryd.func111, Tryd.ntmps111
  go_wp2
  go_ret
  exact ⟨rfl, rfl⟩

set_option maxHeartbeats 4000000 in
set_option maxRecDepth 100000 in
theorem attractors_any (A : Option Addr) (c N : Nat) (ps : List (List UInt8)) (w : World) (hx : Hid (Rd w A (netL ps))) (hok : Hid (okN ps = true)) (HN : Hid (N = 2 ^ ps.length)) :
    Calls Tryd.prog 65 #[.slice A ps.length c] w fun e w' => RetLL w.heap.size (attTo (rbN ps) N N) e w' ∧ Below w.heap.size w w' := by
  have hn5 := okN_le hok.out
  have hN32 : N ≤ 32 := by rw [HN.out]; exact two_le _ hn5
  have HRB := Lib.hid (rbN_rb hok.out HN.out)
  have HF1 := Lib.hid (fun (args : Array Value) (W : World) => (show (callFunc 111 args).run Tryd.prog W = .ok (.enter 111 args) W by kernel_rfl))
  have hmm := @run_makeMap Tryd.prog
  obtain ⟨B, HBd⟩ : ∃ B, Hid (B = w.heap.size) := ⟨_, rfl⟩
  have hBe : Below w.heap.size w (w.alloc (.map #[] 0)) := (Below.refl _ _).alloc (Nat.le_refl _) _
  have hS0 := SetAt.made w
  rw [← HBd.out] at hS0 hBe ⊢
  go_enter Tryd.func65, Tryd.ntmps65
  go_wp2_with (go_at_call 76; refine (states_any _ _ _ N _ hn5 HN).mono ?_; rintro e w2 ⟨rfl, rfl⟩)
  rw [← HBd.out]
  go_loopw [3, 11] (fun v i wr => ∃ (k : Nat) (gs : List Nat) (ys : List Value) (ms : List Int), k ≤ N ∧ i = .int .i64 k ∧ Hid (OV wr (B + 1) 22 v ys ∧ LL wr (B + 1) v gs ys (attTo (rbN ps) N k)) ∧ Hid (SetAt wr B ms) ∧ Hid (∀ t, t < N → decide ((t : Int) ∈ ms) = doneB (rbN ps) N k t) ∧ Hid (Below B w wr)) (fun _ i _ => N - (intOf i).toNat)
  case atStart => exact ⟨0, [], [], [], Nat.zero_le _, rfl, Lib.hid ⟨OV.nil _ _ _, LL.nil _ _ _⟩, Lib.hid hS0, Lib.hid (fun t _ => rfl), Lib.hid hBe⟩
  case round =>
    clear hS0 hBe
    obtain ⟨k, gs, ys, ms, hk, rfl, HO, HS, HM, HB⟩ := hrel
    have hzr := HB.out.size
    have hbl := HS.out.lt
    have hyl : ys.length ≤ 32 := by rw [HO.out.2.len]; have := attTo_len (rbN ps) N k; omega
    by_cases hlt : k < N
    · have hlk := set_look HS.out (k : Int)
      rw [HM.out k hlt] at hlk
      have HR := Lib.hid (hx.out.below (show Below w.heap.size w wr by rw [← HBd.out]; exact HB.out))
      by_cases hdn : doneB (rbN ps) N k k = true
      · have HA := Lib.hid (mark_done HRB.out hlt hdn)
        rw [hdn] at hlk
        clear hdn
        have HS2 : Hid (attTo (rbN ps) N (k + 1) = attTo (rbN ps) N k) := Lib.hid (attTo_no HA.out)
        have HM2 : Hid (∀ t, t < N → decide ((t : Int) ∈ ms) = doneB (rbN ps) N (k + 1) t) := Lib.hid (fun t ht => by rw [done_no HA.out]; exact HM.out t ht)
        go_wp2_with fail
        go_roundw
        case rel => exact ⟨k + 1, gs, ys, ms, by omega, by go_num, by rw [HS2.out]; exact HO, HS, HM2, HB⟩
        case measure => simp [intOf]; omega
      · have hdn' : doneB (rbN ps) N k k = false := by simpa using hdn
        have HD := Lib.hid hdn'
        rw [hdn'] at hlk
        clear hdn hdn'
        by_cases hst : std (rbN ps) N k = true
        · have HST := Lib.hid hst
          clear hst
          have HA := Lib.hid ((att_skip HRB.out hlt).1 ⟨HD.out, HST.out⟩)
          obtain ⟨l, HCY⟩ : ∃ l, Hid (l = ints (sel N (rbN ps k))) := ⟨_, rfl⟩
          have HS2 : Hid (attTo (rbN ps) N (k + 1) = attTo (rbN ps) N k ++ [l]) := Lib.hid (by rw [HCY.out]; exact attTo_yes HA.out)
          have hl0 : l[0]? = some ((k : Nat) : Int) := by rw [HCY.out]; exact att_head HRB.out hlt HA.out
          have hlp : 0 < l.length := (List.getElem?_eq_some_iff.1 hl0).1
          have HL0 := Lib.hid hl0
          clear hl0
          go_wp2_with fail
          refine (steady_any _ _ _ N _ _ HR hok HN hlt).mono ?_
          rintro e w1 ⟨rfl, hB1⟩
          rw [HST.out]
          have hz1 := hB1.size
          go_wp2_with fail
          refine (reach_any _ _ _ N _ _ (Lib.hid (HR.out.below hB1)) hok HN hlt).mono ?_
          rintro e w2 ⟨⟨b, met, rfl, hb, hSb, hml, hMb⟩, hB2⟩
          have hz2 := hB2.size
          have hbb := hSb.lt
          have HSb := Lib.hid hSb
          have HML := Lib.hid hml
          have HMB := Lib.hid hMb
          have hBr2 : Below wr.heap.size wr w2 := hB1.trans (hB2.mono hz1)
          clear hSb hml hMb hB1 hB2
          have HX := Blk.new w2 62 #[.map (some b)]
          have hBn : Below w2.heap.size w2 (w2.alloc (.cells #[.map (some b)] 62)) := (Below.refl _ _).alloc (Nat.le_refl _) _
          have hzn : (w2.alloc (.cells #[.map (some b)] 62)).heap.size = w2.heap.size + 1 := alloc_size _ _
          have hSn := HSb.out.below hBn
          obtain ⟨p6, HP6⟩ : ∃ p, Hid (p = w2.heap.size) := ⟨_, rfl⟩
          have hp6 : w2.heap.size ≤ p6 ∧ p6 ≤ w2.heap.size := by rw [HP6.out]; omega
          have hBr3 : Below wr.heap.size wr (w2.alloc (.cells #[.map (some b)] 62)) := hBr2.trans (hBn.mono (by omega))
          rw [← HP6.out] at HX
          have HZN := Lib.hid hzn
          clear hzn
          go_wp2_with (at_range; refine wpList_range_set rfl _ rfl rfl hSn ?_; intro r w3 hr hR3 hB3 hz3)
          rw [HZN.out] at hr hz3
          have hpr : p6 < r := by omega
          have hr3 : r < w3.heap.size := by omega
          have hBr3z : wr.heap.size ≤ w2.heap.size + 1 := by omega
          clear hr
          have HR3 := Lib.hid hR3
          have HX3 := Lib.hid (HX.keep hB3)
          have hBr : Below wr.heap.size wr w3 := hBr3.trans (hB3.mono (by rw [HZN.out]; omega))
          have HO3 := Lib.hid (And.intro (HO.out.1.below hBr) (HO.out.2.below hBr))
          have HS3 := Lib.hid (HS.out.below hBr)
          have HBw3 := Lib.hid (HB.out.trans (hBr.mono (by have := HBd.out; omega)))
          have hOwn : ∀ g, u3.ownBlock = some g → B + 1 ≤ g ∧ g < wr.heap.size := fun g hg => HO.out.1.own_lt hg
          have hGs : ∀ g ∈ gs, B + 1 ≤ g ∧ g < wr.heap.size := fun g hg => ⟨(HO.out.2.lt g hg).1, (HO.out.2.lt g hg).2.1⟩
          have HOW := Lib.hid hOwn
          have HGS := Lib.hid hGs
          have hzw3 : wr.heap.size ≤ w3.heap.size := hBr.size
          rw [← HBd.out] at hzr
          clear hR3 hB3 HX hBn hSn hBr3 hBr2 hBr hOwn hGs
          obtain ⟨wo, rfl⟩ : ∃ x, x = wr := ⟨_, rfl⟩
          go_frame
          go_loopg [7] met.length (fun gk _ wq => ∃ (todo ms : List Int), todo.length ≤ gk ∧ Hid (RngAt wq r b (ints met) todo) ∧ Hid (SetAt wq B ms) ∧ Hid (∀ t, t < N → ((t : Int) ∈ ms → doneB (rbN ps) N k t = true ∨ rbN ps k t = true) ∧ (doneB (rbN ps) N k t = true → (t : Int) ∈ ms) ∧ (rbN ps k t = true → (t : Int) ∈ ms ∨ (t : Int) ∈ todo)) ∧ Hid (∀ x ∈ todo, ∃ t ∈ met, x = (t : Int)) ∧ Hid (∀ g, g < w3.heap.size → g ≠ B → g ≠ r → wq.heap[g]? = w3.heap[g]?) ∧ Hid (Below B w wq) ∧ w3.heap.size ≤ wq.heap.size)
          case atStart =>
            refine ⟨ints met, ms, by rw [ints_length]; exact Nat.le_refl _, HR3, HS3, Lib.hid (fun t ht => ?_), Lib.hid (fun x hx => by simp only [ints, List.mem_map] at hx; obtain ⟨t, ht, e⟩ := hx; exact ⟨t, ht, e.symm⟩), Lib.hid (fun g _ _ _ => rfl), HBw3, Nat.le_refl _⟩
            have h0 := HM.out t ht
            have h1 := HMB.out t
            refine ⟨fun h => .inl (by rw [← h0]; exact decide_eq_true h), fun h => by rw [h] at h0; exact of_decide_eq_true h0, fun h => .inr (mem_ints.2 (by rw [h] at h1; exact of_decide_eq_true h1))⟩
          case round =>
            clear HR3 HS3 HM HBw3
            obtain ⟨todo, ms2, htl, HRQ, HSQ, HMQ, HTQ, HFQ, HBQ, hzq⟩ := hrel
            obtain ⟨wq, rfl⟩ : ∃ x, x = wr := ⟨_, rfl⟩
            go_wp2_with (at_next; refine wpList_next_set rfl _ rfl rfl HRQ.out ?_ ?_)
            · intro h0
              subst h0
              have HM2 : Hid (∀ t, t < N → decide ((t : Int) ∈ ms2) = doneB (rbN ps) N (k + 1) t) := Lib.hid (fun t ht => by
                obtain ⟨h1, h2, h3⟩ := HMQ.out t ht
                rw [mark_next HRB.out hlt HD.out HST.out, Bool.eq_iff_iff, decide_eq_true_iff, Bool.or_eq_true]
                exact ⟨h1, fun h => h.elim h2 (fun h => (h3 h).resolve_right (by simp))⟩)
              have hSbq := HRQ.out.set_
              have hbq := hSbq.lt
              have HXQ : Hid (Blk wq p6 62 #[.map (some b)]) := Lib.hid ((HFQ.out p6 (by omega) (by omega) (by omega)).trans HX3.out)
              have HSBQ := Lib.hid hSbq
              have HOQ := Lib.hid (And.intro (HO3.out.1.heap (fun g hg => by have := HOW.out g hg; exact HFQ.out g (by omega) (by omega) (by omega))) (HO3.out.2.blk (w' := wq) (v' := u3) (fun g hg => ⟨by have := HGS.out g hg; exact HFQ.out g (by omega) (by omega) (by omega), (HO3.out.2.lt g hg).2.2⟩) hzq))
              have HRN := Lib.hid (hx.out.below (show Below w.heap.size w wq by rw [← HBd.out]; exact HBQ.out))
              have HC : Hid (CloB wq N 111 #[.pointer (some ⟨p6, 0, none⟩)] (rbN ps k)) := Lib.hid (fun j wX hj hBX => by
                have h := attractors1_any b p6 j (ints met) wX (((HXQ.out.keep hBX).cell 0).trans rfl) (Lib.hid (HSBQ.out.below hBX))
                have e : decide ((j : Int) ∈ ints met) = rbN ps k j := by rw [← HMB.out j, Bool.eq_iff_iff, decide_eq_true_iff, decide_eq_true_iff, mem_ints]
                rw [e] at h
                exact h.mono fun e w' ⟨h1, h2⟩ => ⟨h1, by rw [← h2]; exact Below.refl _ _⟩)
              rw [HP6.out] at HC
              clear hSbq HMQ HTQ
              go_wp2_with fail
              refine (which_any _ _ _ N _ _ _ _ hn5 HN HF1.out HC).mono ?_
              rw [← HCY.out]
              rintro e w5 ⟨⟨A5, c5, rfl, hc5, hO5⟩, hB5⟩
              have hz5 := hB5.size
              obtain ⟨g, off, hA5, hcell⟩ := hO5.rd.at_ (k := 0) (v := .int .i64 (k : Int)) (by rw [List.getElem?_map, HL0.out]; rfl)
              subst hA5
              have hg : wq.heap.size ≤ g ∧ g < w5.heap.size := by
                refine ⟨?_, World.block_lt_of_cell? w5 _ hcell⟩
                rcases hO5 with h2 | ⟨g', off', hA', hB', _⟩
                · exact absurd h2 (by intro e; have := congrArg List.length e; rw [List.length_map, List.length_nil] at this; omega)
                · simp only [Option.some.injEq, Addr.mk.injEq] at hA'; omega
              have HO5 := Lib.hid (And.intro (HOQ.out.1.below hB5) (HOQ.out.2.below hB5))
              have HOW5 := Lib.hid (hO5.mono (show B + 1 ≤ _ by omega))
              have HNG := Lib.hid (And.intro (show g ∉ gs from fun hm => by have := HGS.out g hm; omega) (own_ne HOQ.out.1 hg.1))
              have HS5 := Lib.hid (HSQ.out.below hB5)
              have HB5 := Lib.hid (HBQ.out.trans (hB5.mono (show B ≤ _ by omega)))
              clear hO5 hB5 HOQ HSQ
              go_wp2_with (at_builtin; refine wp_pushL rfl _ _ _ rfl Tryd.underlying27 info_sl rfl HO5.out.1 rfl rfl (by omega) (by omega) ?_; intro v' w7 hown hbel hsz7 hblk)
              go_roundw
              case rel =>
                refine ⟨k + 1, gs ++ [g], ys ++ [.slice (some ⟨g, off, none⟩) l.length c5], ms2, by omega, by go_num, Lib.hid ⟨hown, ?_⟩, Lib.hid (HS5.out.blk (hblk B (by omega) (fun e => by have := HOW.out B e; omega)).1), HM2, Lib.hid (HB5.out.trans (hbel B (by omega)))⟩
                rw [HS2.out]
                have h1 := HO5.out.2.snoc (c := c5) HNG.out.1 (by omega) hg.2 HNG.out.2 hc5 HOW5.out
                refine h1.blk (fun x hx => ?_) hsz7
                have h2 := h1.lt x hx
                exact hblk x h2.2.1 h2.2.2
              case measure => simp [intOf]; omega
            · intro x todo' w5 hk5 hlen hsub1 hsub2 hR5 hg5 hen
              obtain ⟨t, htm, rfl⟩ := HTQ.out x hk5
              have htN := HML.out t htm
              have hSb5 := hR5.set_
              have HS5 := Lib.hid (HSQ.out.blk (hg5.block B (by have := HSQ.out.lt; omega) (by intro e; injection e; omega)))
              have hz5 := hg5.size
              have HR5 := Lib.hid hR5
              have htr : rbN ps k t = true := by rw [← HMB.out t]; simpa using htm
              have HM5 : Hid (∀ u, u < N → ((u : Int) ∈ (if (t : Int) ∈ ms2 then ms2 else ms2 ++ [(t : Int)]) → doneB (rbN ps) N k u = true ∨ rbN ps k u = true) ∧ (doneB (rbN ps) N k u = true → (u : Int) ∈ (if (t : Int) ∈ ms2 then ms2 else ms2 ++ [(t : Int)])) ∧ (rbN ps k u = true → (u : Int) ∈ (if (t : Int) ∈ ms2 then ms2 else ms2 ++ [(t : Int)]) ∨ (u : Int) ∈ todo')) := Lib.hid (fun u hu => by
                obtain ⟨h1, h2, h3⟩ := HMQ.out u hu
                have hsub : (u : Int) ∈ ms2 → (u : Int) ∈ (if (t : Int) ∈ ms2 then ms2 else ms2 ++ [(t : Int)]) := fun h => by split; exact h; simp [h]
                have htt : (t : Int) ∈ (if (t : Int) ∈ ms2 then ms2 else ms2 ++ [(t : Int)]) := by split <;> simp_all
                refine ⟨fun h => ?_, fun h => hsub (h2 h), fun h => ?_⟩
                · by_cases e : u = t
                  · subst e; exact .inr htr
                  · refine h1 ?_
                    split at h
                    · exact h
                    · rcases List.mem_append.1 h with h | h
                      · exact h
                      · simp at h; omega
                · rcases h3 h with h4 | h4
                  · exact .inl (hsub h4)
                  · rcases hsub1 _ h4 with h5 | h5
                    · left; rw [h5]; exact htt
                    · exact .inr h5)
              have HT5 : Hid (∀ x ∈ todo', ∃ t ∈ met, x = (t : Int)) := Lib.hid (fun x hx => HTQ.out x (hsub2 x hx))
              have HF5 : Hid (∀ g, g < w3.heap.size → g ≠ B → g ≠ r → w5.heap[g]? = w3.heap[g]?) := Lib.hid (fun g h1 h2 h3 => (hg5.block g (by omega) (by intro e; injection e with e; exact h3 e)).trans (HFQ.out g h1 h2 h3))
              have HB5 := Lib.hid (HBQ.out.trans (Below.of_grown hg5 (show B ≤ r by omega) (show B ≤ _ by omega)))
              have hbB : b ≠ B := by omega
              have hrB : r ≠ B := by omega
              clear hk5 hsub1 hsub2 hR5 hg5 htr hSb5 HMQ HTQ HFQ HBQ
              go_wp2_with (at_mapUpdate; refine wpList_put rfl _ _ _ rfl rfl rfl rfl HS5.out ?_; intro w7 hS7 hg7)
              have hz7 := hg7.size
              go_roundg todo'.length
              case rel => exact ⟨todo', _, Nat.le_refl _, Lib.hid (HR5.out.blk (hg7.block b HR5.out.set_.lt (by intro e; injection e with e; exact hbB e)) (hg7.block r HR5.out.lt (by intro e; injection e with e; exact hrB e))), Lib.hid hS7, HM5, HT5, Lib.hid (fun g h1 h2 h3 => (hg7.block g (by omega) (by intro e; injection e with e; exact h2 e)).trans (HF5.out g h1 h2 h3)), Lib.hid (HB5.out.trans (Below.of_grown hg7 (Nat.le_refl _) (by have := HB5.out.size; omega))), by omega⟩
              case measure => omega
        · have HST : Hid (std (rbN ps) N k = false) := Lib.hid (by simpa using hst)
          clear hst
          have HA := Lib.hid (mark_no2 HST.out)
          have HS2 : Hid (attTo (rbN ps) N (k + 1) = attTo (rbN ps) N k) := Lib.hid (attTo_no HA.out)
          have HM2 : Hid (∀ t, t < N → decide ((t : Int) ∈ ms) = doneB (rbN ps) N (k + 1) t) := Lib.hid (fun t ht => by rw [done_no HA.out]; exact HM.out t ht)
          go_wp2_with fail
          refine (steady_any _ _ _ N _ _ HR hok HN hlt).mono ?_
          rintro e w1 ⟨rfl, hB1⟩
          rw [HST.out]
          have HO2 := Lib.hid (And.intro (HO.out.1.below hB1) (HO.out.2.below hB1))
          have HSS := Lib.hid (HS.out.below hB1)
          have HB2 := Lib.hid (HB.out.trans (hB1.mono (show B ≤ _ by omega)))
          go_wp2_with fail
          go_roundw
          case rel => exact ⟨k + 1, gs, ys, ms, by omega, by go_num, by rw [HS2.out]; exact HO2, HSS, HM2, HB2⟩
          case measure => simp [intOf]; omega
    · have hkn : k = N := by omega
      subst hkn
      have HFI := HO.out.1
      obtain ⟨A', c', rfl, hc', hO'⟩ := HFI.form
      have HLL := Lib.hid HO.out.2
      have HLE : Hid (ys.length = (attTo (rbN ps) k k).length) := Lib.hid HO.out.2.len
      rw [HLE.out] at hc' HLL ⊢
      have HOO := Lib.hid (And.intro (hO'.mono (show B ≤ B + 1 by omega)) (HLL.out.mono (show B ≤ B + 1 by omega)))
      clear HFI hO'
      go_wp2_with fail
      go_ret
      exact ⟨⟨A', c', gs, ys, rfl, hc', HOO.out.1, HOO.out.2⟩, HB.out⟩

theorem AttractorsOf_any (s : ByteArray) (w : World) (hm : Hid (HasM w)) (hs : s.size ≤ 1073741824) :
    Calls Tryd.prog 21 #[.string s] w fun e w' => RetLL w.heap.size (attN (cutL s.data.toList)) e w' ∧ Below w.heap.size w w' := by
  obtain ⟨ps, HPS⟩ : ∃ ps, Hid (ps = cutL s.data.toList) := ⟨_, rfl⟩
  rw [← HPS.out]
  by_cases h : okN ps = true
  · have HOK := Lib.hid h
    obtain ⟨N, HN⟩ : ∃ N : Nat, Hid (N = 2 ^ ps.length) := ⟨_, rfl⟩
    have HV := Lib.hid (attN_yes h HN.out)
    clear h
    go_enter Tryd.func21, Tryd.ntmps21
    go_wp2_with fail
    refine (readNetwork_any s w hm hs).mono ?_
    rintro e w1 ⟨⟨A, k0, c, rfl, himp⟩, hB1⟩
    rw [← HPS.out] at himp ⊢
    obtain ⟨rfl, hc, hO⟩ := himp HOK.out
    rw [HOK.out]
    have hz1 := hB1.size
    have HR := Lib.hid hO.rd
    clear hO himp
    go_wp2_with fail
    refine (attractors_any _ _ N _ _ HR HOK HN).mono ?_
    rintro e w2 ⟨⟨A3, c3, gs, ys, rfl, hc3, hO3, hL3⟩, hB2⟩
    have HO3 := Lib.hid (And.intro (hO3.mono hz1) (hL3.mono hz1))
    clear hO3 hL3
    go_wp2
    go_ret
    exact ⟨⟨A3, c3, gs, ys, by rw [HV.out]; rfl, by rw [HV.out]; exact hc3, HO3.out.1, by rw [HV.out]; exact HO3.out.2⟩, hB1.trans (hB2.mono hz1)⟩
  · have HOK : Hid (okN ps = false) := Lib.hid (by simpa using h)
    have HV := Lib.hid (attN_no HOK.out)
    clear h
    go_enter Tryd.func21, Tryd.ntmps21
    go_wp2_with fail
    refine (readNetwork_any s w hm hs).mono ?_
    rintro e w1 ⟨⟨A, k0, c, rfl, himp⟩, hB1⟩
    clear himp
    rw [← HPS.out, HOK.out]
    go_wp2
    go_ret
    exact ⟨⟨none, 0, [], [], by rw [HV.out]; rfl, by rw [HV.out]; exact Nat.le_refl _, .inl rfl, by rw [HV.out]; exact LL.nil _ _ _⟩, hB1⟩

end Go.Proofs.YtpehimjngofnkaaDoor

/- Walks of laws: the world under way, with the lists that can be read there. -/
namespace Go.Proofs.YtpehimjngofnkaaDoor
open Go.RowKit
set_option linter.unusedVariables false

/-- the world under way in a law: the cell of MaxLen is there, nothing that was there has changed, and the lists can be read -/
structure LawW (w0 w : World) (Ls : List (Option Addr × List Int)) : Prop where
  m : HasM w
  b : Below w0.heap.size w0 w
  r : ∀ x ∈ Ls, Rd w x.1 (x.2.map (Value.int .i64))
section
variable {w0 w w' : World} {Ls : List (Option Addr × List Int)}
theorem lw_step (h : Hid (LawW w0 w Ls)) (hb : Below w.heap.size w w') : Hid (LawW w0 w' Ls) :=
  Lib.hid ⟨h.out.m.below hb, h.out.b.trans (hb.mono h.out.b.size), fun x hx => (h.out.r x hx).below hb⟩
theorem lw_drew (h : Hid (LawW w0 w Ls)) (n : Nat) : Hid (LawW w0 (w.drewN n) Ls) := lw_step h (drewN_below _ n)
theorem lw_add {A : Option Addr} {L : List Int} (h : Hid (LawW w0 w Ls)) (hr : Rd w A (L.map (Value.int .i64))) : Hid (LawW w0 w ((A, L) :: Ls)) :=
  Lib.hid ⟨h.out.m, h.out.b, fun x hx => (List.mem_cons.1 hx).elim (fun e => e ▸ hr) (h.out.r x)⟩
theorem lw_m (h : Hid (LawW w0 w Ls)) : Hid (HasM w) := Lib.hid h.out.m
theorem lw_rd {A : Option Addr} {L : List Int} (h : Hid (LawW w0 w Ls)) (i : Nat) (hi : Ls[i]? = some (A, L)) : Hid (Rd w A (L.map (Value.int .i64))) :=
  Lib.hid (h.out.r _ (List.mem_of_getElem? hi))
theorem lw_cut (h : Hid (LawW w0 w Ls)) (i : Nat) : Hid (LawW w0 w (Ls.drop i)) :=
  Lib.hid ⟨h.out.m, h.out.b, fun x hx => h.out.r x (List.mem_of_mem_drop hx)⟩
theorem lw_cell {g off j : Nat} {L : List Int} {v : Int} (h : Hid (LawW w0 w Ls)) (i : Nat) (hi : Ls[i]? = some (some ⟨g, off, none⟩, L)) (hv : Hid (L[j]? = some v)) : w.cell? ⟨g, off + j, none⟩ = some (.int .i64 v) :=
  (lw_rd h i hi).out.cell (by rw [List.getElem?_map, hv.out]; rfl)
/-- a list that is not empty lies somewhere -/
theorem lw_form {A : Option Addr} {L : List Int} (h : Hid (LawW w0 w Ls)) (i : Nat) (hi : Ls[i]? = some (A, L)) (h0 : 0 < L.length) : ∃ g off, A = some ⟨g, off, none⟩ := by
  obtain ⟨g, off, hA, _⟩ := (lw_rd h i hi).out.at_ (k := 0) (v := .int .i64 L[0]) (by rw [List.getElem?_map, List.getElem?_eq_getElem h0]; rfl)
  exact ⟨g, off, hA⟩
end

end Go.Proofs.YtpehimjngofnkaaDoor

