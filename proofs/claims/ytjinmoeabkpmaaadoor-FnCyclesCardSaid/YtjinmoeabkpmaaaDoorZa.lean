/- The walk of the law FnCycles. Printed by wip/mkl.py. -/
import Derived.Test.YtjinmoeabkpmaaaDoorProg
import Derived.WalkKit
import Derived.WalkSpells
import Derived.WalkLawsBesides
import Derived.Lib.Hide
import Derived.Deep.QuietTactic
import Derived.BigQuiet
import Derived.Deep.RegionHeld3
import Derived.IntWalk
import Derived.Test.YtjinmoeabkpmaaaDoorLa
import Derived.Test.YtjinmoeabkpmaaaDoorYf
import Derived.Test.YtjinmoeabkpmaaaDoorYg
import Derived.Test.YtjinmoeabkpmaaaDoorYh
import Derived.Test.YtjinmoeabkpmaaaDoorY3
import Derived.Test.YtjinmoeabkpmaaaDoorYl
import Derived.Test.YtjinmoeabkpmaaaDoorYn
import Derived.Test.YtjinmoeabkpmaaaDoorWi
namespace Go.Proofs.YtjinmoeabkpmaaaDoor
open Go.RowKit
set_option linter.unusedVariables false

theorem LL.cell0 {w : World} {B g off n c : Nat} {vv : Value} {gs : List Nat} {ys : List Value} {xss : List (List Int)} {k : Nat} {l : List Int} {v : Int} (h : LL w B vv gs ys xss) (hi : xss[k]? = some l) (hy : ys[k]? = some (.slice (some ⟨g, off, none⟩) n c)) (hv : l[0]? = some v) : w.cell? ⟨g, off, none⟩ = some (.int .i64 v) := by
  have := (h.rd_of hi hy).cell (k := 0) (v := .int .i64 v) (by rw [List.getElem?_map, hv]; rfl)
  rwa [Nat.add_zero] at this
theorem kept_step {R : World → Prop} {w w' : World} (hk : Hid (∀ a b : World, R a → Below a.heap.size a b → R b)) (h : Hid (R w)) (hb : Below w.heap.size w w') : Hid (R w') := Lib.hid (hk.out _ _ h.out hb)
set_option maxHeartbeats 8000000 in
set_option maxRecDepth 100000 in
theorem fnCycles_walk (a0 : Option Addr) (len0 cap0 : Nat) (z0 : List Int) (w : World) (hm : Hid (HasM w)) (w0 : IsRow .u8 w a0 len0 cap0 z0) :
    Calls Tryd.prog 13 #[.slice a0 len0 cap0] w fun e w' => e = .returned (.bool true) ∧ Below w.heap.size w w' := by
  by_cases h0 : 1048576 < len0
  · go_enter Tryd.func13, Tryd.ntmps13
    go_wp2
    go_ret
    exact ⟨rfl, Below.refl _ _⟩
  · obtain ⟨bs, hbl, hrd, hwf, hcap, hmax⟩ := w0.rdk
    unfold maxLen at hmax
    have HRD := Lib.hid hrd
    have HWF := Lib.hid (fun x hx => wf_u8 (hwf x hx))
    have HBL := Lib.hid hbl.symm
    clear hbl hrd hwf w0
    go_enter Tryd.func13, Tryd.ntmps13
    go_wp2_with fail
    refine (DrawCyclesOf_any _ _ _ _ _ HBL.out hcap (by omega) HRD HWF).mono ?_
    rintro e W1 ⟨⟨t, rfl, ht⟩, hB1⟩
    obtain ⟨ps, HPS⟩ : ∃ ps, Hid (ps = cutL t.data.toList) := ⟨_, rfl⟩
    have HS : Hid (LawW w W1 []) := Lib.hid ⟨hm.out.below hB1, hB1, by simp⟩
    clear hB1 h0 hm HRD HWF HBL hcap hmax
    obtain ⟨X, HX⟩ : ∃ X, Hid (X = cylN ps) := ⟨_, rfl⟩
    by_cases hok : okN ps = true
    · have HOK := Lib.hid hok
      have hn5 := okN_le hok
      have hps := cut_pos HPS
      obtain ⟨N, HN, hN32, hN0⟩ : ∃ N : Nat, Hid (N = 2 ^ ps.length) ∧ N ≤ 32 ∧ 0 < N := ⟨_, rfl, two_le _ hn5, Nat.pos_of_ne_zero (by simp)⟩
      have hfN : ∀ x, x < N → stp ps x < N := fun x _ => by rw [HN.out]; exact stp_lt hok x
      have HOKS : Hid (∀ x, x < N → okSt ps (x : Int) = true) := Lib.hid fun x hx => by rw [okSt_of hok HN.out]; simp; omega
      have HCS : Hid ((N = 2 ∧ szN ps = 1) ∨ (N = 4 ∧ szN ps = 2) ∨ (N = 8 ∧ szN ps = 3) ∨ (N = 16 ∧ szN ps = 4) ∨ (N = 32 ∧ szN ps = 5)) := Lib.hid (by
        have h1 := HN.out
        have h2 : szN ps = (ps.length : Int) := by rw [szN, if_pos hok]
        have h3 : ps.length = 1 ∨ ps.length = 2 ∨ ps.length = 3 ∨ ps.length = 4 ∨ ps.length = 5 := by clear h1 h2; omega
        rcases h3 with h | h | h | h | h
        · exact .inl ⟨by rw [h1, h], by rw [h2, h]; rfl⟩
        · exact .inr (.inl ⟨by rw [h1, h], by rw [h2, h]; rfl⟩)
        · exact .inr (.inr (.inl ⟨by rw [h1, h], by rw [h2, h]; rfl⟩))
        · exact .inr (.inr (.inr (.inl ⟨by rw [h1, h], by rw [h2, h]; rfl⟩)))
        · exact .inr (.inr (.inr (.inr ⟨by rw [h1, h], by rw [h2, h]; rfl⟩))))
      obtain ⟨cs, HCs⟩ : ∃ cs, Hid (cs = sel N fun s => cy0 (stp ps) s == s) := ⟨_, rfl⟩
      have eX : X = cs.map fun s => ints (cyc (stp ps) s) := by rw [HX.out, cylN_yes hok HN.out, cylTo, HCs.out]
      have hXl : X.length = cs.length := by rw [eX, List.length_map]
      have hM32 : X.length ≤ 32 := by rw [hXl, HCs.out]; exact Nat.le_trans (sel_len _ _) hN32
      have hM0 : 0 < X.length := by rw [hXl, HCs.out]; exact cyl_pos hN32 hfN hN0
      have hcm : ∀ i, i < X.length → cs.getD i 0 < N ∧ cy0 (stp ps) (cs.getD i 0) = cs.getD i 0 := fun i hi => by
        have hx : cs.getD i 0 ∈ cs := by
          rw [List.getD_eq_getElem?_getD, List.getElem?_eq_getElem (by omega), Option.getD_some]; exact List.getElem_mem _
        have hm := hx
        rw [HCs.out, sel_mem, beq_iff_eq, ← HCs.out] at hm
        exact hm
      have hasc : ∀ i j, i < j → j < X.length → cs.getD i 0 < cs.getD j 0 := fun i j hij hj => by
        rw [List.getD_eq_getElem?_getD, List.getElem?_eq_getElem (by omega), List.getD_eq_getElem?_getD, List.getElem?_eq_getElem (by omega)]
        simp only [Option.getD_some]
        have := HCs.out
        subst this
        exact sel_asc _ _ i j (by omega) (by omega) hij
      have HE : Hid (∀ i, i < X.length → X[i]? = some (ints (cyc (stp ps) (cs.getD i 0))) ∧ (ints (cyc (stp ps) (cs.getD i 0)))[0]? = some ((cs.getD i 0 : Nat) : Int) ∧ cycN ps ((cs.getD i 0 : Nat) : Int) = ints (cyc (stp ps) (cs.getD i 0)) ∧ (ints (cyc (stp ps) (cs.getD i 0))).length ≤ 32) := Lib.hid fun i hi => by
        obtain ⟨h1, h2⟩ := hcm i hi
        refine ⟨?_, ?_, by rw [cycN_yes (HOKS.out _ h1)], by rw [ints_length]; exact Nat.le_trans (cyc_len hN32 hfN h1).1 hN32⟩
        · rw [show X[i]? = (cs.map fun s => ints (cyc (stp ps) s))[i]? from congrArg (fun z => z[i]?) eX, List.getElem?_map, List.getD_eq_getElem?_getD, List.getElem?_eq_getElem (by omega)]; rfl
        · obtain ⟨r, hr⟩ := cyc_head hN32 hfN h1
          rw [hr, h2]; rfl
      obtain ⟨gb, HGb⟩ : ∃ gb : Nat → Nat, Hid (gb = fun s => (sel N fun k => cy0 (stp ps) k == s).length) := ⟨fun s => (sel N fun k => cy0 (stp ps) k == s).length, Lib.hid rfl⟩
      obtain ⟨gf, HGf⟩ : ∃ gf : Nat → Nat, Hid (gf = fun s => if (cyc (stp ps) s).length = 1 then 1 else 0) := ⟨fun s => if (cyc (stp ps) s).length = 1 then 1 else 0, Lib.hid rfl⟩
      have HSB : Hid (idxS gb cs X.length = N) := Lib.hid (by rw [HGb.out, hXl, HCs.out]; exact bas_sum hN32 hfN)
      obtain ⟨F, HF⟩ : ∃ F, Hid (F = ints (fixN ps)) := ⟨_, rfl⟩
      have HSF : Hid (idxS gf cs X.length = F.length) := Lib.hid (by
        rw [HGf.out, hXl, HCs.out, HF.out, ints_length, fixN_yes hok HN.out]; exact fix_sum hN32 hfN)
      have HBL : Hid (∀ i, i < X.length → (basN ps ((cs.getD i 0 : Nat) : Int)).length = gb (cs.getD i 0)) := Lib.hid fun i hi => by
        obtain ⟨h1, h2⟩ := hcm i hi
        rw [basN_yes (HOKS.out _ h1) HN.out, ints_length, HGb.out, h2]
      have HGL : Hid (∀ s, gb s ≤ 32) := Lib.hid fun s => by rw [HGb.out]; exact Nat.le_trans (sel_len _ _) hN32
      have HGF : Hid (∀ s, gf s ≤ 1) := Lib.hid fun s => by rw [HGf.out]; show (if _ then 1 else 0) ≤ 1; split <;> omega
      have HAS := Lib.hid hasc
      have hF32 : F.length ≤ 32 := by rw [← HSF.out]; have := idxS_le (cs := cs) HGF.out X.length; omega
      clear eX hXl hcm hasc hok hps
      go_wp2_with fail
      refine (CyclesOf_any t _ (lw_m HS) (by omega)).mono ?_
      rw [← HPS.out, ← HX.out]
      rintro e W2 ⟨⟨A, c1, gs, ys, rfl, hc1, hO, hL⟩, hV⟩
      replace HS := lw_step HS hV
      have HO := Lib.hid hO
      have HL := Lib.hid hL
      clear hO hL hV
      go_wp2_with fail
      refine (sCyclesOf_any t _ (by omega)).mono ?_
      rw [← HPS.out, ← HX.out]
      rintro e W3 ⟨⟨A', c1', gs', ys', rfl, hc1', hO', hL'⟩, hV⟩
      replace HS := lw_step HS hV
      obtain ⟨R, HRd⟩ : ∃ R : World → Prop, Hid (R = fun w' => Rd w' A ys ∧ Rd w' A' ys' ∧ LL w' W1.heap.size (.slice A X.length c1) gs ys X ∧ LL w' W2.heap.size (.slice A' X.length c1') gs' ys' X) := ⟨fun w' => Rd w' A ys ∧ Rd w' A' ys' ∧ LL w' W1.heap.size (.slice A X.length c1) gs ys X ∧ LL w' W2.heap.size (.slice A' X.length c1') gs' ys' X, Lib.hid rfl⟩
      have hR3 : Rd W3 A ys ∧ Rd W3 A' ys' ∧ LL W3 W1.heap.size (.slice A X.length c1) gs ys X ∧ LL W3 W2.heap.size (.slice A' X.length c1') gs' ys' X := ⟨HO.out.rd.below hV, hO'.rd, HL.out.below hV, hL'⟩
      obtain ⟨l0, hl0⟩ : ∃ l0, X[0]? = some l0 := ⟨_, List.getElem?_eq_getElem hM0⟩
      obtain ⟨gA, oA, hA⟩ : ∃ gA oA, A = some ⟨gA, oA, none⟩ := by
        obtain ⟨g, off, c, h1, h2, h3, h4⟩ := hL'.at_ 0 l0 hl0
        obtain ⟨g2, off2, c2, k1, k2, k3, k4⟩ := HL.out.at_ 0 l0 hl0
        obtain ⟨gA, oA, hA, _⟩ := HO.out.rd.at_ k2
        exact ⟨gA, oA, hA⟩
      obtain ⟨gB, oB, hB⟩ : ∃ gB oB, A' = some ⟨gB, oB, none⟩ := by
        obtain ⟨g, off, c, h1, h2, h3, h4⟩ := hL'.at_ 0 l0 hl0
        obtain ⟨gA, oA, hA, _⟩ := hO'.rd.at_ h2
        exact ⟨gA, oA, hA⟩
      subst hA
      subst hB
      have HK : Hid (∀ a b : World, (Rd a (some ⟨gA, oA, none⟩) ys ∧ Rd a (some ⟨gB, oB, none⟩) ys' ∧ LL a W1.heap.size (.slice (some ⟨gA, oA, none⟩) X.length c1) gs ys X ∧ LL a W2.heap.size (.slice (some ⟨gB, oB, none⟩) X.length c1') gs' ys' X) → Below a.heap.size a b → (Rd b (some ⟨gA, oA, none⟩) ys ∧ Rd b (some ⟨gB, oB, none⟩) ys' ∧ LL b W1.heap.size (.slice (some ⟨gA, oA, none⟩) X.length c1) gs ys X ∧ LL b W2.heap.size (.slice (some ⟨gB, oB, none⟩) X.length c1') gs' ys' X)) := Lib.hid fun a b h hb => ⟨h.1.below hb, h.2.1.below hb, h.2.2.1.below hb, h.2.2.2.below hb⟩
      have HR := Lib.hid hR3
      have HYS : Hid (∀ (i : Nat) (l : List Int), X[i]? = some l → (∃ g off c : Nat, ys[i]? = some (Value.slice (some ⟨g, off, none⟩) l.length c)) ∧ ∃ g off c : Nat, ys'[i]? = some (Value.slice (some ⟨g, off, none⟩) l.length c)) := Lib.hid fun i l hi => by
        obtain ⟨g, off, c, h1, h2, h3, h4⟩ := hR3.2.2.1.at_ i l hi
        obtain ⟨g2, off2, c2, k1, k2, k3, k4⟩ := hR3.2.2.2.at_ i l hi
        exact ⟨⟨g, off, c, h2⟩, g2, off2, c2, k2⟩
      clear hR3 HL hL' hO' HO hV hl0 HRd
      clear R
      go_wp2_with (first
        | (go_at_call 67; refine (NetworkValid_any t  _ (lw_m HS) (by omega)).mono ?_; rw [← HPS.out]; rintro e V ⟨rfl, hV⟩; replace HR := kept_step HK HR hV; replace HS := lw_step HS hV; clear hV; rw [HOK.out]))
      go_loopw [6, 7, 8] (fun q r i wr => ∃ k : Nat, k ≤ X.length ∧ i = .int .i64 k ∧ q = .int .i64 (idxS gb cs k : Nat) ∧ r = .int .i64 (idxS gf cs k : Nat) ∧ Hid (LawW w wr []) ∧ Hid (Rd wr (some ⟨gA, oA, none⟩) ys ∧ Rd wr (some ⟨gB, oB, none⟩) ys' ∧ LL wr W1.heap.size (.slice (some ⟨gA, oA, none⟩) X.length c1) gs ys X ∧ LL wr W2.heap.size (.slice (some ⟨gB, oB, none⟩) X.length c1') gs' ys' X)) (fun _ _ i _ => X.length - (intOf i).toNat)
      case atStart => exact ⟨0, Nat.zero_le _, rfl, rfl, rfl, HS, HR⟩
      case round =>
        clear HS HR
        obtain ⟨k, hk, rfl, rfl, rfl, HS, HR⟩ := hrel
        by_cases hlt : k < X.length
        · obtain ⟨l, HLk⟩ : ∃ l, Hid (l = ints (cyc (stp ps) (cs.getD k 0))) := ⟨_, rfl⟩
          obtain ⟨x, HXk⟩ : ∃ x, Hid (x = cs.getD k 0) := ⟨_, rfl⟩
          obtain ⟨e1, e2, e3, e4⟩ := HE.out k hlt
          rw [← HLk.out] at e1 e2 e3 e4
          rw [← HXk.out] at e2 e3
          have HXK := Lib.hid e1
          have HX0 := Lib.hid e2
          have HXC := Lib.hid e3
          obtain ⟨⟨g, off, ci, hya⟩, g', off', ci', hyb⟩ := HYS.out k l e1
          have HYA := Lib.hid hya
          have HYB := Lib.hid hyb
          have hl32 : l.length ≤ 32 := e4
          have hl0 : 0 < l.length := (List.getElem?_eq_some_iff.1 e2).1
          obtain ⟨BB, HBB⟩ : ∃ B, Hid (B = basN ps (x : Int)) := ⟨_, rfl⟩
          obtain ⟨sk, HSK⟩ : ∃ s, Hid (s = idxS gb cs k) := ⟨_, rfl⟩
          obtain ⟨fk, HFK⟩ : ∃ s, Hid (s = idxS gf cs k) := ⟨_, rfl⟩
          have hsk : sk ≤ 1024 := by rw [HSK.out]; have := idxS_le (cs := cs) HGL.out k; omega
          have hfk : fk ≤ 32 := by rw [HFK.out]; have := idxS_le (cs := cs) HGF.out k; omega
          have hBl : BB.length = gb x := by rw [HBB.out, HXk.out]; exact HBL.out k hlt
          have hB32 : BB.length ≤ 32 := by rw [hBl]; exact HGL.out x
          have HSN : Hid (idxS gb cs (k + 1) = sk + BB.length) := Lib.hid (by rw [hBl, HSK.out, HXk.out]; rfl)
          have HFN : Hid (idxS gf cs (k + 1) = fk + if l.length = 1 then 1 else 0) := Lib.hid (by
            rw [idxS, ← HFK.out, HGf.out, HLk.out, ints_length])
          have hpre : k = 0 ∨ (0 < k ∧ ∃ k1 lp x' gp op cip, k1 + 1 = k ∧ x' < x ∧ X[k1]? = some lp ∧ lp[0]? = some ((x' : Nat) : Int) ∧ ys[k1]? = some (Value.slice (some ⟨gp, op, none⟩) lp.length cip) ∧ 0 < lp.length) := by
            rcases Nat.eq_zero_or_pos k with h | h
            · exact .inl h
            · obtain ⟨p1, p2, p3, p4⟩ := HE.out (k - 1) (by omega)
              obtain ⟨⟨gp, op, cip, hyp⟩, _⟩ := HYS.out (k - 1) _ p1
              exact .inr ⟨h, k - 1, _, cs.getD (k - 1) 0, gp, op, cip, by omega, by rw [HXk.out]; exact HAS.out (k - 1) k (by omega) hlt, p1, p2, hyp, (List.getElem?_eq_some_iff.1 p2).1⟩
          rw [← HSK.out, ← HFK.out]
          have hcA := HR.out.1.cell HYA.out
          have hcB := HR.out.2.1.cell HYB.out
          have hcx := HR.out.2.2.1.cell0 HXK.out HYA.out HX0.out
          clear e1 e2 e3 e4 hya hyb hBl
          go_wp2_with fail
          replace HS : Hid (LawW w wr.drew []) := lw_drew HS 1
          replace HR := kept_step HK HR (drewN_below wr 1)
          have hq1 : (0 : Int) ≤ 0 := Int.le_refl _
          have hq2 : (0 : Int) < (l.length : Int) := by omega
          rcases hpre with hk0 | ⟨hk0, k1, lp, x', gp, op, cip, hkk1, hxx, hp1, hp2, hp3, hp4⟩
          · have hk2 : ¬ 0 < k := by omega
            have hk1 : ¬ (k : Int) > 0 := by omega
            have hk3 : decide (0 < k) = false := decide_eq_false hk2
            have hk4 : decide ((k : Int) > 0) = false := decide_eq_false hk1
            have hk5 : ¬ (0 : Int) < (k : Int) := by omega
            have hk6 : decide ((0 : Int) < (k : Int)) = false := decide_eq_false hk5
            clear hk0
            refine wp_region_held_drew (S := (fun w' : World => w'.cell? ⟨gA, oA + k, none⟩ = some (Value.slice (some ⟨g, off, none⟩) l.length ci) ∧ w'.cell? ⟨gB, oB + k, none⟩ = some (Value.slice (some ⟨g', off', none⟩) l.length ci') ∧ w'.cell? ⟨g, off, none⟩ = some (.int .i64 (x : Int)))) (by kernel_rfl) ?_ (fun hHeld => ?_)
            · (try dsimp only)
              go_keep
            refine wpAnyH_take (i := 0) (oi := ⟨some 44, _, _, _, _, _⟩) (v := ?_) rfl (by kernel_rfl) (by kernel_rfl) (by kernel_rfl) (fun _ _ _ h => h) (Or.inl ⟨by rfl, ?_⟩) (by assumption) ?_
            rotate_left
            · (intro w hSw; (try dsimp only at hSw); go_simp <;> with_reducible rfl)
            try simp only [Act.put, List.setIfInBounds_toArray, List.set_cons_zero, List.set_cons_succ]
            refine wpAnyH_take (i := 1) (oi := ⟨some 45, _, _, _, _, _⟩) (v := ?_) rfl (by kernel_rfl) (by kernel_rfl) (by kernel_rfl) (fun _ _ _ h => h) (Or.inl ⟨by rfl, ?_⟩) (by assumption) ?_
            rotate_left
            · (intro w hSw; (try dsimp only at hSw); go_simp <;> with_reducible rfl)
            try simp only [Act.put, List.setIfInBounds_toArray, List.set_cons_zero, List.set_cons_succ]
            refine wpAnyH_take (i := 2) (oi := ⟨some 46, _, _, _, _, _⟩) (v := ?_) rfl (by kernel_rfl) (by kernel_rfl) (by kernel_rfl) (fun _ _ _ h => h) (Or.inl ⟨by rfl, ?_⟩) (by assumption) ?_
            rotate_left
            · (intro w hSw; (try dsimp only at hSw); go_simp <;> with_reducible rfl)
            try simp only [Act.put, List.setIfInBounds_toArray, List.set_cons_zero, List.set_cons_succ]
            refine wpAnyH_take (i := 3) (oi := ⟨some 47, _, _, _, _, _⟩) (v := ?_) rfl (by kernel_rfl) (by kernel_rfl) (by kernel_rfl) (fun _ _ _ h => h) (Or.inl ⟨by rfl, ?_⟩) (by assumption) ?_
            rotate_left
            · (intro w hSw; (try dsimp only at hSw); go_simp <;> with_reducible rfl)
            try simp only [Act.put, List.setIfInBounds_toArray, List.set_cons_zero, List.set_cons_succ]
            refine wpAnyH_take (i := 4) (oi := ⟨some 48, _, _, _, _, _⟩) (v := ?_) rfl (by kernel_rfl) (by kernel_rfl) (by kernel_rfl) (fun _ _ _ h => h) (Or.inl ⟨by rfl, ?_⟩) (by assumption) ?_
            rotate_left
            · (intro w hSw; (try dsimp only at hSw); go_simp <;> with_reducible rfl)
            try simp only [Act.put, List.setIfInBounds_toArray, List.set_cons_zero, List.set_cons_succ]
            refine wpAnyH_take (i := 5) (oi := ⟨some 49, _, _, _, _, _⟩) (v := ?_) rfl (by kernel_rfl) (by kernel_rfl) (by kernel_rfl) (fun _ _ _ h => h) (Or.inl ⟨by rfl, ?_⟩) (by assumption) ?_
            rotate_left
            · (intro w hSw; (try dsimp only at hSw); go_simp <;> with_reducible rfl)
            try simp only [Act.put, List.setIfInBounds_toArray, List.set_cons_zero, List.set_cons_succ]
            refine wpAnyH_take (i := 6) (oi := ⟨some 50, _, _, _, _, _⟩) (v := ?_) rfl (by kernel_rfl) (by kernel_rfl) (by kernel_rfl) (fun _ _ _ h => h) (Or.inl ⟨by rfl, ?_⟩) (by assumption) ?_
            rotate_left
            · (intro w hSw; (try dsimp only at hSw); go_simp <;> with_reducible rfl)
            try simp only [Act.put, List.setIfInBounds_toArray, List.set_cons_zero, List.set_cons_succ]
            refine wpAnyH_take (i := 7) (oi := ⟨some 51, _, _, _, _, _⟩) (v := ?_) rfl (by kernel_rfl) (by kernel_rfl) (by kernel_rfl) (fun _ _ _ h => h) (Or.inl ⟨by rfl, ?_⟩) (by assumption) ?_
            rotate_left
            · (intro w hSw; (try dsimp only at hSw); go_simp <;> with_reducible rfl)
            try simp only [Act.put, List.setIfInBounds_toArray, List.set_cons_zero, List.set_cons_succ]
            refine wpAnyH_ready (rs := [8]) (by kernel_rfl) (by simp) ?_
            refine AllReadyH.cons (o := ⟨some 52, _, _, _, _, _⟩) rfl (fun K hK => ?_) ?_
            rotate_left
            · exact AllReadyH.nil
            go_simp
            (go_at_call 38; refine (bnSame_any _ _ _ _ l _ (Lib.hid (HR.out.2.2.1.rd_of HXK.out HYA.out)) (Lib.hid (HR.out.2.2.2.rd_of HXK.out HYB.out)) (by omega)).mono ?_; rintro e V ⟨rfl, nB, rfl⟩; replace HR := kept_step HK HR (drewN_below _ nB); replace HS := lw_drew HS nB; have HS' : Hid (LawW w ((wr.drewN 1).drewN nB) []) := HS; rw [drewN2] at HS'; replace HS := HS'; clear HS'; have HR' : Hid (Rd ((wr.drewN 1).drewN nB) (some ⟨gA, oA, none⟩) ys ∧ Rd ((wr.drewN 1).drewN nB) (some ⟨gB, oB, none⟩) ys' ∧ LL ((wr.drewN 1).drewN nB) W1.heap.size (.slice (some ⟨gA, oA, none⟩) X.length c1) gs ys X ∧ LL ((wr.drewN 1).drewN nB) W2.heap.size (.slice (some ⟨gB, oB, none⟩) X.length c1') gs' ys' X) := HR; rw [drewN2] at HR'; replace HR := HR'; clear HR'; have hcA := HR.out.1.cell HYA.out; have hcB := HR.out.2.1.cell HYB.out; have hcx := HR.out.2.2.1.cell0 HXK.out HYA.out HX0.out)
            go_wp2_with fail
            refine hK.out _ _ ?_ (fun hHeld2 => ?_)
            · (try dsimp only)
              go_keep
            clear hK K hHeld
            have hHeld := hHeld2
            clear hHeld2
            try simp only [Act.put, List.setIfInBounds_toArray, List.set_cons_zero, List.set_cons_succ]
            refine wpAnyH_take (i := 9) (oi := ⟨some 53, _, _, _, _, _⟩) (v := ?_) rfl (by kernel_rfl) (by kernel_rfl) (by kernel_rfl) (fun _ _ _ h => h) (Or.inl ⟨by rfl, ?_⟩) (by assumption) ?_
            rotate_left
            · (intro w hSw; (try dsimp only at hSw); go_simp <;> with_reducible rfl)
            try simp only [Act.put, List.setIfInBounds_toArray, List.set_cons_zero, List.set_cons_succ]
            refine wpAnyH_take (i := 10) (oi := ⟨some 54, _, _, _, _, _⟩) (v := ?_) rfl (by kernel_rfl) (by kernel_rfl) (by kernel_rfl) (fun _ _ _ h => h) (Or.inl ⟨by rfl, ?_⟩) (by assumption) ?_
            rotate_left
            · (intro w hSw; (try dsimp only at hSw); go_simp <;> with_reducible rfl)
            try simp only [Act.put, List.setIfInBounds_toArray, List.set_cons_zero, List.set_cons_succ]
            refine wpAnyH_take (i := 11) (oi := ⟨some 55, _, _, _, _, _⟩) (v := ?_) rfl (by kernel_rfl) (by kernel_rfl) (by kernel_rfl) (fun _ _ _ h => h) (Or.inl ⟨by rfl, ?_⟩) (by assumption) ?_
            rotate_left
            · (intro w hSw; (try dsimp only at hSw); go_simp <;> with_reducible rfl)
            try simp only [Act.put, List.setIfInBounds_toArray, List.set_cons_zero, List.set_cons_succ]
            refine wpAnyH_take (i := 12) (oi := ⟨some 56, _, _, _, _, _⟩) (v := ?_) rfl (by kernel_rfl) (by kernel_rfl) (by kernel_rfl) (fun _ _ _ h => h) (Or.inl ⟨by rfl, ?_⟩) (by assumption) ?_
            rotate_left
            · (intro w hSw; (try dsimp only at hSw); go_simp <;> with_reducible rfl)
            try simp only [Act.put, List.setIfInBounds_toArray, List.set_cons_zero, List.set_cons_succ]
            refine wpAnyH_take (i := 13) (oi := ⟨some 57, _, _, _, _, _⟩) (v := ?_) rfl (by kernel_rfl) (by kernel_rfl) (by kernel_rfl) (fun _ _ _ h => h) (Or.inl ⟨by rfl, ?_⟩) (by assumption) ?_
            rotate_left
            · (intro w hSw; (try dsimp only at hSw); go_simp <;> with_reducible rfl)
            try simp only [Act.put, List.setIfInBounds_toArray, List.set_cons_zero, List.set_cons_succ]
            refine wpAnyH_take (i := 14) (oi := ⟨some 58, _, _, _, _, _⟩) (v := ?_) rfl (by kernel_rfl) (by kernel_rfl) (by kernel_rfl) (fun _ _ _ h => h) (Or.inl ⟨by rfl, ?_⟩) (by assumption) ?_
            rotate_left
            · (intro w hSw; (try dsimp only at hSw); go_simp <;> with_reducible rfl)
            try simp only [Act.put, List.setIfInBounds_toArray, List.set_cons_zero, List.set_cons_succ]
            refine wpAnyH_take (i := 15) (oi := ⟨some 59, _, _, _, _, _⟩) (v := ?_) rfl (by kernel_rfl) (by kernel_rfl) (by kernel_rfl) (fun _ _ _ h => h) (Or.inl ⟨by rfl, ?_⟩) (by assumption) ?_
            rotate_left
            · (intro w hSw; (try dsimp only at hSw); go_simp <;> with_reducible rfl)
            try simp only [Act.put, List.setIfInBounds_toArray, List.set_cons_zero, List.set_cons_succ]
            refine wpAnyH_take (i := 16) (oi := ⟨some 60, _, _, _, _, _⟩) (v := ?_) rfl (by kernel_rfl) (by kernel_rfl) (by kernel_rfl) (fun _ _ _ h => h) (Or.inl ⟨by rfl, ?_⟩) (by assumption) ?_
            rotate_left
            · (intro w hSw; (try dsimp only at hSw); go_simp <;> with_reducible rfl)
            try simp only [Act.put, List.setIfInBounds_toArray, List.set_cons_zero, List.set_cons_succ]
            refine wpAnyH_take (i := 17) (oi := ⟨some 61, _, _, _, _, _⟩) (v := ?_) rfl (by kernel_rfl) (by kernel_rfl) (by kernel_rfl) (fun _ _ _ h => h) (Or.inl ⟨by rfl, ?_⟩) (by assumption) ?_
            rotate_left
            · (intro w hSw; (try dsimp only at hSw); go_simp <;> with_reducible rfl)
            try simp only [Act.put, List.setIfInBounds_toArray, List.set_cons_zero, List.set_cons_succ]
            refine wpAnyH_take (i := 19) (oi := ⟨some 63, _, _, _, _, _⟩) (v := ?_) rfl (by kernel_rfl) (by kernel_rfl) (by kernel_rfl) (fun _ _ _ h => h) (Or.inl ⟨by rfl, ?_⟩) (by assumption) ?_
            rotate_left
            · (intro w hSw; (try dsimp only at hSw); go_simp <;> with_reducible rfl)
            try simp only [Act.put, List.setIfInBounds_toArray, List.set_cons_zero, List.set_cons_succ]
            refine wpAnyH_take (i := 20) (oi := ⟨some 64, _, _, _, _, _⟩) (v := ?_) rfl (by kernel_rfl) (by kernel_rfl) (by kernel_rfl) (fun _ _ _ h => h) (Or.inl ⟨by rfl, ?_⟩) (by assumption) ?_
            rotate_left
            · (intro w hSw; (try dsimp only at hSw); go_simp <;> with_reducible rfl)
            try simp only [Act.put, List.setIfInBounds_toArray, List.set_cons_zero, List.set_cons_succ]
            refine wpAnyH_take (i := 21) (oi := ⟨some 65, _, _, _, _, _⟩) (v := ?_) rfl (by kernel_rfl) (by kernel_rfl) (by kernel_rfl) (fun _ _ _ h => h) (Or.inl ⟨by rfl, ?_⟩) (by assumption) ?_
            rotate_left
            · (intro w hSw; (try dsimp only at hSw); go_simp <;> with_reducible rfl)
            try simp only [Act.put, List.setIfInBounds_toArray, List.set_cons_zero, List.set_cons_succ]
            refine wpAnyH_take (i := 22) (oi := ⟨some 66, _, _, _, _, _⟩) (v := ?_) rfl (by kernel_rfl) (by kernel_rfl) (by kernel_rfl) (fun _ _ _ h => h) (Or.inl ⟨by rfl, ?_⟩) (by assumption) ?_
            rotate_left
            · (intro w hSw; (try dsimp only at hSw); go_simp <;> with_reducible rfl)
            try simp only [Act.put, List.setIfInBounds_toArray, List.set_cons_zero, List.set_cons_succ]
            refine wpAnyH_ready (rs := [18]) (by kernel_rfl) (by simp) ?_
            refine AllReadyH.cons (o := ⟨some 62, _, _, _, _, _⟩) rfl (fun K hK => ?_) ?_
            rotate_left
            · exact AllReadyH.nil
            go_simp
            (go_at_call 61; refine (CycleOf_any t _ _ (lw_m HS) (by omega)).mono ?_; rw [← HPS.out, HXC.out]; rintro e V ⟨⟨A8, c2, rfl, hc2, hO2⟩, hV⟩; replace HR := kept_step HK HR hV; replace HS := lw_add (lw_step HS hV) hO2.rd; clear hV hO2; have hcA := HR.out.1.cell HYA.out; have hcB := HR.out.2.1.cell HYB.out; have hcx := HR.out.2.2.1.cell0 HXK.out HYA.out HX0.out)
            go_wp2_with fail
            refine hK.out _ _ ?_ (fun hHeld2 => ?_)
            · (try dsimp only)
              go_keep
            clear hK K hHeld
            have hHeld := hHeld2
            clear hHeld2
            try simp only [Act.put, List.setIfInBounds_toArray, List.set_cons_zero, List.set_cons_succ]
            refine wpAnyH_ready (rs := [23]) (by kernel_rfl) (by simp) ?_
            refine AllReadyH.cons (o := ⟨some 67, _, _, _, _, _⟩) rfl (fun K hK => ?_) ?_
            rotate_left
            · exact AllReadyH.nil
            go_simp
            (go_at_call 38; refine (bnSame_any _ _ _ _ l _ (lw_rd HS 0 rfl) (Lib.hid (HR.out.2.2.1.rd_of HXK.out HYA.out)) (by omega)).mono ?_; rintro e V ⟨rfl, nB, rfl⟩; replace HR := kept_step HK HR (drewN_below _ nB); replace HS := lw_drew HS nB; have hcA := HR.out.1.cell HYA.out; have hcB := HR.out.2.1.cell HYB.out; have hcx := HR.out.2.2.1.cell0 HXK.out HYA.out HX0.out)
            go_wp2_with fail
            refine hK.out _ _ ?_ (fun hHeld2 => ?_)
            · (try dsimp only)
              go_keep
            clear hK K hHeld
            have hHeld := hHeld2
            clear hHeld2
            try simp only [Act.put, List.setIfInBounds_toArray, List.set_cons_zero, List.set_cons_succ]
            refine wpAnyH_take (i := 24) (oi := ⟨some 68, _, _, _, _, _⟩) (v := ?_) rfl (by kernel_rfl) (by kernel_rfl) (by kernel_rfl) (fun _ _ _ h => h) (Or.inl ⟨by rfl, ?_⟩) (by assumption) ?_
            rotate_left
            · (intro w hSw; (try dsimp only at hSw); go_simp <;> with_reducible rfl)
            try simp only [Act.put, List.setIfInBounds_toArray, List.set_cons_zero, List.set_cons_succ]
            refine wpAnyH_take (i := 25) (oi := ⟨some 69, _, _, _, _, _⟩) (v := ?_) rfl (by kernel_rfl) (by kernel_rfl) (by kernel_rfl) (fun _ _ _ h => h) (Or.inl ⟨by rfl, ?_⟩) (by assumption) ?_
            rotate_left
            · (intro w hSw; (try dsimp only at hSw); go_simp <;> with_reducible rfl)
            try simp only [Act.put, List.setIfInBounds_toArray, List.set_cons_zero, List.set_cons_succ]
            refine wpAnyH_take (i := 26) (oi := ⟨some 70, _, _, _, _, _⟩) (v := ?_) rfl (by kernel_rfl) (by kernel_rfl) (by kernel_rfl) (fun _ _ _ h => h) (Or.inl ⟨by rfl, ?_⟩) (by assumption) ?_
            rotate_left
            · (intro w hSw; (try dsimp only at hSw); go_simp <;> with_reducible rfl)
            try simp only [Act.put, List.setIfInBounds_toArray, List.set_cons_zero, List.set_cons_succ]
            refine wpAnyH_take (i := 27) (oi := ⟨some 71, _, _, _, _, _⟩) (v := ?_) rfl (by kernel_rfl) (by kernel_rfl) (by kernel_rfl) (fun _ _ _ h => h) (Or.inl ⟨by rfl, ?_⟩) (by assumption) ?_
            rotate_left
            · (intro w hSw; (try dsimp only at hSw); go_simp <;> with_reducible rfl)
            try simp only [Act.put, List.setIfInBounds_toArray, List.set_cons_zero, List.set_cons_succ]
            refine wpAnyH_take (i := 28) (oi := ⟨some 72, _, _, _, _, _⟩) (v := ?_) rfl (by kernel_rfl) (by kernel_rfl) (by kernel_rfl) (fun _ _ _ h => h) (Or.inl ⟨by rfl, ?_⟩) (by assumption) ?_
            rotate_left
            · (intro w hSw; (try dsimp only at hSw); go_simp <;> with_reducible rfl)
            try simp only [Act.put, List.setIfInBounds_toArray, List.set_cons_zero, List.set_cons_succ]
            refine wpAnyH_take (i := 29) (oi := ⟨some 73, _, _, _, _, _⟩) (v := ?_) rfl (by kernel_rfl) (by kernel_rfl) (by kernel_rfl) (fun _ _ _ h => h) (Or.inl ⟨by rfl, ?_⟩) (by assumption) ?_
            rotate_left
            · (intro w hSw; (try dsimp only at hSw); go_simp <;> with_reducible rfl)
            try simp only [Act.put, List.setIfInBounds_toArray, List.set_cons_zero, List.set_cons_succ]
            refine wpAnyH_take (i := 30) (oi := ⟨some 74, _, _, _, _, _⟩) (v := undef) rfl (by kernel_rfl) (by kernel_rfl) (by kernel_rfl) (fun _ _ _ h => h) (Or.inr ⟨by rfl, rfl⟩) (by assumption) ?_
            try simp only [Act.put, List.setIfInBounds_toArray, List.set_cons_zero, List.set_cons_succ]
            refine wpAnyH_take (i := 31) (oi := ⟨some 75, _, _, _, _, _⟩) (v := undef) rfl (by kernel_rfl) (by kernel_rfl) (by kernel_rfl) (fun _ _ _ h => h) (Or.inr ⟨by rfl, rfl⟩) (by assumption) ?_
            try simp only [Act.put, List.setIfInBounds_toArray, List.set_cons_zero, List.set_cons_succ]
            refine wpAnyH_take (i := 32) (oi := ⟨some 76, _, _, _, _, _⟩) (v := undef) rfl (by kernel_rfl) (by kernel_rfl) (by kernel_rfl) (fun _ _ _ h => h) (Or.inr ⟨by rfl, rfl⟩) (by assumption) ?_
            try simp only [Act.put, List.setIfInBounds_toArray, List.set_cons_zero, List.set_cons_succ]
            refine wpAnyH_take (i := 33) (oi := ⟨some 77, _, _, _, _, _⟩) (v := undef) rfl (by kernel_rfl) (by kernel_rfl) (by kernel_rfl) (fun _ _ _ h => h) (Or.inr ⟨by rfl, rfl⟩) (by assumption) ?_
            try simp only [Act.put, List.setIfInBounds_toArray, List.set_cons_zero, List.set_cons_succ]
            refine wpAnyH_take (i := 34) (oi := ⟨some 78, _, _, _, _, _⟩) (v := undef) rfl (by kernel_rfl) (by kernel_rfl) (by kernel_rfl) (fun _ _ _ h => h) (Or.inr ⟨by rfl, rfl⟩) (by assumption) ?_
            try simp only [Act.put, List.setIfInBounds_toArray, List.set_cons_zero, List.set_cons_succ]
            refine wpAnyH_take (i := 35) (oi := ⟨some 79, _, _, _, _, _⟩) (v := undef) rfl (by kernel_rfl) (by kernel_rfl) (by kernel_rfl) (fun _ _ _ h => h) (Or.inr ⟨by rfl, rfl⟩) (by assumption) ?_
            try simp only [Act.put, List.setIfInBounds_toArray, List.set_cons_zero, List.set_cons_succ]
            refine wpAnyH_take (i := 36) (oi := ⟨some 80, _, _, _, _, _⟩) (v := undef) rfl (by kernel_rfl) (by kernel_rfl) (by kernel_rfl) (fun _ _ _ h => h) (Or.inr ⟨by rfl, rfl⟩) (by assumption) ?_
            try simp only [Act.put, List.setIfInBounds_toArray, List.set_cons_zero, List.set_cons_succ]
            refine wpAnyH_take (i := 37) (oi := ⟨some 81, _, _, _, _, _⟩) (v := undef) rfl (by kernel_rfl) (by kernel_rfl) (by kernel_rfl) (fun _ _ _ h => h) (Or.inr ⟨by rfl, rfl⟩) (by assumption) ?_
            try simp only [Act.put, List.setIfInBounds_toArray, List.set_cons_zero, List.set_cons_succ]
            refine wpAnyH_take (i := 38) (oi := ⟨some 82, _, _, _, _, _⟩) (v := undef) rfl (by kernel_rfl) (by kernel_rfl) (by kernel_rfl) (fun _ _ _ h => h) (Or.inr ⟨by rfl, rfl⟩) (by assumption) ?_
            try simp only [Act.put, List.setIfInBounds_toArray, List.set_cons_zero, List.set_cons_succ]
            refine wpAnyH_take (i := 39) (oi := ⟨some 83, _, _, _, _, _⟩) (v := undef) rfl (by kernel_rfl) (by kernel_rfl) (by kernel_rfl) (fun _ _ _ h => h) (Or.inr ⟨by rfl, rfl⟩) (by assumption) ?_
            try simp only [Act.put, List.setIfInBounds_toArray, List.set_cons_zero, List.set_cons_succ]
            refine wpAnyH_take (i := 40) (oi := ⟨some 84, _, _, _, _, _⟩) (v := undef) rfl (by kernel_rfl) (by kernel_rfl) (by kernel_rfl) (fun _ _ _ h => h) (Or.inr ⟨by rfl, rfl⟩) (by assumption) ?_
            try simp only [Act.put, List.setIfInBounds_toArray, List.set_cons_zero, List.set_cons_succ]
            refine wpAnyH_take (i := 41) (oi := ⟨some 85, _, _, _, _, _⟩) (v := undef) rfl (by kernel_rfl) (by kernel_rfl) (by kernel_rfl) (fun _ _ _ h => h) (Or.inr ⟨by rfl, rfl⟩) (by assumption) ?_
            try simp only [Act.put, List.setIfInBounds_toArray, List.set_cons_zero, List.set_cons_succ]
            refine wpAnyH_take (i := 42) (oi := ⟨some 86, _, _, _, _, _⟩) (v := undef) rfl (by kernel_rfl) (by kernel_rfl) (by kernel_rfl) (fun _ _ _ h => h) (Or.inr ⟨by rfl, rfl⟩) (by assumption) ?_
            try simp only [Act.put, List.setIfInBounds_toArray, List.set_cons_zero, List.set_cons_succ]
            refine wpAnyH_take (i := 43) (oi := ⟨some 87, _, _, _, _, _⟩) (v := undef) rfl (by kernel_rfl) (by kernel_rfl) (by kernel_rfl) (fun _ _ _ h => h) (Or.inr ⟨by rfl, rfl⟩) (by assumption) ?_
            try simp only [Act.put, List.setIfInBounds_toArray, List.set_cons_zero, List.set_cons_succ]
            refine wpAnyH_take (i := 44) (oi := ⟨some 88, _, _, _, _, _⟩) (v := ?_) rfl (by kernel_rfl) (by kernel_rfl) (by kernel_rfl) (fun _ _ _ h => h) (Or.inl ⟨by rfl, ?_⟩) (by assumption) ?_
            rotate_left
            · (intro w hSw; (try dsimp only at hSw); go_simp <;> with_reducible rfl)
            try simp only [Act.put, List.setIfInBounds_toArray, List.set_cons_zero, List.set_cons_succ]
            refine wpAnyH_take (i := 45) (oi := ⟨some 89, _, _, _, _, _⟩) (v := ?_) rfl (by kernel_rfl) (by kernel_rfl) (by kernel_rfl) (fun _ _ _ h => h) (Or.inl ⟨by rfl, ?_⟩) (by assumption) ?_
            rotate_left
            · (intro w hSw; (try dsimp only at hSw); go_simp <;> with_reducible rfl)
            try simp only [Act.put, List.setIfInBounds_toArray, List.set_cons_zero, List.set_cons_succ]
            refine wpAnyH_done (by kernel_rfl) ?_ _
            clear hcA hcB hcx
            go_wp2_with fail
            have hcA := HR.out.1.cell HYA.out
            have hcx := HR.out.2.2.1.cell0 HXK.out HYA.out HX0.out
            rcases Classical.em (l.length = 1) with hl1 | hl1
            all_goals
              first
                | (have hdl : ((l.length : Int) == 1) = true := by rw [beq_iff_eq]; omega)
                | (have hdl : ((l.length : Int) == 1) = false := by rw [beq_eq_false_iff_ne]; omega)
              go_wp2_with (first
                | (go_at_call 64; refine (BasinOf_any t _ _ (lw_m HS) (by omega)).mono ?_; rw [← HPS.out, ← HBB.out]; rintro e V ⟨⟨A9, c2, rfl, hc2, hO2⟩, hV⟩; replace HR := kept_step HK HR hV; replace HS := lw_add (lw_step HS hV) hO2.rd; clear hV hO2; have hcA := HR.out.1.cell HYA.out))
              go_roundw
              case rel => exact ⟨k + 1, by omega, by go_num, by rw [HSN.out]; go_num, by first | (rw [HFN.out, if_pos hl1]; go_num) | (rw [HFN.out, if_neg hl1]; go_num), lw_cut HS 2, HR⟩
              case measure => simp [intOf]; omega
          · have hk1 : (k : Int) > 0 := by omega
            have hk3 : decide (0 < k) = true := decide_eq_true hk0
            have hk4 : decide ((k : Int) > 0) = true := decide_eq_true hk1
            have hk5 : (0 : Int) < (k : Int) := by omega
            have hk6 : decide ((0 : Int) < (k : Int)) = true := decide_eq_true hk5
            have HXP := Lib.hid hp1
            have HX0P := Lib.hid hp2
            have HYP := Lib.hid hp3
            have hcP : wr.cell? ⟨gA, oA + k1, none⟩ = some (Value.slice (some ⟨gp, op, none⟩) lp.length cip) := HR.out.1.cell HYP.out
            have hcy : wr.cell? ⟨gp, op, none⟩ = some (.int .i64 (x' : Int)) := HR.out.2.2.1.cell0 HXP.out HYP.out HX0P.out
            have hl1 : ¬ (x : Int) ≤ (x' : Int) := by omega
            have hl2 : ¬ x ≤ x' := by omega
            have hl3 : decide (x ≤ x') = false := decide_eq_false hl2
            have hl4 : decide ((x : Int) ≤ (x' : Int)) = false := decide_eq_false hl1
            have hw1 : IntKind.i64.wrap ((k : Int) - 1) = (k1 : Int) := by rw [IntWalk.i64_in _ (by omega)]; omega
            have hw2 : (0 : Int) ≤ (k1 : Int) := by omega
            have hw3 : (k1 : Int) < (X.length : Int) := by omega
            have hw4 : (k1 : Int).toNat = k1 := by omega
            have hq3 : (0 : Int) < (lp.length : Int) := by omega
            clear hkk1 hp1 hp2 hp3
            refine wp_region_held_drew (S := (fun w' : World => w'.cell? ⟨gA, oA + k, none⟩ = some (Value.slice (some ⟨g, off, none⟩) l.length ci) ∧ w'.cell? ⟨gB, oB + k, none⟩ = some (Value.slice (some ⟨g', off', none⟩) l.length ci') ∧ w'.cell? ⟨g, off, none⟩ = some (.int .i64 (x : Int)) ∧ w'.cell? ⟨gA, oA + k1, none⟩ = some (Value.slice (some ⟨gp, op, none⟩) lp.length cip) ∧ w'.cell? ⟨gp, op, none⟩ = some (.int .i64 (x' : Int)))) (by kernel_rfl) ?_ (fun hHeld => ?_)
            · (try dsimp only)
              go_keep
            refine wpAnyH_take (i := 0) (oi := ⟨some 44, _, _, _, _, _⟩) (v := ?_) rfl (by kernel_rfl) (by kernel_rfl) (by kernel_rfl) (fun _ _ _ h => h) (Or.inl ⟨by rfl, ?_⟩) (by assumption) ?_
            rotate_left
            · (intro w hSw; (try dsimp only at hSw); go_simp <;> with_reducible rfl)
            try simp only [Act.put, List.setIfInBounds_toArray, List.set_cons_zero, List.set_cons_succ]
            refine wpAnyH_take (i := 1) (oi := ⟨some 45, _, _, _, _, _⟩) (v := ?_) rfl (by kernel_rfl) (by kernel_rfl) (by kernel_rfl) (fun _ _ _ h => h) (Or.inl ⟨by rfl, ?_⟩) (by assumption) ?_
            rotate_left
            · (intro w hSw; (try dsimp only at hSw); go_simp <;> with_reducible rfl)
            try simp only [Act.put, List.setIfInBounds_toArray, List.set_cons_zero, List.set_cons_succ]
            refine wpAnyH_take (i := 2) (oi := ⟨some 46, _, _, _, _, _⟩) (v := ?_) rfl (by kernel_rfl) (by kernel_rfl) (by kernel_rfl) (fun _ _ _ h => h) (Or.inl ⟨by rfl, ?_⟩) (by assumption) ?_
            rotate_left
            · (intro w hSw; (try dsimp only at hSw); go_simp <;> with_reducible rfl)
            try simp only [Act.put, List.setIfInBounds_toArray, List.set_cons_zero, List.set_cons_succ]
            refine wpAnyH_take (i := 3) (oi := ⟨some 47, _, _, _, _, _⟩) (v := ?_) rfl (by kernel_rfl) (by kernel_rfl) (by kernel_rfl) (fun _ _ _ h => h) (Or.inl ⟨by rfl, ?_⟩) (by assumption) ?_
            rotate_left
            · (intro w hSw; (try dsimp only at hSw); go_simp <;> with_reducible rfl)
            try simp only [Act.put, List.setIfInBounds_toArray, List.set_cons_zero, List.set_cons_succ]
            refine wpAnyH_take (i := 4) (oi := ⟨some 48, _, _, _, _, _⟩) (v := ?_) rfl (by kernel_rfl) (by kernel_rfl) (by kernel_rfl) (fun _ _ _ h => h) (Or.inl ⟨by rfl, ?_⟩) (by assumption) ?_
            rotate_left
            · (intro w hSw; (try dsimp only at hSw); go_simp <;> with_reducible rfl)
            try simp only [Act.put, List.setIfInBounds_toArray, List.set_cons_zero, List.set_cons_succ]
            refine wpAnyH_take (i := 5) (oi := ⟨some 49, _, _, _, _, _⟩) (v := ?_) rfl (by kernel_rfl) (by kernel_rfl) (by kernel_rfl) (fun _ _ _ h => h) (Or.inl ⟨by rfl, ?_⟩) (by assumption) ?_
            rotate_left
            · (intro w hSw; (try dsimp only at hSw); go_simp <;> with_reducible rfl)
            try simp only [Act.put, List.setIfInBounds_toArray, List.set_cons_zero, List.set_cons_succ]
            refine wpAnyH_take (i := 6) (oi := ⟨some 50, _, _, _, _, _⟩) (v := ?_) rfl (by kernel_rfl) (by kernel_rfl) (by kernel_rfl) (fun _ _ _ h => h) (Or.inl ⟨by rfl, ?_⟩) (by assumption) ?_
            rotate_left
            · (intro w hSw; (try dsimp only at hSw); go_simp <;> with_reducible rfl)
            try simp only [Act.put, List.setIfInBounds_toArray, List.set_cons_zero, List.set_cons_succ]
            refine wpAnyH_take (i := 7) (oi := ⟨some 51, _, _, _, _, _⟩) (v := ?_) rfl (by kernel_rfl) (by kernel_rfl) (by kernel_rfl) (fun _ _ _ h => h) (Or.inl ⟨by rfl, ?_⟩) (by assumption) ?_
            rotate_left
            · (intro w hSw; (try dsimp only at hSw); go_simp <;> with_reducible rfl)
            try simp only [Act.put, List.setIfInBounds_toArray, List.set_cons_zero, List.set_cons_succ]
            refine wpAnyH_ready (rs := [8]) (by kernel_rfl) (by simp) ?_
            refine AllReadyH.cons (o := ⟨some 52, _, _, _, _, _⟩) rfl (fun K hK => ?_) ?_
            rotate_left
            · exact AllReadyH.nil
            go_simp
            (go_at_call 38; refine (bnSame_any _ _ _ _ l _ (Lib.hid (HR.out.2.2.1.rd_of HXK.out HYA.out)) (Lib.hid (HR.out.2.2.2.rd_of HXK.out HYB.out)) (by omega)).mono ?_; rintro e V ⟨rfl, nB, rfl⟩; replace HR := kept_step HK HR (drewN_below _ nB); replace HS := lw_drew HS nB; have HS' : Hid (LawW w ((wr.drewN 1).drewN nB) []) := HS; rw [drewN2] at HS'; replace HS := HS'; clear HS'; have HR' : Hid (Rd ((wr.drewN 1).drewN nB) (some ⟨gA, oA, none⟩) ys ∧ Rd ((wr.drewN 1).drewN nB) (some ⟨gB, oB, none⟩) ys' ∧ LL ((wr.drewN 1).drewN nB) W1.heap.size (.slice (some ⟨gA, oA, none⟩) X.length c1) gs ys X ∧ LL ((wr.drewN 1).drewN nB) W2.heap.size (.slice (some ⟨gB, oB, none⟩) X.length c1') gs' ys' X) := HR; rw [drewN2] at HR'; replace HR := HR'; clear HR'; have hcA := HR.out.1.cell HYA.out; have hcB := HR.out.2.1.cell HYB.out; have hcx := HR.out.2.2.1.cell0 HXK.out HYA.out HX0.out; have hcP := HR.out.1.cell HYP.out; have hcy := HR.out.2.2.1.cell0 HXP.out HYP.out HX0P.out)
            go_wp2_with fail
            refine hK.out _ _ ?_ (fun hHeld2 => ?_)
            · (try dsimp only)
              go_keep
            clear hK K hHeld
            have hHeld := hHeld2
            clear hHeld2
            try simp only [Act.put, List.setIfInBounds_toArray, List.set_cons_zero, List.set_cons_succ]
            refine wpAnyH_take (i := 9) (oi := ⟨some 53, _, _, _, _, _⟩) (v := ?_) rfl (by kernel_rfl) (by kernel_rfl) (by kernel_rfl) (fun _ _ _ h => h) (Or.inl ⟨by rfl, ?_⟩) (by assumption) ?_
            rotate_left
            · (intro w hSw; (try dsimp only at hSw); go_simp <;> with_reducible rfl)
            try simp only [Act.put, List.setIfInBounds_toArray, List.set_cons_zero, List.set_cons_succ]
            refine wpAnyH_take (i := 10) (oi := ⟨some 54, _, _, _, _, _⟩) (v := ?_) rfl (by kernel_rfl) (by kernel_rfl) (by kernel_rfl) (fun _ _ _ h => h) (Or.inl ⟨by rfl, ?_⟩) (by assumption) ?_
            rotate_left
            · (intro w hSw; (try dsimp only at hSw); go_simp <;> with_reducible rfl)
            try simp only [Act.put, List.setIfInBounds_toArray, List.set_cons_zero, List.set_cons_succ]
            refine wpAnyH_take (i := 11) (oi := ⟨some 55, _, _, _, _, _⟩) (v := ?_) rfl (by kernel_rfl) (by kernel_rfl) (by kernel_rfl) (fun _ _ _ h => h) (Or.inl ⟨by rfl, ?_⟩) (by assumption) ?_
            rotate_left
            · (intro w hSw; (try dsimp only at hSw); go_simp <;> with_reducible rfl)
            try simp only [Act.put, List.setIfInBounds_toArray, List.set_cons_zero, List.set_cons_succ]
            refine wpAnyH_take (i := 12) (oi := ⟨some 56, _, _, _, _, _⟩) (v := ?_) rfl (by kernel_rfl) (by kernel_rfl) (by kernel_rfl) (fun _ _ _ h => h) (Or.inl ⟨by rfl, ?_⟩) (by assumption) ?_
            rotate_left
            · (intro w hSw; (try dsimp only at hSw); go_simp <;> with_reducible rfl)
            try simp only [Act.put, List.setIfInBounds_toArray, List.set_cons_zero, List.set_cons_succ]
            refine wpAnyH_take (i := 13) (oi := ⟨some 57, _, _, _, _, _⟩) (v := ?_) rfl (by kernel_rfl) (by kernel_rfl) (by kernel_rfl) (fun _ _ _ h => h) (Or.inl ⟨by rfl, ?_⟩) (by assumption) ?_
            rotate_left
            · (intro w hSw; (try dsimp only at hSw); go_simp <;> with_reducible rfl)
            try simp only [Act.put, List.setIfInBounds_toArray, List.set_cons_zero, List.set_cons_succ]
            refine wpAnyH_take (i := 14) (oi := ⟨some 58, _, _, _, _, _⟩) (v := ?_) rfl (by kernel_rfl) (by kernel_rfl) (by kernel_rfl) (fun _ _ _ h => h) (Or.inl ⟨by rfl, ?_⟩) (by assumption) ?_
            rotate_left
            · (intro w hSw; (try dsimp only at hSw); go_simp <;> with_reducible rfl)
            try simp only [Act.put, List.setIfInBounds_toArray, List.set_cons_zero, List.set_cons_succ]
            refine wpAnyH_take (i := 15) (oi := ⟨some 59, _, _, _, _, _⟩) (v := ?_) rfl (by kernel_rfl) (by kernel_rfl) (by kernel_rfl) (fun _ _ _ h => h) (Or.inl ⟨by rfl, ?_⟩) (by assumption) ?_
            rotate_left
            · (intro w hSw; (try dsimp only at hSw); go_simp <;> with_reducible rfl)
            try simp only [Act.put, List.setIfInBounds_toArray, List.set_cons_zero, List.set_cons_succ]
            refine wpAnyH_take (i := 16) (oi := ⟨some 60, _, _, _, _, _⟩) (v := ?_) rfl (by kernel_rfl) (by kernel_rfl) (by kernel_rfl) (fun _ _ _ h => h) (Or.inl ⟨by rfl, ?_⟩) (by assumption) ?_
            rotate_left
            · (intro w hSw; (try dsimp only at hSw); go_simp <;> with_reducible rfl)
            try simp only [Act.put, List.setIfInBounds_toArray, List.set_cons_zero, List.set_cons_succ]
            refine wpAnyH_take (i := 17) (oi := ⟨some 61, _, _, _, _, _⟩) (v := ?_) rfl (by kernel_rfl) (by kernel_rfl) (by kernel_rfl) (fun _ _ _ h => h) (Or.inl ⟨by rfl, ?_⟩) (by assumption) ?_
            rotate_left
            · (intro w hSw; (try dsimp only at hSw); go_simp <;> with_reducible rfl)
            try simp only [Act.put, List.setIfInBounds_toArray, List.set_cons_zero, List.set_cons_succ]
            refine wpAnyH_take (i := 19) (oi := ⟨some 63, _, _, _, _, _⟩) (v := ?_) rfl (by kernel_rfl) (by kernel_rfl) (by kernel_rfl) (fun _ _ _ h => h) (Or.inl ⟨by rfl, ?_⟩) (by assumption) ?_
            rotate_left
            · (intro w hSw; (try dsimp only at hSw); go_simp <;> with_reducible rfl)
            try simp only [Act.put, List.setIfInBounds_toArray, List.set_cons_zero, List.set_cons_succ]
            refine wpAnyH_take (i := 20) (oi := ⟨some 64, _, _, _, _, _⟩) (v := ?_) rfl (by kernel_rfl) (by kernel_rfl) (by kernel_rfl) (fun _ _ _ h => h) (Or.inl ⟨by rfl, ?_⟩) (by assumption) ?_
            rotate_left
            · (intro w hSw; (try dsimp only at hSw); go_simp <;> with_reducible rfl)
            try simp only [Act.put, List.setIfInBounds_toArray, List.set_cons_zero, List.set_cons_succ]
            refine wpAnyH_take (i := 21) (oi := ⟨some 65, _, _, _, _, _⟩) (v := ?_) rfl (by kernel_rfl) (by kernel_rfl) (by kernel_rfl) (fun _ _ _ h => h) (Or.inl ⟨by rfl, ?_⟩) (by assumption) ?_
            rotate_left
            · (intro w hSw; (try dsimp only at hSw); go_simp <;> with_reducible rfl)
            try simp only [Act.put, List.setIfInBounds_toArray, List.set_cons_zero, List.set_cons_succ]
            refine wpAnyH_take (i := 22) (oi := ⟨some 66, _, _, _, _, _⟩) (v := ?_) rfl (by kernel_rfl) (by kernel_rfl) (by kernel_rfl) (fun _ _ _ h => h) (Or.inl ⟨by rfl, ?_⟩) (by assumption) ?_
            rotate_left
            · (intro w hSw; (try dsimp only at hSw); go_simp <;> with_reducible rfl)
            try simp only [Act.put, List.setIfInBounds_toArray, List.set_cons_zero, List.set_cons_succ]
            refine wpAnyH_ready (rs := [18]) (by kernel_rfl) (by simp) ?_
            refine AllReadyH.cons (o := ⟨some 62, _, _, _, _, _⟩) rfl (fun K hK => ?_) ?_
            rotate_left
            · exact AllReadyH.nil
            go_simp
            (go_at_call 61; refine (CycleOf_any t _ _ (lw_m HS) (by omega)).mono ?_; rw [← HPS.out, HXC.out]; rintro e V ⟨⟨A8, c2, rfl, hc2, hO2⟩, hV⟩; replace HR := kept_step HK HR hV; replace HS := lw_add (lw_step HS hV) hO2.rd; clear hV hO2; have hcA := HR.out.1.cell HYA.out; have hcB := HR.out.2.1.cell HYB.out; have hcx := HR.out.2.2.1.cell0 HXK.out HYA.out HX0.out; have hcP := HR.out.1.cell HYP.out; have hcy := HR.out.2.2.1.cell0 HXP.out HYP.out HX0P.out)
            go_wp2_with fail
            refine hK.out _ _ ?_ (fun hHeld2 => ?_)
            · (try dsimp only)
              go_keep
            clear hK K hHeld
            have hHeld := hHeld2
            clear hHeld2
            try simp only [Act.put, List.setIfInBounds_toArray, List.set_cons_zero, List.set_cons_succ]
            refine wpAnyH_ready (rs := [23]) (by kernel_rfl) (by simp) ?_
            refine AllReadyH.cons (o := ⟨some 67, _, _, _, _, _⟩) rfl (fun K hK => ?_) ?_
            rotate_left
            · exact AllReadyH.nil
            go_simp
            (go_at_call 38; refine (bnSame_any _ _ _ _ l _ (lw_rd HS 0 rfl) (Lib.hid (HR.out.2.2.1.rd_of HXK.out HYA.out)) (by omega)).mono ?_; rintro e V ⟨rfl, nB, rfl⟩; replace HR := kept_step HK HR (drewN_below _ nB); replace HS := lw_drew HS nB; have hcA := HR.out.1.cell HYA.out; have hcB := HR.out.2.1.cell HYB.out; have hcx := HR.out.2.2.1.cell0 HXK.out HYA.out HX0.out; have hcP := HR.out.1.cell HYP.out; have hcy := HR.out.2.2.1.cell0 HXP.out HYP.out HX0P.out)
            go_wp2_with fail
            refine hK.out _ _ ?_ (fun hHeld2 => ?_)
            · (try dsimp only)
              go_keep
            clear hK K hHeld
            have hHeld := hHeld2
            clear hHeld2
            try simp only [Act.put, List.setIfInBounds_toArray, List.set_cons_zero, List.set_cons_succ]
            refine wpAnyH_take (i := 24) (oi := ⟨some 68, _, _, _, _, _⟩) (v := ?_) rfl (by kernel_rfl) (by kernel_rfl) (by kernel_rfl) (fun _ _ _ h => h) (Or.inl ⟨by rfl, ?_⟩) (by assumption) ?_
            rotate_left
            · (intro w hSw; (try dsimp only at hSw); go_simp <;> with_reducible rfl)
            try simp only [Act.put, List.setIfInBounds_toArray, List.set_cons_zero, List.set_cons_succ]
            refine wpAnyH_take (i := 25) (oi := ⟨some 69, _, _, _, _, _⟩) (v := ?_) rfl (by kernel_rfl) (by kernel_rfl) (by kernel_rfl) (fun _ _ _ h => h) (Or.inl ⟨by rfl, ?_⟩) (by assumption) ?_
            rotate_left
            · (intro w hSw; (try dsimp only at hSw); go_simp <;> with_reducible rfl)
            try simp only [Act.put, List.setIfInBounds_toArray, List.set_cons_zero, List.set_cons_succ]
            refine wpAnyH_take (i := 26) (oi := ⟨some 70, _, _, _, _, _⟩) (v := ?_) rfl (by kernel_rfl) (by kernel_rfl) (by kernel_rfl) (fun _ _ _ h => h) (Or.inl ⟨by rfl, ?_⟩) (by assumption) ?_
            rotate_left
            · (intro w hSw; (try dsimp only at hSw); go_simp <;> with_reducible rfl)
            try simp only [Act.put, List.setIfInBounds_toArray, List.set_cons_zero, List.set_cons_succ]
            refine wpAnyH_take (i := 27) (oi := ⟨some 71, _, _, _, _, _⟩) (v := ?_) rfl (by kernel_rfl) (by kernel_rfl) (by kernel_rfl) (fun _ _ _ h => h) (Or.inl ⟨by rfl, ?_⟩) (by assumption) ?_
            rotate_left
            · (intro w hSw; (try dsimp only at hSw); go_simp <;> with_reducible rfl)
            try simp only [Act.put, List.setIfInBounds_toArray, List.set_cons_zero, List.set_cons_succ]
            refine wpAnyH_take (i := 28) (oi := ⟨some 72, _, _, _, _, _⟩) (v := ?_) rfl (by kernel_rfl) (by kernel_rfl) (by kernel_rfl) (fun _ _ _ h => h) (Or.inl ⟨by rfl, ?_⟩) (by assumption) ?_
            rotate_left
            · (intro w hSw; (try dsimp only at hSw); go_simp <;> with_reducible rfl)
            try simp only [Act.put, List.setIfInBounds_toArray, List.set_cons_zero, List.set_cons_succ]
            refine wpAnyH_take (i := 29) (oi := ⟨some 73, _, _, _, _, _⟩) (v := ?_) rfl (by kernel_rfl) (by kernel_rfl) (by kernel_rfl) (fun _ _ _ h => h) (Or.inl ⟨by rfl, ?_⟩) (by assumption) ?_
            rotate_left
            · (intro w hSw; (try dsimp only at hSw); go_simp <;> with_reducible rfl)
            try simp only [Act.put, List.setIfInBounds_toArray, List.set_cons_zero, List.set_cons_succ]
            refine wpAnyH_take (i := 30) (oi := ⟨some 74, _, _, _, _, _⟩) (v := ?_) rfl (by kernel_rfl) (by kernel_rfl) (by kernel_rfl) (fun _ _ _ h => h) (Or.inl ⟨by rfl, ?_⟩) (by assumption) ?_
            rotate_left
            · (intro w hSw; (try dsimp only at hSw); go_simp <;> with_reducible rfl)
            try simp only [Act.put, List.setIfInBounds_toArray, List.set_cons_zero, List.set_cons_succ]
            refine wpAnyH_take (i := 31) (oi := ⟨some 75, _, _, _, _, _⟩) (v := ?_) rfl (by kernel_rfl) (by kernel_rfl) (by kernel_rfl) (fun _ _ _ h => h) (Or.inl ⟨by rfl, ?_⟩) (by assumption) ?_
            rotate_left
            · (intro w hSw; (try dsimp only at hSw); go_simp <;> with_reducible rfl)
            try simp only [Act.put, List.setIfInBounds_toArray, List.set_cons_zero, List.set_cons_succ]
            refine wpAnyH_take (i := 32) (oi := ⟨some 76, _, _, _, _, _⟩) (v := ?_) rfl (by kernel_rfl) (by kernel_rfl) (by kernel_rfl) (fun _ _ _ h => h) (Or.inl ⟨by rfl, ?_⟩) (by assumption) ?_
            rotate_left
            · (intro w hSw; (try dsimp only at hSw); go_simp <;> with_reducible rfl)
            try simp only [Act.put, List.setIfInBounds_toArray, List.set_cons_zero, List.set_cons_succ]
            refine wpAnyH_take (i := 33) (oi := ⟨some 77, _, _, _, _, _⟩) (v := ?_) rfl (by kernel_rfl) (by kernel_rfl) (by kernel_rfl) (fun _ _ _ h => h) (Or.inl ⟨by rfl, ?_⟩) (by assumption) ?_
            rotate_left
            · (intro w hSw; (try dsimp only at hSw); go_simp <;> with_reducible rfl)
            try simp only [Act.put, List.setIfInBounds_toArray, List.set_cons_zero, List.set_cons_succ]
            refine wpAnyH_take (i := 34) (oi := ⟨some 78, _, _, _, _, _⟩) (v := ?_) rfl (by kernel_rfl) (by kernel_rfl) (by kernel_rfl) (fun _ _ _ h => h) (Or.inl ⟨by rfl, ?_⟩) (by assumption) ?_
            rotate_left
            · (intro w hSw; (try dsimp only at hSw); go_simp <;> with_reducible rfl)
            try simp only [Act.put, List.setIfInBounds_toArray, List.set_cons_zero, List.set_cons_succ]
            refine wpAnyH_take (i := 35) (oi := ⟨some 79, _, _, _, _, _⟩) (v := ?_) rfl (by kernel_rfl) (by kernel_rfl) (by kernel_rfl) (fun _ _ _ h => h) (Or.inl ⟨by rfl, ?_⟩) (by assumption) ?_
            rotate_left
            · (intro w hSw; (try dsimp only at hSw); go_simp <;> with_reducible rfl)
            try simp only [Act.put, List.setIfInBounds_toArray, List.set_cons_zero, List.set_cons_succ]
            refine wpAnyH_take (i := 36) (oi := ⟨some 80, _, _, _, _, _⟩) (v := ?_) rfl (by kernel_rfl) (by kernel_rfl) (by kernel_rfl) (fun _ _ _ h => h) (Or.inl ⟨by rfl, ?_⟩) (by assumption) ?_
            rotate_left
            · (intro w hSw; (try dsimp only at hSw); go_simp <;> with_reducible rfl)
            try simp only [Act.put, List.setIfInBounds_toArray, List.set_cons_zero, List.set_cons_succ]
            refine wpAnyH_take (i := 37) (oi := ⟨some 81, _, _, _, _, _⟩) (v := ?_) rfl (by kernel_rfl) (by kernel_rfl) (by kernel_rfl) (fun _ _ _ h => h) (Or.inl ⟨by rfl, ?_⟩) (by assumption) ?_
            rotate_left
            · (intro w hSw; (try dsimp only at hSw); go_simp <;> with_reducible rfl)
            try simp only [Act.put, List.setIfInBounds_toArray, List.set_cons_zero, List.set_cons_succ]
            refine wpAnyH_take (i := 38) (oi := ⟨some 82, _, _, _, _, _⟩) (v := ?_) rfl (by kernel_rfl) (by kernel_rfl) (by kernel_rfl) (fun _ _ _ h => h) (Or.inl ⟨by rfl, ?_⟩) (by assumption) ?_
            rotate_left
            · (intro w hSw; (try dsimp only at hSw); go_simp <;> with_reducible rfl)
            try simp only [Act.put, List.setIfInBounds_toArray, List.set_cons_zero, List.set_cons_succ]
            refine wpAnyH_take (i := 39) (oi := ⟨some 83, _, _, _, _, _⟩) (v := ?_) rfl (by kernel_rfl) (by kernel_rfl) (by kernel_rfl) (fun _ _ _ h => h) (Or.inl ⟨by rfl, ?_⟩) (by assumption) ?_
            rotate_left
            · (intro w hSw; (try dsimp only at hSw); go_simp <;> with_reducible rfl)
            try simp only [Act.put, List.setIfInBounds_toArray, List.set_cons_zero, List.set_cons_succ]
            refine wpAnyH_take (i := 40) (oi := ⟨some 84, _, _, _, _, _⟩) (v := ?_) rfl (by kernel_rfl) (by kernel_rfl) (by kernel_rfl) (fun _ _ _ h => h) (Or.inl ⟨by rfl, ?_⟩) (by assumption) ?_
            rotate_left
            · (intro w hSw; (try dsimp only at hSw); go_simp <;> with_reducible rfl)
            try simp only [Act.put, List.setIfInBounds_toArray, List.set_cons_zero, List.set_cons_succ]
            refine wpAnyH_take (i := 41) (oi := ⟨some 85, _, _, _, _, _⟩) (v := ?_) rfl (by kernel_rfl) (by kernel_rfl) (by kernel_rfl) (fun _ _ _ h => h) (Or.inl ⟨by rfl, ?_⟩) (by assumption) ?_
            rotate_left
            · (intro w hSw; (try dsimp only at hSw); go_simp <;> with_reducible rfl)
            try simp only [Act.put, List.setIfInBounds_toArray, List.set_cons_zero, List.set_cons_succ]
            refine wpAnyH_take (i := 42) (oi := ⟨some 86, _, _, _, _, _⟩) (v := ?_) rfl (by kernel_rfl) (by kernel_rfl) (by kernel_rfl) (fun _ _ _ h => h) (Or.inl ⟨by rfl, ?_⟩) (by assumption) ?_
            rotate_left
            · (intro w hSw; (try dsimp only at hSw); go_simp <;> with_reducible rfl)
            try simp only [Act.put, List.setIfInBounds_toArray, List.set_cons_zero, List.set_cons_succ]
            refine wpAnyH_take (i := 43) (oi := ⟨some 87, _, _, _, _, _⟩) (v := ?_) rfl (by kernel_rfl) (by kernel_rfl) (by kernel_rfl) (fun _ _ _ h => h) (Or.inl ⟨by rfl, ?_⟩) (by assumption) ?_
            rotate_left
            · (intro w hSw; (try dsimp only at hSw); go_simp <;> with_reducible rfl)
            try simp only [Act.put, List.setIfInBounds_toArray, List.set_cons_zero, List.set_cons_succ]
            refine wpAnyH_take (i := 44) (oi := ⟨some 88, _, _, _, _, _⟩) (v := ?_) rfl (by kernel_rfl) (by kernel_rfl) (by kernel_rfl) (fun _ _ _ h => h) (Or.inl ⟨by rfl, ?_⟩) (by assumption) ?_
            rotate_left
            · (intro w hSw; (try dsimp only at hSw); go_simp <;> with_reducible rfl)
            try simp only [Act.put, List.setIfInBounds_toArray, List.set_cons_zero, List.set_cons_succ]
            refine wpAnyH_take (i := 45) (oi := ⟨some 89, _, _, _, _, _⟩) (v := ?_) rfl (by kernel_rfl) (by kernel_rfl) (by kernel_rfl) (fun _ _ _ h => h) (Or.inl ⟨by rfl, ?_⟩) (by assumption) ?_
            rotate_left
            · (intro w hSw; (try dsimp only at hSw); go_simp <;> with_reducible rfl)
            try simp only [Act.put, List.setIfInBounds_toArray, List.set_cons_zero, List.set_cons_succ]
            refine wpAnyH_done (by kernel_rfl) ?_ _
            clear hw1 hw2 hw3 hw4 hl1 hl2 hl3 hl4 hcA hcB hcx hcP hcy
            go_wp2_with fail
            have hcA := HR.out.1.cell HYA.out
            have hcx := HR.out.2.2.1.cell0 HXK.out HYA.out HX0.out
            rcases Classical.em (l.length = 1) with hl1 | hl1
            all_goals
              first
                | (have hdl : ((l.length : Int) == 1) = true := by rw [beq_iff_eq]; omega)
                | (have hdl : ((l.length : Int) == 1) = false := by rw [beq_eq_false_iff_ne]; omega)
              go_wp2_with (first
                | (go_at_call 64; refine (BasinOf_any t _ _ (lw_m HS) (by omega)).mono ?_; rw [← HPS.out, ← HBB.out]; rintro e V ⟨⟨A9, c2, rfl, hc2, hO2⟩, hV⟩; replace HR := kept_step HK HR hV; replace HS := lw_add (lw_step HS hV) hO2.rd; clear hV hO2; have hcA := HR.out.1.cell HYA.out))
              go_roundw
              case rel => exact ⟨k + 1, by omega, by go_num, by rw [HSN.out]; go_num, by first | (rw [HFN.out, if_pos hl1]; go_num) | (rw [HFN.out, if_neg hl1]; go_num), lw_cut HS 2, HR⟩
              case measure => simp [intOf]; omega
        · have hkn : k = X.length := by omega
          subst hkn
          rw [HSB.out, HSF.out]
          have hFd : ((F.length : Int) == (F.length : Int)) = true := beq_self_eq_true _
          rcases HCS.out with ⟨hN1, h2⟩ | ⟨hN1, h2⟩ | ⟨hN1, h2⟩ | ⟨hN1, h2⟩ | ⟨hN1, h2⟩
          all_goals
            have HSZ2 := Lib.hid h2
            clear h2
            rw [hN1]
            go_wp2_with (first
              | (go_at_call 33; refine (SizeOf_any t  _ (lw_m HS) (by omega)).mono ?_; rw [← HPS.out]; rintro e V ⟨rfl, hV⟩; replace HS := lw_step HS hV; clear hV; rw [HSZ2.out])
              | (go_at_call 59; refine (FixedPoints_any t  _ (lw_m HS) (by omega)).mono ?_; rw [← HPS.out, ← HF.out]; rintro e V ⟨⟨A9, c2, rfl, hc2, hO2⟩, hV⟩; replace HS := lw_add (lw_step HS hV) hO2.rd; clear hV hO2))
            go_ret
            exact ⟨by first | rfl | (show Ending.returned (Value.bool (decide (1 ≤ (X.length : Int)))) = _; rw [decide_eq_true (by omega)]), HS.out.b⟩
    · have HOK : Hid (okN ps = false) := Lib.hid (by simpa using hok)
      have HX0 : Hid (X.length = 0) := Lib.hid (by rw [HX.out, cylN_no HOK.out]; rfl)
      have hX0 : X.length ≤ 0 := by rw [HX0.out]; exact Nat.le_refl _
      have hd : ((X.length : Int) == 0) = true := by rw [HX0.out]; rfl
      have hd2 : ((X.length : Int) == (X.length : Int)) = true := beq_self_eq_true _
      have hd3 : ((X.length : Int) != (X.length : Int)) = false := bne_self_eq_false _
      clear hok
      go_wp2_with fail
      refine (CyclesOf_any t _ (lw_m HS) (by omega)).mono ?_
      rw [← HPS.out, ← HX.out]
      rintro e W2 ⟨⟨A, c1, gs, ys, rfl, hc1, hO, hL⟩, hV⟩
      replace HS := lw_step HS hV
      clear hO hL hV
      go_wp2_with fail
      refine (sCyclesOf_any t _ (by omega)).mono ?_
      rw [← HPS.out, ← HX.out]
      rintro e W3 ⟨⟨A', c1', gs', ys', rfl, hc1', hO', hL'⟩, hV⟩
      replace HS := lw_step HS hV
      clear hO' hL' hV
      go_wp2_with (first
        | (go_at_call 67; refine (NetworkValid_any t  _ (lw_m HS) (by omega)).mono ?_; rw [← HPS.out]; rintro e V ⟨rfl, hV⟩; replace HS := lw_step HS hV; clear hV; rw [HOK.out]))
      go_ret
      exact ⟨rfl, HS.out.b⟩

end Go.Proofs.YtjinmoeabkpmaaaDoor
