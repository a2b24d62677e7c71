/- The walk of the law FnAttractors. Printed by wip/mkn.py. -/
import Derived.Test.YtpehimjngofnkaaDoorProg
import Derived.WalkKit
import Derived.WalkSpells
import Derived.WalkLawsBesides
import Derived.Lib.Hide
import Derived.Deep.QuietTactic
import Derived.BigQuiet
import Derived.Deep.RegionHeld3
import Derived.IntWalk
import Derived.Test.YtpehimjngofnkaaDoorG1
import Derived.Test.YtpehimjngofnkaaDoorQ9
import Derived.Test.YtpehimjngofnkaaDoorG5
import Derived.Test.YtpehimjngofnkaaDoorG4
import Derived.Test.YtpehimjngofnkaaDoorYv
import Derived.Test.YtpehimjngofnkaaDoorYm
import Derived.Test.YtpehimjngofnkaaDoorYn
import Derived.Test.YtpehimjngofnkaaDoorQ2
namespace Go.Proofs.YtpehimjngofnkaaDoor
open Go.RowKit
set_option linter.unusedVariables false

theorem LL.rdk {w : World} {B g off n c : Nat} {vv : Value} {gs : List Nat} {ys : List Value} {xss : List (List Int)} {k j : Nat} {l : List Int} {v : Int} (h : LL w B vv gs ys xss) (hi : xss[k]? = some l) (hy : ys[k]? = some (.slice (some ⟨g, off, none⟩) n c)) (hv : l[j]? = some v) : w.cell? ⟨g, off + j, none⟩ = some (.int .i64 v) :=
  (h.rd_of hi hy).cell (k := j) (v := .int .i64 v) (by rw [List.getElem?_map, hv]; rfl)
theorem kept_stepA {R : World → Prop} {w w' : World} (hk : Hid (∀ a b : World, R a → Below a.heap.size a b → R b)) (h : Hid (R w)) (hb : Below w.heap.size w w') : Hid (R w') := Lib.hid (hk.out _ _ h.out hb)
theorem sel_le_sel {p : Nat → Bool} {k N : Nat} (h : k ≤ N) : (sel k p).length ≤ (sel N p).length := by
  induction N with
  | zero => rw [show k = 0 by omega]; exact Nat.le_refl _
  | succ N ih =>
    by_cases e : k = N + 1
    · rw [e]; exact Nat.le_refl _
    · have := ih (by omega)
      cases hp : p N
      · rw [sel_no hp]; exact this
      · rw [sel_yes hp, List.length_append]; omega
set_option maxHeartbeats 8000000 in
set_option maxRecDepth 100000 in
theorem fnAttractors_walk (a0 : Option Addr) (len0 cap0 : Nat) (z0 : List Int) (w : World) (hm : Hid (HasM w)) (w0 : IsRow .u8 w a0 len0 cap0 z0) :
    Calls Tryd.prog 8 #[.slice a0 len0 cap0] w fun e w' => e = .returned (.bool true) ∧ Below w.heap.size w w' := by
  by_cases h0 : 1048576 < len0
  · go_enter Tryd.func8, Tryd.ntmps8
    go_wp2
    go_ret
    exact ⟨rfl, Below.refl _ _⟩
  · obtain ⟨bs, hbl, hrd, hwf, hcap, hmax⟩ := w0.rdk
    unfold maxLen at hmax
    have HRD := Lib.hid hrd
    have HWF := Lib.hid (fun x hx => wf_u8 (hwf x hx))
    have HBL := Lib.hid hbl.symm
    clear hbl hrd hwf w0
    go_enter Tryd.func8, Tryd.ntmps8
    go_wp2_with fail
    refine (DrawAttractorsOf_any _ _ _ _ _ HBL.out hcap (by omega) HRD HWF).mono ?_
    rintro e W1 ⟨⟨t, rfl, ht⟩, hB1⟩
    obtain ⟨ps, HPS⟩ : ∃ ps, Hid (ps = cutL t.data.toList) := ⟨_, rfl⟩
    have HS : Hid (LawW w W1 []) := Lib.hid ⟨hm.out.below hB1, hB1, by simp⟩
    clear hB1 h0 hm HRD HWF HBL hcap hmax
    obtain ⟨X, HX⟩ : ∃ X, Hid (X = attN ps) := ⟨_, Lib.hid rfl⟩
    by_cases hok : okN ps = true
    · have HOK := Lib.hid hok
      have hn5 := okN_le hok
      have hps := cut_pos HPS
      obtain ⟨N, HN, hN32, hN0⟩ : ∃ N : Nat, Hid (N = 2 ^ ps.length) ∧ N ≤ 32 ∧ 0 < N := ⟨_, Lib.hid rfl, two_le _ hn5, Nat.pos_of_ne_zero (by simp)⟩
      have HOKS : Hid (∀ x, x < N → okSt ps (x : Int) = true) := Lib.hid fun x hx => by rw [okSt_of hok HN.out]; simp; omega
      have HRB := Lib.hid (rbN_rb hok HN.out)
      have HCS : Hid ((N = 2 ∧ szN ps = 1) ∨ (N = 4 ∧ szN ps = 2) ∨ (N = 8 ∧ szN ps = 3) ∨ (N = 16 ∧ szN ps = 4) ∨ (N = 32 ∧ szN ps = 5)) := Lib.hid (by
        have h1 := HN.out
        have h2 : szN ps = (ps.length : Int) := by rw [szN, if_pos hok]
        have h3 : ps.length = 1 ∨ ps.length = 2 ∨ ps.length = 3 ∨ ps.length = 4 ∨ ps.length = 5 := by clear h1 h2; omega
        rcases h3 with h | h | h | h | h
        · exact .inl ⟨by rw [h1, h], by rw [h2, h]; rfl⟩
        · exact .inr (.inl ⟨by rw [h1, h], by rw [h2, h]; rfl⟩)
        · exact .inr (.inr (.inl ⟨by rw [h1, h], by rw [h2, h]; rfl⟩))
        · exact .inr (.inr (.inr (.inl ⟨by rw [h1, h], by rw [h2, h]; rfl⟩)))
        · exact .inr (.inr (.inr (.inr ⟨by rw [h1, h], by rw [h2, h]; rfl⟩))))
      obtain ⟨cs, HCs⟩ : ∃ cs, Hid (cs = atts (rbN ps) N N) := ⟨_, Lib.hid rfl⟩
      have eX : X = cs.map fun a => ints (sel N (rbN ps a)) := by rw [HX.out, attN_yes hok HN.out, attTo, HCs.out]
      have hXl : X.length = cs.length := by rw [eX, List.length_map]
      have hM32 : X.length ≤ 32 := by rw [hXl, HCs.out]; exact Nat.le_trans (atts_le _ _ _) hN32
      have hM0 : 0 < X.length := by rw [hXl, HCs.out]; exact atts_pos HRB.out hN0
      have hcm : ∀ i, i < X.length → cs.getD i 0 < N ∧ att (rbN ps) N (cs.getD i 0) = true := fun i hi => by
        have hx : cs.getD i 0 ∈ cs := by
          rw [List.getD_eq_getElem?_getD, List.getElem?_eq_getElem (by omega), Option.getD_some]; exact List.getElem_mem _
        rw [HCs.out] at hx ⊢
        exact mem_atts.1 hx
      have hasc : ∀ i j, i < j → j < X.length → cs.getD i 0 < cs.getD j 0 := fun i j hij hj => by
        rw [List.getD_eq_getElem?_getD, List.getElem?_eq_getElem (by omega), List.getD_eq_getElem?_getD, List.getElem?_eq_getElem (by omega)]
        simp only [Option.getD_some]
        have := HCs.out
        subst this
        exact sel_asc _ _ i j (by unfold atts at hXl; omega) (by unfold atts at hXl; omega) hij
      have HE : Hid (∀ i, i < X.length → X[i]? = some (ints (sel N (rbN ps (cs.getD i 0)))) ∧ (ints (sel N (rbN ps (cs.getD i 0))))[0]? = some ((cs.getD i 0 : Nat) : Int) ∧ (ints (sel N (rbN ps (cs.getD i 0)))).length ≤ 32) := Lib.hid fun i hi => by
        obtain ⟨h1, h2⟩ := hcm i hi
        refine ⟨?_, att_head HRB.out h1 h2, by rw [ints_length]; exact Nat.le_trans (sel_len _ _) hN32⟩
        rw [show X[i]? = (cs.map fun a => ints (sel N (rbN ps a)))[i]? from congrArg (fun z => z[i]?) eX, List.getElem?_map, List.getD_eq_getElem?_getD, List.getElem?_eq_getElem (by omega)]; rfl
      have HRX : Hid (∀ i, i < X.length → ∀ (j : Nat) (x : Int), (ints (sel N (rbN ps (cs.getD i 0))))[j]? = some x → reaN ps x = ints (sel N (rbN ps (cs.getD i 0)))) := Lib.hid fun i hi j x hx => by
        obtain ⟨h1, h2⟩ := hcm i hi
        rw [ints, List.getElem?_map] at hx
        obtain ⟨y, hy, rfl⟩ := Option.map_eq_some_iff.1 hx
        obtain ⟨h3, h4⟩ := mem_sel.1 (List.mem_of_getElem? hy)
        rw [reaN_yes (HOKS.out y h3) HN.out, att_reach HRB.out h1 h2 h4]
      obtain ⟨gb, HGb⟩ : ∃ gb : Nat → Nat, Hid (gb = fun a => (sel N (rbN ps a)).length) := ⟨fun a => (sel N (rbN ps a)).length, Lib.hid rfl⟩
      obtain ⟨gf, HGf⟩ : ∃ gf : Nat → Nat, Hid (gf = fun a => if (sel N (rbN ps a)).length = 1 then 1 else 0) := ⟨fun a => if (sel N (rbN ps a)).length = 1 then 1 else 0, Lib.hid rfl⟩
      obtain ⟨T, HT⟩ : ∃ T : Nat → Nat, Hid (T = fun k => (sel k (std (rbN ps) N)).length) := ⟨fun k => (sel k (std (rbN ps) N)).length, Lib.hid rfl⟩
      have HSB : Hid (idxS gb cs X.length = T N) := Lib.hid (by rw [HGb.out, HT.out, hXl, HCs.out]; exact att_sum HRB.out)
      have HT0 : Hid (T 0 = 0) := Lib.hid (by rw [HT.out]; rfl)
      have HTL : Hid (∀ k, k ≤ N → T k ≤ T N) := Lib.hid fun k hk => by rw [HT.out]; exact sel_le_sel hk
      have hTN : T N ≤ 32 := by rw [HT.out]; exact Nat.le_trans (sel_len _ _) hN32
      have HTS : Hid (∀ k, k < N → T (k + 1) = T k + if stdN ps (k : Int) = true then 1 else 0) := Lib.hid fun k hk => by
        rw [HT.out, stdN_yes (HOKS.out k hk) HN.out]
        cases hp : std (rbN ps) N k
        · show (sel (k + 1) _).length = (sel k _).length + _
          rw [sel_no hp]; rfl
        · show (sel (k + 1) _).length = (sel k _).length + _
          rw [sel_yes hp, List.length_append]; rfl
      have HOP : Hid (∀ k, k < N → 0 < (outN ps (k : Int)).length ∧ (outN ps (k : Int)).length ≤ 32) := Lib.hid fun k hk => by
        rw [outN_yes (HOKS.out k hk) HN.out, ints_length]
        obtain ⟨a, ha⟩ := outs_some HRB.out _ k hk (Nat.le_refl _)
        exact ⟨List.length_pos_of_mem ha, Nat.le_trans (outs_le _ _ _) hN32⟩
      obtain ⟨F, HF⟩ : ∃ F, Hid (F = ints (fixN ps)) := ⟨_, Lib.hid rfl⟩
      have HSF : Hid (idxS gf cs X.length = F.length) := Lib.hid (by
        rw [HGf.out, hXl, HCs.out, HF.out, ints_length, fixN_yes hok HN.out]; exact att_fix_sum hok HN.out)
      have HGL : Hid (∀ a, gb a ≤ 32) := Lib.hid fun a => by rw [HGb.out]; exact Nat.le_trans (sel_len _ _) hN32
      have HGF : Hid (∀ a, gf a ≤ 1) := Lib.hid fun a => by rw [HGf.out]; show (if _ then 1 else 0) ≤ 1; split <;> omega
      have HAS := Lib.hid hasc
      have hF32 : F.length ≤ 32 := by rw [← HSF.out]; have := idxS_le (cs := cs) HGF.out X.length; omega
      clear eX hXl hcm hasc hok hps
      go_wp2_with fail
      refine (AttractorsOf_any t _ (lw_m HS) (by omega)).mono ?_
      rw [← HPS.out, ← HX.out]
      rintro e W2 ⟨⟨A, c1, gs, ys, rfl, hc1, hO, hL⟩, hV⟩
      replace HS := lw_step HS hV
      have HO := Lib.hid hO
      have HL := Lib.hid hL
      clear hO hL hV
      go_wp2_with fail
      refine (sAttractorsOf_any t _ (by omega)).mono ?_
      rw [← HPS.out, ← HX.out]
      rintro e W3 ⟨⟨A', c1', gs', ys', rfl, hc1', hO', hL'⟩, hV⟩
      replace HS := lw_step HS hV
      obtain ⟨l0, hl0⟩ : ∃ l0, X[0]? = some l0 := ⟨_, List.getElem?_eq_getElem hM0⟩
      have hR3 : Rd W3 A ys ∧ Rd W3 A' ys' ∧ LL W3 W1.heap.size (.slice A X.length c1) gs ys X ∧ LL W3 W2.heap.size (.slice A' X.length c1') gs' ys' X := ⟨HO.out.rd.below hV, hO'.rd, HL.out.below hV, hL'⟩
      obtain ⟨gA, oA, hA⟩ : ∃ gA oA, A = some ⟨gA, oA, none⟩ := by
        obtain ⟨g2, off2, c2, k1, k2, k3, k4⟩ := HL.out.at_ 0 l0 hl0
        obtain ⟨gA, oA, hA, _⟩ := HO.out.rd.at_ k2
        exact ⟨gA, oA, hA⟩
      obtain ⟨gB, oB, hB⟩ : ∃ gB oB, A' = some ⟨gB, oB, none⟩ := by
        obtain ⟨g, off, c, h1, h2, h3, h4⟩ := hL'.at_ 0 l0 hl0
        obtain ⟨gA, oA, hA, _⟩ := hO'.rd.at_ h2
        exact ⟨gA, oA, hA⟩
      subst hA
      subst hB
      have HK : Hid (∀ a b : World, (Rd a (some ⟨gA, oA, none⟩) ys ∧ Rd a (some ⟨gB, oB, none⟩) ys' ∧ LL a W1.heap.size (.slice (some ⟨gA, oA, none⟩) X.length c1) gs ys X ∧ LL a W2.heap.size (.slice (some ⟨gB, oB, none⟩) X.length c1') gs' ys' X) → Below a.heap.size a b → (Rd b (some ⟨gA, oA, none⟩) ys ∧ Rd b (some ⟨gB, oB, none⟩) ys' ∧ LL b W1.heap.size (.slice (some ⟨gA, oA, none⟩) X.length c1) gs ys X ∧ LL b W2.heap.size (.slice (some ⟨gB, oB, none⟩) X.length c1') gs' ys' X)) := Lib.hid fun a b h hb => ⟨h.1.below hb, h.2.1.below hb, h.2.2.1.below hb, h.2.2.2.below hb⟩
      have HR := Lib.hid hR3
      have HYS : Hid (∀ (i : Nat) (l : List Int), X[i]? = some l → (∃ g off c : Nat, ys[i]? = some (Value.slice (some ⟨g, off, none⟩) l.length c)) ∧ ∃ g off c : Nat, ys'[i]? = some (Value.slice (some ⟨g, off, none⟩) l.length c)) := Lib.hid fun i l hi => by
        obtain ⟨g, off, c, h1, h2, h3, h4⟩ := hR3.2.2.1.at_ i l hi
        obtain ⟨g2, off2, c2, k1, k2, k3, k4⟩ := hR3.2.2.2.at_ i l hi
        exact ⟨⟨g, off, c, h2⟩, g2, off2, c2, k2⟩
      clear hR3 HL hL' hO' HO hV hl0
      go_wp2_with (first
        | (go_at_call 36; refine (NetworkValid_any t  _ (lw_m HS) (by omega)).mono ?_; rw [← HPS.out]; rintro e V ⟨rfl, hV⟩; replace HR := kept_stepA HK HR hV; replace HS := lw_step HS hV; clear hV; rw [HOK.out]))
      go_loopw [6, 7, 8] (fun q r i wr => ∃ k : Nat, k ≤ X.length ∧ i = .int .i64 k ∧ q = .int .i64 (idxS gf cs k : Nat) ∧ r = .int .i64 (idxS gb cs k : Nat) ∧ Hid (LawW w wr []) ∧ Hid (Rd wr (some ⟨gA, oA, none⟩) ys ∧ Rd wr (some ⟨gB, oB, none⟩) ys' ∧ LL wr W1.heap.size (.slice (some ⟨gA, oA, none⟩) X.length c1) gs ys X ∧ LL wr W2.heap.size (.slice (some ⟨gB, oB, none⟩) X.length c1') gs' ys' X)) (fun _ _ i _ => X.length - (intOf i).toNat)
      case atStart => exact ⟨0, Nat.zero_le _, rfl, rfl, rfl, HS, HR⟩
      case round =>
        clear HS HR
        obtain ⟨k, hk, rfl, rfl, rfl, HS, HR⟩ := hrel
        obtain ⟨wo, rfl⟩ : ∃ x, x = wr := ⟨_, rfl⟩
        by_cases hlt : k < X.length
        · obtain ⟨l, HLk⟩ : ∃ l, Hid (l = ints (sel N (rbN ps (cs.getD k 0)))) := ⟨_, Lib.hid rfl⟩
          obtain ⟨x, HXk⟩ : ∃ x, Hid (x = cs.getD k 0) := ⟨_, Lib.hid rfl⟩
          obtain ⟨e1, e2, e4⟩ := HE.out k hlt
          have e3 := HRX.out k hlt
          rw [← HLk.out] at e1 e2 e3 e4
          rw [← HXk.out] at e2
          have HXK := Lib.hid e1
          have HX0 := Lib.hid e2
          have HXC := Lib.hid e3
          obtain ⟨⟨g, off, ci, hya⟩, g', off', ci', hyb⟩ := HYS.out k l e1
          have HYA := Lib.hid hya
          have HYB := Lib.hid hyb
          have hl32 : l.length ≤ 32 := e4
          have hl0 : 0 < l.length := (List.getElem?_eq_some_iff.1 e2).1
          obtain ⟨sk, HSK⟩ : ∃ s, Hid (s = idxS gb cs k) := ⟨_, Lib.hid rfl⟩
          obtain ⟨fk, HFK⟩ : ∃ s, Hid (s = idxS gf cs k) := ⟨_, Lib.hid rfl⟩
          have hsk : sk ≤ 1024 := by rw [HSK.out]; have := idxS_le (cs := cs) HGL.out k; omega
          have hfk : fk ≤ 32 := by rw [HFK.out]; have := idxS_le (cs := cs) HGF.out k; omega
          have HSN : Hid (idxS gb cs (k + 1) = sk + l.length) := Lib.hid (by rw [idxS, ← HSK.out, HGb.out, HLk.out, ints_length])
          have HFN : Hid (idxS gf cs (k + 1) = fk + if l.length = 1 then 1 else 0) := Lib.hid (by
            rw [idxS, ← HFK.out, HGf.out, HLk.out, ints_length])
          have hpre : k = 0 ∨ (0 < k ∧ ∃ k1 lp x' gp op cip, k1 + 1 = k ∧ x' < x ∧ X[k1]? = some lp ∧ lp[0]? = some ((x' : Nat) : Int) ∧ ys[k1]? = some (Value.slice (some ⟨gp, op, none⟩) lp.length cip) ∧ 0 < lp.length) := by
            rcases Nat.eq_zero_or_pos k with h | h
            · exact .inl h
            · obtain ⟨p1, p2, p4⟩ := HE.out (k - 1) (by omega)
              obtain ⟨⟨gp, op, cip, hyp⟩, _⟩ := HYS.out (k - 1) _ p1
              exact .inr ⟨h, k - 1, _, cs.getD (k - 1) 0, gp, op, cip, by omega, by rw [HXk.out]; exact HAS.out (k - 1) k (by omega) hlt, p1, p2, hyp, (List.getElem?_eq_some_iff.1 p2).1⟩
          rw [← HSK.out, ← HFK.out]
          have hcA := HR.out.1.cell HYA.out
          have hcB := HR.out.2.1.cell HYB.out
          have hcx := HR.out.2.2.1.rdk HXK.out HYA.out HX0.out
          rw [Nat.add_zero] at hcx
          have HBN : Hid (∀ n, Calls Tryd.prog 30 #[.slice (some ⟨g, off, none⟩) l.length ci, .slice (some ⟨g', off', none⟩) l.length ci'] (wo.drewN n) fun e w' => e = .returned (.bool true) ∧ ∃ m, (wo.drewN n).drewN m = w') := Lib.hid fun n => by
            refine (bnSame_any _ _ _ _ l (wo.drewN n) (Lib.hid (HR.out.2.2.1.rd_of HXK.out HYA.out)) (Lib.hid (HR.out.2.2.2.rd_of HXK.out HYB.out)) (by omega)).mono ?_
            rintro e V ⟨rfl, nB, rfl⟩
            exact ⟨rfl, nB, rfl⟩
          clear e1 e2 e3 e4 hya hyb
          have hq1 : (0 : Int) ≤ 0 := Int.le_refl _
          have hq2 : (0 : Int) < (l.length : Int) := by omega
          rcases hpre with hk0 | ⟨hk0, k1, lp, x', gp, op, cip, hkk1, hxx, hp1, hp2, hp3, hp4⟩
          · have hk2 : ¬ 0 < k := by omega
            have hk1 : ¬ (k : Int) > 0 := by omega
            have hk3 : decide (0 < k) = false := decide_eq_false hk2
            have hk4 : decide ((k : Int) > 0) = false := decide_eq_false hk1
            have hk5 : ¬ (0 : Int) < (k : Int) := by omega
            have hk6 : decide ((0 : Int) < (k : Int)) = false := decide_eq_false hk5
            clear hk0
            go_wp2_with fail
            go_quiet ((go_at_call 30; first | exact quiet_add_left2 (HBN.out _) | exact quiet_left2 (HBN.out _)))
            clear hk1 hk2 hk3 hk4 hk5 hk6
            replace HS := lw_drew HS nq
            replace HR := kept_stepA HK HR (drewN_below wo nq)
            clear hcA hcB hcx HBN
            have hcA := HR.out.1.cell HYA.out
            go_wp2_with fail
            go_loopw [9] (fun q wr => ∃ j : Nat, j ≤ l.length ∧ q = .int .i64 j ∧ Hid (LawW w wr []) ∧ Hid (Rd wr (some ⟨gA, oA, none⟩) ys ∧ Rd wr (some ⟨gB, oB, none⟩) ys' ∧ LL wr W1.heap.size (.slice (some ⟨gA, oA, none⟩) X.length c1) gs ys X ∧ LL wr W2.heap.size (.slice (some ⟨gB, oB, none⟩) X.length c1') gs' ys' X)) (fun q _ => l.length - (intOf q).toNat)
            case atStart => exact ⟨0, Nat.zero_le _, rfl, HS, HR⟩
            case round =>
              clear HS HR hcA
              obtain ⟨j, hj, rfl, HS, HR⟩ := hrel
              have hcA := HR.out.1.cell HYA.out
              by_cases hlj : j < l.length
              · obtain ⟨v, hvj⟩ : ∃ v, l[j]? = some v := ⟨_, List.getElem?_eq_getElem hlj⟩
                have HVj := Lib.hid hvj
                have HREA := Lib.hid (HXC.out j v hvj)
                have hcj := HR.out.2.2.1.rdk HXK.out HYA.out HVj.out
                clear hvj
                go_wp2_with fail
                replace HS : Hid (LawW w wr.drew []) := lw_drew HS 1
                replace HR := kept_stepA HK HR (drewN_below wr 1)
                go_region_held3 (fun w' : World => w'.cell? ⟨gA, oA + k, none⟩ = some (Value.slice (some ⟨g, off, none⟩) l.length ci) ∧ w'.cell? ⟨g, off + j, none⟩ = some (.int .i64 v)) (go_keep)
                  (first
                    | (go_at_call 37; refine (ReachableFrom_any t _ _ (lw_m HS) (by omega)).mono ?_; rw [← HPS.out, HREA.out]; rintro e V ⟨⟨A8, c2, rfl, hc2, hO2⟩, hV⟩; replace HR := kept_stepA HK HR hV; replace HS := lw_add (lw_step HS hV) hO2.rd; clear hV hO2; have hcA := HR.out.1.cell HYA.out; have hcj := HR.out.2.2.1.rdk HXK.out HYA.out HVj.out)
                    | (go_at_call 30; refine (bnSame_any _ _ _ _ l _ (lw_rd HS 0 rfl) (Lib.hid (HR.out.2.2.1.rd_of HXK.out HYA.out)) (by omega)).mono ?_; rintro e V ⟨rfl, nB, rfl⟩; replace HR := kept_stepA HK HR (drewN_below _ nB); replace HS := lw_drew HS nB; have hcA := HR.out.1.cell HYA.out; have hcj := HR.out.2.2.1.rdk HXK.out HYA.out HVj.out))
                all_goals
                  go_wp2_with fail
                  go_roundw
                  case rel => exact ⟨j + 1, by omega, by go_num, lw_cut HS 1, HR⟩
                  case measure => simp [intOf]; omega
              · rcases Classical.em (l.length = 1) with hl1 | hl1
                all_goals
                  first
                    | (have hdl : ((l.length : Int) == 1) = true := by rw [beq_iff_eq]; omega)
                    | (have hdl : ((l.length : Int) == 1) = false := by rw [beq_eq_false_iff_ne]; omega)
                  first
                    | rw [if_pos hl1] at HFN
                    | rw [if_neg hl1] at HFN
                  clear hl1
                  go_wp2_with fail
                  go_roundw
                  case rel => exact ⟨k + 1, by omega, by go_num, by rw [HFN.out]; go_num, by rw [HSN.out]; go_num, HS, HR⟩
                  case measure => simp [intOf]; omega
          · have hk1 : (k : Int) > 0 := by omega
            have hk3 : decide (0 < k) = true := decide_eq_true hk0
            have hk4 : decide ((k : Int) > 0) = true := decide_eq_true hk1
            have hk5 : (0 : Int) < (k : Int) := by omega
            have hk6 : decide ((0 : Int) < (k : Int)) = true := decide_eq_true hk5
            have HXP := Lib.hid hp1
            have HX0P := Lib.hid hp2
            have HYP := Lib.hid hp3
            have hcP : wo.cell? ⟨gA, oA + k1, none⟩ = some (Value.slice (some ⟨gp, op, none⟩) lp.length cip) := HR.out.1.cell HYP.out
            have hcy : wo.cell? ⟨gp, op + 0, none⟩ = some (.int .i64 (x' : Int)) := HR.out.2.2.1.rdk HXP.out HYP.out HX0P.out
            rw [Nat.add_zero] at hcy
            have hl1 : ¬ (x : Int) ≤ (x' : Int) := by omega
            have hl2 : ¬ x ≤ x' := by omega
            have hl3 : decide (x ≤ x') = false := decide_eq_false hl2
            have hl4 : decide ((x : Int) ≤ (x' : Int)) = false := decide_eq_false hl1
            have hw1 : IntKind.i64.wrap ((k : Int) - 1) = (k1 : Int) := by rw [IntWalk.i64_in _ (by omega)]; omega
            have hw0 : (k : Int) - 1 = (k1 : Int) := by omega
            have hw2 : (0 : Int) ≤ (k1 : Int) := by omega
            have hw3 : (k1 : Int) < (X.length : Int) := by omega
            have hw5 : k1 < X.length := by omega
            have hw4 : (k1 : Int).toNat = k1 := by omega
            have hq3 : (0 : Int) < (lp.length : Int) := by omega
            have hkk2 : k1 < k := by omega
            clear hkk1 hp1 hp2 hp3
            go_wp2_with fail
            go_quiet ((go_at_call 30; first | exact quiet_add_left2 (HBN.out _) | exact quiet_left2 (HBN.out _)))
            clear hw1 hw2 hw3 hw4 hw5 hw0 hl1 hl2 hl3 hl4 hcP hcy hk1 hk3 hk4 hk5 hk6
            replace HS := lw_drew HS nq
            replace HR := kept_stepA HK HR (drewN_below wo nq)
            clear hcA hcB hcx HBN
            have hcA := HR.out.1.cell HYA.out
            go_wp2_with fail
            go_loopw [9] (fun q wr => ∃ j : Nat, j ≤ l.length ∧ q = .int .i64 j ∧ Hid (LawW w wr []) ∧ Hid (Rd wr (some ⟨gA, oA, none⟩) ys ∧ Rd wr (some ⟨gB, oB, none⟩) ys' ∧ LL wr W1.heap.size (.slice (some ⟨gA, oA, none⟩) X.length c1) gs ys X ∧ LL wr W2.heap.size (.slice (some ⟨gB, oB, none⟩) X.length c1') gs' ys' X)) (fun q _ => l.length - (intOf q).toNat)
            case atStart => exact ⟨0, Nat.zero_le _, rfl, HS, HR⟩
            case round =>
              clear HS HR hcA
              obtain ⟨j, hj, rfl, HS, HR⟩ := hrel
              have hcA := HR.out.1.cell HYA.out
              by_cases hlj : j < l.length
              · obtain ⟨v, hvj⟩ : ∃ v, l[j]? = some v := ⟨_, List.getElem?_eq_getElem hlj⟩
                have HVj := Lib.hid hvj
                have HREA := Lib.hid (HXC.out j v hvj)
                have hcj := HR.out.2.2.1.rdk HXK.out HYA.out HVj.out
                clear hvj
                go_wp2_with fail
                replace HS : Hid (LawW w wr.drew []) := lw_drew HS 1
                replace HR := kept_stepA HK HR (drewN_below wr 1)
                go_region_held3 (fun w' : World => w'.cell? ⟨gA, oA + k, none⟩ = some (Value.slice (some ⟨g, off, none⟩) l.length ci) ∧ w'.cell? ⟨g, off + j, none⟩ = some (.int .i64 v)) (go_keep)
                  (first
                    | (go_at_call 37; refine (ReachableFrom_any t _ _ (lw_m HS) (by omega)).mono ?_; rw [← HPS.out, HREA.out]; rintro e V ⟨⟨A8, c2, rfl, hc2, hO2⟩, hV⟩; replace HR := kept_stepA HK HR hV; replace HS := lw_add (lw_step HS hV) hO2.rd; clear hV hO2; have hcA := HR.out.1.cell HYA.out; have hcj := HR.out.2.2.1.rdk HXK.out HYA.out HVj.out)
                    | (go_at_call 30; refine (bnSame_any _ _ _ _ l _ (lw_rd HS 0 rfl) (Lib.hid (HR.out.2.2.1.rd_of HXK.out HYA.out)) (by omega)).mono ?_; rintro e V ⟨rfl, nB, rfl⟩; replace HR := kept_stepA HK HR (drewN_below _ nB); replace HS := lw_drew HS nB; have hcA := HR.out.1.cell HYA.out; have hcj := HR.out.2.2.1.rdk HXK.out HYA.out HVj.out))
                all_goals
                  go_wp2_with fail
                  go_roundw
                  case rel => exact ⟨j + 1, by omega, by go_num, lw_cut HS 1, HR⟩
                  case measure => simp [intOf]; omega
              · rcases Classical.em (l.length = 1) with hl1 | hl1
                all_goals
                  first
                    | (have hdl : ((l.length : Int) == 1) = true := by rw [beq_iff_eq]; omega)
                    | (have hdl : ((l.length : Int) == 1) = false := by rw [beq_eq_false_iff_ne]; omega)
                  first
                    | rw [if_pos hl1] at HFN
                    | rw [if_neg hl1] at HFN
                  clear hl1
                  go_wp2_with fail
                  go_roundw
                  case rel => exact ⟨k + 1, by omega, by go_num, by rw [HFN.out]; go_num, by rw [HSN.out]; go_num, HS, HR⟩
                  case measure => simp [intOf]; omega
        · have hkn : k = X.length := by omega
          subst hkn
          rw [HSB.out, HSF.out]
          have hFd : ((F.length : Int) == (F.length : Int)) = true := beq_self_eq_true _
          rcases HCS.out with ⟨hN1, h2⟩ | ⟨hN1, h2⟩ | ⟨hN1, h2⟩ | ⟨hN1, h2⟩ | ⟨hN1, h2⟩
          · have HSZ2 := Lib.hid h2
            clear h2 HCS
            subst hN1
            go_wp2_with fail
            go_loopw [7, 10] (fun q i wr => ∃ k : Nat, k ≤ 2 ∧ i = .int .i64 k ∧ q = .int .i64 ((T 2 - T k : Nat) : Int) ∧ Hid (LawW w wr [])) (fun _ i _ => 2 - (intOf i).toNat)
            case atStart => exact ⟨0, Nat.zero_le _, rfl, by simp only [HT0.out, Nat.sub_zero], HS⟩
            case round =>
              clear HS HR
              obtain ⟨k, hk, rfl, rfl, HS⟩ := hrel
              by_cases hlt : k < 2
              · have hlt2 : (k : Int) < 2 := by omega
                have hlt3 : decide ((k : Int) < 2) = true := decide_eq_true hlt2
                obtain ⟨O, HO⟩ : ∃ O, Hid (O = outN ps (k : Int)) := ⟨_, Lib.hid rfl⟩
                obtain ⟨ho0, ho32⟩ := HOP.out k hlt
                rw [← HO.out] at ho0 ho32
                have hod : ((O.length : Int) == 0) = false := by rw [beq_eq_false_iff_ne]; omega
                have hTk := HTL.out k hk
                have hTk1 := HTL.out (k + 1) hlt
                obtain ⟨d, HD⟩ : ∃ d, Hid (d = T 2 - T k) := ⟨_, Lib.hid rfl⟩
                have hd32 : d ≤ 32 := by rw [HD.out]; omega
                rw [← HD.out]
                cases hst : stdN ps (k : Int) with
                | true =>
                  have HST := Lib.hid hst
                  have hTS := HTS.out k hlt
                  rw [if_pos hst] at hTS
                  have hd0 : 0 < d := by rw [HD.out]; omega
                  have HDN : Hid (T 2 - T (k + 1) = d - 1) := Lib.hid (by rw [HD.out]; omega)
                  have hdw : IntKind.i64.wrap ((d : Int) - 1) = ((d - 1 : Nat) : Int) := by rw [IntWalk.i64_in _ (by omega)]; omega
                  have hdw2 : (d : Int) - 1 = ((d - 1 : Nat) : Int) := by omega
                  clear hst hTS hTk hTk1
                  go_wp2_with (first
                    | (go_at_call 38; refine (SizeOf_any t  _ (lw_m HS) (by omega)).mono ?_; rw [← HPS.out]; rintro e V ⟨rfl, hV⟩; replace HS := lw_step HS hV; clear hV; rw [HSZ2.out])
                    | (go_at_call 32; refine (IsSteady_any t _ _ (lw_m HS) (by omega)).mono ?_; rw [← HPS.out]; rintro e V ⟨rfl, hV⟩; replace HS := lw_step HS hV; clear hV; rw [HST.out])
                    | (go_at_call 26; refine (OutcomesOf_any t _ _ (lw_m HS) (by omega)).mono ?_; rw [← HPS.out, ← HO.out]; rintro e V ⟨⟨A9, c2, rfl, hc2, hO2⟩, hV⟩; replace HS := lw_add (lw_step HS hV) hO2.rd; clear hV hO2))
                  go_roundw
                  case rel => exact ⟨k + 1, by omega, by go_num, by (rw [HDN.out]) <;> go_num, lw_cut HS 1⟩
                  case measure => simp [intOf]; omega
                | false =>
                  have HST := Lib.hid hst
                  have hTS := HTS.out k hlt
                  rw [if_neg (by rw [hst]; simp)] at hTS
                  have HDN : Hid (T 2 - T (k + 1) = d) := Lib.hid (by rw [HD.out]; omega)
                  clear hst hTS hTk hTk1
                  go_wp2_with (first
                    | (go_at_call 38; refine (SizeOf_any t  _ (lw_m HS) (by omega)).mono ?_; rw [← HPS.out]; rintro e V ⟨rfl, hV⟩; replace HS := lw_step HS hV; clear hV; rw [HSZ2.out])
                    | (go_at_call 32; refine (IsSteady_any t _ _ (lw_m HS) (by omega)).mono ?_; rw [← HPS.out]; rintro e V ⟨rfl, hV⟩; replace HS := lw_step HS hV; clear hV; rw [HST.out])
                    | (go_at_call 26; refine (OutcomesOf_any t _ _ (lw_m HS) (by omega)).mono ?_; rw [← HPS.out, ← HO.out]; rintro e V ⟨⟨A9, c2, rfl, hc2, hO2⟩, hV⟩; replace HS := lw_add (lw_step HS hV) hO2.rd; clear hV hO2))
                  go_roundw
                  case rel => exact ⟨k + 1, by omega, by go_num, by rw [HDN.out], lw_cut HS 1⟩
                  case measure => simp [intOf]; omega
              · have hke : k = 2 := by omega
                subst hke
                have hdz : T 2 - T 2 = 0 := Nat.sub_self _
                rw [hdz]
                clear hdz
                go_wp2_with (first
                  | (go_at_call 38; refine (SizeOf_any t  _ (lw_m HS) (by omega)).mono ?_; rw [← HPS.out]; rintro e V ⟨rfl, hV⟩; replace HS := lw_step HS hV; clear hV; rw [HSZ2.out])
                  | (go_at_call 39; refine (FixedPoints_any t  _ (lw_m HS) (by omega)).mono ?_; rw [← HPS.out, ← HF.out]; rintro e V ⟨⟨A9, c2, rfl, hc2, hO2⟩, hV⟩; replace HS := lw_add (lw_step HS hV) hO2.rd; clear hV hO2))
                go_ret
                exact ⟨by first | rfl | (show Ending.returned (Value.bool (decide (1 ≤ (X.length : Int)))) = _; rw [decide_eq_true (by omega)]), HS.out.b⟩
          · have HSZ2 := Lib.hid h2
            clear h2 HCS
            subst hN1
            go_wp2_with fail
            go_loopw [7, 10] (fun q i wr => ∃ k : Nat, k ≤ 4 ∧ i = .int .i64 k ∧ q = .int .i64 ((T 4 - T k : Nat) : Int) ∧ Hid (LawW w wr [])) (fun _ i _ => 4 - (intOf i).toNat)
            case atStart => exact ⟨0, Nat.zero_le _, rfl, by simp only [HT0.out, Nat.sub_zero], HS⟩
            case round =>
              clear HS HR
              obtain ⟨k, hk, rfl, rfl, HS⟩ := hrel
              by_cases hlt : k < 4
              · have hlt2 : (k : Int) < 4 := by omega
                have hlt3 : decide ((k : Int) < 4) = true := decide_eq_true hlt2
                obtain ⟨O, HO⟩ : ∃ O, Hid (O = outN ps (k : Int)) := ⟨_, Lib.hid rfl⟩
                obtain ⟨ho0, ho32⟩ := HOP.out k hlt
                rw [← HO.out] at ho0 ho32
                have hod : ((O.length : Int) == 0) = false := by rw [beq_eq_false_iff_ne]; omega
                have hTk := HTL.out k hk
                have hTk1 := HTL.out (k + 1) hlt
                obtain ⟨d, HD⟩ : ∃ d, Hid (d = T 4 - T k) := ⟨_, Lib.hid rfl⟩
                have hd32 : d ≤ 32 := by rw [HD.out]; omega
                rw [← HD.out]
                cases hst : stdN ps (k : Int) with
                | true =>
                  have HST := Lib.hid hst
                  have hTS := HTS.out k hlt
                  rw [if_pos hst] at hTS
                  have hd0 : 0 < d := by rw [HD.out]; omega
                  have HDN : Hid (T 4 - T (k + 1) = d - 1) := Lib.hid (by rw [HD.out]; omega)
                  have hdw : IntKind.i64.wrap ((d : Int) - 1) = ((d - 1 : Nat) : Int) := by rw [IntWalk.i64_in _ (by omega)]; omega
                  have hdw2 : (d : Int) - 1 = ((d - 1 : Nat) : Int) := by omega
                  clear hst hTS hTk hTk1
                  go_wp2_with (first
                    | (go_at_call 38; refine (SizeOf_any t  _ (lw_m HS) (by omega)).mono ?_; rw [← HPS.out]; rintro e V ⟨rfl, hV⟩; replace HS := lw_step HS hV; clear hV; rw [HSZ2.out])
                    | (go_at_call 32; refine (IsSteady_any t _ _ (lw_m HS) (by omega)).mono ?_; rw [← HPS.out]; rintro e V ⟨rfl, hV⟩; replace HS := lw_step HS hV; clear hV; rw [HST.out])
                    | (go_at_call 26; refine (OutcomesOf_any t _ _ (lw_m HS) (by omega)).mono ?_; rw [← HPS.out, ← HO.out]; rintro e V ⟨⟨A9, c2, rfl, hc2, hO2⟩, hV⟩; replace HS := lw_add (lw_step HS hV) hO2.rd; clear hV hO2))
                  go_roundw
                  case rel => exact ⟨k + 1, by omega, by go_num, by (rw [HDN.out]) <;> go_num, lw_cut HS 1⟩
                  case measure => simp [intOf]; omega
                | false =>
                  have HST := Lib.hid hst
                  have hTS := HTS.out k hlt
                  rw [if_neg (by rw [hst]; simp)] at hTS
                  have HDN : Hid (T 4 - T (k + 1) = d) := Lib.hid (by rw [HD.out]; omega)
                  clear hst hTS hTk hTk1
                  go_wp2_with (first
                    | (go_at_call 38; refine (SizeOf_any t  _ (lw_m HS) (by omega)).mono ?_; rw [← HPS.out]; rintro e V ⟨rfl, hV⟩; replace HS := lw_step HS hV; clear hV; rw [HSZ2.out])
                    | (go_at_call 32; refine (IsSteady_any t _ _ (lw_m HS) (by omega)).mono ?_; rw [← HPS.out]; rintro e V ⟨rfl, hV⟩; replace HS := lw_step HS hV; clear hV; rw [HST.out])
                    | (go_at_call 26; refine (OutcomesOf_any t _ _ (lw_m HS) (by omega)).mono ?_; rw [← HPS.out, ← HO.out]; rintro e V ⟨⟨A9, c2, rfl, hc2, hO2⟩, hV⟩; replace HS := lw_add (lw_step HS hV) hO2.rd; clear hV hO2))
                  go_roundw
                  case rel => exact ⟨k + 1, by omega, by go_num, by rw [HDN.out], lw_cut HS 1⟩
                  case measure => simp [intOf]; omega
              · have hke : k = 4 := by omega
                subst hke
                have hdz : T 4 - T 4 = 0 := Nat.sub_self _
                rw [hdz]
                clear hdz
                go_wp2_with (first
                  | (go_at_call 38; refine (SizeOf_any t  _ (lw_m HS) (by omega)).mono ?_; rw [← HPS.out]; rintro e V ⟨rfl, hV⟩; replace HS := lw_step HS hV; clear hV; rw [HSZ2.out])
                  | (go_at_call 39; refine (FixedPoints_any t  _ (lw_m HS) (by omega)).mono ?_; rw [← HPS.out, ← HF.out]; rintro e V ⟨⟨A9, c2, rfl, hc2, hO2⟩, hV⟩; replace HS := lw_add (lw_step HS hV) hO2.rd; clear hV hO2))
                go_ret
                exact ⟨by first | rfl | (show Ending.returned (Value.bool (decide (1 ≤ (X.length : Int)))) = _; rw [decide_eq_true (by omega)]), HS.out.b⟩
          · have HSZ2 := Lib.hid h2
            clear h2 HCS
            subst hN1
            go_wp2_with fail
            go_loopw [7, 10] (fun q i wr => ∃ k : Nat, k ≤ 8 ∧ i = .int .i64 k ∧ q = .int .i64 ((T 8 - T k : Nat) : Int) ∧ Hid (LawW w wr [])) (fun _ i _ => 8 - (intOf i).toNat)
            case atStart => exact ⟨0, Nat.zero_le _, rfl, by simp only [HT0.out, Nat.sub_zero], HS⟩
            case round =>
              clear HS HR
              obtain ⟨k, hk, rfl, rfl, HS⟩ := hrel
              by_cases hlt : k < 8
              · have hlt2 : (k : Int) < 8 := by omega
                have hlt3 : decide ((k : Int) < 8) = true := decide_eq_true hlt2
                obtain ⟨O, HO⟩ : ∃ O, Hid (O = outN ps (k : Int)) := ⟨_, Lib.hid rfl⟩
                obtain ⟨ho0, ho32⟩ := HOP.out k hlt
                rw [← HO.out] at ho0 ho32
                have hod : ((O.length : Int) == 0) = false := by rw [beq_eq_false_iff_ne]; omega
                have hTk := HTL.out k hk
                have hTk1 := HTL.out (k + 1) hlt
                obtain ⟨d, HD⟩ : ∃ d, Hid (d = T 8 - T k) := ⟨_, Lib.hid rfl⟩
                have hd32 : d ≤ 32 := by rw [HD.out]; omega
                rw [← HD.out]
                cases hst : stdN ps (k : Int) with
                | true =>
                  have HST := Lib.hid hst
                  have hTS := HTS.out k hlt
                  rw [if_pos hst] at hTS
                  have hd0 : 0 < d := by rw [HD.out]; omega
                  have HDN : Hid (T 8 - T (k + 1) = d - 1) := Lib.hid (by rw [HD.out]; omega)
                  have hdw : IntKind.i64.wrap ((d : Int) - 1) = ((d - 1 : Nat) : Int) := by rw [IntWalk.i64_in _ (by omega)]; omega
                  have hdw2 : (d : Int) - 1 = ((d - 1 : Nat) : Int) := by omega
                  clear hst hTS hTk hTk1
                  go_wp2_with (first
                    | (go_at_call 38; refine (SizeOf_any t  _ (lw_m HS) (by omega)).mono ?_; rw [← HPS.out]; rintro e V ⟨rfl, hV⟩; replace HS := lw_step HS hV; clear hV; rw [HSZ2.out])
                    | (go_at_call 32; refine (IsSteady_any t _ _ (lw_m HS) (by omega)).mono ?_; rw [← HPS.out]; rintro e V ⟨rfl, hV⟩; replace HS := lw_step HS hV; clear hV; rw [HST.out])
                    | (go_at_call 26; refine (OutcomesOf_any t _ _ (lw_m HS) (by omega)).mono ?_; rw [← HPS.out, ← HO.out]; rintro e V ⟨⟨A9, c2, rfl, hc2, hO2⟩, hV⟩; replace HS := lw_add (lw_step HS hV) hO2.rd; clear hV hO2))
                  go_roundw
                  case rel => exact ⟨k + 1, by omega, by go_num, by (rw [HDN.out]) <;> go_num, lw_cut HS 1⟩
                  case measure => simp [intOf]; omega
                | false =>
                  have HST := Lib.hid hst
                  have hTS := HTS.out k hlt
                  rw [if_neg (by rw [hst]; simp)] at hTS
                  have HDN : Hid (T 8 - T (k + 1) = d) := Lib.hid (by rw [HD.out]; omega)
                  clear hst hTS hTk hTk1
                  go_wp2_with (first
                    | (go_at_call 38; refine (SizeOf_any t  _ (lw_m HS) (by omega)).mono ?_; rw [← HPS.out]; rintro e V ⟨rfl, hV⟩; replace HS := lw_step HS hV; clear hV; rw [HSZ2.out])
                    | (go_at_call 32; refine (IsSteady_any t _ _ (lw_m HS) (by omega)).mono ?_; rw [← HPS.out]; rintro e V ⟨rfl, hV⟩; replace HS := lw_step HS hV; clear hV; rw [HST.out])
                    | (go_at_call 26; refine (OutcomesOf_any t _ _ (lw_m HS) (by omega)).mono ?_; rw [← HPS.out, ← HO.out]; rintro e V ⟨⟨A9, c2, rfl, hc2, hO2⟩, hV⟩; replace HS := lw_add (lw_step HS hV) hO2.rd; clear hV hO2))
                  go_roundw
                  case rel => exact ⟨k + 1, by omega, by go_num, by rw [HDN.out], lw_cut HS 1⟩
                  case measure => simp [intOf]; omega
              · have hke : k = 8 := by omega
                subst hke
                have hdz : T 8 - T 8 = 0 := Nat.sub_self _
                rw [hdz]
                clear hdz
                go_wp2_with (first
                  | (go_at_call 38; refine (SizeOf_any t  _ (lw_m HS) (by omega)).mono ?_; rw [← HPS.out]; rintro e V ⟨rfl, hV⟩; replace HS := lw_step HS hV; clear hV; rw [HSZ2.out])
                  | (go_at_call 39; refine (FixedPoints_any t  _ (lw_m HS) (by omega)).mono ?_; rw [← HPS.out, ← HF.out]; rintro e V ⟨⟨A9, c2, rfl, hc2, hO2⟩, hV⟩; replace HS := lw_add (lw_step HS hV) hO2.rd; clear hV hO2))
                go_ret
                exact ⟨by first | rfl | (show Ending.returned (Value.bool (decide (1 ≤ (X.length : Int)))) = _; rw [decide_eq_true (by omega)]), HS.out.b⟩
          · have HSZ2 := Lib.hid h2
            clear h2 HCS
            subst hN1
            go_wp2_with fail
            go_loopw [7, 10] (fun q i wr => ∃ k : Nat, k ≤ 16 ∧ i = .int .i64 k ∧ q = .int .i64 ((T 16 - T k : Nat) : Int) ∧ Hid (LawW w wr [])) (fun _ i _ => 16 - (intOf i).toNat)
            case atStart => exact ⟨0, Nat.zero_le _, rfl, by simp only [HT0.out, Nat.sub_zero], HS⟩
            case round =>
              clear HS HR
              obtain ⟨k, hk, rfl, rfl, HS⟩ := hrel
              by_cases hlt : k < 16
              · have hlt2 : (k : Int) < 16 := by omega
                have hlt3 : decide ((k : Int) < 16) = true := decide_eq_true hlt2
                obtain ⟨O, HO⟩ : ∃ O, Hid (O = outN ps (k : Int)) := ⟨_, Lib.hid rfl⟩
                obtain ⟨ho0, ho32⟩ := HOP.out k hlt
                rw [← HO.out] at ho0 ho32
                have hod : ((O.length : Int) == 0) = false := by rw [beq_eq_false_iff_ne]; omega
                have hTk := HTL.out k hk
                have hTk1 := HTL.out (k + 1) hlt
                obtain ⟨d, HD⟩ : ∃ d, Hid (d = T 16 - T k) := ⟨_, Lib.hid rfl⟩
                have hd32 : d ≤ 32 := by rw [HD.out]; omega
                rw [← HD.out]
                cases hst : stdN ps (k : Int) with
                | true =>
                  have HST := Lib.hid hst
                  have hTS := HTS.out k hlt
                  rw [if_pos hst] at hTS
                  have hd0 : 0 < d := by rw [HD.out]; omega
                  have HDN : Hid (T 16 - T (k + 1) = d - 1) := Lib.hid (by rw [HD.out]; omega)
                  have hdw : IntKind.i64.wrap ((d : Int) - 1) = ((d - 1 : Nat) : Int) := by rw [IntWalk.i64_in _ (by omega)]; omega
                  have hdw2 : (d : Int) - 1 = ((d - 1 : Nat) : Int) := by omega
                  clear hst hTS hTk hTk1
                  go_wp2_with (first
                    | (go_at_call 38; refine (SizeOf_any t  _ (lw_m HS) (by omega)).mono ?_; rw [← HPS.out]; rintro e V ⟨rfl, hV⟩; replace HS := lw_step HS hV; clear hV; rw [HSZ2.out])
                    | (go_at_call 32; refine (IsSteady_any t _ _ (lw_m HS) (by omega)).mono ?_; rw [← HPS.out]; rintro e V ⟨rfl, hV⟩; replace HS := lw_step HS hV; clear hV; rw [HST.out])
                    | (go_at_call 26; refine (OutcomesOf_any t _ _ (lw_m HS) (by omega)).mono ?_; rw [← HPS.out, ← HO.out]; rintro e V ⟨⟨A9, c2, rfl, hc2, hO2⟩, hV⟩; replace HS := lw_add (lw_step HS hV) hO2.rd; clear hV hO2))
                  go_roundw
                  case rel => exact ⟨k + 1, by omega, by go_num, by (rw [HDN.out]) <;> go_num, lw_cut HS 1⟩
                  case measure => simp [intOf]; omega
                | false =>
                  have HST := Lib.hid hst
                  have hTS := HTS.out k hlt
                  rw [if_neg (by rw [hst]; simp)] at hTS
                  have HDN : Hid (T 16 - T (k + 1) = d) := Lib.hid (by rw [HD.out]; omega)
                  clear hst hTS hTk hTk1
                  go_wp2_with (first
                    | (go_at_call 38; refine (SizeOf_any t  _ (lw_m HS) (by omega)).mono ?_; rw [← HPS.out]; rintro e V ⟨rfl, hV⟩; replace HS := lw_step HS hV; clear hV; rw [HSZ2.out])
                    | (go_at_call 32; refine (IsSteady_any t _ _ (lw_m HS) (by omega)).mono ?_; rw [← HPS.out]; rintro e V ⟨rfl, hV⟩; replace HS := lw_step HS hV; clear hV; rw [HST.out])
                    | (go_at_call 26; refine (OutcomesOf_any t _ _ (lw_m HS) (by omega)).mono ?_; rw [← HPS.out, ← HO.out]; rintro e V ⟨⟨A9, c2, rfl, hc2, hO2⟩, hV⟩; replace HS := lw_add (lw_step HS hV) hO2.rd; clear hV hO2))
                  go_roundw
                  case rel => exact ⟨k + 1, by omega, by go_num, by rw [HDN.out], lw_cut HS 1⟩
                  case measure => simp [intOf]; omega
              · have hke : k = 16 := by omega
                subst hke
                have hdz : T 16 - T 16 = 0 := Nat.sub_self _
                rw [hdz]
                clear hdz
                go_wp2_with (first
                  | (go_at_call 38; refine (SizeOf_any t  _ (lw_m HS) (by omega)).mono ?_; rw [← HPS.out]; rintro e V ⟨rfl, hV⟩; replace HS := lw_step HS hV; clear hV; rw [HSZ2.out])
                  | (go_at_call 39; refine (FixedPoints_any t  _ (lw_m HS) (by omega)).mono ?_; rw [← HPS.out, ← HF.out]; rintro e V ⟨⟨A9, c2, rfl, hc2, hO2⟩, hV⟩; replace HS := lw_add (lw_step HS hV) hO2.rd; clear hV hO2))
                go_ret
                exact ⟨by first | rfl | (show Ending.returned (Value.bool (decide (1 ≤ (X.length : Int)))) = _; rw [decide_eq_true (by omega)]), HS.out.b⟩
          · have HSZ2 := Lib.hid h2
            clear h2 HCS
            subst hN1
            go_wp2_with fail
            go_loopw [7, 10] (fun q i wr => ∃ k : Nat, k ≤ 32 ∧ i = .int .i64 k ∧ q = .int .i64 ((T 32 - T k : Nat) : Int) ∧ Hid (LawW w wr [])) (fun _ i _ => 32 - (intOf i).toNat)
            case atStart => exact ⟨0, Nat.zero_le _, rfl, by simp only [HT0.out, Nat.sub_zero], HS⟩
            case round =>
              clear HS HR
              obtain ⟨k, hk, rfl, rfl, HS⟩ := hrel
              by_cases hlt : k < 32
              · have hlt2 : (k : Int) < 32 := by omega
                have hlt3 : decide ((k : Int) < 32) = true := decide_eq_true hlt2
                obtain ⟨O, HO⟩ : ∃ O, Hid (O = outN ps (k : Int)) := ⟨_, Lib.hid rfl⟩
                obtain ⟨ho0, ho32⟩ := HOP.out k hlt
                rw [← HO.out] at ho0 ho32
                have hod : ((O.length : Int) == 0) = false := by rw [beq_eq_false_iff_ne]; omega
                have hTk := HTL.out k hk
                have hTk1 := HTL.out (k + 1) hlt
                obtain ⟨d, HD⟩ : ∃ d, Hid (d = T 32 - T k) := ⟨_, Lib.hid rfl⟩
                have hd32 : d ≤ 32 := by rw [HD.out]; omega
                rw [← HD.out]
                cases hst : stdN ps (k : Int) with
                | true =>
                  have HST := Lib.hid hst
                  have hTS := HTS.out k hlt
                  rw [if_pos hst] at hTS
                  have hd0 : 0 < d := by rw [HD.out]; omega
                  have HDN : Hid (T 32 - T (k + 1) = d - 1) := Lib.hid (by rw [HD.out]; omega)
                  have hdw : IntKind.i64.wrap ((d : Int) - 1) = ((d - 1 : Nat) : Int) := by rw [IntWalk.i64_in _ (by omega)]; omega
                  have hdw2 : (d : Int) - 1 = ((d - 1 : Nat) : Int) := by omega
                  clear hst hTS hTk hTk1
                  go_wp2_with (first
                    | (go_at_call 38; refine (SizeOf_any t  _ (lw_m HS) (by omega)).mono ?_; rw [← HPS.out]; rintro e V ⟨rfl, hV⟩; replace HS := lw_step HS hV; clear hV; rw [HSZ2.out])
                    | (go_at_call 32; refine (IsSteady_any t _ _ (lw_m HS) (by omega)).mono ?_; rw [← HPS.out]; rintro e V ⟨rfl, hV⟩; replace HS := lw_step HS hV; clear hV; rw [HST.out])
                    | (go_at_call 26; refine (OutcomesOf_any t _ _ (lw_m HS) (by omega)).mono ?_; rw [← HPS.out, ← HO.out]; rintro e V ⟨⟨A9, c2, rfl, hc2, hO2⟩, hV⟩; replace HS := lw_add (lw_step HS hV) hO2.rd; clear hV hO2))
                  go_roundw
                  case rel => exact ⟨k + 1, by omega, by go_num, by (rw [HDN.out]) <;> go_num, lw_cut HS 1⟩
                  case measure => simp [intOf]; omega
                | false =>
                  have HST := Lib.hid hst
                  have hTS := HTS.out k hlt
                  rw [if_neg (by rw [hst]; simp)] at hTS
                  have HDN : Hid (T 32 - T (k + 1) = d) := Lib.hid (by rw [HD.out]; omega)
                  clear hst hTS hTk hTk1
                  go_wp2_with (first
                    | (go_at_call 38; refine (SizeOf_any t  _ (lw_m HS) (by omega)).mono ?_; rw [← HPS.out]; rintro e V ⟨rfl, hV⟩; replace HS := lw_step HS hV; clear hV; rw [HSZ2.out])
                    | (go_at_call 32; refine (IsSteady_any t _ _ (lw_m HS) (by omega)).mono ?_; rw [← HPS.out]; rintro e V ⟨rfl, hV⟩; replace HS := lw_step HS hV; clear hV; rw [HST.out])
                    | (go_at_call 26; refine (OutcomesOf_any t _ _ (lw_m HS) (by omega)).mono ?_; rw [← HPS.out, ← HO.out]; rintro e V ⟨⟨A9, c2, rfl, hc2, hO2⟩, hV⟩; replace HS := lw_add (lw_step HS hV) hO2.rd; clear hV hO2))
                  go_roundw
                  case rel => exact ⟨k + 1, by omega, by go_num, by rw [HDN.out], lw_cut HS 1⟩
                  case measure => simp [intOf]; omega
              · have hke : k = 32 := by omega
                subst hke
                have hdz : T 32 - T 32 = 0 := Nat.sub_self _
                rw [hdz]
                clear hdz
                go_wp2_with (first
                  | (go_at_call 38; refine (SizeOf_any t  _ (lw_m HS) (by omega)).mono ?_; rw [← HPS.out]; rintro e V ⟨rfl, hV⟩; replace HS := lw_step HS hV; clear hV; rw [HSZ2.out])
                  | (go_at_call 39; refine (FixedPoints_any t  _ (lw_m HS) (by omega)).mono ?_; rw [← HPS.out, ← HF.out]; rintro e V ⟨⟨A9, c2, rfl, hc2, hO2⟩, hV⟩; replace HS := lw_add (lw_step HS hV) hO2.rd; clear hV hO2))
                go_ret
                exact ⟨by first | rfl | (show Ending.returned (Value.bool (decide (1 ≤ (X.length : Int)))) = _; rw [decide_eq_true (by omega)]), HS.out.b⟩
    · have HOK : Hid (okN ps = false) := Lib.hid (by simpa using hok)
      have HX0 : Hid (X.length = 0) := Lib.hid (by rw [HX.out, attN_no HOK.out]; rfl)
      have hX0 : X.length ≤ 0 := by rw [HX0.out]; exact Nat.le_refl _
      have hd : ((X.length : Int) == 0) = true := by rw [HX0.out]; rfl
      have hd2 : ((X.length : Int) == (X.length : Int)) = true := beq_self_eq_true _
      have hd3 : ((X.length : Int) != (X.length : Int)) = false := bne_self_eq_false _
      clear hok
      go_wp2_with fail
      refine (AttractorsOf_any t _ (lw_m HS) (by omega)).mono ?_
      rw [← HPS.out, ← HX.out]
      rintro e W2 ⟨⟨A, c1, gs, ys, rfl, hc1, hO, hL⟩, hV⟩
      replace HS := lw_step HS hV
      clear hO hL hV
      go_wp2_with fail
      refine (sAttractorsOf_any t _ (by omega)).mono ?_
      rw [← HPS.out, ← HX.out]
      rintro e W3 ⟨⟨A', c1', gs', ys', rfl, hc1', hO', hL'⟩, hV⟩
      replace HS := lw_step HS hV
      clear hO' hL' hV
      go_wp2_with (first
        | (go_at_call 36; refine (NetworkValid_any t  _ (lw_m HS) (by omega)).mono ?_; rw [← HPS.out]; rintro e V ⟨rfl, hV⟩; replace HS := lw_step HS hV; clear hV; rw [HOK.out]))
      go_ret
      exact ⟨rfl, HS.out.b⟩

end Go.Proofs.YtpehimjngofnkaaDoor
