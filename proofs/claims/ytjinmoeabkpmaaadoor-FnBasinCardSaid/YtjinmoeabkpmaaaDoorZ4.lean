/- The walk of the law FnBasin. Printed by wip/mkl.py. -/
import Derived.Test.YtjinmoeabkpmaaaDoorProg
import Derived.WalkKit
import Derived.WalkSpells
import Derived.WalkLawsBesides
import Derived.Lib.Hide
import Derived.Deep.QuietTactic
import Derived.BigQuiet
import Derived.Deep.RegionHeld3
import Derived.IntWalk
import Derived.Test.YtjinmoeabkpmaaaDoorLa
import Derived.Test.YtjinmoeabkpmaaaDoorYf
import Derived.Test.YtjinmoeabkpmaaaDoorYg
import Derived.Test.YtjinmoeabkpmaaaDoorYh
import Derived.Test.YtjinmoeabkpmaaaDoorWq
import Derived.Test.YtjinmoeabkpmaaaDoorY3
namespace Go.Proofs.YtjinmoeabkpmaaaDoor
open Go.RowKit
set_option linter.unusedVariables false

set_option maxHeartbeats 8000000 in
set_option maxRecDepth 100000 in
theorem fnBasin_walk (a0 : Option Addr) (len0 cap0 : Nat) (z0 : List Int) (w : World) (hm : Hid (HasM w)) (w0 : IsRow .u8 w a0 len0 cap0 z0) :
    Calls Tryd.prog 12 #[.slice a0 len0 cap0] w fun e w' => e = .returned (.bool true) ∧ Below w.heap.size w w' := by
  by_cases h0 : 1048576 < len0
  · go_enter Tryd.func12, Tryd.ntmps12
    go_wp2
    go_ret
    exact ⟨rfl, Below.refl _ _⟩
  · obtain ⟨bs, hbl, hrd, hwf, hcap, hmax⟩ := w0.rdk
    unfold maxLen at hmax
    have HRD := Lib.hid hrd
    have HWF := Lib.hid (fun x hx => wf_u8 (hwf x hx))
    have HBL := Lib.hid hbl.symm
    clear hbl hrd hwf w0
    go_enter Tryd.func12, Tryd.ntmps12
    go_wp2_with fail
    refine (DrawBasinOf_any _ _ _ _ _ HBL.out hcap (by omega) HRD HWF).mono ?_
    rintro e W1 ⟨⟨t, s, rfl, ht, hs1, hs2⟩, hB1⟩
    obtain ⟨ps, HPS⟩ : ∃ ps, Hid (ps = cutL t.data.toList) := ⟨_, rfl⟩
    have HS : Hid (LawW w W1 []) := Lib.hid ⟨hm.out.below hB1, hB1, by simp⟩
    clear hB1 h0 hm HRD HWF HBL hcap hmax
    obtain ⟨L, HL⟩ : ∃ L, Hid (L = basN ps s) := ⟨_, rfl⟩
    obtain ⟨C, HC⟩ : ∃ C, Hid (C = cycN ps s) := ⟨_, rfl⟩
    by_cases hok : okSt ps s = true
    · have hok0 := hok
      obtain ⟨HOK, N, s, rfl, HN, hN32, hN0, hsN, HOKS, hfN⟩ := st_open hok
      obtain ⟨p, hC⟩ := cyc_all hN32 hfN hsN
      obtain ⟨xs, HXS⟩ : ∃ xs, Hid (xs = sel N fun k => cy0 (stp ps) k == cy0 (stp ps) s) := ⟨_, rfl⟩
      have e0 : L = ints xs := by rw [HL.out, basN_yes hok0 HN.out, HXS.out]
      have hLx : L.length = xs.length := by rw [e0, ints_length]
      have eC : C = ints (cyc (stp ps) s) := by rw [HC.out, cycN_yes hok0]
      have hXm : ∀ x, x ∈ xs ↔ x < N ∧ cy0 (stp ps) x = cy0 (stp ps) s := fun x => by rw [HXS.out, sel_mem]; simp
      have hsx : s ∈ xs := (hXm s).2 ⟨hsN, rfl⟩
      obtain ⟨m, hm⟩ : ∃ m, m = xs.idxOf s := ⟨_, rfl⟩
      have hmx : m < xs.length := by rw [hm]; exact List.idxOf_lt_length_iff.2 hsx
      have hmg : xs.getD m 0 = s := by
        rw [List.getD_eq_getElem?_getD, List.getElem?_eq_getElem hmx]
        simp only [hm, List.getElem_idxOf, Option.getD_some]
      have hmL : m < L.length := by omega
      have hasc : ∀ i j, i < j → j < L.length → xs.getD i 0 < xs.getD j 0 := fun i j hij hj => by
        rw [List.getD_eq_getElem?_getD, List.getElem?_eq_getElem (by omega), List.getD_eq_getElem?_getD, List.getElem?_eq_getElem (by omega)]
        simp only [Option.getD_some]
        subst hm
        have := HXS.out
        subst this
        exact sel_asc _ _ i j (by omega) (by omega) hij
      have hnd : xs.Nodup := by rw [HXS.out]; exact sel_nodup _ _
      have hLC : C.length ≤ L.length := by
        rw [eC, ints_length, hLx, HXS.out]
        exact sel_ge hC.nd (fun x hx => by
          obtain ⟨i, hi, e⟩ := List.getElem_of_mem hx
          have hi2 : i < p := by rw [← hC.len]; exact hi
          have e2 : (cyc (stp ps) s).getD i 0 = x := by rw [List.getD_eq_getElem?_getD, List.getElem?_eq_getElem hi, Option.getD_some, e]
          have h1 := hC.lt i hi2
          have h2 := hC.base i hi2
          rw [e2] at h1 h2
          exact ⟨h1, by simpa using h2⟩)
      have hL32 : L.length ≤ 32 := by rw [hLx, HXS.out]; exact Nat.le_trans (sel_len _ _) hN32
      have HE : Hid (∀ i, i < L.length → L[i]? = some ((xs.getD i 0 : Nat) : Int)) := Lib.hid fun i hi => by
        rw [show L[i]? = (ints xs)[i]? from congrArg (fun l => l[i]?) e0]; exact ints_getD xs i (by omega)
      have HX : Hid (∀ i, i < L.length → stA ps ((xs.getD i 0 : Nat) : Int) = ((stp ps (xs.getD i 0) : Nat) : Int) ∧ cycN ps ((xs.getD i 0 : Nat) : Int) = C ∧ basN ps ((stp ps (xs.getD i 0) : Nat) : Int) = L) := Lib.hid fun i hi => by
        have hx : xs.getD i 0 ∈ xs := by
          rw [List.getD_eq_getElem?_getD, List.getElem?_eq_getElem (by omega), Option.getD_some]
          exact List.getElem_mem _
        obtain ⟨h2, h3⟩ := (hXm _).1 hx
        have h1 := HOKS.out _ h2
        have h4 := HOKS.out _ (hfN _ h2)
        refine ⟨stA_k h1, by rw [cycN_yes h1, cyc_same hN32 hfN hsN h2 h3, eC], ?_⟩
        rw [basN_yes h4 HN.out, cy0_step hN32 hfN h2, h3, e0, HXS.out]
      have HM : Hid (∀ i, i < L.length → (xs.getD i 0 = s ↔ i = m)) := Lib.hid fun i hi => by
        constructor
        · intro e
          rcases Nat.lt_trichotomy i m with h | h | h
          · have := hasc i m h hmL; omega
          · exact h
          · have := hasc m i h hi; omega
        · intro e; rw [e]; exact hmg
      have HAS := Lib.hid hasc
      have hd : ((L.length : Int) == 0) = false := by rw [beq_eq_false_iff_ne]; omega
      have hC32 : C.length ≤ 32 := by omega
      clear hC e0 eC hXm hsx hmx hmg hasc hnd hok hok0 hs1 hs2 hm hLx
      go_wp2_with (first
        | (go_at_call 64; refine (BasinOf_any t _ _ (lw_m HS) (by omega)).mono ?_; rw [← HPS.out, ← HL.out]; rintro e V ⟨⟨A4, c2, rfl, hc2, hO2⟩, hV⟩; replace HS := lw_add (lw_step HS hV) hO2.rd; clear hV hO2)
        | (go_at_call 65; refine (sBasinOf_any t _ _ (by omega)).mono ?_; rw [← HPS.out, ← HL.out]; rintro e V ⟨⟨A5, c2, rfl, hc2, hO2⟩, hV⟩; replace HS := lw_add (lw_step HS hV) hO2.rd; clear hV hO2)
        | (go_at_call 38; refine (bnSame_any _ _ _ _ L _ (lw_rd HS 1 rfl) (lw_rd HS 0 rfl) (by omega)).mono ?_; rintro e V ⟨rfl, nB, rfl⟩; replace HS := lw_drew HS nB)
        | (go_at_call 61; refine (CycleOf_any t _ _ (lw_m HS) (by omega)).mono ?_; rw [← HPS.out, ← HC.out]; rintro e V ⟨⟨A6, c2, rfl, hc2, hO2⟩, hV⟩; replace HS := lw_add (lw_step HS hV) hO2.rd; clear hV hO2))
      obtain ⟨g, off, rfl⟩ := lw_form HS 2 rfl (by omega)
      go_loopw [7, 8] (fun q i wr => ∃ k : Nat, k ≤ L.length ∧ i = .int .i64 k ∧ q = .bool (decide (m < k)) ∧ Hid (LawW w wr [(A6, C), (A5, L), (some ⟨g, off, none⟩, L)])) (fun _ i _ => L.length - (intOf i).toNat)
      case atStart => exact ⟨0, Nat.zero_le _, rfl, by rw [decide_eq_false (by omega)], HS⟩
      case round =>
        clear HS
        obtain ⟨k, hk, rfl, rfl, HS⟩ := hrel
        by_cases hlt : k < L.length
        · obtain ⟨x, HX1⟩ : ∃ x, Hid (x = xs.getD k 0) := ⟨_, rfl⟩
          obtain ⟨x', HX2⟩ : ∃ x, Hid (x = xs.getD (k - 1) 0) := ⟨_, rfl⟩
          obtain ⟨y, HY⟩ : ∃ y, Hid (y = stp ps x) := ⟨_, rfl⟩
          have HE1 : Hid (L[k]? = some (x : Int)) := Lib.hid (by rw [HX1.out]; exact HE.out k hlt)
          have HXS1 : Hid (stA ps (x : Int) = (y : Int)) := Lib.hid (by rw [HY.out, HX1.out]; exact (HX.out k hlt).1)
          have HXC : Hid (cycN ps (x : Int) = C) := Lib.hid (by rw [HX1.out]; exact (HX.out k hlt).2.1)
          have HXB : Hid (basN ps (y : Int) = L) := Lib.hid (by rw [HY.out, HX1.out]; exact (HX.out k hlt).2.2)
          have hxm : x = s ↔ k = m := by rw [HX1.out]; exact HM.out k hlt
          have hkk : k = 0 ∨ (0 < k ∧ x' < x ∧ ∃ k1, k1 + 1 = k ∧ L[k1]? = some (x' : Int)) := by
            rcases Nat.eq_zero_or_pos k with h | h
            · exact .inl h
            · exact .inr ⟨h, by rw [HX1.out, HX2.out]; exact HAS.out (k - 1) k (by omega) hlt, k - 1, by omega, by rw [HX2.out]; exact HE.out _ (by omega)⟩
          replace HS : Hid (LawW w wr [(A6, C), (A5, L), (some ⟨g, off, none⟩, L)]) := HS
          have hc1 := lw_cell HS 2 rfl HE1
          have HXM := Lib.hid hxm
          clear hxm
          rcases Classical.em (m < k) with hmk | hmk
          all_goals
            first
              | rw [show decide (m < k) = true from decide_eq_true hmk]
              | rw [show decide (m < k) = false from decide_eq_false hmk]
            go_wp2_with fail
            replace HS : Hid (LawW w wr.drew [(A6, C), (A5, L), (some ⟨g, off, none⟩, L)]) := lw_drew HS 1
            rcases hkk with hk0 | ⟨hk0, hxx, k1, hkk1, hE2⟩
            · have hk1 : ¬ (k : Int) > 0 := by omega
              have hk2 : ¬ 0 < k := by omega
              have hk3 : decide (0 < k) = false := decide_eq_false hk2
              have hk4 : decide ((k : Int) > 0) = false := decide_eq_false hk1
              have hk5 : ¬ (0 : Int) < (k : Int) := by omega
              have hk6 : decide ((0 : Int) < (k : Int)) = false := decide_eq_false hk5
              clear hk0
              refine wp_region_held_drew (S := (fun w' : World => w'.cell? ⟨g, off + k, none⟩ = some (.int .i64 (x : Int)))) (by kernel_rfl) ?_ (fun hHeld => ?_)
              · (try dsimp only)
                go_keep
              refine wpAnyH_take (i := 0) (oi := ⟨some 60, _, _, _, _, _⟩) (v := ?_) rfl (by kernel_rfl) (by kernel_rfl) (by kernel_rfl) (fun _ _ _ h => h) (Or.inl ⟨by rfl, ?_⟩) (by assumption) ?_
              rotate_left
              · (intro w hSw; (try dsimp only at hSw); go_simp <;> with_reducible rfl)
              try simp only [Act.put, List.setIfInBounds_toArray, List.set_cons_zero, List.set_cons_succ]
              refine wpAnyH_take (i := 1) (oi := ⟨some 61, _, _, _, _, _⟩) (v := ?_) rfl (by kernel_rfl) (by kernel_rfl) (by kernel_rfl) (fun _ _ _ h => h) (Or.inl ⟨by rfl, ?_⟩) (by assumption) ?_
              rotate_left
              · (intro w hSw; (try dsimp only at hSw); go_simp <;> with_reducible rfl)
              try simp only [Act.put, List.setIfInBounds_toArray, List.set_cons_zero, List.set_cons_succ]
              refine wpAnyH_take (i := 2) (oi := ⟨some 62, _, _, _, _, _⟩) (v := ?_) rfl (by kernel_rfl) (by kernel_rfl) (by kernel_rfl) (fun _ _ _ h => h) (Or.inl ⟨by rfl, ?_⟩) (by assumption) ?_
              rotate_left
              · (intro w hSw; (try dsimp only at hSw); go_simp <;> with_reducible rfl)
              try simp only [Act.put, List.setIfInBounds_toArray, List.set_cons_zero, List.set_cons_succ]
              refine wpAnyH_take (i := 3) (oi := ⟨some 63, _, _, _, _, _⟩) (v := ?_) rfl (by kernel_rfl) (by kernel_rfl) (by kernel_rfl) (fun _ _ _ h => h) (Or.inl ⟨by rfl, ?_⟩) (by assumption) ?_
              rotate_left
              · (intro w hSw; (try dsimp only at hSw); go_simp <;> with_reducible rfl)
              try simp only [Act.put, List.setIfInBounds_toArray, List.set_cons_zero, List.set_cons_succ]
              refine wpAnyH_take (i := 4) (oi := ⟨some 64, _, _, _, _, _⟩) (v := ?_) rfl (by kernel_rfl) (by kernel_rfl) (by kernel_rfl) (fun _ _ _ h => h) (Or.inl ⟨by rfl, ?_⟩) (by assumption) ?_
              rotate_left
              · (intro w hSw; (try dsimp only at hSw); go_simp <;> with_reducible rfl)
              try simp only [Act.put, List.setIfInBounds_toArray, List.set_cons_zero, List.set_cons_succ]
              refine wpAnyH_take (i := 6) (oi := ⟨some 66, _, _, _, _, _⟩) (v := ?_) rfl (by kernel_rfl) (by kernel_rfl) (by kernel_rfl) (fun _ _ _ h => h) (Or.inl ⟨by rfl, ?_⟩) (by assumption) ?_
              rotate_left
              · (intro w hSw; (try dsimp only at hSw); go_simp <;> with_reducible rfl)
              try simp only [Act.put, List.setIfInBounds_toArray, List.set_cons_zero, List.set_cons_succ]
              refine wpAnyH_ready (rs := [5]) (by kernel_rfl) (by simp) ?_
              refine AllReadyH.cons (o := ⟨some 65, _, _, _, _, _⟩) rfl (fun K hK => ?_) ?_
              rotate_left
              · exact AllReadyH.nil
              go_simp
              (go_at_call 61; refine (CycleOf_any t _ _ (lw_m HS) (by omega)).mono ?_; rw [← HPS.out, HXC.out]; rintro e V ⟨⟨A2, c2, rfl, hc2, hO2⟩, hV⟩; replace HS := lw_add (lw_step HS hV) hO2.rd; clear hV hO2; have hc1 := lw_cell HS 3 rfl HE1)
              go_wp2_with fail
              refine hK.out _ _ ?_ (fun hHeld2 => ?_)
              · (try dsimp only)
                go_keep
              clear hK K hHeld
              have hHeld := hHeld2
              clear hHeld2
              try simp only [Act.put, List.setIfInBounds_toArray, List.set_cons_zero, List.set_cons_succ]
              refine wpAnyH_ready (rs := [7]) (by kernel_rfl) (by simp) ?_
              refine AllReadyH.cons (o := ⟨some 67, _, _, _, _, _⟩) rfl (fun K hK => ?_) ?_
              rotate_left
              · exact AllReadyH.nil
              go_simp
              (go_at_call 38; refine (bnSame_any _ _ _ _ C _ (lw_rd HS 0 rfl) (lw_rd HS 1 rfl) (by omega)).mono ?_; rintro e V ⟨rfl, nB, rfl⟩; replace HS := lw_drew HS nB; have hc1 := lw_cell HS 3 rfl HE1)
              go_wp2_with fail
              refine hK.out _ _ ?_ (fun hHeld2 => ?_)
              · (try dsimp only)
                go_keep
              clear hK K hHeld
              have hHeld := hHeld2
              clear hHeld2
              try simp only [Act.put, List.setIfInBounds_toArray, List.set_cons_zero, List.set_cons_succ]
              refine wpAnyH_take (i := 8) (oi := ⟨some 68, _, _, _, _, _⟩) (v := ?_) rfl (by kernel_rfl) (by kernel_rfl) (by kernel_rfl) (fun _ _ _ h => h) (Or.inl ⟨by rfl, ?_⟩) (by assumption) ?_
              rotate_left
              · (intro w hSw; (try dsimp only at hSw); go_simp <;> with_reducible rfl)
              try simp only [Act.put, List.setIfInBounds_toArray, List.set_cons_zero, List.set_cons_succ]
              refine wpAnyH_take (i := 9) (oi := ⟨some 69, _, _, _, _, _⟩) (v := ?_) rfl (by kernel_rfl) (by kernel_rfl) (by kernel_rfl) (fun _ _ _ h => h) (Or.inl ⟨by rfl, ?_⟩) (by assumption) ?_
              rotate_left
              · (intro w hSw; (try dsimp only at hSw); go_simp <;> with_reducible rfl)
              try simp only [Act.put, List.setIfInBounds_toArray, List.set_cons_zero, List.set_cons_succ]
              refine wpAnyH_take (i := 10) (oi := ⟨some 70, _, _, _, _, _⟩) (v := ?_) rfl (by kernel_rfl) (by kernel_rfl) (by kernel_rfl) (fun _ _ _ h => h) (Or.inl ⟨by rfl, ?_⟩) (by assumption) ?_
              rotate_left
              · (intro w hSw; (try dsimp only at hSw); go_simp <;> with_reducible rfl)
              try simp only [Act.put, List.setIfInBounds_toArray, List.set_cons_zero, List.set_cons_succ]
              refine wpAnyH_take (i := 11) (oi := ⟨some 71, _, _, _, _, _⟩) (v := ?_) rfl (by kernel_rfl) (by kernel_rfl) (by kernel_rfl) (fun _ _ _ h => h) (Or.inl ⟨by rfl, ?_⟩) (by assumption) ?_
              rotate_left
              · (intro w hSw; (try dsimp only at hSw); go_simp <;> with_reducible rfl)
              try simp only [Act.put, List.setIfInBounds_toArray, List.set_cons_zero, List.set_cons_succ]
              refine wpAnyH_take (i := 12) (oi := ⟨some 72, _, _, _, _, _⟩) (v := ?_) rfl (by kernel_rfl) (by kernel_rfl) (by kernel_rfl) (fun _ _ _ h => h) (Or.inl ⟨by rfl, ?_⟩) (by assumption) ?_
              rotate_left
              · (intro w hSw; (try dsimp only at hSw); go_simp <;> with_reducible rfl)
              try simp only [Act.put, List.setIfInBounds_toArray, List.set_cons_zero, List.set_cons_succ]
              refine wpAnyH_take (i := 13) (oi := ⟨some 73, _, _, _, _, _⟩) (v := undef) rfl (by kernel_rfl) (by kernel_rfl) (by kernel_rfl) (fun _ _ _ h => h) (Or.inr ⟨by rfl, rfl⟩) (by assumption) ?_
              try simp only [Act.put, List.setIfInBounds_toArray, List.set_cons_zero, List.set_cons_succ]
              refine wpAnyH_take (i := 14) (oi := ⟨some 74, _, _, _, _, _⟩) (v := undef) rfl (by kernel_rfl) (by kernel_rfl) (by kernel_rfl) (fun _ _ _ h => h) (Or.inr ⟨by rfl, rfl⟩) (by assumption) ?_
              try simp only [Act.put, List.setIfInBounds_toArray, List.set_cons_zero, List.set_cons_succ]
              refine wpAnyH_take (i := 15) (oi := ⟨some 75, _, _, _, _, _⟩) (v := undef) rfl (by kernel_rfl) (by kernel_rfl) (by kernel_rfl) (fun _ _ _ h => h) (Or.inr ⟨by rfl, rfl⟩) (by assumption) ?_
              try simp only [Act.put, List.setIfInBounds_toArray, List.set_cons_zero, List.set_cons_succ]
              refine wpAnyH_take (i := 16) (oi := ⟨some 76, _, _, _, _, _⟩) (v := undef) rfl (by kernel_rfl) (by kernel_rfl) (by kernel_rfl) (fun _ _ _ h => h) (Or.inr ⟨by rfl, rfl⟩) (by assumption) ?_
              try simp only [Act.put, List.setIfInBounds_toArray, List.set_cons_zero, List.set_cons_succ]
              refine wpAnyH_take (i := 17) (oi := ⟨some 77, _, _, _, _, _⟩) (v := undef) rfl (by kernel_rfl) (by kernel_rfl) (by kernel_rfl) (fun _ _ _ h => h) (Or.inr ⟨by rfl, rfl⟩) (by assumption) ?_
              try simp only [Act.put, List.setIfInBounds_toArray, List.set_cons_zero, List.set_cons_succ]
              refine wpAnyH_take (i := 18) (oi := ⟨some 78, _, _, _, _, _⟩) (v := undef) rfl (by kernel_rfl) (by kernel_rfl) (by kernel_rfl) (fun _ _ _ h => h) (Or.inr ⟨by rfl, rfl⟩) (by assumption) ?_
              try simp only [Act.put, List.setIfInBounds_toArray, List.set_cons_zero, List.set_cons_succ]
              refine wpAnyH_take (i := 19) (oi := ⟨some 79, _, _, _, _, _⟩) (v := undef) rfl (by kernel_rfl) (by kernel_rfl) (by kernel_rfl) (fun _ _ _ h => h) (Or.inr ⟨by rfl, rfl⟩) (by assumption) ?_
              try simp only [Act.put, List.setIfInBounds_toArray, List.set_cons_zero, List.set_cons_succ]
              refine wpAnyH_take (i := 20) (oi := ⟨some 80, _, _, _, _, _⟩) (v := undef) rfl (by kernel_rfl) (by kernel_rfl) (by kernel_rfl) (fun _ _ _ h => h) (Or.inr ⟨by rfl, rfl⟩) (by assumption) ?_
              try simp only [Act.put, List.setIfInBounds_toArray, List.set_cons_zero, List.set_cons_succ]
              refine wpAnyH_take (i := 21) (oi := ⟨some 81, _, _, _, _, _⟩) (v := undef) rfl (by kernel_rfl) (by kernel_rfl) (by kernel_rfl) (fun _ _ _ h => h) (Or.inr ⟨by rfl, rfl⟩) (by assumption) ?_
              try simp only [Act.put, List.setIfInBounds_toArray, List.set_cons_zero, List.set_cons_succ]
              refine wpAnyH_take (i := 22) (oi := ⟨some 82, _, _, _, _, _⟩) (v := undef) rfl (by kernel_rfl) (by kernel_rfl) (by kernel_rfl) (fun _ _ _ h => h) (Or.inr ⟨by rfl, rfl⟩) (by assumption) ?_
              try simp only [Act.put, List.setIfInBounds_toArray, List.set_cons_zero, List.set_cons_succ]
              refine wpAnyH_take (i := 23) (oi := ⟨some 83, _, _, _, _, _⟩) (v := ?_) rfl (by kernel_rfl) (by kernel_rfl) (by kernel_rfl) (fun _ _ _ h => h) (Or.inl ⟨by rfl, ?_⟩) (by assumption) ?_
              rotate_left
              · (intro w hSw; (try dsimp only at hSw); go_simp <;> with_reducible rfl)
              try simp only [Act.put, List.setIfInBounds_toArray, List.set_cons_zero, List.set_cons_succ]
              refine wpAnyH_take (i := 24) (oi := ⟨some 84, _, _, _, _, _⟩) (v := ?_) rfl (by kernel_rfl) (by kernel_rfl) (by kernel_rfl) (fun _ _ _ h => h) (Or.inl ⟨by rfl, ?_⟩) (by assumption) ?_
              rotate_left
              · (intro w hSw; (try dsimp only at hSw); go_simp <;> with_reducible rfl)
              try simp only [Act.put, List.setIfInBounds_toArray, List.set_cons_zero, List.set_cons_succ]
              refine wpAnyH_take (i := 25) (oi := ⟨some 85, _, _, _, _, _⟩) (v := ?_) rfl (by kernel_rfl) (by kernel_rfl) (by kernel_rfl) (fun _ _ _ h => h) (Or.inl ⟨by rfl, ?_⟩) (by assumption) ?_
              rotate_left
              · (intro w hSw; (try dsimp only at hSw); go_simp <;> with_reducible rfl)
              try simp only [Act.put, List.setIfInBounds_toArray, List.set_cons_zero, List.set_cons_succ]
              refine wpAnyH_take (i := 26) (oi := ⟨some 86, _, _, _, _, _⟩) (v := ?_) rfl (by kernel_rfl) (by kernel_rfl) (by kernel_rfl) (fun _ _ _ h => h) (Or.inl ⟨by rfl, ?_⟩) (by assumption) ?_
              rotate_left
              · (intro w hSw; (try dsimp only at hSw); go_simp <;> with_reducible rfl)
              try simp only [Act.put, List.setIfInBounds_toArray, List.set_cons_zero, List.set_cons_succ]
              refine wpAnyH_take (i := 27) (oi := ⟨some 87, _, _, _, _, _⟩) (v := ?_) rfl (by kernel_rfl) (by kernel_rfl) (by kernel_rfl) (fun _ _ _ h => h) (Or.inl ⟨by rfl, ?_⟩) (by assumption) ?_
              rotate_left
              · (intro w hSw; (try dsimp only at hSw); go_simp <;> with_reducible rfl)
              try simp only [Act.put, List.setIfInBounds_toArray, List.set_cons_zero, List.set_cons_succ]
              refine wpAnyH_take (i := 28) (oi := ⟨some 88, _, _, _, _, _⟩) (v := ?_) rfl (by kernel_rfl) (by kernel_rfl) (by kernel_rfl) (fun _ _ _ h => h) (Or.inl ⟨by rfl, ?_⟩) (by assumption) ?_
              rotate_left
              · (intro w hSw; (try dsimp only at hSw); go_simp <;> with_reducible rfl)
              try simp only [Act.put, List.setIfInBounds_toArray, List.set_cons_zero, List.set_cons_succ]
              refine wpAnyH_take (i := 29) (oi := ⟨some 89, _, _, _, _, _⟩) (v := ?_) rfl (by kernel_rfl) (by kernel_rfl) (by kernel_rfl) (fun _ _ _ h => h) (Or.inl ⟨by rfl, ?_⟩) (by assumption) ?_
              rotate_left
              · (intro w hSw; (try dsimp only at hSw); go_simp <;> with_reducible rfl)
              try simp only [Act.put, List.setIfInBounds_toArray, List.set_cons_zero, List.set_cons_succ]
              refine wpAnyH_take (i := 30) (oi := ⟨some 90, _, _, _, _, _⟩) (v := ?_) rfl (by kernel_rfl) (by kernel_rfl) (by kernel_rfl) (fun _ _ _ h => h) (Or.inl ⟨by rfl, ?_⟩) (by assumption) ?_
              rotate_left
              · (intro w hSw; (try dsimp only at hSw); go_simp <;> with_reducible rfl)
              try simp only [Act.put, List.setIfInBounds_toArray, List.set_cons_zero, List.set_cons_succ]
              refine wpAnyH_take (i := 31) (oi := ⟨some 91, _, _, _, _, _⟩) (v := ?_) rfl (by kernel_rfl) (by kernel_rfl) (by kernel_rfl) (fun _ _ _ h => h) (Or.inl ⟨by rfl, ?_⟩) (by assumption) ?_
              rotate_left
              · (intro w hSw; (try dsimp only at hSw); go_simp <;> with_reducible rfl)
              try simp only [Act.put, List.setIfInBounds_toArray, List.set_cons_zero, List.set_cons_succ]
              refine wpAnyH_take (i := 34) (oi := ⟨some 94, _, _, _, _, _⟩) (v := ?_) rfl (by kernel_rfl) (by kernel_rfl) (by kernel_rfl) (fun _ _ _ h => h) (Or.inl ⟨by rfl, ?_⟩) (by assumption) ?_
              rotate_left
              · (intro w hSw; (try dsimp only at hSw); go_simp <;> with_reducible rfl)
              try simp only [Act.put, List.setIfInBounds_toArray, List.set_cons_zero, List.set_cons_succ]
              refine wpAnyH_ready (rs := [32]) (by kernel_rfl) (by simp) ?_
              refine AllReadyH.cons (o := ⟨some 92, _, _, _, _, _⟩) rfl (fun K hK => ?_) ?_
              rotate_left
              · exact AllReadyH.nil
              go_simp
              (go_at_call 28; refine (StepAll_any t _ _ (lw_m HS) (by omega)).mono ?_; rw [← HPS.out]; rintro e V ⟨rfl, hV⟩; replace HS := lw_step HS hV; clear hV; rw [HXS1.out]; have hc1 := lw_cell HS 3 rfl HE1)
              go_wp2_with fail
              refine hK.out _ _ ?_ (fun hHeld2 => ?_)
              · (try dsimp only)
                go_keep
              clear hK K hHeld
              have hHeld := hHeld2
              clear hHeld2
              try simp only [Act.put, List.setIfInBounds_toArray, List.set_cons_zero, List.set_cons_succ]
              refine wpAnyH_ready (rs := [33]) (by kernel_rfl) (by simp) ?_
              refine AllReadyH.cons (o := ⟨some 93, _, _, _, _, _⟩) rfl (fun K hK => ?_) ?_
              rotate_left
              · exact AllReadyH.nil
              go_simp
              (go_at_call 64; refine (BasinOf_any t _ _ (lw_m HS) (by omega)).mono ?_; rw [← HPS.out, HXB.out]; rintro e V ⟨⟨A2, c2, rfl, hc2, hO2⟩, hV⟩; replace HS := lw_add (lw_step HS hV) hO2.rd; clear hV hO2; have hc1 := lw_cell HS 4 rfl HE1; have hbas := True.intro)
              go_wp2_with fail
              refine hK.out _ _ ?_ (fun hHeld2 => ?_)
              · (try dsimp only)
                go_keep
              clear hK K hHeld
              have hHeld := hHeld2
              clear hHeld2
              try simp only [Act.put, List.setIfInBounds_toArray, List.set_cons_zero, List.set_cons_succ]
              refine wpAnyH_ready (rs := [35]) (by kernel_rfl) (by simp) ?_
              refine AllReadyH.cons (o := ⟨some 95, _, _, _, _, _⟩) rfl (fun K hK => ?_) ?_
              rotate_left
              · exact AllReadyH.nil
              go_simp
              (go_at_call 38; refine (bnSame_any _ _ _ _ L _ (lw_rd HS 0 rfl) (lw_rd HS 4 rfl) (by omega)).mono ?_; rintro e V ⟨rfl, nB, rfl⟩; replace HS := lw_drew HS nB; have hc1 := lw_cell HS 4 rfl HE1)
              go_wp2_with fail
              refine hK.out _ _ ?_ (fun hHeld2 => ?_)
              · (try dsimp only)
                go_keep
              clear hK K hHeld
              have hHeld := hHeld2
              clear hHeld2
              try simp only [Act.put, List.setIfInBounds_toArray, List.set_cons_zero, List.set_cons_succ]
              refine wpAnyH_take (i := 36) (oi := ⟨some 96, _, _, _, _, _⟩) (v := ?_) rfl (by kernel_rfl) (by kernel_rfl) (by kernel_rfl) (fun _ _ _ h => h) (Or.inl ⟨by rfl, ?_⟩) (by assumption) ?_
              rotate_left
              · (intro w hSw; (try dsimp only at hSw); go_simp <;> with_reducible rfl)
              try simp only [Act.put, List.setIfInBounds_toArray, List.set_cons_zero, List.set_cons_succ]
              refine wpAnyH_take (i := 37) (oi := ⟨some 97, _, _, _, _, _⟩) (v := ?_) rfl (by kernel_rfl) (by kernel_rfl) (by kernel_rfl) (fun _ _ _ h => h) (Or.inl ⟨by rfl, ?_⟩) (by assumption) ?_
              rotate_left
              · (intro w hSw; (try dsimp only at hSw); go_simp <;> with_reducible rfl)
              try simp only [Act.put, List.setIfInBounds_toArray, List.set_cons_zero, List.set_cons_succ]
              refine wpAnyH_done (by kernel_rfl) ?_ _
              all_goals
                replace HS := lw_cut HS 2
                go_wp2_with fail
                go_roundw
                case rel => exact ⟨k + 1, by omega, by go_num, by (first | rw [decide_eq_true (show m < k + 1 by omega)] | (congr 1; rw [Bool.eq_iff_iff, beq_iff_eq, decide_eq_true_iff]; have := HXM.out; omega)), HS⟩
                case measure => simp [intOf]; omega
            · have hk1 : (k : Int) > 0 := by omega
              have hk2 : 0 < k := by omega
              have hk3 : decide (0 < k) = true := decide_eq_true hk2
              have hk4 : decide ((k : Int) > 0) = true := decide_eq_true hk1
              have hk5 : (0 : Int) < (k : Int) := by omega
              have hk6 : decide ((0 : Int) < (k : Int)) = true := decide_eq_true hk5
              have HE2 := Lib.hid hE2
              have hc2 := lw_cell HS 2 rfl HE2
              have hl1 : ¬ (x : Int) ≤ (x' : Int) := by omega
              have hl2 : ¬ x ≤ x' := by omega
              have hl3 : decide (x ≤ x') = false := decide_eq_false hl2
              have hl4 : decide ((x : Int) ≤ (x' : Int)) = false := decide_eq_false hl1
              have hw1 : IntKind.i64.wrap ((k : Int) - 1) = (k1 : Int) := by rw [IntWalk.i64_in _ (by omega)]; omega
              have hw2 : (0 : Int) ≤ (k1 : Int) := by omega
              have hw3 : (k1 : Int) < (L.length : Int) := by omega
              have hw4 : (k1 : Int).toNat = k1 := by omega
              clear hkk1
              go_region_held3 (fun w' => w'.cell? ⟨g, off + k, none⟩ = some (.int .i64 (x : Int)) ∧ w'.cell? ⟨g, off + k1, none⟩ = some (.int .i64 (x' : Int))) (go_keep)
                (first
                  | (go_at_call 28; refine (StepAll_any t _ _ (lw_m HS) (by omega)).mono ?_; rw [← HPS.out]; rintro e V ⟨rfl, hV⟩; replace HS := lw_step HS hV; clear hV; rw [HXS1.out]; have hc1 := lw_cell HS 3 rfl HE1; have hc2 := lw_cell HS 3 rfl HE2)
                  | (go_at_call 61; refine (CycleOf_any t _ _ (lw_m HS) (by omega)).mono ?_; rw [← HPS.out, HXC.out]; rintro e V ⟨⟨A2, c2, rfl, hc2, hO2⟩, hV⟩; replace HS := lw_add (lw_step HS hV) hO2.rd; clear hV hO2; have hc1 := lw_cell HS 3 rfl HE1; have hc2 := lw_cell HS 3 rfl HE2)
                  | (go_at_call 64; refine (BasinOf_any t _ _ (lw_m HS) (by omega)).mono ?_; rw [← HPS.out, HXB.out]; rintro e V ⟨⟨A2, c2, rfl, hc2, hO2⟩, hV⟩; replace HS := lw_add (lw_step HS hV) hO2.rd; clear hV hO2; have hc1 := lw_cell HS 4 rfl HE1; have hc2 := lw_cell HS 4 rfl HE2; have hbas := True.intro)
                  | (first | (have hbs := hbas; (go_at_call 38; refine (bnSame_any _ _ _ _ L _ (lw_rd HS 0 rfl) (lw_rd HS 4 rfl) (by omega)).mono ?_; rintro e V ⟨rfl, nB, rfl⟩; replace HS := lw_drew HS nB; have hc1 := lw_cell HS 4 rfl HE1; have hc2 := lw_cell HS 4 rfl HE2)) | (go_at_call 38; refine (bnSame_any _ _ _ _ C _ (lw_rd HS 0 rfl) (lw_rd HS 1 rfl) (by omega)).mono ?_; rintro e V ⟨rfl, nB, rfl⟩; replace HS := lw_drew HS nB; have hc1 := lw_cell HS 3 rfl HE1; have hc2 := lw_cell HS 3 rfl HE2)))
              all_goals
                clear hw1 hw2 hw3 hw4
                replace HS := lw_cut HS 2
                go_wp2_with fail
                go_roundw
                case rel => exact ⟨k + 1, by omega, by go_num, by (first | rw [decide_eq_true (show m < k + 1 by omega)] | (congr 1; rw [Bool.eq_iff_iff, beq_iff_eq, decide_eq_true_iff]; have := HXM.out; omega)), HS⟩
                case measure => simp [intOf]; omega
        · have hkn : k = L.length := by omega
          subst hkn
          rw [show decide (m < L.length) = true from decide_eq_true hmL]
          go_wp2_with fail
          go_ret
          exact ⟨rfl, HS.out.b⟩
    · have hok' : okSt ps s = false := by simpa using hok
      have HL0 : Hid (L.length = 0) := Lib.hid (by rw [HL.out, basN_no hok']; rfl)
      have hL0 : L.length ≤ 0 := by rw [HL0.out]; exact Nat.le_refl _
      have HTL : Hid (tailN ps s = -1) := Lib.hid (tailN_no hok')
      have hd : ((L.length : Int) == 0) = true := by rw [HL0.out]; rfl
      clear hok hok'
      go_wp2_with (first
        | (go_at_call 64; refine (BasinOf_any t _ _ (lw_m HS) (by omega)).mono ?_; rw [← HPS.out, ← HL.out]; rintro e V ⟨⟨A2, c2, rfl, hc2, hO2⟩, hV⟩; replace HS := lw_add (lw_step HS hV) hO2.rd; clear hV hO2)
        | (go_at_call 65; refine (sBasinOf_any t _ _ (by omega)).mono ?_; rw [← HPS.out, ← HL.out]; rintro e V ⟨⟨A2, c2, rfl, hc2, hO2⟩, hV⟩; replace HS := lw_add (lw_step HS hV) hO2.rd; clear hV hO2)
        | (first | (go_at_call 38; refine (bnSame_any _ _ _ _ L _ (lw_rd HS 2 rfl) (lw_rd HS 0 rfl) (by omega)).mono ?_; rintro e V ⟨rfl, nB, rfl⟩; replace HS := lw_drew HS nB) | (go_at_call 38; refine (bnSame_any _ _ _ _ L _ (lw_rd HS 1 rfl) (lw_rd HS 0 rfl) (by omega)).mono ?_; rintro e V ⟨rfl, nB, rfl⟩; replace HS := lw_drew HS nB))
        | (go_at_call 25; refine (TailOf_any t _ _ (lw_m HS) (by omega)).mono ?_; rw [← HPS.out]; rintro e V ⟨rfl, hV⟩; replace HS := lw_step HS hV; clear hV; rw [HTL.out]))
      go_ret
      exact ⟨rfl, HS.out.b⟩

end Go.Proofs.YtjinmoeabkpmaaaDoor
