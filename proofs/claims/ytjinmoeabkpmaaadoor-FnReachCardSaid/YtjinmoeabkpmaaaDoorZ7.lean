/- The walk of the law FnReach. Printed by wip/mkl.py. -/
import Derived.Test.YtjinmoeabkpmaaaDoorProg
import Derived.WalkKit
import Derived.WalkSpells
import Derived.WalkLawsBesides
import Derived.Lib.Hide
import Derived.Deep.QuietTactic
import Derived.BigQuiet
import Derived.Deep.RegionHeld3
import Derived.IntWalk
import Derived.Test.YtjinmoeabkpmaaaDoorLa
import Derived.Test.YtjinmoeabkpmaaaDoorYf
import Derived.Test.YtjinmoeabkpmaaaDoorYg
import Derived.Test.YtjinmoeabkpmaaaDoorYh
import Derived.Test.YtjinmoeabkpmaaaDoorWq
import Derived.Test.YtjinmoeabkpmaaaDoorWg
namespace Go.Proofs.YtjinmoeabkpmaaaDoor
open Go.RowKit
set_option linter.unusedVariables false

set_option maxHeartbeats 8000000 in
set_option maxRecDepth 100000 in
theorem fnReach_walk (a0 : Option Addr) (len0 cap0 : Nat) (z0 : List Int) (w : World) (hm : Hid (HasM w)) (w0 : IsRow .u8 w a0 len0 cap0 z0) :
    Calls Tryd.prog 9 #[.slice a0 len0 cap0] w fun e w' => e = .returned (.bool true) ∧ Below w.heap.size w w' := by
  by_cases h0 : 1048576 < len0
  · go_enter Tryd.func9, Tryd.ntmps9
    go_wp2
    go_ret
    exact ⟨rfl, Below.refl _ _⟩
  · obtain ⟨bs, hbl, hrd, hwf, hcap, hmax⟩ := w0.rdk
    unfold maxLen at hmax
    have HRD := Lib.hid hrd
    have HWF := Lib.hid (fun x hx => wf_u8 (hwf x hx))
    have HBL := Lib.hid hbl.symm
    clear hbl hrd hwf w0
    go_enter Tryd.func9, Tryd.ntmps9
    go_wp2_with fail
    refine (DrawReachableFrom_any _ _ _ _ _ HBL.out hcap (by omega) HRD HWF).mono ?_
    rintro e W1 ⟨⟨t, s, rfl, ht, hs1, hs2⟩, hB1⟩
    obtain ⟨ps, HPS⟩ : ∃ ps, Hid (ps = cutL t.data.toList) := ⟨_, rfl⟩
    have HS : Hid (LawW w W1 []) := Lib.hid ⟨hm.out.below hB1, hB1, by simp⟩
    clear hB1 h0 hm HRD HWF HBL hcap hmax
    obtain ⟨L, HL⟩ : ∃ L, Hid (L = reaN ps s) := ⟨_, rfl⟩
    by_cases hok : okSt ps s = true
    · have hok0 := hok
      obtain ⟨HOK, N, s, rfl, HN, hN32, hN0, hsN, HOKS, hfN⟩ := st_open hok
      obtain ⟨xs, HXS⟩ : ∃ xs, Hid (xs = sel N (rbN ps s)) := ⟨_, rfl⟩
      have e0 : L = ints xs := by rw [HL.out, reaN_yes hok0 HN.out, HXS.out]
      have hLx : L.length = xs.length := by rw [e0, ints_length]
      have hL32 : L.length ≤ 32 := by rw [hLx, HXS.out]; exact Nat.le_trans (sel_len _ _) hN32
      have hXm : ∀ x, x ∈ xs ↔ x < N ∧ rbN ps s x = true := fun x => by rw [HXS.out, sel_mem]
      have hgm : ∀ i, i < L.length → xs.getD i 0 ∈ xs := fun i hi => by
        rw [List.getD_eq_getElem?_getD, List.getElem?_eq_getElem (by omega), Option.getD_some]; exact List.getElem_mem _
      have hmg : ∀ x, x ∈ xs → ∃ j, j < L.length ∧ xs.getD j 0 = x := fun x hx => by
        obtain ⟨j, hj, e⟩ := List.getElem_of_mem hx
        exact ⟨j, by omega, by rw [List.getD_eq_getElem?_getD, List.getElem?_eq_getElem hj, Option.getD_some, e]⟩
      have h32 : ∀ i, xs.getD i 0 < 32 := fun i => by
        by_cases hi : i < L.length
        · have := ((hXm _).1 (hgm i hi)).1; omega
        · rw [List.getD_eq_getElem?_getD, List.getElem?_eq_none (by omega)]; simp
      have hsx : s ∈ xs := (hXm s).2 ⟨hsN, (rbN_iff HOK.out HN.out hsN).2 .refl⟩
      have hasc : ∀ i j, i < j → j < L.length → xs.getD i 0 < xs.getD j 0 := fun i j hij hj => by
        rw [List.getD_eq_getElem?_getD, List.getElem?_eq_getElem (by omega), List.getD_eq_getElem?_getD, List.getElem?_eq_getElem (by omega)]
        simp only [Option.getD_some]
        have := HXS.out
        subst this
        exact sel_asc _ _ i j (by omega) (by omega) hij
      have HE : Hid (∀ i, i < L.length → L[i]? = some ((xs.getD i 0 : Nat) : Int)) := Lib.hid fun i hi => by
        rw [show L[i]? = (ints xs)[i]? from congrArg (fun l => l[i]?) e0]; exact ints_getD xs i (by omega)
      have HCR : Hid (∀ i, i < L.length → canN ps (s : Int) ((xs.getD i 0 : Nat) : Int) = true) := Lib.hid fun i hi => by
        have h1 := (hXm _).1 (hgm i hi)
        rw [canN_yes hok0 HN.out h1.1, h1.2]
      have HCL : Hid (∀ i, i < L.length → ∀ (j : Nat) (y : Int), (nxtN ps ((xs.getD i 0 : Nat) : Int))[j]? = some y → ∃ y' : Nat, y = (y' : Int) ∧ y' < 32 ∧ bit (maskT xs L.length) y' = 1) := Lib.hid fun i hi j y hy => by
        have h1 := (hXm _).1 (hgm i hi)
        rw [nxtN_yes (HOKS.out _ h1.1), ints, List.getElem?_map] at hy
        obtain ⟨y', hy', rfl⟩ := Option.map_eq_some_iff.1 hy
        have hy2 := List.mem_of_getElem? hy'
        have hyN := next_lt HOK.out HN.out _ h1.1 _ hy2
        have hym : y' ∈ xs := (hXm y').2 ⟨hyN, (rbN_iff HOK.out HN.out hsN).2 (((rbN_iff HOK.out HN.out hsN).1 h1.2).step hy2)⟩
        obtain ⟨q, hq, hqe⟩ := hmg y' hym
        exact ⟨y', rfl, by omega, by rw [← hqe]; exact maskT_bit _ hq⟩
      have HN5 : Hid (∀ i, i < L.length → (nxtN ps ((xs.getD i 0 : Nat) : Int)).length ≤ 5) := Lib.hid fun i hi => by
        rw [nxtN_yes (HOKS.out _ ((hXm _).1 (hgm i hi)).1), ints_length]; exact nextN_len HOK.out _
      have HSB : Hid (bit (maskT xs L.length) s = 1) := by
        obtain ⟨q, hq, hqe⟩ := hmg s hsx
        exact Lib.hid (by have := maskT_bit (xs := xs) _ hq; rwa [hqe] at this)
      have HML : Hid (∀ k, maskT xs k < 4294967296) := Lib.hid (maskT_lt h32)
      have H32 := Lib.hid h32
      have HAS := Lib.hid hasc
      have hL0 : 0 < L.length := by have := List.length_pos_of_mem hsx; omega
      have hd : ((L.length : Int) == 0) = false := by rw [beq_eq_false_iff_ne]; omega
      clear e0 hXm hgm hmg h32 hsx hasc hLx hok hok0 hs1 hs2
      go_wp2_with (first
        | (go_at_call 53; refine (ReachableFrom_any t _ _ (lw_m HS) (by omega)).mono ?_; rw [← HPS.out, ← HL.out]; rintro e V ⟨⟨A3, c2, rfl, hc2, hO2⟩, hV⟩; replace HS := lw_add (lw_step HS hV) hO2.rd; clear hV hO2)
        | (go_at_call 54; refine (sReachableFrom_any t _ _ (by omega)).mono ?_; rw [← HPS.out, ← HL.out]; rintro e V ⟨⟨A9, c2, rfl, hc2, hO2⟩, hV⟩; replace HS := lw_add (lw_step HS hV) hO2.rd; clear hV hO2)
        | (go_at_call 38; refine (bnSame_any _ _ _ _ L _ (lw_rd HS 1 rfl) (lw_rd HS 0 rfl) (by omega)).mono ?_; rintro e V ⟨rfl, nB, rfl⟩; replace HS := lw_drew HS nB))
      obtain ⟨g, off, rfl⟩ := lw_form HS 1 rfl (by omega)
      replace HS := lw_cut HS 1
      go_loopw [6, 7] (fun q i wr => ∃ k : Nat, k ≤ L.length ∧ i = .int .i64 k ∧ q = .int .i64 (maskT xs k : Nat) ∧ Hid (LawW w wr [(some ⟨g, off, none⟩, L)])) (fun _ i _ => L.length - (intOf i).toNat)
      case atStart => exact ⟨0, Nat.zero_le _, rfl, rfl, HS⟩
      case round =>
        clear HS
        obtain ⟨k, hk, rfl, rfl, HS⟩ := hrel
        by_cases hlt : k < L.length
        · obtain ⟨x, HX1⟩ : ∃ x, Hid (x = xs.getD k 0) := ⟨_, rfl⟩
          obtain ⟨x', HX2⟩ : ∃ x, Hid (x = xs.getD (k - 1) 0) := ⟨_, rfl⟩
          have hx32 : x < 32 := by rw [HX1.out]; exact H32.out k
          have HE1 : Hid (L[k]? = some (x : Int)) := Lib.hid (by rw [HX1.out]; exact HE.out k hlt)
          have HXC : Hid (canN ps (s : Int) (x : Int) = true) := Lib.hid (by rw [HX1.out]; exact HCR.out k hlt)
          obtain ⟨mk, HMK⟩ : ∃ x, Hid (x = maskT xs k) := ⟨_, rfl⟩
          have hmk : mk < 4294967296 := by rw [HMK.out]; exact HML.out k
          obtain ⟨W, HW⟩ : ∃ W : Nat, Hid (W = 2 ^ x) := ⟨_, rfl⟩
          have hW : W < 4294967296 := by
            have h1 : 2 ^ x < 2 ^ 32 := Nat.pow_lt_pow_right (by omega) hx32
            rw [HW.out]; omega
          have hor : bits .or .i64 (mk : Int) (W : Int) = ((maskT xs (k + 1) : Nat) : Int) := by
            rw [i64_or_nat mk W (by omega) (by omega), HMK.out, HW.out, HX1.out]; rfl
          have hkk : k = 0 ∨ (0 < k ∧ x' < x ∧ ∃ k1, k1 + 1 = k ∧ L[k1]? = some (x' : Int)) := by
            rcases Nat.eq_zero_or_pos k with h | h
            · exact .inl h
            · exact .inr ⟨h, by rw [HX1.out, HX2.out]; exact HAS.out (k - 1) k (by omega) hlt, k - 1, by omega, by rw [HX2.out]; exact HE.out _ (by omega)⟩
          rw [← HMK.out]
          have hc1 := lw_cell HS 0 rfl HE1
          have hWw : wrap64 ((2 : Int) ^ x) = (W : Int) := by rw [HW.out]; exact wrap_pow32 x hx32
          go_wp2_with fail
          clear hWw hor
          replace HS : Hid (LawW w wr.drew [(some ⟨g, off, none⟩, L)]) := lw_drew HS 1
          rcases hkk with hk0 | ⟨hk0, hxx, k1, hkk1, hE2⟩
          · have hk2 : ¬ 0 < k := by omega
            have hk1 : ¬ (k : Int) > 0 := by omega
            have hk3 : decide (0 < k) = false := decide_eq_false hk2
            have hk4 : decide ((k : Int) > 0) = false := decide_eq_false hk1
            have hk5 : ¬ (0 : Int) < (k : Int) := by omega
            have hk6 : decide ((0 : Int) < (k : Int)) = false := decide_eq_false hk5
            clear hk0
            refine wp_region_held_drew (S := (fun w' : World => w'.cell? ⟨g, off + k, none⟩ = some (.int .i64 (x : Int)))) (by kernel_rfl) ?_ (fun hHeld => ?_)
            · (try dsimp only)
              go_keep
            refine wpAnyH_take (i := 0) (oi := ⟨some 58, _, _, _, _, _⟩) (v := ?_) rfl (by kernel_rfl) (by kernel_rfl) (by kernel_rfl) (fun _ _ _ h => h) (Or.inl ⟨by rfl, ?_⟩) (by assumption) ?_
            rotate_left
            · (intro w hSw; (try dsimp only at hSw); go_simp <;> with_reducible rfl)
            try simp only [Act.put, List.setIfInBounds_toArray, List.set_cons_zero, List.set_cons_succ]
            refine wpAnyH_take (i := 1) (oi := ⟨some 59, _, _, _, _, _⟩) (v := ?_) rfl (by kernel_rfl) (by kernel_rfl) (by kernel_rfl) (fun _ _ _ h => h) (Or.inl ⟨by rfl, ?_⟩) (by assumption) ?_
            rotate_left
            · (intro w hSw; (try dsimp only at hSw); go_simp <;> with_reducible rfl)
            try simp only [Act.put, List.setIfInBounds_toArray, List.set_cons_zero, List.set_cons_succ]
            refine wpAnyH_take (i := 2) (oi := ⟨some 60, _, _, _, _, _⟩) (v := ?_) rfl (by kernel_rfl) (by kernel_rfl) (by kernel_rfl) (fun _ _ _ h => h) (Or.inl ⟨by rfl, ?_⟩) (by assumption) ?_
            rotate_left
            · (intro w hSw; (try dsimp only at hSw); go_simp <;> with_reducible rfl)
            try simp only [Act.put, List.setIfInBounds_toArray, List.set_cons_zero, List.set_cons_succ]
            refine wpAnyH_take (i := 3) (oi := ⟨some 61, _, _, _, _, _⟩) (v := undef) rfl (by kernel_rfl) (by kernel_rfl) (by kernel_rfl) (fun _ _ _ h => h) (Or.inr ⟨by rfl, rfl⟩) (by assumption) ?_
            try simp only [Act.put, List.setIfInBounds_toArray, List.set_cons_zero, List.set_cons_succ]
            refine wpAnyH_take (i := 4) (oi := ⟨some 62, _, _, _, _, _⟩) (v := undef) rfl (by kernel_rfl) (by kernel_rfl) (by kernel_rfl) (fun _ _ _ h => h) (Or.inr ⟨by rfl, rfl⟩) (by assumption) ?_
            try simp only [Act.put, List.setIfInBounds_toArray, List.set_cons_zero, List.set_cons_succ]
            refine wpAnyH_take (i := 5) (oi := ⟨some 63, _, _, _, _, _⟩) (v := undef) rfl (by kernel_rfl) (by kernel_rfl) (by kernel_rfl) (fun _ _ _ h => h) (Or.inr ⟨by rfl, rfl⟩) (by assumption) ?_
            try simp only [Act.put, List.setIfInBounds_toArray, List.set_cons_zero, List.set_cons_succ]
            refine wpAnyH_take (i := 6) (oi := ⟨some 64, _, _, _, _, _⟩) (v := undef) rfl (by kernel_rfl) (by kernel_rfl) (by kernel_rfl) (fun _ _ _ h => h) (Or.inr ⟨by rfl, rfl⟩) (by assumption) ?_
            try simp only [Act.put, List.setIfInBounds_toArray, List.set_cons_zero, List.set_cons_succ]
            refine wpAnyH_take (i := 7) (oi := ⟨some 65, _, _, _, _, _⟩) (v := undef) rfl (by kernel_rfl) (by kernel_rfl) (by kernel_rfl) (fun _ _ _ h => h) (Or.inr ⟨by rfl, rfl⟩) (by assumption) ?_
            try simp only [Act.put, List.setIfInBounds_toArray, List.set_cons_zero, List.set_cons_succ]
            refine wpAnyH_take (i := 8) (oi := ⟨some 66, _, _, _, _, _⟩) (v := undef) rfl (by kernel_rfl) (by kernel_rfl) (by kernel_rfl) (fun _ _ _ h => h) (Or.inr ⟨by rfl, rfl⟩) (by assumption) ?_
            try simp only [Act.put, List.setIfInBounds_toArray, List.set_cons_zero, List.set_cons_succ]
            refine wpAnyH_take (i := 9) (oi := ⟨some 67, _, _, _, _, _⟩) (v := undef) rfl (by kernel_rfl) (by kernel_rfl) (by kernel_rfl) (fun _ _ _ h => h) (Or.inr ⟨by rfl, rfl⟩) (by assumption) ?_
            try simp only [Act.put, List.setIfInBounds_toArray, List.set_cons_zero, List.set_cons_succ]
            refine wpAnyH_take (i := 10) (oi := ⟨some 68, _, _, _, _, _⟩) (v := undef) rfl (by kernel_rfl) (by kernel_rfl) (by kernel_rfl) (fun _ _ _ h => h) (Or.inr ⟨by rfl, rfl⟩) (by assumption) ?_
            try simp only [Act.put, List.setIfInBounds_toArray, List.set_cons_zero, List.set_cons_succ]
            refine wpAnyH_take (i := 11) (oi := ⟨some 69, _, _, _, _, _⟩) (v := undef) rfl (by kernel_rfl) (by kernel_rfl) (by kernel_rfl) (fun _ _ _ h => h) (Or.inr ⟨by rfl, rfl⟩) (by assumption) ?_
            try simp only [Act.put, List.setIfInBounds_toArray, List.set_cons_zero, List.set_cons_succ]
            refine wpAnyH_take (i := 12) (oi := ⟨some 70, _, _, _, _, _⟩) (v := undef) rfl (by kernel_rfl) (by kernel_rfl) (by kernel_rfl) (fun _ _ _ h => h) (Or.inr ⟨by rfl, rfl⟩) (by assumption) ?_
            try simp only [Act.put, List.setIfInBounds_toArray, List.set_cons_zero, List.set_cons_succ]
            refine wpAnyH_take (i := 13) (oi := ⟨some 71, _, _, _, _, _⟩) (v := ?_) rfl (by kernel_rfl) (by kernel_rfl) (by kernel_rfl) (fun _ _ _ h => h) (Or.inl ⟨by rfl, ?_⟩) (by assumption) ?_
            rotate_left
            · (intro w hSw; (try dsimp only at hSw); go_simp <;> with_reducible rfl)
            try simp only [Act.put, List.setIfInBounds_toArray, List.set_cons_zero, List.set_cons_succ]
            refine wpAnyH_take (i := 14) (oi := ⟨some 72, _, _, _, _, _⟩) (v := ?_) rfl (by kernel_rfl) (by kernel_rfl) (by kernel_rfl) (fun _ _ _ h => h) (Or.inl ⟨by rfl, ?_⟩) (by assumption) ?_
            rotate_left
            · (intro w hSw; (try dsimp only at hSw); go_simp <;> with_reducible rfl)
            try simp only [Act.put, List.setIfInBounds_toArray, List.set_cons_zero, List.set_cons_succ]
            refine wpAnyH_take (i := 15) (oi := ⟨some 73, _, _, _, _, _⟩) (v := ?_) rfl (by kernel_rfl) (by kernel_rfl) (by kernel_rfl) (fun _ _ _ h => h) (Or.inl ⟨by rfl, ?_⟩) (by assumption) ?_
            rotate_left
            · (intro w hSw; (try dsimp only at hSw); go_simp <;> with_reducible rfl)
            try simp only [Act.put, List.setIfInBounds_toArray, List.set_cons_zero, List.set_cons_succ]
            refine wpAnyH_take (i := 16) (oi := ⟨some 74, _, _, _, _, _⟩) (v := ?_) rfl (by kernel_rfl) (by kernel_rfl) (by kernel_rfl) (fun _ _ _ h => h) (Or.inl ⟨by rfl, ?_⟩) (by assumption) ?_
            rotate_left
            · (intro w hSw; (try dsimp only at hSw); go_simp <;> with_reducible rfl)
            try simp only [Act.put, List.setIfInBounds_toArray, List.set_cons_zero, List.set_cons_succ]
            refine wpAnyH_take (i := 17) (oi := ⟨some 75, _, _, _, _, _⟩) (v := ?_) rfl (by kernel_rfl) (by kernel_rfl) (by kernel_rfl) (fun _ _ _ h => h) (Or.inl ⟨by rfl, ?_⟩) (by assumption) ?_
            rotate_left
            · (intro w hSw; (try dsimp only at hSw); go_simp <;> with_reducible rfl)
            try simp only [Act.put, List.setIfInBounds_toArray, List.set_cons_zero, List.set_cons_succ]
            refine wpAnyH_take (i := 18) (oi := ⟨some 76, _, _, _, _, _⟩) (v := ?_) rfl (by kernel_rfl) (by kernel_rfl) (by kernel_rfl) (fun _ _ _ h => h) (Or.inl ⟨by rfl, ?_⟩) (by assumption) ?_
            rotate_left
            · (intro w hSw; (try dsimp only at hSw); go_simp <;> with_reducible rfl)
            try simp only [Act.put, List.setIfInBounds_toArray, List.set_cons_zero, List.set_cons_succ]
            refine wpAnyH_take (i := 19) (oi := ⟨some 77, _, _, _, _, _⟩) (v := ?_) rfl (by kernel_rfl) (by kernel_rfl) (by kernel_rfl) (fun _ _ _ h => h) (Or.inl ⟨by rfl, ?_⟩) (by assumption) ?_
            rotate_left
            · (intro w hSw; (try dsimp only at hSw); go_simp <;> with_reducible rfl)
            try simp only [Act.put, List.setIfInBounds_toArray, List.set_cons_zero, List.set_cons_succ]
            refine wpAnyH_take (i := 20) (oi := ⟨some 78, _, _, _, _, _⟩) (v := ?_) rfl (by kernel_rfl) (by kernel_rfl) (by kernel_rfl) (fun _ _ _ h => h) (Or.inl ⟨by rfl, ?_⟩) (by assumption) ?_
            rotate_left
            · (intro w hSw; (try dsimp only at hSw); go_simp <;> with_reducible rfl)
            try simp only [Act.put, List.setIfInBounds_toArray, List.set_cons_zero, List.set_cons_succ]
            refine wpAnyH_ready (rs := [21]) (by kernel_rfl) (by simp) ?_
            refine AllReadyH.cons (o := ⟨some 79, _, _, _, _, _⟩) rfl (fun K hK => ?_) ?_
            rotate_left
            · exact AllReadyH.nil
            go_simp
            (go_at_call 55; refine (CanReach_any t _ _ _ (lw_m HS) (by omega)).mono ?_; rw [← HPS.out]; rintro e V ⟨rfl, hV⟩; replace HS := lw_step HS hV; clear hV; rw [HXC.out]; have hc1 := lw_cell HS 0 rfl HE1)
            go_wp2_with fail
            refine hK.out _ _ ?_ (fun hHeld2 => ?_)
            · (try dsimp only)
              go_keep
            clear hK K hHeld
            have hHeld := hHeld2
            clear hHeld2
            try simp only [Act.put, List.setIfInBounds_toArray, List.set_cons_zero, List.set_cons_succ]
            refine wpAnyH_take (i := 22) (oi := ⟨some 80, _, _, _, _, _⟩) (v := ?_) rfl (by kernel_rfl) (by kernel_rfl) (by kernel_rfl) (fun _ _ _ h => h) (Or.inl ⟨by rfl, ?_⟩) (by assumption) ?_
            rotate_left
            · (intro w hSw; (try dsimp only at hSw); go_simp <;> with_reducible rfl)
            try simp only [Act.put, List.setIfInBounds_toArray, List.set_cons_zero, List.set_cons_succ]
            refine wpAnyH_take (i := 23) (oi := ⟨some 81, _, _, _, _, _⟩) (v := ?_) rfl (by kernel_rfl) (by kernel_rfl) (by kernel_rfl) (fun _ _ _ h => h) (Or.inl ⟨by rfl, ?_⟩) (by assumption) ?_
            rotate_left
            · (intro w hSw; (try dsimp only at hSw); go_simp <;> with_reducible rfl)
            try simp only [Act.put, List.setIfInBounds_toArray, List.set_cons_zero, List.set_cons_succ]
            refine wpAnyH_done (by kernel_rfl) ?_ _
            all_goals
              go_wp2_with fail
              go_roundw
              case rel => exact ⟨k + 1, by omega, by go_num, rfl, HS⟩
              case measure => simp [intOf]; omega
          · have hk1 : (k : Int) > 0 := by omega
            have hk3 : decide (0 < k) = true := decide_eq_true hk0
            have hk4 : decide ((k : Int) > 0) = true := decide_eq_true hk1
            have hk5 : (0 : Int) < (k : Int) := by omega
            have hk6 : decide ((0 : Int) < (k : Int)) = true := decide_eq_true hk5
            have HE2 := Lib.hid hE2
            have hc2 := lw_cell HS 0 rfl HE2
            have hl1 : ¬ (x : Int) ≤ (x' : Int) := by omega
            have hl2 : ¬ x ≤ x' := by omega
            have hl3 : decide (x ≤ x') = false := decide_eq_false hl2
            have hl4 : decide ((x : Int) ≤ (x' : Int)) = false := decide_eq_false hl1
            have hw1 : IntKind.i64.wrap ((k : Int) - 1) = (k1 : Int) := by rw [IntWalk.i64_in _ (by omega)]; omega
            have hw2 : (0 : Int) ≤ (k1 : Int) := by omega
            have hw3 : (k1 : Int) < (L.length : Int) := by omega
            have hw4 : (k1 : Int).toNat = k1 := by omega
            clear hkk1
            go_region_held3 (fun w' => w'.cell? ⟨g, off + k, none⟩ = some (.int .i64 (x : Int)) ∧ w'.cell? ⟨g, off + k1, none⟩ = some (.int .i64 (x' : Int))) (go_keep)
              (first
                | (go_at_call 55; refine (CanReach_any t _ _ _ (lw_m HS) (by omega)).mono ?_; rw [← HPS.out]; rintro e V ⟨rfl, hV⟩; replace HS := lw_step HS hV; clear hV; rw [HXC.out]; have hc1 := lw_cell HS 0 rfl HE1; have hc2 := lw_cell HS 0 rfl HE2))
            all_goals
              clear hw1 hw2 hw3 hw4
              go_wp2_with fail
              go_roundw
              case rel => exact ⟨k + 1, by omega, by go_num, rfl, HS⟩
              case measure => simp [intOf]; omega
        · have hkn : k = L.length := by omega
          subst hkn
          obtain ⟨mm, HMM⟩ : ∃ x, Hid (x = maskT xs L.length) := ⟨_, rfl⟩
          have hmm : mm < 4294967296 := by rw [HMM.out]; exact HML.out _
          rw [← HMM.out] at HSB HCL ⊢
          go_wp2_with fail
          go_loopw [8] (fun i wr => ∃ k : Nat, k ≤ L.length ∧ i = .int .i64 k ∧ Hid (LawW w wr [(some ⟨g, off, none⟩, L)])) (fun i _ => L.length - (intOf i).toNat)
          case atStart => exact ⟨0, Nat.zero_le _, rfl, HS⟩
          case round =>
            clear HS
            obtain ⟨k, hk, rfl, HS⟩ := hrel
            by_cases hlt : k < L.length
            · obtain ⟨x, HX1⟩ : ∃ x, Hid (x = xs.getD k 0) := ⟨_, rfl⟩
              have HE1 : Hid (L[k]? = some (x : Int)) := Lib.hid (by rw [HX1.out]; exact HE.out k hlt)
              obtain ⟨B, HB⟩ : ∃ B, Hid (B = nxtN ps (x : Int)) := ⟨_, rfl⟩
              have hb5 : B.length ≤ 5 := by rw [HB.out, HX1.out]; exact HN5.out k hlt
              have HCL1 : Hid (∀ (j : Nat) (y : Int), B[j]? = some y → ∃ y' : Nat, y = (y' : Int) ∧ y' < 32 ∧ bit mm y' = 1) := Lib.hid (by rw [HB.out, HX1.out]; exact HCL.out k hlt)
              have hc1 := lw_cell HS 0 rfl HE1
              go_wp2_with (first
                | (go_at_call 37; refine (NextOf_any t _ _ (lw_m HS) (by omega)).mono ?_; rw [← HPS.out, ← HB.out]; rintro e V ⟨⟨A8, c2, rfl, hc2, hO2⟩, hV⟩; replace HS := lw_add (lw_step HS hV) hO2.rd; clear hV hO2))
              go_loopw [10] (fun i wq => ∃ j : Nat, j ≤ B.length ∧ i = .int .i64 j ∧ Hid (LawW w wq [(A8, B), (some ⟨g, off, none⟩, L)])) (fun i _ => B.length - (intOf i).toNat)
              case atStart => exact ⟨0, Nat.zero_le _, rfl, HS⟩
              case round =>
                clear HS hc1
                obtain ⟨j, hj, rfl, HS⟩ := hrel
                by_cases hlt2 : j < B.length
                · obtain ⟨y, hy, hy32, hyb⟩ := HCL1.out j _ (List.getElem?_eq_getElem hlt2)
                  have HY1 : Hid (B[j]? = some (y : Int)) := Lib.hid (by rw [List.getElem?_eq_getElem hlt2, hy])
                  have hb := bit_and mm y (by omega)
                  rw [hyb] at hb
                  clear hy hyb
                  obtain ⟨g8, off8, rfl⟩ := lw_form HS 0 rfl (by omega)
                  have hc8 := lw_cell HS 0 rfl HY1
                  go_wp2_with fail
                  go_roundw
                  case rel => exact ⟨j + 1, by omega, by go_num, HS⟩
                  case measure => simp [intOf]; omega
                · have hjn : j = B.length := by omega
                  subst hjn
                  go_wp2_with fail
                  go_roundw
                  case rel => exact ⟨k + 1, by omega, by go_num, lw_cut HS 1⟩
                  case measure => simp [intOf]; omega
            · have hkn : k = L.length := by omega
              subst hkn
              have hs32 : s < 32 := by omega
              have hb := bit_and mm s (by omega)
              rw [HSB.out] at hb
              go_wp2_with fail
              go_ret
              exact ⟨rfl, HS.out.b⟩
    · have hok' : okSt ps s = false := by simpa using hok
      have HL0 : Hid (L.length = 0) := Lib.hid (by rw [HL.out, reaN_no hok']; rfl)
      have hL0 : L.length ≤ 0 := by rw [HL0.out]; exact Nat.le_refl _
      have HSA : Hid (stA ps s = -1) := Lib.hid (by rw [stA, if_neg hok])
      have hd : ((L.length : Int) == 0) = true := by rw [HL0.out]; rfl
      clear hok hok'
      go_wp2_with (first
        | (go_at_call 53; refine (ReachableFrom_any t _ _ (lw_m HS) (by omega)).mono ?_; rw [← HPS.out, ← HL.out]; rintro e V ⟨⟨A2, c2, rfl, hc2, hO2⟩, hV⟩; replace HS := lw_add (lw_step HS hV) hO2.rd; clear hV hO2)
        | (go_at_call 54; refine (sReachableFrom_any t _ _ (by omega)).mono ?_; rw [← HPS.out, ← HL.out]; rintro e V ⟨⟨A2, c2, rfl, hc2, hO2⟩, hV⟩; replace HS := lw_add (lw_step HS hV) hO2.rd; clear hV hO2)
        | (first | (go_at_call 38; refine (bnSame_any _ _ _ _ L _ (lw_rd HS 2 rfl) (lw_rd HS 0 rfl) (by omega)).mono ?_; rintro e V ⟨rfl, nB, rfl⟩; replace HS := lw_drew HS nB) | (go_at_call 38; refine (bnSame_any _ _ _ _ L _ (lw_rd HS 1 rfl) (lw_rd HS 0 rfl) (by omega)).mono ?_; rintro e V ⟨rfl, nB, rfl⟩; replace HS := lw_drew HS nB))
        | (go_at_call 28; refine (StepAll_any t _ _ (lw_m HS) (by omega)).mono ?_; rw [← HPS.out]; rintro e V ⟨rfl, hV⟩; replace HS := lw_step HS hV; clear hV; rw [HSA.out]))
      go_ret
      exact ⟨rfl, HS.out.b⟩

end Go.Proofs.YtjinmoeabkpmaaaDoor
