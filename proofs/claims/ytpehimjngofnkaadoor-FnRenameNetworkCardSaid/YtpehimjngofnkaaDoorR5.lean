/- The walk of the law FnRenameNetwork. Printed by wip/mkr.py. -/
import Derived.Test.YtpehimjngofnkaaDoorProg
import Derived.WalkKit
import Derived.WalkSpells
import Derived.WalkLawsBesides
import Derived.Lib.Hide
import Derived.Deep.QuietTactic
import Derived.BigQuiet
import Derived.IntWalk
import Derived.Test.YtpehimjngofnkaaDoorG1
import Derived.Test.YtpehimjngofnkaaDoorR4
namespace Go.Proofs.YtpehimjngofnkaaDoor
open Go.RowKit
set_option linter.unusedVariables false

set_option maxHeartbeats 8000000 in
set_option maxRecDepth 100000 in
theorem fnRenameNetwork_walk (a0 : Option Addr) (len0 cap0 : Nat) (z0 : List Int) (w : World) (hm : Hid (HasM w)) (w0 : IsRow .u8 w a0 len0 cap0 z0) :
    Calls Tryd.prog 11 #[.slice a0 len0 cap0] w fun e w' => e = .returned (.bool true) ∧ Below w.heap.size w w' := by
  by_cases h0 : 1048576 < len0
  · go_enter Tryd.func11, Tryd.ntmps11
    go_wp2
    go_ret
    exact ⟨rfl, Below.refl _ _⟩
  · obtain ⟨bs, hbl, hrd, hwf, hcap, hmax⟩ := w0.rdk
    unfold maxLen at hmax
    have HRD := Lib.hid hrd
    have HWF := Lib.hid (fun x hx => wf_u8 (hwf x hx))
    have HBL := Lib.hid hbl.symm
    clear hbl hrd hwf w0
    go_enter Tryd.func11, Tryd.ntmps11
    go_wp2_with fail
    refine (DrawRenameNetwork_any _ _ _ _ _ HBL.out hcap (by omega) HRD HWF).mono ?_
    rintro e W1 ⟨⟨t, A0, c0, to, rfl, ht, hc0, hl6, hR0⟩, hB1⟩
    obtain ⟨ps, HPS⟩ : ∃ ps, Hid (ps = cutL t.data.toList) := ⟨_, rfl⟩
    have HS : Hid (LawW w W1 [(A0, to)]) := Lib.hid ⟨hm.out.below hB1, hB1, by simpa using hR0⟩
    clear hR0 hB1 h0 hm HRD HWF HBL hcap hmax
    obtain ⟨tk, HTK⟩ : ∃ tk : ByteArray, Hid (tk = ⟨(renN ps to).toArray⟩) := ⟨_, Lib.hid rfl⟩
    have hb1 := bytes_eqb tk
    have hb0 : (tk == tk) = true := by have := bytes_eqb tk; simpa [bne] using this
    by_cases hok : okR ps to = true
    · obtain ⟨hokN, p, rfl, hO⟩ := okR_true hok
      have HOK := Lib.hid hokN
      have HOP := Lib.hid hO
      have HRR := Lib.hid hok
      have hn5 := okN_le hokN
      have hps : 1 ≤ ps.length := by rw [HPS.out]; exact (cutL_len _).2
      have h32 := two_le _ hn5
      obtain ⟨N, HN, hNw, hN32, hN0⟩ := wrap_two ps.length hn5
      have HPL : Hid ((ints p).length = ps.length) := Lib.hid (by rw [ints_length]; exact hO.len)
      have hpl1 : (ints p).length ≤ ps.length := Nat.le_of_eq HPL.out
      have hpl2 : ps.length ≤ (ints p).length := Nat.le_of_eq HPL.out.symm
      obtain ⟨n, HNN⟩ : ∃ n, Hid (n = ps.length) := ⟨_, Lib.hid rfl⟩
      obtain ⟨qs, HQS⟩ : ∃ qs, Hid (qs = cutL tk.data.toList) := ⟨_, Lib.hid rfl⟩
      have hq : qs = frS ps.length (renF ps p) := by
        rw [HQS.out, HTK.out, renN_yes hok]
        exact frS_cut hps
      have htk : tk.size ≤ 100000 := by
        rw [HTK.out, renN_yes hok, str_size]
        have := joinN_len (frS_lens hn5 (renF ps p)) ps.length (by rw [frS_length]; exact Nat.le_refl _)
        have e : (frS ps.length (renF ps p)).take ps.length = frS ps.length (renF ps p) := List.take_of_length_le (by rw [frS_length]; exact Nat.le_refl _)
        rw [e] at this
        omega
      have hokq : okN qs = true := by rw [hq]; exact frS_ok hps hn5
      have hql : qs.length = ps.length := by rw [hq, frS_length]
      obtain ⟨bk, HBKL⟩ : ∃ bk, Hid (bk = pbk p ps.length) := ⟨_, Lib.hid rfl⟩
      have hbkl : (ints bk).length = ps.length := by rw [ints_length, HBKL.out, pbk_len]
      have HRR2 : Hid (okR qs (ints bk) = true) := Lib.hid (by
        rw [okR, hokq, hql, Bool.true_and, HBKL.out]; exact okO_of (pbk_ord hO))
      have HBK : Hid ((⟨(renN qs (ints bk)).toArray⟩ : ByteArray) = t) := Lib.hid (by
        rw [renN_yes HRR2.out, hql, HBKL.out, hq]
        rw [frS_congr (g := stp ps) (fun x hx => ren_back hokN hO hx), frS_stp hokN, HPS.out, joinN_cut _ _ (Nat.le_refl _), str_of_list])
      obtain ⟨F1, HF1⟩ : ∃ F, Hid (F = ints (fixN qs)) := ⟨_, Lib.hid rfl⟩
      obtain ⟨F2, HF2⟩ : ∃ F, Hid (F = ints (fixN ps)) := ⟨_, Lib.hid rfl⟩
      have hF12 : F1.length = F2.length := by rw [HF1.out, HF2.out, ints_length, ints_length, hq]; exact fix_ren hokN hps hO
      have hFd : ((F1.length : Int) == (F2.length : Int)) = true := by rw [beq_iff_eq]; omega
      have HST : Hid (∀ k, k < N → stA ps (k : Int) = ((stp ps k : Nat) : Int) ∧ stA qs ((movF p k : Nat) : Int) = ((movF p (stp ps k) : Nat) : Int) ∧ stp ps k < 32) := Lib.hid fun k hk => by
        have hk2 : k < 2 ^ ps.length := by rw [← HN.out]; exact hk
        have hx : movF p k < 2 ^ ps.length := movF_lt hO k
        have hy := stp_lt hokN k
        refine ⟨stA_k (by rw [okSt_of hokN HN.out]; simp; omega), ?_, by omega⟩
        rw [stA_k (by rw [okSt_of hokq (N := N) (by rw [hql, HN.out])]; simp; rw [HN.out]; exact Int.le_sub_one_of_lt (by exact_mod_cast hx))]
        rw [hq, stp_frS hx (renF_lt hO _), renF, old_mov hO hn5 hk2]
      have HM32 : Hid (∀ a k, k ≤ ps.length → movTo p a k < 32) := Lib.hid (fun a k hk => Nat.lt_of_lt_of_le (movTo_lt hO a k hk) h32)
      have HMF : Hid (∀ a, movTo p a ps.length = movF p a) := Lib.hid (fun a => by rw [movF, hO.len])
      have HGET : Hid (∀ k, k < ps.length → ∃ v, v < ps.length ∧ p.getD k 0 = v ∧ (ints p)[k]? = some ((v : Nat) : Int)) := Lib.hid (fun k hk => by
        have hkp : k < p.length := by rw [hO.len]; exact hk
        exact ⟨p[k], hO.lt _ (List.getElem_mem _), by rw [List.getD_eq_getElem?_getD, List.getElem?_eq_getElem hkp]; rfl, by rw [ints, List.getElem?_map, List.getElem?_eq_getElem hkp]; rfl⟩)
      have HIDX : Hid (∀ k u, k < ps.length → u < ps.length → (if u = p.getD k 0 then (k : Int) else if p.idxOf u < k then ((p.idxOf u : Nat) : Int) else 0) = if p.idxOf u < k + 1 then ((p.idxOf u : Nat) : Int) else 0) := Lib.hid (fun k u hk hu => by
        have hkp : k < p.length := by rw [hO.len]; exact hk
        have hg : p.getD k 0 = p[k] := by rw [List.getD_eq_getElem?_getD, List.getElem?_eq_getElem hkp]; rfl
        have hid : p.idxOf p[k] = k := hO.nd.idxOf_getElem k hkp
        rw [hg]
        by_cases e : u = p[k]
        · rw [if_pos e, e, hid, if_pos (by omega)]
        · rw [if_neg e]
          have hne : ¬ p.idxOf u = k := by
            intro e2
            apply e
            have hul : p.idxOf u < p.length := List.idxOf_lt_length_of_mem (hO.mem hu)
            have := List.getElem_idxOf hul
            rw [← this]
            congr 1
          by_cases h2 : p.idxOf u < k
          · rw [if_pos h2, if_pos (by omega)]
          · rw [if_neg h2, if_neg (by omega)])
      have HBKM : Hid (intL ps.length (fun u => if p.idxOf u < ps.length then ((p.idxOf u : Nat) : Int) else 0) = (ints bk).map (Value.int .i64)) := Lib.hid (by
        rw [HBKL.out]
        unfold intL pbk ints
        rw [List.map_map, List.map_map]
        refine List.map_congr_left fun u hu => ?_
        have : p.idxOf u < ps.length := by rw [← hO.len]; exact List.idxOf_lt_length_of_mem (hO.mem (List.mem_range.1 hu))
        show Value.int .i64 (if _ then _ else _) = _
        rw [if_pos this]; rfl)
      have hmk := make_row Tryd.underlying22 info_int rfl ps.length (by omega) (by omega)
      have hb2 : (t == t) = true := by have := bytes_eqb t; simpa [bne] using this
      clear hq hokq hql hok hokN hF12 hO
      rw [HPL.out]
      have HRI : Hid (∀ W, HasM W → Rd W A0 ((ints p).map (Value.int .i64)) → Calls Tryd.prog 44 #[.string t, .slice A0 ps.length c0] W fun e w' => e = .returned (.tuple #[.string tk, .bool true]) ∧ Below W.heap.size W w') := Lib.hid (fun W hmW hRW => by
        have := RenameNetwork_any t A0 c0 (ints p) W (Lib.hid hmW) (by omega) (Lib.hid hRW) (by omega) hc0
        unfold txtV at this
        rw [← HPS.out, ← HTK.out, HRR.out, HPL.out] at this
        exact this)
      have HRS : Hid (∀ W, Rd W A0 ((ints p).map (Value.int .i64)) → Calls Tryd.prog 42 #[.string t, .slice A0 ps.length c0] W fun e w' => e = .returned (.tuple #[.string tk, .bool true]) ∧ Below W.heap.size W w') := Lib.hid (fun W hRW => by
        have := sRenameNetwork_any t A0 c0 (ints p) W (by omega) (Lib.hid hRW) (by omega)
        unfold txtV at this
        rw [← HPS.out, ← HTK.out, HRR.out, HPL.out] at this
        exact this)
      clear hc0 hl6 hpl1 hpl2
      go_wp2_with (first
        | (go_at_call 44; refine (HRI.out _ HS.out.m (lw_rd HS 0 rfl).out).mono ?_; rintro e V ⟨rfl, hV⟩; replace HS := lw_step HS hV; clear hV)
        | (go_at_call 42; refine (HRS.out _ (lw_rd HS 0 rfl).out).mono ?_; rintro e V ⟨rfl, hV⟩; replace HS := lw_step HS hV; clear hV))
      obtain ⟨V0, rfl⟩ : ∃ x, x = V := ⟨_, rfl⟩
      have HPL0 : 0 < (ints p).length := by rw [HPL.out]; exact hps
      obtain ⟨gA, oA, rfl⟩ := lw_form HS 0 rfl HPL0
      clear HPL0
      have HS0 : Hid (Blk (V0.alloc (.cells (Array.replicate ps.length (.int .i64 0)) 3)) V0.heap.size 3 (intL ps.length fun u => if p.idxOf u < 0 then ((p.idxOf u : Nat) : Int) else 0).toArray) := Lib.hid (by
        have : (fun u : Nat => if p.idxOf u < 0 then ((p.idxOf u : Nat) : Int) else 0) = fun _ => 0 := by funext u; simp
        rw [this, intL_zero]; exact Blk.new _ _ _)
      have HBa : Hid (Below V0.heap.size V0 (V0.alloc (.cells (Array.replicate ps.length (.int .i64 0)) 3))) := Lib.hid ((Below.refl _ _).alloc (Nat.le_refl _) _)
      go_loopw [10] (fun i wr => ∃ k : Nat, k ≤ ps.length ∧ i = .int .i64 k ∧ Hid (Blk wr V0.heap.size 3 (intL ps.length fun u => if p.idxOf u < k then ((p.idxOf u : Nat) : Int) else 0).toArray) ∧ Hid (Below V0.heap.size V0 wr)) (fun i _ => ps.length - (intOf i).toNat)
      case atStart => exact ⟨0, Nat.zero_le _, rfl, HS0, HBa⟩
      case round =>
        clear HS0 HBa
        obtain ⟨k, hk, rfl, HB1, HBW⟩ := hrel
        have hbl := HB1.out.lt
        by_cases hlt : k < ps.length
        · obtain ⟨v, hvn, hvp, hvg⟩ := HGET.out k hlt
          have hcv := ((lw_rd HS 0 rfl).out.below HBW.out).cell (k := k) (v := .int .i64 (v : Int)) (by rw [List.getElem?_map, hvg]; rfl)
          obtain ⟨v0, HV0⟩ : ∃ x : Int, Hid (x = if p.idxOf v < k then ((p.idxOf v : Nat) : Int) else 0) := ⟨_, Lib.hid rfl⟩
          have hcu : wr.cell? ⟨V0.heap.size, v, none⟩ = some (.int .i64 v0) := by rw [HB1.out.cell, List.getElem?_toArray, intL_get _ hvn, HV0.out]
          have hfu := HB1.out.frozen v
          have HS2 : Hid (Blk (wr.setCell ⟨V0.heap.size, v, none⟩ (.int .i64 (k : Int))) V0.heap.size 3 (intL ps.length fun u => if p.idxOf u < k + 1 then ((p.idxOf u : Nat) : Int) else 0).toArray) := Lib.hid (by
            have h := HB1.out.set_ v (.int .i64 (k : Int))
            rw [intL_set, intL_congr (g := fun u => if p.idxOf u < k + 1 then ((p.idxOf u : Nat) : Int) else 0) (fun u hu => by rw [← hvp]; exact HIDX.out k u hlt hu)] at h
            exact h)
          clear hvp hvg
          go_wp2_with fail
          go_roundw
          case rel => exact ⟨k + 1, by omega, by go_num, HS2, Lib.hid (HBW.out.setCell (by show V0.heap.size ≤ V0.heap.size; omega) _)⟩
          case measure => simp [intOf]; omega
        · have hkn : k = ps.length := by omega
          have HRB : Hid (Rd wr (some ⟨V0.heap.size, 0, none⟩) ((ints bk).map (Value.int .i64))) := Lib.hid (by
            rw [← HBKM.out]
            refine .inr ⟨_, 0, rfl, fun j v hj => ?_⟩
            have h := HB1.out.cell j
            rw [hkn] at h
            rw [Nat.zero_add, h, List.getElem?_toArray]
            exact hj)
          obtain ⟨gB, HGB⟩ : ∃ g, Hid (g = V0.heap.size) := ⟨_, Lib.hid rfl⟩
          have HSB := lw_add (lw_step HS HBW.out) HRB.out
          have HRX : Hid (∀ W, HasM W → Rd W (some ⟨V0.heap.size, 0, none⟩) ((ints bk).map (Value.int .i64)) → Calls Tryd.prog 44 #[.string tk, .slice (some ⟨V0.heap.size, 0, none⟩) ps.length ps.length] W fun e w' => e = .returned (.tuple #[.string t, .bool true]) ∧ Below W.heap.size W w') := Lib.hid (fun W hmW hRW => by
            have := RenameNetwork_any tk (some ⟨V0.heap.size, 0, none⟩) ps.length (ints bk) W (Lib.hid hmW) (by omega) (Lib.hid hRW) (by omega) (by omega)
            unfold txtV at this
            rw [← HQS.out, HBK.out, HRR2.out, hbkl] at this
            exact this)
          clear hkn HB1 HBW hbl
          go_wp2_with fail
          go_loopw [11] (fun i wr => ∃ k : Nat, k ≤ N ∧ i = .int .i64 k ∧ Hid (LawW w wr [(some ⟨V0.heap.size, 0, none⟩, ints bk), (some ⟨gA, oA, none⟩, ints p)])) (fun i _ => N - (intOf i).toNat)
          case atStart => exact ⟨0, Nat.zero_le _, rfl, HSB⟩
          case round =>
            clear HSB HS
            obtain ⟨s, hs, rfl, HS⟩ := hrel
            by_cases hlt2 : s < N
            · obtain ⟨h1, h2, h3⟩ := HST.out s hlt2
              obtain ⟨a, HA⟩ : ∃ a, Hid (a = stp ps s) := ⟨_, Lib.hid rfl⟩
              rw [← HA.out] at h1 h2 h3
              obtain ⟨x, HX⟩ : ∃ x, Hid (x = movF p s) := ⟨_, Lib.hid rfl⟩
              obtain ⟨y, HY⟩ : ∃ y, Hid (y = movF p a) := ⟨_, Lib.hid rfl⟩
              rw [← HX.out, ← HY.out] at h2
              have HSA := Lib.hid h1
              have HSK := Lib.hid h2
              have hs32 : s < 32 := by omega
              clear h1 h2
              go_wp2_with (first
                | (go_at_call 31; refine (StepAll_any t _ _ (lw_m HS) (by omega)).mono ?_; rw [← HPS.out]; rintro e V ⟨rfl, hV⟩; replace HS := lw_step HS hV; clear hV; rw [HSA.out]))
              go_loopw [12, 13, 15] (fun q r i wr => ∃ (k m1 m2 : Nat), k ≤ ps.length ∧ i = .int .i64 k ∧ q = .int .i64 (m1 : Int) ∧ r = .int .i64 (m2 : Int) ∧ Hid (m1 = movTo p s k ∧ m2 = movTo p a k) ∧ Hid (LawW w wr [(some ⟨V0.heap.size, 0, none⟩, ints bk), (some ⟨gA, oA, none⟩, ints p)])) (fun _ _ i _ => ps.length - (intOf i).toNat)
              case atStart => exact ⟨0, 0, 0, Nat.zero_le _, rfl, rfl, rfl, Lib.hid ⟨rfl, rfl⟩, HS⟩
              case round =>
                clear HS
                obtain ⟨k, m1, m2, hk2, rfl, rfl, rfl, HMM, HS⟩ := hrel
                by_cases hlt3 : k < ps.length
                · obtain ⟨v, hvn, hvp, hvg⟩ := HGET.out k hlt3
                  have HVG := Lib.hid hvg
                  have hcv := lw_cell HS 1 rfl HVG
                  have hv5 : v < 5 := by omega
                  have hk5 : k < 5 := by omega
                  have hm1 : m1 < 32 := by rw [HMM.out.1]; exact HM32.out s k hk2
                  have hm2 : m2 < 32 := by rw [HMM.out.2]; exact HM32.out a k hk2
                  have hb1' := bit_and s k (by omega)
                  have hb2' := bit_and a k (by omega)
                  have hl1 := bit_lt s k
                  have hl2 := bit_lt a k
                  have e1 := or_shift hm1 hl1 hv5
                  have e2 := or_shift hm2 hl2 hv5
                  have HQ1 : Hid (m1 ||| bit s k * 2 ^ v = movTo p s (k + 1)) := Lib.hid (by rw [movTo, ← HMM.out.1, hvp])
                  have HQ2 : Hid (m2 ||| bit a k * 2 ^ v = movTo p a (k + 1)) := Lib.hid (by rw [movTo, ← HMM.out.2, hvp])
                  rw [HQ1.out] at e1
                  rw [HQ2.out] at e2
                  clear hvp hvg
                  go_wp2_with fail
                  go_roundw
                  case rel => exact ⟨k + 1, _, _, by omega, by go_num, rfl, rfl, Lib.hid ⟨rfl, rfl⟩, HS⟩
                  case measure => simp [intOf]; omega
                · have hkn : k = ps.length := by omega
                  have hx1 : m1 = x := by rw [HMM.out.1, hkn, HMF.out, HX.out]
                  have hy1 : m2 = y := by rw [HMM.out.2, hkn, HMF.out, HY.out]
                  subst hx1
                  subst hy1
                  have hyy : ((m2 : Int) != (m2 : Int)) = false := bne_self_eq_false _
                  clear hkn
                  go_wp2_with (first
                    | (go_at_call 31; refine (StepAll_any tk _ _ (lw_m HS) (by omega)).mono ?_; rintro e V ⟨rfl, hV⟩; replace HS := lw_step HS hV; clear hV; rw [← HQS.out, HSK.out]))
                  go_roundw
                  case rel => exact ⟨s + 1, by omega, by go_num, HS⟩
                  case measure => simp [intOf]; omega
            · have hsn : s = N := by omega
              go_wp2_with (first
                | (go_at_call 44; refine (HRX.out _ HS.out.m (lw_rd HS 0 rfl).out).mono ?_; rintro e V ⟨rfl, hV⟩; replace HS := lw_step HS hV; clear hV)
                | (go_at_call 39; refine (FixedPoints_any _ _ (lw_m HS) (by omega)).mono ?_; (first | rw [← HPS.out, ← HF2.out] | rw [← HQS.out, ← HF1.out]); rintro e V ⟨⟨A2, c2, rfl, hc2, hO2⟩, hV⟩; replace HS := lw_add (lw_step HS hV) hO2.rd; clear hV hO2))
              go_ret
              exact ⟨rfl, HS.out.b⟩
    · have hok' : okR ps to = false := by simpa using hok
      have HRR := Lib.hid hok'
      clear hok hok'
      go_wp2_with (first
        | (go_at_call 44; refine (RenameNetwork_any t A0 _ to _ (lw_m HS) (by omega) (lw_rd HS 0 rfl) (by omega) hc0).mono ?_; rintro e V ⟨rfl, hV⟩; unfold txtV; rw [← HPS.out, ← HTK.out, HRR.out]; replace HS := lw_step HS hV; clear hV)
        | (go_at_call 42; refine (sRenameNetwork_any t A0 _ to _ (by omega) (lw_rd HS 0 rfl) (by omega)).mono ?_; rintro e V ⟨rfl, hV⟩; unfold txtV; rw [← HPS.out, ← HTK.out, HRR.out]; replace HS := lw_step HS hV; clear hV))
      go_ret
      exact ⟨rfl, HS.out.b⟩

end Go.Proofs.YtpehimjngofnkaaDoor
