/- Walks: MayReach and MustReach on both sides. -/
import Derived.Test.YtpehimjngofnkaaDoorProg
import Derived.WalkKit
import Derived.WalkSpells
import Derived.WalkLawsBesides
import Derived.Lib.Hide
import Derived.Deep.QuietTactic
import Derived.Deep.RegionHeld3
import Derived.BigQuiet
import Derived.Carry
import Derived.Test.YtpehimjngofnkaaDoorQ2
import Derived.Test.YtpehimjngofnkaaDoorYj
import Derived.Test.YtpehimjngofnkaaDoorSh
namespace Go.Proofs.YtpehimjngofnkaaDoor
open Go.RowKit
set_option linter.unusedVariables false

/-- the states whose outcomes have that of s, or it alone -/
def frmP (rb : Nat → Nat → Bool) (N s : Nat) (alone : Bool) (k : Nat) : Bool := (outs rb N k).contains (lea rb N s) && (!alone || (outs rb N k).length == 1)
theorem frm_may {rb : Nat → Nat → Bool} {N s : Nat} (h : RB rb N) (hs : s < N) (h1 : std rb N s = true) : sel N (frmP rb N s false) = sel N fun k => rb k s :=
  sel_congr fun k hk => by rw [frmP, may_iff h hs hk h1]; simp
theorem frm_must {rb : Nat → Nat → Bool} {N s : Nat} (h : RB rb N) (hs : s < N) (h1 : std rb N s = true) : sel N (frmP rb N s true) = sel N fun k => (atts rb N N).all fun a => rb k a == rb a s :=
  sel_congr fun k hk => by rw [← must_iff h hs hk h1, frmP]; simp
def frmN (ps : List (List UInt8)) (t : Int) (alone : Bool) : List Int := if alone then mstN ps t else mayN ps t
theorem frmN_no {ps : List (List UInt8)} {t : Int} {alone : Bool} (h : stdN ps t = false) : frmN ps t alone = [] := by
  unfold frmN; split
  · exact mstN_no h
  · exact mayN_no h
theorem frmN_yes {ps : List (List UInt8)} {t N : Nat} {alone : Bool} (h : stdN ps t = true) (hok : okN ps = true) (hN : N = 2 ^ ps.length) (ht : t < N) : frmN ps t alone = ints (sel N (frmP (rbN ps) N t alone)) := by
  have hst : std (rbN ps) N t = true := by rw [← stdN_yes (stdN_ok h) hN]; exact h
  have hR := rbN_rb hok hN
  cases alone
  · rw [frm_may hR ht hst]; exact mayN_yes h hN
  · rw [frm_must hR ht hst]; exact mstN_yes h hN
theorem take_has {l : List Nat} {i a x : Nat} (h : l[i]? = some a) : decide (x ∈ l.take (i + 1)) = (decide (x ∈ l.take i) || decide (a = x)) := by
  rw [List.take_add_one, h, Bool.eq_iff_iff, Bool.or_eq_true, decide_eq_true_iff, decide_eq_true_iff, decide_eq_true_iff, List.mem_append]
  simp [eq_comm]

set_option maxHeartbeats 2000000 in
theorem l5From_any (s : ByteArray) (t : Int) (alone : Bool) (w : World) (hs : s.size ≤ 1073741824) :
    Calls Tryd.prog 58 #[.string s, .int .i64 t, .bool alone] w fun e w' => RetI w.heap.size (frmN (cutL s.data.toList) t alone) e w' ∧ Below w.heap.size w w' := by
  obtain ⟨ps, HPS⟩ : ∃ ps, Hid (ps = cutL s.data.toList) := ⟨_, rfl⟩
  rw [← HPS.out]
  have hBe : Below w.heap.size w (w.alloc (.cells #[] 3)) := (Below.refl _ _).alloc (Nat.le_refl _) _
  have hOE := OI.empty w w.heap.size 3 (Nat.le_refl _)
  have hze : (w.alloc (.cells #[] 3)).heap.size = w.heap.size + 1 := alloc_size _ _
  by_cases h : okSt ps t = true
  · obtain ⟨hok, t, rfl, hlt⟩ := okSt_true h
    have hn5 := okN_le hok
    obtain ⟨N, HN, hN, hN32, hN0⟩ := wrap_two ps.length hn5
    have HOK := Lib.hid hok
    have htN : t < N := by rw [HN.out]; exact hlt
    have HST := Lib.hid h
    have HRB := Lib.hid (rbN_rb hok HN.out)
    by_cases hst : std (rbN ps) N t = true
    · have HSD := Lib.hid hst
      have HV := Lib.hid (frmN_yes (alone := alone) (by rw [stdN_yes h HN.out]; exact hst) hok HN.out htN)
      obtain ⟨l, HCY⟩ : ∃ l, Hid (l = ints (sel N (rbN ps t))) := ⟨_, rfl⟩
      obtain ⟨c0, HC0⟩ : ∃ x, Hid (x = lea (rbN ps) N t) := ⟨_, rfl⟩
      have hl0 : l[0]? = some ((c0 : Nat) : Int) := by rw [HCY.out, HC0.out]; exact lea_head HRB.out htN
      have hlp : 0 < l.length := (List.getElem?_eq_some_iff.1 hl0).1
      have HL0 := Lib.hid hl0
      have hc32 : c0 < 32 := by have := (lea_all HRB.out htN).2.1; rw [HC0.out]; omega
      clear h hok hlt hst hl0
      go_enter Tryd.func58, Tryd.ntmps58
      go_wp2_with fail
      refine (l3State_any s ((t : Nat) : Int) _ hs).mono ?_
      rintro e w1 ⟨⟨A, k0, c, rfl, himp⟩, hB1⟩
      rw [← HPS.out] at himp ⊢
      obtain ⟨rfl, hc, hO⟩ := himp HST.out
      rw [HST.out]
      have HR := Lib.hid hO.rd
      have HON := Lib.hid hO
      have hz1 := hB1.size
      clear hO himp
      go_wp2_with fail
      refine (l5Steady_any _ _ _ N _ _ HR HOK HN htN).mono ?_
      rintro e w2 ⟨rfl, hB2⟩
      rw [HSD.out]
      have hz2 := hB2.size
      have HR2 := Lib.hid (HR.out.below hB2)
      go_wp2_with fail
      refine (l5Reach_any _ _ _ N _ _ HR2 HOK HN htN).mono ?_
      rintro e w3 ⟨⟨A2, c2, rfl, hc2, hO2⟩, hB3⟩
      have hz3 := hB3.size
      have HRd := Lib.hid hO2.rd
      clear hO2
      go_wp2_with fail
      refine (l5Sorted_any _ _ _ _ _ HRd hN32).mono ?_
      rw [← HCY.out]
      rintro e w4 ⟨⟨A3, c3, rfl, hc3, hO3⟩, hB4⟩
      have hz4 := hB4.size
      obtain ⟨g, off, hA3, hcell⟩ := hO3.rd.at_ (k := 0) (v := .int .i64 (c0 : Int)) (by rw [List.getElem?_map, HL0.out]; rfl)
      subst hA3
      rw [Nat.add_zero] at hcell
      have HO4 := Lib.hid ((((hOE.below hB1).below hB2).below hB3).below hB4)
      have HN4 : Hid (Own w4 (w.heap.size + 1) A (strs ps)) := Lib.hid ((((HON.out.mono (by omega)).below hB2).below hB3).below hB4)
      have HB4 := Lib.hid (hBe.trans ((hB1.mono (by omega)).trans ((hB2.mono (by omega)).trans ((hB3.mono (by omega)).trans (hB4.mono (by omega))))))
      clear hO3 hBe hOE hB1 hB2 hB3 hB4 HR HR2 HON HRd
      go_wp2_with fail
      go_loopw [7, 11] (fun v q wr => ∃ k : Nat, k ≤ N ∧ q = .int .i64 k ∧ Hid (OI wr w.heap.size 3 v (ints (sel k (frmP (rbN ps) N t alone))) ∧ Kp (w.heap.size + 1) w4 wr v ∧ Below w.heap.size w wr)) (fun _ q _ => N - (intOf q).toNat)
      case atStart => exact ⟨0, Nat.zero_le _, rfl, Lib.hid ⟨HO4.out, Kp.first (fun g hg => by simp [Value.ownBlock] at hg; omega), HB4.out⟩⟩
      case round =>
        clear HO4 HB4
        obtain ⟨k, hk, rfl, HI⟩ := hrel
        have hsz := HI.out.2.2.size
        have hlen : (ints (sel k (frmP (rbN ps) N t alone))).length ≤ 32 := by rw [ints_length]; have := sel_len k (frmP (rbN ps) N t alone); omega
        by_cases hlt : k < N
        · have hle : (k : Int) ≤ (N : Int) - 1 := by omega
          have hld : decide ((k : Int) ≤ (N : Int) - 1) = true := decide_eq_true hle
          have HRk := Lib.hid (HI.out.2.1.own HN4.out).rd
          go_wp2_with (go_at_call 105; refine (l3All_any _ _ _ N _ hn5 HN).mono ?_; rintro e w2 ⟨rfl, rfl⟩)
          refine (l5Outcomes_any _ _ _ N _ _ HRk HOK HN hlt).mono ?_
          rintro e w5 ⟨⟨A5, c5, rfl, hc5, hO5⟩, hB5⟩
          have hz5 := hB5.size
          obtain ⟨M, HM⟩ : ∃ M, Hid (M = (outs (rbN ps) N k).length) := ⟨_, rfl⟩
          have hMl : (ints (outs (rbN ps) N k)).length = M := by rw [ints_length, HM.out]
          have hM32 : M ≤ 32 := by have := outs_le (rbN ps) N k; rw [HM.out]; omega
          rw [hMl] at hc5 ⊢
          clear hMl
          have HR5 := Lib.hid hO5.rd
          have HI5 := Lib.hid (And.intro (HI.out.1.below hB5) (And.intro (HI.out.2.1.below hB5) (HI.out.2.2.trans (hB5.mono hsz))))
          clear hO5 hB5
          go_wp2_with fail
          go_loopw [13, 14] (fun v q wq => ∃ i : Nat, i ≤ M ∧ q = .int .i64 i ∧ v = .bool (decide (c0 ∈ (outs (rbN ps) N k).take i)) ∧ wq = w5) (fun _ q _ => M - (intOf q).toNat)
          case atStart => exact ⟨0, Nat.zero_le _, rfl, rfl, rfl⟩
          case round =>
            obtain ⟨i, hi, rfl, rfl, rfl⟩ := hrel
            obtain ⟨w5, rfl⟩ : ∃ x, x = wr := ⟨_, rfl⟩
            by_cases hli : i < M
            · obtain ⟨a, HA⟩ : ∃ a, Hid ((outs (rbN ps) N k)[i]? = some a) := ⟨_, List.getElem?_eq_getElem (by rw [← HM.out]; exact hli)⟩
              obtain ⟨g5, o5, rfl, hcl⟩ := HR5.out.at_ (k := i) (v := .int .i64 (a : Int)) (by rw [List.getElem?_map, ints, List.getElem?_map, HA.out]; rfl)
              have HTH := Lib.hid (take_has (x := c0) HA.out)
              by_cases hb : c0 ∈ (outs (rbN ps) N k).take i
              · rw [decide_eq_true hb] at HTH ⊢
                rw [Bool.true_or] at HTH
                clear hb
                go_wp2_with fail
                go_roundw
                case rel => exact ⟨i + 1, by omega, by go_num, by rw [HTH.out], by first | trivial | rfl⟩
                case measure => simp [intOf]; omega
              · rw [decide_eq_false hb] at HTH ⊢
                rw [Bool.false_or] at HTH
                clear hb
                by_cases hac : a = c0
                · have hd : ((a : Int) == (c0 : Int)) = true := by simp; omega
                  rw [decide_eq_true hac] at HTH
                  clear hac
                  go_wp2_with fail
                  go_roundw
                  case rel => exact ⟨i + 1, by omega, by go_num, by rw [HTH.out], by first | trivial | rfl⟩
                  case measure => simp [intOf]; omega
                · have hd : ((a : Int) == (c0 : Int)) = false := by simp; omega
                  rw [decide_eq_false hac] at HTH
                  clear hac
                  go_wp2_with fail
                  go_roundw
                  case rel => exact ⟨i + 1, by omega, by go_num, by rw [HTH.out], by first | trivial | rfl⟩
                  case measure => simp [intOf]; omega
            · have hie : i = M := by omega
              have HTE : Hid ((outs (rbN ps) N k).take i = outs (rbN ps) N k) := Lib.hid (List.take_of_length_le (by rw [hie, HM.out]; exact Nat.le_refl _))
              rw [HTE.out]
              by_cases hp : frmP (rbN ps) N t alone k = true
              · have HE := Lib.hid (sel_yesI hp)
                have hq := hp
                rw [frmP, Bool.and_eq_true, List.contains_iff_mem, ← HC0.out, ← HM.out] at hq
                rw [decide_eq_true hq.1]
                have hq2 := hq.2
                clear hp hq
                cases alone with
                | true =>
                  have hM1 : M = 1 := by simpa using hq2
                  have hd : ((M : Int) == 1) = true := by simp; omega
                  clear hq2 hM1
                  go_wp2_with (at_builtin; refine wp_pushI_at rfl _ _ _ rfl Tryd.underlying22 info_int HI5.out.1 rfl rfl (by omega) (by omega) ?_; intro v' w7 hown hbel hsz3 hkeep)
                  go_roundw
                  case rel => exact ⟨k + 1, by omega, by go_num, Lib.hid ⟨by rw [HE.out]; exact hown, HI5.out.2.1.push hsz3 hkeep, HI5.out.2.2.trans (hbel _ (Nat.le_refl _))⟩⟩
                  case measure => simp [intOf]; omega
                | false =>
                  clear hq2
                  go_wp2_with (at_builtin; refine wp_pushI_at rfl _ _ _ rfl Tryd.underlying22 info_int HI5.out.1 rfl rfl (by omega) (by omega) ?_; intro v' w7 hown hbel hsz3 hkeep)
                  go_roundw
                  case rel => exact ⟨k + 1, by omega, by go_num, Lib.hid ⟨by rw [HE.out]; exact hown, HI5.out.2.1.push hsz3 hkeep, HI5.out.2.2.trans (hbel _ (Nat.le_refl _))⟩⟩
                  case measure => simp [intOf]; omega
              · have hp' : frmP (rbN ps) N t alone k = false := by simpa using hp
                have HE := Lib.hid (sel_noI hp')
                have HIE : Hid (OI w5 w.heap.size 3 u7 (ints (sel (k + 1) (frmP (rbN ps) N t alone))) ∧ Kp (w.heap.size + 1) w4 w5 u7 ∧ Below w.heap.size w w5) := Lib.hid ⟨by rw [HE.out]; exact HI5.out.1, HI5.out.2⟩
                by_cases hm : c0 ∈ outs (rbN ps) N k
                · rw [decide_eq_true hm]
                  have hq : alone = true ∧ ¬ M = 1 := by
                    rw [frmP, Bool.and_eq_false_iff, ← HC0.out, ← HM.out] at hp'
                    rcases hp' with h1 | h1
                    · rw [List.contains_iff_mem.2 hm] at h1; cases h1
                    · simpa using h1
                  obtain ⟨rfl, hM1⟩ := hq
                  have hd : ((M : Int) == 1) = false := by simp; omega
                  clear hp hp' hm hM1
                  go_wp2_with fail
                  go_roundw
                  case rel => exact ⟨k + 1, by omega, by go_num, HIE⟩
                  case measure => simp [intOf]; omega
                · rw [decide_eq_false hm]
                  clear hp hp' hm
                  go_wp2_with fail
                  go_roundw
                  case rel => exact ⟨k + 1, by omega, by go_num, HIE⟩
                  case measure => simp [intOf]; omega
        · have hkn : k = N := by omega
          subst hkn
          obtain ⟨A', c', hv, hc', hO'⟩ := HI.out.1.form
          have HVV := Lib.hid hv
          have HOF := Lib.hid hO'
          clear hv hO'
          go_wp2_with (go_at_call 105; refine (l3All_any _ _ _ k _ hn5 HN).mono ?_; rintro e w2 ⟨rfl, rfl⟩)
          go_ret
          exact ⟨⟨A', c', by rw [HV.out, ← HVV.out]; rfl, by rw [HV.out]; exact hc', by rw [HV.out]; exact HOF.out⟩, HI.out.2.2⟩
    · have HSD : Hid (std (rbN ps) N t = false) := Lib.hid (by simpa using hst)
      have HV := Lib.hid (frmN_no (alone := alone) (show stdN ps (t : Int) = false by rw [stdN_yes h HN.out]; exact HSD.out))
      clear h hok hlt hst
      go_enter Tryd.func58, Tryd.ntmps58
      go_wp2_with fail
      refine (l3State_any s ((t : Nat) : Int) _ hs).mono ?_
      rintro e w1 ⟨⟨A, k0, c, rfl, himp⟩, hB1⟩
      rw [← HPS.out] at himp ⊢
      obtain ⟨rfl, hc, hO⟩ := himp HST.out
      rw [HST.out]
      have HR := Lib.hid hO.rd
      have hz1 := hB1.size
      clear hO himp
      go_wp2_with fail
      refine (l5Steady_any _ _ _ N _ _ HR HOK HN htN).mono ?_
      rintro e w2 ⟨rfl, hB2⟩
      rw [HSD.out]
      go_wp2
      go_ret
      exact ⟨⟨_, 0, by rw [HV.out]; rfl, by rw [HV.out]; exact Nat.le_refl _, by rw [HV.out]; exact Own.nil _ _ _⟩, hBe.trans ((hB1.mono (by omega)).trans (hB2.mono (by omega)))⟩
  · have HST : Hid (okSt ps t = false) := Lib.hid (by simpa using h)
    have HV := Lib.hid (frmN_no (alone := alone) (show stdN ps t = false from stdN_no HST.out))
    clear h
    go_enter Tryd.func58, Tryd.ntmps58
    go_wp2_with fail
    refine (l3State_any s t _ hs).mono ?_
    rintro e w1 ⟨⟨A, k0, c, rfl, himp⟩, hB1⟩
    clear himp
    rw [← HPS.out, HST.out]
    go_wp2
    go_ret
    exact ⟨⟨_, 0, by rw [HV.out]; rfl, by rw [HV.out]; exact Nat.le_refl _, by rw [HV.out]; exact Own.nil _ _ _⟩, hBe.trans (hB1.mono (by omega))⟩

theorem sMayReach_any (s : ByteArray) (t : Int) (w : World) (hs : s.size ≤ 1073741824) :
    Calls Tryd.prog 15 #[.string s, .int .i64 t] w fun e w' => RetI w.heap.size (mayN (cutL s.data.toList) t) e w' ∧ Below w.heap.size w w' := by
  go_enter Tryd.func15, Tryd.ntmps15
  go_wp2_with fail
  refine (l5From_any s t false _ hs).mono ?_
  rintro e w1 ⟨⟨A, c, rfl, hc, hO⟩, hB1⟩
  go_wp2
  go_ret
  exact ⟨⟨A, c, rfl, hc, hO⟩, hB1⟩

theorem sMustReach_any (s : ByteArray) (t : Int) (w : World) (hs : s.size ≤ 1073741824) :
    Calls Tryd.prog 27 #[.string s, .int .i64 t] w fun e w' => RetI w.heap.size (mstN (cutL s.data.toList) t) e w' ∧ Below w.heap.size w w' := by
  go_enter Tryd.func27, Tryd.ntmps27
  go_wp2_with fail
  refine (l5From_any s t true _ hs).mono ?_
  rintro e w1 ⟨⟨A, c, rfl, hc, hO⟩, hB1⟩
  go_wp2
  go_ret
  exact ⟨⟨A, c, rfl, hc, hO⟩, hB1⟩

set_option maxHeartbeats 400000 in
theorem MayReach1_any (A : Option Addr) (c p5 p3 k t N : Nat) (ps : List (List UInt8)) (w : World) (h5 : w.cell? ⟨p5, 0, none⟩ = some (.slice A ps.length c)) (h3 : w.cell? ⟨p3, 0, none⟩ = some (.int .i64 (t : Int)))
    (hx : Hid (Rd w A (netL ps))) (hok : Hid (okN ps = true)) (HN : Hid (N = 2 ^ ps.length)) (hk : k < N) :
    Calls Tryd.prog 61 #[.int .i64 (k : Int), .pointer (some ⟨p5, 0, none⟩), .pointer (some ⟨p3, 0, none⟩)] w fun e w' => e = .returned (.bool (rbN ps k t)) ∧ Below w.heap.size w w' := by
  have hl3 : p3 < w.heap.size := World.block_lt_of_cell? w _ h3
  have hl5 : p5 < w.heap.size := World.block_lt_of_cell? w _ h5
  have HC : Hid (Calls Tryd.prog 62 #[.slice A ps.length c, .int .i64 (k : Int)] w.drew fun e w' => RetSet w.drew.heap.size N (rbN ps k) e w' ∧ Below w.drew.heap.size w.drew w') := Lib.hid (reach_any A c k N ps w.drew (show Hid (Rd w.drew A (netL ps)) from hx) hok HN hk)
  go_enter Tryd.func61, Tryd.ntmps61
  go_wp2_with fail
  go_region_held3 (fun w' => w'.cell? ⟨p3, 0, none⟩ = some (.int .i64 (t : Int)) ∧ w'.cell? ⟨p5, 0, none⟩ = some (.slice A ps.length c)) (go_keep)
    (first | (go_at_call 62; refine HC.out.mono ?_; rintro e w' ⟨⟨b, met, rfl, hb, hS, hml, hM⟩, hB'⟩; have h3' := (World.cell?_of_block (w := w.drew) (hB'.block _ hl3)).trans h3; have h5' := (World.cell?_of_block (w := w.drew) (hB'.block _ hl5)).trans h5; have hlk := set_look hS (t : Int); have e4 : decide ((t : Int) ∈ ints met) = rbN ps k t := (by rw [← hM t, Bool.eq_iff_iff, decide_eq_true_iff, decide_eq_true_iff, mem_ints]); rw [e4] at hlk))
  all_goals
    go_wp2
    go_ret
    exact ⟨rfl, ⟨hB'.os, hB'.tape, hB'.output, hB'.size, hB'.block⟩⟩

theorem closed_MayReach : ∀ (args : Array Value) (W : World), (callFunc 61 args).run Tryd.prog W = .ok (.enter 61 args) W := fun _ _ => by kernel_rfl
set_option maxHeartbeats 400000 in
theorem MayReach_any (s : ByteArray) (t : Int) (w : World) (hm : Hid (HasM w)) (hs : s.size ≤ 1073741824) :
    Calls Tryd.prog 16 #[.string s, .int .i64 t] w fun e w' => RetI w.heap.size (mayN (cutL s.data.toList) t) e w' ∧ Below w.heap.size w w' := by
  obtain ⟨ps, HPS⟩ : ∃ ps, Hid (ps = cutL s.data.toList) := ⟨_, rfl⟩
  rw [← HPS.out]
  have hBe : Below w.heap.size w (w.alloc (.cells #[.int .i64 t] 3)) := (Below.refl _ _).alloc (Nat.le_refl _) _
  have HM := Lib.hid (hm.out.below hBe)
  have hbx : Blk (w.alloc (.cells #[.int .i64 t] 3)) w.heap.size 3 #[.int .i64 t] := Blk.new _ _ _
  have hze : (w.alloc (.cells #[.int .i64 t] 3)).heap.size = w.heap.size + 1 := alloc_size _ _
  by_cases h : stdN ps t = true
  · obtain ⟨hok, t, rfl, hlt⟩ := okSt_true (stdN_ok h)
    have hn5 := okN_le hok
    obtain ⟨N, HN, hN, hN32, hN0⟩ := wrap_two ps.length hn5
    have HOK := Lib.hid hok
    have HSD := Lib.hid h
    have HV := Lib.hid (mayN_yes h HN.out)
    clear h hok hlt
    go_enter Tryd.func16, Tryd.ntmps16
    go_wp2_with fail
    refine (IsSteady_any s _ _ HM hs).mono ?_
    rintro e w0 ⟨rfl, hB0⟩
    rw [← HPS.out, HSD.out]
    have hz0 := hB0.size
    have HBX := Lib.hid (hbx.keep hB0)
    have HB0 := Lib.hid (hBe.trans (hB0.mono (show w.heap.size ≤ _ by omega)))
    go_wp2_with fail
    refine (readNetwork_any s _ (Lib.hid (HM.out.below hB0)) hs).mono ?_
    rintro e w1 ⟨⟨A, k0, c, rfl, himp⟩, hB1⟩
    rw [← HPS.out] at himp ⊢
    obtain ⟨rfl, hc, hO⟩ := himp HOK.out
    rw [HOK.out]
    have hz1 := hB1.size
    have HR := Lib.hid hO.rd
    have h3 : w1.cell? ⟨w.heap.size, 0, none⟩ = some (.int .i64 (t : Int)) := ((HBX.out.keep hB1).cell 0).trans rfl
    have hBw1 : Below w.heap.size w w1 := HB0.out.trans (hB1.mono (by omega))
    clear hO himp hB1 hB0 hbx hBe
    have HX := Lib.hid (Blk.new w1 58 #[.slice A ps.length c])
    have hBn : Below w1.heap.size w1 (w1.alloc (.cells #[.slice A ps.length c] 58)) := (Below.refl _ _).alloc (Nat.le_refl _) _
    have HC : Hid (CloB (w1.alloc (.cells #[.slice A ps.length c] 58)) N 61 #[.pointer (some ⟨w1.heap.size, 0, none⟩), .pointer (some ⟨w.heap.size, 0, none⟩)] (fun k => rbN ps k t)) := Lib.hid (fun k wX hk hBX =>
      MayReach1_any A c _ _ k t N ps wX (((HX.out.keep hBX).cell 0).trans rfl) ((World.cell?_of_block (w := w1) ((hBX.block _ (by show w.heap.size < _; rw [alloc_size]; omega)).trans (hBn.block _ (by show w.heap.size < _; omega)))).trans h3) (Lib.hid (HR.out.below (hBn.trans (hBX.mono (by rw [alloc_size]; omega))))) HOK HN hk)
    go_wp2_with fail
    refine (which_any _ _ _ N _ _ _ _ hn5 HN closed_MayReach HC).mono ?_
    rintro e w2 ⟨⟨A2, c2, rfl, hc2, hO2⟩, hB2⟩
    go_wp2
    go_ret
    exact ⟨⟨A2, c2, by rw [HV.out]; rfl, by rw [HV.out]; exact hc2, by rw [HV.out]; exact hO2.mono (by rw [alloc_size]; omega)⟩, hBw1.trans ((hBn.trans (hB2.mono (by rw [alloc_size]; omega))).mono (by omega))⟩
  · have HSD : Hid (stdN ps t = false) := Lib.hid (by simpa using h)
    have HV := Lib.hid (mayN_no HSD.out)
    clear h
    go_enter Tryd.func16, Tryd.ntmps16
    go_wp2_with fail
    refine (IsSteady_any s _ _ HM hs).mono ?_
    rintro e w0 ⟨rfl, hB0⟩
    rw [← HPS.out, HSD.out]
    go_wp2
    go_ret
    exact ⟨⟨none, 0, by rw [HV.out]; rfl, by rw [HV.out]; exact Nat.le_refl _, by rw [HV.out]; exact Own.nil _ _ _⟩, hBe.trans (hB0.mono (by omega))⟩

theorem all_take {p : Nat → Bool} {l : List Nat} {i a : Nat} (h : l[i]? = some a) : ((l.take i).all p = true) → (p a = true) → (l.take (i + 1)).all p = true := by
  intro h1 h2
  rw [List.take_add_one, h, List.all_append, h1]
  simp [h2]
theorem all_false {p : Nat → Bool} {l : List Nat} {i a : Nat} (h : l[i]? = some a) (h2 : p a = false) : l.all p = false := by
  rw [List.all_eq_false]
  exact ⟨a, List.mem_of_getElem? h, by simp [h2]⟩
theorem sel_contains {rb : Nat → Nat → Bool} {N a t : Nat} (ht : t < N) : (ints (sel N (rb a))).contains (t : Int) = rb a t := by
  rw [Bool.eq_iff_iff, List.contains_iff_mem, mem_ints, mem_sel]
  exact ⟨fun h => h.2, fun h => ⟨ht, h⟩⟩
set_option maxHeartbeats 1000000 in
theorem MustReach1_any (A : Option Addr) (c p5 p3 k t N : Nat) (ps : List (List UInt8)) (w : World) (h5 : w.cell? ⟨p5, 0, none⟩ = some (.slice A ps.length c)) (h3 : w.cell? ⟨p3, 0, none⟩ = some (.int .i64 (t : Int)))
    (hx : Hid (Rd w A (netL ps))) (hok : Hid (okN ps = true)) (HN : Hid (N = 2 ^ ps.length)) (hk : k < N) (ht : t < N) :
    Calls Tryd.prog 70 #[.int .i64 (k : Int), .pointer (some ⟨p5, 0, none⟩), .pointer (some ⟨p3, 0, none⟩)] w fun e w' => e = .returned (.bool ((atts (rbN ps) N N).all fun a => rbN ps k a == rbN ps a t)) ∧ Below w.heap.size w w' := by
  have hl3 : p3 < w.heap.size := World.block_lt_of_cell? w _ h3
  have hl5 : p5 < w.heap.size := World.block_lt_of_cell? w _ h5
  have hN32 : N ≤ 32 := by rw [HN.out]; exact two_le _ (okN_le hok.out)
  have HRB := Lib.hid (rbN_rb hok.out HN.out)
  obtain ⟨M, HM⟩ : ∃ M, Hid (M = (atts (rbN ps) N N).length) := ⟨_, rfl⟩
  have hM32 : M ≤ 32 := by rw [HM.out]; exact Nat.le_trans (atts_le _ _ _) hN32
  have HME : Hid ((attTo (rbN ps) N N).length = M) := Lib.hid (by rw [HM.out, attTo_atts])
  obtain ⟨P, HP⟩ : ∃ P : Nat → Bool, Hid (P = fun a => rbN ps k a == rbN ps a t) := ⟨_, rfl⟩
  rw [← HP.out]
  go_enter Tryd.func70, Tryd.ntmps70
  go_wp2_with fail
  refine (reach_any A c k N ps w hx hok HN hk).mono ?_
  rintro e w1 ⟨⟨b, met, rfl, hb, hS, hml, hMb⟩, hB1⟩
  have hz1 := hB1.size
  have HMB := Lib.hid hMb
  have h31 := (World.cell?_of_block (w := w) (a := ⟨p3, 0, none⟩) (hB1.block _ hl3)).trans h3
  have h51 := (World.cell?_of_block (w := w) (a := ⟨p5, 0, none⟩) (hB1.block _ hl5)).trans h5
  go_wp2_with fail
  refine (attractors_any A c N ps w1 (Lib.hid (hx.out.below hB1)) hok HN).mono ?_
  rintro e w2 ⟨⟨A2, c2, gs, ys, rfl, hc2, hO2, hL2⟩, hB2⟩
  rw [HME.out] at hc2 hL2 ⊢
  have HO2 := Lib.hid (And.intro hO2 hL2)
  have HS2 := Lib.hid (hS.below hB2)
  have h32 := (World.cell?_of_block (w := w1) (a := ⟨p3, 0, none⟩) (hB2.block _ (by show p3 < _; omega))).trans h31
  have HB2 := Lib.hid (hB1.trans (hB2.mono hz1))
  clear hS hml hMb hO2 hL2 hB1 hB2 h31 h51 h3 h5
  go_wp2_with fail
  go_loopw [14] (fun q wr => ∃ i n : Nat, i ≤ M ∧ q = .int .i64 i ∧ Hid (((atts (rbN ps) N N).take i).all P = true) ∧ wr = w2.drewN n) (fun q _ => M - (intOf q).toNat)
  case atStart => exact ⟨0, 0, Nat.zero_le _, rfl, Lib.hid rfl, rfl⟩
  case round =>
    obtain ⟨i, n, hi, rfl, HAL, rfl⟩ := hrel
    by_cases hlt : i < M
    · obtain ⟨a, HA⟩ : ∃ a, Hid ((atts (rbN ps) N N)[i]? = some a) := ⟨_, List.getElem?_eq_getElem (by rw [← HM.out]; exact hlt)⟩
      obtain ⟨g0, o0, g, off, ca, rfl, hg0, hg1, hcl, hla, hl0, hce, hOa⟩ := att_cells (v := .slice A2 M c2) (c := c2) HRB.out HO2.out.1 HO2.out.2 HA.out
      obtain ⟨haN, _⟩ := attTo_get HRB.out HA.out
      have hn32 : (ints (sel N (rbN ps a))).length ≤ 32 := by rw [ints_length]; have := sel_len N (rbN ps a); omega
      have HCT : Hid (∀ n, Calls Tryd.prog 71 #[.slice (some ⟨g, off, none⟩) (ints (sel N (rbN ps a))).length ca, .int .i64 (t : Int)] (w2.drewN n) fun e w' => e = .returned (.bool (rbN ps a t)) ∧ w2.drewN n = w') := Lib.hid (fun n => by
        refine (Tryd.slices_Contains_int g off _ ca (ints (sel N (rbN ps a))) (t : Int) (w2.drewN n) (Nat.le_refl _) (by omega) (fun j hj => ?_)).mono ?_
        · show w2.cell? _ = _
          refine (hOa.cell (k := j) ?_).1
          rw [List.getElem?_map, List.getD_eq_getElem?_getD, List.getElem?_eq_getElem hj]; rfl
        · rintro e w' ⟨rfl, rfl⟩
          exact ⟨by rw [List.take_length, sel_contains ht], rfl⟩)
      obtain ⟨n1, HN1⟩ : ∃ n, Hid (n = (ints (sel N (rbN ps a))).length) := ⟨_, rfl⟩
      rw [← HN1.out] at hcl hla hl0 hn32 HCT
      have hmem : decide ((a : Int) ∈ ints met) = rbN ps k a := by rw [← HMB.out a, Bool.eq_iff_iff, decide_eq_true_iff, decide_eq_true_iff, mem_ints]
      have hlk : ∀ m, (Instr.lookup 62 (.map (some b)) (.int .i64 (a : Int)) false).run Tryd.prog (w2.drewN m) = .ok (.bool (rbN ps k a)) (w2.drewN m) := fun m => by
        rw [← hmem]
        exact set_look (w := w2.drewN m) HS2.out (a : Int)
      have HPA : Hid (P a = (rbN ps k a == rbN ps a t)) := Lib.hid (by rw [HP.out])
      clear hmem hOa
      cases hp1 : rbN ps k a <;> cases hp2 : rbN ps a t
      all_goals
        rw [hp1] at hlk
        rw [hp1, hp2] at HPA
        rw [hp2] at HCT
        clear hp1 hp2
        go_wp2_with fail
        go_quiet (first | (go_at_call 71; first | exact quiet_left (HCT.out _) | exact quiet_add_left (HCT.out _)))
        go_wp2_with fail
        first
        | (go_roundw
           case rel => exact ⟨i + 1, _, by omega, by go_num, Lib.hid (all_take HA.out HAL.out (by rw [HPA.out]; rfl)), rfl⟩
           case measure => simp [intOf]; omega)
        | (go_ret
           exact ⟨by rw [all_false HA.out (by rw [HPA.out]; rfl)]; rfl, HB2.out.trans ((drewN_below _ _).trans (drewN_below _ _))⟩)
    · have hie : i = M := by omega
      have HTE : Hid ((atts (rbN ps) N N).all P = true) := Lib.hid (by
        have := HAL.out
        rw [List.take_of_length_le (by rw [hie, HM.out]; exact Nat.le_refl _)] at this
        exact this)
      go_wp2
      go_ret
      exact ⟨by rw [HTE.out]; rfl, HB2.out.trans (drewN_below _ _)⟩

theorem closed_MustReach : ∀ (args : Array Value) (W : World), (callFunc 70 args).run Tryd.prog W = .ok (.enter 70 args) W := fun _ _ => by kernel_rfl
set_option maxHeartbeats 400000 in
theorem MustReach_any (s : ByteArray) (t : Int) (w : World) (hm : Hid (HasM w)) (hs : s.size ≤ 1073741824) :
    Calls Tryd.prog 28 #[.string s, .int .i64 t] w fun e w' => RetI w.heap.size (mstN (cutL s.data.toList) t) e w' ∧ Below w.heap.size w w' := by
  obtain ⟨ps, HPS⟩ : ∃ ps, Hid (ps = cutL s.data.toList) := ⟨_, rfl⟩
  rw [← HPS.out]
  have hBe : Below w.heap.size w (w.alloc (.cells #[.int .i64 t] 3)) := (Below.refl _ _).alloc (Nat.le_refl _) _
  have HM := Lib.hid (hm.out.below hBe)
  have hbx : Blk (w.alloc (.cells #[.int .i64 t] 3)) w.heap.size 3 #[.int .i64 t] := Blk.new _ _ _
  have hze : (w.alloc (.cells #[.int .i64 t] 3)).heap.size = w.heap.size + 1 := alloc_size _ _
  by_cases h : stdN ps t = true
  · obtain ⟨hok, t, rfl, hlt⟩ := okSt_true (stdN_ok h)
    have hn5 := okN_le hok
    obtain ⟨N, HN, hN, hN32, hN0⟩ := wrap_two ps.length hn5
    have HOK := Lib.hid hok
    have htN : t < N := by rw [HN.out]; exact hlt
    have HSD := Lib.hid h
    have HV := Lib.hid (mstN_yes h HN.out)
    clear h hok hlt
    go_enter Tryd.func28, Tryd.ntmps28
    go_wp2_with fail
    refine (IsSteady_any s _ _ HM hs).mono ?_
    rintro e w0 ⟨rfl, hB0⟩
    rw [← HPS.out, HSD.out]
    have hz0 := hB0.size
    have HBX := Lib.hid (hbx.keep hB0)
    have HB0 := Lib.hid (hBe.trans (hB0.mono (show w.heap.size ≤ _ by omega)))
    go_wp2_with fail
    refine (readNetwork_any s _ (Lib.hid (HM.out.below hB0)) hs).mono ?_
    rintro e w1 ⟨⟨A, k0, c, rfl, himp⟩, hB1⟩
    rw [← HPS.out] at himp ⊢
    obtain ⟨rfl, hc, hO⟩ := himp HOK.out
    rw [HOK.out]
    have hz1 := hB1.size
    have HR := Lib.hid hO.rd
    have h3 : w1.cell? ⟨w.heap.size, 0, none⟩ = some (.int .i64 (t : Int)) := ((HBX.out.keep hB1).cell 0).trans rfl
    have hBw1 : Below w.heap.size w w1 := HB0.out.trans (hB1.mono (by omega))
    clear hO himp hB1 hB0 hbx hBe
    have HX := Lib.hid (Blk.new w1 58 #[.slice A ps.length c])
    have hBn : Below w1.heap.size w1 (w1.alloc (.cells #[.slice A ps.length c] 58)) := (Below.refl _ _).alloc (Nat.le_refl _) _
    have HC : Hid (CloB (w1.alloc (.cells #[.slice A ps.length c] 58)) N 70 #[.pointer (some ⟨w1.heap.size, 0, none⟩), .pointer (some ⟨w.heap.size, 0, none⟩)] (fun k => (atts (rbN ps) N N).all fun a => rbN ps k a == rbN ps a t)) := Lib.hid (fun k wX hk hBX =>
      MustReach1_any A c _ _ k t N ps wX (((HX.out.keep hBX).cell 0).trans rfl) ((World.cell?_of_block (w := w1) ((hBX.block _ (by show w.heap.size < _; rw [alloc_size]; omega)).trans (hBn.block _ (by show w.heap.size < _; omega)))).trans h3) (Lib.hid (HR.out.below (hBn.trans (hBX.mono (by rw [alloc_size]; omega))))) HOK HN hk htN)
    go_wp2_with fail
    refine (which_any _ _ _ N _ _ _ _ hn5 HN closed_MustReach HC).mono ?_
    rintro e w2 ⟨⟨A2, c2, rfl, hc2, hO2⟩, hB2⟩
    go_wp2
    go_ret
    exact ⟨⟨A2, c2, by rw [HV.out]; rfl, by rw [HV.out]; exact hc2, by rw [HV.out]; exact hO2.mono (by rw [alloc_size]; omega)⟩, hBw1.trans ((hBn.trans (hB2.mono (by rw [alloc_size]; omega))).mono (by omega))⟩
  · have HSD : Hid (stdN ps t = false) := Lib.hid (by simpa using h)
    have HV := Lib.hid (mstN_no HSD.out)
    clear h
    go_enter Tryd.func28, Tryd.ntmps28
    go_wp2_with fail
    refine (IsSteady_any s _ _ HM hs).mono ?_
    rintro e w0 ⟨rfl, hB0⟩
    rw [← HPS.out, HSD.out]
    go_wp2
    go_ret
    exact ⟨⟨none, 0, by rw [HV.out]; rfl, by rw [HV.out]; exact Nat.le_refl _, by rw [HV.out]; exact Own.nil _ _ _⟩, hBe.trans (hB0.mono (by omega))⟩

end Go.Proofs.YtpehimjngofnkaaDoor
