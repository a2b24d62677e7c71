/- Walks of the functions on orbits. -/
import Derived.Test.YtjinmoeabkpmaaaDoorProg
import Derived.WalkKit
import Derived.WalkSpells
import Derived.WalkLawsBesides
import Derived.Lib.Hide
import Derived.Deep.QuietTactic
import Derived.BigQuiet
import Derived.Test.YtjinmoeabkpmaaaDoorWy
import Derived.Test.YtjinmoeabkpmaaaDoorMo
namespace Go.Proofs.YtjinmoeabkpmaaaDoor
open Go.RowKit
set_option linter.unusedVariables false

def lenV : Value → Nat
  | .slice _ n _ => n
  | _ => 0
theorem OI.lenV {w : World} {B : Nat} {e : TypeId} {v : Value} {xs : List Int} (h : OI w B e v xs) : lenV v = xs.length := by
  obtain ⟨A, c, rfl, _⟩ := h.form
  rfl

/-- the states after each state -/
def stpTo (ps : List (List UInt8)) (k : Nat) : List Nat := (List.range k).map (stp ps)
theorem stpTo_len (ps : List (List UInt8)) (k : Nat) : (stpTo ps k).length = k := by simp [stpTo]
theorem stpTo_succ (ps : List (List UInt8)) (k : Nat) : ints (stpTo ps (k + 1)) = ints (stpTo ps k) ++ [(stp ps k : Int)] := by simp [stpTo, ints, List.range_succ]
theorem stpTo_get {ps : List (List UInt8)} {k j : Nat} (h : j < k) : ((ints (stpTo ps k)).map (Value.int .i64))[j]? = some (.int .i64 (stp ps j : Int)) := by
  simp [stpTo, ints, h]
theorem l4Next_any (A : Option Addr) (c N : Nat) (ps : List (List UInt8)) (w : World) (hx : Hid (Rd w A (strs ps))) (hok : Hid (okN ps = true)) (HN : Hid (N = 2 ^ ps.length)) :
    Calls Tryd.prog 73 #[.slice A ps.length c] w fun e w' => RetI w.heap.size (ints (stpTo ps N)) e w' ∧ Below w.heap.size w w' := by
  have hn5 := okN_le hok.out
  have hN32 : N ≤ 32 := by rw [HN.out]; exact two_le _ hn5
  go_enter Tryd.func73, Tryd.ntmps73
  go_wp2
  go_loopw [3, 4] (fun v q wr => ∃ k : Nat, k ≤ N ∧ q = .int .i64 k ∧ Hid (OI wr w.heap.size 3 v (ints (stpTo ps k))) ∧ Below w.heap.size w wr) (fun _ q _ => N - (intOf q).toNat)
  case atStart => exact ⟨0, Nat.zero_le _, rfl, Lib.hid (OI.empty _ _ _ (Nat.le_refl _)), (Below.refl _ _).alloc (Nat.le_refl _) _⟩
  case round =>
    obtain ⟨k, hk, rfl, HO, hB⟩ := hrel
    have hsz := hB.size
    have HR := Lib.hid (hx.out.below hB)
    have hlen : (ints (stpTo ps k)).length ≤ k := by rw [ints_length, stpTo_len]; exact Nat.le_refl _
    by_cases hlt : k < N
    · have HS : Hid (k < 2 ^ ps.length) := Lib.hid (by rw [← HN.out]; exact hlt)
      have hW : ((N : Int) - 1) = ((N - 1 : Nat) : Int) := by omega
      have HST : Hid (stW (nb ps k) k (N - 1) ps.length = stp ps k) := Lib.hid (by rw [HN.out]; exact stp_of hok.out HS.out)
      go_wp2_with (first
        | (go_at_call 94; refine (l3All_any _ _ _ N _ hn5 HN).mono ?_; rintro e w2 ⟨rfl, rfl⟩; try rw [hW])
        | (go_at_call 93; refine (l3Step_any _ _ _ _ (N - 1) _ HR hok HS (by omega)).mono ?_; rintro e w2 ⟨rfl, rfl⟩; rw [HST.out])
        | (at_builtin; refine wp_pushI rfl _ _ _ rfl Tryd.underlying31 info_int HO.out rfl rfl (by omega) hsz ?_; intro v' w3 hown hbel hsz3))
      go_roundw
      case rel => exact ⟨k + 1, by omega, by go_num, Lib.hid (by rw [stpTo_succ]; exact hown), hB.trans (hbel _ (Nat.le_refl _))⟩
      case measure => simp [intOf]; omega
    · have hkn : k = N := by omega
      subst hkn
      obtain ⟨A', c', hv, hc, hO⟩ := HO.out.form
      have HV := Lib.hid hv
      clear hv
      go_wp2_with (go_at_call 94; refine (l3All_any _ _ _ k _ hn5 HN).mono ?_; rintro e w2 ⟨rfl, rfl⟩)
      go_ret
      exact ⟨⟨A', c', by rw [← HV.out]; rfl, hc, hO⟩, hB⟩

/-- it returns a list of states and a place -/
def RetOrb (B : Nat) (o : List Nat × Nat) (e : Ending) (w' : World) : Prop :=
  ∃ A c, e = .returned (.tuple #[.slice A (ints o.1).length c, .int .i64 (o.2 : Int)]) ∧ (ints o.1).length ≤ c ∧ Own w' B A ((ints o.1).map (Value.int .i64))
set_option maxHeartbeats 400000 in
theorem l4Orbit_any (A : Option Addr) (c n N s : Nat) (ps : List (List UInt8)) (w : World) (hx : Hid (Rd w A ((ints (stpTo ps N)).map (Value.int .i64)))) (hok : Hid (okN ps = true)) (HN : Hid (N = 2 ^ ps.length)) (hs : s < N) (hn : n = N) :
    Calls Tryd.prog 88 #[.slice A n c, .int .i64 (s : Int)] w fun e w' => RetOrb w.heap.size (orb (stp ps) s) e w' ∧ Below w.heap.size w w' := by
  subst hn
  have hN32 : n ≤ 32 := by rw [HN.out]; exact two_le _ (okN_le hok.out)
  have HF : Hid (∀ x, x < n → stp ps x < n) := Lib.hid (fun x _ => by rw [HN.out]; exact stp_lt hok.out x)
  go_enter Tryd.func88, Tryd.ntmps88
  go_wp2
  go_loopw [1, 6] (fun q v wr => ∃ (t : Nat) (done : List Nat), q = .int .i64 t ∧ Hid (OrbI (stp ps) n s done t) ∧ Hid (OI wr w.heap.size 3 v (ints done)) ∧ Below w.heap.size w wr) (fun _ v _ => 33 - lenV v)
  case atStart => exact ⟨s, [], rfl, Lib.hid (OrbI.start _ hs), Lib.hid (OI.empty _ _ _ (Nat.le_refl _)), (Below.refl _ _).alloc (Nat.le_refl _) _⟩
  case round =>
    obtain ⟨t, done, rfl, HI, HO, hB⟩ := hrel
    have hsz := hB.size
    have ht := HI.out.t
    have hdl := HI.out.len
    have hil : (ints done).length = done.length := ints_length _
    obtain ⟨A1, c1, rfl, hc1, hO1⟩ := HO.out.form
    have HR := Lib.hid hO1.rd
    have HW := Lib.hid hO1
    clear hO1
    go_wp2
    go_loopw [7] (fun q wq => ∃ j : Nat, j ≤ done.length ∧ q = .int .i64 j ∧ Hid (∀ m, (hm : m < j) → (hl : m < done.length) → ¬ done[m] = t) ∧ wq = wr) (fun q _ => done.length - (intOf q).toNat)
    case atStart => exact ⟨0, Nat.zero_le _, rfl, Lib.hid (fun m hm => by omega), rfl⟩
    case round =>
      obtain ⟨j, hj, rfl, HJ, rfl⟩ := hrel
      by_cases hlt : j < done.length
      · obtain ⟨g, off, hA, hcell⟩ := HR.out.at_ (ints_at hlt)
        subst hA
        by_cases he : done[j] = t
        · have hd : ((done[j] : Int) == (t : Int)) = true := by rw [he]; exact beq_self_eq_true _
          have HX : Hid (orb (stp ps) s = (done, j)) := Lib.hid (by
            have h := idxOf_first hlt he (fun m hm => HJ.out m hm (by omega))
            rw [HI.out.fin hN32 h.1, h.2])
          clear he
          go_wp2_with fail
          go_ret2
          exact ⟨⟨_, c1, by rw [HX.out]; rfl, by rw [HX.out]; exact hc1, by rw [HX.out]; exact HW.out⟩, hB⟩
        · have hd : ((done[j] : Int) == (t : Int)) = false := by simp; omega
          have HJ2 : Hid (∀ m, (hm : m < j + 1) → (hl : m < done.length) → ¬ done[m] = t) := Lib.hid (fun m hm hl => by
            by_cases e : m = j
            · subst e; exact he
            · exact HJ.out m (by omega) hl)
          clear he
          go_wp2_with fail
          go_roundw
          case rel => exact ⟨j + 1, by omega, by go_num, HJ2, trivial⟩
          case measure => simp [intOf]; omega
      · have HNM : Hid (t ∉ done) := Lib.hid (not_mem_all (fun m hm => HJ.out m (by omega) hm))
        have HI2 := Lib.hid (HI.out.more hN32 HF.out HNM.out)
        have hroom := HI.out.room HNM.out
        obtain ⟨g, off, hA, hcell0⟩ := hx.out.at_ (stpTo_get ht)
        subst hA
        go_wp2_with (at_builtin; refine wp_pushI rfl _ _ _ rfl Tryd.underlying31 info_int HO.out rfl rfl (by omega) hsz ?_; intro v' w3 hown hbel hsz3; have hcell3 := (World.cell?_of_block (w := w) ((hB.trans (hbel _ (Nat.le_refl _))).block _ (World.block_lt_of_cell? w _ hcell0))).trans hcell0)
        go_roundw
        case rel => exact ⟨_, done ++ [t], rfl, HI2, Lib.hid (by rw [ints_append]; exact hown), hB.trans (hbel _ (Nat.le_refl _))⟩
        case measure => rw [hown.lenV]; simp [lenV]; omega

theorem clipD_any (A : Option Addr) (n c : Nat) (w : World) (h : n ≤ c) (hm : n ≤ 9223372036854775807) :
    Calls Tryd.prog 127 #[.slice A n c] w fun e w' => e = .returned (.slice A n n) ∧ w = w' := by
  go_enter Tryd.func127, Tryd.ntmps127
  go_wp2
  go_ret
  exact ⟨rfl, rfl⟩

theorem mark_alloc (W : World) : (Instr.alloc 98 true (.tuple #[])).run Tryd.prog W = .ok (.pointer (some ⟨W.heap.size, 0, none⟩)) (W.alloc (.cells (markL []).toArray 98)) := by kernel_rfl
set_option maxHeartbeats 400000 in
theorem orbit_any (A : Option Addr) (c s N : Nat) (ps : List (List UInt8)) (w : World) (hx : Hid (Rd w A (netL ps))) (hok : Hid (okN ps = true)) (HN : Hid (N = 2 ^ ps.length)) (hs : s < N) :
    Calls Tryd.prog 86 #[.slice A ps.length c, .int .i64 (s : Int)] w fun e w' => RetOrb w.heap.size (orb (stp ps) s) e w' ∧ Below w.heap.size w w' := by
  have hN32 : N ≤ 32 := by rw [HN.out]; exact two_le _ (okN_le hok.out)
  have HF : Hid (∀ x, x < N → stp ps x < N) := Lib.hid (fun x _ => by rw [HN.out]; exact stp_lt hok.out x)
  go_enter Tryd.func86, Tryd.ntmps86
  go_wp2_with ((with_reducible refine wpStop (o := ⟨some 6, _, _, _, _, _⟩) ?_); refine ⟨?_⟩; refine wpList_alloc_blk rfl _ rfl _ (mark_alloc _) ?_; intro g w1 hg hb0 hB1)
  have hgl := hb0.lt
  have hBw := hB1 _ (Nat.le_refl _)
  have HB0 := Lib.hid hb0
  clear hb0 hB1
  go_loopw [1, 7] (fun q v wr => ∃ (t : Nat) (done : List Nat), q = .int .i64 t ∧ Hid (OrbI (stp ps) N s done t) ∧ Hid (OI wr w1.heap.size 3 v (ints done)) ∧ Hid (Blk wr g 98 (markL done).toArray) ∧ Below w.heap.size w wr ∧ w1.heap.size ≤ wr.heap.size) (fun _ v _ => 33 - lenV v)
  case atStart => exact ⟨s, [], rfl, Lib.hid (OrbI.start _ hs), Lib.hid (OI.nil _ _ _), HB0, hBw, Nat.le_refl _⟩
  case round =>
    obtain ⟨t, done, rfl, HI, HO, HK, hB, hsz⟩ := hrel
    have hBz := hB.size
    have ht := HI.out.t
    have ht32 : t < 32 := by omega
    have hdl := HI.out.len
    have hil : (ints done).length = done.length := ints_length _
    obtain ⟨A1, c1, rfl, hc1, hO1⟩ := HO.out.form
    have HW := Lib.hid hO1
    clear hO1
    have hcell : wr.cell? ⟨g, t, none⟩ = some (.int .i64 (mark done t : Int)) := by rw [HK.out.cell, List.getElem?_toArray, markL_get _ _ ht32]
    by_cases hm : t ∈ done
    · have HX := Lib.hid (HI.out.fin hN32 hm)
      have hmk := mark_yes hm
      have hix : Hid (((mark done t : Nat) : Int) - 1 = (done.idxOf t : Int)) := Lib.hid (by rw [hmk]; omega)
      have hd : ((mark done t : Int) == 0) = false := by simp; omega
      have hmb : mark done t ≤ 33 := by
        have := List.idxOf_lt_length_iff.2 hm
        omega
      clear hmk hm
      go_wp2_with fail
      go_quiet ((go_at_call 127; exact quiet_left (clipD_any _ done.length _ _ (by omega) (by omega))))
      go_wp2_with fail
      go_ret2
      exact ⟨⟨A1, done.length, by rw [HX.out, ← hix.out, hil]; rfl, by rw [HX.out, hil]; exact Nat.le_refl _, by rw [HX.out]; exact HW.out.mono hBw.size⟩, below_drewN hB _⟩
    · have HI2 := Lib.hid (HI.out.more hN32 HF.out hm)
      have hroom := HI.out.room hm
      have hd : ((mark done t : Int) == 0) = true := by rw [mark_no hm]; rfl
      have HM := Lib.hid (markL_set hm)
      have HS : Hid (t < 2 ^ ps.length) := Lib.hid (by rw [← HN.out]; exact ht)
      clear hm
      go_wp2_with (first
        | (at_builtin; refine wp_pushI rfl _ _ _ rfl Tryd.underlying31 info_int HO.out rfl rfl (by omega) hsz ?_; intro v' w3 hown hbel hsz3; have hcell3 := (World.cell?_of_block (w := wr) ((hbel _ (Nat.le_refl _)).block _ hgl)).trans hcell; have hfz3 := (HK.out.below (hbel _ (Nat.le_refl _)) hgl).frozen t; obtain ⟨A2, c2, rfl, hc2, hO2⟩ := hown.form)
        | (go_at_call 91; refine (step_any _ _ _ _ _ (Lib.hid (hx.out.below ((hB.trans (hbel _ (by have := hBw.size; omega))).setCell (by show w.heap.size ≤ g; omega) _))) hok HS).mono ?_; rintro e w5 ⟨rfl, hB5⟩))
      have hz5 := hB5.size
      rw [setCell_size] at hz5
      go_roundw
      case rel => exact ⟨_, done ++ [t], rfl, HI2, Lib.hid (by
          have h := (hown.only hgl (only_setCell w3 g t (.int .i64 ((done.length : Int) + 1)))).below hB5
          rw [ints_append]
          simpa [ints] using h), Lib.hid (by
          have h := ((HK.out.below (hbel _ (Nat.le_refl _)) hgl).set_ t (.int .i64 ((done.length : Int) + 1))).keep hB5
          rw [HM.out] at h
          exact h), ((hB.trans (hbel _ (by have := hBw.size; omega))).setCell (by show w.heap.size ≤ g; omega) _).trans (hB5.mono (by rw [setCell_size]; omega)), by omega⟩
      case measure => simp [lenV]; omega

end Go.Proofs.YtjinmoeabkpmaaaDoor
