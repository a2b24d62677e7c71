/- Walks: PathTo on both sides. -/
import Derived.Test.YtpehimjngofnkaaDoorProg
import Derived.WalkKit
import Derived.WalkSpells
import Derived.WalkLawsBesides
import Derived.Lib.Hide
import Derived.Deep.QuietTactic
import Derived.Deep.LoopGhost
import Derived.Laws.OwnMore
import Derived.BigQuiet
import Derived.IntWalk
import Derived.Test.YtpehimjngofnkaaDoorQ6
import Derived.Test.YtpehimjngofnkaaDoorG4
import Derived.Test.YtpehimjngofnkaaDoorYw
namespace Go.Proofs.YtpehimjngofnkaaDoor
open Go.RowKit
set_option linter.unusedVariables false

/-- the way that is told -/
def pthN (ps : List (List UInt8)) (s t : Int) : List Int := if canN ps s t then ints (pth (nextN ps) t.toNat ((dst (nextN ps) t.toNat s.toNat).getD 0) s.toNat) else []
/-- what is known where t can be reached from s -/
theorem can_open {ps : List (List UInt8)} {s t : Int} (h : canN ps s t = true) : Hid (okN ps = true) ∧ ∃ N s' t' D : Nat, s = (s' : Int) ∧ t = (t' : Int) ∧ Hid (N = 2 ^ ps.length) ∧ N ≤ 32 ∧ s' < N ∧ t' < N ∧ Hid (dst (nextN ps) t' s' = some D) ∧ D ≤ N ∧ Hid (okSt ps (s' : Int) = true) ∧ Hid (pthN ps s t = ints (pth (nextN ps) t' D s')) := by
  have h0 := h
  rw [canN, Bool.and_eq_true, Bool.and_eq_true] at h
  obtain ⟨⟨h1, h2⟩, h3⟩ := h
  obtain ⟨hok, s', rfl, hs⟩ := okSt_true h1
  obtain ⟨N, HN⟩ : ∃ N : Nat, N = 2 ^ ps.length := ⟨_, rfl⟩
  obtain ⟨h4, h5⟩ := (inW_yes HN).1 h2
  obtain ⟨t', rfl⟩ : ∃ t' : Nat, t = (t' : Int) := ⟨t.toNat, by omega⟩
  have hN32 : N ≤ 32 := by rw [HN]; exact two_le _ (okN_le hok)
  have hsN : s' < N := by rw [HN]; exact hs
  have hr : rbN ps s' t' = true := h3
  have hw := wi_all (next_lt hok HN) hsN (k := 32) (t := t') hr
  cases hd : dst (nextN ps) t' s' with
  | none =>
    have := List.find?_eq_none.1 hd N (List.mem_range.2 (by omega))
    rw [hw] at this; simp at this
  | some D =>
    refine ⟨hok, N, s', t', D, rfl, rfl, HN, hN32, hsN, by omega, hd, ?_, h1, ?_⟩
    · by_cases hle : D ≤ N
      · exact hle
      · have := (dst_some hd).2.2 N (by omega)
        rw [hw] at this; cases this
    · rw [pthN, if_pos h0]
      show ints (pth (nextN ps) t' ((dst (nextN ps) t' s').getD 0) s') = _
      rw [hd]; rfl
theorem pthN_no {ps : List (List UInt8)} {s t : Int} (h : canN ps s t = false) : pthN ps s t = [] := by rw [pthN, h]; rfl
theorem pthN_len (ps : List (List UInt8)) (s t : Int) : (pthN ps s t).length ≤ 33 := by
  by_cases h : canN ps s t = true
  · obtain ⟨_, N, s', t', D, rfl, rfl, _, h32, _, _, _, hD, _, HP⟩ := can_open h
    rw [HP.out, ints_length, pth_len]; omega
  · rw [pthN_no (by simpa using h)]; simp
/-- a list and a truth were handed back -/
def RetIB (B : Nat) (L : List Int) (b : Bool) (e : Ending) (w' : World) : Prop :=
  ∃ A c, e = .returned (.tuple #[.slice A L.length c, .bool b]) ∧ L.length ≤ c ∧ Own w' B A (L.map (Value.int .i64))
theorem OI.lit1 (w : World) (B : Nat) (e : TypeId) (x : Int) (hB : B ≤ w.heap.size) : OI (w.alloc (.cells #[.int .i64 x] e)) B e (.slice (some ⟨w.heap.size, 0, none⟩) 1 1) [x] :=
  World.ownsRow_lit w #[.int .i64 x] 1 hB (by decide) rfl
theorem pth_take {nx : Nat → List Nat} {t D s i y : Nat} (h : (pth nx t D s)[i + 1]? = some y) : ints ((pth nx t D s).take (i + 2)) = ints ((pth nx t D s).take (i + 1)) ++ [(y : Int)] := by
  rw [List.take_add_one, h, ints_append]; rfl
theorem pth_take1 (nx : Nat → List Nat) (t D s : Nat) : ints ((pth nx t D s).take 1) = [(s : Int)] := by cases D <;> rfl
theorem dst_self {nx : Nat → List Nat} {t u : Nat} (d : Nat) (h : dst nx t u = some d) : (u = t → d = 0) ∧ (d = 0 → u = t) :=
  ⟨fun e => by have := (dst_zero (nx := nx)).2 e; rw [h] at this; injection this, fun e => by subst e; exact dst_zero.1 h⟩
theorem nxt_in {ps : List (List UInt8)} {N s t D : Nat} (hok : okN ps = true) (hN : N = 2 ^ ps.length) (hs : s < N) : ∀ (i x : Nat), (pth (nextN ps) t D s)[i]? = some x → dst (nextN ps) t s = some D → x < N := by
  intro i
  induction i with
  | zero => intro x hx _; rw [pth_head] at hx; injection hx with hx; omega
  | succ i ih =>
    intro x hx hd
    have hl := (List.getElem?_eq_some_iff.1 hx).1
    rw [pth_len] at hl
    obtain ⟨y, h1, h2, h3⟩ := pth_at D s hd i (by omega)
    have h4 := h3 (by omega)
    rw [hx] at h4
    injection h4 with h4
    have hyN := ih y h1 hd
    have h5 : dst (nextN ps) t y = some (D - i - 1 + 1) := by rw [h2]; congr 1; omega
    rw [h4]
    exact next_lt hok hN y hyN _ (nxt1_all h5).1

set_option maxHeartbeats 2000000 in
theorem sPathTo_any (s : ByteArray) (t u : Int) (w : World) (hs : s.size ≤ 1073741824) :
    Calls Tryd.prog 54 #[.string s, .int .i64 t, .int .i64 u] w fun e w' => RetIB w.heap.size (pthN (cutL s.data.toList) t u) (canN (cutL s.data.toList) t u) e w' ∧ Below w.heap.size w w' := by
  obtain ⟨ps, HPS⟩ : ∃ ps, Hid (ps = cutL s.data.toList) := ⟨_, rfl⟩
  rw [← HPS.out]
  by_cases h : canN ps t u = true
  · have HCN := Lib.hid h
    obtain ⟨HOK, N, s0, t0, D, rfl, rfl, HN, hN32, hsN, htN, HD, hDN, HST, HV⟩ := can_open h
    have hn5 := okN_le HOK.out
    have HNL := Lib.hid (next_lt HOK.out HN.out)
    clear h
    go_enter Tryd.func54, Tryd.ntmps54
    go_wp2_with fail
    refine (sCanReach_any s _ _ w hs).mono ?_
    rintro e w1 ⟨rfl, hB1⟩
    rw [← HPS.out, HCN.out]
    have hz1 := hB1.size
    go_wp2_with fail
    refine (l3Open_any s _ hs).mono ?_
    rintro e w2 ⟨⟨A, k0, c, rfl, himp⟩, hB2⟩
    rw [← HPS.out] at himp ⊢
    obtain ⟨rfl, hc, hO⟩ := himp HOK.out
    rw [HOK.out]
    have hz2 := hB2.size
    have HR := Lib.hid hO.rd
    clear hO himp
    go_wp2_with fail
    refine (l5Far_any _ _ t0 N ps _ HR HOK HN htN).mono ?_
    rintro e w3 ⟨rfl, hF, hB3⟩
    have hz3 := hB3.size
    have hfl := hF.lt
    have HF := Lib.hid hF
    have HR3 := Lib.hid (HR.out.below hB3)
    have hBw : Below w.heap.size w w3 := hB1.trans ((hB2.mono hz1).trans (hB3.mono (by omega)))
    clear hF hB1 hB2 hB3
    obtain ⟨gF, HGF⟩ : ∃ g, Hid (g = w2.heap.size) := ⟨_, rfl⟩
    rw [← HGF.out] at HF hfl ⊢
    have hLE := OI.lit1 w3 w3.heap.size 3 (s0 : Int) (Nat.le_refl _)
    have hBl : Below w3.heap.size w3 (w3.alloc (.cells #[.int .i64 (s0 : Int)] 3)) := (Below.refl _ _).alloc (Nat.le_refl _) _
    go_wp2_with fail
    go_loopg [11, 1] D (fun gk v q wr => ∃ i x : Nat, gk + i = D ∧ q = .int .i64 (x : Int) ∧ x < N ∧ Hid ((pth (nextN ps) t0 D s0)[i]? = some x ∧ dst (nextN ps) t0 x = some gk) ∧ Hid (OI wr w3.heap.size 3 v (ints ((pth (nextN ps) t0 D s0).take (i + 1)))) ∧ Below w3.heap.size w3 wr)
    case atStart => exact ⟨0, s0, by omega, rfl, hsN, Lib.hid ⟨pth_head _ _ _ _, HD.out⟩, Lib.hid (by rw [pth_take1]; exact hLE), hBl⟩
    case round =>
      clear hLE hBl
      obtain ⟨i, x, hgk, rfl, hxN, HX, HO, hB⟩ := hrel
      obtain ⟨w4, rfl⟩ : ∃ x, x = wr := ⟨_, rfl⟩
      have hsz := hB.size
      have HFr := Lib.hid (HF.out.below hB hfl)
      have hlen : (ints ((pth (nextN ps) t0 D s0).take (i + 1))).length ≤ 33 := by rw [ints_length, List.length_take, pth_len]; omega
      have hds := dst_self gk HX.out.2
      by_cases hg0 : gk = 0
      · have hxt : x = t0 := hds.2 hg0
        have hd : ((x : Int) != (t0 : Int)) = false := by rw [hxt]; exact bne_self_eq_false _
        have hiD : i = D := by omega
        subst hiD
        have HTE : Hid ((pth (nextN ps) t0 i s0).take (i + 1) = pth (nextN ps) t0 i s0) := Lib.hid (List.take_of_length_le (by rw [pth_len]; exact Nat.le_refl _))
        have hI := HO.out
        rw [HTE.out] at hI
        obtain ⟨A', c', hv, hc', hO'⟩ := hI.form
        have HVV := Lib.hid hv
        have HOF := Lib.hid (hO'.mono (show w.heap.size ≤ w3.heap.size by omega))
        clear hv hO' hI hg0 hxt hds
        go_wp2_with fail
        go_ret2
        exact ⟨⟨A', c', by rw [HV.out, HCN.out, ← HVV.out]; rfl, by rw [HV.out]; exact hc', by rw [HV.out]; exact HOF.out⟩, hBw.trans (hB.mono (by omega))⟩
      · obtain ⟨d, rfl⟩ : ∃ d, gk = d + 1 := ⟨gk - 1, by omega⟩
        have hxt : ¬ x = t0 := fun e => hg0 (hds.1 e)
        have hd : ((x : Int) != (t0 : Int)) = true := by simp; omega
        obtain ⟨k1, k2, j0, hj0, k3, k4⟩ := nxt1_all HX.out.2
        obtain ⟨y, HY⟩ : ∃ y, Hid (y = nxt1 (nextN ps) t0 x d) := ⟨_, rfl⟩
        rw [← HY.out] at k1 k2 k3
        have hyN : y < N := HNL.out x hxN y k1
        have HY2 : Hid ((pth (nextN ps) t0 D s0)[i + 1]? = some y ∧ dst (nextN ps) t0 y = some d) := Lib.hid ⟨by
          obtain ⟨x', p1, p2, p3⟩ := pth_at D s0 HD.out i (by omega)
          rw [HX.out.1] at p1
          injection p1 with p1
          subst p1
          rw [p3 (by omega), HY.out]
          congr 2; omega, k2⟩
        have HTK := Lib.hid (pth_take HY2.out.1)
        have HJ3 : Hid ((nextN ps x)[j0]? = some y) := Lib.hid (by rw [List.getElem?_eq_getElem hj0, k3])
        have HJ4 : Hid (∀ j v, j < j0 → (nextN ps x)[j]? = some v → ¬ dst (nextN ps) t0 v = some d) := Lib.hid (fun j v hj hv => by
          have := k4 j hj
          rw [List.getElem?_eq_getElem (by omega)] at hv
          injection hv with hv
          rw [← hv]; exact this)
        have hj05 : j0 < 5 := Nat.lt_of_lt_of_le hj0 (nextN_len HOK.out x)
        have HSX : Hid (x < 2 ^ ps.length) := Lib.hid (by rw [← HN.out]; exact hxN)
        have HFX : Hid (farL (nextN ps) t0 N x = ((d + 1 : Nat) : Int)) := Lib.hid ((farL_eq (by omega)).2 HX.out.2)
        clear k1 k2 k3 k4 hg0 hxt hds
        have hnl := nextN_len HOK.out x
        go_wp2_with fail
        refine (l5Next_any _ _ _ _ _ (Lib.hid (HR3.out.below hB)) HOK HSX).mono ?_
        rintro e w5 ⟨⟨A3, c3, rfl, hc3, hO3⟩, hB5⟩
        have hil3 : (ints (nextN ps x)).length = (nextN ps x).length := ints_length _
        have hz5 := hB5.size
        have HR5 := Lib.hid hO3.rd
        have HF5 := Lib.hid (HFr.out.keep hB5)
        have hcx : w5.cell? ⟨gF, x, none⟩ = some (.int .i64 ((d + 1 : Nat) : Int)) := by rw [HF5.out.cell, List.getElem?_toArray, intL_get _ hxN, HFX.out]
        clear hO3
        go_wp2_with fail
        go_loopw [13] (fun q w6 => ∃ j n : Nat, j ≤ j0 ∧ q = .int .i64 j ∧ w6 = w5.drewN n) (fun q _ => j0 - (intOf q).toNat)
        case atStart => exact ⟨0, 0, Nat.zero_le _, rfl, rfl⟩
        case round =>
          obtain ⟨j, n6, hj, rfl, rfl⟩ := hrel
          by_cases hlt : j < j0
          · obtain ⟨v, HVv⟩ : ∃ v, Hid ((nextN ps x)[j]? = some v) := ⟨_, List.getElem?_eq_getElem (by omega)⟩
            have hvN : v < N := HNL.out x hxN v (List.mem_of_getElem? HVv.out)
            have hne : ¬ farL (nextN ps) t0 N v = (d : Int) := fun e => HJ4.out j v hlt HVv.out ((farL_eq (by omega)).1 e)
            obtain ⟨fv, HFV⟩ : ∃ f, Hid (f = farL (nextN ps) t0 N v) := ⟨_, rfl⟩
            rw [← HFV.out] at hne
            have hcv : w5.cell? ⟨gF, v, none⟩ = some (.int .i64 fv) := by rw [HF5.out.cell, List.getElem?_toArray, intL_get _ hvN, HFV.out]
            obtain ⟨g3, off3, hA, hcell3⟩ := HR5.out.at_ (k := j) (v := .int .i64 (v : Int)) (by rw [List.getElem?_map, ints, List.getElem?_map, HVv.out]; rfl)
            subst hA
            have hjn : j < (nextN ps x).length := by omega
            have hd2 : (fv != (d : Int)) = true := by simpa using hne
            go_wp2_with fail
            go_quiet (fail)
            go_wp2_with fail
            go_roundw
            case rel => exact ⟨j + 1, _, by omega, by go_num, rfl⟩
            case measure => simp [intOf]; omega
          · have hjj : j = j0 := by omega
            subst hjj
            have hcv : w5.cell? ⟨gF, y, none⟩ = some (.int .i64 (d : Int)) := by rw [HF5.out.cell, List.getElem?_toArray, intL_get _ hyN, (farL_eq (by omega)).2 HY2.out.2]
            obtain ⟨g3, off3, hA, hcell3⟩ := HR5.out.at_ (k := j) (v := .int .i64 (y : Int)) (by rw [List.getElem?_map, ints, List.getElem?_map, HJ3.out]; rfl)
            subst hA
            have hjn : j < (nextN ps x).length := hj0
            have hd2 : ((d : Int) != (d : Int)) = false := bne_self_eq_false _
            go_wp2_with fail
            go_quiet (fail)
            go_wp2_with (at_builtin; refine wp_pushI rfl _ _ _ rfl Tryd.underlying22 info_int ((HO.out.below hB5).below (drewN_below _ _)) rfl rfl (by omega) (Nat.le_trans hsz hz5) ?_; intro v' w7 hown hbel hsz7)
            go_roundg d
            case rel => exact ⟨i + 1, y, by omega, rfl, hyN, HY2, Lib.hid (by rw [HTK.out]; exact hown), hB.trans ((hB5.mono hsz).trans (((drewN_below _ _).mono (Nat.le_trans hsz hz5)).trans (hbel _ (Nat.le_refl _))))⟩
            case measure => omega
  · have HCN : Hid (canN ps t u = false) := Lib.hid (by simpa using h)
    have HV := Lib.hid (pthN_no HCN.out)
    clear h
    go_enter Tryd.func54, Tryd.ntmps54
    go_wp2_with fail
    refine (sCanReach_any s _ _ w hs).mono ?_
    rintro e w1 ⟨rfl, hB1⟩
    rw [← HPS.out, HCN.out]
    have hz1 := hB1.size
    go_wp2
    go_ret2
    exact ⟨⟨_, 0, by rw [HV.out, HCN.out]; rfl, by rw [HV.out]; exact Nat.le_refl _, by rw [HV.out]; exact Own.nil _ _ _⟩, hB1.alloc (by omega) _⟩

end Go.Proofs.YtpehimjngofnkaaDoor
