/- Walks of the laws on lists of lists: equal, marked, held; the walk of FnExactCyclesOf. -/
import Derived.Test.YtpehimjngofnkaaDoorProg
import Derived.WalkKit
import Derived.WalkSpells
import Derived.WalkLawsBesides
import Derived.Lib.Hide
import Derived.Deep.QuietTactic
import Derived.Deep.RegionHeld3
import Derived.BigQuiet
import Derived.Test.YtpehimjngofnkaaDoorG1
import Derived.Test.YtpehimjngofnkaaDoorG4
namespace Go.Proofs.YtpehimjngofnkaaDoor
open Go.RowKit
set_option linter.unusedVariables false

theorem markIntS_only (g off c B : Nat) (xs : List Int) (m : Int) (w : World) (hx : Own w B (some ⟨g, off, none⟩) (xs.map (Value.int .i64))) (hm : 0 ≤ m) (hm2 : m ≤ 1099511627776) (hl : xs.length ≤ 1099511627776) :
    Calls Tryd.prog 18 #[.slice (some ⟨g, off, none⟩) xs.length c, .int .i64 m] w fun e w' => e = .returned (.int .i64 (m + xs.length)) ∧ Own w' B (some ⟨g, off, none⟩) ((upL m xs.length).map (Value.int .i64)) ∧ w.grownBy w' (some g) ∧ w'.heap.size = w.heap.size := by
  have HX := Lib.hid hx
  clear hx
  go_enter Tryd.func18, Tryd.ntmps18
  go_wp2
  go_loopw [1, 5] (fun q i wr => ∃ k : Nat, k ≤ xs.length ∧ i = .int .i64 k ∧ q = .int .i64 (m + k) ∧ Hid (Own wr B (some ⟨g, off, none⟩) ((upL m k ++ xs.drop k).map (Value.int .i64))) ∧ Hid (w.grownBy wr (some g) ∧ wr.heap.size = w.heap.size)) (fun _ i _ => xs.length - (intOf i).toNat)
  case atStart => exact ⟨0, Nat.zero_le _, rfl, by simp, Lib.hid HX.out, Lib.hid ⟨grownBy_refl _ _, rfl⟩⟩
  case round =>
    obtain ⟨k, hk, rfl, rfl, HO, HB⟩ := hrel
    by_cases hlt : k < xs.length
    · have hlk : k < (upL m k ++ xs.drop k).length := by rw [List.length_append, upL_length, List.length_drop]; omega
      obtain ⟨g', off', hA, hg, hc, hf⟩ := HO.out.int hlk
      obtain ⟨rfl, rfl⟩ : g = g' ∧ off = off' := by simpa using hA
      have HS := Lib.hid (HO.out.set_ (k := k) (u := .int .i64 (m + k)) (v := .int .i64 (upL m k ++ xs.drop k)[k]) (by rw [List.getElem?_map, List.getElem?_eq_getElem hlk]; rfl))
      go_wp2
      go_roundw
      case rel => exact ⟨k + 1, by omega, by go_num, by go_num, Lib.hid (by have h := HS.out; rw [← List.map_set, up_set m xs k hlt] at h; exact h), Lib.hid ⟨grownBy_trans HB.out.1 (only_setCell _ _ _ _), by rw [setCell_size]; exact HB.out.2⟩⟩
      case measure => simp [intOf]; omega
    · have hkn : k = xs.length := by omega
      subst hkn
      go_wp2
      go_ret
      exact ⟨rfl, by have h := HO.out; rw [List.drop_length, List.append_nil] at h; exact h, HB.out.1, HB.out.2⟩

/-- how many numbers there are in the first j lists -/
def tot (xss : List (List Int)) : Nat → Nat
  | 0 => 0
  | j + 1 => tot xss j + (xss.getD j []).length
/-- the first j lists have been marked, from m on -/
def Mkd (m : Int) (xss xsl : List (List Int)) (j : Nat) : Prop :=
  xsl.length = xss.length ∧ (∀ i, i < j → i < xss.length → xsl[i]? = some (upL (m + tot xss i) (xss.getD i []).length)) ∧ ∀ i, j ≤ i → xsl[i]? = xss[i]?
theorem Mkd.start (m : Int) (xss : List (List Int)) : Mkd m xss xss 0 := ⟨rfl, fun i h => by omega, fun _ _ => rfl⟩
theorem Mkd.next {m : Int} {xss xsl : List (List Int)} {j : Nat} (h : Mkd m xss xsl j) (hj : j < xss.length) : Mkd m xss (xsl.set j (upL (m + tot xss j) (xss.getD j []).length)) (j + 1) := by
  refine ⟨by rw [List.length_set]; exact h.1, fun i hi hl => ?_, fun i hi => ?_⟩
  · by_cases e : j = i
    · subst e; rw [List.getElem?_set_self (by rw [h.1]; exact hj)]
    · rw [List.getElem?_set_ne e]; exact h.2.1 i (by omega) hl
  · rw [List.getElem?_set_ne (by omega)]; exact h.2.2 i (by omega)
theorem Rd.onlyV {w w' : World} {A : Option Addr} {ys : List Value} {g n c : Nat} (h : Rd w A ys) (hw : w.grownBy w' (some g)) (hg : (Value.slice A n c).ownBlock ≠ some g) : Rd w' A ys := by
  rcases h with h | ⟨gA, off, hA, hc⟩
  · exact .inl h
  · subst hA
    cases ys with
    | nil => exact .inl rfl
    | cons y r =>
      have hlt : gA < w.heap.size := World.block_lt_of_cell? w _ (hc 0 y rfl)
      have hne : ¬ gA = g := fun e => hg (by rw [e]; rfl)
      have hb := hw.block gA hlt (by intro e; injection e with e; exact hne e)
      exact .inr ⟨gA, off, rfl, fun j v hj => (World.cell?_of_block (w := w) (a := ⟨gA, off + j, none⟩) hb).trans (hc j v hj)⟩
/-- one of the lists is written anew -/
theorem LL.set_ {w w' : World} {B g off c : Nat} {v : Value} {gs : List Nat} {ys : List Value} {xss : List (List Int)} {j : Nat} {xs zs : List Int} (h : LL w B v gs ys xss) (hj : xss[j]? = some xs) (hzl : zs.length = xs.length)
    (hg : gs[j]? = some g) (hy : ys[j]? = some (.slice (some ⟨g, off, none⟩) xs.length c)) (hc : xs.length ≤ c) (hw : w.grownBy w' (some g)) (ho : Own w' B (some ⟨g, off, none⟩) (zs.map (Value.int .i64))) : LL w' B v gs ys (xss.set j zs) := by
  have hjl : j < xss.length := (List.getElem?_eq_some_iff.1 hj).1
  refine ⟨by rw [List.length_set]; exact h.len, by rw [List.length_set]; exact h.gl, h.nd, fun x hx => ⟨(h.lt x hx).1, Nat.lt_of_lt_of_le (h.lt x hx).2.1 hw.size, (h.lt x hx).2.2⟩, fun i us hi => ?_⟩
  by_cases e : j = i
  · subst e
    rw [List.getElem?_set_self hjl] at hi
    injection hi with hi
    subst hi
    exact ⟨g, off, c, hg, by rw [hzl]; exact hy, by rw [hzl]; exact hc, ho⟩
  · rw [List.getElem?_set_ne e] at hi
    obtain ⟨g', off', c', h1, h2, h3, h4⟩ := h.at_ i us hi
    have hgi : ¬ g' = g := fun eq => e ((List.getElem?_inj (by rw [h.gl]; exact hjl) h.nd).1 (by rw [hg, h1, eq]))
    exact ⟨g', off', c', h1, h2, h3, h4.blk (hw.block g' (h.lt g' (List.mem_of_getElem? h1)).2.1 (by intro e; injection e with e; exact hgi e))⟩

/-- the lists have been marked -/
def MarkP (B : Nat) (A : Option Addr) (c : Nat) (gs : List Nat) (ys : List Value) (xss : List (List Int)) (w : World) (e : Ending) (w' : World) : Prop :=
  ∃ xsl, e = .returned (.int .i64 ((1 + tot xss xss.length : Nat) : Int)) ∧ Mkd 1 xss xsl xss.length ∧ LL w' B (.slice A xss.length c) gs ys xsl ∧ Rd w' A ys ∧ Below B w w'
theorem tot_le {xss : List (List Int)} (h : ∀ xs ∈ xss, xs.length ≤ 1000) : ∀ j, tot xss j ≤ 1000 * j
  | 0 => by simp [tot]
  | j + 1 => by
    have ih := tot_le h j
    have h2 : (xss.getD j []).length ≤ 1000 := by
      by_cases hj : j < xss.length
      · rw [List.getD_eq_getElem?_getD, List.getElem?_eq_getElem hj, Option.getD_some]; exact h _ (List.getElem_mem _)
      · rw [List.getD_eq_getElem?_getD, List.getElem?_eq_none (by omega)]; simp
    rw [tot]; omega
set_option maxHeartbeats 1000000 in
theorem markIntSS_any (A : Option Addr) (c B : Nat) (gs : List Nat) (ys : List Value) (xss : List (List Int)) (w : World) (hB : B ≤ w.heap.size) (hx : Hid (Rd w A ys)) (hL : Hid (LL w B (.slice A xss.length c) gs ys xss)) (hl : xss.length ≤ 1000) (hb : Hid (∀ xs ∈ xss, xs.length ≤ 1000)) :
    Calls Tryd.prog 23 #[.slice A xss.length c, .int .i64 1] w fun e w' => MarkP B A c gs ys xss w e w' := by
  go_enter Tryd.func23, Tryd.ntmps23
  go_wp2_with fail
  go_loopw [1, 5] (fun q i wr => ∃ (j : Nat) (xsl : List (List Int)), j ≤ xss.length ∧ i = .int .i64 j ∧ q = .int .i64 ((1 + tot xss j : Nat) : Int) ∧ Hid (Mkd 1 xss xsl j) ∧ Hid (LL wr B (.slice A xss.length c) gs ys xsl ∧ Rd wr A ys ∧ Below B w wr)) (fun _ i _ => xss.length - (intOf i).toNat)
  case atStart => exact ⟨0, xss, Nat.zero_le _, rfl, rfl, Lib.hid (Mkd.start _ _), Lib.hid ⟨hL.out, hx.out, Below.refl _ _⟩⟩
  case round =>
    obtain ⟨j, xsl, hj, rfl, rfl, HM, HL⟩ := hrel
    have htj := tot_le hb.out j
    by_cases hlt : j < xss.length
    · obtain ⟨xs, hxs⟩ : ∃ xs, xss[j]? = some xs := ⟨_, List.getElem?_eq_getElem hlt⟩
      have hgd : xss.getD j [] = xs := by rw [List.getD_eq_getElem?_getD, hxs]; rfl
      have hxl : xs.length ≤ 1000 := hb.out xs (List.mem_of_getElem? hxs)
      have hxj : xsl[j]? = some xs := by rw [HM.out.2.2 j (Nat.le_refl _)]; exact hxs
      obtain ⟨g, off, ci, h1, h2, h3, h4⟩ := HL.out.1.at_ j xs hxj
      obtain ⟨gA, oA, rfl, hcell⟩ := HL.out.2.1.at_ h2
      have HMN := Lib.hid (HM.out.next hlt)
      rw [hgd] at HMN
      obtain ⟨m, HMm⟩ : ∃ m, Hid (m = 1 + tot xss j) := ⟨_, rfl⟩
      have hm1 : m ≤ 1000001 := by rw [HMm.out]; omega
      have HTN : Hid (1 + tot xss (j + 1) = m + xs.length) := Lib.hid (by rw [HMm.out, tot, hgd]; omega)
      have HUP : Hid ((1 : Int) + (tot xss j : Int) = (m : Int)) := Lib.hid (by rw [HMm.out]; omega)
      rw [HUP.out] at HMN
      rw [← HMm.out]
      have HC := Lib.hid (markIntS_only g off ci B xs (m : Int) wr h4 (by omega) (by omega) (by omega))
      have HSET := Lib.hid (fun (w' : World) (zs : List Int) (hz : zs.length = xs.length) (hw : wr.grownBy w' (some g)) (ho : Own w' B (some ⟨g, off, none⟩) (zs.map (Value.int .i64))) => HL.out.1.set_ hxj hz h1 h2 h3 hw ho)
      have hlg := HL.out.1.lt g (List.mem_of_getElem? h1)
      clear h4 hxj h1 h2 hgd hxs htj
      go_wp2_with fail
      refine HC.out.mono ?_
      rintro e w2 ⟨rfl, hO2, hG2, hz2⟩
      have HF := Lib.hid (And.intro (HSET.out w2 _ (upL_length _ _) hG2 hO2) (And.intro (HL.out.2.1.onlyV hG2 hlg.2.2) (HL.out.2.2.trans (Below.of_grown hG2 hlg.1 (Nat.le_trans hB HL.out.2.2.size)))))
      go_wp2_with fail
      go_roundw
      case rel => exact ⟨j + 1, _, by omega, by go_num, by rw [HTN.out]; go_num, HMN, HF⟩
      case measure => simp [intOf]; omega
    · have hjn : j = xss.length := by omega
      subst hjn
      go_wp2_with fail
      go_ret
      exact ⟨xsl, rfl, HM.out, HL.out.1, HL.out.2.1, HL.out.2.2⟩

set_option maxHeartbeats 1000000 in
theorem heldIntSS_any (A : Option Addr) (c B : Nat) (gs : List Nat) (ys : List Value) (xss xsl : List (List Int)) (v : Value) (w : World) (hx : Hid (Rd w A ys)) (hL : Hid (LL w B v gs ys xsl)) (hM : Hid (Mkd 1 xss xsl xss.length)) (hl : xss.length ≤ 1000) (hb : Hid (∀ xs ∈ xss, xs.length ≤ 1000)) :
    Calls Tryd.prog 24 #[.slice A xss.length c, .int .i64 1] w fun e w' => e = .returned (.int .i64 ((1 + tot xss xss.length : Nat) : Int)) ∧ w = w' := by
  go_enter Tryd.func24, Tryd.ntmps24
  go_wp2_with fail
  go_loop [1, 5] (fun q i => ∃ (j : Nat), j ≤ xss.length ∧ i = .int .i64 j ∧ q = .int .i64 ((1 + tot xss j : Nat) : Int)) (fun _ i => xss.length - (intOf i).toNat)
  case atStart => exact ⟨0, Nat.zero_le _, rfl, rfl⟩
  case round =>
    obtain ⟨j, hj, rfl, rfl⟩ := hrel
    have htj := tot_le hb.out j
    by_cases hlt : j < xss.length
    · have hxj := hM.out.2.1 j hlt hlt
      have hxl : (xss.getD j []).length ≤ 1000 := by
        rw [List.getD_eq_getElem?_getD, List.getElem?_eq_getElem hlt, Option.getD_some]; exact hb.out _ (List.getElem_mem _)
      obtain ⟨l, HLl⟩ : ∃ l, Hid (l = (xss.getD j []).length) := ⟨_, rfl⟩
      rw [← HLl.out] at hxl hxj
      obtain ⟨g, off, ci, h1, h2, h3, h4⟩ := hL.out.at_ j _ hxj
      rw [upL_length] at h2
      obtain ⟨gA, oA, rfl, hcell⟩ := hx.out.at_ h2
      obtain ⟨m, HMm⟩ : ∃ m, Hid (m = 1 + tot xss j) := ⟨_, rfl⟩
      have hm1 : m ≤ 1000001 := by rw [HMm.out]; omega
      have HTN : Hid (1 + tot xss (j + 1) = m + l) := Lib.hid (by rw [HMm.out, HLl.out, tot]; omega)
      have HUP : Hid ((1 : Int) + (tot xss j : Int) = (m : Int)) := Lib.hid (by rw [HMm.out]; omega)
      rw [HUP.out] at h4
      rw [← HMm.out]
      have HC := Lib.hid (heldIntS_any (some ⟨g, off, none⟩) ci l (m : Int) w h4.rd (by omega) (by omega) (by omega))
      clear h4 hxj h1 h2 h3 htj
      go_wp2_with (go_at_call 19; refine HC.out.mono ?_; rintro e w2 ⟨rfl, rfl⟩)
      go_round
      case rel => exact ⟨j + 1, by omega, by go_num, by rw [HTN.out]; go_num⟩
      case measure => simp [intOf]; omega
    · have hjn : j = xss.length := by omega
      subst hjn
      go_wp2_with fail
      go_ret
      exact ⟨rfl, rfl⟩

theorem quiet_add_left2 {P : Program} {f : FuncId} {args : Array Value} {w : World} {a n : Nat} {v : Value}
    (h : Calls P f args (w.drewN (a + n)) fun e w' => e = .returned v ∧ ∃ m, (w.drewN (a + n)).drewN m = w') :
    Calls P f args (w.drewN (a + n)) fun e w' => e = .returned v ∧ ∃ m, w' = w.drewN (a + m) :=
  h.mono fun _ _ ⟨he, m, hm⟩ => ⟨he, n + m, by rw [← hm, drewN2, Nat.add_assoc]⟩
set_option maxHeartbeats 1000000 in
theorem eqIntSS_same (A A' : Option Addr) (c c' B B' : Nat) (gs gs' : List Nat) (ys ys' : List Value) (xss : List (List Int)) (v v' : Value) (w : World) (hx : Hid (Rd w A ys)) (hx' : Hid (Rd w A' ys')) (hL : Hid (LL w B v gs ys xss)) (hL' : Hid (LL w B' v' gs' ys' xss)) (hl : xss.length ≤ 1000) (hb : Hid (∀ xs ∈ xss, xs.length ≤ 1000)) :
    Calls Tryd.prog 22 #[.slice A xss.length c, .slice A' xss.length c'] w fun e w' => e = .returned (.bool true) ∧ ∃ n, w.drewN n = w' := by
  go_enter Tryd.func22, Tryd.ntmps22
  go_wp2_with fail
  go_loopw [5] (fun i wr => ∃ (j : Nat), j ≤ xss.length ∧ i = .int .i64 j ∧ ∃ n, wr = w.drewN n) (fun i _ => xss.length - (intOf i).toNat)
  case atStart => exact ⟨0, Nat.zero_le _, rfl, 0, rfl⟩
  case round =>
    obtain ⟨j, hj, rfl, n, rfl⟩ := hrel
    by_cases hlt : j < xss.length
    · obtain ⟨xs, hxs⟩ : ∃ xs, xss[j]? = some xs := ⟨_, List.getElem?_eq_getElem hlt⟩
      have hxl : xs.length ≤ 1000 := hb.out xs (List.mem_of_getElem? hxs)
      obtain ⟨g, off, ci, h1, h2, h3, h4⟩ := hL.out.at_ j xs hxs
      obtain ⟨g', off', ci', h1', h2', h3', h4'⟩ := hL'.out.at_ j xs hxs
      obtain ⟨gA, oA, rfl, hcell⟩ := hx.out.at_ h2
      obtain ⟨gA', oA', rfl, hcell'⟩ := hx'.out.at_ h2'
      have HC : Hid (∀ k, Calls Tryd.prog 17 #[.slice (some ⟨g, off, none⟩) xs.length ci, .slice (some ⟨g', off', none⟩) xs.length ci'] (w.drewN k) fun e w' => e = .returned (.bool true) ∧ ∃ n, (w.drewN k).drewN n = w') := Lib.hid fun k => by
        refine (eqIntS_any _ _ _ _ xs xs (w.drewN k) h4.rd h4'.rd (by omega) (by omega)).mono ?_
        rintro e w2 ⟨rfl, n2, rfl⟩
        exact ⟨by rw [decide_eq_true rfl], n2, rfl⟩
      clear h4 h4' h1 h1' h2 h2' h3 h3' hxs
      go_wp2_with fail
      go_quiet ((go_at_call 17; first | exact quiet_add_left2 (HC.out _) | exact quiet_left2 (HC.out _)))
      go_wp2_with fail
      go_roundw
      case rel => exact ⟨j + 1, by omega, by go_num, _, rfl⟩
      case measure => simp [intOf]; omega
    · have hjn : j = xss.length := by omega
      subst hjn
      go_wp2_with fail
      go_ret
      exact ⟨rfl, _, rfl⟩

theorem cylN_len (ps : List (List UInt8)) : (cylN ps).length ≤ 1000 := by
  by_cases h : okN ps = true
  · rw [cylN_yes h rfl]
    have := cylTo_len (stp ps) (2 ^ ps.length)
    have := two_le _ (okN_le h)
    omega
  · rw [cylN_no (by simpa using h)]; simp
theorem cylN_lens (ps : List (List UInt8)) : ∀ xs ∈ cylN ps, xs.length ≤ 1000 := by
  intro xs hx
  by_cases h : okN ps = true
  · rw [cylN_yes h rfl, cylTo, List.mem_map] at hx
    obtain ⟨s, hs, rfl⟩ := hx
    have h32 := two_le _ (okN_le h)
    have := (cyc_len (f := stp ps) h32 (fun x _ => stp_lt h x) (sel_mem.1 hs).1).1
    rw [ints_length]; omega
  · rw [cylN_no (by simpa using h)] at hx; simp at hx

end Go.Proofs.YtpehimjngofnkaaDoor
