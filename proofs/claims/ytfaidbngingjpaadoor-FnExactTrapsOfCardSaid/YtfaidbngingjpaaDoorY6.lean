/- Walks of traps and TrapsOf; of the lists of texts that the laws compare. -/
import Derived.Test.YtfaidbngingjpaaDoorProg
import Derived.WalkKit
import Derived.WalkSpells
import Derived.WalkLawsBesides
import Derived.Lib.Hide
import Derived.Deep.QuietTactic
import Derived.Deep.RegionWith
import Derived.BigQuiet
import Derived.Test.YtfaidbngingjpaaDoorY4
namespace Go.Proofs.YtfaidbngingjpaaDoor
open Go.RowKit
set_option linter.unusedVariables false

theorem clipS_any (v : Value) (ps : List (List UInt8)) (w : World) (B : Nat) (e : TypeId) (h : OS w B e v ps) :
    Calls Tryd.prog 138 #[v] w fun e w' => RetS B ps e w' ∧ w = w' := by
  obtain ⟨A, c, rfl, hc, hO⟩ := h.form
  have hm : ps.length ≤ 9223372036854775807 := by
    rcases h.2 with ⟨_, h0⟩ | ⟨g, cap, cur, _, _, _, hn, hm, _⟩
    · omega
    · simp only [maxLen] at hm; omega
  have HO := Lib.hid hO
  clear hO h
  go_enter Tryd.func138, Tryd.ntmps138
  go_wp2
  go_ret
  exact ⟨⟨A, ps.length, rfl, Nat.le_refl _, HO.out⟩, rfl⟩

set_option maxHeartbeats 1000000 in
theorem traps_any (A : Option Addr) (c : Nat) (ps : List (List UInt8)) (w : World) (hx : Hid (Rd w A (netL ps))) (hok : Hid (okN ps = true)) :
    Calls Tryd.prog 96 #[.slice A ps.length c] w fun e w' => RetS w.heap.size (trpF ps (allT ps.length)) e w' ∧ Below w.heap.size w w' := by
  have hn5 := okN_le hok.out
  obtain ⟨hal, hal0⟩ := allT_le hn5
  have HNE := Lib.hid (strs_ne hal0)
  have HMEM := Lib.hid (fun l (h : l ∈ allT ps.length) => allT_mem h)
  go_enter Tryd.func96, Tryd.ntmps96
  go_wp2_with fail
  refine (allTerms_any ps.length _ hn5).mono ?_
  rintro e w1 ⟨⟨A1, c1, rfl, hc1, hO1⟩, hB1⟩
  have hz1 := hB1.size
  have HO1 := Lib.hid (OS.nil w1 w.heap.size 9)
  have HR1 := Lib.hid hO1.rd
  have HOF : Hid (OffS (.slice none 0 0) A1) := Lib.hid (fun a ha => by simp [Value.ownBlock])
  clear hO1
  go_wp2
  go_loopw [3, 10] (fun v q wr => ∃ j : Nat, j ≤ (allT ps.length).length ∧ q = .int .i64 j ∧ Hid (OS wr w.heap.size 9 v (trpF ps ((allT ps.length).take j))) ∧ Hid (Rd wr A1 (strs (allT ps.length)) ∧ OffS v A1) ∧ Below w.heap.size w wr) (fun _ q _ => (allT ps.length).length - (intOf q).toNat)
  case atStart => exact ⟨0, Nat.zero_le _, rfl, HO1, Lib.hid ⟨HR1.out, HOF.out⟩, hB1⟩
  case round =>
    obtain ⟨j, hj, rfl, HO2, HRO, hB⟩ := hrel
    have hsz := hB.size
    have hfl := trpF_len ps (allT ps.length) j
    by_cases hlt : j < (allT ps.length).length
    · obtain ⟨g, off, hA, hcell⟩ := HRO.out.1.text hlt
      subst hA
      obtain ⟨hm1, hm2⟩ := HMEM.out _ (List.getElem_mem hlt)
      obtain ⟨l, hl⟩ : ∃ l, l = (allT ps.length)[j] := ⟨_, rfl⟩
      by_cases hp : trpB ps (allT ps.length)[j] = true
      · have HE2 := Lib.hid (trpF_yes hlt hp)
        rw [← hl] at hcell hm1 hm2 hp HE2
        have HC : Hid ((⟨l.toArray⟩ : ByteArray).data.toList.all okc = true) := Lib.hid (by simpa using hm2)
        have HLN : Hid ((⟨l.toArray⟩ : ByteArray).size = ps.length) := Lib.hid (by rw [str_size]; exact hm1)
        have HP : Hid (trpB ps (⟨l.toArray⟩ : ByteArray).data.toList = true) := Lib.hid (by simpa using hp)
        clear hl hm1 hm2 hp
        go_wp2_with fail
        refine (trap_any _ _ ps ⟨l.toArray⟩ _ (Lib.hid (hx.out.below hB)) hok HLN.out HC).mono ?_
        rintro e w2 ⟨rfl, hB2⟩
        rw [HP.out]
        have hz2 := hB2.size
        go_wp2_with (at_builtin; refine wp_catS (m := 1) (qs := [l]) rfl _ _ _ rfl Tryd.underlying40 info_str (HO2.out.below hB2) rfl rfl rfl rfl (by omega) (by omega) ?_; intro v3 w3 hown hbel hsz3 hfr3)
        have HO3 : Hid (OS w3 w.heap.size 9 v3 (trpF ps ((allT ps.length).take (j + 1)))) := Lib.hid (by rw [HE2.out]; exact hown)
        have HR3 := Lib.hid (offS_push (HRO.out.1.below hB2) HRO.out.2 hfr3 HNE.out)
        have hbw : Below w.heap.size w w3 := hB.trans ((hB2.mono hsz).trans (hbel _ (Nat.le_refl _)))
        clear hown hbel hfr3
        go_roundw
        case rel => exact ⟨j + 1, by omega, by go_num, HO3, HR3, hbw⟩
        case measure => simp [intOf]; omega
      · have hp' : trpB ps (allT ps.length)[j] = false := by simpa using hp
        have HE2 := Lib.hid (trpF_no hlt hp')
        clear hp
        rw [← hl] at hcell hm1 hm2 hp'
        have HC : Hid ((⟨l.toArray⟩ : ByteArray).data.toList.all okc = true) := Lib.hid (by simpa using hm2)
        have HLN : Hid ((⟨l.toArray⟩ : ByteArray).size = ps.length) := Lib.hid (by rw [str_size]; exact hm1)
        have HP : Hid (trpB ps (⟨l.toArray⟩ : ByteArray).data.toList = false) := Lib.hid (by simpa using hp')
        clear hl hm1 hm2 hp'
        go_wp2_with fail
        refine (trap_any _ _ ps ⟨l.toArray⟩ _ (Lib.hid (hx.out.below hB)) hok HLN.out HC).mono ?_
        rintro e w2 ⟨rfl, hB2⟩
        rw [HP.out]
        go_wp2_with fail
        go_roundw
        case rel => exact ⟨j + 1, by omega, by go_num, Lib.hid (by rw [HE2.out]; exact HO2.out.below hB2), Lib.hid ⟨HRO.out.1.below hB2, HRO.out.2⟩, hB.trans (hB2.mono hsz)⟩
        case measure => simp [intOf]; omega
    · have hje : j = (allT ps.length).length := by omega
      have HV : Hid (trpF ps ((allT ps.length).take j) = trpF ps (allT ps.length)) := Lib.hid (by rw [hje, List.take_length])
      clear hje
      have HOV := HO2.out
      rw [HV.out] at HOV
      have HOX := Lib.hid HOV
      clear HOV
      go_wp2_with (go_at_call 138; refine (clipS_any _ _ _ _ _ HOX.out).mono ?_; rintro e w2 ⟨⟨A', c', rfl, hc, hO⟩, rfl⟩)
      go_ret
      exact ⟨⟨A', c', rfl, hc, hO⟩, hB⟩

def trsN (ps : List (List UInt8)) : List (List UInt8) := if okN ps then trpF ps (allT ps.length) else []
theorem trsN_yes {ps : List (List UInt8)} (h : okN ps = true) : trsN ps = trpF ps (allT ps.length) := if_pos h
theorem trsN_no {ps : List (List UInt8)} (h : okN ps = false) : trsN ps = [] := by rw [trsN, h]; rfl
theorem trsN_len (ps : List (List UInt8)) : (trsN ps).length ≤ 1000 := by
  by_cases h : okN ps = true
  · rw [trsN_yes h]
    have h1 := trpF_len ps (allT ps.length) (allT ps.length).length
    rw [List.take_length] at h1
    have := (allT_le (okN_le h)).1
    omega
  · rw [trsN_no (by simpa using h)]; simp

theorem TrapsOf_any (s : ByteArray) (w : World) (hm : Hid (HasM w)) (hs : s.size ≤ 1073741824) :
    Calls Tryd.prog 38 #[.string s] w fun e w' => RetS w.heap.size (trsN (cutL s.data.toList)) e w' ∧ Below w.heap.size w w' := by
  obtain ⟨ps, HPS⟩ : ∃ ps, Hid (ps = cutL s.data.toList) := ⟨_, rfl⟩
  rw [← HPS.out]
  by_cases h : okN ps = true
  · have HOK := Lib.hid h
    have HV := Lib.hid (trsN_yes h)
    clear h
    go_enter Tryd.func38, Tryd.ntmps38
    go_wp2_with fail
    refine (readNetwork_any s w hm hs).mono ?_
    rintro e w1 ⟨⟨A, k0, c, rfl, himp⟩, hB1⟩
    rw [← HPS.out] at himp ⊢
    obtain ⟨rfl, hc, hO⟩ := himp HOK.out
    rw [HOK.out]
    have hz1 := hB1.size
    have HR := Lib.hid hO.rd
    clear hO himp
    go_wp2_with fail
    refine (traps_any _ _ _ _ HR HOK).mono ?_
    rintro e w2 ⟨⟨A2, c2, rfl, hc2, hO2⟩, hB2⟩
    go_wp2
    go_ret
    exact ⟨⟨A2, c2, by rw [HV.out]; rfl, by rw [HV.out]; exact hc2, by rw [HV.out]; exact hO2.mono hz1⟩, hB1.trans (hB2.mono hz1)⟩
  · have h' : okN ps = false := by simpa using h
    have HOK := Lib.hid h'
    have HV := Lib.hid (trsN_no h')
    clear h h'
    go_enter Tryd.func38, Tryd.ntmps38
    go_wp2_with fail
    refine (readNetwork_any s w hm hs).mono ?_
    rintro e w1 ⟨⟨A, k0, c, rfl, himp⟩, hB1⟩
    clear himp
    rw [← HPS.out, HOK.out]
    go_wp2
    go_ret
    exact ⟨⟨none, 0, by rw [HV.out]; rfl, by rw [HV.out]; exact Nat.le_refl _, by rw [HV.out]; exact Own.nil _ _ _⟩, hB1⟩

theorem sTrapsOf_any (s : ByteArray) (w : World) (hs : s.size ≤ 1073741824) :
    Calls Tryd.prog 37 #[.string s] w fun e w' => RetS w.heap.size (trsN (cutL s.data.toList)) e w' ∧ Below w.heap.size w w' := by
  obtain ⟨ps, HPS⟩ : ∃ ps, Hid (ps = cutL s.data.toList) := ⟨_, rfl⟩
  rw [← HPS.out]
  by_cases h : okN ps = true
  · have HOK := Lib.hid h
    have HV := Lib.hid (trsN_yes h)
    clear h
    go_enter Tryd.func37, Tryd.ntmps37
    go_wp2_with fail
    refine (l3Open_any s w hs).mono ?_
    rintro e w1 ⟨⟨A, k0, c, rfl, himp⟩, hB1⟩
    rw [← HPS.out] at himp ⊢
    obtain ⟨rfl, hc, hO⟩ := himp HOK.out
    rw [HOK.out]
    have hz1 := hB1.size
    have HR := Lib.hid hO.rd
    clear hO himp
    go_wp2_with fail
    refine (l6Traps_any _ _ _ _ HR HOK).mono ?_
    rintro e w2 ⟨⟨A2, c2, rfl, hc2, hO2⟩, hB2⟩
    go_wp2
    go_ret
    exact ⟨⟨A2, c2, by rw [HV.out]; rfl, by rw [HV.out]; exact hc2, by rw [HV.out]; exact hO2.mono hz1⟩, hB1.trans (hB2.mono hz1)⟩
  · have h' : okN ps = false := by simpa using h
    have HOK := Lib.hid h'
    have HV := Lib.hid (trsN_no h')
    clear h h'
    go_enter Tryd.func37, Tryd.ntmps37
    go_wp2_with fail
    refine (l3Open_any s w hs).mono ?_
    rintro e w1 ⟨⟨A, k0, c, rfl, himp⟩, hB1⟩
    clear himp
    rw [← HPS.out, HOK.out]
    go_wp2
    go_ret
    exact ⟨⟨_, 0, by rw [HV.out]; rfl, by rw [HV.out]; exact Nat.le_refl _, by rw [HV.out]; exact Own.nil _ _ _⟩, hB1.alloc hB1.size _⟩

theorem bytes_same (a : ByteArray) : (a != a) = false := by
  have := (MapKept.bytes_beq a a).2 rfl
  simp [bne, this]
/-- a list of texts equals itself, wherever it lies -/
theorem eqStringS_any (A A' : Option Addr) (c c' : Nat) (xs : List (List UInt8)) (w : World) (hx : Hid (Rd w A (strs xs))) (hy : Hid (Rd w A' (strs xs))) (hl : xs.length ≤ 1000000) :
    Calls Tryd.prog 39 #[.slice A xs.length c, .slice A' xs.length c'] w fun e w' => e = .returned (.bool true) ∧ ∃ n, w.drewN n = w' := by
  go_enter Tryd.func39, Tryd.ntmps39
  go_wp2
  go_loopw [5] (fun i wr => ∃ k : Nat, k ≤ xs.length ∧ i = .int .i64 k ∧ ∃ n, wr = w.drewN n) (fun i _ => xs.length - (intOf i).toNat)
  case atStart => exact ⟨0, Nat.zero_le _, rfl, 0, rfl⟩
  case round =>
    obtain ⟨k, hk, rfl, n, rfl⟩ := hrel
    by_cases hlt : k < xs.length
    · obtain ⟨g, off, hA, hc⟩ := hx.out.text hlt
      obtain ⟨g', off', hA', hc'⟩ := hy.out.text hlt
      subst hA hA'
      have hd := bytes_same ⟨xs[k].toArray⟩
      go_wp2
      go_quiet (fail)
      go_wp2
      go_roundw
      case rel => exact ⟨k + 1, by omega, by go_num, _, rfl⟩
      case measure => simp [intOf]; omega
    · go_wp2
      go_ret
      exact ⟨rfl, _, rfl⟩

/-- the digits of a number ahead of a text -/
def mtG : Nat → Nat → List UInt8 → List UInt8
  | 0, _, acc => acc
  | f + 1, k, acc => if k = 0 then acc else mtG f (k / 10) (chr (k % 10) :: acc)
def mtL (k : Nat) : List UInt8 := 109 :: mtG k k []
set_option maxRecDepth 100000 in
theorem markText_any (k0 : Nat) (w : World) (h1 : 1 ≤ k0) (h2 : k0 ≤ 100000) :
    Calls Tryd.prog 97 #[.int .i64 (k0 : Int)] w fun e w' => e = .returned (.string ⟨(mtL k0).toArray⟩) ∧ Below w.heap.size w w' := by
  go_enter Tryd.func97, Tryd.ntmps97
  go_wp2
  go_loopw [0, 3] (fun q o wr => ∃ (k f : Nat) (acc : List UInt8), q = .int .i64 k ∧ o = .string ⟨acc.toArray⟩ ∧ k ≤ f ∧ acc.length + f ≤ 100000 ∧ Hid (mtG f k acc = mtG k0 k0 []) ∧ Below w.heap.size w wr) (fun q _ _ => (intOf q).toNat)
  case atStart => exact ⟨k0, k0, [], rfl, rfl, Nat.le_refl _, by simpa using h2, rfl, Below.refl _ _⟩
  case round =>
    obtain ⟨k, f, acc, rfl, rfl, hkf, hal, HG, hB⟩ := hrel
    have hsz := hB.size
    by_cases h0 : k = 0
    · subst h0
      have HE : Hid (acc = mtG k0 k0 []) := Lib.hid (by
        rw [← HG.out]
        cases f <;> simp [mtG])
      go_wp2
      go_ret
      exact ⟨by
        have h : (⟨#[109]⟩ : ByteArray) ++ ⟨acc.toArray⟩ = ⟨((109 : UInt8) :: acc).toArray⟩ := str_append [109] acc
        rw [mtL, ← HE.out, ← h]; rfl, hB⟩
    · obtain ⟨f, rfl⟩ : ∃ g, f = g + 1 := ⟨f - 1, by omega⟩
      obtain ⟨d, hd⟩ : ∃ d, d = k % 10 := ⟨_, rfl⟩
      obtain ⟨q, hq⟩ : ∃ q, q = k / 10 := ⟨_, rfl⟩
      have hd10 : d < 10 := by omega
      have hqk : q < k := by omega
      have HG2 : Hid (mtG f q (chr d :: acc) = mtG k0 k0 []) := Lib.hid (by
        have h := HG.out
        rw [mtG, if_neg h0, ← hd, ← hq] at h
        exact h)
      have e1 : (k : Int) % 10 = (d : Int) := by omega
      have e2 : (k : Int) / 10 = (q : Int) := by omega
      have e3 : (k : Int).tmod 10 = (d : Int) := by rw [Int.tmod_eq_emod_of_nonneg (by omega)]; exact e1
      have e4 : (k : Int).tdiv 10 = (q : Int) := by rw [Int.tdiv_eq_ediv_of_nonneg (by omega)]; exact e2
      have hb := BytesAt.one wr (chr d) 5
      have ht := chr_toNat d hd10
      rw [ht] at hb
      have hback := conv_back (P := Tryd.prog) _ 27 9 5 wr.heap.size 1 1 [chr d] rfl Tryd.underlying27 Tryd.underlying5 Tryd.underlying9 hb
      rw [show (((48 + d : Nat) : Int)) = 48 + (d : Int) by omega] at hback
      clear hb ht hd hq
      go_wp2_with fail
      go_roundw
      case rel => exact ⟨q, f, chr d :: acc, rfl, by rw [show ({ data := [chr d].toArray } : ByteArray) ++ ⟨acc.toArray⟩ = ⟨(chr d :: acc).toArray⟩ from str_append [chr d] acc], by omega, by simp; omega, HG2, hB.alloc hsz _⟩
      case measure => simp [intOf]; omega

def mkL (m n : Nat) : List (List UInt8) := (List.range n).map fun j => mtL (m + j)
theorem mkL_length (m n : Nat) : (mkL m n).length = n := by simp [mkL]
theorem mkL_get (m n j : Nat) (h : j < n) : (strs (mkL m n))[j]? = some (.string ⟨(mtL (m + j)).toArray⟩) := by simp [strs, mkL, h]
theorem mk_set (m : Nat) (xs : List (List UInt8)) (j : Nat) (h : j < xs.length) : (strs (mkL m j ++ xs.drop j)).set j (.string ⟨(mtL (m + j)).toArray⟩) = strs (mkL m (j + 1) ++ xs.drop (j + 1)) := by
  have e : strs (mkL m (j + 1)) = strs (mkL m j) ++ [.string ⟨(mtL (m + j)).toArray⟩] := by simp [strs, mkL, List.range_succ]
  have e2 : strs (xs.drop j) = .string ⟨xs[j].toArray⟩ :: strs (xs.drop (j + 1)) := by rw [List.drop_eq_getElem_cons h]; rfl
  rw [strs_append, List.set_append_right _ _ (by rw [strs_length, mkL_length]; omega), strs_length, mkL_length, Nat.sub_self, e2, List.set_cons_zero, strs_append, e, List.append_assoc]
  rfl
theorem markStringS_any (A : Option Addr) (c B : Nat) (xs : List (List UInt8)) (m : Nat) (w : World) (hx : Hid (Own w B A (strs xs))) (hm : 1 ≤ m) (hl : m + xs.length ≤ 100000) (hB0 : B ≤ w.heap.size) :
    Calls Tryd.prog 40 #[.slice A xs.length c, .int .i64 (m : Int)] w fun e w' => e = .returned (.int .i64 ((m + xs.length : Nat) : Int)) ∧ Own w' B A (strs (mkL m xs.length)) ∧ Below B w w' := by
  go_enter Tryd.func40, Tryd.ntmps40
  go_wp2
  go_loopw [1, 5] (fun q i wr => ∃ k u : Nat, k ≤ xs.length ∧ i = .int .i64 k ∧ q = .int .i64 (u : Int) ∧ 1 ≤ u ∧ u + (xs.length - k) ≤ 100000 ∧ Hid (u = m + k) ∧ Hid (Own wr B A (strs (mkL m k ++ xs.drop k))) ∧ Below B w wr) (fun _ i _ => xs.length - (intOf i).toNat)
  case atStart => exact ⟨0, m, Nat.zero_le _, rfl, rfl, hm, by omega, rfl, Lib.hid (by simpa [mkL] using hx.out), Below.refl _ _⟩
  case round =>
    obtain ⟨k, u, hk, rfl, rfl, hu1, hu2, HU, HO, hB⟩ := hrel
    have hsz := hB.size
    by_cases hlt : k < xs.length
    · have hlk : ∃ v, (strs (mkL m k ++ xs.drop k))[k]? = some v := ⟨_, List.getElem?_eq_getElem (by rw [strs_length, List.length_append, mkL_length, List.length_drop]; omega)⟩
      obtain ⟨v0, hv0⟩ := hlk
      obtain ⟨g, off, hA, hg, hc, hf⟩ := HO.out.at_ hv0
      subst hA
      have HV := Lib.hid hv0
      clear hv0
      go_wp2_with fail
      refine (markText_any u _ hu1 (by omega)).mono ?_
      rintro e w2 ⟨rfl, hB2⟩
      have hgl : g < wr.heap.size := World.block_lt_of_cell? wr _ hc
      have hc2 := (World.cell?_of_block (w := wr) (a := ⟨g, off + k, none⟩) (hB2.block _ hgl)).trans hc
      have hf2 := (World.frozen?_of_block (w := wr) (a := ⟨g, off + k, none⟩) (hB2.block _ hgl)).trans hf
      have HS := Lib.hid ((HO.out.below hB2).set_ (k := k) (u := .string ⟨(mtL u).toArray⟩) HV.out)
      clear hc hf
      go_wp2
      go_roundw
      case rel => exact ⟨k + 1, u + 1, by omega, by go_num, by go_num, by omega, by omega, Lib.hid (by have := HU.out; omega), Lib.hid (by have h := HS.out; have h2 := mk_set m xs k hlt; rw [← HU.out] at h2; rw [h2] at h; exact h), (hB.trans (hB2.mono (by omega))).setCell hg _⟩
      case measure => simp [intOf]; omega
    · have hkn : k = xs.length := by omega
      subst hkn
      go_wp2
      go_ret
      exact ⟨by rw [← HU.out]; rfl, by have h := HO.out; rw [List.drop_length, List.append_nil] at h; exact h, hB⟩

theorem heldStringS_any (A : Option Addr) (c n m : Nat) (w : World) (hx : Hid (Rd w A (strs (mkL m n)))) (hm : 1 ≤ m) (hl : m + n ≤ 100000) :
    Calls Tryd.prog 41 #[.slice A n c, .int .i64 (m : Int)] w fun e w' => e = .returned (.int .i64 ((m + n : Nat) : Int)) ∧ Below w.heap.size w w' := by
  go_enter Tryd.func41, Tryd.ntmps41
  go_wp2
  go_loopw [1, 5] (fun q i wr => ∃ k u : Nat, k ≤ n ∧ i = .int .i64 k ∧ q = .int .i64 (u : Int) ∧ 1 ≤ u ∧ u + (n - k) ≤ 100000 ∧ Hid (u = m + k) ∧ Below w.heap.size w wr) (fun _ i _ => n - (intOf i).toNat)
  case atStart => exact ⟨0, m, Nat.zero_le _, rfl, rfl, hm, by omega, rfl, Below.refl _ _⟩
  case round =>
    obtain ⟨k, u, hk, rfl, rfl, hu1, hu2, HU, hB⟩ := hrel
    have hsz := hB.size
    by_cases hlt : k < n
    · obtain ⟨g, off, hA, hc0⟩ := hx.out.at_ (mkL_get m n k hlt)
      subst hA
      rw [← HU.out] at hc0
      have hgl0 : g < w.heap.size := World.block_lt_of_cell? w _ hc0
      have hc : wr.cell? ⟨g, off + k, none⟩ = some (.string ⟨(mtL u).toArray⟩) := (World.cell?_of_block (w := w) (a := ⟨g, off + k, none⟩) (hB.block _ hgl0)).trans hc0
      have hgl : g < wr.heap.size := by omega
      have hd := bytes_same ⟨(mtL u).toArray⟩
      go_wp2_with fail
      go_region_with (go_at_call 97; refine (markText_any u _ hu1 (by omega)).mono ?_; rintro e w2 ⟨rfl, hB2⟩; have hc2 := (World.cell?_of_block (w := wr) (a := ⟨g, off + k, none⟩) (hB2.block _ hgl)).trans hc)
      all_goals (
        have hB3 : Below wr.heap.size wr w2 := ⟨hB2.os, hB2.tape, hB2.output, hB2.size, hB2.block⟩
        go_wp2
        go_roundw
        case rel => exact ⟨k + 1, u + 1, by omega, by go_num, by go_num, by omega, by omega, Lib.hid (by have := HU.out; omega), hB.trans (hB3.mono hsz)⟩
        case measure => simp [intOf]; omega)
    · have hkn : k = n := by omega
      subst hkn
      go_wp2
      go_ret
      exact ⟨by rw [← HU.out]; rfl, hB⟩

set_option maxHeartbeats 1000000 in
theorem fnExactTrapsOf_walk (a0 : ByteArray) (w : World) (hm : Hid (HasM w)) (w0 : a0.size ≤ maxLen) :
    Calls Tryd.prog 11 #[.string a0] w fun e w' => e = .returned (.bool true) ∧ Below w.heap.size w w' := by
  unfold maxLen at w0
  by_cases h0 : 1048576 < a0.size
  · go_enter Tryd.func11, Tryd.ntmps11
    go_wp2
    go_ret
    exact ⟨rfl, Below.refl _ _⟩
  · obtain ⟨L, HL⟩ : ∃ L, Hid (L = trsN (cutL a0.data.toList)) := ⟨_, rfl⟩
    have hL : L.length ≤ 1000 := by rw [HL.out]; exact trsN_len _
    obtain ⟨u, HU⟩ : ∃ u, Hid (u = 1 + L.length) := ⟨_, rfl⟩
    have hd : ((u : Int) != (u : Int)) = false := bne_self_eq_false _
    have hu1 : 1 ≤ u := by have := HU.out; omega
    have hu2 : u ≤ 2000 := by have := HU.out; omega
    go_enter Tryd.func11, Tryd.ntmps11
    go_wp2_with fail
    refine (sTrapsOf_any a0 _ (by omega)).mono ?_
    rintro e W1 ⟨⟨A0, c0, rfl, hc0, hO0⟩, hB0⟩
    rw [← HL.out] at hc0 hO0 ⊢
    have hz1 := hB0.size
    go_wp2_with fail
    refine (TrapsOf_any a0 _ (Lib.hid (hm.out.below hB0)) (by omega)).mono ?_
    rintro e W2 ⟨⟨A1, c1, rfl, hc1, hO1⟩, hB1⟩
    rw [← HL.out] at hc1 hO1 ⊢
    have hz2 := hB1.size
    go_wp2_with fail
    refine (eqStringS_any _ _ _ _ L _ (Lib.hid hO1.rd) (Lib.hid (hO0.rd.below hB1)) (by omega)).mono ?_
    rintro e W3 ⟨rfl, n, rfl⟩
    go_wp2_with fail
    refine (markStringS_any A1 _ W1.heap.size L 1 (W2.drewN n) (Lib.hid hO1) (Nat.le_refl _) (by omega) hz2).mono ?_
    rintro e W3 ⟨rfl, hO3, hB3⟩
    rw [← HU.out]
    have HO3 := Lib.hid hO3
    have hz3 : W2.heap.size ≤ W3.heap.size := hB3.size
    clear hO3
    go_wp2_with fail
    refine (heldStringS_any A1 _ L.length 1 W3 (Lib.hid HO3.out.rd) (Nat.le_refl _) (by omega)).mono ?_
    rintro e W4 ⟨rfl, hB4⟩
    rw [← HU.out]
    have hB14 : Below W1.heap.size W1 W4 := ((hB1.trans (drewN_below _ _)).trans hB3).trans (hB4.mono (by omega))
    have HO4 := Lib.hid (HO3.out.below hB4)
    have hz4 := hB4.size
    go_wp2_with fail
    refine (TrapsOf_any a0 _ (Lib.hid ((hm.out.below hB0).below hB14)) (by omega)).mono ?_
    rintro e W5 ⟨⟨A5, c5, rfl, hc5, hO5⟩, hB5⟩
    rw [← HL.out] at hc5 hO5 ⊢
    have hB15 : Below W1.heap.size W1 W5 := hB14.trans (hB5.mono (by omega))
    go_wp2_with fail
    refine (eqStringS_any _ _ _ _ L _ (Lib.hid hO5.rd) (Lib.hid (hO0.rd.below hB15)) (by omega)).mono ?_
    rintro e W6 ⟨rfl, n6, rfl⟩
    go_wp2_with fail
    refine (heldStringS_any A1 _ L.length 1 (W5.drewN n6) (Lib.hid (HO4.out.below hB5).rd) (Nat.le_refl _) (by omega)).mono ?_
    rintro e W7 ⟨rfl, hB7⟩
    rw [← HU.out]
    have hB17 : Below W1.heap.size W1 W7 := (hB15.trans (drewN_below _ _)).trans (hB7.mono (by have := hB15.size; exact this))
    go_wp2
    go_ret
    exact ⟨rfl, hB0.trans (hB17.mono hz1)⟩

end Go.Proofs.YtfaidbngingjpaaDoor
