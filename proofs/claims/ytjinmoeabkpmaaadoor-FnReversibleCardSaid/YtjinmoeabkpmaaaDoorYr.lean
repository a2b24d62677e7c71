/- Walks: a drawn network whose steps can often be undone. -/
import Derived.Test.YtjinmoeabkpmaaaDoorProg
import Derived.WalkKit
import Derived.WalkSpells
import Derived.WalkLawsBesides
import Derived.Lib.Hide
import Derived.Deep.QuietTactic
import Derived.BigQuiet
import Derived.Test.YtjinmoeabkpmaaaDoorYb
import Derived.Test.YtjinmoeabkpmaaaDoorYp
import Derived.Test.YtjinmoeabkpmaaaDoorYq
namespace Go.Proofs.YtjinmoeabkpmaaaDoor
open Go.RowKit
set_option linter.unusedVariables false

set_option maxHeartbeats 4000000 in
set_option maxRecDepth 100000 in
theorem l4Draw_any (B g p : Nat) (w : World) (h : Rdr w B g p) (hp : p ≤ 700000) :
    Calls Tryd.prog 118 #[.pointer (some ⟨g, 0, none⟩)] w fun e w' => StrP w B g p 1010 400 e w' := by
  have hgl := h.lt.2
  go_enter Tryd.func118, Tryd.ntmps118
  go_wp2_with fail
  refine (pick_any B g p _ _ h (by omega) (by omega) (by omega)).mono ?_
  rintro e w1 ⟨a, rfl, ha, hR1, hG1⟩
  obtain ⟨n, hn⟩ : ∃ n : Nat, (1 : Int) + (a : Int) = (n : Int) := ⟨a + 1, by omega⟩
  have hn1 : 1 ≤ n := by omega
  have hn3 : n ≤ 3 := by omega
  go_wp2_with fail
  try rw [hn]
  refine (pick_any B g (p + 1) _ _ hR1 (by omega) (by omega) (by omega)).mono ?_
  rintro e w2 ⟨b, rfl, hb, hR2, hG2⟩
  try rw [hn]
  have HG2 := Lib.hid (grn_trans hG1 hG2)
  have hgl2 := hR2.lt.2
  clear hG1 hG2 hR1 hn ha
  by_cases hb0 : b = 0
  · subst hb0
    go_wp2_with fail
    refine (l3Network_any B g _ _ hR2 (by omega)).mono ?_
    rintro e w3 ⟨t, p3, rfl, ht, hp3, hR3, hG3⟩
    go_wp2
    go_ret
    exact ⟨t, p3, rfl, ht, by omega, hR3, grn_trans HG2.out hG3⟩
  · obtain ⟨N, HN, hN32, hN0⟩ : ∃ N : Nat, Hid (N = 2 ^ n) ∧ N ≤ 32 ∧ 0 < N := ⟨_, rfl, two_le _ (by omega), Nat.pos_of_ne_zero (by simp)⟩
    go_wp2_with fail
    refine (l3Orders_any B g _ n _ hR2 (by omega) (by omega)).mono ?_
    rintro e w3 ⟨A, c, xs, p3, rfl, hc, hO3, hxl, hall, hp3, hR3, hG3⟩
    have HG3 := Lib.hid (grn_trans HG2.out hG3)
    have HO3 := Lib.hid hO3
    have HALL := Lib.hid hall
    have hgl3 := hR3.lt.2
    have HE := Lib.hid (OS.empty w3 w3.heap.size 9 (Nat.le_refl _))
    have HR3 := Lib.hid (And.intro (hR3.keep ((Below.refl _ _).alloc (Nat.le_refl _) (.cells #[] 9))) (grn_below (g := g) ((Below.refl _ w3).alloc (Nat.le_refl _) (.cells #[] 9))))
    clear hO3 hall hG3 hR3 hR2
    go_wp2_with fail
    go_loopw [5, 6] (fun v q wr => ∃ (k p' : Nat) (ps : List (List UInt8)), k ≤ n ∧ q = .int .i64 k ∧ Hid (k = 0 ∨ xs.length = n) ∧ Hid (ps.length = k) ∧ p' ≤ p3 + k ∧ Hid (OS wr w3.heap.size 9 v ps ∧ ∀ x ∈ ps, 1 ≤ x.length ∧ x.length ≤ 32) ∧ Hid (Rdr wr B g p' ∧ w3.grownBy wr (some g))) (fun _ q _ => n - (intOf q).toNat)
    case atStart => exact ⟨0, p3, [], Nat.zero_le _, rfl, Lib.hid (.inl rfl), rfl, by omega, Lib.hid ⟨HE.out, by simp⟩, HR3⟩
    case round =>
      obtain ⟨k, p', ps, hk, rfl, hkx, HL, hp', HO, HR⟩ := hrel
      have hvl : ps.length ≤ 5 := by rw [HL.out]; omega
      have hszw : w3.heap.size ≤ wr.heap.size := HR.out.2.size
      by_cases hlt : k < n ∧ xs.length = n
      · obtain ⟨hkn, hxn⟩ := hlt
        obtain ⟨x, hx⟩ : ∃ x, xs[k]? = some x := ⟨_, List.getElem?_eq_getElem (by omega)⟩
        obtain ⟨hx0, hx1⟩ := HALL.out hxn x (List.mem_of_getElem? hx)
        obtain ⟨y, rfl⟩ : ∃ y : Nat, x = (y : Int) := ⟨x.toNat, by omega⟩
        have hyn : y < n := by omega
        obtain ⟨gA, oA, hA, hcell⟩ := (HO3.out.only hgl2 (grn_trans (grn_below (Below.refl _ _)) (by exact HR.out.2))).rd.at_ (k := k) (v := .int .i64 (y : Int)) (by rw [List.getElem?_map, hx]; rfl)
        subst hA
        have hdx : ((xs.length : Int) == (n : Int)) = true := by rw [beq_iff_eq]; omega
        clear hx hx0 hx1
        go_wp2_with fail
        refine (InputTable_any n y N _ hn1 (by omega) hyn HN).mono ?_
        rintro e w4 ⟨⟨vs, rfl, hvs, hvb⟩, hB4⟩
        have HVB := Lib.hid hvb
        have HR4 := Lib.hid (And.intro (HR.out.1.keep hB4) (grn_bel HR.out.2 (hB4.mono hszw)))
        have HO4 := Lib.hid (HO.out.1.below hB4)
        have hgl4 := HR4.out.1.lt.2
        have hz4 : w3.heap.size ≤ w4.heap.size := HR4.out.2.size
        clear hvb hB4
        go_wp2_with fail
        refine (pick_any B g p' _ _ HR4.out.1 (by omega) (by omega) (by omega)).mono ?_
        rintro e w5 ⟨d, rfl, hd, hR5, hG5⟩
        have HR5 := Lib.hid (And.intro hR5 (grn_trans HR4.out.2 hG5))
        have HO5 := Lib.hid (HO4.out.only hgl3 hG5)
        have hz5 : w3.heap.size ≤ w5.heap.size := HR5.out.2.size
        clear hG5 hR5
        by_cases hd0 : d = 0
        · subst hd0
          go_wp2_with fail
          refine (l1Not_any vs _ HVB (by omega)).mono ?_
          rintro e w6 ⟨⟨us, rfl, hus, hub⟩, hB6⟩
          have HR6 := Lib.hid (And.intro (HR5.out.1.keep hB6) (grn_bel HR5.out.2 (hB6.mono hz5)))
          have HO6 := Lib.hid (HO5.out.below hB6)
          have hz6 : w3.heap.size ≤ w6.heap.size := HR6.out.2.size
          have HCL : Hid ((chrs us).length = N) := Lib.hid (by rw [chrs_length, hus, hvs])
          clear hub hB6
          go_wp2_with (at_builtin; refine wp_pushS rfl _ _ _ rfl Tryd.underlying47 info_str HO6.out rfl rfl (by omega) (by omega) ?_; intro v' w7 hown hbel hsz7)
          go_roundw
          case rel => exact ⟨k + 1, by omega, by omega, Lib.hid trivial, p' + 1, ps ++ [chrs us], Lib.hid (by rw [List.length_append, HL.out]; rfl), by omega, Lib.hid ⟨hown, fun x hx => by
            rcases List.mem_append.1 hx with hx | hx
            · exact HO.out.2 x hx
            · simp at hx; rw [hx, HCL.out]; omega⟩, Lib.hid ⟨HR6.out.1.keepB (hbel (g + 1) (by omega)), grn_bel HR6.out.2 (hbel _ (Nat.le_refl _))⟩⟩
          case measure => simp [intOf]; omega
        · have HCL : Hid ((chrs vs).length = N) := Lib.hid (by rw [chrs_length, hvs])
          go_wp2_with (at_builtin; refine wp_pushS rfl _ _ _ rfl Tryd.underlying47 info_str HO5.out rfl rfl (by omega) (by omega) ?_; intro v' w7 hown hbel hsz7)
          go_roundw
          case rel => exact ⟨k + 1, by omega, by omega, Lib.hid trivial, p' + 1, ps ++ [chrs vs], Lib.hid (by rw [List.length_append, HL.out]; rfl), by omega, Lib.hid ⟨hown, fun x hx => by
            rcases List.mem_append.1 hx with hx | hx
            · exact HO.out.2 x hx
            · simp at hx; rw [hx, HCL.out]; omega⟩, Lib.hid ⟨HR5.out.1.keepB (hbel (g + 1) (by omega)), grn_bel HR5.out.2 (hbel _ (Nat.le_refl _))⟩⟩
          case measure => simp [intOf]; omega
      · have hcn : k = n ∨ (k < n ∧ ¬ xs.length = n) := by have := hkx.out; omega
        obtain ⟨A', c', rfl, hc', hO'⟩ := HO.out.1.form
        have hle := joinN_len (M := 32) (fun x hx => (HO.out.2 x hx).2) ps.length (Nat.le_refl _)
        rw [List.take_length] at hle
        have HT1 := Lib.hid (l3Text_any A' c' ps wr (Lib.hid hO'.rd) (Lib.hid (fun x hx => Nat.le_trans (HO.out.2 x hx).2 (by omega))) (by omega))
        have hts : (⟨(joinN ps).toArray⟩ : ByteArray).size ≤ 1010 := by rw [str_size]; omega
        have HTS := Lib.hid hts
        clear hO' hts hlt
        rcases hcn with hcn | ⟨hcn, hxn⟩
        · subst hcn
          go_wp2_with (go_at_call 114; refine HT1.out.mono ?_; rintro e w5 ⟨rfl, rfl⟩)
          go_ret
          exact ⟨_, p', rfl, HTS.out, by omega, HR.out.1, grn_trans HG3.out HR.out.2⟩
        · have hdx : ((xs.length : Int) == (n : Int)) = false := by rw [beq_eq_false_iff_ne]; omega
          go_wp2_with (go_at_call 114; refine HT1.out.mono ?_; rintro e w5 ⟨rfl, rfl⟩)
          go_ret
          exact ⟨_, p', rfl, HTS.out, by omega, HR.out.1, grn_trans HG3.out HR.out.2⟩

theorem DrawIsReversible_any (A : Option Addr) (n c : Nat) (bs : List Int) (w : World) (hn : n = bs.length) (hnc : n ≤ c) (hc : c ≤ 9223372036854775807) (hr : Hid (Rd w A (bs.map (Value.int .u8)))) (hx : Hid (∀ x ∈ bs, 0 ≤ x ∧ x < 256)) :
    Calls Tryd.prog 68 #[.slice A n c] w fun e w' => DrwP w.heap.size w e w' := by
  have HNL := Lib.hid hn
  clear hn
  go_enter Tryd.func68, Tryd.ntmps68
  go_wp2_with fail
  refine (l14Open_any _ _ _ _ _ HNL.out hnc hc hr hx).mono ?_
  rintro e w1 ⟨g, rfl, hR, hg, hB1⟩
  go_wp2_with fail
  refine (l4Draw_any g g 0 _ hR (by omega)).mono ?_
  rintro e w2 ⟨t, p2, rfl, ht, hp2, hR2, hG2⟩
  go_wp2
  go_ret
  exact ⟨⟨t, rfl, ht⟩, hB1.trans (Below.of_grown hG2 hg hB1.size)⟩

end Go.Proofs.YtjinmoeabkpmaaaDoor
