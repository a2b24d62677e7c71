/- Walks: tables of two tables, the table of a term (the program's side). -/
import Derived.Test.YtfkdameegljkeaaProg
import Derived.WalkKit
import Derived.WalkSpells
import Derived.WalkLawsBesides
import Derived.Lib.Hide
import Derived.Deep.QuietTactic
import Derived.Deep.RegionHeld3
import Derived.BigQuiet
import Derived.BigFrame
import Derived.Test.YtfkdameegljkeaaP2
namespace Go.Proofs.Ytfkdameegljkeaa
open Go.RowKit
set_option linter.unusedVariables false

theorem closed_join : ∀ (args : Array Value) (W : World), (callFunc 32 args).run Try.prog W = .ok (.enter 32 args) W := fun _ _ => by kernel_rfl
theorem join_clo (w7 : World) (g0 g3 g6 n F : Nat) (l1 l2 : List UInt8) (caps : Array Value) (op : Nat → Nat → Nat) (HX7 : Hid (Blk w7 g0 35 #[.func (.func F) #[] caps]))
    (HT7 : Hid (Blk w7 g3 38 (tabL n fun s => if s < 2 ^ n then val l1 s else 0).toArray)) (HU7 : Hid (Blk w7 g6 38 (tabL n fun s => if s < 2 ^ n then val l2 s else 0).toArray)) (hn5 : n ≤ 5)
    (HV1 : Hid (∀ s, val l1 s < 2)) (HV2 : Hid (∀ s, val l2 s < 2)) (hF : ∀ (args : Array Value) (W : World), (callFunc F args).run Try.prog W = .ok (.enter F args) W)
    (hC : Hid (∀ x y W, x < 2 → y < 2 → Calls Try.prog F (#[.int .u8 (x : Int), .int .u8 (y : Int)] ++ caps) W fun e w' => e = .returned (.int .u8 (op x y : Int)) ∧ W = w')) :
    Hid (Clo w7 (2 ^ n) 32 #[.pointer (some ⟨g0, 0, none⟩), .pointer (some ⟨g3, 0, none⟩), .pointer (some ⟨g6, 0, none⟩)] (fun s => op (val l1 s) (val l2 s))) := Lib.hid fun s W hs hBW => by
  have h32 := two_le _ hn5
  have h5 : W.cell? ⟨g0, 0, none⟩ = some (.func (.func F) #[] caps) := ((HX7.out.keep hBW).cell 0).trans rfl
  have h8 : W.cell? ⟨g3, 1 + s, none⟩ = some (.int .u8 (val l1 s : Int)) := by rw [(HT7.out.keep hBW).cell, List.getElem?_toArray, tabL_b _ _ _ (by omega), if_pos hs]
  have h10 : W.cell? ⟨g6, 1 + s, none⟩ = some (.int .u8 (val l2 s : Int)) := by rw [(HU7.out.keep hBW).cell, List.getElem?_toArray, tabL_b _ _ _ (by omega), if_pos hs]
  exact joinTables1_any g0 g3 g6 F s (val l1 s) (val l2 s) (op (val l1 s) (val l2 s)) caps W h5 h8 h10 hF (Lib.hid (fun W2 => hC.out _ _ W2 (HV1.out s) (HV2.out s))) (by omega)
set_option maxHeartbeats 1000000 in
set_option maxRecDepth 100000 in
theorem joinTables_any (l1 l2 : List UInt8) (n F : Nat) (caps : Array Value) (op : Nat → Nat → Nat) (w : World) (h1 : Hid (okT l1 = true ∧ tin l1.length = n)) (h2 : Hid (okT l2 = true ∧ tin l2.length = n)) (hl : l1.length ≤ 1000 ∧ l2.length ≤ 1000)
    (hF : ∀ (args : Array Value) (W : World), (callFunc F args).run Try.prog W = .ok (.enter F args) W) (hop : Hid (∀ x y, x < 2 → y < 2 → op x y < 2))
    (hC : Hid (∀ x y W, x < 2 → y < 2 → Calls Try.prog F (#[.int .u8 (x : Int), .int .u8 (y : Int)] ++ caps) W fun e w' => e = .returned (.int .u8 (op x y : Int)) ∧ W = w')) :
    Calls Try.prog 15 #[.string ⟨l1.toArray⟩, .string ⟨l2.toArray⟩, .func (.func F) #[] caps] w fun e w' => e = .returned (txtY (txt (2 ^ n) fun s => op (val l1 s) (val l2 s))) ∧ Below w.heap.size w w' := by
  obtain ⟨hl1, hl2⟩ := hl
  have hn5 : n ≤ 5 := by have := okT_true h1.out.1; rw [← h1.out.2]; omega
  obtain ⟨N, HN, hN32, hN0⟩ : ∃ N : Nat, Hid (N = 2 ^ n) ∧ N ≤ 32 ∧ 0 < N := ⟨_, Lib.hid rfl, two_le _ hn5, Nat.pos_of_ne_zero (by simp)⟩
  have HT1 := Lib.hid (tabOf_yes h1.out.1 h1.out.2)
  have HT2 := Lib.hid (tabOf_yes h2.out.1 h2.out.2)
  have HO1 := Lib.hid h1.out.1
  have HO2 := Lib.hid h2.out.1
  have HV1 : Hid (∀ s, val l1 s < 2) := Lib.hid (val_lt (okT_true h1.out.1).2.2.2)
  have HV2 : Hid (∀ s, val l2 s < 2) := Lib.hid (val_lt (okT_true h2.out.1).2.2.2)
  have hnn : ((n : Int) != (n : Int)) = false := bne_self_eq_false _
  have hBe : Below w.heap.size w (w.alloc (.cells #[.func (.func F) #[] caps] 35)) := (Below.refl _ _).alloc (Nat.le_refl _) _
  have HX := Lib.hid (Blk.new w 35 #[.func (.func F) #[] caps])
  go_enter Try.func15, Try.ntmps15
  go_wp2_with fail
  refine (readTableL2 l1 _ (by omega)).mono ?_
  rintro e w1 ⟨rfl, hB1⟩
  rw [HO1.out, HT1.out]
  have HX1 := Lib.hid (HX.out.keep hB1)
  have HB1 : Hid (Below w.heap.size w w1) := Lib.hid (hBe.trans (hB1.mono (by rw [alloc_size]; omega)))
  clear hBe hB1
  go_wp2_with (first
    | ((with_reducible refine wpStop (o := ⟨some 8, _, _, _, _, _⟩) ?_); refine ⟨?_⟩; refine wpList_alloc_blk rfl _ rfl _ (tab_alloc _) ?_; intro g3 w3 hg3 hb3 hB3; have HB3 : Hid (Below w1.heap.size w1 w3) := (Lib.hid (hB3 _ (Nat.le_refl _))); clear hB3)
    | ((with_reducible refine wpStop (o := ⟨none, Op.store 38 _ _, _, _, _, _⟩) ?_); refine ⟨?_⟩; refine wpList_store_blk rfl _ _ _ rfl rfl rfl hb3 (tab_fits _ _) (tab_same _ _ _ _) (tab_all _ _) ?_; intro w4 hb4 ho4; have HB4 : Hid (Below w1.heap.size w1 w4) := (Lib.hid (HB3.out.trans (Below.of_grown ho4 hg3 HB3.out.size))); have HX4 := Lib.hid (HX1.out.keep HB4.out); have HT4 := Lib.hid hb4; clear ho4 hb3 hb4))
  refine (readTableL2 l2 _ (by omega)).mono ?_
  rintro e w5 ⟨rfl, hB5⟩
  rw [HO2.out, HT2.out]
  have HX5 := Lib.hid (HX4.out.keep hB5)
  have HT5 := Lib.hid (HT4.out.keep hB5)
  have HB5 : Hid (Below w.heap.size w w5) := Lib.hid (HB1.out.trans ((HB4.out.mono HB1.out.size).trans (hB5.mono (Nat.le_trans HB1.out.size HB4.out.size))))
  have hg35 := HT5.out.lt
  clear hB5
  go_wp2_with (first
    | ((with_reducible refine wpStop (o := ⟨some 10, _, _, _, _, _⟩) ?_); refine ⟨?_⟩; refine wpList_alloc_blk rfl _ rfl _ (tab_alloc _) ?_; intro g6 w6 hg6 hb6 hB6; have HB6 : Hid (Below w5.heap.size w5 w6) := (Lib.hid (hB6 _ (Nat.le_refl _))); clear hB6)
    | ((with_reducible refine wpStop (o := ⟨none, Op.store 38 _ _, _, _, _, _⟩) ?_); refine ⟨?_⟩; refine wpList_store_blk rfl _ _ _ rfl rfl rfl hb6 (tab_fits _ _) (tab_same _ _ _ _) (tab_all _ _) ?_; intro w7 hb7 ho7; have HB7 : Hid (Below w5.heap.size w5 w7) := (Lib.hid (HB6.out.trans (Below.of_grown ho7 hg6 HB6.out.size))); have HX7 := Lib.hid (HX5.out.keep HB7.out); have HT7 := Lib.hid (HT5.out.keep HB7.out); have HU7 := Lib.hid hb7; have hc3 : w7.cell? ⟨g3, 0, none⟩ = some (.int .i64 (n : Int)) := (by rw [HT7.out.cell, List.getElem?_toArray, tabL_n]); have hc6 : w7.cell? ⟨g6, 0, none⟩ = some (.int .i64 (n : Int)) := (by rw [hb7.cell, List.getElem?_toArray, tabL_n]); have HCL := join_clo w7 w.heap.size g3 g6 n F l1 l2 caps op HX7 HT7 HU7 hn5 HV1 HV2 hF hC; clear ho7 hb6 hb7)
    | (go_at_call 17; refine (each_any n _ _ (fun s => op (val l1 s) (val l2 s)) _ hn5 closed_join HCL).mono ?_; rintro e w8 ⟨rfl, hB8⟩)
    | (go_at_call 19; refine (text_any n N _ _ hn5 HN (Lib.hid (fun s _ => by split; exact hop.out _ _ (HV1.out s) (HV2.out s); omega))).mono ?_; rintro e w9 ⟨rfl, hB9⟩; rw [txt_cut HN.out]))
  go_ret2
  have h7 : Below w.heap.size w w7 := HB5.out.trans (HB7.out.mono HB5.out.size)
  have h8 : Below w.heap.size w w8 := h7.trans (hB8.mono h7.size)
  exact ⟨by rw [HN.out]; rfl, h8.trans (hB9.mono h8.size)⟩

end Go.Proofs.Ytfkdameegljkeaa
