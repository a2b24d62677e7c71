/- Walks: the rule of a switch, the value of a table. -/
import Derived.Test.YtjinmoeabkpmaaaDoorProg
import Derived.WalkKit
import Derived.WalkSpells
import Derived.WalkLawsBesides
import Derived.Lib.Hide
import Derived.Deep.QuietTactic
import Derived.BigQuiet
import Derived.BigFrame
import Derived.Test.YtjinmoeabkpmaaaDoorY8
import Derived.Test.YtjinmoeabkpmaaaDoorY9
namespace Go.Proofs.YtjinmoeabkpmaaaDoor
open Go.RowKit
set_option linter.unusedVariables false

set_option maxHeartbeats 1000000 in
set_option maxRecDepth 100000 in
theorem RuleOf_ok (s : ByteArray) (k : Nat) (w : World) (hm : Hid (HasM w)) (hs : s.size ≤ 1073741824) (h : Hid (okSw (cutL s.data.toList) (k : Int) = true)) :
    Calls Tryd.prog 35 #[.string s, .int .i64 (k : Int)] w fun e w' => e = .returned (.string ⟨((cutL s.data.toList).getD k []).toArray⟩) ∧ Below w.heap.size w w' := by
  obtain ⟨ps, HPS⟩ : ∃ ps, Hid (ps = cutL s.data.toList) := ⟨_, rfl⟩
  rw [← HPS.out] at h ⊢
  obtain ⟨hok, k', hk', hlt'⟩ := okSw_true h.out
  have hlt : k < ps.length := by omega
  clear hk' hlt'
  have hn5 := okN_le hok
  obtain ⟨N, HN, hN32, hN0⟩ : ∃ N : Nat, Hid (N = 2 ^ ps.length) ∧ N ≤ 32 ∧ 0 < N := ⟨_, rfl, two_le _ hn5, Nat.pos_of_ne_zero (by simp)⟩
  obtain ⟨pk, HPK⟩ : ∃ pk, Hid (pk = ps.getD k []) := ⟨_, rfl⟩
  rw [← HPK.out]
  have HT : Hid (txt N (tv ps.length ps[k]) = pk) := Lib.hid (by rw [HPK.out, txt_tv hok HN.out hlt, List.getD_eq_getElem?_getD, List.getElem?_eq_getElem hlt, Option.getD_some])
  have HB2 : Hid (∀ s, s < N → tv ps.length ps[k] s < 2) := Lib.hid (fun s _ => tv_lt hok hlt)
  clear hok
  go_enter Tryd.func35, Tryd.ntmps35
  go_wp2_with fail
  refine (switchOf_any s k w hm hs).mono ?_
  rintro e w1 ⟨⟨A, j, c, rfl, himp⟩, hB1⟩
  rw [← HPS.out] at himp ⊢
  obtain ⟨rfl, hc, hO⟩ := himp h.out
  rw [h.out]
  obtain ⟨g, off, hA, hr⟩ := netL_range hO.rd hlt
  subst hA
  have HR := Lib.hid hr
  clear hr hO himp
  go_wp2_with (first
    | ((with_reducible refine wpStop (o := ⟨some 18, _, _, _, _, _⟩) ?_); refine ⟨?_⟩; refine wpList_load_mid rfl _ _ rfl g _ rfl (tabL ps.length (tv ps.length ps[k])) _ HR.out Tryd.underlying76 rfl (by rw [tab_size, tabL_length]) ?_)
    | (go_at_call 98; refine (text_any ps.length N _ _ hn5 HN HB2).mono ?_; rintro e w5 ⟨rfl, hB5⟩; rw [HT.out]))
  go_ret
  exact ⟨rfl, hB1.trans (hB5.mono hB1.size)⟩

section
variable {P : Program} {ops : Array Oper} {rest : List Oper} {o : Oper} {a : Act} {w : World} {Q : Exit → Act → World → Prop}
theorem wpList_load_blk_g (hw : Region.wanted o (yielded ops a.tmps) = true) (ty : TypeId) (x : Operand) (ho : o.op = .load ty x) {g : Nat} {cs : Array Value} {d : TypeDesc} (hx : a.eval x = .pointer (some ⟨g, 0, none⟩))
    (hg : Blk w g ty cs) (hu : P.underlying ty = some d) (hd : d.isRow = true) (hi : (P.info? ty).map (·.size) = some cs.size)
    (h : wpList P ops Q rest (a.put o.dst (.agg cs)) w) : wpList P ops Q (o :: rest) a w :=
  BigFrame.wpList_want hw fun _ hK => wp_load_row ty x ho g hx ty cs (0, 0) d hg hu (by cases d <;> simp_all) hi (hK _ _ h)
end
set_option maxHeartbeats 1000000 in
set_option maxRecDepth 100000 in
theorem ValueAt_ok (l : List UInt8) (s : Nat) (w : World) (hl : l.length ≤ 1000) (hok : Hid (okT l = true)) (hs : Hid (s < 2 ^ tin l.length)) :
    Calls Tryd.prog 34 #[.string ⟨l.toArray⟩, .int .i64 (s : Int)] w fun e w' => e = .returned (.int .i64 (val l s : Int)) ∧ Below w.heap.size w w' := by
  obtain ⟨n, Hn⟩ : ∃ n, Hid (n = tin l.length) := ⟨_, rfl⟩
  have h5 : n ≤ 5 := by rw [Hn.out]; have := okT_true hok.out; omega
  obtain ⟨N, HN, hN32, hN0⟩ : ∃ N : Nat, Hid (N = 2 ^ n) ∧ N ≤ 32 ∧ 0 < N := ⟨_, rfl, two_le _ h5, Nat.pos_of_ne_zero (by simp)⟩
  have hsN : s < N := by rw [HN.out, Hn.out]; exact hs.out
  have h32 : s < 32 := by omega
  obtain ⟨b, Hb⟩ : ∃ b : Nat → Nat, Hid (b = fun s => if s < 2 ^ n then val l s else 0) := ⟨fun s => if s < 2 ^ n then val l s else 0, Lib.hid rfl⟩
  have HTB : Hid (tabOf l = tabL n b) := Lib.hid (by rw [tabOf_yes hok.out Hn.out.symm, Hb.out])
  have HV : Hid (b s = val l s) := Lib.hid (by rw [Hb.out]; show (if s < 2 ^ n then val l s else 0) = _; rw [if_pos (by rw [← HN.out]; exact hsN)])
  have hv2 : val l s < 2 := val_lt (okT_true hok.out).2.2.2 s
  go_enter Tryd.func34, Tryd.ntmps34
  go_wp2_with fail
  refine (readTableL l w (by omega)).mono ?_
  rintro e w1 ⟨rfl, hB1⟩
  rw [hok.out, HTB.out]
  go_wp2_with (first
    | ((with_reducible refine wpStop (o := ⟨some 5, _, _, _, _, _⟩) ?_); refine ⟨?_⟩; refine wpList_alloc_blk rfl _ rfl _ (tab_alloc _) ?_; intro g3 w3 hg3 hb3 hB3)
    | ((with_reducible refine wpStop (o := ⟨none, Op.store 76 _ _, _, _, _, _⟩) ?_); refine ⟨?_⟩; refine wpList_store_blk rfl _ _ _ rfl rfl rfl hb3 (tab_fits _ _) (tab_same _ _ _ _) (tab_all _ _) ?_; intro w4 hb4 ho4; have hB24 : Below w1.heap.size w1 w4 := (hB3 _ (Nat.le_refl _)).trans (Below.of_grown ho4 hg3 (hB3 0 (Nat.zero_le _)).size); have hc4 : w4.cell? ⟨g3, 1 + s, none⟩ = some (.int .u8 (val l s : Int)) := (by rw [hb4.cell, List.getElem?_toArray, tabL_b _ _ _ h32, HV.out]))
    | ((with_reducible refine wpStop (o := ⟨some 20, _, _, _, _, _⟩) ?_); refine ⟨?_⟩; refine wpList_load_blk_g (by rfl) _ _ rfl rfl hb4 Tryd.underlying76 rfl (tab_fits _ _) ?_)
    | (go_at_call 96; refine (width_any n N _ _ h5 HN).mono ?_; rintro e w5 ⟨rfl, hB5⟩; have hc5 := (World.cell?_of_block (w := w4) (hB5.block _ (World.block_lt_of_cell? w4 _ hc4))).trans hc4; clear hb3 hb4 ho4 hc4))
  go_ret
  exact ⟨rfl, hB1.trans ((hB24.mono hB1.size).trans (hB5.mono (Nat.le_trans hB1.size hB24.size)))⟩

end Go.Proofs.YtjinmoeabkpmaaaDoor
