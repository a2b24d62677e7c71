/- Walks: the rule of a switch, the value of a table. -/
import Derived.Test.YtpehimjngofnkaaDoorProg
import Derived.WalkKit
import Derived.WalkSpells
import Derived.WalkLawsBesides
import Derived.Lib.Hide
import Derived.Deep.QuietTactic
import Derived.BigQuiet
import Derived.BigFrame
import Derived.Test.YtpehimjngofnkaaDoorG2
namespace Go.Proofs.YtpehimjngofnkaaDoor
open Go.RowKit
set_option linter.unusedVariables false

set_option maxHeartbeats 1000000 in
set_option maxRecDepth 100000 in
theorem RuleOf_ok (s : ByteArray) (k : Nat) (w : World) (hm : Hid (HasM w)) (hs : s.size ≤ 1073741824) (h : Hid (okSw (cutL s.data.toList) (k : Int) = true)) :
    Calls Tryd.prog 51 #[.string s, .int .i64 (k : Int)] w fun e w' => e = .returned (.string ⟨((cutL s.data.toList).getD k []).toArray⟩) ∧ Below w.heap.size w w' := by
  obtain ⟨ps, HPS⟩ : ∃ ps, Hid (ps = cutL s.data.toList) := ⟨_, rfl⟩
  rw [← HPS.out] at h ⊢
  obtain ⟨hok, k', hk', hlt'⟩ := okSw_true h.out
  have hlt : k < ps.length := by omega
  clear hk' hlt'
  have hn5 := okN_le hok
  obtain ⟨N, HN, hN32, hN0⟩ : ∃ N : Nat, Hid (N = 2 ^ ps.length) ∧ N ≤ 32 ∧ 0 < N := ⟨_, rfl, two_le _ hn5, Nat.pos_of_ne_zero (by simp)⟩
  obtain ⟨pk, HPK⟩ : ∃ pk, Hid (pk = ps.getD k []) := ⟨_, rfl⟩
  rw [← HPK.out]
  have HT : Hid (txt N (tv ps.length ps[k]) = pk) := Lib.hid (by rw [HPK.out, txt_tv hok HN.out hlt, List.getD_eq_getElem?_getD, List.getElem?_eq_getElem hlt, Option.getD_some])
  have HB2 : Hid (∀ s, s < N → tv ps.length ps[k] s < 2) := Lib.hid (fun s _ => tv_lt hok hlt)
  clear hok
  go_enter Tryd.func51, Tryd.ntmps51
  go_wp2_with fail
  refine (switchOf_any s k w hm hs).mono ?_
  rintro e w1 ⟨⟨A, j, c, rfl, himp⟩, hB1⟩
  rw [← HPS.out] at himp ⊢
  obtain ⟨rfl, hc, hO⟩ := himp h.out
  rw [h.out]
  obtain ⟨g, off, hA, hr⟩ := netL_range hO.rd hlt
  subst hA
  have HR := Lib.hid hr
  clear hr hO himp
  go_wp2_with (first
    | ((with_reducible refine wpStop (o := ⟨some 18, _, _, _, _, _⟩) ?_); refine ⟨?_⟩; refine wpList_load_mid rfl _ _ rfl g _ rfl (tabL ps.length (tv ps.length ps[k])) _ HR.out Tryd.underlying95 rfl (by rw [tab_size, tabL_length]) ?_)
    | (go_at_call 101; refine (text_any ps.length N _ _ hn5 HN HB2).mono ?_; rintro e w5 ⟨rfl, hB5⟩; rw [HT.out]))
  go_ret
  exact ⟨rfl, hB1.trans (hB5.mono hB1.size)⟩

/-- the rule of a switch, or no text -/
def rulN (ps : List (List UInt8)) (t : Int) : List UInt8 := if okSw ps t then ps.getD t.toNat [] else []
theorem RuleOf_any (s : ByteArray) (t : Int) (w : World) (hm : Hid (HasM w)) (hs : s.size ≤ 1073741824) :
    Calls Tryd.prog 51 #[.string s, .int .i64 t] w fun e w' => e = .returned (.string ⟨(rulN (cutL s.data.toList) t).toArray⟩) ∧ Below w.heap.size w w' := by
  by_cases h : okSw (cutL s.data.toList) t = true
  · obtain ⟨_, k, rfl, _⟩ := okSw_true h
    have e : rulN (cutL s.data.toList) ((k : Nat) : Int) = (cutL s.data.toList).getD k [] := by rw [rulN, if_pos h]; rfl
    rw [e]
    exact RuleOf_ok s k w hm hs (Lib.hid h)
  · have HSW : Hid (okSw (cutL s.data.toList) t = false) := Lib.hid (by simpa using h)
    have HV : Hid (rulN (cutL s.data.toList) t = []) := Lib.hid (by rw [rulN, if_neg h])
    clear h
    go_enter Tryd.func51, Tryd.ntmps51
    go_wp2_with fail
    refine (switchOf_any s t w hm hs).mono ?_
    rintro e w1 ⟨⟨A, j, c, rfl, himp⟩, hB1⟩
    clear himp
    rw [HSW.out]
    go_wp2
    go_ret
    exact ⟨by rw [HV.out]; rfl, hB1⟩

section
variable {P : Program} {ops : Array Oper} {rest : List Oper} {o : Oper} {a : Act} {w : World} {Q : Exit → Act → World → Prop}
theorem wpList_load_blk_g (hw : Region.wanted o (yielded ops a.tmps) = true) (ty : TypeId) (x : Operand) (ho : o.op = .load ty x) {g : Nat} {cs : Array Value} {d : TypeDesc} (hx : a.eval x = .pointer (some ⟨g, 0, none⟩))
    (hg : Blk w g ty cs) (hu : P.underlying ty = some d) (hd : d.isRow = true) (hi : (P.info? ty).map (·.size) = some cs.size)
    (h : wpList P ops Q rest (a.put o.dst (.agg cs)) w) : wpList P ops Q (o :: rest) a w :=
  BigFrame.wpList_want hw fun _ hK => wp_load_row ty x ho g hx ty cs (0, 0) d hg hu (by cases d <;> simp_all) hi (hK _ _ h)
end
end Go.Proofs.YtpehimjngofnkaaDoor
