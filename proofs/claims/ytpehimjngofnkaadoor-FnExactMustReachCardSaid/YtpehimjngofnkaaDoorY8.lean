/- Walks: the texts of tables and of networks, on both sides. -/
import Derived.Test.YtpehimjngofnkaaDoorProg
import Derived.WalkKit
import Derived.WalkSpells
import Derived.WalkLawsBesides
import Derived.Lib.Hide
import Derived.Lib.Join
import Derived.Deep.QuietTactic
import Derived.Deep.RegionHeld3
import Derived.BigQuiet
import Derived.Test.YtpehimjngofnkaaDoorY7
import Derived.Test.YtpehimjngofnkaaDoorWx
namespace Go.Proofs.YtpehimjngofnkaaDoor
open Go.RowKit
set_option linter.unusedVariables false

/-- the text of the texts of tables -/
def joinN (ps : List (List UInt8)) : List UInt8 := Lib.join ps [44]
theorem joinN_one {ps : List (List UInt8)} (h : 0 < ps.length) : joinN (ps.take 1) = ps[0] := by
  cases ps with
  | nil => simp at h
  | cons p r => exact Lib.join_one p [44]
theorem joinN_succ {ps : List (List UInt8)} {k : Nat} (h : k < ps.length) (h0 : ¬ k = 0) : joinN (ps.take (k + 1)) = joinN (ps.take k) ++ [44] ++ ps[k] := by
  obtain ⟨j, rfl⟩ : ∃ j, k = j + 1 := ⟨k - 1, by omega⟩
  cases ps with
  | nil => simp at h
  | cons p r =>
    have hj : j < r.length := by simpa using h
    rw [List.take_succ_cons, List.take_succ_cons, joinN, joinN, Lib.join_cons, Lib.join_cons, Lib.joinTail_take_succ [44] r j r[j] (List.getElem?_eq_getElem hj)]
    simp
theorem joinN_len {ps : List (List UInt8)} {M : Nat} (hM : ∀ p ∈ ps, p.length ≤ M) : ∀ k, k ≤ ps.length → (joinN (ps.take k)).length ≤ (M + 1) * k := by
  intro k
  induction k with
  | zero => intro _; simp [joinN, Lib.join_nil]
  | succ k ih =>
    intro h
    have h1 := ih (by omega)
    have h2 := hM _ (List.getElem_mem (show k < ps.length by omega))
    by_cases h0 : k = 0
    · subst h0
      rw [joinN_one (by omega)]
      omega
    · rw [joinN_succ (by omega) h0]
      simp only [List.length_append, List.length_cons, List.length_nil]
      rw [Nat.mul_succ]
      omega
theorem txt_tv {ps : List (List UInt8)} {k N : Nat} (h : okN ps = true) (HN : N = 2 ^ ps.length) (hk : k < ps.length) : txt N (tv ps.length ps[k]) = ps[k] := by
  have hl := part_len h HN hk
  have hb : ∀ c ∈ ps[k], b01 c = true := (okT_true (okN_of h (List.getElem_mem hk)).1).2.2.2
  have h1 := txt_val hb
  rw [hl] at h1
  refine Eq.trans (txt_congr fun s hs => ?_) h1
  rw [tv, if_pos (by rw [← HN]; exact hs)]
theorem tv_lt {ps : List (List UInt8)} {k s : Nat} (h : okN ps = true) (hk : k < ps.length) : tv ps.length ps[k] s < 2 := by
  unfold tv
  split
  · exact val_lt (okT_true (okN_of h (List.getElem_mem hk)).1).2.2.2 s
  · omega

theorem str_add (a b : List UInt8) : (⟨a.toArray⟩ : ByteArray) ++ ⟨b.toArray⟩ = ⟨(a ++ b).toArray⟩ := str_append a b
set_option maxHeartbeats 400000 in
theorem l3Text_any (A : Option Addr) (c : Nat) (ps : List (List UInt8)) (w : World) (hx : Hid (Rd w A (strs ps))) (hl : Hid (∀ p ∈ ps, p.length ≤ 1000)) (hn : ps.length ≤ 1000) :
    Calls Tryd.prog 86 #[.slice A ps.length c] w fun e w' => e = .returned (.string ⟨(joinN ps).toArray⟩) ∧ w = w' := by
  have HLN := Lib.hid (joinN_len hl.out)
  go_enter Tryd.func86, Tryd.ntmps86
  go_wp2
  go_loopw [3, 4] (fun o i wr => ∃ k : Nat, k ≤ ps.length ∧ i = .int .i64 k ∧ o = .string ⟨(joinN (ps.take k)).toArray⟩ ∧ wr = w) (fun _ i _ => ps.length - (intOf i).toNat)
  case atStart => exact ⟨0, Nat.zero_le _, rfl, rfl, rfl⟩
  case round =>
    obtain ⟨k, hk, rfl, rfl, rfl⟩ := hrel
    by_cases hlt : k < ps.length
    · obtain ⟨g, off, hA, hcell⟩ := hx.out.text hlt
      subst hA
      have hj1 := HLN.out k hk
      have hj2 := hl.out ps[k] (List.getElem_mem hlt)
      by_cases h0 : k = 0
      · subst h0
        have HE := Lib.hid (joinN_one hlt)
        rw [Nat.add_zero] at hcell
        have hj0 : (joinN ([] : List (List UInt8))).length ≤ 0 := Nat.le_refl _
        go_wp2_with fail
        go_roundw
        case rel => exact ⟨1, by omega, by go_num, by rw [HE.out]; exact congrArg Value.string (str_add [] ps[0]), trivial⟩
        case measure => simp [intOf]; omega
      · have HE := Lib.hid (joinN_succ hlt h0)
        have h00 : 0 < k := by omega
        clear h0
        go_wp2_with fail
        go_roundw
        case rel => exact ⟨k + 1, by omega, by go_num, by rw [HE.out, show (({ data := #[44] } : ByteArray)) = ⟨[44].toArray⟩ from rfl, str_add, str_add], trivial⟩
        case measure => simp [intOf]; omega
    · have hkn : k = ps.length := by omega
      subst hkn
      go_wp2
      go_ret
      exact ⟨by rw [List.take_length]; rfl, rfl⟩

set_option maxHeartbeats 1000000 in
set_option maxRecDepth 100000 in
theorem netText_any (A : Option Addr) (c : Nat) (ps : List (List UInt8)) (w : World) (hx : Hid (Rd w A (netL ps))) (hok : Hid (okN ps = true)) (h1 : 1 ≤ ps.length) :
    Calls Tryd.prog 91 #[.slice A ps.length c] w fun e w' => e = .returned (.string ⟨(joinN ps).toArray⟩) ∧ Below w.heap.size w w' := by
  have hn5 := okN_le hok.out
  obtain ⟨N, HN, hN32, hN0⟩ : ∃ N : Nat, Hid (N = 2 ^ ps.length) ∧ N ≤ 32 ∧ 0 < N := ⟨_, rfl, two_le _ hn5, Nat.pos_of_ne_zero (by simp)⟩
  have HLEN : Hid (∀ p ∈ ps, p.length ≤ 32) := Lib.hid (fun p hp => by
    obtain ⟨j, hj, rfl⟩ := List.getElem_of_mem hp
    rw [part_len hok.out HN.out hj]; exact hN32)
  go_enter Tryd.func91, Tryd.ntmps91
  go_wp2
  go_loopw [3, 8] (fun v q wr => ∃ k : Nat, k ≤ ps.length ∧ q = .int .i64 k ∧ Hid (OS wr w.heap.size 9 v (ps.take k)) ∧ Below w.heap.size w wr) (fun _ q _ => ps.length - (intOf q).toNat)
  case atStart => exact ⟨0, Nat.zero_le _, rfl, Lib.hid (OS.nil _ _ _), Below.refl _ _⟩
  case round =>
    obtain ⟨k, hk, rfl, HO, hB⟩ := hrel
    have hsz := hB.size
    by_cases hlt : k < ps.length
    · obtain ⟨g, off, hA, hr⟩ := netL_range (hx.out.below hB) hlt
      subst hA
      have HR := Lib.hid hr
      have HT := Lib.hid (txt_tv hok.out HN.out hlt)
      have HTK : Hid (ps.take (k + 1) = ps.take k ++ [ps[k]]) := Lib.hid (List.take_succ_eq_append_getElem hlt)
      have HB2 : Hid (∀ s, s < N → tv ps.length ps[k] s < 2) := Lib.hid (fun s _ => tv_lt hok.out hlt)
      have hlk : (ps.take k).length = k := by rw [List.length_take]; omega
      clear hr
      go_wp2_with (first
        | ((with_reducible refine wpStop (o := ⟨some 11, _, _, _, _, _⟩) ?_); refine ⟨?_⟩; refine wpList_load_mid rfl _ _ rfl g _ rfl (tabL ps.length (tv ps.length ps[k])) _ HR.out Tryd.underlying95 rfl (by rw [tab_size, tabL_length]) ?_)
        | ((with_reducible refine wpStop (o := ⟨some 5, _, _, _, _, _⟩) ?_); refine ⟨?_⟩; refine wpList_alloc_blk rfl _ rfl _ (tab_alloc _) ?_; intro g3 w3 hg3 hb3 hB3)
        | ((with_reducible refine wpStop (o := ⟨none, Op.store 95 _ _, _, _, _, _⟩) ?_); refine ⟨?_⟩; refine wpList_store_blk rfl _ _ _ rfl rfl rfl hb3 (tab_fits _ _) (tab_same _ _ _ _) (tab_all _ _) ?_; intro w4 hb4 ho4)
        | ((with_reducible refine wpStop (o := ⟨some 13, _, _, _, _, _⟩) ?_); refine ⟨?_⟩; refine wpList_load_blk rfl _ _ rfl rfl hb4 Tryd.underlying95 rfl (tab_fits _ _) ?_)
        | (go_at_call 101; refine (text_any ps.length N _ _ hn5 HN HB2).mono ?_; rintro e w5 ⟨rfl, hB5⟩; rw [HT.out]; have hB24 : Below wr.heap.size wr w4 := (hB3 _ (Nat.le_refl _)).trans (Below.of_grown ho4 hg3 (hB3 0 (Nat.zero_le _)).size); have hB25 : Below wr.heap.size wr w5 := hB24.trans (hB5.mono hB24.size); have HO5 := Lib.hid (HO.out.below hB25); have hz5 := hB25.size; clear hb3 hb4 ho4 hB3 hB24 hB5)
        | (at_builtin; refine wp_pushS rfl _ _ _ rfl Tryd.underlying65 info_str HO5.out rfl rfl (by omega) (by omega) ?_; intro v' w6 hown hbel hsz6))
      go_roundw
      case rel => exact ⟨k + 1, by omega, by go_num, Lib.hid (by rw [HTK.out]; exact hown), hB.trans ((hB25.mono hsz).trans (hbel _ (Nat.le_refl _)))⟩
      case measure => simp [intOf]; omega
    · have hkn : k = ps.length := by omega
      subst hkn
      have HTE : Hid (ps.take ps.length = ps) := Lib.hid List.take_length
      have HOF := HO.out
      rw [HTE.out] at HOF
      obtain ⟨A', c', rfl, hc, hO⟩ := HOF.form
      clear HOF HO
      obtain ⟨g, off, hA, h0⟩ := hO.rd.text h1
      subst hA
      have HC : Hid (∀ (j : Nat) x, (ps.map fun l => (⟨l.toArray⟩ : ByteArray))[j]? = some x → wr.cell? ⟨g, off + j, none⟩ = some (.string x)) := Lib.hid (fun j x hj => by
        have hjl : j < ps.length := by simpa using (List.getElem?_eq_some_iff.1 hj).1
        rw [List.getElem?_map, List.getElem?_eq_getElem hjl] at hj
        injection hj with hj
        rw [hO.rd.cell (strs_get hjl), ← hj])
      have hgl : g < wr.heap.size := World.block_lt_of_cell? wr _ h0
      have HM : Hid ((ps.map fun l => (⟨l.toArray⟩ : ByteArray)).map (·.data.toList) = ps) := Lib.hid (by rw [List.map_map]; exact (List.map_congr_left (g := id) fun l _ => by simp).trans (List.map_id ps))
      have HLL : Hid (ps.length = (ps.map fun l => (⟨l.toArray⟩ : ByteArray)).length) := Lib.hid (by simp)
      have hlen : (Lib.join ps [44]).length ≤ 140737488355328 := by
        have := joinN_len HLEN.out ps.length (Nat.le_refl _)
        rw [HTE.out, joinN] at this
        omega
      have HJ := Lib.hid (Tryd.strings_Join g off c' (ps.map fun l => ⟨l.toArray⟩) { data := #[44] } wr HC.out hgl (by rw [← HLL.out]; omega) (by rw [← HLL.out]; exact hc) (by rw [HM.out]; exact hlen))
      have HJ2 := HJ.out
      rw [HM.out, ← HLL.out] at HJ2
      have HJ3 := Lib.hid HJ2
      clear HJ2 HJ h0
      go_wp2_with (go_at_call 123; refine HJ3.out.mono ?_; rintro e w7 ⟨rfl, hB7⟩)
      go_ret
      exact ⟨rfl, hB.trans (hB7.mono hsz)⟩

end Go.Proofs.YtpehimjngofnkaaDoor
