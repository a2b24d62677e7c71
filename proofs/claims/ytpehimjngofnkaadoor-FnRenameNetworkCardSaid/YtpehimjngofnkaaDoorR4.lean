/- Plain facts on networks renamed twice, and the draw of a network with an order. -/
import Derived.Test.YtpehimjngofnkaaDoorProg
import Derived.WalkKit
import Derived.WalkSpells
import Derived.WalkLawsBesides
import Derived.Lib.Hide
import Derived.Deep.QuietTactic
import Derived.BigQuiet
import Derived.IntWalk
import Derived.Test.YtpehimjngofnkaaDoorG1
import Derived.Test.YtpehimjngofnkaaDoorR2
import Derived.Test.YtpehimjngofnkaaDoorG3
import Derived.Test.YtpehimjngofnkaaDoorG5
import Derived.Test.YtpehimjngofnkaaDoorG4
import Derived.Test.YtpehimjngofnkaaDoorYq
namespace Go.Proofs.YtpehimjngofnkaaDoor
open Go.RowKit
set_option linter.unusedVariables false

/-- the order back -/
def pbk (p : List Nat) (n : Nat) : List Nat := (List.range n).map fun q => p.idxOf q
theorem pbk_len (p : List Nat) (n : Nat) : (pbk p n).length = n := by simp [pbk]
theorem pbk_get {p : List Nat} {n i : Nat} (h : i < n) : (pbk p n)[i]? = some (p.idxOf i) := by simp [pbk, h]
theorem pbk_ord {p : List Nat} {n : Nat} (h : Ord p n) : Ord (pbk p n) n := by
  refine ⟨pbk_len p n, fun x hx => ?_, ?_⟩
  · simp only [pbk, List.mem_map, List.mem_range] at hx
    obtain ⟨q, hq, rfl⟩ := hx
    rw [← h.len]; exact List.idxOf_lt_length_of_mem (h.mem hq)
  · unfold pbk List.Nodup
    rw [List.pairwise_map]
    refine List.Pairwise.imp_of_mem ?_ List.nodup_range
    intro a b ha hb hab e
    apply hab
    have ha2 := List.idxOf_lt_length_of_mem (h.mem (List.mem_range.1 ha))
    have hb2 := List.idxOf_lt_length_of_mem (h.mem (List.mem_range.1 hb))
    have h1 := List.getElem_idxOf ha2
    have h2 := List.getElem_idxOf hb2
    rw [← h1, ← h2]
    congr 1
theorem old_pbk {p : List Nat} {n x : Nat} (h : Ord p n) (h5 : n ≤ 5) : oldF (pbk p n) x = movF p x := by
  refine bit_ext (n := n) (by have := oldF_lt (pbk p n) x; rwa [pbk_len] at this) (movF_lt h x) fun i hi => ?_
  have hip : i < (pbk p n).length := by rw [pbk_len]; exact hi
  rw [oldF_bit _ _ hip, movF_bit h h5 _ _ hi]
  congr 1
  have := pbk_get (p := p) hi
  rw [List.getElem?_eq_getElem hip] at this
  injection this
theorem mov_pbk {p : List Nat} {n y : Nat} (h : Ord p n) (h5 : n ≤ 5) : movF (pbk p n) y = oldF p y := by
  refine bit_ext (n := n) (movF_lt (pbk_ord h) y) (by have := oldF_lt p y; rwa [h.len] at this) fun q hq => ?_
  have hqp : q < p.length := by rw [h.len]; exact hq
  rw [movF_bit (pbk_ord h) h5 _ _ hq, oldF_bit _ _ hqp]
  congr 1
  have hl : p[q] < n := h.lt _ (List.getElem_mem _)
  have hip : p[q] < (pbk p n).length := by rw [pbk_len]; exact hl
  have hg : (pbk p n)[p[q]] = q := by
    have := pbk_get (p := p) hl
    rw [List.getElem?_eq_getElem hip, h.nd.idxOf_getElem q hqp] at this
    injection this
  have h2 := (pbk_ord h).nd.idxOf_getElem p[q] hip
  rw [hg] at h2
  exact h2
/-- the renamed network, named back, makes the old steps -/
theorem ren_back {ps : List (List UInt8)} {p : List Nat} (hok : okN ps = true) (h : Ord p ps.length) {x : Nat} (hx : x < 2 ^ ps.length) : renF (frS ps.length (renF ps p)) (pbk p ps.length) x = stp ps x := by
  have h5 := okN_le hok
  rw [renF, old_pbk h h5, mov_pbk h h5, stp_frS (movF_lt h x) (renF_lt h _), renF, old_mov h h5 (by rw [old_mov h h5 hx]; exact stp_lt hok x), old_mov h h5 hx]
theorem sel_bij {p q : Nat → Bool} {N : Nat} {f : Nat → Nat} (hf : ∀ s, s < N → f s < N) (hi : ∀ a b, a < N → b < N → f a = f b → a = b) (hp : ∀ s, s < N → p s = true → q (f s) = true) : (sel N p).length ≤ (sel N q).length := by
  have hnd : ((sel N p).map f).Nodup := by
    unfold List.Nodup
    rw [List.pairwise_map]
    refine List.Pairwise.imp_of_mem ?_ (sel_nodup N p)
    intro a b ha hb hab e
    exact hab (hi a b (sel_mem.1 ha).1 (sel_mem.1 hb).1 e)
  have := sel_ge (p := q) (N := N) hnd (fun x hx => by
    simp only [List.mem_map] at hx
    obtain ⟨y, hy, rfl⟩ := hx
    obtain ⟨h2, h3⟩ := sel_mem.1 hy
    exact ⟨hf y h2, hp y h2 h3⟩)
  rwa [List.length_map] at this
/-- a renamed network has as many fixed points -/
theorem fix_ren {ps : List (List UInt8)} {p : List Nat} (hok : okN ps = true) (h1 : 1 ≤ ps.length) (h : Ord p ps.length) : (fixN (frS ps.length (renF ps p))).length = (fixN ps).length := by
  have h5 := okN_le hok
  have hf : okN (frS ps.length (renF ps p)) = true := frS_ok h1 h5
  rw [fixN_yes hf rfl, fixN_yes hok rfl, frS_length]
  apply Nat.le_antisymm
  · refine sel_bij (f := oldF p) (fun s _ => by have := oldF_lt p s; rwa [h.len] at this) (fun a b ha hb e => by rw [← mov_old h h5 ha, ← mov_old h h5 hb, e]) fun s hs hq => ?_
    rw [fixB, beq_iff_eq] at hq ⊢
    rw [stp_frS hs (renF_lt h s)] at hq
    have := congrArg (oldF p) hq
    rw [renF, old_mov h h5 (stp_lt hok _)] at this
    exact this
  · refine sel_bij (f := movF p) (fun s _ => movF_lt h s) (fun a b ha hb e => by rw [← old_mov h h5 ha, ← old_mov h h5 hb, e]) fun s hs hq => ?_
    rw [fixB, beq_iff_eq] at hq ⊢
    rw [stp_frS (movF_lt h s) (renF_lt h _), renF, old_mov h h5 hs, hq]
/-- a text and an order have been drawn -/
def DrwL (w : World) (e : Ending) (w' : World) : Prop := (∃ (t : ByteArray) (A : Option Addr) (c : Nat) (xs : List Int), e = .returned (.tuple #[.string t, .slice A xs.length c]) ∧ t.size ≤ 1010 ∧ xs.length ≤ c ∧ xs.length ≤ 6 ∧ Rd w' A (xs.map (Value.int .i64))) ∧ Below w.heap.size w w'

set_option maxHeartbeats 1000000 in
theorem DrawRenameNetwork_any (A : Option Addr) (n c : Nat) (bs : List Int) (w : World) (hn : n = bs.length) (hnc : n ≤ c) (hc : c ≤ 9223372036854775807) (hr : Hid (Rd w A (bs.map (Value.int .u8)))) (hx : Hid (∀ x ∈ bs, 0 ≤ x ∧ x < 256)) :
    Calls Tryd.prog 45 #[.slice A n c] w fun e w' => DrwL w e w' := by
  have HNL := Lib.hid hn
  clear hn
  go_enter Tryd.func45, Tryd.ntmps45
  go_wp2_with fail
  refine (l14Open_any _ _ _ _ _ HNL.out hnc hc hr hx).mono ?_
  rintro e w1 ⟨g, rfl, hR, hg, hB1⟩
  go_wp2_with fail
  refine (l3Network_any g g 0 _ hR (by omega)).mono ?_
  rintro e w2 ⟨t, p2, rfl, ht, hp2, hR2, hG2⟩
  obtain ⟨ps, HPS⟩ : ∃ ps, Hid (ps = cutL t.data.toList) := ⟨_, Lib.hid rfl⟩
  have HG2 := Lib.hid hG2
  clear hG2
  go_wp2_with fail
  refine (sSizeOf_any t _ (by omega)).mono ?_
  rw [← HPS.out]
  rintro e w3 ⟨rfl, hB3⟩
  have hR3 := hR2.keep hB3
  have HG3 := Lib.hid (grn_trans HG2.out (grn_below hB3))
  clear hR2 hB3
  obtain ⟨m, hm5, hmx⟩ : ∃ m : Nat, m ≤ 5 ∧ max (szN ps) 1 = (m : Int) := by
    by_cases hok : okN ps = true
    · have h1 : 1 ≤ ps.length := by rw [HPS.out]; exact (cutL_len _).2
      exact ⟨ps.length, okN_le hok, by rw [szN, if_pos hok]; omega⟩
    · exact ⟨1, by omega, by rw [szN, if_neg hok]; rfl⟩
  obtain ⟨z, HZ⟩ : ∃ z, Hid (z = szN ps) := ⟨_, Lib.hid rfl⟩
  rw [← HZ.out] at hmx ⊢
  go_wp2_with fail
  try rw [hmx]
  refine (l3Orders_any g g p2 m _ hR3 (by omega) hm5).mono ?_
  rintro e w4 ⟨A4, c4, xs, p4, rfl, hc4, hO4, hxl, _, hp4, hR4, hG4⟩
  have HG4 := Lib.hid (grn_trans HG3.out hG4)
  have HO4 := Lib.hid hO4
  clear hG4 hO4
  go_wp2
  go_ret2
  exact ⟨⟨t, A4, c4, xs, rfl, ht, hc4, by omega, HO4.out.rd⟩, hB1.trans (Below.of_grown HG4.out hg hB1.size)⟩

end Go.Proofs.YtpehimjngofnkaaDoor
