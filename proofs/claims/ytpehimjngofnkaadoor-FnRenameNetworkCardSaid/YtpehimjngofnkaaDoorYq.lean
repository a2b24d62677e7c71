/- Walks: drawn orders. -/
import Derived.Test.YtpehimjngofnkaaDoorProg
import Derived.WalkKit
import Derived.WalkSpells
import Derived.WalkLawsBesides
import Derived.Lib.Hide
import Derived.Deep.QuietTactic
import Derived.Deep.RegionLaw
import Derived.BigQuiet
import Derived.Test.YtpehimjngofnkaaDoorG2
import Derived.Test.YtpehimjngofnkaaDoorG4
namespace Go.Proofs.YtpehimjngofnkaaDoor
open Go.RowKit
set_option linter.unusedVariables false

/-- step_catI, and what it leaves alone -/
theorem step_catI_at {P : Program} {wr : World} {ops : Array Oper} {o : Oper} {a : Act} {K : Act → World → Prop} {Q : Exit → Act → World → Prop} {E : Prop} (hgd : o.guard = none) (s x : Operand) (t : TypeId)
    (ho : o.op = .call { callee := .builtin .append, args := #[s, x], argTypes := #[t, t] })
    {B e n c : Nat} {ad : Addr} (ht : P.underlying t = some (.slice e)) (hinf : (P.info? e).map (fun i => (i.zero, i.size, i.bytes)) = some (some (.int .i64 0), 1, 8))
    {v : Value} {xs ys : List Int} (hown : OI wr B e v xs) (hs : a.eval s = v) (hx : a.eval x = .slice (some ad) n c) (hn : ys.length = n) (hr : ∀ j u, (ys.map (Value.int .i64))[j]? = some u → wr.cell? (ad.add j) = some u)
    (hl : xs.length + n ≤ 1099511627776) (hB : B ≤ wr.heap.size)
    (h : ∀ v' w', OI w' B e v' (xs ++ ys) → (∀ B', B' ≤ B → Below B' wr w') → wr.heap.size ≤ w'.heap.size → (∀ g, g < wr.heap.size → v.ownBlock ≠ some g → w'.heap[g]? = wr.heap[g]?) → K (a.put o.dst v') w') :
    if Region.wanted o (yielded ops a.tmps) = true then Oper.wp P o a wr K Q else E := by
  have hw : Region.wanted o (yielded ops a.tmps) = true := by simp [Region.wanted, hgd]
  rw [if_pos hw]
  obtain ⟨i, hi, hiz, his, hib⟩ := info_parts hinf
  obtain ⟨v', w', hrun, h1, h2, _⟩ := run_append_own (P := P) wr B t o.type e i (.int .i64 0) 1 8 ht hi hiz his hib rfl (by omega) v xs.length (xs.map (Value.int .i64)) hown ad n c (ys.map (Value.int .i64)) (by simp [hn]) hr (by
    intro y hy
    obtain ⟨z, _, rfl⟩ := List.mem_map.1 hy
    rfl) (by simp only [maxLen]; omega) (by omega) hB
  unfold Oper.wp
  simp [execOp, ho, resolve, invoke, builtin, hs, hx, hrun, Result.andThen]
  refine h v' w' (by unfold OI; rw [List.map_append, List.length_append, hn]; exact h1) (fun B' hB' => ⟨h2.os, h2.tape, h2.output, h2.size, fun k hk => h2.block k (by omega) (fun e => ?_)⟩) h2.size (fun g hg hne => h2.block g hg (fun e => hne e.symm))
  have := (World.ownsRow.lt hown k e.symm).1
  omega
theorem OI.base {w : World} {B B' : Nat} {e : TypeId} {v : Value} {xs : List Int} (h : OI w B e v xs) (hB : B' ≤ B) : OI w B' e v xs := by
  refine ⟨h.1, ?_⟩
  rcases h.2 with h2 | ⟨g, cap, cur, hv, hg, rest⟩
  · exact .inl h2
  · exact .inr ⟨g, cap, cur, hv, Nat.le_trans hB hg, rest⟩
theorem OI.some_ {w : World} {B : Nat} {e : TypeId} {v : Value} {xs : List Int} (h : OI w B e v xs) (h0 : 0 < xs.length) : ∃ g c, v = .slice (some ⟨g, 0, none⟩) xs.length c := by
  rcases h.2 with ⟨_, h2⟩ | ⟨g, cap, cur, hv, _⟩
  · omega
  · exact ⟨g, cap, hv⟩
/-- an order has been drawn -/
def OrdP (w : World) (B g p n : Nat) (e : Ending) (w' : World) : Prop :=
  ∃ (A : Option Addr) (c : Nat) (xs : List Int) (p2 : Nat), e = .returned (.slice A xs.length c) ∧ xs.length ≤ c ∧ Own w' w.heap.size A (xs.map (Value.int .i64)) ∧ xs.length ≤ n + 1 ∧ (xs.length = n → ∀ x ∈ xs, 0 ≤ x ∧ x < (n : Int)) ∧ p2 ≤ p + n + 2 ∧ Rdr w' B g p2 ∧ w.grownBy w' (some g)

set_option maxHeartbeats 4000000 in
set_option maxRecDepth 100000 in
theorem l3Orders_any (B g p n : Nat) (w : World) (h : Rdr w B g p) (hp : p ≤ 900000) (hn5 : n ≤ 5) :
    Calls Tryd.prog 93 #[.pointer (some ⟨g, 0, none⟩), .int .i64 (n : Int)] w fun e w' => OrdP w B g p n e w' := by
  have hgl := h.lt.2
  have h0 := Lib.hid (h.keep ((Below.refl _ _).alloc (Nat.le_refl _) (.cells #[] 3)))
  have hE := Lib.hid (OI.empty w w.heap.size 3 (Nat.le_refl _))
  have hG0 : Hid (w.grownBy (w.alloc (.cells #[] 3)) (some g)) := Lib.hid (grn_below ((Below.refl _ _).alloc (Nat.le_refl _) _))
  go_enter Tryd.func93, Tryd.ntmps93
  go_wp2_with fail
  go_loopw [5, 6] (fun v i wr => ∃ (k p' : Nat) (xs : List Int) (gv cv : Nat), k ≤ n ∧ i = .int .i64 k ∧ v = .slice (some ⟨gv, 0, none⟩) k cv ∧ Hid (xs.length = k ∧ ∀ x ∈ xs, 0 ≤ x ∧ x < (n : Int)) ∧ p' ≤ p + k ∧ Hid (OI wr w.heap.size 3 (.slice (some ⟨gv, 0, none⟩) k cv) xs) ∧ Hid (Rdr wr B g p' ∧ w.grownBy wr (some g))) (fun _ i _ => n - (intOf i).toNat)
  case atStart => exact ⟨0, p, [], w.heap.size, 0, Nat.zero_le _, rfl, rfl, Lib.hid ⟨rfl, by simp⟩, by omega, hE, Lib.hid ⟨h0.out, hG0.out⟩⟩
  case round =>
    obtain ⟨k, p', xs, gv, cv, hk, rfl, rfl, HX, hp', HO, HR⟩ := hrel
    have hszw : w.heap.size ≤ wr.heap.size := HR.out.2.size
    by_cases hlt : k < n
    · go_wp2_with fail
      refine (pick_any B g p' _ _ HR.out.1 (by omega) (by omega) (by omega)).mono ?_
      rintro e w6 ⟨at_, rfl, hat, hR6, hG6⟩
      have hat2 : at_ ≤ k := by omega
      have HO6 := Lib.hid (HO.out.only hgl hG6)
      have hz6 : wr.heap.size ≤ w6.heap.size := hG6.size
      obtain ⟨A0, c0, hv0, hc0, hO0⟩ := HO6.out.form
      obtain ⟨rfl, hkl, rfl⟩ : (some (⟨gv, 0, none⟩ : Addr)) = A0 ∧ k = xs.length ∧ cv = c0 := by injection hv0 with e1 e2 e3; exact ⟨e1, e2, e3⟩
      subst hkl
      have HRD := Lib.hid hO0.rd
      have hkc : xs.length ≤ cv := by omega
      have HTK : Hid ((xs.take at_).length = at_) := Lib.hid (by rw [List.length_take]; omega)
      have HDR : Hid ((xs.drop at_).length = xs.length - at_) := Lib.hid (by rw [List.length_drop])
      have HX1 : Hid (∀ W', Below w6.heap.size w6 W' → ∀ j u, ((xs.take at_).map (Value.int .i64))[j]? = some u → W'.cell? ((⟨gv, 0, none⟩ : Addr).add j) = some u) := Lib.hid (fun W' hb => by
        have h := (HRD.out.below hb).take_ (k := at_)
        rw [← List.map_take] at h
        exact h.adds)
      have HX2 : Hid (∀ W', Below w6.heap.size w6 W' → ∀ j u, ((xs.drop at_).map (Value.int .i64))[j]? = some u → W'.cell? ((⟨gv, 0 + at_, none⟩ : Addr).add j) = some u) := Lib.hid (fun W' hb => by
        have h := (HRD.out.below hb).drop_ (k := at_)
        rw [← List.map_drop] at h
        exact h.adds)
      have HXE : Hid (∀ (W' : World) (ad : Addr), xs.drop at_ = [] → ∀ j u, ((xs.drop at_).map (Value.int .i64))[j]? = some u → W'.cell? (ad.add j) = some u) := Lib.hid (fun W' ad e j u hj => by rw [e] at hj; simp at hj)
      have HBd : Hid (Below w6.heap.size w6 w6.drew) := Lib.hid (drewN_below w6 1)
      have hac1 : (0 : Int) ≤ (at_ : Int) := by omega
      have hac2 : (at_ : Int) ≤ (cv : Int) := by omega
      have hac3 : (at_ : Int) ≤ (xs.length : Int) := by omega
      have hac5 : (0 : Int) ≤ (xs.length : Int) := by omega
      have hac6 : (xs.length : Int) ≤ (cv : Int) := by omega
      have hac4 : at_ ≤ cv := by omega
      clear hv0 hc0 hO0
      have hS : w6.drew.heap.size = w6.heap.size := rfl
      have HZ1 : Hid (w6.heap.size ≤ (w6.alloc (.cells #[] 3)).heap.size) := Lib.hid (by rw [alloc_size]; omega)
      have HZ2 : Hid (w6.heap.size ≤ ((w6.alloc (.cells #[] 3)).alloc (.cells #[.int .i64 (xs.length : Int)] 3)).heap.size) := Lib.hid (by rw [alloc_size, alloc_size]; omega)
      have HZ3 : Hid (w6.heap.size ≤ (w6.alloc (.cells #[.int .i64 (xs.length : Int)] 3)).heap.size) := Lib.hid (by rw [alloc_size]; omega)
      have HZ4 : Hid (w6.heap.size ≤ ((w6.alloc (.cells #[.int .i64 (xs.length : Int)] 3)).alloc (.cells #[] 3)).heap.size) := Lib.hid (by rw [alloc_size, alloc_size]; omega)
      have HOE3 : Hid (OI ((w6.alloc (.cells #[.int .i64 (xs.length : Int)] 3)).alloc (.cells #[] 3)).drew w6.heap.size 3 (.slice (some ⟨w6.heap.size + 1, 0, none⟩) 0 0) []) := Lib.hid (by
        have h := OI.empty (w6.alloc (.cells #[.int .i64 (xs.length : Int)] 3)) w6.heap.size 3 HZ3.out
        rw [alloc_size w6] at h
        exact h)
      have HCB1 : Hid (∀ w4 : World, (∀ b, b < ((w6.alloc (.cells #[] 3)).alloc (.cells #[.int .i64 (xs.length : Int)] 3)).heap.size → (Value.slice (some ⟨w6.heap.size, 0, none⟩) 0 0).ownBlock ≠ some b → w4.heap[b]? = ((w6.alloc (.cells #[] 3)).alloc (.cells #[.int .i64 (xs.length : Int)] 3)).heap[b]?) → w4.cell? ((⟨w6.heap.size + 1, 0, none⟩ : Addr).add 0) = some (.int .i64 (xs.length : Int))) := Lib.hid fun w4 hb => by
        have h1 := hb (w6.alloc (.cells #[] 3)).heap.size (by rw [alloc_size _ (.cells #[.int .i64 (xs.length : Int)] 3)]; omega) (by intro e; have e2 : some w6.heap.size = some (w6.alloc (.cells #[] 3)).heap.size := e; rw [alloc_size] at e2; injection e2 with e2; omega)
        have h3 := (World.cell?_of_block (a := ⟨(w6.alloc (.cells #[] 3)).heap.size, 0, none⟩) h1).trans (cell_new _ _ _ 0)
        rw [alloc_size] at h3
        exact h3
      have HCB2 : Hid (∀ w4 : World, (∀ b, b < ((w6.alloc (.cells #[.int .i64 (xs.length : Int)] 3)).alloc (.cells #[] 3)).heap.size → (Value.slice (some ⟨w6.heap.size + 1, 0, none⟩) 0 0).ownBlock ≠ some b → w4.heap[b]? = ((w6.alloc (.cells #[.int .i64 (xs.length : Int)] 3)).alloc (.cells #[] 3)).heap[b]?) → w4.cell? ((⟨w6.heap.size, 0, none⟩ : Addr).add 0) = some (.int .i64 (xs.length : Int))) := Lib.hid fun w4 hb => by
        have h1 := hb w6.heap.size (by rw [alloc_size, alloc_size]; omega) (by intro e; have e2 : some (w6.heap.size + 1) = some w6.heap.size := e; injection e2 with e2; omega)
        have h2 := heap_alloc_old (w6.alloc (.cells #[.int .i64 (xs.length : Int)] 3)) (.cells #[] 3) (r := w6.heap.size) (by rw [alloc_size]; omega)
        exact (World.cell?_of_block (a := ⟨w6.heap.size, 0, none⟩) (h1.trans h2)).trans (cell_new _ _ _ 0)
      rcases Classical.em (cv - at_ = 0) with hca | hca
      · have hcv : cv = at_ := by omega
        have hnil : xs.drop at_ = [] := List.drop_eq_nil_of_le (by omega)
        have HDR0 : Hid ((xs.drop at_).length = 0) := Lib.hid (by rw [hnil]; rfl)
        subst hcv
        go_wp2_with fail
        go_region_law (first
          | (have hm2 := hA2done; refine step_catI_at rfl _ _ _ rfl Tryd.underlying22 info_int HO5.out rfl rfl HDR0.out (HXE.out _ _ hnil) (by simp; omega) hs5 ?_; intro v7 w7 hown7 hbel7 hsz7 hblk7)
          | (have hm1 := hA1done; have hm2 := hcB; refine step_catI_at (ys := [(xs.length : Int)]) rfl _ _ _ rfl Tryd.underlying22 info_int HO4.out rfl rfl rfl (by intro j u hj; cases j with | zero => simp at hj; subst hj; exact hcB | succ j => simp at hj) (by simp; omega) hs4 ?_; intro v5 w5 hown5 hbel5 hsz5 hblk5; have hB5 : Below w6.heap.size w6 w5 := hB4.trans (hbel5 _ (Nat.le_refl _)); have HO5 := Lib.hid hown5; have hs5 := hB5.size; have hA2done := True.intro; clear hown5)
          | (have hm1 := hA1done; refine step_catI_at (ys := [(xs.length : Int)]) rfl _ _ _ rfl Tryd.underlying22 info_int (World.ownsRow.alloc HO4.out _) rfl rfl rfl (by intro j u hj; cases j with | zero => simp at hj; subst hj; exact cell_new _ _ _ 0 | succ j => simp at hj) (by simp; omega) (by rw [alloc_size]; omega) ?_; intro v5 w5 hown5 hbel5 hsz5 hblk5; have hB5 : Below w6.heap.size w6 w5 := (hB4.alloc hs4 _).trans (hbel5 _ (Nat.le_refl _)); have HO5 := Lib.hid hown5; have hs5 := hB5.size; have hA2done := True.intro; clear hown5)
          | (refine step_catI_at rfl _ _ _ rfl Tryd.underlying22 info_int (OI.empty w6.drew w6.heap.size 3 (Nat.le_refl _)) rfl rfl HTK.out (HX1.out _ (HBd.out.alloc (Nat.le_refl _) _)) (by simp; omega) (by show w6.heap.size ≤ (w6.alloc _).heap.size; rw [alloc_size]; exact Nat.le_succ _) ?_; intro v4 w4 hown4 hbel4 hsz4 hblk4; have hB4 : Below w6.heap.size w6 w4 := (HBd.out.alloc (Nat.le_refl _) _).trans (hbel4 _ (Nat.le_refl _)); have HO4 := Lib.hid hown4; have hs4 := hB4.size; have hA1done := True.intro; clear hown4)
          | (refine step_catI_at rfl _ _ _ rfl Tryd.underlying22 info_int (World.ownsRow.alloc (OI.empty w6.drew w6.heap.size 3 (Nat.le_refl _)) (.cells #[.int .i64 (xs.length : Int)] 3)) rfl rfl HTK.out (HX1.out _ ((HBd.out.alloc (Nat.le_refl _) _).alloc HZ1.out _)) (by simp; omega) HZ2.out ?_; intro v4 w4 hown4 hbel4 hsz4 hblk4; have hB4 : Below w6.heap.size w6 w4 := ((HBd.out.alloc (Nat.le_refl _) _).alloc HZ1.out _).trans (hbel4 _ (Nat.le_refl _)); have hcB := HCB1.out w4 hblk4; have HO4 := Lib.hid hown4; have hs4 := hB4.size; have hA1done := True.intro; clear hown4)
          | (refine step_catI_at rfl _ _ _ rfl Tryd.underlying22 info_int HOE3.out rfl rfl HTK.out (HX1.out _ ((HBd.out.alloc (Nat.le_refl _) _).alloc HZ3.out _)) (by simp; omega) HZ4.out ?_; intro v4 w4 hown4 hbel4 hsz4 hblk4; have hB4 : Below w6.heap.size w6 w4 := ((HBd.out.alloc (Nat.le_refl _) _).alloc HZ3.out _).trans (hbel4 _ (Nat.le_refl _)); have hcB := HCB2.out w4 hblk4; have HO4 := Lib.hid hown4; have hs4 := hB4.size; have hA1done := True.intro; clear hown4))
        all_goals
          have hl7 : (([] ++ xs.take cv ++ [(xs.length : Int)]) ++ xs.drop cv).length = xs.length + 1 := by
            rw [List.nil_append, List.length_append, List.length_append, HTK.out, HDR.out, List.length_singleton]; omega
          have HL7 := Lib.hid hl7
          obtain ⟨gv', cv', hv7⟩ := hown7.some_ (by rw [hl7]; omega)
          rw [hl7] at hv7
          subst hv7
          have hB7 : Below w6.heap.size w6 w7 := hB5.trans (hbel7 _ (Nat.le_refl _))
          have HO7 := Lib.hid (hown7.base (Nat.le_trans hszw hz6))
          have HR7 := Lib.hid (And.intro (hR6.keep hB7) (grn_bel (grn_trans HR.out.2 hG6) (hB7.mono (Nat.le_trans hszw hz6))))
          clear hown7 hl7
          go_wp2_with fail
          go_roundw
          case rel => exact ⟨xs.length + 1, p' + 1, _, gv', cv', by omega, by go_num, rfl, Lib.hid ⟨HL7.out, fun x hx => by
            rcases List.mem_append.1 hx with hx | hx
            · rcases List.mem_append.1 hx with hx | hx
              · exact HX.out.2 x (List.mem_of_mem_take (by simpa using hx))
              · simp at hx; rw [hx]; omega
            · exact HX.out.2 x (List.mem_of_mem_drop hx)⟩, by omega, HO7, HR7⟩
          case measure => simp [intOf]; omega
      · have hcv : ¬ cv = at_ := by omega
        go_wp2_with fail
        go_region_law (first
          | (have hm2 := hA2done; refine step_catI_at rfl _ _ _ rfl Tryd.underlying22 info_int HO5.out rfl rfl HDR.out (by have h := HX2.out _ hB5; rw [Nat.zero_add] at h; exact h) (by simp; omega) hs5 ?_; intro v7 w7 hown7 hbel7 hsz7 hblk7)
          | (have hm1 := hA1done; have hm2 := hcB; refine step_catI_at (ys := [(xs.length : Int)]) rfl _ _ _ rfl Tryd.underlying22 info_int HO4.out rfl rfl rfl (by intro j u hj; cases j with | zero => simp at hj; subst hj; exact hcB | succ j => simp at hj) (by simp; omega) hs4 ?_; intro v5 w5 hown5 hbel5 hsz5 hblk5; have hB5 : Below w6.heap.size w6 w5 := hB4.trans (hbel5 _ (Nat.le_refl _)); have HO5 := Lib.hid hown5; have hs5 := hB5.size; have hA2done := True.intro; clear hown5)
          | (have hm1 := hA1done; refine step_catI_at (ys := [(xs.length : Int)]) rfl _ _ _ rfl Tryd.underlying22 info_int (World.ownsRow.alloc HO4.out _) rfl rfl rfl (by intro j u hj; cases j with | zero => simp at hj; subst hj; exact cell_new _ _ _ 0 | succ j => simp at hj) (by simp; omega) (by rw [alloc_size]; omega) ?_; intro v5 w5 hown5 hbel5 hsz5 hblk5; have hB5 : Below w6.heap.size w6 w5 := (hB4.alloc hs4 _).trans (hbel5 _ (Nat.le_refl _)); have HO5 := Lib.hid hown5; have hs5 := hB5.size; have hA2done := True.intro; clear hown5)
          | (refine step_catI_at rfl _ _ _ rfl Tryd.underlying22 info_int (OI.empty w6.drew w6.heap.size 3 (Nat.le_refl _)) rfl rfl HTK.out (HX1.out _ (HBd.out.alloc (Nat.le_refl _) _)) (by simp; omega) (by show w6.heap.size ≤ (w6.alloc _).heap.size; rw [alloc_size]; exact Nat.le_succ _) ?_; intro v4 w4 hown4 hbel4 hsz4 hblk4; have hB4 : Below w6.heap.size w6 w4 := (HBd.out.alloc (Nat.le_refl _) _).trans (hbel4 _ (Nat.le_refl _)); have HO4 := Lib.hid hown4; have hs4 := hB4.size; have hA1done := True.intro; clear hown4)
          | (refine step_catI_at rfl _ _ _ rfl Tryd.underlying22 info_int (World.ownsRow.alloc (OI.empty w6.drew w6.heap.size 3 (Nat.le_refl _)) (.cells #[.int .i64 (xs.length : Int)] 3)) rfl rfl HTK.out (HX1.out _ ((HBd.out.alloc (Nat.le_refl _) _).alloc HZ1.out _)) (by simp; omega) HZ2.out ?_; intro v4 w4 hown4 hbel4 hsz4 hblk4; have hB4 : Below w6.heap.size w6 w4 := ((HBd.out.alloc (Nat.le_refl _) _).alloc HZ1.out _).trans (hbel4 _ (Nat.le_refl _)); have hcB := HCB1.out w4 hblk4; have HO4 := Lib.hid hown4; have hs4 := hB4.size; have hA1done := True.intro; clear hown4)
          | (refine step_catI_at rfl _ _ _ rfl Tryd.underlying22 info_int HOE3.out rfl rfl HTK.out (HX1.out _ ((HBd.out.alloc (Nat.le_refl _) _).alloc HZ3.out _)) (by simp; omega) HZ4.out ?_; intro v4 w4 hown4 hbel4 hsz4 hblk4; have hB4 : Below w6.heap.size w6 w4 := ((HBd.out.alloc (Nat.le_refl _) _).alloc HZ3.out _).trans (hbel4 _ (Nat.le_refl _)); have hcB := HCB2.out w4 hblk4; have HO4 := Lib.hid hown4; have hs4 := hB4.size; have hA1done := True.intro; clear hown4))
        all_goals
          have hl7 : (([] ++ xs.take at_ ++ [(xs.length : Int)]) ++ xs.drop at_).length = xs.length + 1 := by
            rw [List.nil_append, List.length_append, List.length_append, HTK.out, HDR.out, List.length_singleton]; omega
          have HL7 := Lib.hid hl7
          obtain ⟨gv', cv', hv7⟩ := hown7.some_ (by rw [hl7]; omega)
          rw [hl7] at hv7
          subst hv7
          have hB7 : Below w6.heap.size w6 w7 := hB5.trans (hbel7 _ (Nat.le_refl _))
          have HO7 := Lib.hid (hown7.base (Nat.le_trans hszw hz6))
          have HR7 := Lib.hid (And.intro (hR6.keep hB7) (grn_bel (grn_trans HR.out.2 hG6) (hB7.mono (Nat.le_trans hszw hz6))))
          clear hown7 hl7
          go_wp2_with fail
          go_roundw
          case rel => exact ⟨xs.length + 1, p' + 1, _, gv', cv', by omega, by go_num, rfl, Lib.hid ⟨HL7.out, fun x hx => by
            rcases List.mem_append.1 hx with hx | hx
            · rcases List.mem_append.1 hx with hx | hx
              · exact HX.out.2 x (List.mem_of_mem_take (by simpa using hx))
              · simp at hx; rw [hx]; omega
            · exact HX.out.2 x (List.mem_of_mem_drop hx)⟩, by omega, HO7, HR7⟩
          case measure => simp [intOf]; omega
    · have hkn : k = n := by omega
      subst hkn
      go_wp2_with fail
      refine (pick_any B g p' _ _ HR.out.1 (by omega) (by omega) (by omega)).mono ?_
      rintro e w6 ⟨q, rfl, hq, hR6, hG6⟩
      have HO6 := Lib.hid (HO.out.only hgl hG6)
      have HG6 := Lib.hid (grn_trans HR.out.2 hG6)
      have hz6 : wr.heap.size ≤ w6.heap.size := hG6.size
      have hgl6 := hR6.lt.2
      have hxl := HX.out.1
      by_cases hq0 : q = 0
      · subst hq0
        go_wp2_with fail
        refine (num_any B g (p' + 1) 3 _ [0, 5, -1] _ (hR6.keep ((Below.refl _ _).alloc (Nat.le_refl _) _)) (by omega) (Own.lit w6 _ _ (by omega)) (by simp) (by simp)).mono ?_
        rintro e w8 ⟨u, hu, rfl, hR8, hG8⟩
        have HG8 := Lib.hid (grn_trans HG6.out (grn_trans (grn_below ((Below.refl _ _).alloc (Nat.le_refl _) _)) hG8))
        have HO8 := Lib.hid ((HO6.out.below ((Below.refl _ _).alloc (Nat.le_refl _) _)).only hgl hG8)
        have hz8 : w.heap.size ≤ w8.heap.size := HG8.out.size
        clear hu
        go_wp2_with (at_builtin; refine wp_pushI rfl _ _ _ rfl Tryd.underlying22 info_int HO8.out rfl rfl (by omega) (by omega) ?_; intro v9 w9 hown9 hbel9 hsz9)
        obtain ⟨A9, c9, rfl, hc9, hO9⟩ := hown9.form
        have HO9 := Lib.hid hO9
        have HL9 : Hid ((xs ++ [u]).length = k + 1) := Lib.hid (by rw [List.length_append, hxl]; rfl)
        have HR9 := Lib.hid (And.intro (hR8.keepB (hbel9 (g + 1) (by omega))) (grn_bel HG8.out (hbel9 _ (Nat.le_refl _))))
        clear hown9 hO9
        go_wp2_with fail
        go_ret
        exact ⟨A9, c9, xs ++ [u], p' + 1 + 1, rfl, hc9, HO9.out, by rw [HL9.out]; exact Nat.le_refl _, fun e => by rw [HL9.out] at e; omega, by omega, HR9.out.1, HR9.out.2⟩
      · obtain ⟨A9, c9, hv9, hc9, hO9⟩ := HO6.out.form
        injection hv9 with e1 e2 e3
        subst e1
        subst e3
        clear e2
        have HO9 := Lib.hid hO9
        clear hO9
        go_wp2_with fail
        go_ret
        exact ⟨some ⟨gv, 0, none⟩, cv, xs, p' + 1, by rw [hxl]; rfl, hc9, HO9.out, by omega, fun _ => HX.out.2, by omega, hR6, HG6.out⟩

end Go.Proofs.YtpehimjngofnkaaDoor
