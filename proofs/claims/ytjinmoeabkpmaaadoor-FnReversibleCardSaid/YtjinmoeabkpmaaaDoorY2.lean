/- Walks of the functions on cycles. -/
import Derived.Test.YtjinmoeabkpmaaaDoorProg
import Derived.WalkKit
import Derived.WalkSpells
import Derived.WalkLawsBesides
import Derived.Lib.Hide
import Derived.Lib.AppendZerosOnto
import Derived.Deep.QuietTactic
import Derived.Deep.RegionHeld3
import Derived.Deep.RegionWith
import Derived.Deep.RegionLaw
import Derived.BigQuiet
import Derived.Test.YtjinmoeabkpmaaaDoorWa
import Derived.Test.YtjinmoeabkpmaaaDoorMk
import Derived.Test.YtjinmoeabkpmaaaDoorSh
namespace Go.Proofs.YtjinmoeabkpmaaaDoor
open Go.RowKit
set_option linter.unusedVariables false

/-- append of a list of integers -/
theorem wp_catI {P : Program} {wr : World} {ops : Array Oper} {rest : List Oper} {o : Oper} {a : Act} {Q : Exit → Act → World → Prop} (hgd : o.guard = none) (s x : Operand) (t : TypeId)
    (ho : o.op = .call { callee := .builtin .append, args := #[s, x], argTypes := #[t, t] })
    {B e n c : Nat} {ad : Addr} (ht : P.underlying t = some (.slice e)) (hinf : (P.info? e).map (fun i => (i.zero, i.size, i.bytes)) = some (some (.int .i64 0), 1, 8))
    {v : Value} {xs ys : List Int} (hown : OI wr B e v xs) (hs : a.eval s = v) (hx : a.eval x = .slice (some ad) n c) (hn : ys.length = n) (hr : ∀ j u, (ys.map (Value.int .i64))[j]? = some u → wr.cell? (ad.add j) = some u)
    (hl : xs.length + n ≤ 1099511627776) (hB : B ≤ wr.heap.size)
    (h : ∀ v' w', OI w' B e v' (xs ++ ys) → (∀ B', B' ≤ B → Below B' wr w') → wr.heap.size ≤ w'.heap.size → (∀ g, g < wr.heap.size → v.ownBlock ≠ some g → w'.heap[g]? = wr.heap[g]? ∧ v'.ownBlock ≠ some g) → wpList P ops Q rest (a.put o.dst v') w') :
    wpList P ops Q (o :: rest) a wr := by
  obtain ⟨i, hi, hiz, his, hib⟩ := info_parts hinf
  refine wpList_append_own_at _ hgd s x t ho B e i (.int .i64 0) 1 8 ht hi hiz his hib rfl (by omega) v xs.length (xs.map (Value.int .i64)) hs hown ad n c (ys.map (Value.int .i64)) hx (by simp [hn]) hr ?_ (by simp only [maxLen]; omega) (by omega) (by omega) ?_
  · intro y hy
    obtain ⟨z, _, rfl⟩ := List.mem_map.1 hy
    rfl
  · intro v' w' h1 h2 _ h4
    refine h v' w' (by unfold OI; rw [List.map_append, List.length_append, hn]; exact h1) (fun B' hB' => ⟨h2.os, h2.tape, h2.output, h2.size, fun k hk => h2.block k (by omega) (fun e => ?_)⟩) h2.size (fun g hg hne => ⟨h2.block g hg (fun e => hne e.symm), ?_⟩)
    · have := (World.ownsRow.lt hown k e.symm).1
      omega
    · rcases h4 with h4 | h4
      · rw [h4]; exact hne
      · rw [h4]; intro e; injection e; omega
/-- .. as one step of a region that draws its order -/
theorem step_catI {P : Program} {wr : World} {ops : Array Oper} {o : Oper} {a : Act} {K : Act → World → Prop} {Q : Exit → Act → World → Prop} {E : Prop} (hgd : o.guard = none) (s x : Operand) (t : TypeId)
    (ho : o.op = .call { callee := .builtin .append, args := #[s, x], argTypes := #[t, t] })
    {B e n c : Nat} {ad : Addr} (ht : P.underlying t = some (.slice e)) (hinf : (P.info? e).map (fun i => (i.zero, i.size, i.bytes)) = some (some (.int .i64 0), 1, 8))
    {v : Value} {xs ys : List Int} (hown : OI wr B e v xs) (hs : a.eval s = v) (hx : a.eval x = .slice (some ad) n c) (hn : ys.length = n) (hr : ∀ j u, (ys.map (Value.int .i64))[j]? = some u → wr.cell? (ad.add j) = some u)
    (hl : xs.length + n ≤ 1099511627776) (hB : B ≤ wr.heap.size)
    (h : ∀ v' w', OI w' B e v' (xs ++ ys) → (∀ B', B' ≤ B → Below B' wr w') → wr.heap.size ≤ w'.heap.size → K (a.put o.dst v') w') :
    if Region.wanted o (yielded ops a.tmps) = true then Oper.wp P o a wr K Q else E := by
  have hw : Region.wanted o (yielded ops a.tmps) = true := by simp [Region.wanted, hgd]
  rw [if_pos hw]
  obtain ⟨i, hi, hiz, his, hib⟩ := info_parts hinf
  obtain ⟨v', w', hrun, h1, h2, _⟩ := run_append_own (P := P) wr B t o.type e i (.int .i64 0) 1 8 ht hi hiz his hib rfl (by omega) v xs.length (xs.map (Value.int .i64)) hown ad n c (ys.map (Value.int .i64)) (by simp [hn]) hr (by
    intro y hy
    obtain ⟨z, _, rfl⟩ := List.mem_map.1 hy
    rfl) (by simp only [maxLen]; omega) (by omega) hB
  unfold Oper.wp
  simp [execOp, ho, resolve, invoke, builtin, hs, hx, hrun, Result.andThen]
  refine h v' w' (by unfold OI; rw [List.map_append, List.length_append, hn]; exact h1) (fun B' hB' => ⟨h2.os, h2.tape, h2.output, h2.size, fun k hk => h2.block k (by omega) (fun e => ?_)⟩) h2.size
  have := (World.ownsRow.lt hown k e.symm).1
  omega
theorem add_none (g off j : Nat) : (⟨g, off, none⟩ : Addr).add j = ⟨g, off + j, none⟩ := by unfold Addr.add; split <;> simp_all
/-- a slice of integers is readable from a place on -/
theorem Rd.drop_ {w : World} {g off k : Nat} {vs : List Value} (h : Rd w (some ⟨g, off, none⟩) vs) : Rd w (some ⟨g, off + k, none⟩) (vs.drop k) := by
  rcases h with h | ⟨g', off', hA, hc⟩
  · left; rw [h]; simp
  · injection hA with hA
    injection hA with h1 h2
    subst h1; subst h2
    refine .inr ⟨g, off + k, rfl, fun j v hj => ?_⟩
    rw [List.getElem?_drop] at hj
    rw [Nat.add_assoc]
    exact hc _ _ hj
theorem Rd.take_ {w : World} {A : Option Addr} {k : Nat} {vs : List Value} (h : Rd w A vs) : Rd w A (vs.take k) := by
  rcases h with h | ⟨g, off, hA, hc⟩
  · left; rw [h]; simp
  · refine .inr ⟨g, off, hA, fun j v hj => ?_⟩
    rw [List.getElem?_take] at hj
    split at hj
    · exact hc _ _ hj
    · cases hj
theorem Rd.adds {w : World} {g off : Nat} {vs : List Value} (h : Rd w (some ⟨g, off, none⟩) vs) : ∀ j u, vs[j]? = some u → w.cell? ((⟨g, off, none⟩ : Addr).add j) = some u := fun j u hj => by
  rw [add_none]; exact h.cell hj
theorem ints_drop (l : List Nat) (k : Nat) : (ints l).drop k = ints (l.drop k) := by simp [ints, List.map_drop]
theorem ints_take (l : List Nat) (k : Nat) : (ints l).take k = ints (l.take k) := by simp [ints, List.map_take]

theorem wp_zeros {ops : Array Oper} {rest : List Oper} {o : Oper} {a : Act} {w : World} {Q : Exit → Act → World → Prop} (hgd : o.guard = none) (s x : Operand)
    (ho : o.op = .call { callee := .builtin .append, args := #[s, x], argTypes := #[31, 3] }) (k : Nat) (h0 : 0 < k) (hk : k ≤ 1000) (hs : a.eval s = .slice none 0 0) (hx : a.eval x = .int .i64 (k : Int))
    (h : ∀ g c w', g = w.heap.size → OI w' w.heap.size 3 (.slice (some ⟨g, 0, none⟩) 0 c) [] → k ≤ c → Below w.heap.size w w' → wpList Tryd.prog ops Q rest (a.put o.dst (.slice (some ⟨g, 0, none⟩) k c)) w') :
    wpList Tryd.prog ops Q (o :: rest) a w := by
  obtain ⟨i, hi, hiz, his, hib⟩ := info_parts info_int
  have hrun := Lib.run_append_grow_zeros (P := Tryd.prog) w 31 3 o.type 3 i (.int .i64 0) .i64 .i64 Tryd.underlying31 Tryd.underlying3 hi hiz none 0 0 [] (by rfl) k h0 (by omega) (by omega) (by omega) (by rw [hib]; omega) (growslice_fits (by omega) (by rw [hib]; omega))
  have hge := grownCap_ge w (0 + k) 0 3
  have hle := grownCap_le_maxLen w (0 + k) 0 3 (by simp only [maxLen]; omega)
  obtain ⟨c, hc⟩ : ∃ c, c = grownCap w (0 + k) 0 3 := ⟨_, rfl⟩
  rw [← hc] at hrun hge hle
  refine wpList_plain hgd fun _ hK => ?_
  unfold Oper.wp
  simp only [Nat.zero_add] at hrun
  simp [execOp, ho, resolve, invoke, builtin, hs, hx, hrun, Result.andThen]
  refine hK _ _ (h _ c _ rfl ⟨by simp, .inr ⟨w.heap.size, c, _, rfl, Nat.le_refl _, heap_alloc_new w.drew _, Nat.zero_le _, hle, ?_, by simp⟩⟩ (by omega) ?_)
  · simp only [Array.size_append, size_zeroCells]
    have e1 : (Value.int .i64 0).cells.size = 1 := rfl
    rw [e1]
    first | omega | (simp; omega)
  · exact ⟨rfl, rfl, rfl, by simp, fun j hj => heap_alloc_old w.drew _ hj⟩
set_option maxRecDepth 100000 in
theorem grow_any (k : Nat) (w : World) (h0 : 0 < k) (hk : k ≤ 1000) :
    Calls Tryd.prog 143 #[.slice none 0 0, .int .i64 (k : Int)] w fun e w' => (∃ v, e = .returned v ∧ OI w' w.heap.size 3 v []) ∧ Below w.heap.size w w' := by
  go_enter Tryd.func143, Tryd.ntmps143
  go_wp2_with (at_builtin; refine wp_zeros rfl _ _ rfl k h0 hk rfl rfl ?_; intro g c w1 hg hO hkc hB; subst hg)
  go_ret
  exact ⟨⟨_, rfl, hO⟩, hB⟩

set_option maxHeartbeats 1000000 in
set_option maxRecDepth 100000 in
theorem concat_any (g off g1 off1 n1 c1 g2 off2 n2 c2 c : Nat) (xs ys : List Int) (w : World) (hx : Hid (Rd w (some ⟨g, off, none⟩) [.slice (some ⟨g1, off1, none⟩) n1 c1, .slice (some ⟨g2, off2, none⟩) n2 c2]))
    (h1 : Hid (Rd w (some ⟨g1, off1, none⟩) (xs.map (Value.int .i64)))) (h2 : Hid (Rd w (some ⟨g2, off2, none⟩) (ys.map (Value.int .i64)))) (hn1 : xs.length = n1) (hn2 : ys.length = n2) (h0 : 0 < n1 + n2) (hk : n1 + n2 ≤ 1000) :
    Calls Tryd.prog 125 #[.slice (some ⟨g, off, none⟩) 2 c] w fun e w' => RetI w.heap.size (xs ++ ys) e w' ∧ Below w.heap.size w w' := by
  have hc0 := hx.out.cell (k := 0) rfl
  have hc1 := hx.out.cell (k := 1) rfl
  obtain ⟨m, HM⟩ : ∃ m, Hid (m = n1 + n2) := ⟨_, rfl⟩
  have HN1 := Lib.hid hn1
  have HN2 := Lib.hid hn2
  clear hn1 hn2
  rw [Nat.add_zero] at hc0
  go_enter Tryd.func125, Tryd.ntmps125
  go_wp2
  go_loopw [3, 11] (fun v q wr => ((q = .int .i64 0 ∧ v = .int .i64 0) ∨ (q = .int .i64 1 ∧ v = .int .i64 (n1 : Int)) ∨ (q = .int .i64 2 ∧ v = .int .i64 (m : Int))) ∧ wr = w) (fun _ q _ => 2 - (intOf q).toNat)
  case atStart => exact ⟨.inl ⟨rfl, rfl⟩, rfl⟩
  case round =>
    obtain ⟨hrel, hw⟩ := hrel
    have hw2 := hw.symm
    clear hw
    subst hw2
    rcases hrel with ⟨rfl, rfl⟩ | ⟨rfl, rfl⟩ | ⟨rfl, rfl⟩
    · go_wp2_with fail
      go_roundw
      case rel => exact ⟨.inr (.inl ⟨rfl, rfl⟩), trivial⟩
      case measure => simp [intOf]
    · go_wp2_with fail
      go_roundw
      case rel => exact ⟨.inr (.inr ⟨rfl, val_int (by have := HM.out; omega)⟩), trivial⟩
      case measure => simp [intOf]
    · go_wp2_with fail
      refine (grow_any m w (by have := HM.out; omega) (by have := HM.out; omega)).mono ?_
      rintro e w1 ⟨⟨v0, rfl, hO⟩, hB⟩
      have HO := Lib.hid hO
      clear hO
      go_wp2
      go_loopw [6, 27] (fun v q w2 => ((q = .int .i64 0 ∧ Hid (OI w2 w.heap.size 3 v [])) ∨ (q = .int .i64 1 ∧ Hid (OI w2 w.heap.size 3 v xs)) ∨ (q = .int .i64 2 ∧ Hid (OI w2 w.heap.size 3 v (xs ++ ys)))) ∧ Below w.heap.size w w2) (fun _ q _ => 2 - (intOf q).toNat)
      case atStart => exact ⟨.inl ⟨rfl, HO⟩, hB⟩
      case round =>
        obtain ⟨hrel, hB2⟩ := hrel
        have hsz2 := hB2.size
        have e0 := (World.cell?_of_block (w := w) (hB2.block _ (World.block_lt_of_cell? w _ hc0))).trans hc0
        have e1 := (World.cell?_of_block (w := w) (hB2.block _ (World.block_lt_of_cell? w _ hc1))).trans hc1
        have r1 : Hid (Rd wr (some ⟨g1, off1, none⟩) (xs.map (Value.int .i64))) := Lib.hid (h1.out.below hB2)
        have r2 : Hid (Rd wr (some ⟨g2, off2, none⟩) (ys.map (Value.int .i64))) := Lib.hid (h2.out.below hB2)
        have hl1 := HN1.out
        have hl2 := HN2.out
        have hn1 : n1 ≤ 1000 := by omega
        have hn2 : n2 ≤ 1000 := by omega
        have H1 := Lib.hid hl1
        have H2 := Lib.hid hl2
        clear hl1 hl2
        rcases hrel with ⟨rfl, HO2⟩ | ⟨rfl, HO2⟩ | ⟨rfl, HO2⟩
        · go_wp2_with (at_builtin; refine wp_catI rfl _ _ _ rfl Tryd.underlying31 info_int HO2.out rfl rfl H1.out r1.out.adds (by simp; omega) hsz2 ?_; intro v' w3 hown hbel hsz3 hfr3)
          go_roundw
          case rel => exact ⟨.inr (.inl ⟨rfl, Lib.hid (by simpa using hown)⟩), hB2.trans (hbel _ (Nat.le_refl _))⟩
          case measure => simp [intOf]
        · go_wp2_with (at_builtin; refine wp_catI rfl _ _ _ rfl Tryd.underlying31 info_int HO2.out rfl rfl H2.out r2.out.adds (by have := H1.out; omega) hsz2 ?_; intro v' w3 hown hbel hsz3 hfr3)
          go_roundw
          case rel => exact ⟨.inr (.inr ⟨rfl, Lib.hid hown⟩), hB2.trans (hbel _ (Nat.le_refl _))⟩
          case measure => simp [intOf]
        · obtain ⟨A', c', hv, hc, hO⟩ := HO2.out.form
          have HV := Lib.hid hv
          clear hv
          go_wp2
          go_ret
          exact ⟨⟨A', c', by rw [← HV.out]; rfl, hc, hO⟩, hB2⟩

theorem rot_eq {r : List Nat} {k : Nat} (h : mni r = k) : ints (rot r) = ints (r.drop k) ++ ints (r.take k) := by rw [rot, h, ints_append]
set_option maxHeartbeats 1000000 in
set_option maxRecDepth 100000 in
theorem l4Cycle_any (A : Option Addr) (c n N s : Nat) (ps : List (List UInt8)) (w : World) (hx : Hid (Rd w A ((ints (stpTo ps N)).map (Value.int .i64)))) (hok : Hid (okN ps = true)) (HN : Hid (N = 2 ^ ps.length)) (hs : s < N) (hn : n = N) :
    Calls Tryd.prog 74 #[.slice A n c, .int .i64 (s : Int)] w fun e w' => RetI w.heap.size (ints (cyc (stp ps) s)) e w' ∧ Below w.heap.size w w' := by
  have hn2 := hn.symm
  clear hn
  subst hn2
  have hN32 : N ≤ 32 := by rw [HN.out]; exact two_le _ (okN_le hok.out)
  have hF := orb_all (f := stp ps) (N := N) hN32 (fun x _ => by rw [HN.out]; exact stp_lt hok.out x) hs
  obtain ⟨ol, ot, HOO⟩ : ∃ ol ot, Hid (orb (stp ps) s = (ol, ot)) := ⟨_, _, rfl⟩
  have HCY : Hid (cyc (stp ps) s = rot (ol.drop ot)) := Lib.hid (by rw [cyc, rnd, HOO.out])
  rw [HOO.out] at hF
  obtain ⟨hF1, hF2, _⟩ := hF
  dsimp only at hF1 hF2
  obtain ⟨r, HR0⟩ : ∃ r, Hid (r = ol.drop ot) := ⟨_, rfl⟩
  have HRL : Hid (r.length = ol.length - ot) := Lib.hid (by rw [HR0.out, List.length_drop])
  have hil : (ints ol).length = ol.length := ints_length _
  go_enter Tryd.func74, Tryd.ntmps74
  go_wp2_with fail
  refine (l4Orbit_any _ _ _ N _ _ _ hx hok HN hs rfl).mono ?_
  rintro e w1 ⟨hret, hB1⟩
  rw [HOO.out] at hret
  obtain ⟨A2, c2, rfl, hc2, hO2⟩ := hret
  dsimp only at hc2 hO2 ⊢
  obtain ⟨g, off, hA, hcell0⟩ := hO2.rd.at_ (ints_at (l := ol) (k := 0) (by omega))
  subst hA
  have HRr : Hid (Rd w1 (some ⟨g, off + ot, none⟩) ((ints r).map (Value.int .i64))) := Lib.hid (by
    have h := (hO2.rd).drop_ (k := ot)
    rwa [← List.map_drop, ints_drop, ← HR0.out] at h)
  clear hO2 hcell0
  go_wp2_with fail
  go_loopw [8, 9] (fun p q wr => ∃ k i : Nat, p = .int .i64 k ∧ q = .int .i64 i ∧ k < i ∧ i ≤ ol.length - ot ∧ Hid (∀ j, (hj : j < i) → (hk : k < r.length) → (hl : j < r.length) → r[k] ≤ r[j]) ∧ Hid (∀ j, (hj : j < k) → (hk : k < r.length) → (hl : j < r.length) → r[k] < r[j]) ∧ ∃ n, wr = w1.drewN n) (fun _ q _ => ol.length - ot - (intOf q).toNat)
  case atStart => exact ⟨0, 1, rfl, rfl, by omega, by omega, Lib.hid (fun j hj hk hl => by (obtain rfl : j = 0 := (by omega)); exact Nat.le_refl _), Lib.hid (fun j hj => by omega), 0, rfl⟩
  case round =>
    obtain ⟨k, i, rfl, rfl, hki, hil2, HA, HB, n, rfl⟩ := hrel
    have hkr : k < r.length := by have := HRL.out; omega
    by_cases hlt : i < ol.length - ot
    · have hir : i < r.length := by have := HRL.out; omega
      have hci : w1.cell? ⟨g, off + ot + i, none⟩ = some (.int .i64 (r[i] : Int)) := HRr.out.cell (ints_at hir)
      have hck : w1.cell? ⟨g, off + ot + k, none⟩ = some (.int .i64 (r[k] : Int)) := HRr.out.cell (ints_at hkr)
      by_cases hlt2 : r[i] < r[k]
      · have HA2 : Hid (∀ j, (hj : j < i + 1) → (hk : i < r.length) → (hl : j < r.length) → r[i] ≤ r[j]) := Lib.hid (fun j hj hk hl => by
          by_cases e : j = i
          · subst e; exact Nat.le_refl _
          · have := HA.out j (by omega) hkr hl
            omega)
        have HB2 : Hid (∀ j, (hj : j < i) → (hk : i < r.length) → (hl : j < r.length) → r[i] < r[j]) := Lib.hid (fun j hj hk hl => by
          have := HA.out j hj hkr hl
          omega)
        go_wp2_with fail
        go_quiet (fail)
        go_wp2_with fail
        go_roundw
        case rel => exact ⟨i, i + 1, rfl, by go_num, by omega, by omega, HA2, HB2, _, rfl⟩
        case measure => simp [intOf]; omega
      · have HA2 : Hid (∀ j, (hj : j < i + 1) → (hk : k < r.length) → (hl : j < r.length) → r[k] ≤ r[j]) := Lib.hid (fun j hj hk hl => by
          by_cases e : j = i
          · subst e; omega
          · exact HA.out j (by omega) hk hl)
        go_wp2_with fail
        go_quiet (fail)
        go_wp2_with fail
        go_roundw
        case rel => exact ⟨k, i + 1, rfl, by go_num, by omega, by omega, HA2, HB, _, rfl⟩
        case measure => simp [intOf]; omega
    · have hie : i = ol.length - ot := by omega
      have HV : Hid (ints (cyc (stp ps) s) = ints (r.drop k) ++ ints (r.take k)) := Lib.hid (by
        rw [HCY.out, ← HR0.out]
        exact rot_eq (mni_of hkr (fun j hj => HA.out j (by have := HRL.out; omega) hkr hj) (fun j hj => HB.out j hj hkr (by omega))))
      clear hie
      go_wp2_with fail
      have hkc : k ≤ ol.length - ot := by omega
      have hkc2 : k ≤ c2 - ot := by omega
      have hkc3 : ¬ c2 - ot = k := by omega
      have HX1 : Hid (∀ W', Below w1.heap.size w1 W' → ∀ j u, ((ints (r.drop k)).map (Value.int .i64))[j]? = some u → W'.cell? ((⟨g, off + ot + k, none⟩ : Addr).add j) = some u) := Lib.hid (fun W' hb => by
        have h := (HRr.out.below hb).drop_ (k := k)
        rw [← List.map_drop, ints_drop] at h
        exact h.adds)
      have HX2 : Hid (∀ W', Below w1.heap.size w1 W' → ∀ j u, ((ints (r.take k)).map (Value.int .i64))[j]? = some u → W'.cell? ((⟨g, off + ot, none⟩ : Addr).add j) = some u) := Lib.hid (fun W' hb => by
        have h := (HRr.out.below hb).take_ (k := k)
        rw [← List.map_take, ints_take] at h
        exact h.adds)
      have HLD : Hid ((ints (r.drop k)).length = ol.length - ot - k) := Lib.hid (by rw [ints_length, List.length_drop, HRL.out])
      have HLT : Hid ((ints (r.take k)).length = k) := Lib.hid (by rw [ints_length, List.length_take, HRL.out]; omega)
      have HBn : Hid (Below w1.heap.size w1 (w1.drewN (n + 1))) := Lib.hid (drewN_below w1 (n + 1))
      go_region_law (first
        | (refine step_catI rfl _ _ _ rfl Tryd.underlying31 info_int (OI.empty (w1.drewN (n + 1)) w1.heap.size 3 (Nat.le_refl _)) rfl rfl HLD.out (HX1.out _ (HBn.out.alloc (Nat.le_refl _) _)) (by simp; omega) (by rw [alloc_size]; exact Nat.le_succ _) ?_; intro v3 w3 hown hbel hsz3; have hB3 : Below w1.heap.size w1 w3 := (HBn.out.alloc (Nat.le_refl _) _).trans (hbel _ (Nat.le_refl _)); have HO3 := Lib.hid hown; have hs3 := hB3.size; clear hown hbel hsz3)
        | (refine step_catI rfl _ _ _ rfl Tryd.underlying31 info_int HO3.out rfl rfl HLT.out (HX2.out _ hB3) (by rw [List.nil_append, HLD.out]; omega) hs3 ?_; intro v4 w4 hown4 hbel4 hsz4))
      all_goals (
        rw [List.nil_append, ← HV.out] at hown4
        obtain ⟨A', c', hv, hc, hO⟩ := hown4.form
        have HV2 := Lib.hid hv
        have hBf : Below w.heap.size w w4 := hB1.trans ((hB3.trans (hbel4 _ (Nat.le_refl _))).mono hB1.size)
        clear hv hown4 hbel4 hkc hkc2 hkc3
        go_wp2
        go_ret
        exact ⟨⟨A', c', by rw [← HV2.out]; rfl, hc, hO.mono hB1.size⟩, hBf⟩)

theorem getD_ints (l : List Nat) (j : Nat) (hj : j < (ints l).length) : ((ints l).map (Value.int .i64))[j]? = some (.int .i64 ((ints l).getD j 0)) := by
  rw [List.getElem?_map, List.getElem?_eq_getElem hj, List.getD_eq_getElem?_getD, List.getElem?_eq_getElem hj]; rfl
set_option maxHeartbeats 1000000 in
set_option maxRecDepth 100000 in
theorem cycle_any (A : Option Addr) (c s N : Nat) (ps : List (List UInt8)) (w : World) (hx : Hid (Rd w A (netL ps))) (hok : Hid (okN ps = true)) (HN : Hid (N = 2 ^ ps.length)) (hs : s < N) :
    Calls Tryd.prog 77 #[.slice A ps.length c, .int .i64 (s : Int)] w fun e w' => RetI w.heap.size (ints (cyc (stp ps) s)) e w' ∧ Below w.heap.size w w' := by
  have hN32 : N ≤ 32 := by rw [HN.out]; exact two_le _ (okN_le hok.out)
  have hF := orb_all (f := stp ps) (N := N) hN32 (fun x _ => by rw [HN.out]; exact stp_lt hok.out x) hs
  obtain ⟨ol, ot, HOO⟩ : ∃ ol ot, Hid (orb (stp ps) s = (ol, ot)) := ⟨_, _, rfl⟩
  have HCY : Hid (cyc (stp ps) s = rot (ol.drop ot)) := Lib.hid (by rw [cyc, rnd, HOO.out])
  rw [HOO.out] at hF
  obtain ⟨hF1, hF2, _⟩ := hF
  dsimp only at hF1 hF2
  obtain ⟨r, HR0⟩ : ∃ r, Hid (r = ol.drop ot) := ⟨_, rfl⟩
  have HRL : Hid (r.length = ol.length - ot) := Lib.hid (by rw [HR0.out, List.length_drop])
  have hne : r ≠ [] := by
    intro e
    have := HRL.out
    rw [e, List.length_nil] at this
    omega
  obtain ⟨k, HK⟩ : ∃ k, Hid (mni r = k) := ⟨_, rfl⟩
  have hkr : k < ol.length - ot := by rw [← HK.out, ← HRL.out]; exact mni_lt hne
  have HV : Hid (ints (cyc (stp ps) s) = ints (r.drop k) ++ ints (r.take k)) := Lib.hid (by
    rw [HCY.out, ← HR0.out]
    exact rot_eq HK.out)
  have HMN : Hid (Lib.minOf ((ints r).take (ol.length - ot)) = (minN r : Int)) := Lib.hid (by
    rw [List.take_of_length_le (by rw [ints_length, HRL.out]; exact Nat.le_refl _), minOf_ints])
  have HIX : Hid (Lib.idxOf ((ints r).take (ol.length - ot)) ((minN r : Nat) : Int) = (k : Int)) := Lib.hid (by
    rw [List.take_of_length_le (by rw [ints_length, HRL.out]; exact Nat.le_refl _), idxOf_ints hne, HK.out])
  have HRI : Hid ((ints r).length = ol.length - ot) := Lib.hid (by rw [ints_length, HRL.out])
  clear hne
  have hil : (ints ol).length = ol.length := ints_length _
  go_enter Tryd.func77, Tryd.ntmps77
  go_wp2_with fail
  refine (orbit_any _ _ _ N _ _ hx hok HN hs).mono ?_
  rintro e w1 ⟨hret, hB1⟩
  rw [HOO.out] at hret
  obtain ⟨A2, c2, rfl, hc2, hO2⟩ := hret
  dsimp only at hc2 hO2 ⊢
  obtain ⟨g, off, hA, hcell0⟩ := hO2.rd.at_ (ints_at (l := ol) (k := 0) (by omega))
  subst hA
  have HRr : Hid (Rd w1 (some ⟨g, off + ot, none⟩) ((ints r).map (Value.int .i64))) := Lib.hid (by
    have h := (hO2.rd).drop_ (k := ot)
    rwa [← List.map_drop, ints_drop, ← HR0.out] at h)
  clear hO2 hcell0
  have HGD : Hid (∀ j, j < (ints r).length → w1.cell? ⟨g, off + ot + j, none⟩ = some (.int .i64 ((ints r).getD j 0))) := Lib.hid (fun j hj => HRr.out.cell (getD_ints r j hj))
  have hmin := Tryd.slices_Min_int g (off + ot) (ol.length - ot) (c2 - ot) (ints r) w1 (by omega) (by rw [HRI.out]; exact Nat.le_refl _) (by omega) HGD.out
  rw [HMN.out] at hmin
  have hidx := Tryd.slices_Index_int g (off + ot) (ol.length - ot) (c2 - ot) (ints r) ((minN r : Nat) : Int) w1 (by rw [HRI.out]; exact Nat.le_refl _) (by omega) HGD.out
  rw [HIX.out] at hidx
  have HM1 := Lib.hid hmin
  have HI1 := Lib.hid hidx
  clear hmin hidx
  go_wp2_with (first
    | (go_at_call 124; refine HM1.out.mono ?_; rintro e w2 ⟨rfl, rfl⟩)
    | (go_at_call 123; refine HI1.out.mono ?_; rintro e w2 ⟨rfl, rfl⟩))
  have hkc : k ≤ ol.length - ot := by omega
  have hkc2 : k ≤ c2 - ot := by omega
  have hkc3 : ¬ c2 - ot = k := by omega
  have HX1 : Hid (∀ W', Below w2.heap.size w2 W' → Rd W' (some ⟨g, off + ot + k, none⟩) ((ints (r.drop k)).map (Value.int .i64))) := Lib.hid (fun W' hb => by
    have h := (HRr.out.below hb).drop_ (k := k)
    rwa [← List.map_drop, ints_drop] at h)
  have HX2 : Hid (∀ W', Below w2.heap.size w2 W' → Rd W' (some ⟨g, off + ot, none⟩) ((ints (r.take k)).map (Value.int .i64))) := Lib.hid (fun W' hb => by
    have h := (HRr.out.below hb).take_ (k := k)
    rwa [← List.map_take, ints_take] at h)
  have HLD : Hid ((ints (r.drop k)).length = ol.length - ot - k) := Lib.hid (by rw [ints_length, List.length_drop, HRL.out])
  have HLT : Hid ((ints (r.take k)).length = k) := Lib.hid (by rw [ints_length, List.length_take, HRL.out]; omega)
  have HBd : Hid (Below w2.heap.size w2 (w2.drewN 1)) := Lib.hid (drewN_below w2 1)
  go_region_with (go_at_call 125; refine (concat_any w2.heap.size 0 g (off + ot + k) (ol.length - ot - k) (c2 - ot - k) g (off + ot) k (c2 - ot) 2 (ints (r.drop k)) (ints (r.take k)) _ (Lib.hid (Own.lit (w2.drewN 1) _ [_, _] (B := 0) (Nat.zero_le _)).rd) (Lib.hid (HX1.out _ (HBd.out.alloc (Nat.le_refl _) _))) (Lib.hid (HX2.out _ (HBd.out.alloc (Nat.le_refl _) _))) HLD.out HLT.out (by omega) (by omega)).mono ?_; rintro e w3 ⟨⟨A3, c3, rfl, hc3, hO3⟩, hB3⟩)
  all_goals (
    rw [← HV.out] at hc3 hO3
    have hz1 := hB1.size
    have hBf : Below w.heap.size w w3 := hB1.trans (((HBd.out.alloc (Nat.le_refl _) _).trans (hB3.mono (by rw [alloc_size]; exact Nat.le_succ _))).mono hz1)
    clear hkc hkc2 hkc3
    go_wp2
    go_ret
    exact ⟨⟨A3, c3, by rw [HV.out, List.length_append]; rfl, hc3, hO3.mono (by rw [alloc_size]; exact Nat.le_succ_of_le hz1)⟩, hBf⟩)

end Go.Proofs.YtjinmoeabkpmaaaDoor
