/- Walks: the program's PathTo. -/
import Derived.Test.YtpehimjngofnkaaDoorProg
import Derived.WalkKit
import Derived.WalkSpells
import Derived.WalkLawsBesides
import Derived.Lib.Hide
import Derived.Deep.QuietTactic
import Derived.Deep.LoopGhost
import Derived.Laws.OwnMore
import Derived.Maps.Own
import Derived.Maps.OwnOps
import Derived.BigQuiet
import Derived.Carry
import Derived.IntWalk
import Derived.Test.YtpehimjngofnkaaDoorQ7
namespace Go.Proofs.YtpehimjngofnkaaDoor
open Go.RowKit
set_option linter.unusedVariables false

def valO (o : Option Nat) : Nat := match o with | none => 33 | some d => d
def phi (m : Nat → Option Nat) : Nat → Nat
  | 0 => 0
  | k + 1 => phi m k + valO (m k)
def cnt (m : Nat → Option Nat) : Nat → Nat
  | 0 => 0
  | k + 1 => cnt m k + if (m k).isSome then 1 else 0
def putO (m : Nat → Option Nat) (u e : Nat) : Nat → Option Nat := fun x => if x = u then some e else m x
theorem putO_same (m : Nat → Option Nat) (u e : Nat) : putO m u e u = some e := if_pos rfl
theorem putO_ne {m : Nat → Option Nat} {u e x : Nat} (h : ¬ x = u) : putO m u e x = m x := if_neg h
theorem phi_put (m : Nat → Option Nat) (u e : Nat) : ∀ k, (u < k → phi (putO m u e) k + valO (m u) = phi m k + e) ∧ (k ≤ u → phi (putO m u e) k = phi m k)
  | 0 => ⟨fun h => by omega, fun _ => rfl⟩
  | k + 1 => by
    obtain ⟨h1, h2⟩ := phi_put m u e k
    constructor
    · intro h
      by_cases hk : u = k
      · subst hk
        rw [phi, phi, h2 (Nat.le_refl _), putO_same]
        simp only [valO]; omega
      · rw [phi, phi, putO_ne (fun e => hk e.symm)]
        have := h1 (by omega)
        omega
    · intro h
      rw [phi, phi, h2 (by omega), putO_ne (by omega)]
theorem cnt_put (m : Nat → Option Nat) (u e : Nat) : ∀ k, (u < k → cnt (putO m u e) k = cnt m k + if (m u).isSome then 0 else 1) ∧ (k ≤ u → cnt (putO m u e) k = cnt m k)
  | 0 => ⟨fun h => by omega, fun _ => rfl⟩
  | k + 1 => by
    obtain ⟨h1, h2⟩ := cnt_put m u e k
    constructor
    · intro h
      by_cases hk : u = k
      · subst hk
        rw [cnt, cnt, h2 (Nat.le_refl _), putO_same]
        cases m u <;> simp
      · rw [cnt, cnt, putO_ne (fun e => hk e.symm), h1 (by omega)]
        omega
    · intro h
      rw [cnt, cnt, h2 (by omega), putO_ne (by omega)]
theorem cnt_le (m : Nat → Option Nat) : ∀ k, cnt m k ≤ k
  | 0 => Nat.le_refl _
  | k + 1 => by have := cnt_le m k; rw [cnt]; split <;> omega
theorem phi_le {m : Nat → Option Nat} (h : ∀ u d, m u = some d → d ≤ 33) : ∀ k, phi m k ≤ 33 * k
  | 0 => Nat.le_refl _
  | k + 1 => by
    have := phi_le h k
    rw [phi]
    cases hm : m k with
    | none => simp only [valO]; omega
    | some d => have := h k d hm; simp only [valO]; omega
/-- the map tells distances under way -/
structure FarS (nx : Nat → List Nat) (N t : Nat) (m : Nat → Option Nat) (kvs : List (Int × Int)) : Prop where
  i : FarI nx N t m
  g : ∀ u : Nat, getM kvs (u : Int) = (m u).map fun d => (d : Int)
  b : ∀ u d, m u = some d → d < cnt m N
theorem cnt_one (t : Nat) : ∀ k, cnt (fun u => if u = t then some 0 else none) k = if t < k then 1 else 0
  | 0 => rfl
  | k + 1 => by
    rw [cnt, cnt_one t k]
    by_cases h : k = t
    · subst h; simp
    · rw [if_neg h]
      by_cases h2 : t < k
      · have e2 : t < k + 1 := by omega
        simp [h2, e2]
      · have e2 : ¬ t < k + 1 := by omega
        simp [h2, e2]
theorem FarS.start {nx : Nat → List Nat} {N t : Nat} (h : t < N) : FarS nx N t (fun u => if u = t then some 0 else none) [((t : Int), 0)] := by
  refine ⟨FarI.start h, fun u => ?_, fun u d hd => ?_⟩
  · rw [getM]
    by_cases e : u = t
    · rw [if_pos e, if_pos (by omega)]; rfl
    · rw [if_neg e, if_neg (by omega)]; rfl
  · rw [cnt_one, if_pos h]
    by_cases e : u = t
    · rw [if_pos e] at hd; injection hd with hd; omega
    · rw [if_neg e] at hd; cases hd
theorem FarS.put {nx : Nat → List Nat} {N t u v d : Nat} {m : Nat → Option Nat} {kvs : List (Int × Int)} (h : FarS nx N t m kvs) (hu : u < N) (hv : v ∈ nx u) (hd : m v = some d) (hc : ∀ old, m u = some old → d + 1 < old) :
    FarS nx N t (putO m u (d + 1)) (setM kvs (u : Int) ((d + 1 : Nat) : Int)) ∧ (N ≤ 32 → phi (putO m u (d + 1)) N < phi m N) := by
  have hne : u = t → False := fun e => by
    subst e
    have := hc 0 h.i.base
    omega
  have hcn := (cnt_put m u (d + 1) N).1 hu
  refine ⟨⟨h.i.put hu hv hd hne, fun x => ?_, fun x e hx => ?_⟩, fun h32 => ?_⟩
  · rw [getM_setM]
    by_cases e : x = u
    · subst e; rw [if_pos rfl, putO_same]; rfl
    · rw [if_neg (by omega), putO_ne e, h.g]
  · have hbd := h.b v d hd
    by_cases e1 : x = u
    · subst e1
      rw [putO_same] at hx; injection hx with hx
      subst hx
      cases hm : m x with
      | none => rw [hm] at hcn; simp at hcn; omega
      | some old => have h1 := hc old hm; have h2 := h.b x old hm; rw [hm] at hcn; simp at hcn; omega
    · rw [putO_ne e1] at hx
      have := h.b x e hx
      rw [hcn]; omega
  · have hp := (phi_put m u (d + 1) N).1 hu
    have hbd := h.b v d hd
    have hcl := cnt_le m N
    cases hm : m u with
    | none =>
      rw [hm] at hp
      simp only [valO] at hp
      have hcn2 := cnt_le (putO m u (d + 1)) N
      rw [hm] at hcn
      simp at hcn
      omega
    | some old => have h1 := hc old hm; rw [hm] at hp; simp only [valO] at hp; omega
/-- the first k states are closed -/
def ClsTo (nx : Nat → List Nat) (m : Nat → Option Nat) (k : Nat) : Prop := ∀ u, u < k → ∀ v, v ∈ nx u → ∀ d, m v = some d → ∃ e, m u = some e ∧ e ≤ d + 1
/-- .. and of the k-th the first j next states -/
def ClsAt (nx : Nat → List Nat) (m : Nat → Option Nat) (k j : Nat) : Prop := ClsTo nx m k ∧ ∀ v, v ∈ (nx k).take j → ∀ d, m v = some d → ∃ e, m k = some e ∧ e ≤ d + 1
theorem ClsAt.start {nx : Nat → List Nat} {m : Nat → Option Nat} {k : Nat} (h : ClsTo nx m k) : ClsAt nx m k 0 := ⟨h, by simp⟩
theorem ClsAt.fin {nx : Nat → List Nat} {m : Nat → Option Nat} {k j : Nat} (h : ClsAt nx m k j) (hj : (nx k).length ≤ j) : ClsTo nx m (k + 1) := by
  intro u hu v hv d hd
  by_cases e : u = k
  · subst e; exact h.2 v (by rw [List.take_of_length_le hj]; exact hv) d hd
  · exact h.1 u (by omega) v hv d hd
theorem ClsAt.next {nx : Nat → List Nat} {m : Nat → Option Nat} {k j v : Nat} (h : ClsAt nx m k j) (hv : (nx k)[j]? = some v) (hc : ∀ d, m v = some d → ∃ e, m k = some e ∧ e ≤ d + 1) : ClsAt nx m k (j + 1) :=
  ⟨h.1, fun x hx d hd => by
    rcases take_snoc_mem hv hx with h1 | h1
    · exact h.2 x h1 d hd
    · subst h1; exact hc d hd⟩

theorem zero_int (w : World) : (zeroValue 3).run Tryd.prog w = .ok (.int .i64 0) w := by kernel_rfl
theorem wpList_putM {ops : Array Oper} {rest : List Oper} {o : Oper} {a : Act} {w : World} {Q : Exit → Act → World → Prop} (hgd : o.guard = none) (m x y : Operand) (ho : o.op = .mapUpdate 99 m x y) {b : Nat} {kvs : List (Int × Int)} {k v : Int}
    (hm : a.eval m = .map (some b)) (hx : a.eval x = .int .i64 k) (hy : a.eval y = .int .i64 v) (hs : MapAt w b kvs)
    (h : ∀ w1, MapAt w1 b (setM kvs k v) → w.grownBy w1 (some b) → wpList Tryd.prog ops Q rest (a.put o.dst undef) w1) : wpList Tryd.prog ops Q (o :: rest) a w := by
  obtain ⟨w1, hrun, h1, h2⟩ := map_put Tryd.underlying99 Tryd.underlying3 hs k v
  refine wpList_plain hgd fun _ hK => ?_
  unfold Oper.wp execOp
  simp only [ho, hm, hx, hy, Sem.run_bind, hrun, Result.andThen_ok]
  exact hK _ _ (h w1 h1 h2)
theorem wpList_insM {ops : Array Oper} {rest : List Oper} {o : Oper} {a : Act} {w : World} {Q : Exit → Act → World → Prop} (hgd : o.guard = none) (m x y : Operand) (ho : o.op = .insert 99 m x y) {b : Nat} {kvs : List (Int × Int)} {k v : Int}
    (hm : a.eval m = .map (some b)) (hx : a.eval x = .int .i64 k) (hy : a.eval y = .int .i64 v) (hs : MapAt w b kvs)
    (h : ∀ w1, MapAt w1 b (setM kvs k v) → w.grownBy w1 (some b) → wpList Tryd.prog ops Q rest (a.put o.dst undef) w1) : wpList Tryd.prog ops Q (o :: rest) a w := by
  obtain ⟨w1, hrun, h1, h2⟩ := map_put Tryd.underlying99 Tryd.underlying3 hs k v
  refine wpList_plain hgd fun _ hK => ?_
  unfold Oper.wp execOp
  simp only [ho, hm, hx, hy, Sem.run_bind, hrun, Result.andThen_ok]
  exact hK _ _ (h w1 h1 h2)
theorem far_look {nx : Nat → List Nat} {N t b : Nat} {m : Nat → Option Nat} {kvs : List (Int × Int)} {w : World} (h : FarS nx N t m kvs) (hs : MapAt w b kvs) (u : Nat) :
    (Instr.lookup 99 (.map (some b)) (.int .i64 (u : Int)) true).run Tryd.prog w = .ok (.tuple #[.int .i64 (((m u).getD 0 : Nat) : Int), .bool (m u).isSome]) w := by
  have h1 := map_look (P := Tryd.prog) Tryd.underlying99 Tryd.underlying3 zero_int hs (u : Int)
  rw [h.g] at h1
  rw [h1]
  cases m u <;> rfl
theorem far_look1 {nx : Nat → List Nat} {N t b : Nat} {m : Nat → Option Nat} {kvs : List (Int × Int)} {w : World} (h : FarS nx N t m kvs) (hs : MapAt w b kvs) (u : Nat) :
    (Instr.lookup 99 (.map (some b)) (.int .i64 (u : Int)) false).run Tryd.prog w = .ok (.int .i64 (((m u).getD 0 : Nat) : Int)) w := by
  have h1 := map_look1 (P := Tryd.prog) Tryd.underlying99 Tryd.underlying3 zero_int hs (u : Int)
  rw [h.g] at h1
  rw [h1]
  cases m u <;> rfl

set_option maxHeartbeats 4000000 in
set_option maxRecDepth 100000 in
theorem PathTo_any (s : ByteArray) (t u : Int) (w : World) (hm : Hid (HasM w)) (hs : s.size ≤ 1073741824) :
    Calls Tryd.prog 55 #[.string s, .int .i64 t, .int .i64 u] w fun e w' => RetIB w.heap.size (pthN (cutL s.data.toList) t u) (canN (cutL s.data.toList) t u) e w' ∧ Below w.heap.size w w' := by
  obtain ⟨ps, HPS⟩ : ∃ ps, Hid (ps = cutL s.data.toList) := ⟨_, rfl⟩
  rw [← HPS.out]
  by_cases h : canN ps t u = true
  · have HCN := Lib.hid h
    obtain ⟨HOK, N, s0, t0, D, rfl, rfl, HN, hN32, hsN, htN, HD, hDN, HST, HV⟩ := can_open h
    have hn5 := okN_le HOK.out
    have HNL := Lib.hid (next_lt HOK.out HN.out)
    have hmm := @run_makeMap Tryd.prog
    clear h
    go_enter Tryd.func55, Tryd.ntmps55
    go_wp2_with fail
    refine (CanReach_any s _ _ w hm hs).mono ?_
    rintro e w1 ⟨rfl, hB1⟩
    rw [← HPS.out, HCN.out]
    have hz1 := hB1.size
    go_wp2_with fail
    refine (readNetwork_any s _ (Lib.hid (hm.out.below hB1)) hs).mono ?_
    rintro e w2 ⟨⟨A, k0, c, rfl, himp⟩, hB2⟩
    rw [← HPS.out] at himp ⊢
    obtain ⟨rfl, hc, hO⟩ := himp HOK.out
    rw [HOK.out]
    have hz2 := hB2.size
    have HR := Lib.hid hO.rd
    have hB12 : Below w.heap.size w w2 := hB1.trans (hB2.mono hz1)
    clear hO himp hB1 hB2
    go_wp2_with ((with_reducible refine wpStop (o := ⟨_, Op.insert _ _ _ _, _, _, _, _⟩) ?_); refine ⟨?_⟩; refine wpList_insM rfl _ _ _ rfl rfl rfl rfl (MapAt.made w2) ?_; intro w3 hS3 hg3)
    have hBm : Below w2.heap.size w2 (w2.alloc (.map #[] 0)) := (Below.refl _ _).alloc (Nat.le_refl _) _
    have hB3 : Below w2.heap.size w2 w3 := hBm.trans (Below.of_grown hg3 (Nat.le_refl _) (by rw [alloc_size]; omega))
    have hz3 : w2.heap.size + 1 ≤ w3.heap.size := by have := hg3.size; rw [alloc_size] at this; exact this
    obtain ⟨b, HBB⟩ : ∃ b, Hid (b = w2.heap.size) := ⟨_, rfl⟩
    have hbw : w2.heap.size ≤ b ∧ b ≤ w2.heap.size := by rw [HBB.out]; omega
    rw [← HBB.out] at hS3 ⊢
    have HS3 : Hid (MapAt w3 b [((t0 : Int), 0)]) := Lib.hid hS3
    clear hS3 hg3 hBm
    have hph : phi (fun u => if u = t0 then some 0 else none) N ≤ 33 * N := phi_le (fun u d h => by
      by_cases e : u = t0
      · rw [if_pos e] at h; injection h with h; omega
      · rw [if_neg e] at h; cases h) N
    go_wp2_with fail
    go_loopg [11] (33 * N + 1) (fun gk q wr => ∃ (m : Nat → Option Nat) (kvs : List (Int × Int)) (gr : Bool), q = .bool gr ∧ gk ≤ 1100 ∧ Hid (FarS (nextN ps) N t0 m kvs ∧ (gr = true → phi m N < gk) ∧ (gr = false → ClsTo (nextN ps) m N)) ∧ Hid (MapAt wr b kvs) ∧ Below w2.heap.size w2 wr)
    case atStart => exact ⟨_, _, true, rfl, by omega, Lib.hid ⟨FarS.start htN, fun _ => by omega, fun h => by cases h⟩, HS3, hB3⟩
    case round =>
      clear HS3 hB3 hph
      obtain ⟨m, kvs, gr, rfl, hgk, HF, HS, hB⟩ := hrel
      obtain ⟨wo, rfl⟩ : ∃ x, x = wr := ⟨_, rfl⟩
      have hsz := hB.size
      have hbl := HS.out.lt
      cases gr with
      | true =>
        obtain ⟨P0, HP0⟩ : ∃ p, Hid (p = phi m N) := ⟨_, rfl⟩
        have hP0 : P0 < gk := by rw [HP0.out]; exact HF.out.2.1 rfl
        go_wp2_with (go_at_call 76; refine (states_any _ _ _ N _ hn5 HN).mono ?_; rintro e w2 ⟨rfl, rfl⟩)
        go_loopw [11, 40] (fun q i wq => ∃ (m : Nat → Option Nat) (kvs : List (Int × Int)) (gr : Bool) (x : Nat), x ≤ N ∧ i = .int .i64 x ∧ q = .bool gr ∧ Hid (FarS (nextN ps) N t0 m kvs ∧ phi m N ≤ P0 ∧ (gr = true → phi m N < P0) ∧ (gr = false → ClsTo (nextN ps) m x)) ∧ Hid (MapAt wq b kvs) ∧ Below w2.heap.size w2 wq) (fun _ i _ => N - (intOf i).toNat)
        case atStart => exact ⟨m, kvs, false, 0, Nat.zero_le _, rfl, rfl, Lib.hid ⟨HF.out.1, by rw [HP0.out]; exact Nat.le_refl _, (fun h => by cases h), fun _ u hu => by omega⟩, HS, hB⟩
        case round =>
          clear HF HS hB hbl hsz HP0
          obtain ⟨m, kvs, gr, x, hxN, rfl, rfl, HF, HS, hB⟩ := hrel
          obtain ⟨wq, rfl⟩ : ∃ x, x = wr := ⟨_, rfl⟩
          have hsz := hB.size
          have hbl := HS.out.lt
          by_cases hlt : x < N
          · have HSX : Hid (x < 2 ^ ps.length) := Lib.hid (by rw [← HN.out]; exact hlt)
            have hnl := nextN_len HOK.out x
            go_wp2_with fail
            refine (next_any _ _ _ _ _ (Lib.hid (HR.out.below hB)) HOK HSX).mono ?_
            rintro e w5 ⟨⟨A3, c3, rfl, hc3, hO3⟩, hB5⟩
            have hil3 : (ints (nextN ps x)).length = (nextN ps x).length := ints_length _
            have hz5 := hB5.size
            have HO3 := Lib.hid (hO3.mono (show b + 1 ≤ wq.heap.size by omega))
            have HS5 := Lib.hid (HS.out.below hB5)
            have hB5' := hB.trans (hB5.mono hsz)
            have HF5 : Hid (FarS (nextN ps) N t0 m kvs ∧ phi m N ≤ P0 ∧ (gr = true → phi m N < P0) ∧ (gr = false → ClsAt (nextN ps) m x 0)) := Lib.hid ⟨HF.out.1, HF.out.2.1, HF.out.2.2.1, fun h => ClsAt.start (HF.out.2.2.2 h)⟩
            clear hO3 hB5 HF HS
            go_wp2_with fail
            go_loopw [11, 47] (fun q i w6 => ∃ (m : Nat → Option Nat) (kvs : List (Int × Int)) (gr : Bool) (j : Nat), j ≤ (nextN ps x).length ∧ i = .int .i64 j ∧ q = .bool gr ∧ Hid (FarS (nextN ps) N t0 m kvs ∧ phi m N ≤ P0 ∧ (gr = true → phi m N < P0) ∧ (gr = false → ClsAt (nextN ps) m x j)) ∧ Hid (MapAt w6 b kvs) ∧ Hid (Own w6 (b + 1) A3 ((ints (nextN ps x)).map (Value.int .i64))) ∧ Below w2.heap.size w2 w6) (fun _ i _ => (nextN ps x).length - (intOf i).toNat)
            case atStart => exact ⟨m, kvs, gr, 0, Nat.zero_le _, rfl, rfl, HF5, HS5, HO3, hB5'⟩
            case round =>
              clear HF5 HS5 HO3 hB5' hB hbl hsz
              obtain ⟨m, kvs, gr, j, hj, rfl, rfl, HF, HS, HO3, hB⟩ := hrel
              obtain ⟨w6, rfl⟩ : ∃ x, x = wr := ⟨_, rfl⟩
              have hsz := hB.size
              have hbl := HS.out.lt
              by_cases hlj : j < (nextN ps x).length
              · obtain ⟨v, HVv⟩ : ∃ v, Hid ((nextN ps x)[j]? = some v) := ⟨_, List.getElem?_eq_getElem hlj⟩
                have hvm := List.mem_of_getElem? HVv.out
                have hvN : v < N := HNL.out x hlt v hvm
                obtain ⟨g3, off3, hA, hg3, hcell3, _⟩ := HO3.out.at_ (k := j) (v := .int .i64 (v : Int)) (by rw [List.getElem?_map, ints, List.getElem?_map, HVv.out]; rfl)
                subst hA
                have hl1 := far_look HF.out.1 HS.out v
                have hl2 := far_look HF.out.1 HS.out x
                cases hmv : m v with
                | none =>
                  rw [hmv] at hl1
                  simp only [Option.getD_none, Option.isSome_none] at hl1
                  have HF2 : Hid (FarS (nextN ps) N t0 m kvs ∧ phi m N ≤ P0 ∧ (gr = true → phi m N < P0) ∧ (gr = false → ClsAt (nextN ps) m x (j + 1))) := Lib.hid ⟨HF.out.1, HF.out.2.1, HF.out.2.2.1, fun h => (HF.out.2.2.2 h).next HVv.out (fun d hd => by rw [hmv] at hd; cases hd)⟩
                  go_wp2_with fail
                  go_roundw
                  case rel => exact ⟨m, kvs, gr, j + 1, by omega, by go_num, rfl, HF2, HS, HO3, hB⟩
                  case measure => simp [intOf]; omega
                | some d =>
                  rw [hmv] at hl1
                  simp only [Option.getD_some, Option.isSome_some] at hl1
                  have hdb : d < 32 := by have := HF.out.1.b v d hmv; have := cnt_le m N; omega
                  by_cases hc : ∀ old, m x = some old → d + 1 < old
                  · obtain ⟨h1, h2⟩ := HF.out.1.put hlt hvm hmv hc
                    have h3 := h2 hN32
                    have HF2 : Hid (FarS (nextN ps) N t0 (putO m x (d + 1)) (setM kvs (x : Int) ((d + 1 : Nat) : Int)) ∧ phi (putO m x (d + 1)) N ≤ P0 ∧ (true = true → phi (putO m x (d + 1)) N < P0) ∧ (true = false → ClsAt (nextN ps) (putO m x (d + 1)) x (j + 1))) := Lib.hid ⟨h1, by have := HF.out.2.1; omega, fun _ => by have := HF.out.2.1; omega, fun h => by cases h⟩
                    clear h1 h2 h3
                    cases hmx : m x with
                    | none =>
                      rw [hmx] at hl2
                      simp only [Option.getD_none, Option.isSome_none] at hl2
                      clear hc
                      go_wp2_with (at_mapUpdate; refine wpList_putM (v := ((d + 1 : Nat) : Int)) rfl _ _ _ rfl rfl rfl (by go_num) HS.out ?_; intro w7 hS7 hg7)
                      have HS7 := Lib.hid hS7
                      have HO7 := Lib.hid (HO3.out.only (by omega) hg7)
                      have hB7 : Below w2.heap.size w2 w7 := hB.trans (Below.of_grown hg7 (by omega) hsz)
                      clear hS7 hg7
                      go_roundw
                      case rel => exact ⟨_, _, true, j + 1, by omega, by go_num, rfl, HF2, HS7, HO7, hB7⟩
                      case measure => simp [intOf]; omega
                    | some old =>
                      rw [hmx] at hl2
                      simp only [Option.getD_some, Option.isSome_some] at hl2
                      have ho32 : old < 32 := by have := HF.out.1.b x old hmx; have := cnt_le m N; omega
                      have hlo := hc old hmx
                      clear hc
                      go_wp2_with (at_mapUpdate; refine wpList_putM (v := ((d + 1 : Nat) : Int)) rfl _ _ _ rfl rfl rfl (by go_num) HS.out ?_; intro w7 hS7 hg7)
                      have HS7 := Lib.hid hS7
                      have HO7 := Lib.hid (HO3.out.only (by omega) hg7)
                      have hB7 : Below w2.heap.size w2 w7 := hB.trans (Below.of_grown hg7 (by omega) hsz)
                      clear hS7 hg7
                      go_roundw
                      case rel => exact ⟨_, _, true, j + 1, by omega, by go_num, rfl, HF2, HS7, HO7, hB7⟩
                      case measure => simp [intOf]; omega
                  · obtain ⟨old, hmx, hlo⟩ : ∃ old, m x = some old ∧ old ≤ d + 1 := by
                      obtain ⟨old, h1⟩ := Classical.not_forall.1 hc
                      obtain ⟨h2, h3⟩ := Classical.not_imp.1 h1
                      exact ⟨old, h2, by omega⟩
                    rw [hmx] at hl2
                    simp only [Option.getD_some, Option.isSome_some] at hl2
                    have HF2 : Hid (FarS (nextN ps) N t0 m kvs ∧ phi m N ≤ P0 ∧ (gr = true → phi m N < P0) ∧ (gr = false → ClsAt (nextN ps) m x (j + 1))) := Lib.hid ⟨HF.out.1, HF.out.2.1, HF.out.2.2.1, fun h => (HF.out.2.2.2 h).next HVv.out (fun d' hd => by
                      rw [hmv] at hd; injection hd with hd
                      exact ⟨old, hmx, by omega⟩)⟩
                    clear hc
                    go_wp2_with fail
                    go_roundw
                    case rel => exact ⟨m, kvs, gr, j + 1, by omega, by go_num, rfl, HF2, HS, HO3, hB⟩
                    case measure => simp [intOf]; omega
              · have HF2 : Hid (FarS (nextN ps) N t0 m kvs ∧ phi m N ≤ P0 ∧ (gr = true → phi m N < P0) ∧ (gr = false → ClsTo (nextN ps) m (x + 1))) := Lib.hid ⟨HF.out.1, HF.out.2.1, HF.out.2.2.1, fun h => (HF.out.2.2.2 h).fin (by omega)⟩
                go_wp2_with fail
                go_roundw
                case rel => exact ⟨m, kvs, gr, x + 1, by omega, by go_num, rfl, HF2, HS, hB⟩
                case measure => simp [intOf]; omega
          · have hxe : x = N := by omega
            subst hxe
            go_wp2_with fail
            go_roundg P0
            case rel => exact ⟨m, kvs, gr, rfl, by omega, Lib.hid ⟨HF.out.1, HF.out.2.2.1, HF.out.2.2.2⟩, HS, hB⟩
            case measure => omega
      | false =>
        have HMD : Hid (∀ u, u < N → m u = dst (nextN ps) t0 u) := Lib.hid (fun u hu => (HF.out.1.i.fin HNL.out (HF.out.2.2 rfl)).2 u hu hN32)
        have HFS := Lib.hid HF.out.1
        have hLE := OI.lit1 wo wo.heap.size 3 (s0 : Int) (Nat.le_refl _)
        have hBl : Below wo.heap.size wo (wo.alloc (.cells #[.int .i64 (s0 : Int)] 3)) := (Below.refl _ _).alloc (Nat.le_refl _) _
        go_wp2_with fail
        go_loopg [19, 1] D (fun gd v q w4 => ∃ i x : Nat, gd + i = D ∧ q = .int .i64 (x : Int) ∧ x < N ∧ Hid ((pth (nextN ps) t0 D s0)[i]? = some x ∧ dst (nextN ps) t0 x = some gd) ∧ Hid (OI w4 wo.heap.size 3 v (ints ((pth (nextN ps) t0 D s0).take (i + 1)))) ∧ Below wo.heap.size wo w4)
        case atStart => exact ⟨0, s0, by omega, rfl, hsN, Lib.hid ⟨pth_head _ _ _ _, HD.out⟩, Lib.hid (by rw [pth_take1]; exact hLE), hBl⟩
        case round =>
          clear hLE hBl
          obtain ⟨i, x, hgk2, rfl, hxN, HX, HO, hB4⟩ := hrel
          obtain ⟨w4, rfl⟩ : ∃ x, x = wr := ⟨_, rfl⟩
          have hsz4 := hB4.size
          have HS4 := Lib.hid (HS.out.below hB4)
          have hlen : (ints ((pth (nextN ps) t0 D s0).take (i + 1))).length ≤ 33 := by rw [ints_length, List.length_take, pth_len]; omega
          have hds := dst_self _ HX.out.2
          by_cases hg0 : gk = 0
          · have hxt : x = t0 := hds.2 hg0
            have hd : ((x : Int) != (t0 : Int)) = false := by rw [hxt]; exact bne_self_eq_false _
            have hiD : i = D := by omega
            subst hiD
            have HTE : Hid ((pth (nextN ps) t0 i s0).take (i + 1) = pth (nextN ps) t0 i s0) := Lib.hid (List.take_of_length_le (by rw [pth_len]; exact Nat.le_refl _))
            have hI := HO.out
            rw [HTE.out] at hI
            have HIO := Lib.hid hI
            clear hI hg0 hxt hds
            go_wp2_with (go_at_call 69; refine (clip_any _ _ _ _ _ HIO.out).mono ?_; rintro e w2 ⟨⟨A', c', rfl, hc', hO'⟩, rfl⟩)
            go_ret2
            exact ⟨⟨A', c', by rw [HV.out, HCN.out]; rfl, by rw [HV.out]; exact hc', by rw [HV.out]; exact hO'.mono (by omega)⟩, hB12.trans ((hB.trans (hB4.mono hsz)).mono (by omega))⟩
          · obtain ⟨d, hgd⟩ : ∃ d, gk = d + 1 := ⟨gk - 1, by omega⟩
            subst hgd
            have hxt : ¬ x = t0 := fun e => hg0 (hds.1 e)
            have hd : ((x : Int) != (t0 : Int)) = true := by simp; omega
            obtain ⟨k1, k2, j0, hj0, k3, k4⟩ := nxt1_all HX.out.2
            obtain ⟨y, HY⟩ : ∃ y, Hid (y = nxt1 (nextN ps) t0 x d) := ⟨_, rfl⟩
            rw [← HY.out] at k1 k2 k3
            have hyN : y < N := HNL.out x hxN y k1
            have HY2 : Hid ((pth (nextN ps) t0 D s0)[i + 1]? = some y ∧ dst (nextN ps) t0 y = some d) := Lib.hid ⟨by
              obtain ⟨x', p1, p2, p3⟩ := pth_at D s0 HD.out i (by omega)
              rw [HX.out.1] at p1
              injection p1 with p1
              subst p1
              rw [p3 (by omega), HY.out]
              congr 2; omega, k2⟩
            have HTK := Lib.hid (pth_take HY2.out.1)
            have HJ3 : Hid ((nextN ps x)[j0]? = some y) := Lib.hid (by rw [List.getElem?_eq_getElem hj0, k3])
            have HJ4 : Hid (∀ j v, j < j0 → (nextN ps x)[j]? = some v → ¬ dst (nextN ps) t0 v = some d) := Lib.hid (fun j v hj hv => by
              have := k4 j hj
              rw [List.getElem?_eq_getElem (by omega)] at hv
              injection hv with hv
              rw [← hv]; exact this)
            have hj05 : j0 < 5 := Nat.lt_of_lt_of_le hj0 (nextN_len HOK.out x)
            have hjl : j0 < (nextN ps x).length := hj0
            have HSX : Hid (x < 2 ^ ps.length) := Lib.hid (by rw [← HN.out]; exact hxN)
            have HMX : Hid (m x = some (d + 1)) := Lib.hid (by rw [HMD.out x hxN]; exact HX.out.2)
            have HMY : Hid (m y = some d) := Lib.hid (by rw [HMD.out y hyN]; exact k2)
            clear k1 k2 k3 k4 hg0 hxt hds
            have hnl := nextN_len HOK.out x
            go_wp2_with fail
            refine (next_any _ _ _ _ _ (Lib.hid (HR.out.below (hB.trans (hB4.mono hsz)))) HOK HSX).mono ?_
            rintro e w5 ⟨⟨A3, c3, rfl, hc3, hO3⟩, hB5⟩
            have hil3 : (ints (nextN ps x)).length = (nextN ps x).length := ints_length _
            have hz5 := hB5.size
            have HR5 := Lib.hid hO3.rd
            have HS5 := Lib.hid (HS4.out.below hB5)
            have hlx := far_look1 HFS.out HS5.out x
            rw [HMX.out] at hlx
            simp only [Option.getD_some] at hlx
            clear hO3
            go_wp2_with fail
            go_loopw [1, 89] (fun q1 q w6 => ∃ j : Nat, j ≤ j0 ∧ q = .int .i64 j ∧ q1 = .int .i64 (x : Int) ∧ w6 = w5) (fun _ q _ => j0 - (intOf q).toNat)
            case atStart => exact ⟨0, Nat.zero_le _, rfl, rfl, rfl⟩
            case round =>
              obtain ⟨j, hj, rfl, rfl, rfl⟩ := hrel
              by_cases hlt : j < j0
              · obtain ⟨v, HVv⟩ : ∃ v, Hid ((nextN ps x)[j]? = some v) := ⟨_, List.getElem?_eq_getElem (by omega)⟩
                have hvN : v < N := HNL.out x hxN v (List.mem_of_getElem? HVv.out)
                have hne : ¬ dst (nextN ps) t0 v = some d := HJ4.out j v hlt HVv.out
                obtain ⟨g3, off3, hA, hcell3⟩ := HR5.out.at_ (k := j) (v := .int .i64 (v : Int)) (by rw [List.getElem?_map, ints, List.getElem?_map, HVv.out]; rfl)
                subst hA
                have hlv := far_look HFS.out HS5.out v
                rw [HMD.out v hvN] at hlv
                cases hdv : dst (nextN ps) t0 v with
                | none =>
                  rw [hdv] at hlv
                  simp only [Option.getD_none, Option.isSome_none] at hlv
                  clear hne
                  go_wp2_with fail
                  go_roundw
                  case rel => exact ⟨j + 1, by omega, by go_num, by first | trivial | rfl, by first | trivial | rfl⟩
                  case measure => simp [intOf]; omega
                | some e =>
                  rw [hdv] at hlv hne
                  simp only [Option.getD_some, Option.isSome_some] at hlv
                  have he : ¬ e = d := fun h => hne (by rw [h])
                  have he33 := (dst_some hdv).2.1
                  have hd2 : ((e : Int) == (d : Int)) = false := by simp; omega
                  clear hne
                  go_wp2_with fail
                  go_roundw
                  case rel => exact ⟨j + 1, by omega, by go_num, by first | trivial | rfl, by first | trivial | rfl⟩
                  case measure => simp [intOf]; omega
              · have hjj : j = j0 := by omega
                subst hjj
                obtain ⟨g3, off3, hA, hcell3⟩ := HR5.out.at_ (k := j) (v := .int .i64 (y : Int)) (by rw [List.getElem?_map, ints, List.getElem?_map, HJ3.out]; rfl)
                subst hA
                have hlv := far_look HFS.out HS5.out y
                rw [HMY.out] at hlv
                simp only [Option.getD_some, Option.isSome_some] at hlv
                have hd2 : ((d : Int) == (d : Int)) = true := by simp
                go_wp2_with (at_builtin; refine wp_pushI rfl _ _ _ rfl Tryd.underlying22 info_int (HO.out.below hB5) rfl rfl (by omega) (by omega) ?_; intro v' w7 hown hbel hsz7)
                go_roundg d
                case rel => exact ⟨i + 1, y, by omega, rfl, hyN, HY2, Lib.hid (by rw [HTK.out]; exact hown), hB4.trans ((hB5.mono hsz4).trans (hbel _ (Nat.le_refl _)))⟩
                case measure => omega
  · have HCN : Hid (canN ps t u = false) := Lib.hid (by simpa using h)
    have HV := Lib.hid (pthN_no HCN.out)
    clear h
    go_enter Tryd.func55, Tryd.ntmps55
    go_wp2_with fail
    refine (CanReach_any s _ _ w hm hs).mono ?_
    rintro e w1 ⟨rfl, hB1⟩
    rw [← HPS.out, HCN.out]
    go_wp2
    go_ret2
    exact ⟨⟨none, 0, by rw [HV.out, HCN.out]; rfl, by rw [HV.out]; exact Nat.le_refl _, by rw [HV.out]; exact Own.nil _ _ _⟩, hB1⟩

end Go.Proofs.YtpehimjngofnkaaDoor
