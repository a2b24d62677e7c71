/- Walks of the reference's l5Far and PathTo. -/
import Derived.Test.YtpehimjngofnkaaDoorProg
import Derived.WalkKit
import Derived.WalkSpells
import Derived.WalkLawsBesides
import Derived.Lib.Hide
import Derived.Deep.QuietTactic
import Derived.Deep.LoopGhost
import Derived.BigQuiet
import Derived.IntWalk
import Derived.Test.YtpehimjngofnkaaDoorG4
import Derived.Test.YtpehimjngofnkaaDoorYx
namespace Go.Proofs.YtpehimjngofnkaaDoor
open Go.RowKit
set_option linter.unusedVariables false

/-- the numbers of the first N states -/
def intL (N : Nat) (f : Nat → Int) : List Value := (List.range N).map fun u => .int .i64 (f u)
theorem intL_length (N : Nat) (f : Nat → Int) : (intL N f).length = N := by simp [intL]
theorem intL_get {N u : Nat} (f : Nat → Int) (h : u < N) : (intL N f)[u]? = some (.int .i64 (f u)) := by simp [intL, h]
theorem intL_zero (N : Nat) : (intL N fun _ => 0).toArray = Array.replicate N (.int .i64 0) := by
  apply Array.ext'
  simp [intL, List.map_const']
theorem intL_set {N : Nat} (f : Nat → Int) (s : Nat) (v : Int) : (intL N f).toArray.setIfInBounds s (.int .i64 v) = (intL N fun u => if u = s then v else f u).toArray := by
  apply Array.ext'
  rw [Array.toList_setIfInBounds]
  apply List.ext_getElem?
  intro j
  rw [List.getElem?_set, List.toList_toArray, List.toList_toArray]
  by_cases hj : j < N
  · rw [intL_get _ hj, intL_get _ hj, intL_length]
    by_cases e : s = j
    · subst e; simp [hj]
    · have e2 : ¬ j = s := fun h => e h.symm
      simp [e, e2]
  · rw [List.getElem?_eq_none (l := intL N fun u => if u = s then v else f u) (by rw [intL_length]; omega), List.getElem?_eq_none (l := intL N f) (by rw [intL_length]; omega), intL_length]
    split
    · rename_i e; subst e; rw [if_neg hj]
    · rfl
theorem intL_congr {N : Nat} {f g : Nat → Int} (h : ∀ u, u < N → f u = g u) : intL N f = intL N g := by
  unfold intL
  exact List.map_congr_left fun u hu => by rw [h u (List.mem_range.1 hu)]
theorem intL_own {w : World} {g B N : Nat} {t : TypeId} {f : Nat → Int} (h : Blk w g t (intL N f).toArray) (hB : B ≤ g) : Own w B (some ⟨g, 0, none⟩) (intL N f) :=
  .inr ⟨g, 0, rfl, hB, fun j v hj => by
    rw [Nat.zero_add, h.cell, h.frozen, List.getElem?_toArray]
    exact ⟨hj, rfl⟩⟩
/-- the distance, if it is at most n, and -1 if not -/
def farL (nx : Nat → List Nat) (t n u : Nat) : Int := match dst nx t u with | some d => if d ≤ n then (d : Int) else -1 | none => -1
/-- .. while the first s states are a level ahead -/
def farM (nx : Nat → List Nat) (t n s u : Nat) : Int := if u < s then farL nx t (n + 1) u else farL nx t n u
theorem farL_range (nx : Nat → List Nat) (t n u : Nat) : -1 ≤ farL nx t n u ∧ farL nx t n u ≤ 33 := by
  unfold farL
  cases h : dst nx t u with
  | none => simp
  | some d =>
    have := (dst_some h).2.1
    simp only
    split <;> omega
theorem farM_range (nx : Nat → List Nat) (t n s u : Nat) : -1 ≤ farM nx t n s u ∧ farM nx t n s u ≤ 33 := by
  unfold farM; split <;> exact farL_range _ _ _ _
theorem farL_zero {nx : Nat → List Nat} {t u : Nat} : farL nx t 0 u = if u = t then 0 else -1 := by
  unfold farL
  by_cases e : u = t
  · rw [dst_zero.2 e, if_pos e]; rfl
  · rw [if_neg e]
    cases h : dst nx t u with
    | none => rfl
    | some d =>
      have : ¬ d = 0 := fun h0 => e (dst_zero.1 (by rw [h, h0]))
      simp only
      rw [if_neg (by omega)]
theorem farL_eq {nx : Nat → List Nat} {t n k u : Nat} (h : n ≤ k) : farL nx t k u = (n : Int) ↔ dst nx t u = some n := by
  unfold farL
  cases hd : dst nx t u with
  | none => simp
  | some d =>
    simp only [Option.some.injEq]
    split <;> omega
theorem farM_eq {nx : Nat → List Nat} {t n s u : Nat} : farM nx t n s u = (n : Int) ↔ dst nx t u = some n := by
  unfold farM
  split
  · exact farL_eq (by omega)
  · exact farL_eq (Nat.le_refl _)
theorem farM_start (nx : Nat → List Nat) (t n : Nat) : farM nx t n 0 = farL nx t n := by funext u; simp [farM]
theorem farM_end {nx : Nat → List Nat} {t n N u : Nat} (h : u < N) : farM nx t n N u = farL nx t (n + 1) u := by rw [farM, if_pos h]
theorem dst_le {nx : Nat → List Nat} {t u v n : Nat} (hv : v ∈ nx u) (h : dst nx t v = some n) (hn : n < 32) : ∃ e, dst nx t u = some e ∧ e ≤ n + 1 := by
  have hw : wi nx t (n + 1) u = true := by
    rw [wi, Bool.or_eq_true]
    exact .inr (List.any_eq_true.2 ⟨v, hv, (dst_some h).1⟩)
  cases hd : dst nx t u with
  | none =>
    have := List.find?_eq_none.1 hd (n + 1) (List.mem_range.2 (by omega))
    rw [hw] at this; simp at this
  | some e =>
    refine ⟨e, rfl, ?_⟩
    by_cases hle : e ≤ n + 1
    · exact hle
    · have := (dst_some hd).2.2 (n + 1) (by omega)
      rw [hw] at this; cases this
/-- a state that is told stays as it is -/
theorem farM_told {nx : Nat → List Nat} {t n s u : Nat} (h : 0 ≤ farM nx t n s s) : farM nx t n (s + 1) u = farM nx t n s u := by
  unfold farM at h ⊢
  rw [if_neg (Nat.lt_irrefl s)] at h
  by_cases h1 : u < s
  · rw [if_pos h1, if_pos (by omega)]
  · rw [if_neg h1]
    by_cases h2 : u < s + 1
    · have : u = s := by omega
      subst this
      rw [if_pos h2]
      unfold farL at h ⊢
      cases hd : dst nx t u with
      | none => rfl
      | some d =>
        rw [hd] at h
        simp only at h ⊢
        split at h
        · rw [if_pos (by omega), if_pos (by assumption)]
        · omega
    · rw [if_neg h2]
/-- a state none of whose next ones is at the level stays untold -/
theorem farM_skip {nx : Nat → List Nat} {t n s u : Nat} (h0 : farM nx t n s s < 0) (h : ∀ v, v ∈ nx s → ¬ dst nx t v = some n) : farM nx t n (s + 1) u = farM nx t n s u := by
  unfold farM at h0 ⊢
  rw [if_neg (Nat.lt_irrefl s)] at h0
  by_cases h1 : u < s
  · rw [if_pos h1, if_pos (by omega)]
  · rw [if_neg h1]
    by_cases h2 : u < s + 1
    · have : u = s := by omega
      subst this
      rw [if_pos h2]
      unfold farL at h0 ⊢
      cases hd : dst nx t u with
      | none => rfl
      | some d =>
        rw [hd] at h0
        simp only at h0 ⊢
        split at h0
        · omega
        · rename_i hn
          rw [if_neg hn]
          by_cases e : d = n + 1
          · subst e
            obtain ⟨v, hv, hdv⟩ := dst_next hd
            exact absurd hdv (h v hv)
          · rw [if_neg (by omega)]
    · rw [if_neg h2]
/-- a state one of whose next ones is at the level is told -/
theorem farM_put {nx : Nat → List Nat} {t n s v u : Nat} (h0 : farM nx t n s s < 0) (hv : v ∈ nx s) (h : dst nx t v = some n) (hn : n < 32) : (if u = s then (n : Int) + 1 else farM nx t n s u) = farM nx t n (s + 1) u := by
  obtain ⟨e, he, hle⟩ := dst_le hv h hn
  unfold farM at h0 ⊢
  rw [if_neg (Nat.lt_irrefl s)] at h0
  by_cases h1 : u = s
  · subst h1
    rw [if_pos rfl, if_pos (by omega)]
    unfold farL at h0 ⊢
    rw [he] at h0 ⊢
    simp only at h0 ⊢
    split at h0
    · omega
    · rw [if_pos hle]; omega
  · rw [if_neg h1]
    by_cases h2 : u < s
    · rw [if_pos h2, if_pos (by omega)]
    · rw [if_neg h2, if_neg (by omega)]
theorem farM_now {nx : Nat → List Nat} {t n s v : Nat} (h0 : farM nx t n s s < 0) (hv : v ∈ nx s) (h : dst nx t v = some n) (hn : n < 32) : farM nx t n (s + 1) s = (n : Int) + 1 := by
  rw [← farM_put h0 hv h hn, if_pos rfl]
theorem take_snoc_mem {l : List Nat} {i v x : Nat} (h : l[i]? = some v) (hx : x ∈ l.take (i + 1)) : x ∈ l.take i ∨ x = v := by
  rw [List.take_add_one, h] at hx
  rcases List.mem_append.1 hx with hx | hx
  · exact .inl hx
  · simp at hx; exact .inr hx

set_option maxHeartbeats 2000000 in
theorem l5Far_any (A : Option Addr) (c t N : Nat) (ps : List (List UInt8)) (w : World) (hx : Hid (Rd w A (strs ps))) (hok : Hid (okN ps = true)) (HN : Hid (N = 2 ^ ps.length)) (ht : t < N) :
    Calls Tryd.prog 102 #[.slice A ps.length c, .int .i64 (t : Int)] w fun e w' => e = .returned (.slice (some ⟨w.heap.size, 0, none⟩) N N) ∧ Blk w' w.heap.size 3 (intL N (farL (nextN ps) t N)).toArray ∧ Below w.heap.size w w' := by
  have hn5 := okN_le hok.out
  have hN32 : N ≤ 32 := by rw [HN.out]; exact two_le _ hn5
  have HNL := Lib.hid (next_lt hok.out HN.out)
  have hmk := make_row Tryd.underlying22 info_int rfl N (by omega) (by omega)
  have HB0 : Hid (Blk (w.alloc (.cells (Array.replicate N (.int .i64 0)) 3)) w.heap.size 3 (intL N fun u => if u < 0 then -1 else 0).toArray) := Lib.hid (by
    have : (fun u : Nat => if u < 0 then (-1 : Int) else 0) = fun _ => 0 := by funext u; simp
    rw [this, intL_zero]; exact Blk.new _ _ _)
  have hBa : Below w.heap.size w (w.alloc (.cells (Array.replicate N (.int .i64 0)) 3)) := (Below.refl _ _).alloc (Nat.le_refl _) _
  go_enter Tryd.func102, Tryd.ntmps102
  go_wp2_with (go_at_call 105; refine (l3All_any _ _ _ N _ hn5 HN).mono ?_; rintro e w2 ⟨rfl, rfl⟩)
  go_loopw [6] (fun q wr => ∃ k : Nat, k ≤ N ∧ q = .int .i64 k ∧ Hid (Blk wr w.heap.size 3 (intL N fun u => if u < k then -1 else 0).toArray) ∧ Below w.heap.size w wr) (fun q _ => N - (intOf q).toNat)
  case atStart => exact ⟨0, Nat.zero_le _, rfl, HB0, hBa⟩
  case round =>
    clear HB0 hBa
    obtain ⟨k, hk, rfl, HS, hB⟩ := hrel
    have hsz := hB.size
    have hbl := HS.out.lt
    by_cases hlt : k < N
    · have hcu : wr.cell? ⟨w.heap.size, k, none⟩ = some (.int .i64 0) := by rw [HS.out.cell, List.getElem?_toArray, intL_get _ hlt, if_neg (by omega)]
      have hfu := HS.out.frozen k
      have HS2 : Hid (Blk (wr.setCell ⟨w.heap.size, k, none⟩ (.int .i64 (-1))) w.heap.size 3 (intL N fun u => if u < k + 1 then -1 else 0).toArray) := Lib.hid (by
        have h := HS.out.set_ k (.int .i64 (-1))
        rw [intL_set] at h
        have e : (fun u : Nat => if u = k then (-1 : Int) else if u < k then -1 else 0) = fun u => if u < k + 1 then -1 else 0 := by
          funext u
          by_cases h1 : u = k
          · rw [if_pos h1, if_pos (by omega)]
          · rw [if_neg h1]
            by_cases h2 : u < k
            · rw [if_pos h2, if_pos (by omega)]
            · rw [if_neg h2, if_neg (by omega)]
        rw [e] at h
        exact h)
      go_wp2_with fail
      go_roundw
      case rel => exact ⟨k + 1, by omega, by go_num, HS2, hB.setCell (by show w.heap.size ≤ w.heap.size; omega) _⟩
      case measure => simp [intOf]; omega
    · have hkn : k = N := by omega
      have HS1 : Hid (Blk wr w.heap.size 3 (intL N fun _ => -1).toArray) := Lib.hid (by
        rw [show intL N (fun _ => -1) = intL N (fun u => if u < k then -1 else 0) from intL_congr fun u hu => by rw [if_pos (by omega)]]
        exact HS.out)
      clear HS
      subst hkn
      have hct : wr.cell? ⟨w.heap.size, t, none⟩ = some (.int .i64 (-1)) := by rw [HS1.out.cell, List.getElem?_toArray, intL_get _ ht]
      have hft := HS1.out.frozen t
      have HS2 : Hid (Blk (wr.setCell ⟨w.heap.size, t, none⟩ (.int .i64 0)) w.heap.size 3 (intL k (farL (nextN ps) t 0)).toArray) := Lib.hid (by
        have h := HS1.out.set_ t (.int .i64 0)
        rw [intL_set] at h
        have e : (fun u : Nat => if u = t then (0 : Int) else -1) = farL (nextN ps) t 0 := by funext u; rw [farL_zero]
        rw [e] at h
        exact h)
      have hB2 : Below w.heap.size w (wr.setCell ⟨w.heap.size, t, none⟩ (.int .i64 0)) := hB.setCell (by show w.heap.size ≤ w.heap.size; omega) _
      clear HS1
      go_wp2_with fail
      go_loopw [7] (fun q w3 => ∃ n : Nat, n ≤ k ∧ q = .int .i64 n ∧ Hid (Blk w3 w.heap.size 3 (intL k (farL (nextN ps) t n)).toArray) ∧ Below w.heap.size w w3) (fun q _ => k - (intOf q).toNat)
      case atStart => exact ⟨0, Nat.zero_le _, rfl, HS2, hB2⟩
      case round =>
        clear HS2 hB2 hB hct hft hbl hsz
        obtain ⟨n, hn, rfl, HS, hB⟩ := hrel
        obtain ⟨w3, rfl⟩ : ∃ x, x = wr := ⟨_, rfl⟩
        have hsz := hB.size
        by_cases hlt : n < k
        · have hle : (n : Int) ≤ (k : Int) - 1 := by omega
          have hld : decide ((n : Int) ≤ (k : Int) - 1) = true := decide_eq_true hle
          have HM0 : Hid (Blk w3 w.heap.size 3 (intL k (farM (nextN ps) t n 0)).toArray) := Lib.hid (by rw [farM_start]; exact HS.out)
          clear HS
          go_wp2_with (go_at_call 105; refine (l3All_any _ _ _ k _ hn5 HN).mono ?_; rintro e w2 ⟨rfl, rfl⟩)
          go_loopw [8] (fun q w4 => ∃ s : Nat, s ≤ k ∧ q = .int .i64 s ∧ Hid (Blk w4 w.heap.size 3 (intL k (farM (nextN ps) t n s)).toArray) ∧ Below w.heap.size w w4) (fun q _ => k - (intOf q).toNat)
          case atStart => exact ⟨0, Nat.zero_le _, rfl, HM0, hB⟩
          case round =>
            clear HM0 hB hsz
            obtain ⟨s, hs, rfl, HS, hB⟩ := hrel
            obtain ⟨w4, rfl⟩ : ∃ x, x = wr := ⟨_, rfl⟩
            have hsz := hB.size
            by_cases hls : s < k
            · have HR := Lib.hid (hx.out.below hB)
              have HS2 : Hid (s < 2 ^ ps.length) := Lib.hid (by rw [← HN.out]; exact hls)
              have hnl := nextN_len hok.out s
              have hbl := HS.out.lt
              go_wp2_with (go_at_call 103; refine (l5Next_any _ _ _ _ _ HR hok HS2).mono ?_; rintro e w5 ⟨⟨A3, c3, rfl, hc3, hO3⟩, hB3⟩)
              have hil3 : (ints (nextN ps s)).length = (nextN ps s).length := ints_length _
              have hsz5 := hB3.size
              have HO3 := Lib.hid hO3
              have HS5 := Lib.hid (HS.out.keep hB3)
              have hB5 := hB.trans (hB3.mono hsz)
              clear hO3 hB3
              go_loopw [10] (fun q w6 => ∃ i : Nat, i ≤ (nextN ps s).length ∧ q = .int .i64 i ∧ Hid ((Blk w6 w.heap.size 3 (intL k (farM (nextN ps) t n s)).toArray ∧ ∀ v, v ∈ (nextN ps s).take i → ¬ dst (nextN ps) t v = some n) ∨ (Blk w6 w.heap.size 3 (intL k (farM (nextN ps) t n (s + 1))).toArray ∧ 0 ≤ farM (nextN ps) t n (s + 1) s)) ∧ Hid (Own w6 w4.heap.size A3 ((ints (nextN ps s)).map (Value.int .i64))) ∧ Below w.heap.size w w6) (fun q _ => (nextN ps s).length - (intOf q).toNat)
              case atStart => exact ⟨0, Nat.zero_le _, rfl, Lib.hid (.inl ⟨HS5.out, by simp⟩), HO3, hB5⟩
              case round =>
                clear HS5 hB5 HO3
                obtain ⟨i, hi, rfl, HSI, HO3, hB6⟩ := hrel
                obtain ⟨w6, rfl⟩ : ∃ x, x = wr := ⟨_, rfl⟩
                have hsz6 := hB6.size
                rcases HSI.out with ⟨hS6, hno⟩ | ⟨hS6, h0⟩
                · have HS6 := Lib.hid hS6
                  have HNO := Lib.hid hno
                  clear hS6 hno HSI
                  obtain ⟨fs, HFS⟩ : ∃ x, Hid (x = farM (nextN ps) t n s s) := ⟨_, rfl⟩
                  have hfr : -1 ≤ fs ∧ fs ≤ 33 := by rw [HFS.out]; exact farM_range _ _ _ _ _
                  have hcs : w6.cell? ⟨w.heap.size, s, none⟩ = some (.int .i64 fs) := by rw [HS6.out.cell, List.getElem?_toArray, intL_get _ hls, HFS.out]
                  by_cases hli : i < (nextN ps s).length
                  · by_cases h0 : 0 ≤ fs
                    · have HT : Hid (Blk w6 w.heap.size 3 (intL k (farM (nextN ps) t n (s + 1))).toArray) := Lib.hid (by
                        rw [show intL k (farM (nextN ps) t n (s + 1)) = intL k (farM (nextN ps) t n s) from intL_congr fun u _ => farM_told (by rw [← HFS.out]; exact h0)]
                        exact HS6.out)
                      have hd : decide (fs < 0) = false := by simp; omega
                      go_wp2_with fail
                      go_roundw
                      case rel => exact ⟨s + 1, by omega, by go_num, HT, hB6⟩
                      case measure => simp [intOf]; omega
                    · have HF0 : Hid (farM (nextN ps) t n s s < 0) := Lib.hid (by rw [← HFS.out]; omega)
                      have hu : (nextN ps s)[i]? = some (nextN ps s)[i] := List.getElem?_eq_getElem hli
                      obtain ⟨v, HVv⟩ : ∃ v, Hid (v = (nextN ps s)[i]) := ⟨_, Lib.hid rfl⟩
                      rw [← HVv.out] at hu
                      have hvm : v ∈ nextN ps s := by rw [HVv.out]; exact List.getElem_mem hli
                      have hvk : v < k := HNL.out s hls v hvm
                      obtain ⟨g3, off3, hA, hg3, hcell3, _⟩ := HO3.out.at_ (k := i) (v := .int .i64 (v : Int)) (by rw [List.getElem?_map, ints, List.getElem?_map, hu]; rfl)
                      subst hA
                      obtain ⟨fv, HFV⟩ : ∃ x, Hid (x = farM (nextN ps) t n s v) := ⟨_, rfl⟩
                      have hcv : w6.cell? ⟨w.heap.size, v, none⟩ = some (.int .i64 fv) := by rw [HS6.out.cell, List.getElem?_toArray, intL_get _ hvk, HFV.out]
                      have hd0 : decide (fs < 0) = true := by simp; omega
                      by_cases he : fv = (n : Int)
                      · have HD : Hid (dst (nextN ps) t v = some n) := Lib.hid (farM_eq.1 (by rw [← HFV.out]; exact he))
                        have HP : Hid ((intL k (farM (nextN ps) t n s)).toArray.setIfInBounds s (.int .i64 ((n : Int) + 1)) = (intL k (farM (nextN ps) t n (s + 1))).toArray) := Lib.hid (by
                          rw [intL_set]
                          congr 1
                          exact intL_congr fun u _ => farM_put HF0.out hvm HD.out (by omega))
                        have H0 : Hid (0 ≤ farM (nextN ps) t n (s + 1) s) := Lib.hid (by rw [farM_now HF0.out hvm HD.out (by omega)]; omega)
                        have hfu := HS6.out.frozen s
                        have hd : (fv == (n : Int)) = true := by simpa using he
                        have HS7 : Hid (Blk (w6.setCell ⟨w.heap.size, s, none⟩ (.int .i64 ((n : Int) + 1))) w.heap.size 3 (intL k (farM (nextN ps) t n (s + 1))).toArray) := Lib.hid (by rw [← HP.out]; exact HS6.out.set_ s _)
                        have HO7 := Lib.hid (HO3.out.only (g := w.heap.size) (by omega) (only_setCell w6 w.heap.size s (.int .i64 ((n : Int) + 1))))
                        clear he hu
                        go_wp2_with fail
                        go_roundw
                        case rel => exact ⟨i + 1, by omega, by go_num, Lib.hid (.inr ⟨HS7.out, H0.out⟩), HO7, hB6.setCell (by show w.heap.size ≤ w.heap.size; omega) _⟩
                        case measure => simp [intOf]; omega
                      · have HND : Hid (∀ x, x ∈ (nextN ps s).take (i + 1) → ¬ dst (nextN ps) t x = some n) := Lib.hid (fun x hx => by
                          rcases take_snoc_mem hu hx with h1 | h1
                          · exact HNO.out x h1
                          · rw [h1]; exact fun h2 => he (by rw [HFV.out]; exact farM_eq.2 h2))
                        have hd : (fv == (n : Int)) = false := by simpa using he
                        clear he hu
                        go_wp2_with fail
                        go_roundw
                        case rel => exact ⟨i + 1, by omega, by go_num, Lib.hid (.inl ⟨HS6.out, HND.out⟩), HO3, hB6⟩
                        case measure => simp [intOf]; omega
                  · have hin : i = (nextN ps s).length := by omega
                    have HT : Hid (Blk w6 w.heap.size 3 (intL k (farM (nextN ps) t n (s + 1))).toArray) := Lib.hid (by
                      rw [show intL k (farM (nextN ps) t n (s + 1)) = intL k (farM (nextN ps) t n s) from intL_congr fun u _ => by
                        by_cases h0 : 0 ≤ farM (nextN ps) t n s s
                        · exact farM_told h0
                        · exact farM_skip (by omega) (fun v hv => HNO.out v (by rw [hin, List.take_length]; exact hv))]
                      exact HS6.out)
                    go_wp2_with fail
                    go_roundw
                    case rel => exact ⟨s + 1, by omega, by go_num, HT, hB6⟩
                    case measure => simp [intOf]; omega
                · have HS6 := Lib.hid hS6
                  clear hS6 HSI
                  obtain ⟨fs, HFS⟩ : ∃ x, Hid (x = farM (nextN ps) t n (s + 1) s) := ⟨_, rfl⟩
                  rw [← HFS.out] at h0
                  have hfr : -1 ≤ fs ∧ fs ≤ 33 := by rw [HFS.out]; exact farM_range _ _ _ _ _
                  have hcs : w6.cell? ⟨w.heap.size, s, none⟩ = some (.int .i64 fs) := by rw [HS6.out.cell, List.getElem?_toArray, intL_get _ hls, HFS.out]
                  have hd : decide (fs < 0) = false := by simp; omega
                  by_cases hli : i < (nextN ps s).length
                  · go_wp2_with fail
                    go_roundw
                    case rel => exact ⟨s + 1, by omega, by go_num, HS6, hB6⟩
                    case measure => simp [intOf]; omega
                  · go_wp2_with fail
                    go_roundw
                    case rel => exact ⟨s + 1, by omega, by go_num, HS6, hB6⟩
                    case measure => simp [intOf]; omega
            · have hsk : s = k := by omega
              have HT : Hid (Blk w4 w.heap.size 3 (intL k (farL (nextN ps) t (n + 1))).toArray) := Lib.hid (by
                rw [show intL k (farL (nextN ps) t (n + 1)) = intL k (farM (nextN ps) t n s) from intL_congr fun u hu => by rw [hsk, farM_end hu]]
                exact HS.out)
              go_wp2_with fail
              go_roundw
              case rel => exact ⟨n + 1, by omega, by go_num, HT, hB⟩
              case measure => simp [intOf]; omega
        · have hnk : n = k := by omega
          subst hnk
          go_wp2_with (go_at_call 105; refine (l3All_any _ _ _ n _ hn5 HN).mono ?_; rintro e w2 ⟨rfl, rfl⟩)
          go_ret
          exact ⟨rfl, HS.out, hB⟩

end Go.Proofs.YtpehimjngofnkaaDoor
