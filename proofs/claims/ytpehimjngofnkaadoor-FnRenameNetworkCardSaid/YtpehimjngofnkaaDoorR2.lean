/- Walks: RenameNetwork of the reference. -/
import Derived.Test.YtpehimjngofnkaaDoorProg
import Derived.WalkKit
import Derived.WalkSpells
import Derived.WalkLawsBesides
import Derived.Lib.Hide
import Derived.Deep.QuietTactic
import Derived.Deep.RegionHeld3
import Derived.Deep.RegionWith
import Derived.BigQuiet
import Derived.Test.YtpehimjngofnkaaDoorR1
import Derived.Test.YtpehimjngofnkaaDoorQ6
namespace Go.Proofs.YtpehimjngofnkaaDoor
open Go.RowKit
set_option linter.unusedVariables false

/-- texts by their numbers -/
def strL (n : Nat) (f : Nat → ByteArray) : List Value := (List.range n).map fun q => .string (f q)
theorem strL_length (n : Nat) (f : Nat → ByteArray) : (strL n f).length = n := by simp [strL]
theorem strL_get {n q : Nat} (f : Nat → ByteArray) (h : q < n) : (strL n f)[q]? = some (.string (f q)) := by simp [strL, h]
theorem strL_const (n : Nat) (b : ByteArray) : (strL n fun _ => b).toArray = Array.replicate n (.string b) := by
  apply Array.ext'
  simp [strL, List.map_const']
theorem strL_set {n : Nat} (f : Nat → ByteArray) (s : Nat) (v : ByteArray) : (strL n f).toArray.setIfInBounds s (.string v) = (strL n fun u => if u = s then v else f u).toArray := by
  apply Array.ext'
  rw [Array.toList_setIfInBounds]
  apply List.ext_getElem?
  intro j
  rw [List.getElem?_set, List.toList_toArray, List.toList_toArray]
  by_cases hj : j < n
  · rw [strL_get _ hj, strL_get _ hj, strL_length]
    by_cases e : s = j
    · subst e; simp [hj]
    · have e2 : ¬ j = s := fun h => e h.symm
      simp [e, e2]
  · rw [List.getElem?_eq_none (l := strL n fun u => if u = s then v else f u) (by rw [strL_length]; omega), List.getElem?_eq_none (l := strL n f) (by rw [strL_length]; omega), strL_length]
    split
    · rename_i e; subst e; rw [if_neg hj]
    · rfl
theorem strL_congr {n : Nat} {f g : Nat → ByteArray} (h : ∀ u, u < n → f u = g u) : strL n f = strL n g := by
  unfold strL
  exact List.map_congr_left fun u hu => by rw [h u (List.mem_range.1 hu)]
/-- the rule of switch q of the renamed network -/
def renR (ps : List (List UInt8)) (p : List Nat) (N q : Nat) : List UInt8 := txt N fun s => bit (renF ps p s) q
/-- the rules, those of the first k old switches in place -/
def renK (ps : List (List UInt8)) (p : List Nat) (N k q : Nat) : ByteArray := if p.idxOf q < k then ⟨(renR ps p N q).toArray⟩ else ByteArray.empty
theorem renK_put {ps : List (List UInt8)} {p : List Nat} {N k n u : Nat} (h : Ord p n) (hk : k < p.length) (hu : u < n) : (if u = p[k] then ⟨(renR ps p N p[k]).toArray⟩ else renK ps p N k u) = renK ps p N (k + 1) u := by
  have hid : p.idxOf p[k] = k := h.nd.idxOf_getElem k hk
  by_cases e : u = p[k]
  · rw [if_pos e, renK, e, hid, if_pos (by omega)]
  · rw [if_neg e, renK, renK]
    have hne : ¬ p.idxOf u = k := by
      intro e2
      apply e
      have hul : p.idxOf u < p.length := List.idxOf_lt_length_of_mem (h.mem hu)
      have := List.getElem_idxOf hul
      rw [← this]
      congr 1
    by_cases h2 : p.idxOf u < k
    · rw [if_pos h2, if_pos (by omega)]
    · rw [if_neg h2, if_neg (by omega)]
theorem renK_all {ps : List (List UInt8)} {p : List Nat} {N n : Nat} (h : Ord p n) {u : Nat} (hu : u < n) : renK ps p N n u = ⟨(renR ps p N u).toArray⟩ := by
  rw [renK, if_pos (by rw [← h.len]; exact List.idxOf_lt_length_of_mem (h.mem hu))]
theorem renR_frS {ps : List (List UInt8)} {p : List Nat} {N n : Nat} (hN : N = 2 ^ n) : strL n (fun u => ⟨(renR ps p N u).toArray⟩) = strs (frS n (renF ps p)) := by
  subst hN
  unfold strL strs frS renR
  rw [List.map_map]
  rfl
/-- the values of a rule while it is filled: those of the first j old states are in place -/
def renV (ps : List (List UInt8)) (p : List Nat) (k j x : Nat) : Int := if oldF p x < j then (val (ps.getD k []) (oldF p x) : Int) else 0
theorem renV_put {ps : List (List UInt8)} {p : List Nat} {k j x n : Nat} (h : Ord p n) (h5 : n ≤ 5) (hj : j < 2 ^ n) (hx : x < 2 ^ n) : (if x = movF p j then (val (ps.getD k []) j : Int) else renV ps p k j x) = renV ps p k (j + 1) x := by
  by_cases e : x = movF p j
  · rw [if_pos e, renV, e, old_mov h h5 hj, if_pos (by omega)]
  · rw [if_neg e, renV, renV]
    have hne : ¬ oldF p x = j := fun e2 => e (by rw [← e2, mov_old h h5 hx])
    by_cases h2 : oldF p x < j
    · rw [if_pos h2, if_pos (by omega)]
    · rw [if_neg h2, if_neg (by omega)]
/-- .. and behind the last one, as numbers -/
def renX (ps : List (List UInt8)) (p : List Nat) (N k : Nat) : List Nat := (List.range N).map fun x => val (ps.getD k []) (oldF p x)
theorem renX_len (ps : List (List UInt8)) (p : List Nat) (N k : Nat) : (renX ps p N k).length = N := by simp [renX]
theorem renX_int {ps : List (List UInt8)} {p : List Nat} {N k n : Nat} (h : Ord p n) (hN : N = 2 ^ n) : intL N (renV ps p k N) = (ints (renX ps p N k)).map (Value.int .i64) := by
  unfold intL renX ints
  rw [List.map_map, List.map_map]
  refine List.map_congr_left fun x hx => ?_
  have : oldF p x < N := by rw [hN, ← h.len]; exact oldF_lt p x
  show Value.int .i64 (renV ps p k N x) = _
  rw [renV, if_pos this]; rfl
theorem renX_txt {ps : List (List UInt8)} {p : List Nat} {N k : Nat} (hok : okN ps = true) (h : Ord p ps.length) (hk : k < ps.length) : chrs (renX ps p N k) = renR ps p N (p.getD k 0) := by
  have hkp : k < p.length := by rw [h.len]; exact hk
  have hg : p.getD k 0 = p[k] := by rw [List.getD_eq_getElem?_getD, List.getElem?_eq_getElem hkp]; rfl
  have hq : p[k] < ps.length := h.lt _ (List.getElem_mem _)
  unfold chrs renX renR txt
  rw [List.map_map, hg]
  refine List.map_congr_left fun x _ => ?_
  show chr (val (ps.getD k []) (oldF p x)) = chr (bit (renF ps p x) p[k])
  rw [renF_bit hok h hq, h.nd.idxOf_getElem k hkp, nb_at _ hk, List.getD_eq_getElem?_getD, List.getElem?_eq_getElem hk]; rfl

set_option maxHeartbeats 4000000 in
set_option maxRecDepth 100000 in
theorem sRenameNetwork_any (s : ByteArray) (A : Option Addr) (c : Nat) (to : List Int) (w : World) (hs : s.size ≤ 1073741824) (hx : Hid (Rd w A (to.map (Value.int .i64)))) (hl : to.length ≤ 1048576) :
    Calls Tryd.prog 42 #[.string s, .slice A to.length c] w fun e w' => e = .returned (txtV (renN (cutL s.data.toList) to) (okR (cutL s.data.toList) to)) ∧ Below w.heap.size w w' := by
  obtain ⟨ps, HPS⟩ : ∃ ps, Hid (ps = cutL s.data.toList) := ⟨_, Lib.hid rfl⟩
  rw [← HPS.out]
  by_cases h : okN ps = true
  · have HOK := Lib.hid h
    have hn5 := okN_le h
    clear h
    by_cases ho : okO to ps.length = true
    · obtain ⟨p, rfl, hO⟩ := okO_true ho
      have HO0 := Lib.hid ho
      have HOP := Lib.hid hO
      have HV : Hid (okR ps (ints p) = true) := Lib.hid (by rw [okR, HOK.out, ho]; rfl)
      have HVN := Lib.hid (renN_yes HV.out)
      obtain ⟨N, HN, hNw, hN32, hN0⟩ := wrap_two ps.length hn5
      have hPL : (ints p).length = ps.length := by rw [ints_length]; exact hO.len
      rw [hPL] at hl ⊢
      have hmk := make_row Tryd.underlying65 info_str rfl ps.length (by omega) (by omega)
      have hmk2 := make_row Tryd.underlying22 info_int rfl N (by omega) (by omega)
      have HFL : Hid ((frS ps.length (renF ps p)).length = ps.length) := Lib.hid (frS_length _ _)
      have HLEN := Lib.hid (frS_lens hn5 (renF ps p))
      have HORD := Lib.hid (fun W (hW : Rd W A ((ints p).map (Value.int .i64))) => by
        have := l3Order_any A c ps.length (ints p) W (Lib.hid hW) hn5 (by rw [hPL]; exact hl)
        rw [hPL, ho] at this
        exact this)
      clear ho hO hNw hPL
      go_enter Tryd.func42, Tryd.ntmps42
      go_wp2_with fail
      refine (l3Open_any s w hs).mono ?_
      rintro e w1 ⟨⟨A1, k0, c1, rfl, himp⟩, hB1⟩
      rw [← HPS.out] at himp ⊢
      obtain ⟨rfl, hc1, hO1⟩ := himp HOK.out
      rw [HOK.out]
      have hz1 := hB1.size
      have HR := Lib.hid hO1.rd
      have HT1 := Lib.hid (hx.out.below hB1)
      have HB1 := Lib.hid hB1
      clear hO1 himp hB1
      go_wp2_with (go_at_call 82; refine (HORD.out _ HT1.out).mono ?_; rintro e w2 ⟨rfl, rfl⟩)
      have HS0 : Hid (Blk (w1.alloc (.cells (Array.replicate ps.length (.string ByteArray.empty)) 9)) w1.heap.size 9 (strL ps.length (renK ps p N 0)).toArray) := Lib.hid (by
        have : renK ps p N 0 = fun _ => ByteArray.empty := by funext q; rw [renK, if_neg (by omega)]
        rw [this, strL_const]; exact Blk.new _ _ _)
      have hBa : Below w1.heap.size w1 (w1.alloc (.cells (Array.replicate ps.length (.string ByteArray.empty)) 9)) := (Below.refl _ _).alloc (Nat.le_refl _) _
      go_loopw [9] (fun q wr => ∃ k : Nat, k ≤ ps.length ∧ q = .int .i64 k ∧ Hid (Blk wr w1.heap.size 9 (strL ps.length (renK ps p N k)).toArray) ∧ Below w1.heap.size w1 wr) (fun q _ => ps.length - (intOf q).toNat)
      case atStart => exact ⟨0, Nat.zero_le _, rfl, HS0, hBa⟩
      case round =>
        clear HS0 hBa
        obtain ⟨k, hk, rfl, HS, hB⟩ := hrel
        obtain ⟨wo, rfl⟩ : ∃ x, x = wr := ⟨_, rfl⟩
        have hsz := hB.size
        have hbl := HS.out.lt
        by_cases hlt : k < ps.length
        · have HLN : Hid (ps[k].length = N) := Lib.hid (part_len HOK.out HN.out hlt)
          have hl1 : ps[k].length ≤ N := Nat.le_of_eq HLN.out
          have hl2 : N ≤ ps[k].length := Nat.le_of_eq HLN.out.symm
          have hln : (⟨ps[k].toArray⟩ : ByteArray).size = N := by rw [str_size]; exact HLN.out
          obtain ⟨g, off, hA, hcell⟩ := (HR.out.below hB).text hlt
          subst hA
          have hmk3 := hmk2 wo
          have hgo : ¬ g = wo.heap.size := fun e => by have := World.block_lt_of_cell? wo _ hcell; rw [e] at this; exact absurd this (Nat.lt_irrefl _)
          have HV0 : Hid (Blk (wo.alloc (.cells (Array.replicate N (.int .i64 0)) 3)) wo.heap.size 3 (intL N (renV ps p k 0)).toArray) := Lib.hid (by
            have : renV ps p k 0 = fun _ => 0 := by funext x; rw [renV, if_neg (by omega)]
            rw [this, intL_zero]; exact Blk.new _ _ _)
          have hBo : Below wo.heap.size wo (wo.alloc (.cells (Array.replicate N (.int .i64 0)) 3)) := (Below.refl _ _).alloc (Nat.le_refl _) _
          obtain ⟨t, htn, ht, hget⟩ := ord_get HOP.out hlt
          go_wp2_with fail
          go_loopw [11] (fun q wq => ∃ j : Nat, j ≤ N ∧ q = .int .i64 j ∧ Hid (Blk wq wo.heap.size 3 (intL N (renV ps p k j)).toArray) ∧ Below wo.heap.size wo wq) (fun q _ => N - (intOf q).toNat)
          case atStart => exact ⟨0, Nat.zero_le _, rfl, HV0, hBo⟩
          case round =>
            clear HV0 hBo hmk3 hcell
            obtain ⟨j, hj, rfl, HVJ, hBi⟩ := hrel
            obtain ⟨wq, rfl⟩ : ∃ x, x = wr := ⟨_, rfl⟩
            have hszi := hBi.size
            have hbli := HVJ.out.lt
            obtain ⟨g, off, hA, hcell⟩ := (HR.out.below (hB.trans (hBi.mono hsz))).text hlt
            injection hA with hA
            injection hA with hA1 hA2
            subst hA1
            subst hA2
            by_cases hlj : j < N
            · have hj2 : j < 2 ^ ps.length := by rw [← HN.out]; exact hlj
              obtain ⟨m, HM⟩ : ∃ m, Hid (m = movF p j) := ⟨_, Lib.hid rfl⟩
              have hmN : m < N := by rw [HM.out, HN.out]; exact movF_lt HOP.out j
              obtain ⟨v0, HV0⟩ : ∃ v, Hid (v = renV ps p k j m) := ⟨_, Lib.hid rfl⟩
              have hc0 : wq.cell? ⟨wo.heap.size, m, none⟩ = some (.int .i64 v0) := by rw [HVJ.out.cell, List.getElem?_toArray, intL_get _ hmN, HV0.out]
              have hf0 : wq.frozen? ⟨wo.heap.size, m, none⟩ = false := HVJ.out.frozen m
              have hxl : j < ps[k].length := by rw [HLN.out]; exact hlj
              have HBB := Lib.hid (part_b01 HOK.out hlt hxl)
              have hv2 : val ps[k] j < 2 := val_lt (okT_true (okN_of HOK.out (List.getElem_mem hlt)).1).2.2.2 j
              obtain ⟨vj, HVv⟩ : ∃ v, Hid (v = val ps[k] j) := ⟨_, Lib.hid rfl⟩
              have HPUT : Hid ((intL N (renV ps p k j)).toArray.setIfInBounds m (.int .i64 (vj : Int)) = (intL N (renV ps p k (j + 1))).toArray) := Lib.hid (by
                rw [intL_set]
                congr 1
                refine intL_congr fun u hu => ?_
                have h1 := renV_put (ps := ps) (k := k) HOP.out hn5 hj2 (x := u) (by rw [← HN.out]; exact hu)
                rw [← h1, HM.out, HVv.out, List.getD_eq_getElem?_getD, List.getElem?_eq_getElem hlt]; rfl)
              have HMV : Hid (∀ n, Calls Tryd.prog 84 #[.int .i64 (j : Int), .slice A ps.length c] (wq.drewN n) fun e w' => e = .returned (.int .i64 (m : Int)) ∧ ∃ q, (wq.drewN n).drewN q = w') := Lib.hid (fun n => by
                have := l3Move_any A c j ps.length p (wq.drewN n) (show Hid (Rd wq A ((ints p).map (Value.int .i64))) from Lib.hid (HT1.out.below (hB.trans (hBi.mono hsz)))) HOP hn5 (by omega)
                rw [← HM.out] at this
                exact this)
              have HAT : Hid (∀ W, Calls Tryd.prog 83 #[.string ⟨ps[k].toArray⟩, .int .i64 (j : Int)] W fun e w' => e = .returned (.int .i64 (vj : Int)) ∧ W = w') := Lib.hid (fun W => by
                have := l1At_any ps[k] j W hxl HBB
                rw [← HVv.out] at this
                exact this)
              clear hln
              go_wp2_with fail
              go_region_held3 (fun w' => w'.cell? ⟨g, off + k, none⟩ = some (.string ⟨ps[k].toArray⟩)) (first | go_keep | exact (World.cell?_setCell_other _ _ _ _ (by intro e; injection e with e; exact hgo e)).trans hcell | exact (World.cell?_setCell_other _ _ _ _ (by intro e; injection e with e; exact hgo e.symm)).trans hcell)
                (first
                  | (go_at_call 84; refine (HMV.out 1).mono ?_; rintro e w' ⟨rfl, q, rfl⟩)
                  | (go_at_call 83; refine (HAT.out _).mono ?_; rintro e w' ⟨rfl, rfl⟩))
              all_goals
                go_wp2_with fail
                go_roundw
                case rel => exact ⟨j + 1, by omega, by go_num, Lib.hid (by rw [← HPUT.out]; exact (HVJ.out.drewN _).set_ _ _), (hBi.trans (drewN_below wq _)).setCell (by show wo.heap.size ≤ wo.heap.size; omega) _⟩
                case measure => simp [intOf]; omega
            · have hje : j = N := by omega
              subst hje
              obtain ⟨gT, oT, hAT, hcT⟩ := (HT1.out.below (hB.trans (hBi.mono hsz))).at_ hget
              subst hAT
              have hgT : ¬ gT = w1.heap.size := fun e => by
                have := World.block_lt_of_cell? w1 _ (HT1.out.cell hget)
                rw [e] at this; exact absurd this (Nat.lt_irrefl _)
              have HSQ := Lib.hid (HS.out.below hBi hbl)
              have hc0 : wq.cell? ⟨w1.heap.size, t, none⟩ = some (.string (renK ps p j k t)) := by rw [HSQ.out.cell, List.getElem?_toArray, strL_get _ htn]
              have hf0 : wq.frozen? ⟨w1.heap.size, t, none⟩ = false := HSQ.out.frozen t
              obtain ⟨b0, HBO⟩ : ∃ b, Hid (b = renK ps p j k t) := ⟨_, Lib.hid rfl⟩
              rw [← HBO.out] at hc0
              obtain ⟨tx, HTX⟩ : ∃ l, Hid (l = renR ps p j t) := ⟨_, Lib.hid rfl⟩
              have HPUT : Hid ((strL ps.length (renK ps p j k)).toArray.setIfInBounds t (.string ⟨tx.toArray⟩) = (strL ps.length (renK ps p j (k + 1))).toArray) := Lib.hid (by
                rw [strL_set]
                congr 1
                refine strL_congr fun u hu => ?_
                have hkp : k < p.length := by rw [HOP.out.len]; exact hlt
                have hpk : p[k] = t := by rw [← ht, List.getD_eq_getElem?_getD, List.getElem?_eq_getElem hkp]; rfl
                have h1 := renK_put (ps := ps) (N := j) HOP.out hkp hu
                rw [← h1, HTX.out, hpk])
              have HTXT : Hid (∀ n, Calls Tryd.prog 85 #[.slice (some ⟨wo.heap.size, 0, none⟩) j j] (wq.drewN n) fun e w' => e = .returned (.string ⟨tx.toArray⟩) ∧ ∃ q, (wq.drewN n).drewN q = w') := Lib.hid (fun n => by
                have h0 : Rd wq (some ⟨wo.heap.size, 0, none⟩) ((ints (renX ps p j k)).map (Value.int .i64)) := by
                  rw [← renX_int HOP.out HN.out]
                  exact (intL_own HVJ.out (B := 0) (Nat.zero_le _)).rd
                have h1 := l1Text_any (some ⟨wo.heap.size, 0, none⟩) j (renX ps p j k) (wq.drewN n) (show Hid (Rd wq _ _) from Lib.hid h0) (Lib.hid (fun x hx => by
                  simp only [renX, List.mem_map] at hx
                  obtain ⟨y, _, rfl⟩ := hx
                  rw [List.getD_eq_getElem?_getD, List.getElem?_eq_getElem hlt]
                  exact val_lt (okT_true (okN_of HOK.out (List.getElem_mem hlt)).1).2.2.2 _)) (by rw [renX_len]; omega)
                rw [renX_len, renX_txt HOK.out HOP.out hlt, ht, ← HTX.out] at h1
                exact h1)
              clear hln ht
              go_wp2_with fail
              go_region_held3 (fun w' => w'.cell? ⟨gT, oT + k, none⟩ = some (.int .i64 (t : Int))) (first | go_keep | exact (World.cell?_setCell_other _ _ _ _ (by intro e; injection e with e; exact hgT e)).trans hcT | exact (World.cell?_setCell_other _ _ _ _ (by intro e; injection e with e; exact hgT e.symm)).trans hcT)
                (first
                  | (go_at_call 85; refine (HTXT.out 1).mono ?_; rintro e w' ⟨rfl, q, rfl⟩))
              all_goals
                go_wp2_with fail
                go_roundw
                case rel => exact ⟨k + 1, by omega, by go_num, Lib.hid (by rw [← HPUT.out]; exact (HSQ.out.drewN _).set_ _ _), ((hB.trans (hBi.mono hsz)).trans (drewN_below wq _)).setCell (by show w1.heap.size ≤ w1.heap.size; omega) _⟩
                case measure => simp [intOf]; omega
        · have hkn : k = ps.length := by omega
          have HSE : Hid (Rd wo (some ⟨w1.heap.size, 0, none⟩) (strs (frS ps.length (renF ps p)))) := Lib.hid (by
            have h1 : strL ps.length (renK ps p N k) = strs (frS ps.length (renF ps p)) := by
              rw [← renR_frS HN.out]
              exact strL_congr fun u hu => by rw [hkn, renK_all HOP.out hu]
            rw [← h1]
            refine .inr ⟨_, 0, rfl, fun j v hj => ?_⟩
            rw [Nat.zero_add, HS.out.cell, List.getElem?_toArray]; exact hj)
          have HT0 := l3Text_any (some ⟨w1.heap.size, 0, none⟩) ps.length (frS ps.length (renF ps p)) wo HSE (Lib.hid (fun q hq => Nat.le_trans (HLEN.out q hq) (by omega))) (by rw [HFL.out]; omega)
          rw [HFL.out] at HT0
          have HTT := Lib.hid HT0
          clear HT0 hkn
          go_wp2_with (go_at_call 86; refine HTT.out.mono ?_; rintro e w2 ⟨rfl, rfl⟩)
          go_ret2
          exact ⟨by rw [HVN.out, HV.out]; rfl, HB1.out.trans (hB.mono hz1)⟩
    · have ho' : okO to ps.length = false := by simpa using ho
      have HV : Hid (okR ps to = false) := Lib.hid (by rw [okR, HOK.out, ho']; rfl)
      have HVN := Lib.hid (renN_no HV.out)
      have HORD := Lib.hid (fun W (hW : Rd W A (to.map (Value.int .i64))) => by
        have := l3Order_any A c ps.length to W (Lib.hid hW) hn5 hl
        rw [ho'] at this
        exact this)
      clear ho ho'
      go_enter Tryd.func42, Tryd.ntmps42
      go_wp2_with fail
      refine (l3Open_any s w hs).mono ?_
      rintro e w1 ⟨⟨A1, k0, c1, rfl, himp⟩, hB1⟩
      rw [← HPS.out] at himp ⊢
      obtain ⟨rfl, hc1, hO1⟩ := himp HOK.out
      rw [HOK.out]
      have HT1 := Lib.hid (hx.out.below hB1)
      clear hO1 himp
      go_wp2_with (go_at_call 82; refine (HORD.out _ HT1.out).mono ?_; rintro e w2 ⟨rfl, rfl⟩)
      go_ret2
      exact ⟨by rw [HVN.out, HV.out]; rfl, hB1⟩
  · have HOK : Hid (okN ps = false) := Lib.hid (by simpa using h)
    have HV : Hid (okR ps to = false) := Lib.hid (by rw [okR, HOK.out]; rfl)
    have HVN := Lib.hid (renN_no HV.out)
    clear h
    go_enter Tryd.func42, Tryd.ntmps42
    go_wp2_with fail
    refine (l3Open_any s w hs).mono ?_
    rintro e w1 ⟨⟨A1, k0, c1, rfl, himp⟩, hB1⟩
    rw [← HPS.out, HOK.out]
    clear himp
    go_wp2_with fail
    go_ret2
    exact ⟨by rw [HVN.out, HV.out]; rfl, hB1⟩

end Go.Proofs.YtpehimjngofnkaaDoor
