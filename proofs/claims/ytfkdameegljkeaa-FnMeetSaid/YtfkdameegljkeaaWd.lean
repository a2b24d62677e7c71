/- Walks of the drawing source: what it hands out lies in its bounds; only its own block changes. -/
import Derived.Test.YtfkdameegljkeaaProg
import Derived.WalkKit
import Derived.WalkSpells
import Derived.WalkLawsBesides
import Derived.Lib.Hide
import Derived.Deep.QuietTactic
import Derived.BigQuiet
import Derived.Test.YtfkdameegljkeaaWu
namespace Go.Proofs.Ytfkdameegljkeaa
open Go.RowKit

/-- the source: block g (from B on) holds the slice of bytes and the counter p; the bytes lie below block B -/
def Rdr (w : World) (B g p : Nat) : Prop := ∃ (A : Option Addr) (n c : Nat) (bs : List Int), B ≤ g ∧ w.heap[g]? = some (.cells #[.slice A n c, .int .i64 (p : Int)] 55 (0, 0)) ∧
  n = bs.length ∧ n ≤ 2000 ∧ n ≤ c ∧ (bs = [] ∨ ∃ h off, A = some ⟨h, off, none⟩ ∧ h < B ∧ ∀ j v, (bs.map (Value.int .u8))[j]? = some v → w.cell? ⟨h, off + j, none⟩ = some v) ∧ ∀ x ∈ bs, 0 ≤ x ∧ x < 256
theorem Rdr.keep {w w' : World} {B g p : Nat} (h : Rdr w B g p) (hb : Below w.heap.size w w') : Rdr w' B g p := by
  obtain ⟨A, n, c, bs, hB, hg, hn, hn2, hc, hr, hx⟩ := h
  refine ⟨A, n, c, bs, hB, ?_, hn, hn2, hc, ?_, hx⟩
  · rw [hb.block g (Array.getElem?_eq_some_iff.1 hg).1]; exact hg
  · rcases hr with hr | ⟨h, off, hA, hh, hcell⟩
    · exact .inl hr
    · exact .inr ⟨h, off, hA, hh, fun j v hj => (hb.cell (World.block_lt_of_cell? w _ (hcell j v hj))).trans (hcell j v hj)⟩
theorem Rdr.keepB {w w' : World} {B g p : Nat} (h : Rdr w B g p) (hb : Below (g + 1) w w') : Rdr w' B g p := by
  obtain ⟨A, n, c, bs, hB, hg, hn, hn2, hc, hr, hx⟩ := h
  refine ⟨A, n, c, bs, hB, ?_, hn, hn2, hc, ?_, hx⟩
  · rw [hb.block g (by omega)]; exact hg
  · rcases hr with hr | ⟨h, off, hA, hh, hcell⟩
    · exact .inl hr
    · exact .inr ⟨h, off, hA, hh, fun j v hj => (hb.cell (p := ⟨h, off + j, none⟩) (by show h < g + 1; omega)).trans (hcell j v hj)⟩
theorem Rdr.lt {w : World} {B g p : Nat} (h : Rdr w B g p) : B ≤ g ∧ g < w.heap.size := by
  obtain ⟨A, n, c, bs, hB, hg, _⟩ := h
  exact ⟨hB, (Array.getElem?_eq_some_iff.1 hg).1⟩
/-- what num hands back: one of the list -/
def NumP (w : World) (B g p : Nat) (xs : List Int) (e : Ending) (w' : World) : Prop := ∃ v, v ∈ xs ∧ e = .returned (.int .i64 v) ∧ Rdr w' B g (p + 1) ∧ w.grownBy w' (some g)
/-- what of hands back: one of the texts -/
def OfP (w : World) (B g p : Nat) (xs : List ByteArray) (e : Ending) (w' : World) : Prop := ∃ v, v ∈ xs ∧ e = .returned (.string v) ∧ Rdr w' B g (p + 1) ∧ w.grownBy w' (some g)
/-- a source has been laid open -/
def OpenP (w : World) (e : Ending) (w' : World) : Prop := ∃ g, e = .returned (.pointer (some ⟨g, 0, none⟩)) ∧ Rdr w' g g 0 ∧ w.heap.size ≤ g ∧ Below w.heap.size w w'
/-- what pick hands back -/
def PickP (w : World) (B g p : Nat) (n : Int) (e : Ending) (w' : World) : Prop := ∃ v : Nat, e = .returned (.int .i64 (v : Int)) ∧ (v : Int) < n ∧ Rdr w' B g (p + 1) ∧ w.grownBy w' (some g)

theorem Rdr.step {w : World} {B g p : Nat} (h : Rdr w B g p) (n : Nat) : Rdr ((w.setCell ⟨g, 1, none⟩ (.int .i64 ((p : Int) + 1))).drewN n) B g (p + 1) ∧ w.grownBy ((w.setCell ⟨g, 1, none⟩ (.int .i64 ((p : Int) + 1))).drewN n) (some g) := by
  obtain ⟨A, m, c, bs, hB, hg, hn, hn2, hc, hr, hx⟩ := h
  refine ⟨⟨A, m, c, bs, hB, ?_, hn, hn2, hc, ?_, hx⟩, ?_⟩
  · show (w.setCell ⟨g, 1, none⟩ (.int .i64 ((p : Int) + 1))).heap[g]? = _
    simp [World.setCell, Array.getElem?_modify, hg]
  · rcases hr with hr | ⟨h, off, hA, hh, hcell⟩
    · exact .inl hr
    · refine .inr ⟨h, off, hA, hh, fun j v hj => ?_⟩
      show (w.setCell ⟨g, 1, none⟩ (.int .i64 ((p : Int) + 1))).cell? _ = _
      rw [World.cell?_setCell_other _ _ _ _ (by intro x; injection x with x _; omega)]
      exact hcell j v hj
  · refine ⟨rfl, rfl, rfl, by show w.heap.size ≤ (w.setCell _ _).heap.size; rw [setCell_size]; omega, fun i _ hne => ?_⟩
    show (w.setCell ⟨g, 1, none⟩ (.int .i64 ((p : Int) + 1))).heap[i]? = _
    exact Below.heap_setCell _ _ _ _ (by intro e; exact hne (by rw [e]))
set_option maxHeartbeats 1000000 in
set_option maxRecDepth 100000 in
theorem pick_any (B g p : Nat) (nn : Int) (w : World) (h : Rdr w B g p) (hn1 : 1 ≤ nn) (hn2 : nn ≤ 4294967296) (hp : p ≤ 1073741824) :
    Calls Try.prog 22 #[.pointer (some ⟨g, 0, none⟩), .int .i64 nn] w fun e w' => PickP w B g p nn e w' := by
  have H0 := Lib.hid h
  obtain ⟨A, n, c, bs, hB, hg, hn, hnl, hnc, hr, hx⟩ := h
  have hc0 : w.cell? ⟨g, 0, none⟩ = some (.slice A n c) := by rw [cell_of_row w g 0 _ _ _ hg]; rfl
  have hc1 : w.cell? ⟨g, 1, none⟩ = some (.int .i64 (p : Int)) := by rw [cell_of_row w g 1 _ _ _ hg]; rfl
  have hf1 : w.frozen? ⟨g, 1, none⟩ = false := by simp [World.frozen?, hg]
  have hsz := (Array.getElem?_eq_some_iff.1 hg).1
  clear hg
  have HN := Lib.hid hn
  have HR := Lib.hid hr
  have HX := Lib.hid hx
  clear hn hr hx
  by_cases hz : n = 0
  · subst hz
    go_enter Try.func22, Try.ntmps22
    go_wp2
    go_ret
    refine ⟨0, rfl, by omega, ?_⟩
    have := H0.out.step 0
    exact this
  · have hb0 : ((n : Int) == 0) = false := by rw [beq_eq_false_iff_ne]; omega
    have hnp : 0 < n := by omega
    clear hz
    rcases HR.out with he | ⟨hh, off, rfl, hhB, hcell⟩
    · exfalso; have := HN.out; rw [he] at this; simp at this; omega
    · have HC := Lib.hid hcell
      clear hcell
      have hget : ∀ j, j < n → ∃ b : Nat, b < 256 ∧ w.cell? ⟨hh, off + j, none⟩ = some (.int .u8 (b : Int)) := fun j hj => by
        have hj' : j < bs.length := by have := HN.out; omega
        have h1 := HX.out _ (List.getElem_mem hj')
        refine ⟨bs[j].toNat, by omega, ?_⟩
        rw [show ((bs[j].toNat : Nat) : Int) = bs[j] by omega]
        exact HC.out j _ (by rw [List.getElem?_map, List.getElem?_eq_getElem hj']; rfl)
      by_cases hlt : p < n
      · obtain ⟨b, hb, hcb⟩ := hget p hlt
        clear hget
        have hbb : (b : Int) < 256 := by omega
        obtain ⟨m, rfl⟩ : ∃ m : Nat, nn = (m : Int) := ⟨nn.toNat, by omega⟩
        go_enter Try.func22, Try.ntmps22
        go_wp2
        go_ret
        refine ⟨b % m, ret_int (by simp), by have := Nat.mod_lt b (show 0 < m by omega); omega, ?_⟩
        exact H0.out.step 0
      · obtain ⟨b1, hb1, hcb1⟩ := hget (p % n) (Nat.mod_lt _ hnp)
        obtain ⟨b2, hb2, hcb2⟩ := hget ((p * 7 + 3) % n) (Nat.mod_lt _ hnp)
        clear hget
        have hbb1 : (b1 : Int) < 256 := by omega
        have hbb2 : (b2 : Int) < 256 := by omega
        have hq1 : (p : Int) / (n : Int) ≤ p := Int.ediv_le_self _ (by omega)
        have hq0 : 0 ≤ (p : Int) / (n : Int) := Int.ediv_nonneg (by omega) (by omega)
        obtain ⟨m, rfl⟩ : ∃ m : Nat, nn = (m : Int) := ⟨nn.toNat, by omega⟩
        have hne0 : ¬ n = 0 := by omega
        obtain ⟨i1, hi1⟩ : ∃ i1 : Nat, i1 = p % n := ⟨_, rfl⟩
        obtain ⟨i2, hi2⟩ : ∃ i2 : Nat, i2 = (p * 7 + 3) % n := ⟨_, rfl⟩
        have hi1n : i1 < n := by rw [hi1]; exact Nat.mod_lt _ hnp
        have hi2n : i2 < n := by rw [hi2]; exact Nat.mod_lt _ hnp
        have e1 : (p : Int).tmod (n : Int) = (i1 : Int) := by rw [hi1, Int.natCast_emod]; exact Int.tmod_eq_emod_of_nonneg (by omega)
        have e2 : ((p : Int) * 7 + 3).tmod (n : Int) = (i2 : Int) := by rw [hi2, Int.natCast_emod]; exact Int.tmod_eq_emod_of_nonneg (by omega)
        obtain ⟨q, hq⟩ : ∃ q : Nat, q = p / n := ⟨_, rfl⟩
        have hqp : q ≤ p := by rw [hq]; exact Nat.div_le_self _ _
        have e3 : (p : Int).tdiv (n : Int) = (q : Int) := by rw [hq, Int.natCast_ediv]; exact Int.tdiv_eq_ediv_of_nonneg (by omega)
        rw [← hi1] at hcb1
        rw [← hi2] at hcb2
        clear hi1 hi2 hq hq1 hq0
        have f1 : IntKind.i64.wrap ((b1 : Int) * 131) = (b1 : Int) * 131 := IntWalk.i64_in _ (by omega)
        have f2 : IntKind.i64.wrap ((p : Int) * 7) = (p : Int) * 7 := IntWalk.i64_in _ (by omega)
        have f3 : IntKind.i64.wrap ((p : Int) * 7 + 3) = (p : Int) * 7 + 3 := IntWalk.i64_in _ (by omega)
        have f4 : IntKind.i64.wrap ((b2 : Int) * 1117) = (b2 : Int) * 1117 := IntWalk.i64_in _ (by omega)
        have f5 : IntKind.i64.wrap ((b1 : Int) * 131 + (b2 : Int) * 1117) = (b1 : Int) * 131 + (b2 : Int) * 1117 := IntWalk.i64_in _ (by omega)
        have f6 : IntKind.i64.wrap ((p : Int) * 29) = (p : Int) * 29 := IntWalk.i64_in _ (by omega)
        have f7 : IntKind.i64.wrap ((b1 : Int) * 131 + (b2 : Int) * 1117 + (p : Int) * 29) = (b1 : Int) * 131 + (b2 : Int) * 1117 + (p : Int) * 29 := IntWalk.i64_in _ (by omega)
        have f8 : IntKind.i64.wrap (q : Int) = (q : Int) := IntWalk.i64_in _ (by omega)
        have f9 : IntKind.i64.wrap ((q : Int) * 53) = (q : Int) * 53 := IntWalk.i64_in _ (by omega)
        obtain ⟨X, hX⟩ : ∃ X : Nat, (b1 : Int) * 131 + (b2 : Int) * 1117 + (p : Int) * 29 + (q : Int) * 53 = (X : Int) := ⟨b1 * 131 + b2 * 1117 + p * 29 + q * 53, by omega⟩
        have hXb : X < 1099511627776 := by omega
        have fx : IntKind.i64.wrap ((b1 : Int) * 131 + (b2 : Int) * 1117 + (p : Int) * 29 + (q : Int) * 53) = (X : Int) := by rw [hX]; exact IntWalk.i64_in _ (by omega)
        obtain ⟨Y, hY⟩ : ∃ Y : Nat, bits .xor .i64 (X : Int) ((X : Int) / 64) = (Y : Int) := by
          refine ⟨X ^^^ (X / 64), ?_⟩
          rw [show ((X : Int) / 64) = ((X / 64 : Nat) : Int) by omega]
          exact i64_xor_nat _ _ (by omega) (by omega)
        clear hX
        go_enter Try.func22, Try.ntmps22
        go_wp2
        go_quiet (fail)
        clear e1 e2 e3 f1 f2 f3 f4 f5 f6 f7 f8 f9 fx
        go_wp2
        go_ret
        exact ⟨Y % m, ret_int (by simp), by have := Nat.mod_lt Y (show 0 < m by omega); omega, H0.out.step _⟩

theorem of_any (B g p c : Nat) (A : Option Addr) (xs : List ByteArray) (w : World) (h : Rdr w B g p) (hp : p ≤ 1073741824) (hx : Own w (g + 1) A (xs.map Value.string)) (h0 : 0 < xs.length) (h1 : xs.length ≤ 1000000) :
    Calls Try.prog 34 #[.pointer (some ⟨g, 0, none⟩), .slice A xs.length c] w fun e w' => OfP w B g p xs e w' := by
  go_enter Try.func34, Try.ntmps34
  go_wp2_with fail
  refine (pick_any _ _ _ _ _ h (by omega) (by omega) hp).mono ?_
  rintro e w1 ⟨v, rfl, hv, hr, hg⟩
  have hv' : v < xs.length := by omega
  obtain ⟨g', off, rfl, hge, hc, _⟩ := (hx.only (Nat.lt_succ_self g) hg).at_ (k := v) (v := .string xs[v]) (by simp [hv'])
  go_wp2
  go_ret
  exact ⟨_, List.getElem_mem hv', rfl, hr, hg⟩

/-- the source is laid open over the bytes that came in -/
theorem l14Open_any (A : Option Addr) (n c : Nat) (bs : List Int) (w : World) (hn : n = bs.length) (hnc : n ≤ c) (hc : c ≤ 9223372036854775807) (hr : Hid (Rd w A (bs.map (Value.int .u8)))) (hx : Hid (∀ x ∈ bs, 0 ≤ x ∧ x < 256)) :
    Calls Try.prog 21 #[.slice A n c] w fun e w' => OpenP w e w' := by
  have hnew : ∀ (m : Nat), m ≤ n → m ≤ 2000 → Rdr (w.alloc (.cells #[.slice A m c, .int .i64 0] 55)) w.heap.size w.heap.size 0 := by
    intro m hm hm2
    refine ⟨A, m, c, bs.take m, Nat.le_refl _, heap_alloc_new w _, by rw [List.length_take]; omega, hm2, by omega, ?_, fun x hx' => hx.out x (List.mem_of_mem_take hx')⟩
    rcases hr.out with h | ⟨g, off, hA, hcell⟩
    · left
      have : bs = [] := by simpa using h
      rw [this]; simp
    · by_cases h0 : bs.take m = []
      · exact .inl h0
      · have hml : 0 < (bs.take m).length := List.length_pos_iff.2 h0
        have hbl : 0 < bs.length := by rw [List.length_take] at hml; omega
        have hlt := World.block_lt_of_cell? w _ (hcell 0 _ (by rw [List.getElem?_map, List.getElem?_eq_getElem hbl]; rfl))
        refine .inr ⟨g, off, hA, hlt, fun j v hj => ?_⟩
        rw [World.cell?_alloc_lt w _ ⟨g, off + j, none⟩ hlt]
        rw [List.map_take, List.getElem?_take] at hj
        split at hj
        · exact hcell j v hj
        · cases hj
  have HNL := Lib.hid hn
  by_cases h2 : 2000 < n
  · have HF := Lib.hid (hnew 2000 (by omega) (by omega))
    clear hnew hn
    go_enter Try.func21, Try.ntmps21
    go_wp2
    go_ret
    exact ⟨_, rfl, HF.out, Nat.le_refl _, (Below.refl _ _).alloc (Nat.le_refl _) _⟩
  · have HF := Lib.hid (hnew n (by omega) (by omega))
    clear hnew hn
    go_enter Try.func21, Try.ntmps21
    go_wp2
    go_ret
    exact ⟨_, rfl, HF.out, Nat.le_refl _, (Below.refl _ _).alloc (Nat.le_refl _) _⟩

end Go.Proofs.Ytfkdameegljkeaa
