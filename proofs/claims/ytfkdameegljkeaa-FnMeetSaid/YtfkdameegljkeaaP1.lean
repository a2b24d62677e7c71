/- Walks: constant tables, what both tables have, a term within another one (the program's side). -/
import Derived.Test.YtfkdameegljkeaaProg
import Derived.WalkKit
import Derived.WalkSpells
import Derived.WalkLawsBesides
import Derived.Lib.Hide
import Derived.Deep.QuietTactic
import Derived.Deep.RegionHeld3
import Derived.BigQuiet
import Derived.BigFrame
import Derived.Test.YtfkdameegljkeaaWt
import Derived.Test.YtfkdameegljkeaaWb
import Derived.Test.YtfkdameegljkeaaMx
namespace Go.Proofs.Ytfkdameegljkeaa
open Go.RowKit
set_option linter.unusedVariables false

/-- a text and that there is one -/
def txtY (l : List UInt8) : Value := .tuple #[.string ⟨l.toArray⟩, .bool true]
theorem val_txt2 {N : Nat} {b : Nat → Nat} {s : Nat} (h : s < N) (hb : b s < 2) : val (txt N b) s = b s := by
  rw [val_get (by rw [txt_length]; exact h)]
  simp only [txt, List.getElem_map, List.getElem_range]
  rw [chr_toNat _ (by omega)]
  omega
theorem okT_txt2 {n : Nat} {b : Nat → Nat} (h1 : 1 ≤ n) (h5 : n ≤ 5) (hb : ∀ s, b s < 2) : okT (txt (2 ^ n) b) = true ∧ tin (txt (2 ^ n) b).length = n := by
  rw [okT, txt_length, tin_pow n h1 h5]
  refine ⟨?_, rfl⟩
  rw [Bool.and_eq_true]
  refine ⟨by simp; omega, List.all_eq_true.2 fun c hc => ?_⟩
  simp only [txt, List.mem_map, List.mem_range] at hc
  obtain ⟨s, _, rfl⟩ := hc
  have := hb s
  have h2 := chr_toNat (b s) (by omega)
  simp only [b01, h2]
  have : b s = 0 ∨ b s = 1 := by omega
  rcases this with h | h <;> rw [h] <;> rfl
theorem tabOf_txt {n : Nat} {b : Nat → Nat} (h1 : 1 ≤ n) (h5 : n ≤ 5) (hb : ∀ s, b s < 2) : tabOf (txt (2 ^ n) b) = tabL n fun s => if s < 2 ^ n then b s else 0 := by
  obtain ⟨h, ht⟩ := okT_txt2 h1 h5 hb
  rw [tabOf_yes h ht]
  exact tabL_congr _ _ _ fun s _ => by
    split
    · rw [val_txt2 (by assumption) (hb s)]
    · rfl
theorem txt_cut {n N : Nat} {b : Nat → Nat} (h : N = 2 ^ n) : (txt N fun s => if s < 2 ^ n then b s else 0) = txt N b := txt_congr fun s hs => by rw [if_pos (by omega)]

theorem readTableL2 (l : List UInt8) (w : World) (hf : l.length ≤ 9223372036854775807) :
    Calls Try.prog 31 #[.string ⟨l.toArray⟩] w fun e w' => e = .returned (.tuple #[.agg (tabOf l).toArray, .bool (okT l)]) ∧ Below w.heap.size w w' := by
  have h := readTable_any ⟨l.toArray⟩ w (by simpa [ByteArray.size] using hf)
  simpa using h

theorem ConstantTable1_any (p v s : Nat) (w : World) (h : w.cell? ⟨p, 0, none⟩ = some (.int .i64 (v : Int))) (hv : v < 2) :
    Calls Try.prog 18 #[.int .i64 (s : Int), .pointer (some ⟨p, 0, none⟩)] w fun e w' => e = .returned (.int .u8 (v : Int)) ∧ w = w' := by
  have hw : IntKind.u8.wrap (v : Int) = (v : Int) := by have : v = 0 ∨ v = 1 := by omega
                                                        rcases this with h | h <;> rw [h] <;> rfl
  go_enter Try.func18, Try.ntmps18
  go_wp2
  go_ret
  exact ⟨rfl, rfl⟩

theorem closed_Constant : ∀ (args : Array Value) (W : World), (callFunc 18 args).run Try.prog W = .ok (.enter 18 args) W := fun _ _ => by kernel_rfl
set_option maxHeartbeats 400000 in
theorem ConstantTable_any (n v : Nat) (w : World) (h1 : 1 ≤ n) (h5 : n ≤ 5) (hv : v < 2) :
    Calls Try.prog 10 #[.int .i64 (n : Int), .int .i64 (v : Int)] w fun e w' => e = .returned (txtY (txt (2 ^ n) fun _ => v)) ∧ Below w.heap.size w w' := by
  obtain ⟨N, HN, hN32, hN0⟩ : ∃ N : Nat, Hid (N = 2 ^ n) ∧ N ≤ 32 ∧ 0 < N := ⟨_, Lib.hid rfl, two_le _ h5, Nat.pos_of_ne_zero (by simp)⟩
  have hBe : Below w.heap.size w (w.alloc (.cells #[.int .i64 (v : Int)] 3)) := (Below.refl _ _).alloc (Nat.le_refl _) _
  have HX := Lib.hid (Blk.new w 3 #[.int .i64 (v : Int)])
  have hcv : (w.alloc (.cells #[.int .i64 (v : Int)] 3)).cell? ⟨w.heap.size, 0, none⟩ = some (.int .i64 (v : Int)) := (HX.out.cell 0).trans rfl
  have HCL : Hid (Clo (w.alloc (.cells #[.int .i64 (v : Int)] 3)) (2 ^ n) 18 #[.pointer (some ⟨w.heap.size, 0, none⟩)] (fun _ => v)) := Lib.hid (fun s w1 _ hB => by
    refine (ConstantTable1_any w.heap.size v s w1 (((HX.out.keep hB).cell 0).trans rfl) hv).mono ?_
    rintro e w2 ⟨rfl, rfl⟩
    exact ⟨rfl, Below.refl _ _⟩)
  have HB2 : Hid (∀ s, s < N → (if s < 2 ^ n then v else 0) < 2) := Lib.hid (fun s _ => by split <;> omega)
  have HTX : Hid ((txt N fun s => if s < 2 ^ n then v else 0) = txt (2 ^ n) fun _ => v) := Lib.hid (by rw [← HN.out]; exact txt_congr fun s hs => by rw [if_pos hs])
  go_enter Try.func10, Try.ntmps10
  go_wp2_with (first
    | (go_at_call 17; refine (each_any n _ _ (fun _ => v) _ h5 closed_Constant HCL).mono ?_; rintro e w4 ⟨rfl, hB4⟩)
    | (go_at_call 19; refine (text_any n N _ _ h5 HN HB2).mono ?_; rintro e w5 ⟨rfl, hB5⟩; rw [HTX.out]))
  go_ret2
  have h4 : Below w.heap.size w w4 := hBe.trans (hB4.mono (by rw [alloc_size]; omega))
  exact ⟨rfl, h4.trans (hB5.mono h4.size)⟩

/-- the bytes before k lie within -/
theorem ins_step {t u : List UInt8} : ∀ {k : Nat} (h : k < t.length) (h2 : k < u.length), insL (t.take k) (u.take k) = true → (u[k] = 42 ∨ t[k] = u[k]) → insL (t.take (k + 1)) (u.take (k + 1)) = true := by
  induction t generalizing u with
  | nil => intro k h; simp at h
  | cons c t ih =>
    intro k h h2 h3 h4
    cases u with
    | nil => simp at h2
    | cons d u =>
      cases k with
      | zero =>
        simp only [List.getElem_cons_zero] at h4
        simp only [List.take_succ_cons, List.take_zero, insL]
        rcases h4 with h4 | h4 <;> simp [h4]
      | succ k =>
        simp only [List.take_succ_cons, insL, Bool.and_eq_true] at h3 ⊢
        exact ⟨h3.1, ih (by simpa using h) (by simpa using h2) h3.2 (by simpa using h4)⟩
theorem ins_no {t u : List UInt8} : ∀ {k : Nat} (h : k < t.length) (h2 : k < u.length), ¬ u[k] = 42 → ¬ t[k] = u[k] → insL t u = false := by
  induction t generalizing u with
  | nil => intro k h; simp at h
  | cons c t ih =>
    intro k h h2 h3 h4
    cases u with
    | nil => simp at h2
    | cons d u =>
      cases k with
      | zero =>
        simp only [List.getElem_cons_zero] at h3 h4
        simp [insL, h3, h4]
      | succ k =>
        have := ih (by simpa using h) (by simpa using h2) (by simpa using h3) (by simpa using h4)
        simp [insL, this]
set_option maxHeartbeats 400000 in
theorem inside_any (t u : ByteArray) (w : World) (hl : t.size = u.size) (h5 : t.size ≤ 5) :
    Calls Try.prog 20 #[.string t, .string u] w fun e w' => e = .returned (.bool (insL t.data.toList u.data.toList)) ∧ ∃ n, w.drewN n = w' := by
  have htl : t.data.toList.length = t.size := by simp
  have hul : u.data.toList.length = u.size := by simp
  have hl1 : t.size ≤ u.size := by omega
  have hl2 : u.size ≤ t.size := by omega
  have HTL := Lib.hid htl
  have HUL := Lib.hid hul
  clear hl htl hul
  go_enter Try.func20, Try.ntmps20
  go_wp2
  go_loopw [5] (fun i wr => ∃ k : Nat, k ≤ t.size ∧ i = .int .i64 k ∧ Hid (insL (t.data.toList.take k) (u.data.toList.take k) = true) ∧ ∃ n, w.drewN n = wr) (fun i _ => t.size - (intOf i).toNat)
  case atStart => exact ⟨0, Nat.zero_le _, rfl, Lib.hid rfl, 0, rfl⟩
  case round =>
    obtain ⟨k, hk, rfl, HI, nd, rfl⟩ := hrel
    by_cases hlt : k < t.size
    · have hltu : k < u.size := by omega
      have h1 : k < t.data.toList.length := by rw [HTL.out]; exact hlt
      have h2 : k < u.data.toList.length := by rw [HUL.out]; exact hltu
      have et : t.data.toList[k] = t[k] := rfl
      have eu : u.data.toList[k] = u[k] := rfl
      by_cases hs : u[k] = 42
      · have hd : ((u[k].toNat : Int) != 42) = false := by rw [hs]; rfl
        have HN := Lib.hid (ins_step h1 h2 HI.out (.inl (by rw [eu]; exact hs)))
        clear et eu hs
        go_wp2_with fail
        go_quiet (fail)
        go_wp2_with fail
        go_roundw
        case rel => exact ⟨k + 1, by omega, by go_num, HN, _, rfl⟩
        case measure => simp [intOf]; omega
      · have hd : ((u[k].toNat : Int) != 42) = true := by
          rw [bne_iff_ne]; intro e; exact hs (u8_42.1 (by omega))
        by_cases he : t[k] = u[k]
        · have hd2 : ((t[k].toNat : Int) != (u[k].toNat : Int)) = false := by rw [he]; exact bne_self_eq_false _
          have HN := Lib.hid (ins_step h1 h2 HI.out (.inr (by rw [et, eu]; exact he)))
          clear et eu hs he
          go_wp2_with fail
          go_quiet (fail)
          go_wp2_with fail
          go_roundw
          case rel => exact ⟨k + 1, by omega, by go_num, HN, _, rfl⟩
          case measure => simp [intOf]; omega
        · have hd2 : ((t[k].toNat : Int) != (u[k].toNat : Int)) = true := by
            rw [bne_iff_ne]; intro e; exact he (UInt8.toNat_inj.1 (by omega))
          have HN := Lib.hid (ins_no h1 h2 (by rw [eu]; exact hs) (by rw [et, eu]; exact he))
          clear et eu hs he
          go_wp2_with fail
          go_quiet (fail)
          go_wp2_with fail
          go_ret
          exact ⟨by rw [HN.out]; rfl, nd + nq, (drewN2 _ _ _).symm⟩
    · have hkn : k = t.size := by omega
      have HE : Hid (insL t.data.toList u.data.toList = true) := Lib.hid (by
        have := HI.out
        rwa [List.take_of_length_le (by rw [HTL.out]; omega), List.take_of_length_le (by rw [HUL.out]; omega)] at this)
      go_wp2_with fail
      go_ret
      exact ⟨by rw [HE.out]; rfl, _, rfl⟩

theorem IsInside_any (t u : ByteArray) (w : World) (ht : TV t.data.toList (t.size : Int) = true) (hu : TV u.data.toList (t.size : Int) = true) :
    Calls Try.prog 11 #[.string t, .string u] w fun e w' => e = .returned (.bool (insL t.data.toList u.data.toList)) ∧ Below w.heap.size w w' := by
  have h5 : t.size ≤ 5 := by have := (TV_true ht).2.1; omega
  have hl : t.size = u.size := by have := (TV_true hu).2.2.1; simp at this; omega
  have HT := Lib.hid ht
  have HU := Lib.hid hu
  have HI := Lib.hid (fun W => inside_any t u W hl h5)
  have hu5 : u.size ≤ 5 := by omega
  clear ht hu hl
  go_enter Try.func11, Try.ntmps11
  go_wp2_with (first
    | (go_at_call 7; refine (termValid_any _ _ _ (by omega)).mono ?_; rintro e w2 ⟨rfl, rfl⟩; first | rw [HT.out] | rw [HU.out])
    | (go_at_call 20; refine (HI.out _).mono ?_; rintro e w2 ⟨rfl, n2, rfl⟩))
  go_ret
  exact ⟨rfl, drewN_below _ _⟩

end Go.Proofs.Ytfkdameegljkeaa
