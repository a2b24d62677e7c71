/- Walks: the table that is 1 where both are, the table of a term (the program's side). -/
import Derived.Test.YtfkdameegljkeaaProg
import Derived.WalkKit
import Derived.WalkSpells
import Derived.WalkLawsBesides
import Derived.Lib.Hide
import Derived.Deep.QuietTactic
import Derived.Deep.RegionHeld3
import Derived.BigQuiet
import Derived.BigFrame
import Derived.Test.YtfkdameegljkeaaP3
import Derived.Test.YtfkdameegljkeaaWh
import Derived.Test.YtfkdameegljkeaaMx
namespace Go.Proofs.Ytfkdameegljkeaa
open Go.RowKit
set_option linter.unusedVariables false

theorem AndTables_any (l1 l2 : List UInt8) (n : Nat) (w : World) (h1 : Hid (okT l1 = true ∧ tin l1.length = n)) (h2 : Hid (okT l2 = true ∧ tin l2.length = n)) (hl : l1.length ≤ 1000 ∧ l2.length ≤ 1000) :
    Calls Try.prog 9 #[.string ⟨l1.toArray⟩, .string ⟨l2.toArray⟩] w fun e w' => e = .returned (txtY (txt (2 ^ n) fun s => val l1 s * val l2 s)) ∧ Below w.heap.size w w' := by
  have HJ : Hid (∀ W, Calls Try.prog 15 #[.string ⟨l1.toArray⟩, .string ⟨l2.toArray⟩, .func (.func 16) #[] #[]] W fun e w' => e = .returned (txtY (txt (2 ^ n) fun s => val l1 s * val l2 s)) ∧ Below W.heap.size W w') :=
    Lib.hid fun W => joinTables_any l1 l2 n 16 #[] (fun a b => a * b) W h1 h2 hl closed_And (Lib.hid fun x y hx hy => by
      have e1 : x = 0 ∨ x = 1 := by omega
      rcases e1 with rfl | rfl
      · simp
      · simpa using hy) (Lib.hid fun x y W2 hx hy => by
      have h := And1_any x y W2 hx hy
      simpa using h)
  go_enter Try.func9, Try.ntmps9
  go_wp2_with (go_at_call 15; refine (HJ.out _).mono ?_; rintro e w2 ⟨rfl, hB⟩; unfold txtY)
  go_ret2
  exact ⟨rfl, hB⟩

theorem indexFunc1_any (A : Option Addr) (c F : Nat) (caps : Array Value) (t : ByteArray) (b : Bool) (w : World) (hx : Hid (Rd w A [.string t]))
    (hF : ∀ (args : Array Value) (W : World), (callFunc F args).run Try.prog W = .ok (.enter F args) W) (hC : Hid (Calls Try.prog F (#[.string t] ++ caps) w fun e w' => e = .returned (.bool b) ∧ ∃ n, w.drewN n = w')) :
    Calls Try.prog 35 #[.slice A 1 c, .func (.func F) #[] caps] w fun e w' => e = .returned (.int .i64 (if b then 0 else -1)) ∧ ∃ n, w.drewN n = w' := by
  obtain ⟨g, off, rfl, hcell⟩ := hx.out.at_ (k := 0) rfl
  rw [Nat.add_zero] at hcell
  go_enter Try.func35, Try.ntmps35
  go_wp2_with fail
  go_loopw [8] (fun q wr => (q = .int .i64 0 ∧ wr = w) ∨ (q = .int .i64 1 ∧ b = false ∧ ∃ n, w.drewN n = wr)) (fun q _ => 1 - (intOf q).toNat)
  case atStart => exact .inl ⟨rfl, rfl⟩
  case round =>
    rcases hrel with ⟨rfl, rfl⟩ | ⟨rfl, hb, nd, rfl⟩
    · go_wp2_with fail
      refine hC.out.mono ?_
      rintro e w2 ⟨rfl, n, rfl⟩
      cases b with
      | true =>
        go_wp2_with fail
        go_ret
        exact ⟨rfl, _, rfl⟩
      | false =>
        go_wp2_with fail
        go_roundw
        case rel => exact .inr ⟨by go_num, by simp, _, rfl⟩
        case measure => simp [intOf]
    · subst hb
      go_wp2_with fail
      go_ret
      exact ⟨rfl, _, rfl⟩

theorem containsFunc1_any (A : Option Addr) (c F : Nat) (caps : Array Value) (t : ByteArray) (b : Bool) (w : World) (hx : Hid (Rd w A [.string t]))
    (hF : ∀ (args : Array Value) (W : World), (callFunc F args).run Try.prog W = .ok (.enter F args) W) (hC : Hid (Calls Try.prog F (#[.string t] ++ caps) w fun e w' => e = .returned (.bool b) ∧ ∃ n, w.drewN n = w')) :
    Calls Try.prog 28 #[.slice A 1 c, .func (.func F) #[] caps] w fun e w' => e = .returned (.bool b) ∧ ∃ n, w.drewN n = w' := by
  have HI := Lib.hid (indexFunc1_any A c F caps t b w hx hF hC)
  cases b with
  | true =>
    go_enter Try.func28, Try.ntmps28
    go_wp2_with (go_at_call 35; refine HI.out.mono ?_; rintro e w2 ⟨rfl, n, rfl⟩)
    go_ret
    exact ⟨rfl, _, rfl⟩
  | false =>
    go_enter Try.func28, Try.ntmps28
    go_wp2_with (go_at_call 35; refine HI.out.mono ?_; rintro e w2 ⟨rfl, n, rfl⟩)
    go_ret
    exact ⟨rfl, _, rfl⟩

theorem ToT11_any (t : ByteArray) (p s : Nat) (w : World) (hp : w.cell? ⟨p, 0, none⟩ = some (.int .i64 (s : Int))) (ht : t.size ≤ 5) (hs : s < 32) (hok : Hid (t.data.toList.all okc = true)) :
    Calls Try.prog 29 #[.string t, .pointer (some ⟨p, 0, none⟩)] w fun e w' => e = .returned (.bool (hasS t.data.toList s)) ∧ ∃ n, w.drewN n = w' := by
  go_enter Try.func29, Try.ntmps29
  go_wp2_with (go_at_call 30; refine (hasState_any t s _ (by omega) (by omega) hok).mono ?_; rintro e w2 ⟨rfl, n, rfl⟩)
  go_ret
  exact ⟨rfl, _, rfl⟩

theorem closed_ToT11 : ∀ (args : Array Value) (W : World), (callFunc 29 args).run Try.prog W = .ok (.enter 29 args) W := fun _ _ => by kernel_rfl
theorem ToT1_any (t : ByteArray) (p s c : Nat) (A : Option Addr) (w : World) (hp : w.cell? ⟨p, 0, none⟩ = some (.slice A 1 c)) (hx : Hid (Rd w A [.string t])) (ht : t.size ≤ 5) (hs : s < 32) (hok : Hid (t.data.toList.all okc = true)) :
    Calls Try.prog 27 #[.int .i64 (s : Int), .pointer (some ⟨p, 0, none⟩)] w fun e w' => e = .returned (.int .u8 ((if hasS t.data.toList s then 1 else 0 : Nat) : Int)) ∧ Below w.heap.size w w' := by
  have hl := World.block_lt_of_cell? w _ hp
  have hB1 : Below w.heap.size w (w.alloc (.cells #[.int .i64 (s : Int)] 3)) := (Below.refl _ _).alloc (Nat.le_refl _) _
  have hp1 : (w.alloc (.cells #[.int .i64 (s : Int)] 3)).cell? ⟨p, 0, none⟩ = some (.slice A 1 c) := (hB1.cell (p := ⟨p, 0, none⟩) hl).trans hp
  have hs1 : (w.alloc (.cells #[.int .i64 (s : Int)] 3)).cell? ⟨w.heap.size, 0, none⟩ = some (.int .i64 (s : Int)) := cell_new _ _ _ 0
  have HC : Hid (Calls Try.prog 28 #[.slice A 1 c, .func (.func 29) #[] #[.pointer (some ⟨w.heap.size, 0, none⟩)]] (w.alloc (.cells #[.int .i64 (s : Int)] 3)) fun e w' => e = .returned (.bool (hasS t.data.toList s)) ∧ ∃ n, (w.alloc (.cells #[.int .i64 (s : Int)] 3)).drewN n = w') :=
    Lib.hid (containsFunc1_any A c 29 #[.pointer (some ⟨w.heap.size, 0, none⟩)] t _ _ (Lib.hid (hx.out.below hB1)) closed_ToT11 (Lib.hid (ToT11_any t w.heap.size s _ hs1 ht hs hok)))
  cases hb : hasS t.data.toList s with
  | true =>
    rw [hb] at HC
    go_enter Try.func27, Try.ntmps27
    go_wp2_with (go_at_call 28; refine HC.out.mono ?_; rintro e w2 ⟨rfl, n, rfl⟩)
    go_ret
    exact ⟨rfl, hB1.trans (drewN_below _ _)⟩
  | false =>
    rw [hb] at HC
    go_enter Try.func27, Try.ntmps27
    go_wp2_with (go_at_call 28; refine HC.out.mono ?_; rintro e w2 ⟨rfl, n, rfl⟩)
    go_ret
    exact ⟨rfl, hB1.trans (drewN_below _ _)⟩

theorem closed_ToT1 : ∀ (args : Array Value) (W : World), (callFunc 27 args).run Try.prog W = .ok (.enter 27 args) W := fun _ _ => by kernel_rfl
set_option maxHeartbeats 400000 in
theorem TableOfTerms1_any (t : ByteArray) (A : Option Addr) (c : Nat) (w : World) (hx : Hid (Rd w A [.string t])) (hv : Hid (TV t.data.toList (t.size : Int) = true)) :
    Calls Try.prog 14 #[.slice A 1 c, .int .i64 (t.size : Int)] w fun e w' => e = .returned (txtY (tmT t.data.toList)) ∧ Below w.heap.size w w' := by
  have htv := TV_true hv.out
  have h5 : t.size ≤ 5 := by have := htv.2.1; omega
  have h1 : 1 ≤ t.size := by have := htv.1; omega
  have hok : Hid (t.data.toList.all okc = true) := Lib.hid (List.all_eq_true.2 htv.2.2.2)
  clear htv
  obtain ⟨N, HN, hN32, hN0⟩ : ∃ N : Nat, Hid (N = 2 ^ t.size) ∧ N ≤ 32 ∧ 0 < N := ⟨_, Lib.hid rfl, two_le _ h5, Nat.pos_of_ne_zero (by simp)⟩
  obtain ⟨n, Hn⟩ : ∃ n, Hid (n = t.size) := ⟨_, rfl⟩
  have hn1 : 1 ≤ n := by rw [Hn.out]; exact h1
  have hn5 : n ≤ 5 := by rw [Hn.out]; exact h5
  have HTX : Hid ((txt N fun s => if s < 2 ^ n then (if hasS t.data.toList s then 1 else 0) else 0) = tmT t.data.toList) := Lib.hid (by
    rw [tmT, HN.out, Hn.out]
    have e : t.data.toList.length = t.size := by simp
    rw [e]
    exact txt_congr fun s hs => by rw [if_pos hs])
  obtain ⟨g, off, rfl, hcell⟩ := hx.out.at_ (k := 0) rfl
  rw [Nat.add_zero] at hcell
  have HX := Lib.hid (Blk.new w 33 #[.slice (some ⟨g, off, none⟩) 1 c])
  have hB0 : Below w.heap.size w (w.alloc (.cells #[.slice (some ⟨g, off, none⟩) 1 c] 33)) := (Below.refl _ _).alloc (Nat.le_refl _) _
  have hcv : (w.alloc (.cells #[.slice (some ⟨g, off, none⟩) 1 c] 33)).cell? ⟨w.heap.size, 0, none⟩ = some (.slice (some ⟨g, off, none⟩) 1 c) := (HX.out.cell 0).trans rfl
  have hce : (w.alloc (.cells #[.slice (some ⟨g, off, none⟩) 1 c] 33)).cell? ⟨g, off, none⟩ = some (.string t) := (hB0.cell (p := ⟨g, off, none⟩) (World.block_lt_of_cell? w _ hcell)).trans hcell
  have HCL : Hid (Clo (w.alloc (.cells #[.slice (some ⟨g, off, none⟩) 1 c] 33)) (2 ^ n) 27 #[.pointer (some ⟨w.heap.size, 0, none⟩)] (fun s => if hasS t.data.toList s then 1 else 0)) := Lib.hid (fun s w1 hs hB => by
    have h32 := two_le _ hn5
    exact ToT1_any t w.heap.size s c _ w1 (((HX.out.keep hB).cell 0).trans rfl) (Lib.hid ((hx.out.below hB0).below hB)) h5 (by omega) hok)
  have HB2 : Hid (∀ s, s < N → (if s < 2 ^ n then (if hasS t.data.toList s then 1 else 0) else 0) < 2) := Lib.hid (fun s _ => by split <;> (try split) <;> omega)
  have HV := Lib.hid hv.out
  rw [← Hn.out] at HV HN ⊢
  go_enter Try.func14, Try.ntmps14
  go_wp2_with fail
  go_loopw [16] (fun q wr => ∃ k : Nat, k ≤ 1 ∧ q = .int .i64 (k : Int) ∧ wr = w.alloc (.cells #[.slice (some ⟨g, off, none⟩) 1 c] 33)) (fun q _ => 1 - (intOf q).toNat)
  case atStart => exact ⟨0, by omega, rfl, by first | rfl | trivial⟩
  case round =>
    obtain ⟨k, hk, rfl, rfl⟩ := hrel
    by_cases hlt : k < 1
    · have hk0 : k = 0 := by omega
      subst hk0
      go_wp2_with (go_at_call 7; refine (termValid_any t _ _ (by omega)).mono ?_; rintro e w2 ⟨rfl, rfl⟩; rw [HV.out])
      go_roundw
      case rel => exact ⟨1, by omega, by go_num, by first | rfl | trivial⟩
      case measure => simp [intOf]
    · have hk1 : k = 1 := by omega
      subst hk1
      go_wp2_with (first
        | (go_at_call 17; refine (each_any n _ _ (fun s => if hasS t.data.toList s then 1 else 0) _ hn5 closed_ToT1 HCL).mono ?_; rintro e w4 ⟨rfl, hB4⟩)
        | (go_at_call 19; refine (text_any n N _ _ hn5 HN HB2).mono ?_; rintro e w5 ⟨rfl, hB5⟩; rw [HTX.out]))
      go_ret2
      have h4 : Below w.heap.size w w4 := hB0.trans (hB4.mono (by rw [alloc_size]; omega))
      exact ⟨rfl, h4.trans (hB5.mono h4.size)⟩

theorem TermTable_any (t : ByteArray) (w : World) (hv : Hid (TV t.data.toList (t.size : Int) = true)) :
    Calls Try.prog 8 #[.string t] w fun e w' => e = .returned (txtY (tmT t.data.toList)) ∧ Below w.heap.size w w' := by
  have h5 : t.size ≤ 5 := by have := (TV_true hv.out).2.1; omega
  have hB0 : Below w.heap.size w (w.alloc (.cells #[.string t] 9)) := (Below.refl _ _).alloc (Nat.le_refl _) _
  have HT := Lib.hid (TableOfTerms1_any t (some ⟨w.heap.size, 0, none⟩) 1 (w.alloc (.cells #[.string t] 9)) (Lib.hid (Own.lit w 9 [.string t] (Nat.le_refl _)).rd) hv)
  go_enter Try.func8, Try.ntmps8
  go_wp2_with (first
    | (go_at_call 7; refine (termValid_any t _ _ (by omega)).mono ?_; rintro e w2 ⟨rfl, rfl⟩; rw [hv.out])
    | (go_at_call 14; refine HT.out.mono ?_; rintro e w3 ⟨rfl, hB3⟩; unfold txtY))
  go_ret2
  exact ⟨rfl, hB0.trans (hB3.mono hB0.size)⟩

end Go.Proofs.Ytfkdameegljkeaa
