/- Walks of fromStep and of the texts of networks. -/
import Derived.Test.YtpehimjngofnkaaDoorProg
import Derived.WalkKit
import Derived.WalkSpells
import Derived.WalkLawsBesides
import Derived.Lib.Hide
import Derived.Deep.QuietTactic
import Derived.Deep.RegionHeld3
import Derived.BigQuiet
import Derived.Test.YtpehimjngofnkaaDoorWy
import Derived.Test.YtpehimjngofnkaaDoorSh
namespace Go.Proofs.YtpehimjngofnkaaDoor
open Go.RowKit
set_option linter.unusedVariables false

/-- the texts of the network of n switches of which a step is f -/
def frS (n : Nat) (f : Nat → Nat) : List (List UInt8) := (List.range n).map fun k => txt (2 ^ n) fun s => bit (f s) k
theorem frS_length (n : Nat) (f : Nat → Nat) : (frS n f).length = n := by simp [frS]
theorem frS_get (n : Nat) (f : Nat → Nat) {k : Nat} (h : k < n) : (frS n f)[k]'(by rw [frS_length]; exact h) = txt (2 ^ n) fun s => bit (f s) k := by simp [frS]
theorem val_txt {N : Nat} {b : Nat → Nat} {s : Nat} (h : s < N) (hb : b s < 2) : val (txt N b) s = b s := by
  rw [val_get (by rw [txt_length]; exact h)]
  simp only [txt, List.getElem_map, List.getElem_range]
  rw [chr_toNat _ (by omega)]
  omega
theorem okT_txt {n : Nat} {b : Nat → Nat} (h1 : 1 ≤ n) (h5 : n ≤ 5) (hb : ∀ s, b s < 2) : okT (txt (2 ^ n) b) = true ∧ tin (txt (2 ^ n) b).length = n := by
  rw [okT, txt_length, tin_pow n h1 h5]
  refine ⟨?_, rfl⟩
  rw [Bool.and_eq_true]
  refine ⟨by simp; omega, List.all_eq_true.2 fun c hc => ?_⟩
  simp only [txt, List.mem_map, List.mem_range] at hc
  obtain ⟨s, _, rfl⟩ := hc
  have := hb s
  have h2 := chr_toNat (b s) (by omega)
  simp only [b01, h2]
  have : b s = 0 ∨ b s = 1 := by omega
  rcases this with h | h <;> rw [h] <;> rfl
theorem frS_ok {n : Nat} {f : Nat → Nat} (h1 : 1 ≤ n) (h5 : n ≤ 5) : okN (frS n f) = true := by
  refine List.all_eq_true.2 fun p hp => ?_
  rw [frS_length]
  simp only [frS, List.mem_map, List.mem_range] at hp
  obtain ⟨k, _, rfl⟩ := hp
  have := okT_txt h1 h5 (fun s => bit_lt (f s) k)
  simp [this.1, this.2]
theorem tv_txt (n : Nat) (b : Nat → Nat) (hb : ∀ s, b s < 2) : tabL n (tv n (txt (2 ^ n) b)) = tabL n fun s => if s < 2 ^ n then b s else 0 :=
  tabL_congr _ _ _ fun s _ => by
    unfold tv
    split
    · rw [val_txt (by assumption) (hb s)]
    · rfl

set_option maxRecDepth 100000 in
theorem fromStep1_any (p3 p6 F i s : Nat) (caps : Array Value) (f : Nat → Nat) (w : World) (h3 : w.cell? ⟨p3, 0, none⟩ = some (.func (.func F) #[] caps)) (h6 : w.cell? ⟨p6, 0, none⟩ = some (.int .i64 (i : Int)))
    (hF : ∀ (args : Array Value) (W : World), (callFunc F args).run Tryd.prog W = .ok (.enter F args) W) (hC : Hid (∀ w1, Below w.heap.size w w1 → Calls Tryd.prog F (#[.int .i64 (s : Int)] ++ caps) w1 fun e w2 => e = .returned (.int .i64 (f s : Int)) ∧ Below w1.heap.size w1 w2)) (hi : i < 5) (hfs : f s < 32) :
    Calls Tryd.prog 122 #[.int .i64 (s : Int), .pointer (some ⟨p3, 0, none⟩), .pointer (some ⟨p6, 0, none⟩)] w fun e w' => e = .returned (.int .u8 (bit (f s) i : Int)) ∧ Below w.heap.size w w' := by
  have hl3 : p3 < w.heap.size := World.block_lt_of_cell? w _ h3
  have hl6 : p6 < w.heap.size := World.block_lt_of_cell? w _ h6
  have hb := bit_and (f s) i (by omega)
  have hb2 := bit_lt (f s) i
  have hwb : IntKind.u8.wrap (bit (f s) i : Int) = (bit (f s) i : Int) := by rcases bit_01 (f s) i with h | h <;> rw [h] <;> rfl
  have HBd : Hid (Below w.heap.size w w.drew) := Lib.hid (drewN_below w 1)
  go_enter Tryd.func122, Tryd.ntmps122
  go_wp2_with fail
  go_region_held3 (fun w' => w'.cell? ⟨p3, 0, none⟩ = some (.func (.func F) #[] caps) ∧ w'.cell? ⟨p6, 0, none⟩ = some (.int .i64 (i : Int))) (go_keep)
    (first | (refine (hC.out _ HBd.out).mono ?_; rintro e w' ⟨rfl, hB'⟩; have h3' := (World.cell?_of_block (w := w.drew) (hB'.block _ hl3)).trans h3; have h6' := (World.cell?_of_block (w := w.drew) (hB'.block _ hl6)).trans h6))
  go_wp2
  go_ret
  exact ⟨rfl, ⟨hB'.os, hB'.tape, hB'.output, hB'.size, hB'.block⟩⟩

/-- calling the closure at a state gives a state, and writes nothing that was there -/
def CloN (w : World) (N F : Nat) (caps : Array Value) (f : Nat → Nat) : Prop :=
  ∀ (s : Nat) (w1 : World), s < N → Below w.heap.size w w1 → Calls Tryd.prog F (#[.int .i64 (s : Int)] ++ caps) w1 fun e w2 => e = .returned (.int .i64 (f s : Int)) ∧ Below w1.heap.size w1 w2
theorem frS_take {n : Nat} {f : Nat → Nat} {k : Nat} (h : k < n) : (frS n f).take (k + 1) = (frS n f).take k ++ [txt (2 ^ n) fun s => bit (f s) k] := by
  rw [List.take_succ_eq_append_getElem (by rw [frS_length]; exact h), frS_get n f h]
/-- it returns the cells of a network of n switches, in memory from block B on -/
def RetN (B : Nat) (ps : List (List UInt8)) (n : Nat) (e : Ending) (w' : World) : Prop := ∃ A c, e = .returned (.slice A n c) ∧ n ≤ c ∧ Own w' B A (netL ps)
set_option maxHeartbeats 1000000 in
set_option maxRecDepth 100000 in
theorem fromStep_any (n F : Nat) (caps : Array Value) (f : Nat → Nat) (w : World) (hn : n ≤ 5) (hf : Hid (∀ s, s < 2 ^ n → f s < 32)) (hF : ∀ (args : Array Value) (W : World), (callFunc F args).run Tryd.prog W = .ok (.enter F args) W) (hC : Hid (CloN w (2 ^ n) F caps f)) :
    Calls Tryd.prog 89 #[.int .i64 (n : Int), .func (.func F) #[] caps] w fun e w' => RetN w.heap.size (frS n f) n e w' ∧ Below w.heap.size w w' := by
  have HF1 := Lib.hid (fun (args : Array Value) (W : World) => (show (callFunc 122 args).run Tryd.prog W = .ok (.enter 122 args) W by kernel_rfl))
  have HX := Lib.hid (Blk.new w 77 #[.func (.func F) #[] caps])
  have hBe : Below w.heap.size w (w.alloc (.cells #[.func (.func F) #[] caps] 77)) := (Below.refl _ _).alloc (Nat.le_refl _) _
  have HLN : Hid (∀ k, ((frS n f).take k).length ≤ 5) := Lib.hid (fun k => by rw [List.length_take, frS_length]; omega)
  go_enter Tryd.func89, Tryd.ntmps89
  go_wp2
  go_loopw [5, 8] (fun v q wr => ∃ k : Nat, k ≤ n ∧ q = .int .i64 k ∧ Hid (OT wr (w.heap.size + 1) v n ((frS n f).take k)) ∧ Hid (Below w.heap.size w wr ∧ Blk wr w.heap.size 77 #[.func (.func F) #[] caps]) ∧ w.heap.size < wr.heap.size) (fun _ q _ => n - (intOf q).toNat)
  case atStart => exact ⟨0, Nat.zero_le _, rfl, Lib.hid (OT.nil _ _ _), Lib.hid ⟨hBe, HX.out⟩, by rw [alloc_size]; omega⟩
  case round =>
    obtain ⟨k, hk, rfl, HT, HB, hz⟩ := hrel
    have hl5 := HLN.out k
    by_cases hlt : k < n
    · have HTK : Hid ((frS n f).take (k + 1) = (frS n f).take k ++ [txt (2 ^ n) fun s => bit (f s) k]) := Lib.hid (frS_take hlt)
      have HY := Lib.hid (Blk.new wr 3 #[.int .i64 (k : Int)])
      have hBn : Below wr.heap.size wr (wr.alloc (.cells #[.int .i64 (k : Int)] 3)) := (Below.refl _ _).alloc (Nat.le_refl _) _
      have hk5 : k < 5 := by omega
      have HCK : Hid (Clo (wr.alloc (.cells #[.int .i64 (k : Int)] 3)) (2 ^ n) 122 #[.pointer (some ⟨w.heap.size, 0, none⟩), .pointer (some ⟨wr.heap.size, 0, none⟩)] (fun s => bit (f s) k)) := Lib.hid (fun s w1 hs hBX =>
        fromStep1_any w.heap.size wr.heap.size F k s caps f w1 (((HB.out.2.keep (hBn.trans (hBX.mono (by rw [alloc_size]; omega)))).cell 0).trans rfl) (((HY.out.keep hBX).cell 0).trans rfl) hF
          (Lib.hid (fun w2 hB2 => hC.out s w2 hs (HB.out.1.trans ((hBn.trans ((hBX.mono (by rw [alloc_size]; omega)).trans (hB2.mono (by have := hBX.size; rw [alloc_size] at this; omega)))).mono (by have := HB.out.1.size; omega))))) hk5 (hf.out s hs))
      have HTX := Lib.hid (tv_txt n (fun s => bit (f s) k) (fun s => bit_lt (f s) k))
      go_wp2_with (first
        | (go_at_call 121; refine (each_any n _ _ (fun s => bit (f s) k) _ hn HF1.out HCK).mono ?_; rintro e w2 ⟨rfl, hB2⟩; rw [← HTX.out])
        | ((with_reducible refine wpStop (o := ⟨some 15, _, _, _, _, _⟩) ?_); refine ⟨?_⟩; refine wpList_bslice_tab rfl _ rfl _ _ rfl ?_; intro g5 w5 hg5 hw5)
        | ((with_reducible refine wpStop (o := ⟨some 16, _, _, _, _, _⟩) ?_); refine ⟨?_⟩; refine wp_pushT rfl _ _ rfl hg5 hw5 (HT.out.below (hBn.trans (hB2.mono (by rw [alloc_size]; omega)))) rfl rfl (by omega) (by have := hB2.size; rw [alloc_size] at this; omega) ?_; clear hg5 hw5; intro v' w6 hown hbel hsz6))
      have hz2 := hB2.size
      rw [alloc_size] at hz2
      have hB12 : Below wr.heap.size wr w2 := hBn.trans (hB2.mono (by rw [alloc_size]; omega))
      have hB16 : Below (w.heap.size + 1) wr w6 := (hB12.mono (by omega)).trans (hbel _ (Nat.le_refl _))
      go_roundw
      case rel => exact ⟨k + 1, by omega, by go_num, Lib.hid (by rw [HTK.out]; exact hown), Lib.hid ⟨HB.out.1.trans (hB16.mono (by omega)), HB.out.2.below hB16 (by omega)⟩, by omega⟩
      case measure => simp [intOf]; omega
    · have hkn : k = n := by omega
      subst hkn
      have HTE : Hid ((frS k f).take k = frS k f) := Lib.hid (List.take_of_length_le (by rw [frS_length]; exact Nat.le_refl _))
      have HTF := HT.out
      rw [HTE.out] at HTF
      obtain ⟨A', c', hv, hc, hO⟩ := HTF.form
      rw [frS_length] at hv hc
      have HV2 := Lib.hid hv
      have HNT : Hid (netL (frS k f) = netT k (frS k f)) := Lib.hid (by rw [netL, frS_length])
      clear hv HTF
      go_wp2
      go_ret
      exact ⟨⟨A', c', by rw [← HV2.out]; rfl, hc, by rw [HNT.out]; exact hO.mono (by omega)⟩, HB.out.1⟩

end Go.Proofs.YtpehimjngofnkaaDoor
