/- Walks of the reference's functions on the texts of networks. -/
import Derived.Test.YtpehimjngofnkaaDoorProg
import Derived.WalkKit
import Derived.WalkSpells
import Derived.WalkLawsBesides
import Derived.Lib.Hide
import Derived.Deep.QuietTactic
import Derived.BigQuiet
import Derived.Test.YtpehimjngofnkaaDoorWs
import Derived.Test.YtpehimjngofnkaaDoorMn
namespace Go.Proofs.YtpehimjngofnkaaDoor
open Go.RowKit
set_option linter.unusedVariables false

theorem info_str : (Tryd.prog.info? 9).map (fun i => (i.zero, i.size, i.bytes)) = some (some (.string ByteArray.empty), 1, 16) := by kernel_rfl
/-- texts as values -/
def strs (ps : List (List UInt8)) : List Value := ps.map fun l => .string ⟨l.toArray⟩
theorem strs_append (a b : List (List UInt8)) : strs (a ++ b) = strs a ++ strs b := by simp [strs]
theorem strs_length (a : List (List UInt8)) : (strs a).length = a.length := by simp [strs]
theorem strs_get {ps : List (List UInt8)} {i : Nat} (h : i < ps.length) : (strs ps)[i]? = some (.string ⟨ps[i].toArray⟩) := by simp [strs, h]
/-- the value v is the call's own slice of the texts ps -/
def OS (w : World) (B : Nat) (e : TypeId) (v : Value) (ps : List (List UInt8)) : Prop := w.ownsRow B e 1 v ps.length (strs ps)
theorem OS.empty (w : World) (B : Nat) (e : TypeId) (hB : B ≤ w.heap.size) : OS (w.alloc (.cells #[] e)) B e (.slice (some ⟨w.heap.size, 0, none⟩) 0 0) [] :=
  World.ownsRow_made w #[] 0 hB (Nat.zero_le _) rfl
theorem OS.nil (w : World) (B : Nat) (e : TypeId) : OS w B e (.slice none 0 0) [] := World.ownsRow_nil w B e 1
theorem OS.below {w w' : World} {B : Nat} {e : TypeId} {v : Value} {ps : List (List UInt8)} (h : OS w B e v ps) (hb : Below w.heap.size w w') : OS w' B e v ps := ownsRow_below h hb
theorem OS.form {w : World} {B : Nat} {e : TypeId} {v : Value} {ps : List (List UInt8)} (h : OS w B e v ps) : ∃ A c, v = .slice A ps.length c ∧ ps.length ≤ c ∧ Own w B A (strs ps) := by
  rcases h.2 with ⟨rfl, h0⟩ | ⟨g, cap, cur, rfl, hB, hg, hn, rest⟩
  · exact ⟨none, 0, by rw [h0], by omega, .inl (by rw [List.eq_nil_of_length_eq_zero h0]; rfl)⟩
  · exact ⟨_, cap, rfl, hn, Own.of_own h⟩
theorem wp_pushS {P : Program} {wr : World} {ops : Array Oper} {rest : List Oper} {o : Oper} {a : Act} {Q : Exit → Act → World → Prop} (hgd : o.guard = none) (s x : Operand) (t : TypeId)
    (ho : o.op = .call { callee := .builtin .append, args := #[s, x], argTypes := #[t, t] })
    {B e : Nat} (ht : P.underlying t = some (.slice e)) (hinf : (P.info? e).map (fun i => (i.zero, i.size, i.bytes)) = some (some (.string ByteArray.empty), 1, 16))
    {v : Value} {ps : List (List UInt8)} {u : ByteArray} (hown : OS wr B e v ps) (hs : a.eval s = v) (hx : a.eval x = .slice (some ⟨wr.heap.size, 0, none⟩) 1 1)
    (hn : ps.length ≤ 1099511627776) (hB : B ≤ wr.heap.size)
    (h : ∀ v' w', OS w' B e v' (ps ++ [u.data.toList]) → (∀ B', B' ≤ B → Below B' wr w') → wr.heap.size ≤ w'.heap.size → wpList P ops Q rest (a.put o.dst v') w') :
    wpList P ops Q (o :: rest) a (wr.alloc (.cells #[.string u] e)) :=
  wp_push hgd s x t ho ht hinf rfl hown hs hx rfl hn (by omega) hB fun v' w' h1 h2 h3 => h v' w' (by unfold OS; simpa [strs] using h1) h2 h3
/-- it returns a slice of the texts ps, in memory from block B on -/
def RetS (B : Nat) (ps : List (List UInt8)) (e : Ending) (w' : World) : Prop := ∃ A c, e = .returned (.slice A ps.length c) ∧ ps.length ≤ c ∧ Own w' B A (strs ps)
theorem Rd.text {w : World} {A : Option Addr} {ps : List (List UInt8)} {j : Nat} (h : Rd w A (strs ps)) (hj : j < ps.length) : ∃ g off, A = some ⟨g, off, none⟩ ∧ w.cell? ⟨g, off + j, none⟩ = some (.string ⟨ps[j].toArray⟩) :=
  h.at_ (strs_get hj)

theorem l14Cut_any (s : ByteArray) (w : World) (hs : s.size ≤ 1073741824) :
    Calls Tryd.prog 109 #[.string s, .int .u8 44] w fun e w' => RetS w.heap.size (cutL s.data.toList) e w' ∧ Below w.heap.size w w' := by
  go_enter Tryd.func109, Tryd.ntmps109
  go_wp2
  go_loopw [5, 6, 7] (fun v q r wr => ∃ (fr i : Nat) (done : List (List UInt8)), q = .int .i64 fr ∧ r = .int .i64 i ∧ i ≤ s.size + 1 ∧ fr ≤ i ∧ done.length ≤ i ∧ Hid (OS wr w.heap.size 9 v done) ∧ Hid (CutInv s.data.toList done fr i) ∧ Below w.heap.size w wr) (fun _ _ r _ => s.size + 1 - (intOf r).toNat)
  case atStart => exact ⟨0, 0, [], rfl, rfl, Nat.zero_le _, Nat.zero_le _, Nat.zero_le _, Lib.hid (OS.empty _ _ _ (Nat.le_refl _)), Lib.hid (cutInv_start _), (Below.refl _ _).alloc (Nat.le_refl _) _⟩
  case round =>
    obtain ⟨fr, i, done, rfl, rfl, hi, hfr, hdl, HO, HC, hB⟩ := hrel
    have hsz := hB.size
    by_cases hend : i = s.size + 1
    · have HD := Lib.hid (cutInv_done HC.out (by simpa using hend))
      obtain ⟨A, c, hv, hc, hO⟩ := HO.out.form
      have HV := Lib.hid hv
      clear hv
      go_wp2
      go_ret
      exact ⟨⟨A, c, by rw [← HD.out, ← HV.out]; rfl, by rw [← HD.out]; exact hc, by rw [← HD.out]; exact hO⟩, hB⟩
    · have hi2 : i ≤ s.size := by omega
      by_cases hsz2 : i = s.size
      · have hd : ((i : Int) == (s.size : Int)) = true := by simp [hsz2]
        have HX : Hid (CutInv s.data.toList (done ++ [(s.extract fr s.size).data.toList]) (i + 1) (i + 1)) := Lib.hid (by
          have h := cutInv_end HC.out (by simpa using hsz2)
          rw [show s.extract fr s.size = s.extract fr i by rw [hsz2]]
          rwa [← ext_list] at h)
        go_wp2_with (at_builtin; refine wp_pushS rfl _ _ _ rfl Tryd.underlying65 info_str HO.out rfl rfl (by omega) hsz ?_; intro v' w3 hown hbel hsz3)
        go_roundw
        case rel => exact ⟨i + 1, i + 1, _, by go_num, by go_num, by omega, by omega, by simp; omega, Lib.hid hown, HX, hB.trans (hbel _ (Nat.le_refl _))⟩
        case measure => simp [intOf]; omega
      · have hlt : i < s.size := by omega
        have hd : ((i : Int) == (s.size : Int)) = false := by simp; omega
        by_cases hc : s[i] = 44
        · have hq : ((s[i].toNat : Int) == 44) = true := by simp [hc]
          have HX : Hid (CutInv s.data.toList (done ++ [(s.extract fr i).data.toList]) (i + 1) (i + 1)) := Lib.hid (by
            have h := cutInv_cut HC.out (by simpa using hlt) hc
            rwa [← ext_list] at h)
          clear hc
          go_wp2_with (at_builtin; refine wp_pushS rfl _ _ _ rfl Tryd.underlying65 info_str HO.out rfl rfl (by omega) hsz ?_; intro v' w3 hown hbel hsz3)
          go_roundw
          case rel => exact ⟨i + 1, i + 1, _, by go_num, by go_num, by omega, by omega, by simp; omega, Lib.hid hown, HX, hB.trans (hbel _ (Nat.le_refl _))⟩
          case measure => simp [intOf]; omega
        · have hq : ((s[i].toNat : Int) == 44) = false := by
            have : ¬ s[i].toNat = 44 := fun e => hc (UInt8.toNat_inj.1 e)
            simp; omega
          have HX : Hid (CutInv s.data.toList done fr (i + 1)) := Lib.hid (cutInv_skip HC.out (by simpa using hlt) hc)
          clear hc
          go_wp2_with fail
          go_roundw
          case rel => exact ⟨fr, i + 1, _, rfl, by go_num, by omega, by omega, by omega, HO, HX, hB⟩
          case measure => simp [intOf]; omega

theorem l1Inputs_any (n : Nat) (w : World) (hn : n ≤ 9223372036854775807) :
    Calls Tryd.prog 110 #[.int .i64 (n : Int)] w fun e w' => e = .returned (.int .i64 (inN n)) ∧ w = w' := by
  go_enter Tryd.func110, Tryd.ntmps110
  go_wp2
  go_loopw [3] (fun q wr => ∃ k : Nat, 1 ≤ k ∧ k ≤ 6 ∧ q = .int .i64 k ∧ Hid (∀ m, 1 ≤ m → m < k → ¬ n = 2 ^ m) ∧ wr = w) (fun q _ => 6 - (intOf q).toNat)
  case atStart => exact ⟨1, by omega, by omega, rfl, Lib.hid (fun m h1 h2 => by omega), rfl⟩
  case round =>
    obtain ⟨k, hk1, hk6, rfl, HA, rfl⟩ := hrel
    by_cases hlt : k ≤ 5
    · obtain ⟨N, HN, hN, hN32, hN0⟩ := wrap_two k hlt
      by_cases hs : n = N
      · have HT : Hid (inN n = k) := Lib.hid (by
          have ht := tin_pow k hk1 hlt
          rw [show n = 2 ^ k by rw [hs, HN.out], inN_yes (by omega), ht])
        have hd : ((n : Int) == (N : Int)) = true := by simp [hs]
        clear hs
        go_wp2_with fail
        simp only [hN]
        go_wp2_with fail
        go_ret
        exact ⟨by rw [HT.out]; rfl, rfl⟩
      · have hd : ((n : Int) == (N : Int)) = false := by simp; omega
        have HA2 : Hid (∀ m, 1 ≤ m → m < k + 1 → ¬ n = 2 ^ m) := Lib.hid (fun m h1 h2 => by
          by_cases e : m = k
          · subst e; have := HN.out; omega
          · exact HA.out m h1 (by omega))
        clear hs
        go_wp2_with fail
        go_roundw
        case rel => exact ⟨k + 1, by omega, by omega, by go_num, HA2, trivial⟩
        case measure => simp [intOf]; omega
    · have HT : Hid (inN n = -1) := Lib.hid (inN_no (tin_none _ (fun m h1 h5 => HA.out m h1 (by omega))))
      go_wp2_with fail
      go_ret
      exact ⟨by rw [HT.out]; rfl, rfl⟩

theorem sTableValid_any (f : ByteArray) (w : World) (hf : f.size ≤ 9223372036854775806) :
    Calls Tryd.prog 100 #[.string f] w fun e w' => e = .returned (.bool (okT f.data.toList)) ∧ w = w' := by
  go_enter Tryd.func100, Tryd.ntmps100
  go_wp2
  go_loopw [3] (fun q wr => ∃ i : Nat, i ≤ f.size ∧ q = .int .i64 i ∧ Hid ((f.data.toList.take i).all b01 = true) ∧ wr = w) (fun q _ => f.size - (intOf q).toNat)
  case atStart => exact ⟨0, Nat.zero_le _, rfl, Lib.hid rfl, rfl⟩
  case round =>
    obtain ⟨i, hi, rfl, HI, rfl⟩ := hrel
    by_cases hif : i < f.size
    · by_cases hb0 : b01 f[i] = true
      · have HI2 := Lib.hid (all_take_snoc hif HI.out hb0)
        have h01 : (f[i].toNat : Int) = 48 ∨ (f[i].toNat : Int) = 49 := by simp [b01] at hb0; omega
        clear hb0
        rcases h01 with h48 | h49
        · have hd1 : ((f[i].toNat : Int) != 48) = false := by simp [h48]
          clear h48
          go_wp2_with fail
          go_roundw
          case rel => exact ⟨i + 1, by omega, by go_num, HI2, trivial⟩
          case measure => simp [intOf]; omega
        · have hd1 : ((f[i].toNat : Int) != 48) = true := by simp [h49]
          have hd2 : ((f[i].toNat : Int) != 49) = false := by simp [h49]
          clear h49
          go_wp2_with fail
          go_roundw
          case rel => exact ⟨i + 1, by omega, by go_num, HI2, trivial⟩
          case measure => simp [intOf]; omega
      · have hb1 : b01 f[i] = false := by simpa using hb0
        have HO : Hid (okT f.data.toList = false) := Lib.hid (by
          have h := all_take_bad (p := b01) hif hb1
          rw [okT, h, Bool.and_false])
        have h48 : ¬ (f[i].toNat : Int) = 48 := fun e => by simp [b01] at hb1; omega
        have h49 : ¬ (f[i].toNat : Int) = 49 := fun e => by simp [b01] at hb1; omega
        clear hb0 hb1
        have hd1 : ((f[i].toNat : Int) != 48) = true := by simpa using h48
        have hd2 : ((f[i].toNat : Int) != 49) = true := by simpa using h49
        clear h48 h49
        go_wp2_with fail
        go_ret
        exact ⟨by rw [HO.out]; rfl, rfl⟩
    · have HI2 := HI.out
      rw [List.take_of_length_le (by simp; omega)] at HI2
      have HO : Hid (decide (0 < inN f.size) = okT f.data.toList) := Lib.hid (by
        rw [okT, HI2, Array.length_toList, ByteArray.size_data]
        by_cases h : tin f.size = 0
        · simp [inN_no h, h]
        · simp [inN_yes h, h]; omega)
      go_wp2_with fail
      refine (l1Inputs_any _ _ (by omega)).mono ?_
      rintro e w' ⟨rfl, rfl⟩
      go_wp2_with fail
      go_ret
      exact ⟨by rw [← HO.out]; rfl, rfl⟩

end Go.Proofs.YtpehimjngofnkaaDoor
