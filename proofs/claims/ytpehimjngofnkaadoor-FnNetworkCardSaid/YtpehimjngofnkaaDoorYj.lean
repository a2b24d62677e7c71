/- Plain facts: texts of networks cut and joined, networks of a given step, networks turned. -/
import Derived.Test.YtpehimjngofnkaaDoorProg
import Derived.WalkKit
import Derived.Lib.Hide
import Derived.Test.YtpehimjngofnkaaDoorG4
import Derived.Test.YtpehimjngofnkaaDoorYa
import Derived.Test.YtpehimjngofnkaaDoorG3
namespace Go.Proofs.YtpehimjngofnkaaDoor
open Go.RowKit
set_option linter.unusedVariables false

theorem joinN_cons {p q : List UInt8} {r : List (List UInt8)} : joinN (p :: q :: r) = p ++ 44 :: joinN (q :: r) := by
  rw [joinN, joinN, Lib.join_cons, Lib.join_cons]
  simp [Lib.joinTail]
theorem joinN_single (p : List UInt8) : joinN [p] = p := Lib.join_one p [44]
/-- a text cut and joined again -/
theorem joinN_cut : ∀ (n : Nat) (s : List UInt8), s.length ≤ n → joinN (cutL s) = s
  | 0, s, h => by
    have : s = [] := List.length_eq_zero_iff.1 (by omega)
    subst this
    rw [cutL, joinN_single]
  | n + 1, s, h => by
    rcases cut_cases s with h1 | ⟨p, l, rfl, h1⟩
    · rw [cutL_end h1, joinN_single]
    · have ih := joinN_cut n l (by simp at h; omega)
      rw [cutL_comma l h1]
      cases hc : cutL l with
      | nil => exact absurd hc (cutL_ne l)
      | cons q r => rw [joinN_cons, ← hc, ih]
/-- parts joined and cut again -/
theorem cutL_join : ∀ (qs : List (List UInt8)), qs ≠ [] → (∀ p ∈ qs, ∀ c ∈ p, c ≠ 44) → cutL (joinN qs) = qs
  | [], h, _ => absurd rfl h
  | [p], _, h => by rw [joinN_single, cutL_end (h p (by simp))]
  | p :: q :: r, _, h => by rw [joinN_cons, cutL_comma _ (h p (by simp)), cutL_join (q :: r) (by simp) (fun x hx => h x (List.mem_cons_of_mem _ hx))]
theorem chr_ne : ∀ d, d < 2 → chr d ≠ 44 := by decide
theorem frS_ne44 {n : Nat} {f : Nat → Nat} : ∀ p ∈ frS n f, ∀ c ∈ p, c ≠ 44 := by
  intro p hp c hc
  simp only [frS, List.mem_map] at hp
  obtain ⟨k, _, rfl⟩ := hp
  simp only [txt, List.mem_map] at hc
  obtain ⟨s, _, rfl⟩ := hc
  exact chr_ne _ (bit_lt _ _)
theorem frS_cut {n : Nat} {f : Nat → Nat} (h1 : 1 ≤ n) : cutL (joinN (frS n f)) = frS n f :=
  cutL_join _ (fun e => by have := congrArg List.length e; rw [frS_length, List.length_nil] at this; omega) frS_ne44
theorem asm_congr {b c : Nat → Nat} : ∀ k, (∀ i, i < k → b i = c i) → asm b k = asm c k
  | 0, _ => rfl
  | k + 1, h => by rw [asm, asm, asm_congr k (fun i hi => h i (by omega)), h k (by omega)]
theorem asm_bits {x n : Nat} (h : x < 2 ^ n) : asm (bit x) n = x :=
  bit_ext (asm_lt (fun i => bit_lt x i) n) h fun i hi => bit_asm (fun i => bit_lt x i) i n hi
/-- the step of a network that was made of a step -/
theorem stp_frS {n : Nat} {f : Nat → Nat} {s : Nat} (hs : s < 2 ^ n) (hf : f s < 2 ^ n) : stp (frS n f) s = f s := by
  rw [stp, frS_length]
  refine (asm_congr n fun i hi => ?_).trans (asm_bits hf)
  have hi2 : i < (frS n f).length := by rw [frS_length]; exact hi
  rw [nb_at s hi2, frS_get n f hi]
  exact val_txt hs (bit_lt _ _)
theorem frS_congr {n : Nat} {f g : Nat → Nat} (h : ∀ s, s < 2 ^ n → f s = g s) : frS n f = frS n g := by
  unfold frS
  refine List.map_congr_left fun k _ => txt_congr fun s hs => by rw [h s hs]
/-- a network is made of its own step -/
theorem frS_stp {ps : List (List UInt8)} (h : okN ps = true) : frS ps.length (stp ps) = ps := by
  refine List.ext_getElem (frS_length _ _) fun i h1 h2 => ?_
  rw [frS_get _ _ h2]
  refine Eq.trans (txt_congr fun s hs => ?_) (txt_tv h rfl h2)
  rw [stp_bit h h2, nb_at s h2, tv, if_pos hs]
theorem xor_self_ (a b : Nat) : a ^^^ b ^^^ b = a := by rw [Nat.xor_assoc, Nat.xor_self, Nat.xor_zero]
/-- turned twice it is the network -/
theorem trn_twice {ps : List (List UInt8)} (h : okN ps = true) {m : Nat} (hm : m < 2 ^ ps.length) : frS ps.length (trnF (frS ps.length (trnF ps m)) m) = ps := by
  refine Eq.trans (frS_congr fun s hs => ?_) (frS_stp h)
  have hx : s ^^^ m < 2 ^ ps.length := Nat.xor_lt_two_pow hs hm
  rw [trnF, stp_frS hx (trnF_lt h hm _), trnF, xor_self_, xor_self_]
theorem sel_xor_le {p : Nat → Bool} {n m : Nat} (hm : m < 2 ^ n) : (sel (2 ^ n) fun s => p (s ^^^ m)).length ≤ (sel (2 ^ n) p).length := by
  have h1 : ((sel (2 ^ n) fun s => p (s ^^^ m)).map (· ^^^ m)).Nodup := by
    refine List.Pairwise.map _ (fun a b hab e => hab ?_) (sel_nodup _ _)
    have := congrArg (· ^^^ m) e
    simp only [xor_self_] at this
    exact this
  have := sel_ge (p := p) (N := 2 ^ n) h1 (fun x hx => by
    simp only [List.mem_map] at hx
    obtain ⟨y, hy, rfl⟩ := hx
    obtain ⟨h2, h3⟩ := sel_mem.1 hy
    exact ⟨Nat.xor_lt_two_pow h2 hm, h3⟩)
  rwa [List.length_map] at this
theorem sel_xor {p : Nat → Bool} {n m : Nat} (hm : m < 2 ^ n) : (sel (2 ^ n) fun s => p (s ^^^ m)).length = (sel (2 ^ n) p).length := by
  have h1 := sel_xor_le (p := p) hm
  have h2 := sel_xor_le (p := fun s => p (s ^^^ m)) hm
  have e : (fun s => (fun s => p (s ^^^ m)) (s ^^^ m)) = p := by funext s; simp only [xor_self_]
  rw [e] at h2
  omega
theorem sel_congr {N : Nat} {p q : Nat → Bool} (h : ∀ s, s < N → p s = q s) : sel N p = sel N q := by
  unfold sel
  exact List.filter_congr fun s hs => h s (List.mem_range.1 hs)
/-- a turned network has as many fixed points -/
theorem fix_trn {ps : List (List UInt8)} (h : okN ps = true) (h1 : 1 ≤ ps.length) {m : Nat} (hm : m < 2 ^ ps.length) : (fixN (frS ps.length (trnF ps m))).length = (fixN ps).length := by
  have hn5 := okN_le h
  have hf : okN (frS ps.length (trnF ps m)) = true := frS_ok h1 hn5
  rw [fixN_yes hf rfl, fixN_yes h rfl, frS_length, ← sel_xor (p := fixB ps) hm]
  congr 1
  refine sel_congr fun s hs => ?_
  rw [fixB, fixB, stp_frS hs (trnF_lt h hm s), trnF, Bool.eq_iff_iff, beq_iff_eq, beq_iff_eq]
  constructor
  · intro e
    have := congrArg (· ^^^ m) e
    simp only [xor_self_] at this
    exact this
  · intro e
    rw [e, xor_self_]

end Go.Proofs.YtpehimjngofnkaaDoor
