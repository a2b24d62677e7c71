/- Walks and plain facts, joined: Mv Mw Wq Y3 Yd Yh Yl Yt Q1 Q9 Yg Ya Yj Yn Wz Wi Yo Yu. -/
import Derived.Test.YtfkdameegljkeaaDoorG3
import Derived.Test.YtfkdameegljkeaaDoorProg
import Derived.WalkKit
import Derived.WalkSpells
import Derived.WalkLawsBesides
import Derived.Lib.Hide
import Derived.Deep.QuietTactic
import Derived.BigQuiet
import Derived.Test.YtfkdameegljkeaaDoorG2
import Derived.Test.YtfkdameegljkeaaDoorG1
import Derived.Deep.RegionHeld3
import Derived.Deep.LoopGhost
import Derived.Maps.Own
import Derived.Maps.OwnOps
import Derived.Maps.RangeWalk
import Derived.Carry
import Derived.Deep.RegionWith
import Derived.OwnWalk
/- Plain facts: orbits and cycles told as iterates of a step. -/
namespace Go.Proofs.YtfkdameegljkeaaDoor
open Go.RowKit

/-- the state after k steps -/
def itf (f : Nat → Nat) : Nat → Nat → Nat
  | 0, s => s
  | k + 1, s => itf f k (f s)
theorem itf_add (f : Nat → Nat) : ∀ j k s, itf f (j + k) s = itf f k (itf f j s)
  | 0, k, s => by rw [Nat.zero_add]; rfl
  | j + 1, k, s => by rw [show j + 1 + k = (j + k) + 1 by omega]; exact itf_add f j k (f s)
theorem itf_succ (f : Nat → Nat) (k s : Nat) : itf f (k + 1) s = f (itf f k s) := itf_add f k 1 s
theorem itf_lt {f : Nat → Nat} {N s : Nat} (hf : ∀ x, x < N → f x < N) (hs : s < N) : ∀ k, itf f k s < N
  | 0 => hs
  | k + 1 => by rw [itf_succ]; exact hf _ (itf_lt hf hs k)
/-- the first k states -/
def itl (f : Nat → Nat) (s k : Nat) : List Nat := (List.range k).map fun j => itf f j s
theorem itl_len (f : Nat → Nat) (s k : Nat) : (itl f s k).length = k := by simp [itl]
theorem itl_get (f : Nat → Nat) (s k j : Nat) (h : j < k) : (itl f s k)[j]'(by rw [itl_len]; exact h) = itf f j s := by simp [itl]
theorem itl_getD (f : Nat → Nat) (s k j : Nat) (h : j < k) : (itl f s k).getD j 0 = itf f j s := by
  rw [List.getD_eq_getElem?_getD, List.getElem?_eq_getElem (by rw [itl_len]; exact h), Option.getD_some, itl_get _ _ _ _ h]
theorem itl_mem {f : Nat → Nat} {s k x : Nat} : x ∈ itl f s k ↔ ∃ j, j < k ∧ itf f j s = x := by simp [itl]
theorem itl_succ (f : Nat → Nat) (s k : Nat) : itl f s (k + 1) = itl f s k ++ [itf f k s] := by simp [itl, List.range_succ]
theorem itl_add (f : Nat → Nat) (s a : Nat) : ∀ b, itl f s (a + b) = itl f s a ++ itl f (itf f a s) b
  | 0 => by simp [itl]
  | b + 1 => by rw [show a + (b + 1) = (a + b) + 1 by omega, itl_succ, itl_add f s a b, itl_succ, itf_add, List.append_assoc]
theorem itl_drop (f : Nat → Nat) (s a b : Nat) : (itl f s (a + b)).drop a = itl f (itf f a s) b := by
  rw [itl_add, List.drop_left' (itl_len _ _ _)]
theorem itl_take (f : Nat → Nat) (s a b : Nat) : (itl f s (a + b)).take a = itl f s a := by
  rw [itl_add, List.take_left' (itl_len _ _ _)]
theorem itl_inj {f : Nat → Nat} {s k i j : Nat} (h : (itl f s k).Nodup) (hi : i < k) (hj : j < k) (e : itf f i s = itf f j s) : i = j := by
  have h2 := List.pairwise_iff_getElem.1 h
  rcases Nat.lt_trichotomy i j with hlt | rfl | hlt
  · exact absurd (by rw [itl_get _ _ _ _ hi, itl_get _ _ _ _ hj]; exact e) (h2 i j (by rw [itl_len]; exact hi) (by rw [itl_len]; exact hj) hlt)
  · rfl
  · exact absurd (by rw [itl_get _ _ _ _ hi, itl_get _ _ _ _ hj]; exact e.symm) (h2 j i (by rw [itl_len]; exact hj) (by rw [itl_len]; exact hi) hlt)
theorem itl_nodup {f : Nat → Nat} {s k : Nat} (h : ∀ i j, i < j → j < k → itf f i s ≠ itf f j s) : (itl f s k).Nodup := by
  refine List.pairwise_iff_getElem.2 fun i j hi hj hij => ?_
  rw [itl_len] at hi hj
  rw [itl_get _ _ _ _ hi, itl_get _ _ _ _ hj]
  exact h i j hij hj
/-- an orbit: its states are the first L ones, and the next one is that at T -/
structure OrbF (f : Nat → Nat) (N s L T : Nat) : Prop where
  eq : orb f s = (itl f s L, T)
  lt : T < L
  le : L ≤ N
  nd : (itl f s L).Nodup
  rep : itf f L s = itf f T s
theorem orb_form {f : Nat → Nat} {N s : Nat} (hN : N ≤ 32) (hf : ∀ x, x < N → f x < N) (hs : s < N) : ∃ L T, OrbF f N s L T := by
  suffices h : ∀ k m, OrbI f N s (itl f s m) (itf f m s) → m + k = 33 → ∃ L T, OrbF f N s L T by
    exact h 33 0 (OrbI.start f hs) rfl
  intro k
  induction k with
  | zero => intro m h hk; have := h.len; rw [itl_len] at this; omega
  | succ k ih =>
    intro m h hk
    by_cases hm : itf f m s ∈ itl f s m
    · have hl := h.len
      rw [itl_len] at hl
      have hT : (itl f s m).idxOf (itf f m s) < (itl f s m).length := List.idxOf_lt_length_iff.2 hm
      have hT2 := hT
      rw [itl_len] at hT2
      have e := List.getElem_idxOf hT
      rw [itl_get _ _ _ _ hT2] at e
      exact ⟨m, (itl f s m).idxOf (itf f m s), h.fin hN hm, hT2, hl, h.nd, e.symm⟩
    · refine ih (m + 1) ?_ (by omega)
      have := h.more hN hf hm
      rw [itl_succ, itf_succ]
      exact this
theorem orb_uniq {f : Nat → Nat} {N s L T : Nat} (hN : N ≤ 32) (hf : ∀ x, x < N → f x < N) (hs : s < N) (hT : T < L) (hnd : (itl f s L).Nodup) (hr : itf f L s = itf f T s) : OrbF f N s L T := by
  obtain ⟨L', T', h⟩ := orb_form hN hf hs
  have hLL : L = L' := by
    rcases Nat.lt_trichotomy L L' with hlt | e | hlt
    · have := itl_inj h.nd hlt (Nat.lt_trans hT hlt) hr
      omega
    · exact e
    · have := itl_inj hnd hlt (Nat.lt_trans h.lt hlt) h.rep
      have := h.lt
      omega
  subst hLL
  have hTT : T = T' := itl_inj hnd hT h.lt (by rw [← hr, h.rep])
  subst hTT
  exact h
/-- the states of a round come again -/
theorem OrbF.per {f : Nat → Nat} {N s L T : Nat} (h : OrbF f N s L T) {j : Nat} (hj : T ≤ j) : itf f (j + (L - T)) s = itf f j s := by
  have hlt := h.lt
  rw [show j + (L - T) = L + (j - T) by omega, itf_add, h.rep, ← itf_add, show T + (j - T) = j by omega]
theorem itf_round {f : Nat → Nat} {p x : Nat} (h : itf f p x = x) : ∀ m, itf f (p * m) x = x
  | 0 => rfl
  | m + 1 => by rw [Nat.mul_succ, Nat.add_comm, itf_add, h, itf_round h m]
theorem itf_mod {f : Nat → Nat} {p x : Nat} (h : itf f p x = x) (k : Nat) : itf f k x = itf f (k % p) x := by
  have := Nat.div_add_mod k p
  rw [← this, itf_add, itf_round h, this]
/-- the place in the orbit after k steps -/
theorem OrbF.at_ {f : Nat → Nat} {N s L T : Nat} (h : OrbF f N s L T) (k : Nat) : (itl f s L).getD (if k < L then k else T + (k - T) % (L - T)) 0 = itf f k s := by
  have hlt := h.lt
  split
  · rename_i hk
    exact itl_getD _ _ _ _ hk
  · rename_i hk
    have hm : (k - T) % (L - T) < L - T := Nat.mod_lt _ (by omega)
    have hp : itf f (L - T) (itf f T s) = itf f T s := by rw [← itf_add]; exact h.per (Nat.le_refl _)
    rw [itl_getD _ _ _ _ (by omega), itf_add, ← itf_mod hp, ← itf_add, show T + (k - T) = k by omega]
/-- the orbit from a state of the round -/
theorem OrbF.on {f : Nat → Nat} {N s L T : Nat} (hN : N ≤ 32) (hf : ∀ x, x < N → f x < N) (hs : s < N) (h : OrbF f N s L T) {j : Nat} (hj : T ≤ j) : OrbF f N (itf f j s) (L - T) 0 := by
  have hlt := h.lt
  have hper : itf f (L - T) (itf f j s) = itf f j s := by rw [← itf_add]; exact h.per hj
  refine orb_uniq hN hf (itf_lt hf hs j) (by omega) (itl_nodup fun a b hab hb e => ?_) hper
  -- all states of the round would come again after b - a steps
  have hy : itf f (b - a) (itf f (j + a) s) = itf f (j + a) s := by
    rw [← itf_add, show j + a + (b - a) = j + b by omega, itf_add, itf_add, e]
  have hmul : ∀ m, itf f (T + (L - T) * m) s = itf f T s := fun m => by
    rw [itf_add]; exact itf_round (by rw [← itf_add]; exact h.per (Nat.le_refl _)) m
  have hge : j + a ≤ T + (L - T) * (j + a) := by
    have : 1 * (j + a) ≤ (L - T) * (j + a) := Nat.mul_le_mul_right _ (by omega)
    omega
  have hz : itf f (T + (b - a)) s = itf f T s := by
    have e1 : itf f T s = itf f (T + (L - T) * (j + a) - (j + a)) (itf f (j + a) s) := by
      rw [← itf_add, show j + a + (T + (L - T) * (j + a) - (j + a)) = T + (L - T) * (j + a) by omega, hmul]
    rw [itf_add, e1, ← itf_add _ _ (b - a), Nat.add_comm, itf_add _ (b - a), hy]
  have := itl_inj h.nd (show T + (b - a) < L by omega) h.lt hz
  omega
theorem minN_congr {a b : List Nat} (h : ∀ x, x ∈ a ↔ x ∈ b) (hne : a ≠ []) : minN a = minN b := by
  have h1 := minN_mem hne
  have hb : b ≠ [] := by intro e; subst e; have := (h _).1 h1; simp at this
  have h2 := minN_mem hb
  have h3 := minN_le ((h _).1 h1)
  have h4 := minN_le ((h _).2 h2)
  omega
theorem itl_ne {f : Nat → Nat} {s k : Nat} (h : 0 < k) : itl f s k ≠ [] := by
  intro e
  have := congrArg List.length e
  rw [itl_len, List.length_nil] at this
  omega
theorem itl_all {f : Nat → Nat} {p x z : Nat} (h : itf f p x = x) (h0 : 0 < p) : z ∈ itl f x p ↔ ∃ k, itf f k x = z := by
  rw [itl_mem]
  constructor
  · rintro ⟨j, _, e⟩; exact ⟨j, e⟩
  · rintro ⟨k, e⟩; exact ⟨k % p, Nat.mod_lt _ h0, by rw [← itf_mod h, e]⟩
/-- a state of the round leads around it -/
theorem itf_back {f : Nat → Nat} {p x i : Nat} (h : itf f p x = x) (h0 : 0 < p) : ∃ k, itf f k (itf f i x) = x := by
  refine ⟨p * i - i, ?_⟩
  have : 1 * i ≤ p * i := Nat.mul_le_mul_right _ h0
  rw [← itf_add, show i + (p * i - i) = p * i by omega, itf_round h]
theorem itl_same {f : Nat → Nat} {p x i : Nat} (h : itf f p x = x) (h0 : 0 < p) : ∀ z, z ∈ itl f (itf f i x) p ↔ z ∈ itl f x p := by
  intro z
  have h2 : itf f p (itf f i x) = itf f i x := by rw [← itf_add, Nat.add_comm, itf_add, h]
  rw [itl_all h h0, itl_all h2 h0]
  constructor
  · rintro ⟨k, e⟩; exact ⟨i + k, by rw [itf_add]; exact e⟩
  · rintro ⟨k, e⟩
    obtain ⟨m, hm⟩ := itf_back (i := i) h h0
    exact ⟨m + k, by rw [itf_add, hm]; exact e⟩
/-- a round turned so that its least state comes first -/
theorem rot_itl {f : Nat → Nat} {p x : Nat} (h : itf f p x = x) (h0 : 0 < p) : rot (itl f x p) = itl f (minN (itl f x p)) p ∧ ∃ i, i < p ∧ itf f i x = minN (itl f x p) := by
  have hne := itl_ne (f := f) (s := x) h0
  have hk := mni_lt hne
  have hg := mni_get hne
  rw [itl_len] at hk
  rw [itl_get _ _ _ _ hk] at hg
  refine ⟨?_, _, hk, hg⟩
  obtain ⟨i, hi⟩ : ∃ i, i = mni (itl f x p) := ⟨_, rfl⟩
  rw [← hg, rot, ← hi]
  rw [← hi] at hk
  have h1 := itl_drop f x i (p - i)
  have h2 := itl_take f x i (p - i)
  have h3 := itl_add f (itf f i x) (p - i) i
  rw [show i + (p - i) = p by omega] at h1 h2
  rw [show p - i + i = p by omega, ← itf_add, show i + (p - i) = p by omega, h] at h3
  rw [h1, h2, h3]
theorem OrbF.rnd_ {f : Nat → Nat} {N s L T : Nat} (h : OrbF f N s L T) : rnd f s = itl f (itf f T s) (L - T) := by
  have hlt := h.lt
  rw [rnd, h.eq]
  show (itl f s L).drop T = _
  have := itl_drop f s T (L - T)
  rwa [show T + (L - T) = L by omega] at this
section
variable {f : Nat → Nat} {N s : Nat} (hN : N ≤ 32) (hf : ∀ x, x < N → f x < N) (hs : s < N)
include hN hf hs
/-- the cycle from its least state on -/
theorem OrbF.cyc_ {L T : Nat} (h : OrbF f N s L T) : cyc f s = itl f (cy0 f s) (L - T) ∧ OrbF f N (cy0 f s) (L - T) 0 ∧ ∃ j, itf f j s = cy0 f s := by
  have hlt := h.lt
  have hp : itf f (L - T) (itf f T s) = itf f T s := by rw [← itf_add]; exact h.per (Nat.le_refl _)
  obtain ⟨h1, i, hi, h2⟩ := rot_itl hp (by omega)
  have hr := h.rnd_
  rw [cyc, cy0, hr]
  refine ⟨h1, ?_, T + i, by rw [itf_add, h2]⟩
  have := h.on hN hf hs (show T ≤ T + i by omega)
  rwa [itf_add, h2] at this
theorem OrbF.cy0_on {L T j : Nat} (h : OrbF f N s L T) (hj : T ≤ j) : cy0 f (itf f j s) = cy0 f s := by
  have hlt := h.lt
  have hp : itf f (L - T) (itf f T s) = itf f T s := by rw [← itf_add]; exact h.per (Nat.le_refl _)
  have h2 := h.on hN hf hs hj
  rw [cy0, cy0, h.rnd_, h2.rnd_]
  show minN (itl f (itf f j s) (L - T)) = _
  refine minN_congr ?_ (itl_ne (by omega))
  have e : itf f j s = itf f (j - T) (itf f T s) := by rw [← itf_add, show T + (j - T) = j by omega]
  rw [e]
  exact itl_same hp (by omega)
theorem cy0_step : cy0 f (f s) = cy0 f s := by
  obtain ⟨L, T, h⟩ := orb_form hN hf hs
  obtain ⟨L', T', h'⟩ := orb_form hN hf (hf s hs)
  have h1 := h.cy0_on hN hf hs (show T ≤ (T + T') + 1 by omega)
  have h2 := h'.cy0_on hN hf (hf s hs) (show T' ≤ T + T' by omega)
  rw [← h1, ← h2]
  rfl
end
theorem cy0_itf {f : Nat → Nat} {N : Nat} (hN : N ≤ 32) (hf : ∀ x, x < N → f x < N) : ∀ (k s : Nat), s < N → cy0 f (itf f k s) = cy0 f s
  | 0, _, _ => rfl
  | k + 1, s, hs => by
    show cy0 f (itf f k (f s)) = _
    rw [cy0_itf hN hf k (f s) (hf s hs), cy0_step hN hf hs]
theorem cyc_same {f : Nat → Nat} {N s x : Nat} (hN : N ≤ 32) (hf : ∀ x, x < N → f x < N) (hs : s < N) (hx : x < N) (h : cy0 f x = cy0 f s) : cyc f x = cyc f s := by
  obtain ⟨L, T, h1⟩ := orb_form hN hf hs
  obtain ⟨L', T', h2⟩ := orb_form hN hf hx
  obtain ⟨e1, g1, _⟩ := h1.cyc_ hN hf hs
  obtain ⟨e2, g2, _⟩ := h2.cyc_ hN hf hx
  have k1 := g1.eq
  have k2 := g2.eq
  rw [h] at k2
  rw [k1] at k2
  rw [e1, e2, h]
  exact (congrArg Prod.fst k2).symm
/-- all that is told of a cycle -/
structure CycF (f : Nat → Nat) (N s : Nat) (l : List Nat) (p : Nat) : Prop where
  eq : cyc f s = l
  len : l.length = p
  pos : 0 < p
  le : p ≤ N
  lt : ∀ i, i < p → l.getD i 0 < N
  nx : ∀ i, i < p → f (l.getD i 0) = l.getD ((i + 1) % p) 0
  least : ∀ i, i < p → l.getD 0 0 ≤ l.getD i 0
  tail : ∀ i, i < p → (orb f (l.getD i 0)).2 = 0
  same : ∀ i, i < p → cyc f (l.getD i 0) = l
  step : cyc f (f s) = l
  per : p = (orb f s).1.length - (orb f s).2
  nd : l.Nodup
  base : ∀ i, i < p → cy0 f (l.getD i 0) = cy0 f s
theorem cyc_all {f : Nat → Nat} {N s : Nat} (hN : N ≤ 32) (hf : ∀ x, x < N → f x < N) (hs : s < N) : ∃ p, CycF f N s (cyc f s) p := by
  obtain ⟨L, T, h⟩ := orb_form hN hf hs
  obtain ⟨e, g, j, hj⟩ := h.cyc_ hN hf hs
  have hlt := h.lt
  have hle := h.le
  have hm : cy0 f s < N := by rw [← hj]; exact itf_lt hf hs j
  have hp : itf f (L - T) (cy0 f s) = cy0 f s := g.rep
  have hg : ∀ i, i < L - T → (cyc f s).getD i 0 = itf f i (cy0 f s) := fun i hi => by rw [e, itl_getD _ _ _ _ hi]
  have hb : ∀ k, cy0 f (itf f k (cy0 f s)) = cy0 f s := fun k => by
    have h5 := cy0_itf hN hf j s hs
    rw [hj] at h5
    rw [cy0_itf hN hf k _ hm, h5]
  refine ⟨L - T, rfl, by rw [e, itl_len], by omega, by omega, fun i hi => by rw [hg i hi]; exact itf_lt hf hm i, fun i hi => ?_, fun i hi => ?_, fun i hi => ?_, fun i hi => ?_, ?_, ?_, ?_, fun i hi => by rw [hg i hi, hb]⟩
  · rw [hg i hi, hg _ (Nat.mod_lt _ (by omega)), ← itf_mod hp]
    exact (itf_succ f i _).symm
  · rw [hg i hi, hg 0 (by omega)]
    show cy0 f s ≤ _
    have h4 : minN (rnd f (itf f i (cy0 f s))) = cy0 f s := hb i
    have h2 := g.on hN hf hm (Nat.zero_le i)
    have h5 : itf f i (cy0 f s) ∈ rnd f (itf f i (cy0 f s)) := by
      rw [h2.rnd_]
      exact itl_mem.2 ⟨0, by omega, rfl⟩
    have h6 := minN_le h5
    omega
  · rw [hg i hi, (g.on hN hf hm (Nat.zero_le i)).eq]
  · rw [hg i hi]
    exact cyc_same hN hf hs (itf_lt hf hm i) (hb i)
  · exact cyc_same hN hf hs (hf s hs) (cy0_step hN hf hs)
  · rw [h.eq, itl_len]
  · rw [e]; exact g.nd
theorem nodup_erase_lt {N : Nat} {l : List Nat} (h : l.Nodup) (hl : ∀ x ∈ l, x < N + 1) : ∀ x ∈ l.erase N, x < N ∧ x ∈ l := by
  intro x hx
  have h2 := (List.Nodup.mem_erase_iff h).1 hx
  have := hl x h2.2
  exact ⟨by omega, h2.2⟩

end Go.Proofs.YtfkdameegljkeaaDoor

/- Plain facts: counting. -/
namespace Go.Proofs.YtfkdameegljkeaaDoor
open Go.RowKit

/-- different numbers below N with a property are no more than all such numbers -/
theorem sel_ge {p : Nat → Bool} : ∀ {N : Nat} {l : List Nat}, l.Nodup → (∀ x ∈ l, x < N ∧ p x = true) → l.length ≤ (sel N p).length
  | 0, l, _, hl => by
    cases l with
    | nil => simp
    | cons a l => have := (hl a (by simp)).1; omega
  | N + 1, l, h, hl => by
    have h1 := sel_ge (p := p) (N := N) (l := l.erase N) (h.erase N) (fun x hx => by
      have h2 := nodup_erase_lt h (fun y hy => (hl y hy).1) x hx
      exact ⟨h2.1, (hl x h2.2).2⟩)
    rw [List.length_erase] at h1
    by_cases hm : N ∈ l
    · have hp := (hl N hm).2
      rw [if_pos hm] at h1
      rw [sel_yes hp, List.length_append, List.length_singleton]
      omega
    · rw [if_neg hm] at h1
      by_cases hp : p N = true
      · rw [sel_yes hp, List.length_append]; omega
      · rw [sel_no (by simpa using hp)]; exact h1
def sumTo (g : Nat → Nat) : Nat → Nat
  | 0 => 0
  | k + 1 => sumTo g k + g k
theorem sumTo_add (g h : Nat → Nat) : ∀ k, sumTo (fun x => g x + h x) k = sumTo g k + sumTo h k
  | 0 => rfl
  | k + 1 => by simp only [sumTo]; rw [sumTo_add g h k]; omega
theorem sumTo_congr {g h : Nat → Nat} : ∀ k, (∀ x, x < k → g x = h x) → sumTo g k = sumTo h k
  | 0, _ => rfl
  | k + 1, e => by simp only [sumTo]; rw [sumTo_congr k (fun x hx => e x (by omega)), e k (by omega)]
theorem sumTo_one (v : Nat) : ∀ N, sumTo (fun k => if v = k then 1 else 0) N = if v < N then 1 else 0
  | 0 => rfl
  | N + 1 => by
    simp only [sumTo]
    rw [sumTo_one v N]
    split <;> split <;> split <;> omega
theorem sumTo_zero : ∀ N, sumTo (fun _ => 0) N = 0
  | 0 => rfl
  | N + 1 => by simp only [sumTo]; rw [sumTo_zero N]
theorem sumTo_le {g : Nat → Nat} {c : Nat} : ∀ k, (∀ x, x < k → g x ≤ c) → sumTo g k ≤ c * k
  | 0, _ => by simp [sumTo]
  | k + 1, h => by
    have := sumTo_le k (fun x hx => h x (by omega))
    have := h k (by omega)
    rw [sumTo, Nat.mul_succ]; omega
/-- each number is before one -/
theorem sum_sel {f : Nat → Nat} {N : Nat} : ∀ M, (∀ x, x < M → f x < N) → sumTo (fun k => (sel M (fun x => f x == k)).length) N = M
  | 0, _ => by
    have : (fun k => (sel 0 (fun x => f x == k)).length) = fun _ => 0 := rfl
    rw [this, sumTo_zero]
  | M + 1, h => by
    have ih := sum_sel M (fun x hx => h x (by omega))
    have e : (fun k => (sel (M + 1) (fun x => f x == k)).length) = fun k => (sel M (fun x => f x == k)).length + (if f M = k then 1 else 0) := by
      funext k
      by_cases hk : f M = k
      · rw [sel_yes (by simpa using hk), List.length_append, if_pos hk]; rfl
      · rw [sel_no (by simpa using hk), if_neg hk]; rfl
    rw [e, sumTo_add, ih, sumTo_one, if_pos (h M (by omega))]
theorem sel_mem {N : Nat} {p : Nat → Bool} {x : Nat} : x ∈ sel N p ↔ x < N ∧ p x = true := by simp [sel]
theorem sel_nodup (N : Nat) (p : Nat → Bool) : (sel N p).Nodup := List.Pairwise.filter _ List.nodup_range
theorem sel_asc : ∀ (N : Nat) (p : Nat → Bool) (i j : Nat) (hi : i < (sel N p).length) (hj : j < (sel N p).length), i < j → (sel N p)[i] < (sel N p)[j]
  | 0, p, i, j, hi, _, _ => by simp [sel] at hi
  | N + 1, p, i, j, hi, hj, hij => by
    have h2 : ((List.range (N + 1)).filter p).Pairwise (· < ·) := List.Pairwise.filter _ List.pairwise_lt_range
    exact List.pairwise_iff_getElem.1 h2 i j hi hj hij
/-- a state of the round has one before it -/
theorem OrbF.before {f : Nat → Nat} {N s L : Nat} (h : OrbF f N s L 0) : ∃ j, f (itf f j s) = s ∧ j < L := by
  have hlt := h.lt
  refine ⟨L - 1, ?_, by omega⟩
  rw [← itf_succ f, show L - 1 + 1 = L by omega, h.rep]
  rfl
end Go.Proofs.YtfkdameegljkeaaDoor

/- Walks of the functions that tell of orbits and of next states. Printed by wip/mkq.py. -/
namespace Go.Proofs.YtfkdameegljkeaaDoor
open Go.RowKit

def tailN (ps : List (List UInt8)) (t : Int) : Int := if okSt ps t then ((orb (stp ps) t.toNat).2 : Int) else -1
theorem tailN_yes {ps : List (List UInt8)} {t : Nat} (h : okSt ps t = true) : tailN ps t = ((orb (stp ps) t).2 : Int) := if_pos h
theorem tailN_no {ps : List (List UInt8)} {t : Int} (h : okSt ps t = false) : tailN ps t = -1 := by rw [tailN, h]; rfl
def perN (ps : List (List UInt8)) (t : Int) : Int := if okSt ps t then ((orb (stp ps) t.toNat).1.length : Int) - ((orb (stp ps) t.toNat).2 : Int) else -1
theorem perN_yes {ps : List (List UInt8)} {t : Nat} (h : okSt ps t = true) : perN ps t = ((orb (stp ps) t).1.length : Int) - ((orb (stp ps) t).2 : Int) := if_pos h
theorem perN_no {ps : List (List UInt8)} {t : Int} (h : okSt ps t = false) : perN ps t = -1 := by rw [perN, h]; rfl
def orbN (ps : List (List UInt8)) (t : Int) : List Int := if okSt ps t then ints (orb (stp ps) t.toNat).1 else []
theorem orbN_yes {ps : List (List UInt8)} {t : Nat} (h : okSt ps t = true) : orbN ps t = ints (orb (stp ps) t).1 := if_pos h
theorem orbN_no {ps : List (List UInt8)} {t : Int} (h : okSt ps t = false) : orbN ps t = [] := by rw [orbN, h]; rfl
def nxtN (ps : List (List UInt8)) (t : Int) : List Int := if okSt ps t then ints (nextN ps t.toNat) else []
theorem nxtN_yes {ps : List (List UInt8)} {t : Nat} (h : okSt ps t = true) : nxtN ps t = ints (nextN ps t) := if_pos h
theorem nxtN_no {ps : List (List UInt8)} {t : Int} (h : okSt ps t = false) : nxtN ps t = [] := by rw [nxtN, h]; rfl
theorem nxtN_len (ps : List (List UInt8)) (t : Int) : (nxtN ps t).length ≤ 1048576 := by
  by_cases h : okSt ps t = true
  · obtain ⟨hok, s, rfl, _⟩ := okSt_true h
    rw [nxtN_yes h, ints_length]
    have := nextN_len hok s
    omega
  · rw [nxtN_no (by simpa using h)]; simp
theorem orbN_len (ps : List (List UInt8)) (t : Int) : (orbN ps t).length ≤ 1048576 := by
  by_cases h : okSt ps t = true
  · obtain ⟨hok, s, rfl, hs⟩ := okSt_true h
    rw [orbN_yes h, ints_length]
    have h32 := two_le _ (okN_le hok)
    have := (orb_all (f := stp ps) (N := 2 ^ ps.length) h32 (fun x _ => stp_lt hok x) hs).1
    omega
  · rw [orbN_no (by simpa using h)]; simp
/-- the place in the orbit after k steps -/
def aftI (o : List Nat × Nat) (k : Nat) : Nat := if k < o.1.length then k else o.2 + (k - o.2) % (o.1.length - o.2)
def aftN (ps : List (List UInt8)) (t k : Int) : Int := if okSt ps t && decide (0 ≤ k) then ((orb (stp ps) t.toNat).1.getD (aftI (orb (stp ps) t.toNat) k.toNat) 0 : Int) else -1
theorem aftN_yes {ps : List (List UInt8)} {t k : Nat} (h : okSt ps t = true) : aftN ps t k = ((orb (stp ps) t).1.getD (aftI (orb (stp ps) t) k) 0 : Int) := by
  rw [aftN, h, decide_eq_true (by omega)]; rfl
theorem aftN_no {ps : List (List UInt8)} {t k : Int} (h : okSt ps t = false) : aftN ps t k = -1 := by rw [aftN, h]; rfl
theorem aftN_neg {ps : List (List UInt8)} {t k : Int} (h : ¬ 0 ≤ k) : aftN ps t k = -1 := by rw [aftN, decide_eq_false h, Bool.and_false]; rfl
theorem aftI_lt {o : List Nat × Nat} {k : Nat} (h : o.2 < o.1.length) : aftI o k < o.1.length := by
  unfold aftI
  split
  · assumption
  · have : (k - o.2) % (o.1.length - o.2) < o.1.length - o.2 := Nat.mod_lt _ (by omega)
    omega

/-- the greatest number of states ahead of a cycle, of the orbits from the first k states -/
def lonTo (ps : List (List UInt8)) : Nat → Nat
  | 0 => 0
  | k + 1 => max (lonTo ps k) (orb (stp ps) k).2
theorem lonTo_le {ps : List (List UInt8)} (h : okN ps = true) : ∀ k, k ≤ 2 ^ ps.length → lonTo ps k ≤ 32
  | 0, _ => by simp [lonTo]
  | k + 1, hk => by
    have := lonTo_le h k (by omega)
    have h32 := two_le _ (okN_le h)
    have h2 := orb_all (f := stp ps) (N := 2 ^ ps.length) h32 (fun x _ => stp_lt h x) (show k < 2 ^ ps.length by omega)
    rw [lonTo]; omega
def lonN (ps : List (List UInt8)) : Int := if okN ps then (lonTo ps (2 ^ ps.length) : Int) else -1
theorem lonN_yes {ps : List (List UInt8)} {N : Nat} (h : okN ps = true) (hN : N = 2 ^ ps.length) : lonN ps = (lonTo ps N : Int) := by rw [lonN, if_pos h, hN]
theorem lonN_no {ps : List (List UInt8)} (h : okN ps = false) : lonN ps = -1 := by rw [lonN, h]; rfl
end Go.Proofs.YtfkdameegljkeaaDoor

/- Walks of CycleOf and BasinOf. Printed by wip/mky.py. -/
namespace Go.Proofs.YtfkdameegljkeaaDoor
open Go.RowKit
set_option linter.unusedVariables false

theorem stp_lt32 {ps : List (List UInt8)} {N : Nat} (h : okN ps = true) (hN : N = 2 ^ ps.length) : N ≤ 32 ∧ ∀ x, x < N → stp ps x < N := ⟨by rw [hN]; exact two_le _ (okN_le h), fun x _ => by rw [hN]; exact stp_lt h x⟩
def cycN (ps : List (List UInt8)) (t : Int) : List Int := if okSt ps t then ints (cyc (stp ps) t.toNat) else []
theorem cycN_yes {ps : List (List UInt8)} {t : Nat} (h : okSt ps t = true) : cycN ps t = ints (cyc (stp ps) t) := if_pos h
theorem cycN_no {ps : List (List UInt8)} {t : Int} (h : okSt ps t = false) : cycN ps t = [] := by rw [cycN, h]; rfl
theorem cycN_len (ps : List (List UInt8)) (t : Int) : (cycN ps t).length ≤ 1048576 := by
  by_cases h : okSt ps t = true
  · obtain ⟨hok, s, rfl, hs⟩ := okSt_true h
    rw [cycN_yes h, ints_length]
    have hf := stp_lt32 hok rfl
    have := (cyc_len hf.1 hf.2 hs).1
    omega
  · rw [cycN_no (by simpa using h)]; simp
def basN (ps : List (List UInt8)) (t : Int) : List Int := if okSt ps t then ints (sel (2 ^ ps.length) fun k => cy0 (stp ps) k == cy0 (stp ps) t.toNat) else []
theorem basN_yes {ps : List (List UInt8)} {t N : Nat} (h : okSt ps t = true) (hN : N = 2 ^ ps.length) : basN ps t = ints (sel N fun k => cy0 (stp ps) k == cy0 (stp ps) t) := by rw [basN, if_pos h, hN]; rfl
theorem basN_no {ps : List (List UInt8)} {t : Int} (h : okSt ps t = false) : basN ps t = [] := by rw [basN, h]; rfl
theorem basN_len (ps : List (List UInt8)) (t : Int) : (basN ps t).length ≤ 1048576 := by
  by_cases h : okSt ps t = true
  · obtain ⟨hok, s, rfl, hs⟩ := okSt_true h
    rw [basN_yes h rfl, ints_length]
    have := sel_len (2 ^ ps.length) fun k => cy0 (stp ps) k == cy0 (stp ps) s
    have h32 := two_le _ (okN_le hok)
    omega
  · rw [basN_no (by simpa using h)]; simp
/-- the address A does not lie in v's own block -/
def OffB (v : Value) (A : Option Addr) : Prop := ∀ a, A = some a → v.ownBlock ≠ some a.block
theorem offB_own {w : World} {B g n c : Nat} {A : Option Addr} {vs : List Value} (h : Own w B A vs) (hg : g < B) : OffB (.slice (some ⟨g, 0, none⟩) n c) A ∨ vs = [] := by
  rcases h with h | ⟨g2, off, hA, hB, _⟩
  · exact .inr h
  · left
    intro a ha
    rw [hA] at ha
    injection ha with ha
    subst ha
    simp only [Value.ownBlock, ne_eq, Option.some.injEq]
    omega
theorem offB_push {w w' : World} {v v' : Value} {A : Option Addr} {vs : List Value} (h : Rd w A vs) (ho : OffB v A) (hf : ∀ g, g < w.heap.size → v.ownBlock ≠ some g → w'.heap[g]? = w.heap[g]? ∧ v'.ownBlock ≠ some g) (hne : vs ≠ []) : Rd w' A vs ∧ OffB v' A := by
  rcases h with h | ⟨g, off, hA, hc⟩
  · exact absurd h hne
  · have hlt : g < w.heap.size := by
      cases vs with
      | nil => exact absurd rfl hne
      | cons x l => exact World.block_lt_of_cell? w _ (hc 0 x rfl)
    have h2 := hf g hlt (ho _ hA)
    refine ⟨.inr ⟨g, off, hA, fun j v hj => (World.cell?_of_block (w := w) (a := ⟨g, off + j, none⟩) h2.1).trans (hc j v hj)⟩, fun a ha => ?_⟩
    rw [hA] at ha
    injection ha with ha
    subst ha
    exact h2.2
/-- the first of a cycle's cells -/
theorem cyc_cell {ps : List (List UInt8)} {N s : Nat} (h : okN ps = true) (hN : N = 2 ^ ps.length) (hs : s < N) : ((ints (cyc (stp ps) s)).map (Value.int .i64))[0]? = some (.int .i64 (cy0 (stp ps) s : Int)) ∧ 0 < (ints (cyc (stp ps) s)).length := by
  have hf := stp_lt32 h hN
  obtain ⟨l, e⟩ := cyc_head hf.1 hf.2 hs
  rw [e]
  exact ⟨rfl, by simp [ints]⟩

end Go.Proofs.YtfkdameegljkeaaDoor

/- The walk of the law FnFixedPoints. -/
namespace Go.Proofs.YtfkdameegljkeaaDoor
open Go.RowKit
set_option linter.unusedVariables false

theorem sel_pre {p : Nat → Bool} {k : Nat} : ∀ N, k ≤ N → ∃ r, sel N p = sel k p ++ r := by
  intro N
  induction N with
  | zero => intro h; exact ⟨[], by rw [show k = 0 by omega]; simp⟩
  | succ N ih =>
    intro h
    by_cases hk : k = N + 1
    · exact ⟨[], by rw [hk]; simp⟩
    · obtain ⟨r, hr⟩ := ih (by omega)
      by_cases hp : p N = true
      · exact ⟨r ++ [N], by rw [sel_yes hp, hr, List.append_assoc]⟩
      · exact ⟨r, by rw [sel_no (by simpa using hp), hr]⟩
theorem sel_at {p : Nat → Bool} {k N : Nat} (hk : k < N) (hp : p k = true) : (ints (sel N p))[(sel k p).length]? = some (k : Int) ∧ (sel k p).length < (ints (sel N p)).length := by
  obtain ⟨r, hr⟩ := sel_pre (p := p) (k := k + 1) N hk
  rw [sel_yes hp] at hr
  constructor
  · rw [hr, ints, List.getElem?_map, List.append_assoc, List.getElem?_append_right (Nat.le_refl _)]
    simp
  · rw [ints_length, hr]; simp
theorem rsA_k {ps : List (List UInt8)} {k : Nat} (h : okSt ps (k : Int) = true) : rsA ps (k : Int) = ((stp ps k ^^^ k : Nat) : Int) := by rw [rsA, if_pos h]; rfl
theorem stA_k {ps : List (List UInt8)} {k : Nat} (h : okSt ps (k : Int) = true) : stA ps (k : Int) = (stp ps k : Int) := by rw [stA, if_pos h]; rfl

theorem xor_ne : ∀ a, a < 32 → ∀ b, b < 32 → a ^^^ b = 0 → a = b := by decide +kernel
end Go.Proofs.YtfkdameegljkeaaDoor

/- Plain facts for the laws: orbits, cycles, next states of a network. -/
namespace Go.Proofs.YtfkdameegljkeaaDoor
open Go.RowKit
set_option linter.unusedVariables false

/-- what is known of a network with a state -/
theorem st_open {ps : List (List UInt8)} {t : Int} (h : okSt ps t = true) : Hid (okN ps = true) ∧ ∃ N s : Nat, t = (s : Int) ∧ Hid (N = 2 ^ ps.length) ∧ N ≤ 32 ∧ 0 < N ∧ s < N ∧ Hid (∀ x, x < N → okSt ps (x : Int) = true) ∧ ∀ x, x < N → stp ps x < N := by
  obtain ⟨hok, s, rfl, hs⟩ := okSt_true h
  obtain ⟨N, HN⟩ : ∃ N : Nat, N = 2 ^ ps.length := ⟨_, rfl⟩
  refine ⟨hok, N, s, rfl, HN, by rw [HN]; exact two_le _ (okN_le hok), by rw [HN]; exact Nat.two_pow_pos _, by rw [HN]; exact hs, Lib.hid fun x hx => ?_, fun x _ => by rw [HN]; exact stp_lt hok x⟩
  rw [okSt_of hok HN]; simp; omega
theorem itl_int {f : Nat → Nat} {s k i : Nat} (h : i < k) : (ints (itl f s k))[i]? = some ((itf f i s : Nat) : Int) := by
  rw [ints, List.getElem?_map, List.getElem?_eq_getElem (by rw [itl_len]; exact h), itl_get _ _ _ _ h]; rfl
theorem lonTo_ge {ps : List (List UInt8)} {k : Nat} : ∀ N, k < N → (orb (stp ps) k).2 ≤ lonTo ps N
  | 0, h => by omega
  | N + 1, h => by
    rw [lonTo]
    by_cases e : k = N
    · subst e; omega
    · have := lonTo_ge (ps := ps) (k := k) N (by omega); omega
theorem aft_itf {ps : List (List UInt8)} {N x k : Nat} (hN : N ≤ 32) (hf : ∀ x, x < N → stp ps x < N) (hx : x < N) (h : okSt ps (x : Int) = true) : aftN ps (x : Int) (k : Int) = ((itf (stp ps) k x : Nat) : Int) := by
  obtain ⟨L, T, hF⟩ := orb_form hN hf hx
  rw [aftN_yes h, hF.eq]
  have := hF.at_ k
  unfold aftI
  rw [itl_len]
  show (((itl (stp ps) x L).getD (if k < L then k else T + (k - T) % (L - T)) 0 : Nat) : Int) = _
  rw [this]
/-! steps of one switch -/
theorem hold_casesB : ∀ s, s < 32 → ∀ i, i < 5 → ∀ v, v < 2 → (if v == bit s i then holdN s i v == s else (holdN s i v == s ^^^ 2 ^ i) && !(holdN s i v == s)) = true := by decide +kernel
theorem hold_cases (s : Nat) (hs : s < 32) (i : Nat) (hi : i < 5) (v : Nat) (hv : v < 2) : (v = bit s i → holdN s i v = s) ∧ (v ≠ bit s i → holdN s i v = s ^^^ 2 ^ i ∧ holdN s i v ≠ s) := by
  have h := hold_casesB s hs i hi v hv
  by_cases e : v = bit s i
  · rw [if_pos (by simpa using e)] at h
    exact ⟨fun _ => by simpa using h, fun hne => absurd e hne⟩
  · rw [if_neg (by simpa using e)] at h
    exact ⟨fun he => absurd he e, fun _ => by simpa using h⟩
theorem xor_bit : ∀ a, a < 32 → ∀ b, b < 32 → ∀ i, i < 5 → bit (a ^^^ b) i = if bit a i = bit b i then 0 else 1 := by decide +kernel
theorem stp_bit {ps : List (List UInt8)} (h : okN ps = true) {s i : Nat} (hi : i < ps.length) : bit (stp ps s) i = nb ps s i := bit_asm (nb_lt h s) i _ hi
/-- the restless switches are those whose own steps change the state -/
theorem rst_bit {ps : List (List UInt8)} (h : okN ps = true) {s i : Nat} (hs : s < 2 ^ ps.length) (hi : i < ps.length) :
    (stp1 ps s i = s → bit (stp ps s ^^^ s) i = 0) ∧ (stp1 ps s i ≠ s → bit (stp ps s ^^^ s) i = 1 ∧ stp1 ps s i = s ^^^ 2 ^ i) := by
  have h32 := two_le _ (okN_le h)
  have hn5 := okN_le h
  have h1 := xor_bit (stp ps s) (Nat.lt_of_lt_of_le (stp_lt h s) h32) s (Nat.lt_of_lt_of_le hs h32) i (by omega)
  have h2 := hold_cases s (Nat.lt_of_lt_of_le hs h32) i (by omega) (nb ps s i) (nb_lt h s i)
  rw [stp_bit h hi] at h1
  rw [stp1]
  by_cases e : nb ps s i = bit s i
  · rw [if_pos e] at h1
    exact ⟨fun _ => h1, fun hne => absurd (h2.1 e) hne⟩
  · rw [if_neg e] at h1
    exact ⟨fun he => absurd he (h2.2 e).2, fun _ => ⟨h1, (h2.2 e).1⟩⟩
theorem nextTo_pre {ps : List (List UInt8)} {s k : Nat} : ∀ n, k ≤ n → ∃ r, nextTo ps s n = nextTo ps s k ++ r := by
  intro n
  induction n with
  | zero => intro h; exact ⟨[], by rw [show k = 0 by omega]; simp⟩
  | succ n ih =>
    intro h
    by_cases hk : k = n + 1
    · exact ⟨[], by rw [hk]; simp⟩
    · obtain ⟨r, hr⟩ := ih (by omega)
      rw [nextTo]
      split
      · exact ⟨r, hr⟩
      · exact ⟨r ++ [stp1 ps s n], by rw [hr, List.append_assoc]⟩
theorem nextTo_at {ps : List (List UInt8)} {s i : Nat} (hi : i < ps.length) (h : stp1 ps s i ≠ s) : (ints (nextN ps s))[(nextTo ps s i).length]? = some ((stp1 ps s i : Nat) : Int) ∧ (nextTo ps s i).length < (ints (nextN ps s)).length := by
  obtain ⟨r, hr⟩ := nextTo_pre (ps := ps) (s := s) (k := i + 1) ps.length hi
  rw [nextTo, if_neg h] at hr
  constructor
  · rw [nextN, hr, ints, List.getElem?_map, List.append_assoc, List.getElem?_append_right (Nat.le_refl _)]
    simp
  · rw [nextN, ints_length, hr]; simp
/-! sets of states as numbers -/
def maskT (xs : List Nat) : Nat → Nat
  | 0 => 0
  | k + 1 => maskT xs k ||| 2 ^ xs.getD k 0
theorem maskT_lt {xs : List Nat} (h : ∀ i, xs.getD i 0 < 32) : ∀ k, maskT xs k < 2 ^ 32
  | 0 => by simp [maskT]
  | k + 1 => Nat.or_lt_two_pow (maskT_lt h k) (Nat.pow_lt_pow_right (by omega) (h k))
theorem maskT_bit {xs : List Nat} {j : Nat} : ∀ k, j < k → bit (maskT xs k) (xs.getD j 0) = 1
  | 0, h => by omega
  | k + 1, h => by
    rw [maskT, bit_testBit, Nat.testBit_or]
    by_cases e : j = k
    · subst e
      rw [Nat.testBit_two_pow_self, Bool.or_true]; rfl
    · have := maskT_bit (xs := xs) k (show j < k by omega)
      rw [bit_testBit] at this
      cases hb : (maskT xs k).testBit (xs.getD j 0)
      · rw [hb] at this; simp at this
      · rfl
theorem wrap_pow32 : ∀ x, x < 32 → wrap64 ((2 : Int) ^ x) = ((2 ^ x : Nat) : Int) := by decide +kernel
theorem wf_i64 {k : Int} (h : -1 ≤ k ∧ k ≤ 9223372036854775807) : (Lit.int .i64 k).wf = true := by
  simp [Lit.wf, IntKind.max, IntKind.min, IntKind.bits, IntKind.signed]; omega
theorem ints_getD (c : List Nat) (i : Nat) (h : i < c.length) : (ints c)[i]? = some ((c.getD i 0 : Nat) : Int) := by
  rw [ints, List.getElem?_map, List.getD_eq_getElem?_getD, List.getElem?_eq_getElem h]; rfl

end Go.Proofs.YtfkdameegljkeaaDoor

/- Walks: lists of lists of integers; the cycles of a network on both sides. -/
namespace Go.Proofs.YtfkdameegljkeaaDoor
open Go.RowKit
set_option linter.unusedVariables false

/-- an own list of values of one cell each -/
def OV (w : World) (B : Nat) (e : TypeId) (v : Value) (ys : List Value) : Prop := w.ownsRow B e 1 v ys.length ys
theorem OV.nil (w : World) (B : Nat) (e : TypeId) : OV w B e (.slice none 0 0) [] := World.ownsRow_nil w B e 1
theorem OV.empty (w : World) (B : Nat) (e : TypeId) (hB : B ≤ w.heap.size) : OV (w.alloc (.cells #[] e)) B e (.slice (some ⟨w.heap.size, 0, none⟩) 0 0) [] :=
  World.ownsRow_made w #[] 0 hB (Nat.zero_le _) rfl
theorem OV.below {w w' : World} {B : Nat} {e : TypeId} {v : Value} {ys : List Value} (h : OV w B e v ys) (hb : Below w.heap.size w w') : OV w' B e v ys := ownsRow_below h hb
theorem OV.form {w : World} {B : Nat} {e : TypeId} {v : Value} {ys : List Value} (h : OV w B e v ys) : ∃ A c, v = .slice A ys.length c ∧ ys.length ≤ c ∧ Own w B A ys := by
  rcases h.2 with ⟨rfl, h0⟩ | ⟨g, cap, cur, rfl, hB, hg, hn, rest⟩
  · exact ⟨none, 0, by rw [h0], by omega, .inl (List.eq_nil_of_length_eq_zero h0)⟩
  · exact ⟨_, cap, rfl, hn, Own.of_own h⟩
theorem OV.own_lt {w : World} {B g : Nat} {e : TypeId} {v : Value} {ys : List Value} (h : OV w B e v ys) (hg : v.ownBlock = some g) : B ≤ g ∧ g < w.heap.size :=
  ⟨(World.ownsRow.lt h g hg).1, (World.ownsRow.lt h g hg).2⟩
theorem own_ne {w : World} {B g : Nat} {e : TypeId} {v : Value} {ys : List Value} (h : OV w B e v ys) (hg : w.heap.size ≤ g) : v.ownBlock ≠ some g := fun e => by have := (h.own_lt e).2; omega
theorem wp_pushL {P : Program} {wr : World} {ops : Array Oper} {rest : List Oper} {o : Oper} {a : Act} {Q : Exit → Act → World → Prop} (hgd : o.guard = none) (s x : Operand) (t : TypeId)
    (ho : o.op = .call { callee := .builtin .append, args := #[s, x], argTypes := #[t, t] })
    {B e : Nat} (ht : P.underlying t = some (.slice e)) (hinf : (P.info? e).map (fun i => (i.zero, i.size, i.bytes)) = some (some (.slice none 0 0), 1, 24))
    {v : Value} {ys : List Value} {u : Value} (hu : u.oneCell' = true) (hown : OV wr B e v ys) (hs : a.eval s = v) (hx : a.eval x = .slice (some ⟨wr.heap.size, 0, none⟩) 1 1)
    (hn : ys.length ≤ 1099511627776) (hB : B ≤ wr.heap.size)
    (h : ∀ v' w', OV w' B e v' (ys ++ [u]) → (∀ B', B' ≤ B → Below B' wr w') → wr.heap.size ≤ w'.heap.size → (∀ g, g < wr.heap.size → v.ownBlock ≠ some g → w'.heap[g]? = wr.heap[g]? ∧ v'.ownBlock ≠ some g) → wpList P ops Q rest (a.put o.dst v') w') :
    wpList P ops Q (o :: rest) a (wr.alloc (.cells #[u] e)) := by
  obtain ⟨i, hi, hiz, his, hib⟩ := info_parts hinf
  refine wpList_append_own_at _ hgd s x t ho B e i (.slice none 0 0) 1 24 ht hi hiz his hib rfl (by omega) v ys.length ys hs (World.ownsRow.alloc hown _) ⟨wr.heap.size, 0, none⟩ 1 1 [u] hx rfl ?_ ?_ (by simp only [maxLen]; omega) (by omega) (by rw [alloc_size]; omega) ?_
  · intro j y hj
    cases j with
    | zero =>
      simp only [List.getElem?_cons_zero, Option.some.injEq] at hj
      subst hj
      have : (⟨wr.heap.size, 0, none⟩ : Addr).add 0 = ⟨wr.heap.size, 0, none⟩ := rfl
      rw [this, cell_new]; rfl
    | succ j => simp at hj
  · intro y hy
    rw [List.mem_singleton.1 hy]; exact hu
  · intro v' w' h1 h2 _ h4
    have hz := h2.size
    rw [alloc_size] at hz
    refine h v' w' (by unfold OV; simpa using h1) (fun B' hB' => ?_) (by omega) (fun g hg hne => ⟨?_, ?_⟩)
    · have hb0 : Below B' wr (wr.alloc (.cells #[u] e)) := (Below.refl _ _).alloc (by omega) _
      refine hb0.grown h2 (by rw [alloc_size]; omega) ?_
      intro k hk
      have := (World.ownsRow.lt hown k hk).1
      omega
    · have := h2.block g (by rw [alloc_size]; omega) (fun e => hne e.symm)
      rw [this]
      exact heap_alloc_old wr _ hg
    · rcases h4 with h4 | h4
      · rw [h4]; exact hne
      · rw [h4, alloc_size]; intro e; injection e; omega
theorem Own.blk {w w' : World} {B g off : Nat} {vs : List Value} (h : Own w B (some ⟨g, off, none⟩) vs) (hb : w'.heap[g]? = w.heap[g]?) : Own w' B (some ⟨g, off, none⟩) vs := by
  rcases h with h | ⟨g', off', hA, hB, hc⟩
  · exact .inl h
  · injection hA with hA
    injection hA with h1 h2
    subst h1 h2
    refine .inr ⟨g, off, rfl, hB, fun j v hj => ?_⟩
    exact ⟨(World.cell?_of_block (w := w) (a := ⟨g, off + j, none⟩) hb).trans (hc j v hj).1, (World.frozen?_of_block (w := w) (a := ⟨g, off + j, none⟩) hb).trans (hc j v hj).2⟩
/-- the lists of a list of lists: each in a block of its own, which is not that of the list v itself -/
structure LL (w : World) (B : Nat) (v : Value) (gs : List Nat) (ys : List Value) (xss : List (List Int)) : Prop where
  len : ys.length = xss.length
  gl : gs.length = xss.length
  nd : gs.Nodup
  lt : ∀ g ∈ gs, B ≤ g ∧ g < w.heap.size ∧ v.ownBlock ≠ some g
  at_ : ∀ (i : Nat) (xs : List Int), xss[i]? = some xs → ∃ (g off c : Nat), gs[i]? = some g ∧ ys[i]? = some (Value.slice (some ⟨g, off, none⟩) xs.length c) ∧ xs.length ≤ c ∧ Own w B (some ⟨g, off, none⟩) (xs.map (Value.int .i64))
theorem LL.nil (w : World) (B : Nat) (v : Value) : LL w B v [] [] [] := ⟨rfl, rfl, by simp, by simp, by intro i xs h; simp at h⟩
theorem LL.blk {w w' : World} {B : Nat} {v v' : Value} {gs : List Nat} {ys : List Value} {xss : List (List Int)} (h : LL w B v gs ys xss) (hb : ∀ g ∈ gs, w'.heap[g]? = w.heap[g]? ∧ v'.ownBlock ≠ some g) (hz : w.heap.size ≤ w'.heap.size) : LL w' B v' gs ys xss :=
  ⟨h.len, h.gl, h.nd, fun g hg => ⟨(h.lt g hg).1, Nat.lt_of_lt_of_le (h.lt g hg).2.1 hz, (hb g hg).2⟩, fun i xs hi => by
    obtain ⟨g, off, c, h1, h2, h3, h4⟩ := h.at_ i xs hi
    exact ⟨g, off, c, h1, h2, h3, h4.blk (hb g (List.mem_of_getElem? h1)).1⟩⟩
theorem LL.below {w w' : World} {B : Nat} {v : Value} {gs : List Nat} {ys : List Value} {xss : List (List Int)} (h : LL w B v gs ys xss) (hb : Below w.heap.size w w') : LL w' B v gs ys xss :=
  h.blk (fun g hg => ⟨hb.block g (h.lt g hg).2.1, (h.lt g hg).2.2⟩) hb.size
theorem LL.snoc {w : World} {B g off c : Nat} {v : Value} {gs : List Nat} {ys : List Value} {xss : List (List Int)} {xs : List Int} (h : LL w B v gs ys xss) (hg : g ∉ gs) (hB : B ≤ g) (hw : g < w.heap.size) (hv : v.ownBlock ≠ some g) (hc : xs.length ≤ c)
    (ho : Own w B (some ⟨g, off, none⟩) (xs.map (Value.int .i64))) : LL w B v (gs ++ [g]) (ys ++ [.slice (some ⟨g, off, none⟩) xs.length c]) (xss ++ [xs]) := by
  refine ⟨by rw [List.length_append, List.length_append, h.len]; rfl, by rw [List.length_append, List.length_append, h.gl]; rfl, ?_, ?_, ?_⟩
  · rw [List.nodup_append]
    exact ⟨h.nd, by simp, by intro a ha b hb; simp at hb; subst hb; intro e; subst e; exact hg ha⟩
  · intro x hx
    rcases List.mem_append.1 hx with hx | hx
    · exact h.lt x hx
    · simp at hx; subst hx; exact ⟨hB, hw, hv⟩
  · intro i zs hi
    by_cases hlt : i < xss.length
    · rw [List.getElem?_append_left hlt] at hi
      obtain ⟨g', off', c', h1, h2, h3, h4⟩ := h.at_ i zs hi
      exact ⟨g', off', c', by rw [List.getElem?_append_left (by rw [h.gl]; exact hlt)]; exact h1, by rw [List.getElem?_append_left (by rw [h.len]; exact hlt)]; exact h2, h3, h4⟩
    · have hie : i = xss.length := by
        have := (List.getElem?_eq_some_iff.1 hi).1
        rw [List.length_append, List.length_singleton] at this; omega
      subst hie
      rw [List.getElem?_append_right (Nat.le_refl _), Nat.sub_self] at hi
      simp at hi
      subst hi
      exact ⟨g, off, c, by rw [← h.gl, List.getElem?_append_right (Nat.le_refl _), Nat.sub_self]; rfl, by rw [← h.len, List.getElem?_append_right (Nat.le_refl _), Nat.sub_self]; rfl, hc, ho⟩
theorem LL.mono {w : World} {B B' : Nat} {v : Value} {gs : List Nat} {ys : List Value} {xss : List (List Int)} (h : LL w B v gs ys xss) (hB : B' ≤ B) : LL w B' v gs ys xss :=
  ⟨h.len, h.gl, h.nd, fun g hg => ⟨Nat.le_trans hB (h.lt g hg).1, (h.lt g hg).2⟩, fun i xs hi => by
    obtain ⟨g, off, c, h1, h2, h3, h4⟩ := h.at_ i xs hi
    exact ⟨g, off, c, h1, h2, h3, h4.mono hB⟩⟩
/-- a list of lists was handed back -/
def RetLL (B : Nat) (xss : List (List Int)) (e : Ending) (w' : World) : Prop :=
  ∃ A c gs ys, e = .returned (.slice A xss.length c) ∧ xss.length ≤ c ∧ Own w' B A ys ∧ LL w' B (.slice A xss.length c) gs ys xss
theorem info_sl : (Tryd.prog.info? 25).map (fun i => (i.zero, i.size, i.bytes)) = some (some (.slice none 0 0), 1, 24) := by kernel_rfl
/-- the cycles of the first k states that are least in their cycle -/
def cylTo (f : Nat → Nat) (k : Nat) : List (List Int) := (sel k fun s => cy0 f s == s).map fun s => ints (cyc f s)
theorem cylTo_yes {f : Nat → Nat} {k : Nat} (h : cy0 f k = k) : cylTo f (k + 1) = cylTo f k ++ [ints (cyc f k)] := by rw [cylTo, sel_yes (by simpa using h), List.map_append]; rfl
theorem cylTo_no {f : Nat → Nat} {k : Nat} (h : ¬ cy0 f k = k) : cylTo f (k + 1) = cylTo f k := by rw [cylTo, sel_no (by simpa using h)]; rfl
theorem cylTo_len (f : Nat → Nat) (k : Nat) : (cylTo f k).length ≤ k := by rw [cylTo, List.length_map]; exact sel_len _ _
def cylN (ps : List (List UInt8)) : List (List Int) := if okN ps then cylTo (stp ps) (2 ^ ps.length) else []
theorem cylN_yes {ps : List (List UInt8)} {N : Nat} (h : okN ps = true) (hN : N = 2 ^ ps.length) : cylN ps = cylTo (stp ps) N := by rw [cylN, if_pos h, hN]
theorem cylN_no {ps : List (List UInt8)} (h : okN ps = false) : cylN ps = [] := by rw [cylN, h]; rfl

end Go.Proofs.YtfkdameegljkeaaDoor

/- Plain facts on attractors as lists. -/
namespace Go.Proofs.YtfkdameegljkeaaDoor
open Go.RowKit
set_option linter.unusedVariables false

/-- the attractors whose least states are below k -/
def attTo (rb : Nat → Nat → Bool) (N k : Nat) : List (List Int) := (atts rb N k).map fun a => ints (sel N (rb a))
theorem attTo_yes {rb : Nat → Nat → Bool} {N k : Nat} (h : att rb N k = true) : attTo rb N (k + 1) = attTo rb N k ++ [ints (sel N (rb k))] := by
  rw [attTo, atts, sel_yes h, List.map_append]; rfl
theorem attTo_no {rb : Nat → Nat → Bool} {N k : Nat} (h : att rb N k = false) : attTo rb N (k + 1) = attTo rb N k := by
  rw [attTo, atts, sel_no h]; rfl
theorem attTo_len (rb : Nat → Nat → Bool) (N k : Nat) : (attTo rb N k).length ≤ k := by rw [attTo, List.length_map]; exact atts_le rb N k
theorem attTo_lens {rb : Nat → Nat → Bool} {N k : Nat} : ∀ xs ∈ attTo rb N k, xs.length ≤ N := by
  intro xs hx
  rw [attTo, List.mem_map] at hx
  obtain ⟨a, _, rfl⟩ := hx
  rw [ints_length]; exact sel_len _ _
/-- an attractor begins with its least state -/
theorem att_head {rb : Nat → Nat → Bool} {N a : Nat} (h : RB rb N) (ha : a < N) (h1 : att rb N a = true) : (ints (sel N (rb a)))[0]? = some (a : Int) := by
  obtain ⟨l, hl⟩ := sel_low h ha (att_iff.1 h1).2
  rw [hl]; rfl
theorem attTo_at {rb : Nat → Nat → Bool} {N k i : Nat} (hi : i < (atts rb N k).length) : (attTo rb N k)[i]? = some (ints (sel N (rb ((atts rb N k).getD i 0)))) := by
  rw [attTo, List.getElem?_map, List.getD_eq_getElem?_getD, List.getElem?_eq_getElem hi]; rfl
def attN (ps : List (List UInt8)) : List (List Int) := if okN ps then attTo (rbN ps) (2 ^ ps.length) (2 ^ ps.length) else []
theorem attN_yes {ps : List (List UInt8)} {N : Nat} (h : okN ps = true) (hN : N = 2 ^ ps.length) : attN ps = attTo (rbN ps) N N := by rw [attN, if_pos h, hN]
theorem attN_no {ps : List (List UInt8)} (h : okN ps = false) : attN ps = [] := by rw [attN, h]; rfl
theorem attN_len (ps : List (List UInt8)) : (attN ps).length ≤ 1000 := by
  by_cases h : okN ps = true
  · rw [attN_yes h rfl]
    have := attTo_len (rbN ps) (2 ^ ps.length) (2 ^ ps.length)
    have := two_le _ (okN_le h)
    omega
  · rw [attN_no (by simpa using h)]; simp
theorem attN_lens (ps : List (List UInt8)) : ∀ xs ∈ attN ps, xs.length ≤ 1000 := by
  intro xs hx
  by_cases h : okN ps = true
  · rw [attN_yes h rfl] at hx
    have := attTo_lens xs hx
    have := two_le _ (okN_le h)
    omega
  · rw [attN_no (by simpa using h)] at hx; simp at hx
/-- the states that a search marks: those of the attractors so far -/
theorem att_skip {rb : Nat → Nat → Bool} {N k : Nat} (h : RB rb N) (hk : k < N) : (doneB rb N k k = false ∧ std rb N k = true) ↔ att rb N k = true := by
  constructor
  · rintro ⟨h1, h2⟩
    refine att_iff.2 ⟨h2, low_iff.2 fun t ht => ?_⟩
    cases hr : rb k t
    · rfl
    · exfalso
      -- the least state that k reaches is that of an attractor below k
      have hs := std_to h hk h2 hr
      have htN := h.lt k t hk hr
      obtain ⟨l1, l2, l3⟩ := lea_all h hk
      have h5 : lea rb N k ≤ t := by
        by_cases hle : lea rb N k ≤ t
        · exact hle
        · have := l3 t (by omega); rw [hr] at this; cases this
      have h6 : att rb N (lea rb N k) = true := att_iff.2 ⟨std_to h hk h2 l1, low_iff.2 fun u hu => by
        cases h7 : rb (lea rb N k) u
        · rfl
        · have h8 := h.trans k _ u hk l1 h7
          have := l3 u hu
          rw [h8] at this; cases this⟩
      have h9 : doneB rb N k k = true := by
        unfold doneB
        exact List.any_eq_true.2 ⟨lea rb N k, mem_atts.2 ⟨by omega, h6⟩, std_back h hk h2 l1⟩
      rw [h1] at h9; cases h9
  · intro h1
    have h2 := att_iff.1 h1
    refine ⟨?_, h2.1⟩
    cases hd : doneB rb N k k
    · rfl
    · unfold doneB at hd
      obtain ⟨a, ha, hr⟩ := List.any_eq_true.1 hd
      obtain ⟨h3, h4⟩ := mem_atts.1 ha
      have h5 := std_back h (show a < N by omega) (att_iff.1 h4).1 hr
      have := low_iff.1 h2.2 a h3
      rw [h5] at this; cases this

end Go.Proofs.YtfkdameegljkeaaDoor

/- Walks: the attractors of a network on both sides. -/
namespace Go.Proofs.YtfkdameegljkeaaDoor
open Go.RowKit
set_option linter.unusedVariables false

theorem lea_low {rb : Nat → Nat → Bool} {N s : Nat} (h : RB rb N) (hs : s < N) : lea rb N s = s ↔ low rb s = true := by
  constructor
  · intro e
    obtain ⟨_, _, h3⟩ := lea_all h hs
    exact low_iff.2 fun t ht => h3 t (by rw [e]; exact ht)
  · intro h1
    obtain ⟨l, hl⟩ := sel_low h hs h1
    rw [lea, hl]; rfl
theorem lea_head {rb : Nat → Nat → Bool} {N s : Nat} (h : RB rb N) (hs : s < N) : (ints (sel N (rb s)))[0]? = some ((lea rb N s : Nat) : Int) := by
  have hm : s ∈ sel N (rb s) := mem_sel.2 ⟨hs, h.refl s hs⟩
  unfold lea
  cases hl : sel N (rb s) with
  | nil => rw [hl] at hm; simp at hm
  | cons a l => rfl

set_option maxHeartbeats 1000000 in
set_option maxRecDepth 100000 in
theorem l5Attractors_any (A : Option Addr) (c N : Nat) (ps : List (List UInt8)) (w : World) (hx : Hid (Rd w A (strs ps))) (hok : Hid (okN ps = true)) (HN : Hid (N = 2 ^ ps.length)) :
    Calls Tryd.prog 87 #[.slice A ps.length c] w fun e w' => RetLL w.heap.size (attTo (rbN ps) N N) e w' ∧ Below w.heap.size w w' := by
  have hn5 := okN_le hok.out
  have hN32 : N ≤ 32 := by rw [HN.out]; exact two_le _ hn5
  have hN0 : 0 < N := by rw [HN.out]; exact Nat.two_pow_pos _
  have HRB := Lib.hid (rbN_rb hok.out HN.out)
  have hBe : Below w.heap.size w (w.alloc (.cells #[] 25)) := (Below.refl _ _).alloc (Nat.le_refl _) _
  have hOE := OV.empty w w.heap.size 25 (Nat.le_refl _)
  go_enter Tryd.func87, Tryd.ntmps87
  go_wp2_with fail
  go_loopw [3, 4] (fun v i wr => ∃ (k : Nat) (gs : List Nat) (ys : List Value), k ≤ N ∧ i = .int .i64 k ∧ Hid (OV wr w.heap.size 25 v ys ∧ LL wr w.heap.size v gs ys (attTo (rbN ps) N k)) ∧ Hid (Below w.heap.size w wr)) (fun _ i _ => N - (intOf i).toNat)
  case atStart => exact ⟨0, [], [], Nat.zero_le _, rfl, Lib.hid ⟨hOE, LL.nil _ _ _⟩, Lib.hid hBe⟩
  case round =>
    clear hOE hBe
    obtain ⟨k, gs, ys, hk, rfl, HO, HB⟩ := hrel
    have hzr := HB.out.size
    have hyl : ys.length ≤ 32 := by rw [HO.out.2.len]; have := attTo_len (rbN ps) N k; omega
    by_cases hlt : k < N
    · by_cases hst : std (rbN ps) N k = true
      · have HST := Lib.hid hst
        obtain ⟨l, HCY⟩ : ∃ l, Hid (l = ints (sel N (rbN ps k))) := ⟨_, rfl⟩
        obtain ⟨c0, HC0⟩ : ∃ x, Hid (x = lea (rbN ps) N k) := ⟨_, rfl⟩
        have hl0 : l[0]? = some ((c0 : Nat) : Int) := by rw [HCY.out, HC0.out]; exact lea_head HRB.out hlt
        have hlp : 0 < l.length := (List.getElem?_eq_some_iff.1 hl0).1
        have HL0 := Lib.hid hl0
        clear hl0 hst
        go_wp2_with (go_at_call 67; refine (l3All_any _ _ _ N _ hn5 HN).mono ?_; rintro e w2 ⟨rfl, rfl⟩)
        refine (l5Steady_any _ _ _ N _ _ (Lib.hid (hx.out.below HB.out)) hok HN hlt).mono ?_
        rintro e w1 ⟨rfl, hB1⟩
        rw [HST.out]
        have hz1 := hB1.size
        have HB1 := Lib.hid (HB.out.trans (hB1.mono hzr))
        go_wp2_with fail
        refine (l5Reach_any _ _ _ N _ _ (Lib.hid (hx.out.below HB1.out)) hok HN hlt).mono ?_
        rintro e w2 ⟨⟨A2, c2, rfl, hc2, hO2⟩, hB2⟩
        have hz2 := hB2.size
        have HB2 := Lib.hid (HB1.out.trans (hB2.mono (by omega)))
        have HR2 := Lib.hid hO2.rd
        clear hO2
        go_wp2_with fail
        refine (l5Sorted_any _ _ _ _ _ HR2 hN32).mono ?_
        rw [← HCY.out]
        rintro e wb ⟨⟨A3, c3, rfl, hc3, hO3⟩, hBb⟩
        have hzb := hBb.size
        obtain ⟨g, off, hA3, hcell⟩ := hO3.rd.at_ (k := 0) (v := .int .i64 (c0 : Int)) (by rw [List.getElem?_map, HL0.out]; rfl)
        subst hA3
        rw [Nat.add_zero] at hcell
        have hg : w2.heap.size ≤ g ∧ g < wb.heap.size := by
          refine ⟨?_, World.block_lt_of_cell? wb _ hcell⟩
          rcases hO3 with h2 | ⟨g', off', hA', hB', _⟩
          · exact absurd h2 (by intro e; have := congrArg List.length e; rw [List.length_map, List.length_nil] at this; omega)
          · simp only [Option.some.injEq, Addr.mk.injEq] at hA'; omega
        have hBrb : Below wr.heap.size wr wb := hB1.trans ((hB2.mono hz1).trans (hBb.mono (by omega)))
        have HO2 := Lib.hid (And.intro (HO.out.1.below hBrb) (HO.out.2.below hBrb))
        have HOW := Lib.hid (hO3.mono (show w.heap.size ≤ _ by omega))
        have HNG := Lib.hid (And.intro (show g ∉ gs from fun hm => by have := (HO.out.2.lt g hm).2.1; omega) (own_ne HO.out.1 (show wr.heap.size ≤ g by omega)))
        have HBb := Lib.hid (HB.out.trans (hBrb.mono hzr))
        clear hO3 hBrb hBb
        by_cases he : c0 = k
        · have HS : Hid (attTo (rbN ps) N (k + 1) = attTo (rbN ps) N k ++ [l]) := Lib.hid (by rw [HCY.out]; exact attTo_yes (att_iff.2 ⟨HST.out, (lea_low HRB.out hlt).1 (by rw [← HC0.out]; exact he)⟩))
          have hd : ((c0 : Int) == (k : Int)) = true := by rw [he]; simp
          go_wp2_with (at_builtin; refine wp_pushL rfl _ _ _ rfl Tryd.underlying52 info_sl rfl HO2.out.1 rfl rfl (by omega) (by omega) ?_; intro v' w3 hown hbel hsz3 hblk)
          go_roundw
          case rel =>
            refine ⟨k + 1, gs ++ [g], ys ++ [.slice (some ⟨g, off, none⟩) l.length c3], by omega, by go_num, Lib.hid ⟨hown, ?_⟩, Lib.hid (HBb.out.trans (hbel _ (Nat.le_refl _)))⟩
            rw [HS.out]
            have h1 := HO2.out.2.snoc (c := c3) HNG.out.1 (by omega) hg.2 HNG.out.2 hc3 HOW.out
            refine h1.blk (fun x hx => ?_) hsz3
            have h2 := h1.lt x hx
            exact hblk x h2.2.1 h2.2.2
          case measure => simp [intOf]; omega
        · have HS : Hid (attTo (rbN ps) N (k + 1) = attTo (rbN ps) N k) := Lib.hid (attTo_no (by
            cases ha : att (rbN ps) N k
            · rfl
            · exact absurd ((lea_low HRB.out hlt).2 (att_iff.1 ha).2) (by rw [← HC0.out]; exact he)))
          have hd : ((c0 : Int) == (k : Int)) = false := by rw [beq_eq_false_iff_ne]; omega
          go_wp2_with fail
          go_roundw
          case rel => exact ⟨k + 1, gs, ys, by omega, by go_num, Lib.hid ⟨HO2.out.1, by rw [HS.out]; exact HO2.out.2⟩, HBb⟩
          case measure => simp [intOf]; omega
      · have HST : Hid (std (rbN ps) N k = false) := Lib.hid (by simpa using hst)
        have HS : Hid (attTo (rbN ps) N (k + 1) = attTo (rbN ps) N k) := Lib.hid (attTo_no (by rw [att, HST.out]; rfl))
        clear hst
        go_wp2_with (go_at_call 67; refine (l3All_any _ _ _ N _ hn5 HN).mono ?_; rintro e w2 ⟨rfl, rfl⟩)
        refine (l5Steady_any _ _ _ N _ _ (Lib.hid (hx.out.below HB.out)) hok HN hlt).mono ?_
        rintro e w1 ⟨rfl, hB1⟩
        rw [HST.out]
        have HB1 := Lib.hid (HB.out.trans (hB1.mono hzr))
        have HO2 := Lib.hid (And.intro (HO.out.1.below hB1) (HO.out.2.below hB1))
        go_wp2_with fail
        go_roundw
        case rel => exact ⟨k + 1, gs, ys, by omega, by go_num, Lib.hid ⟨HO2.out.1, by rw [HS.out]; exact HO2.out.2⟩, HB1⟩
        case measure => simp [intOf]; omega
    · have hkn : k = N := by omega
      subst hkn
      have HFI := HO.out.1
      obtain ⟨A', c', rfl, hc', hO'⟩ := HFI.form
      have HLL := Lib.hid HO.out.2
      have HLE : Hid (ys.length = (attTo (rbN ps) k k).length) := Lib.hid HO.out.2.len
      rw [HLE.out] at hc' HLL ⊢
      have HOO := Lib.hid hO'
      clear HFI hO'
      go_wp2_with (go_at_call 67; refine (l3All_any _ _ _ k _ hn5 HN).mono ?_; rintro e w2 ⟨rfl, rfl⟩)
      go_ret
      exact ⟨⟨A', c', gs, ys, rfl, hc', HOO.out, HLL.out⟩, HB.out⟩

theorem sAttractorsOf_any (s : ByteArray) (w : World) (hs : s.size ≤ 1073741824) :
    Calls Tryd.prog 57 #[.string s] w fun e w' => RetLL w.heap.size (attN (cutL s.data.toList)) e w' ∧ Below w.heap.size w w' := by
  obtain ⟨ps, HPS⟩ : ∃ ps, Hid (ps = cutL s.data.toList) := ⟨_, rfl⟩
  rw [← HPS.out]
  by_cases h : okN ps = true
  · have HOK := Lib.hid h
    obtain ⟨N, HN⟩ : ∃ N : Nat, Hid (N = 2 ^ ps.length) := ⟨_, rfl⟩
    have HV := Lib.hid (attN_yes h HN.out)
    clear h
    go_enter Tryd.func57, Tryd.ntmps57
    go_wp2_with fail
    refine (l3Open_any s _ hs).mono ?_
    rintro e w1 ⟨⟨A, k0, c, rfl, himp⟩, hB1⟩
    rw [← HPS.out] at himp ⊢
    obtain ⟨rfl, hc, hO⟩ := himp HOK.out
    rw [HOK.out]
    have hz1 := hB1.size
    have HR := Lib.hid hO.rd
    clear hO himp
    go_wp2_with fail
    refine (l5Attractors_any _ _ N _ _ HR HOK HN).mono ?_
    rintro e w2 ⟨⟨A3, c3, gs, ys, rfl, hc3, hO3, hL3⟩, hB2⟩
    have HO3 := Lib.hid (And.intro (hO3.mono hz1) (hL3.mono hz1))
    clear hO3 hL3
    go_wp2
    go_ret
    exact ⟨⟨A3, c3, gs, ys, by rw [HV.out]; rfl, by rw [HV.out]; exact hc3, HO3.out.1, by rw [HV.out]; exact HO3.out.2⟩, hB1.trans (hB2.mono hz1)⟩
  · have HOK : Hid (okN ps = false) := Lib.hid (by simpa using h)
    have HV := Lib.hid (attN_no HOK.out)
    clear h
    go_enter Tryd.func57, Tryd.ntmps57
    go_wp2_with fail
    refine (l3Open_any s _ hs).mono ?_
    rintro e w1 ⟨⟨A, k0, c, rfl, himp⟩, hB1⟩
    clear himp
    rw [← HPS.out, HOK.out]
    have hz1 := hB1.size
    go_wp2
    go_ret
    exact ⟨⟨some ⟨w1.heap.size, 0, none⟩, 0, [], [], by rw [HV.out]; rfl, by rw [HV.out]; exact Nat.le_refl _, .inl rfl, by rw [HV.out]; exact LL.nil _ _ _⟩, hB1.alloc (by omega) _⟩

theorem OV.heap {w w' : World} {B : Nat} {e : TypeId} {v : Value} {ys : List Value} (h : OV w B e v ys) (hb : ∀ g, v.ownBlock = some g → w'.heap[g]? = w.heap[g]?) : OV w' B e v ys := by
  rcases h.2 with ⟨rfl, h0⟩ | ⟨g, cap, cur, rfl, hB, hg, rest⟩
  · exact ⟨h.1, .inl ⟨rfl, h0⟩⟩
  · exact ⟨h.1, .inr ⟨g, cap, cur, rfl, hB, (hb g rfl).trans hg, rest⟩⟩
theorem mark_next {rb : Nat → Nat → Bool} {N k : Nat} (h : RB rb N) (hk : k < N) (hd : doneB rb N k k = false) (hs : std rb N k = true) (t : Nat) : doneB rb N (k + 1) t = (doneB rb N k t || rb k t) := by
  rw [doneB_next, (att_skip h hk).1 ⟨hd, hs⟩, Bool.true_and]
theorem mark_done {rb : Nat → Nat → Bool} {N k : Nat} (h : RB rb N) (hk : k < N) (hd : doneB rb N k k = true) : att rb N k = false := by
  cases ha : att rb N k
  · rfl
  · have := ((att_skip h hk).2 ha).1
    rw [hd] at this; cases this
theorem mark_no2 {rb : Nat → Nat → Bool} {N k : Nat} (hs : std rb N k = false) : att rb N k = false := by rw [att, hs]; rfl
theorem done_no {rb : Nat → Nat → Bool} {N k t : Nat} (ha : att rb N k = false) : doneB rb N (k + 1) t = doneB rb N k t := by rw [doneB_next, ha, Bool.false_and, Bool.or_false]

theorem attractors1_any (b p5 k : Nat) (ks : List Int) (w : World) (h5 : w.cell? ⟨p5, 0, none⟩ = some (.map (some b))) (hS : Hid (SetAt w b ks)) :
    Calls Tryd.prog 61 #[.int .i64 (k : Int), .pointer (some ⟨p5, 0, none⟩)] w fun e w' => e = .returned (.bool (decide ((k : Int) ∈ ks))) ∧ w = w' := by
  have hrun := set_look hS.out (k : Int)
  obtain ⟨q, hq⟩ : ∃ q, q = decide ((k : Int) ∈ ks) := ⟨_, rfl⟩
  rw [← hq] at hrun ⊢
  clear hq
  go_enter Tryd.func61, Tryd.ntmps61
  go_wp2
  go_ret
  exact ⟨rfl, rfl⟩

set_option maxHeartbeats 4000000 in
set_option maxRecDepth 100000 in
theorem attractors_any (A : Option Addr) (c N : Nat) (ps : List (List UInt8)) (w : World) (hx : Hid (Rd w A (netL ps))) (hok : Hid (okN ps = true)) (HN : Hid (N = 2 ^ ps.length)) :
    Calls Tryd.prog 31 #[.slice A ps.length c] w fun e w' => RetLL w.heap.size (attTo (rbN ps) N N) e w' ∧ Below w.heap.size w w' := by
  have hn5 := okN_le hok.out
  have hN32 : N ≤ 32 := by rw [HN.out]; exact two_le _ hn5
  have HRB := Lib.hid (rbN_rb hok.out HN.out)
  have HF1 := Lib.hid (fun (args : Array Value) (W : World) => (show (callFunc 61 args).run Tryd.prog W = .ok (.enter 61 args) W by kernel_rfl))
  have hmm := @run_makeMap Tryd.prog
  obtain ⟨B, HBd⟩ : ∃ B, Hid (B = w.heap.size) := ⟨_, rfl⟩
  have hBe : Below w.heap.size w (w.alloc (.map #[] 0)) := (Below.refl _ _).alloc (Nat.le_refl _) _
  have hS0 := SetAt.made w
  rw [← HBd.out] at hS0 hBe ⊢
  go_enter Tryd.func31, Tryd.ntmps31
  go_wp2_with (go_at_call 37; refine (states_any _ _ _ N _ hn5 HN).mono ?_; rintro e w2 ⟨rfl, rfl⟩)
  rw [← HBd.out]
  go_loopw [3, 11] (fun v i wr => ∃ (k : Nat) (gs : List Nat) (ys : List Value) (ms : List Int), k ≤ N ∧ i = .int .i64 k ∧ Hid (OV wr (B + 1) 25 v ys ∧ LL wr (B + 1) v gs ys (attTo (rbN ps) N k)) ∧ Hid (SetAt wr B ms) ∧ Hid (∀ t, t < N → decide ((t : Int) ∈ ms) = doneB (rbN ps) N k t) ∧ Hid (Below B w wr)) (fun _ i _ => N - (intOf i).toNat)
  case atStart => exact ⟨0, [], [], [], Nat.zero_le _, rfl, Lib.hid ⟨OV.nil _ _ _, LL.nil _ _ _⟩, Lib.hid hS0, Lib.hid (fun t _ => rfl), Lib.hid hBe⟩
  case round =>
    clear hS0 hBe
    obtain ⟨k, gs, ys, ms, hk, rfl, HO, HS, HM, HB⟩ := hrel
    have hzr := HB.out.size
    have hbl := HS.out.lt
    have hyl : ys.length ≤ 32 := by rw [HO.out.2.len]; have := attTo_len (rbN ps) N k; omega
    by_cases hlt : k < N
    · have hlk := set_look HS.out (k : Int)
      rw [HM.out k hlt] at hlk
      have HR := Lib.hid (hx.out.below (show Below w.heap.size w wr by rw [← HBd.out]; exact HB.out))
      by_cases hdn : doneB (rbN ps) N k k = true
      · have HA := Lib.hid (mark_done HRB.out hlt hdn)
        rw [hdn] at hlk
        clear hdn
        have HS2 : Hid (attTo (rbN ps) N (k + 1) = attTo (rbN ps) N k) := Lib.hid (attTo_no HA.out)
        have HM2 : Hid (∀ t, t < N → decide ((t : Int) ∈ ms) = doneB (rbN ps) N (k + 1) t) := Lib.hid (fun t ht => by rw [done_no HA.out]; exact HM.out t ht)
        go_wp2_with fail
        go_roundw
        case rel => exact ⟨k + 1, gs, ys, ms, by omega, by go_num, by rw [HS2.out]; exact HO, HS, HM2, HB⟩
        case measure => simp [intOf]; omega
      · have hdn' : doneB (rbN ps) N k k = false := by simpa using hdn
        have HD := Lib.hid hdn'
        rw [hdn'] at hlk
        clear hdn hdn'
        by_cases hst : std (rbN ps) N k = true
        · have HST := Lib.hid hst
          clear hst
          have HA := Lib.hid ((att_skip HRB.out hlt).1 ⟨HD.out, HST.out⟩)
          obtain ⟨l, HCY⟩ : ∃ l, Hid (l = ints (sel N (rbN ps k))) := ⟨_, rfl⟩
          have HS2 : Hid (attTo (rbN ps) N (k + 1) = attTo (rbN ps) N k ++ [l]) := Lib.hid (by rw [HCY.out]; exact attTo_yes HA.out)
          have hl0 : l[0]? = some ((k : Nat) : Int) := by rw [HCY.out]; exact att_head HRB.out hlt HA.out
          have hlp : 0 < l.length := (List.getElem?_eq_some_iff.1 hl0).1
          have HL0 := Lib.hid hl0
          clear hl0
          go_wp2_with fail
          refine (steady_any _ _ _ N _ _ HR hok HN hlt).mono ?_
          rintro e w1 ⟨rfl, hB1⟩
          rw [HST.out]
          have hz1 := hB1.size
          go_wp2_with fail
          refine (reach_any _ _ _ N _ _ (Lib.hid (HR.out.below hB1)) hok HN hlt).mono ?_
          rintro e w2 ⟨⟨b, met, rfl, hb, hSb, hml, hMb⟩, hB2⟩
          have hz2 := hB2.size
          have hbb := hSb.lt
          have HSb := Lib.hid hSb
          have HML := Lib.hid hml
          have HMB := Lib.hid hMb
          have hBr2 : Below wr.heap.size wr w2 := hB1.trans (hB2.mono hz1)
          clear hSb hml hMb hB1 hB2
          have HX := Blk.new w2 50 #[.map (some b)]
          have hBn : Below w2.heap.size w2 (w2.alloc (.cells #[.map (some b)] 50)) := (Below.refl _ _).alloc (Nat.le_refl _) _
          have hzn : (w2.alloc (.cells #[.map (some b)] 50)).heap.size = w2.heap.size + 1 := alloc_size _ _
          have hSn := HSb.out.below hBn
          obtain ⟨p6, HP6⟩ : ∃ p, Hid (p = w2.heap.size) := ⟨_, rfl⟩
          have hp6 : w2.heap.size ≤ p6 ∧ p6 ≤ w2.heap.size := by rw [HP6.out]; omega
          have hBr3 : Below wr.heap.size wr (w2.alloc (.cells #[.map (some b)] 50)) := hBr2.trans (hBn.mono (by omega))
          rw [← HP6.out] at HX
          have HZN := Lib.hid hzn
          clear hzn
          go_wp2_with (at_range; refine wpList_range_set rfl _ rfl rfl hSn ?_; intro r w3 hr hR3 hB3 hz3)
          rw [HZN.out] at hr hz3
          have hpr : p6 < r := by omega
          have hr3 : r < w3.heap.size := by omega
          have hBr3z : wr.heap.size ≤ w2.heap.size + 1 := by omega
          clear hr
          have HR3 := Lib.hid hR3
          have HX3 := Lib.hid (HX.keep hB3)
          have hBr : Below wr.heap.size wr w3 := hBr3.trans (hB3.mono (by rw [HZN.out]; omega))
          have HO3 := Lib.hid (And.intro (HO.out.1.below hBr) (HO.out.2.below hBr))
          have HS3 := Lib.hid (HS.out.below hBr)
          have HBw3 := Lib.hid (HB.out.trans (hBr.mono (by have := HBd.out; omega)))
          have hOwn : ∀ g, u3.ownBlock = some g → B + 1 ≤ g ∧ g < wr.heap.size := fun g hg => HO.out.1.own_lt hg
          have hGs : ∀ g ∈ gs, B + 1 ≤ g ∧ g < wr.heap.size := fun g hg => ⟨(HO.out.2.lt g hg).1, (HO.out.2.lt g hg).2.1⟩
          have HOW := Lib.hid hOwn
          have HGS := Lib.hid hGs
          have hzw3 : wr.heap.size ≤ w3.heap.size := hBr.size
          rw [← HBd.out] at hzr
          clear hR3 hB3 HX hBn hSn hBr3 hBr2 hBr hOwn hGs
          obtain ⟨wo, rfl⟩ : ∃ x, x = wr := ⟨_, rfl⟩
          go_frame
          go_loopg [7] met.length (fun gk _ wq => ∃ (todo ms : List Int), todo.length ≤ gk ∧ Hid (RngAt wq r b (ints met) todo) ∧ Hid (SetAt wq B ms) ∧ Hid (∀ t, t < N → ((t : Int) ∈ ms → doneB (rbN ps) N k t = true ∨ rbN ps k t = true) ∧ (doneB (rbN ps) N k t = true → (t : Int) ∈ ms) ∧ (rbN ps k t = true → (t : Int) ∈ ms ∨ (t : Int) ∈ todo)) ∧ Hid (∀ x ∈ todo, ∃ t ∈ met, x = (t : Int)) ∧ Hid (∀ g, g < w3.heap.size → g ≠ B → g ≠ r → wq.heap[g]? = w3.heap[g]?) ∧ Hid (Below B w wq) ∧ w3.heap.size ≤ wq.heap.size)
          case atStart =>
            refine ⟨ints met, ms, by rw [ints_length]; exact Nat.le_refl _, HR3, HS3, Lib.hid (fun t ht => ?_), Lib.hid (fun x hx => by simp only [ints, List.mem_map] at hx; obtain ⟨t, ht, e⟩ := hx; exact ⟨t, ht, e.symm⟩), Lib.hid (fun g _ _ _ => rfl), HBw3, Nat.le_refl _⟩
            have h0 := HM.out t ht
            have h1 := HMB.out t
            refine ⟨fun h => .inl (by rw [← h0]; exact decide_eq_true h), fun h => by rw [h] at h0; exact of_decide_eq_true h0, fun h => .inr (mem_ints.2 (by rw [h] at h1; exact of_decide_eq_true h1))⟩
          case round =>
            clear HR3 HS3 HM HBw3
            obtain ⟨todo, ms2, htl, HRQ, HSQ, HMQ, HTQ, HFQ, HBQ, hzq⟩ := hrel
            obtain ⟨wq, rfl⟩ : ∃ x, x = wr := ⟨_, rfl⟩
            go_wp2_with (at_next; refine wpList_next_set rfl _ rfl rfl HRQ.out ?_ ?_)
            · intro h0
              subst h0
              have HM2 : Hid (∀ t, t < N → decide ((t : Int) ∈ ms2) = doneB (rbN ps) N (k + 1) t) := Lib.hid (fun t ht => by
                obtain ⟨h1, h2, h3⟩ := HMQ.out t ht
                rw [mark_next HRB.out hlt HD.out HST.out, Bool.eq_iff_iff, decide_eq_true_iff, Bool.or_eq_true]
                exact ⟨h1, fun h => h.elim h2 (fun h => (h3 h).resolve_right (by simp))⟩)
              have hSbq := HRQ.out.set_
              have hbq := hSbq.lt
              have HXQ : Hid (Blk wq p6 50 #[.map (some b)]) := Lib.hid ((HFQ.out p6 (by omega) (by omega) (by omega)).trans HX3.out)
              have HSBQ := Lib.hid hSbq
              have HOQ := Lib.hid (And.intro (HO3.out.1.heap (fun g hg => by have := HOW.out g hg; exact HFQ.out g (by omega) (by omega) (by omega))) (HO3.out.2.blk (w' := wq) (v' := u3) (fun g hg => ⟨by have := HGS.out g hg; exact HFQ.out g (by omega) (by omega) (by omega), (HO3.out.2.lt g hg).2.2⟩) hzq))
              have HRN := Lib.hid (hx.out.below (show Below w.heap.size w wq by rw [← HBd.out]; exact HBQ.out))
              have HC : Hid (CloB wq N 61 #[.pointer (some ⟨p6, 0, none⟩)] (rbN ps k)) := Lib.hid (fun j wX hj hBX => by
                have h := attractors1_any b p6 j (ints met) wX (((HXQ.out.keep hBX).cell 0).trans rfl) (Lib.hid (HSBQ.out.below hBX))
                have e : decide ((j : Int) ∈ ints met) = rbN ps k j := by rw [← HMB.out j, Bool.eq_iff_iff, decide_eq_true_iff, decide_eq_true_iff, mem_ints]
                rw [e] at h
                exact h.mono fun e w' ⟨h1, h2⟩ => ⟨h1, by rw [← h2]; exact Below.refl _ _⟩)
              rw [HP6.out] at HC
              clear hSbq HMQ HTQ
              go_wp2_with fail
              refine (which_any _ _ _ N _ _ _ _ hn5 HN HF1.out HC).mono ?_
              rw [← HCY.out]
              rintro e w5 ⟨⟨A5, c5, rfl, hc5, hO5⟩, hB5⟩
              have hz5 := hB5.size
              obtain ⟨g, off, hA5, hcell⟩ := hO5.rd.at_ (k := 0) (v := .int .i64 (k : Int)) (by rw [List.getElem?_map, HL0.out]; rfl)
              subst hA5
              have hg : wq.heap.size ≤ g ∧ g < w5.heap.size := by
                refine ⟨?_, World.block_lt_of_cell? w5 _ hcell⟩
                rcases hO5 with h2 | ⟨g', off', hA', hB', _⟩
                · exact absurd h2 (by intro e; have := congrArg List.length e; rw [List.length_map, List.length_nil] at this; omega)
                · simp only [Option.some.injEq, Addr.mk.injEq] at hA'; omega
              have HO5 := Lib.hid (And.intro (HOQ.out.1.below hB5) (HOQ.out.2.below hB5))
              have HOW5 := Lib.hid (hO5.mono (show B + 1 ≤ _ by omega))
              have HNG := Lib.hid (And.intro (show g ∉ gs from fun hm => by have := HGS.out g hm; omega) (own_ne HOQ.out.1 hg.1))
              have HS5 := Lib.hid (HSQ.out.below hB5)
              have HB5 := Lib.hid (HBQ.out.trans (hB5.mono (show B ≤ _ by omega)))
              clear hO5 hB5 HOQ HSQ
              go_wp2_with (at_builtin; refine wp_pushL rfl _ _ _ rfl Tryd.underlying52 info_sl rfl HO5.out.1 rfl rfl (by omega) (by omega) ?_; intro v' w7 hown hbel hsz7 hblk)
              go_roundw
              case rel =>
                refine ⟨k + 1, gs ++ [g], ys ++ [.slice (some ⟨g, off, none⟩) l.length c5], ms2, by omega, by go_num, Lib.hid ⟨hown, ?_⟩, Lib.hid (HS5.out.blk (hblk B (by omega) (fun e => by have := HOW.out B e; omega)).1), HM2, Lib.hid (HB5.out.trans (hbel B (by omega)))⟩
                rw [HS2.out]
                have h1 := HO5.out.2.snoc (c := c5) HNG.out.1 (by omega) hg.2 HNG.out.2 hc5 HOW5.out
                refine h1.blk (fun x hx => ?_) hsz7
                have h2 := h1.lt x hx
                exact hblk x h2.2.1 h2.2.2
              case measure => simp [intOf]; omega
            · intro x todo' w5 hk5 hlen hsub1 hsub2 hR5 hg5 hen
              obtain ⟨t, htm, rfl⟩ := HTQ.out x hk5
              have htN := HML.out t htm
              have hSb5 := hR5.set_
              have HS5 := Lib.hid (HSQ.out.blk (hg5.block B (by have := HSQ.out.lt; omega) (by intro e; injection e; omega)))
              have hz5 := hg5.size
              have HR5 := Lib.hid hR5
              have htr : rbN ps k t = true := by rw [← HMB.out t]; simpa using htm
              have HM5 : Hid (∀ u, u < N → ((u : Int) ∈ (if (t : Int) ∈ ms2 then ms2 else ms2 ++ [(t : Int)]) → doneB (rbN ps) N k u = true ∨ rbN ps k u = true) ∧ (doneB (rbN ps) N k u = true → (u : Int) ∈ (if (t : Int) ∈ ms2 then ms2 else ms2 ++ [(t : Int)])) ∧ (rbN ps k u = true → (u : Int) ∈ (if (t : Int) ∈ ms2 then ms2 else ms2 ++ [(t : Int)]) ∨ (u : Int) ∈ todo')) := Lib.hid (fun u hu => by
                obtain ⟨h1, h2, h3⟩ := HMQ.out u hu
                have hsub : (u : Int) ∈ ms2 → (u : Int) ∈ (if (t : Int) ∈ ms2 then ms2 else ms2 ++ [(t : Int)]) := fun h => by split; exact h; simp [h]
                have htt : (t : Int) ∈ (if (t : Int) ∈ ms2 then ms2 else ms2 ++ [(t : Int)]) := by split <;> simp_all
                refine ⟨fun h => ?_, fun h => hsub (h2 h), fun h => ?_⟩
                · by_cases e : u = t
                  · subst e; exact .inr htr
                  · refine h1 ?_
                    split at h
                    · exact h
                    · rcases List.mem_append.1 h with h | h
                      · exact h
                      · simp at h; omega
                · rcases h3 h with h4 | h4
                  · exact .inl (hsub h4)
                  · rcases hsub1 _ h4 with h5 | h5
                    · left; rw [h5]; exact htt
                    · exact .inr h5)
              have HT5 : Hid (∀ x ∈ todo', ∃ t ∈ met, x = (t : Int)) := Lib.hid (fun x hx => HTQ.out x (hsub2 x hx))
              have HF5 : Hid (∀ g, g < w3.heap.size → g ≠ B → g ≠ r → w5.heap[g]? = w3.heap[g]?) := Lib.hid (fun g h1 h2 h3 => (hg5.block g (by omega) (by intro e; injection e with e; exact h3 e)).trans (HFQ.out g h1 h2 h3))
              have HB5 := Lib.hid (HBQ.out.trans (Below.of_grown hg5 (show B ≤ r by omega) (show B ≤ _ by omega)))
              have hbB : b ≠ B := by omega
              have hrB : r ≠ B := by omega
              clear hk5 hsub1 hsub2 hR5 hg5 htr hSb5 HMQ HTQ HFQ HBQ
              go_wp2_with (at_mapUpdate; refine wpList_put rfl _ _ _ rfl rfl rfl rfl HS5.out ?_; intro w7 hS7 hg7)
              have hz7 := hg7.size
              go_roundg todo'.length
              case rel => exact ⟨todo', _, Nat.le_refl _, Lib.hid (HR5.out.blk (hg7.block b HR5.out.set_.lt (by intro e; injection e with e; exact hbB e)) (hg7.block r HR5.out.lt (by intro e; injection e with e; exact hrB e))), Lib.hid hS7, HM5, HT5, Lib.hid (fun g h1 h2 h3 => (hg7.block g (by omega) (by intro e; injection e with e; exact h2 e)).trans (HF5.out g h1 h2 h3)), Lib.hid (HB5.out.trans (Below.of_grown hg7 (Nat.le_refl _) (by have := HB5.out.size; omega))), by omega⟩
              case measure => omega
        · have HST : Hid (std (rbN ps) N k = false) := Lib.hid (by simpa using hst)
          clear hst
          have HA := Lib.hid (mark_no2 HST.out)
          have HS2 : Hid (attTo (rbN ps) N (k + 1) = attTo (rbN ps) N k) := Lib.hid (attTo_no HA.out)
          have HM2 : Hid (∀ t, t < N → decide ((t : Int) ∈ ms) = doneB (rbN ps) N (k + 1) t) := Lib.hid (fun t ht => by rw [done_no HA.out]; exact HM.out t ht)
          go_wp2_with fail
          refine (steady_any _ _ _ N _ _ HR hok HN hlt).mono ?_
          rintro e w1 ⟨rfl, hB1⟩
          rw [HST.out]
          have HO2 := Lib.hid (And.intro (HO.out.1.below hB1) (HO.out.2.below hB1))
          have HSS := Lib.hid (HS.out.below hB1)
          have HB2 := Lib.hid (HB.out.trans (hB1.mono (show B ≤ _ by omega)))
          go_wp2_with fail
          go_roundw
          case rel => exact ⟨k + 1, gs, ys, ms, by omega, by go_num, by rw [HS2.out]; exact HO2, HSS, HM2, HB2⟩
          case measure => simp [intOf]; omega
    · have hkn : k = N := by omega
      subst hkn
      have HFI := HO.out.1
      obtain ⟨A', c', rfl, hc', hO'⟩ := HFI.form
      have HLL := Lib.hid HO.out.2
      have HLE : Hid (ys.length = (attTo (rbN ps) k k).length) := Lib.hid HO.out.2.len
      rw [HLE.out] at hc' HLL ⊢
      have HOO := Lib.hid (And.intro (hO'.mono (show B ≤ B + 1 by omega)) (HLL.out.mono (show B ≤ B + 1 by omega)))
      clear HFI hO'
      go_wp2_with fail
      go_ret
      exact ⟨⟨A', c', gs, ys, rfl, hc', HOO.out.1, HOO.out.2⟩, HB.out⟩

end Go.Proofs.YtfkdameegljkeaaDoor

/- Walks: more draws of a network and states. -/
namespace Go.Proofs.YtfkdameegljkeaaDoor
open Go.RowKit
set_option linter.unusedVariables false

theorem attN_mem {ps : List (List UInt8)} {xs : List Int} (h : xs ∈ attN ps) : 0 < xs.length ∧ xs.length ≤ 32 ∧ ∀ x ∈ xs, 0 ≤ x ∧ x < 32 := by
  by_cases hok : okN ps = true
  · obtain ⟨N, HN⟩ : ∃ N : Nat, N = 2 ^ ps.length := ⟨_, rfl⟩
    have h32 : N ≤ 32 := by rw [HN]; exact two_le _ (okN_le hok)
    rw [attN_yes hok HN, attTo, List.mem_map] at h
    obtain ⟨a, ha, rfl⟩ := h
    obtain ⟨h1, h2⟩ := mem_atts.1 ha
    refine ⟨(List.getElem?_eq_some_iff.1 (att_head (rbN_rb hok HN) h1 h2)).1, by rw [ints_length]; have := sel_len N (rbN ps a); omega, fun x hx => ?_⟩
    simp only [ints, List.mem_map] at hx
    obtain ⟨y, hy, rfl⟩ := hx
    have := (mem_sel.1 hy).1
    omega
  · rw [attN_no (by simpa using hok)] at h; simp at h

set_option maxHeartbeats 1000000 in
set_option maxRecDepth 100000 in
theorem l5Known_any (B g p : Nat) (w : World) (h : Rdr w B g p) (hp : p ≤ 700000) :
    Calls Tryd.prog 25 #[.pointer (some ⟨g, 0, none⟩)] w fun e w' => WithP w B g p 330 e w' := by
  go_enter Tryd.func25, Tryd.ntmps25
  go_wp2_with fail
  refine (l5Small_any B g p _ h (by omega)).mono ?_
  rintro e w1 ⟨t, s, p1, rfl, ht, hs, hp1, hR1, hG1⟩
  obtain ⟨ps, HPS⟩ : ∃ ps, Hid (ps = cutL t.data.toList) := ⟨_, rfl⟩
  go_wp2_with fail
  refine (sAttractorsOf_any t _ (by omega)).mono ?_
  rintro e w2 ⟨⟨A2, c2, gs, ys, rfl, hc2, hO2, hL2⟩, hB2⟩
  rw [← HPS.out] at hc2 hL2 ⊢
  have hz2 := hB2.size
  have hgl := hR1.lt.2
  have hR2 := hR1.keep hB2
  have HG2 := Lib.hid (grn_trans hG1 (grn_below hB2))
  obtain ⟨L, HL⟩ : ∃ L, Hid (L = attN ps) := ⟨_, rfl⟩
  rw [← HL.out] at hc2 hL2 ⊢
  have hLL : L.length ≤ 1000 := by rw [HL.out]; exact attN_len ps
  have HM := Lib.hid (fun xs (hx : xs ∈ L) => attN_mem (ps := ps) (by rw [← HL.out]; exact hx))
  have HO2 := Lib.hid (And.intro hO2 hL2)
  clear hR1 hG1 hB2 hO2 hL2
  by_cases h0 : 0 < L.length
  · go_wp2_with fail
    refine (pick_any B g p1 _ _ hR2 (by omega) (by omega) (by omega)).mono ?_
    rintro e w3 ⟨k, rfl, hk, hR3, hG3⟩
    have HG3 := Lib.hid (grn_trans HG2.out hG3)
    have HO3 := Lib.hid (And.intro (HO2.out.1.only hgl hG3) (HO2.out.2.blk (v' := .slice A2 L.length c2) (fun x hx => ⟨hG3.block x (HO2.out.2.lt x hx).2.1 (by intro e; injection e; have := (HO2.out.2.lt x hx).1; omega), (HO2.out.2.lt x hx).2.2⟩) hG3.size))
    clear hR2 hG3 HO2
    by_cases hk0 : 0 < k
    · go_wp2_with fail
      refine (pick_any B g (p1 + 1) _ _ hR3 (by omega) (by omega) (by omega)).mono ?_
      rintro e w4 ⟨i, rfl, hi, hR4, hG4⟩
      have hiL : i < L.length := by omega
      have HG4 := Lib.hid (grn_trans HG3.out hG4)
      have HO4 := Lib.hid (And.intro (HO3.out.1.only hgl hG4) (HO3.out.2.blk (v' := .slice A2 L.length c2) (fun x hx => ⟨hG4.block x (HO3.out.2.lt x hx).2.1 (by intro e; injection e; have := (HO3.out.2.lt x hx).1; omega), (HO3.out.2.lt x hx).2.2⟩) hG4.size))
      clear hR3 hG4 HO3 hi
      obtain ⟨xs, HXS⟩ : ∃ xs, Hid (L[i]? = some xs) := ⟨_, List.getElem?_eq_getElem hiL⟩
      obtain ⟨hx0, hx32, hxm⟩ := HM.out xs (List.mem_of_getElem? HXS.out)
      have HXM := Lib.hid hxm
      obtain ⟨g5, o5, c5, k1, k2, k3, k4⟩ := HO4.out.2.at_ i xs HXS.out
      have hg5 := (HO4.out.2.lt g5 (List.mem_of_getElem? k1)).1
      obtain ⟨gA, oA, rfl, hcell⟩ := HO4.out.1.rd.at_ k2
      have HK4 := Lib.hid k4
      clear k1 k2 k4 hxm
      have hgl4 := hR4.lt.2
      have hRd := hR4.keep (drewN_below _ 1)
      have HPK := Lib.hid (pick_any B g (p1 + 1 + 1) (xs.length : Int) (w4.drewN 1) hRd (by omega) (by omega) (by omega))
      go_wp2_with fail
      go_region_with (go_at_call 46; refine HPK.out.mono ?_; rintro e w5 ⟨j, rfl, hj, hR5, hG5⟩; have hjl : j < xs.length := (by omega); have HK5 := HK4.out.only (by omega) (grn_trans (grn_below (drewN_below w4 1)) hG5); have hc5 := (HK5.cell (k := j) (v := .int .i64 xs[j]) (by rw [List.getElem?_map, List.getElem?_eq_getElem hjl]; rfl)).1; have hxj := HXM.out xs[j] (List.getElem_mem hjl); have HGF := Lib.hid (grn_trans HG4.out (grn_trans (grn_below (drewN_below w4 1)) hG5)); clear hG5 HK5)
      all_goals
        go_wp2_with fail
        go_ret2
        exact ⟨t, xs[j], _, rfl, ht, by omega, by omega, hR5, HGF.out⟩
    · have hk00 : k = 0 := by omega
      subst hk00
      go_wp2
      go_ret2
      exact ⟨t, s, _, rfl, ht, hs, by omega, hR3, HG3.out⟩
  · have h00 : L.length = 0 := by omega
    have hL0 : L = [] := List.eq_nil_of_length_eq_zero h00
    subst hL0
    go_wp2
    go_ret2
    exact ⟨t, s, _, rfl, ht, hs, by omega, hR2, HG2.out⟩

/-- a text and two states have been drawn -/
def WithPP (w : World) (B g p q : Nat) (e : Ending) (w' : World) : Prop :=
  ∃ (t : ByteArray) (s u : Int) (p2 : Nat), e = .returned (.tuple #[.string t, .int .i64 s, .int .i64 u]) ∧ t.size ≤ 1010 ∧ (-1 ≤ s ∧ s ≤ 9223372036854775807) ∧ (-1 ≤ u ∧ u ≤ 9223372036854775807) ∧ p2 ≤ p + q ∧ Rdr w' B g p2 ∧ w.grownBy w' (some g)

theorem DrawMustReach_any (A : Option Addr) (n c : Nat) (bs : List Int) (w : World) (hn : n = bs.length) (hnc : n ≤ c) (hc : c ≤ 9223372036854775807) (hr : Hid (Rd w A (bs.map (Value.int .u8)))) (hx : Hid (∀ x ∈ bs, 0 ≤ x ∧ x < 256)) :
    Calls Tryd.prog 6 #[.slice A n c] w fun e w' => DrwS w.heap.size w e w' := by
  have HNL := Lib.hid hn
  clear hn
  go_enter Tryd.func6, Tryd.ntmps6
  go_wp2_with fail
  refine (l14Open_any _ _ _ _ _ HNL.out hnc hc hr hx).mono ?_
  rintro e w1 ⟨g, rfl, hR, hg, hB1⟩
  go_wp2_with fail
  refine (l5Known_any g g 0 _ hR (by omega)).mono ?_
  rintro e w2 ⟨t, s, p2, rfl, ht, hs, hp2, hR2, hG2⟩
  have HG := Lib.hid hG2
  clear hG2
  go_wp2
  go_ret2
  exact ⟨⟨t, s, rfl, ht, hs.1, hs.2⟩, hB1.trans (Below.of_grown HG.out hg hB1.size)⟩

end Go.Proofs.YtfkdameegljkeaaDoor

/- Walks of laws: the world under way, with the lists that can be read there. -/
namespace Go.Proofs.YtfkdameegljkeaaDoor
open Go.RowKit
set_option linter.unusedVariables false

/-- the world under way in a law: the cell of MaxLen is there, nothing that was there has changed, and the lists can be read -/
structure LawW (w0 w : World) (Ls : List (Option Addr × List Int)) : Prop where
  m : HasM w
  b : Below w0.heap.size w0 w
  r : ∀ x ∈ Ls, Rd w x.1 (x.2.map (Value.int .i64))
section
variable {w0 w w' : World} {Ls : List (Option Addr × List Int)}
theorem lw_step (h : Hid (LawW w0 w Ls)) (hb : Below w.heap.size w w') : Hid (LawW w0 w' Ls) :=
  Lib.hid ⟨h.out.m.below hb, h.out.b.trans (hb.mono h.out.b.size), fun x hx => (h.out.r x hx).below hb⟩
theorem lw_drew (h : Hid (LawW w0 w Ls)) (n : Nat) : Hid (LawW w0 (w.drewN n) Ls) := lw_step h (drewN_below _ n)
theorem lw_add {A : Option Addr} {L : List Int} (h : Hid (LawW w0 w Ls)) (hr : Rd w A (L.map (Value.int .i64))) : Hid (LawW w0 w ((A, L) :: Ls)) :=
  Lib.hid ⟨h.out.m, h.out.b, fun x hx => (List.mem_cons.1 hx).elim (fun e => e ▸ hr) (h.out.r x)⟩
theorem lw_m (h : Hid (LawW w0 w Ls)) : Hid (HasM w) := Lib.hid h.out.m
theorem lw_rd {A : Option Addr} {L : List Int} (h : Hid (LawW w0 w Ls)) (i : Nat) (hi : Ls[i]? = some (A, L)) : Hid (Rd w A (L.map (Value.int .i64))) :=
  Lib.hid (h.out.r _ (List.mem_of_getElem? hi))
theorem lw_cut (h : Hid (LawW w0 w Ls)) (i : Nat) : Hid (LawW w0 w (Ls.drop i)) :=
  Lib.hid ⟨h.out.m, h.out.b, fun x hx => h.out.r x (List.mem_of_mem_drop hx)⟩
theorem lw_cell {g off j : Nat} {L : List Int} {v : Int} (h : Hid (LawW w0 w Ls)) (i : Nat) (hi : Ls[i]? = some (some ⟨g, off, none⟩, L)) (hv : Hid (L[j]? = some v)) : w.cell? ⟨g, off + j, none⟩ = some (.int .i64 v) :=
  (lw_rd h i hi).out.cell (by rw [List.getElem?_map, hv.out]; rfl)
/-- a list that is not empty lies somewhere -/
theorem lw_form {A : Option Addr} {L : List Int} (h : Hid (LawW w0 w Ls)) (i : Nat) (hi : Ls[i]? = some (A, L)) (h0 : 0 < L.length) : ∃ g off, A = some ⟨g, off, none⟩ := by
  obtain ⟨g, off, hA, _⟩ := (lw_rd h i hi).out.at_ (k := 0) (v := .int .i64 L[0]) (by rw [List.getElem?_map, List.getElem?_eq_getElem h0]; rfl)
  exact ⟨g, off, hA⟩
end

end Go.Proofs.YtfkdameegljkeaaDoor

/- Walks: TurnNetwork, on both sides. -/
namespace Go.Proofs.YtfkdameegljkeaaDoor
open Go.RowKit
set_option linter.unusedVariables false

/-- the text of a network with a switch the other way round -/
def turnN (ps : List (List UInt8)) (t : Int) : List UInt8 := if okSw ps t then joinN (frS ps.length (trnF ps (2 ^ t.toNat))) else []
theorem turnN_no {ps : List (List UInt8)} {t : Int} (h : okSw ps t = false) : turnN ps t = [] := by rw [turnN, h]; rfl
theorem turnN_yes {ps : List (List UInt8)} {k : Nat} (h : okSw ps (k : Int) = true) : turnN ps (k : Int) = joinN (frS ps.length (trnF ps (2 ^ k))) := by rw [turnN, if_pos h]; rfl
/-- a text and whether there is one -/
def txtV (l : List UInt8) (b : Bool) : Value := .tuple #[.string ⟨l.toArray⟩, .bool b]

theorem bit_xor_pow : ∀ y, y < 32 → ∀ i, i < 5 → ∀ k, k < 5 → bit (y ^^^ 2 ^ i) k = if k = i then 1 - bit y k else bit y k := by decide +kernel
/-- the value of a rule of the turned network -/
def turnV (ps : List (List UInt8)) (i k s : Nat) : Nat := bit (trnF ps (2 ^ i) s) k
theorem turnV_eq {ps : List (List UInt8)} (h : okN ps = true) {i k : Nat} (hi : i < ps.length) (hk : k < ps.length) (s : Nat) :
    turnV ps i k s = if k = i then 1 - val ps[k] (s ^^^ 2 ^ i) else val ps[k] (s ^^^ 2 ^ i) := by
  have h5 := okN_le h
  have hy : stp ps (s ^^^ 2 ^ i) < 32 := Nat.lt_of_lt_of_le (stp_lt h _) (two_le _ h5)
  have hb : bit (stp ps (s ^^^ 2 ^ i)) k = val ps[k] (s ^^^ 2 ^ i) := by
    rw [stp, bit_asm (nb_lt h _) k _ hk, nb_at _ hk]
  rw [turnV, trnF, bit_xor_pow _ hy i (by omega) k (by omega), hb]
def turnVs (ps : List (List UInt8)) (i k j : Nat) : List Nat := (List.range j).map (turnV ps i k)
theorem turnVs_len (ps : List (List UInt8)) (i k j : Nat) : (turnVs ps i k j).length = j := by simp [turnVs]
theorem turnVs_succ (ps : List (List UInt8)) (i k j : Nat) : ints (turnVs ps i k (j + 1)) = ints (turnVs ps i k j) ++ [(turnV ps i k j : Int)] := by
  rw [turnVs, turnVs, List.range_succ, List.map_append, ints_append]; rfl
theorem turnVs_lt (ps : List (List UInt8)) (i k j : Nat) : ∀ x ∈ turnVs ps i k j, x < 2 := by
  intro x hx
  simp only [turnVs, List.mem_map] at hx
  obtain ⟨s, _, rfl⟩ := hx
  exact bit_lt _ _
theorem turnVs_txt (ps : List (List UInt8)) (i k : Nat) (N : Nat) : chrs (turnVs ps i k N) = txt N fun s => bit (trnF ps (2 ^ i) s) k := by
  rw [chrs, turnVs, txt, List.map_map]; rfl
theorem frS_lens {n : Nat} (h5 : n ≤ 5) (f : Nat → Nat) : ∀ p ∈ frS n f, p.length ≤ 32 := by
  intro p hp
  simp only [frS, List.mem_map] at hp
  obtain ⟨k, _, rfl⟩ := hp
  rw [txt_length]; exact two_le n h5

theorem bytes_eqb (a : ByteArray) : (a != a) = false := by
  have := (MapKept.bytes_beq a a).2 rfl
  simp [bne, this]
end Go.Proofs.YtfkdameegljkeaaDoor

/- Plain facts: texts of networks cut and joined, networks of a given step, networks turned. -/
namespace Go.Proofs.YtfkdameegljkeaaDoor
open Go.RowKit
set_option linter.unusedVariables false

theorem joinN_cons {p q : List UInt8} {r : List (List UInt8)} : joinN (p :: q :: r) = p ++ 44 :: joinN (q :: r) := by
  rw [joinN, joinN, Lib.join_cons, Lib.join_cons]
  simp [Lib.joinTail]
theorem joinN_single (p : List UInt8) : joinN [p] = p := Lib.join_one p [44]
/-- a text cut and joined again -/
theorem joinN_cut : ∀ (n : Nat) (s : List UInt8), s.length ≤ n → joinN (cutL s) = s
  | 0, s, h => by
    have : s = [] := List.length_eq_zero_iff.1 (by omega)
    subst this
    rw [cutL, joinN_single]
  | n + 1, s, h => by
    rcases cut_cases s with h1 | ⟨p, l, rfl, h1⟩
    · rw [cutL_end h1, joinN_single]
    · have ih := joinN_cut n l (by simp at h; omega)
      rw [cutL_comma l h1]
      cases hc : cutL l with
      | nil => exact absurd hc (cutL_ne l)
      | cons q r => rw [joinN_cons, ← hc, ih]
/-- parts joined and cut again -/
theorem cutL_join : ∀ (qs : List (List UInt8)), qs ≠ [] → (∀ p ∈ qs, ∀ c ∈ p, c ≠ 44) → cutL (joinN qs) = qs
  | [], h, _ => absurd rfl h
  | [p], _, h => by rw [joinN_single, cutL_end (h p (by simp))]
  | p :: q :: r, _, h => by rw [joinN_cons, cutL_comma _ (h p (by simp)), cutL_join (q :: r) (by simp) (fun x hx => h x (List.mem_cons_of_mem _ hx))]
theorem chr_ne : ∀ d, d < 2 → chr d ≠ 44 := by decide
theorem frS_ne44 {n : Nat} {f : Nat → Nat} : ∀ p ∈ frS n f, ∀ c ∈ p, c ≠ 44 := by
  intro p hp c hc
  simp only [frS, List.mem_map] at hp
  obtain ⟨k, _, rfl⟩ := hp
  simp only [txt, List.mem_map] at hc
  obtain ⟨s, _, rfl⟩ := hc
  exact chr_ne _ (bit_lt _ _)
theorem frS_cut {n : Nat} {f : Nat → Nat} (h1 : 1 ≤ n) : cutL (joinN (frS n f)) = frS n f :=
  cutL_join _ (fun e => by have := congrArg List.length e; rw [frS_length, List.length_nil] at this; omega) frS_ne44
theorem asm_congr {b c : Nat → Nat} : ∀ k, (∀ i, i < k → b i = c i) → asm b k = asm c k
  | 0, _ => rfl
  | k + 1, h => by rw [asm, asm, asm_congr k (fun i hi => h i (by omega)), h k (by omega)]
theorem asm_bits {x n : Nat} (h : x < 2 ^ n) : asm (bit x) n = x :=
  bit_ext (asm_lt (fun i => bit_lt x i) n) h fun i hi => bit_asm (fun i => bit_lt x i) i n hi
/-- the step of a network that was made of a step -/
theorem stp_frS {n : Nat} {f : Nat → Nat} {s : Nat} (hs : s < 2 ^ n) (hf : f s < 2 ^ n) : stp (frS n f) s = f s := by
  rw [stp, frS_length]
  refine (asm_congr n fun i hi => ?_).trans (asm_bits hf)
  have hi2 : i < (frS n f).length := by rw [frS_length]; exact hi
  rw [nb_at s hi2, frS_get n f hi]
  exact val_txt hs (bit_lt _ _)
theorem frS_congr {n : Nat} {f g : Nat → Nat} (h : ∀ s, s < 2 ^ n → f s = g s) : frS n f = frS n g := by
  unfold frS
  refine List.map_congr_left fun k _ => txt_congr fun s hs => by rw [h s hs]
/-- a network is made of its own step -/
theorem frS_stp {ps : List (List UInt8)} (h : okN ps = true) : frS ps.length (stp ps) = ps := by
  refine List.ext_getElem (frS_length _ _) fun i h1 h2 => ?_
  rw [frS_get _ _ h2]
  refine Eq.trans (txt_congr fun s hs => ?_) (txt_tv h rfl h2)
  rw [stp_bit h h2, nb_at s h2, tv, if_pos hs]
theorem xor_self_ (a b : Nat) : a ^^^ b ^^^ b = a := by rw [Nat.xor_assoc, Nat.xor_self, Nat.xor_zero]
/-- turned twice it is the network -/
theorem trn_twice {ps : List (List UInt8)} (h : okN ps = true) {m : Nat} (hm : m < 2 ^ ps.length) : frS ps.length (trnF (frS ps.length (trnF ps m)) m) = ps := by
  refine Eq.trans (frS_congr fun s hs => ?_) (frS_stp h)
  have hx : s ^^^ m < 2 ^ ps.length := Nat.xor_lt_two_pow hs hm
  rw [trnF, stp_frS hx (trnF_lt h hm _), trnF, xor_self_, xor_self_]
theorem sel_xor_le {p : Nat → Bool} {n m : Nat} (hm : m < 2 ^ n) : (sel (2 ^ n) fun s => p (s ^^^ m)).length ≤ (sel (2 ^ n) p).length := by
  have h1 : ((sel (2 ^ n) fun s => p (s ^^^ m)).map (· ^^^ m)).Nodup := by
    refine List.Pairwise.map _ (fun a b hab e => hab ?_) (sel_nodup _ _)
    have := congrArg (· ^^^ m) e
    simp only [xor_self_] at this
    exact this
  have := sel_ge (p := p) (N := 2 ^ n) h1 (fun x hx => by
    simp only [List.mem_map] at hx
    obtain ⟨y, hy, rfl⟩ := hx
    obtain ⟨h2, h3⟩ := sel_mem.1 hy
    exact ⟨Nat.xor_lt_two_pow h2 hm, h3⟩)
  rwa [List.length_map] at this
theorem sel_xor {p : Nat → Bool} {n m : Nat} (hm : m < 2 ^ n) : (sel (2 ^ n) fun s => p (s ^^^ m)).length = (sel (2 ^ n) p).length := by
  have h1 := sel_xor_le (p := p) hm
  have h2 := sel_xor_le (p := fun s => p (s ^^^ m)) hm
  have e : (fun s => (fun s => p (s ^^^ m)) (s ^^^ m)) = p := by funext s; simp only [xor_self_]
  rw [e] at h2
  omega
theorem sel_congr {N : Nat} {p q : Nat → Bool} (h : ∀ s, s < N → p s = q s) : sel N p = sel N q := by
  unfold sel
  exact List.filter_congr fun s hs => h s (List.mem_range.1 hs)
/-- a turned network has as many fixed points -/
theorem fix_trn {ps : List (List UInt8)} (h : okN ps = true) (h1 : 1 ≤ ps.length) {m : Nat} (hm : m < 2 ^ ps.length) : (fixN (frS ps.length (trnF ps m))).length = (fixN ps).length := by
  have hn5 := okN_le h
  have hf : okN (frS ps.length (trnF ps m)) = true := frS_ok h1 hn5
  rw [fixN_yes hf rfl, fixN_yes h rfl, frS_length, ← sel_xor (p := fixB ps) hm]
  congr 1
  refine sel_congr fun s hs => ?_
  rw [fixB, fixB, stp_frS hs (trnF_lt h hm s), trnF, Bool.eq_iff_iff, beq_iff_eq, beq_iff_eq]
  constructor
  · intro e
    have := congrArg (· ^^^ m) e
    simp only [xor_self_] at this
    exact this
  · intro e
    rw [e, xor_self_]

end Go.Proofs.YtfkdameegljkeaaDoor

/- Plain facts on all cycles of a network. -/
namespace Go.Proofs.YtfkdameegljkeaaDoor
open Go.RowKit
set_option linter.unusedVariables false

/-- the sum of g over the first k elements -/
def idxS (g : Nat → Nat) (cs : List Nat) : Nat → Nat
  | 0 => 0
  | k + 1 => idxS g cs k + g (cs.getD k 0)
theorem idxS_app (g : Nat → Nat) (l : List Nat) (a : Nat) : ∀ k, k ≤ l.length → idxS g (l ++ [a]) k = idxS g l k
  | 0, _ => rfl
  | k + 1, h => by
    rw [idxS, idxS, idxS_app g l a k (by omega), List.getD_eq_getElem?_getD, List.getElem?_append_left (by omega), ← List.getD_eq_getElem?_getD]
theorem idxS_sel (g : Nat → Nat) (p : Nat → Bool) : ∀ N, idxS g (sel N p) (sel N p).length = sumTo (fun s => if p s = true then g s else 0) N
  | 0 => rfl
  | N + 1 => by
    rw [sumTo]
    by_cases h : p N = true
    · rw [sel_yes h, List.length_append, List.length_singleton, idxS, idxS_app _ _ _ _ (Nat.le_refl _), idxS_sel g p N, if_pos h]
      congr 2
      rw [List.getD_eq_getElem?_getD, List.getElem?_append_right (Nat.le_refl _), Nat.sub_self]; rfl
    · rw [sel_no (by simpa using h), idxS_sel g p N, if_neg h]; omega
theorem sel_count (p : Nat → Bool) : ∀ N, (sel N p).length = sumTo (fun s => if p s = true then 1 else 0) N
  | 0 => rfl
  | N + 1 => by
    rw [sumTo]
    by_cases h : p N = true
    · rw [sel_yes h, List.length_append, List.length_singleton, sel_count p N, if_pos h]
    · rw [sel_no (by simpa using h), sel_count p N, if_neg h]; omega
section
variable {f : Nat → Nat} {N : Nat} (hN : N ≤ 32) (hf : ∀ x, x < N → f x < N)
include hN hf
theorem cy0_all {s : Nat} (hs : s < N) : cy0 f s < N ∧ cy0 f (cy0 f s) = cy0 f s := by
  obtain ⟨L, T, h⟩ := orb_form hN hf hs
  obtain ⟨_, _, j, hj⟩ := h.cyc_ hN hf hs
  have h1 := itf_lt hf hs j
  have h2 := cy0_itf hN hf j s hs
  rw [hj] at h1 h2
  exact ⟨h1, h2⟩
/-- the basins have each state once -/
theorem bas_sum : idxS (fun s => (sel N fun k => cy0 f k == s).length) (sel N fun s => cy0 f s == s) (sel N fun s => cy0 f s == s).length = N := by
  rw [idxS_sel]
  refine Eq.trans (sumTo_congr N fun s hs => ?_) (sum_sel (f := cy0 f) N fun x hx => (cy0_all hN hf hx).1)
  by_cases h : cy0 f s = s
  · rw [if_pos (by simpa using h)]
  · rw [if_neg (by simpa using h)]
    refine (List.length_eq_zero_iff.2 ?_).symm
    rw [List.eq_nil_iff_forall_not_mem]
    intro k hk
    obtain ⟨h1, h2⟩ := sel_mem.1 hk
    have h3 : cy0 f k = s := by simpa using h2
    have h4 := (cy0_all hN hf h1).2
    rw [h3] at h4
    exact h h4
theorem fix_cyc {s : Nat} (hs : s < N) : f s = s ↔ cy0 f s = s ∧ (cyc f s).length = 1 := by
  constructor
  · intro e
    have h1 : OrbF f N s 1 0 := orb_uniq hN hf hs (by omega) (itl_nodup fun i j hij hj => by omega) e
    have hr : rnd f s = [s] := h1.rnd_
    have hc : cy0 f s = s := by rw [cy0, hr]; simp [minN]
    obtain ⟨h2, _, _⟩ := h1.cyc_ hN hf hs
    exact ⟨hc, by rw [h2, itl_len]⟩
  · rintro ⟨h1, h2⟩
    obtain ⟨L, T, h⟩ := orb_form hN hf hs
    obtain ⟨e, g, _⟩ := h.cyc_ hN hf hs
    rw [e, itl_len] at h2
    rw [h1, h2] at g
    exact g.rep
/-- cycles of one state are the fixed points -/
theorem fix_sum : idxS (fun s => if (cyc f s).length = 1 then 1 else 0) (sel N fun s => cy0 f s == s) (sel N fun s => cy0 f s == s).length = (sel N fun s => f s == s).length := by
  rw [idxS_sel, sel_count]
  refine sumTo_congr N fun s hs => ?_
  have h := fix_cyc hN hf hs
  by_cases h1 : cy0 f s = s
  · rw [if_pos (by simpa using h1)]
    by_cases h2 : (cyc f s).length = 1
    · rw [if_pos h2, if_pos (by simpa using h.2 ⟨h1, h2⟩)]
    · rw [if_neg h2, if_neg (by simpa using fun e => h2 (h.1 e).2)]
  · rw [if_neg (by simpa using h1), if_neg (by simpa using fun e => h1 (h.1 e).1)]
theorem cyl_pos (h0 : 0 < N) : 0 < (sel N fun s => cy0 f s == s).length := by
  have h := cy0_all hN hf h0
  have hm : cy0 f 0 ∈ sel N fun s => cy0 f s == s := sel_mem.2 ⟨h.1, by simpa using h.2⟩
  exact List.length_pos_of_mem hm
end
theorem idxS_le {g : Nat → Nat} {cs : List Nat} {c : Nat} (h : ∀ s, g s ≤ c) : ∀ k, idxS g cs k ≤ c * k
  | 0 => by simp [idxS]
  | k + 1 => by
    have := idxS_le (cs := cs) h k
    have := h (cs.getD k 0)
    rw [idxS, Nat.mul_succ]; omega
theorem LL.rd_of {w : World} {B g off n c : Nat} {v : Value} {gs : List Nat} {ys : List Value} {xss : List (List Int)} {k : Nat} {l : List Int} (h : LL w B v gs ys xss) (hi : xss[k]? = some l) (hy : ys[k]? = some (.slice (some ⟨g, off, none⟩) n c)) : Rd w (some ⟨g, off, none⟩) (l.map (Value.int .i64)) := by
  obtain ⟨g', off', c', h1, h2, h3, h4⟩ := h.at_ k l hi
  rw [h2] at hy
  simp only [Option.some.injEq, Value.slice.injEq, Addr.mk.injEq] at hy
  obtain ⟨⟨rfl, rfl, _⟩, _, _⟩ := hy
  exact h4.rd

end Go.Proofs.YtfkdameegljkeaaDoor

/- Walks of the program's UnreachedOf. -/
namespace Go.Proofs.YtfkdameegljkeaaDoor
open Go.RowKit
set_option linter.unusedVariables false

/-- the states after the first k ones, each once, in the order in which they come -/
def stSet (ps : List (List UInt8)) : Nat → List Int
  | 0 => []
  | k + 1 => if (stp ps k : Int) ∈ stSet ps k then stSet ps k else stSet ps k ++ [(stp ps k : Int)]
theorem stSet_mem (ps : List (List UInt8)) (x : Int) : ∀ k, x ∈ stSet ps k ↔ ∃ s, s < k ∧ x = (stp ps s : Int)
  | 0 => by simp [stSet]
  | k + 1 => by
    have ih := stSet_mem ps x k
    rw [stSet]
    constructor
    · intro h
      have h2 : x ∈ stSet ps k ∨ x = (stp ps k : Int) := by
        split at h
        · exact .inl h
        · simpa using h
      rcases h2 with h2 | h2
      · obtain ⟨s, h3, h4⟩ := ih.1 h2
        exact ⟨s, by omega, h4⟩
      · exact ⟨k, by omega, h2⟩
    · rintro ⟨s, h3, h4⟩
      by_cases e : s = k
      · subst e; subst h4; split <;> simp_all
      · have := ih.2 ⟨s, by omega, h4⟩
        split <;> simp_all
theorem unr_eq {ps : List (List UInt8)} {N k : Nat} (h : okN ps = true) (hN : N = 2 ^ ps.length) (hk : k < N) : (!decide ((k : Int) ∈ stSet ps N)) = (befN ps (k : Int)).isEmpty := by
  have ho : okSt ps (k : Int) = true := by rw [okSt, h, Bool.true_and]; exact (inW_yes hN).2 ⟨by omega, by omega⟩
  rw [befN_yes ho hN, Bool.eq_iff_iff]
  simp only [Bool.not_eq_true', decide_eq_false_iff_not, stSet_mem, List.isEmpty_iff, ints, List.map_eq_nil_iff, sel, List.filter_eq_nil_iff, List.mem_range, beq_iff_eq]
  constructor
  · intro h s hs e; exact h ⟨s, hs, by rw [e]⟩
  · rintro h ⟨s, hs, e⟩; exact h s hs (by omega)

end Go.Proofs.YtfkdameegljkeaaDoor

/- Walks of NetworkValid and IsReversible. -/
namespace Go.Proofs.YtfkdameegljkeaaDoor
open Go.RowKit
set_option linter.unusedVariables false

def revN (ps : List (List UInt8)) : Bool := okN ps && (unrN ps).isEmpty

end Go.Proofs.YtfkdameegljkeaaDoor

/- Plain facts on reversible networks. -/
namespace Go.Proofs.YtfkdameegljkeaaDoor
open Go.RowKit
set_option linter.unusedVariables false

theorem nodup_sub : ∀ {l m : List Nat}, l.Nodup → (∀ x ∈ l, x ∈ m) → l.length ≤ m.length
  | [], m, _, _ => by simp
  | a :: l, m, h, hs => by
    have h1 := List.nodup_cons.1 h
    have ha := hs a (by simp)
    have ih := nodup_sub (l := l) (m := m.erase a) h1.2 (fun x hx => (List.mem_erase_of_ne (by intro e; subst e; exact h1.1 hx)).2 (hs x (by simp [hx])))
    rw [List.length_erase_of_mem ha] at ih
    have := List.length_pos_of_mem ha
    simp only [List.length_cons]; omega
theorem sumTo_ones {g : Nat → Nat} : ∀ N, (∀ k, k < N → 1 ≤ g k) → N ≤ sumTo g N ∧ ∀ k, k < N → 2 ≤ g k → N + 1 ≤ sumTo g N
  | 0, _ => ⟨Nat.le_refl _, fun k hk => by omega⟩
  | N + 1, h => by
    obtain ⟨h1, h2⟩ := sumTo_ones N (fun k hk => h k (by omega))
    have h3 := h N (by omega)
    refine ⟨by rw [sumTo]; omega, fun k hk h4 => ?_⟩
    rw [sumTo]
    by_cases e : k = N
    · subst e; omega
    · have := h2 k (by omega) h4; omega
theorem before_inj {f : Nat → Nat} {N : Nat} (hf : ∀ x, x < N → f x < N) (h : ∀ s, s < N → ∃ k, k < N ∧ f k = s) {x y : Nat} (hx : x < N) (hy : y < N) (e : f x = f y) : x = y := by
  by_cases hxy : x = y
  · exact hxy
  · have h1 := sum_sel (f := f) N hf
    have h2 := sumTo_ones (g := fun k => (sel N fun z => f z == k).length) N (fun k hk => by
      obtain ⟨z, hz, hz2⟩ := h k hk
      exact List.length_pos_of_mem (sel_mem.2 ⟨hz, by simpa using hz2⟩))
    have h3 := sel_ge (p := fun z => f z == f x) (N := N) (l := [x, y]) (by simp [hxy]) (fun z hz => by
      simp at hz
      rcases hz with rfl | rfl
      · exact ⟨hx, by simp⟩
      · exact ⟨hy, by simp [e]⟩)
    have h4 := h2.2 (f x) (hf x hx) h3
    omega
section
variable {f : Nat → Nat} {N : Nat} (hN : N ≤ 32) (hf : ∀ x, x < N → f x < N)
include hN hf
theorem tail_before (h : ∀ s, s < N → (orb f s).2 = 0) {s : Nat} (hs : s < N) : ∃ k, k < N ∧ f k = s := by
  obtain ⟨L, T, hF⟩ := orb_form hN hf hs
  have h1 := h s hs
  rw [hF.eq] at h1
  have h2 : T = 0 := h1
  subst h2
  obtain ⟨j, hj, _⟩ := hF.before
  exact ⟨itf f j s, itf_lt hf hs j, hj⟩
theorem before_tail (h : ∀ s, s < N → ∃ k, k < N ∧ f k = s) {s : Nat} (hs : s < N) : (orb f s).2 = 0 := by
  obtain ⟨L, T, hF⟩ := orb_form hN hf hs
  rw [hF.eq]
  show T = 0
  by_cases hT : T = 0
  · exact hT
  · have hlt := hF.lt
    have h1 := hF.rep
    have e1 : itf f L s = f (itf f (L - 1) s) := by rw [← itf_succ f]; congr 1; omega
    have e2 : itf f T s = f (itf f (T - 1) s) := by rw [← itf_succ f]; congr 1; omega
    rw [e1, e2] at h1
    have h2 := before_inj hf h (itf_lt hf hs _) (itf_lt hf hs _) h1
    have := itl_inj hF.nd (show L - 1 < L by omega) (show T - 1 < L by omega) h2
    omega
/-- the states of a cycle are those without a tail that have its least state -/
theorem cyc_count {s : Nat} (hs : s < N) (hr : cy0 f s = s) : (cyc f s).length = (sel N fun k => (orb f k).2 == 0 && cy0 f k == s).length := by
  obtain ⟨p, hC⟩ := cyc_all hN hf hs
  apply Nat.le_antisymm
  · refine sel_ge hC.nd fun x hx => ?_
    obtain ⟨i, hi, e⟩ := List.getElem_of_mem hx
    have hi2 : i < p := by rw [← hC.len]; exact hi
    have e2 : (cyc f s).getD i 0 = x := by rw [List.getD_eq_getElem?_getD, List.getElem?_eq_getElem hi, Option.getD_some, e]
    have h1 := hC.lt i hi2
    have h2 := hC.base i hi2
    have h3 := hC.tail i hi2
    rw [e2] at h1 h2 h3
    exact ⟨h1, by simp [h2, h3, hr]⟩
  · refine nodup_sub (sel_nodup _ _) fun x hx => ?_
    obtain ⟨h1, h2⟩ := sel_mem.1 hx
    rw [Bool.and_eq_true, beq_iff_eq, beq_iff_eq] at h2
    rw [← cyc_same hN hf hs h1 (by rw [h2.2, hr])]
    obtain ⟨L, T, hF⟩ := orb_form hN hf h1
    have h3 := h2.1
    rw [hF.eq] at h3
    have h4 : T = 0 := h3
    subst h4
    have hm : x ∈ rnd f x := by
      rw [hF.rnd_]
      exact itl_mem.2 ⟨0, by have := hF.lt; omega, rfl⟩
    rw [cyc, rot]
    have := List.take_append_drop (mni (rnd f x)) (rnd f x)
    rw [← this] at hm
    rcases List.mem_append.1 hm with hm | hm
    · exact List.mem_append.2 (.inr hm)
    · exact List.mem_append.2 (.inl hm)
theorem sum_selq (q : Nat → Bool) : ∀ M, M ≤ N → sumTo (fun k => (sel M fun x => q x && cy0 f x == k).length) N = (sel M q).length
  | 0, _ => by
    have : (fun k => (sel 0 fun x => q x && cy0 f x == k).length) = fun _ => 0 := rfl
    rw [this, sumTo_zero]; rfl
  | M + 1, h => by
    have ih := sum_selq q M (by omega)
    by_cases hq : q M = true
    · have e : (fun k => (sel (M + 1) fun x => q x && cy0 f x == k).length) = fun k => (sel M fun x => q x && cy0 f x == k).length + (if cy0 f M = k then 1 else 0) := by
        funext k
        by_cases hk : cy0 f M = k
        · rw [sel_yes (by simp [hq, hk]), List.length_append, if_pos hk]; rfl
        · rw [sel_no (by simp [hk]), if_neg hk]; rfl
      rw [e, sumTo_add, ih, sumTo_one, if_pos (cy0_all hN hf (show M < N by omega)).1, sel_yes hq, List.length_append]; rfl
    · have hq' : q M = false := by simpa using hq
      have e : (fun k => (sel (M + 1) fun x => q x && cy0 f x == k).length) = fun k => (sel M fun x => q x && cy0 f x == k).length := by
        funext k
        rw [sel_no (by simp [hq'])]
      rw [e, ih, sel_no hq']
/-- all cycles have just the states without a tail -/
theorem cyc_sum : idxS (fun s => (cyc f s).length) (sel N fun s => cy0 f s == s) (sel N fun s => cy0 f s == s).length = (sel N fun k => (orb f k).2 == 0).length := by
  rw [idxS_sel, ← sum_selq hN hf (fun k => (orb f k).2 == 0) N (Nat.le_refl _)]
  refine sumTo_congr N fun s hs => ?_
  by_cases h : cy0 f s = s
  · rw [if_pos (by simpa using h)]; exact cyc_count hN hf hs h
  · rw [if_neg (by simpa using h)]
    refine (List.length_eq_zero_iff.2 ?_).symm
    rw [List.eq_nil_iff_forall_not_mem]
    intro k hk
    obtain ⟨h1, h2⟩ := sel_mem.1 hk
    rw [Bool.and_eq_true, beq_iff_eq, beq_iff_eq] at h2
    have h4 := (cy0_all hN hf h1).2
    rw [h2.2] at h4
    exact h h4
end
theorem sel_full {p : Nat → Bool} : ∀ N, (sel N p).length = N ↔ ∀ s, s < N → p s = true
  | 0 => by simp [sel]
  | N + 1 => by
    have ih := sel_full (p := p) N
    have hl := sel_len N p
    by_cases h : p N = true
    · rw [sel_yes h, List.length_append, List.length_singleton]
      constructor
      · intro e s hs
        by_cases e2 : s = N
        · subst e2; exact h
        · exact ih.1 (by omega) s (by omega)
      · intro h2
        rw [ih.2 fun s hs => h2 s (by omega)]
    · rw [sel_no (by simpa using h)]
      constructor
      · intro e; omega
      · intro h2; exact absurd (h2 N (by omega)) h
theorem lonTo_zero {ps : List (List UInt8)} : ∀ N, lonTo ps N = 0 ↔ ∀ s, s < N → (orb (stp ps) s).2 = 0
  | 0 => by simp [lonTo]
  | N + 1 => by
    have ih := lonTo_zero (ps := ps) N
    rw [lonTo]
    constructor
    · intro e s hs
      by_cases e2 : s = N
      · subst e2; omega
      · exact ih.1 (by omega) s (by omega)
    · intro h
      have h1 := ih.2 fun s hs => h s (by omega)
      have h2 := h N (by omega)
      omega
theorem sel_none {p : Nat → Bool} {N : Nat} : (sel N p).length = 0 ↔ ∀ s, s < N → p s = false := by
  rw [List.length_eq_zero_iff, List.eq_nil_iff_forall_not_mem]
  constructor
  · intro h s hs
    cases hp : p s
    · rfl
    · exact absurd (sel_mem.2 ⟨hs, hp⟩) (h s)
  · intro h s hs
    obtain ⟨h1, h2⟩ := sel_mem.1 hs
    rw [h s h1] at h2; cases h2
/-- what is told of a reversible network -/
theorem rev_all {ps : List (List UInt8)} {N : Nat} (hok : okN ps = true) (hN : N = 2 ^ ps.length) (h32 : N ≤ 32) :
    (revN ps = true ↔ lonTo ps N = 0) ∧ (revN ps = true ↔ (unrN ps).length = 0) ∧ (revN ps = true ↔ (sel N fun k => (orb (stp ps) k).2 == 0).length = N) := by
  have hf : ∀ x, x < N → stp ps x < N := fun x _ => by rw [hN]; exact stp_lt hok x
  have hr : revN ps = true ↔ (unrN ps).length = 0 := by rw [revN, hok, Bool.true_and, List.isEmpty_iff, List.length_eq_zero_iff]
  have hu : (unrN ps).length = 0 ↔ ∀ s, s < N → ∃ k, k < N ∧ stp ps k = s := by
    rw [unrN_yes hok hN, ints_length, sel_none]
    constructor
    · intro h s hs
      have h1 := h s hs
      have hst : okSt ps (s : Int) = true := by rw [okSt_of hok hN]; simp; omega
      rw [befN_yes hst hN] at h1
      cases hl : sel N fun k => stp ps k == s with
      | nil => rw [hl] at h1; simp [ints] at h1
      | cons a r =>
        have hm : a ∈ sel N fun k => stp ps k == s := by rw [hl]; simp
        obtain ⟨h2, h3⟩ := sel_mem.1 hm
        exact ⟨a, h2, by simpa using h3⟩
    · intro h s hs
      obtain ⟨k, hk, e⟩ := h s hs
      have hst : okSt ps (s : Int) = true := by rw [okSt_of hok hN]; simp; omega
      rw [befN_yes hst hN]
      have hm : k ∈ sel N fun k => stp ps k == s := sel_mem.2 ⟨hk, by simpa using e⟩
      cases hl : sel N fun k => stp ps k == s with
      | nil => rw [hl] at hm; simp at hm
      | cons a r => rfl
  have ht : (∀ s, s < N → ∃ k, k < N ∧ stp ps k = s) ↔ ∀ s, s < N → (orb (stp ps) s).2 = 0 :=
    ⟨fun h s hs => before_tail h32 hf h hs, fun h s hs => tail_before h32 hf h hs⟩
  refine ⟨by rw [hr, hu, ht, lonTo_zero], hr, ?_⟩
  rw [hr, hu, ht, sel_full]
  constructor
  · intro h s hs; simpa using h s hs
  · intro h s hs; simpa using h s hs

end Go.Proofs.YtfkdameegljkeaaDoor

/- Plain facts for the laws on attractors and outcomes. -/
namespace Go.Proofs.YtfkdameegljkeaaDoor
open Go.RowKit
set_option linter.unusedVariables false

section
variable {rb : Nat → Nat → Bool} {N : Nat} (h : RB rb N)
include h
theorem lea_att2 {s : Nat} (hs : s < N) (h1 : std rb N s = true) : lea rb N s < N ∧ att rb N (lea rb N s) = true ∧ rb s (lea rb N s) = true ∧ rb (lea rb N s) s = true := by
  obtain ⟨h2, h3, h4⟩ := lea_all h hs
  obtain ⟨h6, h7⟩ := lea_att h hs h1
  exact ⟨h3, h6, h2, h7⟩
/-- a steady state has one outcome: the least state of its attractor -/
theorem outs_std {s : Nat} (hs : s < N) (h1 : std rb N s = true) : outs rb N s = [lea rb N s] := by
  obtain ⟨l1, l2, l3, l4⟩ := lea_att2 h hs h1
  have hm : ∀ a, a ∈ outs rb N s ↔ a = lea rb N s := by
    intro a
    constructor
    · intro ha
      obtain ⟨ha1, ha2⟩ := List.mem_filter.1 ha
      obtain ⟨ha3, ha4⟩ := mem_atts.1 ha1
      have e1 := std_back h hs h1 ha2
      have e2 : rb a (lea rb N s) = true := h.trans a s _ ha3 e1 l3
      have e3 : rb (lea rb N s) a = true := h.trans _ s a l1 l4 ha2
      have f1 := low_iff.1 (att_iff.1 ha4).2 (lea rb N s)
      have f2 := low_iff.1 (att_iff.1 l2).2 a
      rcases Nat.lt_trichotomy a (lea rb N s) with h5 | h5 | h5
      · have := f2 h5; rw [e3] at this; cases this
      · exact h5
      · have := f1 h5; rw [e2] at this; cases this
    · rintro rfl
      exact List.mem_filter.2 ⟨mem_atts.2 ⟨l1, l2⟩, l3⟩
  have hnd : (outs rb N s).Nodup := List.Pairwise.filter _ (sel_nodup _ _)
  cases ho : outs rb N s with
  | nil => have := (hm (lea rb N s)).2 rfl; rw [ho] at this; simp at this
  | cons a l =>
    have ha : a = lea rb N s := (hm a).1 (by rw [ho]; simp)
    cases l with
    | nil => rw [ha]
    | cons b l =>
      have hb : b = lea rb N s := (hm b).1 (by rw [ho]; simp)
      rw [ho] at hnd
      have := (List.nodup_cons.1 hnd).1
      rw [ha, hb] at this
      simp at this
/-- from each state some attractor is reached -/
theorem outs_some : ∀ (n s : Nat), s < N → (sel N (rb s)).length ≤ n → ∃ a, a ∈ outs rb N s
  | 0, s, hs, hn => by
    have hm : s ∈ sel N (rb s) := mem_sel.2 ⟨hs, h.refl s hs⟩
    have := List.length_pos_of_mem hm
    omega
  | n + 1, s, hs, hn => by
    by_cases h1 : std rb N s = true
    · exact ⟨lea rb N s, by rw [outs_std h hs h1]; simp⟩
    · have h2 : ¬ ∀ t, t < N → rb s t = true → rb t s = true := fun h3 => h1 (std_iff.2 h3)
      obtain ⟨t, h3⟩ := Classical.not_forall.1 h2
      obtain ⟨ht, h4⟩ := Classical.not_imp.1 h3
      obtain ⟨h5, h6⟩ := Classical.not_imp.1 h4
      have hlt : (sel N (rb t)).length < (sel N (rb s)).length := by
        have hsub := nodup_sub (l := s :: sel N (rb t)) (m := sel N (rb s)) (List.nodup_cons.2 ⟨fun hm => h6 (mem_sel.1 hm).2, sel_nodup _ _⟩) (fun x hx => by
          rcases List.mem_cons.1 hx with rfl | hx
          · exact mem_sel.2 ⟨hs, h.refl x hs⟩
          · obtain ⟨hx1, hx2⟩ := mem_sel.1 hx
            exact mem_sel.2 ⟨hx1, h.trans s t x hs h5 hx2⟩)
        rw [List.length_cons] at hsub; omega
      obtain ⟨a, ha⟩ := outs_some n t ht (by omega)
      obtain ⟨ha1, ha2⟩ := List.mem_filter.1 ha
      exact ⟨a, List.mem_filter.2 ⟨ha1, h.trans s t a hs h5 ha2⟩⟩
/-- what the states of an attractor reach -/
theorem att_reach {a x : Nat} (ha : a < N) (h1 : att rb N a = true) (hx : rb a x = true) : sel N (rb x) = sel N (rb a) := by
  have hst := (att_iff.1 h1).1
  have hxN := h.lt a x ha hx
  have hb := std_back h ha hst hx
  refine sel_congr fun t ht => ?_
  rw [Bool.eq_iff_iff]
  exact ⟨fun h2 => h.trans a x t ha hx h2, fun h2 => h.trans x a t hxN hb h2⟩
/-- the steady states are those of the attractors -/
theorem att_sum : idxS (fun a => (sel N (rb a)).length) (atts rb N N) (atts rb N N).length = (sel N (std rb N)).length := by
  rw [atts, idxS_sel]
  have key : ∀ M, M ≤ N → sumTo (fun k => (sel M fun x => std rb N x && lea rb N x == k).length) N = (sel M (std rb N)).length := by
    intro M
    induction M with
    | zero =>
      intro _
      have : (fun k => (sel 0 fun x => std rb N x && lea rb N x == k).length) = fun _ => 0 := rfl
      rw [this, sumTo_zero]; rfl
    | succ M ih =>
      intro hM
      have ih := ih (by omega)
      by_cases hq : std rb N M = true
      · have e : (fun k => (sel (M + 1) fun x => std rb N x && lea rb N x == k).length) = fun k => (sel M fun x => std rb N x && lea rb N x == k).length + (if lea rb N M = k then 1 else 0) := by
          funext k
          by_cases hk : lea rb N M = k
          · rw [sel_yes (by simp [hq, hk]), List.length_append, if_pos hk]; rfl
          · rw [sel_no (by simp [hk]), if_neg hk]; rfl
        rw [e, sumTo_add, ih, sumTo_one, if_pos (lea_att2 h (show M < N by omega) hq).1, sel_yes hq, List.length_append]; rfl
      · have hq' : std rb N M = false := by simpa using hq
        have e : (fun k => (sel (M + 1) fun x => std rb N x && lea rb N x == k).length) = fun k => (sel M fun x => std rb N x && lea rb N x == k).length := by
          funext k
          rw [sel_no (by simp [hq'])]
        rw [e, ih, sel_no hq']
  rw [← key N (Nat.le_refl _)]
  refine sumTo_congr N fun a ha => ?_
  by_cases h1 : att rb N a = true
  · rw [if_pos h1]
    congr 1
    refine sel_congr fun x hx => ?_
    rw [Bool.eq_iff_iff, Bool.and_eq_true, beq_iff_eq]
    have hst := (att_iff.1 h1).1
    constructor
    · intro h2
      have h3 := std_to h ha hst h2
      refine ⟨h3, ?_⟩
      have h4 := outs_std h hx h3
      have h5 : a ∈ outs rb N x := List.mem_filter.2 ⟨mem_atts.2 ⟨ha, h1⟩, std_back h ha hst h2⟩
      rw [h4] at h5
      exact (List.mem_singleton.1 h5).symm
    · rintro ⟨h2, h3⟩
      have h4 := lea_att2 h hx h2
      rw [h3] at h4
      exact h4.2.2.2
  · rw [if_neg h1]
    refine (List.length_eq_zero_iff.2 ?_).symm
    rw [List.eq_nil_iff_forall_not_mem]
    intro x hx
    obtain ⟨hx1, hx2⟩ := sel_mem.1 hx
    rw [Bool.and_eq_true, beq_iff_eq] at hx2
    have h4 := lea_att2 h hx1 hx2.1
    rw [hx2.2] at h4
    exact h1 h4.2.1
theorem atts_pos (h0 : 0 < N) : 0 < (atts rb N N).length := by
  obtain ⟨a, ha⟩ := outs_some h (sel N (rb 0)).length 0 h0 (Nat.le_refl _)
  exact List.length_pos_of_mem (List.mem_filter.1 ha).1
end

end Go.Proofs.YtfkdameegljkeaaDoor

