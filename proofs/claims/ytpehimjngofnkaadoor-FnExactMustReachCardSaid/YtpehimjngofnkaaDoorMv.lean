/- Plain facts: orbits and cycles told as iterates of a step. -/
import Derived.Test.YtpehimjngofnkaaDoorMk
namespace Go.Proofs.YtpehimjngofnkaaDoor
open Go.RowKit

/-- the state after k steps -/
def itf (f : Nat → Nat) : Nat → Nat → Nat
  | 0, s => s
  | k + 1, s => itf f k (f s)
theorem itf_add (f : Nat → Nat) : ∀ j k s, itf f (j + k) s = itf f k (itf f j s)
  | 0, k, s => by rw [Nat.zero_add]; rfl
  | j + 1, k, s => by rw [show j + 1 + k = (j + k) + 1 by omega]; exact itf_add f j k (f s)
theorem itf_succ (f : Nat → Nat) (k s : Nat) : itf f (k + 1) s = f (itf f k s) := itf_add f k 1 s
theorem itf_lt {f : Nat → Nat} {N s : Nat} (hf : ∀ x, x < N → f x < N) (hs : s < N) : ∀ k, itf f k s < N
  | 0 => hs
  | k + 1 => by rw [itf_succ]; exact hf _ (itf_lt hf hs k)
/-- the first k states -/
def itl (f : Nat → Nat) (s k : Nat) : List Nat := (List.range k).map fun j => itf f j s
theorem itl_len (f : Nat → Nat) (s k : Nat) : (itl f s k).length = k := by simp [itl]
theorem itl_get (f : Nat → Nat) (s k j : Nat) (h : j < k) : (itl f s k)[j]'(by rw [itl_len]; exact h) = itf f j s := by simp [itl]
theorem itl_getD (f : Nat → Nat) (s k j : Nat) (h : j < k) : (itl f s k).getD j 0 = itf f j s := by
  rw [List.getD_eq_getElem?_getD, List.getElem?_eq_getElem (by rw [itl_len]; exact h), Option.getD_some, itl_get _ _ _ _ h]
theorem itl_mem {f : Nat → Nat} {s k x : Nat} : x ∈ itl f s k ↔ ∃ j, j < k ∧ itf f j s = x := by simp [itl]
theorem itl_succ (f : Nat → Nat) (s k : Nat) : itl f s (k + 1) = itl f s k ++ [itf f k s] := by simp [itl, List.range_succ]
theorem itl_add (f : Nat → Nat) (s a : Nat) : ∀ b, itl f s (a + b) = itl f s a ++ itl f (itf f a s) b
  | 0 => by simp [itl]
  | b + 1 => by rw [show a + (b + 1) = (a + b) + 1 by omega, itl_succ, itl_add f s a b, itl_succ, itf_add, List.append_assoc]
theorem itl_drop (f : Nat → Nat) (s a b : Nat) : (itl f s (a + b)).drop a = itl f (itf f a s) b := by
  rw [itl_add, List.drop_left' (itl_len _ _ _)]
theorem itl_take (f : Nat → Nat) (s a b : Nat) : (itl f s (a + b)).take a = itl f s a := by
  rw [itl_add, List.take_left' (itl_len _ _ _)]
theorem itl_inj {f : Nat → Nat} {s k i j : Nat} (h : (itl f s k).Nodup) (hi : i < k) (hj : j < k) (e : itf f i s = itf f j s) : i = j := by
  have h2 := List.pairwise_iff_getElem.1 h
  rcases Nat.lt_trichotomy i j with hlt | rfl | hlt
  · exact absurd (by rw [itl_get _ _ _ _ hi, itl_get _ _ _ _ hj]; exact e) (h2 i j (by rw [itl_len]; exact hi) (by rw [itl_len]; exact hj) hlt)
  · rfl
  · exact absurd (by rw [itl_get _ _ _ _ hi, itl_get _ _ _ _ hj]; exact e.symm) (h2 j i (by rw [itl_len]; exact hj) (by rw [itl_len]; exact hi) hlt)
theorem itl_nodup {f : Nat → Nat} {s k : Nat} (h : ∀ i j, i < j → j < k → itf f i s ≠ itf f j s) : (itl f s k).Nodup := by
  refine List.pairwise_iff_getElem.2 fun i j hi hj hij => ?_
  rw [itl_len] at hi hj
  rw [itl_get _ _ _ _ hi, itl_get _ _ _ _ hj]
  exact h i j hij hj
/-- an orbit: its states are the first L ones, and the next one is that at T -/
structure OrbF (f : Nat → Nat) (N s L T : Nat) : Prop where
  eq : orb f s = (itl f s L, T)
  lt : T < L
  le : L ≤ N
  nd : (itl f s L).Nodup
  rep : itf f L s = itf f T s
theorem orb_form {f : Nat → Nat} {N s : Nat} (hN : N ≤ 32) (hf : ∀ x, x < N → f x < N) (hs : s < N) : ∃ L T, OrbF f N s L T := by
  suffices h : ∀ k m, OrbI f N s (itl f s m) (itf f m s) → m + k = 33 → ∃ L T, OrbF f N s L T by
    exact h 33 0 (OrbI.start f hs) rfl
  intro k
  induction k with
  | zero => intro m h hk; have := h.len; rw [itl_len] at this; omega
  | succ k ih =>
    intro m h hk
    by_cases hm : itf f m s ∈ itl f s m
    · have hl := h.len
      rw [itl_len] at hl
      have hT : (itl f s m).idxOf (itf f m s) < (itl f s m).length := List.idxOf_lt_length_iff.2 hm
      have hT2 := hT
      rw [itl_len] at hT2
      have e := List.getElem_idxOf hT
      rw [itl_get _ _ _ _ hT2] at e
      exact ⟨m, (itl f s m).idxOf (itf f m s), h.fin hN hm, hT2, hl, h.nd, e.symm⟩
    · refine ih (m + 1) ?_ (by omega)
      have := h.more hN hf hm
      rw [itl_succ, itf_succ]
      exact this
theorem orb_uniq {f : Nat → Nat} {N s L T : Nat} (hN : N ≤ 32) (hf : ∀ x, x < N → f x < N) (hs : s < N) (hT : T < L) (hnd : (itl f s L).Nodup) (hr : itf f L s = itf f T s) : OrbF f N s L T := by
  obtain ⟨L', T', h⟩ := orb_form hN hf hs
  have hLL : L = L' := by
    rcases Nat.lt_trichotomy L L' with hlt | e | hlt
    · have := itl_inj h.nd hlt (Nat.lt_trans hT hlt) hr
      omega
    · exact e
    · have := itl_inj hnd hlt (Nat.lt_trans h.lt hlt) h.rep
      have := h.lt
      omega
  subst hLL
  have hTT : T = T' := itl_inj hnd hT h.lt (by rw [← hr, h.rep])
  subst hTT
  exact h
/-- the states of a round come again -/
theorem OrbF.per {f : Nat → Nat} {N s L T : Nat} (h : OrbF f N s L T) {j : Nat} (hj : T ≤ j) : itf f (j + (L - T)) s = itf f j s := by
  have hlt := h.lt
  rw [show j + (L - T) = L + (j - T) by omega, itf_add, h.rep, ← itf_add, show T + (j - T) = j by omega]
theorem itf_round {f : Nat → Nat} {p x : Nat} (h : itf f p x = x) : ∀ m, itf f (p * m) x = x
  | 0 => rfl
  | m + 1 => by rw [Nat.mul_succ, Nat.add_comm, itf_add, h, itf_round h m]
theorem itf_mod {f : Nat → Nat} {p x : Nat} (h : itf f p x = x) (k : Nat) : itf f k x = itf f (k % p) x := by
  have := Nat.div_add_mod k p
  rw [← this, itf_add, itf_round h, this]
/-- the place in the orbit after k steps -/
theorem OrbF.at_ {f : Nat → Nat} {N s L T : Nat} (h : OrbF f N s L T) (k : Nat) : (itl f s L).getD (if k < L then k else T + (k - T) % (L - T)) 0 = itf f k s := by
  have hlt := h.lt
  split
  · rename_i hk
    exact itl_getD _ _ _ _ hk
  · rename_i hk
    have hm : (k - T) % (L - T) < L - T := Nat.mod_lt _ (by omega)
    have hp : itf f (L - T) (itf f T s) = itf f T s := by rw [← itf_add]; exact h.per (Nat.le_refl _)
    rw [itl_getD _ _ _ _ (by omega), itf_add, ← itf_mod hp, ← itf_add, show T + (k - T) = k by omega]
/-- the orbit from a state of the round -/
theorem OrbF.on {f : Nat → Nat} {N s L T : Nat} (hN : N ≤ 32) (hf : ∀ x, x < N → f x < N) (hs : s < N) (h : OrbF f N s L T) {j : Nat} (hj : T ≤ j) : OrbF f N (itf f j s) (L - T) 0 := by
  have hlt := h.lt
  have hper : itf f (L - T) (itf f j s) = itf f j s := by rw [← itf_add]; exact h.per hj
  refine orb_uniq hN hf (itf_lt hf hs j) (by omega) (itl_nodup fun a b hab hb e => ?_) hper
  -- all states of the round would come again after b - a steps
  have hy : itf f (b - a) (itf f (j + a) s) = itf f (j + a) s := by
    rw [← itf_add, show j + a + (b - a) = j + b by omega, itf_add, itf_add, e]
  have hmul : ∀ m, itf f (T + (L - T) * m) s = itf f T s := fun m => by
    rw [itf_add]; exact itf_round (by rw [← itf_add]; exact h.per (Nat.le_refl _)) m
  have hge : j + a ≤ T + (L - T) * (j + a) := by
    have : 1 * (j + a) ≤ (L - T) * (j + a) := Nat.mul_le_mul_right _ (by omega)
    omega
  have hz : itf f (T + (b - a)) s = itf f T s := by
    have e1 : itf f T s = itf f (T + (L - T) * (j + a) - (j + a)) (itf f (j + a) s) := by
      rw [← itf_add, show j + a + (T + (L - T) * (j + a) - (j + a)) = T + (L - T) * (j + a) by omega, hmul]
    rw [itf_add, e1, ← itf_add _ _ (b - a), Nat.add_comm, itf_add _ (b - a), hy]
  have := itl_inj h.nd (show T + (b - a) < L by omega) h.lt hz
  omega
theorem minN_congr {a b : List Nat} (h : ∀ x, x ∈ a ↔ x ∈ b) (hne : a ≠ []) : minN a = minN b := by
  have h1 := minN_mem hne
  have hb : b ≠ [] := by intro e; subst e; have := (h _).1 h1; simp at this
  have h2 := minN_mem hb
  have h3 := minN_le ((h _).1 h1)
  have h4 := minN_le ((h _).2 h2)
  omega
theorem itl_ne {f : Nat → Nat} {s k : Nat} (h : 0 < k) : itl f s k ≠ [] := by
  intro e
  have := congrArg List.length e
  rw [itl_len, List.length_nil] at this
  omega
theorem itl_all {f : Nat → Nat} {p x z : Nat} (h : itf f p x = x) (h0 : 0 < p) : z ∈ itl f x p ↔ ∃ k, itf f k x = z := by
  rw [itl_mem]
  constructor
  · rintro ⟨j, _, e⟩; exact ⟨j, e⟩
  · rintro ⟨k, e⟩; exact ⟨k % p, Nat.mod_lt _ h0, by rw [← itf_mod h, e]⟩
/-- a state of the round leads around it -/
theorem itf_back {f : Nat → Nat} {p x i : Nat} (h : itf f p x = x) (h0 : 0 < p) : ∃ k, itf f k (itf f i x) = x := by
  refine ⟨p * i - i, ?_⟩
  have : 1 * i ≤ p * i := Nat.mul_le_mul_right _ h0
  rw [← itf_add, show i + (p * i - i) = p * i by omega, itf_round h]
theorem itl_same {f : Nat → Nat} {p x i : Nat} (h : itf f p x = x) (h0 : 0 < p) : ∀ z, z ∈ itl f (itf f i x) p ↔ z ∈ itl f x p := by
  intro z
  have h2 : itf f p (itf f i x) = itf f i x := by rw [← itf_add, Nat.add_comm, itf_add, h]
  rw [itl_all h h0, itl_all h2 h0]
  constructor
  · rintro ⟨k, e⟩; exact ⟨i + k, by rw [itf_add]; exact e⟩
  · rintro ⟨k, e⟩
    obtain ⟨m, hm⟩ := itf_back (i := i) h h0
    exact ⟨m + k, by rw [itf_add, hm]; exact e⟩
/-- a round turned so that its least state comes first -/
theorem rot_itl {f : Nat → Nat} {p x : Nat} (h : itf f p x = x) (h0 : 0 < p) : rot (itl f x p) = itl f (minN (itl f x p)) p ∧ ∃ i, i < p ∧ itf f i x = minN (itl f x p) := by
  have hne := itl_ne (f := f) (s := x) h0
  have hk := mni_lt hne
  have hg := mni_get hne
  rw [itl_len] at hk
  rw [itl_get _ _ _ _ hk] at hg
  refine ⟨?_, _, hk, hg⟩
  obtain ⟨i, hi⟩ : ∃ i, i = mni (itl f x p) := ⟨_, rfl⟩
  rw [← hg, rot, ← hi]
  rw [← hi] at hk
  have h1 := itl_drop f x i (p - i)
  have h2 := itl_take f x i (p - i)
  have h3 := itl_add f (itf f i x) (p - i) i
  rw [show i + (p - i) = p by omega] at h1 h2
  rw [show p - i + i = p by omega, ← itf_add, show i + (p - i) = p by omega, h] at h3
  rw [h1, h2, h3]
theorem OrbF.rnd_ {f : Nat → Nat} {N s L T : Nat} (h : OrbF f N s L T) : rnd f s = itl f (itf f T s) (L - T) := by
  have hlt := h.lt
  rw [rnd, h.eq]
  show (itl f s L).drop T = _
  have := itl_drop f s T (L - T)
  rwa [show T + (L - T) = L by omega] at this
section
variable {f : Nat → Nat} {N s : Nat} (hN : N ≤ 32) (hf : ∀ x, x < N → f x < N) (hs : s < N)
include hN hf hs
/-- the cycle from its least state on -/
theorem OrbF.cyc_ {L T : Nat} (h : OrbF f N s L T) : cyc f s = itl f (cy0 f s) (L - T) ∧ OrbF f N (cy0 f s) (L - T) 0 ∧ ∃ j, itf f j s = cy0 f s := by
  have hlt := h.lt
  have hp : itf f (L - T) (itf f T s) = itf f T s := by rw [← itf_add]; exact h.per (Nat.le_refl _)
  obtain ⟨h1, i, hi, h2⟩ := rot_itl hp (by omega)
  have hr := h.rnd_
  rw [cyc, cy0, hr]
  refine ⟨h1, ?_, T + i, by rw [itf_add, h2]⟩
  have := h.on hN hf hs (show T ≤ T + i by omega)
  rwa [itf_add, h2] at this
theorem OrbF.cy0_on {L T j : Nat} (h : OrbF f N s L T) (hj : T ≤ j) : cy0 f (itf f j s) = cy0 f s := by
  have hlt := h.lt
  have hp : itf f (L - T) (itf f T s) = itf f T s := by rw [← itf_add]; exact h.per (Nat.le_refl _)
  have h2 := h.on hN hf hs hj
  rw [cy0, cy0, h.rnd_, h2.rnd_]
  show minN (itl f (itf f j s) (L - T)) = _
  refine minN_congr ?_ (itl_ne (by omega))
  have e : itf f j s = itf f (j - T) (itf f T s) := by rw [← itf_add, show T + (j - T) = j by omega]
  rw [e]
  exact itl_same hp (by omega)
theorem cy0_step : cy0 f (f s) = cy0 f s := by
  obtain ⟨L, T, h⟩ := orb_form hN hf hs
  obtain ⟨L', T', h'⟩ := orb_form hN hf (hf s hs)
  have h1 := h.cy0_on hN hf hs (show T ≤ (T + T') + 1 by omega)
  have h2 := h'.cy0_on hN hf (hf s hs) (show T' ≤ T + T' by omega)
  rw [← h1, ← h2]
  rfl
end
theorem cy0_itf {f : Nat → Nat} {N : Nat} (hN : N ≤ 32) (hf : ∀ x, x < N → f x < N) : ∀ (k s : Nat), s < N → cy0 f (itf f k s) = cy0 f s
  | 0, _, _ => rfl
  | k + 1, s, hs => by
    show cy0 f (itf f k (f s)) = _
    rw [cy0_itf hN hf k (f s) (hf s hs), cy0_step hN hf hs]
theorem cyc_same {f : Nat → Nat} {N s x : Nat} (hN : N ≤ 32) (hf : ∀ x, x < N → f x < N) (hs : s < N) (hx : x < N) (h : cy0 f x = cy0 f s) : cyc f x = cyc f s := by
  obtain ⟨L, T, h1⟩ := orb_form hN hf hs
  obtain ⟨L', T', h2⟩ := orb_form hN hf hx
  obtain ⟨e1, g1, _⟩ := h1.cyc_ hN hf hs
  obtain ⟨e2, g2, _⟩ := h2.cyc_ hN hf hx
  have k1 := g1.eq
  have k2 := g2.eq
  rw [h] at k2
  rw [k1] at k2
  rw [e1, e2, h]
  exact (congrArg Prod.fst k2).symm
/-- all that is told of a cycle -/
structure CycF (f : Nat → Nat) (N s : Nat) (l : List Nat) (p : Nat) : Prop where
  eq : cyc f s = l
  len : l.length = p
  pos : 0 < p
  le : p ≤ N
  lt : ∀ i, i < p → l.getD i 0 < N
  nx : ∀ i, i < p → f (l.getD i 0) = l.getD ((i + 1) % p) 0
  least : ∀ i, i < p → l.getD 0 0 ≤ l.getD i 0
  tail : ∀ i, i < p → (orb f (l.getD i 0)).2 = 0
  same : ∀ i, i < p → cyc f (l.getD i 0) = l
  step : cyc f (f s) = l
  per : p = (orb f s).1.length - (orb f s).2
  nd : l.Nodup
  base : ∀ i, i < p → cy0 f (l.getD i 0) = cy0 f s
theorem cyc_all {f : Nat → Nat} {N s : Nat} (hN : N ≤ 32) (hf : ∀ x, x < N → f x < N) (hs : s < N) : ∃ p, CycF f N s (cyc f s) p := by
  obtain ⟨L, T, h⟩ := orb_form hN hf hs
  obtain ⟨e, g, j, hj⟩ := h.cyc_ hN hf hs
  have hlt := h.lt
  have hle := h.le
  have hm : cy0 f s < N := by rw [← hj]; exact itf_lt hf hs j
  have hp : itf f (L - T) (cy0 f s) = cy0 f s := g.rep
  have hg : ∀ i, i < L - T → (cyc f s).getD i 0 = itf f i (cy0 f s) := fun i hi => by rw [e, itl_getD _ _ _ _ hi]
  have hb : ∀ k, cy0 f (itf f k (cy0 f s)) = cy0 f s := fun k => by
    have h5 := cy0_itf hN hf j s hs
    rw [hj] at h5
    rw [cy0_itf hN hf k _ hm, h5]
  refine ⟨L - T, rfl, by rw [e, itl_len], by omega, by omega, fun i hi => by rw [hg i hi]; exact itf_lt hf hm i, fun i hi => ?_, fun i hi => ?_, fun i hi => ?_, fun i hi => ?_, ?_, ?_, ?_, fun i hi => by rw [hg i hi, hb]⟩
  · rw [hg i hi, hg _ (Nat.mod_lt _ (by omega)), ← itf_mod hp]
    exact (itf_succ f i _).symm
  · rw [hg i hi, hg 0 (by omega)]
    show cy0 f s ≤ _
    have h4 : minN (rnd f (itf f i (cy0 f s))) = cy0 f s := hb i
    have h2 := g.on hN hf hm (Nat.zero_le i)
    have h5 : itf f i (cy0 f s) ∈ rnd f (itf f i (cy0 f s)) := by
      rw [h2.rnd_]
      exact itl_mem.2 ⟨0, by omega, rfl⟩
    have h6 := minN_le h5
    omega
  · rw [hg i hi, (g.on hN hf hm (Nat.zero_le i)).eq]
  · rw [hg i hi]
    exact cyc_same hN hf hs (itf_lt hf hm i) (hb i)
  · exact cyc_same hN hf hs (hf s hs) (cy0_step hN hf hs)
  · rw [h.eq, itl_len]
  · rw [e]; exact g.nd
theorem nodup_erase_lt {N : Nat} {l : List Nat} (h : l.Nodup) (hl : ∀ x ∈ l, x < N + 1) : ∀ x ∈ l.erase N, x < N ∧ x ∈ l := by
  intro x hx
  have h2 := (List.Nodup.mem_erase_iff h).1 hx
  have := hl x h2.2
  exact ⟨by omega, h2.2⟩

end Go.Proofs.YtpehimjngofnkaaDoor
