/- Walks of laws: the world under way, with the lists that can be read there. -/
import Derived.Test.YtjinmoeabkpmaaaDoorProg
import Derived.WalkKit
import Derived.Lib.Hide
import Derived.Test.YtjinmoeabkpmaaaDoorWn
import Derived.Test.YtjinmoeabkpmaaaDoorWs
namespace Go.Proofs.YtjinmoeabkpmaaaDoor
open Go.RowKit
set_option linter.unusedVariables false

/-- the world under way in a law: the cell of MaxLen is there, nothing that was there has changed, and the lists can be read -/
structure LawW (w0 w : World) (Ls : List (Option Addr × List Int)) : Prop where
  m : HasM w
  b : Below w0.heap.size w0 w
  r : ∀ x ∈ Ls, Rd w x.1 (x.2.map (Value.int .i64))
section
variable {w0 w w' : World} {Ls : List (Option Addr × List Int)}
theorem lw_step (h : Hid (LawW w0 w Ls)) (hb : Below w.heap.size w w') : Hid (LawW w0 w' Ls) :=
  Lib.hid ⟨h.out.m.below hb, h.out.b.trans (hb.mono h.out.b.size), fun x hx => (h.out.r x hx).below hb⟩
theorem lw_drew (h : Hid (LawW w0 w Ls)) (n : Nat) : Hid (LawW w0 (w.drewN n) Ls) := lw_step h (drewN_below _ n)
theorem lw_add {A : Option Addr} {L : List Int} (h : Hid (LawW w0 w Ls)) (hr : Rd w A (L.map (Value.int .i64))) : Hid (LawW w0 w ((A, L) :: Ls)) :=
  Lib.hid ⟨h.out.m, h.out.b, fun x hx => (List.mem_cons.1 hx).elim (fun e => e ▸ hr) (h.out.r x)⟩
theorem lw_m (h : Hid (LawW w0 w Ls)) : Hid (HasM w) := Lib.hid h.out.m
theorem lw_rd {A : Option Addr} {L : List Int} (h : Hid (LawW w0 w Ls)) (i : Nat) (hi : Ls[i]? = some (A, L)) : Hid (Rd w A (L.map (Value.int .i64))) :=
  Lib.hid (h.out.r _ (List.mem_of_getElem? hi))
theorem lw_cut (h : Hid (LawW w0 w Ls)) (i : Nat) : Hid (LawW w0 w (Ls.drop i)) :=
  Lib.hid ⟨h.out.m, h.out.b, fun x hx => h.out.r x (List.mem_of_mem_drop hx)⟩
theorem lw_cell {g off j : Nat} {L : List Int} {v : Int} (h : Hid (LawW w0 w Ls)) (i : Nat) (hi : Ls[i]? = some (some ⟨g, off, none⟩, L)) (hv : Hid (L[j]? = some v)) : w.cell? ⟨g, off + j, none⟩ = some (.int .i64 v) :=
  (lw_rd h i hi).out.cell (by rw [List.getElem?_map, hv.out]; rfl)
/-- a list that is not empty lies somewhere -/
theorem lw_form {A : Option Addr} {L : List Int} (h : Hid (LawW w0 w Ls)) (i : Nat) (hi : Ls[i]? = some (A, L)) (h0 : 0 < L.length) : ∃ g off, A = some ⟨g, off, none⟩ := by
  obtain ⟨g, off, hA, _⟩ := (lw_rd h i hi).out.at_ (k := 0) (v := .int .i64 L[0]) (by rw [List.getElem?_map, List.getElem?_eq_getElem h0]; rfl)
  exact ⟨g, off, hA⟩
end

end Go.Proofs.YtjinmoeabkpmaaaDoor
