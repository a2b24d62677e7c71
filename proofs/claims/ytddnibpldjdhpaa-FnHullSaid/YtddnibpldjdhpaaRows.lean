/-
  No cell of these rows narrows 'for every input' (looked for: loops, veiled, ifaces, maps, wideKeys, modest, calm, conditions, laid).
  DERIVED. THE GIVEN ROWS OF THIS SEAT. 5 by the template 'for every input the law returns true; each argument reads behind the call as it read before'; 0 by the template 'total and deterministic' (their statements: YtddnibpldjdhpaaTotals.lean).
  GIVEN WITH THE SEED: the statements are not yours to turn. If you find one false, say at which input.
  Laid BY PROGRAM, IN A SANDBOX (cutbox-rows.mjs): the forced cells as the released guide's own fill.sh prints them over the translation 4d639b767879a1ab… (all of the seat's roots in one cut). By AI agents, Wed Nov 11 2026. No macro, syntax, notation, axiom, sorry.
-/
import Derived.Test.YtddnibpldjdhpaaChecked
import GoSem.Claim
import GoSem.ClaimJoined
import GoSem.ClaimMapViews
import Derived.JoinedTies
import Derived.KernelRfl
namespace Go.Proofs.Ytddnibpldjdhpaa
/- THE CELL 'sum', in the pinned program and in every row, IS THE sha256 OF THE DUMP (.gsa) THAT YtddnibpldjdhpaaProg.lean LOADS. Nothing in Lean hashes anything: it is a label: what it is worth is what the hold of that sum in a sandbox is worth. -/
noncomputable def Try.pinned : Pinned := { name := "ytddnibpldjdhpaa", sum := "4d639b767879a1ab172769cb67ae94f00a347ff00fb2b6fe178b707d19ee6504", checked := Try.checked }
namespace Rows
def none {H : Type} : Left H := { results := [], args := [] }

/-- 'laws.FnExactMeetTerms': WHATEVER THE INPUT: true; the input reads as it did. -/
def fnExactMeetTermsSpec : ChangeSpec := { name := "fnExactMeetTerms", fn := fun _ => fun
  | [d1, d2] => { results := [.lit (.bool true)], args := [d1, d2] }
  | _ => none }
def fnExactMeetTermsRow : OpenClaim := { program := "ytddnibpldjdhpaa", sum := "4d639b767879a1ab172769cb67ae94f00a347ff00fb2b6fe178b707d19ee6504", func := "loop.example/switchnetworks/laws.FnExactMeetTerms", spec := "fnExactMeetTerms", apart := false }
def FnExactMeetTermsSaid : Prop := fnExactMeetTermsRow.holds Try.pinned (OpenSpec.ofChange fnExactMeetTermsSpec)

/-- ITS FALSE NEIGHBOUR: 'it returns false'. Refute it at one input. -/
def fnExactMeetTermsWrong : ChangeSpec := { name := "fnExactMeetTerms", fn := fun _ => fun
  | [d1, d2] => { results := [.lit (.bool false)], args := [d1, d2] }
  | _ => none }
def FnExactMeetTermsWrongFalsely : Prop := fnExactMeetTermsRow.holds Try.pinned (OpenSpec.ofChange fnExactMeetTermsWrong)

/-- 'laws.FnExactHullOf': WHATEVER THE INPUT: true; the input reads as it did. -/
def fnExactHullOfSpec : ChangeSpec := { name := "fnExactHullOf", fn := fun _ => fun
  | [d1, d2] => { results := [.lit (.bool true)], args := [d1, d2] }
  | _ => none }
def fnExactHullOfRow : OpenClaim := { program := "ytddnibpldjdhpaa", sum := "4d639b767879a1ab172769cb67ae94f00a347ff00fb2b6fe178b707d19ee6504", func := "loop.example/switchnetworks/laws.FnExactHullOf", spec := "fnExactHullOf", recurses := true, apart := false }
def FnExactHullOfSaid : Prop := fnExactHullOfRow.holds Try.pinned (OpenSpec.ofChange fnExactHullOfSpec)

/-- ITS FALSE NEIGHBOUR: 'it returns false'. Refute it at one input. -/
def fnExactHullOfWrong : ChangeSpec := { name := "fnExactHullOf", fn := fun _ => fun
  | [d1, d2] => { results := [.lit (.bool false)], args := [d1, d2] }
  | _ => none }
def FnExactHullOfWrongFalsely : Prop := fnExactHullOfRow.holds Try.pinned (OpenSpec.ofChange fnExactHullOfWrong)

/-- 'laws.FnExactStatesOf': WHATEVER THE INPUT: true; the input reads as it did. -/
def fnExactStatesOfSpec : ChangeSpec := { name := "fnExactStatesOf", fn := fun _ => fun
  | [d] => { results := [.lit (.bool true)], args := [d] }
  | _ => none }
def fnExactStatesOfRow : OpenClaim := { program := "ytddnibpldjdhpaa", sum := "4d639b767879a1ab172769cb67ae94f00a347ff00fb2b6fe178b707d19ee6504", func := "loop.example/switchnetworks/laws.FnExactStatesOf", spec := "fnExactStatesOf", apart := false }
def FnExactStatesOfSaid : Prop := fnExactStatesOfRow.holds Try.pinned (OpenSpec.ofChange fnExactStatesOfSpec)

/-- ITS FALSE NEIGHBOUR: 'it returns false'. Refute it at one input. -/
def fnExactStatesOfWrong : ChangeSpec := { name := "fnExactStatesOf", fn := fun _ => fun
  | [d] => { results := [.lit (.bool false)], args := [d] }
  | _ => none }
def FnExactStatesOfWrongFalsely : Prop := fnExactStatesOfRow.holds Try.pinned (OpenSpec.ofChange fnExactStatesOfWrong)

/-- 'laws.FnHull': WHATEVER THE INPUT: true; the input reads as it did. -/
def fnHullSpec : ChangeSpec := { name := "fnHull", fn := fun _ => fun
  | [d] => { results := [.lit (.bool true)], args := [d] }
  | _ => none }
def fnHullRow : OpenClaim := { program := "ytddnibpldjdhpaa", sum := "4d639b767879a1ab172769cb67ae94f00a347ff00fb2b6fe178b707d19ee6504", func := "loop.example/switchnetworks/laws.FnHull", spec := "fnHull", recurses := true, apart := false }
def FnHullSaid : Prop := fnHullRow.holds Try.pinned (OpenSpec.ofChange fnHullSpec)

/-- ITS FALSE NEIGHBOUR: 'it returns false'. Refute it at one input. -/
def fnHullWrong : ChangeSpec := { name := "fnHull", fn := fun _ => fun
  | [d] => { results := [.lit (.bool false)], args := [d] }
  | _ => none }
def FnHullWrongFalsely : Prop := fnHullRow.holds Try.pinned (OpenSpec.ofChange fnHullWrong)

/-- 'laws.FnMeet': WHATEVER THE INPUT: true; the input reads as it did. -/
def fnMeetSpec : ChangeSpec := { name := "fnMeet", fn := fun _ => fun
  | [d] => { results := [.lit (.bool true)], args := [d] }
  | _ => none }
def fnMeetRow : OpenClaim := { program := "ytddnibpldjdhpaa", sum := "4d639b767879a1ab172769cb67ae94f00a347ff00fb2b6fe178b707d19ee6504", func := "loop.example/switchnetworks/laws.FnMeet", spec := "fnMeet", unfollowed := true, recurses := true, apart := false }
def FnMeetSaid : Prop := fnMeetRow.holds Try.pinned (OpenSpec.ofChange fnMeetSpec)

/-- ITS FALSE NEIGHBOUR: 'it returns false'. Refute it at one input. -/
def fnMeetWrong : ChangeSpec := { name := "fnMeet", fn := fun _ => fun
  | [d] => { results := [.lit (.bool false)], args := [d] }
  | _ => none }
def FnMeetWrongFalsely : Prop := fnMeetRow.holds Try.pinned (OpenSpec.ofChange fnMeetWrong)

/- THE SECOND FORM. 'bulk': how many values and letters a reading holds, each counted each time it is reached (what is shared counts as often as it is met; a slice's spare places count too). A statement '..UptoSaid' is the law's where the arguments, and the package variables that the reading takes, are together of bulk at most 1048576: NARROWER than '..Said'. Prove '..Said' where nothing that the law and all that it calls make is longer than what came in: it says more and counts as full. Else prove '..UptoSaid'. A law counts once. -/
mutual
def uptoBulk {H : Type} : DataW H → Nat
  | .lit (.string bytes) => bytes.length + 1
  | .lit _ => 1
  | .nil => 1
  | .ptr d => uptoBulk d + 1
  | .slice elems spare => uptoBulkAll elems + uptoBulkAll spare + 1
  | .agg parts => uptoBulkAll parts + 1
  | .iface _ d => uptoBulk d + 1
  | .map entries => uptoBulkEntries entries + 1
  | .held _ => 1
def uptoBulkAll {H : Type} : List (DataW H) → Nat
  | [] => 0
  | d :: r => uptoBulk d + uptoBulkAll r
def uptoBulkEntries {H : Type} : List (Lit × DataW H) → Nat
  | [] => 0
  | x :: r => uptoBulkEntry x + uptoBulkEntries r
def uptoBulkEntry {H : Type} : Lit × DataW H → Nat
  | (.string bytes, d) => bytes.length + uptoBulk d + 1
  | (_, d) => uptoBulk d + 1
 end
def uptoSmall : (H : Type) → List (DataW H) → Bool := fun _ ds => decide (uptoBulkAll ds ≤ 1048576)
def OpenSpec.upto (s : _root_.Go.ChangeSpec) : _root_.Go.OpenSpec := { _root_.Go.OpenSpec.ofChange s with cond := some uptoSmall }

/-- 'laws.FnExactMeetTerms', WHERE WHAT IT READS IS OF BULK AT MOST 1048576: true; the input reads as it did. -/
def fnExactMeetTermsUptoRow : OpenClaim := { program := "ytddnibpldjdhpaa", sum := "4d639b767879a1ab172769cb67ae94f00a347ff00fb2b6fe178b707d19ee6504", func := "loop.example/switchnetworks/laws.FnExactMeetTerms", spec := "fnExactMeetTerms", apart := false, narrowed := true }
def FnExactMeetTermsUptoSaid : Prop := fnExactMeetTermsUptoRow.holds Try.pinned (OpenSpec.upto fnExactMeetTermsSpec)

/-- 'laws.FnExactHullOf', WHERE WHAT IT READS IS OF BULK AT MOST 1048576: true; the input reads as it did. -/
def fnExactHullOfUptoRow : OpenClaim := { program := "ytddnibpldjdhpaa", sum := "4d639b767879a1ab172769cb67ae94f00a347ff00fb2b6fe178b707d19ee6504", func := "loop.example/switchnetworks/laws.FnExactHullOf", spec := "fnExactHullOf", recurses := true, apart := false, narrowed := true }
def FnExactHullOfUptoSaid : Prop := fnExactHullOfUptoRow.holds Try.pinned (OpenSpec.upto fnExactHullOfSpec)

/-- 'laws.FnExactStatesOf', WHERE WHAT IT READS IS OF BULK AT MOST 1048576: true; the input reads as it did. -/
def fnExactStatesOfUptoRow : OpenClaim := { program := "ytddnibpldjdhpaa", sum := "4d639b767879a1ab172769cb67ae94f00a347ff00fb2b6fe178b707d19ee6504", func := "loop.example/switchnetworks/laws.FnExactStatesOf", spec := "fnExactStatesOf", apart := false, narrowed := true }
def FnExactStatesOfUptoSaid : Prop := fnExactStatesOfUptoRow.holds Try.pinned (OpenSpec.upto fnExactStatesOfSpec)

/-- 'laws.FnHull', WHERE WHAT IT READS IS OF BULK AT MOST 1048576: true; the input reads as it did. -/
def fnHullUptoRow : OpenClaim := { program := "ytddnibpldjdhpaa", sum := "4d639b767879a1ab172769cb67ae94f00a347ff00fb2b6fe178b707d19ee6504", func := "loop.example/switchnetworks/laws.FnHull", spec := "fnHull", recurses := true, apart := false, narrowed := true }
def FnHullUptoSaid : Prop := fnHullUptoRow.holds Try.pinned (OpenSpec.upto fnHullSpec)

/-- 'laws.FnMeet', WHERE WHAT IT READS IS OF BULK AT MOST 1048576: true; the input reads as it did. -/
def fnMeetUptoRow : OpenClaim := { program := "ytddnibpldjdhpaa", sum := "4d639b767879a1ab172769cb67ae94f00a347ff00fb2b6fe178b707d19ee6504", func := "loop.example/switchnetworks/laws.FnMeet", spec := "fnMeet", unfollowed := true, recurses := true, apart := false, narrowed := true }
def FnMeetUptoSaid : Prop := fnMeetUptoRow.holds Try.pinned (OpenSpec.upto fnMeetSpec)

end Rows
end Go.Proofs.Ytddnibpldjdhpaa
