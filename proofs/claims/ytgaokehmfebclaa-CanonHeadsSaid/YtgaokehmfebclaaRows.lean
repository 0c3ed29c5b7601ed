/-
  No cell of these rows narrows 'for every input' (looked for: loops, veiled, ifaces, maps, wideKeys, modest, calm, conditions, laid).
  DERIVED. THE GIVEN ROWS OF THIS SEAT. 3 by the template 'for every input the law returns true; each argument reads behind the call as it read before'; 0 by the template 'total and deterministic' (their statements: YtgaokehmfebclaaTotals.lean).
  GIVEN WITH THE SEED: the statements are not yours to turn. If you find one false, say at which input.
  Laid BY PROGRAM, IN A SANDBOX (cutbox-rows.mjs): the forced cells as the released guide's own fill.sh prints them over the translation b39c184fe4c5dc8b… (all of the seat's roots in one cut). By AI agents, Wed Nov 11 2026. No macro, syntax, notation, axiom, sorry.
-/
import Derived.Test.YtgaokehmfebclaaChecked
import GoSem.Claim
import GoSem.ClaimJoined
import GoSem.ClaimMapViews
import Derived.JoinedTies
import Derived.KernelRfl
namespace Go.Proofs.Ytgaokehmfebclaa
/- THE CELL 'sum', in the pinned program and in every row, IS THE sha256 OF THE DUMP (.gsa) THAT YtgaokehmfebclaaProg.lean LOADS. Nothing in Lean hashes anything: it is a label: what it is worth is what the hold of that sum in a sandbox is worth. -/
noncomputable def Try.pinned : Pinned := { name := "ytgaokehmfebclaa", sum := "b39c184fe4c5dc8b5bba83ab6af8e2c86ba3546334ceded0ba4097535b4ea6d1", checked := Try.checked }
namespace Rows
def none {H : Type} : Left H := { results := [], args := [] }

/-- 'pentroughlaw07.CanonOrders': WHATEVER THE INPUT: true; the input reads as it did. -/
def canonOrdersSpec : ChangeSpec := { name := "canonOrders", fn := fun _ => fun
  | [d] => { results := [.lit (.bool true)], args := [d] }
  | _ => none }
def canonOrdersRow : OpenClaim := { program := "ytgaokehmfebclaa", sum := "b39c184fe4c5dc8b5bba83ab6af8e2c86ba3546334ceded0ba4097535b4ea6d1", func := "pentrough/pentroughlaw07.CanonOrders", spec := "canonOrders", unfollowed := true, recurses := true, apart := false }
def CanonOrdersSaid : Prop := canonOrdersRow.holds Try.pinned (OpenSpec.ofChange canonOrdersSpec)

/-- ITS FALSE NEIGHBOUR: 'it returns false'. Refute it at one input. -/
def canonOrdersWrong : ChangeSpec := { name := "canonOrders", fn := fun _ => fun
  | [d] => { results := [.lit (.bool false)], args := [d] }
  | _ => none }
def CanonOrdersWrongFalsely : Prop := canonOrdersRow.holds Try.pinned (OpenSpec.ofChange canonOrdersWrong)

/-- 'pentroughlaw07.CanonHeads': WHATEVER THE INPUT: true; the input reads as it did. -/
def canonHeadsSpec : ChangeSpec := { name := "canonHeads", fn := fun _ => fun
  | [d1, d2, d3] => { results := [.lit (.bool true)], args := [d1, d2, d3] }
  | _ => none }
def canonHeadsRow : OpenClaim := { program := "ytgaokehmfebclaa", sum := "b39c184fe4c5dc8b5bba83ab6af8e2c86ba3546334ceded0ba4097535b4ea6d1", func := "pentrough/pentroughlaw07.CanonHeads", spec := "canonHeads", unfollowed := true, recurses := true, apart := false }
def CanonHeadsSaid : Prop := canonHeadsRow.holds Try.pinned (OpenSpec.ofChange canonHeadsSpec)

/-- ITS FALSE NEIGHBOUR: 'it returns false'. Refute it at one input. -/
def canonHeadsWrong : ChangeSpec := { name := "canonHeads", fn := fun _ => fun
  | [d1, d2, d3] => { results := [.lit (.bool false)], args := [d1, d2, d3] }
  | _ => none }
def CanonHeadsWrongFalsely : Prop := canonHeadsRow.holds Try.pinned (OpenSpec.ofChange canonHeadsWrong)

/-- 'pentroughlaw07.CanonThree': WHATEVER THE INPUT: true; the input reads as it did. -/
def canonThreeSpec : ChangeSpec := { name := "canonThree", fn := fun _ => fun
  | [d1, d2, d3] => { results := [.lit (.bool true)], args := [d1, d2, d3] }
  | _ => none }
def canonThreeRow : OpenClaim := { program := "ytgaokehmfebclaa", sum := "b39c184fe4c5dc8b5bba83ab6af8e2c86ba3546334ceded0ba4097535b4ea6d1", func := "pentrough/pentroughlaw07.CanonThree", spec := "canonThree", unfollowed := true, recurses := true, apart := false }
def CanonThreeSaid : Prop := canonThreeRow.holds Try.pinned (OpenSpec.ofChange canonThreeSpec)

/-- ITS FALSE NEIGHBOUR: 'it returns false'. Refute it at one input. -/
def canonThreeWrong : ChangeSpec := { name := "canonThree", fn := fun _ => fun
  | [d1, d2, d3] => { results := [.lit (.bool false)], args := [d1, d2, d3] }
  | _ => none }
def CanonThreeWrongFalsely : Prop := canonThreeRow.holds Try.pinned (OpenSpec.ofChange canonThreeWrong)

/- THE SECOND FORM. 'bulk': how many values and letters a reading holds, each counted each time it is reached (what is shared counts as often as it is met; a slice's spare places count too). A statement '..UptoSaid' is the law's where the arguments, and the package variables that the reading takes, are together of bulk at most 1048576: NARROWER than '..Said'. Prove '..Said' where nothing that the law and all that it calls make is longer than what came in: it says more and counts as full. Else prove '..UptoSaid'. A law counts once. -/
mutual
def uptoBulk {H : Type} : DataW H → Nat
  | .lit (.string bytes) => bytes.length + 1
  | .lit _ => 1
  | .nil => 1
  | .ptr d => uptoBulk d + 1
  | .slice elems spare => uptoBulkAll elems + uptoBulkAll spare + 1
  | .agg parts => uptoBulkAll parts + 1
  | .iface _ d => uptoBulk d + 1
  | .map entries => uptoBulkEntries entries + 1
  | .held _ => 1
def uptoBulkAll {H : Type} : List (DataW H) → Nat
  | [] => 0
  | d :: r => uptoBulk d + uptoBulkAll r
def uptoBulkEntries {H : Type} : List (Lit × DataW H) → Nat
  | [] => 0
  | x :: r => uptoBulkEntry x + uptoBulkEntries r
def uptoBulkEntry {H : Type} : Lit × DataW H → Nat
  | (.string bytes, d) => bytes.length + uptoBulk d + 1
  | (_, d) => uptoBulk d + 1
 end
def uptoSmall : (H : Type) → List (DataW H) → Bool := fun _ ds => decide (uptoBulkAll ds ≤ 1048576)
def OpenSpec.upto (s : _root_.Go.ChangeSpec) : _root_.Go.OpenSpec := { _root_.Go.OpenSpec.ofChange s with cond := some uptoSmall }

/-- 'pentroughlaw07.CanonOrders', WHERE WHAT IT READS IS OF BULK AT MOST 1048576: true; the input reads as it did. -/
def canonOrdersUptoRow : OpenClaim := { program := "ytgaokehmfebclaa", sum := "b39c184fe4c5dc8b5bba83ab6af8e2c86ba3546334ceded0ba4097535b4ea6d1", func := "pentrough/pentroughlaw07.CanonOrders", spec := "canonOrders", unfollowed := true, recurses := true, apart := false, narrowed := true }
def CanonOrdersUptoSaid : Prop := canonOrdersUptoRow.holds Try.pinned (OpenSpec.upto canonOrdersSpec)

/-- 'pentroughlaw07.CanonHeads', WHERE WHAT IT READS IS OF BULK AT MOST 1048576: true; the input reads as it did. -/
def canonHeadsUptoRow : OpenClaim := { program := "ytgaokehmfebclaa", sum := "b39c184fe4c5dc8b5bba83ab6af8e2c86ba3546334ceded0ba4097535b4ea6d1", func := "pentrough/pentroughlaw07.CanonHeads", spec := "canonHeads", unfollowed := true, recurses := true, apart := false, narrowed := true }
def CanonHeadsUptoSaid : Prop := canonHeadsUptoRow.holds Try.pinned (OpenSpec.upto canonHeadsSpec)

/-- 'pentroughlaw07.CanonThree', WHERE WHAT IT READS IS OF BULK AT MOST 1048576: true; the input reads as it did. -/
def canonThreeUptoRow : OpenClaim := { program := "ytgaokehmfebclaa", sum := "b39c184fe4c5dc8b5bba83ab6af8e2c86ba3546334ceded0ba4097535b4ea6d1", func := "pentrough/pentroughlaw07.CanonThree", spec := "canonThree", unfollowed := true, recurses := true, apart := false, narrowed := true }
def CanonThreeUptoSaid : Prop := canonThreeUptoRow.holds Try.pinned (OpenSpec.upto canonThreeSpec)

end Rows
end Go.Proofs.Ytgaokehmfebclaa
