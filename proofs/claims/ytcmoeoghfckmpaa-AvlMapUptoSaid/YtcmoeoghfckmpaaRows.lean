/-
  No cell of these rows narrows 'for every input' (looked for: loops, veiled, ifaces, maps, wideKeys, modest, calm, conditions, laid).
  DERIVED. THE GIVEN ROWS OF THIS SEAT. 5 by the template 'for every input the law returns true; each argument reads behind the call as it read before'; 0 by the template 'total and deterministic' (their statements: YtcmoeoghfckmpaaTotals.lean).
  GIVEN WITH THE SEED: the statements are not yours to turn. If you find one false, say at which input.
  Laid BY PROGRAM, IN A SANDBOX (cutbox-rows.mjs): the forced cells as the released guide's own fill.sh prints them over the translation 5bb713f8784e3ce7… (all of the seat's roots in one cut). By AI agents, Wed Nov 11 2026. No macro, syntax, notation, axiom, sorry.
-/
import Derived.Test.YtcmoeoghfckmpaaChecked
import GoSem.Claim
import GoSem.ClaimJoined
import GoSem.ClaimMapViews
import Derived.JoinedTies
import Derived.KernelRfl
namespace Go.Proofs.Ytcmoeoghfckmpaa
/- THE CELL 'sum', in the pinned program and in every row, IS THE sha256 OF THE DUMP (.gsa) THAT YtcmoeoghfckmpaaProg.lean LOADS. Nothing in Lean hashes anything: it is a label: what it is worth is what the hold of that sum in a sandbox is worth. -/
noncomputable def Try.pinned : Pinned := { name := "ytcmoeoghfckmpaa", sum := "5bb713f8784e3ce7267aaa3ccb1cc08c0a98f7d22694b5e216292b88241a0e10", checked := Try.checked }
namespace Rows
def none {H : Type} : Left H := { results := [], args := [] }

/-- 'bourselaw07.AvlClones': WHATEVER THE INPUT: true; the input reads as it did. -/
def avlClonesSpec : ChangeSpec := { name := "avlClones", fn := fun _ => fun
  | [d1, d2] => { results := [.lit (.bool true)], args := [d1, d2] }
  | _ => none }
def avlClonesRow : OpenClaim := { program := "ytcmoeoghfckmpaa", sum := "5bb713f8784e3ce7267aaa3ccb1cc08c0a98f7d22694b5e216292b88241a0e10", func := "bourse/bourselaw07.AvlClones", spec := "avlClones", recurses := true, apart := false }
def AvlClonesSaid : Prop := avlClonesRow.holds Try.pinned (OpenSpec.ofChange avlClonesSpec)

/-- ITS FALSE NEIGHBOUR: 'it returns false'. Refute it at one input. -/
def avlClonesWrong : ChangeSpec := { name := "avlClones", fn := fun _ => fun
  | [d1, d2] => { results := [.lit (.bool false)], args := [d1, d2] }
  | _ => none }
def AvlClonesWrongFalsely : Prop := avlClonesRow.holds Try.pinned (OpenSpec.ofChange avlClonesWrong)

/-- 'bourselaw07.AvlFlat': WHATEVER THE INPUT: true; the input reads as it did. -/
def avlFlatSpec : ChangeSpec := { name := "avlFlat", fn := fun _ => fun
  | [d1, d2, d3] => { results := [.lit (.bool true)], args := [d1, d2, d3] }
  | _ => none }
def avlFlatRow : OpenClaim := { program := "ytcmoeoghfckmpaa", sum := "5bb713f8784e3ce7267aaa3ccb1cc08c0a98f7d22694b5e216292b88241a0e10", func := "bourse/bourselaw07.AvlFlat", spec := "avlFlat", apart := false }
def AvlFlatSaid : Prop := avlFlatRow.holds Try.pinned (OpenSpec.ofChange avlFlatSpec)

/-- ITS FALSE NEIGHBOUR: 'it returns false'. Refute it at one input. -/
def avlFlatWrong : ChangeSpec := { name := "avlFlat", fn := fun _ => fun
  | [d1, d2, d3] => { results := [.lit (.bool false)], args := [d1, d2, d3] }
  | _ => none }
def AvlFlatWrongFalsely : Prop := avlFlatRow.holds Try.pinned (OpenSpec.ofChange avlFlatWrong)

/-- 'bourselaw07.AvlMap': WHATEVER THE INPUT: true; the input reads as it did. -/
def avlMapSpec : ChangeSpec := { name := "avlMap", fn := fun _ => fun
  | [d1, d2, d3] => { results := [.lit (.bool true)], args := [d1, d2, d3] }
  | _ => none }
def avlMapRow : OpenClaim := { program := "ytcmoeoghfckmpaa", sum := "5bb713f8784e3ce7267aaa3ccb1cc08c0a98f7d22694b5e216292b88241a0e10", func := "bourse/bourselaw07.AvlMap", spec := "avlMap", apart := false }
def AvlMapSaid : Prop := avlMapRow.holds Try.pinned (OpenSpec.ofChange avlMapSpec)

/-- ITS FALSE NEIGHBOUR: 'it returns false'. Refute it at one input. -/
def avlMapWrong : ChangeSpec := { name := "avlMap", fn := fun _ => fun
  | [d1, d2, d3] => { results := [.lit (.bool false)], args := [d1, d2, d3] }
  | _ => none }
def AvlMapWrongFalsely : Prop := avlMapRow.holds Try.pinned (OpenSpec.ofChange avlMapWrong)

/-- 'bourselaw07.AvlNeighbours': WHATEVER THE INPUT: true; the input reads as it did. -/
def avlNeighboursSpec : ChangeSpec := { name := "avlNeighbours", fn := fun _ => fun
  | [d1, d2] => { results := [.lit (.bool true)], args := [d1, d2] }
  | _ => none }
def avlNeighboursRow : OpenClaim := { program := "ytcmoeoghfckmpaa", sum := "5bb713f8784e3ce7267aaa3ccb1cc08c0a98f7d22694b5e216292b88241a0e10", func := "bourse/bourselaw07.AvlNeighbours", spec := "avlNeighbours", apart := false }
def AvlNeighboursSaid : Prop := avlNeighboursRow.holds Try.pinned (OpenSpec.ofChange avlNeighboursSpec)

/-- ITS FALSE NEIGHBOUR: 'it returns false'. Refute it at one input. -/
def avlNeighboursWrong : ChangeSpec := { name := "avlNeighbours", fn := fun _ => fun
  | [d1, d2] => { results := [.lit (.bool false)], args := [d1, d2] }
  | _ => none }
def AvlNeighboursWrongFalsely : Prop := avlNeighboursRow.holds Try.pinned (OpenSpec.ofChange avlNeighboursWrong)

/-- 'bourselaw07.AvlAll': WHATEVER THE INPUT: true; the input reads as it did. -/
def avlAllSpec : ChangeSpec := { name := "avlAll", fn := fun _ => fun
  | [d] => { results := [.lit (.bool true)], args := [d] }
  | _ => none }
def avlAllRow : OpenClaim := { program := "ytcmoeoghfckmpaa", sum := "5bb713f8784e3ce7267aaa3ccb1cc08c0a98f7d22694b5e216292b88241a0e10", func := "bourse/bourselaw07.AvlAll", spec := "avlAll", unfollowed := true, recurses := true, apart := false }
def AvlAllSaid : Prop := avlAllRow.holds Try.pinned (OpenSpec.ofChange avlAllSpec)

/-- ITS FALSE NEIGHBOUR: 'it returns false'. Refute it at one input. -/
def avlAllWrong : ChangeSpec := { name := "avlAll", fn := fun _ => fun
  | [d] => { results := [.lit (.bool false)], args := [d] }
  | _ => none }
def AvlAllWrongFalsely : Prop := avlAllRow.holds Try.pinned (OpenSpec.ofChange avlAllWrong)

/- THE SECOND FORM. 'bulk': how many values and letters a reading holds, each counted each time it is reached (what is shared counts as often as it is met; a slice's spare places count too). A statement '..UptoSaid' is the law's where the arguments, and the package variables that the reading takes, are together of bulk at most 1048576: NARROWER than '..Said'. Prove '..Said' where nothing that the law and all that it calls make is longer than what came in: it says more and counts as full. Else prove '..UptoSaid'. A law counts once. -/
mutual
def uptoBulk {H : Type} : DataW H → Nat
  | .lit (.string bytes) => bytes.length + 1
  | .lit _ => 1
  | .nil => 1
  | .ptr d => uptoBulk d + 1
  | .slice elems spare => uptoBulkAll elems + uptoBulkAll spare + 1
  | .agg parts => uptoBulkAll parts + 1
  | .iface _ d => uptoBulk d + 1
  | .map entries => uptoBulkEntries entries + 1
  | .held _ => 1
def uptoBulkAll {H : Type} : List (DataW H) → Nat
  | [] => 0
  | d :: r => uptoBulk d + uptoBulkAll r
def uptoBulkEntries {H : Type} : List (Lit × DataW H) → Nat
  | [] => 0
  | x :: r => uptoBulkEntry x + uptoBulkEntries r
def uptoBulkEntry {H : Type} : Lit × DataW H → Nat
  | (.string bytes, d) => bytes.length + uptoBulk d + 1
  | (_, d) => uptoBulk d + 1
 end
def uptoSmall : (H : Type) → List (DataW H) → Bool := fun _ ds => decide (uptoBulkAll ds ≤ 1048576)
def OpenSpec.upto (s : _root_.Go.ChangeSpec) : _root_.Go.OpenSpec := { _root_.Go.OpenSpec.ofChange s with cond := some uptoSmall }

/-- 'bourselaw07.AvlClones', WHERE WHAT IT READS IS OF BULK AT MOST 1048576: true; the input reads as it did. -/
def avlClonesUptoRow : OpenClaim := { program := "ytcmoeoghfckmpaa", sum := "5bb713f8784e3ce7267aaa3ccb1cc08c0a98f7d22694b5e216292b88241a0e10", func := "bourse/bourselaw07.AvlClones", spec := "avlClones", recurses := true, apart := false, narrowed := true }
def AvlClonesUptoSaid : Prop := avlClonesUptoRow.holds Try.pinned (OpenSpec.upto avlClonesSpec)

/-- 'bourselaw07.AvlFlat', WHERE WHAT IT READS IS OF BULK AT MOST 1048576: true; the input reads as it did. -/
def avlFlatUptoRow : OpenClaim := { program := "ytcmoeoghfckmpaa", sum := "5bb713f8784e3ce7267aaa3ccb1cc08c0a98f7d22694b5e216292b88241a0e10", func := "bourse/bourselaw07.AvlFlat", spec := "avlFlat", apart := false, narrowed := true }
def AvlFlatUptoSaid : Prop := avlFlatUptoRow.holds Try.pinned (OpenSpec.upto avlFlatSpec)

/-- 'bourselaw07.AvlMap', WHERE WHAT IT READS IS OF BULK AT MOST 1048576: true; the input reads as it did. -/
def avlMapUptoRow : OpenClaim := { program := "ytcmoeoghfckmpaa", sum := "5bb713f8784e3ce7267aaa3ccb1cc08c0a98f7d22694b5e216292b88241a0e10", func := "bourse/bourselaw07.AvlMap", spec := "avlMap", apart := false, narrowed := true }
def AvlMapUptoSaid : Prop := avlMapUptoRow.holds Try.pinned (OpenSpec.upto avlMapSpec)

/-- 'bourselaw07.AvlNeighbours', WHERE WHAT IT READS IS OF BULK AT MOST 1048576: true; the input reads as it did. -/
def avlNeighboursUptoRow : OpenClaim := { program := "ytcmoeoghfckmpaa", sum := "5bb713f8784e3ce7267aaa3ccb1cc08c0a98f7d22694b5e216292b88241a0e10", func := "bourse/bourselaw07.AvlNeighbours", spec := "avlNeighbours", apart := false, narrowed := true }
def AvlNeighboursUptoSaid : Prop := avlNeighboursUptoRow.holds Try.pinned (OpenSpec.upto avlNeighboursSpec)

/-- 'bourselaw07.AvlAll', WHERE WHAT IT READS IS OF BULK AT MOST 1048576: true; the input reads as it did. -/
def avlAllUptoRow : OpenClaim := { program := "ytcmoeoghfckmpaa", sum := "5bb713f8784e3ce7267aaa3ccb1cc08c0a98f7d22694b5e216292b88241a0e10", func := "bourse/bourselaw07.AvlAll", spec := "avlAll", unfollowed := true, recurses := true, apart := false, narrowed := true }
def AvlAllUptoSaid : Prop := avlAllUptoRow.holds Try.pinned (OpenSpec.upto avlAllSpec)

end Rows
end Go.Proofs.Ytcmoeoghfckmpaa
