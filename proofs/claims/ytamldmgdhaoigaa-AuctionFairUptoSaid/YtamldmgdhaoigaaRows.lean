/-
  No cell of these rows narrows 'for every input' (looked for: loops, veiled, ifaces, maps, wideKeys, modest, calm, conditions, laid).
  DERIVED. THE GIVEN ROWS OF THIS SEAT. 9 by the template 'for every input the law returns true; each argument reads behind the call as it read before'; 0 by the template 'total and deterministic' (their statements: YtamldmgdhaoigaaTotals.lean).
  GIVEN WITH THE SEED: the statements are not yours to turn. If you find one false, say at which input.
  Laid BY PROGRAM, IN A SANDBOX (cutbox-rows.mjs): the forced cells as the released guide's own fill.sh prints them over the translation ec638583345f5d67… (all of the seat's roots in one cut). By AI agents, Wed Nov 11 2026. No macro, syntax, notation, axiom, sorry.
-/
import Derived.Test.YtamldmgdhaoigaaChecked
import GoSem.Claim
import GoSem.ClaimJoined
import GoSem.ClaimMapViews
import Derived.JoinedTies
import Derived.KernelRfl
namespace Go.Proofs.Ytamldmgdhaoigaa
/- THE CELL 'sum', in the pinned program and in every row, IS THE sha256 OF THE DUMP (.gsa) THAT YtamldmgdhaoigaaProg.lean LOADS. Nothing in Lean hashes anything: it is a label: what it is worth is what the hold of that sum in a sandbox is worth. -/
noncomputable def Try.pinned : Pinned := { name := "ytamldmgdhaoigaa", sum := "ec638583345f5d6740dfc7a8d56b54411fec1aee1bf4de39ce6306e231a0d9e1", checked := Try.checked }
namespace Rows
def none {H : Type} : Left H := { results := [], args := [] }

/-- 'bourselaw14.AuctionMost': WHATEVER THE INPUT: true; the input reads as it did. -/
def auctionMostSpec : ChangeSpec := { name := "auctionMost", fn := fun _ => fun
  | [d1, d2, d3] => { results := [.lit (.bool true)], args := [d1, d2, d3] }
  | _ => none }
def auctionMostRow : OpenClaim := { program := "ytamldmgdhaoigaa", sum := "ec638583345f5d6740dfc7a8d56b54411fec1aee1bf4de39ce6306e231a0d9e1", func := "bourse/bourselaw14.AuctionMost", spec := "auctionMost", unfollowed := true, recurses := true, apart := false }
def AuctionMostSaid : Prop := auctionMostRow.holds Try.pinned (OpenSpec.ofChange auctionMostSpec)

/-- ITS FALSE NEIGHBOUR: 'it returns false'. Refute it at one input. -/
def auctionMostWrong : ChangeSpec := { name := "auctionMost", fn := fun _ => fun
  | [d1, d2, d3] => { results := [.lit (.bool false)], args := [d1, d2, d3] }
  | _ => none }
def AuctionMostWrongFalsely : Prop := auctionMostRow.holds Try.pinned (OpenSpec.ofChange auctionMostWrong)

/-- 'bourselaw14.AuctionFair': WHATEVER THE INPUT: true; the input reads as it did. -/
def auctionFairSpec : ChangeSpec := { name := "auctionFair", fn := fun _ => fun
  | [d1, d2] => { results := [.lit (.bool true)], args := [d1, d2] }
  | _ => none }
def auctionFairRow : OpenClaim := { program := "ytamldmgdhaoigaa", sum := "ec638583345f5d6740dfc7a8d56b54411fec1aee1bf4de39ce6306e231a0d9e1", func := "bourse/bourselaw14.AuctionFair", spec := "auctionFair", unfollowed := true, recurses := true, apart := false }
def AuctionFairSaid : Prop := auctionFairRow.holds Try.pinned (OpenSpec.ofChange auctionFairSpec)

/-- ITS FALSE NEIGHBOUR: 'it returns false'. Refute it at one input. -/
def auctionFairWrong : ChangeSpec := { name := "auctionFair", fn := fun _ => fun
  | [d1, d2] => { results := [.lit (.bool false)], args := [d1, d2] }
  | _ => none }
def AuctionFairWrongFalsely : Prop := auctionFairRow.holds Try.pinned (OpenSpec.ofChange auctionFairWrong)

/-- 'bourselaw14.AuctionEmptied': WHATEVER THE INPUT: true; the input reads as it did. -/
def auctionEmptiedSpec : ChangeSpec := { name := "auctionEmptied", fn := fun _ => fun
  | [d1, d2, d3] => { results := [.lit (.bool true)], args := [d1, d2, d3] }
  | _ => none }
def auctionEmptiedRow : OpenClaim := { program := "ytamldmgdhaoigaa", sum := "ec638583345f5d6740dfc7a8d56b54411fec1aee1bf4de39ce6306e231a0d9e1", func := "bourse/bourselaw14.AuctionEmptied", spec := "auctionEmptied", unfollowed := true, recurses := true, apart := false }
def AuctionEmptiedSaid : Prop := auctionEmptiedRow.holds Try.pinned (OpenSpec.ofChange auctionEmptiedSpec)

/-- ITS FALSE NEIGHBOUR: 'it returns false'. Refute it at one input. -/
def auctionEmptiedWrong : ChangeSpec := { name := "auctionEmptied", fn := fun _ => fun
  | [d1, d2, d3] => { results := [.lit (.bool false)], args := [d1, d2, d3] }
  | _ => none }
def AuctionEmptiedWrongFalsely : Prop := auctionEmptiedRow.holds Try.pinned (OpenSpec.ofChange auctionEmptiedWrong)

/-- 'bourselaw14.AuctionCurves': WHATEVER THE INPUT: true; the input reads as it did. -/
def auctionCurvesSpec : ChangeSpec := { name := "auctionCurves", fn := fun _ => fun
  | [d1, d2, d3, d4] => { results := [.lit (.bool true)], args := [d1, d2, d3, d4] }
  | _ => none }
def auctionCurvesRow : OpenClaim := { program := "ytamldmgdhaoigaa", sum := "ec638583345f5d6740dfc7a8d56b54411fec1aee1bf4de39ce6306e231a0d9e1", func := "bourse/bourselaw14.AuctionCurves", spec := "auctionCurves", unfollowed := true, recurses := true, apart := false }
def AuctionCurvesSaid : Prop := auctionCurvesRow.holds Try.pinned (OpenSpec.ofChange auctionCurvesSpec)

/-- ITS FALSE NEIGHBOUR: 'it returns false'. Refute it at one input. -/
def auctionCurvesWrong : ChangeSpec := { name := "auctionCurves", fn := fun _ => fun
  | [d1, d2, d3, d4] => { results := [.lit (.bool false)], args := [d1, d2, d3, d4] }
  | _ => none }
def AuctionCurvesWrongFalsely : Prop := auctionCurvesRow.holds Try.pinned (OpenSpec.ofChange auctionCurvesWrong)

/-- 'bourselaw14.AuctionShift': WHATEVER THE INPUT: true; the input reads as it did. -/
def auctionShiftSpec : ChangeSpec := { name := "auctionShift", fn := fun _ => fun
  | [d1, d2, d3] => { results := [.lit (.bool true)], args := [d1, d2, d3] }
  | _ => none }
def auctionShiftRow : OpenClaim := { program := "ytamldmgdhaoigaa", sum := "ec638583345f5d6740dfc7a8d56b54411fec1aee1bf4de39ce6306e231a0d9e1", func := "bourse/bourselaw14.AuctionShift", spec := "auctionShift", unfollowed := true, recurses := true, apart := false }
def AuctionShiftSaid : Prop := auctionShiftRow.holds Try.pinned (OpenSpec.ofChange auctionShiftSpec)

/-- ITS FALSE NEIGHBOUR: 'it returns false'. Refute it at one input. -/
def auctionShiftWrong : ChangeSpec := { name := "auctionShift", fn := fun _ => fun
  | [d1, d2, d3] => { results := [.lit (.bool false)], args := [d1, d2, d3] }
  | _ => none }
def AuctionShiftWrongFalsely : Prop := auctionShiftRow.holds Try.pinned (OpenSpec.ofChange auctionShiftWrong)

/-- 'bourselaw14.AuctionOrder': WHATEVER THE INPUT: true; the input reads as it did. -/
def auctionOrderSpec : ChangeSpec := { name := "auctionOrder", fn := fun _ => fun
  | [d1, d2, d3, d4] => { results := [.lit (.bool true)], args := [d1, d2, d3, d4] }
  | _ => none }
def auctionOrderRow : OpenClaim := { program := "ytamldmgdhaoigaa", sum := "ec638583345f5d6740dfc7a8d56b54411fec1aee1bf4de39ce6306e231a0d9e1", func := "bourse/bourselaw14.AuctionOrder", spec := "auctionOrder", unfollowed := true, recurses := true, apart := false }
def AuctionOrderSaid : Prop := auctionOrderRow.holds Try.pinned (OpenSpec.ofChange auctionOrderSpec)

/-- ITS FALSE NEIGHBOUR: 'it returns false'. Refute it at one input. -/
def auctionOrderWrong : ChangeSpec := { name := "auctionOrder", fn := fun _ => fun
  | [d1, d2, d3, d4] => { results := [.lit (.bool false)], args := [d1, d2, d3, d4] }
  | _ => none }
def AuctionOrderWrongFalsely : Prop := auctionOrderRow.holds Try.pinned (OpenSpec.ofChange auctionOrderWrong)

/-- 'bourselaw14.AuctionNews': WHATEVER THE INPUT: true; the input reads as it did. -/
def auctionNewsSpec : ChangeSpec := { name := "auctionNews", fn := fun _ => fun
  | [d1, d2] => { results := [.lit (.bool true)], args := [d1, d2] }
  | _ => none }
def auctionNewsRow : OpenClaim := { program := "ytamldmgdhaoigaa", sum := "ec638583345f5d6740dfc7a8d56b54411fec1aee1bf4de39ce6306e231a0d9e1", func := "bourse/bourselaw14.AuctionNews", spec := "auctionNews", unfollowed := true, recurses := true, apart := false }
def AuctionNewsSaid : Prop := auctionNewsRow.holds Try.pinned (OpenSpec.ofChange auctionNewsSpec)

/-- ITS FALSE NEIGHBOUR: 'it returns false'. Refute it at one input. -/
def auctionNewsWrong : ChangeSpec := { name := "auctionNews", fn := fun _ => fun
  | [d1, d2] => { results := [.lit (.bool false)], args := [d1, d2] }
  | _ => none }
def AuctionNewsWrongFalsely : Prop := auctionNewsRow.holds Try.pinned (OpenSpec.ofChange auctionNewsWrong)

/-- 'bourselaw14.AuctionAll': WHATEVER THE INPUT: true; the input reads as it did. -/
def auctionAllSpec : ChangeSpec := { name := "auctionAll", fn := fun _ => fun
  | [d1, d2, d3] => { results := [.lit (.bool true)], args := [d1, d2, d3] }
  | _ => none }
def auctionAllRow : OpenClaim := { program := "ytamldmgdhaoigaa", sum := "ec638583345f5d6740dfc7a8d56b54411fec1aee1bf4de39ce6306e231a0d9e1", func := "bourse/bourselaw14.AuctionAll", spec := "auctionAll", unfollowed := true, recurses := true, apart := false }
def AuctionAllSaid : Prop := auctionAllRow.holds Try.pinned (OpenSpec.ofChange auctionAllSpec)

/-- ITS FALSE NEIGHBOUR: 'it returns false'. Refute it at one input. -/
def auctionAllWrong : ChangeSpec := { name := "auctionAll", fn := fun _ => fun
  | [d1, d2, d3] => { results := [.lit (.bool false)], args := [d1, d2, d3] }
  | _ => none }
def AuctionAllWrongFalsely : Prop := auctionAllRow.holds Try.pinned (OpenSpec.ofChange auctionAllWrong)

/-- 'bourselaw14.AuctionQuotes': WHATEVER THE INPUT: true; the input reads as it did. -/
def auctionQuotesSpec : ChangeSpec := { name := "auctionQuotes", fn := fun _ => fun
  | [d1, d2, d3] => { results := [.lit (.bool true)], args := [d1, d2, d3] }
  | _ => none }
def auctionQuotesRow : OpenClaim := { program := "ytamldmgdhaoigaa", sum := "ec638583345f5d6740dfc7a8d56b54411fec1aee1bf4de39ce6306e231a0d9e1", func := "bourse/bourselaw14.AuctionQuotes", spec := "auctionQuotes", unfollowed := true, recurses := true, apart := false }
def AuctionQuotesSaid : Prop := auctionQuotesRow.holds Try.pinned (OpenSpec.ofChange auctionQuotesSpec)

/-- ITS FALSE NEIGHBOUR: 'it returns false'. Refute it at one input. -/
def auctionQuotesWrong : ChangeSpec := { name := "auctionQuotes", fn := fun _ => fun
  | [d1, d2, d3] => { results := [.lit (.bool false)], args := [d1, d2, d3] }
  | _ => none }
def AuctionQuotesWrongFalsely : Prop := auctionQuotesRow.holds Try.pinned (OpenSpec.ofChange auctionQuotesWrong)

/- THE SECOND FORM. 'bulk': how many values and letters a reading holds, each counted each time it is reached (what is shared counts as often as it is met; a slice's spare places count too). A statement '..UptoSaid' is the law's where the arguments, and the package variables that the reading takes, are together of bulk at most 1048576: NARROWER than '..Said'. Prove '..Said' where nothing that the law and all that it calls make is longer than what came in: it says more and counts as full. Else prove '..UptoSaid'. A law counts once. -/
mutual
def uptoBulk {H : Type} : DataW H → Nat
  | .lit (.string bytes) => bytes.length + 1
  | .lit _ => 1
  | .nil => 1
  | .ptr d => uptoBulk d + 1
  | .slice elems spare => uptoBulkAll elems + uptoBulkAll spare + 1
  | .agg parts => uptoBulkAll parts + 1
  | .iface _ d => uptoBulk d + 1
  | .map entries => uptoBulkEntries entries + 1
  | .held _ => 1
def uptoBulkAll {H : Type} : List (DataW H) → Nat
  | [] => 0
  | d :: r => uptoBulk d + uptoBulkAll r
def uptoBulkEntries {H : Type} : List (Lit × DataW H) → Nat
  | [] => 0
  | x :: r => uptoBulkEntry x + uptoBulkEntries r
def uptoBulkEntry {H : Type} : Lit × DataW H → Nat
  | (.string bytes, d) => bytes.length + uptoBulk d + 1
  | (_, d) => uptoBulk d + 1
 end
def uptoSmall : (H : Type) → List (DataW H) → Bool := fun _ ds => decide (uptoBulkAll ds ≤ 1048576)
def OpenSpec.upto (s : _root_.Go.ChangeSpec) : _root_.Go.OpenSpec := { _root_.Go.OpenSpec.ofChange s with cond := some uptoSmall }

/-- 'bourselaw14.AuctionMost', WHERE WHAT IT READS IS OF BULK AT MOST 1048576: true; the input reads as it did. -/
def auctionMostUptoRow : OpenClaim := { program := "ytamldmgdhaoigaa", sum := "ec638583345f5d6740dfc7a8d56b54411fec1aee1bf4de39ce6306e231a0d9e1", func := "bourse/bourselaw14.AuctionMost", spec := "auctionMost", unfollowed := true, recurses := true, apart := false, narrowed := true }
def AuctionMostUptoSaid : Prop := auctionMostUptoRow.holds Try.pinned (OpenSpec.upto auctionMostSpec)

/-- 'bourselaw14.AuctionFair', WHERE WHAT IT READS IS OF BULK AT MOST 1048576: true; the input reads as it did. -/
def auctionFairUptoRow : OpenClaim := { program := "ytamldmgdhaoigaa", sum := "ec638583345f5d6740dfc7a8d56b54411fec1aee1bf4de39ce6306e231a0d9e1", func := "bourse/bourselaw14.AuctionFair", spec := "auctionFair", unfollowed := true, recurses := true, apart := false, narrowed := true }
def AuctionFairUptoSaid : Prop := auctionFairUptoRow.holds Try.pinned (OpenSpec.upto auctionFairSpec)

/-- 'bourselaw14.AuctionEmptied', WHERE WHAT IT READS IS OF BULK AT MOST 1048576: true; the input reads as it did. -/
def auctionEmptiedUptoRow : OpenClaim := { program := "ytamldmgdhaoigaa", sum := "ec638583345f5d6740dfc7a8d56b54411fec1aee1bf4de39ce6306e231a0d9e1", func := "bourse/bourselaw14.AuctionEmptied", spec := "auctionEmptied", unfollowed := true, recurses := true, apart := false, narrowed := true }
def AuctionEmptiedUptoSaid : Prop := auctionEmptiedUptoRow.holds Try.pinned (OpenSpec.upto auctionEmptiedSpec)

/-- 'bourselaw14.AuctionCurves', WHERE WHAT IT READS IS OF BULK AT MOST 1048576: true; the input reads as it did. -/
def auctionCurvesUptoRow : OpenClaim := { program := "ytamldmgdhaoigaa", sum := "ec638583345f5d6740dfc7a8d56b54411fec1aee1bf4de39ce6306e231a0d9e1", func := "bourse/bourselaw14.AuctionCurves", spec := "auctionCurves", unfollowed := true, recurses := true, apart := false, narrowed := true }
def AuctionCurvesUptoSaid : Prop := auctionCurvesUptoRow.holds Try.pinned (OpenSpec.upto auctionCurvesSpec)

/-- 'bourselaw14.AuctionShift', WHERE WHAT IT READS IS OF BULK AT MOST 1048576: true; the input reads as it did. -/
def auctionShiftUptoRow : OpenClaim := { program := "ytamldmgdhaoigaa", sum := "ec638583345f5d6740dfc7a8d56b54411fec1aee1bf4de39ce6306e231a0d9e1", func := "bourse/bourselaw14.AuctionShift", spec := "auctionShift", unfollowed := true, recurses := true, apart := false, narrowed := true }
def AuctionShiftUptoSaid : Prop := auctionShiftUptoRow.holds Try.pinned (OpenSpec.upto auctionShiftSpec)

/-- 'bourselaw14.AuctionOrder', WHERE WHAT IT READS IS OF BULK AT MOST 1048576: true; the input reads as it did. -/
def auctionOrderUptoRow : OpenClaim := { program := "ytamldmgdhaoigaa", sum := "ec638583345f5d6740dfc7a8d56b54411fec1aee1bf4de39ce6306e231a0d9e1", func := "bourse/bourselaw14.AuctionOrder", spec := "auctionOrder", unfollowed := true, recurses := true, apart := false, narrowed := true }
def AuctionOrderUptoSaid : Prop := auctionOrderUptoRow.holds Try.pinned (OpenSpec.upto auctionOrderSpec)

/-- 'bourselaw14.AuctionNews', WHERE WHAT IT READS IS OF BULK AT MOST 1048576: true; the input reads as it did. -/
def auctionNewsUptoRow : OpenClaim := { program := "ytamldmgdhaoigaa", sum := "ec638583345f5d6740dfc7a8d56b54411fec1aee1bf4de39ce6306e231a0d9e1", func := "bourse/bourselaw14.AuctionNews", spec := "auctionNews", unfollowed := true, recurses := true, apart := false, narrowed := true }
def AuctionNewsUptoSaid : Prop := auctionNewsUptoRow.holds Try.pinned (OpenSpec.upto auctionNewsSpec)

/-- 'bourselaw14.AuctionAll', WHERE WHAT IT READS IS OF BULK AT MOST 1048576: true; the input reads as it did. -/
def auctionAllUptoRow : OpenClaim := { program := "ytamldmgdhaoigaa", sum := "ec638583345f5d6740dfc7a8d56b54411fec1aee1bf4de39ce6306e231a0d9e1", func := "bourse/bourselaw14.AuctionAll", spec := "auctionAll", unfollowed := true, recurses := true, apart := false, narrowed := true }
def AuctionAllUptoSaid : Prop := auctionAllUptoRow.holds Try.pinned (OpenSpec.upto auctionAllSpec)

/-- 'bourselaw14.AuctionQuotes', WHERE WHAT IT READS IS OF BULK AT MOST 1048576: true; the input reads as it did. -/
def auctionQuotesUptoRow : OpenClaim := { program := "ytamldmgdhaoigaa", sum := "ec638583345f5d6740dfc7a8d56b54411fec1aee1bf4de39ce6306e231a0d9e1", func := "bourse/bourselaw14.AuctionQuotes", spec := "auctionQuotes", unfollowed := true, recurses := true, apart := false, narrowed := true }
def AuctionQuotesUptoSaid : Prop := auctionQuotesUptoRow.holds Try.pinned (OpenSpec.upto auctionQuotesSpec)

end Rows
end Go.Proofs.Ytamldmgdhaoigaa
