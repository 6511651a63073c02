/-
  No cell of these rows narrows 'for every input' (looked for: loops, veiled, ifaces, maps, wideKeys, modest, calm, conditions, laid).
  DERIVED. THE GIVEN ROWS OF THIS SEAT. 4 by the template 'for every input the law returns true; each argument reads behind the call as it read before'; 0 by the template 'total and deterministic' (their statements: YtcbppikkoelimaaTotals.lean).
  GIVEN WITH THE SEED: the statements are not yours to turn. If you find one false, say at which input.
  Laid BY PROGRAM, IN A SANDBOX (cutbox-rows.mjs): the forced cells as the released guide's own fill.sh prints them over the translation fb02ba160f74f7f5… (all of the seat's roots in one cut). By AI agents, Wed Nov 11 2026. No macro, syntax, notation, axiom, sorry.
-/
import Derived.Test.YtcbppikkoelimaaChecked
import GoSem.Claim
import GoSem.ClaimJoined
import GoSem.ClaimMapViews
import Derived.JoinedTies
import Derived.KernelRfl
namespace Go.Proofs.Ytcbppikkoelimaa
/- THE CELL 'sum', in the pinned program and in every row, IS THE sha256 OF THE DUMP (.gsa) THAT YtcbppikkoelimaaProg.lean LOADS. Nothing in Lean hashes anything: it is a label: what it is worth is what the hold of that sum in a sandbox is worth. -/
noncomputable def Try.pinned : Pinned := { name := "ytcbppikkoelimaa", sum := "fb02ba160f74f7f5f1b7449178e31d3c225277177feecf17ae2f65ed06fa77b3", checked := Try.checked }
namespace Rows
def none {H : Type} : Left H := { results := [], args := [] }

/-- 'bourselaw29.SurveilAlone': WHATEVER THE INPUT: true; the input reads as it did. -/
def surveilAloneSpec : ChangeSpec := { name := "surveilAlone", fn := fun _ => fun
  | [d1, d2, d3] => { results := [.lit (.bool true)], args := [d1, d2, d3] }
  | _ => none }
def surveilAloneRow : OpenClaim := { program := "ytcbppikkoelimaa", sum := "fb02ba160f74f7f5f1b7449178e31d3c225277177feecf17ae2f65ed06fa77b3", func := "bourse/bourselaw29.SurveilAlone", spec := "surveilAlone", unfollowed := true, recurses := true, apart := false }
def SurveilAloneSaid : Prop := surveilAloneRow.holds Try.pinned (OpenSpec.ofChange surveilAloneSpec)

/-- ITS FALSE NEIGHBOUR: 'it returns false'. Refute it at one input. -/
def surveilAloneWrong : ChangeSpec := { name := "surveilAlone", fn := fun _ => fun
  | [d1, d2, d3] => { results := [.lit (.bool false)], args := [d1, d2, d3] }
  | _ => none }
def SurveilAloneWrongFalsely : Prop := surveilAloneRow.holds Try.pinned (OpenSpec.ofChange surveilAloneWrong)

/-- 'bourselaw29.SurveilPieces': WHATEVER THE INPUT: true; the input reads as it did. -/
def surveilPiecesSpec : ChangeSpec := { name := "surveilPieces", fn := fun _ => fun
  | [d1, d2, d3] => { results := [.lit (.bool true)], args := [d1, d2, d3] }
  | _ => none }
def surveilPiecesRow : OpenClaim := { program := "ytcbppikkoelimaa", sum := "fb02ba160f74f7f5f1b7449178e31d3c225277177feecf17ae2f65ed06fa77b3", func := "bourse/bourselaw29.SurveilPieces", spec := "surveilPieces", unfollowed := true, recurses := true, apart := false }
def SurveilPiecesSaid : Prop := surveilPiecesRow.holds Try.pinned (OpenSpec.ofChange surveilPiecesSpec)

/-- ITS FALSE NEIGHBOUR: 'it returns false'. Refute it at one input. -/
def surveilPiecesWrong : ChangeSpec := { name := "surveilPieces", fn := fun _ => fun
  | [d1, d2, d3] => { results := [.lit (.bool false)], args := [d1, d2, d3] }
  | _ => none }
def SurveilPiecesWrongFalsely : Prop := surveilPiecesRow.holds Try.pinned (OpenSpec.ofChange surveilPiecesWrong)

/-- 'bourselaw29.SurveilWash': WHATEVER THE INPUT: true; the input reads as it did. -/
def surveilWashSpec : ChangeSpec := { name := "surveilWash", fn := fun _ => fun
  | [d1, d2, d3] => { results := [.lit (.bool true)], args := [d1, d2, d3] }
  | _ => none }
def surveilWashRow : OpenClaim := { program := "ytcbppikkoelimaa", sum := "fb02ba160f74f7f5f1b7449178e31d3c225277177feecf17ae2f65ed06fa77b3", func := "bourse/bourselaw29.SurveilWash", spec := "surveilWash", inPlace := ["slices.overlaps[bourse/api.Resting]"], unfollowed := true, recurses := true, apart := false }
def SurveilWashSaid : Prop := surveilWashRow.holds Try.pinned (OpenSpec.ofChange surveilWashSpec)

/-- ITS FALSE NEIGHBOUR: 'it returns false'. Refute it at one input. -/
def surveilWashWrong : ChangeSpec := { name := "surveilWash", fn := fun _ => fun
  | [d1, d2, d3] => { results := [.lit (.bool false)], args := [d1, d2, d3] }
  | _ => none }
def SurveilWashWrongFalsely : Prop := surveilWashRow.holds Try.pinned (OpenSpec.ofChange surveilWashWrong)

/-- 'bourselaw29.SurveilAll': WHATEVER THE INPUT: true; the input reads as it did. -/
def surveilAllSpec : ChangeSpec := { name := "surveilAll", fn := fun _ => fun
  | [d1, d2] => { results := [.lit (.bool true)], args := [d1, d2] }
  | _ => none }
def surveilAllRow : OpenClaim := { program := "ytcbppikkoelimaa", sum := "fb02ba160f74f7f5f1b7449178e31d3c225277177feecf17ae2f65ed06fa77b3", func := "bourse/bourselaw29.SurveilAll", spec := "surveilAll", unfollowed := true, recurses := true, apart := false }
def SurveilAllSaid : Prop := surveilAllRow.holds Try.pinned (OpenSpec.ofChange surveilAllSpec)

/-- ITS FALSE NEIGHBOUR: 'it returns false'. Refute it at one input. -/
def surveilAllWrong : ChangeSpec := { name := "surveilAll", fn := fun _ => fun
  | [d1, d2] => { results := [.lit (.bool false)], args := [d1, d2] }
  | _ => none }
def SurveilAllWrongFalsely : Prop := surveilAllRow.holds Try.pinned (OpenSpec.ofChange surveilAllWrong)

/- THE SECOND FORM. 'bulk': how many values and letters a reading holds, each counted each time it is reached (what is shared counts as often as it is met; a slice's spare places count too). A statement '..UptoSaid' is the law's where the arguments, and the package variables that the reading takes, are together of bulk at most 1048576: NARROWER than '..Said'. Prove '..Said' where nothing that the law and all that it calls make is longer than what came in: it says more and counts as full. Else prove '..UptoSaid'. A law counts once. -/
mutual
def uptoBulk {H : Type} : DataW H → Nat
  | .lit (.string bytes) => bytes.length + 1
  | .lit _ => 1
  | .nil => 1
  | .ptr d => uptoBulk d + 1
  | .slice elems spare => uptoBulkAll elems + uptoBulkAll spare + 1
  | .agg parts => uptoBulkAll parts + 1
  | .iface _ d => uptoBulk d + 1
  | .map entries => uptoBulkEntries entries + 1
  | .held _ => 1
def uptoBulkAll {H : Type} : List (DataW H) → Nat
  | [] => 0
  | d :: r => uptoBulk d + uptoBulkAll r
def uptoBulkEntries {H : Type} : List (Lit × DataW H) → Nat
  | [] => 0
  | x :: r => uptoBulkEntry x + uptoBulkEntries r
def uptoBulkEntry {H : Type} : Lit × DataW H → Nat
  | (.string bytes, d) => bytes.length + uptoBulk d + 1
  | (_, d) => uptoBulk d + 1
 end
def uptoSmall : (H : Type) → List (DataW H) → Bool := fun _ ds => decide (uptoBulkAll ds ≤ 1048576)
def OpenSpec.upto (s : _root_.Go.ChangeSpec) : _root_.Go.OpenSpec := { _root_.Go.OpenSpec.ofChange s with cond := some uptoSmall }

/-- 'bourselaw29.SurveilAlone', WHERE WHAT IT READS IS OF BULK AT MOST 1048576: true; the input reads as it did. -/
def surveilAloneUptoRow : OpenClaim := { program := "ytcbppikkoelimaa", sum := "fb02ba160f74f7f5f1b7449178e31d3c225277177feecf17ae2f65ed06fa77b3", func := "bourse/bourselaw29.SurveilAlone", spec := "surveilAlone", unfollowed := true, recurses := true, apart := false, narrowed := true }
def SurveilAloneUptoSaid : Prop := surveilAloneUptoRow.holds Try.pinned (OpenSpec.upto surveilAloneSpec)

/-- 'bourselaw29.SurveilPieces', WHERE WHAT IT READS IS OF BULK AT MOST 1048576: true; the input reads as it did. -/
def surveilPiecesUptoRow : OpenClaim := { program := "ytcbppikkoelimaa", sum := "fb02ba160f74f7f5f1b7449178e31d3c225277177feecf17ae2f65ed06fa77b3", func := "bourse/bourselaw29.SurveilPieces", spec := "surveilPieces", unfollowed := true, recurses := true, apart := false, narrowed := true }
def SurveilPiecesUptoSaid : Prop := surveilPiecesUptoRow.holds Try.pinned (OpenSpec.upto surveilPiecesSpec)

/-- 'bourselaw29.SurveilWash', WHERE WHAT IT READS IS OF BULK AT MOST 1048576: true; the input reads as it did. -/
def surveilWashUptoRow : OpenClaim := { program := "ytcbppikkoelimaa", sum := "fb02ba160f74f7f5f1b7449178e31d3c225277177feecf17ae2f65ed06fa77b3", func := "bourse/bourselaw29.SurveilWash", spec := "surveilWash", inPlace := ["slices.overlaps[bourse/api.Resting]"], unfollowed := true, recurses := true, apart := false, narrowed := true }
def SurveilWashUptoSaid : Prop := surveilWashUptoRow.holds Try.pinned (OpenSpec.upto surveilWashSpec)

/-- 'bourselaw29.SurveilAll', WHERE WHAT IT READS IS OF BULK AT MOST 1048576: true; the input reads as it did. -/
def surveilAllUptoRow : OpenClaim := { program := "ytcbppikkoelimaa", sum := "fb02ba160f74f7f5f1b7449178e31d3c225277177feecf17ae2f65ed06fa77b3", func := "bourse/bourselaw29.SurveilAll", spec := "surveilAll", unfollowed := true, recurses := true, apart := false, narrowed := true }
def SurveilAllUptoSaid : Prop := surveilAllUptoRow.holds Try.pinned (OpenSpec.upto surveilAllSpec)

end Rows
end Go.Proofs.Ytcbppikkoelimaa
