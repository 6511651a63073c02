/-
  No cell of these rows narrows 'for every input' (looked for: loops, veiled, ifaces, maps, wideKeys, modest, calm, conditions, laid).
  DERIVED. THE GIVEN ROWS OF THIS SEAT. 4 by the template 'for every input the law returns true; each argument reads behind the call as it read before'; 0 by the template 'total and deterministic' (their statements: YtfajjkolhajldaaTotals.lean).
  GIVEN WITH THE SEED: the statements are not yours to turn. If you find one false, say at which input.
  Laid BY PROGRAM, IN A SANDBOX (cutbox-rows.mjs): the forced cells as the released guide's own fill.sh prints them over the translation 2d7c91a9b518ae1c… (all of the seat's roots in one cut). By AI agents, Wed Nov 11 2026. No macro, syntax, notation, axiom, sorry.
-/
import Derived.Test.YtfajjkolhajldaaChecked
import GoSem.Claim
import GoSem.ClaimJoined
import GoSem.ClaimMapViews
import Derived.JoinedTies
import Derived.KernelRfl
namespace Go.Proofs.Ytfajjkolhajldaa
/- THE CELL 'sum', in the pinned program and in every row, IS THE sha256 OF THE DUMP (.gsa) THAT YtfajjkolhajldaaProg.lean LOADS. Nothing in Lean hashes anything: it is a label: what it is worth is what the hold of that sum in a sandbox is worth. -/
noncomputable def Try.pinned : Pinned := { name := "ytfajjkolhajldaa", sum := "2d7c91a9b518ae1cef085ab523d9903e1c1eb614998edac48cccdeab2214654c", checked := Try.checked }
namespace Rows
def none {H : Type} : Left H := { results := [], args := [] }

/-- 'bourselaw21.RiskStill': WHATEVER THE INPUT: true; the input reads as it did. -/
def riskStillSpec : ChangeSpec := { name := "riskStill", fn := fun _ => fun
  | [d1, d2, d3] => { results := [.lit (.bool true)], args := [d1, d2, d3] }
  | _ => none }
def riskStillRow : OpenClaim := { program := "ytfajjkolhajldaa", sum := "2d7c91a9b518ae1cef085ab523d9903e1c1eb614998edac48cccdeab2214654c", func := "bourse/bourselaw21.RiskStill", spec := "riskStill", inPlace := ["math/bits.Add64", "math/bits.Sub64"], unfollowed := true, recurses := true, apart := false }
def RiskStillSaid : Prop := riskStillRow.holds Try.pinned (OpenSpec.ofChange riskStillSpec)

/-- ITS FALSE NEIGHBOUR: 'it returns false'. Refute it at one input. -/
def riskStillWrong : ChangeSpec := { name := "riskStill", fn := fun _ => fun
  | [d1, d2, d3] => { results := [.lit (.bool false)], args := [d1, d2, d3] }
  | _ => none }
def RiskStillWrongFalsely : Prop := riskStillRow.holds Try.pinned (OpenSpec.ofChange riskStillWrong)

/-- 'bourselaw21.RiskAll': WHATEVER THE INPUT: true; the input reads as it did. -/
def riskAllSpec : ChangeSpec := { name := "riskAll", fn := fun _ => fun
  | [d] => { results := [.lit (.bool true)], args := [d] }
  | _ => none }
def riskAllRow : OpenClaim := { program := "ytfajjkolhajldaa", sum := "2d7c91a9b518ae1cef085ab523d9903e1c1eb614998edac48cccdeab2214654c", func := "bourse/bourselaw21.RiskAll", spec := "riskAll", inPlace := ["math/bits.Add64", "math/bits.Sub64"], unfollowed := true, recurses := true, apart := false }
def RiskAllSaid : Prop := riskAllRow.holds Try.pinned (OpenSpec.ofChange riskAllSpec)

/-- ITS FALSE NEIGHBOUR: 'it returns false'. Refute it at one input. -/
def riskAllWrong : ChangeSpec := { name := "riskAll", fn := fun _ => fun
  | [d] => { results := [.lit (.bool false)], args := [d] }
  | _ => none }
def RiskAllWrongFalsely : Prop := riskAllRow.holds Try.pinned (OpenSpec.ofChange riskAllWrong)

/-- 'bourselaw21.RiskBook': WHATEVER THE INPUT: true; the input reads as it did. -/
def riskBookSpec : ChangeSpec := { name := "riskBook", fn := fun _ => fun
  | [d1, d2] => { results := [.lit (.bool true)], args := [d1, d2] }
  | _ => none }
def riskBookRow : OpenClaim := { program := "ytfajjkolhajldaa", sum := "2d7c91a9b518ae1cef085ab523d9903e1c1eb614998edac48cccdeab2214654c", func := "bourse/bourselaw21.RiskBook", spec := "riskBook", inPlace := ["slices.overlaps[bourse/api.Resting]"], unfollowed := true, recurses := true, apart := false }
def RiskBookSaid : Prop := riskBookRow.holds Try.pinned (OpenSpec.ofChange riskBookSpec)

/-- ITS FALSE NEIGHBOUR: 'it returns false'. Refute it at one input. -/
def riskBookWrong : ChangeSpec := { name := "riskBook", fn := fun _ => fun
  | [d1, d2] => { results := [.lit (.bool false)], args := [d1, d2] }
  | _ => none }
def RiskBookWrongFalsely : Prop := riskBookRow.holds Try.pinned (OpenSpec.ofChange riskBookWrong)

/-- 'bourselaw21.RiskLimits': WHATEVER THE INPUT: true; the input reads as it did. -/
def riskLimitsSpec : ChangeSpec := { name := "riskLimits", fn := fun _ => fun
  | [d] => { results := [.lit (.bool true)], args := [d] }
  | _ => none }
def riskLimitsRow : OpenClaim := { program := "ytfajjkolhajldaa", sum := "2d7c91a9b518ae1cef085ab523d9903e1c1eb614998edac48cccdeab2214654c", func := "bourse/bourselaw21.RiskLimits", spec := "riskLimits", inPlace := ["math/bits.Add64", "math/bits.Sub64", "slices.overlaps[bourse/api.Resting]"], unfollowed := true, recurses := true, apart := false }
def RiskLimitsSaid : Prop := riskLimitsRow.holds Try.pinned (OpenSpec.ofChange riskLimitsSpec)

/-- ITS FALSE NEIGHBOUR: 'it returns false'. Refute it at one input. -/
def riskLimitsWrong : ChangeSpec := { name := "riskLimits", fn := fun _ => fun
  | [d] => { results := [.lit (.bool false)], args := [d] }
  | _ => none }
def RiskLimitsWrongFalsely : Prop := riskLimitsRow.holds Try.pinned (OpenSpec.ofChange riskLimitsWrong)

/- THE SECOND FORM. 'bulk': how many values and letters a reading holds, each counted each time it is reached (what is shared counts as often as it is met; a slice's spare places count too). A statement '..UptoSaid' is the law's where the arguments, and the package variables that the reading takes, are together of bulk at most 1048576: NARROWER than '..Said'. Prove '..Said' where nothing that the law and all that it calls make is longer than what came in: it says more and counts as full. Else prove '..UptoSaid'. A law counts once. -/
mutual
def uptoBulk {H : Type} : DataW H → Nat
  | .lit (.string bytes) => bytes.length + 1
  | .lit _ => 1
  | .nil => 1
  | .ptr d => uptoBulk d + 1
  | .slice elems spare => uptoBulkAll elems + uptoBulkAll spare + 1
  | .agg parts => uptoBulkAll parts + 1
  | .iface _ d => uptoBulk d + 1
  | .map entries => uptoBulkEntries entries + 1
  | .held _ => 1
def uptoBulkAll {H : Type} : List (DataW H) → Nat
  | [] => 0
  | d :: r => uptoBulk d + uptoBulkAll r
def uptoBulkEntries {H : Type} : List (Lit × DataW H) → Nat
  | [] => 0
  | x :: r => uptoBulkEntry x + uptoBulkEntries r
def uptoBulkEntry {H : Type} : Lit × DataW H → Nat
  | (.string bytes, d) => bytes.length + uptoBulk d + 1
  | (_, d) => uptoBulk d + 1
 end
def uptoSmall : (H : Type) → List (DataW H) → Bool := fun _ ds => decide (uptoBulkAll ds ≤ 1048576)
def OpenSpec.upto (s : _root_.Go.ChangeSpec) : _root_.Go.OpenSpec := { _root_.Go.OpenSpec.ofChange s with cond := some uptoSmall }

/-- 'bourselaw21.RiskStill', WHERE WHAT IT READS IS OF BULK AT MOST 1048576: true; the input reads as it did. -/
def riskStillUptoRow : OpenClaim := { program := "ytfajjkolhajldaa", sum := "2d7c91a9b518ae1cef085ab523d9903e1c1eb614998edac48cccdeab2214654c", func := "bourse/bourselaw21.RiskStill", spec := "riskStill", inPlace := ["math/bits.Add64", "math/bits.Sub64"], unfollowed := true, recurses := true, apart := false, narrowed := true }
def RiskStillUptoSaid : Prop := riskStillUptoRow.holds Try.pinned (OpenSpec.upto riskStillSpec)

/-- 'bourselaw21.RiskAll', WHERE WHAT IT READS IS OF BULK AT MOST 1048576: true; the input reads as it did. -/
def riskAllUptoRow : OpenClaim := { program := "ytfajjkolhajldaa", sum := "2d7c91a9b518ae1cef085ab523d9903e1c1eb614998edac48cccdeab2214654c", func := "bourse/bourselaw21.RiskAll", spec := "riskAll", inPlace := ["math/bits.Add64", "math/bits.Sub64"], unfollowed := true, recurses := true, apart := false, narrowed := true }
def RiskAllUptoSaid : Prop := riskAllUptoRow.holds Try.pinned (OpenSpec.upto riskAllSpec)

/-- 'bourselaw21.RiskBook', WHERE WHAT IT READS IS OF BULK AT MOST 1048576: true; the input reads as it did. -/
def riskBookUptoRow : OpenClaim := { program := "ytfajjkolhajldaa", sum := "2d7c91a9b518ae1cef085ab523d9903e1c1eb614998edac48cccdeab2214654c", func := "bourse/bourselaw21.RiskBook", spec := "riskBook", inPlace := ["slices.overlaps[bourse/api.Resting]"], unfollowed := true, recurses := true, apart := false, narrowed := true }
def RiskBookUptoSaid : Prop := riskBookUptoRow.holds Try.pinned (OpenSpec.upto riskBookSpec)

/-- 'bourselaw21.RiskLimits', WHERE WHAT IT READS IS OF BULK AT MOST 1048576: true; the input reads as it did. -/
def riskLimitsUptoRow : OpenClaim := { program := "ytfajjkolhajldaa", sum := "2d7c91a9b518ae1cef085ab523d9903e1c1eb614998edac48cccdeab2214654c", func := "bourse/bourselaw21.RiskLimits", spec := "riskLimits", inPlace := ["math/bits.Add64", "math/bits.Sub64", "slices.overlaps[bourse/api.Resting]"], unfollowed := true, recurses := true, apart := false, narrowed := true }
def RiskLimitsUptoSaid : Prop := riskLimitsUptoRow.holds Try.pinned (OpenSpec.upto riskLimitsSpec)

end Rows
end Go.Proofs.Ytfajjkolhajldaa
