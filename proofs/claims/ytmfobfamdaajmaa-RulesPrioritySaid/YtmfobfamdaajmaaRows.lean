/-
  No cell of these rows narrows 'for every input' (looked for: loops, veiled, ifaces, maps, wideKeys, modest, calm, conditions, laid).
  DERIVED. THE GIVEN ROWS OF THIS SEAT. 8 by the template 'for every input the law returns true; each argument reads behind the call as it read before'; 0 by the template 'total and deterministic' (their statements: YtmfobfamdaajmaaTotals.lean).
  GIVEN WITH THE SEED: the statements are not yours to turn. If you find one false, say at which input.
  Laid BY PROGRAM, IN A SANDBOX (cutbox-rows.mjs): the forced cells as the released guide's own fill.sh prints them over the translation addfc0d46e19956f… (all of the seat's roots in one cut). By AI agents, Wed Nov 11 2026. No macro, syntax, notation, axiom, sorry.
-/
import Derived.Test.YtmfobfamdaajmaaChecked
import GoSem.Claim
import GoSem.ClaimJoined
import GoSem.ClaimMapViews
import Derived.JoinedTies
import Derived.KernelRfl
namespace Go.Proofs.Ytmfobfamdaajmaa
/- THE CELL 'sum', in the pinned program and in every row, IS THE sha256 OF THE DUMP (.gsa) THAT YtmfobfamdaajmaaProg.lean LOADS. Nothing in Lean hashes anything: it is a label: what it is worth is what the hold of that sum in a sandbox is worth. -/
noncomputable def Try.pinned : Pinned := { name := "ytmfobfamdaajmaa", sum := "addfc0d46e19956fde250664596d554f02546842f75f575c6e572348271e9199", checked := Try.checked }
namespace Rows
def none {H : Type} : Left H := { results := [], args := [] }

/-- 'bourselaw09.RulesChecks': WHATEVER THE INPUT: true; the input reads as it did. -/
def rulesChecksSpec : ChangeSpec := { name := "rulesChecks", fn := fun _ => fun
  | [d1, d2] => { results := [.lit (.bool true)], args := [d1, d2] }
  | _ => none }
def rulesChecksRow : OpenClaim := { program := "ytmfobfamdaajmaa", sum := "addfc0d46e19956fde250664596d554f02546842f75f575c6e572348271e9199", func := "bourse/bourselaw09.RulesChecks", spec := "rulesChecks", apart := false }
def RulesChecksSaid : Prop := rulesChecksRow.holds Try.pinned (OpenSpec.ofChange rulesChecksSpec)

/-- ITS FALSE NEIGHBOUR: 'it returns false'. Refute it at one input. -/
def rulesChecksWrong : ChangeSpec := { name := "rulesChecks", fn := fun _ => fun
  | [d1, d2] => { results := [.lit (.bool false)], args := [d1, d2] }
  | _ => none }
def RulesChecksWrongFalsely : Prop := rulesChecksRow.holds Try.pinned (OpenSpec.ofChange rulesChecksWrong)

/-- 'bourselaw09.RulesNumbers': WHATEVER THE INPUT: true; the input reads as it did. -/
def rulesNumbersSpec : ChangeSpec := { name := "rulesNumbers", fn := fun _ => fun
  | [d1, d2] => { results := [.lit (.bool true)], args := [d1, d2] }
  | _ => none }
def rulesNumbersRow : OpenClaim := { program := "ytmfobfamdaajmaa", sum := "addfc0d46e19956fde250664596d554f02546842f75f575c6e572348271e9199", func := "bourse/bourselaw09.RulesNumbers", spec := "rulesNumbers", inPlace := ["slices.overlaps[bourse/api.Resting]"], unfollowed := true, recurses := true, apart := false }
def RulesNumbersSaid : Prop := rulesNumbersRow.holds Try.pinned (OpenSpec.ofChange rulesNumbersSpec)

/-- ITS FALSE NEIGHBOUR: 'it returns false'. Refute it at one input. -/
def rulesNumbersWrong : ChangeSpec := { name := "rulesNumbers", fn := fun _ => fun
  | [d1, d2] => { results := [.lit (.bool false)], args := [d1, d2] }
  | _ => none }
def RulesNumbersWrongFalsely : Prop := rulesNumbersRow.holds Try.pinned (OpenSpec.ofChange rulesNumbersWrong)

/-- 'bourselaw09.RulesPriority': WHATEVER THE INPUT: true; the input reads as it did. -/
def rulesPrioritySpec : ChangeSpec := { name := "rulesPriority", fn := fun _ => fun
  | [d1, d2] => { results := [.lit (.bool true)], args := [d1, d2] }
  | _ => none }
def rulesPriorityRow : OpenClaim := { program := "ytmfobfamdaajmaa", sum := "addfc0d46e19956fde250664596d554f02546842f75f575c6e572348271e9199", func := "bourse/bourselaw09.RulesPriority", spec := "rulesPriority", inPlace := ["slices.overlaps[bourse/api.Resting]"], unfollowed := true, recurses := true, apart := false }
def RulesPrioritySaid : Prop := rulesPriorityRow.holds Try.pinned (OpenSpec.ofChange rulesPrioritySpec)

/-- ITS FALSE NEIGHBOUR: 'it returns false'. Refute it at one input. -/
def rulesPriorityWrong : ChangeSpec := { name := "rulesPriority", fn := fun _ => fun
  | [d1, d2] => { results := [.lit (.bool false)], args := [d1, d2] }
  | _ => none }
def RulesPriorityWrongFalsely : Prop := rulesPriorityRow.holds Try.pinned (OpenSpec.ofChange rulesPriorityWrong)

/-- 'bourselaw09.RulesQuantity': WHATEVER THE INPUT: true; the input reads as it did. -/
def rulesQuantitySpec : ChangeSpec := { name := "rulesQuantity", fn := fun _ => fun
  | [d1, d2] => { results := [.lit (.bool true)], args := [d1, d2] }
  | _ => none }
def rulesQuantityRow : OpenClaim := { program := "ytmfobfamdaajmaa", sum := "addfc0d46e19956fde250664596d554f02546842f75f575c6e572348271e9199", func := "bourse/bourselaw09.RulesQuantity", spec := "rulesQuantity", inPlace := ["slices.overlaps[bourse/api.Resting]"], unfollowed := true, recurses := true, apart := false }
def RulesQuantitySaid : Prop := rulesQuantityRow.holds Try.pinned (OpenSpec.ofChange rulesQuantitySpec)

/-- ITS FALSE NEIGHBOUR: 'it returns false'. Refute it at one input. -/
def rulesQuantityWrong : ChangeSpec := { name := "rulesQuantity", fn := fun _ => fun
  | [d1, d2] => { results := [.lit (.bool false)], args := [d1, d2] }
  | _ => none }
def RulesQuantityWrongFalsely : Prop := rulesQuantityRow.holds Try.pinned (OpenSpec.ofChange rulesQuantityWrong)

/-- 'bourselaw09.RulesKinds': WHATEVER THE INPUT: true; the input reads as it did. -/
def rulesKindsSpec : ChangeSpec := { name := "rulesKinds", fn := fun _ => fun
  | [d1, d2] => { results := [.lit (.bool true)], args := [d1, d2] }
  | _ => none }
def rulesKindsRow : OpenClaim := { program := "ytmfobfamdaajmaa", sum := "addfc0d46e19956fde250664596d554f02546842f75f575c6e572348271e9199", func := "bourse/bourselaw09.RulesKinds", spec := "rulesKinds", inPlace := ["slices.overlaps[bourse/api.Resting]"], unfollowed := true, recurses := true, apart := false }
def RulesKindsSaid : Prop := rulesKindsRow.holds Try.pinned (OpenSpec.ofChange rulesKindsSpec)

/-- ITS FALSE NEIGHBOUR: 'it returns false'. Refute it at one input. -/
def rulesKindsWrong : ChangeSpec := { name := "rulesKinds", fn := fun _ => fun
  | [d1, d2] => { results := [.lit (.bool false)], args := [d1, d2] }
  | _ => none }
def RulesKindsWrongFalsely : Prop := rulesKindsRow.holds Try.pinned (OpenSpec.ofChange rulesKindsWrong)

/-- 'bourselaw09.RulesSound': WHATEVER THE INPUT: true; the input reads as it did. -/
def rulesSoundSpec : ChangeSpec := { name := "rulesSound", fn := fun _ => fun
  | [d1, d2] => { results := [.lit (.bool true)], args := [d1, d2] }
  | _ => none }
def rulesSoundRow : OpenClaim := { program := "ytmfobfamdaajmaa", sum := "addfc0d46e19956fde250664596d554f02546842f75f575c6e572348271e9199", func := "bourse/bourselaw09.RulesSound", spec := "rulesSound", inPlace := ["slices.overlaps[bourse/api.Resting]"], unfollowed := true, recurses := true, apart := false }
def RulesSoundSaid : Prop := rulesSoundRow.holds Try.pinned (OpenSpec.ofChange rulesSoundSpec)

/-- ITS FALSE NEIGHBOUR: 'it returns false'. Refute it at one input. -/
def rulesSoundWrong : ChangeSpec := { name := "rulesSound", fn := fun _ => fun
  | [d1, d2] => { results := [.lit (.bool false)], args := [d1, d2] }
  | _ => none }
def RulesSoundWrongFalsely : Prop := rulesSoundRow.holds Try.pinned (OpenSpec.ofChange rulesSoundWrong)

/-- 'bourselaw09.RulesGoes': WHATEVER THE INPUT: true; the input reads as it did. -/
def rulesGoesSpec : ChangeSpec := { name := "rulesGoes", fn := fun _ => fun
  | [d1, d2, d3] => { results := [.lit (.bool true)], args := [d1, d2, d3] }
  | _ => none }
def rulesGoesRow : OpenClaim := { program := "ytmfobfamdaajmaa", sum := "addfc0d46e19956fde250664596d554f02546842f75f575c6e572348271e9199", func := "bourse/bourselaw09.RulesGoes", spec := "rulesGoes", inPlace := ["slices.overlaps[bourse/api.Resting]"], unfollowed := true, recurses := true, apart := false }
def RulesGoesSaid : Prop := rulesGoesRow.holds Try.pinned (OpenSpec.ofChange rulesGoesSpec)

/-- ITS FALSE NEIGHBOUR: 'it returns false'. Refute it at one input. -/
def rulesGoesWrong : ChangeSpec := { name := "rulesGoes", fn := fun _ => fun
  | [d1, d2, d3] => { results := [.lit (.bool false)], args := [d1, d2, d3] }
  | _ => none }
def RulesGoesWrongFalsely : Prop := rulesGoesRow.holds Try.pinned (OpenSpec.ofChange rulesGoesWrong)

/-- 'bourselaw09.RulesWhole': WHATEVER THE INPUT: true; the input reads as it did. -/
def rulesWholeSpec : ChangeSpec := { name := "rulesWhole", fn := fun _ => fun
  | [d1, d2, d3] => { results := [.lit (.bool true)], args := [d1, d2, d3] }
  | _ => none }
def rulesWholeRow : OpenClaim := { program := "ytmfobfamdaajmaa", sum := "addfc0d46e19956fde250664596d554f02546842f75f575c6e572348271e9199", func := "bourse/bourselaw09.RulesWhole", spec := "rulesWhole", inPlace := ["slices.overlaps[bourse/api.Resting]"], unfollowed := true, recurses := true, apart := false }
def RulesWholeSaid : Prop := rulesWholeRow.holds Try.pinned (OpenSpec.ofChange rulesWholeSpec)

/-- ITS FALSE NEIGHBOUR: 'it returns false'. Refute it at one input. -/
def rulesWholeWrong : ChangeSpec := { name := "rulesWhole", fn := fun _ => fun
  | [d1, d2, d3] => { results := [.lit (.bool false)], args := [d1, d2, d3] }
  | _ => none }
def RulesWholeWrongFalsely : Prop := rulesWholeRow.holds Try.pinned (OpenSpec.ofChange rulesWholeWrong)

/- THE SECOND FORM. 'bulk': how many values and letters a reading holds, each counted each time it is reached (what is shared counts as often as it is met; a slice's spare places count too). A statement '..UptoSaid' is the law's where the arguments, and the package variables that the reading takes, are together of bulk at most 1048576: NARROWER than '..Said'. Prove '..Said' where nothing that the law and all that it calls make is longer than what came in: it says more and counts as full. Else prove '..UptoSaid'. A law counts once. -/
mutual
def uptoBulk {H : Type} : DataW H → Nat
  | .lit (.string bytes) => bytes.length + 1
  | .lit _ => 1
  | .nil => 1
  | .ptr d => uptoBulk d + 1
  | .slice elems spare => uptoBulkAll elems + uptoBulkAll spare + 1
  | .agg parts => uptoBulkAll parts + 1
  | .iface _ d => uptoBulk d + 1
  | .map entries => uptoBulkEntries entries + 1
  | .held _ => 1
def uptoBulkAll {H : Type} : List (DataW H) → Nat
  | [] => 0
  | d :: r => uptoBulk d + uptoBulkAll r
def uptoBulkEntries {H : Type} : List (Lit × DataW H) → Nat
  | [] => 0
  | x :: r => uptoBulkEntry x + uptoBulkEntries r
def uptoBulkEntry {H : Type} : Lit × DataW H → Nat
  | (.string bytes, d) => bytes.length + uptoBulk d + 1
  | (_, d) => uptoBulk d + 1
 end
def uptoSmall : (H : Type) → List (DataW H) → Bool := fun _ ds => decide (uptoBulkAll ds ≤ 1048576)
def OpenSpec.upto (s : _root_.Go.ChangeSpec) : _root_.Go.OpenSpec := { _root_.Go.OpenSpec.ofChange s with cond := some uptoSmall }

/-- 'bourselaw09.RulesChecks', WHERE WHAT IT READS IS OF BULK AT MOST 1048576: true; the input reads as it did. -/
def rulesChecksUptoRow : OpenClaim := { program := "ytmfobfamdaajmaa", sum := "addfc0d46e19956fde250664596d554f02546842f75f575c6e572348271e9199", func := "bourse/bourselaw09.RulesChecks", spec := "rulesChecks", apart := false, narrowed := true }
def RulesChecksUptoSaid : Prop := rulesChecksUptoRow.holds Try.pinned (OpenSpec.upto rulesChecksSpec)

/-- 'bourselaw09.RulesNumbers', WHERE WHAT IT READS IS OF BULK AT MOST 1048576: true; the input reads as it did. -/
def rulesNumbersUptoRow : OpenClaim := { program := "ytmfobfamdaajmaa", sum := "addfc0d46e19956fde250664596d554f02546842f75f575c6e572348271e9199", func := "bourse/bourselaw09.RulesNumbers", spec := "rulesNumbers", inPlace := ["slices.overlaps[bourse/api.Resting]"], unfollowed := true, recurses := true, apart := false, narrowed := true }
def RulesNumbersUptoSaid : Prop := rulesNumbersUptoRow.holds Try.pinned (OpenSpec.upto rulesNumbersSpec)

/-- 'bourselaw09.RulesPriority', WHERE WHAT IT READS IS OF BULK AT MOST 1048576: true; the input reads as it did. -/
def rulesPriorityUptoRow : OpenClaim := { program := "ytmfobfamdaajmaa", sum := "addfc0d46e19956fde250664596d554f02546842f75f575c6e572348271e9199", func := "bourse/bourselaw09.RulesPriority", spec := "rulesPriority", inPlace := ["slices.overlaps[bourse/api.Resting]"], unfollowed := true, recurses := true, apart := false, narrowed := true }
def RulesPriorityUptoSaid : Prop := rulesPriorityUptoRow.holds Try.pinned (OpenSpec.upto rulesPrioritySpec)

/-- 'bourselaw09.RulesQuantity', WHERE WHAT IT READS IS OF BULK AT MOST 1048576: true; the input reads as it did. -/
def rulesQuantityUptoRow : OpenClaim := { program := "ytmfobfamdaajmaa", sum := "addfc0d46e19956fde250664596d554f02546842f75f575c6e572348271e9199", func := "bourse/bourselaw09.RulesQuantity", spec := "rulesQuantity", inPlace := ["slices.overlaps[bourse/api.Resting]"], unfollowed := true, recurses := true, apart := false, narrowed := true }
def RulesQuantityUptoSaid : Prop := rulesQuantityUptoRow.holds Try.pinned (OpenSpec.upto rulesQuantitySpec)

/-- 'bourselaw09.RulesKinds', WHERE WHAT IT READS IS OF BULK AT MOST 1048576: true; the input reads as it did. -/
def rulesKindsUptoRow : OpenClaim := { program := "ytmfobfamdaajmaa", sum := "addfc0d46e19956fde250664596d554f02546842f75f575c6e572348271e9199", func := "bourse/bourselaw09.RulesKinds", spec := "rulesKinds", inPlace := ["slices.overlaps[bourse/api.Resting]"], unfollowed := true, recurses := true, apart := false, narrowed := true }
def RulesKindsUptoSaid : Prop := rulesKindsUptoRow.holds Try.pinned (OpenSpec.upto rulesKindsSpec)

/-- 'bourselaw09.RulesSound', WHERE WHAT IT READS IS OF BULK AT MOST 1048576: true; the input reads as it did. -/
def rulesSoundUptoRow : OpenClaim := { program := "ytmfobfamdaajmaa", sum := "addfc0d46e19956fde250664596d554f02546842f75f575c6e572348271e9199", func := "bourse/bourselaw09.RulesSound", spec := "rulesSound", inPlace := ["slices.overlaps[bourse/api.Resting]"], unfollowed := true, recurses := true, apart := false, narrowed := true }
def RulesSoundUptoSaid : Prop := rulesSoundUptoRow.holds Try.pinned (OpenSpec.upto rulesSoundSpec)

/-- 'bourselaw09.RulesGoes', WHERE WHAT IT READS IS OF BULK AT MOST 1048576: true; the input reads as it did. -/
def rulesGoesUptoRow : OpenClaim := { program := "ytmfobfamdaajmaa", sum := "addfc0d46e19956fde250664596d554f02546842f75f575c6e572348271e9199", func := "bourse/bourselaw09.RulesGoes", spec := "rulesGoes", inPlace := ["slices.overlaps[bourse/api.Resting]"], unfollowed := true, recurses := true, apart := false, narrowed := true }
def RulesGoesUptoSaid : Prop := rulesGoesUptoRow.holds Try.pinned (OpenSpec.upto rulesGoesSpec)

/-- 'bourselaw09.RulesWhole', WHERE WHAT IT READS IS OF BULK AT MOST 1048576: true; the input reads as it did. -/
def rulesWholeUptoRow : OpenClaim := { program := "ytmfobfamdaajmaa", sum := "addfc0d46e19956fde250664596d554f02546842f75f575c6e572348271e9199", func := "bourse/bourselaw09.RulesWhole", spec := "rulesWhole", inPlace := ["slices.overlaps[bourse/api.Resting]"], unfollowed := true, recurses := true, apart := false, narrowed := true }
def RulesWholeUptoSaid : Prop := rulesWholeUptoRow.holds Try.pinned (OpenSpec.upto rulesWholeSpec)

end Rows
end Go.Proofs.Ytmfobfamdaajmaa
