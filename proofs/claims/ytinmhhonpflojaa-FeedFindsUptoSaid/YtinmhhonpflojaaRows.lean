/-
  No cell of these rows narrows 'for every input' (looked for: loops, veiled, ifaces, maps, wideKeys, modest, calm, conditions, laid).
  DERIVED. THE GIVEN ROWS OF THIS SEAT. 8 by the template 'for every input the law returns true; each argument reads behind the call as it read before'; 0 by the template 'total and deterministic' (their statements: YtinmhhonpflojaaTotals.lean).
  GIVEN WITH THE SEED: the statements are not yours to turn. If you find one false, say at which input.
  Laid BY PROGRAM, IN A SANDBOX (cutbox-rows.mjs): the forced cells as the released guide's own fill.sh prints them over the translation 6add896a73047961… (all of the seat's roots in one cut). By AI agents, Wed Nov 11 2026. No macro, syntax, notation, axiom, sorry.
-/
import Derived.Test.YtinmhhonpflojaaChecked
import GoSem.Claim
import GoSem.ClaimJoined
import GoSem.ClaimMapViews
import Derived.JoinedTies
import Derived.KernelRfl
namespace Go.Proofs.Ytinmhhonpflojaa
/- THE CELL 'sum', in the pinned program and in every row, IS THE sha256 OF THE DUMP (.gsa) THAT YtinmhhonpflojaaProg.lean LOADS. Nothing in Lean hashes anything: it is a label: what it is worth is what the hold of that sum in a sandbox is worth. -/
noncomputable def Try.pinned : Pinned := { name := "ytinmhhonpflojaa", sum := "6add896a730479612ffd08afbe23789dd26dcacb6b188d12ff08a664bb6cd75c", checked := Try.checked }
namespace Rows
def none {H : Type} : Left H := { results := [], args := [] }

/-- 'bourselaw18.FeedPacks': WHATEVER THE INPUT: true; the input reads as it did. -/
def feedPacksSpec : ChangeSpec := { name := "feedPacks", fn := fun _ => fun
  | [d1, d2] => { results := [.lit (.bool true)], args := [d1, d2] }
  | _ => none }
def feedPacksRow : OpenClaim := { program := "ytinmhhonpflojaa", sum := "6add896a730479612ffd08afbe23789dd26dcacb6b188d12ff08a664bb6cd75c", func := "bourse/bourselaw18.FeedPacks", spec := "feedPacks", apart := false }
def FeedPacksSaid : Prop := feedPacksRow.holds Try.pinned (OpenSpec.ofChange feedPacksSpec)

/-- ITS FALSE NEIGHBOUR: 'it returns false'. Refute it at one input. -/
def feedPacksWrong : ChangeSpec := { name := "feedPacks", fn := fun _ => fun
  | [d1, d2] => { results := [.lit (.bool false)], args := [d1, d2] }
  | _ => none }
def FeedPacksWrongFalsely : Prop := feedPacksRow.holds Try.pinned (OpenSpec.ofChange feedPacksWrong)

/-- 'bourselaw18.FeedPublishes': WHATEVER THE INPUT: true; the input reads as it did. -/
def feedPublishesSpec : ChangeSpec := { name := "feedPublishes", fn := fun _ => fun
  | [d1, d2] => { results := [.lit (.bool true)], args := [d1, d2] }
  | _ => none }
def feedPublishesRow : OpenClaim := { program := "ytinmhhonpflojaa", sum := "6add896a730479612ffd08afbe23789dd26dcacb6b188d12ff08a664bb6cd75c", func := "bourse/bourselaw18.FeedPublishes", spec := "feedPublishes", apart := false }
def FeedPublishesSaid : Prop := feedPublishesRow.holds Try.pinned (OpenSpec.ofChange feedPublishesSpec)

/-- ITS FALSE NEIGHBOUR: 'it returns false'. Refute it at one input. -/
def feedPublishesWrong : ChangeSpec := { name := "feedPublishes", fn := fun _ => fun
  | [d1, d2] => { results := [.lit (.bool false)], args := [d1, d2] }
  | _ => none }
def FeedPublishesWrongFalsely : Prop := feedPublishesRow.holds Try.pinned (OpenSpec.ofChange feedPublishesWrong)

/-- 'bourselaw18.FeedTakes': WHATEVER THE INPUT: true; the input reads as it did. -/
def feedTakesSpec : ChangeSpec := { name := "feedTakes", fn := fun _ => fun
  | [d1, d2, d3] => { results := [.lit (.bool true)], args := [d1, d2, d3] }
  | _ => none }
def feedTakesRow : OpenClaim := { program := "ytinmhhonpflojaa", sum := "6add896a730479612ffd08afbe23789dd26dcacb6b188d12ff08a664bb6cd75c", func := "bourse/bourselaw18.FeedTakes", spec := "feedTakes", inPlace := ["slices.overlaps[bourse/api.Level]"], unfollowed := true, recurses := true, apart := false }
def FeedTakesSaid : Prop := feedTakesRow.holds Try.pinned (OpenSpec.ofChange feedTakesSpec)

/-- ITS FALSE NEIGHBOUR: 'it returns false'. Refute it at one input. -/
def feedTakesWrong : ChangeSpec := { name := "feedTakes", fn := fun _ => fun
  | [d1, d2, d3] => { results := [.lit (.bool false)], args := [d1, d2, d3] }
  | _ => none }
def FeedTakesWrongFalsely : Prop := feedTakesRow.holds Try.pinned (OpenSpec.ofChange feedTakesWrong)

/-- 'bourselaw18.FeedFrames': WHATEVER THE INPUT: true; the input reads as it did. -/
def feedFramesSpec : ChangeSpec := { name := "feedFrames", fn := fun _ => fun
  | [d1, d2] => { results := [.lit (.bool true)], args := [d1, d2] }
  | _ => none }
def feedFramesRow : OpenClaim := { program := "ytinmhhonpflojaa", sum := "6add896a730479612ffd08afbe23789dd26dcacb6b188d12ff08a664bb6cd75c", func := "bourse/bourselaw18.FeedFrames", spec := "feedFrames", inPlace := ["slices.overlaps[bourse/api.Level]"], unfollowed := true, recurses := true, apart := false }
def FeedFramesSaid : Prop := feedFramesRow.holds Try.pinned (OpenSpec.ofChange feedFramesSpec)

/-- ITS FALSE NEIGHBOUR: 'it returns false'. Refute it at one input. -/
def feedFramesWrong : ChangeSpec := { name := "feedFrames", fn := fun _ => fun
  | [d1, d2] => { results := [.lit (.bool false)], args := [d1, d2] }
  | _ => none }
def FeedFramesWrongFalsely : Prop := feedFramesRow.holds Try.pinned (OpenSpec.ofChange feedFramesWrong)

/-- 'bourselaw18.FeedBooks': WHATEVER THE INPUT: true; the input reads as it did. -/
def feedBooksSpec : ChangeSpec := { name := "feedBooks", fn := fun _ => fun
  | [d1, d2, d3] => { results := [.lit (.bool true)], args := [d1, d2, d3] }
  | _ => none }
def feedBooksRow : OpenClaim := { program := "ytinmhhonpflojaa", sum := "6add896a730479612ffd08afbe23789dd26dcacb6b188d12ff08a664bb6cd75c", func := "bourse/bourselaw18.FeedBooks", spec := "feedBooks", inPlace := ["slices.overlaps[bourse/api.Level]", "slices.overlaps[bourse/api.Resting]"], unfollowed := true, recurses := true, apart := false }
def FeedBooksSaid : Prop := feedBooksRow.holds Try.pinned (OpenSpec.ofChange feedBooksSpec)

/-- ITS FALSE NEIGHBOUR: 'it returns false'. Refute it at one input. -/
def feedBooksWrong : ChangeSpec := { name := "feedBooks", fn := fun _ => fun
  | [d1, d2, d3] => { results := [.lit (.bool false)], args := [d1, d2, d3] }
  | _ => none }
def FeedBooksWrongFalsely : Prop := feedBooksRow.holds Try.pinned (OpenSpec.ofChange feedBooksWrong)

/-- 'bourselaw18.FeedDepths': WHATEVER THE INPUT: true; the input reads as it did. -/
def feedDepthsSpec : ChangeSpec := { name := "feedDepths", fn := fun _ => fun
  | [d1, d2, d3, d4] => { results := [.lit (.bool true)], args := [d1, d2, d3, d4] }
  | _ => none }
def feedDepthsRow : OpenClaim := { program := "ytinmhhonpflojaa", sum := "6add896a730479612ffd08afbe23789dd26dcacb6b188d12ff08a664bb6cd75c", func := "bourse/bourselaw18.FeedDepths", spec := "feedDepths", inPlace := ["slices.overlaps[bourse/api.Level]", "slices.overlaps[bourse/api.Resting]"], unfollowed := true, recurses := true, apart := false }
def FeedDepthsSaid : Prop := feedDepthsRow.holds Try.pinned (OpenSpec.ofChange feedDepthsSpec)

/-- ITS FALSE NEIGHBOUR: 'it returns false'. Refute it at one input. -/
def feedDepthsWrong : ChangeSpec := { name := "feedDepths", fn := fun _ => fun
  | [d1, d2, d3, d4] => { results := [.lit (.bool false)], args := [d1, d2, d3, d4] }
  | _ => none }
def FeedDepthsWrongFalsely : Prop := feedDepthsRow.holds Try.pinned (OpenSpec.ofChange feedDepthsWrong)

/-- 'bourselaw18.FeedFollows': WHATEVER THE INPUT: true; the input reads as it did. -/
def feedFollowsSpec : ChangeSpec := { name := "feedFollows", fn := fun _ => fun
  | [d1, d2, d3, d4] => { results := [.lit (.bool true)], args := [d1, d2, d3, d4] }
  | _ => none }
def feedFollowsRow : OpenClaim := { program := "ytinmhhonpflojaa", sum := "6add896a730479612ffd08afbe23789dd26dcacb6b188d12ff08a664bb6cd75c", func := "bourse/bourselaw18.FeedFollows", spec := "feedFollows", inPlace := ["slices.overlaps[bourse/api.Level]", "slices.overlaps[bourse/api.Resting]"], unfollowed := true, recurses := true, apart := false }
def FeedFollowsSaid : Prop := feedFollowsRow.holds Try.pinned (OpenSpec.ofChange feedFollowsSpec)

/-- ITS FALSE NEIGHBOUR: 'it returns false'. Refute it at one input. -/
def feedFollowsWrong : ChangeSpec := { name := "feedFollows", fn := fun _ => fun
  | [d1, d2, d3, d4] => { results := [.lit (.bool false)], args := [d1, d2, d3, d4] }
  | _ => none }
def FeedFollowsWrongFalsely : Prop := feedFollowsRow.holds Try.pinned (OpenSpec.ofChange feedFollowsWrong)

/-- 'bourselaw18.FeedFinds': WHATEVER THE INPUT: true; the input reads as it did. -/
def feedFindsSpec : ChangeSpec := { name := "feedFinds", fn := fun _ => fun
  | [d1, d2, d3, d4, d5] => { results := [.lit (.bool true)], args := [d1, d2, d3, d4, d5] }
  | _ => none }
def feedFindsRow : OpenClaim := { program := "ytinmhhonpflojaa", sum := "6add896a730479612ffd08afbe23789dd26dcacb6b188d12ff08a664bb6cd75c", func := "bourse/bourselaw18.FeedFinds", spec := "feedFinds", inPlace := ["slices.overlaps[bourse/api.Level]", "slices.overlaps[bourse/api.Resting]"], unfollowed := true, recurses := true, apart := false }
def FeedFindsSaid : Prop := feedFindsRow.holds Try.pinned (OpenSpec.ofChange feedFindsSpec)

/-- ITS FALSE NEIGHBOUR: 'it returns false'. Refute it at one input. -/
def feedFindsWrong : ChangeSpec := { name := "feedFinds", fn := fun _ => fun
  | [d1, d2, d3, d4, d5] => { results := [.lit (.bool false)], args := [d1, d2, d3, d4, d5] }
  | _ => none }
def FeedFindsWrongFalsely : Prop := feedFindsRow.holds Try.pinned (OpenSpec.ofChange feedFindsWrong)

/- THE SECOND FORM. 'bulk': how many values and letters a reading holds, each counted each time it is reached (what is shared counts as often as it is met; a slice's spare places count too). A statement '..UptoSaid' is the law's where the arguments, and the package variables that the reading takes, are together of bulk at most 1048576: NARROWER than '..Said'. Prove '..Said' where nothing that the law and all that it calls make is longer than what came in: it says more and counts as full. Else prove '..UptoSaid'. A law counts once. -/
mutual
def uptoBulk {H : Type} : DataW H → Nat
  | .lit (.string bytes) => bytes.length + 1
  | .lit _ => 1
  | .nil => 1
  | .ptr d => uptoBulk d + 1
  | .slice elems spare => uptoBulkAll elems + uptoBulkAll spare + 1
  | .agg parts => uptoBulkAll parts + 1
  | .iface _ d => uptoBulk d + 1
  | .map entries => uptoBulkEntries entries + 1
  | .held _ => 1
def uptoBulkAll {H : Type} : List (DataW H) → Nat
  | [] => 0
  | d :: r => uptoBulk d + uptoBulkAll r
def uptoBulkEntries {H : Type} : List (Lit × DataW H) → Nat
  | [] => 0
  | x :: r => uptoBulkEntry x + uptoBulkEntries r
def uptoBulkEntry {H : Type} : Lit × DataW H → Nat
  | (.string bytes, d) => bytes.length + uptoBulk d + 1
  | (_, d) => uptoBulk d + 1
 end
def uptoSmall : (H : Type) → List (DataW H) → Bool := fun _ ds => decide (uptoBulkAll ds ≤ 1048576)
def OpenSpec.upto (s : _root_.Go.ChangeSpec) : _root_.Go.OpenSpec := { _root_.Go.OpenSpec.ofChange s with cond := some uptoSmall }

/-- 'bourselaw18.FeedPacks', WHERE WHAT IT READS IS OF BULK AT MOST 1048576: true; the input reads as it did. -/
def feedPacksUptoRow : OpenClaim := { program := "ytinmhhonpflojaa", sum := "6add896a730479612ffd08afbe23789dd26dcacb6b188d12ff08a664bb6cd75c", func := "bourse/bourselaw18.FeedPacks", spec := "feedPacks", apart := false, narrowed := true }
def FeedPacksUptoSaid : Prop := feedPacksUptoRow.holds Try.pinned (OpenSpec.upto feedPacksSpec)

/-- 'bourselaw18.FeedPublishes', WHERE WHAT IT READS IS OF BULK AT MOST 1048576: true; the input reads as it did. -/
def feedPublishesUptoRow : OpenClaim := { program := "ytinmhhonpflojaa", sum := "6add896a730479612ffd08afbe23789dd26dcacb6b188d12ff08a664bb6cd75c", func := "bourse/bourselaw18.FeedPublishes", spec := "feedPublishes", apart := false, narrowed := true }
def FeedPublishesUptoSaid : Prop := feedPublishesUptoRow.holds Try.pinned (OpenSpec.upto feedPublishesSpec)

/-- 'bourselaw18.FeedTakes', WHERE WHAT IT READS IS OF BULK AT MOST 1048576: true; the input reads as it did. -/
def feedTakesUptoRow : OpenClaim := { program := "ytinmhhonpflojaa", sum := "6add896a730479612ffd08afbe23789dd26dcacb6b188d12ff08a664bb6cd75c", func := "bourse/bourselaw18.FeedTakes", spec := "feedTakes", inPlace := ["slices.overlaps[bourse/api.Level]"], unfollowed := true, recurses := true, apart := false, narrowed := true }
def FeedTakesUptoSaid : Prop := feedTakesUptoRow.holds Try.pinned (OpenSpec.upto feedTakesSpec)

/-- 'bourselaw18.FeedFrames', WHERE WHAT IT READS IS OF BULK AT MOST 1048576: true; the input reads as it did. -/
def feedFramesUptoRow : OpenClaim := { program := "ytinmhhonpflojaa", sum := "6add896a730479612ffd08afbe23789dd26dcacb6b188d12ff08a664bb6cd75c", func := "bourse/bourselaw18.FeedFrames", spec := "feedFrames", inPlace := ["slices.overlaps[bourse/api.Level]"], unfollowed := true, recurses := true, apart := false, narrowed := true }
def FeedFramesUptoSaid : Prop := feedFramesUptoRow.holds Try.pinned (OpenSpec.upto feedFramesSpec)

/-- 'bourselaw18.FeedBooks', WHERE WHAT IT READS IS OF BULK AT MOST 1048576: true; the input reads as it did. -/
def feedBooksUptoRow : OpenClaim := { program := "ytinmhhonpflojaa", sum := "6add896a730479612ffd08afbe23789dd26dcacb6b188d12ff08a664bb6cd75c", func := "bourse/bourselaw18.FeedBooks", spec := "feedBooks", inPlace := ["slices.overlaps[bourse/api.Level]", "slices.overlaps[bourse/api.Resting]"], unfollowed := true, recurses := true, apart := false, narrowed := true }
def FeedBooksUptoSaid : Prop := feedBooksUptoRow.holds Try.pinned (OpenSpec.upto feedBooksSpec)

/-- 'bourselaw18.FeedDepths', WHERE WHAT IT READS IS OF BULK AT MOST 1048576: true; the input reads as it did. -/
def feedDepthsUptoRow : OpenClaim := { program := "ytinmhhonpflojaa", sum := "6add896a730479612ffd08afbe23789dd26dcacb6b188d12ff08a664bb6cd75c", func := "bourse/bourselaw18.FeedDepths", spec := "feedDepths", inPlace := ["slices.overlaps[bourse/api.Level]", "slices.overlaps[bourse/api.Resting]"], unfollowed := true, recurses := true, apart := false, narrowed := true }
def FeedDepthsUptoSaid : Prop := feedDepthsUptoRow.holds Try.pinned (OpenSpec.upto feedDepthsSpec)

/-- 'bourselaw18.FeedFollows', WHERE WHAT IT READS IS OF BULK AT MOST 1048576: true; the input reads as it did. -/
def feedFollowsUptoRow : OpenClaim := { program := "ytinmhhonpflojaa", sum := "6add896a730479612ffd08afbe23789dd26dcacb6b188d12ff08a664bb6cd75c", func := "bourse/bourselaw18.FeedFollows", spec := "feedFollows", inPlace := ["slices.overlaps[bourse/api.Level]", "slices.overlaps[bourse/api.Resting]"], unfollowed := true, recurses := true, apart := false, narrowed := true }
def FeedFollowsUptoSaid : Prop := feedFollowsUptoRow.holds Try.pinned (OpenSpec.upto feedFollowsSpec)

/-- 'bourselaw18.FeedFinds', WHERE WHAT IT READS IS OF BULK AT MOST 1048576: true; the input reads as it did. -/
def feedFindsUptoRow : OpenClaim := { program := "ytinmhhonpflojaa", sum := "6add896a730479612ffd08afbe23789dd26dcacb6b188d12ff08a664bb6cd75c", func := "bourse/bourselaw18.FeedFinds", spec := "feedFinds", inPlace := ["slices.overlaps[bourse/api.Level]", "slices.overlaps[bourse/api.Resting]"], unfollowed := true, recurses := true, apart := false, narrowed := true }
def FeedFindsUptoSaid : Prop := feedFindsUptoRow.holds Try.pinned (OpenSpec.upto feedFindsSpec)

end Rows
end Go.Proofs.Ytinmhhonpflojaa
