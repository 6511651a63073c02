/-
  No cell of these rows narrows 'for every input' (looked for: loops, veiled, ifaces, maps, wideKeys, modest, calm, conditions, laid).
  DERIVED. THE GIVEN ROWS OF THIS SEAT. 10 by the template 'for every input the law returns true; each argument reads behind the call as it read before'; 0 by the template 'total and deterministic' (their statements: YtcgnbdgagkhehaaTotals.lean).
  GIVEN WITH THE SEED: the statements are not yours to turn. If you find one false, say at which input.
  Laid BY PROGRAM, IN A SANDBOX (cutbox-rows.mjs): the forced cells as the released guide's own fill.sh prints them over the translation 2936e5c85a62c67a… (all of the seat's roots in one cut). By AI agents, Wed Nov 11 2026. No macro, syntax, notation, axiom, sorry.
-/
import Derived.Test.YtcgnbdgagkhehaaChecked
import GoSem.Claim
import GoSem.ClaimJoined
import GoSem.ClaimMapViews
import Derived.JoinedTies
import Derived.KernelRfl
namespace Go.Proofs.Ytcgnbdgagkhehaa
/- THE CELL 'sum', in the pinned program and in every row, IS THE sha256 OF THE DUMP (.gsa) THAT YtcgnbdgagkhehaaProg.lean LOADS. Nothing in Lean hashes anything: it is a label: what it is worth is what the hold of that sum in a sandbox is worth. -/
noncomputable def Try.pinned : Pinned := { name := "ytcgnbdgagkhehaa", sum := "2936e5c85a62c67aa9c6a08d7ce920edb47d0c192da23a6ee66917f61506745d", checked := Try.checked }
namespace Rows
def none {H : Type} : Left H := { results := [], args := [] }

/-- 'bourselaw02.WireSums': WHATEVER THE INPUT: true; the input reads as it did. -/
def wireSumsSpec : ChangeSpec := { name := "wireSums", fn := fun _ => fun
  | [d] => { results := [.lit (.bool true)], args := [d] }
  | _ => none }
def wireSumsRow : OpenClaim := { program := "ytcgnbdgagkhehaa", sum := "2936e5c85a62c67aa9c6a08d7ce920edb47d0c192da23a6ee66917f61506745d", func := "bourse/bourselaw02.WireSums", spec := "wireSums", apart := false }
def WireSumsSaid : Prop := wireSumsRow.holds Try.pinned (OpenSpec.ofChange wireSumsSpec)

/-- ITS FALSE NEIGHBOUR: 'it returns false'. Refute it at one input. -/
def wireSumsWrong : ChangeSpec := { name := "wireSums", fn := fun _ => fun
  | [d] => { results := [.lit (.bool false)], args := [d] }
  | _ => none }
def WireSumsWrongFalsely : Prop := wireSumsRow.holds Try.pinned (OpenSpec.ofChange wireSumsWrong)

/-- 'bourselaw02.WirePacks': WHATEVER THE INPUT: true; the input reads as it did. -/
def wirePacksSpec : ChangeSpec := { name := "wirePacks", fn := fun _ => fun
  | [d] => { results := [.lit (.bool true)], args := [d] }
  | _ => none }
def wirePacksRow : OpenClaim := { program := "ytcgnbdgagkhehaa", sum := "2936e5c85a62c67aa9c6a08d7ce920edb47d0c192da23a6ee66917f61506745d", func := "bourse/bourselaw02.WirePacks", spec := "wirePacks", apart := false }
def WirePacksSaid : Prop := wirePacksRow.holds Try.pinned (OpenSpec.ofChange wirePacksSpec)

/-- ITS FALSE NEIGHBOUR: 'it returns false'. Refute it at one input. -/
def wirePacksWrong : ChangeSpec := { name := "wirePacks", fn := fun _ => fun
  | [d] => { results := [.lit (.bool false)], args := [d] }
  | _ => none }
def WirePacksWrongFalsely : Prop := wirePacksRow.holds Try.pinned (OpenSpec.ofChange wirePacksWrong)

/-- 'bourselaw02.WireUnpacks': WHATEVER THE INPUT: true; the input reads as it did. -/
def wireUnpacksSpec : ChangeSpec := { name := "wireUnpacks", fn := fun _ => fun
  | [d] => { results := [.lit (.bool true)], args := [d] }
  | _ => none }
def wireUnpacksRow : OpenClaim := { program := "ytcgnbdgagkhehaa", sum := "2936e5c85a62c67aa9c6a08d7ce920edb47d0c192da23a6ee66917f61506745d", func := "bourse/bourselaw02.WireUnpacks", spec := "wireUnpacks", apart := false }
def WireUnpacksSaid : Prop := wireUnpacksRow.holds Try.pinned (OpenSpec.ofChange wireUnpacksSpec)

/-- ITS FALSE NEIGHBOUR: 'it returns false'. Refute it at one input. -/
def wireUnpacksWrong : ChangeSpec := { name := "wireUnpacks", fn := fun _ => fun
  | [d] => { results := [.lit (.bool false)], args := [d] }
  | _ => none }
def WireUnpacksWrongFalsely : Prop := wireUnpacksRow.holds Try.pinned (OpenSpec.ofChange wireUnpacksWrong)

/-- 'bourselaw02.WireOneForm': WHATEVER THE INPUT: true; the input reads as it did. -/
def wireOneFormSpec : ChangeSpec := { name := "wireOneForm", fn := fun _ => fun
  | [d1, d2] => { results := [.lit (.bool true)], args := [d1, d2] }
  | _ => none }
def wireOneFormRow : OpenClaim := { program := "ytcgnbdgagkhehaa", sum := "2936e5c85a62c67aa9c6a08d7ce920edb47d0c192da23a6ee66917f61506745d", func := "bourse/bourselaw02.WireOneForm", spec := "wireOneForm", apart := false }
def WireOneFormSaid : Prop := wireOneFormRow.holds Try.pinned (OpenSpec.ofChange wireOneFormSpec)

/-- ITS FALSE NEIGHBOUR: 'it returns false'. Refute it at one input. -/
def wireOneFormWrong : ChangeSpec := { name := "wireOneForm", fn := fun _ => fun
  | [d1, d2] => { results := [.lit (.bool false)], args := [d1, d2] }
  | _ => none }
def WireOneFormWrongFalsely : Prop := wireOneFormRow.holds Try.pinned (OpenSpec.ofChange wireOneFormWrong)

/-- 'bourselaw02.WireBurst': WHATEVER THE INPUT: true; the input reads as it did. -/
def wireBurstSpec : ChangeSpec := { name := "wireBurst", fn := fun _ => fun
  | [d1, d2, d3] => { results := [.lit (.bool true)], args := [d1, d2, d3] }
  | _ => none }
def wireBurstRow : OpenClaim := { program := "ytcgnbdgagkhehaa", sum := "2936e5c85a62c67aa9c6a08d7ce920edb47d0c192da23a6ee66917f61506745d", func := "bourse/bourselaw02.WireBurst", spec := "wireBurst", apart := false }
def WireBurstSaid : Prop := wireBurstRow.holds Try.pinned (OpenSpec.ofChange wireBurstSpec)

/-- ITS FALSE NEIGHBOUR: 'it returns false'. Refute it at one input. -/
def wireBurstWrong : ChangeSpec := { name := "wireBurst", fn := fun _ => fun
  | [d1, d2, d3] => { results := [.lit (.bool false)], args := [d1, d2, d3] }
  | _ => none }
def WireBurstWrongFalsely : Prop := wireBurstRow.holds Try.pinned (OpenSpec.ofChange wireBurstWrong)

/-- 'bourselaw02.WireAlls': WHATEVER THE INPUT: true; the input reads as it did. -/
def wireAllsSpec : ChangeSpec := { name := "wireAlls", fn := fun _ => fun
  | [d1, d2, d3] => { results := [.lit (.bool true)], args := [d1, d2, d3] }
  | _ => none }
def wireAllsRow : OpenClaim := { program := "ytcgnbdgagkhehaa", sum := "2936e5c85a62c67aa9c6a08d7ce920edb47d0c192da23a6ee66917f61506745d", func := "bourse/bourselaw02.WireAlls", spec := "wireAlls", unfollowed := true, recurses := true, apart := false }
def WireAllsSaid : Prop := wireAllsRow.holds Try.pinned (OpenSpec.ofChange wireAllsSpec)

/-- ITS FALSE NEIGHBOUR: 'it returns false'. Refute it at one input. -/
def wireAllsWrong : ChangeSpec := { name := "wireAlls", fn := fun _ => fun
  | [d1, d2, d3] => { results := [.lit (.bool false)], args := [d1, d2, d3] }
  | _ => none }
def WireAllsWrongFalsely : Prop := wireAllsRow.holds Try.pinned (OpenSpec.ofChange wireAllsWrong)

/-- 'bourselaw02.WireAlone': WHATEVER THE INPUT: true; the input reads as it did. -/
def wireAloneSpec : ChangeSpec := { name := "wireAlone", fn := fun _ => fun
  | [d1, d2, d3] => { results := [.lit (.bool true)], args := [d1, d2, d3] }
  | _ => none }
def wireAloneRow : OpenClaim := { program := "ytcgnbdgagkhehaa", sum := "2936e5c85a62c67aa9c6a08d7ce920edb47d0c192da23a6ee66917f61506745d", func := "bourse/bourselaw02.WireAlone", spec := "wireAlone", unfollowed := true, recurses := true, apart := false }
def WireAloneSaid : Prop := wireAloneRow.holds Try.pinned (OpenSpec.ofChange wireAloneSpec)

/-- ITS FALSE NEIGHBOUR: 'it returns false'. Refute it at one input. -/
def wireAloneWrong : ChangeSpec := { name := "wireAlone", fn := fun _ => fun
  | [d1, d2, d3] => { results := [.lit (.bool false)], args := [d1, d2, d3] }
  | _ => none }
def WireAloneWrongFalsely : Prop := wireAloneRow.holds Try.pinned (OpenSpec.ofChange wireAloneWrong)

/-- 'bourselaw02.WireReaders': WHATEVER THE INPUT: true; the input reads as it did. -/
def wireReadersSpec : ChangeSpec := { name := "wireReaders", fn := fun _ => fun
  | [d] => { results := [.lit (.bool true)], args := [d] }
  | _ => none }
def wireReadersRow : OpenClaim := { program := "ytcgnbdgagkhehaa", sum := "2936e5c85a62c67aa9c6a08d7ce920edb47d0c192da23a6ee66917f61506745d", func := "bourse/bourselaw02.WireReaders", spec := "wireReaders", apart := false }
def WireReadersSaid : Prop := wireReadersRow.holds Try.pinned (OpenSpec.ofChange wireReadersSpec)

/-- ITS FALSE NEIGHBOUR: 'it returns false'. Refute it at one input. -/
def wireReadersWrong : ChangeSpec := { name := "wireReaders", fn := fun _ => fun
  | [d] => { results := [.lit (.bool false)], args := [d] }
  | _ => none }
def WireReadersWrongFalsely : Prop := wireReadersRow.holds Try.pinned (OpenSpec.ofChange wireReadersWrong)

/-- 'bourselaw02.WireLeft': WHATEVER THE INPUT: true; the input reads as it did. -/
def wireLeftSpec : ChangeSpec := { name := "wireLeft", fn := fun _ => fun
  | [d] => { results := [.lit (.bool true)], args := [d] }
  | _ => none }
def wireLeftRow : OpenClaim := { program := "ytcgnbdgagkhehaa", sum := "2936e5c85a62c67aa9c6a08d7ce920edb47d0c192da23a6ee66917f61506745d", func := "bourse/bourselaw02.WireLeft", spec := "wireLeft", apart := false }
def WireLeftSaid : Prop := wireLeftRow.holds Try.pinned (OpenSpec.ofChange wireLeftSpec)

/-- ITS FALSE NEIGHBOUR: 'it returns false'. Refute it at one input. -/
def wireLeftWrong : ChangeSpec := { name := "wireLeft", fn := fun _ => fun
  | [d] => { results := [.lit (.bool false)], args := [d] }
  | _ => none }
def WireLeftWrongFalsely : Prop := wireLeftRow.holds Try.pinned (OpenSpec.ofChange wireLeftWrong)

/-- 'bourselaw02.WirePieces': WHATEVER THE INPUT: true; the input reads as it did. -/
def wirePiecesSpec : ChangeSpec := { name := "wirePieces", fn := fun _ => fun
  | [d1, d2] => { results := [.lit (.bool true)], args := [d1, d2] }
  | _ => none }
def wirePiecesRow : OpenClaim := { program := "ytcgnbdgagkhehaa", sum := "2936e5c85a62c67aa9c6a08d7ce920edb47d0c192da23a6ee66917f61506745d", func := "bourse/bourselaw02.WirePieces", spec := "wirePieces", unfollowed := true, recurses := true, apart := false }
def WirePiecesSaid : Prop := wirePiecesRow.holds Try.pinned (OpenSpec.ofChange wirePiecesSpec)

/-- ITS FALSE NEIGHBOUR: 'it returns false'. Refute it at one input. -/
def wirePiecesWrong : ChangeSpec := { name := "wirePieces", fn := fun _ => fun
  | [d1, d2] => { results := [.lit (.bool false)], args := [d1, d2] }
  | _ => none }
def WirePiecesWrongFalsely : Prop := wirePiecesRow.holds Try.pinned (OpenSpec.ofChange wirePiecesWrong)

/- THE SECOND FORM. 'bulk': how many values and letters a reading holds, each counted each time it is reached (what is shared counts as often as it is met; a slice's spare places count too). A statement '..UptoSaid' is the law's where the arguments, and the package variables that the reading takes, are together of bulk at most 1048576: NARROWER than '..Said'. Prove '..Said' where nothing that the law and all that it calls make is longer than what came in: it says more and counts as full. Else prove '..UptoSaid'. A law counts once. -/
mutual
def uptoBulk {H : Type} : DataW H → Nat
  | .lit (.string bytes) => bytes.length + 1
  | .lit _ => 1
  | .nil => 1
  | .ptr d => uptoBulk d + 1
  | .slice elems spare => uptoBulkAll elems + uptoBulkAll spare + 1
  | .agg parts => uptoBulkAll parts + 1
  | .iface _ d => uptoBulk d + 1
  | .map entries => uptoBulkEntries entries + 1
  | .held _ => 1
def uptoBulkAll {H : Type} : List (DataW H) → Nat
  | [] => 0
  | d :: r => uptoBulk d + uptoBulkAll r
def uptoBulkEntries {H : Type} : List (Lit × DataW H) → Nat
  | [] => 0
  | x :: r => uptoBulkEntry x + uptoBulkEntries r
def uptoBulkEntry {H : Type} : Lit × DataW H → Nat
  | (.string bytes, d) => bytes.length + uptoBulk d + 1
  | (_, d) => uptoBulk d + 1
 end
def uptoSmall : (H : Type) → List (DataW H) → Bool := fun _ ds => decide (uptoBulkAll ds ≤ 1048576)
def OpenSpec.upto (s : _root_.Go.ChangeSpec) : _root_.Go.OpenSpec := { _root_.Go.OpenSpec.ofChange s with cond := some uptoSmall }

/-- 'bourselaw02.WireSums', WHERE WHAT IT READS IS OF BULK AT MOST 1048576: true; the input reads as it did. -/
def wireSumsUptoRow : OpenClaim := { program := "ytcgnbdgagkhehaa", sum := "2936e5c85a62c67aa9c6a08d7ce920edb47d0c192da23a6ee66917f61506745d", func := "bourse/bourselaw02.WireSums", spec := "wireSums", apart := false, narrowed := true }
def WireSumsUptoSaid : Prop := wireSumsUptoRow.holds Try.pinned (OpenSpec.upto wireSumsSpec)

/-- 'bourselaw02.WirePacks', WHERE WHAT IT READS IS OF BULK AT MOST 1048576: true; the input reads as it did. -/
def wirePacksUptoRow : OpenClaim := { program := "ytcgnbdgagkhehaa", sum := "2936e5c85a62c67aa9c6a08d7ce920edb47d0c192da23a6ee66917f61506745d", func := "bourse/bourselaw02.WirePacks", spec := "wirePacks", apart := false, narrowed := true }
def WirePacksUptoSaid : Prop := wirePacksUptoRow.holds Try.pinned (OpenSpec.upto wirePacksSpec)

/-- 'bourselaw02.WireUnpacks', WHERE WHAT IT READS IS OF BULK AT MOST 1048576: true; the input reads as it did. -/
def wireUnpacksUptoRow : OpenClaim := { program := "ytcgnbdgagkhehaa", sum := "2936e5c85a62c67aa9c6a08d7ce920edb47d0c192da23a6ee66917f61506745d", func := "bourse/bourselaw02.WireUnpacks", spec := "wireUnpacks", apart := false, narrowed := true }
def WireUnpacksUptoSaid : Prop := wireUnpacksUptoRow.holds Try.pinned (OpenSpec.upto wireUnpacksSpec)

/-- 'bourselaw02.WireOneForm', WHERE WHAT IT READS IS OF BULK AT MOST 1048576: true; the input reads as it did. -/
def wireOneFormUptoRow : OpenClaim := { program := "ytcgnbdgagkhehaa", sum := "2936e5c85a62c67aa9c6a08d7ce920edb47d0c192da23a6ee66917f61506745d", func := "bourse/bourselaw02.WireOneForm", spec := "wireOneForm", apart := false, narrowed := true }
def WireOneFormUptoSaid : Prop := wireOneFormUptoRow.holds Try.pinned (OpenSpec.upto wireOneFormSpec)

/-- 'bourselaw02.WireBurst', WHERE WHAT IT READS IS OF BULK AT MOST 1048576: true; the input reads as it did. -/
def wireBurstUptoRow : OpenClaim := { program := "ytcgnbdgagkhehaa", sum := "2936e5c85a62c67aa9c6a08d7ce920edb47d0c192da23a6ee66917f61506745d", func := "bourse/bourselaw02.WireBurst", spec := "wireBurst", apart := false, narrowed := true }
def WireBurstUptoSaid : Prop := wireBurstUptoRow.holds Try.pinned (OpenSpec.upto wireBurstSpec)

/-- 'bourselaw02.WireAlls', WHERE WHAT IT READS IS OF BULK AT MOST 1048576: true; the input reads as it did. -/
def wireAllsUptoRow : OpenClaim := { program := "ytcgnbdgagkhehaa", sum := "2936e5c85a62c67aa9c6a08d7ce920edb47d0c192da23a6ee66917f61506745d", func := "bourse/bourselaw02.WireAlls", spec := "wireAlls", unfollowed := true, recurses := true, apart := false, narrowed := true }
def WireAllsUptoSaid : Prop := wireAllsUptoRow.holds Try.pinned (OpenSpec.upto wireAllsSpec)

/-- 'bourselaw02.WireAlone', WHERE WHAT IT READS IS OF BULK AT MOST 1048576: true; the input reads as it did. -/
def wireAloneUptoRow : OpenClaim := { program := "ytcgnbdgagkhehaa", sum := "2936e5c85a62c67aa9c6a08d7ce920edb47d0c192da23a6ee66917f61506745d", func := "bourse/bourselaw02.WireAlone", spec := "wireAlone", unfollowed := true, recurses := true, apart := false, narrowed := true }
def WireAloneUptoSaid : Prop := wireAloneUptoRow.holds Try.pinned (OpenSpec.upto wireAloneSpec)

/-- 'bourselaw02.WireReaders', WHERE WHAT IT READS IS OF BULK AT MOST 1048576: true; the input reads as it did. -/
def wireReadersUptoRow : OpenClaim := { program := "ytcgnbdgagkhehaa", sum := "2936e5c85a62c67aa9c6a08d7ce920edb47d0c192da23a6ee66917f61506745d", func := "bourse/bourselaw02.WireReaders", spec := "wireReaders", apart := false, narrowed := true }
def WireReadersUptoSaid : Prop := wireReadersUptoRow.holds Try.pinned (OpenSpec.upto wireReadersSpec)

/-- 'bourselaw02.WireLeft', WHERE WHAT IT READS IS OF BULK AT MOST 1048576: true; the input reads as it did. -/
def wireLeftUptoRow : OpenClaim := { program := "ytcgnbdgagkhehaa", sum := "2936e5c85a62c67aa9c6a08d7ce920edb47d0c192da23a6ee66917f61506745d", func := "bourse/bourselaw02.WireLeft", spec := "wireLeft", apart := false, narrowed := true }
def WireLeftUptoSaid : Prop := wireLeftUptoRow.holds Try.pinned (OpenSpec.upto wireLeftSpec)

/-- 'bourselaw02.WirePieces', WHERE WHAT IT READS IS OF BULK AT MOST 1048576: true; the input reads as it did. -/
def wirePiecesUptoRow : OpenClaim := { program := "ytcgnbdgagkhehaa", sum := "2936e5c85a62c67aa9c6a08d7ce920edb47d0c192da23a6ee66917f61506745d", func := "bourse/bourselaw02.WirePieces", spec := "wirePieces", unfollowed := true, recurses := true, apart := false, narrowed := true }
def WirePiecesUptoSaid : Prop := wirePiecesUptoRow.holds Try.pinned (OpenSpec.upto wirePiecesSpec)

end Rows
end Go.Proofs.Ytcgnbdgagkhehaa
