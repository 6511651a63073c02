/- VS: slices held against nil. -/
import Derived.Test.YtmfobfamdaajmaaVR
namespace Go
namespace V
open Go.RowKit
set_option linter.unusedVariables false
set_option linter.unusedSimpArgs false
section
variable {P : Program} {n : Nat} {w0 : World} {own : List Nat} {e : Env} {hs : Hp}
theorem Val.eql_slice_nil {T U E l c : Nat} {x y : Operand} {a : Option Addr} (hx : ev e x = some (.slice a l c)) (hy : ev e y = some (.slice none 0 0)) [hT : SliceT P T E] :
    Val P n w0 own e hs (.binOp .eql T x y U) (.bool a.isNone) := fun _ w ty pos aft g d hr s => by
  have h : (Op.equalIn (9999 + 1) T (.slice a l c) (.slice none 0 0)).run P w = .ok a.isNone w := by
    cases a <;> (rw [Op.equalIn]; simp [run_underlying hT.out])
  simp only [execOp, hr.eval hx, hr.eval hy, eqGuard, binOp, Op.equal, Op.maxDepth]
  simp [h]
end
end V
end Go
