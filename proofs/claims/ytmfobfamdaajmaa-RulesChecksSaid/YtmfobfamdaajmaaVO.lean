/- VO: min and max of numbers; wrapped numbers as remainders. -/
import Derived.Test.YtmfobfamdaajmaaVM
namespace Go
namespace V
open Go.RowKit
set_option linter.unusedVariables false
set_option linter.unusedSimpArgs false
section
variable {P : Program} {n : Nat} {w0 : World} {own : List Nat} {e : Env} {hs : Hp}
theorem Val.min2 {x y : Operand} {q : IntKind} {i j : Int} {ts : Array TypeId} (hx : ev e x = some (.int q i)) (hy : ev e y = some (.int q j)) :
    Val P n w0 own e hs (.call { callee := .builtin .min, args := #[x, y], argTypes := ts }) (.int q (min i j)) := fun a w ty pos aft g d hr s => by
  simp [execOp, hr.eval hx, hr.eval hy, resolve, invoke, builtin, Builtin.min_, Builtin.min2]
  by_cases h : j < i
  · simp [h]; omega
  · simp [h]; omega
end
/-- rows of so many cells -/
theorem flatMap_get {α : Type} (f : α → List Value) (m : Nat) (hm : ∀ a, (f a).length = m) : ∀ (l : List α) (i j : Nat) (hi : i < l.length), j < m → (l.flatMap f)[i * m + j]? = (f l[i])[j]?
  | a :: l, 0, j, hi, hj => by
    rw [List.flatMap_cons, List.getElem?_append_left (by rw [hm]; omega)]; simp
  | a :: l, i + 1, j, hi, hj => by
    have e : (i + 1) * m + j = m + (i * m + j) := by rw [Nat.add_mul]; omega
    rw [List.flatMap_cons, List.getElem?_append_right (by rw [hm]; omega), hm, e, Nat.add_sub_cancel_left, flatMap_get f m hm l i j (by simpa using hi) hj]
    simp
  | [], i, j, hi, _ => by simp at hi
theorem flatMap_length {α : Type} (f : α → List Value) (m : Nat) (hm : ∀ a, (f a).length = m) (l : List α) : (l.flatMap f).length = l.length * m := by
  induction l with
  | nil => simp
  | cons a l ih => rw [List.flatMap_cons, List.length_append, hm, ih, List.length_cons, Nat.add_mul]; omega
theorem u64w (z : Int) : IntKind.u64.wrap z = z % 18446744073709551616 := by simp [IntKind.wrap, IntKind.bits, IntKind.signed]
theorem u32w (z : Int) : IntKind.u32.wrap z = z % 4294967296 := by simp [IntKind.wrap, IntKind.bits, IntKind.signed]
end V
end Go
