/- Texts that the row RAucFair stands on: AURd. -/
import Derived.Test.YtamldmgdhaoigaaYAucFairD
/- Interests and numbers as they come in. -/
namespace Go.Proofs.Ytamldmgdhaoigaa
open Go.V Go.ChangeShapes Go.WideShapes Go.ChangeAt
set_option linter.unusedVariables false
set_option linter.unusedSimpArgs false

abbrev ItL : List Lf := [.i .u64, .i .u32, .i .i64, .i .i64, .i .i64, .i .u64]
/-- an interest of numbers that can be -/
structure It.W (x : It) : Prop where
  id : 0 ≤ x.id ∧ x.id ≤ 18446744073709551615
  pr : -9223372036854775808 ≤ x.pr ∧ x.pr ≤ 9223372036854775807
  q : 0 ≤ x.q ∧ x.q ≤ 18446744073709551615
theorem wfU64 {n : Int} (h : (Lit.int .u64 n).wf = true) : 0 ≤ n ∧ n ≤ 18446744073709551615 := by
  simp [Lit.wf, IntKind.min, IntKind.max, IntKind.bits, IntKind.signed] at h; omega
theorem wfI64 {n : Int} (h : (Lit.int .i64 n).wf = true) : -9223372036854775808 ≤ n ∧ n ≤ 9223372036854775807 := by
  simp [Lit.wf, IntKind.min, IntKind.max, IntKind.bits, IntKind.signed] at h; omega
theorem okw_it {cs : List Value} (h : okw ItL cs) : ∃ x : It, cs = x.cells ∧ x.W := by
  obtain ⟨a, cs, rfl, w1, h⟩ := okw_i h
  obtain ⟨b, cs, rfl, w2, h⟩ := okw_i h
  obtain ⟨c, cs, rfl, w3, h⟩ := okw_i h
  obtain ⟨d, cs, rfl, w4, h⟩ := okw_i h
  obtain ⟨e, cs, rfl, w5, h⟩ := okw_i h
  obtain ⟨f, cs, rfl, w6, h⟩ := okw_i h
  have := okw_nil h
  subst this
  exact ⟨⟨a, b, c, d, e, f⟩, rfl, wfU64 w1, wfI64 w5, wfU64 w6⟩
theorem flat_ints : ∀ l : List Int, l.flatMap (fun n : Int => [Value.int .i64 n]) = ints .i64 l
  | [] => rfl
  | a :: l => by rw [List.flatMap_cons, flat_ints l]; rfl
section
variable {H : Type} {enc : TypeId × Value → H} {w : World} {base : Nat} {spare : Nat → Bool} {held : Bool}
set_option maxRecDepth 20000 in
theorem read_its {cs : List Value} {d : DataW H} (h : TC enc Try.prog w base spare held 22 cs d) :
    ∃ A cap, ∃ l : List It, cs = [.slice A l.length cap] ∧ Rd w [] A (irows l) ∧ (∀ x ∈ l, x.W) ∧ l.length ≤ Rows.uptoBulk d := by
  have hz2 : Try.prog.cellsOf 22 = 1 := by kernel_rfl
  obtain ⟨A, cap, l, g, hq, r, k, n⟩ := TC.list It.cells (fun x => x.W) (ls := ItL) (e := 36) (by kernel_rfl) (by kernel_rfl) (by kernel_rfl) (by decide) (fun r hr => okw_it hr) h
  exact ⟨A, cap, l, by simpa [hz2] using g, r, hq, n⟩
set_option maxRecDepth 20000 in
theorem read_ints {cs : List Value} {d : DataW H} (h : TC enc Try.prog w base spare held 23 cs d) :
    ∃ A cap, ∃ l : List Int, cs = [.slice A l.length cap] ∧ Rd w [] A (ints .i64 l) ∧ (∀ x ∈ l, -9223372036854775808 ≤ x ∧ x ≤ 9223372036854775807) ∧ l.length ≤ Rows.uptoBulk d := by
  have hz2 : Try.prog.cellsOf 23 = 1 := by kernel_rfl
  obtain ⟨A, cap, l, g, hq, r, k, n⟩ := TC.list (fun n : Int => [Value.int .i64 n]) (fun n => -9223372036854775808 ≤ n ∧ n ≤ 9223372036854775807) (ls := [.i .i64]) (e := 3) (by kernel_rfl) (by kernel_rfl) (by kernel_rfl) (by decide) (fun r hr => by
    obtain ⟨a, cs, rfl, w1, h⟩ := okw_i hr
    have := okw_nil h
    subst this
    exact ⟨a, rfl, wfI64 w1⟩) h
  have e := flat_ints l
  rw [e] at r
  exact ⟨A, cap, l, by simpa [hz2] using g, r, hq, n⟩
end
end Go.Proofs.Ytamldmgdhaoigaa
