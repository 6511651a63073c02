/- VI: bytes of a constant text: their row gets a mark. -/
import Derived.Test.YtmfobfamdaajmaaVH
namespace Go
namespace V
open Go.RowKit
set_option linter.unusedVariables false
set_option linter.unusedSimpArgs false

/-- a row with its mark behind the last cell -/
def marked (l : List Value) (T : Nat) : Obj := .cells ⟨l⟩ T (l.length, l.length + 1)
theorem Rd.marked {w0 w : World} {own no : List Nat} {hs : Hp} (s : Sat w0 own hs w) {b o T : Nat} {l vs : List Value} [hb : Mem b (.obj (marked l T)) hs] (hn : b ∉ no) (h : ∀ j v, vs[j]? = some v → l[o + j]? = some v) : Rd w no (some ⟨b, o, none⟩) vs :=
  fun j v hv => ⟨b, o, rfl, hn, by
    have h1 : w.heap[b]? = some (.cells ⟨l⟩ T (l.length, l.length + 1)) := s.has b _ hb.out
    simp [World.cell?, h1, h j v hv]⟩
section
variable {P : Program} {n : Nat} {w0 : World} {own : List Nat} {e : Env} {hs : Hp}
theorem Eff.convMark {T E b o k c U : Nat} {x : Operand} {l : List Value} {hs' : Hp} (hx : ev e x = some (.slice (some ⟨b, o, none⟩) k c)) [hT : SliceT P T E] [hE : IntT P E .u8] [hb : Mem b (.cells l U) hs]
    [u : UpdI b (.obj (marked l U)) hs hs'] : Eff P n w0 own e hs (.convert T T x) (fun v h => v = .slice (some ⟨b, o, none⟩) k c ∧ h = hs') :=
  Eff.of_run fun a w ty pos aft g d hr s => by
    have hrow := s.row hb.out
    have hlt : b < w.heap.size := (Array.getElem?_eq_some_iff.1 hrow).1
    have hsh : w.shape? b = some (U, l.length) := by unfold World.shape?; rw [hrow]; rfl
    refine ⟨_, hs', w.freeze ⟨b, l.length, none⟩ 1, ?_, ⟨rfl, rfl⟩, ?_⟩
    · have key : (convert T T (.slice (some ⟨b, o, none⟩) k c)).run P w = .ok (.slice (some ⟨b, o, none⟩) k c) (w.freeze ⟨b, l.length, none⟩ 1) := by
        simp [convert, run_underlying hT.out, run_underlying hE.out, markStringish, hsh]
      simp [execOp, hr.eval hx, key]
    · refine s.upd u.out ?_ ?_ ?_ rfl rfl rfl
      · unfold World.freeze; rw [if_neg (by decide)]; simp
      · intro i hi
        unfold World.freeze; rw [if_neg (by decide)]
        simp [Array.getElem?_modify, Ne.symm hi]
      · unfold World.freeze; rw [if_neg (by decide)]
        simp [Array.getElem?_modify, hrow, Ch.toObj, V.marked]
end
end V
end Go
