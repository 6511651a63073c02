/- VF: from the data that come in to the words of V. -/
import Derived.Test.YtmfobfamdaajmaaV9
import Derived.ProofKit
import Derived.OpenShut
import Derived.ShutString
import Derived.ChangeOld
import Derived.SizedLaws
import Derived.JoinedCond
namespace Go
namespace V
open Go.RowKit Go.ChangeShapes Go.WideShapes Go.ChangeAt
set_option linter.unusedVariables false

theorem Does.calls {P : Program} {g : Nat} {vals : List Value} {w : World} {R : Value → Hp → Prop} (h : Does P g vals [] w R) : Calls P g ⟨vals⟩ w fun e w' => (∃ v hs, e = .returned v ∧ R v hs) ∧ Below w.heap.size w w' :=
  (h (fun _ _ h => (List.not_mem_nil h).elim) (by simp [bl])).mono fun e w' ⟨v, hs, h1, h2, h3⟩ => ⟨⟨v, hs, h1, h2⟩, (Sat.sub (hs' := []) h3 (List.nil_sublist _)).below⟩

/-- numbers of a slice as they are read -/
def ints (k : IntKind) (zs : List Int) : List Value := zs.map (.int k)
theorem open_slice_ints {H : Type} {enc : TypeId × Value → H} {P : Program} {W : World} {base : Nat} {spare : Nat → Bool} {held : Bool} {t e : Nat} {k : IntKind} {a0 : Option Addr} {len cap : Nat} {d : DataW H} {p : List MemPlace}
    (ht : P.underlying t = some (.slice e)) (he : P.underlying e = some (.int k)) (hc : P.cellsOf e = 1)
    (h : DataW.Trod enc P W base spare held t (.slice a0 len cap) d p) :
    ∃ zs : List Int, Rd W [] a0 (ints k zs) ∧ len = zs.length ∧ (∀ n ∈ zs, (Lit.int k n).wf = true) ∧ (len = 0 ∨ ∃ elems sp, d = .slice elems sp ∧ elems.length = len) := by
  obtain ⟨fuel, hf⟩ := h
  rcases open_ints ht he hc hf with ⟨hcs, hx⟩ | ⟨x, l, c, zs, hcs, _, hl, hm, hz, hx, hcell, hwz⟩
  · simp [Value.cells] at hcs
    obtain ⟨rfl, rfl, rfl⟩ := hcs
    exact ⟨[], Rd.nil _ _ _, rfl, by simp, .inl rfl⟩
  · simp [Value.cells] at hcs
    obtain ⟨rfl, rfl, rfl⟩ := hcs
    have hzl : len ≤ zs.length := by split at hz <;> omega
    refine ⟨zs.take len, ?_, by simp; omega, fun n hn => hwz n (List.mem_of_mem_take hn), .inr ?_⟩
    · intro j v hv
      have hj : j < len := by
        have := (List.getElem?_eq_some_iff.1 hv).1
        simp [ints] at this; omega
      have hjz : j < zs.length := by omega
      have hcj := hcell j hjz
      obtain ⟨b, o, sp⟩ := x
      have hspot : sp = none := by simpa [Addr.add] using World.cell?_spot (hcell 0 (by omega))
      subst hspot
      refine ⟨b, o, rfl, by simp, ?_⟩
      rw [add_none] at hcj
      rw [hcj]
      simp [ints, hj, hjz] at hv
      simp [List.getElem?_eq_getElem hjz, hv]
    · simp only [Prod.mk.injEq] at hx
      exact ⟨_, _, hx.1, by simp [lits]; omega⟩
theorem wf_u8 {n : Int} (h : (Lit.int .u8 n).wf = true) : 0 ≤ n ∧ n ≤ 255 := by
  simpa [Lit.wf, IntKind.min, IntKind.max, IntKind.signed, IntKind.bits] using h
theorem ints_bytes {zs : List Int} (h : ∀ n ∈ zs, (Lit.int .u8 n).wf = true) : ∃ xs : List (BitVec 8), ints .u8 zs = byts xs ∧ xs.length = zs.length := by
  refine ⟨zs.map fun n => BitVec.ofNat 8 n.toNat, ?_, by simp⟩
  simp only [ints, byts, List.map_map]
  apply List.map_congr_left
  intro n hn
  have := wf_u8 (h n hn)
  simp
  omega
theorem open_bytes {H : Type} {enc : TypeId × Value → H} {P : Program} {W : World} {base : Nat} {spare : Nat → Bool} {held : Bool} {t e : Nat} {a0 : Option Addr} {len cap : Nat} {d : DataW H} {p : List MemPlace}
    (ht : P.underlying t = some (.slice e)) (he : P.underlying e = some (.int .u8)) (hc : P.cellsOf e = 1)
    (h : DataW.Trod enc P W base spare held t (.slice a0 len cap) d p) :
    ∃ xs : List (BitVec 8), Rd W [] a0 (byts xs) ∧ len = xs.length ∧ (len = 0 ∨ ∃ elems sp, d = .slice elems sp ∧ elems.length = len) := by
  obtain ⟨zs, h1, h2, h3, h4⟩ := open_slice_ints ht he hc h
  obtain ⟨xs, e1, e2⟩ := ints_bytes h3
  exact ⟨xs, e1 ▸ h1, by omega, h4⟩
end V
end Go
