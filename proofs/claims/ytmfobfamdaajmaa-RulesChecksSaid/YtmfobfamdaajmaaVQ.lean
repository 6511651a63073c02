/- VQ: maps whose keys are numbers: make, look up, set. -/
import Derived.Test.YtmfobfamdaajmaaVP
import Derived.MapKept
namespace Go
namespace V
open Go.RowKit
set_option linter.unusedVariables false
set_option linter.unusedSimpArgs false

abbrev ME := Int × Value × Nat
def mentry (q : IntKind) (x : ME) : MapEntry := { key := .int q x.1, val := x.2.1, born := x.2.2 }
def mapOf (q : IntKind) (es : List ME) (clock : Nat) : Obj := .map ⟨es.map (mentry q)⟩ clock
def mfind (k : Int) : List ME → Nat → Option (Nat × Value)
  | [], _ => none
  | x :: es, i => if k == x.1 then some (i, x.2.1) else mfind k es (i + 1)
def mget (k : Int) (es : List ME) : Option Value := (mfind k es 0).map (·.2)
theorem findNow_int (q : IntKind) (k : Int) : ∀ (es : List ME) (i : Nat), Instr.findNow (.int q) (.int q k) (es.map (mentry q)) i = some (mfind k es i)
  | [], i => rfl
  | x :: es, i => by
    simp only [List.map_cons, Instr.findNow, mentry, Instr.sameNow, if_true]
    unfold mfind
    cases h : k == x.1 with
    | true => simp
    | false => simpa using findNow_int q k es (i + 1)
section
variable {P : Program} {n : Nat} {w0 : World} {own : List Nat} {e : Env} {hs : Hp}
theorem run_checkKey_int {kT : Nat} {q : IntKind} (h : P.underlying kT = some (.int q)) (b : Bool) (k : Int) (w : World) : (Instr.checkKey b 10000 kT (.int q k)).run P w = .ok () w := by
  unfold Instr.checkKey
  simp [run_underlying h]
theorem run_findKey_int {kT : Nat} {q : IntKind} (h : P.underlying kT = some (.int q)) (k : Int) (es : List ME) (w : World) : (Instr.findKey kT (.int q k) (es.map (mentry q))).run P w = .ok (mfind k es 0) w := by
  unfold Instr.findKey
  simp [run_underlying h, findNow_int]
theorem Sat.mrow {w0 w : World} {own : List Nat} {hs : Hp} (h : Sat w0 own hs w) {b : Nat} {o : Obj} (hb : (b, .obj o) ∈ hs) : w.heap[b]? = some o := h.has b _ hb
theorem Eff.makeMap {T : Nat} (q : IntKind) : Eff P n w0 own e hs (.makeMap T none) (fun v h => ∃ b, v = .map (some b) ∧ h = (b, .obj (mapOf q [] 0)) :: hs) :=
  Eff.of_run fun a w ty pos aft g d hr s => by
    refine ⟨.map (some w.heap.size), _, w.alloc (.map #[] 0), ?_, ⟨w.heap.size, rfl, rfl⟩, s.new (.obj (mapOf q [] 0))⟩
    have := run_makeMap (P := P) T w
    simp [execOp, this]
theorem Val.lookup {T kT eT b c : Nat} {q : IntKind} {k : Int} {x y : Operand} {es : List ME} {z : Value} (hx : ev e x = some (.map (some b))) (hy : ev e y = some (.int q k)) [hT : MapT P T kT eT] [hk : IntT P kT q] [hz : ZrV P eT z]
    [hb : Mem b (.obj (mapOf q es c)) hs] : Val P n w0 own e hs (.lookup T x y false) ((mget k es).getD z) := fun a w ty pos aft g d hr s => by
  obtain ⟨i, hi, hzz⟩ := hz.out
  have h1 := s.mrow hb.out
  have h1' : w.heap[b]? = some (.map ⟨es.map (mentry q)⟩ c) := h1
  have key : (Instr.lookup T (.map (some b)) (.int q k) false).run P w = .ok ((mget k es).getD z) w := by
    unfold Instr.lookup
    simp [run_underlying hT.out, MapKept.run_getObj_map h1', run_checkKey_int hk.out, run_findKey_int hk.out]
    unfold mget
    cases mfind k es 0 with
    | none => simp [zeroValue, typeInfo, hi, hzz]
    | some p => simp
  simp [execOp, hr.eval hx, hr.eval hy, key]
theorem Val.lookupE {T kT eT b c : Nat} {q : IntKind} {k : Int} {x y : Operand} {es : List ME} {z v : Value} (hx : ev e x = some (.map (some b))) (hy : ev e y = some (.int q k)) [hT : MapT P T kT eT] [hk : IntT P kT q] [hz : ZrV P eT z]
    [hb : Mem b (.obj (mapOf q es c)) hs] (hv : (mget k es).getD z = v) : Val P n w0 own e hs (.lookup T x y false) v := hv ▸ Val.lookup hx hy
/-- the map behind a setting, and its clock -/
def mset (k : Int) (v : Value) (es : List ME) (c : Nat) : List ME × Nat := match mfind k es 0 with
  | some (i, _) => (es.modify i fun x => (k, v, x.2.2), c)
  | none => (es ++ [(k, v, c)], c + 1)
theorem mfind_key (k : Int) : ∀ (es : List ME) (i j : Nat) (v : Value), mfind k es i = some (j, v) → i ≤ j ∧ ∃ x, es[j - i]? = some x ∧ x.1 = k ∧ x.2.1 = v
  | [], i, j, v, h => by simp [mfind] at h
  | x :: es, i, j, v, h => by
    unfold mfind at h
    cases hk : k == x.1 with
    | true =>
      rw [hk] at h
      simp at h
      obtain ⟨rfl, rfl⟩ := h
      exact ⟨Nat.le_refl _, x, by simp, by simpa using (beq_iff_eq.1 hk).symm, rfl⟩
    | false =>
      rw [hk] at h
      simp at h
      obtain ⟨h1, y, h2, h3⟩ := mfind_key k es (i + 1) j v h
      refine ⟨by omega, y, ?_, h3⟩
      obtain ⟨m, hm⟩ : ∃ m, j - i = m + 1 := ⟨j - i - 1, by omega⟩
      rw [hm, List.getElem?_cons_succ, show m = j - (i + 1) from by omega]
      exact h2
theorem Eff.mapUpdate {T kT eT b c : Nat} {q : IntKind} {k : Int} {x y z : Operand} {v : Value} {es : List ME} {hs' : Hp} (hx : ev e x = some (.map (some b))) (hy : ev e y = some (.int q k)) (hz : ev e z = some v) [hT : MapT P T kT eT] [hk : IntT P kT q]
    [hb : Mem b (.obj (mapOf q es c)) hs] [u : UpdI b (.obj (mapOf q (mset k v es c).1 (mset k v es c).2)) hs hs'] : Eff P n w0 own e hs (.mapUpdate T x y z) (fun u h => u = undef ∧ h = hs') :=
  Eff.of_skip fun a w ty pos aft g d hr s => by
    have h1 := s.mrow hb.out
    have h1' : w.heap[b]? = some (.map ⟨es.map (mentry q)⟩ c) := h1
    have hlt : b < w.heap.size := (Array.getElem?_eq_some_iff.1 h1').1
    have key : (Instr.mapUpdate T (.map (some b)) (.int q k) v).run P w = .ok () { w with heap := w.heap.setIfInBounds b (mapOf q (mset k v es c).1 (mset k v es c).2) } := by
      unfold Instr.mapUpdate
      cases hf : mfind k es 0 with
      | none =>
        simp [run_underlying hT.out, MapKept.run_getObj_map h1', run_checkKey_int hk.out, run_findKey_int hk.out, hf, MapKept.run_setObj_map _ h1', mset, mapOf, mentry]
      | some p =>
        obtain ⟨i, v0⟩ := p
        obtain ⟨_, y0, g1, g2, _⟩ := mfind_key k es 0 i v0 hf
        have hold : ((((⟨es.map (mentry q)⟩ : Array MapEntry)[i]?).map (·.key)).getD (.int q k)) = .int q k := by
          simp at g1
          simp [g1, mentry, g2]
        have hst : (Instr.keyThatStays (.int q k) (.int q k)).run P w = .ok (.int q k) w := by
          simp [Instr.keyThatStays, Instr.sameBits]
        simp [run_underlying hT.out, MapKept.run_getObj_map h1', run_checkKey_int hk.out, run_findKey_int hk.out, hf]
        have hold' : (Option.map ((fun x => x.key) ∘ mentry q) es[i]?).getD (Value.int q k) = Value.int q k := by
          simp at g1
          simp [g1, mentry, g2]
        rw [hold', hst]
        simp only [Result.andThen_ok, MapKept.run_setObj_map _ h1']
        congr 3
        simp only [mset, hf, mapOf]
        congr 2
        apply List.ext_getElem?
        intro m
        simp only [List.getElem?_modify, List.getElem?_map]
        cases es[m]? with
        | none => simp
        | some x => by_cases hm : i = m <;> simp [hm, mentry]
    refine ⟨{ w with heap := w.heap.setIfInBounds b (mapOf q (mset k v es c).1 (mset k v es c).2) }, ?_, ?_⟩
    · simp [execOp, hr.eval hx, hr.eval hy, hr.eval hz, key]
    · refine s.upd u.out ?_ ?_ ?_ rfl rfl rfl
      · simp
      · intro i hi
        simp [Array.getElem?_setIfInBounds, Ne.symm hi]
      · simp [Array.getElem?_setIfInBounds, hlt, Ch.toObj]
end
end V
end Go
