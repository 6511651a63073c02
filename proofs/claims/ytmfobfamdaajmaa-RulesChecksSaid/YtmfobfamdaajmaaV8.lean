/- V8: literals, make, copy. -/
import Derived.Test.YtmfobfamdaajmaaV7
namespace Go
namespace V
open Go.RowKit
set_option linter.unusedVariables false
set_option linter.unusedSimpArgs false

/-- struct types: where each field lies, and its cells -/
class StT (P : Program) (T : Nat) (pl : outParam (List (Nat × Nat))) (z : outParam (List Value)) : Prop where
  out : ∃ fs, P.underlying T = some (.struct fs) ∧ fs.toList.map (fun f => (f.offset, P.cellsOf f.type)) = pl ∧ (∀ f ∈ fs.toList, (P.info? f.type).isSome = true) ∧ zrO P T = some (.agg ⟨z⟩)
def stB (P : Program) (T : Nat) (pl : List (Nat × Nat)) : Bool := match P.underlying T with
  | some (.struct fs) => fs.toList.map (fun f => (f.offset, P.cellsOf f.type)) == pl && fs.toList.all fun f => (P.info? f.type).isSome
  | _ => false
theorem StT.of {P : Program} {T : Nat} {pl : List (Nat × Nat)} {z : List Value} (h : stB P T pl = true) (hz : zrO P T = some (.agg ⟨z⟩)) : StT P T pl z := by
  unfold stB at h
  split at h
  · rename_i fs hd
    rw [Bool.and_eq_true] at h
    exact ⟨fs, hd, by simpa using h.1, List.all_eq_true.1 h.2, hz⟩
  · cases h

/-- the parts laid into the cells -/
def fillL (pl : List (Nat × Nat)) : List Value → List (Nat × List Value) → Option (List Value)
  | cs, [] => some cs
  | cs, (i, vs) :: rest => match pl[i]? with
    | some (off, size) => if vs.length = size ∧ off + vs.length ≤ cs.length then fillL pl (splice cs off vs) rest else none
    | none => none
theorem foldl_set (vs : List Value) : ∀ (cs : List Value) (off k : Nat), off + k + vs.length ≤ cs.length →
    (vs.zipIdx k).foldl (fun (cs : Array Value) (p : Value × Nat) => cs.setIfInBounds (off + p.2) p.1) ⟨cs⟩ = ⟨splice cs (off + k) vs⟩ := by
  induction vs with
  | nil => intro cs off k h; simp [splice]
  | cons v vs ih =>
    intro cs off k h
    simp only [List.zipIdx_cons, List.foldl_cons]
    simp only [List.length_cons] at h
    have e1 : (⟨cs⟩ : Array Value).setIfInBounds (off + k) v = ⟨cs.set (off + k) v⟩ := by
      apply Array.ext'; simp
    rw [e1, ih _ off (k + 1) (by simp; omega)]
    congr 1
    have := list_seg_step cs (off + k) v vs (by omega)
    unfold splice
    rw [show off + (k + 1) = off + k + 1 from by omega]
    exact this
theorem fill_eq (place : Nat → Option (Nat × Nat)) (pl : List (Nat × Nat)) (hp : ∀ i os, pl[i]? = some os → place i = some os) : ∀ (parts : List (Nat × Value)) (cs out : List Value), fillL pl cs (parts.map fun p => (p.1, p.2.cells.toList)) = some out →
    Instr.fill place ⟨cs⟩ parts = some ⟨out⟩
  | [], cs, out, h => by simp [fillL] at h; simp [Instr.fill, h]
  | (i, v) :: rest, cs, out, h => by
    simp only [List.map_cons, fillL] at h
    unfold Instr.fill
    cases hpl : pl[i]? with
    | none => rw [hpl] at h; cases h
    | some os =>
      obtain ⟨off, size⟩ := os
      rw [hp i _ hpl]
      rw [hpl] at h
      simp only at h ⊢
      split at h
      · rename_i hc
        obtain ⟨h1, h2⟩ := hc
        simp only [Array.length_toList] at h1 h2
        have hcond : ¬ ((v.cells.size ≠ size || off + v.cells.size > (⟨cs⟩ : Array Value).size) = true) := by
          simp [h1]; omega
        rw [if_neg hcond]
        have := foldl_set v.cells.toList cs off 0 (by simp; omega)
        simp only [Nat.add_zero] at this
        have e2 : v.cells.zipIdx.foldl (fun cs (x : Value × Nat) => match x with | (c, j) => cs.setIfInBounds (off + j) c) (⟨cs⟩ : Array Value) = ⟨splice cs off v.cells.toList⟩ := by
          rw [← this, ← Array.foldl_toList, Array.toList_zipIdx]
        rw [e2]
        exact fill_eq place pl hp rest _ _ h
      · cases h

section
variable {P : Program} {n : Nat} {w0 : World} {own : List Nat} {e : Env} {hs : Hp}

def evp (e : Env) : List (Nat × Operand) → Option (List (Nat × Value))
  | [] => some []
  | (i, x) :: xs => match ev e x, evp e xs with
    | some v, some vs => some ((i, v) :: vs)
    | _, _ => none
theorem Rep.evps {a : Act} (h : Rep n a e) : ∀ {xs : List (Nat × Operand)} {vs : List (Nat × Value)}, evp e xs = some vs → xs.map (fun p => (p.1, a.eval p.2)) = vs
  | [], vs, hx => by simp [evp] at hx; simp [hx]
  | (i, x) :: xs, vs, hx => by
    simp only [evp] at hx
    split at hx
    · rename_i v vs' h1 h2
      simp at hx
      subst hx
      simp [h.eval h1, h.evps h2]
    · simp at hx
theorem mapM_fields (fs : List Field) (w : World) (h : ∀ f ∈ fs, (P.info? f.type).isSome = true) : (fs.mapM fun f => (do pure (f.offset, ← sizeOf f.type) : Sem (Nat × Nat))).run P w = .ok (fs.map fun f => (f.offset, P.cellsOf f.type)) w := by
  induction fs with
  | nil => simp
  | cons f fs ih =>
    have hf := h f (by simp)
    cases hi : P.info? f.type with
    | none => rw [hi] at hf; cases hf
    | some i =>
      have hs := run_sizeOf (P := P) (w := w) hi
      rw [List.mapM_cons]
      simp only [Sem.run_bind, hs, Result.andThen_ok, Sem.run_pure, ih (fun g hg => h g (by simp [hg])), List.map_cons]
theorem Val.build {T : Nat} {parts : List (Nat × Operand)} {vs : List (Nat × Value)} {pl : List (Nat × Nat)} {z out : List Value} (hv : evp e parts = some vs) [hT : StT P T pl z]
    (hf : fillL pl z (vs.map fun p => (p.1, p.2.cells.toList)) = some out) : Val P n w0 own e hs (.build T ⟨parts⟩) (.agg ⟨out⟩) := fun a w ty pos aft g d hr s => by
  obtain ⟨fs, h1, h2, h3, h4⟩ := hT.out
  have hps := hr.evps hv
  obtain ⟨i, hi, hz⟩ := (ZrV.of h4).out
  have hm := mapM_fields (P := P) fs.toList w h3
  have hfill := fill_eq (fun i => (fs.toList.map fun f => (f.offset, P.cellsOf f.type))[i]?) pl (by intro i os h; simp only [h2, h]) vs z out hf
  have hmA : (fs.mapM fun f => (do pure (f.offset, ← sizeOf f.type) : Sem (Nat × Nat))).run P w = .ok (fs.toList.map fun f => (f.offset, P.cellsOf f.type)).toArray w := by
    have e1 : fs = fs.toList.toArray := by simp
    rw [e1, List.mapM_toArray]
    have : ∀ (m : Sem (List (Nat × Nat))) l, m.run P w = .ok l w → (List.toArray <$> m).run P w = .ok l.toArray w := by
      intro m l hm
      have : (List.toArray <$> m) = (m >>= fun x => pure x.toArray) := by simp
      rw [this, Sem.run_bind, hm]; simp
    exact this _ _ (by simpa using hm)
  have hparts : (⟨parts⟩ : Array (Nat × Operand)).map (fun (i, x) => (i, a.eval x)) = ⟨vs⟩ := by
    apply Array.ext'
    simp only [Array.toList_map]
    exact hps
  simp only [execOp, hparts, Instr.build, Sem.run_bind, zeroValue, typeInfo, run_program, hi, hz, Sem.run_pure, Result.andThen_ok, run_underlying h1, hmA]
  have e3 : (fun x : Nat => (fs.toList.map fun f => (f.offset, P.cellsOf f.type)).toArray[x]?) = fun i => (fs.toList.map fun f => (f.offset, P.cellsOf f.type))[i]? := by
    funext x; simp
  simp only [Value.cells, e3, hfill, Sem.run_pure, Result.andThen_ok]
theorem Val.buildArr {T N E m : Nat} {parts : List (Nat × Operand)} {vs : List (Nat × Value)} {z out : List Value} (hv : evp e parts = some vs) [hT : ArrT P T N E] [hE : Sz P E m] [hz : ZrV P T (.agg ⟨z⟩)]
    (hf : fillL ((List.range N).map fun i => (i * m, m)) z (vs.map fun p => (p.1, p.2.cells.toList)) = some out) : Val P n w0 own e hs (.build T ⟨parts⟩) (.agg ⟨out⟩) := fun a w ty pos aft g d hr s => by
  have hps := hr.evps hv
  obtain ⟨i, hi, hzz⟩ := hz.out
  obtain ⟨j, hj, hm⟩ := hE.out
  have hfill := fill_eq (fun i => some (i * m, m)) _ (by
    intro i os h
    rw [List.getElem?_map] at h
    cases hr2 : (List.range N)[i]? with
    | none => rw [hr2] at h; cases h
    | some k =>
      rw [hr2] at h
      have := List.getElem?_eq_some_iff.1 hr2
      obtain ⟨h1, h2⟩ := this
      simp at h2
      subst h2
      simpa using h) vs z out hf
  have hparts : (⟨parts⟩ : Array (Nat × Operand)).map (fun (i, x) => (i, a.eval x)) = ⟨vs⟩ := by
    apply Array.ext'
    simp only [Array.toList_map]
    exact hps
  simp only [execOp, hparts, Instr.build, Sem.run_bind, zeroValue, sizeOf, typeInfo, run_program, hi, hzz, hj, hm, Sem.run_pure, Result.andThen_ok, run_underlying hT.out]
  simp only [Value.cells, hfill, Sem.run_pure, Result.andThen_ok]
/-- a slice written out -/
theorem Eff.buildSlice {T E m by_ len : Nat} {parts : List (Nat × Operand)} {vs : List (Nat × Value)} {z cs0 out : List Value} (hv : evp e parts = some vs) [hT : SliceT P T E] [hE : El P E m by_ z]
    (hb : len * m ≤ 16777216) (h0 : ((List.range (len * m)).map fun i => z[i % m]!) = cs0)
    (hf : fillL ((List.range len).map fun i => (i * m, m)) cs0 (vs.map fun p => (p.1, p.2.cells.toList)) = some out) :
    Eff P n w0 own e hs (.buildSlice T len ⟨parts⟩) (fun v hs' => ∃ b, v = .slice (some ⟨b, 0, none⟩) len len ∧ hs' = (b, .cells out E) :: hs) :=
  Eff.of_run fun a w ty pos aft g d hr s => by
    have hps := hr.evps hv
    obtain ⟨i, v, hi, hm, hby, hz, hvz, hzl⟩ := hE.out
    have hfill := fill_eq (fun i => some (i * m, m)) _ (by
      intro i os h
      rw [List.getElem?_map] at h
      cases hr2 : (List.range len)[i]? with
      | none => rw [hr2] at h; cases h
      | some k =>
        rw [hr2] at h
        have := List.getElem?_eq_some_iff.1 hr2
        obtain ⟨h1, h2⟩ := this
        simp at h2
        subst h2
        simpa using h) vs cs0 out hf
    have hparts : (⟨parts⟩ : Array (Nat × Operand)).map (fun (i, x) => (i, a.eval x)) = ⟨vs⟩ := by
      apply Array.ext'
      simp only [Array.toList_map]
      exact hps
    refine ⟨.slice (some ⟨w.heap.size, 0, none⟩) len len, _, w.alloc (Ch.cells out E).toObj, ?_, ⟨w.heap.size, rfl, rfl⟩, s.new _⟩
    have hne : ¬ (len * m > 2 ^ 24) := by omega
    by_cases hzero : len * m = 0
    · have e4 : (Array.range (len * m)).map (fun x => (#[] : Array Value)[x % (#[] : Array Value).size]!) = ⟨cs0⟩ := by
        subst h0; rw [hzero]; apply Array.ext'; simp
      simp only [execOp, hparts, Instr.buildSlice, Sem.run_bind, sizeOf, typeInfo, run_program, hi, hm, Sem.run_pure, Result.andThen_ok, run_underlying hT.out, if_neg hne, if_pos hzero, e4, hfill]
      simp [newRow, Ch.toObj]
    · have e4 : (Array.range (len * m)).map (fun x => (⟨z⟩ : Array Value)[x % (⟨z⟩ : Array Value).size]!) = ⟨cs0⟩ := by
        subst h0
        apply Array.ext'
        simp [hzl]
      simp only [execOp, hparts, Instr.buildSlice, Sem.run_bind, sizeOf, zeroValue, typeInfo, run_program, hi, hm, hz, hvz, Sem.run_pure, Result.andThen_ok, run_underlying hT.out, if_neg hne, if_neg hzero, e4, hfill]
      simp [newRow, Ch.toObj]
end
end V
end Go
