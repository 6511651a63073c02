/- V7: comparisons, parts of aggregates, cutting slices, literals. -/
import Derived.Test.YtmfobfamdaajmaaV6
import Derived.Laws.BytesArg
import Derived.WalkSpells
namespace Go
namespace V
open Go.RowKit
set_option linter.unusedVariables false
set_option linter.unusedSimpArgs false

class EqT (P : Program) (T : Nat) (ls : outParam (List Lf)) : Prop where
  out : leaves P 8 T = some ls ∧ agB P T ls.length = true ∧ P.eqGuardType P.depth T = false

section
variable {P : Program} {n : Nat} {w0 : World} {own : List Nat} {e : Env} {hs : Hp}

theorem EqT.agg {T : Nat} {ls : List Lf} (h : EqT P T ls) (vs : List Value) : valOf P T vs = .agg ⟨vs⟩ := by
  obtain ⟨_, h2, _⟩ := h.out
  obtain ⟨d, i, hd, h1, _⟩ := (Ag.of h2).out
  unfold valOf; rw [hd]
  rcases h1 with ⟨f, rfl⟩ | ⟨k, e, rfl⟩ <;> rfl
theorem run_equal {T : Nat} {ls : List Lf} (h : EqT P T ls) (w : World) {xs ys : List Value} (hx : oks ls xs) (hy : oks ls ys) : (Op.equal T (.agg ⟨xs⟩) (.agg ⟨ys⟩)).run P w = .ok (cellsEq xs ys) w := by
  have := run_equalIn_leaves 8 T ls Op.maxDepth h.out.1 (by decide) w xs ys hx hy
  rw [h.agg, h.agg] at this
  exact this
theorem Val.eqA {T U : Nat} {x y : Operand} {xs ys : List Value} {ls : List Lf} (hx : ev e x = some (.agg ⟨xs⟩)) (hy : ev e y = some (.agg ⟨ys⟩)) [hT : EqT P T ls] (h1 : oks ls xs) (h2 : oks ls ys) :
    Val P n w0 own e hs (.binOp .eql T x y U) (.bool (cellsEq xs ys)) := fun a w ty pos aft g d hr s => by
  have hg := hT.out.2.2
  simp [execOp, hr.eval hx, hr.eval hy, eqGuard, binOp, hg, run_equal hT w h1 h2]
theorem Val.neA {T U : Nat} {x y : Operand} {xs ys : List Value} {ls : List Lf} (hx : ev e x = some (.agg ⟨xs⟩)) (hy : ev e y = some (.agg ⟨ys⟩)) [hT : EqT P T ls] (h1 : oks ls xs) (h2 : oks ls ys) :
    Val P n w0 own e hs (.binOp .neq T x y U) (.bool (!cellsEq xs ys)) := fun a w ty pos aft g d hr s => by
  have hg := hT.out.2.2
  simp [execOp, hr.eval hx, hr.eval hy, eqGuard, binOp, hg, run_equal hT w h1 h2]
theorem Val.eqb {T U : Nat} {x y : Operand} {a b : Bool} (hx : ev e x = some (.bool a)) (hy : ev e y = some (.bool b)) [hT : BoolT P T] :
    Val P n w0 own e hs (.binOp .eql T x y U) (.bool (a == b)) := fun _ w ty pos aft g d hr s => by
  have h := run_equalIn_bool' (P := P) w 9999 T a b hT.out
  simp [execOp, hr.eval hx, hr.eval hy, eqGuard, binOp, Op.equal, Op.maxDepth, h]
theorem Val.neb {T U : Nat} {x y : Operand} {a b : Bool} (hx : ev e x = some (.bool a)) (hy : ev e y = some (.bool b)) [hT : BoolT P T] :
    Val P n w0 own e hs (.binOp .neq T x y U) (.bool (a != b)) := fun _ w ty pos aft g d hr s => by
  have h := run_equalIn_bool' (P := P) w 9999 T a b hT.out
  simp [execOp, hr.eval hx, hr.eval hy, eqGuard, binOp, Op.equal, Op.maxDepth, h]; cases a <;> cases b <;> rfl
theorem Val.eql_string {T U : Nat} {x y : Operand} {a b : ByteArray} (hx : ev e x = some (.string a)) (hy : ev e y = some (.string b)) :
    Val P n w0 own e hs (.binOp .eql T x y U) (.bool (a.toList == b.toList)) := fun _ w ty pos aft g d hr s => by
  simp [execOp, hr.eval hx, hr.eval hy, eqGuard, binOp, Op.stringOp, beq_toListBytes]
theorem Val.neq_string {T U : Nat} {x y : Operand} {a b : ByteArray} (hx : ev e x = some (.string a)) (hy : ev e y = some (.string b)) :
    Val P n w0 own e hs (.binOp .neq T x y U) (.bool (a.toList != b.toList)) := fun _ w ty pos aft g d hr s => by
  simp [execOp, hr.eval hx, hr.eval hy, eqGuard, binOp, Op.stringOp, bne, beq_toListBytes]
/-- pointers held against nil -/
theorem Val.eql_ptr_nil {T U E : Nat} {x y : Operand} {a : Option Addr} (hx : ev e x = some (.pointer a)) (hy : ev e y = some (.pointer none)) [hT : PtrT P T E] :
    Val P n w0 own e hs (.binOp .eql T x y U) (.bool a.isNone) := fun _ w ty pos aft g d hr s => by
  have h : (Op.equalIn (9999 + 1) T (.pointer a) (.pointer none)).run P w = .ok a.isNone w := by
    cases a <;> (rw [Op.equalIn]; simp [run_underlying hT.out])
  simp only [execOp, hr.eval hx, hr.eval hy, eqGuard, binOp, Op.equal, Op.maxDepth]
  simp [h]
theorem Val.neq_ptr_nil {T U E : Nat} {x y : Operand} {a : Option Addr} (hx : ev e x = some (.pointer a)) (hy : ev e y = some (.pointer none)) [hT : PtrT P T E] :
    Val P n w0 own e hs (.binOp .neq T x y U) (.bool a.isSome) := fun _ w ty pos aft g d hr s => by
  have h : (Op.equalIn (9999 + 1) T (.pointer a) (.pointer none)).run P w = .ok a.isNone w := by
    cases a <;> (rw [Op.equalIn]; simp [run_underlying hT.out])
  simp only [execOp, hr.eval hx, hr.eval hy, eqGuard, binOp, Op.equal, Op.maxDepth]
  simp [h]

/-! ### parts of a value -/
theorem Val.index {T N E m : Nat} {x y : Operand} {i : Int} {q : IntKind} {cs : List Value} {v : Value} (hx : ev e x = some (.agg ⟨cs⟩)) (hy : ev e y = some (.int q i)) [hT : ArrT P T N E] [hS : Sc P E] [hE : Sz P E m]
    (h0 : 0 ≤ i) (h1 : i < N) (hv : cs[i.toNat * m]? = some v) : Val P n w0 own e hs (.index T x y) v := fun a w ty pos aft g d hr s => by
  obtain ⟨j, hj, hz⟩ := hE.out
  simp [execOp, hr.eval hx, hr.eval hy, Instr.index, asIntOf, run_underlying hT.out, h0, h1, sizeOf, typeInfo, hj, hz, part, Sem.run_bind, run_isAgg_sc hS, hv]
class FldV (P : Program) (T i : Nat) (off F : outParam Nat) : Prop where
  out : ∃ fs f, P.underlying T = some (.struct fs) ∧ fs[i]? = some f ∧ f.offset = off ∧ f.type = F
def fldvB (P : Program) (T i off F : Nat) : Bool := match P.underlying T with
  | some (.struct fs) => match fs[i]? with
    | some f => Nat.beq f.offset off && Nat.beq f.type F
    | none => false
  | _ => false
theorem FldV.of {P : Program} {T i off F : Nat} (h : fldvB P T i off F = true) : FldV P T i off F := by
  unfold fldvB at h
  split at h
  · rename_i fs hd
    split at h
    · rename_i f hf
      rw [Bool.and_eq_true] at h
      exact ⟨fs, f, hd, hf, Nat.eq_of_beq_eq_true h.1, Nat.eq_of_beq_eq_true h.2⟩
    · cases h
  · cases h
theorem Val.field {T i off F : Nat} {x : Operand} {cs : List Value} {v : Value} (hx : ev e x = some (.agg ⟨cs⟩)) [hT : FldV P T i off F] [hS : Sc P F] (hv : cs[off]? = some v) :
    Val P n w0 own e hs (.field T x i) v := fun a w ty pos aft g d hr s => by
  obtain ⟨fs, f, h1, h2, h3, h4⟩ := hT.out
  subst h4
  simp [execOp, hr.eval hx, Instr.field, run_underlying h1, h2, asAgg, part, Sem.run_bind, run_isAgg_sc hS, h3, hv]
theorem Val.fieldA {T i off F m : Nat} {x : Operand} {cs vs : List Value} (hx : ev e x = some (.agg ⟨cs⟩)) [hT : FldV P T i off F] [hS : Ag P F m] (hv : (cs.drop off).take m = vs) :
    Val P n w0 own e hs (.field T x i) (.agg ⟨vs⟩) := fun a w ty pos aft g d hr s => by
  obtain ⟨fs, f, h1, h2, h3, h4⟩ := hT.out
  subst h4
  obtain ⟨_, j, _, _, hj, hz⟩ := hS.out
  subst hv
  simp [execOp, hr.eval hx, Instr.field, run_underlying h1, h2, asAgg, part, Sem.run_bind, run_isAgg_ag hS, h3, sizeOf, typeInfo, hj, hz]

/-! ### cutting -/
/-- where a slice that was cut at place l begins: at its end the address stays -/
def cutA (A : Option Addr) (cap l m : Nat) : Option Addr := if cap = l then A else A.map (·.add (l * m))
theorem cutA_zero (A : Option Addr) (cap m : Nat) : cutA A cap 0 m = A := by
  unfold cutA; split
  · rfl
  · cases A <;> simp [Addr.add]
theorem cutA_some {b o cap l m : Nat} (h : l < cap) : cutA (some ⟨b, o, none⟩) cap l m = some ⟨b, o + l * m, none⟩ := by
  unfold cutA; rw [if_neg (by omega)]; simp [add_none]
theorem Val.slLo {T E m len cap : Nat} {x y : Operand} {A : Option Addr} {i : Int} {q : IntKind} (hx : ev e x = some (.slice A len cap)) (hy : ev e y = some (.int q i)) [hT : SliceT P T E] [hE : Sz P E m]
    (h0 : 0 ≤ i) (h1 : i ≤ len) : Val P n w0 own e hs (.slice T x (some y) none none) (.slice (cutA A cap i.toNat m) (len - i.toNat) (cap - i.toNat)) := fun a w ty pos aft g d hr s => by
  obtain ⟨j, hj, hz⟩ := hE.out
  simp [execOp, hr.eval hx, hr.eval hy, Instr.sliceAt, run_underlying hT.out, Instr.slice, Instr.sliceBounds, Instr.sliceBound, asIntOf, h0, h1, sizeOf, typeInfo, hj, hz, cutA]
theorem Val.slHi {T E m len cap : Nat} {x y : Operand} {A : Option Addr} {i : Int} {q : IntKind} (hx : ev e x = some (.slice A len cap)) (hy : ev e y = some (.int q i)) [hT : SliceT P T E] [hE : Sz P E m]
    (h0 : 0 ≤ i) (h1 : i ≤ cap) : Val P n w0 own e hs (.slice T x none (some y) none) (.slice A i.toNat cap) := fun a w ty pos aft g d hr s => by
  obtain ⟨j, hj, hz⟩ := hE.out
  have h9 : Option.map (fun x : Addr => x.add 0) A = A := by cases A <;> simp [Addr.add]
  simp [h9, execOp, hr.eval hx, hr.eval hy, Instr.sliceAt, run_underlying hT.out, Instr.slice, Instr.sliceBounds, Instr.sliceBound, asIntOf, h0, h1, sizeOf, typeInfo, hj, hz]
theorem Val.slLoHi {T E m len cap : Nat} {x y z : Operand} {A : Option Addr} {i k : Int} {q r : IntKind} (hx : ev e x = some (.slice A len cap)) (hy : ev e y = some (.int q i)) (hz_ : ev e z = some (.int r k)) [hT : SliceT P T E] [hE : Sz P E m]
    (h0 : 0 ≤ i) (h1 : i ≤ k) (h2 : k ≤ cap) : Val P n w0 own e hs (.slice T x (some y) (some z) none) (.slice (cutA A cap i.toNat m) (k.toNat - i.toNat) (cap - i.toNat)) := fun a w ty pos aft g d hr s => by
  obtain ⟨j, hj, hz⟩ := hE.out
  have h3 : 0 ≤ k := by omega
  have h4 : max k 0 = k := by omega
  simp [execOp, hr.eval hx, hr.eval hy, hr.eval hz_, Instr.sliceAt, run_underlying hT.out, Instr.slice, Instr.sliceBounds, Instr.sliceBound, asIntOf, h0, h1, h2, h3, h4, sizeOf, typeInfo, hj, hz, cutA]
theorem Val.slHiMax {T E m len cap : Nat} {x y z : Operand} {A : Option Addr} {i k : Int} {q r : IntKind} (hx : ev e x = some (.slice A len cap)) (hy : ev e y = some (.int q i)) (hz_ : ev e z = some (.int r k)) [hT : SliceT P T E] [hE : Sz P E m]
    (h0 : 0 ≤ i) (h1 : i ≤ k) (h2 : k ≤ cap) : Val P n w0 own e hs (.slice T x none (some y) (some z)) (.slice A i.toNat k.toNat) := fun a w ty pos aft g d hr s => by
  obtain ⟨j, hj, hz⟩ := hE.out
  have h3 : 0 ≤ k := by omega
  have h4 : max k 0 = k := by omega
  have h9 : Option.map (fun x : Addr => x.add 0) A = A := by cases A <;> simp [Addr.add]
  simp [h9, execOp, hr.eval hx, hr.eval hy, hr.eval hz_, Instr.sliceAt, run_underlying hT.out, Instr.slice, Instr.sliceBounds, Instr.sliceBound, asIntOf, h0, h1, h2, h3, h4, sizeOf, typeInfo, hj, hz]
/-- a whole array, or its head, as a slice -/
theorem Val.slArr {T N E m : Nat} {x : Operand} {ad : Addr} (hx : ev e x = some (.pointer (some ad))) [hT : ArrT P T N E] [hE : Sz P E m] :
    Val P n w0 own e hs (.slice T x none none none) (.slice (some ad) N N) := fun a w ty pos aft g d hr s => by
  obtain ⟨j, hj, hz⟩ := hE.out
  have h9 : ad.add 0 = ad := by simp [Addr.add]
  simp [h9, execOp, hr.eval hx, Instr.sliceAt, Instr.sureAddr, run_underlying hT.out, Instr.sliceBounds, sizeOf, typeInfo, hj, hz]
theorem Val.slArrHi {T N E m : Nat} {x y : Operand} {ad : Addr} {i : Int} {q : IntKind} (hx : ev e x = some (.pointer (some ad))) (hy : ev e y = some (.int q i)) [hT : ArrT P T N E] [hE : Sz P E m] (h0 : 0 ≤ i) (h1 : i ≤ N) :
    Val P n w0 own e hs (.slice T x none (some y) none) (.slice (some ad) i.toNat N) := fun a w ty pos aft g d hr s => by
  obtain ⟨j, hj, hz⟩ := hE.out
  have h9 : ad.add 0 = ad := by simp [Addr.add]
  simp [h9, execOp, hr.eval hx, hr.eval hy, Instr.sliceAt, Instr.sureAddr, run_underlying hT.out, Instr.sliceBounds, Instr.sliceBound, asIntOf, h0, h1, sizeOf, typeInfo, hj, hz]
theorem Val.toArr {T N E len cap : Nat} {x : Operand} {A : Option Addr} (hx : ev e x = some (.slice A len cap)) [hT : ArrT P T N E] (h : N ≤ len) :
    Val P n w0 own e hs (.sliceToArrayPointer T x) (.pointer A) := fun a w ty pos aft g d hr s => by
  simp [execOp, hr.eval hx, Instr.arrayAt, run_underlying hT.out, Nat.not_lt.2 h]
theorem Val.makeFunc {g : FuncId} {fv cv : List Operand} {us vs : List Value} (h1 : evs e fv = some us) (h2 : evs e cv = some vs) :
    Val P n w0 own e hs (.makeFunc (.func g) ⟨fv⟩ ⟨cv⟩) (.func (.func g) ⟨us⟩ ⟨vs⟩) := fun a w ty pos aft gg d hr s => by
  have e1 := hr.evals h1
  have e2 := hr.evals h2
  simp [execOp, Instr.makeFunc, e1, e2]
theorem Val.len_string {T : Nat} {x : Operand} {b : ByteArray} (hx : ev e x = some (.string b)) [hT : StrT P T] :
    Val P n w0 own e hs (.call { callee := .builtin .len, args := #[x], argTypes := #[T] }) (.int .i64 b.size) := fun a w ty pos aft g d hr s => by
  simp [execOp, hr.eval hx, resolve, invoke, builtin, Builtin.len_, run_underlying hT.out, goInt]

/-! ### bytes as a string -/
def strOf (xs : List (BitVec 8)) : ByteArray := ⟨(xs.map fun x => UInt8.ofBitVec x).toArray⟩
theorem Val.bytesStr {T U E len cap : Nat} {x : Operand} {b o : Nat} {xs : List (BitVec 8)} (hx : ev e x = some (.slice (some ⟨b, o, none⟩) len cap)) [hT : SliceT P T E] [hE : IntT P E .u8] [hU : StrT P U]
    (hl : xs.length = len) (hc : At w0 own hs ⟨b, o, none⟩ (xs.map fun x => .int .u8 x.toNat)) : Val P n w0 own e hs (.convert T U x) (.string (strOf xs)) := fun a w ty pos aft g d hr s => by
  have h := run_convert_bytes_arg (P := P) w T E hT.out hE.out b o len cap (xs.map fun x => (x.toNat : Int)) (by simpa using hl) (fun i hi => by
    have := hc w s i (.int .u8 ((xs.map fun x => (x.toNat : Int)).getD i 0)) (by simp [List.getElem?_eq_getElem (show i < xs.length by omega)])
    rw [add_none] at this
    exact this) U hU.out
  simp only [execOp, hr.eval hx, Sem.run_bind, h, Result.andThen_ok, Sem.run_pure]
  congr 3
  unfold strOfNums strOf
  congr 2
  rw [List.map_map]
  apply List.map_congr_left
  intro x _
  simp only [Function.comp, Int.toNat_natCast]
  apply UInt8.toNat_inj.1
  have := x.isLt
  simp
theorem Val.bytesStrNil {T U E len cap : Nat} {x : Operand} (hx : ev e x = some (.slice none len cap)) [hT : SliceT P T E] [hE : IntT P E .u8] [hU : StrT P U] :
    Val P n w0 own e hs (.convert T U x) (.string ByteArray.empty) := fun a w ty pos aft g d hr s => by
  have h := run_convert_bytes_nil (P := P) w T E hT.out hE.out len cap U hU.out
  simp only [execOp, hr.eval hx, Sem.run_bind, h, Result.andThen_ok, Sem.run_pure]
end
end V
end Go
