/- V2: the rules of memory: loads, stores, new blocks, addresses. -/
import Derived.Test.YtmfobfamdaajmaaV1
import Derived.Laws.CopyRow
import Derived.Laws.Rows
namespace Go
namespace V
open Go.RowKit
set_option linter.unusedVariables false
set_option linter.unusedSimpArgs false

theorem Sat.row {w0 w : World} {own : List Nat} {hs : Hp} (h : Sat w0 own hs w) {b T : Nat} {l : List Value} (hb : (b, .cells l T) ∈ hs) : w.heap[b]? = some (.cells ⟨l⟩ T (0, 0)) := h.has b _ hb
theorem Sat.cell {w0 w : World} {own : List Nat} {hs : Hp} (h : Sat w0 own hs w) {b T : Nat} {l : List Value} (hb : (b, .cells l T) ∈ hs) (o : Nat) : w.cell? ⟨b, o, none⟩ = l[o]? := by
  simp [World.cell?, h.row hb]
theorem Sat.cell_old {w0 w : World} {own : List Nat} {hs : Hp} (h : Sat w0 own hs w) {a : Addr} {v : Value} (hv : w0.cell? a = some v) (hn : a.block ∉ own) : w.cell? a = some v := by
  rw [← hv]
  have hlt : a.block < w0.heap.size := by
    unfold World.cell? at hv
    split at hv
    · rename_i c T f hc; exact (Array.getElem?_eq_some_iff.1 hc).1
    · cases hv
  simp only [World.cell?, h.old _ hlt hn]

/-! ### finding a block, by instances -/
class Mem (b : Nat) (c : outParam Ch) (hs : Hp) : Prop where
  out : (b, c) ∈ hs
instance (priority := high) Mem.head {b : Nat} {c : Ch} {hs : Hp} : Mem b c ((b, c) :: hs) := ⟨List.mem_cons_self⟩
instance Mem.tail {b : Nat} {c : Ch} {p : Nat × Ch} {hs : Hp} [h : Mem b c hs] : Mem b c (p :: hs) := ⟨List.mem_cons_of_mem _ h.out⟩
class UpdI (b : Nat) (c : Ch) (hs : Hp) (hs' : outParam Hp) : Prop where
  out : Upd b c hs hs'
instance (priority := high) UpdI.head {b : Nat} {c c0 : Ch} {hs : Hp} : UpdI b c ((b, c0) :: hs) ((b, c) :: hs) := ⟨.head⟩
instance UpdI.tail {b : Nat} {c : Ch} {p : Nat × Ch} {hs hs' : Hp} [h : UpdI b c hs hs'] : UpdI b c (p :: hs) (p :: hs') := ⟨.tail h.out⟩
instance Mem.app_cons {b : Nat} {c : Ch} {p : Nat × Ch} {h fr : Hp} [k : Mem b c (p :: (h ++ fr))] : Mem b c ((p :: h) ++ fr) := ⟨k.out⟩
instance Mem.app_nil {b : Nat} {c : Ch} {fr : Hp} [k : Mem b c fr] : Mem b c ([] ++ fr) := ⟨k.out⟩
instance UpdI.app_cons {b : Nat} {c : Ch} {p : Nat × Ch} {h fr hs' : Hp} [k : UpdI b c (p :: (h ++ fr)) hs'] : UpdI b c ((p :: h) ++ fr) hs' := ⟨k.out⟩
instance UpdI.app_nil {b : Nat} {c : Ch} {fr hs' : Hp} [k : UpdI b c fr hs'] : UpdI b c ([] ++ fr) hs' := ⟨k.out⟩
class SetL (l : List Value) (o : Nat) (v : Value) (l' : outParam (List Value)) : Prop where
  out : o < l.length ∧ l.set o v = l'
instance (priority := high) SetL.head {u v : Value} {l : List Value} : SetL (u :: l) 0 v (v :: l) := ⟨by simp, rfl⟩
instance SetL.tail {u v : Value} {o : Nat} {l l' : List Value} [h : SetL l o v l'] : SetL (u :: l) (o + 1) v (u :: l') := ⟨by have := h.out.1; simp; omega, by have := h.out.2; simp [this]⟩

/-! ### what a load gives -/
/-- the cells at an address, as they stand in every such world -/
def At (w0 : World) (own : List Nat) (hs : Hp) (a : Addr) (vs : List Value) : Prop := ∀ w, Sat w0 own hs w → ∀ j v, vs[j]? = some v → w.cell? (a.add j) = some v
theorem add_none (b o j : Nat) : (⟨b, o, none⟩ : Addr).add j = ⟨b, o + j, none⟩ := by unfold Addr.add; split <;> simp_all
theorem At.chunk {w0 : World} {own : List Nat} {hs : Hp} {b o T : Nat} {l vs : List Value} [hb : Mem b (.cells l T) hs] (h : ∀ j v, vs[j]? = some v → l[o + j]? = some v) : At w0 own hs ⟨b, o, none⟩ vs :=
  fun w s j v hv => by rw [add_none, s.cell hb.out]; exact h j v hv
theorem At.one {w0 : World} {own : List Nat} {hs : Hp} {b o T : Nat} {l : List Value} {v : Value} [hb : Mem b (.cells l T) hs] (h : l[o]? = some v) : At w0 own hs ⟨b, o, none⟩ [v] :=
  At.chunk fun j u hu => by
    match j, hu with
    | 0, hu => simp at hu; subst hu; simpa using h
theorem At.whole {w0 : World} {own : List Nat} {hs : Hp} {b T : Nat} {l : List Value} [hb : Mem b (.cells l T) hs] : At w0 own hs ⟨b, 0, none⟩ l :=
  At.chunk fun j u hu => by simpa using hu
theorem At.old {w0 : World} {own : List Nat} {hs : Hp} {a : Addr} {vs : List Value} (h : ∀ j v, vs[j]? = some v → w0.cell? (a.add j) = some v) (hn : a.block ∉ own) : At w0 own hs a vs :=
  fun w s j v hv => s.cell_old (h j v hv) (by unfold Addr.add; split <;> exact hn)

theorem At.old1 {w0 : World} {own : List Nat} {hs : Hp} {b o : Nat} {v : Value} (h : w0.cell? ⟨b, o, none⟩ = some v) (hn : b ∉ own) : At w0 own hs ⟨b, o, none⟩ [v] :=
  At.old (fun j u hj => by
    match j, hj with
    | 0, hj => simp at hj; subst hj; simpa [add_none] using h) hn

section
variable {P : Program} {n : Nat} {w0 : World} {own : List Nat} {e : Env} {hs : Hp} {ops : Array Oper} {rest : List Oper} {K : Env → Hp → Prop}
variable {d : Nat} {ty : TypeId} {pos : String} {aft : Array Edge}

theorem run_isAgg_sc {T : Nat} (h : Sc P T) (w : World) : (isAgg T).run P w = .ok false w := by
  obtain ⟨dd, hd, h1, h2⟩ := h.out
  unfold isAgg
  rw [Sem.run_bind, run_underlying hd w]
  cases dd <;> simp_all
theorem run_isAgg_ag {T m : Nat} (h : Ag P T m) (w : World) : (isAgg T).run P w = .ok true w := by
  obtain ⟨dd, i, hd, h1, _⟩ := h.out
  unfold isAgg
  rw [Sem.run_bind, run_underlying hd w]
  rcases h1 with ⟨f, rfl⟩ | ⟨k, e, rfl⟩ <;> simp
theorem run_loadVar_sc {T : Nat} (h : Sc P T) {w : World} {a : Addr} {v : Value} (hc : w.cell? a = some v) : (loadVar T a).run P w = .ok v w := by
  simp [loadVar, Sem.run_bind, run_isAgg_sc h, hc]
theorem run_loadVar_ag {T m : Nat} (h : Ag P T m) {w : World} {a : Addr} {vs : List Value} (hl : vs.length = m) (hc : ∀ j v, vs[j]? = some v → w.cell? (a.add j) = some v) :
    (loadVar T a).run P w = .ok (.agg vs.toArray) w := by
  have h1 := run_loadCells_list (P := P) w a vs hc
  obtain ⟨dd, i, hd, _, hi, hs⟩ := h.out
  rw [hl] at h1
  simp [loadVar, Sem.run_bind, run_isAgg_ag h, sizeOf, typeInfo, hi, hs, h1]

theorem Val.load {T : Nat} {x : Operand} {a : Addr} {v : Value} (hx : ev e x = some (.pointer (some a))) [hT : Sc P T] (hc : At w0 own hs a [v]) :
    Val P n w0 own e hs (.load T x) (v) :=
  fun b w ty pos aft g d hr s => by
    have h1 : w.cell? a = some v := by have := hc w s 0 v (by simp); simpa [Addr.add] using this
    simp [execOp, hr.eval hx, Instr.loadAt, Instr.sureAddr, run_loadVar_sc hT h1]
theorem Val.loadA {T m : Nat} {x : Operand} {a : Addr} {vs : List Value} (hx : ev e x = some (.pointer (some a))) [hT : Ag P T m] (hc : At w0 own hs a vs) (hl : vs.length = m) :
    Val P n w0 own e hs (.load T x) (.agg ⟨vs⟩) :=
  fun b w ty pos aft g d hr s => by
    simp [execOp, hr.eval hx, Instr.loadAt, Instr.sureAddr, run_loadVar_ag hT hl (hc w s)]

/-! ### stores -/
def ones (vs : List Value) : Bool := vs.all Value.oneCell'
theorem ones_mem {vs : List Value} (h : ones vs = true) : ∀ v ∈ vs, v.oneCell' = true := by simpa [ones] using h
/-- 'l' with 'vs' from place 'o' on -/
def splice (l : List Value) (o : Nat) (vs : List Value) : List Value := l.take o ++ vs ++ l.drop (o + vs.length)
theorem splice_one (l : List Value) (o : Nat) (v : Value) (h : o < l.length) : splice l o [v] = l.set o v := by
  simp [splice, List.set_eq_take_append_cons_drop, h]
theorem splice_whole (l vs : List Value) (h : vs.length = l.length) : splice l 0 vs = vs := by
  simp [splice, h]
theorem splice_length (l : List Value) (o : Nat) (vs : List Value) (h : o + vs.length ≤ l.length) : (splice l o vs).length = l.length := by
  simp [splice]; omega
theorem Sat.splice {w0 w : World} {hs' : Hp} (h : Sat w0 own hs w) {b T o : Nat} {l vs : List Value} (u : Upd b (.cells (splice l o vs) T) hs hs') (hb : (b, .cells l T) ∈ hs) (hl : o + vs.length ≤ l.length) (h1 : ones vs = true) :
    ∃ w', (storeCells ⟨b, o, none⟩ vs).run P w = .ok () w' ∧ Sat w0 own hs' w' := by
  have hrow := h.row hb
  refine ⟨_, run_storeCells_at P b o T vs 0 ⟨l⟩ w hrow (by simpa using hl) (ones_mem h1), ?_⟩
  have hlt : b < w.heap.size := (Array.getElem?_eq_some_iff.1 hrow).1
  refine h.upd u ?_ ?_ ?_ rfl rfl rfl
  · simp [World.setRow]
  · intro i hi
    simp [World.setRow, Array.getElem?_modify, Ne.symm hi]
  · simp [World.setRow, Array.getElem?_modify, hrow, Ch.toObj, V.splice]

theorem run_storeVar_sz {T m : Nat} (h : Sz P T m) {w w' : World} {a : Addr} {v : Value} (hv : v.cells.size = m) (hs : (storeCells a v.cells.toList).run P w = .ok () w') : (storeVar T a v).run P w = .ok () w' := by
  obtain ⟨i, hi, hsz⟩ := h.out
  simp [storeVar, Sem.run_bind, sizeOf, typeInfo, hi, hsz, hv, hs]
/-- a store of one cell -/
theorem Eff.store {T b o U : Nat} {x y : Operand} {v : Value} {l : List Value} {hs' : Hp} (hx : ev e x = some (.pointer (some ⟨b, o, none⟩))) (hy : ev e y = some v) [hT : Sz P T 1] [hb : Mem b (.cells l U) hs]
    (h1 : v.oneCell' = true) (ho : o < l.length) [u : UpdI b (.cells (l.set o v) U) hs hs'] : Eff P n w0 own e hs (.store T x y) (fun v h => v = undef ∧ h = hs') :=
  Eff.of_skip fun a w ty pos aft g d hr s => by
    have hcs : v.cells = #[v] := by cases v <;> first | rfl | (simp [Value.oneCell'] at h1)
    have u := u.out
    rw [← splice_one l o v ho] at u
    obtain ⟨w', r1, r2⟩ := s.splice (P := P) u hb.out (by simp; omega) (by simpa [ones] using h1)
    refine ⟨w', ?_, r2⟩
    simp [execOp, hr.eval hx, hr.eval hy, Instr.storeAt, Instr.sureAddr, run_storeVar_sz hT (w := w) (w' := w') (a := ⟨b, o, none⟩) (v := v) (by simp [hcs]) (by simpa [hcs] using r1)]
/-- .. into a block that is written out -/
theorem Eff.storeL {T b o U : Nat} {x y : Operand} {v : Value} {l l' : List Value} {hs' : Hp} (hx : ev e x = some (.pointer (some ⟨b, o, none⟩))) (hy : ev e y = some v) [hT : Sz P T 1] [hb : Mem b (.cells l U) hs]
    (h1 : v.oneCell' = true) [ho : SetL l o v l'] [u : UpdI b (.cells l' U) hs hs'] : Eff P n w0 own e hs (.store T x y) (fun v h => v = undef ∧ h = hs') := by
  obtain ⟨h2, h3⟩ := ho.out
  subst h3
  exact Eff.store hx hy h1 h2
/-- a store of a struct or an array -/
theorem Eff.storeA {T m b o U : Nat} {x y : Operand} {vs l : List Value} {hs' : Hp} (hx : ev e x = some (.pointer (some ⟨b, o, none⟩))) (hy : ev e y = some (.agg ⟨vs⟩)) [hT : Sz P T m] (hm : vs.length = m) [hb : Mem b (.cells l U) hs]
    (h1 : ones vs = true) (ho : o + vs.length ≤ l.length) [u : UpdI b (.cells (splice l o vs) U) hs hs'] : Eff P n w0 own e hs (.store T x y) (fun v h => v = undef ∧ h = hs') :=
  Eff.of_skip fun a w ty pos aft g d hr s => by
    obtain ⟨w', r1, r2⟩ := s.splice (P := P) u.out hb.out ho h1
    refine ⟨w', ?_, r2⟩
    simp [execOp, hr.eval hx, hr.eval hy, Instr.storeAt, Instr.sureAddr, run_storeVar_sz hT (w := w) (w' := w') (a := ⟨b, o, none⟩) (v := .agg ⟨vs⟩) (by simpa [Value.cells] using hm) (by simpa [Value.cells] using r1)]
/-- .. of a whole block -/
theorem Eff.storeW {T m b U : Nat} {x y : Operand} {vs l : List Value} {hs' : Hp} (hx : ev e x = some (.pointer (some ⟨b, 0, none⟩))) (hy : ev e y = some (.agg ⟨vs⟩)) [hT : Sz P T m] (hm : vs.length = m) [hb : Mem b (.cells l U) hs]
    (h1 : ones vs = true) (ho : l.length = m) [u : UpdI b (.cells vs U) hs hs'] : Eff P n w0 own e hs (.store T x y) (fun v h => v = undef ∧ h = hs') :=
  Eff.storeA (u := ⟨by rw [splice_whole l vs (by omega)]; exact u.out⟩) hx hy hm h1 (by omega)
/-- a store, then the rest -/
theorem JL.st {g : Option (Nat × Bool)} {op : Op} {hs' : Hp} (h : Eff P n w0 own e hs op (fun v h => v = undef ∧ h = hs')) (k : JL P n w0 own ops rest e hs' K) (hg : wantB ops e g = some true := by rfl) :
    JL P n w0 own ops (⟨none, op, ty, pos, aft, g⟩ :: rest) e hs K :=
  JL.ef0 h (fun v hs' ⟨_, h2⟩ => by subst h2; exact k) hg

/-! ### new blocks -/
def NewP (hs : Hp) (c : Ch) (v : Value) (h : Hp) : Prop := ∃ b, v = .pointer (some ⟨b, 0, none⟩) ∧ h = (b, c) :: hs
theorem Eff.alloc {T : Nat} {z : List Value} [hT : Zr P T z] : Eff P n w0 own e hs (.alloc T) (NewP hs (.cells z T)) :=
  Eff.of_run fun a w ty pos aft g d hr s => by
    obtain ⟨i, v, hi, hz, hv⟩ := hT.out
    refine ⟨.pointer (some ⟨w.heap.size, 0, none⟩), _, w.alloc (Ch.cells z T).toObj, ?_, ⟨w.heap.size, rfl, rfl⟩, s.new _⟩
    simp [execOp, Instr.alloc, zeroValue, typeInfo, hi, hz, newVar, newRow, hv, Ch.toObj]
theorem Eff.box {T : Nat} {x : Operand} {v : Value} {l : List Value} (hx : ev e x = some v) (hv : v.cells = ⟨l⟩) : Eff P n w0 own e hs (.box T x) (NewP hs (.cells l T)) :=
  Eff.of_run fun a w ty pos aft g d hr s => by
    refine ⟨.pointer (some ⟨w.heap.size, 0, none⟩), _, w.alloc (Ch.cells l T).toObj, ?_, ⟨w.heap.size, rfl, rfl⟩, s.new _⟩
    simp [execOp, hr.eval hx, Instr.box, newVar, newRow, hv, Ch.toObj]
/-- a new block, then the rest -/
theorem JL.nw {g : Option (Nat × Bool)} {op : Op} {c : Ch} (h : Eff P n w0 own e hs op (NewP hs c)) (k : ∀ b, JL P n w0 own ops rest ((d, .pointer (some ⟨b, 0, none⟩)) :: e) ((b, c) :: hs) K)
    (hdn : Nat.blt d n = true := by rfl) (hg : wantB ops e g = some true := by rfl) : JL P n w0 own ops (⟨some d, op, ty, pos, aft, g⟩ :: rest) e hs K :=
  JL.ef h (fun v hs' ⟨b, h1, h2⟩ => by subst h1; subst h2; exact k b) hdn hg

/-! ### addresses -/
theorem Val.fieldAddr {T i off b o : Nat} {x : Operand} (hx : ev e x = some (.pointer (some ⟨b, o, none⟩))) [hT : FldT P T i off] :
    Val P n w0 own e hs (.fieldAddr T x i) (.pointer (some ⟨b, o + off, none⟩)) :=
  fun a w ty pos aft g d hr s => by
    obtain ⟨fs, f, j, hu, hf, ho, hj, hz⟩ := hT.out
    simp [execOp, hr.eval hx, Instr.fieldAt, Instr.sureAddr, run_underlying hu, hf, fieldPlace, sizeOf, typeInfo, hj, hz, ho, add_none]
theorem Val.indexAddr {T E m b o len cap : Nat} {x y : Operand} {i : Int} {q : IntKind} (hx : ev e x = some (.slice (some ⟨b, o, none⟩) len cap)) (hy : ev e y = some (.int q i)) [hT : SliceT P T E] [hE : Sz P E m]
    (h0 : 0 ≤ i) (h1 : i < len) :
    Val P n w0 own e hs (.indexAddr T x y) (.pointer (some ⟨b, o + i.toNat * m, none⟩)) :=
  fun a w ty pos aft g d hr s => by
    obtain ⟨j, hj, hz⟩ := hE.out
    have hu := hT.out
    simp [execOp, hr.eval hx, hr.eval hy, Instr.indexAt, asIntOf, run_underlying hu, sizeOf, typeInfo, hj, hz, h0, h1, add_none]
theorem Val.indexAddr1 {T E b o len cap : Nat} {x y : Operand} {i : Int} {q : IntKind} (hx : ev e x = some (.slice (some ⟨b, o, none⟩) len cap)) (hy : ev e y = some (.int q i)) [hT : SliceT P T E] [hE : Sz P E 1]
    (h0 : 0 ≤ i) (h1 : i < len) : Val P n w0 own e hs (.indexAddr T x y) (.pointer (some ⟨b, o + i.toNat, none⟩)) := by
  have h := Val.indexAddr (P := P) (n := n) (w0 := w0) (own := own) (hs := hs) (T := T) hx hy h0 h1
  rw [Nat.mul_one] at h; exact h
theorem Val.indexAddrA {T N E m b o : Nat} {x y : Operand} {i : Int} {q : IntKind} (hx : ev e x = some (.pointer (some ⟨b, o, none⟩))) (hy : ev e y = some (.int q i)) [hT : ArrT P T N E] [hE : Sz P E m]
    (h0 : 0 ≤ i) (h1 : i < N) :
    Val P n w0 own e hs (.indexAddr T x y) (.pointer (some ⟨b, o + i.toNat * m, none⟩)) :=
  fun a w ty pos aft g d hr s => by
    obtain ⟨j, hj, hz⟩ := hE.out
    have hu := hT.out
    simp [execOp, hr.eval hx, hr.eval hy, Instr.indexAt, Instr.sureAddr, asIntOf, run_underlying hu, sizeOf, typeInfo, hj, hz, h0, h1, add_none]
theorem Val.indexAddrA1 {T N E b o : Nat} {x y : Operand} {i : Int} {q : IntKind} (hx : ev e x = some (.pointer (some ⟨b, o, none⟩))) (hy : ev e y = some (.int q i)) [hT : ArrT P T N E] [hE : Sz P E 1]
    (h0 : 0 ≤ i) (h1 : i < N) : Val P n w0 own e hs (.indexAddr T x y) (.pointer (some ⟨b, o + i.toNat, none⟩)) := by
  have h := Val.indexAddrA (P := P) (n := n) (w0 := w0) (own := own) (hs := hs) (T := T) hx hy h0 h1
  rw [Nat.mul_one] at h; exact h
theorem Val.nilCheck {x : Operand} {a : Addr} (hx : ev e x = some (.pointer (some a))) :
    Val P n w0 own e hs (.nilCheck x) (.pointer (some a)) :=
  fun b w ty pos aft g d hr s => by simp [execOp, hr.eval hx]
theorem Val.nilCheckF {x : Operand} {f : FuncId} {u v : Array Value} (hx : ev e x = some (.func (.func f) u v)) :
    Val P n w0 own e hs (.nilCheck x) (.func (.func f) u v) :=
  fun b w ty pos aft g d hr s => by simp [execOp, hr.eval hx]
theorem Val.len {x : Operand} {T E len cap : Nat} {a : Option Addr} (hx : ev e x = some (.slice a len cap)) [hT : SliceT P T E] :
    Val P n w0 own e hs (.call { callee := .builtin .len, args := #[x], argTypes := #[T] }) (.int .i64 len) :=
  fun b w ty pos aft g d hr s => by
    have hu := hT.out
    simp [execOp, hr.eval hx, resolve, invoke, builtin, Builtin.len_, run_underlying hu, goInt]
theorem Val.extract {x : Operand} {i : Nat} {vs : List Value} {v : Value} (hx : ev e x = some (.tuple ⟨vs⟩)) (hv : vs[i]? = some v) :
    Val P n w0 own e hs (.extract x i) (v) :=
  fun b w ty pos aft g d hr s => by simp [execOp, hr.eval hx, Instr.extract, hv]
end
end V
end Go
