/- V1: the rules of single operations: values, arithmetic, loads, stores, new blocks. -/
import Derived.Test.YtmfobfamdaajmaaV0
namespace Go
namespace V
open Go.RowKit
set_option linter.unusedVariables false
set_option linter.unusedSimpArgs false

/-! ### Facts on types, found by number -/
class Sc (P : Program) (T : Nat) : Prop where
  out : ∃ d, P.underlying T = some d ∧ (∀ f, d ≠ .struct f) ∧ ∀ k e, d ≠ .array k e
class Ag (P : Program) (T : Nat) (m : outParam Nat) : Prop where
  out : ∃ d i, P.underlying T = some d ∧ ((∃ f, d = .struct f) ∨ ∃ k e, d = .array k e) ∧ P.info? T = some i ∧ i.size = m
class Zr (P : Program) (T : Nat) (z : outParam (List Value)) : Prop where
  out : ∃ i v, P.info? T = some i ∧ i.zero = some v ∧ v.cells = ⟨z⟩
class ZrV (P : Program) (T : Nat) (z : outParam Value) : Prop where
  out : ∃ i, P.info? T = some i ∧ i.zero = some z
class Sz (P : Program) (T : Nat) (m : outParam Nat) : Prop where
  out : ∃ i, P.info? T = some i ∧ i.size = m
class SliceT (P : Program) (T : Nat) (E : outParam Nat) : Prop where
  out : P.underlying T = some (.slice E)
class ArrT (P : Program) (T : Nat) (k : outParam Nat) (E : outParam Nat) : Prop where
  out : P.underlying T = some (.array k E)
class PtrT (P : Program) (T : Nat) (E : outParam Nat) : Prop where
  out : P.underlying T = some (.pointer E)
class FldT (P : Program) (T i : Nat) (off : outParam Nat) : Prop where
  out : ∃ fs f j, P.underlying T = some (.struct fs) ∧ fs[i]? = some f ∧ f.offset = off ∧ P.info? f.type = some j ∧ j.size ≠ 0
class MapT (P : Program) (T : Nat) (k : outParam Nat) (E : outParam Nat) : Prop where
  out : P.underlying T = some (.map k E)
class BoolT (P : Program) (T : Nat) : Prop where
  out : P.underlying T = some .bool
class StrT (P : Program) (T : Nat) : Prop where
  out : P.underlying T = some .string
class IntT (P : Program) (T : Nat) (k : outParam IntKind) : Prop where
  out : P.underlying T = some (.int k)

def scB (P : Program) (T : Nat) : Bool := match P.underlying T with
  | some (.struct _) | some (.array _ _) | none => false
  | _ => true
theorem Sc.of {P : Program} {T : Nat} (h : scB P T = true) : Sc P T := by
  unfold scB at h
  cases hd : P.underlying T with
  | none => rw [hd] at h; cases h
  | some d => refine ⟨d, hd, fun f e => ?_, fun k e' e => ?_⟩ <;> (subst e; rw [hd] at h; cases h)
def agB (P : Program) (T m : Nat) : Bool := (match P.underlying T with
  | some (.struct _) | some (.array _ _) => true
  | _ => false) && (match P.info? T with | some i => Nat.beq i.size m | none => false)
theorem Ag.of {P : Program} {T m : Nat} (h : agB P T m = true) : Ag P T m := by
  unfold agB at h
  rw [Bool.and_eq_true] at h
  obtain ⟨h1, h2⟩ := h
  cases hd : P.underlying T with
  | none => rw [hd] at h1; cases h1
  | some d =>
    cases hi : P.info? T with
    | none => rw [hi] at h2; cases h2
    | some i =>
      rw [hi] at h2
      refine ⟨d, i, hd, ?_, hi, Nat.eq_of_beq_eq_true h2⟩
      rw [hd] at h1
      cases d <;> first | exact .inl ⟨_, rfl⟩ | exact .inr ⟨_, _, rfl⟩ | cases h1
def szB (P : Program) (T m : Nat) : Bool := match P.info? T with | some i => Nat.beq i.size m | none => false
theorem Sz.of {P : Program} {T m : Nat} (h : szB P T m = true) : Sz P T m := by
  unfold szB at h
  cases hi : P.info? T with
  | none => rw [hi] at h; cases h
  | some i => rw [hi] at h; exact ⟨i, hi, Nat.eq_of_beq_eq_true h⟩
def zrO (P : Program) (T : Nat) : Option Value := (P.info? T).bind (·.zero)
theorem ZrV.of {P : Program} {T : Nat} {z : Value} (h : zrO P T = some z) : ZrV P T z := by
  unfold zrO at h
  cases hi : P.info? T with
  | none => rw [hi] at h; cases h
  | some i => rw [hi] at h; exact ⟨i, hi, h⟩
theorem Zr.of {P : Program} {T : Nat} {z : List Value} {v : Value} (h : zrO P T = some v) (hv : v.cells = ⟨z⟩) : Zr P T z := by
  obtain ⟨i, hi, hz⟩ := (ZrV.of h).out
  exact ⟨i, v, hi, hz, hv⟩
def fldB (P : Program) (T i off : Nat) : Bool := match P.underlying T with
  | some (.struct fs) => match fs[i]? with
    | some f => Nat.beq f.offset off && match P.info? f.type with | some j => !Nat.beq j.size 0 | none => false
    | none => false
  | _ => false
theorem FldT.of {P : Program} {T i off : Nat} (h : fldB P T i off = true) : FldT P T i off := by
  unfold fldB at h
  split at h
  · rename_i fs hd
    split at h
    · rename_i f hf
      rw [Bool.and_eq_true] at h
      obtain ⟨h1, h2⟩ := h
      split at h2
      · rename_i j hj
        exact ⟨fs, f, j, hd, hf, Nat.eq_of_beq_eq_true h1, hj, Nat.ne_of_beq_eq_false (by simpa using h2)⟩
      · cases h2
    · cases h
  · cases h

section
variable {P : Program} {n : Nat} {w0 : World} {own : List Nat} {e : Env} {hs : Hp} {ops : Array Oper} {rest : List Oper} {K : Env → Hp → Prop}
variable {d : Nat} {ty : TypeId} {pos : String} {aft : Array Edge}

theorem JL.nil (h : K e hs) : JL P n w0 own ops [] e hs K := fun a w hr hs Q hq => wpList_nil (hq _ _ _ _ hr hs h)
theorem JL.mono {l : List Oper} {K' : Env → Hp → Prop} (h : JL P n w0 own ops l e hs K) (k : ∀ e hs, K e hs → K' e hs) : JL P n w0 own ops l e hs K' :=
  fun a w hr hs Q hq => h a w hr hs Q fun e' hs' a' w' r s kk => hq e' hs' a' w' r s (k _ _ kk)
theorem JC.region {id : Nat} {l : List Oper} {Q : Post} (h : JL P n w0 own l.toArray l e hs (fun e hs => Q .normal e hs)) : JC P n w0 own (.region id l.toArray false) e hs Q :=
  fun a w hr hs => wp_region_lit (h a w hr hs _ fun e' hs' a' w' r s k => ⟨e', hs', r, s, k⟩)

/-- is the operation carried out? (its guard) -/
def wantB (ops : Array Oper) (e : Env) : Option (Nat × Bool) → Option Bool
  | none => some true
  | some (j, want) => match (ops[j]?).bind (·.dst) with
    | some t => match get e t with
      | some (.bool b) => some (b == want)
      | _ => none
    | none => none
theorem wanted_of {a : Act} (hr : Rep n a e) {o : Oper} {b : Bool} (h : wantB ops e o.guard = some b) : Region.wanted o (yielded ops a.tmps) = b := by
  unfold wantB at h
  unfold Region.wanted
  cases hg : o.guard with
  | none => rw [hg] at h; simpa using h
  | some jw =>
    obtain ⟨j, want⟩ := jw
    rw [hg] at h
    simp only at h ⊢
    cases hd : (ops[j]?).bind (·.dst) with
    | none => rw [hd] at h; cases h
    | some t =>
      rw [hd] at h
      simp only at h
      cases ht : get e t with
      | none => rw [ht] at h; cases h
      | some v =>
        rw [ht] at h
        have := hr.at_ t v ht
        cases v with
        | bool b' =>
          simp only [Option.some.injEq] at h
          subst h
          unfold yielded
          rw [hd]
          simp only [Option.bind_some, this]
          cases b' <;> cases want <;> rfl
        | _ => cases h

/-- THE OPERATION LEAVES A VALUE AND NOTHING ELSE. -/
def Val (P : Program) (n : Nat) (w0 : World) (own : List Nat) (e : Env) (hs : Hp) (op : Op) (v : Value) : Prop :=
  ∀ (a : Act) (w : World) (ty : TypeId) (pos : String) (aft : Array Edge) (g : Option (Nat × Bool)) (d : Option Tmp), Rep n a e → Sat w0 own hs w → (execOp a.eval ⟨d, op, ty, pos, aft, g⟩).run P w = .ok (.value v) w
/-- THE OPERATION LEAVES A VALUE, AND A HEAP, OF WHICH 'R' TELLS. -/
def Eff (P : Program) (n : Nat) (w0 : World) (own : List Nat) (e : Env) (hs : Hp) (op : Op) (R : Value → Hp → Prop) : Prop :=
  ∀ (a : Act) (w : World) (ty : TypeId) (pos : String) (aft : Array Edge) (g : Option (Nat × Bool)) (d : Option Tmp) (K : Act → World → Prop) (Q : Exit → Act → World → Prop), Rep n a e → Sat w0 own hs w →
    (∀ v hs' w', R v hs' → Sat w0 own hs' w' → K (a.put d v) w') → (⟨d, op, ty, pos, aft, g⟩ : Oper).wp P a w K Q
theorem Eff.mono {op : Op} {R R' : Value → Hp → Prop} (h : Eff P n w0 own e hs op R) (k : ∀ v hs, R v hs → R' v hs) : Eff P n w0 own e hs op R' :=
  fun a w ty pos aft g d K Q hr s hk => h a w ty pos aft g d K Q hr s fun v hs' w' r s' => hk v hs' w' (k _ _ r) s'
theorem Val.eff {op : Op} {v : Value} (h : Val P n w0 own e hs op v) : Eff P n w0 own e hs op (fun v' hs' => v' = v ∧ hs' = hs) := by
  intro a w ty pos aft g d K Q hr s hk
  simp only [Oper.wp, h a w ty pos aft g d hr s, Oper.upon_value]
  exact hk v hs w ⟨rfl, rfl⟩ s
/-- of a run in one world that one 'Sat' tells -/
theorem Eff.of_run {op : Op} {R : Value → Hp → Prop}
    (h : ∀ a w ty pos aft g d, Rep n a e → Sat w0 own hs w → ∃ v hs' w', (execOp a.eval ⟨d, op, ty, pos, aft, g⟩).run P w = .ok (.value v) w' ∧ R v hs' ∧ Sat w0 own hs' w') : Eff P n w0 own e hs op R := by
  intro a w ty pos aft g d K Q hr s hk
  obtain ⟨v, hs', w', h1, h2, h3⟩ := h a w ty pos aft g d hr s
  simp only [Oper.wp, h1, Oper.upon_value]
  exact hk v hs' w' h2 h3
theorem Eff.of_skip {op : Op} {hs' : Hp}
    (h : ∀ a w ty pos aft g d, Rep n a e → Sat w0 own hs w → ∃ w', (execOp a.eval ⟨d, op, ty, pos, aft, g⟩).run P w = .ok .skip w' ∧ Sat w0 own hs' w') : Eff P n w0 own e hs op (fun v h => v = undef ∧ h = hs') := by
  intro a w ty pos aft g d K Q hr s hk
  obtain ⟨w', h1, h2⟩ := h a w ty pos aft g d hr s
  simp only [Oper.wp, h1, Oper.upon_skip]
  exact hk undef hs' w' ⟨rfl, rfl⟩ h2

theorem JL.ef {g : Option (Nat × Bool)} {op : Op} {R : Value → Hp → Prop} (h : Eff P n w0 own e hs op R)
    (k : ∀ v hs', R v hs' → JL P n w0 own ops rest ((d, v) :: e) hs' K) (hdn : Nat.blt d n = true := by rfl) (hg : wantB ops e g = some true := by rfl) :
    JL P n w0 own ops (⟨some d, op, ty, pos, aft, g⟩ :: rest) e hs K := by
  intro a w hr s Q hq
  unfold wpList
  rw [if_pos (wanted_of hr hg)]
  exact .inl (h a w ty pos aft g (some d) _ _ hr s fun v hs' w' r s' => k v hs' r _ _ (hr.put (Nat.le_of_ble_eq_true hdn) v) s' Q hq)
theorem JL.ef0 {g : Option (Nat × Bool)} {op : Op} {R : Value → Hp → Prop} (h : Eff P n w0 own e hs op R)
    (k : ∀ v hs', R v hs' → JL P n w0 own ops rest e hs' K) (hg : wantB ops e g = some true := by rfl) :
    JL P n w0 own ops (⟨none, op, ty, pos, aft, g⟩ :: rest) e hs K := by
  intro a w hr s Q hq
  unfold wpList
  rw [if_pos (wanted_of hr hg)]
  exact .inl (h a w ty pos aft g none _ _ hr s fun v hs' w' r s' => k v hs' r _ _ (hr.put_none v) s' Q hq)
theorem JL.v {g : Option (Nat × Bool)} {op : Op} {v : Value} (h : Val P n w0 own e hs op v) (k : JL P n w0 own ops rest ((d, v) :: e) hs K) (hdn : Nat.blt d n = true := by rfl) (hg : wantB ops e g = some true := by rfl) :
    JL P n w0 own ops (⟨some d, op, ty, pos, aft, g⟩ :: rest) e hs K :=
  JL.ef h.eff (fun v' hs' ⟨h1, h2⟩ => by subst h1; subst h2; exact k) hdn hg
/-- an operation that is passed over -/
theorem JL.sk {g : Option (Nat × Bool)} {op : Op} (k : JL P n w0 own ops rest ((d, undef) :: e) hs K) (hdn : Nat.blt d n = true := by rfl) (hg : wantB ops e g = some false := by rfl) :
    JL P n w0 own ops (⟨some d, op, ty, pos, aft, g⟩ :: rest) e hs K := by
  intro a w hr s Q hq
  unfold wpList
  rw [if_neg (by rw [wanted_of hr hg]; simp)]
  exact k _ _ (hr.put (Nat.le_of_ble_eq_true hdn) undef) s Q hq
theorem JL.sk0 {g : Option (Nat × Bool)} {op : Op} (k : JL P n w0 own ops rest e hs K) (hg : wantB ops e g = some false := by rfl) :
    JL P n w0 own ops (⟨none, op, ty, pos, aft, g⟩ :: rest) e hs K := by
  intro a w hr s Q hq
  unfold wpList
  rw [if_neg (by rw [wanted_of hr hg]; simp)]
  exact k _ _ (hr.put_none undef) s Q hq
/-- a bool is one of two -/
theorem Rep.same {a : Act} (hr : Rep n a e) {t : Nat} {v : Value} (h : get e t = some v) : Rep n a ((t, v) :: e) :=
  ⟨hr.nd, hr.sz, fun s u hu => by
    simp only [get] at hu
    cases hb : Nat.beq t s with
    | true =>
      rw [hb] at hu
      simp at hu
      have := Nat.eq_of_beq_eq_true hb
      subst this; subst hu
      exact hr.at_ t v h
    | false => rw [hb] at hu; exact hr.at_ s u hu⟩
theorem JL.split {l : List Oper} {t : Nat} {p : Prop} [Decidable p] (ht : get e t = some (.bool (decide p))) (h1 : p → JL P n w0 own ops l ((t, .bool true) :: e) hs K)
    (h0 : ¬ p → JL P n w0 own ops l ((t, .bool false) :: e) hs K) : JL P n w0 own ops l e hs K := by
  by_cases hp : p
  · rw [decide_eq_true hp] at ht
    exact fun a w hr s => h1 hp a w (hr.same ht) s
  · rw [decide_eq_false hp] at ht
    exact fun a w hr s => h0 hp a w (hr.same ht) s
theorem JL.splitB {l : List Oper} {t : Nat} {b : Bool} (ht : get e t = some (.bool b)) (h1 : b = true → JL P n w0 own ops l ((t, .bool true) :: e) hs K)
    (h0 : b = false → JL P n w0 own ops l ((t, .bool false) :: e) hs K) : JL P n w0 own ops l e hs K := by
  cases b
  · exact fun a w hr s => h0 rfl a w (hr.same ht) s
  · exact fun a w hr s => h1 rfl a w (hr.same ht) s

theorem Val.move {x : Operand} {v : Value} (hx : ev e x = some v) :
    Val P n w0 own e hs (.move x) (v) :=
  fun a w ty pos aft g d hr hs => by simp [execOp, hr.eval hx]
theorem Val.assign {x : Operand} {v : Value} (hx : ev e x = some v) :
    Val P n w0 own e hs (.assign x) (v) :=
  fun a w ty pos aft g d hr hs => by simp [execOp, hr.eval hx]
theorem Val.pick {c x y : Operand} {b : Bool} {u v : Value} (hc : ev e c = some (.bool b)) (hx : ev e x = some u) (hy : ev e y = some v) :
    Val P n w0 own e hs (.pick c x y) (if b then u else v) :=
  fun a w ty pos aft g d hr hs => by simp [execOp, hr.eval hc, hr.eval hx, hr.eval hy, asBool]

/-! integers -/
theorem Val.add {T U : Nat} {x y : Operand} {q : IntKind} {i j : Int} (hx : ev e x = some (.int q i)) (hy : ev e y = some (.int q j)) :
    Val P n w0 own e hs (.binOp .add T x y U) (.int q (q.wrap (i + j))) :=
  fun a w ty pos aft g d hr hs => by simp [execOp, hr.eval hx, hr.eval hy, eqGuard, binOp, Op.intArith]
theorem Val.sub_ {T U : Nat} {x y : Operand} {q : IntKind} {i j : Int} (hx : ev e x = some (.int q i)) (hy : ev e y = some (.int q j)) :
    Val P n w0 own e hs (.binOp .sub T x y U) (.int q (q.wrap (i - j))) :=
  fun a w ty pos aft g d hr hs => by simp [execOp, hr.eval hx, hr.eval hy, eqGuard, binOp, Op.intArith]
theorem Val.mul {T U : Nat} {x y : Operand} {q : IntKind} {i j : Int} (hx : ev e x = some (.int q i)) (hy : ev e y = some (.int q j)) :
    Val P n w0 own e hs (.binOp .mul T x y U) (.int q (q.wrap (i * j))) :=
  fun a w ty pos aft g d hr hs => by simp [execOp, hr.eval hx, hr.eval hy, eqGuard, binOp, Op.intArith]
theorem wrap_i64 {z : Int} (h : -9223372036854775808 ≤ z ∧ z ≤ 9223372036854775807) : IntKind.i64.wrap z = z := IntWalk.i64_in z h
theorem Val.addi {T U : Nat} {x y : Operand} {i j : Int} (hx : ev e x = some (.int .i64 i)) (hy : ev e y = some (.int .i64 j))
    (hb : -9223372036854775808 ≤ i + j ∧ i + j ≤ 9223372036854775807) :
    Val P n w0 own e hs (.binOp .add T x y U) (.int .i64 (i + j)) := by
  have h := Val.add (P := P) (n := n) (w0 := w0) (own := own) (hs := hs) (T := T) (U := U) hx hy
  rw [wrap_i64 hb] at h; exact h
theorem Val.subi {T U : Nat} {x y : Operand} {i j : Int} (hx : ev e x = some (.int .i64 i)) (hy : ev e y = some (.int .i64 j))
    (hb : -9223372036854775808 ≤ i - j ∧ i - j ≤ 9223372036854775807) :
    Val P n w0 own e hs (.binOp .sub T x y U) (.int .i64 (i - j)) := by
  have h := Val.sub_ (P := P) (n := n) (w0 := w0) (own := own) (hs := hs) (T := T) (U := U) hx hy
  rw [wrap_i64 hb] at h; exact h
theorem Val.muli {T U : Nat} {x y : Operand} {i j : Int} (hx : ev e x = some (.int .i64 i)) (hy : ev e y = some (.int .i64 j))
    (hb : -9223372036854775808 ≤ i * j ∧ i * j ≤ 9223372036854775807) :
    Val P n w0 own e hs (.binOp .mul T x y U) (.int .i64 (i * j)) := by
  have h := Val.mul (P := P) (n := n) (w0 := w0) (own := own) (hs := hs) (T := T) (U := U) hx hy
  rw [wrap_i64 hb] at h; exact h
theorem Val.quo {T U : Nat} {x y : Operand} {q : IntKind} {i j : Int} (hx : ev e x = some (.int q i)) (hy : ev e y = some (.int q j)) (h0 : j ≠ 0) :
    Val P n w0 own e hs (.binOp .quo T x y U) (.int q (q.wrap (i.tdiv j))) :=
  fun a w ty pos aft g d hr hs => by simp [execOp, hr.eval hx, hr.eval hy, eqGuard, binOp, Op.intDiv, h0]
theorem Val.rem {T U : Nat} {x y : Operand} {q : IntKind} {i j : Int} (hx : ev e x = some (.int q i)) (hy : ev e y = some (.int q j)) (h0 : j ≠ 0) :
    Val P n w0 own e hs (.binOp .rem T x y U) (.int q (i.tmod j)) :=
  fun a w ty pos aft g d hr hs => by simp [execOp, hr.eval hx, hr.eval hy, eqGuard, binOp, Op.intDiv, h0]
/-- whatever the bits operation -/
def bop (op : BinOp) (q : IntKind) (i j : Int) : Int :=
  match op with
  | .and => q.wrap (BitVec.ofInt q.bits i &&& BitVec.ofInt q.bits j).toNat
  | .or => q.wrap (BitVec.ofInt q.bits i ||| BitVec.ofInt q.bits j).toNat
  | .xor => q.wrap (BitVec.ofInt q.bits i ^^^ BitVec.ofInt q.bits j).toNat
  | _ => q.wrap (BitVec.ofInt q.bits i &&& ~~~ BitVec.ofInt q.bits j).toNat
theorem Val.and {T U : Nat} {x y : Operand} {q : IntKind} {i j : Int} (hx : ev e x = some (.int q i)) (hy : ev e y = some (.int q j)) :
    Val P n w0 own e hs (.binOp .and T x y U) (.int q (bop .and q i j)) :=
  fun a w ty pos aft g d hr hs => by simp [execOp, hr.eval hx, hr.eval hy, eqGuard, binOp, Op.intBits, bop]
theorem Val.or {T U : Nat} {x y : Operand} {q : IntKind} {i j : Int} (hx : ev e x = some (.int q i)) (hy : ev e y = some (.int q j)) :
    Val P n w0 own e hs (.binOp .or T x y U) (.int q (bop .or q i j)) :=
  fun a w ty pos aft g d hr hs => by simp [execOp, hr.eval hx, hr.eval hy, eqGuard, binOp, Op.intBits, bop]
theorem Val.xor {T U : Nat} {x y : Operand} {q : IntKind} {i j : Int} (hx : ev e x = some (.int q i)) (hy : ev e y = some (.int q j)) :
    Val P n w0 own e hs (.binOp .xor T x y U) (.int q (bop .xor q i j)) :=
  fun a w ty pos aft g d hr hs => by simp [execOp, hr.eval hx, hr.eval hy, eqGuard, binOp, Op.intBits, bop]
theorem Val.not_bits {T : Nat} {x : Operand} {q : IntKind} {i : Int} (hx : ev e x = some (.int q i)) :
    Val P n w0 own e hs (.unOp .xor T x) (.int q (bop .xor q (if q.signed then -1 else q.max) i)) :=
  fun a w ty pos aft g d hr hs => by simp [execOp, hr.eval hx, Op.unary, Op.intBits, bop]
theorem Val.neg {T : Nat} {x : Operand} {q : IntKind} {i : Int} (hx : ev e x = some (.int q i)) :
    Val P n w0 own e hs (.unOp .neg T x) (.int q (q.wrap (0 - i))) :=
  fun a w ty pos aft g d hr hs => by simp [execOp, hr.eval hx, Op.unary, Op.intArith]
theorem Val.not {T : Nat} {x : Operand} {b : Bool} (hx : ev e x = some (.bool b)) :
    Val P n w0 own e hs (.unOp .not T x) (.bool (!b)) :=
  fun a w ty pos aft g d hr hs => by simp [execOp, hr.eval hx, Op.unary]
theorem Val.shr {T U : Nat} {x y : Operand} {q r : IntKind} {i j : Int} (hx : ev e x = some (.int q i)) (hy : ev e y = some (.int r j)) (h0 : 0 ≤ j) :
    Val P n w0 own e hs (.binOp .shr T x y U) (.int q (i.fdiv (2 ^ min j.toNat q.bits))) :=
  fun a w ty pos aft g d hr hs => by simp [execOp, hr.eval hx, hr.eval hy, eqGuard, binOp, Op.shift, Int.not_lt.2 h0]
theorem Val.shl {T U : Nat} {x y : Operand} {q r : IntKind} {i j : Int} (hx : ev e x = some (.int q i)) (hy : ev e y = some (.int r j)) (h0 : 0 ≤ j) :
    Val P n w0 own e hs (.binOp .shl T x y U) (.int q (q.wrap (i * 2 ^ min j.toNat q.bits))) :=
  fun a w ty pos aft g d hr hs => by simp [execOp, hr.eval hx, hr.eval hy, eqGuard, binOp, Op.shift, Int.not_lt.2 h0]
theorem Val.lss {T U : Nat} {x y : Operand} {q : IntKind} {i j : Int} (hx : ev e x = some (.int q i)) (hy : ev e y = some (.int q j)) :
    Val P n w0 own e hs (.binOp .lss T x y U) (.bool (decide (i < j))) :=
  fun a w ty pos aft g d hr hs => by simp [execOp, hr.eval hx, hr.eval hy, eqGuard, binOp, Op.intCmp]
theorem Val.leq {T U : Nat} {x y : Operand} {q : IntKind} {i j : Int} (hx : ev e x = some (.int q i)) (hy : ev e y = some (.int q j)) :
    Val P n w0 own e hs (.binOp .leq T x y U) (.bool (decide (i ≤ j))) :=
  fun a w ty pos aft g d hr hs => by simp [execOp, hr.eval hx, hr.eval hy, eqGuard, binOp, Op.intCmp]
theorem Val.gtr {T U : Nat} {x y : Operand} {q : IntKind} {i j : Int} (hx : ev e x = some (.int q i)) (hy : ev e y = some (.int q j)) :
    Val P n w0 own e hs (.binOp .gtr T x y U) (.bool (decide (j < i))) :=
  fun a w ty pos aft g d hr hs => by simp [execOp, hr.eval hx, hr.eval hy, eqGuard, binOp, Op.intCmp]
theorem Val.geq {T U : Nat} {x y : Operand} {q : IntKind} {i j : Int} (hx : ev e x = some (.int q i)) (hy : ev e y = some (.int q j)) :
    Val P n w0 own e hs (.binOp .geq T x y U) (.bool (decide (j ≤ i))) :=
  fun a w ty pos aft g d hr hs => by simp [execOp, hr.eval hx, hr.eval hy, eqGuard, binOp, Op.intCmp]
theorem beq_dec (i j : Int) : (i == j) = decide (i = j) := by
  by_cases h : i = j <;> simp [h]
theorem Val.eqi {T U : Nat} {x y : Operand} {q : IntKind} {i j : Int} (hx : ev e x = some (.int q i)) (hy : ev e y = some (.int q j)) :
    Val P n w0 own e hs (.binOp .eql T x y U) (.bool (decide (i = j))) :=
  fun a w ty pos aft g d hr hs => by simp [execOp, hr.eval hx, hr.eval hy, eqGuard, binOp, Op.intCmp, beq_dec]
theorem Val.nei {T U : Nat} {x y : Operand} {q : IntKind} {i j : Int} (hx : ev e x = some (.int q i)) (hy : ev e y = some (.int q j)) :
    Val P n w0 own e hs (.binOp .neq T x y U) (.bool (decide (i ≠ j))) :=
  fun a w ty pos aft g d hr hs => by simp [execOp, hr.eval hx, hr.eval hy, eqGuard, binOp, Op.intCmp, bne, beq_dec]
theorem Val.conv {T U : Nat} {x : Operand} {q r : IntKind} {i : Int} (hx : ev e x = some (.int q i)) [hT : IntT P T q] [hU : IntT P U r] :
    Val P n w0 own e hs (.convert T U x) (.int r (r.wrap i)) :=
  fun a w ty pos aft g d hr hs => by
    have h1 := hT.out; have h2 := hU.out
    simp only [execOp, hr.eval hx, convert]; simp [h1, h2, run_underlying, Conv.intToInt]
end
end V
end Go
