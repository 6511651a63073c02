/- Texts that the row RRiskLimits stands on: VZ, VZD, VZE, VZS, RKKeys, RKStand, S64Ins, S64Heap, S64Piv, S64Cho, S64Part, S64Pis, S64Pdq. -/
import Derived.Test.YtfajjkolhajldaaYRiskLimitsB
import Derived.RangeFuncRecord
import Derived.RangeFuncCalls
import Derived.Test.YtfajjkolhajldaaYRiskLimitsC
import Derived.OrdersIn
import Derived.Test.YtfajjkolhajldaaYRiskLimitsA
/- VZ: functions that range over a function, and iterators that call 'yield': the rules of control inside a fence that lets all pass, in a round and outside. -/
namespace Go
namespace V
open Go.RowKit
set_option linter.unusedVariables false
set_option linter.unusedSimpArgs false

abbrev Rnd : Option Nat → Fence
  | none => Fence.wide
  | some l => Fence.wide.inRound l
theorem Rnd.fn (ro : Option Nat) (f : FuncId) : (Rnd ro).fn f := by cases ro <;> exact trivial
theorem Rnd.depth_ (ro : Option Nat) : (Rnd ro).depth = none := by cases ro <;> rfl
theorem Rnd.round_ (ro : Option Nat) : (Rnd ro).round = ro := by cases ro <;> rfl
theorem calls_rnd {P : Program} {f : FuncId} {args : Array Value} {w : World} {R : Ending → World → Prop} (ro : Option Nat) (n : Nat) (h : Calls P f args w R) : CallsIn (Rnd ro) n P f args w R := by
  cases ro with
  | none => exact callsIn_wide.2 h
  | some l => exact CallsIn.inRound l (callsIn_wide.2 h)
theorem rows_rnd {P : Program} {row : String} {args : Array Value} {w : World} {R : Value → World → Prop} (ro : Option Nat) (n : Nat) (h : Rows P row args w R) : RowsIn (Rnd ro) n P row args w R := by
  intro c cs _
  obtain ⟨v, w', r, s⟩ := h c cs
  refine ⟨v, w', r, ?_⟩
  cases ro with
  | none => exact stepsIn_wide.2 s
  | some l => exact stepsIn_wide.2 s

def ndOp : Op → Bool
  | .defer _ => false
  | _ => true
theorem ndOp_ne {o : Op} (h : ndOp o = true) : ∀ c, o ≠ .defer c := by
  intro c e; subst e; cases h
theorem semAt_nd {ro : Option Nat} {ρ : Operand → Value} {o : Oper} (h : ndOp o.op = true) : o.semAt ro ρ = execOp ρ o := by
  cases ro with
  | none => rfl
  | some l => exact Oper.semAt_some l ρ o (ndOp_ne h)
def ndB (l : List Oper) : Bool := l.all fun o => ndOp o.op

theorem lift_op {P : Program} {ro : Option Nat} {o : Oper} {a0 : Act} {ds : List Deferred} {w : World} {K K' : Act → World → Prop} {Q Q' : Exit → Act → World → Prop}
    (hd : ndOp o.op = true) (hK : ∀ a' w', K' a' w' → K { a' with defers := a'.defers ++ ds } w') (hQ : ∀ x a w, x ≠ .normal → ¬ Q' x a w)
    (h : o.wp P a0 w K' Q') : o.wpIn (Rnd ro) 0 P { a0 with defers := a0.defers ++ ds } w K Q := by
  unfold Oper.wpIn
  refine ⟨fun f _ => Rnd.fn ro f, ?_⟩
  rw [Rnd.round_, semAt_nd hd]
  have e : Act.eval { a0 with defers := a0.defers ++ ds } = a0.eval := by funext x; cases x <;> rfl
  have pe : ∀ (a1 : Act) (d : Option Tmp) (v : Value), { a1.put d v with defers := (a1.put d v).defers ++ ds } = ({ a1 with defers := a1.defers ++ ds } : Act).put d v := by
    intro a1 d v; cases d <;> rfl
  rw [e]
  unfold Oper.wp at h
  generalize (execOp a0.eval o).run P w = r at h ⊢
  cases r with
  | ok x w' =>
    cases x with
    | value v => have := hK _ _ h; rw [pe] at this; exact this
    | skip => have := hK _ _ h; rw [pe] at this; exact this
    | «defer» d =>
      have := hK _ _ h; rw [pe] at this; exact this
    | enter f args =>
      refine ⟨fun h => (by rw [Rnd.depth_] at h; cases h), (calls_rnd ro _ h).mono ?_⟩
      intro e w'' he
      cases e with
      | returned v => have := hK _ _ he; rw [pe] at this; exact this
      | panicked chain => exact (hQ _ _ _ (by simp) he).elim
      | outgrown => obtain ⟨a1, w1, h1⟩ := he; exact (hQ _ _ _ (by simp) h1).elim
    | row row args =>
      refine ⟨fun h => (by rw [Rnd.depth_] at h; cases h), (rows_rnd ro _ h).mono ?_⟩
      intro v w'' he
      have := hK _ _ he; rw [pe] at this; exact this
    | _ => exact h.elim
  | halt x w' =>
    cases x with
    | panic v => exact (hQ _ _ _ (by simp) h).elim
    | _ => exact h.elim

theorem lift_list {P : Program} {ro : Option Nat} {ops : Array Oper} {ds : List Deferred} {Q Q' : Exit → Act → World → Prop}
    (hQ : ∀ x a w, x ≠ .normal → ¬ Q' x a w) (hN : ∀ a' w', Q' .normal a' w' → Q .normal { a' with defers := a'.defers ++ ds } w') : ∀ (l : List Oper), ndB l = true → ∀ (a0 : Act) (w : World), wpList P ops Q' l a0 w →
    wpListIn (Rnd ro) 0 P ops Q l { a0 with defers := a0.defers ++ ds } w
  | [], _, a0, w, h => hN _ _ h
  | o :: rest, hd, a0, w, h => by
    simp only [ndB, List.all_cons, Bool.and_eq_true] at hd
    unfold wpList at h
    unfold wpListIn
    split at h
    · rename_i hw
      rw [if_pos hw]
      rcases h with h | ⟨_, a1, w1, h⟩
      · exact lift_op hd.1 (fun a' w' h' => lift_list hQ hN rest hd.2 a' w' h') hQ h
      · exact (hQ _ _ _ (by simp) h).elim
    · rename_i hw
      rw [if_neg hw]
      refine ⟨fun f _ => Rnd.fn ro f, ?_⟩
      have := lift_list (ro := ro) hQ hN rest hd.2 _ w h
      have pe : ∀ (a1 : Act) (d : Option Tmp) (v : Value), { a1.put d v with defers := (a1.put d v).defers ++ ds } = ({ a1 with defers := a1.defers ++ ds } : Act).put d v := by
        intro a1 d v; cases d <;> rfl
      rw [pe] at this
      exact this

structure RepD (ds : List Deferred) (n : Nat) (a : Act) (e : Env) : Prop where
  rep : Rep n { a with defers := [] } e
  nd : a.defers = ds
theorem RepD.of {ds : List Deferred} {n : Nat} {a : Act} {e : Env} (h : Rep n a e) : RepD ds n { a with defers := a.defers ++ ds } e :=
  ⟨⟨rfl, h.sz, h.at_⟩, by show a.defers ++ ds = ds; rw [h.nd]; rfl⟩
theorem RepD.act {ds : List Deferred} {n : Nat} {a : Act} {e : Env} (h : RepD ds n a e) : ({ ({ a with defers := [] } : Act) with defers := ([] : List Deferred) ++ ds } : Act) = a := by
  cases a; have := h.nd; simp at this; simp [this]
theorem RepD.eval {ds : List Deferred} {n : Nat} {a : Act} {e : Env} (h : RepD ds n a e) {x : Operand} {v : Value} (hx : ev e x = some v) : a.eval x = v := by
  have := h.rep.eval hx
  rw [← this]; cases x <;> rfl
theorem RepD.sub {ds : List Deferred} {n : Nat} {a : Act} {e e' : Env} (h : RepD ds n a e) (k : Sub e' e) : RepD ds n a e' := ⟨h.rep.sub k, h.nd⟩
theorem RepD.put {ds : List Deferred} {n : Nat} {a : Act} {e : Env} (h : RepD ds n a e) {d : Nat} (hd : d < n) (v : Value) : RepD ds n (a.put (some d) v) ((d, v) :: e) :=
  ⟨h.rep.put hd v, h.nd⟩

abbrev PostD := Exit → List Deferred → Env → Hp → Prop
def liftD (n : Nat) (w0 : World) (own : List Nat) (Q : PostD) : Exit → Act → World → Prop := fun x a w => ∃ ds e hs, RepD ds n a e ∧ Sat w0 own hs w ∧ Q x ds e hs
/-- the code, in a round or outside, with the marks 'ds' among the deferred calls -/
def JF (ro : Option Nat) (P : Program) (n : Nat) (w0 : World) (own : List Nat) (c : Code) (ds : List Deferred) (e : Env) (hs : Hp) (Q : PostD) : Prop :=
  ∀ a w, RepD ds n a e → Sat w0 own hs w → c.wpIn (Rnd ro) 0 P (liftD n w0 own Q) a w
def thenD (K : List Deferred → Env → Hp → Prop) (Q : PostD) : PostD
  | .normal, ds, e, hs => K ds e hs
  | x, ds, e, hs => Q x ds e hs
def blockD (id : Nat) (Q : PostD) : PostD
  | .exit id', ds, e, hs => bif Nat.beq id' id then Q .normal ds e hs else Q (.exit id') ds e hs
  | x, ds, e, hs => Q x ds e hs

section
variable {ro : Option Nat} {P : Program} {n : Nat} {w0 : World} {own : List Nat} {ds : List Deferred} {e : Env} {hs : Hp} {Q : PostD}

theorem JF.mono {c : Code} {Q' : PostD} (h : JF ro P n w0 own c ds e hs Q) (k : ∀ x ds e hs, Q x ds e hs → Q' x ds e hs) : JF ro P n w0 own c ds e hs Q' :=
  fun a w hr hs => wpIn_mono (h a w hr hs) fun x a' w' ⟨ds', e', hs', h1, h2, h3⟩ => ⟨ds', e', hs', h1, h2, k _ _ _ _ h3⟩
theorem JF.sub {c : Code} {e' : Env} (k : Sub e' e) (h : JF ro P n w0 own c ds e' hs Q) : JF ro P n w0 own c ds e hs Q :=
  fun a w hr hs => h a w (hr.sub k) hs
theorem JF.heap {c : Code} {hs' : Hp} (k : ∀ w, Sat w0 own hs w → Sat w0 own hs' w) (h : JF ro P n w0 own c ds e hs' Q) : JF ro P n w0 own c ds e hs Q :=
  fun a w hr hs => h a w hr (k w hs)
theorem JF.keep {c : Code} (pre : Hp) {fr : Hp} [h : TakeI pre hs fr] (k : JF ro P n w0 own c ds e pre Q) : JF ro P n w0 own c ds e hs Q := JF.heap (fun _ s => s.take) k
theorem JF.nd {c : Code} (h : (bl hs).Nodup → JF ro P n w0 own c ds e hs Q) : JF ro P n w0 own c ds e hs Q := fun a w r s => h s.nd a w r s
theorem JF.skip (h : Q .normal ds e hs) : JF ro P n w0 own .skip ds e hs Q := fun a w hr hs => wpIn_skip ⟨ds, e, _, hr, hs, h⟩
theorem JF.exit {id : Nat} (h : Q (.exit id) ds e hs) : JF ro P n w0 own (.exit id) ds e hs Q := fun a w hr hs => wpIn_exit ⟨ds, e, _, hr, hs, h⟩
theorem JF.ret (h : Q .ret ds e hs) : JF ro P n w0 own .ret ds e hs Q := fun a w hr hs => wpIn_ret ⟨ds, e, _, hr, hs, h⟩
theorem JF.seq {x y : Code} (h : JF ro P n w0 own x ds e hs (thenD (fun ds e hs => JF ro P n w0 own y ds e hs Q) Q)) : JF ro P n w0 own (.seq x y) ds e hs Q := by
  intro a w hr hs
  refine wpIn_seq (wpIn_mono (h a w hr hs) ?_)
  rintro x a' w' ⟨ds', e', hs', h1, h2, h3⟩
  cases x with
  | normal => exact h3 a' w' h1 h2
  | _ => exact ⟨ds', e', hs', h1, h2, h3⟩
theorem JF.cond {c : Operand} {x y : Code} {b : Bool} (hc : ev e c = some (.bool b)) (ht : b = true → JF ro P n w0 own x ds e hs Q) (hf : b = false → JF ro P n w0 own y ds e hs Q) :
    JF ro P n w0 own (.cond c x y) ds e hs Q := fun a w hr hs => wpIn_cond_split (hr.eval hc) (fun h => ht h a w hr hs) (fun h => hf h a w hr hs)
theorem JF.cond_dec {c : Operand} {x y : Code} {p : Prop} [Decidable p] (hc : ev e c = some (.bool (decide p))) (ht : p → JF ro P n w0 own x ds e hs Q) (hf : ¬ p → JF ro P n w0 own y ds e hs Q) :
    JF ro P n w0 own (.cond c x y) ds e hs Q := JF.cond hc (fun h => ht (of_decide_eq_true h)) (fun h => hf (of_decide_eq_false h))
theorem JF.block {id : Nat} {c : Code} (h : JF ro P n w0 own c ds e hs (blockD id Q)) : JF ro P n w0 own (.block id c) ds e hs Q := by
  intro a w hr hs
  refine wpIn_block (wpIn_mono (h a w hr hs) ?_)
  rintro x a' w' ⟨ds', e', hs', h1, h2, h3⟩
  cases x with
  | exit id' =>
    simp only [blockD] at h3
    simp only [Exit.inBlock]
    cases hb : Nat.beq id' id with
    | true => rw [hb] at h3; rw [if_pos (Nat.eq_of_beq_eq_true hb)]; exact ⟨ds', e', hs', h1, h2, h3⟩
    | false => rw [hb] at h3; rw [if_neg (Nat.ne_of_beq_eq_false hb)]; exact ⟨ds', e', hs', h1, h2, h3⟩
  | _ => exact ⟨ds', e', hs', h1, h2, h3⟩
theorem JF.loop {X : Type} {c : Code} (I : X → Env) (H : X → Hp) (inv : X → Prop) (μ : X → Nat) (x0 : X) (h0 : inv x0) (hE : Sub (I x0) e) (hH : ∀ w, Sat w0 own hs w → Sat w0 own (H x0) w)
    (round : ∀ x, inv x → JF ro P n w0 own c ds (I x) (H x) (thenD (fun ds' e' hs' => ds' = ds ∧ ∃ x', inv x' ∧ μ x' < μ x ∧ Sub (I x') e' ∧ ∀ w, Sat w0 own hs' w → Sat w0 own (H x') w) Q)) :
    JF ro P n w0 own (.loop c) ds e hs Q := by
  intro a w hr hs
  refine wpIn_loop (fun a w => ∃ m y, inv y ∧ μ y = m ∧ RepD ds n a (I y) ∧ Sat w0 own (H y) w) (fun a w => leastOf (fun m => ∃ y, inv y ∧ μ y = m ∧ RepD ds n a (I y) ∧ Sat w0 own (H y) w)) ⟨_, x0, h0, rfl, hr.sub hE, hH w hs⟩ ?_
  intro a w hI
  obtain ⟨y, hy, hm, hr, hs⟩ := (leastOf_spec hI).1
  rw [← hm]
  refine wpIn_mono (round y hy a w hr hs) ?_
  rintro x a' w' ⟨ds', e', hs', h1, h2, h3⟩
  cases x with
  | normal =>
    obtain ⟨rfl, y', i1, i2, i3, i4⟩ := h3
    have hI' : ∃ m y, inv y ∧ μ y = m ∧ RepD ds' n a' (I y) ∧ Sat w0 own (H y) w' := ⟨_, y', i1, rfl, h1.sub i3, i4 w' h2⟩
    exact ⟨hI', Nat.lt_of_le_of_lt ((leastOf_spec hI').2 _ ⟨y', i1, rfl, h1.sub i3, i4 w' h2⟩) i2⟩
  | _ => exact ⟨ds', e', hs', h1, h2, h3⟩
theorem JF.mid {x y : Code} {X : Type} (env : X → Env) (heap : X → Hp) (I : X → Prop)
    (hx : JF ro P n w0 own x ds e hs (thenD (fun ds' e' hs' => ds' = ds ∧ ∃ z, I z ∧ Sub (env z) e' ∧ ∀ w, Sat w0 own hs' w → Sat w0 own (heap z) w) Q)) (hy : ∀ z, I z → JF ro P n w0 own y ds (env z) (heap z) Q) : JF ro P n w0 own (.seq x y) ds e hs Q := by
  refine .seq (hx.mono ?_)
  intro x ds' e' hs' h
  cases x with
  | normal =>
    obtain ⟨rfl, z, h1, h2, h3⟩ := h
    exact .sub h2 (.heap h3 (hy z h1))
  | _ => exact h

theorem JF.region {id : Nat} {l : List Oper} (h : JL P n w0 own l.toArray l e hs (fun e hs => Q .normal ds e hs)) (hn : ndB l = true := by rfl) : JF ro P n w0 own (.region id l.toArray false) ds e hs Q := by
  intro a w hr s
  refine wpIn_region_lit ?_
  rw [← hr.act]
  refine lift_list (Q' := fun x a' w' => x = .normal ∧ ∃ e' hs', Rep n a' e' ∧ Sat w0 own hs' w' ∧ Q .normal ds e' hs') (fun x a w hx h => hx h.1) ?_ l hn _ w ?_
  · rintro a' w' ⟨_, e', hs', h1, h2, h3⟩
    exact ⟨ds, e', hs', .of h1, h2, h3⟩
  · exact h _ w hr.rep s _ fun e' hs' a' w' h1 h2 h3 => ⟨rfl, e', hs', h1, h2, h3⟩

/-- operations, one of which may be a call of 'yield' -/
def JFL (ro : Option Nat) (P : Program) (n : Nat) (w0 : World) (own : List Nat) (ops : Array Oper) (l : List Oper) (ds : List Deferred) (e : Env) (hs : Hp) (K : Env → Hp → Prop) : Prop :=
  ∀ a w, RepD ds n a e → Sat w0 own hs w → ∀ Qx : Exit → Act → World → Prop, (∀ e' hs' a' w', RepD ds n a' e' → Sat w0 own hs' w' → K e' hs' → Qx .normal a' w') → wpListIn (Rnd ro) 0 P ops Qx l a w
variable {ops : Array Oper} {rest : List Oper} {K : Env → Hp → Prop} {d : Nat} {ty : TypeId} {pos : String} {aft : Array Edge}
theorem JFL.nil (h : K e hs) : JFL ro P n w0 own ops [] ds e hs K := fun a w hr hs Q hq => hq _ _ _ _ hr hs h
theorem JF.regionY {id : Nat} {l : List Oper} (h : JFL ro P n w0 own l.toArray l ds e hs (fun e hs => Q .normal ds e hs)) : JF ro P n w0 own (.region id l.toArray false) ds e hs Q :=
  fun a w hr s => wpIn_region_lit (h a w hr s _ fun e' hs' a' w' r s k => ⟨ds, e', hs', r, s, k⟩)
theorem JFL.v {op : Op} {v : Value} (h : Val P n w0 own e hs op v) (k : JFL ro P n w0 own ops rest ds ((d, v) :: e) hs K) (hdn : Nat.blt d n = true := by rfl) (hnd : ndOp op = true := by rfl) :
    JFL ro P n w0 own ops (⟨some d, op, ty, pos, aft, none⟩ :: rest) ds e hs K := by
  intro a w hr s Q hq
  unfold wpListIn
  rw [if_pos (by rfl)]
  refine ⟨fun f _ => Rnd.fn ro f, ?_⟩
  rw [Rnd.round_, semAt_nd hnd]
  have e1 : a.eval = Act.eval { a with defers := [] } := by funext x; cases x <;> rfl
  rw [e1, h _ w ty pos aft none (some d) hr.rep s, Oper.uponIn_value]
  exact k _ _ (hr.put (Nat.le_of_ble_eq_true hdn) v) s Q hq
/-- WHAT A CALL OF 'yield' DOES. -/
def DoesY (P : Program) (l : Nat) (vals : List Value) (pre : Hp) (w : World) (R : Value → Hp → Prop) : Prop :=
  Holds pre w → (bl pre).Nodup → ∃ fn tmps assign body, (Instr.yield l ⟨vals⟩).run P w = .ok (.round l fn tmps assign body) w ∧
    RoundIn Fence.wide 0 P l fn tmps assign body w (fun x w' => ∃ v hs', x = .returned v ∧ R v hs' ∧ Sat w (bl pre) hs' w')
theorem JFL.yield {l : Nat} {f : Operand} {args : List Operand} {at_ : Array TypeId} {vals : List Value} {pre fr : Hp} {R : Value → Hp → Prop} (hf : ev e f = some (.func (.yield l) #[] #[])) (ha : evs e args = some vals)
    (tk : hs.Perm (pre ++ fr)) (hy : ∀ w, Sat w0 own hs w → DoesY P l vals pre w R) (k : ∀ v hs', R v hs' → JFL ro P n w0 own ops rest ds ((d, v) :: e) (hs' ++ fr) K) (hdn : Nat.blt d n = true := by rfl) :
    JFL ro P n w0 own ops (⟨some d, .call { callee := .value f, args := ⟨args⟩, argTypes := at_ }, ty, pos, aft, none⟩ :: rest) ds e hs K := by
  intro a w hr s Q hq
  unfold wpListIn
  rw [if_pos (by rfl)]
  refine ⟨fun f _ => Rnd.fn ro f, ?_⟩
  rw [Rnd.round_, semAt_nd (by rfl)]
  have e1 : a.eval = Act.eval { a with defers := [] } := by funext x; cases x <;> rfl
  have s' := s.perm tk
  obtain ⟨fn, tmps, assign, body, h1, h2⟩ := hy w s (fun b c hb => s'.has b c (List.mem_append.2 (.inl hb))) (by have := s'.nd; simp only [bl, List.map_append, List.nodup_append] at this; exact this.1)
  have hrun : (execOp a.eval ⟨some d, .call { callee := .value f, args := ⟨args⟩, argTypes := at_ }, ty, pos, aft, none⟩).run P w = .ok (.round l fn tmps assign body) w := by
    have hargs : (⟨args⟩ : Array Operand).map a.eval = ⟨vals⟩ := by
      have := hr.rep.evals ha
      rw [e1]
      simp [this]
    have hfv : a.eval f = .func (.yield l) #[] #[] := hr.eval hf
    simp [execOp, resolve, hfv, Deferred.ofValue, hargs, invoke, h1]
  rw [hrun, Oper.uponIn_round]
  refine ⟨fun h => (by rw [Rnd.depth_] at h; cases h), ?_⟩
  have h2' : RoundIn (Rnd ro) (0 - 1) P l fn tmps assign body w (fun x w' => ∃ v hs', x = .returned v ∧ R v hs' ∧ Sat w (bl pre) hs' w') := by
    cases ro with
    | none => exact h2
    | some l' => exact h2
  refine h2'.mono ?_
  rintro x w' ⟨v, hs', rfl, h3, h4⟩
  exact k v hs' h3 _ _ (hr.put (Nat.le_of_ble_eq_true hdn) v) (s'.call h4) Q hq
end

/-! ### the loop -/
abbrev dfr : Ch := .obj (.deferred (some []))
abbrev mark (D : Nat) : Deferred := { target := .collected D, args := #[] }
def bindE (ps : List Nat) (vs : List Value) (e : Env) : Env := (ps.zip vs).foldl (fun e (p, v) => (p, v) :: e) e
theorem rep_bind {n : Nat} : ∀ (pv : List (Nat × Value)) (t : Array Value) (e : Env), (∀ p ∈ pv, p.1 < n) → Rep n ⟨t, []⟩ e → Rep n ⟨pv.foldl (fun t (p, v) => t.setIfInBounds p v) t, []⟩ (pv.foldl (fun e (p, v) => (p, v) :: e) e)
  | [], t, e, _, h => h
  | (p, v) :: pv, t, e, hp, h => rep_bind pv _ _ (fun q hq => hp q (List.mem_cons_of_mem _ hq)) (h.put (hp (p, v) List.mem_cons_self) v)

/-- AN ITERATOR: a call with 'yield' hands over 'xs' one by one: 'J i' when i have been taken; 'Jx' when a round has said 'no more'. -/
def Its (P : Program) (g : Nat) (cap : List Value) (xs : List (List Value)) (w : World) (pre : Hp) : Prop :=
  ∀ (l : Nat) (J : Nat → Hp → Prop) (Jx : Hp → Prop), J 0 pre →
    (∀ i, (hi : i < xs.length) → ∀ W p, J i p → Sat w (bl pre) p W → DoesY P l xs[i] p W (fun v h => (v = .bool true ∧ J (i + 1) h) ∨ (v = .bool false ∧ Jx h))) →
    Does P g (.func (.yield l) #[] #[] :: cap) pre w (fun _ h => J xs.length h ∨ Jx h)

def bodyD (P : Program) (n : Nat) (W : World) (own : List Nat) (l D : Nat) (rc : Ch) (I : Hp → Prop) (Ix : Code → Hp → Prop) : PostD
  | .normal, _, _, h => ∃ h', (∀ w, Sat W own h w → Sat W own ((l, rc) :: (D, dfr) :: h') w) ∧ I h'
  | .ret, _, _, h => ∃ h', (∀ w, Sat W own h w → Sat W own ((l, rc) :: (D, dfr) :: h') w) ∧ Ix .ret h'
  | .exit id, _, _, h => ∃ h', (∀ w, Sat W own h w → Sat W own ((l, rc) :: (D, dfr) :: h') w) ∧ Ix (.exit id) h'
  | _, _, _, _ => False
def asgD (P : Program) (n : Nat) (W : World) (own : List Nat) (l D : Nat) (rc rc' : Ch) (body : Code) (I : Hp → Prop) (Ix : Code → Hp → Prop) : PostD := fun x ds e h =>
  x = .normal ∧ ds = [] ∧ ∃ h', (∀ w, Sat W own h w → Sat W own ((l, rc) :: (D, dfr) :: h') w) ∧ JF (some l) P n W own body [] e ((l, rc') :: (D, dfr) :: h') (bodyD P n W own l D rc' I Ix)

theorem Sat.putObj {w0 w : World} {own : List Nat} {hs hs' : Hp} {b : Nat} {o : Obj} (s : Sat w0 own hs w) (u : Upd b (.obj o) hs hs') : Sat w0 own hs' (w.putObj b o) := by
  have hlt : b < w.heap.size := s.has.lt u.mem
  exact s.upd u (by simp) (fun i hi => World.putObj_heap_other hi) (World.putObj_heap_same hlt) rfl rfl rfl

theorem JF.rangeFunc {P : Program} {n : Nat} {w0 : World} {own : List Nat} {ds : List Deferred} {e : Env} {hs : Hp} {Q : PostD} {g : Nat} {f : Operand} {cap : List Value} {ps : List Nat} {assign body : Code}
    (xs : List (List Value)) (I : Nat → Hp → Prop) (Ix : Code → Hp → Prop) (hf : ev e f = some (.func (.func g) #[] ⟨cap⟩)) [hg : FnT P g] (h0 : I 0 hs) (hps : (ps.all fun p => Nat.blt p n) = true) (hxl : ∀ x ∈ xs, x.length = ps.length)
    (it : ∀ p q w, Sat w0 own (p :: q :: hs) w → Its P g cap xs w (p :: q :: hs))
    (round : ∀ l D i, (hi : i < xs.length) → ∀ h W rc rc', I i h → Sat w0 own ((l, rc) :: (D, dfr) :: h) W →
      JF (some l) P n W (bl ((l, rc) :: (D, dfr) :: h)) assign [] (bindE ps xs[i] e) ((l, rc) :: (D, dfr) :: h) (asgD P n W (bl ((l, rc) :: (D, dfr) :: h)) l D rc rc' body (I (i + 1)) Ix))
    (done : ∀ D h, I xs.length h → Q .normal (mark D :: ds) e ((D, dfr) :: h))
    (stop : ∀ D c h, Ix c h → JF none P n w0 own c (mark D :: ds) e ((D, dfr) :: h) Q) :
    JF none P n w0 own (.rangeFunc f ⟨ps⟩ assign body) ds e hs Q := by
  intro a w hr s
  refine wpIn_rangeFunc ?_
  intro fn hfn
  obtain ⟨gf, hg1, hg2, hg3⟩ := hg.out
  obtain ⟨rec, hrec⟩ : ∃ rec : LoopState → Option Code → Loop, rec = fun st pe => { state := st, pending := pe, fn, tmps := a.tmps, params := ⟨ps⟩, assign, body, defers := w.heap.size } := ⟨_, rfl⟩
  have s1 : Sat w0 own ((w.heap.size + 1, .obj (.loop (rec .ready none))) :: (w.heap.size, dfr) :: hs) ((w.alloc (.deferred (some []))).alloc (.loop (rec .ready none))) := by
    have h1 := s.new dfr
    have h2 := h1.new (.obj (.loop (rec .ready none)))
    have e1 : (w.alloc dfr.toObj).heap.size = w.heap.size + 1 := World.size_alloc w _
    rw [e1] at h2
    exact h2
  refine ⟨w.heap.size + 1, [mark w.heap.size], (w.alloc (.deferred (some []))).alloc (.loop (rec .ready none)), { target := .fn (.func g) ⟨cap⟩, args := #[.func (.yield (w.heap.size + 1)) #[] #[]] }, (w.alloc (.deferred (some []))).alloc (.loop (rec .ready none)), g, #[.func (.yield (w.heap.size + 1)) #[] #[]] ++ ⟨cap⟩, (w.alloc (.deferred (some []))).alloc (.loop (rec .ready none)), ?_, ?_, fun _ _ => trivial, ?_, (fun h => by cases h), ?_⟩
  · rw [show (Rnd none).round = none from rfl, run_enterLoop_outer]
    rw [hrec]
  · simp only [resolve, hr.eval hf]
    simp [Deferred.ofValue, Act.eval]
  · have h2' : ¬ gf.name = "runtime.NumGoroutine" := by simpa using hg2
    have h3' : ¬ gf.body = none := by intro hh; rw [hh] at hg3; cases hg3
    simp [invoke, callFunc, hg1, h2', h3']
  · refine (calls_rnd none _ ?_)
    have hits := it _ _ _ s1 (w.heap.size + 1)
      (fun i p => ∃ h, p = (w.heap.size + 1, Ch.obj (.loop (rec .ready none))) :: (w.heap.size, dfr) :: h ∧ I i h)
      (fun p => ∃ c h, p = (w.heap.size + 1, Ch.obj (.loop (rec .done (some c)))) :: (w.heap.size, dfr) :: h ∧ Ix c h)
      ⟨hs, rfl, h0⟩ ?_
    · have hc := hits s1.has s1.nd
      have ea : (#[Value.func (.yield (w.heap.size + 1)) #[] #[]] ++ ⟨cap⟩ : Array Value) = ⟨.func (.yield (w.heap.size + 1)) #[] #[] :: cap⟩ := by apply Array.ext'; simp
      rw [ea]
      refine Calls.mono hc ?_
      rintro x w' ⟨v, hs', rfl, h1, h2⟩
      have s2 : Sat w0 own hs' w' := by
        have := Sat.call (pre := _) (fr := []) (by simpa using s1) h2
        simpa using this
      rcases h1 with ⟨h, rfl, hI⟩ | ⟨c, h, rfl, hI⟩
      · have hl := s2.has _ _ (List.mem_cons_self)
        have h9 := run_endLoop (P := P) hl (by rw [hrec]; simp)
        have e9 : (rec .ready none).pending = none := by rw [hrec]
        rw [e9] at h9
        refine ⟨none, _, h9, mark w.heap.size :: ds, e, (w.heap.size, dfr) :: h, ⟨⟨rfl, hr.rep.sz, hr.rep.at_⟩, ?_⟩, ?_, done _ _ hI⟩
        · show [mark w.heap.size] ++ a.defers = _
          rw [hr.nd]; rfl
        · exact (s2.putObj (.head)).sub (List.sublist_cons_self _ _)
      · have hl := s2.has _ _ (List.mem_cons_self)
        have h9 := run_endLoop (P := P) hl (by rw [hrec]; simp)
        have e9 : (rec .done (some c)).pending = some c := by rw [hrec]
        rw [e9] at h9
        refine ⟨some c, _, h9, ?_⟩
        refine stop w.heap.size c h hI _ _ ⟨⟨rfl, hr.rep.sz, hr.rep.at_⟩, ?_⟩ ((s2.putObj (.head)).sub (List.sublist_cons_self _ _))
        show [mark w.heap.size] ++ a.defers = _
        rw [hr.nd]; rfl
    · rintro i hi W p ⟨h, rfl, hI⟩ sW hp hnd
      have sW0 : Sat w0 own ((w.heap.size + 1, Ch.obj (.loop (rec .ready none))) :: (w.heap.size, dfr) :: h) W := by
        have := Sat.call (pre := _) (fr := []) (by simpa using s1) sW
        simpa using this
      have hl := hp _ _ (List.mem_cons_self)
      have hyl := run_yield (P := P) (args := ⟨xs[i]⟩) hl (by rw [hrec]; simpa using hxl _ (List.getElem_mem hi))
      rw [hrec] at hyl
      refine ⟨_, _, _, _, hyl, roundIn_of_wpIn trivial ?_⟩
      have sB : Sat W (bl ((w.heap.size + 1, Ch.obj (.loop (rec .ready none))) :: (w.heap.size, dfr) :: h)) _ W := Sat.begin hp hnd
      have hrnd := round (w.heap.size + 1) w.heap.size i hi h W _ (.obj (.loop (rec .busy none))) hI sW0 ⟨((ps.zip xs[i]).foldl (fun t (p, v) => t.setIfInBounds p v) a.tmps), []⟩ W
        ⟨rep_bind _ _ _ (fun q hq => by
          have := List.all_eq_true.1 hps q.1 (List.of_mem_zip hq).1
          exact Nat.le_of_ble_eq_true this) hr.rep, rfl⟩ sB
      have et : ((⟨ps⟩ : Array Nat).zip ⟨xs[i]⟩).foldl (fun tmps (x : Nat × Value) => tmps.setIfInBounds x.1 x.2) a.tmps = (ps.zip xs[i]).foldl (fun t (x : Nat × Value) => t.setIfInBounds x.1 x.2) a.tmps := by
        simp
      refine wpIn_mono (by simpa [et] using hrnd) ?_
      rintro x a1 w1 ⟨ds1, e1, h1, r1, q1, rfl, rfl, h2, k1, k2⟩
      have q2 := k1 w1 q1
      have hl2 := q2.has _ _ (List.mem_cons_self)
      refine ⟨_, run_beginRound hl2 (by rw [hrec]), ?_⟩
      have q3 := q2.putObj (o := .loop (rec .busy none)) (.head)
      refine wpIn_mono (k2 a1 _ r1 (by rw [hrec] at q3 ⊢; exact q3)) ?_
      have fin : ∀ (jump : Option Code) (W3 : World) (h' : Hp), Sat W (bl ((w.heap.size + 1, Ch.obj (.loop (rec .ready none))) :: (w.heap.size, dfr) :: h)) ((w.heap.size + 1, .obj (.loop (rec .busy none))) :: (w.heap.size, dfr) :: h') W3 →
          (Instr.endRound (w.heap.size + 1) jump).run P W3 = .ok (.bool jump.isNone) (W3.putObj (w.heap.size + 1) (.loop (rec (if jump.isNone then .ready else .done) jump))) ∧
          Sat W (bl ((w.heap.size + 1, Ch.obj (.loop (rec .ready none))) :: (w.heap.size, dfr) :: h)) ((w.heap.size + 1, .obj (.loop (rec (if jump.isNone then .ready else .done) jump))) :: (w.heap.size, dfr) :: h') (W3.putObj (w.heap.size + 1) (.loop (rec (if jump.isNone then .ready else .done) jump))) := by
        intro jump W3 h' q
        have hl3 := q.has _ _ (List.mem_cons_self)
        have := run_endRound (P := P) jump hl3
        refine ⟨by rw [hrec] at this ⊢; exact this, q.putObj (.head)⟩
      rintro x a3 w3 ⟨ds3, e3, h3, r3, q4, hb⟩
      cases x with
      | normal =>
        obtain ⟨h', t1, t2⟩ := hb
        obtain ⟨u1, u2⟩ := fin none w3 h' (t1 w3 q4)
        exact ⟨_, _, u1, _, _, rfl, .inl ⟨rfl, h', rfl, t2⟩, u2⟩
      | ret =>
        obtain ⟨h', t1, t2⟩ := hb
        obtain ⟨u1, u2⟩ := fin (some .ret) w3 h' (t1 w3 q4)
        exact ⟨_, _, u1, _, _, rfl, .inr ⟨rfl, .ret, h', rfl, t2⟩, u2⟩
      | exit id =>
        obtain ⟨h', t1, t2⟩ := hb
        obtain ⟨u1, u2⟩ := fin (some (.exit id)) w3 h' (t1 w3 q4)
        exact ⟨_, _, u1, _, _, rfl, .inr ⟨rfl, .exit id, h', rfl, t2⟩, u2⟩
      | _ => exact hb.elim

/-! ### the function -/
def retD (P : Program) (w0 : World) (own : List Nat) (rs : List ResultVar) (R : Value → Hp → Prop) : PostD := fun x ds e hs =>
  (x = .normal ∨ x = .ret) ∧ ∃ (Ds : List Nat) (hs' : Hp) (vs : List Value), ds = Ds.map mark ∧ (∀ w, Sat w0 own hs w → Sat w0 own ((Ds.map fun D => (D, dfr)) ++ hs') w) ∧ ResV P w0 own e hs' rs vs ∧ R (tup vs) hs'
theorem leaves_marks {P : Program} {w0 : World} {own : List Nat} {fn : Func} {tmps : Array Value} {R : Ending → World → Prop} {hs' : Hp} (h : ∀ w, Sat w0 own hs' w → ∃ v, (results fn tmps).run P w = .ok v w ∧ R (.returned v) w) :
    ∀ (Ds : List Nat) (w : World), Sat w0 own ((Ds.map fun D => (D, dfr)) ++ hs') w → LeavesInM Fence.wide 0 P fn tmps R (Ds.map mark) .returning w
  | [], w, s => by simpa [LeavesInM, LeavesIn] using h w s
  | D :: Ds, w, s => by
    refine ⟨by simp, .inl ⟨D, _, rfl, run_takeDeferred (s.has D dfr (by simp)), ?_⟩⟩
    exact leaves_marks h Ds _ ((s.putObj (b := D) (o := .deferred none) (.head)).sub (List.sublist_cons_self _ _))
theorem Does.ofF {P : Program} {n : Nat} {g : Nat} {fn : Func} {c : Code} {rs : List ResultVar} {vals : List Value} {pre : Hp} {w : World} {R : Value → Hp → Prop} (hf : P.funcs[g]? = some fn) (hb : fn.body = some c) (hrs : fn.results = ⟨rs⟩)
    (hn : fn.ntmps = n) (hv : Nat.ble vals.length n = true) (h : JF none P n w (bl pre) c [] (envFrom 0 vals) pre (retD P w (bl pre) rs R)) : Does P g vals pre w R := by
  intro hp hd
  have hv := Nat.le_of_ble_eq_true hv
  refine callsIn_wide.1 (callsIn_of_wp_marks (F := Fence.wide) (n := 0) hf hb trivial (wpIn_mono (h _ w ?_ (Sat.begin hp hd)) ?_))
  · refine ⟨⟨rfl, by simp [hn]; omega, fun t v ht => ?_⟩, rfl⟩
    obtain ⟨j, h1, h2⟩ := get_envFrom vals 0 t v ht
    have hj := (List.getElem?_eq_some_iff.1 h2).1
    have : t = j := by omega
    subst this
    show (_ ++ _ : Array Value)[t]? = _
    rw [Array.getElem?_append_left (by simpa using hj)]
    simpa using h2
  · rintro x a w' ⟨ds, e', hs', h1, h2, h3, Ds, hs2, vs, rfl, h4, h5, h6⟩
    have hx : LeavesInM Fence.wide 0 P fn a.tmps (fun x w' => ∃ v hs', x = .returned v ∧ R v hs' ∧ Sat w (bl pre) hs' w') a.defers .returning w' := by
      rw [h1.nd]
      refine leaves_marks (hs' := hs2) (fun w2 s2 => ?_) Ds w' (h4 w' h2)
      have := retQ.results (fn := fn) hrs h1.rep s2 h5
      exact ⟨_, this, _, hs2, rfl, h6, s2⟩
    rcases h3 with rfl | rfl <;> exact hx
end V
end Go

/- VZD: regions that draw their order, in functions that range over a function. -/
namespace Go
namespace V
open Go.RowKit
set_option linter.unusedVariables false
set_option linter.unusedSimpArgs false

theorem lift_ops {P : Program} {ro : Option Nat} {ops : Array Oper} {ds : List Deferred} {Q Q' : Exit → Act → World → Prop}
    (hQ : ∀ x a w, x ≠ .normal → ¬ Q' x a w) (hN : ∀ a' w', Q' .normal a' w' → Q .normal { a' with defers := a'.defers ++ ds } w') (hnd : ∀ (i : Nat) (o : Oper), ops[i]? = some o → ndOp o.op = true) : ∀ (l : List Nat) (a0 : Act) (w : World), wpOps P ops Q' l a0 w →
    wpOpsIn (Rnd ro) 0 P ops Q l { a0 with defers := a0.defers ++ ds } w
  | [], a0, w, h => hN _ _ h
  | i :: rest, a0, w, h => by
    unfold wpOps at h
    unfold wpOpsIn
    cases ho : ops[i]? with
    | none => rw [ho] at h; exact lift_ops hQ hN hnd rest a0 w h
    | some o =>
      rw [ho] at h
      simp only at h ⊢
      split at h
      · rename_i hw
        rw [if_pos hw]
        rcases h with h | ⟨_, a1, w1, h⟩
        · exact lift_op (hnd i o ho) (fun a' w' h' => lift_ops hQ hN hnd rest a' w' h') hQ h
        · exact (hQ _ _ _ (by simp) h).elim
      · rename_i hw
        rw [if_neg hw]
        refine ⟨fun f _ => Rnd.fn ro f, ?_⟩
        have := lift_ops (ro := ro) hQ hN hnd rest _ w h
        have pe : ∀ (a1 : Act) (d : Option Tmp) (v : Value), { a1.put d v with defers := (a1.put d v).defers ++ ds } = ({ a1 with defers := a1.defers ++ ds } : Act).put d v := by
          intro a1 d v; cases d <;> rfl
        rw [pe] at this
        exact this
theorem ndB_spec {l : List Oper} (h : ndB l = true) : ∀ (i : Nat) (o : Oper), l.toArray[i]? = some o → ndOp o.op = true := by
  intro i o ho
  have ho : l[i]? = some o := by simpa using ho
  exact List.all_eq_true.1 h o (List.mem_of_getElem? ho)
section
variable {ro : Option Nat} {P : Program} {n : Nat} {w0 : World} {own : List Nat} {ds : List Deferred} {e : Env} {hs : Hp} {Q : PostD} {l : List Oper}
theorem JF.any {id : Nat} (hm : P.follows .mixedOrders = true) (hn : ndB l = true)
    (h : ∀ a w, Rep n a e → Sat w0 own hs w → wpAny P .any l.toArray (QN fun a' w' => ∃ e' hs', Rep n a' e' ∧ Sat w0 own hs' w' ∧ Q .normal ds e' hs') l.toArray.size (Array.replicate l.toArray.size false) a w) : JF ro P n w0 own (.region id l.toArray true) ds e hs Q := by
  intro a w hr s
  refine wpIn_region_draw fun t => ?_
  rw [← hr.act]
  refine lift_ops (Q' := QN fun a' w' => ∃ e' hs', Rep n a' e' ∧ Sat w0 own hs' w' ∧ Q .normal ds e' hs') (fun x a w hx h => ?_) ?_ (ndB_spec hn) _ _ _ ?_
  · cases x with
    | normal => exact hx rfl
    | _ => exact h
  · rintro a' w' ⟨e', hs', h1, h2, h3⟩
    exact ⟨ds, e', hs', .of h1, h2, h3⟩
  · simp only [Region.schedule, hm, Bool.true_or, if_true]
    exact wpAny_sound l.toArray.size t _ _ _ (h _ _ hr.rep s.drew)
theorem JF.draw {id : Nat} (F : Hp) (hF : F ⊆ hs) (hm : P.follows .mixedOrders = true) (h : JD P n w0 own l.toArray F l.toArray.size (Array.replicate l.toArray.size false) e hs (fun e hs => Q .normal ds e hs)) (hn : ndB l = true := by rfl) : JF ro P n w0 own (.region id l.toArray true) ds e hs Q :=
  JF.any hm hn fun a w hr s => wpAny_of_held _ _ _ _ (h a w hr s hF)
theorem JF.drawZ {id : Nat} (z : Nat) (F : Hp) (hF : F ⊆ hs) (hm : P.follows .mixedOrders = true) (h : JZ P n w0 own l.toArray F z l.toArray.size (Array.replicate l.toArray.size false) e hs (fun e hs => Q .normal ds e hs)) (hn : ndB l = true := by rfl) : JF ro P n w0 own (.region id l.toArray true) ds e hs Q :=
  JF.any hm hn fun a w hr s => Upto.any _ _ _ _ (h a w hr s fun _ => hF)
theorem JF.drawK {id : Nat} (F : Hp) (hF : F ⊆ hs) (hm : P.follows .mixedOrders = true) (hB : (ordB l.toArray l (List.range' 0 l.length) (Array.replicate l.length false) && doneB l.toArray (marks_ (List.range' 0 l.length) (Array.replicate l.length false))) = true)
    (h : JK P n w0 own l.toArray F l e hs (fun e' hs' => Q .normal ds e' hs')) (hn : ndB l = true := by rfl) : JF ro P n w0 own (.region id l.toArray true) ds e hs Q := by
  rw [Bool.and_eq_true] at hB
  refine JF.draw F hF hm ?_ hn
  have := h 0 (List.range' 0 l.length) (Array.replicate l.length false) (fun e hs => Q .normal ds e hs) (Nums.seq l 0 fun j hj => by simp) hB.1 hF (fun e' hs' _ ke => JD.done hB.2 ke)
  simpa using this
theorem JF.drawP {id : Nat} (is : List Nat) (F : Hp) (hF : F ⊆ hs) (hm : P.follows .mixedOrders = true) (hB : (ordB l.toArray (pickL l is) is (Array.replicate l.length false) && doneB l.toArray (marks_ is (Array.replicate l.length false)) && Nat.beq (pickL l is).length l.length && Nat.beq (pickL l is).length is.length) = true)
    (h : JK P n w0 own l.toArray F (pickL l is) e hs (fun e' hs' => Q .normal ds e' hs')) (hn : ndB l = true := by rfl) : JF ro P n w0 own (.region id l.toArray true) ds e hs Q := by
  rw [Bool.and_eq_true, Bool.and_eq_true, Bool.and_eq_true] at hB
  obtain ⟨⟨⟨h1, h2⟩, h3⟩, h4⟩ := hB
  have h3 := Nat.eq_of_beq_eq_true h3
  have h4 := Nat.eq_of_beq_eq_true h4
  refine JF.draw F hF hm ?_ hn
  have := h 0 is (Array.replicate l.length false) (fun e hs => Q .normal ds e hs) (pickL_nums is h1 (by omega)) h1 hF (fun e' hs' _ ke => JD.done h2 ke)
  rw [h3] at this
  simpa using this
theorem JF.drawQ {id : Nat} (z : Nat) (is : List Nat) (F : Hp) (hF : F ⊆ hs) (hm : P.follows .mixedOrders = true)
    (hB : (ordZ l.toArray z (pickL l is) is (Array.replicate l.length false) && doneB l.toArray (marks_ is (Array.replicate l.length false)) && Nat.beq (pickL l is).length l.length && Nat.beq is.length l.length && Nat.blt z l.length) = true)
    (h : JQ P n w0 own l.toArray F z false (pickL l is) e hs (fun _ e' hs' => Q .normal ds e' hs')) (hn : ndB l = true := by rfl) : JF ro P n w0 own (.region id l.toArray true) ds e hs Q := by
  rw [Bool.and_eq_true, Bool.and_eq_true, Bool.and_eq_true, Bool.and_eq_true] at hB
  obtain ⟨⟨⟨⟨h1, h2⟩, h3⟩, h4⟩, h5⟩ := hB
  have h3 := Nat.eq_of_beq_eq_true h3
  have h4 := Nat.eq_of_beq_eq_true h4
  have h5 : z < l.length := Nat.le_of_ble_eq_true h5
  have key : ∀ (is : List Nat), (pickL l is).length = is.length → Nums l.toArray (pickL l is) is := by
    intro is
    induction is with
    | nil => intro _; trivial
    | cons i is ih =>
      intro hl
      unfold pickL at hl ⊢
      cases ho : l[i]? with
      | none => rw [ho] at hl; simp at hl
      | some o =>
        rw [ho] at hl
        simp only at hl ⊢
        exact ⟨by simpa using ho, ih (by simpa using hl)⟩
  refine JF.drawZ z F hF hm ?_ hn
  have := h 0 is (Array.replicate l.length false) (fun e hs => Q .normal ds e hs) (key _ (by omega)) h1 (by simp) (by simp [h5]) (fun _ => hF) (fun _ e' hs' _ _ ke => JZ.done h2 ke)
  rw [h3] at this
  simpa using this
end
end V
end Go

/- VZE: operations of all kinds beside a call of 'yield'; functions held against nil. -/
namespace Go
namespace V
open Go.RowKit
set_option linter.unusedVariables false
set_option linter.unusedSimpArgs false

class FuncTy (P : Program) (T : Nat) : Prop where
  out : ∃ d, P.underlying T = some d ∧ (match d with | .func .. => True | _ => False)
def fnTyB (P : Program) (T : Nat) : Bool := match P.underlying T with
  | some (.func ..) => true
  | _ => false
theorem FuncTy.of {P : Program} {T : Nat} (h : fnTyB P T = true) : FuncTy P T := by
  unfold fnTyB at h
  cases hd : P.underlying T with
  | none => rw [hd] at h; cases h
  | some d =>
    rw [hd] at h
    refine ⟨d, hd, ?_⟩
    cases d <;> first | trivial | cases h
section
variable {ro : Option Nat} {P : Program} {n : Nat} {w0 : World} {own : List Nat} {ds : List Deferred} {e : Env} {hs : Hp} {Q : PostD}
variable {ops : Array Oper} {rest : List Oper} {K : Env → Hp → Prop} {d : Nat} {ty : TypeId} {pos : String} {aft : Array Edge}
theorem Val.eql_func_nil {T U : Nat} {x y : Operand} {f : FuncId} {us vs : Array Value} (hx : ev e x = some (.func (.func f) us vs)) (hy : ev e y = some .nilFunc) [hT : FuncTy P T] :
    Val P n w0 own e hs (.binOp .eql T x y U) (.bool false) := fun _ w ty pos aft g d hr s => by
  obtain ⟨dd, hd, hm⟩ := hT.out
  have h : (Op.equalIn (9999 + 1) T (.func (.func f) us vs) .nilFunc).run P w = .ok false w := by
    cases dd <;> first | exact hm.elim | (rw [Op.equalIn]; simp [run_underlying hd])
  simp only [execOp, hr.eval hx, hr.eval hy, eqGuard, binOp, Op.equal, Op.maxDepth]
  simp [h]
theorem JFL.ef {op : Op} {R : Value → Hp → Prop} (h : Eff P n w0 own e hs op R) (k : ∀ v hs', R v hs' → JFL ro P n w0 own ops rest ds ((d, v) :: e) hs' K) (hdn : Nat.blt d n = true := by rfl) (hnd : ndOp op = true := by rfl) :
    JFL ro P n w0 own ops (⟨some d, op, ty, pos, aft, none⟩ :: rest) ds e hs K := by
  intro a w hr s Q hq
  unfold wpListIn
  rw [if_pos (by rfl)]
  have h1 := h { a with defers := [] } w ty pos aft none (some d) (fun a' w' => ∃ v hs', a' = Act.put { a with defers := [] } (some d) v ∧ R v hs' ∧ Sat w0 own hs' w') (fun _ _ _ => False) hr.rep s (fun v hs' w' r s' => ⟨v, hs', rfl, r, s'⟩)
  have h2 := lift_op (ro := ro) (ds := ds) (K := wpListIn (Rnd ro) 0 P ops Q rest) (Q := Q) hnd ?_ (fun _ _ _ _ h => h) h1
  · rw [hr.act] at h2
    exact h2
  · rintro a' w' ⟨v, hs', rfl, r, s'⟩
    have e1 : ({ (Act.put { a with defers := [] } (some d) v) with defers := (Act.put { a with defers := [] } (some d) v).defers ++ ds } : Act) = a.put (some d) v := by
      have := hr.nd
      cases a
      simp [Act.put] at this ⊢
      exact this.symm
    rw [e1]
    exact k v hs' r _ _ (hr.put (Nat.le_of_ble_eq_true hdn) v) s' Q hq
theorem JFL.pc {g : Nat} {f : Operand} {args : List Operand} {at_ : Array TypeId} {cap vals : List Value} {v : Value}
    (hf : ev e f = some (.func (.func g) #[] ⟨cap⟩)) (ha : evs e args = some vals) (hc : ∀ w, Sat w0 own hs w → Is P g (vals ++ cap) w v) (k : JFL ro P n w0 own ops rest ds ((d, v) :: e) hs K) [hg : FnT P g] (hdn : Nat.blt d n = true := by rfl) :
    JFL ro P n w0 own ops (⟨some d, .call { callee := .value f, args := ⟨args⟩, argTypes := at_ }, ty, pos, aft, none⟩ :: rest) ds e hs K :=
  JFL.ef (.call0 hf ha hc) (fun _ _ ⟨_, ⟨h1, h2⟩, h3⟩ => by subst h1; subst h2; subst h3; exact k) hdn rfl
end
end V
end Go

/- VZS: iterators that may choose the order in which they hand over (ranges over maps): their calls and the loops over them. -/
namespace Go
namespace V
open Go.RowKit
set_option linter.unusedVariables false
set_option linter.unusedSimpArgs false

/-- AN ITERATOR THAT CHOOSES: 'ok' what may have been handed over, 'fin' what has been when it is done; kp: blocks that must stay. -/
def ItsS (P : Program) (g : Nat) (cap : List Value) (kp : Hp) (ok fin : List (List Value) → Prop) (w : World) (pre : Hp) : Prop :=
  ∀ (l : Nat) (J : List (List Value) → Hp → Prop) (Jx : Hp → Prop), J [] pre → (∀ ys p, J ys p → kp ⊆ p) →
    (∀ ys y, ok (ys ++ [y]) → ∀ W p, J ys p → Sat w (bl pre) p W → DoesY P l y p W (fun v h => (v = .bool true ∧ J (ys ++ [y]) h) ∨ (v = .bool false ∧ Jx h))) →
    Does P g (.func (.yield l) #[] #[] :: cap) pre w (fun _ h => (∃ ys, fin ys ∧ J ys h) ∨ Jx h)
theorem JF.rangeFuncS {P : Program} {n : Nat} {w0 : World} {own : List Nat} {ds : List Deferred} {e : Env} {hs : Hp} {Q : PostD} {g : Nat} {f : Operand} {cap : List Value} {ps : List Nat} {assign body : Code}
    (kp : Hp) (ok fin : List (List Value) → Prop) (I : List (List Value) → Hp → Prop) (Ix : Code → Hp → Prop) (hf : ev e f = some (.func (.func g) #[] ⟨cap⟩)) [hg : FnT P g] (h0 : I [] hs) (hkp : ∀ ys h, I ys h → kp ⊆ h) (hps : (ps.all fun p => Nat.blt p n) = true) (hxl : ∀ ys y, ok (ys ++ [y]) → y.length = ps.length)
    (it : ∀ p q w, Sat w0 own (p :: q :: hs) w → ItsS P g cap kp ok fin w (p :: q :: hs))
    (round : ∀ l D ys y, ok (ys ++ [y]) → ∀ h W rc rc', I ys h → Sat w0 own ((l, rc) :: (D, dfr) :: h) W →
      JF (some l) P n W (bl ((l, rc) :: (D, dfr) :: h)) assign [] (bindE ps y e) ((l, rc) :: (D, dfr) :: h) (asgD P n W (bl ((l, rc) :: (D, dfr) :: h)) l D rc rc' body (I (ys ++ [y])) Ix))
    (done : ∀ D ys h, fin ys → I ys h → Q .normal (mark D :: ds) e ((D, dfr) :: h))
    (stop : ∀ D c h, Ix c h → JF none P n w0 own c (mark D :: ds) e ((D, dfr) :: h) Q) :
    JF none P n w0 own (.rangeFunc f ⟨ps⟩ assign body) ds e hs Q := by
  intro a w hr s
  refine wpIn_rangeFunc ?_
  intro fn hfn
  obtain ⟨gf, hg1, hg2, hg3⟩ := hg.out
  obtain ⟨rec, hrec⟩ : ∃ rec : LoopState → Option Code → Loop, rec = fun st pe => { state := st, pending := pe, fn, tmps := a.tmps, params := ⟨ps⟩, assign, body, defers := w.heap.size } := ⟨_, rfl⟩
  have s1 : Sat w0 own ((w.heap.size + 1, .obj (.loop (rec .ready none))) :: (w.heap.size, dfr) :: hs) ((w.alloc (.deferred (some []))).alloc (.loop (rec .ready none))) := by
    have h1 := s.new dfr
    have h2 := h1.new (.obj (.loop (rec .ready none)))
    have e1 : (w.alloc dfr.toObj).heap.size = w.heap.size + 1 := World.size_alloc w _
    rw [e1] at h2
    exact h2
  refine ⟨w.heap.size + 1, [mark w.heap.size], (w.alloc (.deferred (some []))).alloc (.loop (rec .ready none)), { target := .fn (.func g) ⟨cap⟩, args := #[.func (.yield (w.heap.size + 1)) #[] #[]] }, (w.alloc (.deferred (some []))).alloc (.loop (rec .ready none)), g, #[.func (.yield (w.heap.size + 1)) #[] #[]] ++ ⟨cap⟩, (w.alloc (.deferred (some []))).alloc (.loop (rec .ready none)), ?_, ?_, fun _ _ => trivial, ?_, (fun h => by cases h), ?_⟩
  · rw [show (Rnd none).round = none from rfl, run_enterLoop_outer]
    rw [hrec]
  · simp only [resolve, hr.eval hf]
    simp [Deferred.ofValue, Act.eval]
  · have h2' : ¬ gf.name = "runtime.NumGoroutine" := by simpa using hg2
    have h3' : ¬ gf.body = none := by intro hh; rw [hh] at hg3; cases hg3
    simp [invoke, callFunc, hg1, h2', h3']
  · refine (calls_rnd none _ ?_)
    have hits := it _ _ _ s1 (w.heap.size + 1)
      (fun ys p => ∃ h, p = (w.heap.size + 1, Ch.obj (.loop (rec .ready none))) :: (w.heap.size, dfr) :: h ∧ I ys h)
      (fun p => ∃ c h, p = (w.heap.size + 1, Ch.obj (.loop (rec .done (some c)))) :: (w.heap.size, dfr) :: h ∧ Ix c h)
      ⟨hs, rfl, h0⟩ (fun ys p hp => by obtain ⟨h, rfl, hI⟩ := hp; exact fun x hx => List.mem_cons_of_mem _ (List.mem_cons_of_mem _ (hkp ys h hI hx))) ?_
    · have hc := hits s1.has s1.nd
      have ea : (#[Value.func (.yield (w.heap.size + 1)) #[] #[]] ++ ⟨cap⟩ : Array Value) = ⟨.func (.yield (w.heap.size + 1)) #[] #[] :: cap⟩ := by apply Array.ext'; simp
      rw [ea]
      refine Calls.mono hc ?_
      rintro x w' ⟨v, hs', rfl, h1, h2⟩
      have s2 : Sat w0 own hs' w' := by
        have := Sat.call (pre := _) (fr := []) (by simpa using s1) h2
        simpa using this
      rcases h1 with ⟨ys, hfin, h, rfl, hI⟩ | ⟨c, h, rfl, hI⟩
      · have hl := s2.has _ _ (List.mem_cons_self)
        have h9 := run_endLoop (P := P) hl (by rw [hrec]; simp)
        have e9 : (rec .ready none).pending = none := by rw [hrec]
        rw [e9] at h9
        refine ⟨none, _, h9, mark w.heap.size :: ds, e, (w.heap.size, dfr) :: h, ⟨⟨rfl, hr.rep.sz, hr.rep.at_⟩, ?_⟩, ?_, done _ _ _ hfin hI⟩
        · show [mark w.heap.size] ++ a.defers = _
          rw [hr.nd]; rfl
        · exact (s2.putObj (.head)).sub (List.sublist_cons_self _ _)
      · have hl := s2.has _ _ (List.mem_cons_self)
        have h9 := run_endLoop (P := P) hl (by rw [hrec]; simp)
        have e9 : (rec .done (some c)).pending = some c := by rw [hrec]
        rw [e9] at h9
        refine ⟨some c, _, h9, ?_⟩
        refine stop w.heap.size c h hI _ _ ⟨⟨rfl, hr.rep.sz, hr.rep.at_⟩, ?_⟩ ((s2.putObj (.head)).sub (List.sublist_cons_self _ _))
        show [mark w.heap.size] ++ a.defers = _
        rw [hr.nd]; rfl
    · rintro ys y hok W p ⟨h, rfl, hI⟩ sW hp hnd
      have sW0 : Sat w0 own ((w.heap.size + 1, Ch.obj (.loop (rec .ready none))) :: (w.heap.size, dfr) :: h) W := by
        have := Sat.call (pre := _) (fr := []) (by simpa using s1) sW
        simpa using this
      have hl := hp _ _ (List.mem_cons_self)
      have hyl := run_yield (P := P) (args := ⟨y⟩) hl (by rw [hrec]; simpa using hxl _ _ hok)
      rw [hrec] at hyl
      refine ⟨_, _, _, _, hyl, roundIn_of_wpIn trivial ?_⟩
      have sB : Sat W (bl ((w.heap.size + 1, Ch.obj (.loop (rec .ready none))) :: (w.heap.size, dfr) :: h)) _ W := Sat.begin hp hnd
      have hrnd := round (w.heap.size + 1) w.heap.size ys y hok h W _ (.obj (.loop (rec .busy none))) hI sW0 ⟨((ps.zip y).foldl (fun t (p, v) => t.setIfInBounds p v) a.tmps), []⟩ W
        ⟨rep_bind _ _ _ (fun q hq => by
          have := List.all_eq_true.1 hps q.1 (List.of_mem_zip hq).1
          exact Nat.le_of_ble_eq_true this) hr.rep, rfl⟩ sB
      have et : ((⟨ps⟩ : Array Nat).zip ⟨y⟩).foldl (fun tmps (x : Nat × Value) => tmps.setIfInBounds x.1 x.2) a.tmps = (ps.zip y).foldl (fun t (x : Nat × Value) => t.setIfInBounds x.1 x.2) a.tmps := by
        simp
      refine wpIn_mono (by simpa [et] using hrnd) ?_
      rintro x a1 w1 ⟨ds1, e1, h1, r1, q1, rfl, rfl, h2, k1, k2⟩
      have q2 := k1 w1 q1
      have hl2 := q2.has _ _ (List.mem_cons_self)
      refine ⟨_, run_beginRound hl2 (by rw [hrec]), ?_⟩
      have q3 := q2.putObj (o := .loop (rec .busy none)) (.head)
      refine wpIn_mono (k2 a1 _ r1 (by rw [hrec] at q3 ⊢; exact q3)) ?_
      have fin : ∀ (jump : Option Code) (W3 : World) (h' : Hp), Sat W (bl ((w.heap.size + 1, Ch.obj (.loop (rec .ready none))) :: (w.heap.size, dfr) :: h)) ((w.heap.size + 1, .obj (.loop (rec .busy none))) :: (w.heap.size, dfr) :: h') W3 →
          (Instr.endRound (w.heap.size + 1) jump).run P W3 = .ok (.bool jump.isNone) (W3.putObj (w.heap.size + 1) (.loop (rec (if jump.isNone then .ready else .done) jump))) ∧
          Sat W (bl ((w.heap.size + 1, Ch.obj (.loop (rec .ready none))) :: (w.heap.size, dfr) :: h)) ((w.heap.size + 1, .obj (.loop (rec (if jump.isNone then .ready else .done) jump))) :: (w.heap.size, dfr) :: h') (W3.putObj (w.heap.size + 1) (.loop (rec (if jump.isNone then .ready else .done) jump))) := by
        intro jump W3 h' q
        have hl3 := q.has _ _ (List.mem_cons_self)
        have := run_endRound (P := P) jump hl3
        refine ⟨by rw [hrec] at this ⊢; exact this, q.putObj (.head)⟩
      rintro x a3 w3 ⟨ds3, e3, h3, r3, q4, hb⟩
      cases x with
      | normal =>
        obtain ⟨h', t1, t2⟩ := hb
        obtain ⟨u1, u2⟩ := fin none w3 h' (t1 w3 q4)
        exact ⟨_, _, u1, _, _, rfl, .inl ⟨rfl, h', rfl, t2⟩, u2⟩
      | ret =>
        obtain ⟨h', t1, t2⟩ := hb
        obtain ⟨u1, u2⟩ := fin (some .ret) w3 h' (t1 w3 q4)
        exact ⟨_, _, u1, _, _, rfl, .inr ⟨rfl, .ret, h', rfl, t2⟩, u2⟩
      | exit id =>
        obtain ⟨h', t1, t2⟩ := hb
        obtain ⟨u1, u2⟩ := fin (some (.exit id)) w3 h' (t1 w3 q4)
        exact ⟨_, _, u1, _, _, rfl, .inr ⟨rfl, .exit id, h', rfl, t2⟩, u2⟩
      | _ => exact hb.elim

end V
end Go

/- maps.Keys as an iterator, slices.AppendSeq, Collect, Sorted over it; IndexFunc, DeleteFunc: at uint32. -/
namespace Go
namespace V
open Go.RowKit
set_option linter.unusedVariables false
set_option linter.unusedSimpArgs false
theorem sub_len {α : Type} [BEq α] [LawfulBEq α] : ∀ {a b : List α}, a.Nodup → (∀ x ∈ a, x ∈ b) → a.length ≤ b.length
  | [], b, _, _ => Nat.zero_le _
  | x :: a, b, h, hs => by
    rw [List.nodup_cons] at h
    have hx := hs x (by simp)
    have h1 : ∀ y ∈ a, y ∈ b.erase x := fun y hy => (List.mem_erase_of_ne (fun (e : y = x) => h.1 (e ▸ hy))).2 (hs y (List.mem_cons_of_mem _ hy))
    have := sub_len h.2 h1
    rw [List.length_erase_of_mem hx] at this
    have := List.length_pos_of_mem hx
    simp; omega
theorem nodup_of_map {α β : Type} {f : α → β} {l : List α} (h : (l.map f).Nodup) : l.Nodup := (List.pairwise_map.1 h).imp (fun h e => h (congrArg f e))
abbrev kvQ (q : IntKind) (z : ME) : List Value := [.int q z.1]
def okE (q : IntKind) (es : List ME) (ys : List (List Value)) : Prop := ∃ zs : List ME, (∀ z ∈ zs, z ∈ es) ∧ (zs.map ME.born).Nodup ∧ ys = zs.map (kvQ q)
def finE (q : IntKind) (es : List ME) (ys : List (List Value)) : Prop := ∃ zs : List ME, zs.Perm es ∧ ys = zs.map (kvQ q)
theorem okE.len {q : IntKind} {es : List ME} {c : Nat} (hm : MOk es c) {ys : List (List Value)} (h : okE q es ys) : ys.length ≤ es.length := by
  obtain ⟨zs, h1, h2, rfl⟩ := h
  have := sub_len (b := es.map ME.born) h2 (fun x hx => by obtain ⟨z, hz, rfl⟩ := List.mem_map.1 hx; exact List.mem_map.2 ⟨z, h1 z hz, rfl⟩)
  simpa using this
theorem okE.last {q : IntKind} {es : List ME} {ys : List (List Value)} {y : List Value} (h : okE q es (ys ++ [y])) : ∃ k : Int, y = [.int q k] := by
  obtain ⟨zs, h1, h2, h3⟩ := h
  have : y ∈ zs.map (kvQ q) := by rw [← h3]; simp
  obtain ⟨z, _, rfl⟩ := List.mem_map.1 this
  exact ⟨z.1, rfl⟩
theorem OwnS.upto {E m n c b o : Nat} {vs : List Value} {h : Hp} (k : OwnS E m (.slice (some ⟨b, o, none⟩) n c) n vs h) {i : Nat} (hi : i ≤ n) : OwnS E m (.slice (some ⟨b, o, none⟩) i c) i (vs.take (i * m)) h := by
  rcases k with ⟨h0, ⟨h3, _⟩ | ⟨b', o', cap, l', h1, h2, h3, h4, h5⟩⟩
  · cases h3
  · cases h1
    have := Nat.mul_le_mul_right m hi
    refine ⟨by rw [List.length_take, h0]; omega, .inr ⟨b, o, c, l', rfl, h2, by omega, h4, ?_⟩⟩
    rw [← h5, List.take_take]; congr 1; omega
end V
end Go
namespace Go.Proofs.Ytfajjkolhajldaa
open Go.V
open Go.Sort (ltInt)
set_option linter.unusedVariables false
set_option linter.unusedSimpArgs false
set_option maxRecDepth 20000

structure KS where
  zs : List ME
  p : Hp
abbrev MB32 (bm : Nat) (es : List ME) (c : Nat) : Nat × Ch := (bm, Ch.obj (mapOf .u32 es c))
abbrev MX32 (bc bm : Nat) : Nat × Ch := (bc, Ch.cells [.map (some bm)] 77)
abbrev KF32 (bc : Nat) : Value := .func (.func 68) #[] #[.pointer (some ⟨bc, 0, none⟩)]
theorem Keys32_ok (w : World) (bm : Nat) : Does Try.prog 35 [.map (some bm)] [] w (fun v hs => ∃ bc, v = KF32 bc ∧ hs = [MX32 bc bm]) := by
  refine Does.of (n := 4) Try.func35 rfl rfl rfl rfl ?_
  refine .seq ((.region (.nw (.box rfl rfl) fun b1 => (.v (.assign rfl) (.nil ?_)))))
  refine .seq ((.region (.v (.makeFunc (us := []) rfl rfl) (.v (.assign rfl) (.nil ?_)))))
  exact .ret ⟨[_], ⟨rfl, trivial⟩, b1, rfl, rfl⟩
set_option maxRecDepth 20000 in
theorem Keys32_its (w : World) (pre : Hp) (bc bm : Nat) (es : List ME) (c : Nat) (hm : MOk es c) (hM : MX32 bc bm ∈ pre) :
    ItsS Try.prog 68 [.pointer (some ⟨bc, 0, none⟩)] [MB32 bm es c] (okE .u32 es) (finE .u32 es) w pre := by
  intro l J Jx hJ0 hkp hyield
  haveI : Mem bc (.cells [.map (some bm)] 77) pre := ⟨hM⟩
  haveI : Mem bm (.obj (mapOf .u32 es c)) pre := ⟨hkp _ _ hJ0 (by simp)⟩
  refine Does.ofF (n := 14) Try.func68 rfl rfl rfl rfl ?_
  refine .seq (.region (.v (.load (v := .map (some bm)) rfl (.one rfl)) (.nw (.range rfl) fun r => (.nil ?_))))
  refine .block (.loop (X := KS) (fun x => [(0, .func (.yield l) #[] #[]), (5, .pointer (some ⟨r, 0, none⟩))]) (fun x => (r, iter_ bm c (x.zs.map ME.born) c) :: x.p) (fun x => (∀ z ∈ x.zs, z ∈ es) ∧ (x.zs.map ME.born).Nodup ∧ J (x.zs.map (kvQ .u32)) x.p) (fun x => es.length - x.zs.length) ⟨[], pre⟩ ⟨by simp, by simp, hJ0⟩ (.cons rfl (.cons rfl (.nil _))) (fun _ s => s) ?_)
  rintro ⟨zs, p⟩ ⟨h1, h2, hJ⟩
  dsimp only at h1 h2 hJ ⊢
  haveI : Mem bm (.obj (mapOf .u32 es c)) p := ⟨hkp _ _ hJ (by simp)⟩
  refine .seq (.region (.ef (.next (r := r) (b := bm) (c := c) (q := .u32) (es := es) (seen := zs.map ME.born) rfl (fun y hy => hm.c y hy) (Nat.le_refl _)) ?_))
  rintro _ _ (⟨rfl, hall, rfl⟩ | ⟨y, hy, hns, rfl, rfl⟩)
  · refine .v (.extract rfl rfl) (.nil ?_)
    refine .seq (.cond (b := false) rfl (fun h => absurd h (by simp)) (fun _ => .exit ?_))
    have hp : zs.Perm es := (List.perm_ext_iff_of_nodup (nodup_of_map h2) (nodup_of_map hm.b)).2 fun z => ⟨h1 z, fun hz => by
      obtain ⟨z', hz', e⟩ := List.mem_map.1 (hall z hz)
      rwa [← nodup_inj hm.b (h1 z' hz') hz e]⟩
    exact ⟨.inl rfl, [], p, [], rfl, fun _ s => s.sub (List.sublist_cons_self _ _), trivial, .inl ⟨_, ⟨zs, hp, rfl⟩, hJ⟩⟩
  · refine .v (.extract rfl rfl) (.nil ?_)
    refine .seq (.cond (b := true) rfl (fun _ => .skip ?_) (fun h => absurd h (by simp)))
    refine .block (.seq (.region (.v (.entry rfl hy hm.b) (.v (.extract rfl rfl) (.v (.assign rfl) (.nil ?_))))))
    have n1 : ∀ z ∈ zs ++ [y], z ∈ es := fun z hz => by rcases List.mem_append.1 hz with h | h; exact h1 z h; rw [List.mem_singleton.1 h]; exact hy
    have n2 : ((zs ++ [y]).map ME.born).Nodup := by rw [List.map_append]; exact List.nodup_append.2 ⟨h2, by simp, fun a ha b hb e => by simp at hb; subst hb; exact hns (e ▸ ha)⟩
    have n3 := sub_len (b := es.map ME.born) n2 (fun x hx => by obtain ⟨z, hz, rfl⟩ := List.mem_map.1 hx; exact List.mem_map.2 ⟨z, n1 z hz, rfl⟩)
    simp only [List.length_map, List.length_append, List.length_singleton] at n3
    refine .seq (.regionY (.v (.move rfl) (.v (.move rfl) ?_)))
    refine .yield (vals := kvQ .u32 y) (pre := p) (fr := [_]) rfl rfl (List.perm_append_comm (l₁ := [_])) (fun W s => hyield (zs.map (kvQ .u32)) (kvQ .u32 y) ⟨zs ++ [y], n1, n2, by simp⟩ W p hJ (s.sub (List.sublist_cons_self _ _))) ?_
    rintro _ h' (⟨rfl, hJ'⟩ | ⟨rfl, hJx⟩)
    · refine .v (.not rfl) (.nil ?_)
      refine .cond (b := false) rfl (fun h => absurd h (by simp)) (fun _ => .skip ?_)
      refine ⟨rfl, ⟨zs ++ [y], h'⟩, ⟨n1, n2, by rw [List.map_append]; exact hJ'⟩, by show es.length - (zs ++ [y]).length < es.length - zs.length; rw [List.length_append, List.length_singleton]; omega, .cons rfl (.cons rfl (.nil _)), fun _ s => ?_⟩
      rw [List.map_append]
      exact s.perm List.perm_append_comm
    · refine .v (.not rfl) (.nil ?_)
      refine .cond (b := true) rfl (fun _ => ?_) (fun h => absurd h (by simp))
      exact .ret ⟨.inr rfl, [], h', [], rfl, fun _ s => s.sub (List.sublist_append_left _ _), trivial, .inr hJx⟩
set_option maxRecDepth 20000 in
theorem appSeq32_ok (w : World) (bc bm : Nat) (es : List ME) (c : Nat) (hm : MOk es c) (hlen : es.length ≤ 1000000000000) :
    Does Try.prog 88 [.slice none 0 0, KF32 bc] [MX32 bc bm, MB32 bm es c] w (fun v hs => ∃ zs h, zs.Perm (es.map (·.1)) ∧ OwnS 29 1 v zs.length (ints .u32 zs) h ∧ hs = h ++ [MX32 bc bm, MB32 bm es c]) := by
  refine Does.ofF (n := 13) Try.func88 rfl rfl rfl rfl ?_
  refine .seq ((.region (.nw (.box rfl rfl) fun b2 => (.v (.assign rfl) (.nil ?_)))))
  refine .seq (.seq ((.region (.v (.move rfl) (.nil ?_)))))
  refine .block (.rangeFuncS [MB32 bm es c] (okE .u32 es) (finE .u32 es) (fun ys h => ∃ v h' zs, ys = zs.map (fun z : Int => [Value.int .u32 z]) ∧ h = h' ++ [(b2, Ch.cells [v] 50), MX32 bc bm, MB32 bm es c] ∧ OwnS 29 1 v zs.length (ints .u32 zs) h') (fun _ _ => False) rfl
    ⟨_, [], [], rfl, rfl, OwnS.nil _ _⟩ (fun ys h hI x hx => ?_) rfl (fun ys y hok => by obtain ⟨k, rfl⟩ := hok.last; rfl) (fun p q W s => ?_) (fun l D ys y hok h W rc rc' hI sW => ?_) (fun D ys h hf hI => ?_) (fun _ _ _ h => h.elim))
  · obtain ⟨v, h', zs, _, rfl, _⟩ := hI
    simp at hx; subst hx; simp
  · exact Keys32_its W _ bc bm es c hm (by simp)
  · have hln := okE.len hm hok
    obtain ⟨k, rfl⟩ := hok.last
    obtain ⟨v, h', zs, rfl, rfl, ho⟩ := hI
    simp only [List.length_append, List.length_map, List.length_singleton] at hln
    refine .region (.v (.assign rfl) (.nil ?_))
    refine ⟨rfl, rfl, h' ++ [_, _, _], fun _ s => s, ?_⟩
    refine .block (.region (.v (.load (v := v) rfl (.one rfl)) (.v (.move rfl) (.push (h := h') (oc := [.int .u32 k]) (c := zs.length) (vs := ints .u32 zs) rfl rfl ho rfl rfl rfl (by omega) (by omega) fun b v' h2 o2 => ?_))))
    obtain ⟨A1, d1, rfl⟩ := OwnS.slice o2
    refine .st (.storeL (l' := [.slice A1 (zs.length + 1) d1]) rfl rfl rfl) (.nil ?_)
    have ep : List.Perm (h2 ++ [(l, rc'), (D, dfr), (b2, Ch.cells [Value.slice A1 (zs.length + 1) d1] 50), MX32 bc bm, MB32 bm es c]) ((l, rc') :: (D, dfr) :: (h2 ++ [(b2, Ch.cells [.slice A1 (zs.length + 1) d1] 50), MX32 bc bm, MB32 bm es c])) := by
      refine (List.perm_append_comm).trans ?_
      exact (((List.perm_append_comm (l₁ := [(b2, _), MX32 bc bm, MB32 bm es c])).cons _).cons _)
    refine ⟨_, fun _ s => s.perm ep, _, h2, zs ++ [k], by simp, rfl, ?_⟩
    rw [List.length_append, List.length_singleton, show ints .u32 (zs ++ [k]) = ints .u32 zs ++ [.int .u32 k] by simp [ints]]
    exact o2
  · obtain ⟨v, h', zs, rfl, rfl, ho⟩ := hI
    obtain ⟨z2, hp, he⟩ := hf
    have hzz : zs = z2.map (·.1) := by
      have := congrArg (List.map (fun x : List Value => match x with | [.int _ k] => k | _ => 0)) he
      simpa [List.map_map, Function.comp_def] using this
    refine .seq ((.region (.v (.load (v := v) rfl (.one rfl)) (.v (.assign rfl) (.nil ?_)))))
    refine .ret ?_
    refine ⟨.inr rfl, [D], h' ++ [MX32 bc bm, MB32 bm es c], [_], rfl, fun _ s => ?_, ⟨rfl, trivial⟩, zs, h', ?_, ho, rfl⟩
    · refine s.sub ?_
      exact (List.Sublist.append (List.Sublist.refl h') (List.sublist_cons_self _ _)).cons_cons _
    · rw [hzz]; exact hp.map _
theorem collect32_ok (w : World) (bc bm : Nat) (es : List ME) (c : Nat) (hm : MOk es c) (hlen : es.length ≤ 1000000000000) :
    Does Try.prog 66 [KF32 bc] [MX32 bc bm, MB32 bm es c] w (fun v hs => ∃ zs h, zs.Perm (es.map (·.1)) ∧ OwnS 29 1 v zs.length (ints .u32 zs) h ∧ hs = h ++ [MX32 bc bm, MB32 bm es c]) := by
  refine Does.of (n := 5) Try.func66 rfl rfl rfl rfl ?_
  refine .seq ((.region (.v (.assign rfl) (.nil ?_))))
  refine .seq ((.region (.v (.move rfl) ?_)))
  refine .ef (.callT [MX32 bc bm, MB32 bm es c] rfl rfl fun w s => appSeq32_ok w bc bm es c hm hlen) ?_
  rintro _ _ ⟨_, ⟨zs, h, hp, ho, rfl⟩, rfl⟩
  refine .v (.assign rfl) (.nil ?_)
  exact .ret ⟨[_], ⟨rfl, trivial⟩, zs, h, hp, ho, by simp⟩
/-! ### the empty row -/
theorem ins32_nil (w : World) : Does Try.prog 107 [.slice none 0 0, .int .i64 0, .int .i64 0] [] w (fun _ hs => hs = []) := by
  refine Does.of (n := 49) Try.func107 rfl rfl rfl rfl ?_
  refine .seq ((.region (.v (.move rfl) (.v (.addE 1 rfl rfl (by omega) (by omega)) (.v (.assign rfl) (.nil ?_))))))
  refine .block (.loop (X := Unit) (fun x => [(2, .int .i64 0), (6, .int .i64 1)]) (fun x => []) (fun x => True) (fun x => 0) () trivial (.cons rfl (.cons rfl (.nil _))) (fun _ s => s) ?_)
  rintro _ _
  refine .seq (.seq ((.region (.v (.move rfl) (.v (.move rfl) (.v (.lss rfl rfl) (.nil ?_)))))))
  refine .cond_false rfl (.exit ?_)
  exact ⟨[], trivial, rfl⟩
theorem pdq32_nil (w : World) (t : Nat) : Does Try.prog 89 [.slice none 0 0, .int .i64 0, .int .i64 0, .int .i64 t] [] w (fun _ hs => hs = []) := by
  refine Does.of (n := 134) Try.func89 rfl rfl rfl rfl ?_
  refine .seq ((.region (.v (.assign rfl) (.nil ?_))))
  refine .seq ((.region (.v (.assign rfl) (.nil ?_))))
  refine .block (.loop (X := Unit) (fun x => [(0, .slice none 0 0), (1, .int .i64 0), (2, .int .i64 0)]) (fun x => []) (fun x => True) (fun x => 0) () trivial (.cons rfl (.cons rfl (.cons rfl (.nil _)))) (fun _ s => s) ?_)
  rintro _ _
  refine .block (.seq ((.region (.v (.move rfl) (.v (.move rfl) (.v (.subE 0 rfl rfl (by omega) (by omega)) (.v (.assign rfl) (.nil ?_))))))))
  refine .seq (.seq ((.region (.v (.move rfl) (.v (.leq rfl rfl) (.nil ?_))))))
  refine .cond_dec rfl (fun h1 => ?_) (fun h1 => absurd (by decide) h1)
  refine .seq ((.region (.v (.move rfl) (.v (.move rfl) (.v (.move rfl) ?_)))))
  refine .ef (.call0 rfl rfl fun w s => ins32_nil w) ?_
  rintro _ _ ⟨_, rfl, rfl⟩
  refine .nil ?_
  exact .ret ⟨[], trivial, rfl⟩
theorem sort32_nil (w : World) : Does Try.prog 67 [.slice none 0 0] [] w (fun _ hs => hs = []) := by
  refine Does.of (n := 11) Try.func67 rfl rfl rfl rfl ?_
  refine .seq ((.region (.v (.move rfl) (.v (.len rfl) (.v (.assign rfl) (.nil ?_))))))
  refine .region (.v (.move rfl) (.v (.move rfl) (.v (.move rfl) (.v (.convE 0 rfl (wrap_u64_in (by omega))) ?_))))
  refine .ef (.call0 rfl rfl fun w s => len_ok w 0 (by omega)) ?_
  rintro _ _ ⟨_, ⟨t, h1, h2, rfl, rfl⟩, rfl⟩
  refine .ef (.call0 rfl rfl fun w s => pdq32_nil w t) ?_
  rintro _ _ ⟨_, rfl, rfl⟩
  refine .nil ?_
  exact ⟨[], trivial, rfl⟩
theorem srt_sorted (z : List Int) : (srt z).Pairwise (fun x y => x ≤ y) := by
  have := List.pairwise_mergeSort (le := fun x y => !ltInt y x) (fun a b c h1 h2 => by simp [ltInt] at *; omega) (fun a b => by simp [ltInt]; omega) z
  exact this.imp (fun h => by simpa [ltInt] using h)
theorem srt_perm (z : List Int) : (srt z).Perm z := List.mergeSort_perm ..
theorem srt_of {y z : List Int} (hp : y.Perm z) (hs : y.Pairwise (fun x y => x ≤ y)) : srt z = y :=
  List.Perm.eq_of_pairwise (le := fun x y => x ≤ y) (fun a b _ _ h1 h2 => by omega) (srt_sorted z) hs ((srt_perm z).trans hp.symm)
theorem srt_congr {y z : List Int} (hp : y.Perm z) : srt y = srt z := srt_of ((srt_perm z).trans hp.symm) (srt_sorted z)
theorem sorted32_ok (w : World) (bc bm : Nat) (es : List ME) (c : Nat) (hm : MOk es c) (hlen : es.length ≤ 1000000000000) :
    Does Try.prog 34 [KF32 bc] [MX32 bc bm, MB32 bm es c] w (fun v hs => ∃ h, OwnS 29 1 v (srt (es.map (·.1))).length (ints .u32 (srt (es.map (·.1)))) h ∧ hs = h ++ [MX32 bc bm, MB32 bm es c]) := by
  refine Does.of (n := 9) Try.func34 rfl rfl rfl rfl ?_
  refine .seq ((.region (.v (.assign rfl) (.nil ?_))))
  refine .seq ((.region (.v (.move rfl) ?_)))
  refine .ef (.callT [MX32 bc bm, MB32 bm es c] rfl rfl fun w s => collect32_ok w bc bm es c hm hlen) ?_
  rintro _ _ ⟨_, ⟨zs, h, hp, ho, rfl⟩, rfl⟩
  refine .v (.assign rfl) (.nil ?_)
  have hl := hp.length_eq
  rw [List.length_map] at hl
  rw [← srt_congr hp, srt_len]
  rcases ho.2 with ⟨rfl, h0, rfl⟩ | ⟨b, o, cap, l, rfl, rfl, h3, h4, h5⟩
  · have hz : zs = [] := List.length_eq_zero_iff.1 h0
    subst hz
    refine .seq ((.region (.v (.move rfl) ?_)))
    refine .ef (.call0 rfl rfl fun w s => sort32_nil w) ?_
    rintro _ _ ⟨_, rfl, rfl⟩
    refine .nil ?_
    refine .seq ((.region (.v (.move rfl) (.v (.assign rfl) (.nil ?_)))))
    exact .ret ⟨[_], ⟨rfl, trivial⟩, [], by rw [show srt [] = [] from List.mergeSort_nil ..]; exact OwnS.nil _ _, by simp⟩
  · refine .seq ((.region (.v (.move rfl) ?_)))
    refine .ef (.callT [(b, .cells l 29)] rfl rfl fun w s => sort32_ok w ho (by omega)) ?_
    rintro _ _ ⟨_, ⟨l', rfl, k2⟩, rfl⟩
    refine .nil ?_
    refine .seq ((.region (.v (.move rfl) (.v (.assign rfl) (.nil ?_)))))
    exact .ret ⟨[_], ⟨rfl, trivial⟩, [(b, .cells l' 29)], k2, by simp⟩
/-! ### IndexFunc, DeleteFunc -/
/-- a closure that says p of a number, lent some blocks -/
abbrev Del32 (g : Nat) (cap : List Value) (fr : Hp) (p : Int → Bool) : Prop := ∀ (w : World) (x : Int), Does Try.prog g (.int .u32 x :: cap) fr w (fun v h => v = .bool (p x) ∧ h = fr)
def ixF (p : Int → Bool) (z : List Int) : Int := match z.findIdx? p with | some i => i | none => -1
structure FI where
  i : Nat
set_option maxRecDepth 20000 in
theorem index32_ok (w : World) {b o c n : Nat} {d : Array Int} {l : List Value} (k : So32 b o c n d l) (hn : n < 2305843009213693952) (g : Nat) [hg : FnT Try.prog g] (cap : List Value) (fr : Hp) (p : Int → Bool) (hd : Del32 g cap fr p) :
    Does Try.prog 65 [.slice (some ⟨b, o, none⟩) n c, .func (.func g) #[] ⟨cap⟩] ((b, .cells l 29) :: fr) w (fun v hs => v = .int .i64 (ixF p d.toList) ∧ hs = (b, .cells l 29) :: fr) := by
  refine Does.of (n := 19) Try.func65 rfl rfl rfl rfl ?_
  refine .seq ((.region (.v (.assign rfl) (.nil ?_))))
  refine .seq (.seq ((.region (.v (.move rfl) (.v (.len rfl) (.v (.move rfl) (.nil ?_)))))))
  refine .block (.loop (X := Nat) (fun x => [(0, .slice (some ⟨b, o, none⟩) n c), (1, .func (.func g) #[] ⟨cap⟩), (7, .int .i64 n), (8, .int .i64 (x : Nat))]) (fun _ => (b, .cells l 29) :: fr) (fun x => x ≤ n ∧ ∀ i, i < x → p d[i]! = false) (fun x => n - x) 0 ⟨Nat.zero_le _, fun i h => absurd h (by omega)⟩ (.cons rfl (.cons rfl (.cons rfl (.cons rfl (.nil _))))) (fun _ s => s) ?_)
  rintro i ⟨hi, hf⟩
  try dsimp only at hi hf ⊢
  refine .seq ((.region (.v (.lss rfl rfl) (.nil ?_))))
  refine .seq (.cond_dec rfl (fun h1 => .skip ?_) (fun h1 => .exit ?_))
  · have hin : i < n := by omega
    refine .seq (.block (.seq ((.region (.v (.move rfl) (.v (.assign rfl) (.nil ?_)))))))
    refine .seq ((.region (.v (.move rfl) (.v (.move rfl) (.v (.move rfl) (.v (.indexN i rfl rfl hin) (.v (.load (v := .int .u32 d[i]!) rfl (k.at_ hin (by simp))) ?_)))))))
    refine .pl (v := .bool (p d[i]!)) (pre := fr) [(b, .cells l 29)] rfl rfl (List.perm_append_comm (l₁ := [_])) (fun w s => hd w _) ?_
    refine .nil ?_
    refine .cond rfl (fun h2 => ?_) (fun h2 => .skip ?_)
    · refine .seq ((.region (.v (.move rfl) (.v (.assign rfl) (.nil ?_)))))
      refine .ret ⟨[_], ⟨rfl, trivial⟩, ?_, rfl⟩
      have : d.toList.findIdx? p = some i := by
        rw [List.findIdx?_eq_some_iff_getElem]
        refine ⟨by simpa [k.sz] using hin, ?_, fun j hj => ?_⟩
        · have hs : i < d.size := by rw [k.sz]; exact hin
          have : d[i]! = d[i] := getElem!_pos d i hs
          simpa [this] using h2
        · have h3 := hf j hj
          have hs : j < d.size := by rw [k.sz]; omega
          have : d[j]! = d[j] := getElem!_pos d j hs
          simpa [this] using h3
      rw [ixF, this]; rfl
    · refine .region (.v (.addE ((i + 1 : Nat) : Int) rfl rfl (by omega) (by omega)) (.v (.move rfl) (.nil ?_)))
      exact ⟨i + 1, ⟨by omega, fun j hj => by rcases Nat.lt_succ_iff_lt_or_eq.1 hj with h | rfl; exact hf j h; exact h2⟩, by omega, .cons rfl (.cons rfl (.cons rfl (.cons rfl (.nil _)))), fun _ s => s⟩
  · refine .seq ((.region (.v (.assign rfl) (.nil ?_))))
    refine .ret ⟨[_], ⟨rfl, trivial⟩, ?_, rfl⟩
    have : d.toList.findIdx? p = none := by
      rw [List.findIdx?_eq_none_iff]
      intro x hx
      obtain ⟨j, hj, rfl⟩ := List.getElem_of_mem hx
      have hj' : j < n := by rw [← k.sz]; simpa using hj
      have h3 := hf j (by omega)
      have hs : j < d.size := by rw [k.sz]; exact hj'
      have : d[j]! = d[j] := getElem!_pos d j hs
      rw [this] at h3
      simpa using h3
    rw [ixF, this]; rfl
theorem index32_nil (w : World) (g : Nat) (cap : List Value) : Does Try.prog 65 [.slice none 0 0, .func (.func g) #[] ⟨cap⟩] [] w (fun v hs => v = .int .i64 (-1) ∧ hs = []) := by
  refine Does.of (n := 19) Try.func65 rfl rfl rfl rfl ?_
  refine .seq ((.region (.v (.assign rfl) (.nil ?_))))
  refine .seq (.seq ((.region (.v (.move rfl) (.v (.len rfl) (.v (.move rfl) (.nil ?_)))))))
  refine .block (.loop (X := Unit) (fun x => [(7, .int .i64 0), (8, .int .i64 0)]) (fun _ => []) (fun x => True) (fun x => 0) () trivial (.cons rfl (.cons rfl (.nil _))) (fun _ s => s) ?_)
  rintro _ _
  refine .seq ((.region (.v (.lss rfl rfl) (.nil ?_))))
  refine .seq (.cond_false rfl (.exit ?_))
  refine .seq ((.region (.v (.assign rfl) (.nil ?_))))
  exact .ret ⟨[_], ⟨rfl, trivial⟩, rfl, rfl⟩
theorem delete32_nil (w : World) (g : Nat) (cap : List Value) : Does Try.prog 33 [.slice none 0 0, .func (.func g) #[] ⟨cap⟩] [] w (fun v hs => v = .slice none 0 0 ∧ hs = []) := by
  refine Does.of (n := 42) Try.func33 rfl rfl rfl rfl ?_
  refine .seq ((.region (.v (.assign rfl) (.nil ?_))))
  refine .seq ((.region (.v (.move rfl) (.v (.move rfl) ?_))))
  refine .ef (.call0 rfl rfl fun w s => index32_nil w g cap) ?_
  rintro _ _ ⟨_, ⟨rfl, rfl⟩, rfl⟩
  refine .v (.assign rfl) (.nil ?_)
  refine .seq (.seq ((.region (.v (.move rfl) (.v (.eqi rfl rfl) (.nil ?_))))))
  refine .cond_dec rfl (fun h1 => ?_) (fun h1 => absurd rfl h1)
  refine .seq ((.region (.v (.move rfl) (.v (.assign rfl) (.nil ?_)))))
  exact .ret ⟨[_], ⟨rfl, trivial⟩, rfl, rfl⟩
/-- behind j of z the first i of d are what is kept -/
structure DelI (p : Int → Bool) (z : List Int) (d : Array Int) (i j : Nat) : Prop where
  ij : i < j
  jn : j ≤ z.length
  tk : d.toList.take i = (z.take j).filter (fun x => !p x)
  dr : d.toList.drop j = z.drop j
  sz : d.size = z.length
theorem DelI.start {p : Int → Bool} {z : List Int} {i : Nat} (h : z.findIdx? p = some i) : DelI p z z.toArray i (i + 1) := by
  rw [List.findIdx?_eq_some_iff_getElem] at h
  obtain ⟨h1, h2, h3⟩ := h
  refine ⟨by omega, by omega, ?_, rfl, by simp⟩
  rw [List.take_succ_eq_append_getElem h1, List.filter_append]
  simp only [List.filter_cons, h2, Bool.not_true, Bool.false_eq_true, if_false, List.filter_nil, List.append_nil]
  rw [List.filter_eq_self.2]
  intro x hx
  obtain ⟨j, hj, rfl⟩ := List.getElem_of_mem hx
  rw [List.length_take] at hj
  have := h3 j (by omega)
  simpa using this
theorem DelI.get {p : Int → Bool} {z : List Int} {d : Array Int} {i j : Nat} (h : DelI p z d i j) (hj : j < z.length) : d[j]! = z[j] := by
  rw [getElem!_pos d j (by rw [h.sz]; exact hj)]
  have := h.dr
  rw [List.drop_eq_getElem_cons (by simpa [h.sz] using hj), List.drop_eq_getElem_cons hj] at this
  have := (List.cons.inj this).1
  simpa using this
theorem DelI.skip {p : Int → Bool} {z : List Int} {d : Array Int} {i j : Nat} (h : DelI p z d i j) (hj : j < z.length) (hp : p d[j]! = true) : DelI p z d i (j + 1) := by
  rw [h.get hj] at hp
  refine ⟨by have := h.ij; omega, hj, ?_, ?_, h.sz⟩
  · rw [List.take_succ_eq_append_getElem hj, List.filter_append, h.tk]; simp [hp]
  · have := congrArg List.tail h.dr
    simpa using this
theorem DelI.put {p : Int → Bool} {z : List Int} {d : Array Int} {i j : Nat} (h : DelI p z d i j) (hj : j < z.length) (hp : p d[j]! = false) : DelI p z (d.setIfInBounds i d[j]!) (i + 1) (j + 1) := by
  have hg := h.get hj
  have hij := h.ij
  rw [hg] at hp ⊢
  have hsz := h.sz
  refine ⟨by omega, hj, ?_, ?_, by simp [hsz]⟩
  · rw [List.take_succ_eq_append_getElem hj, List.filter_append, ← h.tk]
    rw [Array.toList_setIfInBounds, List.take_succ_eq_append_getElem (by simp [hsz]; omega)]
    simp [hp]
    exact List.take_set_of_le (Nat.le_refl _)
  · rw [Array.toList_setIfInBounds, List.drop_set_of_lt (by omega)]
    have := congrArg List.tail h.dr
    simpa using this
structure DLS where
  i : Nat
  j : Nat
  d : Array Int
  l : List Value
set_option maxRecDepth 20000 in
theorem delete32_ok (w : World) {b o c : Nat} {z : List Int} {l : List Value} (k : OwnS 29 1 (.slice (some ⟨b, o, none⟩) z.length c) z.length (ints .u32 z) [(b, .cells l 29)]) (hn : z.length < 2305843009213693952) (g : Nat) [hg : FnT Try.prog g] (cap : List Value) (fr : Hp) (p : Int → Bool) (hd : Del32 g cap fr p) :
    Does Try.prog 33 [.slice (some ⟨b, o, none⟩) z.length c, .func (.func g) #[] ⟨cap⟩] ((b, .cells l 29) :: fr) w (fun v hs => ∃ l', OwnS 29 1 v (z.filter fun x => !p x).length (ints .u32 (z.filter fun x => !p x)) [(b, .cells l' 29)] ∧ hs = (b, .cells l' 29) :: fr) := by
  have k0 : So32 b o c z.length z.toArray l := ⟨by simp, by simpa using k⟩
  refine Does.of (n := 42) Try.func33 rfl rfl rfl rfl ?_
  refine .seq ((.region (.v (.assign rfl) (.nil ?_))))
  refine .seq ((.region (.v (.move rfl) (.v (.move rfl) ?_))))
  refine .pl (v := .int .i64 (ixF p z)) (pre := (b, .cells l 29) :: fr) [] rfl rfl (by simp) (fun w s => by have := index32_ok w k0 hn g cap fr p hd; simpa using this) ?_
  refine .v (.assign rfl) (.nil ?_)
  refine .seq (.seq ((.region (.v (.move rfl) (.v (.eqi rfl rfl) (.nil ?_))))))
  cases hx : z.findIdx? p with
  | none =>
    have h1 : ixF p z = -1 := by rw [ixF, hx]
    rw [h1]
    refine .cond_dec rfl (fun h1 => ?_) (fun h1 => absurd rfl h1)
    refine .seq ((.region (.v (.move rfl) (.v (.assign rfl) (.nil ?_)))))
    have hfl : z.filter (fun x => !p x) = z := List.filter_eq_self.2 fun x hx' => by
      rw [List.findIdx?_eq_none_iff] at hx
      simpa using hx x hx'
    exact .ret ⟨[_], ⟨rfl, trivial⟩, l, by rw [hfl]; exact k, rfl⟩
  | some i =>
    have h1 : ixF p z = (i : Int) := by rw [ixF, hx]
    have d0 := DelI.start hx
    have hiz := d0.jn
    rw [h1]
    refine .cond_dec rfl (fun h1 => absurd h1 (by omega)) (fun h1 => .skip ?_)
    refine .seq (.seq ((.region (.v (.move rfl) (.v (.addE ((i + 1 : Nat) : Int) rfl rfl (by omega) (by omega)) (.v (.assign rfl) (.nil ?_)))))))
    refine .block (.loop (X := DLS) (fun x => [(0, .slice (some ⟨b, o, none⟩) z.length c), (1, .func (.func g) #[] ⟨cap⟩), (5, .int .i64 x.i), (6, .int .i64 x.j)]) (fun x => (b, .cells x.l 29) :: fr) (fun x => DelI p z x.d x.i x.j ∧ So32 b o c z.length x.d x.l) (fun x => z.length - x.j) ⟨i, i + 1, z.toArray, l⟩ ⟨d0, k0⟩ (.cons rfl (.cons rfl (.cons rfl (.cons rfl (.nil _))))) (fun _ s => s) ?_)
    clear h1 hx d0 hiz k0 k
    rintro ⟨i, j, d, l1⟩ ⟨hI, k1⟩
    dsimp only at hI k1 ⊢
    have hij := hI.ij
    have hjn := hI.jn
    refine .seq (.seq ((.region (.v (.move rfl) (.v (.move rfl) (.v (.len rfl) (.v (.lss rfl rfl) (.nil ?_))))))))
    refine .cond_dec rfl (fun h2 => .skip ?_) (fun h2 => .exit ?_)
    · have hj : j < z.length := by omega
      have hlen := k1.len
      refine .mid (X := DLS) (fun x => [(0, .slice (some ⟨b, o, none⟩) z.length c), (1, .func (.func g) #[] ⟨cap⟩), (5, .int .i64 x.i), (6, .int .i64 j)]) (fun x => (b, .cells x.l 29) :: fr) (fun x => DelI p z x.d x.i (j + 1) ∧ So32 b o c z.length x.d x.l) (.block (.seq ((.region (.v (.move rfl) (.v (.move rfl) (.v (.indexN j rfl rfl hj) (.v (.load (v := .int .u32 d[j]!) rfl (k1.at_ hj (by simp))) (.v (.assign rfl) (.nil ?_)))))))))) ?_
      · refine .seq ((.region (.v (.move rfl) (.v (.move rfl) ?_))))
        refine .pl (v := .bool (p d[j]!)) (pre := fr) [(b, .cells l1 29)] rfl rfl (List.perm_append_comm (l₁ := [_])) (fun w s => hd w _) ?_
        refine .v (.not rfl) (.nil ?_)
        refine .cond rfl (fun h3 => ?_) (fun h3 => .skip ?_)
        · refine .seq ((.region (.v (.move rfl) (.v (.move rfl) (.v (.move rfl) (.v (.indexN i rfl rfl (by omega)) (.st (.store rfl rfl rfl (by omega)) (.nil ?_))))))))
          refine .region (.v (.move rfl) (.v (.addE ((i + 1 : Nat) : Int) rfl rfl (by omega) (by omega)) (.v (.assign rfl) (.nil ?_))))
          exact ⟨⟨i + 1, 0, _, _⟩, ⟨hI.put hj (by simpa using h3), k1.set (i := i) (by omega) d[j]!⟩, .cons rfl (.cons rfl (.cons rfl (.cons rfl (.nil _)))), fun _ s => s⟩
        · exact ⟨⟨i, 0, d, l1⟩, ⟨hI.skip hj (by simpa using h3), k1⟩, .cons rfl (.cons rfl (.cons rfl (.cons rfl (.nil _)))), fun _ s => s⟩
      · rintro ⟨i2, _, d2, l2⟩ ⟨hI2, k2⟩
        dsimp only at hI2 k2 ⊢
        refine .region (.v (.move rfl) (.v (.addE ((j + 1 : Nat) : Int) rfl rfl (by omega) (by omega)) (.v (.assign rfl) (.nil ?_))))
        exact ⟨⟨i2, j + 1, d2, l2⟩, ⟨hI2, k2⟩, by show z.length - (j + 1) < z.length - j; omega, .cons rfl (.cons rfl (.cons rfl (.cons rfl (.nil _)))), fun _ s => s⟩
    · have hjz : j = z.length := by omega
      subst hjz
      have hlen := k1.len
      have hcap := k1.own.cap_.2
      have htk := hI.tk
      rw [List.take_length] at htk
      have hfl : (z.filter fun x => !p x).length = i := by rw [← htk, List.length_take]; simp [hI.sz]; omega
      refine .seq ((.region (.v (.move rfl) (.v (.move rfl) (.v (.slLo rfl rfl (by omega) (by omega)) ?_)))))
      simp only [Int.toNat_natCast]
      rw [cutA_some (by omega)]
      refine .ef0 (.clearIn (z := [.int .u32 0]) rfl rfl (by omega)) ?_
      rintro _ _ ⟨rfl, rfl⟩
      refine .nil ?_
      refine .seq ((.region (.v (.move rfl) (.v (.move rfl) (.v (.slHi rfl rfl (by omega) (by omega)) (.v (.assign rfl) (.nil ?_)))))))
      refine .ret ⟨[_], ⟨rfl, trivial⟩, _, ?_, rfl⟩
      have k3 := OwnS.upto (OwnS.spliceAt (us := zeros [.int .u32 0] (z.length - i)) (i := i) k1.own (by rw [zeros_length]; simp; omega)) (i := i) (by omega)
      rw [hfl, Int.toNat_natCast]
      have e1 : (V.splice (ints .u32 d.toList) i (zeros [.int .u32 0] (z.length - i))).take (i * 1) = ints .u32 (z.filter fun x => !p x) := by
        rw [← htk, Nat.mul_one]
        unfold V.splice
        rw [List.append_assoc, List.take_append_of_le_length (by simp [ints, hI.sz]; omega), List.take_take, Nat.min_self]
        simp [ints]
      rw [e1] at k3
      rw [Nat.mul_one]
      exact k3
end Go.Proofs.Ytfajjkolhajldaa

/- Risk: standing. -/
namespace Go.Proofs.Ytfajjkolhajldaa
open Go.V
set_option linter.unusedVariables false
set_option linter.unusedSimpArgs false
set_option maxRecDepth 20000

structure RSt where
  zs : List ME
  os : List RO
theorem RI.each {D : Dk} {z : RZ} (h : RI D z) {y : ME} (hy : y ∈ z.eo) : ∃ o ∈ D.O, o.id = y.1 ∧ y.2.1 = .agg ⟨o.cells⟩ := by
  have hg := h.oo.get hy
  rw [h.o] at hg
  obtain ⟨o, ho, hv⟩ := Option.map_eq_some_iff.1 hg
  exact ⟨o, kfind_mem RO.id ho, kfind_key RO.id ho, hv.symm⟩
theorem RI.lenO {D : Dk} {z : RZ} (h : RI D z) : z.eo.length = D.O.length := by
  have := (mperm RO.id h.oo h.ok.o h.o).length_eq
  simpa using this
theorem RI.all {D : Dk} {z : RZ} (h : RI D z) {zs : List ME} {os : List RO} (hz : zs.Perm z.eo) (ho : ∀ o ∈ os, o ∈ D.O) (he : zs.map (fun y => (y.1, y.2.1)) = os.map fun o => (o.id, .agg ⟨o.cells⟩)) : os.Perm D.O := by
  have h1 := mperm RO.id h.oo h.ok.o h.o
  have h2 := (hz.map fun y : ME => (y.1, y.2.1)).trans h1
  rw [he] at h2
  have h3 : (os.map RO.id).Perm (D.O.map RO.id) := by
    have := h2.map Prod.fst
    rw [List.map_map, List.map_map] at this
    exact this
  have h4 : (os.map RO.id).Nodup := h3.nodup_iff.2 h.ok.o
  refine (List.perm_ext_iff_of_nodup (nodup_of_map h4) (nodup_of_map h.ok.o)).2 fun o => ⟨ho o, fun hd => ?_⟩
  have hm : o.id ∈ os.map RO.id := h3.mem_iff.2 (List.mem_map.2 ⟨o, hd, rfl⟩)
  obtain ⟨o', h5, h6⟩ := List.mem_map.1 hm
  rwa [← nodup_inj h.ok.o (ho o' h5) hd h6]
theorem RSt_ok (w : World) (p : RP) (D : Dk) (z : RZ) (hI : RI D z) (n : Int) (hl : D.O.length ≤ 1000000000) :
    Does Try.prog 21 [.pointer (some ⟨p.b, 0, none⟩), .int .u32 n] (z.H p) w (fun v hs => v = .agg ⟨(D.stand n).cells⟩ ∧ hs = z.H p) := by
  obtain ⟨b, mm, mo⟩ := p
  have hle := hI.lenO
  have hM := hI.mem n
  have hoo := hI.oo
  have hall := fun zs os => hI.all (zs := zs) (os := os)
  have heach := fun y => hI.each (y := y)
  obtain ⟨em, cm, eo, co⟩ := z
  dsimp only at hM hle hoo hall heach ⊢
  refine Does.less (Does.of (n := 59) Try.func21 rfl rfl rfl rfl ?_)
  refine .seq ((.region (.nw .alloc fun b4 => (.nil ?_))))
  unfold Dk.stand
  generalize D.mem n = m at hM ⊢
  refine .seq ((.region (.v (.move rfl) (.v (.nilCheck rfl) (.v (.fieldAddr rfl) (.v (.load (v := .map (some mm)) rfl (.one rfl)) (.v (.move rfl) (.v (.lookupE (es := em) (c := cm) (v := .agg ⟨m.cells⟩) rfl rfl hM) (.nw .alloc fun b5 => (.st (.sw rfl rfl) (.nil ?_)))))))))))
  refine .seq ((.region (.v (.fieldAddr rfl) (.v (.loadA (vs := m.l.cells) rfl (.chunk (fun j v hj => by match j, hj with | 0, hj => exact hj | 1, hj => exact hj | 2, hj => exact hj | 3, hj => exact hj | 4, hj => exact hj)) rfl) (.v (.fieldAddr rfl) (.v (.load (v := .bool m.kl) rfl (.one rfl)) (.v (.fieldAddr rfl) (.v (.load (v := .int .u64 m.b) rfl (.one rfl)) (.v (.fieldAddr rfl) (.v (.load (v := .int .u64 m.s) rfl (.one rfl)) (.v (.build (out := (stOf m n []).cells) rfl rfl) (.nw .alloc fun b6 => (.st (.sw rfl rfl) (.nil ?_))))))))))))))
  refine .seq (.seq ((.region (.v (.move rfl) (.v (.nilCheck rfl) (.v (.fieldAddr rfl) (.v (.load (v := .map (some mo)) rfl (.one rfl)) (.nw (.range rfl) fun r => (.nil ?_)))))))))
  refine .block (.loop (X := RSt) (fun x => [(1, .int .u32 n), (4, .pointer (some ⟨b4, 0, none⟩)), (6, .pointer (some ⟨b6, 0, none⟩)), (28, .pointer (some ⟨r, 0, none⟩))]) (fun x => (r, iter_ mo co (x.zs.map ME.born) co) :: (b6, .cells (stOf m n x.os).cells 42) :: (b4, .cells sg0.cells 42) :: RZ.H ⟨b, mm, mo⟩ ⟨em, cm, eo, co⟩) (fun x => (∀ z ∈ x.zs, z ∈ eo) ∧ (x.zs.map ME.born).Nodup ∧ (∀ o ∈ x.os, o ∈ D.O) ∧ x.zs.map (fun y => (y.1, y.2.1)) = x.os.map fun o => (o.id, .agg ⟨o.cells⟩)) (fun x => eo.length - x.zs.length) ⟨[], []⟩ ⟨by simp, by simp, by simp, rfl⟩ (.cons rfl (.cons rfl (.cons rfl (.cons rfl (.nil _))))) (fun _ s => (s.take : Sat _ _ ((r, iter_ mo co [] co) :: (b6, .cells (stOf m n []).cells 42) :: (b4, .cells sg0.cells 42) :: RZ.H ⟨b, mm, mo⟩ ⟨em, cm, eo, co⟩) _)) ?_)
  rintro ⟨zs, os⟩ ⟨h1, h2, h3, h4⟩
  dsimp only at h1 h2 h3 h4 ⊢
  refine .seq ((.region (.ef (.next (r := r) (b := mo) (c := co) (q := .u64) (es := eo) (seen := zs.map ME.born) rfl (fun y hy => hoo.c y hy) (Nat.le_refl _)) ?_)))
  rintro _ _ (⟨rfl, hdone, rfl⟩ | ⟨y, hy, hns, rfl, rfl⟩)
  · refine .v (.extract rfl rfl) (.nil ?_)
    refine .seq (.cond (b := false) rfl (fun h => absurd h (by simp)) (fun _ => .exit ?_))
    have hp : zs.Perm eo := (List.perm_ext_iff_of_nodup (nodup_of_map h2) (nodup_of_map hoo.b)).2 fun z => ⟨h1 z, fun hz => by
      obtain ⟨z', hz', e⟩ := List.mem_map.1 (hdone z hz)
      rwa [← nodup_inj hoo.b (h1 z' hz') hz e]⟩
    rw [← stOf_perm (hall zs os hp h3 h4)]
    refine .seq ((.region (.v (.loadA (vs := (stOf m n os).cells) rfl .whole rfl) (.st (.sw rfl rfl) (.nil ?_)))))
    exact .ret ⟨[_], ⟨⟨_, rfl, .inr ⟨11, _, inferInstance, rfl, rfl, .whole⟩⟩, trivial⟩, RZ.H ⟨b, mm, mo⟩ ⟨em, cm, eo, co⟩, fun _ s => s.take, rfl, rfl⟩
  · obtain ⟨o, ho, e1, e2⟩ := heach y hy
    obtain ⟨k, v, bo⟩ := y
    dsimp only at e1 e2
    subst e1; subst e2
    refine .v (.extract rfl rfl) (.nil ?_)
    refine .seq (.cond (b := true) rfl (fun _ => .skip ?_) (fun h => absurd h (by simp)))
    refine .block (.seq ((.region (.v (.entry rfl hy hoo.b) (.v (.extract rfl rfl) (.nw .alloc fun b8 => (.st (.sw rfl rfl) (.nil ?_))))))))
    have n1 : ∀ z ∈ zs ++ [((o.id, .agg ⟨o.cells⟩, bo) : ME)], z ∈ eo := fun z hz => by rcases List.mem_append.1 hz with h | h; exact h1 z h; rw [List.mem_singleton.1 h]; exact hy
    have n2 : ((zs ++ [((o.id, .agg ⟨o.cells⟩, bo) : ME)]).map ME.born).Nodup := by rw [List.map_append]; exact List.nodup_append.2 ⟨h2, by simp, fun a ha b hb e => by simp at hb; subst hb; exact hns (e ▸ ha)⟩
    have n3 := sub_len (b := eo.map ME.born) n2 (fun x hx => by obtain ⟨z, hz, rfl⟩ := List.mem_map.1 hx; exact List.mem_map.2 ⟨z, n1 z hz, rfl⟩)
    have n4 : ∀ x ∈ os ++ [o], x ∈ D.O := fun x hx => by rcases List.mem_append.1 hx with h | h; exact h3 x h; rw [List.mem_singleton.1 h]; exact ho
    have n5 : (zs ++ [((o.id, .agg ⟨o.cells⟩, bo) : ME)]).map (fun y => (y.1, y.2.1)) = (os ++ [o]).map fun o => (o.id, .agg ⟨o.cells⟩) := by rw [List.map_append, List.map_append, h4]; rfl
    have n6 : os.length = zs.length := by have := congrArg List.length h4; simpa using this.symm
    simp only [List.length_map, List.length_append, List.length_singleton] at n3
    have hc := ocnt_le n os
    have hb : (stOf m n os).c = (ocnt n os : Int) := rfl
    have eb : ((zs ++ [((o.id, .agg ⟨o.cells⟩, bo) : ME)]).map ME.born) = zs.map ME.born ++ [bo] := by rw [List.map_append]; rfl
    refine .seq (.block (.seq ((.region (.v (.fieldAddr rfl) (.v (.load (v := .int .u32 o.mb) rfl (.one rfl)) (.v (.move rfl) (.v (.nei rfl rfl) (.v (.assign rfl) (.nil ?_))))))))))
    refine .cond_dec rfl (fun g2 => .exit ?_) (fun g2 => ?_)
    · refine ⟨⟨zs ++ [((o.id, .agg ⟨o.cells⟩, bo) : ME)], os ++ [o]⟩, ⟨n1, n2, n4, n5⟩, by show eo.length - (zs ++ [_]).length < eo.length - zs.length; rw [List.length_append, List.length_singleton]; omega, .cons rfl (.cons rfl (.cons rfl (.cons rfl (.nil _)))), fun _ s => ?_⟩
      dsimp only
      rw [eb, stOf_no g2]
      exact s.take
    · have g2' : o.mb = n := by omega
      refine .seq ((.region (.v (.fieldAddr rfl) (.v (.load (v := .int .i64 o.sd) rfl (.one rfl)) (.v (.eqi rfl rfl) (.v (.assign rfl) (.nil ?_)))))))
      refine .cond_dec rfl (fun g3 => ?_) (fun g3 => ?_)
      · have es := stOf_buy (m := m) (O := os) g2' g3
        generalize stOf m n os = S at es hb ⊢
        refine .region (.v (.fieldAddr rfl) (.v (.load (v := .int .u64 S.bu) rfl (.one rfl)) (.v (.fieldAddr rfl) (.v (.load (v := .int .u64 o.r) rfl (.one rfl)) (.v (.add rfl rfl) (.v (.fieldAddr rfl) (.st (.storeL rfl rfl rfl) (.nil ?_))))))))
        rw [rk_wrap]
        refine .region (.v (.fieldAddr rfl) (.v (.load (v := .int .i64 S.c) rfl (.one rfl)) (.v (.addi rfl rfl (by omega)) (.v (.fieldAddr rfl) (.st (.storeL rfl rfl rfl) (.nil ?_))))))
        refine ⟨⟨zs ++ [((o.id, .agg ⟨o.cells⟩, bo) : ME)], os ++ [o]⟩, ⟨n1, n2, n4, n5⟩, by show eo.length - (zs ++ [_]).length < eo.length - zs.length; rw [List.length_append, List.length_singleton]; omega, .cons rfl (.cons rfl (.cons rfl (.cons rfl (.nil _)))), fun _ s => ?_⟩
        dsimp only
        rw [eb, es]
        exact s.take
      · have es := stOf_sell (m := m) (O := os) g2' g3
        generalize stOf m n os = S at es hb ⊢
        refine .region (.v (.fieldAddr rfl) (.v (.load (v := .int .u64 S.se) rfl (.one rfl)) (.v (.fieldAddr rfl) (.v (.load (v := .int .u64 o.r) rfl (.one rfl)) (.v (.add rfl rfl) (.v (.fieldAddr rfl) (.st (.storeL rfl rfl rfl) (.nil ?_))))))))
        rw [rk_wrap]
        refine .region (.v (.fieldAddr rfl) (.v (.load (v := .int .i64 S.c) rfl (.one rfl)) (.v (.addi rfl rfl (by omega)) (.v (.fieldAddr rfl) (.st (.storeL rfl rfl rfl) (.nil ?_))))))
        refine ⟨⟨zs ++ [((o.id, .agg ⟨o.cells⟩, bo) : ME)], os ++ [o]⟩, ⟨n1, n2, n4, n5⟩, by show eo.length - (zs ++ [_]).length < eo.length - zs.length; rw [List.length_append, List.length_singleton]; omega, .cons rfl (.cons rfl (.cons rfl (.cons rfl (.nil _)))), fun _ s => ?_⟩
        dsimp only
        rw [eb, es]
        exact s.take
end Go.Proofs.Ytfajjkolhajldaa

/- slices.insertionSortOrdered, cmp.Less at uint64. -/
namespace Go.Proofs.Ytfajjkolhajldaa.S64
open Go.V
open Go.Sort (ltInt swp insInner insOuter insertionSort)
set_option linter.unusedVariables false
set_option linter.unusedSimpArgs false

abbrev So64 (b o c n : Nat) (d : Array Int) (l : List Value) : Prop := SO .u64 30 b o c n d l
theorem isNaN64_ok (w : World) (x : Int) : Is Try.prog 123 [.int .u64 x] w (.bool false) := by
  refine Does.pure (Does.of (n := 6) Try.func123 rfl rfl rfl rfl ?_)
  refine .seq ((.region (.v (.assign rfl) (.nil ?_))))
  refine .seq ((.region (.v (.move rfl) (.v (.move rfl) (.v (.no (.nei rfl rfl) (by simp)) (.v (.assign rfl) (.nil ?_)))))))
  exact .ret ⟨[_], ⟨rfl, trivial⟩, rfl⟩
theorem less64_ok (w : World) (x y : Int) : Is Try.prog 102 [.int .u64 x, .int .u64 y] w (.bool (ltInt x y)) := by
  refine Does.pure (Does.of (n := 17) Try.func102 rfl rfl rfl rfl ?_)
  refine .seq ((.region (.v (.assign rfl) (.nil ?_))))
  refine .seq ((.region (.v (.move rfl) (.pc (v := .bool false) rfl rfl (fun w s => isNaN64_ok w x) ?_))))
  refine .v (.move rfl) (.and (b2 := true) 7 10 3 3 rfl rfl (fun g1 => absurd g1 (by simp)) (.v (.move rfl) (.or (b2 := ltInt x y) 12 15 3 3 rfl rfl (fun g2 => .v (.move rfl) (.v (.move rfl) (.v (.lss rfl rfl) (.nil ⟨rfl, rfl, rfl, rfl⟩)))) (.v (.assign rfl) (.nil ?_)))))
  exact .ret ⟨[_], ⟨rfl, trivial⟩, vb (by simp)⟩
structure SL where
  i : Nat
  d : Array Int
  l : List Value
set_option maxRecDepth 20000 in
theorem ins64_ok (w : World) {b o c n : Nat} {d : Array Int} {l : List Value} (k : So64 b o c n d l) (a e : Nat) (he : e ≤ n) (ha : a < 4611686018427387904) (hn : n < 4611686018427387904) :
    Does Try.prog 96 [.slice (some ⟨b, o, none⟩) n c, .int .i64 a, .int .i64 e] [(b, .cells l 30)] w (fun _ hs => ∃ l', hs = [(b, .cells l' 30)] ∧ So64 b o c n (insertionSort ltInt d a e) l') := by
  refine Does.of (n := 49) Try.func96 rfl rfl rfl rfl ?_
  refine .seq ((.region (.v (.move rfl) (.v (.addE ((a + 1 : Nat) : Int) rfl rfl (by omega) (by omega)) (.v (.assign rfl) (.nil ?_))))))
  refine .block (.loop (X := SL) (fun x => [(0, .slice (some ⟨b, o, none⟩) n c), (1, .int .i64 a), (2, .int .i64 e), (6, .int .i64 x.i)]) (fun x => [(b, .cells x.l 30)]) (fun x => (a + 1 ≤ x.i ∧ x.i ≤ a + 1 + e) ∧ So64 b o c n x.d x.l ∧ insOuter ltInt a e x.i x.d = insertionSort ltInt d a e) (fun x => a + 1 + e - x.i) ⟨a + 1, d, l⟩ ⟨⟨Nat.le_refl _, by show a + 1 ≤ _; omega⟩, k, rfl⟩ (.cons rfl (.cons rfl (.cons rfl (.cons rfl (.nil _))))) (fun _ s => s) ?_)
  rintro ⟨i, d1, l1⟩ ⟨⟨hi, hi2⟩, k1, h1⟩
  dsimp only at hi hi2 k1 h1 ⊢
  refine .seq (.seq ((.region (.v (.move rfl) (.v (.move rfl) (.v (.lss rfl rfl) (.nil ?_)))))))
  refine .cond_dec rfl (fun g => .skip ?_) (fun g => .exit ?_)
  · have hie : i < e := by omega
    rw [insOuter, if_pos hie] at h1
    refine .seq (.block (.seq ((.region (.v (.move rfl) (.v (.assign rfl) (.nil ?_)))))))
    refine .block (.loop (X := SL) (fun x => [(0, .slice (some ⟨b, o, none⟩) n c), (1, .int .i64 a), (2, .int .i64 e), (6, .int .i64 i), (7, .int .i64 x.i)]) (fun x => [(b, .cells x.l 30)]) (fun x => x.i ≤ i ∧ So64 b o c n x.d x.l ∧ insInner ltInt a x.i x.d = insInner ltInt a i d1) (fun x => x.i) ⟨i, d1, l1⟩ ⟨Nat.le_refl _, k1, rfl⟩ (.cons rfl (.cons rfl (.cons rfl (.cons rfl (.cons rfl (.nil _)))))) (fun _ s => s) ?_)
    rintro ⟨j, d2, l2⟩ ⟨hj, k2, h2⟩
    dsimp only at hj k2 h2 ⊢
    by_cases hja : a < j
    case neg =>
      refine .seq (.seq ((.drawK [(b, .cells l2 30)] (fun _ h => h) (by kernel_rfl) (by kernel_rfl) ?_)))
      refine .v (fun _ f => .move rfl) (.v (fun _ f => .move rfl) (.v (fun _ f => .no (.gtr rfl rfl) (by omega)) (.v (fun _ f => .move rfl) (.and (b2 := true) 19 29 10 10 rfl rfl (fun g1 => absurd g1 (by simp)) (.nil ?_)))))
      refine .cond_false rfl (.exit ?_)
      have hst : insInner ltInt a j d2 = d2 := by
        cases j with
        | zero => rfl
        | succ j => rw [insInner, if_neg]; simp; omega
      rw [hst] at h2
      refine .region (.v (.move rfl) (.v (.addE ((i + 1 : Nat) : Int) rfl rfl (by omega) (by omega)) (.v (.assign rfl) (.nil ?_))))
      exact ⟨⟨i + 1, d2, l2⟩, ⟨⟨by show a + 1 ≤ i + 1; omega, by show i + 1 ≤ _; omega⟩, k2, by rw [h2]; exact h1⟩, by show a + 1 + e - (i + 1) < a + 1 + e - i; omega, .cons rfl (.cons rfl (.cons rfl (.cons rfl (.nil _)))), fun _ s => s⟩
    obtain ⟨j, rfl⟩ : ∃ j', j = j' + 1 := ⟨j - 1, by omega⟩
    have hjn : j + 1 < n := by omega
    have q1 := fun hs' hsub => k2.at_ (w0 := w) (own := [b]) (hs := hs') (i := j + 1) hjn hsub
    have q0 := fun hs' hsub => k2.at_ (w0 := w) (own := [b]) (hs := hs') (i := j) (by omega) hsub
    rw [insInner] at h2
    refine .seq (.seq ((.drawK [(b, .cells l2 30)] (fun _ h => h) (by kernel_rfl) (by kernel_rfl) ?_)))
    refine .v (fun _ f => .move rfl) (.v (fun _ f => .move rfl) (.v (fun _ f => .yes (.gtr rfl rfl) (by omega)) (.v (fun _ f => .move rfl) (.and (b2 := ltInt d2[j + 1]! d2[j]!) 19 29 10 10 rfl rfl (fun g1 => .v (fun _ f => .move rfl) (.v (fun _ f => .move rfl) (.v (fun _ f => .indexN (j + 1) rfl rfl hjn) (.v (fun hs' f => .load (v := .int .u64 d2[j + 1]!) rfl (q1 hs' f)) (.v (fun _ f => .move rfl) (.v (fun _ f => .move rfl) (.v (fun _ f => .subE (j : Int) rfl rfl (by omega) (by omega)) (.v (fun _ f => .indexN j rfl rfl (by omega)) (.v (fun hs' f => .load (v := .int .u64 d2[j]!) rfl (q0 hs' f)) (.pc rfl rfl (fun w s => less64_ok w _ _) (.nil ⟨rfl, rfl, rfl, rfl⟩))))))))))) (.nil ?_)))))
    refine .cond rfl (fun g2 => .skip ?_) (fun g2 => .exit ?_)
    · have g2' : ltInt d2[j + 1]! d2[j]! = true := by simpa using g2
      rw [if_pos (by rw [g2']; simpa using hja)] at h2
      have k3 := k2.swp hjn (show j < n by omega)
      have hlen := k2.len
      generalize hx : d2[j]! = x0 at q0 k3
      generalize hy : d2[j + 1]! = x1 at q1 k3
      refine .seq (.block ((.drawY 15 [0, 1, 2, 3, 4, 5, 6, 7, 8, 9, 10, 11, 12, 13, 14, 15, 16, 17] [(b, .cells l2 30)] (fun _ h => h) (by kernel_rfl) (by kernel_rfl) ?_)))
      refine .x (fun _ _ _ => .move rfl) (.x (fun _ _ _ => .move rfl) (.x (fun _ _ _ => .move rfl) (.x (fun _ _ _ => .move rfl) (.x (fun _ _ _ => .subE (j : Int) rfl rfl (by omega) (by omega)) (.x (fun _ _ _ => .move rfl) (.x (fun _ _ _ => .move rfl) (.x (fun _ _ _ => .subE (j : Int) rfl rfl (by omega) (by omega)) (.x (fun _ _ _ => .indexN j rfl rfl (by omega)) (.v (fun hs' f => .load (v := .int .u64 x0) rfl (q0 hs' f)) (.x (fun _ _ _ => .move rfl) (.x (fun _ _ _ => .move rfl) (.x (fun _ _ _ => .indexN (j + 1) rfl rfl hjn) (.v (fun hs' f => .load (v := .int .u64 x1) rfl (q1 hs' f)) (.x (fun _ _ _ => .indexN (j + 1) rfl rfl hjn) (.st (.store rfl rfl rfl (by omega)) (.x (fun _ _ _ => .indexN j rfl rfl (by omega)) (.st2 (.store rfl rfl rfl (by rw [List.length_set]; omega)) (.nil ?_))))))))))))))))))
      refine .region (.v (.move rfl) (.v (.subE (j : Int) rfl rfl (by omega) (by omega)) (.v (.assign rfl) (.nil ?_))))
      exact ⟨⟨j, swp d2 (j + 1) j, (l2.set (o + (j + 1)) (.int .u64 x0)).set (o + j) (.int .u64 x1)⟩, ⟨by show j ≤ i; omega, k3, h2⟩, by show j < j + 1; omega, .cons rfl (.cons rfl (.cons rfl (.cons rfl (.cons rfl (.nil _))))), fun _ s => s⟩
    · have g2' : ltInt d2[j + 1]! d2[j]! = false := by simpa using g2
      rw [if_neg (by rw [g2']; simp)] at h2
      refine .region (.v (.move rfl) (.v (.addE ((i + 1 : Nat) : Int) rfl rfl (by omega) (by omega)) (.v (.assign rfl) (.nil ?_))))
      exact ⟨⟨i + 1, d2, l2⟩, ⟨⟨by show a + 1 ≤ i + 1; omega, by show i + 1 ≤ _; omega⟩, k2, by rw [h2]; exact h1⟩, by show a + 1 + e - (i + 1) < a + 1 + e - i; omega, .cons rfl (.cons rfl (.cons rfl (.cons rfl (.nil _)))), fun _ s => s⟩
  · rw [insOuter, if_neg (by omega)] at h1
    exact ⟨[], trivial, l1, rfl, by rw [← h1]; exact k1⟩
end Go.Proofs.Ytfajjkolhajldaa.S64

/- slices.siftDownOrdered, heapSortOrdered, reverseRangeOrdered at uint64. -/
namespace Go.Proofs.Ytfajjkolhajldaa.S64
open Go.V
open Go.Sort (ltInt swp siftDown heapBuild heapPop heapSort reverseLoop reverseRange)
set_option linter.unusedVariables false
set_option linter.unusedSimpArgs false

/-- the greater child -/
abbrev Kid (hi first root : Nat) (d : Array Int) (ch : Nat) : Prop := (ch = 2 * root + 2 ∧ 2 * root + 2 < hi ∧ ltInt d[first + (2 * root + 1)]! d[first + (2 * root + 1) + 1]! = true) ∨ (ch = 2 * root + 1 ∧ 2 * root + 1 < hi ∧ ¬ (2 * root + 1 + 1 < hi ∧ ltInt d[first + (2 * root + 1)]! d[first + (2 * root + 1) + 1]! = true))
theorem sift_step {hi first root ch : Nat} {d : Array Int} (h : Kid hi first root d ch) : siftDown ltInt hi first root d = if ltInt d[first + root]! d[first + ch]! = true then siftDown ltInt hi first ch (swp d (first + root) (first + ch)) else d := by
  rcases h with ⟨rfl, h1, h2⟩ | ⟨rfl, h1, h2⟩
  · rw [siftDown, dif_neg (by omega), if_pos (by rw [h2]; simpa using (by omega : 2 * root + 1 + 1 < hi))]
    by_cases hl : ltInt d[first + root]! d[first + (2 * root + 2)]! = true
    · rw [if_neg (by rw [hl]; simp), dif_pos h1, if_pos hl]
    · rw [if_pos (by simpa using hl), if_neg hl]
  · rw [siftDown, dif_neg (by omega), if_neg (by simpa using h2)]
    by_cases hl : ltInt d[first + root]! d[first + (2 * root + 1)]! = true
    · rw [if_neg (by rw [hl]; simp), if_pos hl]
    · rw [if_pos (by simpa using hl), if_neg hl]
set_option maxRecDepth 20000 in
theorem sift64_ok (w : World) {b o c n : Nat} {d : Array Int} {l : List Value} (k : So64 b o c n d l) (lo hi first : Nat) (hf : first + hi ≤ n) (hlo : lo < 2305843009213693952) (hn : n < 2305843009213693952) :
    Does Try.prog 118 [.slice (some ⟨b, o, none⟩) n c, .int .i64 lo, .int .i64 hi, .int .i64 first] [(b, .cells l 30)] w (fun _ hs => ∃ l', hs = [(b, .cells l' 30)] ∧ So64 b o c n (siftDown ltInt hi first lo d) l') := by
  refine Does.of (n := 76) Try.func118 rfl rfl rfl rfl ?_
  refine .seq ((.region (.v (.move rfl) (.v (.assign rfl) (.nil ?_)))))
  refine .block (.loop (X := SL) (fun x => [(0, .slice (some ⟨b, o, none⟩) n c), (2, .int .i64 hi), (3, .int .i64 first), (8, .int .i64 x.i)]) (fun x => [(b, .cells x.l 30)]) (fun x => x.i < 2305843009213693952 ∧ So64 b o c n x.d x.l ∧ siftDown ltInt hi first x.i x.d = siftDown ltInt hi first lo d) (fun x => hi - x.i) ⟨lo, d, l⟩ ⟨hlo, k, rfl⟩ (.cons rfl (.cons rfl (.cons rfl (.cons rfl (.nil _))))) (fun _ s => s) ?_)
  rintro ⟨root, d1, l1⟩ ⟨hr, k1, h1⟩
  dsimp only at hr k1 h1 ⊢
  refine .block (.seq ((.region (.v (.move rfl) (.v (.muli rfl rfl (by omega)) (.v (.addE ((2 * root + 1 : Nat) : Int) rfl rfl (by omega) (by omega)) (.v (.assign rfl) (.nil ?_))))))))
  refine .seq (.seq ((.region (.v (.move rfl) (.v (.move rfl) (.v (.geq rfl rfl) (.nil ?_)))))))
  refine .cond_dec rfl (fun g => .exit ?_) (fun g => .skip ?_)
  · rw [siftDown, dif_pos (by omega)] at h1
    exact ⟨[], trivial, l1, rfl, by rw [← h1]; exact k1⟩
  have hrh : 2 * root + 1 < hi := by omega
  refine .mid (X := Nat) (fun ch => [(0, .slice (some ⟨b, o, none⟩) n c), (2, .int .i64 hi), (3, .int .i64 first), (8, .int .i64 root), (9, .int .i64 ch)]) (fun _ => [(b, .cells l1 30)]) (fun ch => Kid hi first root d1 ch) (.seq ((.drawK [(b, .cells l1 30)] (fun _ h => h) (by kernel_rfl) (by kernel_rfl) ?_))) ?_
  · by_cases hg : 2 * root + 1 + 1 < hi
    case neg =>
      refine .v (fun _ f => .move rfl) (.v (fun _ f => .addE ((2 * root + 1 + 1 : Nat) : Int) rfl rfl (by omega) (by omega)) (.v (fun _ f => .move rfl) (.v (fun _ f => .no (.lss rfl rfl) (by omega)) (.v (fun _ f => .move rfl) (.and (b2 := true) 21 35 14 14 rfl rfl (fun g1 => absurd g1 (by simp)) (.nil ?_))))))
      refine .cond_false rfl (.skip ?_)
      exact ⟨2 * root + 1, .inr ⟨rfl, hrh, fun hh => hg hh.1⟩, .cons rfl (.cons rfl (.cons rfl (.cons rfl (.cons rfl (.nil _))))), fun _ s => s⟩
    have q0 := fun hs' hsub => k1.at_ (w0 := w) (own := [b]) (hs := hs') (i := first + (2 * root + 1)) (by omega) hsub
    have q1 := fun hs' hsub => k1.at_ (w0 := w) (own := [b]) (hs := hs') (i := first + (2 * root + 1) + 1) (by omega) hsub
    refine .v (fun _ f => .move rfl) (.v (fun _ f => .addE ((2 * root + 1 + 1 : Nat) : Int) rfl rfl (by omega) (by omega)) (.v (fun _ f => .move rfl) (.v (fun _ f => .yes (.lss rfl rfl) (by omega)) (.v (fun _ f => .move rfl) (.and (b2 := ltInt d1[first + (2 * root + 1)]! d1[first + (2 * root + 1) + 1]!) 21 35 14 14 rfl rfl (fun g1 => .v (fun _ f => .move rfl) (.v (fun _ f => .move rfl) (.v (fun _ f => .move rfl) (.v (fun _ f => .addE ((first + (2 * root + 1) : Nat) : Int) rfl rfl (by omega) (by omega)) (.v (fun _ f => .indexN (first + (2 * root + 1)) rfl rfl (by omega)) (.v (fun hs' f => .load (v := .int .u64 d1[first + (2 * root + 1)]!) rfl (q0 hs' f)) (.v (fun _ f => .move rfl) (.v (fun _ f => .move rfl) (.v (fun _ f => .move rfl) (.v (fun _ f => .addE ((first + (2 * root + 1) : Nat) : Int) rfl rfl (by omega) (by omega)) (.v (fun _ f => .addE ((first + (2 * root + 1) + 1 : Nat) : Int) rfl rfl (by omega) (by omega)) (.v (fun _ f => .indexN (first + (2 * root + 1) + 1) rfl rfl (by omega)) (.v (fun hs' f => .load (v := .int .u64 d1[first + (2 * root + 1) + 1]!) rfl (q1 hs' f)) (.pc rfl rfl (fun w s => less64_ok w _ _) (.nil ⟨rfl, rfl, rfl, rfl⟩))))))))))))))) (.nil ?_))))))
    refine .cond rfl (fun g2 => ?_) (fun g2 => .skip ?_)
    · have g2' : ltInt d1[first + (2 * root + 1)]! d1[first + (2 * root + 1) + 1]! = true := by simpa using g2
      refine .region (.v (.move rfl) (.v (.addE ((2 * root + 2 : Nat) : Int) rfl rfl (by omega) (by omega)) (.v (.assign rfl) (.nil ?_))))
      exact ⟨2 * root + 2, .inl ⟨rfl, by omega, g2'⟩, .cons rfl (.cons rfl (.cons rfl (.cons rfl (.cons rfl (.nil _))))), fun _ s => s⟩
    · have g2' : ¬ ltInt d1[first + (2 * root + 1)]! d1[first + (2 * root + 1) + 1]! = true := by
        have : ltInt d1[first + (2 * root + 1)]! d1[first + (2 * root + 1) + 1]! = false := by simpa using g2
        rw [this]; simp
      exact ⟨2 * root + 1, .inr ⟨rfl, hrh, fun hh => g2' hh.2⟩, .cons rfl (.cons rfl (.cons rfl (.cons rfl (.cons rfl (.nil _))))), fun _ s => s⟩
  · intro ch hk
    have hch : root < ch ∧ ch < hi := by rcases hk with ⟨h, h2, _⟩ | ⟨h, h2, _⟩ <;> omega
    rw [sift_step hk] at h1
    have q0 := fun hs' hsub => k1.at_ (w0 := w) (own := [b]) (hs := hs') (i := first + root) (by omega) hsub
    have q1 := fun hs' hsub => k1.at_ (w0 := w) (own := [b]) (hs := hs') (i := first + ch) (by omega) hsub
    have k3 := k1.swp (i := first + root) (j := first + ch) (by omega) (by omega)
    have hlen := k1.len
    generalize hx : d1[first + root]! = x0 at q0 k3 h1
    generalize hy : d1[first + ch]! = x1 at q1 k3 h1
    refine .seq (.seq ((.drawK [(b, .cells l1 30)] (fun _ h => h) (by kernel_rfl) (by kernel_rfl) ?_)))
    refine .v (fun _ f => .move rfl) (.v (fun _ f => .move rfl) (.v (fun _ f => .move rfl) (.v (fun _ f => .addE ((first + root : Nat) : Int) rfl rfl (by omega) (by omega)) (.v (fun _ f => .indexN (first + root) rfl rfl (by omega)) (.v (fun hs' f => .load (v := .int .u64 x0) rfl (q0 hs' f)) (.v (fun _ f => .move rfl) (.v (fun _ f => .move rfl) (.v (fun _ f => .move rfl) (.v (fun _ f => .addE ((first + ch : Nat) : Int) rfl rfl (by omega) (by omega)) (.v (fun _ f => .indexN (first + ch) rfl rfl (by omega)) (.v (fun hs' f => .load (v := .int .u64 x1) rfl (q1 hs' f)) (.pc rfl rfl (fun w s => less64_ok w _ _) (.v (fun _ f => .not rfl) (.nil ?_))))))))))))))
    refine .cond rfl (fun g => ?_) (fun g => .skip ?_)
    · rw [if_neg (by simpa using g)] at h1
      exact .ret ⟨[], trivial, l1, rfl, by rw [← h1]; exact k1⟩
    · rw [if_pos (by simpa using g)] at h1
      refine .seq ((.drawY 21 [0, 1, 2, 3, 4, 5, 6, 7, 8, 9, 10, 11, 12, 13, 14, 15, 16, 17, 18, 19, 20, 21, 22, 23] [(b, .cells l1 30)] (fun _ h => h) (by kernel_rfl) (by kernel_rfl) ?_))
      refine .x (fun _ _ _ => .move rfl) (.x (fun _ _ _ => .move rfl) (.x (fun _ _ _ => .move rfl) (.x (fun _ _ _ => .addE ((first + root : Nat) : Int) rfl rfl (by omega) (by omega)) (.x (fun _ _ _ => .move rfl) (.x (fun _ _ _ => .move rfl) (.x (fun _ _ _ => .move rfl) (.x (fun _ _ _ => .addE ((first + ch : Nat) : Int) rfl rfl (by omega) (by omega)) (.x (fun _ _ _ => .move rfl) (.x (fun _ _ _ => .move rfl) (.x (fun _ _ _ => .move rfl) (.x (fun _ _ _ => .addE ((first + ch : Nat) : Int) rfl rfl (by omega) (by omega)) (.x (fun _ _ _ => .indexN (first + ch) rfl rfl (by omega)) (.v (fun hs' f => .load (v := .int .u64 x1) rfl (q1 hs' f)) (.x (fun _ _ _ => .move rfl) (.x (fun _ _ _ => .move rfl) (.x (fun _ _ _ => .move rfl) (.x (fun _ _ _ => .addE ((first + root : Nat) : Int) rfl rfl (by omega) (by omega)) (.x (fun _ _ _ => .indexN (first + root) rfl rfl (by omega)) (.v (fun hs' f => .load (v := .int .u64 x0) rfl (q0 hs' f)) (.x (fun _ _ _ => .indexN (first + root) rfl rfl (by omega)) (.st (.store rfl rfl rfl (by omega)) (.x (fun _ _ _ => .indexN (first + ch) rfl rfl (by omega)) (.st2 (.store rfl rfl rfl (by rw [List.length_set]; omega)) (.nil ?_))))))))))))))))))))))))
      refine .region (.v (.move rfl) (.v (.assign rfl) (.nil ?_)))
      exact ⟨⟨ch, swp d1 (first + root) (first + ch), (l1.set (o + (first + root)) (.int .u64 x1)).set (o + (first + ch)) (.int .u64 x0)⟩, ⟨by show ch < _; omega, k3, h1⟩, by show hi - ch < hi - root; omega, .cons rfl (.cons rfl (.cons rfl (.cons rfl (.nil _)))), fun _ s => s⟩
theorem half_eq (h : Nat) : Int.tdiv ((h : Int) - 1) 2 = (((h - 1) / 2 + 1 : Nat) : Int) - 1 := by
  by_cases h0 : h = 0
  · subst h0; decide
  · rw [Int.tdiv_eq_ediv_of_nonneg (by omega)]; omega
set_option maxRecDepth 20000 in
theorem heap64_ok (w : World) {b o c n : Nat} {d : Array Int} {l : List Value} (k : So64 b o c n d l) (a e : Nat) (hae : a ≤ e) (he : e ≤ n) (hn : n < 2305843009213693952) :
    Does Try.prog 97 [.slice (some ⟨b, o, none⟩) n c, .int .i64 a, .int .i64 e] [(b, .cells l 30)] w (fun _ hs => ∃ l', hs = [(b, .cells l' 30)] ∧ So64 b o c n (heapSort ltInt d a e) l') := by
  obtain ⟨h, rfl⟩ := Nat.exists_eq_add_of_le hae
  have hS : heapSort ltInt d a (a + h) = heapPop ltInt a h (heapBuild ltInt h a ((h - 1) / 2 + 1) d) := by unfold heapSort; rw [Nat.add_sub_cancel_left]
  rw [hS]
  refine Does.of (n := 56) Try.func97 rfl rfl rfl rfl ?_
  refine .seq ((.region (.v (.move rfl) (.v (.assign rfl) (.nil ?_)))))
  refine .seq ((.region (.v (.assign rfl) (.nil ?_))))
  refine .seq ((.region (.v (.move rfl) (.v (.move rfl) (.v (.subE (h : Int) rfl rfl (by omega) (by omega)) (.v (.assign rfl) (.nil ?_)))))))
  refine .seq (.seq ((.region (.v (.move rfl) (.v (.subi rfl rfl (by omega)) (.v (.quo rfl rfl (by decide)) (.v (.assign rfl) (.nil ?_))))))))
  rw [half_eq, wrap_i64 (by omega)]
  generalize hM : heapBuild ltInt h a ((h - 1) / 2 + 1) d = D
  refine .block (.loop (X := SL) (fun x => [(0, .slice (some ⟨b, o, none⟩) n c), (6, .int .i64 a), (7, .int .i64 0), (8, .int .i64 h), (9, .int .i64 ((x.i : Int) - 1))]) (fun x => [(b, .cells x.l 30)]) (fun x => x.i ≤ (h - 1) / 2 + 1 ∧ So64 b o c n x.d x.l ∧ heapBuild ltInt h a x.i x.d = D) (fun x => x.i) ⟨(h - 1) / 2 + 1, d, l⟩ ⟨Nat.le_refl _, k, hM⟩ (.cons rfl (.cons rfl (.cons rfl (.cons rfl (.cons rfl (.nil _)))))) (fun _ s => s) ?_)
  rintro ⟨i, d1, l1⟩ ⟨hi, k1, h1⟩
  dsimp only at hi k1 h1 ⊢
  refine .seq (.seq ((.region (.v (.move rfl) (.v (.geq rfl rfl) (.nil ?_))))))
  refine .cond_dec rfl (fun g => .skip ?_) (fun g => .exit ?_)
  · obtain ⟨i, rfl⟩ : ∃ i', i = i' + 1 := ⟨i - 1, by omega⟩
    rw [show (((i + 1 : Nat) : Int) - 1) = (i : Int) by omega]
    rw [heapBuild] at h1
    refine .seq (.block ((.region (.v (.move rfl) (.v (.move rfl) (.v (.move rfl) (.v (.move rfl) ?_)))))))
    refine .ef (.callT [(b, .cells l1 30)] rfl rfl fun w s => sift64_ok w k1 i h a (by omega) (by omega) hn) ?_
    rintro _ _ ⟨_, ⟨l2, rfl, k2⟩, rfl⟩
    refine .nil ?_
    refine .region (.v (.move rfl) (.v (.subi rfl rfl (by omega)) (.v (.assign rfl) (.nil ?_))))
    exact ⟨⟨i, siftDown ltInt h a i d1, l2⟩, ⟨by show i ≤ _; omega, k2, h1⟩, by show i < i + 1; omega, .cons rfl (.cons rfl (.cons rfl (.cons rfl (.cons rfl (.nil _))))), fun _ s => s.take⟩
  have hi0 : i = 0 := by omega
  subst hi0
  rw [heapBuild] at h1
  subst h1
  refine .seq ((.region (.v (.move rfl) (.v (.subi rfl rfl (by omega)) (.v (.assign rfl) (.nil ?_))))))
  clear hi
  generalize hP : heapPop ltInt a h d1 = D
  refine .block (.loop (X := SL) (fun x => [(0, .slice (some ⟨b, o, none⟩) n c), (6, .int .i64 a), (7, .int .i64 0), (10, .int .i64 ((x.i : Int) - 1))]) (fun x => [(b, .cells x.l 30)]) (fun x => x.i ≤ h ∧ So64 b o c n x.d x.l ∧ heapPop ltInt a x.i x.d = D) (fun x => x.i) ⟨h, d1, l1⟩ ⟨Nat.le_refl _, k1, hP⟩ (.cons rfl (.cons rfl (.cons rfl (.cons rfl (.nil _))))) (fun _ s => s) ?_)
  clear k1 hP
  rintro ⟨i, d1, l1⟩ ⟨hi, k1, h1⟩
  dsimp only at hi k1 h1 ⊢
  refine .seq (.seq ((.region (.v (.move rfl) (.v (.geq rfl rfl) (.nil ?_))))))
  refine .cond_dec rfl (fun g => .skip ?_) (fun g => .exit ?_)
  · obtain ⟨i, rfl⟩ : ∃ i', i = i' + 1 := ⟨i - 1, by omega⟩
    rw [show (((i + 1 : Nat) : Int) - 1) = (i : Int) by omega]
    rw [heapPop] at h1
    have q0 := fun hs' hsub => k1.at_ (w0 := w) (own := [b]) (hs := hs') (i := a) (by omega) hsub
    have q1 := fun hs' hsub => k1.at_ (w0 := w) (own := [b]) (hs := hs') (i := a + i) (by omega) hsub
    have k3 := k1.swp (i := a) (j := a + i) (by omega) (by omega)
    have hlen := k1.len
    generalize hx : d1[a]! = x0 at q0 k3
    generalize hy : d1[a + i]! = x1 at q1 k3
    refine .seq (.block (.seq ((.drawY 17 [0, 1, 2, 3, 4, 5, 6, 7, 8, 9, 10, 11, 12, 13, 14, 15, 16, 17, 18, 19] [(b, .cells l1 30)] (fun _ h => h) (by kernel_rfl) (by kernel_rfl) ?_))))
    refine .x (fun _ _ _ => .move rfl) (.x (fun _ _ _ => .move rfl) (.x (fun _ _ _ => .move rfl) (.x (fun _ _ _ => .move rfl) (.x (fun _ _ _ => .move rfl) (.x (fun _ _ _ => .addE ((a + i : Nat) : Int) rfl rfl (by omega) (by omega)) (.x (fun _ _ _ => .move rfl) (.x (fun _ _ _ => .move rfl) (.x (fun _ _ _ => .move rfl) (.x (fun _ _ _ => .addE ((a + i : Nat) : Int) rfl rfl (by omega) (by omega)) (.x (fun _ _ _ => .indexN (a + i) rfl rfl (by omega)) (.v (fun hs' f => .load (v := .int .u64 x1) rfl (q1 hs' f)) (.x (fun _ _ _ => .move rfl) (.x (fun _ _ _ => .move rfl) (.x (fun _ _ _ => .indexN a rfl rfl (by omega)) (.v (fun hs' f => .load (v := .int .u64 x0) rfl (q0 hs' f)) (.x (fun _ _ _ => .indexN a rfl rfl (by omega)) (.st (.store rfl rfl rfl (by omega)) (.x (fun _ _ _ => .indexN (a + i) rfl rfl (by omega)) (.st2 (.store rfl rfl rfl (by rw [List.length_set]; omega)) (.nil ?_))))))))))))))))))))
    refine .region (.v (.move rfl) (.v (.move rfl) (.v (.move rfl) (.v (.move rfl) ?_))))
    refine .ef (.callT [(b, .cells ((l1.set (o + a) (.int .u64 x1)).set (o + (a + i)) (.int .u64 x0)) 30)] rfl rfl fun w s => sift64_ok w k3 0 i a (by omega) (by omega) hn) ?_
    rintro _ _ ⟨_, ⟨l2, rfl, k2⟩, rfl⟩
    refine .nil ?_
    refine .region (.v (.move rfl) (.v (.subi rfl rfl (by omega)) (.v (.assign rfl) (.nil ?_))))
    exact ⟨⟨i, siftDown ltInt i a 0 (swp d1 a (a + i)), l2⟩, ⟨by show i ≤ _; omega, k2, h1⟩, by show i < i + 1; omega, .cons rfl (.cons rfl (.cons rfl (.cons rfl (.nil _)))), fun _ s => s.take⟩
  · have hi0 : i = 0 := by omega
    subst hi0
    rw [heapPop] at h1
    subst h1
    exact ⟨[], trivial, l1, rfl, k1⟩
set_option maxRecDepth 20000 in
theorem rev64_ok (w : World) {b o c n : Nat} {d : Array Int} {l : List Value} (k : So64 b o c n d l) (a e : Nat) (hae : a < e) (he : e ≤ n) (hn : n < 2305843009213693952) :
    Does Try.prog 100 [.slice (some ⟨b, o, none⟩) n c, .int .i64 a, .int .i64 e] [(b, .cells l 30)] w (fun _ hs => ∃ l', hs = [(b, .cells l' 30)] ∧ So64 b o c n (reverseRange d a e) l') := by
  refine Does.of (n := 32) Try.func100 rfl rfl rfl rfl ?_
  refine .seq ((.region (.v (.move rfl) (.v (.assign rfl) (.nil ?_)))))
  refine .seq ((.region (.v (.move rfl) (.v (.subE ((e - 1 : Nat) : Int) rfl rfl (by omega) (by omega)) (.v (.assign rfl) (.nil ?_))))))
  unfold reverseRange
  generalize hR : reverseLoop a (e - 1) d = D
  refine .block (.loop (X := SL × Nat) (fun x => [(0, .slice (some ⟨b, o, none⟩) n c), (6, .int .i64 x.1.i), (7, .int .i64 x.2)]) (fun x => [(b, .cells x.1.l 30)]) (fun x => (x.1.i ≤ n ∧ x.2 < n) ∧ So64 b o c n x.1.d x.1.l ∧ reverseLoop x.1.i x.2 x.1.d = D) (fun x => x.2 - x.1.i) (⟨a, d, l⟩, e - 1) ⟨⟨by show a ≤ n; omega, by show e - 1 < n; omega⟩, k, hR⟩ (.cons rfl (.cons rfl (.cons rfl (.nil _)))) (fun _ s => s) ?_)
  rintro ⟨⟨i, d1, l1⟩, j⟩ ⟨⟨hi, hj⟩, k1, h1⟩
  dsimp only at hi hj k1 h1 ⊢
  refine .seq (.seq ((.region (.v (.move rfl) (.v (.move rfl) (.v (.lss rfl rfl) (.nil ?_)))))))
  refine .cond_dec rfl (fun g => .skip ?_) (fun g => .exit ?_)
  · have hij : i < j := by omega
    rw [reverseLoop, if_pos hij] at h1
    have q0 := fun hs' hsub => k1.at_ (w0 := w) (own := [b]) (hs := hs') (i := i) (by omega) hsub
    have q1 := fun hs' hsub => k1.at_ (w0 := w) (own := [b]) (hs := hs') (i := j) (by omega) hsub
    have k3 := k1.swp (i := i) (j := j) (by omega) (by omega)
    have hlen := k1.len
    generalize hx : d1[i]! = x0 at q0 k3
    generalize hy : d1[j]! = x1 at q1 k3
    refine .block (.seq ((.drawY 13 [0, 1, 2, 3, 4, 5, 6, 7, 8, 9, 10, 11, 12, 13, 14, 15] [(b, .cells l1 30)] (fun _ h => h) (by kernel_rfl) (by kernel_rfl) ?_)))
    refine .x (fun _ _ _ => .move rfl) (.x (fun _ _ _ => .move rfl) (.x (fun _ _ _ => .move rfl) (.x (fun _ _ _ => .move rfl) (.x (fun _ _ _ => .move rfl) (.x (fun _ _ _ => .move rfl) (.x (fun _ _ _ => .indexN j rfl rfl (by omega)) (.v (fun hs' f => .load (v := .int .u64 x1) rfl (q1 hs' f)) (.x (fun _ _ _ => .move rfl) (.x (fun _ _ _ => .move rfl) (.x (fun _ _ _ => .indexN i rfl rfl (by omega)) (.v (fun hs' f => .load (v := .int .u64 x0) rfl (q0 hs' f)) (.x (fun _ _ _ => .indexN i rfl rfl (by omega)) (.st (.store rfl rfl rfl (by omega)) (.x (fun _ _ _ => .indexN j rfl rfl (by omega)) (.st2 (.store rfl rfl rfl (by rw [List.length_set]; omega)) (.nil ?_))))))))))))))))
    refine .seq ((.region (.v (.move rfl) (.v (.addE ((i + 1 : Nat) : Int) rfl rfl (by omega) (by omega)) (.v (.assign rfl) (.nil ?_))))))
    refine .region (.v (.move rfl) (.v (.subE ((j - 1 : Nat) : Int) rfl rfl (by omega) (by omega)) (.v (.assign rfl) (.nil ?_))))
    exact ⟨(⟨i + 1, swp d1 i j, (l1.set (o + i) (.int .u64 x1)).set (o + j) (.int .u64 x0)⟩, j - 1), ⟨⟨by show i + 1 ≤ n; omega, by show j - 1 < n; omega⟩, k3, h1⟩, by show j - 1 - (i + 1) < j - i; omega, .cons rfl (.cons rfl (.cons rfl (.nil _))), fun _ s => s⟩
  · rw [reverseLoop, if_neg (by omega)] at h1
    exact ⟨[], trivial, l1, rfl, by rw [← h1]; exact k1⟩
end Go.Proofs.Ytfajjkolhajldaa.S64

/- slices.order2Ordered, medianOrdered, medianAdjacentOrdered at uint64. -/
namespace Go.Proofs.Ytfajjkolhajldaa.S64
open Go.V
open Go.Sort (ltInt order2 median medianAdjacent)
set_option linter.unusedVariables false
set_option linter.unusedSimpArgs false

abbrev SwB (bs s : Nat) : Nat × Ch := (bs, .cells [.int .i64 s] 3)
theorem order2_lt (d : Array Int) {x y s n : Nat} (hx : x < n) (hy : y < n) : (order2 ltInt d x y s).1 < n ∧ (order2 ltInt d x y s).2.1 < n ∧ (order2 ltInt d x y s).2.2 ≤ s + 1 := by
  unfold order2; split <;> dsimp only <;> omega
set_option maxRecDepth 20000 in
theorem order64_ok (w : World) {b o c n bs : Nat} {d : Array Int} (hsz : d.size = n) (hR : Rd w [bs] (some ⟨b, o, none⟩) (ints .u64 d.toList)) (x y s : Nat) (hx : x < n) (hy : y < n) (hs : s < 4611686018427387904) (hn : n < 2305843009213693952) :
    Does Try.prog 129 [.slice (some ⟨b, o, none⟩) n c, .int .i64 x, .int .i64 y, .pointer (some ⟨bs, 0, none⟩)] [SwB bs s] w (fun v hs => v = .tuple ⟨[.int .i64 (order2 ltInt d x y s).1, .int .i64 (order2 ltInt d x y s).2.1]⟩ ∧ hs = [SwB bs (order2 ltInt d x y s).2.2]) := by
  refine Does.of (n := 28) Try.func129 rfl rfl rfl rfl ?_
  refine .seq ((.region (.v (.assign rfl) (.v (.assign rfl) (.nil ?_)))))
  have qx := fun hs' => Rd.cell (hs := hs') hR (i := x) (ints_get (q := .u64) (d := d) (by omega))
  have qy := fun hs' => Rd.cell (hs := hs') hR (i := y) (ints_get (q := .u64) (d := d) (by omega))
  unfold order2
  generalize d[x]! = x0 at qx
  generalize d[y]! = x1 at qy
  refine .seq (.seq ((.drawK [] (List.nil_subset _) (by kernel_rfl) (by kernel_rfl) ?_)))
  refine .v (fun _ f => .move rfl) (.v (fun _ f => .move rfl) (.v (fun _ f => .indexN y rfl rfl hy) (.v (fun hs' f => .load (v := .int .u64 x1) rfl (qy hs')) (.v (fun _ f => .move rfl) (.v (fun _ f => .move rfl) (.v (fun _ f => .indexN x rfl rfl hx) (.v (fun hs' f => .load (v := .int .u64 x0) rfl (qx hs')) (.pc rfl rfl (fun w s => less64_ok w _ _) (.nil ?_)))))))))
  refine .cond rfl (fun g => ?_) (fun g => .skip ?_)
  · rw [if_pos g]
    refine .seq ((.region (.v (.move rfl) (.v (.nilCheck rfl) (.v (.load (v := .int .i64 s) rfl (.one rfl)) (.v (.addE ((s + 1 : Nat) : Int) rfl rfl (by omega) (by omega)) (.v (.nilCheck rfl) (.st (.storeL rfl rfl rfl) (.nil ?_)))))))))
    refine .seq ((.region (.v (.move rfl) (.v (.move rfl) (.v (.assign rfl) (.v (.assign rfl) (.nil ?_)))))))
    exact .ret ⟨[_, _], ⟨rfl, rfl, trivial⟩, rfl, rfl⟩
  · rw [if_neg (by rw [g]; simp)]
    refine .seq ((.region (.v (.move rfl) (.v (.move rfl) (.v (.assign rfl) (.v (.assign rfl) (.nil ?_)))))))
    exact .ret ⟨[_, _], ⟨rfl, rfl, trivial⟩, rfl, rfl⟩
theorem median_lt (d : Array Int) {x y z s n : Nat} (hx : x < n) (hy : y < n) (hz : z < n) : (median ltInt d x y z s).1 < n ∧ (median ltInt d x y z s).2 ≤ s + 3 := by
  unfold median
  dsimp only
  obtain ⟨a1, a2, a3⟩ := order2_lt d (s := s) hx hy
  generalize order2 ltInt d x y s = r1 at a1 a2 a3
  obtain ⟨b1, b2, b3⟩ := order2_lt d (s := r1.2.2) a2 hz
  generalize order2 ltInt d r1.2.1 z r1.2.2 = r2 at b1 b2 b3
  obtain ⟨c1, c2, c3⟩ := order2_lt d (s := r2.2.2) a1 b1
  exact ⟨c2, by omega⟩
set_option maxRecDepth 20000 in
theorem median64_ok (w : World) {b o c n bs : Nat} {d : Array Int} (hsz : d.size = n) (hR : Rd w [bs] (some ⟨b, o, none⟩) (ints .u64 d.toList)) (x y z s : Nat) (hx : x < n) (hy : y < n) (hz : z < n) (hs : s < 4611686018427387900) (hn : n < 2305843009213693952) :
    Does Try.prog 122 [.slice (some ⟨b, o, none⟩) n c, .int .i64 x, .int .i64 y, .int .i64 z, .pointer (some ⟨bs, 0, none⟩)] [SwB bs s] w (fun v hs => v = .int .i64 (median ltInt d x y z s).1 ∧ hs = [SwB bs (median ltInt d x y z s).2]) := by
  refine Does.of (n := 36) Try.func122 rfl rfl rfl rfl ?_
  refine .seq ((.region (.v (.assign rfl) (.nil ?_))))
  unfold median
  dsimp only
  obtain ⟨a1, a2, a3⟩ := order2_lt d (s := s) hx hy
  refine .seq ((.region (.v (.move rfl) (.v (.move rfl) (.v (.move rfl) (.v (.move rfl) ?_))))))
  refine .ef (.callT [SwB bs s] rfl rfl fun w' k => order64_ok w' hsz (hR.keep k (by simp [bl])) x y s hx hy (by omega) hn) ?_
  generalize order2 ltInt d x y s = r1 at a1 a2 a3
  rintro _ _ ⟨_, ⟨rfl, rfl⟩, rfl⟩
  refine .v (.move rfl) (.v (.extract rfl rfl) (.v (.extract rfl rfl) (.v (.assign rfl) (.v (.assign rfl) (.nil ?_)))))
  obtain ⟨b1, b2, b3⟩ := order2_lt d (s := r1.2.2) a2 hz
  refine .seq ((.region (.v (.move rfl) (.v (.move rfl) (.v (.move rfl) (.v (.move rfl) ?_))))))
  refine .ef (.callT [SwB bs r1.2.2] rfl rfl fun w' k => order64_ok w' hsz (hR.keep k (by simp [bl])) r1.2.1 z r1.2.2 a2 hz (by omega) hn) ?_
  generalize order2 ltInt d r1.2.1 z r1.2.2 = r2 at b1 b2 b3
  rintro _ _ ⟨_, ⟨rfl, rfl⟩, rfl⟩
  refine .v (.move rfl) (.v (.extract rfl rfl) (.v (.extract rfl rfl) (.v (.assign rfl) (.v (.assign rfl) (.nil ?_)))))
  obtain ⟨c1, c2, c3⟩ := order2_lt d (s := r2.2.2) a1 b1
  refine .seq ((.region (.v (.move rfl) (.v (.move rfl) (.v (.move rfl) (.v (.move rfl) ?_))))))
  refine .ef (.callT [SwB bs r2.2.2] rfl rfl fun w' k => order64_ok w' hsz (hR.keep k (by simp [bl])) r1.1 r2.1 r2.2.2 a1 b1 (by omega) hn) ?_
  generalize order2 ltInt d r1.1 r2.1 r2.2.2 = r3 at c1 c2 c3
  rintro _ _ ⟨_, ⟨rfl, rfl⟩, rfl⟩
  refine .v (.move rfl) (.v (.extract rfl rfl) (.v (.extract rfl rfl) (.v (.assign rfl) (.v (.assign rfl) (.nil ?_)))))
  refine .seq ((.region (.v (.move rfl) (.v (.assign rfl) (.nil ?_)))))
  exact .ret ⟨[_], ⟨rfl, trivial⟩, rfl, rfl⟩
set_option maxRecDepth 20000 in
theorem adjacent64_ok (w : World) {b o c n bs : Nat} {d : Array Int} (hsz : d.size = n) (hR : Rd w [bs] (some ⟨b, o, none⟩) (ints .u64 d.toList)) (x s : Nat) (h0 : 0 < x) (hx : x + 1 < n) (hs : s < 4611686018427387900) (hn : n < 2305843009213693952) :
    Does Try.prog 121 [.slice (some ⟨b, o, none⟩) n c, .int .i64 x, .pointer (some ⟨bs, 0, none⟩)] [SwB bs s] w (fun v hs => v = .int .i64 (medianAdjacent ltInt d x s).1 ∧ hs = [SwB bs (medianAdjacent ltInt d x s).2]) := by
  refine Does.of (n := 15) Try.func121 rfl rfl rfl rfl ?_
  refine .seq ((.region (.v (.assign rfl) (.nil ?_))))
  unfold medianAdjacent
  refine .seq ((.region (.v (.move rfl) (.v (.move rfl) (.v (.subE ((x - 1 : Nat) : Int) rfl rfl (by omega) (by omega)) (.v (.move rfl) (.v (.move rfl) (.v (.addE ((x + 1 : Nat) : Int) rfl rfl (by omega) (by omega)) (.v (.move rfl) ?_)))))))))
  refine .ef (.callT [SwB bs s] rfl rfl fun w' k => median64_ok w' hsz (hR.keep k (by simp [bl])) (x - 1) x (x + 1) s (by omega) (by omega) hx hs hn) ?_
  generalize median ltInt d (x - 1) x (x + 1) s = r
  rintro _ _ ⟨_, ⟨rfl, rfl⟩, rfl⟩
  refine .v (.assign rfl) (.nil ?_)
  exact .ret ⟨[_], ⟨rfl, trivial⟩, rfl, rfl⟩
end Go.Proofs.Ytfajjkolhajldaa.S64

/- slices.choosePivotOrdered at uint64. -/
namespace Go.Proofs.Ytfajjkolhajldaa.S64
open Go.V
open Go.Sort (ltInt order2 median medianAdjacent choosePivot Hint)
set_option linter.unusedVariables false
set_option linter.unusedSimpArgs false

def hintV : Hint → Int
  | .unknown => 0
  | .increasing => 1
  | .decreasing => 2
def cpR (d : Array Int) (a e : Nat) : Nat × Nat :=
  if e - a ≥ 8 then
    if e - a ≥ 50 then
      let ri := medianAdjacent ltInt d (a + (e - a) / 4 * 1) 0
      let rj := medianAdjacent ltInt d (a + (e - a) / 4 * 2) ri.2
      let rk := medianAdjacent ltInt d (a + (e - a) / 4 * 3) rj.2
      median ltInt d ri.1 rj.1 rk.1 rk.2
    else median ltInt d (a + (e - a) / 4 * 1) (a + (e - a) / 4 * 2) (a + (e - a) / 4 * 3) 0
  else (a + (e - a) / 4 * 2, 0)
theorem cp_eq (d : Array Int) (a e : Nat) : choosePivot ltInt d a e = ((cpR d a e).1, if (cpR d a e).2 = 0 then .increasing else if (cpR d a e).2 = 12 then .decreasing else .unknown) := rfl
theorem adj_lt (d : Array Int) {x s n : Nat} (h0 : 0 < x) (hx : x + 1 < n) : (medianAdjacent ltInt d x s).1 < n ∧ (medianAdjacent ltInt d x s).2 ≤ s + 3 := median_lt d (by omega) (by omega) hx
structure C4 where
  x : Nat
  y : Nat
  z : Nat
  s : Nat
set_option maxRecDepth 20000 in
theorem choose64_ok (w : World) {b o c n : Nat} {d : Array Int} (hsz : d.size = n) (hR : Rd w [] (some ⟨b, o, none⟩) (ints .u64 d.toList)) (a e : Nat) (hae : a < e) (he : e ≤ n) (hn : n < 2305843009213693952) :
    Does Try.prog 99 [.slice (some ⟨b, o, none⟩) n c, .int .i64 a, .int .i64 e] [] w (fun v hs => v = .tuple ⟨[.int .i64 (choosePivot ltInt d a e).1, .int .i64 (hintV (choosePivot ltInt d a e).2)]⟩ ∧ hs = []) := by
  refine Does.less (Does.of (n := 57) Try.func99 rfl rfl rfl rfl ?_)
  obtain ⟨h, rfl⟩ := Nat.exists_eq_add_of_le (Nat.le_of_lt hae)
  rw [cp_eq]
  have hr : cpR d a (a + h) = if h ≥ 8 then if h ≥ 50 then median ltInt d (medianAdjacent ltInt d (a + h / 4 * 1) 0).1 (medianAdjacent ltInt d (a + h / 4 * 2) (medianAdjacent ltInt d (a + h / 4 * 1) 0).2).1 (medianAdjacent ltInt d (a + h / 4 * 3) (medianAdjacent ltInt d (a + h / 4 * 2) (medianAdjacent ltInt d (a + h / 4 * 1) 0).2).2).1 (medianAdjacent ltInt d (a + h / 4 * 3) (medianAdjacent ltInt d (a + h / 4 * 2) (medianAdjacent ltInt d (a + h / 4 * 1) 0).2).2).2 else median ltInt d (a + h / 4 * 1) (a + h / 4 * 2) (a + h / 4 * 3) 0 else (a + h / 4 * 2, 0) := by
    unfold cpR; rw [Nat.add_sub_cancel_left]
  generalize cpR d a (a + h) = R at hr ⊢
  generalize hq : h / 4 = q at hr
  have hq4 : (h : Int) / 4 = (q : Int) := by omega
  refine .seq ((.region (.v (.assign rfl) (.v (.assign rfl) (.nil ?_)))))
  refine .seq ((.region (.v (.move rfl) (.v (.move rfl) (.v (.subE (h : Int) rfl rfl (by omega) (by omega)) (.v (.assign rfl) (.nil ?_)))))))
  refine .seq ((.region (.nw .alloc fun b9 => (.nil ?_))))
  refine .seq ((.region (.v (.move rfl) (.v (.move rfl) (.v (.quoN q rfl rfl (by decide) hq4 (by omega) (by omega)) (.v (.muli rfl rfl (by omega)) (.v (.addE ((a + q * 1 : Nat) : Int) rfl rfl (by omega) (by omega)) (.v (.assign rfl) (.nil ?_)))))))))
  refine .seq ((.region (.v (.move rfl) (.v (.move rfl) (.v (.quoN q rfl rfl (by decide) hq4 (by omega) (by omega)) (.v (.muli rfl rfl (by omega)) (.v (.addE ((a + q * 2 : Nat) : Int) rfl rfl (by omega) (by omega)) (.v (.assign rfl) (.nil ?_)))))))))
  refine .seq ((.region (.v (.move rfl) (.v (.move rfl) (.v (.quoN q rfl rfl (by decide) hq4 (by omega) (by omega)) (.v (.muli rfl rfl (by omega)) (.v (.addE ((a + q * 3 : Nat) : Int) rfl rfl (by omega) (by omega)) (.v (.assign rfl) (.nil ?_)))))))))
  refine .keep [SwB b9 0] ?_
  refine .mid (X := Nat × Nat) (fun x => [(9, .pointer (some ⟨b9, 0, none⟩)), (11, .int .i64 x.1)]) (fun x => [SwB b9 x.2]) (fun x => x = R ∧ x.2 ≤ 12) (.seq ((.region (.v (.move rfl) (.v (.geq rfl rfl) (.nil ?_)))))) ?_
  · refine .cond_dec rfl (fun h1 => ?_) (fun h1 => .skip ?_)
    · have h8 : h ≥ 8 := by omega
      rw [if_pos h8] at hr
      refine .mid (X := C4) (fun x => [(0, .slice (some ⟨b, o, none⟩) n c), (9, .pointer (some ⟨b9, 0, none⟩)), (10, .int .i64 x.x), (11, .int .i64 x.y), (12, .int .i64 x.z)]) (fun x => [SwB b9 x.s]) (fun x => R = median ltInt d x.x x.y x.z x.s ∧ (x.x < n ∧ x.y < n ∧ x.z < n ∧ x.s ≤ 9)) (.seq ((.region (.v (.move rfl) (.v (.geq rfl rfl) (.nil ?_)))))) ?_
      · refine .cond_dec rfl (fun h2 => ?_) (fun h2 => .skip ?_)
        · have h50 : h ≥ 50 := by omega
          rw [if_pos h50] at hr
          obtain ⟨u1, u2⟩ := adj_lt d (x := a + q * 1) (s := 0) (n := n) (by omega) (by omega)
          refine .seq ((.region (.v (.move rfl) (.v (.move rfl) ?_))))
          refine .ef (.callT [SwB b9 0] rfl rfl fun w' k => adjacent64_ok w' hsz (hR.keep k (fun y hy => k.mine y (by simp at hy; subst hy; simp [bl]))) (a + q * 1) 0 (by omega) (by omega) (by omega) hn) ?_
          generalize medianAdjacent ltInt d (a + q * 1) 0 = r1 at u1 u2 hr
          rintro _ _ ⟨_, ⟨rfl, rfl⟩, rfl⟩
          refine .v (.assign rfl) (.nil ?_)
          obtain ⟨v1, v2⟩ := adj_lt d (x := a + q * 2) (s := r1.2) (n := n) (by omega) (by omega)
          refine .seq ((.region (.v (.move rfl) (.v (.move rfl) ?_))))
          refine .ef (.callT [SwB b9 r1.2] rfl rfl fun w' k => adjacent64_ok w' hsz (hR.keep k (fun y hy => k.mine y (by simp at hy; subst hy; simp [bl]))) (a + q * 2) r1.2 (by omega) (by omega) (by omega) hn) ?_
          generalize medianAdjacent ltInt d (a + q * 2) r1.2 = r2 at v1 v2 hr
          rintro _ _ ⟨_, ⟨rfl, rfl⟩, rfl⟩
          refine .v (.assign rfl) (.nil ?_)
          obtain ⟨x1, x2⟩ := adj_lt d (x := a + q * 3) (s := r2.2) (n := n) (by omega) (by omega)
          refine .region (.v (.move rfl) (.v (.move rfl) ?_))
          refine .ef (.callT [SwB b9 r2.2] rfl rfl fun w' k => adjacent64_ok w' hsz (hR.keep k (fun y hy => k.mine y (by simp at hy; subst hy; simp [bl]))) (a + q * 3) r2.2 (by omega) (by omega) (by omega) hn) ?_
          generalize medianAdjacent ltInt d (a + q * 3) r2.2 = r3 at x1 x2 hr
          rintro _ _ ⟨_, ⟨rfl, rfl⟩, rfl⟩
          refine .v (.assign rfl) (.nil ?_)
          exact ⟨⟨r1.1, r2.1, r3.1, r3.2⟩, ⟨hr, u1, v1, x1, by show r3.2 ≤ 9; omega⟩, .cons rfl (.cons rfl (.cons rfl (.cons rfl (.cons rfl (.nil _))))), fun _ s => s.take⟩
        · rw [if_neg (by omega)] at hr
          exact ⟨⟨a + q * 1, a + q * 2, a + q * 3, 0⟩, ⟨hr, by show a + q * 1 < n; omega, by show a + q * 2 < n; omega, by show a + q * 3 < n; omega, by show 0 ≤ 9; omega⟩, .cons rfl (.cons rfl (.cons rfl (.cons rfl (.cons rfl (.nil _))))), fun _ s => s.take⟩
      · rintro ⟨x, y, z, s⟩ ⟨hm, hx, hy, hz, hs⟩
        dsimp only at hm hx hy hz hs ⊢
        obtain ⟨m1, m2⟩ := median_lt d (s := s) hx hy hz
        refine .region (.v (.move rfl) (.v (.move rfl) (.v (.move rfl) (.v (.move rfl) ?_))))
        refine .ef (.callT [SwB b9 s] rfl rfl fun w' k => median64_ok w' hsz (hR.keep k (fun y hy => k.mine y (by simp at hy; subst hy; simp [bl]))) x y z s hx hy hz (by omega) hn) ?_
        generalize median ltInt d x y z s = r at m1 m2 hm
        rintro _ _ ⟨_, ⟨rfl, rfl⟩, rfl⟩
        refine .v (.assign rfl) (.nil ?_)
        exact ⟨r, ⟨hm.symm, by omega⟩, .cons rfl (.cons rfl (.nil _)), fun _ s => s.take⟩
    · rw [if_neg (by omega)] at hr
      exact ⟨(a + q * 2, 0), ⟨hr.symm, Nat.zero_le _⟩, .cons rfl (.cons rfl (.nil _)), fun _ s => s.take⟩
  · rintro ⟨j, s⟩ ⟨hx, hs⟩
    subst hx
    dsimp only at hs ⊢
    refine .seq ((.region (.v (.load (v := .int .i64 s) rfl (.one rfl)) (.nil ?_))))
    refine .block (.seq ((.region (.v (.eqi rfl rfl) (.v (.assign rfl) (.nil ?_))))))
    refine .cond_dec rfl (fun h3 => ?_) (fun h3 => ?_)
    · rw [if_pos (by omega)]
      refine .seq ((.region (.v (.move rfl) (.v (.assign rfl) (.v (.assign rfl) (.nil ?_))))))
      exact .ret ⟨[_, _], ⟨rfl, rfl, trivial⟩, [], fun _ s => s.sub (List.nil_sublist _), rfl, rfl⟩
    · rw [if_neg (by omega)]
      refine .seq ((.region (.v (.eqi rfl rfl) (.v (.assign rfl) (.nil ?_)))))
      refine .cond_dec rfl (fun h4 => ?_) (fun h4 => ?_)
      · rw [if_pos (by omega)]
        refine .seq ((.region (.v (.move rfl) (.v (.assign rfl) (.v (.assign rfl) (.nil ?_))))))
        exact .ret ⟨[_, _], ⟨rfl, rfl, trivial⟩, [], fun _ s => s.sub (List.nil_sublist _), rfl, rfl⟩
      · rw [if_neg (by omega)]
        refine .seq ((.region (.v (.move rfl) (.v (.assign rfl) (.v (.assign rfl) (.nil ?_))))))
        exact .ret ⟨[_, _], ⟨rfl, rfl, trivial⟩, [], fun _ s => s.sub (List.nil_sublist _), rfl, rfl⟩
end Go.Proofs.Ytfajjkolhajldaa.S64

/- slices.partitionOrdered, partitionEqualOrdered at uint64 (printed by wip/gen/gen_part.py). -/
namespace Go.Proofs.Ytfajjkolhajldaa.S64
open Go.V
open Go.Sort (ltInt swp scanUp scanDown partLoop partEqLoop partition partitionEqual)
set_option linter.unusedVariables false
set_option linter.unusedSimpArgs false
section
variable {p : Int → Bool} {d : Array Int} {i j : Nat}
theorem su_go (h : i ≤ j) (hp : p d[i]! = true) : scanUp p d j i = scanUp p d j (i + 1) := by rw [scanUp, if_pos]; simp [h, hp]
theorem su_end (h : j < i) : scanUp p d j i = i := by rw [scanUp, if_neg]; simp; omega
theorem su_stop (hp : p d[i]! = false) : scanUp p d j i = i := by rw [scanUp, if_neg]; simp [hp]
theorem sd_go (h : i ≤ j + 1) (hp : p d[j + 1]! = true) : scanDown p d i (j + 1) = scanDown p d i j := by rw [scanDown, if_pos]; simp [h, hp]
theorem sd_end (h : j < i) : scanDown p d i j = j := by
  cases j with
  | zero => rw [scanDown]
  | succ j => rw [scanDown, if_neg]; simp; omega
theorem sd_stop (hp : p d[j]! = false) : scanDown p d i j = j := by
  cases j with
  | zero => rw [scanDown]
  | succ j => rw [scanDown, if_neg]; simp [hp]
end
structure ParS where
  i : Nat
  j : Nat
  d : Array Int
  l : List Value
set_option maxRecDepth 20000 in
theorem partition64_ok (w : World) {b o c n : Nat} {d : Array Int} {l : List Value} (k : So64 b o c n d l) (a e p : Nat) (hap : a ≤ p) (hpe : p < e) (he : e ≤ n) (hn : n < 2305843009213693952) :
    Does Try.prog 104 [.slice (some ⟨b, o, none⟩) n c, .int .i64 a, .int .i64 e, .int .i64 p] [(b, .cells l 30)] w (fun v hs => ∃ l' f, v = .tuple ⟨[.int .i64 (partition ltInt d a e p).1, .bool f]⟩ ∧ hs = [(b, .cells l' 30)] ∧ So64 b o c n (partition ltInt d a e p).2.2 l') := by
  rw [Go.Sort.partition_fst, Go.Sort.partition_arr]
  generalize hPL : partLoop ltInt a (a + 1) (e - 1) (swp d a p) = PL
  refine Does.of (n := 168) Try.func104 rfl rfl rfl rfl ?_
  refine .seq ((.region (.v (.assign rfl) (.v (.assign rfl) (.nil ?_)))))
  refine .mid (X := Array Int × List Value) (fun _ => [(0, .slice (some ⟨b, o, none⟩) n c), (1, .int .i64 a), (2, .int .i64 e)]) (fun x => [(b, .cells x.2 30)]) (fun x => x.1 = swp d a p ∧ So64 b o c n x.1 x.2) ?_ ?_
  · have ks := k.swp (i := a) (j := p) (by omega) (by omega)
    have q0 := fun hs' hsub => k.at_ (w0 := w) (own := [b]) (hs := hs') (i := a) (by omega) hsub
    have q1 := fun hs' hsub => k.at_ (w0 := w) (own := [b]) (hs := hs') (i := p) (by omega) hsub
    have hlen := k.len
    have ex : ∃ d' : Array Int, d' = swp d a p := ⟨_, rfl⟩
    generalize d[a]! = x0 at q0 ks
    generalize d[p]! = x1 at q1 ks
    refine .drawY 13 [0, 1, 2, 3, 4, 5, 6, 7, 8, 9, 10, 11, 12, 13, 14, 15] [(b, .cells l 30)] (fun _ h => h) (by kernel_rfl) (by kernel_rfl) ?_
    refine .x (fun _ _ _ => .move rfl) (.x (fun _ _ _ => .move rfl) (.x (fun _ _ _ => .move rfl) (.x (fun _ _ _ => .move rfl) (.x (fun _ _ _ => .move rfl) (.x (fun _ _ _ => .move rfl) (.x (fun _ _ _ => .indexN (p) rfl rfl (by omega)) (.v (fun hs' f => .load (v := .int .u64 x1) rfl (q1 hs' f)) (.x (fun _ _ _ => .move rfl) (.x (fun _ _ _ => .move rfl) (.x (fun _ _ _ => .indexN (a) rfl rfl (by omega)) (.v (fun hs' f => .load (v := .int .u64 x0) rfl (q0 hs' f)) (.x (fun _ _ _ => .indexN (a) rfl rfl (by omega)) (.st (.store rfl rfl rfl (by omega)) (.x (fun _ _ _ => .indexN (p) rfl rfl (by omega)) (.st2 (.store rfl rfl rfl (by rw [List.length_set]; omega)) (.nil ?_))))))))))))))))
    exact ⟨(swp d (a) (p), (l.set (o + (a)) (.int .u64 x1)).set (o + (p)) (.int .u64 x0)), ⟨rfl, ks⟩, .cons rfl (.cons rfl (.cons rfl (.nil _))), fun _ s => s⟩
  rintro ⟨d1, l1⟩ ⟨hd1, kd1⟩
  try dsimp only at hd1 kd1 ⊢
  have zd1 := kd1.sz
  rw [← hd1] at hPL
  clear hd1 k
  refine .seq ((.region (.v (.move rfl) (.v (.addE ((a + 1 : Nat) : Int) rfl rfl (by omega) (by omega)) (.v (.move rfl) (.v (.subE ((e - 1 : Nat) : Int) rfl rfl (by omega) (by omega)) (.v (.assign rfl) (.v (.assign rfl) (.nil ?_)))))))))
  refine .mid (X := Nat) (fun x => [(0, .slice (some ⟨b, o, none⟩) n c), (1, .int .i64 a), (10, .int .i64 ((x : Nat) : Int)), (11, .int .i64 (((e - 1) : Nat) : Int))]) (fun _ => [(b, .cells l1 30)]) (fun x => x = scanUp (fun x => ltInt x d1[a]!) d1 ((e - 1)) (a + 1)) (.block (.loop (X := Nat) (fun x => [(0, .slice (some ⟨b, o, none⟩) n c), (1, .int .i64 a), (10, .int .i64 ((x : Nat) : Int)), (11, .int .i64 (((e - 1) : Nat) : Int))]) (fun _ => [(b, .cells l1 30)]) (fun x => (a + 1 ≤ x ∧ x ≤ (e - 1) + 1) ∧ scanUp (fun x => ltInt x d1[a]!) d1 ((e - 1)) x = scanUp (fun x => ltInt x d1[a]!) d1 ((e - 1)) (a + 1)) (fun x => (e - 1) + 1 - x) (a + 1) ⟨⟨by omega, by omega⟩, rfl⟩ (.cons rfl (.cons rfl (.cons rfl (.cons rfl (.nil _))))) (fun _ s => s) ?_)) ?_
  · rintro y ⟨⟨hy1, hy2⟩, h1⟩
    try dsimp only at hy1 hy2 h1 ⊢
    by_cases hg : y ≤ (e - 1)
    case neg =>
      refine .seq (.seq (.drawK [(b, .cells l1 30)] (fun _ h => h) (by kernel_rfl) (by kernel_rfl) ?_))
      refine .v (fun _ f => .move rfl) (.v (fun _ f => .move rfl) (.v (fun _ f => .no (.leq rfl rfl) (by omega)) (.v (fun _ f => .move rfl) (.and (b2 := true) 33 42 9 9 rfl rfl (fun g1 => absurd g1 (by simp)) (.nil ?_)))))
      refine .cond_false rfl (.exit ?_)
      rw [su_end (by omega)] at h1
      exact ⟨y, h1, .cons rfl (.cons rfl (.cons rfl (.cons rfl (.nil _)))), fun _ s => s⟩
    have q0 := fun hs' hsub => kd1.at_ (w0 := w) (own := [b]) (hs := hs') (i := y) (by omega) hsub
    have q1 := fun hs' hsub => kd1.at_ (w0 := w) (own := [b]) (hs := hs') (i := a) (by omega) hsub
    refine .seq (.seq (.drawK [(b, .cells l1 30)] (fun _ h => h) (by kernel_rfl) (by kernel_rfl) ?_))
    refine .v (fun _ f => .move rfl) (.v (fun _ f => .move rfl) (.v (fun _ f => .yes (.leq rfl rfl) (by omega)) (.v (fun _ f => .move rfl) (.and (b2 := ltInt d1[y]! d1[a]!) 33 42 9 9 rfl rfl (fun g1 => .v (fun _ f => .move rfl) (.v (fun _ f => .move rfl) (.v (fun _ f => .indexN (y) rfl rfl (by omega)) (.v (fun hs' f => .load (v := .int .u64 d1[y]!) rfl (q0 hs' f)) (.v (fun _ f => .move rfl) (.v (fun _ f => .move rfl) (.v (fun _ f => .indexN (a) rfl rfl (by omega)) (.v (fun hs' f => .load (v := .int .u64 d1[a]!) rfl (q1 hs' f)) (.pc rfl rfl (fun w s => less64_ok w _ _) (.nil ⟨rfl, rfl, rfl, rfl⟩)))))))))) (.nil ?_)))))
    refine .cond rfl (fun g2 => .skip ?_) (fun g2 => .exit ?_)
    · have g2' : (ltInt d1[y]! d1[a]!) = true := by simpa using g2
      refine .block (.region (.v (.move rfl) (.v (.addE ((y + 1 : Nat) : Int) rfl rfl (by omega) (by omega)) (.v (.assign rfl) (.nil ?_)))))
      exact ⟨y + 1, ⟨⟨by omega, by omega⟩, by rw [← h1]; exact (su_go hg g2').symm⟩, by omega, .cons rfl (.cons rfl (.cons rfl (.cons rfl (.nil _)))), fun _ s => s⟩
    · have g2' : (ltInt d1[y]! d1[a]!) = false := by simpa using g2
      exact ⟨y, by rw [← h1]; exact (su_stop (p := (fun x => ltInt x d1[a]!)) g2').symm, .cons rfl (.cons rfl (.cons rfl (.cons rfl (.nil _)))), fun _ s => s⟩
  rintro i2 hi2
  try dsimp only at hi2 ⊢
  have hf := Go.Sort.round_facts (fun x => ltInt x d1[a]!) (fun x => !ltInt x d1[a]!) (fun x => by simp) d1 (a + 1 - 1) ((e - 1) + 1) (a + 1) ((e - 1)) (by omega) (by omega) (fun t h1 h2 => by omega) (fun t h1 h2 => by omega)
  rw [← hi2] at hf
  obtain ⟨f1, f2, f3, f4, _, _, f7⟩ := hf
  refine .mid (X := Nat) (fun x => [(0, .slice (some ⟨b, o, none⟩) n c), (1, .int .i64 a), (10, .int .i64 ((i2 : Nat) : Int)), (11, .int .i64 ((x : Nat) : Int))]) (fun _ => [(b, .cells l1 30)]) (fun x => x = scanDown (fun x => !ltInt x d1[a]!) d1 (i2) ((e - 1))) (.block (.loop (X := Nat) (fun x => [(0, .slice (some ⟨b, o, none⟩) n c), (1, .int .i64 a), (10, .int .i64 ((i2 : Nat) : Int)), (11, .int .i64 ((x : Nat) : Int))]) (fun _ => [(b, .cells l1 30)]) (fun x => (i2 ≤ x + 1 ∧ x ≤ (e - 1)) ∧ scanDown (fun x => !ltInt x d1[a]!) d1 (i2) x = scanDown (fun x => !ltInt x d1[a]!) d1 (i2) ((e - 1))) (fun x => x) ((e - 1)) ⟨⟨by omega, by omega⟩, rfl⟩ (.cons rfl (.cons rfl (.cons rfl (.cons rfl (.nil _))))) (fun _ s => s) ?_)) ?_
  · rintro y ⟨⟨hy1, hy2⟩, h1⟩
    try dsimp only at hy1 hy2 h1 ⊢
    by_cases hg : i2 ≤ y
    case neg =>
      refine .seq (.seq (.drawK [(b, .cells l1 30)] (fun _ h => h) (by kernel_rfl) (by kernel_rfl) ?_))
      refine .v (fun _ f => .move rfl) (.v (fun _ f => .move rfl) (.v (fun _ f => .no (.leq rfl rfl) (by omega)) (.v (fun _ f => .move rfl) (.and (b2 := true) 49 59 10 10 rfl rfl (fun g1 => absurd g1 (by simp)) (.nil ?_)))))
      refine .cond_false rfl (.exit ?_)
      rw [sd_end (by omega)] at h1
      exact ⟨y, h1, .cons rfl (.cons rfl (.cons rfl (.cons rfl (.nil _)))), fun _ s => s⟩
    obtain ⟨y, rfl⟩ : ∃ y', y = y' + 1 := ⟨y - 1, by omega⟩
    have q0 := fun hs' hsub => kd1.at_ (w0 := w) (own := [b]) (hs := hs') (i := y + 1) (by omega) hsub
    have q1 := fun hs' hsub => kd1.at_ (w0 := w) (own := [b]) (hs := hs') (i := a) (by omega) hsub
    refine .seq (.seq (.drawK [(b, .cells l1 30)] (fun _ h => h) (by kernel_rfl) (by kernel_rfl) ?_))
    refine .v (fun _ f => .move rfl) (.v (fun _ f => .move rfl) (.v (fun _ f => .yes (.leq rfl rfl) (by omega)) (.v (fun _ f => .move rfl) (.and (b2 := !ltInt d1[y + 1]! d1[a]!) 49 59 10 10 rfl rfl (fun g1 => .v (fun _ f => .move rfl) (.v (fun _ f => .move rfl) (.v (fun _ f => .indexN (y + 1) rfl rfl (by omega)) (.v (fun hs' f => .load (v := .int .u64 d1[y + 1]!) rfl (q0 hs' f)) (.v (fun _ f => .move rfl) (.v (fun _ f => .move rfl) (.v (fun _ f => .indexN (a) rfl rfl (by omega)) (.v (fun hs' f => .load (v := .int .u64 d1[a]!) rfl (q1 hs' f)) (.pc rfl rfl (fun w s => less64_ok w _ _) (.v (fun _ f => .not rfl) (.nil ⟨rfl, rfl, rfl, rfl⟩))))))))))) (.nil ?_)))))
    refine .cond rfl (fun g2 => .skip ?_) (fun g2 => .exit ?_)
    · have g2' : (!ltInt d1[y + 1]! d1[a]!) = true := by simpa using g2
      refine .block (.region (.v (.move rfl) (.v (.subE (y : Int) rfl rfl (by omega) (by omega)) (.v (.assign rfl) (.nil ?_)))))
      exact ⟨y, ⟨⟨by omega, by omega⟩, by rw [← h1]; exact (sd_go hg g2').symm⟩, by omega, .cons rfl (.cons rfl (.cons rfl (.cons rfl (.nil _)))), fun _ s => s⟩
    · have g2' : (!ltInt d1[y + 1]! d1[a]!) = false := by simpa using g2
      exact ⟨y + 1, by rw [← h1]; exact (sd_stop (p := (fun x => !ltInt x d1[a]!)) g2').symm, .cons rfl (.cons rfl (.cons rfl (.cons rfl (.nil _)))), fun _ s => s⟩
  rintro j2 hj2
  try dsimp only at hj2 ⊢
  rw [← hj2] at f3 f4 f7
  refine .seq (.seq ((.region (.v (.move rfl) (.v (.move rfl) (.v (.gtr rfl rfl) (.nil ?_)))))))
  rw [Go.Sort.partLoop_eq, ← hi2, ← hj2] at hPL
  refine .cond_dec rfl (fun h3 => ?_) (fun h3 => .skip ?_)
  · rw [if_pos (by omega)] at hPL
    subst hPL
    refine .mid (X := Array Int × List Value) (fun _ => [(11, .int .i64 j2)]) (fun x => [(b, .cells x.2 30)]) (fun x => x.1 = swp d1 j2 a ∧ So64 b o c n x.1 x.2) ?_ ?_
    · have ks := kd1.swp (i := j2) (j := a) (by omega) (by omega)
      have q0 := fun hs' hsub => kd1.at_ (w0 := w) (own := [b]) (hs := hs') (i := j2) (by omega) hsub
      have q1 := fun hs' hsub => kd1.at_ (w0 := w) (own := [b]) (hs := hs') (i := a) (by omega) hsub
      have hlen := kd1.len
      have ex : ∃ d' : Array Int, d' = swp d1 j2 a := ⟨_, rfl⟩
      generalize d1[j2]! = x0 at q0 ks
      generalize d1[a]! = x1 at q1 ks
      refine .drawY 13 [0, 1, 2, 3, 4, 5, 6, 7, 8, 9, 10, 11, 12, 13, 14, 15] [(b, .cells l1 30)] (fun _ h => h) (by kernel_rfl) (by kernel_rfl) ?_
      refine .x (fun _ _ _ => .move rfl) (.x (fun _ _ _ => .move rfl) (.x (fun _ _ _ => .move rfl) (.x (fun _ _ _ => .move rfl) (.x (fun _ _ _ => .move rfl) (.x (fun _ _ _ => .move rfl) (.x (fun _ _ _ => .indexN (a) rfl rfl (by omega)) (.v (fun hs' f => .load (v := .int .u64 x1) rfl (q1 hs' f)) (.x (fun _ _ _ => .move rfl) (.x (fun _ _ _ => .move rfl) (.x (fun _ _ _ => .indexN (j2) rfl rfl (by omega)) (.v (fun hs' f => .load (v := .int .u64 x0) rfl (q0 hs' f)) (.x (fun _ _ _ => .indexN (j2) rfl rfl (by omega)) (.st (.store rfl rfl rfl (by omega)) (.x (fun _ _ _ => .indexN (a) rfl rfl (by omega)) (.st2 (.store rfl rfl rfl (by rw [List.length_set]; omega)) (.nil ?_))))))))))))))))
      exact ⟨(swp d1 (j2) (a), (l1.set (o + (j2)) (.int .u64 x1)).set (o + (a)) (.int .u64 x0)), ⟨rfl, ks⟩, .cons rfl (.nil _), fun _ s => s⟩
    rintro ⟨d2, l2⟩ ⟨hd2, kd2⟩
    try dsimp only at hd2 kd2 ⊢
    have zd2 := kd2.sz
    refine .seq ((.region (.v (.move rfl) (.v (.assign rfl) (.v (.assign rfl) (.nil ?_))))))
    exact .ret ⟨[_, _], ⟨rfl, rfl, trivial⟩, l2, _, rfl, rfl, hd2 ▸ kd2⟩
  · rw [if_neg (by omega)] at hPL
    have f8 := (f7 (by omega)).2.2
    refine .mid (X := Array Int × List Value) (fun _ => [(0, .slice (some ⟨b, o, none⟩) n c), (1, .int .i64 a), (10, .int .i64 ((i2 : Nat) : Int)), (11, .int .i64 ((j2 : Nat) : Int))]) (fun x => [(b, .cells x.2 30)]) (fun x => x.1 = swp d1 i2 j2 ∧ So64 b o c n x.1 x.2) ?_ ?_
    · have ks := kd1.swp (i := i2) (j := j2) (by omega) (by omega)
      have q0 := fun hs' hsub => kd1.at_ (w0 := w) (own := [b]) (hs := hs') (i := i2) (by omega) hsub
      have q1 := fun hs' hsub => kd1.at_ (w0 := w) (own := [b]) (hs := hs') (i := j2) (by omega) hsub
      have hlen := kd1.len
      have ex : ∃ d' : Array Int, d' = swp d1 i2 j2 := ⟨_, rfl⟩
      generalize d1[i2]! = x0 at q0 ks
      generalize d1[j2]! = x1 at q1 ks
      refine .drawY 13 [0, 1, 2, 3, 4, 5, 6, 7, 8, 9, 10, 11, 12, 13, 14, 15] [(b, .cells l1 30)] (fun _ h => h) (by kernel_rfl) (by kernel_rfl) ?_
      refine .x (fun _ _ _ => .move rfl) (.x (fun _ _ _ => .move rfl) (.x (fun _ _ _ => .move rfl) (.x (fun _ _ _ => .move rfl) (.x (fun _ _ _ => .move rfl) (.x (fun _ _ _ => .move rfl) (.x (fun _ _ _ => .indexN (j2) rfl rfl (by omega)) (.v (fun hs' f => .load (v := .int .u64 x1) rfl (q1 hs' f)) (.x (fun _ _ _ => .move rfl) (.x (fun _ _ _ => .move rfl) (.x (fun _ _ _ => .indexN (i2) rfl rfl (by omega)) (.v (fun hs' f => .load (v := .int .u64 x0) rfl (q0 hs' f)) (.x (fun _ _ _ => .indexN (i2) rfl rfl (by omega)) (.st (.store rfl rfl rfl (by omega)) (.x (fun _ _ _ => .indexN (j2) rfl rfl (by omega)) (.st2 (.store rfl rfl rfl (by rw [List.length_set]; omega)) (.nil ?_))))))))))))))))
      exact ⟨(swp d1 (i2) (j2), (l1.set (o + (i2)) (.int .u64 x1)).set (o + (j2)) (.int .u64 x0)), ⟨rfl, ks⟩, .cons rfl (.cons rfl (.cons rfl (.cons rfl (.nil _)))), fun _ s => s⟩
    rintro ⟨d2, l2⟩ ⟨hd2, kd2⟩
    try dsimp only at hd2 kd2 ⊢
    have zd2 := kd2.sz
    rw [← hd2] at hPL
    clear f7 hi2 hj2 hd2 kd1 zd1
    refine .seq ((.region (.v (.move rfl) (.v (.addE ((i2 + 1 : Nat) : Int) rfl rfl (by omega) (by omega)) (.v (.assign rfl) (.nil ?_))))))
    refine .seq ((.region (.v (.move rfl) (.v (.subE ((j2 - 1 : Nat) : Int) rfl rfl (by omega) (by omega)) (.v (.assign rfl) (.nil ?_))))))
    refine .seq (.block (.loop (X := ParS) (fun x => [(0, .slice (some ⟨b, o, none⟩) n c), (1, .int .i64 a), (10, .int .i64 ((x.i : Nat) : Int)), (11, .int .i64 ((x.j : Nat) : Int))]) (fun x => [(b, .cells x.l 30)]) (fun x => (a + 1 ≤ x.i ∧ x.i ≤ x.j + 1 ∧ x.j < e) ∧ So64 b o c n x.d x.l ∧ partLoop ltInt a x.i x.j x.d = PL) (fun x => x.j + 1 - x.i) ⟨i2 + 1, j2 - 1, d2, l2⟩ ⟨⟨by show a + 1 ≤ i2 + 1; omega, by show i2 + 1 ≤ j2 - 1 + 1; omega, by show j2 - 1 < e; omega⟩, kd2, hPL⟩ (.cons rfl (.cons rfl (.cons rfl (.cons rfl (.nil _))))) (fun _ s => s) ?_))
    clear hPL
    rintro ⟨i, j, d3, l3⟩ ⟨⟨g1, g2, g3⟩, k3, hPL⟩
    try dsimp only at g1 g2 g3 k3 hPL ⊢
    refine .block ?_
    clear f1 f2 f3 f4 f8 h3 kd2 zd2
    refine .mid (X := Nat) (fun x => [(0, .slice (some ⟨b, o, none⟩) n c), (1, .int .i64 a), (10, .int .i64 ((x : Nat) : Int)), (11, .int .i64 ((j : Nat) : Int))]) (fun _ => [(b, .cells l3 30)]) (fun x => x = scanUp (fun x => ltInt x d3[a]!) d3 (j) (i)) (.block (.loop (X := Nat) (fun x => [(0, .slice (some ⟨b, o, none⟩) n c), (1, .int .i64 a), (10, .int .i64 ((x : Nat) : Int)), (11, .int .i64 ((j : Nat) : Int))]) (fun _ => [(b, .cells l3 30)]) (fun x => (i ≤ x ∧ x ≤ j + 1) ∧ scanUp (fun x => ltInt x d3[a]!) d3 (j) x = scanUp (fun x => ltInt x d3[a]!) d3 (j) (i)) (fun x => j + 1 - x) (i) ⟨⟨by omega, by omega⟩, rfl⟩ (.cons rfl (.cons rfl (.cons rfl (.cons rfl (.nil _))))) (fun _ s => s) ?_)) ?_
    · rintro y ⟨⟨hy1, hy2⟩, h1⟩
      try dsimp only at hy1 hy2 h1 ⊢
      by_cases hg : y ≤ j
      case neg =>
        refine .seq (.seq (.drawK [(b, .cells l3 30)] (fun _ h => h) (by kernel_rfl) (by kernel_rfl) ?_))
        refine .v (fun _ f => .move rfl) (.v (fun _ f => .move rfl) (.v (fun _ f => .no (.leq rfl rfl) (by omega)) (.v (fun _ f => .move rfl) (.and (b2 := true) 102 111 9 9 rfl rfl (fun g1 => absurd g1 (by simp)) (.nil ?_)))))
        refine .cond_false rfl (.exit ?_)
        rw [su_end (by omega)] at h1
        exact ⟨y, h1, .cons rfl (.cons rfl (.cons rfl (.cons rfl (.nil _)))), fun _ s => s⟩
      have q0 := fun hs' hsub => k3.at_ (w0 := w) (own := [b]) (hs := hs') (i := y) (by omega) hsub
      have q1 := fun hs' hsub => k3.at_ (w0 := w) (own := [b]) (hs := hs') (i := a) (by omega) hsub
      refine .seq (.seq (.drawK [(b, .cells l3 30)] (fun _ h => h) (by kernel_rfl) (by kernel_rfl) ?_))
      refine .v (fun _ f => .move rfl) (.v (fun _ f => .move rfl) (.v (fun _ f => .yes (.leq rfl rfl) (by omega)) (.v (fun _ f => .move rfl) (.and (b2 := ltInt d3[y]! d3[a]!) 102 111 9 9 rfl rfl (fun g1 => .v (fun _ f => .move rfl) (.v (fun _ f => .move rfl) (.v (fun _ f => .indexN (y) rfl rfl (by omega)) (.v (fun hs' f => .load (v := .int .u64 d3[y]!) rfl (q0 hs' f)) (.v (fun _ f => .move rfl) (.v (fun _ f => .move rfl) (.v (fun _ f => .indexN (a) rfl rfl (by omega)) (.v (fun hs' f => .load (v := .int .u64 d3[a]!) rfl (q1 hs' f)) (.pc rfl rfl (fun w s => less64_ok w _ _) (.nil ⟨rfl, rfl, rfl, rfl⟩)))))))))) (.nil ?_)))))
      refine .cond rfl (fun g2 => .skip ?_) (fun g2 => .exit ?_)
      · have g2' : (ltInt d3[y]! d3[a]!) = true := by simpa using g2
        refine .block (.region (.v (.move rfl) (.v (.addE ((y + 1 : Nat) : Int) rfl rfl (by omega) (by omega)) (.v (.assign rfl) (.nil ?_)))))
        exact ⟨y + 1, ⟨⟨by omega, by omega⟩, by rw [← h1]; exact (su_go hg g2').symm⟩, by omega, .cons rfl (.cons rfl (.cons rfl (.cons rfl (.nil _)))), fun _ s => s⟩
      · have g2' : (ltInt d3[y]! d3[a]!) = false := by simpa using g2
        exact ⟨y, by rw [← h1]; exact (su_stop (p := (fun x => ltInt x d3[a]!)) g2').symm, .cons rfl (.cons rfl (.cons rfl (.cons rfl (.nil _)))), fun _ s => s⟩
    rintro i2 hi2
    try dsimp only at hi2 ⊢
    have hf := Go.Sort.round_facts (fun x => ltInt x d3[a]!) (fun x => !ltInt x d3[a]!) (fun x => by simp) d3 (i - 1) (j + 1) (i) (j) (by omega) (by omega) (fun t h1 h2 => by omega) (fun t h1 h2 => by omega)
    rw [← hi2] at hf
    obtain ⟨f1, f2, f3, f4, _, _, f7⟩ := hf
    refine .mid (X := Nat) (fun x => [(0, .slice (some ⟨b, o, none⟩) n c), (1, .int .i64 a), (10, .int .i64 ((i2 : Nat) : Int)), (11, .int .i64 ((x : Nat) : Int))]) (fun _ => [(b, .cells l3 30)]) (fun x => x = scanDown (fun x => !ltInt x d3[a]!) d3 (i2) (j)) (.block (.loop (X := Nat) (fun x => [(0, .slice (some ⟨b, o, none⟩) n c), (1, .int .i64 a), (10, .int .i64 ((i2 : Nat) : Int)), (11, .int .i64 ((x : Nat) : Int))]) (fun _ => [(b, .cells l3 30)]) (fun x => (i2 ≤ x + 1 ∧ x ≤ j) ∧ scanDown (fun x => !ltInt x d3[a]!) d3 (i2) x = scanDown (fun x => !ltInt x d3[a]!) d3 (i2) (j)) (fun x => x) (j) ⟨⟨by omega, by omega⟩, rfl⟩ (.cons rfl (.cons rfl (.cons rfl (.cons rfl (.nil _))))) (fun _ s => s) ?_)) ?_
    · rintro y ⟨⟨hy1, hy2⟩, h1⟩
      try dsimp only at hy1 hy2 h1 ⊢
      by_cases hg : i2 ≤ y
      case neg =>
        refine .seq (.seq (.drawK [(b, .cells l3 30)] (fun _ h => h) (by kernel_rfl) (by kernel_rfl) ?_))
        refine .v (fun _ f => .move rfl) (.v (fun _ f => .move rfl) (.v (fun _ f => .no (.leq rfl rfl) (by omega)) (.v (fun _ f => .move rfl) (.and (b2 := true) 118 128 10 10 rfl rfl (fun g1 => absurd g1 (by simp)) (.nil ?_)))))
        refine .cond_false rfl (.exit ?_)
        rw [sd_end (by omega)] at h1
        exact ⟨y, h1, .cons rfl (.cons rfl (.cons rfl (.cons rfl (.nil _)))), fun _ s => s⟩
      obtain ⟨y, rfl⟩ : ∃ y', y = y' + 1 := ⟨y - 1, by omega⟩
      have q0 := fun hs' hsub => k3.at_ (w0 := w) (own := [b]) (hs := hs') (i := y + 1) (by omega) hsub
      have q1 := fun hs' hsub => k3.at_ (w0 := w) (own := [b]) (hs := hs') (i := a) (by omega) hsub
      refine .seq (.seq (.drawK [(b, .cells l3 30)] (fun _ h => h) (by kernel_rfl) (by kernel_rfl) ?_))
      refine .v (fun _ f => .move rfl) (.v (fun _ f => .move rfl) (.v (fun _ f => .yes (.leq rfl rfl) (by omega)) (.v (fun _ f => .move rfl) (.and (b2 := !ltInt d3[y + 1]! d3[a]!) 118 128 10 10 rfl rfl (fun g1 => .v (fun _ f => .move rfl) (.v (fun _ f => .move rfl) (.v (fun _ f => .indexN (y + 1) rfl rfl (by omega)) (.v (fun hs' f => .load (v := .int .u64 d3[y + 1]!) rfl (q0 hs' f)) (.v (fun _ f => .move rfl) (.v (fun _ f => .move rfl) (.v (fun _ f => .indexN (a) rfl rfl (by omega)) (.v (fun hs' f => .load (v := .int .u64 d3[a]!) rfl (q1 hs' f)) (.pc rfl rfl (fun w s => less64_ok w _ _) (.v (fun _ f => .not rfl) (.nil ⟨rfl, rfl, rfl, rfl⟩))))))))))) (.nil ?_)))))
      refine .cond rfl (fun g2 => .skip ?_) (fun g2 => .exit ?_)
      · have g2' : (!ltInt d3[y + 1]! d3[a]!) = true := by simpa using g2
        refine .block (.region (.v (.move rfl) (.v (.subE (y : Int) rfl rfl (by omega) (by omega)) (.v (.assign rfl) (.nil ?_)))))
        exact ⟨y, ⟨⟨by omega, by omega⟩, by rw [← h1]; exact (sd_go hg g2').symm⟩, by omega, .cons rfl (.cons rfl (.cons rfl (.cons rfl (.nil _)))), fun _ s => s⟩
      · have g2' : (!ltInt d3[y + 1]! d3[a]!) = false := by simpa using g2
        exact ⟨y + 1, by rw [← h1]; exact (sd_stop (p := (fun x => !ltInt x d3[a]!)) g2').symm, .cons rfl (.cons rfl (.cons rfl (.cons rfl (.nil _)))), fun _ s => s⟩
    rintro j2 hj2
    try dsimp only at hj2 ⊢
    rw [← hj2] at f3 f4 f7
    refine .seq (.seq ((.region (.v (.move rfl) (.v (.move rfl) (.v (.gtr rfl rfl) (.nil ?_)))))))
    rw [Go.Sort.partLoop_eq, ← hi2, ← hj2] at hPL
    refine .cond_dec rfl (fun h3 => .exit ?_) (fun h3 => .skip ?_)
    · rw [if_pos (by omega)] at hPL
      subst hPL
      refine .mid (X := Array Int × List Value) (fun _ => [(11, .int .i64 j2)]) (fun x => [(b, .cells x.2 30)]) (fun x => x.1 = swp d3 j2 a ∧ So64 b o c n x.1 x.2) ?_ ?_
      · have ks := k3.swp (i := j2) (j := a) (by omega) (by omega)
        have q0 := fun hs' hsub => k3.at_ (w0 := w) (own := [b]) (hs := hs') (i := j2) (by omega) hsub
        have q1 := fun hs' hsub => k3.at_ (w0 := w) (own := [b]) (hs := hs') (i := a) (by omega) hsub
        have hlen := k3.len
        have ex : ∃ d' : Array Int, d' = swp d3 j2 a := ⟨_, rfl⟩
        generalize d3[j2]! = x0 at q0 ks
        generalize d3[a]! = x1 at q1 ks
        refine .drawY 13 [0, 1, 2, 3, 4, 5, 6, 7, 8, 9, 10, 11, 12, 13, 14, 15] [(b, .cells l3 30)] (fun _ h => h) (by kernel_rfl) (by kernel_rfl) ?_
        refine .x (fun _ _ _ => .move rfl) (.x (fun _ _ _ => .move rfl) (.x (fun _ _ _ => .move rfl) (.x (fun _ _ _ => .move rfl) (.x (fun _ _ _ => .move rfl) (.x (fun _ _ _ => .move rfl) (.x (fun _ _ _ => .indexN (a) rfl rfl (by omega)) (.v (fun hs' f => .load (v := .int .u64 x1) rfl (q1 hs' f)) (.x (fun _ _ _ => .move rfl) (.x (fun _ _ _ => .move rfl) (.x (fun _ _ _ => .indexN (j2) rfl rfl (by omega)) (.v (fun hs' f => .load (v := .int .u64 x0) rfl (q0 hs' f)) (.x (fun _ _ _ => .indexN (j2) rfl rfl (by omega)) (.st (.store rfl rfl rfl (by omega)) (.x (fun _ _ _ => .indexN (a) rfl rfl (by omega)) (.st2 (.store rfl rfl rfl (by rw [List.length_set]; omega)) (.nil ?_))))))))))))))))
        exact ⟨(swp d3 (j2) (a), (l3.set (o + (j2)) (.int .u64 x1)).set (o + (a)) (.int .u64 x0)), ⟨rfl, ks⟩, .cons rfl (.nil _), fun _ s => s⟩
      rintro ⟨d4, l4⟩ ⟨hd4, kd4⟩
      try dsimp only at hd4 kd4 ⊢
      have zd4 := kd4.sz
      refine .seq ((.region (.v (.move rfl) (.v (.assign rfl) (.v (.assign rfl) (.nil ?_))))))
      exact .ret ⟨[_, _], ⟨rfl, rfl, trivial⟩, l4, _, rfl, rfl, hd4 ▸ kd4⟩
    · rw [if_neg (by omega)] at hPL
      have f8 := (f7 (by omega)).2.2
      refine .mid (X := Array Int × List Value) (fun _ => [(0, .slice (some ⟨b, o, none⟩) n c), (1, .int .i64 a), (10, .int .i64 ((i2 : Nat) : Int)), (11, .int .i64 ((j2 : Nat) : Int))]) (fun x => [(b, .cells x.2 30)]) (fun x => x.1 = swp d3 i2 j2 ∧ So64 b o c n x.1 x.2) ?_ ?_
      · have ks := k3.swp (i := i2) (j := j2) (by omega) (by omega)
        have q0 := fun hs' hsub => k3.at_ (w0 := w) (own := [b]) (hs := hs') (i := i2) (by omega) hsub
        have q1 := fun hs' hsub => k3.at_ (w0 := w) (own := [b]) (hs := hs') (i := j2) (by omega) hsub
        have hlen := k3.len
        have ex : ∃ d' : Array Int, d' = swp d3 i2 j2 := ⟨_, rfl⟩
        generalize d3[i2]! = x0 at q0 ks
        generalize d3[j2]! = x1 at q1 ks
        refine .drawY 13 [0, 1, 2, 3, 4, 5, 6, 7, 8, 9, 10, 11, 12, 13, 14, 15] [(b, .cells l3 30)] (fun _ h => h) (by kernel_rfl) (by kernel_rfl) ?_
        refine .x (fun _ _ _ => .move rfl) (.x (fun _ _ _ => .move rfl) (.x (fun _ _ _ => .move rfl) (.x (fun _ _ _ => .move rfl) (.x (fun _ _ _ => .move rfl) (.x (fun _ _ _ => .move rfl) (.x (fun _ _ _ => .indexN (j2) rfl rfl (by omega)) (.v (fun hs' f => .load (v := .int .u64 x1) rfl (q1 hs' f)) (.x (fun _ _ _ => .move rfl) (.x (fun _ _ _ => .move rfl) (.x (fun _ _ _ => .indexN (i2) rfl rfl (by omega)) (.v (fun hs' f => .load (v := .int .u64 x0) rfl (q0 hs' f)) (.x (fun _ _ _ => .indexN (i2) rfl rfl (by omega)) (.st (.store rfl rfl rfl (by omega)) (.x (fun _ _ _ => .indexN (j2) rfl rfl (by omega)) (.st2 (.store rfl rfl rfl (by rw [List.length_set]; omega)) (.nil ?_))))))))))))))))
        exact ⟨(swp d3 (i2) (j2), (l3.set (o + (i2)) (.int .u64 x1)).set (o + (j2)) (.int .u64 x0)), ⟨rfl, ks⟩, .cons rfl (.cons rfl (.cons rfl (.cons rfl (.nil _)))), fun _ s => s⟩
      rintro ⟨d4, l4⟩ ⟨hd4, kd4⟩
      try dsimp only at hd4 kd4 ⊢
      have zd4 := kd4.sz
      rw [← hd4] at hPL
      refine .seq ((.region (.v (.move rfl) (.v (.addE ((i2 + 1 : Nat) : Int) rfl rfl (by omega) (by omega)) (.v (.assign rfl) (.nil ?_))))))
      refine .region (.v (.move rfl) (.v (.subE ((j2 - 1 : Nat) : Int) rfl rfl (by omega) (by omega)) (.v (.assign rfl) (.nil ?_))))
      exact ⟨⟨i2 + 1, j2 - 1, d4, l4⟩, ⟨⟨by show a + 1 ≤ i2 + 1; omega, by show i2 + 1 ≤ j2 - 1 + 1; omega, by show j2 - 1 < e; omega⟩, kd4, hPL⟩, by show j2 - 1 + 1 - (i2 + 1) < j + 1 - i; omega, .cons rfl (.cons rfl (.cons rfl (.cons rfl (.nil _)))), fun _ s => s⟩
set_option maxRecDepth 20000 in
theorem partEq64_ok (w : World) {b o c n : Nat} {d : Array Int} {l : List Value} (k : So64 b o c n d l) (a e p : Nat) (hap : a ≤ p) (hpe : p < e) (he : e ≤ n) (hn : n < 2305843009213693952) :
    Does Try.prog 103 [.slice (some ⟨b, o, none⟩) n c, .int .i64 a, .int .i64 e, .int .i64 p] [(b, .cells l 30)] w (fun v hs => ∃ l', v = .int .i64 (partitionEqual ltInt d a e p).1 ∧ hs = [(b, .cells l' 30)] ∧ So64 b o c n (partitionEqual ltInt d a e p).2 l') := by
  generalize hPL : partitionEqual ltInt d a e p = PL
  replace hPL : partEqLoop ltInt a (a + 1) (e - 1) (swp d a p) = PL := hPL
  refine Does.of (n := 84) Try.func103 rfl rfl rfl rfl ?_
  refine .seq ((.region (.v (.assign rfl) (.nil ?_))))
  refine .mid (X := Array Int × List Value) (fun _ => [(0, .slice (some ⟨b, o, none⟩) n c), (1, .int .i64 a), (2, .int .i64 e)]) (fun x => [(b, .cells x.2 30)]) (fun x => x.1 = swp d a p ∧ So64 b o c n x.1 x.2) ?_ ?_
  · have ks := k.swp (i := a) (j := p) (by omega) (by omega)
    have q0 := fun hs' hsub => k.at_ (w0 := w) (own := [b]) (hs := hs') (i := a) (by omega) hsub
    have q1 := fun hs' hsub => k.at_ (w0 := w) (own := [b]) (hs := hs') (i := p) (by omega) hsub
    have hlen := k.len
    have ex : ∃ d' : Array Int, d' = swp d a p := ⟨_, rfl⟩
    generalize d[a]! = x0 at q0 ks
    generalize d[p]! = x1 at q1 ks
    refine .drawY 13 [0, 1, 2, 3, 4, 5, 6, 7, 8, 9, 10, 11, 12, 13, 14, 15] [(b, .cells l 30)] (fun _ h => h) (by kernel_rfl) (by kernel_rfl) ?_
    refine .x (fun _ _ _ => .move rfl) (.x (fun _ _ _ => .move rfl) (.x (fun _ _ _ => .move rfl) (.x (fun _ _ _ => .move rfl) (.x (fun _ _ _ => .move rfl) (.x (fun _ _ _ => .move rfl) (.x (fun _ _ _ => .indexN (p) rfl rfl (by omega)) (.v (fun hs' f => .load (v := .int .u64 x1) rfl (q1 hs' f)) (.x (fun _ _ _ => .move rfl) (.x (fun _ _ _ => .move rfl) (.x (fun _ _ _ => .indexN (a) rfl rfl (by omega)) (.v (fun hs' f => .load (v := .int .u64 x0) rfl (q0 hs' f)) (.x (fun _ _ _ => .indexN (a) rfl rfl (by omega)) (.st (.store rfl rfl rfl (by omega)) (.x (fun _ _ _ => .indexN (p) rfl rfl (by omega)) (.st2 (.store rfl rfl rfl (by rw [List.length_set]; omega)) (.nil ?_))))))))))))))))
    exact ⟨(swp d (a) (p), (l.set (o + (a)) (.int .u64 x1)).set (o + (p)) (.int .u64 x0)), ⟨rfl, ks⟩, .cons rfl (.cons rfl (.cons rfl (.nil _))), fun _ s => s⟩
  rintro ⟨d1, l1⟩ ⟨hd1, kd1⟩
  try dsimp only at hd1 kd1 ⊢
  have zd1 := kd1.sz
  rw [← hd1] at hPL
  clear hd1 k
  refine .seq ((.region (.v (.move rfl) (.v (.addE ((a + 1 : Nat) : Int) rfl rfl (by omega) (by omega)) (.v (.move rfl) (.v (.subE ((e - 1 : Nat) : Int) rfl rfl (by omega) (by omega)) (.v (.assign rfl) (.v (.assign rfl) (.nil ?_)))))))))
  refine .seq (.block (.loop (X := ParS) (fun x => [(0, .slice (some ⟨b, o, none⟩) n c), (1, .int .i64 a), (9, .int .i64 ((x.i : Nat) : Int)), (10, .int .i64 ((x.j : Nat) : Int))]) (fun x => [(b, .cells x.l 30)]) (fun x => (a + 1 ≤ x.i ∧ x.i ≤ x.j + 1 ∧ x.j < e) ∧ So64 b o c n x.d x.l ∧ partEqLoop ltInt a x.i x.j x.d = PL) (fun x => x.j + 1 - x.i) ⟨a + 1, e - 1, d1, l1⟩ ⟨⟨by show a + 1 ≤ a + 1; omega, by show a + 1 ≤ e - 1 + 1; omega, by show e - 1 < e; omega⟩, kd1, hPL⟩ (.cons rfl (.cons rfl (.cons rfl (.cons rfl (.nil _))))) (fun _ s => s) ?_))
  clear hPL
  rintro ⟨i, j, d3, l3⟩ ⟨⟨g1, g2, g3⟩, k3, hPL⟩
  try dsimp only at g1 g2 g3 k3 hPL ⊢
  refine .block ?_
  clear kd1 zd1
  refine .mid (X := Nat) (fun x => [(0, .slice (some ⟨b, o, none⟩) n c), (1, .int .i64 a), (9, .int .i64 ((x : Nat) : Int)), (10, .int .i64 ((j : Nat) : Int))]) (fun _ => [(b, .cells l3 30)]) (fun x => x = scanUp (fun x => !ltInt d3[a]! x) d3 (j) (i)) (.block (.loop (X := Nat) (fun x => [(0, .slice (some ⟨b, o, none⟩) n c), (1, .int .i64 a), (9, .int .i64 ((x : Nat) : Int)), (10, .int .i64 ((j : Nat) : Int))]) (fun _ => [(b, .cells l3 30)]) (fun x => (i ≤ x ∧ x ≤ j + 1) ∧ scanUp (fun x => !ltInt d3[a]! x) d3 (j) x = scanUp (fun x => !ltInt d3[a]! x) d3 (j) (i)) (fun x => j + 1 - x) (i) ⟨⟨by omega, by omega⟩, rfl⟩ (.cons rfl (.cons rfl (.cons rfl (.cons rfl (.nil _))))) (fun _ s => s) ?_)) ?_
  · rintro y ⟨⟨hy1, hy2⟩, h1⟩
    try dsimp only at hy1 hy2 h1 ⊢
    by_cases hg : y ≤ j
    case neg =>
      refine .seq (.seq (.drawK [(b, .cells l3 30)] (fun _ h => h) (by kernel_rfl) (by kernel_rfl) ?_))
      refine .v (fun _ f => .move rfl) (.v (fun _ f => .move rfl) (.v (fun _ f => .no (.leq rfl rfl) (by omega)) (.v (fun _ f => .move rfl) (.and (b2 := true) 32 42 10 10 rfl rfl (fun g1 => absurd g1 (by simp)) (.nil ?_)))))
      refine .cond_false rfl (.exit ?_)
      rw [su_end (by omega)] at h1
      exact ⟨y, h1, .cons rfl (.cons rfl (.cons rfl (.cons rfl (.nil _)))), fun _ s => s⟩
    have q0 := fun hs' hsub => k3.at_ (w0 := w) (own := [b]) (hs := hs') (i := y) (by omega) hsub
    have q1 := fun hs' hsub => k3.at_ (w0 := w) (own := [b]) (hs := hs') (i := a) (by omega) hsub
    refine .seq (.seq (.drawK [(b, .cells l3 30)] (fun _ h => h) (by kernel_rfl) (by kernel_rfl) ?_))
    refine .v (fun _ f => .move rfl) (.v (fun _ f => .move rfl) (.v (fun _ f => .yes (.leq rfl rfl) (by omega)) (.v (fun _ f => .move rfl) (.and (b2 := !ltInt d3[a]! d3[y]!) 32 42 10 10 rfl rfl (fun g1 => .v (fun _ f => .move rfl) (.v (fun _ f => .move rfl) (.v (fun _ f => .indexN (a) rfl rfl (by omega)) (.v (fun hs' f => .load (v := .int .u64 d3[a]!) rfl (q1 hs' f)) (.v (fun _ f => .move rfl) (.v (fun _ f => .move rfl) (.v (fun _ f => .indexN (y) rfl rfl (by omega)) (.v (fun hs' f => .load (v := .int .u64 d3[y]!) rfl (q0 hs' f)) (.pc rfl rfl (fun w s => less64_ok w _ _) (.v (fun _ f => .not rfl) (.nil ⟨rfl, rfl, rfl, rfl⟩))))))))))) (.nil ?_)))))
    refine .cond rfl (fun g2 => .skip ?_) (fun g2 => .exit ?_)
    · have g2' : (!ltInt d3[a]! d3[y]!) = true := by simpa using g2
      refine .block (.region (.v (.move rfl) (.v (.addE ((y + 1 : Nat) : Int) rfl rfl (by omega) (by omega)) (.v (.assign rfl) (.nil ?_)))))
      exact ⟨y + 1, ⟨⟨by omega, by omega⟩, by rw [← h1]; exact (su_go hg g2').symm⟩, by omega, .cons rfl (.cons rfl (.cons rfl (.cons rfl (.nil _)))), fun _ s => s⟩
    · have g2' : (!ltInt d3[a]! d3[y]!) = false := by simpa using g2
      exact ⟨y, by rw [← h1]; exact (su_stop (p := (fun x => !ltInt d3[a]! x)) g2').symm, .cons rfl (.cons rfl (.cons rfl (.cons rfl (.nil _)))), fun _ s => s⟩
  rintro i2 hi2
  try dsimp only at hi2 ⊢
  have hf := Go.Sort.round_facts (fun x => !ltInt d3[a]! x) (fun x => ltInt d3[a]! x) (fun x => by simp) d3 (i - 1) (j + 1) (i) (j) (by omega) (by omega) (fun t h1 h2 => by omega) (fun t h1 h2 => by omega)
  rw [← hi2] at hf
  obtain ⟨f1, f2, f3, f4, _, _, f7⟩ := hf
  refine .mid (X := Nat) (fun x => [(0, .slice (some ⟨b, o, none⟩) n c), (1, .int .i64 a), (9, .int .i64 ((i2 : Nat) : Int)), (10, .int .i64 ((x : Nat) : Int))]) (fun _ => [(b, .cells l3 30)]) (fun x => x = scanDown (fun x => ltInt d3[a]! x) d3 (i2) (j)) (.block (.loop (X := Nat) (fun x => [(0, .slice (some ⟨b, o, none⟩) n c), (1, .int .i64 a), (9, .int .i64 ((i2 : Nat) : Int)), (10, .int .i64 ((x : Nat) : Int))]) (fun _ => [(b, .cells l3 30)]) (fun x => (i2 ≤ x + 1 ∧ x ≤ j) ∧ scanDown (fun x => ltInt d3[a]! x) d3 (i2) x = scanDown (fun x => ltInt d3[a]! x) d3 (i2) (j)) (fun x => x) (j) ⟨⟨by omega, by omega⟩, rfl⟩ (.cons rfl (.cons rfl (.cons rfl (.cons rfl (.nil _))))) (fun _ s => s) ?_)) ?_
  · rintro y ⟨⟨hy1, hy2⟩, h1⟩
    try dsimp only at hy1 hy2 h1 ⊢
    by_cases hg : i2 ≤ y
    case neg =>
      refine .seq (.seq (.drawK [(b, .cells l3 30)] (fun _ h => h) (by kernel_rfl) (by kernel_rfl) ?_))
      refine .v (fun _ f => .move rfl) (.v (fun _ f => .move rfl) (.v (fun _ f => .no (.leq rfl rfl) (by omega)) (.v (fun _ f => .move rfl) (.and (b2 := true) 49 58 9 9 rfl rfl (fun g1 => absurd g1 (by simp)) (.nil ?_)))))
      refine .cond_false rfl (.exit ?_)
      rw [sd_end (by omega)] at h1
      exact ⟨y, h1, .cons rfl (.cons rfl (.cons rfl (.cons rfl (.nil _)))), fun _ s => s⟩
    obtain ⟨y, rfl⟩ : ∃ y', y = y' + 1 := ⟨y - 1, by omega⟩
    have q0 := fun hs' hsub => k3.at_ (w0 := w) (own := [b]) (hs := hs') (i := y + 1) (by omega) hsub
    have q1 := fun hs' hsub => k3.at_ (w0 := w) (own := [b]) (hs := hs') (i := a) (by omega) hsub
    refine .seq (.seq (.drawK [(b, .cells l3 30)] (fun _ h => h) (by kernel_rfl) (by kernel_rfl) ?_))
    refine .v (fun _ f => .move rfl) (.v (fun _ f => .move rfl) (.v (fun _ f => .yes (.leq rfl rfl) (by omega)) (.v (fun _ f => .move rfl) (.and (b2 := ltInt d3[a]! d3[y + 1]!) 49 58 9 9 rfl rfl (fun g1 => .v (fun _ f => .move rfl) (.v (fun _ f => .move rfl) (.v (fun _ f => .indexN (a) rfl rfl (by omega)) (.v (fun hs' f => .load (v := .int .u64 d3[a]!) rfl (q1 hs' f)) (.v (fun _ f => .move rfl) (.v (fun _ f => .move rfl) (.v (fun _ f => .indexN (y + 1) rfl rfl (by omega)) (.v (fun hs' f => .load (v := .int .u64 d3[y + 1]!) rfl (q0 hs' f)) (.pc rfl rfl (fun w s => less64_ok w _ _) (.nil ⟨rfl, rfl, rfl, rfl⟩)))))))))) (.nil ?_)))))
    refine .cond rfl (fun g2 => .skip ?_) (fun g2 => .exit ?_)
    · have g2' : (ltInt d3[a]! d3[y + 1]!) = true := by simpa using g2
      refine .block (.region (.v (.move rfl) (.v (.subE (y : Int) rfl rfl (by omega) (by omega)) (.v (.assign rfl) (.nil ?_)))))
      exact ⟨y, ⟨⟨by omega, by omega⟩, by rw [← h1]; exact (sd_go hg g2').symm⟩, by omega, .cons rfl (.cons rfl (.cons rfl (.cons rfl (.nil _)))), fun _ s => s⟩
    · have g2' : (ltInt d3[a]! d3[y + 1]!) = false := by simpa using g2
      exact ⟨y + 1, by rw [← h1]; exact (sd_stop (p := (fun x => ltInt d3[a]! x)) g2').symm, .cons rfl (.cons rfl (.cons rfl (.cons rfl (.nil _)))), fun _ s => s⟩
  rintro j2 hj2
  try dsimp only at hj2 ⊢
  rw [← hj2] at f3 f4 f7
  refine .seq (.seq ((.region (.v (.move rfl) (.v (.move rfl) (.v (.gtr rfl rfl) (.nil ?_)))))))
  rw [Go.Sort.partEqLoop_eq, ← hi2, ← hj2] at hPL
  refine .cond_dec rfl (fun h3 => .exit ?_) (fun h3 => .skip ?_)
  · rw [if_pos (by omega)] at hPL
    subst hPL
    refine .seq ((.region (.v (.move rfl) (.v (.assign rfl) (.nil ?_)))))
    exact .ret ⟨[_], ⟨rfl, trivial⟩, l3, rfl, rfl, k3⟩
  · rw [if_neg (by omega)] at hPL
    have f8 := (f7 (by omega)).2.2
    refine .mid (X := Array Int × List Value) (fun _ => [(0, .slice (some ⟨b, o, none⟩) n c), (1, .int .i64 a), (9, .int .i64 ((i2 : Nat) : Int)), (10, .int .i64 ((j2 : Nat) : Int))]) (fun x => [(b, .cells x.2 30)]) (fun x => x.1 = swp d3 i2 j2 ∧ So64 b o c n x.1 x.2) ?_ ?_
    · have ks := k3.swp (i := i2) (j := j2) (by omega) (by omega)
      have q0 := fun hs' hsub => k3.at_ (w0 := w) (own := [b]) (hs := hs') (i := i2) (by omega) hsub
      have q1 := fun hs' hsub => k3.at_ (w0 := w) (own := [b]) (hs := hs') (i := j2) (by omega) hsub
      have hlen := k3.len
      have ex : ∃ d' : Array Int, d' = swp d3 i2 j2 := ⟨_, rfl⟩
      generalize d3[i2]! = x0 at q0 ks
      generalize d3[j2]! = x1 at q1 ks
      refine .drawY 13 [0, 1, 2, 3, 4, 5, 6, 7, 8, 9, 10, 11, 12, 13, 14, 15] [(b, .cells l3 30)] (fun _ h => h) (by kernel_rfl) (by kernel_rfl) ?_
      refine .x (fun _ _ _ => .move rfl) (.x (fun _ _ _ => .move rfl) (.x (fun _ _ _ => .move rfl) (.x (fun _ _ _ => .move rfl) (.x (fun _ _ _ => .move rfl) (.x (fun _ _ _ => .move rfl) (.x (fun _ _ _ => .indexN (j2) rfl rfl (by omega)) (.v (fun hs' f => .load (v := .int .u64 x1) rfl (q1 hs' f)) (.x (fun _ _ _ => .move rfl) (.x (fun _ _ _ => .move rfl) (.x (fun _ _ _ => .indexN (i2) rfl rfl (by omega)) (.v (fun hs' f => .load (v := .int .u64 x0) rfl (q0 hs' f)) (.x (fun _ _ _ => .indexN (i2) rfl rfl (by omega)) (.st (.store rfl rfl rfl (by omega)) (.x (fun _ _ _ => .indexN (j2) rfl rfl (by omega)) (.st2 (.store rfl rfl rfl (by rw [List.length_set]; omega)) (.nil ?_))))))))))))))))
      exact ⟨(swp d3 (i2) (j2), (l3.set (o + (i2)) (.int .u64 x1)).set (o + (j2)) (.int .u64 x0)), ⟨rfl, ks⟩, .cons rfl (.cons rfl (.cons rfl (.cons rfl (.nil _)))), fun _ s => s⟩
    rintro ⟨d4, l4⟩ ⟨hd4, kd4⟩
    try dsimp only at hd4 kd4 ⊢
    have zd4 := kd4.sz
    rw [← hd4] at hPL
    refine .seq ((.region (.v (.move rfl) (.v (.addE ((i2 + 1 : Nat) : Int) rfl rfl (by omega) (by omega)) (.v (.assign rfl) (.nil ?_))))))
    refine .region (.v (.move rfl) (.v (.subE ((j2 - 1 : Nat) : Int) rfl rfl (by omega) (by omega)) (.v (.assign rfl) (.nil ?_))))
    exact ⟨⟨i2 + 1, j2 - 1, d4, l4⟩, ⟨⟨by show a + 1 ≤ i2 + 1; omega, by show i2 + 1 ≤ j2 - 1 + 1; omega, by show j2 - 1 < e; omega⟩, kd4, hPL⟩, by show j2 - 1 + 1 - (i2 + 1) < j + 1 - i; omega, .cons rfl (.cons rfl (.cons rfl (.cons rfl (.nil _)))), fun _ s => s⟩
end Go.Proofs.Ytfajjkolhajldaa.S64

/- slices.breakPatternsOrdered (loosely), partialInsertionSortOrdered at uint64 (printed by wip/gen/gen_pis.py). -/
namespace Go.Proofs.Ytfajjkolhajldaa.S64
open Go.V
open Go.Sort (ltInt swp scanSorted shiftDown shiftUp fixDown fixUp partialIns partialInsertionSort PermIn)
set_option linter.unusedVariables false
set_option linter.unusedSimpArgs false
section
variable {d : Array Int} {i b : Nat}
theorem ss_go (h : i < b) (hp : (!ltInt d[i]! d[i - 1]!) = true) : scanSorted ltInt d b i = scanSorted ltInt d b (i + 1) := by rw [scanSorted, if_pos]; simp [h] at hp ⊢; exact hp
theorem ss_end (h : b ≤ i) : scanSorted ltInt d b i = i := by rw [scanSorted, if_neg]; simp; omega
theorem ss_stop (hp : (!ltInt d[i]! d[i - 1]!) = false) : scanSorted ltInt d b i = i := by rw [scanSorted, if_neg]; simp at hp; simp [hp]
end
structure BrkS where
  x : Int
  j : Nat
  d : Array Int
  l : List Value
set_option maxRecDepth 20000 in
theorem break64_ok (w : World) {b o c n : Nat} {d : Array Int} {l : List Value} (k : So64 b o c n d l) (a e : Nat) (hae : a ≤ e) (he : e ≤ n) (hn : n < 2305843009213693952) :
    Does Try.prog 98 [.slice (some ⟨b, o, none⟩) n c, .int .i64 a, .int .i64 e] [(b, .cells l 30)] w (fun _ hs => ∃ d' l', hs = [(b, .cells l' 30)] ∧ So64 b o c n d' l' ∧ PermIn a e d d') := by
  obtain ⟨h, rfl⟩ := Nat.exists_eq_add_of_le hae
  refine Does.less (Does.of (n := 65) Try.func98 rfl rfl rfl rfl ?_)
  refine .seq ((.region (.v (.move rfl) (.v (.move rfl) (.v (.subE (h : Int) rfl rfl (by omega) (by omega)) (.v (.assign rfl) (.nil ?_)))))))
  refine .seq ((.region (.v (.move rfl) (.v (.geq rfl rfl) (.nil ?_)))))
  refine .cond_dec rfl (fun h1 => ?_) (fun h1 => .skip ?_)
  case refine_2 => exact ⟨[], trivial, [(b, .cells l 30)], fun _ s => s.take, d, l, rfl, k, Go.Sort.permIn_refl d a (a + h)⟩
  refine .seq ((.region (.v (.move rfl) (.v (.convE (h : Int) rfl (wrap_u64_in (by omega))) (.nw .alloc fun b7 => (.st (.storeL rfl rfl rfl) (.nil ?_)))))))
  refine .keep [(b7, .cells [.int .u64 (h : Int)] 188), (b, .cells l 30)] ?_
  refine .seq ((.region (.v (.move rfl) ?_)))
  refine .ef (.call0 rfl rfl fun w s => nextPow_ok w h (by omega) (by omega)) ?_
  rintro _ _ ⟨_, ⟨mo, m1, m2, rfl, rfl⟩, rfl⟩
  refine .v (.assign rfl) (.nil ?_)
  obtain ⟨q, hq⟩ : ∃ q, h / 4 = q := ⟨_, rfl⟩
  have hq4 : (h : Int) / 4 = (q : Int) := by omega
  refine .seq ((.region (.v (.move rfl) (.v (.move rfl) (.v (.quoN q rfl rfl (by decide) hq4 (by omega) (by omega)) (.v (.muli rfl rfl (by omega)) (.v (.addE ((a + q * 2 : Nat) : Int) rfl rfl (by omega) (by omega)) (.v (.subE ((a + q * 2 - 1 : Nat) : Int) rfl rfl (by omega) (by omega)) (.v (.assign rfl) (.nil ?_))))))))))
  refine .block (.loop (X := BrkS) (fun x => [(0, .slice (some ⟨b, o, none⟩) n c), (1, .int .i64 a), (6, .int .i64 h), (7, .pointer (some ⟨b7, 0, none⟩)), (8, .int .u64 mo), (9, .int .i64 x.j)]) (fun x => [(b7, .cells [.int .u64 x.x] 188), (b, .cells x.l 30)]) (fun x => (a + q * 2 - 1 ≤ x.j ∧ x.j ≤ a + q * 2 + 2) ∧ So64 b o c n x.d x.l ∧ PermIn a (a + h) d x.d) (fun x => a + q * 2 + 2 - x.j) ⟨h, a + q * 2 - 1, d, l⟩ ⟨⟨Nat.le_refl _, by show a + q * 2 - 1 ≤ _; omega⟩, k, Go.Sort.permIn_refl d a (a + h)⟩ (.cons rfl (.cons rfl (.cons rfl (.cons rfl (.cons rfl (.cons rfl (.nil _))))))) (fun _ s => s) ?_)
  rintro ⟨x, j, d1, l1⟩ ⟨⟨hj1, hj2⟩, k1, hp⟩
  dsimp only at hj1 hj2 k1 hp ⊢
  refine .seq (.seq ((.region (.v (.move rfl) (.v (.move rfl) (.v (.move rfl) (.v (.quoN q rfl rfl (by decide) hq4 (by omega) (by omega)) (.v (.muli rfl rfl (by omega)) (.v (.addE ((a + q * 2 : Nat) : Int) rfl rfl (by omega) (by omega)) (.v (.addE ((a + q * 2 + 1 : Nat) : Int) rfl rfl (by omega) (by omega)) (.v (.leq rfl rfl) (.nil ?_))))))))))))
  refine .cond_dec rfl (fun h2 => .skip ?_) (fun h2 => .exit ?_)
  case refine_2 => exact ⟨[], trivial, [(b, .cells l1 30)], fun _ s => s.take, d1, l1, rfl, k1, hp⟩
  refine .seq (.block (.seq ((.region ?_))))
  refine .ef (.callT [(b7, .cells [.int .u64 x] 188)] rfl rfl fun w s => next_ok w b7 x) ?_
  rintro _ _ ⟨_, ⟨y, hy, rfl, rfl⟩, rfl⟩
  have hr := and_rng (y := y) (z := (mo : Int) - 1) (by omega) (by omega)
  obtain ⟨r, hr2⟩ : ∃ r : Nat, bop .and .u64 y ((mo : Int) - 1) = (r : Int) := ⟨(bop .and .u64 y ((mo : Int) - 1)).toNat, by omega⟩
  refine .v (.move rfl) (.v (.subU ((mo : Int) - 1) rfl rfl rfl (by omega)) (.v (.and rfl rfl) (.v (.convE (r : Int) rfl (by rw [hr2]; exact wrap_i64 (by omega))) (.v (.assign rfl) (.nil ?_)))))
  refine .mid (X := Nat) (fun t => [(0, .slice (some ⟨b, o, none⟩) n c), (1, .int .i64 a), (6, .int .i64 h), (7, .pointer (some ⟨b7, 0, none⟩)), (8, .int .u64 mo), (9, .int .i64 j), (10, .int .i64 t)]) (fun _ => [(b7, .cells [.int .u64 y] 188), (b, .cells l1 30)]) (fun t => t < h) (.seq ((.region (.v (.move rfl) (.v (.move rfl) (.v (.geq rfl rfl) (.nil ?_))))))) ?_
  · refine .cond_dec rfl (fun h3 => ?_) (fun h3 => .skip ?_)
    · refine .region (.v (.move rfl) (.v (.move rfl) (.v (.subE ((r - h : Nat) : Int) rfl rfl (by omega) (by omega)) (.v (.assign rfl) (.nil ?_)))))
      exact ⟨r - h, by omega, .cons rfl (.cons rfl (.cons rfl (.cons rfl (.cons rfl (.cons rfl (.cons rfl (.nil _))))))), fun _ s => s.take⟩
    · exact ⟨r, by omega, .cons rfl (.cons rfl (.cons rfl (.cons rfl (.cons rfl (.cons rfl (.cons rfl (.nil _))))))), fun _ s => s.take⟩
  rintro t ht
  try dsimp only at ht ⊢
  have k3 := k1.swp (i := j) (j := a + t) (by omega) (by omega)
  have p3 := Go.Sort.permIn_trans _ _ _ a (a + h) hp (Go.Sort.swp_permIn d1 a (a + h) j (a + t) (by omega) (by omega) (by omega) (by omega) (by rw [k1.sz]; exact he))
  have q0 := fun hs' hsub => k1.at_ (w0 := w) (own := [b]) (hs := hs') (i := j) (by omega) hsub
  have q1 := fun hs' hsub => k1.at_ (w0 := w) (own := [b]) (hs := hs') (i := a + t) (by omega) hsub
  have hlen := k1.len
  generalize hD : swp d1 j (a + t) = D at k3 p3
  generalize d1[j]! = x0 at q0 k3
  generalize d1[a + t]! = x1 at q1 k3
  refine .drawY 17 [0, 1, 2, 3, 4, 5, 6, 7, 8, 9, 10, 11, 12, 13, 14, 15, 16, 17, 18, 19] [(b, .cells l1 30)] (fun _ h => .tail _ h) (by kernel_rfl) (by kernel_rfl) ?_
  refine .x (fun _ _ _ => .move rfl) (.x (fun _ _ _ => .move rfl) (.x (fun _ _ _ => .move rfl) (.x (fun _ _ _ => .move rfl) (.x (fun _ _ _ => .move rfl) (.x (fun _ _ _ => .addE ((a + t : Nat) : Int) rfl rfl (by omega) (by omega)) (.x (fun _ _ _ => .move rfl) (.x (fun _ _ _ => .move rfl) (.x (fun _ _ _ => .move rfl) (.x (fun _ _ _ => .addE ((a + t : Nat) : Int) rfl rfl (by omega) (by omega)) (.x (fun _ _ _ => .indexN (a + t) rfl rfl (by omega)) (.v (fun hs' f => .load (v := .int .u64 x1) rfl (q1 hs' f)) (.x (fun _ _ _ => .move rfl) (.x (fun _ _ _ => .move rfl) (.x (fun _ _ _ => .indexN (j) rfl rfl (by omega)) (.v (fun hs' f => .load (v := .int .u64 x0) rfl (q0 hs' f)) (.x (fun _ _ _ => .indexN (j) rfl rfl (by omega)) (.st (.store rfl rfl rfl (by omega)) (.x (fun _ _ _ => .indexN (a + t) rfl rfl (by omega)) (.st2 (.store rfl rfl rfl (by rw [List.length_set]; omega)) (.nil ?_))))))))))))))))))))
  refine .region (.v (.move rfl) (.v (.addE ((j + 1 : Nat) : Int) rfl rfl (by omega) (by omega)) (.v (.assign rfl) (.nil ?_))))
  exact ⟨⟨y, j + 1, D, (l1.set (o + j) (.int .u64 x1)).set (o + (a + t)) (.int .u64 x0)⟩, ⟨⟨by show _ ≤ j + 1; omega, by show j + 1 ≤ _; omega⟩, k3, p3⟩, by show a + q * 2 + 2 - (j + 1) < a + q * 2 + 2 - j; omega, .cons rfl (.cons rfl (.cons rfl (.cons rfl (.cons rfl (.cons rfl (.nil _)))))), fun _ s => s.take⟩
structure IS where
  t : Nat
  i : Nat
  d : Array Int
  l : List Value
set_option maxRecDepth 20000 in
theorem partial64_ok (w : World) {b o c n : Nat} {d : Array Int} {l : List Value} (k : So64 b o c n d l) (a e : Nat) (hae : a < e) (he : e ≤ n) (hn : n < 2305843009213693952) :
    Does Try.prog 101 [.slice (some ⟨b, o, none⟩) n c, .int .i64 a, .int .i64 e] [(b, .cells l 30)] w (fun v hs => ∃ l', v = .bool (partialInsertionSort ltInt d a e).2 ∧ hs = [(b, .cells l' 30)] ∧ So64 b o c n (partialInsertionSort ltInt d a e).1 l') := by
  generalize hR : partialInsertionSort ltInt d a e = R
  replace hR : partialIns ltInt a e 5 (a + 1) d = R := hR
  refine Does.of (n := 133) Try.func101 rfl rfl rfl rfl ?_
  refine .seq ((.region (.v (.assign rfl) (.nil ?_))))
  refine .seq ((.region (.v (.move rfl) (.v (.addE ((a + 1 : Nat) : Int) rfl rfl (by omega) (by omega)) (.v (.assign rfl) (.nil ?_))))))
  refine .seq (.seq ((.region (.v (.assign rfl) (.nil ?_)))))
  refine (.block (.loop (X := IS) (fun x => [(0, .slice (some ⟨b, o, none⟩) n c), (1, .int .i64 a), (2, .int .i64 e), (7, .int .i64 x.i), (8, .int .i64 x.t)]) (fun x => [(b, .cells x.l 30)]) (fun x => (x.t ≤ 5 ∧ a + 1 ≤ x.i ∧ x.i ≤ e) ∧ So64 b o c n x.d x.l ∧ partialIns ltInt a e (5 - x.t) x.i x.d = R) (fun x => 5 - x.t) ⟨0, a + 1, d, l⟩ ⟨⟨by show 0 ≤ 5; omega, by show a + 1 ≤ a + 1; omega, by show a + 1 ≤ e; omega⟩, k, hR⟩ (.cons rfl (.cons rfl (.cons rfl (.cons rfl (.cons rfl (.nil _)))))) (fun _ s => s) ?_))
  clear hR k
  rintro ⟨t, i, d1, l1⟩ ⟨⟨ht, hi1, hi2⟩, k1, hR⟩
  dsimp only at ht hi1 hi2 k1 hR ⊢
  refine .seq (.seq ((.region (.v (.move rfl) (.v (.lss rfl rfl) (.nil ?_))))))
  refine .cond_dec rfl (fun g => .skip ?_) (fun g => .exit ?_)
  case refine_2 =>
    rw [show 5 - t = 0 by omega] at hR
    subst hR
    refine .seq ((.region (.v (.assign rfl) (.nil ?_))))
    exact .ret ⟨[_], ⟨rfl, trivial⟩, l1, rfl, rfl, k1⟩
  rw [show 5 - t = (5 - (t + 1)) + 1 by omega, Go.Sort.partialIns_succ] at hR
  refine .mid (X := IS) (fun x => [(0, .slice (some ⟨b, o, none⟩) n c), (1, .int .i64 a), (2, .int .i64 e), (7, .int .i64 x.i), (8, .int .i64 t)]) (fun x => [(b, .cells x.l 30)]) (fun x => (a + 1 ≤ x.i ∧ x.i ≤ e) ∧ So64 b o c n x.d x.l ∧ partialIns ltInt a e (5 - (t + 1)) x.i x.d = R) (.block ?_) ?_
  case refine_2 =>
    rintro ⟨_, i, d2, l2⟩ ⟨⟨hi1, hi2⟩, k2, hR⟩
    try dsimp only at hi1 hi2 k2 hR ⊢
    refine .region (.v (.move rfl) (.v (.addE ((t + 1 : Nat) : Int) rfl rfl (by omega) (by omega)) (.v (.assign rfl) (.nil ?_))))
    exact ⟨⟨t + 1, i, d2, l2⟩, ⟨⟨by show t + 1 ≤ 5; omega, hi1, hi2⟩, k2, hR⟩, by show 5 - (t + 1) < 5 - t; omega, .cons rfl (.cons rfl (.cons rfl (.cons rfl (.cons rfl (.nil _))))), fun _ s => s⟩
  refine .mid (X := Nat) (fun x => [(0, .slice (some ⟨b, o, none⟩) n c), (1, .int .i64 a), (2, .int .i64 e), (7, .int .i64 x), (8, .int .i64 t)]) (fun _ => [(b, .cells l1 30)]) (fun x => (i ≤ x ∧ x ≤ e) ∧ x = scanSorted ltInt d1 e i) (.block (.loop (X := Nat) (fun x => [(0, .slice (some ⟨b, o, none⟩) n c), (1, .int .i64 a), (2, .int .i64 e), (7, .int .i64 x), (8, .int .i64 t)]) (fun _ => [(b, .cells l1 30)]) (fun x => (i ≤ x ∧ x ≤ e) ∧ scanSorted ltInt d1 e x = scanSorted ltInt d1 e i) (fun x => e - x) i ⟨⟨Nat.le_refl _, hi2⟩, rfl⟩ (.cons rfl (.cons rfl (.cons rfl (.cons rfl (.cons rfl (.nil _)))))) (fun _ s => s) ?_)) ?_
  · rintro y ⟨⟨hy1, hy2⟩, h1⟩
    try dsimp only at hy1 hy2 h1 ⊢
    by_cases hg : y < e
    case neg =>
      refine .seq (.seq (.drawK [(b, .cells l1 30)] (fun _ h => h) (by kernel_rfl) (by kernel_rfl) ?_))
      refine .v (fun _ f => .move rfl) (.v (fun _ f => .move rfl) (.v (fun _ f => .no (.lss rfl rfl) (by omega)) (.v (fun _ f => .move rfl) (.and (b2 := true) 20 31 11 11 rfl rfl (fun g1 => absurd g1 (by simp)) (.nil ?_)))))
      refine .cond_false rfl (.exit ?_)
      rw [ss_end (by omega)] at h1
      exact ⟨y, ⟨⟨hy1, hy2⟩, h1⟩, .cons rfl (.cons rfl (.cons rfl (.cons rfl (.cons rfl (.nil _))))), fun _ s => s⟩
    have q0 := fun hs' hsub => k1.at_ (w0 := w) (own := [b]) (hs := hs') (i := y) (by omega) hsub
    have q1 := fun hs' hsub => k1.at_ (w0 := w) (own := [b]) (hs := hs') (i := y - 1) (by omega) hsub
    refine .seq (.seq (.drawK [(b, .cells l1 30)] (fun _ h => h) (by kernel_rfl) (by kernel_rfl) ?_))
    refine .v (fun _ f => .move rfl) (.v (fun _ f => .move rfl) (.v (fun _ f => .yes (.lss rfl rfl) (by omega)) (.v (fun _ f => .move rfl) (.and (b2 := !ltInt d1[y]! d1[y - 1]!) 20 31 11 11 rfl rfl (fun g1 => .v (fun _ f => .move rfl) (.v (fun _ f => .move rfl) (.v (fun _ f => .indexN (y) rfl rfl (by omega)) (.v (fun hs' f => .load (v := .int .u64 d1[y]!) rfl (q0 hs' f)) (.v (fun _ f => .move rfl) (.v (fun _ f => .move rfl) (.v (fun _ f => .subE ((y - 1 : Nat) : Int) rfl rfl (by omega) (by omega)) (.v (fun _ f => .indexN (y - 1) rfl rfl (by omega)) (.v (fun hs' f => .load (v := .int .u64 d1[y - 1]!) rfl (q1 hs' f)) (.pc rfl rfl (fun w s => less64_ok w _ _) (.v (fun _ f => .not rfl) (.nil ⟨rfl, rfl, rfl, rfl⟩)))))))))))) (.nil ?_)))))
    refine .cond rfl (fun g2 => .skip ?_) (fun g2 => .exit ?_)
    · have g2' : (!ltInt d1[y]! d1[y - 1]!) = true := by simpa using g2
      refine .block (.region (.v (.move rfl) (.v (.addE ((y + 1 : Nat) : Int) rfl rfl (by omega) (by omega)) (.v (.assign rfl) (.nil ?_)))))
      exact ⟨y + 1, ⟨⟨by omega, by omega⟩, by rw [← h1]; exact (ss_go hg g2').symm⟩, by omega, .cons rfl (.cons rfl (.cons rfl (.cons rfl (.cons rfl (.nil _))))), fun _ s => s⟩
    · have g2' : (!ltInt d1[y]! d1[y - 1]!) = false := by simpa using g2
      exact ⟨y, ⟨⟨hy1, hy2⟩, by rw [← h1]; exact (ss_stop g2').symm⟩, .cons rfl (.cons rfl (.cons rfl (.cons rfl (.cons rfl (.nil _))))), fun _ s => s⟩
  rintro i2 ⟨⟨f1, f2⟩, hi3⟩
  try dsimp only at f1 f2 hi3 ⊢
  rw [← hi3] at hR
  clear hi3
  refine .seq (.seq ((.region (.v (.move rfl) (.v (.move rfl) (.v (.eqi rfl rfl) (.nil ?_)))))))
  refine .cond_dec rfl (fun g3 => ?_) (fun g3 => .skip ?_)
  · rw [if_pos (by omega)] at hR
    subst hR
    refine .seq ((.region (.v (.assign rfl) (.nil ?_))))
    exact .ret ⟨[_], ⟨rfl, trivial⟩, l1, rfl, rfl, k1⟩
  rw [if_neg (by omega)] at hR
  refine .seq (.seq ((.region (.v (.move rfl) (.v (.move rfl) (.v (.subE ((e - a : Nat) : Int) rfl rfl (by omega) (by omega)) (.v (.lss rfl rfl) (.nil ?_))))))))
  refine .cond_dec rfl (fun g4 => ?_) (fun g4 => .skip ?_)
  · rw [if_pos (by omega)] at hR
    subst hR
    refine .seq ((.region (.v (.assign rfl) (.nil ?_))))
    exact .ret ⟨[_], ⟨rfl, trivial⟩, l1, rfl, rfl, k1⟩
  rw [if_neg (by omega)] at hR
  refine .mid (X := Array Int × List Value) (fun _ => [(0, .slice (some ⟨b, o, none⟩) n c), (1, .int .i64 a), (2, .int .i64 e), (7, .int .i64 i2), (8, .int .i64 t)]) (fun x => [(b, .cells x.2 30)]) (fun x => x.1 = swp d1 i2 (i2 - 1) ∧ So64 b o c n x.1 x.2) ?_ ?_
  ·
    have k3 := k1.swp (i := i2) (j := i2 - 1) (by omega) (by omega)
    have q0 := fun hs' hsub => k1.at_ (w0 := w) (own := [b]) (hs := hs') (i := i2 - 1) (by omega) hsub
    have q1 := fun hs' hsub => k1.at_ (w0 := w) (own := [b]) (hs := hs') (i := i2) (by omega) hsub
    have hlen := k1.len
    generalize d1[i2 - 1]! = x0 at q0 k3
    generalize d1[i2]! = x1 at q1 k3
    refine .drawY 15 [0, 1, 2, 3, 4, 5, 6, 7, 8, 9, 10, 11, 12, 13, 14, 15, 16, 17] [(b, .cells l1 30)] (fun _ h => h) (by kernel_rfl) (by kernel_rfl) ?_
    refine .x (fun _ _ _ => .move rfl) (.x (fun _ _ _ => .move rfl) (.x (fun _ _ _ => .move rfl) (.x (fun _ _ _ => .move rfl) (.x (fun _ _ _ => .subE ((i2 - 1 : Nat) : Int) rfl rfl (by omega) (by omega)) (.x (fun _ _ _ => .move rfl) (.x (fun _ _ _ => .move rfl) (.x (fun _ _ _ => .subE ((i2 - 1 : Nat) : Int) rfl rfl (by omega) (by omega)) (.x (fun _ _ _ => .indexN (i2 - 1) rfl rfl (by omega)) (.v (fun hs' f => .load (v := .int .u64 x0) rfl (q0 hs' f)) (.x (fun _ _ _ => .move rfl) (.x (fun _ _ _ => .move rfl) (.x (fun _ _ _ => .indexN (i2) rfl rfl (by omega)) (.v (fun hs' f => .load (v := .int .u64 x1) rfl (q1 hs' f)) (.x (fun _ _ _ => .indexN (i2) rfl rfl (by omega)) (.st (.store rfl rfl rfl (by omega)) (.x (fun _ _ _ => .indexN (i2 - 1) rfl rfl (by omega)) (.st2 (.store rfl rfl rfl (by rw [List.length_set]; omega)) (.nil ?_))))))))))))))))))
    exact ⟨(swp d1 i2 (i2 - 1), (l1.set (o + (i2)) (.int .u64 x0)).set (o + (i2 - 1)) (.int .u64 x1)), ⟨rfl, k3⟩, .cons rfl (.cons rfl (.cons rfl (.cons rfl (.cons rfl (.nil _))))), fun _ s => s⟩
  rintro ⟨d2, l2⟩ ⟨hd2, k2⟩
  try dsimp only at hd2 k2 ⊢
  rw [← hd2] at hR
  clear hd2 k1
  refine .mid (X := Array Int × List Value) (fun _ => [(0, .slice (some ⟨b, o, none⟩) n c), (1, .int .i64 a), (2, .int .i64 e), (7, .int .i64 i2), (8, .int .i64 t)]) (fun x => [(b, .cells x.2 30)]) (fun x => x.1 = fixDown ltInt a i2 d2 ∧ So64 b o c n x.1 x.2) (.seq ((.region (.v (.move rfl) (.v (.move rfl) (.v (.subE ((i2 - a : Nat) : Int) rfl rfl (by omega) (by omega)) (.v (.geq rfl rfl) (.nil ?_)))))))) ?_
  · refine .cond_dec rfl (fun g5 => ?_) (fun g5 => .skip ?_)
    case refine_2 =>
      have hf : d2 = fixDown ltInt a i2 d2 := by unfold fixDown; rw [if_neg (by omega)]
      exact ⟨(d2, l2), ⟨hf, k2⟩, .cons rfl (.cons rfl (.cons rfl (.cons rfl (.cons rfl (.nil _))))), fun _ s => s⟩
    have hf : fixDown ltInt a i2 d2 = shiftDown ltInt (i2 - 1) d2 := by unfold fixDown; rw [if_pos (by omega)]
    refine .seq ((.region (.v (.move rfl) (.v (.subE ((i2 - 1 : Nat) : Int) rfl rfl (by omega) (by omega)) (.v (.assign rfl) (.nil ?_))))))
    refine .block (.loop (X := SL) (fun x => [(0, .slice (some ⟨b, o, none⟩) n c), (1, .int .i64 a), (2, .int .i64 e), (7, .int .i64 i2), (8, .int .i64 t), (9, .int .i64 x.i)]) (fun x => [(b, .cells x.l 30)]) (fun x => x.i ≤ i2 - 1 ∧ So64 b o c n x.d x.l ∧ shiftDown ltInt x.i x.d = fixDown ltInt a i2 d2) (fun x => x.i) ⟨i2 - 1, d2, l2⟩ ⟨by show i2 - 1 ≤ i2 - 1; omega, k2, hf.symm⟩ (.cons rfl (.cons rfl (.cons rfl (.cons rfl (.cons rfl (.cons rfl (.nil _))))))) (fun _ s => s) ?_)
    clear hf
    rintro ⟨y, d5, l5⟩ ⟨hy, k5, h1⟩
    try dsimp only at hy k5 h1 ⊢
    refine .seq (.seq ((.region (.v (.move rfl) (.v (.geq rfl rfl) (.nil ?_))))))
    refine .cond_dec rfl (fun g6 => .skip ?_) (fun g6 => .exit ?_)
    case refine_2 =>
      have y0 : y = 0 := by omega
      subst y0
      rw [shiftDown] at h1
      exact ⟨(d5, l5), ⟨h1, k5⟩, .cons rfl (.cons rfl (.cons rfl (.cons rfl (.cons rfl (.nil _))))), fun _ s => s⟩
    obtain ⟨y, rfl⟩ : ∃ y', y = y' + 1 := ⟨y - 1, by omega⟩
    rw [shiftDown] at h1
    have q0 := fun hs' hsub => k5.at_ (w0 := w) (own := [b]) (hs := hs') (i := y + 1) (by omega) hsub
    have q1 := fun hs' hsub => k5.at_ (w0 := w) (own := [b]) (hs := hs') (i := y) (by omega) hsub
    refine .seq (.block (.seq (.seq (.drawK [(b, .cells l5 30)] (fun _ h => h) (by kernel_rfl) (by kernel_rfl) ?_))))
    refine .v (fun _ f => .move rfl) (.v (fun _ f => .move rfl) (.v (fun _ f => .indexN (y + 1) rfl rfl (by omega)) (.v (fun hs' f => .load (v := .int .u64 d5[y + 1]!) rfl (q0 hs' f)) (.v (fun _ f => .move rfl) (.v (fun _ f => .move rfl) (.v (fun _ f => .subE ((y : Nat) : Int) rfl rfl (by omega) (by omega)) (.v (fun _ f => .indexN (y) rfl rfl (by omega)) (.v (fun hs' f => .load (v := .int .u64 d5[y]!) rfl (q1 hs' f)) (.pc rfl rfl (fun w s => less64_ok w _ _) (.v (fun _ f => .not rfl) (.nil ?_)))))))))))
    refine .cond rfl (fun g2 => .exit ?_) (fun g2 => .skip ?_)
    · rw [if_pos (by simpa using g2)] at h1
      exact ⟨(d5, l5), ⟨h1, k5⟩, .cons rfl (.cons rfl (.cons rfl (.cons rfl (.cons rfl (.nil _))))), fun _ s => s⟩
    rw [if_neg (by simpa using g2)] at h1
    clear q0 q1
    have k6 := k5.swp (i := y + 1) (j := y) (by omega) (by omega)
    have q0 := fun hs' hsub => k5.at_ (w0 := w) (own := [b]) (hs := hs') (i := y) (by omega) hsub
    have q1 := fun hs' hsub => k5.at_ (w0 := w) (own := [b]) (hs := hs') (i := y + 1) (by omega) hsub
    have hlen := k5.len
    generalize hD : swp d5 (y + 1) y = D at k6 h1
    generalize d5[y]! = x0 at q0 k6
    generalize d5[y + 1]! = x1 at q1 k6
    refine .drawY 15 [0, 1, 2, 3, 4, 5, 6, 7, 8, 9, 10, 11, 12, 13, 14, 15, 16, 17] [(b, .cells l5 30)] (fun _ h => h) (by kernel_rfl) (by kernel_rfl) ?_
    refine .x (fun _ _ _ => .move rfl) (.x (fun _ _ _ => .move rfl) (.x (fun _ _ _ => .move rfl) (.x (fun _ _ _ => .move rfl) (.x (fun _ _ _ => .subE ((y : Nat) : Int) rfl rfl (by omega) (by omega)) (.x (fun _ _ _ => .move rfl) (.x (fun _ _ _ => .move rfl) (.x (fun _ _ _ => .subE ((y : Nat) : Int) rfl rfl (by omega) (by omega)) (.x (fun _ _ _ => .indexN (y) rfl rfl (by omega)) (.v (fun hs' f => .load (v := .int .u64 x0) rfl (q0 hs' f)) (.x (fun _ _ _ => .move rfl) (.x (fun _ _ _ => .move rfl) (.x (fun _ _ _ => .indexN (y + 1) rfl rfl (by omega)) (.v (fun hs' f => .load (v := .int .u64 x1) rfl (q1 hs' f)) (.x (fun _ _ _ => .indexN (y + 1) rfl rfl (by omega)) (.st (.store rfl rfl rfl (by omega)) (.x (fun _ _ _ => .indexN (y) rfl rfl (by omega)) (.st2 (.store rfl rfl rfl (by rw [List.length_set]; omega)) (.nil ?_))))))))))))))))))
    refine .region (.v (.move rfl) (.v (.subE ((y : Nat) : Int) rfl rfl (by omega) (by omega)) (.v (.assign rfl) (.nil ?_))))
    exact ⟨⟨y, D, (l5.set (o + (y + 1)) (.int .u64 x0)).set (o + (y)) (.int .u64 x1)⟩, ⟨by show y ≤ i2 - 1; omega, k6, h1⟩, by show y < y + 1; omega, .cons rfl (.cons rfl (.cons rfl (.cons rfl (.cons rfl (.cons rfl (.nil _)))))), fun _ s => s⟩
  rintro ⟨d3, l3⟩ ⟨hd3, k3⟩
  try dsimp only at hd3 k3 ⊢
  rw [← hd3] at hR
  clear hd3 k2
  refine .seq ((.region (.v (.move rfl) (.v (.move rfl) (.v (.subE ((e - i2 : Nat) : Int) rfl rfl (by omega) (by omega)) (.v (.geq rfl rfl) (.nil ?_)))))))
  refine .cond_dec rfl (fun g5 => ?_) (fun g5 => .skip ?_)
  case refine_2 =>
    have hf : d3 = fixUp ltInt e i2 d3 := by unfold fixUp; rw [if_neg (by omega)]
    exact ⟨⟨0, i2, d3, l3⟩, ⟨⟨by show a + 1 ≤ i2; omega, f2⟩, k3, by show partialIns ltInt a e (5 - (t + 1)) i2 d3 = R; rw [← hR]; exact congrArg _ (hf)⟩, .cons rfl (.cons rfl (.cons rfl (.cons rfl (.cons rfl (.nil _))))), fun _ s => s⟩
  have hf : fixUp ltInt e i2 d3 = shiftUp ltInt e (i2 + 1) d3 := by unfold fixUp; rw [if_pos (by omega)]
  refine .seq ((.region (.v (.move rfl) (.v (.addE ((i2 + 1 : Nat) : Int) rfl rfl (by omega) (by omega)) (.v (.assign rfl) (.nil ?_))))))
  refine .block (.loop (X := SL) (fun x => [(0, .slice (some ⟨b, o, none⟩) n c), (1, .int .i64 a), (2, .int .i64 e), (7, .int .i64 i2), (8, .int .i64 t), (10, .int .i64 x.i)]) (fun x => [(b, .cells x.l 30)]) (fun x => (i2 + 1 ≤ x.i ∧ x.i ≤ e) ∧ So64 b o c n x.d x.l ∧ shiftUp ltInt e x.i x.d = fixUp ltInt e i2 d3) (fun x => e - x.i) ⟨i2 + 1, d3, l3⟩ ⟨⟨by show i2 + 1 ≤ i2 + 1; omega, by show i2 + 1 ≤ e; omega⟩, k3, hf.symm⟩ (.cons rfl (.cons rfl (.cons rfl (.cons rfl (.cons rfl (.cons rfl (.nil _))))))) (fun _ s => s) ?_)
  clear hf
  rintro ⟨y, d5, l5⟩ ⟨⟨hy1, hy2⟩, k5, h1⟩
  try dsimp only at hy1 hy2 k5 h1 ⊢
  refine .seq (.seq ((.region (.v (.move rfl) (.v (.move rfl) (.v (.lss rfl rfl) (.nil ?_)))))))
  refine .cond_dec rfl (fun g6 => .skip ?_) (fun g6 => .exit ?_)
  case refine_2 =>
    rw [shiftUp, if_neg (by omega)] at h1
    exact ⟨⟨0, i2, d5, l5⟩, ⟨⟨by show a + 1 ≤ i2; omega, f2⟩, k5, by show partialIns ltInt a e (5 - (t + 1)) i2 d5 = R; rw [← hR]; exact congrArg _ (h1)⟩, .cons rfl (.cons rfl (.cons rfl (.cons rfl (.cons rfl (.nil _))))), fun _ s => s⟩
  rw [shiftUp, if_pos (by omega)] at h1
  have q0 := fun hs' hsub => k5.at_ (w0 := w) (own := [b]) (hs := hs') (i := y) (by omega) hsub
  have q1 := fun hs' hsub => k5.at_ (w0 := w) (own := [b]) (hs := hs') (i := y - 1) (by omega) hsub
  refine .seq (.block (.seq (.seq (.drawK [(b, .cells l5 30)] (fun _ h => h) (by kernel_rfl) (by kernel_rfl) ?_))))
  refine .v (fun _ f => .move rfl) (.v (fun _ f => .move rfl) (.v (fun _ f => .indexN (y) rfl rfl (by omega)) (.v (fun hs' f => .load (v := .int .u64 d5[y]!) rfl (q0 hs' f)) (.v (fun _ f => .move rfl) (.v (fun _ f => .move rfl) (.v (fun _ f => .subE ((y - 1 : Nat) : Int) rfl rfl (by omega) (by omega)) (.v (fun _ f => .indexN (y - 1) rfl rfl (by omega)) (.v (fun hs' f => .load (v := .int .u64 d5[y - 1]!) rfl (q1 hs' f)) (.pc rfl rfl (fun w s => less64_ok w _ _) (.v (fun _ f => .not rfl) (.nil ?_)))))))))))
  refine .cond rfl (fun g2 => .exit ?_) (fun g2 => .skip ?_)
  · rw [if_pos (by simpa using g2)] at h1
    exact ⟨⟨0, i2, d5, l5⟩, ⟨⟨by show a + 1 ≤ i2; omega, f2⟩, k5, by show partialIns ltInt a e (5 - (t + 1)) i2 d5 = R; rw [← hR]; exact congrArg _ (h1)⟩, .cons rfl (.cons rfl (.cons rfl (.cons rfl (.cons rfl (.nil _))))), fun _ s => s⟩
  rw [if_neg (by simpa using g2)] at h1
  clear q0 q1
  have k6 := k5.swp (i := y) (j := y - 1) (by omega) (by omega)
  have q0 := fun hs' hsub => k5.at_ (w0 := w) (own := [b]) (hs := hs') (i := y - 1) (by omega) hsub
  have q1 := fun hs' hsub => k5.at_ (w0 := w) (own := [b]) (hs := hs') (i := y) (by omega) hsub
  have hlen := k5.len
  generalize hD : swp d5 (y) (y - 1) = D at k6 h1
  generalize d5[y - 1]! = x0 at q0 k6
  generalize d5[y]! = x1 at q1 k6
  refine .drawY 15 [0, 1, 2, 3, 4, 5, 6, 7, 8, 9, 10, 11, 12, 13, 14, 15, 16, 17] [(b, .cells l5 30)] (fun _ h => h) (by kernel_rfl) (by kernel_rfl) ?_
  refine .x (fun _ _ _ => .move rfl) (.x (fun _ _ _ => .move rfl) (.x (fun _ _ _ => .move rfl) (.x (fun _ _ _ => .move rfl) (.x (fun _ _ _ => .subE ((y - 1 : Nat) : Int) rfl rfl (by omega) (by omega)) (.x (fun _ _ _ => .move rfl) (.x (fun _ _ _ => .move rfl) (.x (fun _ _ _ => .subE ((y - 1 : Nat) : Int) rfl rfl (by omega) (by omega)) (.x (fun _ _ _ => .indexN (y - 1) rfl rfl (by omega)) (.v (fun hs' f => .load (v := .int .u64 x0) rfl (q0 hs' f)) (.x (fun _ _ _ => .move rfl) (.x (fun _ _ _ => .move rfl) (.x (fun _ _ _ => .indexN (y) rfl rfl (by omega)) (.v (fun hs' f => .load (v := .int .u64 x1) rfl (q1 hs' f)) (.x (fun _ _ _ => .indexN (y) rfl rfl (by omega)) (.st (.store rfl rfl rfl (by omega)) (.x (fun _ _ _ => .indexN (y - 1) rfl rfl (by omega)) (.st2 (.store rfl rfl rfl (by rw [List.length_set]; omega)) (.nil ?_))))))))))))))))))
  refine .region (.v (.move rfl) (.v (.addE ((y + 1 : Nat) : Int) rfl rfl (by omega) (by omega)) (.v (.assign rfl) (.nil ?_))))
  exact ⟨⟨y + 1, D, (l5.set (o + (y)) (.int .u64 x0)).set (o + (y - 1)) (.int .u64 x1)⟩, ⟨⟨by show i2 + 1 ≤ y + 1; omega, by show y + 1 ≤ e; omega⟩, k6, h1⟩, by show e - (y + 1) < e - y; omega, .cons rfl (.cons rfl (.cons rfl (.cons rfl (.cons rfl (.cons rfl (.nil _)))))), fun _ s => s⟩
end Go.Proofs.Ytfajjkolhajldaa.S64

/- slices.pdqsortOrdered, Sort at uint64 (printed by wip/gen/gen_pdq.py). -/
namespace Go.Proofs.Ytfajjkolhajldaa.S64
open Go.V
open Go.Sort (ltInt swp insertionSort heapSort reverseRange choosePivot partition partitionEqual partialInsertionSort PermIn SortedIn Below permIn_trans permIn_refl swo_ltInt)
set_option linter.unusedVariables false
set_option linter.unusedSimpArgs false
structure DS where
  a : Nat
  e : Nat
  t : Nat
  wb : Bool
  wp : Bool
  d : Array Int
  l : List Value
structure RS where
  p : Nat
  h : Int
  d : Array Int
  l : List Value
abbrev PdqR (b o c n a e : Nat) (d : Array Int) (hs : Hp) : Prop := ∃ d' l', hs = [(b, .cells l' 30)] ∧ So64 b o c n d' l' ∧ PermIn a e d d' ∧ SortedIn ltInt a e d'
set_option maxRecDepth 20000 in
theorem pdq64_ok : ∀ (N : Nat) (w : World) {b o c n : Nat} {d : Array Int} {l : List Value} (k : So64 b o c n d l) (a e t : Nat) (hN : e - a ≤ N) (hae : a ≤ e) (he : e ≤ n) (hn : n < 2305843009213693952) (ht : t < 2305843009213693952) (hB : Below ltInt a e d),
    Does Try.prog 86 [.slice (some ⟨b, o, none⟩) n c, .int .i64 a, .int .i64 e, .int .i64 t] [(b, .cells l 30)] w (fun _ hs => PdqR b o c n a e d hs) := by
  intro N
  induction N using Nat.strongRecOn with
  | ind N IH =>
  intro w b o c n d l k a e t hN hae he hn ht hB
  refine Does.of (n := 134) Try.func86 rfl rfl rfl rfl ?_
  refine .seq ((.region (.v (.assign rfl) (.nil ?_))))
  refine .seq ((.region (.v (.assign rfl) (.nil ?_))))
  refine .block (.loop (X := DS) (fun x => [(0, .slice (some ⟨b, o, none⟩) n c), (1, .int .i64 x.a), (2, .int .i64 x.e), (3, .int .i64 x.t), (8, .bool x.wb), (9, .bool x.wp)]) (fun x => [(b, .cells x.l 30)]) (fun x => (x.a ≤ x.e ∧ x.e ≤ n ∧ x.e - x.a ≤ N ∧ x.t < 2305843009213693952) ∧ So64 b o c n x.d x.l ∧ Below ltInt x.a x.e x.d ∧ ∀ R, PermIn x.a x.e x.d R → SortedIn ltInt x.a x.e R → PermIn a e d R ∧ SortedIn ltInt a e R) (fun x => x.e - x.a) ⟨a, e, t, true, true, d, l⟩ ⟨⟨hae, he, hN, ht⟩, k, hB, fun R h1 h2 => ⟨h1, h2⟩⟩ (.cons rfl (.cons rfl (.cons rfl (.cons rfl (.cons rfl (.cons rfl (.nil _))))))) (fun _ s => s) ?_)
  clear hN hae he ht hB k
  rintro ⟨a1, e1, t1, wb, wp, d1, l1⟩ ⟨⟨hae, he, hN, ht⟩, k1, hB, hC⟩
  dsimp only at hae he hN ht k1 hB hC ⊢
  have z1 : e1 ≤ d1.size := by rw [k1.sz]; exact he
  refine .block (.seq ((.region (.v (.move rfl) (.v (.move rfl) (.v (.subE ((e1 - a1 : Nat) : Int) rfl rfl (by omega) (by omega)) (.v (.assign rfl) (.nil ?_))))))))
  refine .seq (.seq ((.region (.v (.move rfl) (.v (.leq rfl rfl) (.nil ?_))))))
  refine .cond_dec rfl (fun h1 => ?_) (fun h1 => .skip ?_)
  · refine .seq ((.region (.v (.move rfl) (.v (.move rfl) (.v (.move rfl) ?_)))))
    refine .ef (.callT [(b, .cells l1 30)] rfl rfl fun w s => ins64_ok w k1 a1 e1 he (by omega) (by omega)) ?_
    rintro _ _ ⟨_, ⟨l2, rfl, k2⟩, rfl⟩
    obtain ⟨p2, s2⟩ := Go.Sort.insertionSort_holds (lt := ltInt) swo_ltInt d1 a1 e1 hae z1
    refine .nil ?_
    exact .ret ⟨[], trivial, _, l2, rfl, k2, hC _ p2 s2⟩
  refine .seq (.seq ((.region (.v (.move rfl) (.v (.eqi rfl rfl) (.nil ?_))))))
  refine .cond_dec rfl (fun h2 => ?_) (fun h2 => .skip ?_)
  · refine .seq ((.region (.v (.move rfl) (.v (.move rfl) (.v (.move rfl) ?_)))))
    refine .ef (.callT [(b, .cells l1 30)] rfl rfl fun w s => heap64_ok w k1 a1 e1 hae he hn) ?_
    rintro _ _ ⟨_, ⟨l2, rfl, k2⟩, rfl⟩
    obtain ⟨p2, s2⟩ := Go.Sort.heapSort_holds (lt := ltInt) swo_ltInt d1 a1 e1 hae z1
    refine .nil ?_
    exact .ret ⟨[], trivial, _, l2, rfl, k2, hC _ p2 s2⟩
  refine .mid (X := RS) (fun x => [(0, .slice (some ⟨b, o, none⟩) n c), (1, .int .i64 a1), (2, .int .i64 e1), (3, .int .i64 x.p), (8, .bool wb), (9, .bool wp), (10, .int .i64 ((e1 - a1 : Nat) : Int))]) (fun x => [(b, .cells x.l 30)]) (fun x => x.p < 2305843009213693952 ∧ So64 b o c n x.d x.l ∧ PermIn a1 e1 d1 x.d) (.seq ((.region (.v (.move rfl) (.v (.not rfl) (.nil ?_)))))) ?_
  · refine .cond rfl (fun h3 => ?_) (fun h3 => .skip ?_)
    · refine .seq ((.region (.v (.move rfl) (.v (.move rfl) (.v (.move rfl) ?_)))))
      refine .ef (.callT [(b, .cells l1 30)] rfl rfl fun w s => break64_ok w k1 a1 e1 hae he hn) ?_
      rintro _ _ ⟨_, ⟨d2, l2, rfl, k2, p2⟩, rfl⟩
      refine .nil ?_
      refine .region (.v (.move rfl) (.v (.subE ((t1 - 1 : Nat) : Int) rfl rfl (by omega) (by omega)) (.v (.assign rfl) (.nil ?_))))
      exact ⟨⟨t1 - 1, 0, d2, l2⟩, ⟨by show t1 - 1 < _; omega, k2, p2⟩, .cons rfl (.cons rfl (.cons rfl (.cons rfl (.cons rfl (.cons rfl (.cons rfl (.nil _))))))), fun _ s => s.take⟩
    · exact ⟨⟨t1, 0, d1, l1⟩, ⟨ht, k1, permIn_refl d1 a1 e1⟩, .cons rfl (.cons rfl (.cons rfl (.cons rfl (.cons rfl (.cons rfl (.cons rfl (.nil _))))))), fun _ s => s⟩
  rintro ⟨t2, _, d2, l2⟩ ⟨ht2, k2, p2⟩
  dsimp only at ht2 k2 p2 ⊢
  have z2 : e1 ≤ d2.size := by rw [k2.sz]; exact he
  refine .seq ((.region (.v (.move rfl) (.v (.move rfl) (.v (.move rfl) ?_)))))
  refine .ef (.call0 rfl rfl fun w s => choose64_ok w k2.sz (OwnS.rd k2.own s (no := []) (fun y hy => by simp at hy; subst hy; simp) (by simp)) a1 e1 (by omega) he hn) ?_
  rintro _ _ ⟨_, ⟨rfl, rfl⟩, rfl⟩
  have hc := Go.Sort.choosePivot_holds ltInt d2 a1 e1 (by omega)
  refine .v (.move rfl) (.v (.extract rfl rfl) (.v (.extract rfl rfl) (.v (.assign rfl) (.v (.assign rfl) (.nil ?_)))))
  generalize choosePivot ltInt d2 a1 e1 = cp at hc ⊢
  obtain ⟨pv, hint⟩ := cp
  dsimp only at hc ⊢
  generalize hintV hint = hv
  refine .mid (X := RS) (fun x => [(0, .slice (some ⟨b, o, none⟩) n c), (1, .int .i64 a1), (2, .int .i64 e1), (3, .int .i64 t2), (8, .bool wb), (9, .bool wp), (10, .int .i64 ((e1 - a1 : Nat) : Int)), (11, .int .i64 x.p), (12, .int .i64 x.h)]) (fun x => [(b, .cells x.l 30)]) (fun x => (a1 ≤ x.p ∧ x.p < e1) ∧ So64 b o c n x.d x.l ∧ PermIn a1 e1 d1 x.d) (.seq ((.region (.v (.move rfl) (.v (.eqi rfl rfl) (.nil ?_)))))) ?_
  · refine .cond_dec rfl (fun h4 => ?_) (fun h4 => .skip ?_)
    · refine .seq ((.region (.v (.move rfl) (.v (.move rfl) (.v (.move rfl) ?_)))))
      refine .ef (.callT [(b, .cells l2 30)] rfl rfl fun w s => rev64_ok w k2 a1 e1 (by omega) he hn) ?_
      rintro _ _ ⟨_, ⟨l3, rfl, k3⟩, rfl⟩
      have p3 := Go.Sort.reverseRange_holds d2 a1 e1 hae z2
      refine .nil ?_
      refine .seq ((.region (.v (.move rfl) (.v (.subE ((e1 - 1 : Nat) : Int) rfl rfl (by omega) (by omega)) (.v (.move rfl) (.v (.move rfl) (.v (.subE ((pv - a1 : Nat) : Int) rfl rfl (by omega) (by omega)) (.v (.subE ((e1 - 1 - (pv - a1) : Nat) : Int) rfl rfl (by omega) (by omega)) (.v (.assign rfl) (.nil ?_))))))))))
      refine .region (.v (.assign rfl) (.nil ?_))
      exact ⟨⟨e1 - 1 - (pv - a1), 1, _, l3⟩, ⟨⟨by show a1 ≤ e1 - 1 - (pv - a1); omega, by show e1 - 1 - (pv - a1) < e1; omega⟩, k3, permIn_trans _ _ _ _ _ p2 p3⟩, .cons rfl (.cons rfl (.cons rfl (.cons rfl (.cons rfl (.cons rfl (.cons rfl (.cons rfl (.cons rfl (.nil _))))))))), fun _ s => s.take⟩
    · exact ⟨⟨pv, hv, d2, l2⟩, ⟨hc, k2, p2⟩, .cons rfl (.cons rfl (.cons rfl (.cons rfl (.cons rfl (.cons rfl (.cons rfl (.cons rfl (.cons rfl (.nil _))))))))), fun _ s => s.take⟩
  clear hc k2 p2 z2
  rintro ⟨p, hv, d3, l3⟩ ⟨⟨hp1, hp2⟩, k3, p3⟩
  dsimp only at hp1 hp2 k3 p3 ⊢
  have z3 : e1 ≤ d3.size := by rw [k3.sz]; exact he
  have B3 := hB.perm z1 p3
  refine .mid (X := RS) (fun x => [(0, .slice (some ⟨b, o, none⟩) n c), (1, .int .i64 a1), (2, .int .i64 e1), (3, .int .i64 t2), (8, .bool wb), (9, .bool wp), (10, .int .i64 ((e1 - a1 : Nat) : Int)), (11, .int .i64 p)]) (fun x => [(b, .cells x.l 30)]) (fun x => So64 b o c n x.d x.l ∧ PermIn a1 e1 d1 x.d) (.seq ((.region (.v (.move rfl) (.v (.move rfl) (.and (b2 := wp) 62 63 1 1 rfl rfl (fun g1 => .v (.move rfl) (.nil ⟨rfl, rfl, rfl, rfl⟩)) (.v (.move rfl) (.and (b2 := decide (hv = 1)) 65 67 2 2 rfl rfl (fun g2 => .v (.move rfl) (.v (.eqi rfl rfl) (.nil ⟨rfl, rfl, rfl, rfl⟩))) (.nil ?_))))))))) ?_
  · refine .cond rfl (fun h5 => ?_) (fun h5 => .skip ?_)
    · refine .seq ((.region (.v (.move rfl) (.v (.move rfl) (.v (.move rfl) ?_)))))
      refine .ef (.callT [(b, .cells l3 30)] rfl rfl fun w s => partial64_ok w k3 a1 e1 (by omega) he hn) ?_
      rintro _ _ ⟨_, ⟨l4, rfl, rfl, k4⟩, rfl⟩
      obtain ⟨p4, s4⟩ := Go.Sort.partialInsertionSort_holds (lt := ltInt) swo_ltInt d3 a1 e1 (by omega) z3 B3
      refine .nil ?_
      refine .cond rfl (fun h6 => ?_) (fun h6 => .skip ?_)
      · exact .ret ⟨[], trivial, _, l4, rfl, k4, hC _ (permIn_trans _ _ _ _ _ p3 p4) (s4 h6)⟩
      · exact ⟨⟨0, 0, _, l4⟩, ⟨k4, permIn_trans _ _ _ _ _ p3 p4⟩, .cons rfl (.cons rfl (.cons rfl (.cons rfl (.cons rfl (.cons rfl (.cons rfl (.cons rfl (.nil _)))))))), fun _ s => s.take⟩
    · exact ⟨⟨0, 0, d3, l3⟩, ⟨k3, p3⟩, .cons rfl (.cons rfl (.cons rfl (.cons rfl (.cons rfl (.cons rfl (.cons rfl (.cons rfl (.nil _)))))))), fun _ s => s⟩
  clear k3 p3 z3 B3 h1 h2
  rintro ⟨_, _, d3, l3⟩ ⟨k3, p3⟩
  dsimp only at k3 p3 ⊢
  have z3 : e1 ≤ d3.size := by rw [k3.sz]; exact he
  have B3 := hB.perm z1 p3
  refine .mid (X := Unit) (fun _ => [(0, .slice (some ⟨b, o, none⟩) n c), (1, .int .i64 a1), (2, .int .i64 e1), (3, .int .i64 t2), (8, .bool wb), (9, .bool wp), (10, .int .i64 ((e1 - a1 : Nat) : Int)), (11, .int .i64 p)]) (fun _ => [(b, .cells l3 30)]) (fun _ => True) (.seq (.drawK [(b, .cells l3 30)] (fun _ h => h) (by kernel_rfl) (by kernel_rfl) ?_)) ?_
  · by_cases hg : 0 < a1
    case neg =>
      refine .v (fun _ f => .move rfl) (.v (fun _ f => .no (.gtr rfl rfl) (by omega)) (.v (fun _ f => .move rfl) (.and (b2 := true) 75 86 11 11 rfl rfl (fun g1 => absurd g1 (by simp)) (.nil ?_))))
      refine .cond_false rfl (.skip ?_)
      exact ⟨(), trivial, .cons rfl (.cons rfl (.cons rfl (.cons rfl (.cons rfl (.cons rfl (.cons rfl (.cons rfl (.nil _)))))))), fun _ s => s⟩
    have q0 := fun hs' hsub => k3.at_ (w0 := w) (own := [b]) (hs := hs') (i := a1 - 1) (by omega) hsub
    have q1 := fun hs' hsub => k3.at_ (w0 := w) (own := [b]) (hs := hs') (i := p) (by omega) hsub
    refine .v (fun _ f => .move rfl) (.v (fun _ f => .yes (.gtr rfl rfl) (by omega)) (.v (fun _ f => .move rfl) (.and (b2 := !ltInt d3[a1 - 1]! d3[p]!) 75 86 11 11 rfl rfl (fun g1 => .v (fun _ f => .move rfl) (.v (fun _ f => .move rfl) (.v (fun _ f => .subE ((a1 - 1 : Nat) : Int) rfl rfl (by omega) (by omega)) (.v (fun _ f => .indexN (a1 - 1) rfl rfl (by omega)) (.v (fun hs' f => .load (v := .int .u64 d3[a1 - 1]!) rfl (q0 hs' f)) (.v (fun _ f => .move rfl) (.v (fun _ f => .move rfl) (.v (fun _ f => .indexN p rfl rfl (by omega)) (.v (fun hs' f => .load (v := .int .u64 d3[p]!) rfl (q1 hs' f)) (.pc rfl rfl (fun w s => less64_ok w _ _) (.v (fun _ f => .not rfl) (.nil ⟨rfl, rfl, rfl, rfl⟩)))))))))))) (.nil ?_))))
    refine .cond rfl (fun h7 => ?_) (fun h7 => .skip ?_)
    · have h7' : ltInt d3[a1 - 1]! d3[p]! = false := by simpa using h7
      obtain ⟨r1, r2, r3, r4, r5⟩ := Go.Sort.round_eq (lt := ltInt) swo_ltInt (Go.Sort.partitionEqual_holds _) hg hp1 hp2 z3 B3 h7' (mid := (partitionEqual ltInt d3 a1 e1 p).1) (d4 := (partitionEqual ltInt d3 a1 e1 p).2) rfl
      refine .seq ((.region (.v (.move rfl) (.v (.move rfl) (.v (.move rfl) (.v (.move rfl) ?_))))))
      refine .ef (.callT [(b, .cells l3 30)] rfl rfl fun w s => partEq64_ok w k3 a1 e1 p hp1 hp2 he hn) ?_
      generalize partitionEqual ltInt d3 a1 e1 p = pe at r1 r2 r3 r4 r5
      rintro _ _ ⟨_, ⟨l4, rfl, rfl, k4⟩, rfl⟩
      refine .v (.assign rfl) (.nil ?_)
      refine .seq ((.region (.v (.move rfl) (.v (.assign rfl) (.nil ?_)))))
      refine .exit ?_
      exact ⟨⟨pe.1, e1, t2, wb, wp, pe.2, l4⟩, ⟨⟨r2, he, by show e1 - pe.1 ≤ N; omega, ht2⟩, k4, r4, fun R u1 u2 => by obtain ⟨v1, v2⟩ := r5 R u1 u2; exact hC R (permIn_trans _ _ _ _ _ p3 v1) v2⟩, by show e1 - pe.1 < e1 - a1; omega, .cons rfl (.cons rfl (.cons rfl (.cons rfl (.cons rfl (.cons rfl (.nil _)))))), fun _ s => s.take⟩
    · exact ⟨(), trivial, .cons rfl (.cons rfl (.cons rfl (.cons rfl (.cons rfl (.cons rfl (.cons rfl (.cons rfl (.nil _)))))))), fun _ s => s⟩
  rintro _ _
  try dsimp only
  obtain ⟨r1, r2, r3, r4, r5, r6, r7⟩ := Go.Sort.round_part (lt := ltInt) swo_ltInt (Go.Sort.partition_holds _) hp1 hp2 z3 B3 (mid := (partition ltInt d3 a1 e1 p).1) (ap := (partition ltInt d3 a1 e1 p).2.1) (d4 := (partition ltInt d3 a1 e1 p).2.2) rfl
  refine .seq ((.region (.v (.move rfl) (.v (.move rfl) (.v (.move rfl) (.v (.move rfl) ?_))))))
  refine .ef (.callT [(b, .cells l3 30)] rfl rfl fun w s => partition64_ok w k3 a1 e1 p hp1 hp2 he hn) ?_
  generalize partition ltInt d3 a1 e1 p = pe at r1 r2 r3 r4 r5 r6 r7
  obtain ⟨m, _, d4⟩ := pe
  dsimp only at r1 r2 r3 r4 r5 r6 r7
  rintro _ _ ⟨_, ⟨l4, f, rfl, rfl, k4⟩, rfl⟩
  dsimp only at k4
  have z4 : e1 ≤ d4.size := by rw [k4.sz]; exact he
  refine .v (.move rfl) (.v (.extract rfl rfl) (.v (.extract rfl rfl) (.v (.assign rfl) (.v (.assign rfl) (.nil ?_)))))
  refine .seq ((.region (.v (.move rfl) (.v (.assign rfl) (.nil ?_)))))
  refine .seq ((.region (.v (.move rfl) (.v (.move rfl) (.v (.subE ((m - a1 : Nat) : Int) rfl rfl (by omega) (by omega)) (.v (.move rfl) (.v (.move rfl) (.v (.subE ((e1 - m : Nat) : Int) rfl rfl (by omega) (by omega)) (.v (.assign rfl) (.v (.assign rfl) (.nil ?_)))))))))))
  refine .seq ((.region (.v (.move rfl) (.v (.quoN ((e1 - a1) / 8) rfl rfl (by decide) rfl (by omega) (by omega)) (.v (.assign rfl) (.nil ?_))))))
  refine .seq ((.region (.v (.move rfl) (.v (.move rfl) (.v (.lss rfl rfl) (.nil ?_))))))
  refine .cond_dec rfl (fun h8 => ?_) (fun h8 => ?_)
  · refine .seq ((.region (.v (.move rfl) (.v (.move rfl) (.v (.geq rfl rfl) (.v (.assign rfl) (.nil ?_)))))))
    refine .seq ((.region (.v (.move rfl) (.v (.move rfl) (.v (.move rfl) (.v (.move rfl) ?_))))))
    refine .ef (.callT [(b, .cells l4 30)] rfl rfl fun w s => IH (m - a1) (by omega) w k4 a1 m t2 (Nat.le_refl _) r1 (by omega) hn ht2 r4) ?_
    rintro _ _ ⟨_, ⟨d5, l5, rfl, k5, p5, s5⟩, rfl⟩
    obtain ⟨u1, u2⟩ := r6 d5 p5 s5
    refine .nil ?_
    refine .region (.v (.move rfl) (.v (.addE ((m + 1 : Nat) : Int) rfl rfl (by omega) (by omega)) (.v (.assign rfl) (.nil ?_))))
    exact ⟨⟨m + 1, e1, t2, _, f, d5, l5⟩, ⟨⟨by show m + 1 ≤ e1; omega, he, by show e1 - (m + 1) ≤ N; omega, ht2⟩, k5, u1, fun R v1 v2 => by obtain ⟨x1, x2⟩ := u2 R v1 v2; exact hC R (permIn_trans _ _ _ _ _ p3 x1) x2⟩, by show e1 - (m + 1) < e1 - a1; omega, .cons rfl (.cons rfl (.cons rfl (.cons rfl (.cons rfl (.cons rfl (.nil _)))))), fun _ s => s.take⟩
  · refine .seq ((.region (.v (.move rfl) (.v (.move rfl) (.v (.geq rfl rfl) (.v (.assign rfl) (.nil ?_)))))))
    refine .seq ((.region (.v (.move rfl) (.v (.move rfl) (.v (.addE ((m + 1 : Nat) : Int) rfl rfl (by omega) (by omega)) (.v (.move rfl) (.v (.move rfl) ?_)))))))
    refine .ef (.callT [(b, .cells l4 30)] rfl rfl fun w s => IH (e1 - (m + 1)) (by omega) w k4 (m + 1) e1 t2 (Nat.le_refl _) (by omega) he hn ht2 r5) ?_
    rintro _ _ ⟨_, ⟨d5, l5, rfl, k5, p5, s5⟩, rfl⟩
    obtain ⟨u1, u2⟩ := r7 d5 p5 s5
    refine .nil ?_
    refine .region (.v (.move rfl) (.v (.assign rfl) (.nil ?_)))
    exact ⟨⟨a1, m, t2, _, f, d5, l5⟩, ⟨⟨r1, by show m ≤ n; omega, by show m - a1 ≤ N; omega, ht2⟩, k5, u1, fun R v1 v2 => by obtain ⟨x1, x2⟩ := u2 R v1 v2; exact hC R (permIn_trans _ _ _ _ _ p3 x1) x2⟩, by show m - a1 < e1 - a1; omega, .cons rfl (.cons rfl (.cons rfl (.cons rfl (.cons rfl (.cons rfl (.nil _)))))), fun _ s => s.take⟩
/-- what sorting makes of a row of numbers -/
def srt (z : List Int) : List Int := z.mergeSort (fun x y => !ltInt y x)
theorem srt_len (z : List Int) : (srt z).length = z.length := List.length_mergeSort ..
set_option maxRecDepth 20000 in
theorem sort64_ok (w : World) {b o c : Nat} {z : List Int} {l : List Value} (k : OwnS 30 1 (.slice (some ⟨b, o, none⟩) z.length c) z.length (ints .u64 z) [(b, .cells l 30)]) (hn : z.length < 2305843009213693952) :
    Does Try.prog 63 [.slice (some ⟨b, o, none⟩) z.length c] [(b, .cells l 30)] w (fun _ hs => ∃ l', hs = [(b, .cells l' 30)] ∧ OwnS 30 1 (.slice (some ⟨b, o, none⟩) z.length c) z.length (ints .u64 (srt z)) [(b, .cells l' 30)]) := by
  have k0 : So64 b o c z.length z.toArray l := ⟨by simp, by simpa using k⟩
  refine Does.of (n := 11) Try.func63 rfl rfl rfl rfl ?_
  refine .seq ((.region (.v (.move rfl) (.v (.len rfl) (.v (.assign rfl) (.nil ?_))))))
  refine .region (.v (.move rfl) (.v (.move rfl) (.v (.move rfl) (.v (.convE (z.length : Int) rfl (wrap_u64_in (by omega))) ?_))))
  refine .ef (.call0 rfl rfl fun w s => len_ok w z.length (by omega)) ?_
  rintro _ _ ⟨_, ⟨t, h1, h2, rfl, rfl⟩, rfl⟩
  refine .ef (.callT [(b, .cells l 30)] rfl rfl fun w s => pdq64_ok z.length w k0 0 z.length t (Nat.le_refl _) (Nat.zero_le _) (Nat.le_refl _) hn (by omega) (.inl rfl)) ?_
  rintro _ _ ⟨_, ⟨d', l', rfl, k2, p2, s2⟩, rfl⟩
  refine .nil ?_
  have e1 := Go.Sort.sorted_unique_holds (lt := ltInt) swo_ltInt (fun x y h1 h2 => by simp [ltInt] at h1 h2; omega) z.toArray d' (by simpa using p2) (by simpa using s2)
  refine ⟨[], trivial, l', rfl, ?_⟩
  have := k2.own
  rw [e1] at this
  exact this
end Go.Proofs.Ytfajjkolhajldaa.S64
