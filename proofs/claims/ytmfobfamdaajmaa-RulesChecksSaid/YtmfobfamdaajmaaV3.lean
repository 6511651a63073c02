/- V3: the rules of calls, returns, slices of slices. -/
import Derived.Test.YtmfobfamdaajmaaV2
namespace Go
namespace V
open Go.RowKit
set_option linter.unusedVariables false
set_option linter.unusedSimpArgs false

/-- a function of the program that is entered when it is called -/
class FnT (P : Program) (g : Nat) : Prop where
  out : ∃ fn, P.funcs[g]? = some fn ∧ (fn.name == "runtime.NumGoroutine") = false ∧ fn.body.isNone = false
def fnB (P : Program) (g : Nat) : Bool := match P.funcs[g]? with
  | some fn => !(fn.name == "runtime.NumGoroutine") && !fn.body.isNone
  | none => false
theorem FnT.of {P : Program} {g : Nat} (h : fnB P g = true) : FnT P g := by
  unfold fnB at h
  split at h
  · rename_i fn hf
    rw [Bool.and_eq_true] at h
    exact ⟨fn, hf, by simpa using h.1, by simpa using h.2⟩
  · cases h

/-- WHAT A CALL DOES: begun in a world that holds 'pre', it returns a value and leaves blocks of which 'R' tells; nothing else that lay there is turned. -/
def Does (P : Program) (g : Nat) (vals : List Value) (pre : Hp) (w : World) (R : Value → Hp → Prop) : Prop :=
  Holds pre w → (bl pre).Nodup → Calls P g ⟨vals⟩ w fun x w' => ∃ v hs', x = .returned v ∧ R v hs' ∧ Sat w (bl pre) hs' w'
theorem Does.mono {P : Program} {g : Nat} {vals : List Value} {pre : Hp} {w : World} {R R' : Value → Hp → Prop} (h : Does P g vals pre w R) (k : ∀ v hs, R v hs → R' v hs) : Does P g vals pre w R' :=
  fun a b => (h a b).mono fun x w' ⟨v, hs', h1, h2, h3⟩ => ⟨v, hs', h1, k _ _ h2, h3⟩

def envFrom : Nat → List Value → Env
  | _, [] => []
  | i, v :: vs => (i, v) :: envFrom (i + 1) vs
theorem get_envFrom : ∀ (vs : List Value) (i t : Nat) (v : Value), get (envFrom i vs) t = some v → ∃ j, t = i + j ∧ vs[j]? = some v
  | [], i, t, v, h => by simp [envFrom, get] at h
  | u :: vs, i, t, v, h => by
    simp only [envFrom, get] at h
    cases hb : Nat.beq i t with
    | true => rw [hb] at h; simp at h; exact ⟨0, by have := Nat.eq_of_beq_eq_true hb; omega, by simp [h]⟩
    | false =>
      rw [hb] at h
      obtain ⟨j, h1, h2⟩ := get_envFrom vs (i + 1) t v h
      exact ⟨j + 1, by omega, by simpa using h2⟩

/-- the values of the results -/
def ResV (P : Program) (w0 : World) (own : List Nat) (e : Env) (hs : Hp) : List ResultVar → List Value → Prop
  | [], [] => True
  | .tmp t :: rs, v :: vs => get e t = some v ∧ ResV P w0 own e hs rs vs
  | .cell t T :: rs, v :: vs => (∃ a, get e t = some (.pointer (some a)) ∧ ((Sc P T ∧ At w0 own hs a [v]) ∨ ∃ m l, Ag P T m ∧ l.length = m ∧ v = .agg ⟨l⟩ ∧ At w0 own hs a l)) ∧ ResV P w0 own e hs rs vs
  | _, _ => False
def tup : List Value → Value
  | [v] => v
  | vs => .tuple ⟨vs⟩
def retQ (P : Program) (w0 : World) (own : List Nat) (rs : List ResultVar) (R : Value → Hp → Prop) : Post
  | .normal, e, hs => ∃ vs, ResV P w0 own e hs rs vs ∧ R (tup vs) hs
  | .ret, e, hs => ∃ vs, ResV P w0 own e hs rs vs ∧ R (tup vs) hs
  | _, _, _ => False

def resOne (tmps : Array Value) : ResultVar → Sem Value
  | .tmp t => pure (tmps.getD t undef)
  | .cell b t => do loadVar t (← asAddr (tmps.getD b undef))
theorem ResV.run {P : Program} {w0 w : World} {own : List Nat} {n : Nat} {a : Act} {e : Env} {hs : Hp} (hr : Rep n a e) (s : Sat w0 own hs w) : ∀ {rs : List ResultVar} {vs : List Value}, ResV P w0 own e hs rs vs →
    (rs.mapM (resOne a.tmps)).run P w = .ok vs w := by
  intro rs
  induction rs with
  | nil =>
    intro vs h
    cases vs with
    | nil => simp
    | cons v vs => exact h.elim
  | cons r rs ih =>
    intro vs h
    cases vs with
    | nil => cases r <;> exact h.elim
    | cons v vs =>
      cases r with
      | tmp t =>
        obtain ⟨h1, h2⟩ := h
        have := hr.at_ t v h1
        simp [resOne, this, ih h2]
      | cell t T =>
        obtain ⟨⟨ad, h1, h3⟩, h2⟩ := h
        have := hr.at_ t _ h1
        rcases h3 with ⟨hT, hc⟩ | ⟨m, l, hT, hl, rfl, hc⟩
        · have h4 : w.cell? ad = some v := by have := hc w s 0 v (by simp); simpa [Addr.add] using this
          simp [resOne, this, asAddr, run_loadVar_sc hT h4, ih h2]
        · simp [resOne, this, asAddr, run_loadVar_ag hT hl (hc w s), ih h2]

theorem retQ.results {P : Program} {w0 w : World} {own : List Nat} {n : Nat} {a : Act} {e : Env} {hs : Hp} {fn : Func} {rs : List ResultVar} {vs : List Value} (hrs : fn.results = ⟨rs⟩)
    (hr : Rep n a e) (s : Sat w0 own hs w) (h : ResV P w0 own e hs rs vs) : (Go.results fn a.tmps).run P w = .ok (tup vs) w := by
  have h1 := ResV.run hr s h
  unfold Go.results
  rw [hrs, Sem.run_bind]
  rw [show (⟨rs⟩ : Array ResultVar) = rs.toArray from rfl, List.mapM_toArray]
  have h2 : ∀ (m : Sem (List Value)), m.run P w = .ok vs w → (List.toArray <$> m).run P w = .ok vs.toArray w := by
    intro m hm
    have : (List.toArray <$> m) = (m >>= fun x => pure x.toArray) := by simp
    rw [this, Sem.run_bind, hm]
    simp
  have h4 : ∀ g : ResultVar → Sem Value, (∀ x, g x = resOne a.tmps x) → (List.toArray <$> rs.mapM g).run P w = .ok vs.toArray w := by
    intro g hg
    rw [show g = resOne a.tmps from funext hg]
    exact h2 _ h1
  rw [h4 _ (by intro x; cases x <;> rfl)]
  match vs with
  | [] => simp [tup]
  | [v] => simp [tup]
  | v :: u :: vs => simp [tup]

section
variable {P : Program} {n : Nat} {w0 : World} {own : List Nat} {e : Env} {hs : Hp} {ops : Array Oper} {rest : List Oper} {K : Env → Hp → Prop}
variable {d : Nat} {ty : TypeId} {pos : String} {aft : Array Edge}

theorem Does.of {g : Nat} {fn : Func} {c : Code} {rs : List ResultVar} {vals : List Value} {pre : Hp} {w : World} {R : Value → Hp → Prop} (hf : P.funcs[g]? = some fn) (hb : fn.body = some c) (hrs : fn.results = ⟨rs⟩)
    (hn : fn.ntmps = n) (hv : Nat.ble vals.length n = true) (h : JC P n w (bl pre) c (envFrom 0 vals) pre (retQ P w (bl pre) rs R)) : Does P g vals pre w R := by
  intro hp hd
  have hv := Nat.le_of_ble_eq_true hv
  refine calls_of_wp hf hb (wp_mono (h _ w ?_ (Sat.begin hp hd)) ?_)
  · refine ⟨rfl, by simp [hn]; omega, fun t v ht => ?_⟩
    obtain ⟨j, h1, h2⟩ := get_envFrom vals 0 t v ht
    have hj := (List.getElem?_eq_some_iff.1 h2).1
    have : t = j := by omega
    subst this
    rw [Array.getElem?_append_left (by simpa using hj)]
    simpa using h2
  · rintro x a w' ⟨e', hs', h1, h2, h3⟩
    cases x with
    | normal =>
      obtain ⟨vs, h4, h5⟩ := h3
      exact ⟨h1.nd, _, retQ.results hrs h1 h2 h4, _, hs', rfl, h5, h2⟩
    | ret =>
      obtain ⟨vs, h4, h5⟩ := h3
      exact ⟨h1.nd, _, retQ.results hrs h1 h2 h4, _, hs', rfl, h5, h2⟩
    | _ => exact h3.elim

/-- a call -/
theorem Eff.call {g : Nat} {f : Operand} {args : List Operand} {at_ : Array TypeId} {cap vals : List Value} {pre fr : Hp} {R : Value → Hp → Prop}
    (hf : ev e f = some (.func (.func g) #[] ⟨cap⟩)) (ha : evs e args = some vals) [hg : FnT P g]
    (hp : hs.Perm (pre ++ fr)) (hc : ∀ w, Sat w0 own hs w → Does P g (vals ++ cap) pre w R) :
    Eff P n w0 own e hs (.call { callee := .value f, args := ⟨args⟩, argTypes := at_ }) (fun v hs' => ∃ h, R v h ∧ hs' = h ++ fr) := by
  intro a w ty pos aft gd d K Q hr s hk
  obtain ⟨fn, h1, h2, h3⟩ := hg.out
  have hrun : (execOp a.eval ⟨d, .call { callee := .value f, args := ⟨args⟩, argTypes := at_ }, ty, pos, aft, gd⟩).run P w = .ok (.enter g ⟨vals ++ cap⟩) w := by
    have hargs : (⟨args⟩ : Array Operand).map a.eval = ⟨vals⟩ := by
      have := hr.evals ha
      simp [this]
    have h2' : ¬ fn.name = "runtime.NumGoroutine" := by simpa using h2
    have h3' : ¬ fn.body = none := by intro hh; rw [hh] at h3; cases h3
    simp [execOp, resolve, hr.eval hf, Deferred.ofValue, hargs, invoke, callFunc, h1, h2', h3']
  simp only [Oper.wp, hrun, Oper.upon_enter]
  have s' := s.perm hp
  have hh := hc w s (fun b c hb => s'.has b c (List.mem_append.2 (.inl hb))) (by have := s'.nd; simp only [bl, List.map_append, List.nodup_append] at this; exact this.1)
  refine Calls.mono hh ?_
  rintro x w' ⟨v, hs', rfl, h4, h5⟩
  exact hk v _ w' ⟨hs', h4, rfl⟩ (s'.call h5)
/-- a call that is lent nothing -/
theorem Eff.call0 {g : Nat} {f : Operand} {args : List Operand} {at_ : Array TypeId} {cap vals : List Value} {R : Value → Hp → Prop}
    (hf : ev e f = some (.func (.func g) #[] ⟨cap⟩)) (ha : evs e args = some vals) [hg : FnT P g]
    (hc : ∀ w, Sat w0 own hs w → Does P g (vals ++ cap) [] w R) :
    Eff P n w0 own e hs (.call { callee := .value f, args := ⟨args⟩, argTypes := at_ }) (fun v hs' => ∃ h, R v h ∧ hs' = h ++ hs) :=
  Eff.call (pre := []) hf ha (List.Perm.refl _) hc
end
end V
end Go
