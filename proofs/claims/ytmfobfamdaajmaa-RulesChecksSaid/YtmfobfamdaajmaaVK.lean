/- VK: calls that leave a value and nothing else. -/
import Derived.Test.YtmfobfamdaajmaaVJ
namespace Go
namespace V
open Go.RowKit
set_option linter.unusedVariables false
set_option linter.unusedSimpArgs false

/-- the call returns 'v', whatever it is lent -/
abbrev Is (P : Program) (g : Nat) (vals : List Value) (w : World) (v : Value) : Prop := Does P g vals [] w (fun u hs => u = v ∧ hs = [])
theorem vb {a b : Bool} (h : a = true ↔ b = true) : Value.bool a = Value.bool b := congrArg Value.bool (Bool.eq_iff_iff.2 h)
section
variable {P : Program} {n : Nat} {w0 : World} {own : List Nat} {e : Env} {hs F : Hp} {ops : Array Oper} {rest l : List Oper} {K : Env → Hp → Prop}
variable {d : Nat} {ty : TypeId} {pos : String} {aft : Array Edge} {gd : Option (Nat × Bool)} {m : Nat} {listed : Array Bool}

/-- a store of a whole block -/
theorem Eff.sw {T m b U : Nat} {x y : Operand} {vs l : List Value} {hs' : Hp} (hx : ev e x = some (.pointer (some ⟨b, 0, none⟩))) (hy : ev e y = some (.agg ⟨vs⟩)) [hT : Sz P T m] [hb : Mem b (.cells l U) hs]
    [u : UpdI b (.cells vs U) hs hs'] (hm : vs.length = m := by rfl) (h1 : ones vs = true := by rfl) (ho : l.length = m := by rfl) : Eff P n w0 own e hs (.store T x y) (fun v h => v = undef ∧ h = hs') :=
  Eff.storeW hx hy hm h1 ho
theorem JL.pc {g : Nat} {f : Operand} {args : List Operand} {at_ : Array TypeId} {cap vals : List Value} {v : Value}
    (hf : ev e f = some (.func (.func g) #[] ⟨cap⟩)) (ha : evs e args = some vals) (hc : ∀ w, Sat w0 own hs w → Is P g (vals ++ cap) w v) (k : JL P n w0 own ops rest ((d, v) :: e) hs K) [hg : FnT P g]
    (hdn : Nat.blt d n = true := by rfl) (hw : wantB ops e gd = some true := by rfl) :
    JL P n w0 own ops (⟨some d, .call { callee := .value f, args := ⟨args⟩, argTypes := at_ }, ty, pos, aft, gd⟩ :: rest) e hs K :=
  JL.ef (.call0 hf ha hc) (fun _ _ ⟨_, ⟨h1, h2⟩, h3⟩ => by subst h1; subst h2; subst h3; exact k) hdn hw
theorem JD.pc {g : Nat} {f : Operand} {args : List Operand} {at_ : Array TypeId} {cap vals : List Value} {v : Value} (i : Nat)
    (hi : ops[i]? = some ⟨some d, .call { callee := .value f, args := ⟨args⟩, argTypes := at_ }, ty, pos, aft, gd⟩) (ho : onlyB ops listed i = true)
    (hf : ev e f = some (.func (.func g) #[] ⟨cap⟩)) (ha : evs e args = some vals) (hc : ∀ w, Sat w0 own hs w → Is P g (vals ++ cap) w v) (k : JD P n w0 own ops F m (listed.setIfInBounds i true) ((d, v) :: e) hs K) [hg : FnT P g]
    (hdn : Nat.blt d n = true := by rfl) (hw : wantB ops e gd = some true := by rfl) :
    JD P n w0 own ops F (m + 1) listed e hs K :=
  JD.ef i hi ho (.call0 hf ha hc) (fun _ _ ⟨_, ⟨h1, h2⟩, h3⟩ => by subst h1; subst h2; subst h3; exact k) (fun _ _ ⟨_, ⟨_, h2⟩, h3⟩ f => by subst h2; subst h3; exact f) hdn hw
end
end V
end Go
