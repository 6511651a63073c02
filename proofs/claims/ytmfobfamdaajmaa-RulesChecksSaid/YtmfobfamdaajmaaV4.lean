/- V4: regions that draw their order. -/
import Derived.Test.YtmfobfamdaajmaaV3
import Derived.OrdersHeld
namespace Go
namespace V
open Go.RowKit
set_option linter.unusedVariables false
set_option linter.unusedSimpArgs false

/-- worlds that hold at least 'F' -/
def Keeps (w0 : World) (own : List Nat) (F : Hp) : World → Prop := fun w => ∃ hs, Sat w0 own hs w ∧ F ⊆ hs
def QN (K : Act → World → Prop) : Exit → Act → World → Prop
  | .normal, a, w => K a w
  | _, _, _ => False

/-- the operations that have not come up, in whatever order they may: all run; 'F' is held all the way -/
def JD (P : Program) (n : Nat) (w0 : World) (own : List Nat) (ops : Array Oper) (F : Hp) (m : Nat) (listed : Array Bool) (e : Env) (hs : Hp) (K : Env → Hp → Prop) : Prop :=
  ∀ a w, Rep n a e → Sat w0 own hs w → F ⊆ hs →
    wpAnyH P .any ops (QN fun a' w' => ∃ e' hs', Rep n a' e' ∧ Sat w0 own hs' w' ∧ K e' hs') (Keeps w0 own F) m listed a w

/-- may number i be taken first? -/
def firstB (ops : Array Oper) (listed : Array Bool) (i : Nat) : Bool :=
  Region.noSelect ops && Region.free .any ops listed i && (Region.ready .any ops listed).contains i
def onlyB (ops : Array Oper) (listed : Array Bool) (i : Nat) : Bool := (Region.ready .any ops listed) == [i]
def doneB (ops : Array Oper) (listed : Array Bool) : Bool := (Region.ready .any ops listed).isEmpty

section
variable {P : Program} {n : Nat} {w0 : World} {own : List Nat} {e : Env} {hs F : Hp} {ops : Array Oper} {K : Env → Hp → Prop} {m : Nat} {listed : Array Bool}
variable {d : Nat} {ty : TypeId} {pos : String} {aft : Array Edge} {g : Option (Nat × Bool)}

theorem JC.draw {id : Nat} {Q : Post} (F : Hp) (hF : F ⊆ hs) (hm : P.follows .mixedOrders = true) (h : JD P n w0 own ops F ops.size (Array.replicate ops.size false) e hs (fun e hs => Q .normal e hs)) :
    JC P n w0 own (.region id ops true) e hs Q := by
  intro a w hr s
  refine wp_mono (wp_region_held (S := Keeps w0 own F) hm (h a { w with drawn := w.drawn + 1 } hr s.drew hF)) ?_
  intro x a' w' hq
  cases x with
  | normal => exact hq
  | _ => exact hq.elim

theorem JD.done (hd : doneB ops listed = true) (h : K e hs) : JD P n w0 own ops F m listed e hs K :=
  fun a w hr s hF => wpAnyH_done (by simpa [doneB] using hd) ⟨e, hs, hr, s, h⟩ m

/-- a value, whichever time: it is taken first -/
theorem JD.v {op : Op} {v : Value} (i : Nat) (hi : ops[i]? = some ⟨some d, op, ty, pos, aft, g⟩) (hf : firstB ops listed i = true)
    (h : ∀ hs', F ⊆ hs' → Val P n w0 own e hs' op v) (k : JD P n w0 own ops F m (listed.setIfInBounds i true) ((d, v) :: e) hs K)
    (hdn : Nat.blt d n = true := by rfl) (hg : wantB ops e g = some true := by rfl) : JD P n w0 own ops F (m + 1) listed e hs K := by
  intro a w hr s hF
  unfold firstB at hf
  rw [Bool.and_eq_true, Bool.and_eq_true] at hf
  exact wpAnyH_take hi hf.1.1 hf.1.2 hf.2 (fun _ _ _ h => h)
    (.inl ⟨wanted_of hr hg, fun w' ⟨hs', s', f'⟩ => h hs' f' a w' _ _ _ _ _ hr s'⟩) ⟨hs, s, hF⟩
    (k _ _ (hr.put (Nat.le_of_ble_eq_true hdn) v) s hF)
/-- an operation that is passed over -/
theorem JD.sk {op : Op} {o : Option Nat} (i : Nat) (hi : ops[i]? = some ⟨some d, op, ty, pos, aft, g⟩) (hf : firstB ops listed i = true)
    (k : JD P n w0 own ops F m (listed.setIfInBounds i true) ((d, undef) :: e) hs K)
    (hdn : Nat.blt d n = true := by rfl) (hg : wantB ops e g = some false := by rfl) : JD P n w0 own ops F (m + 1) listed e hs K := by
  intro a w hr s hF
  unfold firstB at hf
  rw [Bool.and_eq_true, Bool.and_eq_true] at hf
  exact wpAnyH_take hi hf.1.1 hf.1.2 hf.2 (fun _ _ _ h => h)
    (.inr ⟨wanted_of hr hg, rfl⟩) ⟨hs, s, hF⟩
    (k _ _ (hr.put (Nat.le_of_ble_eq_true hdn) undef) s hF)
/-- the one operation that may come up now -/
theorem JD.ef {op : Op} {R : Value → Hp → Prop} (i : Nat) (hi : ops[i]? = some ⟨some d, op, ty, pos, aft, g⟩) (ho : onlyB ops listed i = true)
    (h : Eff P n w0 own e hs op R) (k : ∀ v hs', R v hs' → JD P n w0 own ops F m (listed.setIfInBounds i true) ((d, v) :: e) hs' K) (hF : ∀ v hs', R v hs' → F ⊆ hs → F ⊆ hs')
    (hdn : Nat.blt d n = true := by rfl) (hg : wantB ops e g = some true := by rfl) : JD P n w0 own ops F (m + 1) listed e hs K := by
  intro a w hr s hf
  refine wpAnyH_all (rs := [i]) (by simpa [onlyB] using ho) (by simp) ?_
  intro j hj
  simp only [List.mem_singleton] at hj
  subst hj
  unfold wpOp
  simp only [hi]
  rw [if_pos (wanted_of hr hg)]
  exact .inl (h a w _ _ _ _ _ _ _ hr s fun v hs' w' r s' => ⟨⟨hs', s', hF v hs' r hf⟩, k v hs' r _ _ (hr.put (Nat.le_of_ble_eq_true hdn) v) s' (hF v hs' r hf)⟩)
theorem JD.ef0 {op : Op} {R : Value → Hp → Prop} (i : Nat) (hi : ops[i]? = some ⟨none, op, ty, pos, aft, g⟩) (ho : onlyB ops listed i = true)
    (h : Eff P n w0 own e hs op R) (k : ∀ v hs', R v hs' → JD P n w0 own ops F m (listed.setIfInBounds i true) e hs' K) (hF : ∀ v hs', R v hs' → F ⊆ hs → F ⊆ hs')
    (hg : wantB ops e g = some true := by rfl) : JD P n w0 own ops F (m + 1) listed e hs K := by
  intro a w hr s hf
  refine wpAnyH_all (rs := [i]) (by simpa [onlyB] using ho) (by simp) ?_
  intro j hj
  simp only [List.mem_singleton] at hj
  subst hj
  unfold wpOp
  simp only [hi]
  rw [if_pos (wanted_of hr hg)]
  exact .inl (h a w _ _ _ _ _ _ _ hr s fun v hs' w' r s' => ⟨⟨hs', s', hF v hs' r hf⟩, k v hs' r _ _ (hr.put_none v) s' (hF v hs' r hf)⟩)
theorem JD.split {t : Nat} {p : Prop} [Decidable p] (ht : get e t = some (.bool (decide p))) (h1 : p → JD P n w0 own ops F m listed ((t, .bool true) :: e) hs K)
    (h0 : ¬ p → JD P n w0 own ops F m listed ((t, .bool false) :: e) hs K) : JD P n w0 own ops F m listed e hs K := by
  by_cases hp : p
  · rw [decide_eq_true hp] at ht
    exact fun a w hr s => h1 hp a w (hr.same ht) s
  · rw [decide_eq_false hp] at ht
    exact fun a w hr s => h0 hp a w (hr.same ht) s
theorem JD.splitB {t : Nat} {b : Bool} (ht : get e t = some (.bool b)) (h1 : b = true → JD P n w0 own ops F m listed ((t, .bool true) :: e) hs K)
    (h0 : b = false → JD P n w0 own ops F m listed ((t, .bool false) :: e) hs K) : JD P n w0 own ops F m listed e hs K := by
  cases b
  · exact fun a w hr s => h0 rfl a w (hr.same ht) s
  · exact fun a w hr s => h1 rfl a w (hr.same ht) s
/-- a last store -/
theorem JD.st {op : Op} {hs' : Hp} (i : Nat) (hi : ops[i]? = some ⟨none, op, ty, pos, aft, g⟩) (ho : onlyB ops listed i = true)
    (h : Eff P n w0 own e hs op (fun v h => v = undef ∧ h = hs')) (k : JD P n w0 own ops F m (listed.setIfInBounds i true) e hs' K) (hF : F ⊆ hs → F ⊆ hs')
    (hg : wantB ops e g = some true := by rfl) : JD P n w0 own ops F (m + 1) listed e hs K :=
  JD.ef0 i hi ho h (fun v h' ⟨_, e2⟩ => by subst e2; exact k) (fun v h' ⟨_, e2⟩ => by subst e2; exact hF) hg
end
end V
end Go
