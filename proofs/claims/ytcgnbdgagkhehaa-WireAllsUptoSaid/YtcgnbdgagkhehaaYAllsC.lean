/- Texts that the row RAlls stands on: VYN, VZD, VZE, WAlls, WTold, LOne, WAlone, WBurst, LBurst, VZF, LAlls, WReader, WStep, LReaders, VN, BReaders, VT, VB, BAlls. -/
import Derived.Test.YtcgnbdgagkhehaaYAllsB
import Derived.OrdersIn
import Derived.Test.YtcgnbdgagkhehaaYAllsA
import Derived.Test.YtcgnbdgagkhehaaRows
import Derived.SizedLaws
/- VYN: as VY, where a check against nil may come up at any time too. -/
namespace Go
namespace V
open Go.RowKit
set_option linter.unusedVariables false
set_option linter.unusedSimpArgs false
/-- does the operation touch no memory? -/
def noMemN (o : Oper) : Bool := match o.op with
  | .move _ => true
  | .indexAddr .. => true
  | .fieldAddr .. => true
  | .binOp .. => true
  | .extract .. => true
  | .nilCheck _ => true
  | _ => false
section
variable {P : Program} {n : Nat} {w0 : World} {own : List Nat} {e : Env} {hs F : Hp} {ops : Array Oper} {K : Env → Hp → Prop} {z m : Nat} {listed : Array Bool}
variable {d : Nat} {ty : TypeId} {pos : String} {aft : Array Edge} {g : Option (Nat × Bool)}
theorem JZ.xN {op : Op} {v : Value} (i : Nat) (hi : ops[i]? = some ⟨some d, op, ty, pos, aft, g⟩) (hf : firstB ops listed i = true) (hzi : z ≠ i)
    (h : ∀ w, Val P n w [] e [] op v) (k : JZ P n w0 own ops F z m (listed.setIfInBounds i true) ((d, v) :: e) hs K)
    (hdn : Nat.blt d n = true := by rfl) (hg : wantB ops e g = some true := by rfl) : JZ P n w0 own ops F z (m + 1) listed e hs K := by
  intro a w hr s hF
  unfold firstB at hf
  rw [Bool.and_eq_true, Bool.and_eq_true] at hf
  obtain ⟨⟨f1, f2⟩, f3⟩ := hf
  exact Upto.firstX hi (Region.noSelect_spec f1) (fun _ _ _ h => h) hzi m listed a w (Region.free_spec hi f2) (by simpa using f3)
    (.inl ⟨wanted_of hr hg, fun w' _ => h w' a w' _ _ _ _ _ hr (Sat.begin0 w')⟩) (fun hz => ⟨hs, s, hF hz⟩)
    (k _ _ (hr.put (Nat.le_of_ble_eq_true hdn) v) s fun hz => hF (by rw [getD_set_ne true (Ne.symm hzi)] at hz; exact hz))
end

def ordN (ops : Array Oper) (z : Nat) : List Oper → List Nat → Array Bool → Bool
  | [], [], _ => true
  | o :: l, i :: is, listed => (onlyB ops listed i || (!isEff o && firstZ ops z listed i) || (noMemN o && firstB ops listed i && !Nat.beq z i)) && (o.dst.isSome || Nat.beq i z || listed.getD z true) && ordN ops z l is (listed.setIfInBounds i true)
  | _, _, _ => false
/-- the operations in their order; 'late': the first store has been -/
def JN (P : Program) (n : Nat) (w0 : World) (own : List Nat) (ops : Array Oper) (F : Hp) (z : Nat) (late : Bool) (l : List Oper) (e : Env) (hs : Hp) (K : Bool → Env → Hp → Prop) : Prop :=
  ∀ (m : Nat) (is : List Nat) (listed : Array Bool) (Z : Env → Hp → Prop), Nums ops l is → ordN ops z l is listed = true → listed.size = ops.size → listed.getD z true = late → (late = false → F ⊆ hs) →
    (∀ late' e' hs', (marks_ is listed).getD z true = late' → (late' = false → F ⊆ hs') → K late' e' hs' → JZ P n w0 own ops F z m (marks_ is listed) e' hs' Z) → JZ P n w0 own ops F z (l.length + m) listed e hs Z

theorem eff_memN {o : Oper} (h : isEff o = true) : noMemN o = false := by
  unfold isEff at h; unfold noMemN
  split <;> simp_all
section
variable {P : Program} {n : Nat} {w0 : World} {own : List Nat} {e : Env} {hs F : Hp} {ops : Array Oper} {rest l : List Oper} {K : Bool → Env → Hp → Prop} {z : Nat} {late : Bool} {m : Nat} {listed : Array Bool} {Z : Env → Hp → Prop}
variable {d : Nat} {ty : TypeId} {pos : String} {aft : Array Edge} {g : Option (Nat × Bool)}

theorem JC.drawN {id : Nat} {Q : Post} {l : List Oper} (z : Nat) (is : List Nat) (F : Hp) (hF : F ⊆ hs) (hm : P.follows .mixedOrders = true)
    (hB : (ordN l.toArray z (pickL l is) is (Array.replicate l.length false) && doneB l.toArray (marks_ is (Array.replicate l.length false)) && Nat.beq (pickL l is).length l.length && Nat.beq is.length l.length && Nat.blt z l.length) = true)
    (h : JN P n w0 own l.toArray F z false (pickL l is) e hs (fun _ e' hs' => Q .normal e' hs')) : JC P n w0 own (.region id l.toArray true) e hs Q := by
  rw [Bool.and_eq_true, Bool.and_eq_true, Bool.and_eq_true, Bool.and_eq_true] at hB
  obtain ⟨⟨⟨⟨h1, h2⟩, h3⟩, h4⟩, h5⟩ := hB
  have h3 := Nat.eq_of_beq_eq_true h3
  have h4 := Nat.eq_of_beq_eq_true h4
  have h5 : z < l.length := Nat.le_of_ble_eq_true h5
  have key : ∀ (is : List Nat), (pickL l is).length = is.length → Nums l.toArray (pickL l is) is := by
    intro is
    induction is with
    | nil => intro _; trivial
    | cons i is ih =>
      intro hl
      unfold pickL at hl ⊢
      cases ho : l[i]? with
      | none => rw [ho] at hl; simp at hl
      | some o =>
        rw [ho] at hl
        simp only at hl ⊢
        exact ⟨by simpa using ho, ih (by simpa using hl)⟩
  refine JC.drawZ z F hF hm ?_
  have := h 0 is (Array.replicate l.length false) (fun e hs => Q .normal e hs) (key _ (by omega)) h1 (by simp) (by simp [h5]) (fun _ => hF) (fun _ e' hs' _ _ ke => JZ.done h2 ke)
  rw [h3] at this
  simpa using this
theorem JN.nil (h : K late e hs) : JN P n w0 own ops F z late [] e hs K := fun m is listed Z hn _ hsz hl hF hz => by
  cases is with
  | nil => rw [List.length_nil, Nat.zero_add]; exact hz late e hs hl hF h
  | cons i is => exact hn.elim
theorem JN.mono {K' : Bool → Env → Hp → Prop} (h : JN P n w0 own ops F z late l e hs K) (kk : ∀ b e hs, K b e hs → K' b e hs) : JN P n w0 own ops F z late l e hs K' :=
  fun m k listed Z h1 h2 h3 h4 h5 hz => h m k listed Z h1 h2 h3 h4 h5 fun b e' hs' f1 f ke => hz b e' hs' f1 f (kk b e' hs' ke)
theorem JN.sub {e2 : Env} (hs' : Sub e2 e) (h : JN P n w0 own ops F z late l e2 hs K) : JN P n w0 own ops F z late l e hs K :=
  fun m k listed Z h1 h2 h3 h4 h5 hz a w hr s hF => h m k listed Z h1 h2 h3 h4 h5 hz a w (hr.sub hs') s hF
theorem JN.splitB {t : Nat} {b : Bool} (ht : get e t = some (.bool b)) (h1 : b = true → JN P n w0 own ops F z late l ((t, .bool true) :: e) hs K)
    (h0 : b = false → JN P n w0 own ops F z late l ((t, .bool false) :: e) hs K) : JN P n w0 own ops F z late l e hs K := by
  cases b
  · exact JN.sub (sub_same' ht) (h0 rfl)
  · exact JN.sub (sub_same' ht) (h1 rfl)
/-- a value, ahead of the first store -/
theorem JN.v {op : Op} {v : Value} (h : ∀ hs', F ⊆ hs' → Val P n w0 own e hs' op v) (kk : JN P n w0 own ops F z false rest ((d, v) :: e) hs K) (hdn : Nat.blt d n = true := by rfl) (hg : wantB ops e g = some true := by rfl)
    (hzo : ((ops[z]?).map (·.dst.isNone)) = some true := by rfl) (hx : noMemN ⟨some d, op, ty, pos, aft, g⟩ = false := by rfl) :
    JN P n w0 own ops F z false (⟨some d, op, ty, pos, aft, g⟩ :: rest) e hs K := by
  intro m is listed Z h1 h2 h3 h4 h5 hz
  cases is with
  | nil => exact h1.elim
  | cons k is =>
  obtain ⟨h0, h1⟩ := h1
  unfold ordN at h2
  rw [Bool.and_eq_true, Bool.and_eq_true] at h2
  obtain ⟨⟨h2a, _⟩, h2b⟩ := h2
  rw [hx, Bool.false_and, Bool.false_and, Bool.or_false, Bool.or_eq_true, Bool.and_eq_true] at h2a
  have h2 := And.intro h2a h2b
  have hkz : k ≠ z := by rintro rfl; rw [h0] at hzo; simp at hzo
  have tail : JZ P n w0 own ops F z (rest.length + m) (listed.setIfInBounds k true) ((d, v) :: e) hs Z := kk m is _ Z h1 h2.2 (by simpa using h3) (set_lt h4 (.inr hkz)) h5 hz
  rw [show (⟨some d, op, ty, pos, aft, g⟩ :: rest : List Oper).length + m = (rest.length + m) + 1 from by simp; omega]
  rcases h2.1 with ho | ⟨_, hf⟩
  · exact JZ.v1 k h0 ho (h hs (h5 rfl)) tail rfl hdn hg
  · exact JZ.v k h0 hf h tail hdn hg
/-- a value behind it -/
theorem JN.w {op : Op} {v : Value} (h : Val P n w0 own e hs op v) (kk : JN P n w0 own ops F z true rest ((d, v) :: e) hs K) (hdn : Nat.blt d n = true := by rfl) (hg : wantB ops e g = some true := by rfl) (hx : noMemN ⟨some d, op, ty, pos, aft, g⟩ = false := by rfl) :
    JN P n w0 own ops F z true (⟨some d, op, ty, pos, aft, g⟩ :: rest) e hs K := by
  intro m is listed Z h1 h2 h3 h4 h5 hz
  cases is with
  | nil => exact h1.elim
  | cons k is =>
  obtain ⟨h0, h1⟩ := h1
  unfold ordN at h2
  rw [Bool.and_eq_true, Bool.and_eq_true] at h2
  obtain ⟨⟨h2a, _⟩, h2b⟩ := h2
  rw [hx, Bool.false_and, Bool.false_and, Bool.or_false, Bool.or_eq_true, Bool.and_eq_true] at h2a
  have h2 := And.intro h2a h2b
  have tail : JZ P n w0 own ops F z (rest.length + m) (listed.setIfInBounds k true) ((d, v) :: e) hs Z := kk m is _ Z h1 h2.2 (by simpa using h3) (set_lt h4 (.inl rfl)) (fun h => by cases h) hz
  rw [show (⟨some d, op, ty, pos, aft, g⟩ :: rest : List Oper).length + m = (rest.length + m) + 1 from by simp; omega]
  rcases h2.1 with ho | ⟨_, hf⟩
  · exact JZ.v1 k h0 ho h tail rfl hdn hg
  · unfold firstZ at hf
    rw [h4] at hf
    simp at hf
/-- what touches no memory, at any time -/
theorem JN.x {op : Op} {v : Value} (h : ∀ w0 own hs, Val P n w0 own e hs op v) (kk : JN P n w0 own ops F z late rest ((d, v) :: e) hs K) (hdn : Nat.blt d n = true := by rfl) (hg : wantB ops e g = some true := by rfl)
    (hzo : ((ops[z]?).map (·.dst.isNone)) = some true := by rfl) :
    JN P n w0 own ops F z late (⟨some d, op, ty, pos, aft, g⟩ :: rest) e hs K := by
  intro m is listed Z h1 h2 h3 h4 h5 hz
  cases is with
  | nil => exact h1.elim
  | cons k is =>
  obtain ⟨h0, h1⟩ := h1
  unfold ordN at h2
  rw [Bool.and_eq_true, Bool.and_eq_true] at h2
  obtain ⟨⟨h2a, _⟩, h2b⟩ := h2
  rw [Bool.or_eq_true, Bool.or_eq_true, Bool.and_eq_true, Bool.and_eq_true, Bool.and_eq_true] at h2a
  have hkz : k ≠ z := by rintro rfl; rw [h0] at hzo; simp at hzo
  have tail : JZ P n w0 own ops F z (rest.length + m) (listed.setIfInBounds k true) ((d, v) :: e) hs Z := kk m is _ Z h1 h2b (by simpa using h3) (set_lt h4 (.inr hkz)) h5 hz
  rw [show (⟨some d, op, ty, pos, aft, g⟩ :: rest : List Oper).length + m = (rest.length + m) + 1 from by simp; omega]
  rcases h2a with (ho | ⟨_, hf⟩) | ⟨⟨_, hf⟩, _⟩
  · exact JZ.v1 k h0 ho (h _ _ _) tail rfl hdn hg
  · exact JZ.v k h0 hf (fun hs' _ => h _ _ _) tail hdn hg
  · exact JZ.xN k h0 hf (Ne.symm hkz) (fun w => h _ _ _) tail hdn hg
/-- what works on memory, and leaves a value -/
theorem JN.ef {op : Op} {R : Value → Hp → Prop} (h : Eff P n w0 own e hs op R) (hF : ∀ v hs', R v hs' → F ⊆ hs → F ⊆ hs') (kk : ∀ v hs', R v hs' → JN P n w0 own ops F z late rest ((d, v) :: e) hs' K)
    (hE : isEff ⟨some d, op, ty, pos, aft, g⟩ = true := by rfl) (hdn : Nat.blt d n = true := by rfl) (hg : wantB ops e g = some true := by rfl) (hzo : ((ops[z]?).map (·.dst.isNone)) = some true := by rfl) : JN P n w0 own ops F z late (⟨some d, op, ty, pos, aft, g⟩ :: rest) e hs K := by
  intro m is listed Z h1 h2 h3 h4 h5 hz
  cases is with
  | nil => exact h1.elim
  | cons k is =>
  obtain ⟨h0, h1⟩ := h1
  unfold ordN at h2
  rw [Bool.and_eq_true, Bool.and_eq_true] at h2
  obtain ⟨⟨h2a, _⟩, h2b⟩ := h2
  rw [Bool.or_eq_true, Bool.or_eq_true, hE, eff_memN hE] at h2a
  have h2 := And.intro h2a h2b
  have hkz : k ≠ z := by rintro rfl; rw [h0] at hzo; simp at hzo
  have ho : onlyB ops listed k = true := by
    rcases h2.1 with (h | h) | h
    · exact h
    · simp at h
    · simp at h
  rw [show (⟨some d, op, ty, pos, aft, g⟩ :: rest : List Oper).length + m = (rest.length + m) + 1 from by simp; omega]
  exact JZ.ef k h0 ho h (fun v hs' r => kk v hs' r m is _ Z h1 h2.2 (by simpa using h3) (set_lt h4 (.inr hkz)) (fun e => hF v hs' r (h5 e)) hz) hF rfl hdn hg
/-- the first store -/
theorem JN.st {op : Op} {hs' : Hp} (h : Eff P n w0 own e hs op (fun v h => v = undef ∧ h = hs')) (kk : JN P n w0 own ops F z true rest e hs' K)
    (hE : isEff ⟨none, op, ty, pos, aft, g⟩ = true := by rfl) (hg : wantB ops e g = some true := by rfl) : JN P n w0 own ops F z false (⟨none, op, ty, pos, aft, g⟩ :: rest) e hs K := by
  intro m is listed Z h1 h2 h3 h4 h5 hz
  cases is with
  | nil => exact h1.elim
  | cons k is =>
  obtain ⟨h0, h1⟩ := h1
  unfold ordN at h2
  rw [Bool.and_eq_true, Bool.and_eq_true] at h2
  obtain ⟨⟨h2a, h2c⟩, h2b⟩ := h2
  rw [Bool.or_eq_true, Bool.or_eq_true, hE, eff_memN hE] at h2a
  have h2 := And.intro h2a h2b
  obtain rfl : k = z := by
    rw [h4] at h2c
    exact Nat.eq_of_beq_eq_true (by simpa using h2c)
  have ho : onlyB ops listed k = true := by
    rcases h2.1 with (h | h) | h
    · exact h
    · simp at h
    · simp at h
  have hk : k < listed.size := by rw [h3]; exact (Array.getElem?_eq_some_iff.1 h0).1
  rw [show (⟨none, op, ty, pos, aft, g⟩ :: rest : List Oper).length + m = (rest.length + m) + 1 from by simp; omega]
  refine JZ.st h0 ho (Nat.ble_eq_true_of_le hk) h (kk m is _ Z h1 h2.2 (by simpa using h3) (by simp [hk]) (fun h => by cases h) hz) hg
/-- a store behind it -/
theorem JN.st2 {op : Op} {hs' : Hp} (h : Eff P n w0 own e hs op (fun v h => v = undef ∧ h = hs')) (kk : JN P n w0 own ops F z true rest e hs' K)
    (hE : isEff ⟨none, op, ty, pos, aft, g⟩ = true := by rfl) (hg : wantB ops e g = some true := by rfl) : JN P n w0 own ops F z true (⟨none, op, ty, pos, aft, g⟩ :: rest) e hs K := by
  intro m is listed Z h1 h2 h3 h4 h5 hz
  cases is with
  | nil => exact h1.elim
  | cons k is =>
  obtain ⟨h0, h1⟩ := h1
  unfold ordN at h2
  rw [Bool.and_eq_true, Bool.and_eq_true] at h2
  obtain ⟨⟨h2a, h2c⟩, h2b⟩ := h2
  rw [Bool.or_eq_true, Bool.or_eq_true, hE, eff_memN hE] at h2a
  have h2 := And.intro h2a h2b
  have ho : onlyB ops listed k = true := by
    rcases h2.1 with (h | h) | h
    · exact h
    · simp at h
    · simp at h
  rw [show (⟨none, op, ty, pos, aft, g⟩ :: rest : List Oper).length + m = (rest.length + m) + 1 from by simp; omega]
  have hl := set_lt (k := k) (listed := listed) (z := z) h4 (.inl rfl)
  rcases Decidable.em (z = k) with rfl | hne
  · -- z has been: it cannot come up again
    have hr : Region.ready .any ops listed = [z] := by simpa [onlyB] using ho
    have hm : z ∈ Region.ready .any ops listed := by rw [hr]; simp
    obtain ⟨hu, _⟩ := mem_ready.1 hm
    have hk : z < listed.size := by rw [h3]; exact (Array.getElem?_eq_some_iff.1 h0).1
    simp [hk] at hu h4
    rw [hu] at h4; cases h4
  · exact JZ.st2 k h0 ho h4 (by cases h : Nat.beq z k; rfl; exact absurd (Nat.eq_of_beq_eq_true h) hne) h (kk m is _ Z h1 h2.2 (by simpa using h3) hl (fun h => by cases h) hz) hg
end
section
variable {P : Program} {n : Nat} {w0 : World} {own : List Nat} {e : Env} {hs F : Hp} {ops : Array Oper} {K : Bool → Env → Hp → Prop} {z : Nat} {late : Bool} {rest : List Oper}
variable {d : Nat} {ty : TypeId} {pos : String} {aft : Array Edge} {g : Option (Nat × Bool)}
/-- a call that leaves a value alone -/
theorem JQ.pc {f : Nat} {fo : Operand} {args : List Operand} {at_ : Array TypeId} {cap vals : List Value} {v : Value}
    (hf : ev e fo = some (.func (.func f) #[] ⟨cap⟩)) (ha : evs e args = some vals) (hc : ∀ w, Sat w0 own hs w → Is P f (vals ++ cap) w v) (kk : JQ P n w0 own ops F z late rest ((d, v) :: e) hs K) [hg : FnT P f]
    (hdn : Nat.blt d n = true := by rfl) (hw : wantB ops e g = some true := by rfl) (hzo : ((ops[z]?).map (·.dst.isNone)) = some true := by rfl) :
    JQ P n w0 own ops F z late (⟨some d, .call { callee := .value fo, args := ⟨args⟩, argTypes := at_ }, ty, pos, aft, g⟩ :: rest) e hs K :=
  JQ.ef (.call0 hf ha hc) (fun _ _ ⟨_, ⟨_, h2⟩, h3⟩ f => by subst h2; subst h3; exact f) (fun _ _ ⟨_, ⟨h1, h2⟩, h3⟩ => by subst h1; subst h2; subst h3; exact kk) rfl hdn hw hzo
theorem JN.pc {f : Nat} {fo : Operand} {args : List Operand} {at_ : Array TypeId} {cap vals : List Value} {v : Value}
    (hf : ev e fo = some (.func (.func f) #[] ⟨cap⟩)) (ha : evs e args = some vals) (hc : ∀ w, Sat w0 own hs w → Is P f (vals ++ cap) w v) (kk : JN P n w0 own ops F z late rest ((d, v) :: e) hs K) [hg : FnT P f]
    (hdn : Nat.blt d n = true := by rfl) (hw : wantB ops e g = some true := by rfl) (hzo : ((ops[z]?).map (·.dst.isNone)) = some true := by rfl) :
    JN P n w0 own ops F z late (⟨some d, .call { callee := .value fo, args := ⟨args⟩, argTypes := at_ }, ty, pos, aft, g⟩ :: rest) e hs K :=
  JN.ef (.call0 hf ha hc) (fun _ _ ⟨_, ⟨_, h2⟩, h3⟩ f => by subst h2; subst h3; exact f) (fun _ _ ⟨_, ⟨h1, h2⟩, h3⟩ => by subst h1; subst h2; subst h3; exact kk) rfl hdn hw hzo
end
end V
end Go

/- VZD: regions that draw their order, in functions that range over a function. -/
namespace Go
namespace V
open Go.RowKit
set_option linter.unusedVariables false
set_option linter.unusedSimpArgs false

theorem lift_ops {P : Program} {ro : Option Nat} {ops : Array Oper} {ds : List Deferred} {Q Q' : Exit → Act → World → Prop}
    (hQ : ∀ x a w, x ≠ .normal → ¬ Q' x a w) (hN : ∀ a' w', Q' .normal a' w' → Q .normal { a' with defers := a'.defers ++ ds } w') (hnd : ∀ (i : Nat) (o : Oper), ops[i]? = some o → ndOp o.op = true) : ∀ (l : List Nat) (a0 : Act) (w : World), wpOps P ops Q' l a0 w →
    wpOpsIn (Rnd ro) 0 P ops Q l { a0 with defers := a0.defers ++ ds } w
  | [], a0, w, h => hN _ _ h
  | i :: rest, a0, w, h => by
    unfold wpOps at h
    unfold wpOpsIn
    cases ho : ops[i]? with
    | none => rw [ho] at h; exact lift_ops hQ hN hnd rest a0 w h
    | some o =>
      rw [ho] at h
      simp only at h ⊢
      split at h
      · rename_i hw
        rw [if_pos hw]
        rcases h with h | ⟨_, a1, w1, h⟩
        · exact lift_op (hnd i o ho) (fun a' w' h' => lift_ops hQ hN hnd rest a' w' h') hQ h
        · exact (hQ _ _ _ (by simp) h).elim
      · rename_i hw
        rw [if_neg hw]
        refine ⟨fun f _ => Rnd.fn ro f, ?_⟩
        have := lift_ops (ro := ro) hQ hN hnd rest _ w h
        have pe : ∀ (a1 : Act) (d : Option Tmp) (v : Value), { a1.put d v with defers := (a1.put d v).defers ++ ds } = ({ a1 with defers := a1.defers ++ ds } : Act).put d v := by
          intro a1 d v; cases d <;> rfl
        rw [pe] at this
        exact this
theorem ndB_spec {l : List Oper} (h : ndB l = true) : ∀ (i : Nat) (o : Oper), l.toArray[i]? = some o → ndOp o.op = true := by
  intro i o ho
  have ho : l[i]? = some o := by simpa using ho
  exact List.all_eq_true.1 h o (List.mem_of_getElem? ho)
section
variable {ro : Option Nat} {P : Program} {n : Nat} {w0 : World} {own : List Nat} {ds : List Deferred} {e : Env} {hs : Hp} {Q : PostD} {l : List Oper}
theorem JF.any {id : Nat} (hm : P.follows .mixedOrders = true) (hn : ndB l = true)
    (h : ∀ a w, Rep n a e → Sat w0 own hs w → wpAny P .any l.toArray (QN fun a' w' => ∃ e' hs', Rep n a' e' ∧ Sat w0 own hs' w' ∧ Q .normal ds e' hs') l.toArray.size (Array.replicate l.toArray.size false) a w) : JF ro P n w0 own (.region id l.toArray true) ds e hs Q := by
  intro a w hr s
  refine wpIn_region_draw fun t => ?_
  rw [← hr.act]
  refine lift_ops (Q' := QN fun a' w' => ∃ e' hs', Rep n a' e' ∧ Sat w0 own hs' w' ∧ Q .normal ds e' hs') (fun x a w hx h => ?_) ?_ (ndB_spec hn) _ _ _ ?_
  · cases x with
    | normal => exact hx rfl
    | _ => exact h
  · rintro a' w' ⟨e', hs', h1, h2, h3⟩
    exact ⟨ds, e', hs', .of h1, h2, h3⟩
  · simp only [Region.schedule, hm, Bool.true_or, if_true]
    exact wpAny_sound l.toArray.size t _ _ _ (h _ _ hr.rep s.drew)
theorem JF.draw {id : Nat} (F : Hp) (hF : F ⊆ hs) (hm : P.follows .mixedOrders = true) (h : JD P n w0 own l.toArray F l.toArray.size (Array.replicate l.toArray.size false) e hs (fun e hs => Q .normal ds e hs)) (hn : ndB l = true := by rfl) : JF ro P n w0 own (.region id l.toArray true) ds e hs Q :=
  JF.any hm hn fun a w hr s => wpAny_of_held _ _ _ _ (h a w hr s hF)
theorem JF.drawZ {id : Nat} (z : Nat) (F : Hp) (hF : F ⊆ hs) (hm : P.follows .mixedOrders = true) (h : JZ P n w0 own l.toArray F z l.toArray.size (Array.replicate l.toArray.size false) e hs (fun e hs => Q .normal ds e hs)) (hn : ndB l = true := by rfl) : JF ro P n w0 own (.region id l.toArray true) ds e hs Q :=
  JF.any hm hn fun a w hr s => Upto.any _ _ _ _ (h a w hr s fun _ => hF)
theorem JF.drawK {id : Nat} (F : Hp) (hF : F ⊆ hs) (hm : P.follows .mixedOrders = true) (hB : (ordB l.toArray l (List.range' 0 l.length) (Array.replicate l.length false) && doneB l.toArray (marks_ (List.range' 0 l.length) (Array.replicate l.length false))) = true)
    (h : JK P n w0 own l.toArray F l e hs (fun e' hs' => Q .normal ds e' hs')) (hn : ndB l = true := by rfl) : JF ro P n w0 own (.region id l.toArray true) ds e hs Q := by
  rw [Bool.and_eq_true] at hB
  refine JF.draw F hF hm ?_ hn
  have := h 0 (List.range' 0 l.length) (Array.replicate l.length false) (fun e hs => Q .normal ds e hs) (Nums.seq l 0 fun j hj => by simp) hB.1 hF (fun e' hs' _ ke => JD.done hB.2 ke)
  simpa using this
theorem JF.drawP {id : Nat} (is : List Nat) (F : Hp) (hF : F ⊆ hs) (hm : P.follows .mixedOrders = true) (hB : (ordB l.toArray (pickL l is) is (Array.replicate l.length false) && doneB l.toArray (marks_ is (Array.replicate l.length false)) && Nat.beq (pickL l is).length l.length && Nat.beq (pickL l is).length is.length) = true)
    (h : JK P n w0 own l.toArray F (pickL l is) e hs (fun e' hs' => Q .normal ds e' hs')) (hn : ndB l = true := by rfl) : JF ro P n w0 own (.region id l.toArray true) ds e hs Q := by
  rw [Bool.and_eq_true, Bool.and_eq_true, Bool.and_eq_true] at hB
  obtain ⟨⟨⟨h1, h2⟩, h3⟩, h4⟩ := hB
  have h3 := Nat.eq_of_beq_eq_true h3
  have h4 := Nat.eq_of_beq_eq_true h4
  refine JF.draw F hF hm ?_ hn
  have := h 0 is (Array.replicate l.length false) (fun e hs => Q .normal ds e hs) (pickL_nums is h1 (by omega)) h1 hF (fun e' hs' _ ke => JD.done h2 ke)
  rw [h3] at this
  simpa using this
theorem JF.drawQ {id : Nat} (z : Nat) (is : List Nat) (F : Hp) (hF : F ⊆ hs) (hm : P.follows .mixedOrders = true)
    (hB : (ordZ l.toArray z (pickL l is) is (Array.replicate l.length false) && doneB l.toArray (marks_ is (Array.replicate l.length false)) && Nat.beq (pickL l is).length l.length && Nat.beq is.length l.length && Nat.blt z l.length) = true)
    (h : JQ P n w0 own l.toArray F z false (pickL l is) e hs (fun _ e' hs' => Q .normal ds e' hs')) (hn : ndB l = true := by rfl) : JF ro P n w0 own (.region id l.toArray true) ds e hs Q := by
  rw [Bool.and_eq_true, Bool.and_eq_true, Bool.and_eq_true, Bool.and_eq_true] at hB
  obtain ⟨⟨⟨⟨h1, h2⟩, h3⟩, h4⟩, h5⟩ := hB
  have h3 := Nat.eq_of_beq_eq_true h3
  have h4 := Nat.eq_of_beq_eq_true h4
  have h5 : z < l.length := Nat.le_of_ble_eq_true h5
  have key : ∀ (is : List Nat), (pickL l is).length = is.length → Nums l.toArray (pickL l is) is := by
    intro is
    induction is with
    | nil => intro _; trivial
    | cons i is ih =>
      intro hl
      unfold pickL at hl ⊢
      cases ho : l[i]? with
      | none => rw [ho] at hl; simp at hl
      | some o =>
        rw [ho] at hl
        simp only at hl ⊢
        exact ⟨by simpa using ho, ih (by simpa using hl)⟩
  refine JF.drawZ z F hF hm ?_ hn
  have := h 0 is (Array.replicate l.length false) (fun e hs => Q .normal ds e hs) (key _ (by omega)) h1 (by simp) (by simp [h5]) (fun _ => hF) (fun _ e' hs' _ _ ke => JZ.done h2 ke)
  rw [h3] at this
  simpa using this
end
end V
end Go

/- VZE: operations of all kinds beside a call of 'yield'; functions held against nil. -/
namespace Go
namespace V
open Go.RowKit
set_option linter.unusedVariables false
set_option linter.unusedSimpArgs false

class FuncTy (P : Program) (T : Nat) : Prop where
  out : ∃ d, P.underlying T = some d ∧ (match d with | .func .. => True | _ => False)
def fnTyB (P : Program) (T : Nat) : Bool := match P.underlying T with
  | some (.func ..) => true
  | _ => false
theorem FuncTy.of {P : Program} {T : Nat} (h : fnTyB P T = true) : FuncTy P T := by
  unfold fnTyB at h
  cases hd : P.underlying T with
  | none => rw [hd] at h; cases h
  | some d =>
    rw [hd] at h
    refine ⟨d, hd, ?_⟩
    cases d <;> first | trivial | cases h
section
variable {ro : Option Nat} {P : Program} {n : Nat} {w0 : World} {own : List Nat} {ds : List Deferred} {e : Env} {hs : Hp} {Q : PostD}
variable {ops : Array Oper} {rest : List Oper} {K : Env → Hp → Prop} {d : Nat} {ty : TypeId} {pos : String} {aft : Array Edge}
theorem Val.eql_func_nil {T U : Nat} {x y : Operand} {f : FuncId} {us vs : Array Value} (hx : ev e x = some (.func (.func f) us vs)) (hy : ev e y = some .nilFunc) [hT : FuncTy P T] :
    Val P n w0 own e hs (.binOp .eql T x y U) (.bool false) := fun _ w ty pos aft g d hr s => by
  obtain ⟨dd, hd, hm⟩ := hT.out
  have h : (Op.equalIn (9999 + 1) T (.func (.func f) us vs) .nilFunc).run P w = .ok false w := by
    cases dd <;> first | exact hm.elim | (rw [Op.equalIn]; simp [run_underlying hd])
  simp only [execOp, hr.eval hx, hr.eval hy, eqGuard, binOp, Op.equal, Op.maxDepth]
  simp [h]
theorem JFL.ef {op : Op} {R : Value → Hp → Prop} (h : Eff P n w0 own e hs op R) (k : ∀ v hs', R v hs' → JFL ro P n w0 own ops rest ds ((d, v) :: e) hs' K) (hdn : Nat.blt d n = true := by rfl) (hnd : ndOp op = true := by rfl) :
    JFL ro P n w0 own ops (⟨some d, op, ty, pos, aft, none⟩ :: rest) ds e hs K := by
  intro a w hr s Q hq
  unfold wpListIn
  rw [if_pos (by rfl)]
  have h1 := h { a with defers := [] } w ty pos aft none (some d) (fun a' w' => ∃ v hs', a' = Act.put { a with defers := [] } (some d) v ∧ R v hs' ∧ Sat w0 own hs' w') (fun _ _ _ => False) hr.rep s (fun v hs' w' r s' => ⟨v, hs', rfl, r, s'⟩)
  have h2 := lift_op (ro := ro) (ds := ds) (K := wpListIn (Rnd ro) 0 P ops Q rest) (Q := Q) hnd ?_ (fun _ _ _ _ h => h) h1
  · rw [hr.act] at h2
    exact h2
  · rintro a' w' ⟨v, hs', rfl, r, s'⟩
    have e1 : ({ (Act.put { a with defers := [] } (some d) v) with defers := (Act.put { a with defers := [] } (some d) v).defers ++ ds } : Act) = a.put (some d) v := by
      have := hr.nd
      cases a
      simp [Act.put] at this ⊢
      exact this.symm
    rw [e1]
    exact k v hs' r _ _ (hr.put (Nat.le_of_ble_eq_true hdn) v) s' Q hq
theorem JFL.pc {g : Nat} {f : Operand} {args : List Operand} {at_ : Array TypeId} {cap vals : List Value} {v : Value}
    (hf : ev e f = some (.func (.func g) #[] ⟨cap⟩)) (ha : evs e args = some vals) (hc : ∀ w, Sat w0 own hs w → Is P g (vals ++ cap) w v) (k : JFL ro P n w0 own ops rest ds ((d, v) :: e) hs K) [hg : FnT P g] (hdn : Nat.blt d n = true := by rfl) :
    JFL ro P n w0 own ops (⟨some d, .call { callee := .value f, args := ⟨args⟩, argTypes := at_ }, ty, pos, aft, none⟩ :: rest) ds e hs K :=
  JFL.ef (.call0 hf ha hc) (fun _ _ ⟨_, ⟨h1, h2⟩, h3⟩ => by subst h1; subst h2; subst h3; exact k) hdn rfl
end
end V
end Go

/- wire.All as an iterator; what is told of bytes, by the law and by the document. -/
namespace Go.Proofs.Ytcgnbdgagkhehaa
open Go.V
set_option linter.unusedVariables false
set_option linter.unusedSimpArgs false

instance : FuncTy Try.prog 42 := FuncTy.of (by kernel_rfl)
/-- piece i of bytes; how many there are -/
def chk (ys : List (BitVec 8)) (i : Nat) : List (BitVec 8) := (ys.drop (64 * i)).take 64
def nch (ys : List (BitVec 8)) : Nat := (ys.length + 63) / 64
theorem chk_len (ys : List (BitVec 8)) (i : Nat) : (chk ys i).length = min 64 (ys.length - 64 * i) := by simp [chk]
def fr (zs : List (BitVec 8)) : List Value := [.agg ⟨fcells (unpk zs).1 (unpk zs).2.1⟩, .int .i64 (unpk zs).2.2]
def frs (ys : List (BitVec 8)) : List (List Value) := (List.range (nch ys)).map fun i => fr (chk ys i)
theorem frs_len (ys : List (BitVec 8)) : (frs ys).length = nch ys := by simp [frs]
theorem frs_get (ys : List (BitVec 8)) (i : Nat) (h : i < (frs ys).length) : (frs ys)[i] = fr (chk ys i) := by simp [frs]
def tcells (zs : List (BitVec 8)) : List Value := fcells (unpk zs).1 (unpk zs).2.1 ++ [.int .i64 (unpk zs).2.2]
theorem tcells_len (zs : List (BitVec 8)) : (tcells zs).length = 9 := by simp [tcells, fcells_length (unpk_ws zs)]
theorem tcells_ones (zs : List (BitVec 8)) : ones (tcells zs) = true := by
  have := fcells_ones (unpk zs).1 (unpk zs).2.1
  simp only [ones, tcells, List.all_append] at this ⊢
  rw [this]; rfl
def trows (ys : List (BitVec 8)) (k : Nat) : List Value := (List.range k).flatMap fun i => tcells (chk ys i)
theorem trows_succ (ys : List (BitVec 8)) (k : Nat) : trows ys (k + 1) = trows ys k ++ tcells (chk ys k) := by simp [trows, List.range_succ]
theorem trows_len (ys : List (BitVec 8)) (k : Nat) : (trows ys k).length = k * 9 := by
  induction k with
  | zero => rfl
  | succ k ih => rw [trows_succ, List.length_append, ih, tcells_len]; omega
theorem bytsTk (ys : List (BitVec 8)) (k : Nat) : (byts ys).take k = byts (ys.take k) := by simp [byts]
theorem bytsDr (ys : List (BitVec 8)) (k : Nat) : (byts ys).drop k = byts (ys.drop k) := by simp [byts]
theorem fill_nine {f z : List Value} {e : Value} (hf : f.length = 8) (hz : z.length = 9) : fillL [(0, 8), (8, 1)] z [(0, f), (1, [e])] = some (f ++ [e]) := by
  match f, hf, z, hz with
  | [a, b, c, d, e', g, h, i], _, [z0, z1, z2, z3, z4, z5, z6, z7, z8], _ => rfl
theorem All_ok (w : World) (A : Option Addr) (len cap : Nat) : Does Try.prog 22 [.slice A len cap] [] w (fun v hs => ∃ b, v = .func (.func 32) #[] #[.pointer (some ⟨b, 0, none⟩)] ∧ hs = [(b, .cells [.slice A len cap] 22)]) := by
  refine Does.of (n := 4) Try.func22 rfl rfl rfl rfl ?_
  refine .seq ((.region (.nw (.box rfl rfl) fun b1 => (.v (.assign rfl) (.nil ?_)))))
  refine .seq ((.region (.v (.makeFunc (us := []) rfl rfl) (.v (.assign rfl) (.nil ?_)))))
  exact .ret ⟨[_], ⟨rfl, trivial⟩, b1, rfl, rfl⟩
structure AS where
  i : Nat
  A : Option Addr
  c : Nat
  h : Hp
  p : Hp
set_option maxRecDepth 20000 in
set_option maxHeartbeats 1000000 in
theorem All_its (w : World) (pre : Hp) (bb : Nat) (A : Option Addr) (cap : Nat) (ys : List (BitVec 8)) (hb : ys.length ≤ 100000000000) (hM : (bb, Ch.cells [.slice A ys.length cap] 22) ∈ pre) (hR : ∀ W, Sat w (bl pre) pre W → Rd W [] A (byts ys)) :
    Its Try.prog 32 [.pointer (some ⟨bb, 0, none⟩)] (frs ys) w pre := by
  intro l J Jx hJ0 hyield
  haveI : Mem bb (.cells [.slice A ys.length cap] 22) pre := ⟨hM⟩
  refine Does.ofF (n := 26) Try.func32 rfl rfl rfl rfl ?_
  refine .seq (.region (.v (.load (v := .slice A ys.length cap) rfl (.one rfl)) (.appT (h := []) (vs := []) (c := 0) (k := ys.length) (news := byts ys) rfl rfl (OwnS.nil _ _) (fun w s => (hR w s).src (by rw [byts_length]; omega) (by omega)) (by rw [byts_length]; omega) (byts_ones _) (by omega) (by omega) ?_)))
  intro v1 h1 o1
  rw [Nat.zero_add, List.nil_append] at o1
  obtain ⟨A1, d1, rfl⟩ := OwnS.slice o1
  refine .v (.assign rfl) (.nil ?_)
  refine .block (.loop (X := AS) (fun x => [(0, .func (.yield l) #[] #[]), (3, .slice x.A (ys.length - 64 * x.i) x.c)]) (fun x => x.h ++ x.p) (fun x => x.i ≤ nch ys ∧ OwnS 5 1 (.slice x.A (ys.length - 64 * x.i) x.c) (ys.length - 64 * x.i) (byts (ys.drop (64 * x.i))) x.h ∧ J x.i x.p ∧ ∀ W, Sat w (bl pre) (x.h ++ x.p) W → True) (fun x => nch ys - x.i) ⟨0, A1, d1, h1, pre⟩
    ⟨Nat.zero_le _, o1, hJ0, fun _ _ => trivial⟩ (.cons rfl (.cons rfl (.nil _))) (fun _ s => s) ?_)
  rintro ⟨i, A, c, h, p⟩ ⟨hi, ho, hJ, -⟩
  dsimp only at hi ho hJ ⊢
  have hn : nch ys = (ys.length + 63) / 64 := rfl
  refine .seq (.seq (.region (.v (.move rfl) (.v (.len rfl) (.v (.gtr rfl rfl) (.nil ?_))))))
  refine .cond_dec rfl (fun g1 => .skip ?_) (fun g1 => .exit ?_)
  · have hil : i < (frs ys).length := by rw [frs_len]; omega
    have hcl := (OwnS.cap_ ho).2
    have hmin : (min ((ys.length - 64 * i : Nat) : Int) 64) = ((chk ys i).length : Nat) := by rw [chk_len]; omega
    refine .block (.seq (.region (.v (.move rfl) (.v (.len rfl) (.v (.min2 rfl rfl) (.v (.assign rfl) (.nil ?_)))))))
    rw [hmin]
    have hck := chk_len ys i
    refine .seq (.seq (.regionY (.v (.move rfl) (.v (.move rfl) (.v (.move rfl) (.v (.move rfl) (.v (.slHiMax rfl rfl rfl (by omega) (by omega) (by omega)) ?_)))))))
    refine .pc (v := unpkV (chk ys i)) rfl rfl (fun W s => Unpack_ok W _ _ _ (chk ys i) (by
      have := (OwnS.rd ho s (no := []) (fun y hy => List.mem_append_left _ hy) (by simp)).take 64
      rw [bytsTk] at this
      exact this) (by rw [Int.toNat_natCast])) ?_
    refine .v (.extract (v := .agg ⟨fcells (unpk (chk ys i)).1 (unpk (chk ys i)).2.1⟩) rfl rfl) (.v (.extract (v := .int .i64 (unpk (chk ys i)).2.2) rfl rfl) ?_)
    refine .yield (vals := (frs ys)[i]) (pre := p) (fr := h) rfl (by rw [frs_get]; rfl) List.perm_append_comm (fun W s => hyield i hil W p hJ (s.sub (List.sublist_append_right _ _))) ?_
    rintro _ h' (⟨rfl, hJ'⟩ | ⟨rfl, hJx⟩)
    · refine .v (.not rfl) (.nil ?_)
      refine .cond (b := false) rfl (fun h => absurd h (by simp)) (fun _ => .skip ?_)
      refine .region (.v (.move rfl) (.v (.move rfl) (.v (.slLo rfl rfl (by omega) (by omega)) (.v (.assign rfl) (.nil ?_)))))
      have hcut := OwnS.cut ho (i := (chk ys i).length) (by omega) (by decide)
      refine ⟨rfl, ⟨i + 1, cutA A c (((chk ys i).length : Nat) : Int).toNat 1, c - (((chk ys i).length : Nat) : Int).toNat, h, h'⟩, ⟨by show i + 1 ≤ nch ys; rw [frs_len] at hil; omega, ?_, hJ', fun _ _ => trivial⟩, by show nch ys - (i + 1) < nch ys - i; rw [frs_len] at hil; omega, .cons rfl (.cons ?_ (.nil _)), fun _ s => s.perm List.perm_append_comm⟩
      · dsimp only
        rw [Int.toNat_natCast]
        rw [Nat.mul_one, bytsDr, List.drop_drop] at hcut
        have e1 : ys.length - 64 * i - (chk ys i).length = ys.length - 64 * (i + 1) := by omega
        rw [e1] at hcut
        by_cases hlast : 64 ≤ ys.length - 64 * i
        · have e2 : 64 * i + (chk ys i).length = 64 * (i + 1) := by omega
          rw [e2] at hcut; exact hcut
        · rw [List.drop_eq_nil_of_le (by omega)] at hcut
          rw [List.drop_eq_nil_of_le (by omega)]; exact hcut
      · show some (Value.slice _ (ys.length - 64 * i - (((chk ys i).length : Nat) : Int).toNat) _) = some (Value.slice _ (ys.length - 64 * (i + 1)) _)
        rw [Int.toNat_natCast, show ys.length - 64 * i - (chk ys i).length = ys.length - 64 * (i + 1) from by omega]
    · refine .v (.not rfl) (.nil ?_)
      refine .cond (b := true) rfl (fun _ => ?_) (fun h => absurd h (by simp))
      exact .ret ⟨.inr rfl, [], h', [], rfl, fun _ s => s.sub (List.sublist_append_left _ _), trivial, .inr hJx⟩
  · have hie : i = nch ys := by omega
    subst hie
    exact ⟨.inl rfl, [], p, [], rfl, fun _ s => s.sub (List.sublist_append_right _ _), trivial, .inl (by rw [frs_len]; exact hJ)⟩
end Go.Proofs.Ytcgnbdgagkhehaa

/- what is told of bytes, by the law (told) and by the document (All). -/
namespace Go.Proofs.Ytcgnbdgagkhehaa
open Go.V
set_option linter.unusedVariables false
set_option linter.unusedSimpArgs false

theorem nch_le (ys : List (BitVec 8)) : nch ys ≤ ys.length := by unfold nch; omega
set_option maxRecDepth 20000 in
set_option maxHeartbeats 1000000 in
theorem told_ok (w : World) (A : Option Addr) (cap : Nat) (ys : List (BitVec 8)) (hb : ys.length ≤ 100000000000) (hx : Rd w [] A (byts ys)) :
    Does Try.prog 24 [.slice A ys.length cap] [] w (fun v hs => OwnS 52 9 v (nch ys) (trows ys (nch ys)) hs) := by
  have hn := nch_le ys
  refine Does.ofF (n := 25) Try.func24 rfl rfl rfl rfl ?_
  refine .seq ((.region (.v (.assign rfl) (.nil ?_))))
  refine .seq ((.region (.nw .alloc fun b3 => (.nil ?_))))
  refine .seq ((.region (.v (.move rfl) ?_)))
  refine .ef (.call0 rfl rfl fun w s => All_ok w _ _ _) ?_
  rintro _ _ ⟨_, ⟨bb, rfl, rfl⟩, rfl⟩
  refine .v (.assign rfl) (.nil ?_)
  refine .seq (.seq ((.region (.v (.move rfl) (.v (.eql_func_nil rfl rfl) (.nil ?_))))))
  refine .cond rfl (fun h1 => absurd h1 (by simp)) (fun _ => .skip ?_)
  refine .seq (.seq ((.region (.v (.move rfl) (.nil ?_)))))
  refine .block (.rangeFunc (frs ys) (fun i h => ∃ v h', h = h' ++ [(bb, Ch.cells [.slice A ys.length cap] 22), (b3, .cells [v] 49)] ∧ OwnS 52 9 v i (trows ys i) h') (fun _ _ => False) rfl
    ⟨_, [], rfl, OwnS.nil _ _⟩ rfl (fun x hx => by obtain ⟨i, hi, rfl⟩ := List.mem_iff_getElem.1 hx; rw [frs_get]; rfl) (fun p q W s => ?_) (fun l D i hi h W rc rc' hI sW => ?_) (fun D h hI => ?_) (fun _ _ _ h => h.elim))
  · exact All_its W _ bb A cap ys hb (by simp) fun W2 s2 => hx.keep0 (show Sat w [] _ W2 from by have := Sat.call (pre := _) (fr := []) (by simpa using s) s2; rw [List.append_nil] at this; exact this)
  · obtain ⟨v, h', rfl, ho⟩ := hI
    rw [frs_len] at hi
    rw [frs_get]
    refine .seq ((.region (.nw .alloc fun b5 => (.st (.storeW (vs := fcells (unpk (chk ys i)).1 (unpk (chk ys i)).2.1) rfl rfl (fcells_length (unpk_ws _)) (fcells_ones _ _) rfl) (.nil ?_)))))
    refine .region (.v (.assign rfl) (.nil ?_))
    refine ⟨rfl, rfl, (b5, _) :: (h' ++ [_, _]), fun _ s => s.perm ((List.Perm.swap _ _ _).trans ((List.Perm.swap _ _ _).cons _)), ?_⟩
    refine .block (.region (.v (.load (v := v) rfl (.one rfl)) (.v (.loadA (m := 8) rfl .whole (fcells_length (unpk_ws _))) (.v (.move rfl) (.v (.build (out := tcells (chk ys i)) rfl (fill_nine (fcells_length (unpk_ws _)) rfl)) (.push (h := h') (oc := tcells (chk ys i)) (c := i) (vs := trows ys i) rfl rfl ho rfl (tcells_len _) (tcells_ones _) (by omega) (by omega) fun b v' h2 o2 => ?_))))))
    obtain ⟨A1, d1, rfl⟩ := OwnS.slice o2
    refine .st (.storeL (l' := [.slice A1 (i + 1) d1]) rfl rfl rfl) (.nil ?_)
    rw [← trows_succ] at o2
    have ep : List.Perm (h2 ++ [(l, rc'), (D, dfr), (b5, Ch.cells (fcells (unpk (chk ys i)).1 (unpk (chk ys i)).2.1) 31), (bb, Ch.cells [Value.slice A ys.length cap] 22), (b3, Ch.cells [.slice A1 (i + 1) d1] 49)]) ((b5, Ch.cells (fcells (unpk (chk ys i)).1 (unpk (chk ys i)).2.1) 31) :: (l, rc') :: (D, dfr) :: (h2 ++ [(bb, Ch.cells [Value.slice A ys.length cap] 22), (b3, Ch.cells [.slice A1 (i + 1) d1] 49)])) := by
      refine (List.perm_append_comm).trans ?_
      refine (List.Perm.append_right h2 ((List.Perm.swap _ _ _).cons _)).trans ?_
      refine (List.Perm.append_right h2 (List.Perm.swap _ _ _)).trans ?_
      exact (((List.perm_append_comm (l₁ := [(bb, _), (b3, _)])).cons _).cons _).cons _
    exact ⟨_, fun _ s => (s.perm ep).sub (List.sublist_cons_self _ _), _, h2, rfl, o2⟩
  · obtain ⟨v, h', rfl, ho⟩ := hI
    rw [frs_len] at ho
    refine .seq ((.region (.v (.load (v := v) rfl (.one rfl)) (.v (.assign rfl) (.nil ?_)))))
    refine .ret ?_
    exact ⟨.inr rfl, [D], h', [_], rfl, fun _ s => s.sub (by simp), ⟨rfl, trivial⟩, ho⟩

theorem chk_eq (ys : List (BitVec 8)) (i : Nat) : byts (chk ys i) = (byts (ys.drop (64 * i))).take 64 := by rw [bytsTk]; rfl
structure RA where
  i : Nat
  A : Option Addr
  c : Nat
  v : Value
  h : Hp
set_option maxRecDepth 20000 in
set_option maxHeartbeats 1000000 in
theorem refAll_ok (w : World) (A : Option Addr) (cap : Nat) (ys : List (BitVec 8)) (hb : ys.length ≤ 100000000000) (hc : ys.length ≤ cap) (hx : Rd w [] A (byts ys)) :
    Does Try.prog 23 [.slice A ys.length cap] [] w (fun v hs => OwnS 47 9 v (nch ys) (trows ys (nch ys)) hs) := by
  have hn : nch ys = (ys.length + 63) / 64 := rfl
  refine Does.of (n := 31) Try.func23 rfl rfl rfl rfl ?_
  refine .seq ((.region (.v (.assign rfl) (.nil ?_))))
  refine .seq ((.region (.v (.assign rfl) (.nil ?_))))
  refine .seq (.block (.loop (X := RA) (fun x => [(0, .slice x.A (ys.length - 64 * x.i) x.c), (3, x.v)]) (fun x => x.h) (fun x => 64 * x.i ≤ ys.length ∧ ys.length - 64 * x.i ≤ x.c ∧ Rd w [] x.A (byts (ys.drop (64 * x.i))) ∧ OwnS 47 9 x.v x.i (trows ys x.i) x.h) (fun x => ys.length - x.i) ⟨0, A, cap, .slice none 0 0, []⟩
    ⟨by simp, hc, hx, OwnS.nil _ _⟩ (.cons rfl (.cons rfl (.nil _))) (fun _ s => s) ?_))
  rintro ⟨i, A, c, v, h⟩ ⟨hi, hic, hR, ho⟩
  dsimp only at hi hic hR ho ⊢
  refine .seq (.seq ((.region (.v (.move rfl) (.v (.len rfl) (.v (.geq rfl rfl) (.nil ?_)))))))
  refine .cond_dec rfl (fun h1 => .skip ?_) (fun h1 => .exit ?_)
  · have hck := chk_len ys i
    refine .block (.seq ((.region (.v (.move rfl) (.v (.slHi rfl rfl (by omega) (by omega)) ?_)))))
    refine .ef (.call0 rfl rfl fun w s => refUnpack_ok w _ _ _ (chk ys i) (by rw [chk_eq]; exact (hR.keep0 s).take 64) (by omega)) ?_
    rintro _ h ⟨_, ⟨rfl, rfl⟩, rfl⟩
    refine .v (.move rfl) (.v (.extract (v := .agg ⟨fcells (unpk (chk ys i)).1 (unpk (chk ys i)).2.1⟩) rfl rfl) (.v (.extract (v := .int .i64 (unpk (chk ys i)).2.2) rfl rfl) (.nw .alloc fun b4 => (.st (.storeW (vs := fcells (unpk (chk ys i)).1 (unpk (chk ys i)).2.1) rfl rfl (fcells_length (unpk_ws _)) (fcells_ones _ _) rfl) (.v (.assign rfl) (.nil ?_))))))
    refine .seq ((.region (.v (.move rfl) (.v (.loadA (m := 8) rfl .whole (fcells_length (unpk_ws _))) (.v (.move rfl) (.v (.build (out := tcells (chk ys i)) rfl (fill_nine (fcells_length (unpk_ws _)) rfl)) (.push (h := h) (oc := tcells (chk ys i)) (c := i) (vs := trows ys i) rfl rfl ho rfl (tcells_len _) (tcells_ones _) (by omega) (by omega) fun b v' h2 o2 => (.v (.assign rfl) (.nil ?_)))))))))
    refine .region (.v (.move rfl) (.v (.slLo rfl rfl (by omega) (by omega)) (.v (.assign rfl) (.nil ?_))))
    rw [← trows_succ] at o2
    refine ⟨⟨i + 1, cutA A c 64 1, c - 64, v', h2⟩, ⟨by dsimp only; omega, ?_, ?_, o2⟩, by dsimp only; omega, .cons rfl (.cons rfl (.nil _)), fun _ s => s.sub (List.sublist_append_left _ _)⟩
    · dsimp only; omega
    · have hcut := Rd.cut (cap := c) (k := 64) (m := 1) hR (by rw [byts_length, List.length_drop]; omega)
      rw [Nat.mul_one, bytsDr, List.drop_drop] at hcut
      exact hcut
  · refine .mid (X := Value × Hp) (fun x => [(3, x.1)]) (fun x => x.2) (fun x => OwnS 47 9 x.1 (nch ys) (trows ys (nch ys)) x.2) (.seq ((.region (.v (.move rfl) (.v (.len rfl) (.v (.gtr rfl rfl) (.nil ?_))))))) ?_
    · refine .cond_dec rfl (fun h2 => ?_) (fun h2 => .skip ?_)
      · have e1 : nch ys = i + 1 := by omega
        have hck := chk_len ys i
        have hu : unpkV (chk ys i) = _ := unpk_short (by omega)
        have et : tcells (chk ys i) = fcells 0#8 zw ++ [.int .i64 20] := by
          unfold unpkV at hu
          simp only [Value.tuple.injEq, Array.mk.injEq, List.cons.injEq, Value.agg.injEq, and_true] at hu
          obtain ⟨hu1, hu2⟩ := hu
          unfold tcells; rw [hu1, hu2]
        refine .region (.v (.move rfl) (.v (.build (out := fcells 0#8 zw ++ [.int .i64 20]) rfl rfl) (.push (h := h) (oc := fcells 0#8 zw ++ [.int .i64 20]) (c := i) (vs := trows ys i) rfl rfl ho rfl rfl rfl (by omega) (by omega) fun b v' h2 o2 => (.v (.assign rfl) (.nil ?_)))))
        rw [← et, ← trows_succ, ← e1] at o2
        exact ⟨(v', h2), o2, .cons rfl (.nil _), fun _ s => s.sub (List.sublist_append_left _ _)⟩
      · have e1 : nch ys = i := by omega
        rw [← e1] at ho
        exact ⟨(v, h), ho, .cons rfl (.nil _), fun _ s => s⟩
    · rintro ⟨v, h⟩ ho
      refine .seq ((.region (.v (.move rfl) (.v (.assign rfl) (.nil ?_)))))
      refine .ret ?_
      exact ⟨[v], ⟨rfl, trivial⟩, ho⟩
end Go.Proofs.Ytcgnbdgagkhehaa

/- WireOneForm: the walk. -/
namespace Go.Proofs.Ytcgnbdgagkhehaa
open Go.V
set_option linter.unusedVariables false

theorem WireOneForm_ok (w : World) (k : BitVec 8) (ws : List (BitVec 64)) (hw : ws.length = 7) (A : Option Addr) (len cap : Nat) (xs : List (BitVec 8)) (hx : Rd w [] A (byts xs)) (hl : len = xs.length) :
    Does Try.prog 6 [.agg ⟨fcells k ws⟩, .slice A len cap] [] w (fun v hs => v = .bool true ∧ hs = []) := by
  refine Does.pure (Does.of (n := 43) Try.func6 rfl rfl rfl rfl ?_)
  have hU := unpk_ws xs
  have hp : unpkV (packed k ws) = .tuple ⟨[.agg ⟨fcells k ws⟩, .int .i64 0]⟩ := by rw [unpkV, unpk_packed _ _ hw]; rfl
  have hE : cellsEq (fcells k ws) (fcells k ws) = true := by rw [fcells_eq hw hw]; simp
  refine .seq ((.region (.nw (.box rfl rfl) fun b2 => (.v (.assign rfl) (.nil ?_)))))
  refine .seq (.seq ((.region (.ef (.call0 rfl rfl fun w s => lives_ok w) ?_))))
  rintro _ _ ⟨_, ⟨rfl, rfl⟩, rfl⟩
  refine .v (.not rfl) (.nil ?_)
  refine .cond_false rfl (.skip ?_)
  refine .seq ((.region (.v (.loadA rfl .whole (fcells_length hw)) (.ef (.call0 rfl rfl fun w s => Pack_ok w k ws hw) ?_))))
  rintro _ _ ⟨_, ⟨rfl, rfl⟩, rfl⟩
  refine .nw .alloc fun b5 => (.st (.storeW rfl rfl (by rw [byts_length, packed_length hw]) (byts_ones _) (by simp)) (.nil ?_))
  refine .seq ((.region (.v (.slArr rfl) (.ef (.call0 rfl rfl fun w s => Unpack_ok w _ _ 64 (packed k ws) (Rd.chunk s (by simp) fun j v hv => by rw [Nat.zero_add]; exact hv) (packed_length hw).symm) ?_))))
  rintro _ _ ⟨_, ⟨rfl, rfl⟩, rfl⟩
  rw [hp]
  refine .v (.move rfl) (.v (.extract rfl rfl) (.v (.extract rfl rfl) (.nw .alloc fun b6 => (.st (.storeW rfl rfl (fcells_length hw) (fcells_ones _ _) rfl) (.v (.assign rfl) (.nil ?_))))))
  refine .seq (.seq ((.region (.v (.move rfl) (.v (.nei rfl rfl) (.v (.move rfl) (.split (t := 21) rfl (fun h => absurd rfl h) (fun _ => ?_))))))))
  refine .v (.loadA rfl .whole (fcells_length hw)) (.v (.loadA rfl .whole (fcells_length hw)) (.v (.neA rfl rfl (fcells_oks hw) (fcells_oks hw)) (.v (.pick rfl rfl rfl) (.nil ?_))))
  refine .cond (b := !cellsEq (fcells k ws) (fcells k ws)) rfl (fun h => absurd h (by rw [hE]; simp)) (fun _ => .skip ?_)
  refine .seq ((.region (.v (.move rfl) (.ef (.call0 rfl rfl fun w s => Unpack_ok w _ _ cap xs (Rd.keep0 (own := bl []) hx s) hl) ?_))))
  rintro _ _ ⟨_, ⟨rfl, rfl⟩, rfl⟩
  refine .v (.move rfl) (.v (.extract (vs := [.agg ⟨fcells (unpk xs).1 (unpk xs).2.1⟩, .int .i64 (unpk xs).2.2]) rfl rfl) (.v (.extract (vs := [.agg ⟨fcells (unpk xs).1 (unpk xs).2.1⟩, .int .i64 (unpk xs).2.2]) rfl rfl) (.nw .alloc fun b8 => (.st (.storeW rfl rfl (fcells_length hU) (fcells_ones _ _) rfl) (.v (.assign rfl) (.nil ?_))))))
  refine .seq (.seq ((.region (.v (.move rfl) (.v (.nei rfl rfl) (.nil ?_))))))
  refine .cond_dec rfl (fun h3 => ?_) (fun h3 => .skip ?_)
  · refine .seq ((.region (.v (.loadA rfl .whole (fcells_length hU)) (.v (.build (out := fcells 0#8 zw) rfl rfl) (.v (.eqA rfl rfl (fcells_oks hU) (fcells_oks rfl)) (.v (.assign rfl) (.nil ?_)))))))
    refine .ret ?_
    have h4 := unpk_wrong (xs := xs) (by omega)
    exact ⟨[_], ⟨rfl, trivial⟩, by rw [fcells_eq hU (show zw.length = 7 from rfl)]; simp [tup, h4]⟩
  · have h4 := unpk_right (xs := xs) (by omega)
    refine .seq ((.region (.v (.loadA rfl .whole (fcells_length hU)) (.ef (.call0 rfl rfl fun w s => Pack_ok w _ _ hU) ?_))))
    rintro _ _ ⟨_, ⟨rfl, rfl⟩, rfl⟩
    rw [h4]
    have hlx : xs.length = 64 := by rw [← h4]; exact packed_length hU
    refine .st (.storeW rfl rfl (by rw [byts_length, hlx]) (byts_ones _) (by rw [byts_length, packed_length hw])) (.nil ?_)
    refine .seq ((.drawT 5 (by kernel_rfl) (by kernel_rfl) (.v (.slArr rfl) (.v (.bytesStr (xs := xs) rfl hlx .whole) (.v (.move rfl) (.v (.bytesStrR (xs := xs) rfl hl.symm fun w s => Rd.keep0 (own := bl []) hx s) (.v (.eql_string rfl rfl) (.nil ?_))))))))
    refine .v (.assign rfl) (.nil ?_)
    refine .ret ?_
    exact ⟨[_], ⟨rfl, trivial⟩, by simp [tup]⟩
theorem WireOneForm_walk (w : World) (cs : List Value) (h : okw [.i .u8, .i .u64, .i .u64, .i .u64, .i .u64, .i .u64, .i .u64, .i .u64] cs) (A : Option Addr) (len cap : Nat) (xs : List (BitVec 8)) (hx : Rd w [] A (byts xs)) (hl : len = xs.length) :
    Does Try.prog 6 [.agg ⟨cs⟩, .slice A len cap] [] w (fun v hs => v = .bool true ∧ hs = []) := by
  obtain ⟨k, ws, hw, rfl⟩ := okw_frame h
  exact WireOneForm_ok w k ws hw A len cap xs hx hl
end Go.Proofs.Ytcgnbdgagkhehaa

/- WireAlone: the walk. -/
namespace Go.Proofs.Ytcgnbdgagkhehaa
open Go.V
set_option linter.unusedVariables false
set_option linter.unusedSimpArgs false

theorem toldRow {E n' c k i : Nat} {A : Option Addr} {ys : List (BitVec 8)} {h : Hp} (w0 : World) (own : List Nat) (o : OwnS E 9 (.slice A n' c) k (trows ys k) h) (hi : i < k) :
    ∃ b o, A = some ⟨b, o, none⟩ ∧ ∀ (hs' : Hp), h ⊆ hs' → ∀ z : Int, z.toNat = i → At w0 own hs' ⟨b, o + z.toNat * 9, none⟩ (tcells (chk ys i)) := by
  obtain ⟨b, o', l, rfl, -, -, -, -⟩ := OwnS.some_ o (by omega)
  refine ⟨b, o', rfl, fun hs' hs z hz => ?_⟩
  have := recAt (fun i => tcells (chk ys i)) 9 (fun _ => tcells_len _) (l := List.range k) (i := i) (z := z) (OwnS.at0 (w0 := w0) (own := own) o hs) (by simpa using hi) hz
  simpa using this
theorem tcells_oks (zs : List (BitVec 8)) : oks [.i .u8, .i .u64, .i .u64, .i .u64, .i .u64, .i .u64, .i .u64, .i .u64, .i .i64] (tcells zs) :=
  oks_append (fcells_oks (unpk_ws zs)) ⟨rfl, trivial⟩
theorem tcells_same (zs : List (BitVec 8)) : cellsEq (tcells zs) (tcells zs) = true := (cellsEq_iff (tcells_oks zs) (tcells_oks zs)).2 rfl
theorem chk_left {p q : List (BitVec 8)} {i : Nat} (h : 64 * (i + 1) ≤ p.length) : chk (p ++ q) i = chk p i := by
  unfold chk
  rw [List.drop_append_of_le_length (by omega), List.take_append_of_le_length (by rw [List.length_drop]; omega)]
theorem chk_right {p q : List (BitVec 8)} {n : Nat} (i : Nat) (h : p.length = 64 * n) : chk (p ++ q) (n + i) = chk q i := by
  unfold chk
  rw [List.drop_append, List.drop_of_length_le (by omega), List.nil_append]
  congr 2; omega
theorem nch_app {p q : List (BitVec 8)} {n : Nat} (h : p.length = 64 * n) : nch (p ++ q) = n + nch q := by
  unfold nch; rw [List.length_append]; omega
theorem told_at (w : World) (A : Option Addr) (len cap : Nat) (ys : List (BitVec 8)) (hl : len = ys.length) (hb : ys.length ≤ 100000000000) (hx : Rd w [] A (byts ys)) :
    Does Try.prog 24 [.slice A len cap] [] w (fun v hs => OwnS 52 9 v (nch ys) (trows ys (nch ys)) hs) := by subst hl; exact told_ok w A cap ys hb hx
set_option maxRecDepth 20000 in
set_option maxHeartbeats 2000000 in
theorem WireAlone_ok (w : World) (A B : Option Addr) (len cap len2 cap2 : Nat) (xs ys zs : List (BitVec 8)) (hx : Rd w [] A (byts xs)) (hl : len = xs.length) (hc : len ≤ cap) (hy : Rd w [] B (byts ys)) (hl2 : len2 = ys.length)
    (hz : zs.length = 64) (hb : len ≤ 1048576) (hb2 : len2 ≤ 1048576) :
    Does Try.prog 9 [.slice A len cap, .slice B len2 cap2, .agg ⟨byts zs⟩] [] w (fun v hs => v = .bool true ∧ hs = []) := by
  refine Does.pure (Does.of (n := 107) Try.func9 rfl rfl rfl rfl ?_)
  refine .seq ((.region (.nw (.box rfl rfl) fun b5 => (.v (.assign rfl) (.nil ?_)))))
  refine .seq (.seq ((.region (.ef (.call0 rfl rfl fun w s => lives_ok w) ?_))))
  rintro _ _ ⟨_, ⟨rfl, rfl⟩, rfl⟩
  refine .v (.not rfl) (.nil ?_)
  refine .cond_false rfl (.skip ?_)
  refine .seq ((.region (.v (.move rfl) (.v (.len rfl) (.v (.quo rfl rfl (by decide)) (.v (.assign rfl) (.nil ?_)))))))
  obtain ⟨n, hn⟩ : ∃ n, n = len / 64 := ⟨_, rfl⟩
  have hq : IntKind.i64.wrap (((len : Nat) : Int).tdiv 64) = ((n : Nat) : Int) := by
    rw [Int.tdiv_eq_ediv_of_nonneg (by omega), wrap_i64 (by omega)]; omega
  rw [hq]
  have hpl : (xs.take (64 * n)).length = 64 * n := by rw [List.length_take]; omega
  have hxp : Rd w [] A (byts (xs.take (64 * n))) := by rw [← bytsTk]; exact hx.take _
  generalize hp : xs.take (64 * n) = p at hpl hxp
  have hn64 : 64 * n ≤ len := by omega
  clear hq hp
  refine .seq ((.drawP [1, 2, 3, 4, 6, 8, 0, 5, 7, 9, 10] [] (List.nil_subset _) (by kernel_rfl) (by kernel_rfl) ?_))
  refine .v (fun _ f => .move rfl) (.v (fun _ f => .move rfl) (.v (fun _ f => .muli rfl rfl (by omega)) (.v (fun _ f => .slHi rfl rfl (by omega) (by omega)) (.v (fun _ f => .slArr rfl) (.v (fun _ f => .move rfl) ?_)))))
  rw [show (((n : Nat) : Int) * 64).toNat = 64 * n from by omega]
  refine .ef (.buildSlice (out := []) rfl (by decide) rfl rfl) (fun _ _ _ _ => List.nil_subset _) ?_
  rintro _ _ ⟨b20, rfl, rfl⟩
  refine .ef (.append (c := 0) (k := 64 * n) (vs := []) (news := byts p) (h := [(b20, .cells [] 5)]) (fr := [(b5, _)]) rfl rfl ⟨rfl, .inr ⟨b20, 0, 0, [], rfl, rfl, by omega, by simp, by simp⟩⟩ (List.Perm.refl _) (fun w' s => (hxp.keep0 s).src (by rw [byts_length]; omega) (by omega)) (by rw [byts_length]; omega) (byts_ones _) (by omega) (by omega)) (fun _ _ _ _ => List.nil_subset _) ?_
  rintro v1 _ ⟨h1, o1, rfl⟩
  refine .ef (.append (c := 0 + 64 * n) (k := 64) (vs := [] ++ byts p) (news := byts zs) (h := h1) (fr := [(b5, _)]) rfl rfl o1 (List.Perm.refl _) (fun w' s => Src.of_at s .whole (by rw [byts_length]; omega)) (by rw [byts_length]; omega) (byts_ones _) (by omega) (by omega)) (fun _ _ _ _ => List.nil_subset _) ?_
  rintro v2 _ ⟨h2, o2, rfl⟩
  refine .ef (.append (c := 0 + 64 * n + 64) (k := len2) (vs := [] ++ byts p ++ byts zs) (news := byts ys) (h := h2) (fr := [(b5, _)]) rfl rfl o2 (List.Perm.refl _) (fun w' s => (hy.keep0 s).src (by rw [byts_length]; omega) (by omega)) (by rw [byts_length]; omega) (byts_ones _) (by omega) (by omega)) (fun _ _ _ _ => List.nil_subset _) ?_
  rintro v3 _ ⟨hA, oA, rfl⟩
  refine .v (fun _ f => .assign rfl) (.nil ?_)
  rw [List.nil_append, ← byts_append, ← byts_append, Nat.zero_add] at oA
  obtain ⟨AA, cA, rfl⟩ := OwnS.slice oA
  obtain ⟨al, hal⟩ : ∃ al, al = p ++ zs ++ ys := ⟨_, rfl⟩
  rw [← hal] at oA
  have hall : al.length = 64 * n + 64 + len2 := by rw [hal]; simp; omega
  have hpz : (p ++ zs).length = 64 * (n + 1) := by simp; omega
  have nA : nch al = n + 1 + nch ys := by rw [hal]; exact nch_app hpz
  have nZ : nch zs = 1 := by unfold nch; rw [hz]
  have nP : nch p = n := by unfold nch; rw [hpl]; omega
  have cP : ∀ i, i < n → chk al i = chk p i := fun i hi => by rw [hal, chk_left (by omega), chk_left (by omega)]
  have cZ : chk al n = chk zs 0 := by rw [hal, chk_left (by omega)]; exact chk_right 0 hpl
  have cY : ∀ i, chk al (n + 1 + i) = chk ys i := fun i => by rw [hal]; exact chk_right i hpz
  have hny : nch ys ≤ 1048576 := by have := nch_le ys; omega
  clear hal
  refine .seq ((.region (.v (.slArr rfl) (.ef (.call0 rfl rfl fun w' s => told_at w' _ 64 64 zs hz.symm (by omega) (Rd.chunk (b := b5) (l := byts zs) (T := 32) s (by simp) fun j v hv => by rw [Nat.zero_add]; exact hv)) ?_))))
  rintro v9 _ ⟨k1, o9, rfl⟩
  rw [nZ] at o9
  obtain ⟨A9, c9, rfl⟩ := OwnS.slice o9
  refine .v (.assign rfl) (.nil ?_)
  refine .seq ((.region (.v (.move rfl) (.ef (.call0 rfl rfl fun w' s => told_at w' AA _ cA al (by omega) (by omega) (OwnS.rd oA s (no := []) (fun y hy => by simp [hy]) (by simp))) ?_))))
  rintro v10 _ ⟨k2, o10, rfl⟩
  rw [nA] at o10
  obtain ⟨A10, c10, rfl⟩ := OwnS.slice o10
  refine .v (.assign rfl) (.nil ?_)
  refine .seq ((.region (.v (.move rfl) (.v (.move rfl) (.v (.muli rfl rfl (by omega)) (.v (.slHi rfl rfl (by omega) (by omega)) ?_))))))
  rw [show (((n : Nat) : Int) * 64).toNat = 64 * n from by omega]
  refine .ef (.call0 rfl rfl fun w' s => told_at w' A _ cap p hpl.symm (by omega) (hxp.keep0 s)) ?_
  rintro v11 _ ⟨k3, o11, rfl⟩
  rw [nP] at o11
  obtain ⟨A11, c11, rfl⟩ := OwnS.slice o11
  refine .v (.assign rfl) (.nil ?_)
  obtain ⟨b9, p9, rfl, r9⟩ := toldRow w [] o9 (i := 0) (by omega)
  obtain ⟨b10, p10, rfl, r10⟩ := toldRow w [] o10 (i := n) (by omega)
  refine .seq (.seq ((.drawK _ (fun _ h => h) (by kernel_rfl) (by kernel_rfl) ?_)))
  refine .v (fun _ f => .move rfl) (.v (fun _ f => .len rfl) (.v (fun _ f => .nei rfl rfl) (.v (fun _ f => .move rfl) (.or 42 46 4 4 rfl rfl (fun g1 => .v (fun _ f => .move rfl) (.v (fun _ f => .len rfl) (.v (fun _ f => .move rfl) (.v (fun _ f => .nei rfl rfl) (.nil ⟨rfl, rfl, rfl, rfl⟩))))) (.v (fun _ f => .move rfl) (.or 48 53 5 5 rfl rfl (fun g2 => .v (fun _ f => .move rfl) (.v (fun _ f => .len rfl) (.v (fun _ f => .move rfl) (.v (fun _ f => .addi rfl rfl (by omega)) (.v (fun _ f => .lss rfl rfl) (.nil ⟨rfl, rfl, rfl, rfl⟩)))))) (.v (fun _ f => .move rfl) (.or 55 63 8 8 rfl rfl (fun g3 => .v (fun _ f => .move rfl) (.v (fun _ f => .move rfl) (.v (fun _ f => .indexAddr rfl rfl (by omega) (by omega)) (.v (fun hs' f => .loadA (vs := tcells (chk al n)) rfl (r10 hs' (fun y hy => f (by simp [hy])) _ (by omega)) (tcells_len _)) (.v (fun _ f => .move rfl) (.v (fun _ f => .indexAddr rfl rfl (by omega) (by omega)) (.v (fun hs' f => .loadA (vs := tcells (chk zs 0)) rfl (r9 hs' (fun y hy => f (by simp [hy])) _ (by omega)) (tcells_len _)) (.v (fun _ f => .neA rfl rfl (tcells_oks _) (tcells_oks _)) (.nil ⟨rfl, rfl, rfl, rfl⟩))))))))) (.nil ?_)))))))))
  refine .cond rfl (fun g => absurd g ?_) (fun _ => .skip ?_)
  · rw [cZ, tcells_same]; simp; omega
  refine .seq (.seq ((.region (.v (.assign rfl) (.nil ?_)))))
  refine .block (.loop (X := Nat) (fun i => [(1, .slice B len2 cap2), (7, .int .i64 n), (10, .slice (some ⟨b10, p10, none⟩) (n + 1 + nch ys) c10), (11, .slice A11 n c11), (12, .int .i64 i)]) (fun _ => k3 ++ (k2 ++ (k1 ++ (hA ++ [(b5, Ch.cells (byts zs) 32)])))) (fun i => i ≤ n) (fun i => n - i) 0 (by omega) (.cons rfl (.cons rfl (.cons rfl (.cons rfl (.cons rfl (.nil _)))))) (fun _ s => s) ?_)
  intro i hi
  refine .seq (.seq ((.region (.v (.move rfl) (.v (.move rfl) (.v (.lss rfl rfl) (.nil ?_)))))))
  refine .cond_dec rfl (fun g1 => .skip ?_) (fun g1 => .exit ?_)
  · have hin : i < n := by omega
    obtain ⟨b11, p11, rfl, r11⟩ := toldRow w [] o11 (i := i) hin
    obtain ⟨b10', p10', e10, r10'⟩ := toldRow w [] o10 (i := i) (by omega)
    cases e10
    refine .seq (.block (.seq ((.drawK _ (fun _ h => h) (by kernel_rfl) (by kernel_rfl) ?_))))
    refine .v (fun _ f => .move rfl) (.v (fun _ f => .move rfl) (.v (fun _ f => .indexAddr rfl rfl (by omega) (by omega)) (.v (fun hs' f => .loadA (vs := tcells (chk al i)) rfl (r10' hs' (fun y hy => f (by simp [hy])) _ (by omega)) (tcells_len _)) (.v (fun _ f => .move rfl) (.v (fun _ f => .move rfl) (.v (fun _ f => .indexAddr rfl rfl (by omega) (by omega)) (.v (fun hs' f => .loadA (vs := tcells (chk p i)) rfl (r11 hs' (fun y hy => f (by simp [hy])) _ (by omega)) (tcells_len _)) (.v (fun _ f => .neA rfl rfl (tcells_oks _) (tcells_oks _)) (.nil ?_)))))))))
    refine .cond rfl (fun g => absurd g (by rw [cP i hin, tcells_same]; simp)) (fun _ => .skip ?_)
    refine .region (.v (.move rfl) (.v (.addi rfl rfl (by omega)) (.v (.assign rfl) (.nil ?_))))
    exact ⟨i + 1, by omega, by omega, .cons rfl (.cons rfl (.cons rfl (.cons rfl (.cons rfl (.nil _))))), fun _ s => s⟩
  · refine .seq ((.region (.v (.move rfl) (.ef (.call0 rfl rfl fun w' s => told_at w' B _ cap2 ys hl2 (by omega) (hy.keep0 s)) ?_))))
    rintro v13 _ ⟨k4, o13, rfl⟩
    obtain ⟨A13, c13, rfl⟩ := OwnS.slice o13
    refine .v (.assign rfl) (.nil ?_)
    refine .seq (.seq ((.region (.v (.move rfl) (.v (.len rfl) (.v (.move rfl) (.v (.addi rfl rfl (by omega)) (.v (.move rfl) (.v (.len rfl) (.v (.addi rfl rfl (by omega)) (.v (.nei rfl rfl) (.nil ?_))))))))))))
    refine .cond_dec rfl (fun g => absurd (show ((n + 1 + nch ys : Nat) : Int) = (n : Int) + 1 + (nch ys : Nat) from by push_cast; omega) g) (fun _ => .skip ?_)
    refine .seq (.seq ((.region (.v (.assign rfl) (.nil ?_)))))
    refine .block (.loop (X := Nat) (fun i => [(7, .int .i64 n), (10, .slice (some ⟨b10, p10, none⟩) (n + 1 + nch ys) c10), (13, .slice A13 (nch ys) c13), (14, .int .i64 i)]) (fun _ => k4 ++ (k3 ++ (k2 ++ (k1 ++ (hA ++ [(b5, Ch.cells (byts zs) 32)]))))) (fun i => i ≤ nch ys) (fun i => nch ys - i) 0 (by omega) (.cons rfl (.cons rfl (.cons rfl (.cons rfl (.nil _))))) (fun _ s => s) ?_)
    intro i hi
    refine .seq (.seq ((.region (.v (.move rfl) (.v (.move rfl) (.v (.len rfl) (.v (.lss rfl rfl) (.nil ?_))))))))
    refine .cond_dec rfl (fun g1 => .skip ?_) (fun g1 => .exit ?_)
    · have hin : i < nch ys := by omega
      obtain ⟨b13, p13, rfl, r13⟩ := toldRow w [] o13 (i := i) hin
      obtain ⟨b10', p10', e10, r10'⟩ := toldRow w [] o10 (i := n + 1 + i) (by omega)
      cases e10
      refine .seq (.block (.seq ((.drawK _ (fun _ h => h) (by kernel_rfl) (by kernel_rfl) ?_))))
      refine .v (fun _ f => .move rfl) (.v (fun _ f => .move rfl) (.v (fun _ f => .addi rfl rfl (by omega)) (.v (fun _ f => .move rfl) (.v (fun _ f => .addi rfl rfl (by omega)) (.v (fun _ f => .indexAddr rfl rfl (by omega) (by omega)) (.v (fun hs' f => .loadA (vs := tcells (chk al (n + 1 + i))) rfl (r10' hs' (fun y hy => f (by simp [hy])) _ (by omega)) (tcells_len _)) (.v (fun _ f => .move rfl) (.v (fun _ f => .move rfl) (.v (fun _ f => .indexAddr rfl rfl (by omega) (by omega)) (.v (fun hs' f => .loadA (vs := tcells (chk ys i)) rfl (r13 hs' (fun y hy => f (by simp [hy])) _ (by omega)) (tcells_len _)) (.v (fun _ f => .neA rfl rfl (tcells_oks _) (tcells_oks _)) (.nil ?_))))))))))))
      refine .cond rfl (fun g => absurd g (by rw [cY i, tcells_same]; simp)) (fun _ => .skip ?_)
      refine .region (.v (.move rfl) (.v (.addi rfl rfl (by omega)) (.v (.assign rfl) (.nil ?_))))
      exact ⟨i + 1, by omega, by omega, .cons rfl (.cons rfl (.cons rfl (.cons rfl (.nil _)))), fun _ s => s⟩
    · refine .seq ((.region (.v (.assign rfl) (.nil ?_))))
      refine .ret ?_
      exact ⟨[_], ⟨rfl, trivial⟩, by simp [tup]⟩
end Go.Proofs.Ytcgnbdgagkhehaa

/- Plain words of chapter 2: 32 neighbouring bits that are turned change the check sum. No program in sight. -/
namespace Go.Proofs.Ytcgnbdgagkhehaa
open Go.V
set_option linter.unusedVariables false

/-! ### the register as a number that may be wide -/
def poly : Nat := 0xedb88320
def wst (x : Nat) : Nat := (x / 2) ^^^ (if x % 2 = 1 then poly else 0)
def wsts : Nat → Nat → Nat
  | 0, x => x
  | n + 1, x => wsts n (wst x)
theorem wsts_add (m n x : Nat) : wsts (m + n) x = wsts n (wsts m x) := by
  induction m generalizing x with
  | zero => simp [wsts]
  | succ m ih => rw [Nat.succ_add]; simp [wsts, ih]
theorem xor_half (a b : Nat) : (a ^^^ b) / 2 = a / 2 ^^^ b / 2 := by
  apply Nat.eq_of_testBit_eq
  intro i
  simp [Nat.testBit_div_two, Nat.testBit_xor]
theorem wst_xor (a b : Nat) : wst (a ^^^ b) = wst a ^^^ wst b := by
  have h : (a ^^^ b) % 2 = (a + b) % 2 := by
    rcases Nat.mod_two_eq_zero_or_one a with ha | ha <;> rcases Nat.mod_two_eq_zero_or_one b with hb | hb <;>
    · have h1 := Nat.testBit_xor a b 0
      simp only [Nat.testBit_zero, ha, hb] at h1
      rcases Nat.mod_two_eq_zero_or_one (a ^^^ b) with hc | hc <;> simp [hc] at h1 <;> omega
  unfold wst
  rw [xor_half, h]
  apply Nat.eq_of_testBit_eq
  intro i
  rcases Nat.mod_two_eq_zero_or_one a with ha | ha <;> rcases Nat.mod_two_eq_zero_or_one b with hb | hb
  · rw [if_neg (by omega), if_neg (by omega), if_neg (by omega)]; simp [Nat.testBit_xor]
  · rw [if_pos (by omega), if_neg (by omega), if_pos (by omega)]; simp [Nat.testBit_xor]
  · rw [if_pos (by omega), if_pos (by omega), if_neg (by omega)]; simp only [Nat.testBit_xor, Nat.zero_testBit]; cases (a / 2).testBit i <;> cases (b / 2).testBit i <;> cases poly.testBit i <;> rfl
  · rw [if_neg (by omega), if_pos (by omega), if_pos (by omega)]; simp only [Nat.testBit_xor, Nat.zero_testBit]; cases (a / 2).testBit i <;> cases (b / 2).testBit i <;> cases poly.testBit i <;> rfl
theorem wsts_xor (n a b : Nat) : wsts n (a ^^^ b) = wsts n a ^^^ wsts n b := by
  induction n generalizing a b with
  | zero => rfl
  | succ n ih => simp only [wsts, wst_xor, ih]
theorem wst_double (x : Nat) : wst (2 * x) = x := by
  unfold wst; rw [if_neg (by omega)]; simp
theorem wsts_shift (n x : Nat) : wsts n (2 ^ n * x) = x := by
  induction n generalizing x with
  | zero => simp [wsts]
  | succ n ih => rw [wsts, show 2 ^ (n + 1) * x = 2 * (2 ^ n * x) from by rw [Nat.pow_succ, Nat.mul_comm (2 ^ n) 2, Nat.mul_assoc], wst_double, ih]
theorem wst_zero {x : Nat} (hx : x < 2 ^ 32) (h : wst x = 0) : x = 0 := by
  unfold wst at h
  by_cases h1 : x % 2 = 1
  · rw [if_pos h1] at h
    have h2 : x / 2 = poly := by
      have := congrArg (· ^^^ poly) h
      simpa [Nat.xor_assoc] using this
    simp [poly] at h2
    omega
  · rw [if_neg h1] at h
    simp at h
    omega
theorem wst_lt {x : Nat} (hx : x < 2 ^ 32) : wst x < 2 ^ 32 := by
  unfold wst
  apply Nat.xor_lt_two_pow
  · omega
  · split
    · decide
    · decide
theorem wsts_zero : ∀ (n : Nat) {x : Nat}, x < 2 ^ 32 → wsts n x = 0 → x = 0
  | 0, x, _, h => h
  | n + 1, x, hx, h => wst_zero hx (wsts_zero n (wst_lt hx) h)

/-! ### the program's register -/
theorem sumBit_nat (c : BitVec 32) : (sumBit c).toNat = wst c.toNat := by
  have hlsb : (c &&& 1#32 = 1#32) ↔ c.toNat % 2 = 1 := by
    constructor
    · intro h
      have := congrArg BitVec.toNat h
      simp at this
      exact this
    · intro h
      apply BitVec.eq_of_toNat_eq
      simp [h]
  unfold sumBit wst
  by_cases h : c &&& 1#32 = 1#32
  · rw [if_pos h, if_pos (hlsb.1 h), BitVec.toNat_xor, BitVec.toNat_ushiftRight, Nat.shiftRight_eq_div_pow]; rfl
  · rw [if_neg h, if_neg (fun k => h (hlsb.2 k)), BitVec.toNat_ushiftRight, Nat.shiftRight_eq_div_pow]; simp
theorem sumBits_nat (n : Nat) (c : BitVec 32) : (sumBits n c).toNat = wsts n c.toNat := by
  induction n generalizing c with
  | zero => rfl
  | succ n ih => rw [sumBits, ih, sumBit_nat]; rfl
/-- bytes as a number -/
def val : List (BitVec 8) → Nat
  | [] => 0
  | x :: xs => x.toNat ^^^ (256 * val xs)
theorem sumAll_nat (xs : List (BitVec 8)) (c : BitVec 32) : (sumAll c xs).toNat = wsts (8 * xs.length) (c.toNat ^^^ val xs) := by
  induction xs generalizing c with
  | nil => simp [sumAll, wsts, val]
  | cons x xs ih =>
    have e : sumAll c (x :: xs) = sumAll (sumByte c x) xs := rfl
    rw [e, ih, sumByte, sumBits_nat, BitVec.toNat_xor, show 8 * (x :: xs).length = 8 + 8 * xs.length from by simp; omega, wsts_add]
    congr 1
    rw [val, ← Nat.xor_assoc, show 256 * val xs = 2 ^ 8 * val xs from rfl]
    simp only [wsts_xor 8, wsts_shift]
    congr 2
theorem val_app (xs ys : List (BitVec 8)) : val (xs ++ ys) = val xs ^^^ (256 ^ xs.length * val ys) := by
  induction xs with
  | nil => simp [val]
  | cons x xs ih =>
    rw [List.cons_append, val, ih, val, List.length_cons, Nat.pow_succ]
    apply Nat.eq_of_testBit_eq
    intro i
    rw [show 256 = 2 ^ 8 from rfl, show (2 ^ 8) ^ xs.length * 2 ^ 8 * val ys = 2 ^ 8 * ((2 ^ 8) ^ xs.length * val ys) from by rw [Nat.mul_comm ((2 ^ 8) ^ xs.length), Nat.mul_assoc]]
    simp only [Nat.testBit_xor, Nat.testBit_two_pow_mul]
    cases decide (i ≥ 8) <;> simp
theorem val_bit (xs : List (BitVec 8)) : ∀ i, (val xs).testBit i = (xs.getD (i / 8) 0#8).getLsbD (i % 8) := by
  induction xs with
  | nil => simp [val]
  | cons x xs ih =>
    intro i
    rw [val, Nat.testBit_xor, show 256 = 2 ^ 8 from rfl, Nat.testBit_two_pow_mul]
    by_cases h : i < 8
    · have e1 : i / 8 = 0 := by omega
      have e2 : i % 8 = i := by omega
      have e3 : ¬ i ≥ 8 := by omega
      simp [e1, e2, e3]; rfl
    · obtain ⟨m, hm⟩ : ∃ m, i / 8 = m + 1 := ⟨i / 8 - 1, by omega⟩
      have hx : x.toNat.testBit i = false := Nat.testBit_lt_two_pow (Nat.lt_of_lt_of_le x.isLt (Nat.pow_le_pow_right (by omega) (by omega)))
      rw [ih, hm, hx, show (i - 8) / 8 = m from by omega, show (i - 8) % 8 = i % 8 from by omega]
      simp [show 8 ≤ i from by omega]
theorem val_le4 (c : BitVec 32) : val (le4 c) = c.toNat := by
  apply Nat.eq_of_testBit_eq
  intro i
  rw [val_bit]
  by_cases h : i < 32
  · rw [List.getD_eq_getElem?_getD, le4_get _ _ (show i / 8 < 4 by omega)]
    simp only [Option.getD_some, BitVec.getLsbD_setWidth, BitVec.getLsbD_ushiftRight]
    rw [show 8 * (i / 8) + i % 8 = i from by omega]
    simp [show i % 8 < 8 from by omega]; rfl
  · rw [List.getD_eq_getElem?_getD, List.getElem?_eq_none (by simp [le4]; omega), Nat.testBit_lt_two_pow (Nat.lt_of_lt_of_le c.isLt (Nat.pow_le_pow_right (by omega) (by omega)))]
    simp
/-- a frame's bytes leave always the same in the register -/
theorem sumAll_packed (k : BitVec 8) (ws : List (BitVec 64)) : (sumAll 0xffffffff#32 (packed k ws)).toNat = wsts 32 (2 ^ 32 - 1) := by
  have e : sumAll 0xffffffff#32 (packed k ws) = sumAll (sumAll 0xffffffff#32 (body k ws)) (le4 (crc (body k ws))) := by
    simp [packed, sumAll, List.foldl_append]
  rw [e, sumAll_nat, val_le4, crc]
  generalize sumAll 0xffffffff#32 (body k ws) = r
  rw [← BitVec.toNat_xor, show (r ^^^ ~~~r) = BitVec.allOnes 32 from BitVec.eq_of_getLsbD_eq fun i hi => by rw [BitVec.getLsbD_xor, BitVec.getLsbD_not, BitVec.getLsbD_allOnes]; cases r.getLsbD i <;> simp [hi]]
  rfl
theorem burst_pure {p q : List (BitVec 8)} (hl : p.length = q.length) {k k' : BitVec 8} {ws ws' : List (BitVec 64)} (hp : p = packed k ws) (hq : q = packed k' ws') (f t : Nat) (ht : t < 2 ^ 32) (hf : f ≤ 8 * p.length)
    (hv : val p ^^^ val q = 2 ^ f * t) : t = 0 := by
  have h1 := sumAll_packed k ws
  have h2 := sumAll_packed k' ws'
  rw [← hp, sumAll_nat] at h1
  rw [← hq, sumAll_nat, ← hl, ← h1] at h2
  have h3 : wsts (8 * p.length) (val p ^^^ val q) = 0 := by
    rw [wsts_xor, wsts_xor] at h2
    have := congrArg (wsts (8 * p.length) (0xffffffff#32).toNat ^^^ ·) h2
    simp only [← Nat.xor_assoc, Nat.xor_self, Nat.zero_xor] at this
    rw [wsts_xor, this, Nat.xor_self]
  rw [hv, show 8 * p.length = f + (8 * p.length - f) from by omega, wsts_add, wsts_shift] at h3
  exact wsts_zero _ ht h3
end Go.Proofs.Ytcgnbdgagkhehaa

/- WireBurst: the walk. -/
namespace Go.Proofs.Ytcgnbdgagkhehaa
open Go.V
set_option linter.unusedVariables false

/-- the bits that are turned, as a number, behind i steps -/
def tb (f t i : Nat) : Nat := 2 ^ f * (t % 2 ^ i % 2 ^ (512 - f))
theorem tb_bit (f t i m : Nat) : (tb f t i).testBit m = (decide (f ≤ m) && (decide (m - f < 512 - f) && (decide (m - f < i) && t.testBit (m - f)))) := by
  rw [tb, Nat.testBit_two_pow_mul, Nat.testBit_mod_two_pow, Nat.testBit_mod_two_pow]
/-- the bytes behind i steps -/
def fl (p : List (BitVec 8)) (f t i : Nat) : List (BitVec 8) := (List.range 64).map fun n => p.getD n 0#8 ^^^ BitVec.ofNat 8 (tb f t i / 2 ^ (8 * n))
theorem fl_length (p : List (BitVec 8)) (f t i : Nat) : (fl p f t i).length = 64 := by simp [fl]
theorem fl_get (p : List (BitVec 8)) (f t i n : Nat) (h : n < 64) : (fl p f t i)[n]? = some (p.getD n 0#8 ^^^ BitVec.ofNat 8 (tb f t i / 2 ^ (8 * n))) := by simp [fl, h]
theorem tb_zero (f t : Nat) : tb f t 0 = 0 := by simp [tb, Nat.mod_one]
theorem tb_no {f t i : Nat} (h : ¬ (t.testBit i = true ∧ f + i < 512)) : tb f t (i + 1) = tb f t i := by
  apply Nat.eq_of_testBit_eq
  intro m
  rw [tb_bit, tb_bit]
  by_cases h1 : f ≤ m <;> by_cases h2 : m - f < 512 - f <;> by_cases h3 : m - f < i
  all_goals (try (simp [h1, h2]; done))
  all_goals simp [h1, h2, h3]
  · intros; omega
  · intro h4
    have : m - f = i := by omega
    subst this
    cases hb : t.testBit (m - f) with
    | false => rfl
    | true => exact absurd ⟨hb, by omega⟩ h
theorem fl_same {p : List (BitVec 8)} {f t i j : Nat} (h : tb f t j = tb f t i) : fl p f t j = fl p f t i := by unfold fl; rw [h]
theorem one_bit {s j : Nat} (hs : s < 8) (hj : j < 8) : (1#8 <<< s).getLsbD j = decide (j = s) := by
  have : ∀ s : Fin 8, ∀ j : Fin 8, (1#8 <<< s.val).getLsbD j.val = decide (j.val = s.val) := by decide
  exact this ⟨s, hs⟩ ⟨j, hj⟩
theorem fl_set {p : List (BitVec 8)} {f t i : Nat} (h : t.testBit i = true) (hk : f + i < 512) {x : BitVec 8} (hx : (fl p f t i)[(f + i) / 8]? = some x) :
    (fl p f t i).set ((f + i) / 8) (x ^^^ (1#8 <<< ((f + i) % 8))) = fl p f t (i + 1) := by
  apply List.ext_getElem?
  intro n
  by_cases hn : n < 64
  · rw [List.getElem?_set, fl_get _ _ _ _ _ hn]
    by_cases e : (f + i) / 8 = n
    · rw [if_pos e, if_pos (by rw [fl_length]; omega)]
      rw [e, fl_get _ _ _ _ _ hn] at hx
      cases hx
      rw [fl_get _ _ _ _ _ hn]
      congr 1
      apply BitVec.eq_of_getLsbD_eq
      intro j hj
      simp only [BitVec.getLsbD_xor, BitVec.getLsbD_ofNat, Nat.testBit_div_two_pow, Bool.xor_assoc]
      rw [one_bit (Nat.mod_lt _ (by decide)) hj]
      congr 1
      by_cases h2 : j = (f + i) % 8
      · have hm : j + 8 * n = f + i := by omega
        rw [hm, tb_bit, tb_bit, Nat.add_sub_cancel_left, decide_eq_true h2, decide_eq_true hj, h]
        simp [show i < 512 - f from by omega]
      · rw [tb_bit, tb_bit, decide_eq_false h2, Bool.xor_false]
        by_cases h1 : f ≤ j + 8 * n
        · have h5 : decide (j + 8 * n - f < i + 1) = decide (j + 8 * n - f < i) := by congr 1; exact propext (by omega)
          rw [h5]
        · simp [h1]
    · rw [if_neg e, fl_get _ _ _ _ _ hn]
      congr 2
      apply BitVec.eq_of_getLsbD_eq
      intro j hj
      simp only [BitVec.getLsbD_ofNat, Nat.testBit_div_two_pow, tb_bit]
      by_cases h1 : f ≤ j + 8 * n
      · have h5 : decide (j + 8 * n - f < i + 1) = decide (j + 8 * n - f < i) := by congr 1; exact propext (by omega)
        rw [h5]
      · simp [h1]
  · rw [List.getElem?_eq_none (by simp [fl_length]; omega), List.getElem?_eq_none (by rw [fl_length]; omega)]
theorem fl_zero {p : List (BitVec 8)} (hp : p.length = 64) {f t i : Nat} (h : tb f t i = 0) : fl p f t i = p := by
  apply List.ext_getElem?
  intro n
  by_cases hn : n < 64
  · rw [fl_get _ _ _ _ _ hn, h]
    simp [List.getD_eq_getElem?_getD, List.getElem?_eq_getElem (show n < p.length by omega)]
  · rw [List.getElem?_eq_none (by rw [fl_length]; omega), List.getElem?_eq_none (by omega)]
theorem val_fl {p : List (BitVec 8)} (hp : p.length = 64) (f t i : Nat) : val p ^^^ val (fl p f t i) = tb f t i := by
  apply Nat.eq_of_testBit_eq
  intro m
  rw [Nat.testBit_xor, val_bit, val_bit]
  by_cases h : m < 512
  · rw [List.getD_eq_getElem?_getD (l := fl p f t i), fl_get _ _ _ _ _ (show m / 8 < 64 by omega)]
    simp only [Option.getD_some, BitVec.getLsbD_xor, BitVec.getLsbD_ofNat, Nat.testBit_div_two_pow]
    rw [show m % 8 + 8 * (m / 8) = m from by omega, decide_eq_true (show m % 8 < 8 by omega), Bool.true_and, ← Bool.xor_assoc, Bool.xor_self, Bool.false_xor]
  · rw [List.getD_eq_getElem?_getD, List.getElem?_eq_none (by omega), List.getD_eq_getElem?_getD, List.getElem?_eq_none (by rw [fl_length]; omega), tb_bit]
    by_cases h1 : f ≤ m
    · simp [show ¬ m - f < 512 - f from by omega]
    · simp [h1]
/-- found out: right just when no bit was turned -/
theorem burst_found {k : BitVec 8} {ws : List (BitVec 64)} (hw : ws.length = 7) (f t : Nat) (hf : f < 512) : (unpk (fl (packed k ws) f t 32)).2.2 = 0 ↔ tb f t 32 = 0 := by
  have hp := packed_length (k := k) hw
  constructor
  · intro h
    have hq := unpk_right h
    have := burst_pure (p := packed k ws) (q := fl (packed k ws) f t 32) (by rw [hp, fl_length]) rfl hq.symm f (t % 2 ^ 32 % 2 ^ (512 - f)) (Nat.lt_of_le_of_lt (Nat.mod_le _ _) (Nat.mod_lt _ (by decide))) (by omega) (val_fl hp f t 32)
    rw [tb, this]; simp
  · intro h
    rw [fl_zero hp h, unpk_packed _ _ hw]
theorem wrap_u8' (b : BitVec 8) : IntKind.u8.wrap (b.toNat : Int) = b.toNat := by
  have := b.isLt
  simp [IntKind.wrap, IntKind.bits, IntKind.signed]; omega
theorem xor8 (a b : BitVec 8) : bop .xor .u8 (a.toNat : Int) (b.toNat : Int) = (a ^^^ b).toNat := by
  have h := wrap_u8' (a ^^^ b)
  simp only [bop, IntKind.bits, ofInt_nat'] at *; exact h
theorem shl8 (j : Nat) (h : j < 8) : IntKind.u8.wrap (1 * 2 ^ min ((j : Int)).toNat IntKind.u8.bits) = (1#8 <<< j).toNat := by
  have : j = 0 ∨ j = 1 ∨ j = 2 ∨ j = 3 ∨ j = 4 ∨ j = 5 ∨ j = 6 ∨ j = 7 := by omega
  rcases this with rfl | rfl | rfl | rfl | rfl | rfl | rfl | rfl <;> decide +kernel
theorem odd32 (t i : Nat) (h : i ≤ 32) : Int.tmod ((t : Int).fdiv (2 ^ min (i : Int).toNat IntKind.u32.bits)) 2 = 1 ↔ t.testBit i = true := by
  rw [show min (i : Int).toNat IntKind.u32.bits = i from by simp [IntKind.bits]; omega, Int.fdiv_eq_ediv_of_nonneg _ (by exact_mod_cast Nat.zero_le _), Nat.testBit_eq_decide_div_mod_eq, decide_eq_true_iff]
  rw [show (t : Int) / 2 ^ i = ((t / 2 ^ i : Nat) : Int) from by push_cast; rfl]
  generalize t / 2 ^ i = y
  rw [Int.tmod_eq_emod_of_nonneg (by omega)]
  omega

theorem WireBurst_ok (w : World) (k : BitVec 8) (ws : List (BitVec 64)) (hw : ws.length = 7) (f : Int) (t : Nat) (ht : t < 2 ^ 32) :
    Does Try.prog 7 [.agg ⟨fcells k ws⟩, .int .i64 f, .int .u32 t] [] w (fun v hs => v = .bool true ∧ hs = []) := by
  refine Does.pure (Does.of (n := 66) Try.func7 rfl rfl rfl rfl ?_)
  refine .seq ((.region (.nw (.box rfl rfl) fun b3 => (.v (.assign rfl) (.nil ?_)))))
  refine .seq (.seq ((.region (.ef (.call0 rfl rfl fun w s => lives_ok w) ?_))))
  rintro _ _ ⟨_, ⟨rfl, rfl⟩, rfl⟩
  refine .v (.not rfl) (.v (.move rfl) ?_)
  refine .v (.move rfl) (.v (.eqi rfl rfl) (.v (.pick rfl rfl rfl) (.v (.move rfl) (.split (t := 19) rfl (fun g1 => ?_) (fun g1 => ?_)))))
  · refine .sk (.sk (.v (.pick rfl rfl rfl) (.v (.move rfl) (.sk (.sk (.v (.pick rfl rfl rfl) (.nil ?_)))))))
    refine .cond_true rfl ?_
    refine .seq ((.region (.ef (.call0 rfl rfl fun w s => lives_ok w) ?_)))
    rintro _ _ ⟨_, ⟨rfl, rfl⟩, rfl⟩
    refine .v (.assign rfl) (.nil ?_)
    exact .ret ⟨[_], ⟨rfl, trivial⟩, rfl⟩
  refine .v (.move rfl) (.v (.lss rfl rfl) (.v (.pick rfl rfl rfl) (.v (.move rfl) (.split (t := 23) rfl (fun g2 => ?_) (fun g2 => ?_)))))
  · refine .sk (.sk (.v (.pick rfl rfl rfl) (.nil ?_)))
    refine .cond_true rfl ?_
    refine .seq ((.region (.ef (.call0 rfl rfl fun w s => lives_ok w) ?_)))
    rintro _ _ ⟨_, ⟨rfl, rfl⟩, rfl⟩
    refine .v (.assign rfl) (.nil ?_)
    exact .ret ⟨[_], ⟨rfl, trivial⟩, rfl⟩
  refine .v (.move rfl) (.v (.geq rfl rfl) (.v (.pick rfl rfl rfl) (.nil ?_)))
  refine .cond_dec rfl (fun g3 => ?_) (fun g3 => .skip ?_)
  · refine .seq ((.region (.ef (.call0 rfl rfl fun w s => lives_ok w) ?_)))
    rintro _ _ ⟨_, ⟨rfl, rfl⟩, rfl⟩
    refine .v (.assign rfl) (.nil ?_)
    exact .ret ⟨[_], ⟨rfl, trivial⟩, rfl⟩
  obtain ⟨f, rfl⟩ : ∃ g : Nat, f = g := ⟨f.toNat, by omega⟩
  have hf : f < 512 := by omega
  have hp := packed_length (k := k) hw
  refine .seq ((.region (.v (.loadA rfl .whole (fcells_length hw)) (.ef (.call0 rfl rfl fun w s => Pack_ok w k ws hw) ?_))))
  rintro _ _ ⟨_, ⟨rfl, rfl⟩, rfl⟩
  refine .nw .alloc fun b7 => (.st (.storeW rfl rfl (by rw [byts_length, hp]) (byts_ones _) (by simp)) (.nil ?_))
  refine .seq ((.region (.v (.assign rfl) (.nil ?_))))
  refine .seq (.seq ((.region (.v (.assign rfl) (.nil ?_)))))
  refine .block (.loop (X := Nat) (fun i => [(1, .int .i64 f), (2, .int .u32 t), (7, .pointer (some ⟨b7, 0, none⟩)), (8, .bool (decide (tb f t i ≠ 0))), (9, .int .i64 i)])
    (fun i => [(b7, .cells (byts (fl (packed k ws) f t i)) 32)]) (fun i => i ≤ 32) (fun i => 32 - i) 0 (by omega)
    (.cons rfl (.cons rfl (.cons rfl (.cons (by rw [tb_zero]; rfl) (.cons rfl (.nil _)))))) (fun _ s => ?_) ?_)
  · rw [fl_zero hp (tb_zero f t)]; exact s.sub (by simp)
  intro i hi
  refine .seq (.seq ((.region (.v (.move rfl) (.v (.lss rfl rfl) (.nil ?_))))))
  refine .cond_dec rfl (fun h2 => .skip ?_) (fun h2 => .exit ?_)
  · refine .seq (.block (.seq ((.region (.v (.move rfl) (.v (.move rfl) (.v (.addi rfl rfl (by omega)) (.v (.assign rfl) (.nil ?_)))))))))
    refine .seq ((.region (.v (.move rfl) (.v (.move rfl) (.v (.shr rfl rfl (by omega)) (.v (.rem rfl rfl (by decide)) (.v (.eqi rfl rfl) (.v (.move rfl) (.split (t := 42) rfl (fun h3 => ?_) (fun h3 => ?_))))))))))
    · have hbit := (odd32 t i (by omega)).1 h3
      refine .v (.move rfl) (.v (.lss rfl rfl) (.v (.pick rfl rfl rfl) (.nil ?_)))
      refine .cond_dec rfl (fun h4 => ?_) (fun h4 => .skip ?_)
      · have hk : f + i < 512 := by omega
        have hq : IntKind.i64.wrap (Int.tdiv ((f : Int) + (i : Int)) 8) = (((f + i) / 8 : Nat) : Int) := by
          rw [Int.tdiv_eq_ediv_of_nonneg (by omega), wrap_i64 (by omega)]; omega
        have hr : Int.tmod ((f : Int) + (i : Int)) 8 = (((f + i) % 8 : Nat) : Int) := by
          rw [Int.tmod_eq_emod_of_nonneg (by omega)]; omega
        have hlen : (f + i) / 8 < (fl (packed k ws) f t i).length := by rw [fl_length]; omega
        have hget := List.getElem?_eq_getElem hlen
        refine .seq ((.drawT 11 (by kernel_rfl) (by kernel_rfl) (.v (.move rfl) (.v (.quo rfl rfl (by decide)) (.v (.move rfl) (.v (.quo rfl rfl (by decide)) (.v (.indexAddrA1 rfl rfl (by omega) (by omega)) (.v (.load rfl (.one (hb := ⟨by simp⟩) (l := byts (fl (packed k ws) f t i)) (T := 32) (v := .int .u8 ((fl (packed k ws) f t i)[(f + i) / 8]).toNat) ?_)) (.v (.move rfl) (.v (.rem rfl rfl (by decide)) (.v (.shl rfl rfl (by omega)) (.v (.xor rfl rfl) (.v (.indexAddrA1 rfl rfl (by omega) (by omega)) (.nil ?_)))))))))))))) 
        · rw [hq, Nat.zero_add, Int.toNat_natCast]; exact byts_get hlen
        refine .st (.store rfl rfl rfl (by rw [byts_length, fl_length]; omega)) (.nil ?_)
        refine .region (.v (.assign rfl) (.nil ?_))
        refine .region (.v (.move rfl) (.v (.addi rfl rfl (by omega)) (.v (.assign rfl) (.nil ?_))))
        have hset := fl_set hbit hk hget
        have hne : tb f t (i + 1) ≠ 0 := by
          intro h0
          have := tb_bit f t (i + 1) (f + i)
          rw [h0] at this
          simp [hbit, show i < 512 - f from by omega] at this
        refine ⟨i + 1, by omega, by omega, .cons rfl (.cons rfl (.cons rfl (.cons (by rw [decide_eq_true hne]; rfl) (.cons rfl (.nil _))))), fun w s => ?_⟩
        rw [hq, hr, shl8 _ (Nat.mod_lt _ (by decide)), xor8, Nat.zero_add, Int.toNat_natCast] at s
        rw [← hset]
        have e : byts ((fl (packed k ws) f t i).set ((f + i) / 8) ((fl (packed k ws) f t i)[(f + i) / 8] ^^^ (1#8 <<< ((f + i) % 8)))) = (byts (fl (packed k ws) f t i)).set ((f + i) / 8) (.int .u8 ((fl (packed k ws) f t i)[(f + i) / 8] ^^^ (1#8 <<< ((f + i) % 8))).toNat) := by
          simp [byts, List.map_set]
        rw [e]
        exact s
      · have hno := tb_no (f := f) (t := t) (i := i) (fun h => h4 (by omega))
        refine .region (.v (.move rfl) (.v (.addi rfl rfl (by omega)) (.v (.assign rfl) (.nil ?_))))
        exact ⟨i + 1, by omega, by omega, .cons rfl (.cons rfl (.cons rfl (.cons (by rw [hno]; rfl) (.cons rfl (.nil _))))), fun w s => by rw [fl_same hno]; exact s⟩
    · have hno := tb_no (f := f) (t := t) (i := i) (fun h => h3 ((odd32 t i (by omega)).2 h.1))
      refine .sk (.sk (.v (.pick rfl rfl rfl) (.nil ?_)))
      refine .cond_false rfl (.skip ?_)
      refine .region (.v (.move rfl) (.v (.addi rfl rfl (by omega)) (.v (.assign rfl) (.nil ?_))))
      exact ⟨i + 1, by omega, by omega, .cons rfl (.cons rfl (.cons rfl (.cons (by rw [hno]; rfl) (.cons rfl (.nil _))))), fun w s => by rw [fl_same hno]; exact s⟩
  · obtain rfl : i = 32 := by omega
    have hU := unpk_ws (fl (packed k ws) f t 32)
    refine .seq ((.region (.v (.slArr rfl) (.ef (.call0 rfl rfl fun w s => Unpack_ok w _ _ 64 (fl (packed k ws) f t 32) (Rd.chunk s (by simp) fun j v hv => by rw [Nat.zero_add]; exact hv) (fl_length _ _ _ _).symm) ?_))))
    rintro _ _ ⟨_, ⟨rfl, rfl⟩, rfl⟩
    refine .v (.move rfl) (.v (.extract (vs := [.agg ⟨fcells (unpk (fl (packed k ws) f t 32)).1 (unpk (fl (packed k ws) f t 32)).2.1⟩, .int .i64 (unpk (fl (packed k ws) f t 32)).2.2]) rfl rfl) (.v (.extract (vs := [.agg ⟨fcells (unpk (fl (packed k ws) f t 32)).1 (unpk (fl (packed k ws) f t 32)).2.1⟩, .int .i64 (unpk (fl (packed k ws) f t 32)).2.2]) rfl rfl) (.nw .alloc fun b11 => (.st (.storeW rfl rfl (fcells_length hU) (fcells_ones _ _) rfl) (.v (.assign rfl) (.nil ?_))))))
    refine .seq ((.region (.v (.move rfl) (.v (.eqi rfl rfl) (.v (.move rfl) (.v (.neb rfl rfl) (.v (.assign rfl) (.nil ?_))))))))
    refine .ret ?_
    have hb := burst_found (k := k) hw f t hf
    refine ⟨[_], ⟨rfl, trivial⟩, ?_⟩
    simp only [tup]
    congr 1
    by_cases h0 : tb f t 32 = 0
    · simp [h0, hb.2 h0]
    · have : (unpk (fl (packed k ws) f t 32)).2.2 ≠ 0 := fun h => h0 (hb.1 h)
      simp [h0, this]
theorem WireBurst_walk (w : World) (cs : List Value) (h : okw [.i .u8, .i .u64, .i .u64, .i .u64, .i .u64, .i .u64, .i .u64, .i .u64] cs) (f t : Int) (ht : (Lit.int .u32 t).wf = true) :
    Does Try.prog 7 [.agg ⟨cs⟩, .int .i64 f, .int .u32 t] [] w (fun v hs => v = .bool true ∧ hs = []) := by
  obtain ⟨k, ws, hw, rfl⟩ := okw_frame h
  have : 0 ≤ t ∧ t ≤ 4294967295 := by simpa [Lit.wf, IntKind.min, IntKind.max, IntKind.signed, IntKind.bits] using ht
  obtain ⟨t, rfl⟩ : ∃ g : Nat, t = g := ⟨t.toNat, by omega⟩
  exact WireBurst_ok w k ws hw f t (by omega)
end Go.Proofs.Ytcgnbdgagkhehaa

/- VZF: loops and joins at which marks of loops over functions have come up. -/
namespace Go
namespace V
open Go.RowKit
set_option linter.unusedVariables false
set_option linter.unusedSimpArgs false
section
variable {ro : Option Nat} {P : Program} {n : Nat} {w0 : World} {own : List Nat} {ds : List Deferred} {e : Env} {hs : Hp} {Q : PostD}
theorem JF.loopD {X : Type} {c : Code} (I : X → Env) (H : X → Hp) (D : X → List Deferred) (inv : X → Prop) (μ : X → Nat) (x0 : X) (h0 : inv x0) (hD : D x0 = ds) (hE : Sub (I x0) e) (hH : ∀ w, Sat w0 own hs w → Sat w0 own (H x0) w)
    (round : ∀ x, inv x → JF ro P n w0 own c (D x) (I x) (H x) (thenD (fun ds' e' hs' => ∃ x', ds' = D x' ∧ inv x' ∧ μ x' < μ x ∧ Sub (I x') e' ∧ ∀ w, Sat w0 own hs' w → Sat w0 own (H x') w) Q)) :
    JF ro P n w0 own (.loop c) ds e hs Q := by
  intro a w hr hs
  refine wpIn_loop (fun a w => ∃ m y, inv y ∧ μ y = m ∧ RepD (D y) n a (I y) ∧ Sat w0 own (H y) w) (fun a w => leastOf (fun m => ∃ y, inv y ∧ μ y = m ∧ RepD (D y) n a (I y) ∧ Sat w0 own (H y) w)) ⟨_, x0, h0, rfl, hD ▸ hr.sub hE, hH w hs⟩ ?_
  intro a w hI
  obtain ⟨y, hy, hm, hr, hs⟩ := (leastOf_spec hI).1
  rw [← hm]
  refine wpIn_mono (round y hy a w hr hs) ?_
  rintro x a' w' ⟨ds', e', hs', h1, h2, h3⟩
  cases x with
  | normal =>
    obtain ⟨y', rfl, i1, i2, i3, i4⟩ := h3
    have hI' : ∃ m z, inv z ∧ μ z = m ∧ RepD (D z) n a' (I z) ∧ Sat w0 own (H z) w' := ⟨_, y', i1, rfl, h1.sub i3, i4 w' h2⟩
    exact ⟨hI', Nat.lt_of_le_of_lt ((leastOf_spec hI').2 _ ⟨y', i1, rfl, h1.sub i3, i4 w' h2⟩) i2⟩
  | _ => exact ⟨ds', e', hs', h1, h2, h3⟩
theorem JF.midD {x y : Code} {X : Type} (env : X → Env) (heap : X → Hp) (D : X → List Deferred) (I : X → Prop)
    (hx : JF ro P n w0 own x ds e hs (thenD (fun ds' e' hs' => ∃ z, ds' = D z ∧ I z ∧ Sub (env z) e' ∧ ∀ w, Sat w0 own hs' w → Sat w0 own (heap z) w) Q)) (hy : ∀ z, I z → JF ro P n w0 own y (D z) (env z) (heap z) Q) : JF ro P n w0 own (.seq x y) ds e hs Q := by
  refine .seq (hx.mono ?_)
  intro x ds' e' hs' h
  cases x with
  | normal =>
    obtain ⟨z, rfl, h1, h2, h3⟩ := h
    exact .sub h2 (.heap h3 (hy z h1))
  | _ => exact h
end
end V
end Go

/- WireAlls: the walk. -/
namespace Go.Proofs.Ytcgnbdgagkhehaa
open Go.V
set_option linter.unusedVariables false
set_option linter.unusedSimpArgs false

/-- the first k bytes turned -/
def tw (t : BitVec 8) (xs : List (BitVec 8)) (k : Nat) : List (BitVec 8) := (xs.take k).map (· ^^^ t) ++ xs.drop k
theorem tw_len (t : BitVec 8) (xs : List (BitVec 8)) (k : Nat) : (tw t xs k).length = xs.length := by simp [tw]; omega
theorem tw_zero (t : BitVec 8) (xs : List (BitVec 8)) : tw t xs 0 = xs := by simp [tw]
theorem tw_get (t : BitVec 8) {xs : List (BitVec 8)} {k : Nat} (h : k < xs.length) : (tw t xs k)[k]? = some xs[k] := by
  unfold tw
  rw [List.getElem?_append_right (by simp; omega)]
  simp [show min k xs.length = k from by omega, h]
theorem tw_set (t : BitVec 8) {xs : List (BitVec 8)} {k : Nat} (h : k < xs.length) : (tw t xs k).set k (xs[k] ^^^ t) = tw t xs (k + 1) := by
  unfold tw
  have e1 : ((xs.take k).map (· ^^^ t)).length = k := by simp; omega
  rw [List.set_append_right _ _ (by omega), e1, Nat.sub_self, List.drop_eq_getElem_cons h, List.set_cons_zero, List.take_add_one, List.getElem?_eq_getElem h]
  simp only [Option.toList, List.map_append, List.map_cons, List.map_nil, List.append_assoc, List.cons_append, List.nil_append]
theorem byts_set (xs : List (BitVec 8)) (k : Nat) (x : BitVec 8) : (byts xs).set k (.int .u8 x.toNat) = byts (xs.set k x) := by simp [byts, List.map_set]
/-- the parts of a frame that was told -/
theorem rowFrame {w0 : World} {own : List Nat} {hs : Hp} {b o : Nat} {zs : List (BitVec 8)} (h : At w0 own hs ⟨b, o, none⟩ (tcells zs)) : At w0 own hs ⟨b, o + 0, none⟩ (fcells (unpk zs).1 (unpk zs).2.1) :=
  at_sub (i := 0) h fun j u hj => by
    have hl := (List.getElem?_eq_some_iff.1 hj).1
    rw [Nat.zero_add, tcells, List.getElem?_append_left hl]; exact hj
theorem rowE {w0 : World} {own : List Nat} {hs : Hp} {b o : Nat} {zs : List (BitVec 8)} (h : At w0 own hs ⟨b, o, none⟩ (tcells zs)) : At w0 own hs ⟨b, o + 8, none⟩ [.int .i64 (unpk zs).2.2] :=
  at_sub (i := 8) h fun j u hj => by
    have hl := fcells_length (k := (unpk zs).1) (unpk_ws zs)
    rw [tcells, List.getElem?_append_right (by omega), hl, Nat.add_sub_cancel_left]; exact hj
def zsAt (t : BitVec 8) (xs : List (BitVec 8)) (r : Nat) : List (BitVec 8) := tw t xs (if r ≤ 2 then 0 else xs.length)
theorem zsAt_len (t : BitVec 8) (xs : List (BitVec 8)) (r : Nat) : (zsAt t xs r).length = xs.length := tw_len ..
structure LS where
  r : Nat
  b10 : Nat
  lI : List Value
  hN : Hp
  Ds : List Nat
theorem refAll_at (w : World) (A : Option Addr) (len cap : Nat) (ys : List (BitVec 8)) (hl : len = ys.length) (hb : ys.length ≤ 100000000000) (hc : len ≤ cap) (hx : Rd w [] A (byts ys)) :
    Does Try.prog 23 [.slice A len cap] [] w (fun v hs => OwnS 47 9 v (nch ys) (trows ys (nch ys)) hs) := by subst hl; exact refAll_ok w A cap ys hb hc hx
structure TS where
  i : Nat
  lI : List Value
  hN : Hp
structure MS where
  lI : List Value
  hN : Hp
set_option maxRecDepth 20000 in
set_option maxHeartbeats 2000000 in
theorem WireAlls_ok (w : World) (A : Option Addr) (len cap : Nat) (xs : List (BitVec 8)) (stop : Int) (tu : BitVec 8) (hx : Rd w [] A (byts xs)) (hl : len = xs.length) (hb : len ≤ 1048576) :
    Does Try.prog 8 [.slice A len cap, .int .i64 stop, .int .u8 tu.toNat] [] w (fun v hs => v = .bool true) := by
  refine Does.ofF (n := 110) Try.func8 rfl rfl rfl rfl ?_
  refine .seq ((.region (.nw (.box rfl rfl) fun b4 => (.nw .alloc fun b6 => (.nil ?_)))))
  refine .seq ((.region (.v (.move rfl) (.ef (.call0 rfl rfl fun w' s => hand_ok w' A len cap xs (hx.keep0 s) hl (by omega)) ?_))))
  rintro _ _ ⟨hI, oI, rfl⟩
  obtain ⟨AI, cI, rfl⟩ := OwnS.slice oI
  obtain ⟨bI, pI, lI, rfl, -, rfl, kI1, kI2, kI3⟩ := OwnS.some_ oI (by omega)
  refine .v (.assign rfl) (.nil ?_)
  refine .seq ((.region (.v (.move rfl) (.v (.move rfl) (.v (.len rfl) (.v (.slHi rfl rfl (by omega) (by omega)) (.ef (.call0 rfl rfl fun w' s => All_ok w' _ _ _) ?_)))))))
  rintro _ _ ⟨_, ⟨bb, rfl, rfl⟩, rfl⟩
  rw [Int.toNat_natCast]
  refine .v (.assign rfl) (.nil ?_)
  refine .seq (.seq ((.region (.v (.move rfl) (.v (.eql_func_nil rfl rfl) (.nil ?_))))))
  refine .cond rfl (fun h1 => absurd h1 (by simp)) (fun _ => .skip ?_)
  refine .seq ((.region (.ef (.buildSlice (out := []) rfl (by decide) rfl rfl) ?_)))
  rintro _ _ ⟨b25, rfl, rfl⟩
  refine .v (.move rfl) (.appT (c := 0) (k := len) (vs := []) (news := byts xs) (h := [(b25, .cells [] 5)]) rfl rfl ⟨rfl, .inr ⟨b25, 0, 0, [], rfl, rfl, by omega, by simp, by simp⟩⟩ (fun w' s => (hx.keep0 s).src (by rw [byts_length]; omega) (by omega)) (by rw [byts_length]; omega) (byts_ones _) (by omega) (by omega) ?_)
  intro vN hN oN
  rw [Nat.zero_add, List.nil_append] at oN
  obtain ⟨AN, cN, rfl⟩ := OwnS.slice oN
  refine .v (.assign rfl) (.nil ?_)
  refine .seq (.seq ((.region (.nw .alloc fun b10 => (.st (.storeL (l' := [.int .i64 0]) rfl rfl rfl) (.nil ?_))))))
  refine .block (.loopD (X := LS) (fun x => [(2, .int .u8 tu.toNat), (4, .pointer (some ⟨b4, 0, none⟩)), (6, .pointer (some ⟨b6, 0, none⟩)), (7, .slice (some ⟨bI, pI, none⟩) (len + 5) cI), (8, .func (.func 32) #[] #[.pointer (some ⟨bb, 0, none⟩)]), (9, .slice AN len cN), (10, .pointer (some ⟨x.b10, 0, none⟩))])
    (fun x => (x.b10, .cells [.int .i64 x.r] 3) :: (x.hN ++ ([(bb, .cells [.slice (some ⟨bI, pI, none⟩) len cI] 22), (bI, .cells x.lI 5), (b6, .cells [.bool false] 4), (b4, .cells [.int .i64 stop] 3)] ++ x.Ds.map fun D => (D, dfr))))
    (fun x => x.Ds.map V.mark) (fun x => x.r ≤ 3 ∧ OwnS 5 1 (.slice (some ⟨bI, pI, none⟩) (len + 5) cI) (len + 5) (byts (zsAt tu xs x.r ++ marks)) [(bI, .cells x.lI 5)] ∧ OwnS 5 1 (.slice AN len cN) len (byts (zsAt tu xs x.r)) x.hN) (fun x => 3 - x.r) ⟨0, b10, lI, hN, []⟩
    ⟨Nat.zero_le _, by rw [zsAt, if_pos (Nat.zero_le _), tw_zero]; exact oI, by rw [zsAt, if_pos (Nat.zero_le _), tw_zero]; exact oN⟩ rfl (.cons rfl (.cons rfl (.cons rfl (.cons rfl (.cons rfl (.cons rfl (.cons rfl (.nil _)))))))) (fun _ s => by simpa using s) ?_)
  rintro ⟨r, b10, lI, hN, Ds⟩ ⟨hr, oI, oN⟩
  dsimp only at hr oI oN ⊢
  refine .seq (.seq ((.region (.v (.load (v := .int .i64 r) rfl (.one rfl)) (.v (.lss rfl rfl) (.nil ?_))))))
  refine .cond_dec rfl (fun h2 => .skip ?_) (fun h2 => .exit ?_)
  · refine .seq (.block ?_)
    refine .mid (X := MS) (fun x => [(2, .int .u8 tu.toNat), (4, .pointer (some ⟨b4, 0, none⟩)), (6, .pointer (some ⟨b6, 0, none⟩)), (7, .slice (some ⟨bI, pI, none⟩) (len + 5) cI), (8, .func (.func 32) #[] #[.pointer (some ⟨bb, 0, none⟩)]), (9, .slice AN len cN), (10, .pointer (some ⟨b10, 0, none⟩))])
      (fun x => (b10, .cells [.int .i64 r] 3) :: (x.hN ++ ([(bb, .cells [.slice (some ⟨bI, pI, none⟩) len cI] 22), (bI, .cells x.lI 5), (b6, .cells [.bool false] 4), (b4, .cells [.int .i64 stop] 3)] ++ Ds.map fun D => (D, dfr))))
      (fun x => OwnS 5 1 (.slice (some ⟨bI, pI, none⟩) (len + 5) cI) (len + 5) (byts (zsAt tu xs (r + 1) ++ marks)) [(bI, .cells x.lI 5)] ∧ OwnS 5 1 (.slice AN len cN) len (byts (zsAt tu xs (r + 1))) x.hN) (.seq ((.region (.v (.load (v := .int .i64 r) rfl (.one rfl)) (.v (.eqi rfl rfl) (.nil ?_)))))) ?_
    · refine .cond_dec rfl (fun h3 => ?_) (fun h3 => .skip ?_)
      · have hrr : r = 2 := by omega
        subst hrr
        have e0 : zsAt tu xs 2 = tw tu xs 0 := by unfold zsAt; rw [if_pos (by decide)]
        have e1 : zsAt tu xs (2 + 1) = tw tu xs len := by unfold zsAt; rw [if_neg (by decide), hl]
        rw [e0] at oI oN
        rw [e1]
        refine .seq ((.region (.v (.assign rfl) (.nil ?_))))
        refine .block (.loop (X := TS) (fun x => [(2, .int .u8 tu.toNat), (4, .pointer (some ⟨b4, 0, none⟩)), (6, .pointer (some ⟨b6, 0, none⟩)), (7, .slice (some ⟨bI, pI, none⟩) (len + 5) cI), (8, .func (.func 32) #[] #[.pointer (some ⟨bb, 0, none⟩)]), (9, .slice AN len cN), (10, .pointer (some ⟨b10, 0, none⟩)), (11, .int .i64 x.i)])
          (fun x => (b10, .cells [.int .i64 ((2 : Nat) : Int)] 3) :: (x.hN ++ ([(bb, .cells [.slice (some ⟨bI, pI, none⟩) len cI] 22), (bI, .cells x.lI 5), (b6, .cells [.bool false] 4), (b4, .cells [.int .i64 stop] 3)] ++ Ds.map fun D => (D, dfr)))) (fun x => x.i ≤ len ∧ OwnS 5 1 (.slice (some ⟨bI, pI, none⟩) (len + 5) cI) (len + 5) (byts (tw tu xs x.i ++ marks)) [(bI, .cells x.lI 5)] ∧ OwnS 5 1 (.slice AN len cN) len (byts (tw tu xs x.i)) x.hN) (fun x => len - x.i) ⟨0, lI, hN⟩
          ⟨Nat.zero_le _, oI, oN⟩ (.cons rfl (.cons rfl (.cons rfl (.cons rfl (.cons rfl (.cons rfl (.cons rfl (.cons rfl (.nil _))))))))) (fun _ s => s) ?_)
        clear oI oN
        rintro ⟨i, lI, hN⟩ ⟨hi, oI, oN⟩
        dsimp only at hi oI oN ⊢
        refine .seq (.seq ((.region (.v (.move rfl) (.v (.move rfl) (.v (.len rfl) (.v (.lss rfl rfl) (.nil ?_))))))))
        refine .cond_dec rfl (fun g => .skip ?_) (fun g => .exit ?_)
        · have hil : i < xs.length := by omega
          obtain ⟨bN, pN, lN, rfl, -, rfl, n1, n2, n3⟩ := OwnS.some_ oN (by omega)
          obtain ⟨bI', pI', lI', e2, -, e3, i1, i2, i3⟩ := OwnS.some_ oI (by omega)
          cases e2
          cases e3
          have hat : ∀ (x : BitVec 8) (ys : List (BitVec 8)) (l : List Value) (hs' : Hp), ys[i]? = some x → OwnS 5 1 (.slice (some ⟨bN, pN, none⟩) len cN) len (byts ys) [(bN, .cells l 5)] → [(bN, Ch.cells l 5)] ⊆ hs' → At w (bl []) hs' ⟨bN, pN + ((i : Nat) : Int).toNat, none⟩ [.int .u8 x.toNat] := fun x ys l hs' hxy o hs => by
            rw [Int.toNat_natCast]
            refine OwnS.atN o hs fun j v hv => ?_
            match j, hv with
            | 0, hv =>
              simp at hv; subst hv
              rw [byts, List.getElem?_map, Nat.add_zero, hxy]; rfl
          have hset : OwnS 5 1 (.slice (some ⟨bN, pN, none⟩) len cN) len (byts (tw tu xs (i + 1))) [(bN, .cells (lN.set (pN + ((i : Nat) : Int).toNat) (.int .u8 ((xs[i] ^^^ tu).toNat : Nat))) 5)] := by
            have := OwnS.setAt (i := i) (v := .int .u8 ((xs[i] ^^^ tu).toNat : Nat)) oN (by omega)
            rw [byts_set, tw_set tu hil] at this
            rw [Int.toNat_natCast]; exact this
          have hsetI : OwnS 5 1 (.slice (some ⟨bI, pI, none⟩) (len + 5) cI) (len + 5) (byts (tw tu xs (i + 1) ++ marks)) [(bI, .cells (lI.set (pI + ((i : Nat) : Int).toNat) (.int .u8 ((xs[i] ^^^ tu).toNat : Nat))) 5)] := by
            have := OwnS.setAt (i := i) (v := .int .u8 ((xs[i] ^^^ tu).toNat : Nat)) oI (by omega)
            rw [byts_set, List.set_append_left _ _ (by rw [tw_len]; omega), tw_set tu hil] at this
            rw [Int.toNat_natCast]; exact this
          have hx1 : (tw tu xs i)[i]? = some xs[i] := tw_get tu hil
          have hx2 : (tw tu xs (i + 1))[i]? = some (xs[i] ^^^ tu) := by rw [← tw_set tu hil, List.getElem?_set_self (by rw [tw_len]; exact hil)]
          refine .seq (.block (.seq ((.region (.v (.move rfl) (.v (.move rfl) (.v (.move rfl) (.v (.move rfl) (.v (.indexAddr1 rfl rfl (by omega) (by omega)) (.v (.load (v := .int .u8 (xs[i].toNat : Nat)) rfl (hat _ _ _ _ hx1 oN (fun y hy => by simp at hy ⊢; simp [hy]))) (.v (.move rfl) (.v (.xor rfl rfl) (.v (.indexAddr1 rfl rfl (by omega) (by omega)) ?_)))))))))))))
          rw [xor8]
          refine .st (.store rfl rfl rfl (by omega)) (.nil ?_)
          refine .region (.v (.move rfl) (.v (.move rfl) (.v (.move rfl) (.v (.move rfl) (.v (.indexAddr1 rfl rfl (by omega) (by omega)) (.v (.load (v := .int .u8 ((xs[i] ^^^ tu).toNat : Nat)) rfl (hat _ _ _ _ hx2 hset (fun y hy => by simp at hy ⊢; simp [hy]))) (.v (.indexAddr1 rfl rfl (by omega) (by omega)) (.st (.store rfl rfl rfl (by omega)) (.nil ?_)))))))))
          refine .region (.v (.move rfl) (.v (.addi rfl rfl (by omega)) (.v (.assign rfl) (.nil ?_))))
          exact ⟨rfl, ⟨i + 1, _, [_]⟩, ⟨by dsimp only; omega, hsetI, hset⟩, by dsimp only; omega, (.cons rfl (.cons rfl (.cons rfl (.cons rfl (.cons rfl (.cons rfl (.cons rfl (.cons rfl (.nil _))))))))), fun _ s => s⟩
        · have hie : i = len := by omega
          subst hie
          exact ⟨rfl, ⟨lI, hN⟩, ⟨oI, oN⟩, (.cons rfl (.cons rfl (.cons rfl (.cons rfl (.cons rfl (.cons rfl (.cons rfl (.nil _)))))))), fun _ s => s⟩
      · have e1 : zsAt tu xs (r + 1) = zsAt tu xs r := by unfold zsAt; rw [if_pos (by omega), if_pos (by omega)]
        exact ⟨rfl, ⟨lI, hN⟩, by rw [e1]; exact ⟨oI, oN⟩, .cons rfl (.cons rfl (.cons rfl (.cons rfl (.cons rfl (.cons rfl (.cons rfl (.nil _))))))), fun _ s => s⟩
    clear oI oN
    rintro ⟨lI, hN⟩ ⟨oI, oN⟩
    dsimp only at oI oN ⊢
    have hzl := zsAt_len tu xs (r + 1)
    obtain ⟨zs, hzs⟩ : ∃ zs, zs = zsAt tu xs (r + 1) := ⟨_, rfl⟩
    rw [← hzs] at oI oN hzl
    have hny : nch zs ≤ 1048576 := by have := nch_le zs; omega
    have hcN := (OwnS.cap_ oN).2
    refine .seq ((.region (.v (.move rfl) (.ef (.call0 rfl rfl fun w' s => refAll_at w' AN len cN zs (by omega) (by omega) hcN (OwnS.rd oN s (no := []) (fun y hy => by simp [hy]) (by simp))) ?_))))
    rintro _ _ ⟨hW, oW, rfl⟩
    obtain ⟨AW, cW, rfl⟩ := OwnS.slice oW
    refine .nw .alloc fun b12 => (.st (.storeL (l' := [.slice AW (nch zs) cW]) rfl rfl rfl) (.nil ?_))
    refine .seq ((.region (.nw .alloc fun b13 => (.st (.storeL (l' := [.int .i64 0]) rfl rfl rfl) (.nil ?_)))))
    refine .midD (X := Nat × Nat) (fun x => [(2, .int .u8 tu.toNat), (4, .pointer (some ⟨b4, 0, none⟩)), (6, .pointer (some ⟨b6, 0, none⟩)), (7, .slice (some ⟨bI, pI, none⟩) (len + 5) cI), (8, .func (.func 32) #[] #[.pointer (some ⟨bb, 0, none⟩)]), (9, .slice AN len cN), (10, .pointer (some ⟨b10, 0, none⟩)), (12, .pointer (some ⟨b12, 0, none⟩)), (13, .pointer (some ⟨b13, 0, none⟩))])
      (fun x => (x.1, dfr) :: (b13, .cells [.int .i64 x.2] 3) :: (b12, .cells [.slice AW (nch zs) cW] 44) :: (hW ++ ((b10, Ch.cells [.int .i64 r] 3) :: (hN ++ ([(bb, Ch.cells [.slice (some ⟨bI, pI, none⟩) len cI] 22), (bI, .cells lI 5), (b6, .cells [.bool false] 4), (b4, .cells [.int .i64 stop] 3)] ++ Ds.map fun D => (D, dfr))))))
      (fun x => V.mark x.1 :: Ds.map V.mark) (fun x => x.2 = nch zs ∨ ((r : Int) = 0 ∧ (x.2 : Int) = stop)) (.seq ((.region (.v (.move rfl) (.nil ?_))))) ?_
    · refine .block (.rangeFunc (frs zs) (fun i h => h = (b13, Ch.cells [.int .i64 i] 3) :: (b12, .cells [.slice AW (nch zs) cW] 44) :: (hW ++ ((b10, Ch.cells [.int .i64 r] 3) :: (hN ++ ([(bb, Ch.cells [.slice (some ⟨bI, pI, none⟩) len cI] 22), (bI, .cells lI 5), (b6, .cells [.bool false] 4), (b4, .cells [.int .i64 stop] 3)] ++ Ds.map fun D => (D, dfr)))))) (fun c h => c = .exit 4 ∧ ∃ i : Nat, ((r : Int) = 0 ∧ (i : Int) = stop) ∧ h = (b13, Ch.cells [.int .i64 i] 3) :: (b12, .cells [.slice AW (nch zs) cW] 44) :: (hW ++ ((b10, Ch.cells [.int .i64 r] 3) :: (hN ++ ([(bb, Ch.cells [.slice (some ⟨bI, pI, none⟩) len cI] 22), (bI, .cells lI 5), (b6, .cells [.bool false] 4), (b4, .cells [.int .i64 stop] 3)] ++ Ds.map fun D => (D, dfr)))))) rfl
        rfl rfl (fun x hx => by obtain ⟨i, hi, rfl⟩ := List.mem_iff_getElem.1 hx; rw [frs_get]; rfl) (fun p q W s => ?_) (fun l D i hi h W rc rc' hI sW => ?_) (fun D h hI => ?_) (fun D c h hI => ?_))
      · refine All_its W _ bb (some ⟨bI, pI, none⟩) cI zs (by omega) (by rw [hzl, ← hl]; simp) fun W2 s2 => ?_
        have s3 : Sat w (bl []) (p :: q :: (b13, Ch.cells [.int .i64 ((0 : Nat) : Int)] 3) :: (b12, .cells [.slice AW (nch zs) cW] 44) :: (hW ++ ((b10, Ch.cells [.int .i64 r] 3) :: (hN ++ ([(bb, Ch.cells [.slice (some ⟨bI, pI, none⟩) len cI] 22), (bI, .cells lI 5), (b6, .cells [.bool false] 4), (b4, .cells [.int .i64 stop] 3)] ++ Ds.map fun D => (D, dfr)))))) W2 := by have := Sat.call (pre := _) (fr := []) (by simpa using s) s2; rw [List.append_nil] at this; exact this
        have := (OwnS.rd oI s3 (no := []) (fun y hy => by simp at hy; simp [hy]) (by simp)).take len
        rw [bytsTk, List.take_append_of_le_length (by omega), List.take_of_length_le (by omega)] at this
        exact this
      · subst hI
        rw [frs_len] at hi
        rw [frs_get]
        obtain ⟨bW, pW, rfl, rW⟩ := toldRow W (bl ((l, rc) :: (D, dfr) :: (b13, Ch.cells [.int .i64 i] 3) :: (b12, .cells [.slice AW (nch zs) cW] 44) :: (hW ++ ((b10, Ch.cells [.int .i64 r] 3) :: (hN ++ ([(bb, Ch.cells [.slice (some ⟨bI, pI, none⟩) len cI] 22), (bI, .cells lI 5), (b6, .cells [.bool false] 4), (b4, .cells [.int .i64 stop] 3)] ++ Ds.map fun D => (D, dfr))))))) oW hi
        refine .seq ((.region (.nw .alloc fun b14 => (.st (.storeW (vs := fcells (unpk (chk zs i)).1 (unpk (chk zs i)).2.1) rfl rfl (fcells_length (unpk_ws _)) (fcells_ones _ _) rfl) (.nil ?_)))))
        refine .region (.v (.assign rfl) (.nil ?_))
        refine ⟨rfl, rfl, (b14, _) :: (b13, _) :: (b12, _) :: (hW ++ ((b10, Ch.cells [.int .i64 r] 3) :: (hN ++ ([(bb, Ch.cells [.slice (some ⟨bI, pI, none⟩) len cI] 22), (bI, .cells lI 5), (b6, .cells [.bool false] 4), (b4, .cells [.int .i64 stop] 3)] ++ Ds.map fun D => (D, dfr))))), fun _ s => s.perm ((List.Perm.swap _ _ _).trans ((List.Perm.swap _ _ _).cons _)), ?_⟩
        refine .block (.seq (.seq (.drawK _ (fun _ h => h) (by kernel_rfl) (by kernel_rfl) ?_)))
        refine .v (fun _ f => .load (v := .int .i64 i) rfl (.one (hb := .sub f) rfl)) (.v (fun _ f => .load (v := .slice (some ⟨bW, pW, none⟩) (nch zs) cW) rfl (.one (hb := .sub f) rfl)) (.v (fun _ f => .len rfl) (.v (fun _ f => .geq rfl rfl) (.v (fun _ f => .move rfl) (.or 65 72 7 7 rfl rfl (fun g1 => .v (fun _ f => .loadA (m := 8) rfl (.whole (hb := .sub f)) (fcells_length (unpk_ws _))) (.v (fun _ f => .load (v := .slice (some ⟨bW, pW, none⟩) (nch zs) cW) rfl (.one (hb := .sub f) rfl)) (.v (fun _ f => .load (v := .int .i64 i) rfl (.one (hb := .sub f) rfl)) (.v (fun _ f => .indexAddr rfl rfl (by omega) (by omega)) (.v (fun _ f => .fieldAddr rfl) (.v (fun hs' f => .loadA (m := 8) (vs := fcells (unpk (chk zs i)).1 (unpk (chk zs i)).2.1) rfl (rowFrame (rW hs' (fun y hy => f (by simp [hy])) _ (by omega))) (fcells_length (unpk_ws _))) (.v (fun _ f => .neA rfl rfl (fcells_oks (unpk_ws _)) (fcells_oks (unpk_ws _))) (.nil ⟨rfl, rfl, rfl, rfl⟩)))))))) (.v (fun _ f => .move rfl) (.or 74 81 7 7 rfl rfl (fun g2 => .v (fun _ f => .move rfl) (.v (fun _ f => .load (v := .slice (some ⟨bW, pW, none⟩) (nch zs) cW) rfl (.one (hb := .sub f) rfl)) (.v (fun _ f => .load (v := .int .i64 i) rfl (.one (hb := .sub f) rfl)) (.v (fun _ f => .indexAddr rfl rfl (by omega) (by omega)) (.v (fun _ f => .fieldAddr rfl) (.v (fun hs' f => .load (v := .int .i64 (unpk (chk zs i)).2.2) rfl (rowE (rW hs' (fun y hy => f (by simp [hy])) _ (by omega)))) (.v (fun _ f => .nei rfl rfl) (.nil ⟨rfl, rfl, rfl, rfl⟩)))))))) (.nil ?_))))))))
        refine .cond rfl (fun g => absurd g ?_) (fun _ => .skip ?_)
        · have hs : cellsEq (fcells (unpk (chk zs i)).1 (unpk (chk zs i)).2.1) (fcells (unpk (chk zs i)).1 (unpk (chk zs i)).2.1) = true := by rw [fcells_eq (unpk_ws _) (unpk_ws _)]; simp
          rw [hs]; simp; omega
        refine .seq ((.region (.v (.load (v := .int .i64 i) rfl (.one rfl)) (.v (.addi rfl rfl (by omega)) ?_))))
        rw [show ((i : Nat) : Int) + 1 = ((i + 1 : Nat) : Int) from by omega]
        refine .st (.storeL (l' := [.int .i64 ((i + 1 : Nat) : Int)]) rfl rfl rfl) (.nil ?_)
        refine .seq ((.region (.v (.load (v := .int .i64 r) rfl (.one rfl)) (.v (.eqi rfl rfl) (.v (.move rfl) (.and 87 90 3 3 rfl rfl (fun g => .v (.load (v := .int .i64 ((i + 1 : Nat) : Int)) rfl (.one rfl)) (.v (.load (v := .int .i64 stop) rfl (.one rfl)) (.v (.eqi rfl rfl) (.nil ⟨rfl, rfl, rfl, rfl⟩)))) (.nil ?_)))))))
        refine .cond rfl (fun g => .exit ?_) (fun g => .skip ?_)
        · simp only [Bool.and_eq_true, decide_eq_true_eq] at g
          exact ⟨_, fun _ s => s.sub (((List.sublist_cons_self _ _).cons_cons _).cons_cons _), rfl, i + 1, g, rfl⟩
        · exact ⟨_, fun _ s => s.sub (((List.sublist_cons_self _ _).cons_cons _).cons_cons _), rfl⟩
      · subst hI
        rw [frs_len]
        exact ⟨(D, nch zs), rfl, .inl rfl, (.cons rfl (.cons rfl (.cons rfl (.cons rfl (.cons rfl (.cons rfl (.cons rfl (.cons rfl (.cons rfl (.nil _)))))))))), fun _ s => s⟩
      · obtain ⟨rfl, i, hcond, rfl⟩ := hI
        exact .exit ⟨(D, i), rfl, .inr hcond, (.cons rfl (.cons rfl (.cons rfl (.cons rfl (.cons rfl (.cons rfl (.cons rfl (.cons rfl (.cons rfl (.nil _)))))))))), fun _ s => s⟩
    · rintro ⟨D, i⟩ hcond
      dsimp only at hcond ⊢
      refine .seq ((.region (.v (.load (v := .int .i64 i) rfl (.one rfl)) (.v (.load (v := .slice AW (nch zs) cW) rfl (.one rfl)) (.v (.len rfl) (.v (.nei rfl rfl) (.v (.move rfl) (.and (b2 := !(decide ((r : Int) = 0) && decide ((i : Int) = stop))) 96 104 8 5 rfl rfl (fun g1 => ?_) (.nil ?_)))))))))
      · refine .v (.load (v := .int .i64 r) rfl (.one rfl)) (.v (.eqi rfl rfl) (.v (.move rfl) (.and (b2 := decide ((i : Int) = stop)) 99 102 3 3 rfl rfl (fun g2 => ?_) ?_)))
        · exact .v (.load (v := .int .i64 i) rfl (.one rfl)) (.v (.load (v := .int .i64 stop) rfl (.one rfl)) (.v (.eqi rfl rfl) (.nil ⟨rfl, rfl, rfl, rfl⟩)))
        · exact .v (.not rfl) (.nil ⟨rfl, rfl, rfl, rfl⟩)
      refine .cond rfl (fun g => absurd g ?_) (fun _ => .skip ?_)
      · rcases hcond with h | ⟨h1, h2⟩
        · subst h; simp
        · simp [h1, h2]
      refine .seq (.seq ((.region (.v (.load (v := .int .i64 r) rfl (.one rfl)) (.nil ?_)))))
      refine .region (.nw .alloc fun b10' => (.st (.storeL (l' := [.int .i64 r]) rfl rfl rfl) (.nil ?_)))
      refine .region (.v (.load (v := .int .i64 r) rfl (.one rfl)) (.v (.addi rfl rfl (by omega)) ?_))
      rw [show ((r : Nat) : Int) + 1 = ((r + 1 : Nat) : Int) from by omega]
      refine .st (.storeL (l' := [.int .i64 ((r + 1 : Nat) : Int)]) rfl rfl rfl) (.nil ?_)
      rw [hzs] at oI oN
      exact ⟨⟨r + 1, b10', lI, hN, D :: Ds⟩, rfl, ⟨by dsimp only; omega, oI, oN⟩, by dsimp only; omega, (.cons rfl (.cons rfl (.cons rfl (.cons rfl (.cons rfl (.cons rfl (.cons rfl (.nil _)))))))), fun _ s => (show Sat _ _ ((b10', Ch.cells [.int .i64 ((r + 1 : Nat) : Int)] 3) :: (hN ++ ([(bb, Ch.cells [.slice (some ⟨bI, pI, none⟩) len cI] 22), (bI, .cells lI 5), (b6, .cells [.bool false] 4), (b4, .cells [.int .i64 stop] 3)] ++ ((D, dfr) :: Ds.map fun D => (D, dfr))))) _ from s.take)⟩
  · have hr3 : r = 3 := by omega
    subst hr3
    obtain ⟨bI', pI', lI', e2, -, e3, i1, i2, i3⟩ := OwnS.some_ oI (by omega)
    cases e2
    cases e3
    have hzl := zsAt_len tu xs 3
    have hfr : (bl ((b10, Ch.cells [.int .i64 ((3 : Nat) : Int)] 3) :: (hN ++ ([(bb, Ch.cells [.slice (some ⟨bI, pI, none⟩) len cI] 22), (bI, .cells lI 5), (b6, .cells [.bool false] 4), (b4, .cells [.int .i64 stop] 3)] ++ Ds.map fun D => (D, dfr))))).Nodup → ∀ b ∈ bl hN, b ∉ [bI] := fun hnd b hb he => by
      simp only [List.mem_singleton] at he
      subst he
      simp only [bl, List.map_cons, List.map_append, List.nodup_cons, List.nodup_append] at hnd
      exact hnd.2.2.2 _ hb _ (by simp) rfl
    refine .seq ((.region (.v (.move rfl) (.v (.move rfl) (.ef (.callT [(bI, .cells lI 5)] rfl rfl fun w' s => left_ok w' bI pI cI len cN AN lI (zsAt tu xs 3 ++ marks) (zsAt tu xs 3) 5 (len + 5) (by simp [marks]; omega) (by rw [Nat.mul_one] at i3; exact i3) (by omega) (by omega) (OwnS.rd oN s (no := [bI]) (fun y hy => by simp [hy]) (hfr s.nd)) (by omega) (by omega) (by omega)) ?_)))))
    rintro _ _ ⟨_, ⟨rfl, rfl⟩, rfl⟩
    rw [decide_eq_true rfl]
    refine .st (.storeL (l' := [.bool true]) rfl rfl rfl) (.nil ?_)
    refine .ret ?_
    exact ⟨.inr rfl, Ds, [(b6, .cells [.bool true] 4)], [.bool true], rfl, fun _ s => s.take, ⟨⟨_, rfl, .inl ⟨inferInstance, .whole⟩⟩, trivial⟩, rfl⟩
theorem WireAlls_walk (w : World) (A : Option Addr) (len cap : Nat) (xs : List (BitVec 8)) (stop x2 : Int) (h2 : (Lit.int .u8 x2).wf = true) (hx : Rd w [] A (byts xs)) (hl : len = xs.length) (hb : len ≤ 1048576) :
    Does Try.prog 8 [.slice A len cap, .int .i64 stop, .int .u8 x2] [] w (fun v hs => v = .bool true ∧ hs = []) := by
  have := wf_u8 h2
  have e : x2 = ((BitVec.ofNat 8 x2.toNat).toNat : Int) := by simp; omega
  rw [e]
  exact Does.pure (WireAlls_ok w A len cap xs stop _ hx hl hb)
end Go.Proofs.Ytcgnbdgagkhehaa

/- wire.Reader: what its methods do. -/
namespace Go.Proofs.Ytcgnbdgagkhehaa
open Go.V
set_option linter.unusedVariables false
set_option linter.unusedSimpArgs false

/-- an own slice of these bytes -/
abbrev Bs (v : Value) (xs : List (BitVec 8)) (h : Hp) : Prop := OwnS 5 1 v xs.length (byts xs) h
theorem Bs.nil : Bs (.slice none 0 0) [] [] := OwnS.nil 5 1
theorem Bs.sl {v : Value} {xs : List (BitVec 8)} {h : Hp} (k : Bs v xs h) : ∃ A c, v = .slice A xs.length c ∧ xs.length ≤ c := by
  obtain ⟨A, c, rfl⟩ := k.slice
  exact ⟨A, c, rfl, k.cap_.2⟩

theorem NewReader_ok (w : World) : Does Try.prog 25 [] [] w (fun v hs => ∃ b, v = .pointer (some ⟨b, 0, none⟩) ∧ hs = [(b, .cells [.slice none 0 0] 77)]) := by
  refine Does.of (n := 3) Try.func25 rfl rfl rfl rfl ?_
  refine .seq ((.region (.v (.assign rfl) (.nil ?_))))
  refine .seq ((.region (.v (.build (out := [.slice none 0 0]) rfl rfl) (.nw (.box rfl rfl) fun b2 => (.v (.assign rfl) (.nil ?_))))))
  exact .ret ⟨[_], ⟨rfl, trivial⟩, b2, rfl, rfl⟩
theorem Left_ok (w : World) (br : Nat) (v : Value) (n : Nat) (vs : List Value) (h : Hp) (k : OwnS 5 1 v n vs h) : Does Try.prog 27 [.pointer (some ⟨br, 0, none⟩)] [(br, .cells [v] 77)] w (fun u hs => u = .int .i64 n ∧ hs = [(br, .cells [v] 77)]) := by
  obtain ⟨A, c, rfl⟩ := k.slice
  refine Does.of (n := 8) Try.func27 rfl rfl rfl rfl ?_
  refine .seq ((.region (.v (.assign rfl) (.nil ?_))))
  refine .seq ((.region (.v (.move rfl) (.v (.nilCheck rfl) (.v (.fieldAddr rfl) (.v (.load rfl (.one rfl)) (.v (.len rfl) (.v (.assign rfl) (.nil ?_)))))))))
  exact .ret ⟨[_], ⟨rfl, trivial⟩, rfl, rfl⟩
theorem Feed_ok (w : World) (br : Nat) (v : Value) (xs ys : List (BitVec 8)) (h : Hp) (k : Bs v xs h) (A : Option Addr) (c : Nat) (hy : Rd w (br :: bl h) A (byts ys)) (hb : xs.length + ys.length ≤ 140737488355000) :
    Does Try.prog 28 [.pointer (some ⟨br, 0, none⟩), .slice A ys.length c] ((br, .cells [v] 77) :: h) w (fun _ hs => ∃ v' h', hs = h' ++ [(br, .cells [v'] 77)] ∧ Bs v' (xs ++ ys) h') := by
  refine Does.of (n := 13) Try.func28 rfl rfl rfl rfl ?_
  refine .region (.v (.move rfl) (.v (.move rfl) (.v (.nilCheck rfl) (.v (.fieldAddr rfl) (.v (.load rfl (.one rfl)) (.v (.move rfl) (.ef (.append (c := xs.length) (k := ys.length) (vs := byts xs) (news := byts ys) (h := h) (fr := [(br, .cells [v] 77)]) rfl rfl k (List.perm_append_singleton _ _).symm (fun w' s => ?_) (by rw [byts_length]; omega) (byts_ones _) (by omega) (by omega)) ?_)))))))
  · exact (hy.keep (no := []) s (by simp)).src (by rw [byts_length]; omega) (by omega)
  rintro v' _ ⟨h', ho', rfl⟩
  refine .v (.nilCheck rfl) (.v (.fieldAddr rfl) (.st (.store rfl rfl ?_ (by simp)) (.nil ?_)))
  · obtain ⟨_, _, rfl⟩ := ho'.slice; rfl
  refine ⟨[], trivial, v', h', rfl, ?_⟩
  rw [← byts_append] at ho'
  unfold Bs
  rw [List.length_append]
  exact ho'
theorem Close_ok (w : World) (br : Nat) (v : Value) (xs : List (BitVec 8)) (h : Hp) (k : Bs v xs h) :
    Does Try.prog 30 [.pointer (some ⟨br, 0, none⟩)] [(br, .cells [v] 77)] w (fun u hs => u = .int .i64 (if 0 < xs.length then 20 else 0) ∧ hs = [(br, .cells [.slice none 0 0] 77)]) := by
  obtain ⟨A, c, rfl, _⟩ := k.sl
  refine Does.of (n := 14) Try.func30 rfl rfl rfl rfl ?_
  refine .seq ((.region (.v (.assign rfl) (.nil ?_))))
  refine .seq ((.region (.v (.move rfl) (.v (.nilCheck rfl) (.v (.fieldAddr rfl) (.v (.load rfl (.one rfl)) (.v (.len rfl) (.v (.assign rfl) (.nil ?_)))))))))
  refine .seq ((.region (.v (.move rfl) (.v (.nilCheck rfl) (.v (.fieldAddr rfl) (.st (.store rfl rfl rfl (by simp)) (.nil ?_)))))))
  refine .seq (.seq ((.region (.v (.move rfl) (.v (.gtr rfl rfl) (.nil ?_))))))
  refine .cond_dec rfl (fun h1 => ?_) (fun h1 => .skip ?_)
  · refine .seq ((.region (.v (.assign rfl) (.nil ?_))))
    exact .ret ⟨[_], ⟨rfl, trivial⟩, by rw [if_pos (by omega)]; rfl, rfl⟩
  · refine .seq ((.region (.v (.assign rfl) (.nil ?_))))
    exact .ret ⟨[_], ⟨rfl, trivial⟩, by rw [if_neg (by omega)]; rfl, rfl⟩
/-- what Next gives of these bytes -/
def nextV (xs : List (BitVec 8)) : Value :=
  if xs.length < 64 then .tuple ⟨[.agg ⟨fcells 0#8 zw⟩, .int .i64 0, .bool false]⟩ else .tuple ⟨[.agg ⟨fcells (unpk (xs.take 64)).1 (unpk (xs.take 64)).2.1⟩, .int .i64 (unpk (xs.take 64)).2.2, .bool true]⟩
def rest64 (xs : List (BitVec 8)) : List (BitVec 8) := if xs.length < 64 then xs else xs.drop 64
theorem byts_drop (xs : List (BitVec 8)) (n : Nat) : (byts xs).drop n = byts (xs.drop n) := by simp [byts, List.map_drop]
theorem byts_tk (xs : List (BitVec 8)) (n : Nat) : (byts xs).take n = byts (xs.take n) := by simp [byts, List.map_take]
theorem Bs.cut {A : Option Addr} {c : Nat} {xs : List (BitVec 8)} {h : Hp} (k : Bs (.slice A xs.length c) xs h) (hi : 64 ≤ xs.length) : Bs (.slice (cutA A c 64 1) (xs.length - 64) (c - 64)) (xs.drop 64) h := by
  have := OwnS.cut k hi (by omega)
  rw [byts_drop] at this
  unfold Bs
  rw [List.length_drop]
  exact this
theorem Next_ok (w : World) (br : Nat) (v : Value) (xs : List (BitVec 8)) (h : Hp) (k : Bs v xs h) :
    Does Try.prog 29 [.pointer (some ⟨br, 0, none⟩)] ((br, .cells [v] 77) :: h) w (fun u hs => u = nextV xs ∧ ∃ v', hs = (br, .cells [v'] 77) :: h ∧ Bs v' (rest64 xs) h) := by
  obtain ⟨A, c, rfl, hc⟩ := k.sl
  refine Does.less (Does.of (n := 33) Try.func29 rfl rfl rfl rfl ?_)
  refine .seq ((.region (.nw .alloc fun b2 => (.v (.assign rfl) (.v (.assign rfl) (.nil ?_))))))
  refine .seq (.seq ((.region (.v (.move rfl) (.v (.nilCheck rfl) (.v (.fieldAddr rfl) (.v (.load rfl (.one rfl)) (.v (.len rfl) (.v (.lss rfl rfl) (.nil ?_))))))))))
  refine .cond_dec rfl (fun h1 => ?_) (fun h1 => .skip ?_)
  · have hx : xs.length < 64 := by omega
    refine .seq ((.region (.v (.build (out := fcells 0#8 zw) rfl rfl) (.st (.storeW rfl rfl rfl rfl rfl) (.v (.assign rfl) (.v (.assign rfl) (.nil ?_)))))))
    exact .ret ⟨[_, _, _], ⟨⟨_, rfl, .inr ⟨8, _, inferInstance, rfl, rfl, .whole⟩⟩, rfl, rfl, trivial⟩, (br, .cells [.slice A xs.length c] 77) :: h, fun _ s => s.sub (List.sublist_cons_self _ _), by rw [nextV, if_pos hx]; rfl, _, rfl, by rw [rest64, if_pos hx]; exact k⟩
  · have hx : ¬ xs.length < 64 := by omega
    have hU := unpk_ws (xs.take 64)
    have hk := k.cut (by omega : 64 ≤ xs.length)
    refine .seq ((.region (.v (.move rfl) (.v (.nilCheck rfl) (.v (.fieldAddr rfl) (.v (.load rfl (.one rfl)) (.v (.slHi rfl rfl (by omega) (by omega)) (.pc rfl rfl (fun w s => Unpack_ok w _ _ c (xs.take 64) (by rw [← byts_tk]; exact (k.rd s (by simp) (by simp)).take 64) (by simp; omega)) (.v (.move rfl) (.v (.extract (vs := [.agg ⟨fcells (unpk (xs.take 64)).1 (unpk (xs.take 64)).2.1⟩, .int .i64 (unpk (xs.take 64)).2.2]) rfl rfl) (.v (.extract (vs := [.agg ⟨fcells (unpk (xs.take 64)).1 (unpk (xs.take 64)).2.1⟩, .int .i64 (unpk (xs.take 64)).2.2]) rfl rfl) (.nw .alloc fun b5 => (.st (.storeW rfl rfl (fcells_length hU) (fcells_ones _ _) rfl) (.v (.assign rfl) (.nil ?_)))))))))))))))
    refine .seq ((.region (.v (.move rfl) (.v (.move rfl) (.v (.nilCheck rfl) (.v (.fieldAddr rfl) (.v (.load rfl (.one rfl)) (.v (.slLo rfl rfl (by omega) (by omega)) (.v (.nilCheck rfl) (.v (.fieldAddr rfl) (.st (.store rfl rfl rfl (by simp)) (.nil ?_))))))))))))
    refine .seq ((.region (.v (.loadA rfl .whole (fcells_length hU)) (.v (.move rfl) (.st (.storeW rfl rfl (fcells_length hU) (fcells_ones _ _) rfl) (.v (.assign rfl) (.v (.assign rfl) (.nil ?_))))))))
    exact .ret ⟨[_, _, _], ⟨⟨_, rfl, .inr ⟨8, _, inferInstance, fcells_length hU, rfl, .whole⟩⟩, rfl, rfl, trivial⟩, (br, .cells [.slice (cutA A c 64 1) (xs.length - 64) (c - 64)] 77) :: h, fun _ s => s.sub (.cons _ (.cons _ (List.Sublist.refl _))), by rw [nextV, if_neg hx]; rfl, _, rfl, by rw [rest64, if_neg hx]; exact hk⟩
end Go.Proofs.Ytcgnbdgagkhehaa

/- A step on a reader and on what came to it. -/
namespace Go.Proofs.Ytcgnbdgagkhehaa
open Go.V
set_option linter.unusedVariables false
set_option linter.unusedSimpArgs false

/-- a reader and its track in memory -/
abbrev TrH (bt br : Nat) (v1 v2 : Value) (h1 h2 : Hp) : Hp := (bt, .cells [.pointer (some ⟨br, 0, none⟩), v2] 59) :: (br, .cells [v1] 77) :: (h1 ++ h2)
def StepR (bt br : Nat) (n : Nat) (v : Value) (hs : Hp) : Prop :=
  v = .bool true ∧ ∃ (xs' : List (BitVec 8)) (v1 v2 : Value) (h1 h2 : Hp), hs = TrH bt br v1 v2 h1 h2 ∧ Bs v1 xs' h1 ∧ Bs v2 xs' h2 ∧ xs'.length ≤ n
theorem step_ok (w : World) (bt br : Nat) (v1 v2 : Value) (h1 h2 : Hp) (xs : List (BitVec 8)) (k1 : Bs v1 xs h1) (k2 : Bs v2 xs h2) (kd : Int) (ot : Bool) (B : Option Addr) (cB : Nat) (ys : List (BitVec 8))
    (hy : Rd w (bl (TrH bt br v1 v2 h1 h2)) B (byts ys)) (hb : xs.length + ys.length ≤ 1048576) :
    Does Try.prog 26 [.pointer (some ⟨bt, 0, none⟩), .agg ⟨[.int .i64 kd, .bool ot, .slice B ys.length cB]⟩] (TrH bt br v1 v2 h1 h2) w (StepR bt br (xs.length + ys.length)) := by
  refine Does.less (Does.of (n := 144) Try.func26 rfl rfl rfl rfl ?_)
  obtain ⟨A1, c1, rfl, hc1⟩ := k1.sl
  obtain ⟨A2, c2, rfl, hc2⟩ := k2.sl
  refine .seq ((.region (.nw (.box rfl rfl) fun b3 => (.v (.assign rfl) (.nil ?_)))))
  refine .seq (.seq ((.region (.v (.fieldAddr rfl) (.v (.load rfl (.one rfl)) (.nil ?_))))))
  refine .block (.seq ((.region (.v (.eqi rfl rfl) (.v (.assign rfl) (.nil ?_))))))
  refine .cond_dec rfl (fun g1 => ?_) (fun g1 => ?_)
  · -- Feed
    refine .seq ((.region (.v (.fieldAddr rfl) (.v (.load rfl (.one rfl)) (.ef (.call0 rfl rfl fun w s => hand_ok w B _ cB ys (hy.keep0 s) rfl (by omega)) ?_)))))
    rintro _ _ ⟨h, ho, rfl⟩
    obtain ⟨b, o, c3, l, rfl, rfl, hc, hlen, htk, hvl⟩ := ho.pos (by omega)
    have hcx : ∀ (j : Nat) (v : Value), (byts ys)[j]? = some v → l[o + j]? = some v := by
      intro j v hv
      have hv2 : (byts (ys ++ marks))[j]? = some v := by rw [byts_append, List.getElem?_append_left (List.getElem?_eq_some_iff.1 hv).1]; exact hv
      rw [← htk, List.getElem?_take] at hv2
      split at hv2
      · rw [List.getElem?_drop] at hv2; exact hv2
      · cases hv2
    refine .v (.assign rfl) (.nil ?_)
    refine .seq ((.drawT 9 (by kernel_rfl) (by kernel_rfl) (.v (.move rfl) (.v (.nilCheck rfl) (.v (.fieldAddr rfl) (.v (.load (v := .pointer (some ⟨br, 0, none⟩)) rfl (.one rfl)) (.v (.move rfl) (.v (.fieldAddr rfl) (.v (.load (v := .slice B ys.length cB) rfl (.one rfl)) (.v (.len rfl) (.v (.slHi rfl rfl (by omega) (by omega)) (.nil ?_))))))))))))
    refine .ef (.call (pre := (br, .cells [.slice A1 xs.length c1] 77) :: h1) (fr := [(b, .cells l 5), (b3, .cells [.int .i64 kd, .bool ot, .slice B ys.length cB] 61), (bt, .cells [.pointer (some ⟨br, 0, none⟩), .slice A2 xs.length c2] 59)] ++ h2) rfl rfl (List.perm_append_comm_assoc [_, _, _] ((br, _) :: h1) h2)
      fun w' s => Feed_ok w' br _ xs ys h1 k1 _ c3 (Rd.chunk s ?_ hcx) (by omega)) ?_
    · exact Sat.not_in s (h := (br, .cells [.slice A1 xs.length c1] 77) :: h1) (by intro p hp; simp at hp ⊢; rcases hp with rfl | hp <;> simp [*])
    rintro _ _ ⟨_, ⟨v1', h1', rfl, k1'⟩, rfl⟩
    refine .nil ?_
    refine .seq ((.drawZ 12 [(b3, .cells [.int .i64 kd, .bool ot, .slice B ys.length cB] 61), (bt, .cells [.pointer (some ⟨br, 0, none⟩), .slice A2 xs.length c2] 59)] (by intro p hp; simp at hp ⊢; rcases hp with rfl | rfl <;> simp) (by kernel_rfl) ?_))
    refine .v 0 rfl (by kernel_rfl) (fun hs' f => .move rfl) ?_
    refine .v 2 rfl (by kernel_rfl) (fun hs' f => .move rfl) ?_
    refine .v 3 rfl (by kernel_rfl) (fun hs' f => .nilCheck rfl) ?_
    refine .v 4 rfl (by kernel_rfl) (fun hs' f => .fieldAddr rfl) ?_
    refine .v 5 rfl (by kernel_rfl) (fun hs' f => .load (v := .slice A2 xs.length c2) rfl (.one (hb := .sub f) rfl)) ?_
    refine .v 7 rfl (by kernel_rfl) (fun hs' f => .fieldAddr rfl) ?_
    refine .v 8 rfl (by kernel_rfl) (fun hs' f => .load (v := .slice B ys.length cB) rfl (.one (hb := .sub f) rfl)) ?_
    refine .ef 1 rfl (by kernel_rfl) (.buildSlice (out := []) rfl (by decide) rfl rfl) ?_ (fun v hs' ⟨b, _, e⟩ f => by subst e; exact fun p hp => List.mem_cons_of_mem _ (f hp)) rfl
    rintro _ _ ⟨b6, rfl, rfl⟩
    refine .ef 6 rfl (by kernel_rfl) (.append (c := 0) (k := xs.length) (vs := []) (news := byts xs) (h := [(b6, .cells [] 5)]) (fr := (h1' ++ [(br, .cells [v1'] 77)]) ++ ([(b, .cells l 5), (b3, .cells [.int .i64 kd, .bool ot, .slice B ys.length cB] 61), (bt, .cells [.pointer (some ⟨br, 0, none⟩), .slice A2 xs.length c2] 59)] ++ h2)) rfl rfl ⟨rfl, .inr ⟨b6, 0, 0, [], rfl, rfl, by omega, by simp, by simp⟩⟩ (List.Perm.refl _)
      (fun w' s => (k2.rd s (no := []) (fun p hp => by simp [hp]) (by simp)).src (by rw [byts_length]; omega) (by omega)) (by rw [byts_length]; omega) (byts_ones _) (by omega) (by omega)) ?_ (fun v hs' ⟨h', _, e⟩ _ => by subst e; intro p hp; simp at hp ⊢; rcases hp with rfl | rfl <;> simp) rfl
    rintro v6 _ ⟨h6, k6, rfl⟩
    refine .ef 9 rfl (by kernel_rfl) (.append (c := 0 + xs.length) (k := ys.length) (vs := [] ++ byts xs) (news := byts ys) (h := h6) (fr := (h1' ++ [(br, .cells [v1'] 77)]) ++ ([(b, .cells l 5), (b3, .cells [.int .i64 kd, .bool ot, .slice B ys.length cB] 61), (bt, .cells [.pointer (some ⟨br, 0, none⟩), .slice A2 xs.length c2] 59)] ++ h2)) rfl rfl k6 (List.Perm.refl _)
      (fun w' s => (hy.keep0 s).src (by rw [byts_length]; omega) (by omega)) (by rw [byts_length]; omega) (byts_ones _) (by omega) (by omega)) ?_ (fun v hs' ⟨h', _, e⟩ _ => by subst e; intro p hp; simp at hp ⊢; rcases hp with rfl | rfl <;> simp) rfl
    rintro v9 _ ⟨h9, k9, rfl⟩
    refine .v1 10 rfl (by kernel_rfl) (.nilCheck rfl) ?_ rfl
    refine .v1 11 rfl (by kernel_rfl) (.fieldAddr rfl) ?_ rfl
    refine .st rfl (by kernel_rfl) rfl (.store rfl rfl (by obtain ⟨_, _, rfl⟩ := k9.slice; rfl) (by simp)) ?_
    refine .done (by kernel_rfl) ?_
    have k9' : Bs v9 (xs ++ ys) h9 := by
      unfold Bs
      rw [List.length_append]
      simpa [byts_append] using k9
    refine .seq ((.region (.v (.move rfl) (.v (.fieldAddr rfl) (.v (.load (v := .slice B ys.length cB) rfl (.one rfl)) ?_)))))
    refine .ef (.call (pre := [(b, .cells l 5)]) (fr := (h9 ++ (h1' ++ [(br, .cells [v1'] 77)])) ++ ([(b3, .cells [.int .i64 kd, .bool ot, .slice B ys.length cB] 61), (bt, .cells [.pointer (some ⟨br, 0, none⟩), v9] 59)] ++ h2)) rfl rfl (by rw [← List.append_assoc]; exact List.perm_middle)
      fun w' s => left_ok w' b o c3 ys.length cB B l (ys ++ marks) ys 5 (ys.length + 5) (by simp [marks]) (by simpa using htk) (by omega) (by omega) (hy.keep s fun b' hb' => ?_) rfl (by omega) (by omega)) ?_
    · simp at hb'
      subst hb'
      exact s.mine _ (by simp [bl])
    rintro _ _ ⟨_, ⟨rfl, rfl⟩, rfl⟩
    refine .v (.assign rfl) (.nil ?_)
    refine .ret ⟨[_], ⟨rfl, trivial⟩, TrH bt br v1' v9 h1' h9, fun w' s => ?_, by simp [tup], xs ++ ys, v1', v9, h1', h9, rfl, k1', k9', by simp⟩
    have s1 : Sat w (bl (TrH bt br (.slice A1 xs.length c1) (.slice A2 xs.length c2) h1 h2)) ((h9 ++ (h1' ++ [(br, .cells [v1'] 77)])) ++ [(bt, .cells [.pointer (some ⟨br, 0, none⟩), v9] 59)]) w' := s.sub (List.Sublist.append_left (.cons _ (.cons_cons _ (List.nil_sublist _))) _)
    refine s1.perm ?_
    refine (List.perm_append_singleton _ _).trans (.cons _ ?_)
    rw [← List.append_assoc]
    exact (List.perm_append_singleton _ _).trans (.cons _ List.perm_append_comm)
  refine .seq ((.region (.v (.eqi rfl rfl) (.v (.assign rfl) (.nil ?_)))))
  refine .cond_dec rfl (fun g2 => ?_) (fun g2 => ?_)
  · -- Next
    refine .seq ((.region (.v (.move rfl) (.v (.nilCheck rfl) (.v (.fieldAddr rfl) (.v (.load (v := .pointer (some ⟨br, 0, none⟩)) rfl (.one rfl)) (.ef (.call (pre := (br, .cells [.slice A1 xs.length c1] 77) :: h1) (fr := [(b3, .cells [.int .i64 kd, .bool ot, .slice B ys.length cB] 61), (bt, .cells [.pointer (some ⟨br, 0, none⟩), .slice A2 xs.length c2] 59)] ++ h2) rfl rfl (by exact List.perm_append_comm_assoc [(b3, .cells [.int .i64 kd, .bool ot, .slice B ys.length cB] 61), (bt, .cells [.pointer (some ⟨br, 0, none⟩), .slice A2 xs.length c2] 59)] ((br, .cells [.slice A1 xs.length c1] 77) :: h1) h2) fun w' s => Next_ok w' br _ xs h1 k1) ?_)))))))
    rintro _ _ ⟨_, ⟨rfl, v1', rfl, k1'⟩, rfl⟩
    by_cases hx : xs.length < 64
    · have e1 : nextV xs = .tuple ⟨[.agg ⟨fcells 0#8 zw⟩, .int .i64 0, .bool false]⟩ := by rw [nextV, if_pos hx]
      have e2 : rest64 xs = xs := by rw [rest64, if_pos hx]
      rw [e1]
      rw [e2] at k1'
      have eq1 : cellsEq (fcells 0#8 zw) (fcells 0#8 zw) = true := by rw [fcells_eq rfl rfl]; simp
      refine .v (.move rfl) (.v (.extract rfl rfl) (.v (.extract rfl rfl) (.v (.extract rfl rfl) (.nw .alloc fun b6 => (.st (.storeW rfl rfl (fcells_length rfl) (fcells_ones _ _) rfl) (.v (.assign rfl) (.v (.assign rfl) (.nil ?_))))))))
      refine .seq (.seq ((.region (.v (.move rfl) (.v (.nilCheck rfl) (.v (.fieldAddr rfl) (.v (.load (v := .slice A2 xs.length c2) rfl (.one rfl)) (.v (.len rfl) (.v (.lss rfl rfl) (.nil ?_))))))))))
      refine .cond_dec rfl (fun g3 => ?_) (fun g3 => absurd g3 (by omega))
      refine .seq ((.region (.v (.move rfl) (.v (.not rfl) (.v (.move rfl) (.and 65 68 3 3 rfl rfl (fun _ => .v (.loadA rfl .whole (fcells_length rfl)) (.v (.build (out := fcells 0#8 zw) rfl rfl) (.v (.eqA rfl rfl (fcells_oks rfl) (fcells_oks rfl)) (.nil ⟨rfl, rfl, rfl, rfl⟩)))) (.v (.move rfl) (.and 70 72 2 2 rfl rfl (fun _ => .v (.move rfl) (.v (.eqi rfl rfl) (.nil ⟨rfl, rfl, rfl, rfl⟩))) (.v (.assign rfl) (.nil ?_))))))))))
      refine .ret ⟨[_], ⟨rfl, trivial⟩, TrH bt br v1' (.slice A2 xs.length c2) h1 h2, fun w' s => ?_, by simp [tup, eq1], xs, v1', _, h1, h2, rfl, k1', k2, by omega⟩
      have s1 : Sat w (bl (TrH bt br (.slice A1 xs.length c1) (.slice A2 xs.length c2) h1 h2)) ((br, .cells [v1'] 77) :: (h1 ++ ((bt, .cells [.pointer (some ⟨br, 0, none⟩), .slice A2 xs.length c2] 59) :: h2))) w' := s.sub (.cons _ (.cons_cons _ (List.Sublist.append_left (.cons _ (List.Sublist.refl _)) _)))
      exact s1.perm (((List.Perm.cons _ List.perm_middle)).trans (List.Perm.swap _ _ _))
    · have hU := unpk_ws (xs.take 64)
      have e1 : nextV xs = .tuple ⟨[.agg ⟨fcells (unpk (xs.take 64)).1 (unpk (xs.take 64)).2.1⟩, .int .i64 (unpk (xs.take 64)).2.2, .bool true]⟩ := by rw [nextV, if_neg hx]
      have e2 : rest64 xs = xs.drop 64 := by rw [rest64, if_neg hx]
      rw [e1]
      rw [e2] at k1'
      have eq1 : cellsEq (fcells (unpk (xs.take 64)).1 (unpk (xs.take 64)).2.1) (fcells (unpk (xs.take 64)).1 (unpk (xs.take 64)).2.1) = true := by rw [fcells_eq hU hU]; simp
      have k2' := k2.cut (by omega : 64 ≤ xs.length)
      refine .v (.move rfl) (.v (.extract (v := .agg ⟨fcells (unpk (xs.take 64)).1 (unpk (xs.take 64)).2.1⟩) rfl rfl) (.v (.extract (v := .int .i64 (unpk (xs.take 64)).2.2) rfl rfl) (.v (.extract (v := .bool true) rfl rfl) (.nw .alloc fun b6 => (.st (.storeW rfl rfl (fcells_length hU) (fcells_ones _ _) rfl) (.v (.assign rfl) (.v (.assign rfl) (.nil ?_))))))))
      refine .seq (.seq ((.region (.v (.move rfl) (.v (.nilCheck rfl) (.v (.fieldAddr rfl) (.v (.load (v := .slice A2 xs.length c2) rfl (.one rfl)) (.v (.len rfl) (.v (.lss rfl rfl) (.nil ?_))))))))))
      refine .cond_dec rfl (fun g3 => absurd g3 (by omega)) (fun g3 => .skip ?_)
      refine .seq ((.region (.v (.move rfl) (.v (.nilCheck rfl) (.v (.fieldAddr rfl) (.v (.load (v := .slice A2 xs.length c2) rfl (.one rfl)) (.v (.slHi rfl rfl (by omega) (by omega)) (.pc rfl rfl (fun w s => refUnpack_ok w _ _ c2 (xs.take 64) (by rw [← byts_tk]; exact (k2.rd s (fun p hp => by simp [hp]) (by simp)).take 64) (by simp; omega)) (.v (.move rfl) (.v (.extract (vs := [.agg ⟨fcells (unpk (xs.take 64)).1 (unpk (xs.take 64)).2.1⟩, .int .i64 (unpk (xs.take 64)).2.2]) rfl rfl) (.v (.extract (vs := [.agg ⟨fcells (unpk (xs.take 64)).1 (unpk (xs.take 64)).2.1⟩, .int .i64 (unpk (xs.take 64)).2.2]) rfl rfl) (.nw .alloc fun b9 => (.st (.storeW rfl rfl (fcells_length hU) (fcells_ones _ _) rfl) (.v (.assign rfl) (.nil ?_)))))))))))))))
      refine .seq ((.region (.v (.move rfl) (.v (.move rfl) (.v (.nilCheck rfl) (.v (.fieldAddr rfl) (.v (.load (v := .slice A2 xs.length c2) rfl (.one rfl)) (.v (.slLo rfl rfl (by omega) (by omega)) (.v (.nilCheck rfl) (.v (.fieldAddr rfl) (.st (.store rfl rfl rfl (by simp)) (.nil ?_))))))))))))
      refine .seq ((.region (.v (.move rfl) (.v (.move rfl) (.and 92 95 3 3 rfl rfl (fun _ => .v (.loadA rfl .whole (fcells_length hU)) (.v (.loadA rfl .whole (fcells_length hU)) (.v (.eqA rfl rfl (fcells_oks hU) (fcells_oks hU)) (.nil ⟨rfl, rfl, rfl, rfl⟩)))) (.v (.move rfl) (.and 97 100 3 3 rfl rfl (fun _ => .v (.move rfl) (.v (.move rfl) (.v (.eqi rfl rfl) (.nil ⟨rfl, rfl, rfl, rfl⟩)))) (.v (.assign rfl) (.nil ?_)))))))))
      refine .ret ⟨[_], ⟨rfl, trivial⟩, TrH bt br v1' (.slice (cutA A2 c2 64 1) (xs.length - 64) (c2 - 64)) h1 h2, fun w' s => ?_, by simp [tup, eq1], xs.drop 64, v1', _, h1, h2, rfl, k1', k2', by simp; omega⟩
      have s1 : Sat w (bl (TrH bt br (.slice A1 xs.length c1) (.slice A2 xs.length c2) h1 h2)) ((br, .cells [v1'] 77) :: (h1 ++ ((bt, .cells [.pointer (some ⟨br, 0, none⟩), .slice (cutA A2 c2 64 1) (xs.length - 64) (c2 - 64)] 59) :: h2))) w' := s.sub (.cons _ (.cons _ (.cons_cons _ (List.Sublist.append_left (.cons _ (List.Sublist.refl _)) _))))
      exact s1.perm (((List.Perm.cons _ List.perm_middle)).trans (List.Perm.swap _ _ _))
  refine .seq ((.region (.v (.eqi rfl rfl) (.v (.assign rfl) (.nil ?_)))))
  refine .cond_dec rfl (fun g3 => ?_) (fun g3 => ?_)
  · -- Left
    refine .seq ((.draw [(bt, .cells [.pointer (some ⟨br, 0, none⟩), .slice A2 xs.length c2] 59)] (by intro p hp; simp at hp ⊢; simp [hp]) (by kernel_rfl) ?_))
    refine .v 0 rfl (by kernel_rfl) (fun hs' f => .move rfl) ?_
    refine .v 1 rfl (by kernel_rfl) (fun hs' f => .nilCheck rfl) ?_
    refine .v 2 rfl (by kernel_rfl) (fun hs' f => .fieldAddr rfl) ?_
    refine .v 3 rfl (by kernel_rfl) (fun hs' f => .load (v := .pointer (some ⟨br, 0, none⟩)) rfl (.one (hb := .sub f) rfl)) ?_
    refine .v 5 rfl (by kernel_rfl) (fun hs' f => .move rfl) ?_
    refine .v 6 rfl (by kernel_rfl) (fun hs' f => .nilCheck rfl) ?_
    refine .v 7 rfl (by kernel_rfl) (fun hs' f => .fieldAddr rfl) ?_
    refine .v 8 rfl (by kernel_rfl) (fun hs' f => .load (v := .slice A2 xs.length c2) rfl (.one (hb := .sub f) rfl)) ?_
    refine .v 9 rfl (by kernel_rfl) (fun hs' f => .len rfl) ?_
    refine .ef 4 rfl (by kernel_rfl) (.call (pre := [(br, .cells [.slice A1 xs.length c1] 77)]) (fr := [(b3, .cells [.int .i64 kd, .bool ot, .slice B ys.length cB] 61), (bt, .cells [.pointer (some ⟨br, 0, none⟩), .slice A2 xs.length c2] 59)] ++ (h1 ++ h2)) rfl rfl (by exact List.perm_append_comm_assoc [(b3, .cells [.int .i64 kd, .bool ot, .slice B ys.length cB] 61), (bt, .cells [.pointer (some ⟨br, 0, none⟩), .slice A2 xs.length c2] 59)] [(br, .cells [.slice A1 xs.length c1] 77)] (h1 ++ h2)) fun w' s => Left_ok w' br _ xs.length _ h1 k1) ?_ (fun v hs' ⟨h', ⟨_, e1⟩, e⟩ _ => by subst e1; subst e; intro p hp; simp at hp ⊢; simp [hp])
    rintro _ _ ⟨_, ⟨rfl, rfl⟩, rfl⟩
    refine .v 10 rfl (by kernel_rfl) (fun hs' f => .eqi rfl rfl) ?_
    refine .v 11 rfl (by kernel_rfl) (fun hs' f => .assign rfl) ?_
    refine .done (by kernel_rfl) ?_
    refine .ret ⟨[_], ⟨rfl, trivial⟩, TrH bt br (.slice A1 xs.length c1) (.slice A2 xs.length c2) h1 h2, fun w' s => ?_, by simp [tup], xs, _, _, h1, h2, rfl, k1, k2, by omega⟩
    exact (s.sub (.cons_cons _ (.cons _ (List.Sublist.refl _)))).perm (List.Perm.swap _ _ _)
  refine .seq ((.region (.v (.eqi rfl rfl) (.v (.assign rfl) (.nil ?_)))))
  refine .cond_dec rfl (fun g4 => ?_) (fun g4 => .skip ?_)
  · -- Close
    refine .seq ((.region (.v (.move rfl) (.v (.nilCheck rfl) (.v (.fieldAddr rfl) (.v (.load (v := .pointer (some ⟨br, 0, none⟩)) rfl (.one rfl)) (.ef (.call (pre := [(br, .cells [.slice A1 xs.length c1] 77)]) (fr := [(b3, .cells [.int .i64 kd, .bool ot, .slice B ys.length cB] 61), (bt, .cells [.pointer (some ⟨br, 0, none⟩), .slice A2 xs.length c2] 59)] ++ (h1 ++ h2)) rfl rfl (by exact List.perm_append_comm_assoc [(b3, .cells [.int .i64 kd, .bool ot, .slice B ys.length cB] 61), (bt, .cells [.pointer (some ⟨br, 0, none⟩), .slice A2 xs.length c2] 59)] [(br, .cells [.slice A1 xs.length c1] 77)] (h1 ++ h2)) fun w' s => Close_ok w' br _ xs h1 k1) ?_)))))))
    rintro _ _ ⟨_, ⟨rfl, rfl⟩, rfl⟩
    refine .v (.assign rfl) (.nil ?_)
    refine .seq ((.region (.v (.move rfl) (.v (.nilCheck rfl) (.v (.fieldAddr rfl) (.v (.load (v := .slice A2 xs.length c2) rfl (.one rfl)) (.v (.len rfl) (.v (.gtr rfl rfl) (.v (.assign rfl) (.nil ?_))))))))))
    refine .seq ((.region (.v (.move rfl) (.v (.nilCheck rfl) (.v (.fieldAddr rfl) (.st (.store rfl rfl rfl (by simp)) (.nil ?_)))))))
    refine .seq ((.region (.v (.move rfl) (.v (.move rfl) (.and 132 134 2 2 rfl rfl (fun _ => .v (.move rfl) (.v (.eqi rfl rfl) (.nil ⟨rfl, rfl, rfl, rfl⟩))) (.v (.move rfl) (.or 136 142 6 4 rfl rfl (fun _ => .v (.move rfl) (.v (.not rfl) (.v (.move rfl) (.and 139 141 2 2 rfl rfl (fun _ => .v (.move rfl) (.v (.eqi rfl rfl) (.nil ⟨rfl, rfl, rfl, rfl⟩))) (.nil ⟨rfl, rfl, rfl, rfl⟩))))) (.v (.assign rfl) (.nil ?_)))))))))
    refine .ret ⟨[_], ⟨rfl, trivial⟩, TrH bt br (.slice none 0 0) (.slice none 0 0) [] [], fun w' s => ?_, ?_, [], _, _, [], [], rfl, Bs.nil, Bs.nil, by simp⟩
    · have s1 : Sat w (bl (TrH bt br (.slice A1 xs.length c1) (.slice A2 xs.length c2) h1 h2)) [(br, .cells [.slice none 0 0] 77), (bt, .cells [.pointer (some ⟨br, 0, none⟩), .slice none 0 0] 59)] w' := s.sub (.cons_cons _ (.cons _ (.cons_cons _ (List.nil_sublist _))))
      exact s1.perm (List.Perm.swap _ _ _)
    · simp only [tup]
      congr 1
      by_cases h0 : 0 < xs.length
      · simp [h0]
      · simp [h0]
  · refine .seq ((.region (.v (.assign rfl) (.nil ?_))))
    refine .ret ⟨[_], ⟨rfl, trivial⟩, TrH bt br (.slice A1 xs.length c1) (.slice A2 xs.length c2) h1 h2, fun w' s => s.sub (.cons _ (List.Sublist.refl _)), by simp [tup], xs, _, _, h1, h2, rfl, k1, k2, by omega⟩
end Go.Proofs.Ytcgnbdgagkhehaa

/- WireReaders: the walk. -/
namespace Go.Proofs.Ytcgnbdgagkhehaa
open Go.V
set_option linter.unusedVariables false
set_option linter.unusedSimpArgs false

structure OpD where
  k : Int
  o : Bool
  B : Option Addr
  c : Nat
  ys : List (BitVec 8)
def OpD.cells (d : OpD) : List Value := [.int .i64 d.k, .bool d.o, .slice d.B d.ys.length d.c]
def tot (l : List OpD) : Nat := (l.map fun d => d.ys.length).sum
theorem tot_take {l : List OpD} {i : Nat} {d : OpD} (h : l[i]? = some d) : tot (l.take (i + 1)) = tot (l.take i) + d.ys.length := by
  simp [tot, List.take_add_one, h]
theorem tot_le (l : List OpD) (i : Nat) : tot (l.take i) ≤ tot l := by
  have h : tot l = tot (l.take i) + tot (l.drop i) := by
    rw [tot, tot, tot, ← List.sum_append, ← List.map_append, List.take_append_drop]
  omega
/-- two tracks -/
structure St where
  i : Nat
  xa : List (BitVec 8)
  a1 : Value
  a2 : Value
  p1 : Hp
  p2 : Hp
  xb : List (BitVec 8)
  b1 : Value
  b2 : Value
  q1 : Hp
  q2 : Hp
theorem WireReaders_ok (w : World) (A : Option Addr) (len cap : Nat) (l : List OpD) (hlen : len = l.length)
    (hcell : ∀ (i : Nat) (d : OpD), l[i]? = some d → ∀ (j : Nat) (v : Value), d.cells[j]? = some v → ∃ b o, A = some ⟨b, o, none⟩ ∧ w.cell? ⟨b, o + (i * 3 + j), none⟩ = some v)
    (hys : ∀ (i : Nat) (d : OpD), l[i]? = some d → Rd w [] d.B (byts d.ys)) (hb : tot l ≤ 1048576) (h63 : len ≤ 1048576) :
    Is Try.prog 10 [.slice A len cap] w (.bool true) := by
  refine Does.pure (Does.of (n := 80) Try.func10 rfl rfl rfl rfl ?_)
  refine .seq ((.region (.v (.assign rfl) (.nil ?_))))
  refine .seq ((.region (.ef (.call0 rfl rfl fun w s => NewReader_ok w) ?_)))
  rintro _ _ ⟨_, ⟨ra, rfl, rfl⟩, rfl⟩
  refine .v (.build (out := [.pointer (some ⟨ra, 0, none⟩), .slice none 0 0]) rfl rfl) (.nw (.box rfl rfl) fun ta => (.v (.assign rfl) (.nil ?_)))
  refine .seq ((.region (.ef (.call0 rfl rfl fun w s => NewReader_ok w) ?_)))
  rintro _ _ ⟨_, ⟨rb, rfl, rfl⟩, rfl⟩
  refine .v (.build (out := [.pointer (some ⟨rb, 0, none⟩), .slice none 0 0]) rfl rfl) (.nw (.box rfl rfl) fun tb => (.v (.assign rfl) (.nil ?_)))
  have hpz := packed_length (k := 0#8) (ws := zw) rfl
  have hz : cellsEq (byts (packed 0#8 zw)) (byts (packed 0#8 zw)) = true := by rw [byts_eq hpz hpz]; simp
  have hc0 : ((crc []).toNat : Int) = 0 := by decide +kernel
  refine .seq (.seq ((.region (.v (.move rfl) (.v (.nilCheck rfl) (.v (.fieldAddr rfl) (.v (.load (v := .pointer (some ⟨ra, 0, none⟩)) rfl (.one rfl)) (.v (.eql_ptr_nil rfl rfl) (.v (.move rfl) (.or 18 23 5 5 rfl rfl (fun _ => .v (.move rfl) (.v (.nilCheck rfl) (.v (.fieldAddr rfl) (.v (.load (v := .pointer (some ⟨rb, 0, none⟩)) rfl (.one rfl)) (.v (.eql_ptr_nil rfl rfl) (.nil ⟨rfl, rfl, rfl, rfl⟩)))))) (.v (.move rfl) (.or 25 27 2 2 rfl rfl (fun _ => .pc rfl rfl (fun w s => Sum_ok w _ _ 0 [] (Rd.nil _ _ _) rfl (by decide)) (.v (.nei rfl rfl) (.nil ⟨rfl, rfl, rfl, rfl⟩))) (.v (.move rfl) (.or 29 34 5 5 rfl rfl (fun _ => .v (.build (out := fcells 0#8 zw) rfl rfl) (.pc rfl rfl (fun w s => Pack_ok w 0#8 zw rfl) (.v (.build (out := fcells 0#8 zw) rfl rfl) (.pc rfl rfl (fun w s => refPack_ok w 0#8 zw rfl) (.v (.neA rfl rfl (byts_oks' hpz) (byts_oks' hpz)) (.nil ⟨rfl, rfl, rfl, rfl⟩)))))) (.nil ?_)))))))))))))))
  refine .cond rfl (fun h => absurd h (by rw [hc0, hz]; simp)) (fun _ => .skip ?_)
  refine .seq (.seq ((.region (.v (.assign rfl) (.nil ?_)))))
  refine .block (.loop (X := St) (fun x => [(0, .slice A len cap), (3, .pointer (some ⟨ta, 0, none⟩)), (4, .pointer (some ⟨tb, 0, none⟩)), (5, .int .i64 x.i)])
    (fun x => TrH ta ra x.a1 x.a2 x.p1 x.p2 ++ TrH tb rb x.b1 x.b2 x.q1 x.q2)
    (fun x => x.i ≤ len ∧ Bs x.a1 x.xa x.p1 ∧ Bs x.a2 x.xa x.p2 ∧ Bs x.b1 x.xb x.q1 ∧ Bs x.b2 x.xb x.q2 ∧ x.xa.length + x.xb.length ≤ tot (l.take x.i)) (fun x => len - x.i)
    ⟨0, [], .slice none 0 0, .slice none 0 0, [], [], [], .slice none 0 0, .slice none 0 0, [], []⟩ ⟨by simp, Bs.nil, Bs.nil, Bs.nil, Bs.nil, by simp⟩
    (.cons rfl (.cons rfl (.cons rfl (.cons rfl (.nil _))))) (fun _ s => s.perm (List.perm_append_comm (l₁ := [_, _]) (l₂ := [_, _]))) ?_)
  rintro ⟨i, xa, a1, a2, p1, p2, xb, b1, b2, q1, q2⟩ ⟨hi, ka1, ka2, kb1, kb2, hx⟩
  dsimp only at hi ka1 ka2 kb1 kb2 hx ⊢
  refine .seq (.seq ((.region (.v (.move rfl) (.v (.move rfl) (.v (.len rfl) (.v (.lss rfl rfl) (.nil ?_))))))))
  refine .cond_dec rfl (fun g1 => .skip ?_) (fun g1 => .exit ?_)
  · have hil : i < l.length := by omega
    have hd := List.getElem?_eq_getElem hil
    have htot := tot_take hd
    have hle := tot_le l (i + 1)
    generalize hD : l[i] = d at hd htot
    have hc := hcell i d hd
    have hy := hys i d hd
    obtain ⟨b, o, rfl, -⟩ := hc 0 _ rfl
    have hcs : ∀ (j : Nat) (v : Value), d.cells[j]? = some v → w.cell? ⟨b, o + i * 3 + j, none⟩ = some v := by
      intro j v hv
      obtain ⟨b', o', e, h⟩ := hc j v hv
      cases e
      rw [Nat.add_assoc]; exact h
    refine .seq (.block (.seq ((.region (.v (.move rfl) (.v (.assign rfl) (.nil ?_)))))))
    refine .seq (.seq ((.region (.v (.move rfl) (.v (.move rfl) (.v (.indexAddr rfl rfl (by omega) (by omega)) (.v (.fieldAddr rfl) (.v (.load (v := .bool d.o) rfl (.old1 ?_ (by simp [bl]))) (.nil ?_)))))))))
    · rw [Int.toNat_natCast]; exact hcs 1 _ rfl
    refine .cond rfl (fun ho => ?_) (fun ho => .skip ?_)
    · refine .region (.v (.move rfl) (.v (.assign rfl) (.nil ?_)))
      refine .seq ((.region (.v (.move rfl) (.v (.move rfl) (.v (.move rfl) (.v (.indexAddr rfl rfl (by omega) (by omega)) (.v (.loadA (vs := d.cells) rfl (.old (fun j v hv => ?_) (by simp [bl])) rfl) (.ef (.call (R := StepR tb rb (xb.length + d.ys.length)) (pre := TrH tb rb b1 b2 q1 q2) (fr := TrH ta ra a1 a2 p1 p2) rfl rfl (by exact List.perm_append_comm) fun w' s => ?_) ?_))))))))
      · rw [add_none, Int.toNat_natCast]; exact hcs j v hv
      · have := step_ok w' tb rb b1 b2 q1 q2 xb kb1 kb2 d.k d.o d.B d.c d.ys (hy.keep s fun b' hb' => s.mine b' (by simp only [bl, List.map_append, List.mem_append] at hb' ⊢; exact .inr hb')) (by omega)
        exact this
      rintro _ _ ⟨_, ⟨rfl, xs', v1, v2, h1, h2, rfl, k1, k2, hl⟩, rfl⟩
      refine .v (.not rfl) (.nil ?_)
      refine .cond_false rfl (.skip ?_)
      refine .region (.v (.move rfl) (.v (.addi rfl rfl (by omega)) (.v (.assign rfl) (.nil ?_))))
      exact ⟨⟨i + 1, xa, a1, a2, p1, p2, xs', v1, v2, h1, h2⟩, ⟨by simp only; omega, ka1, ka2, k1, k2, by simp only; omega⟩, by simp only; omega, .cons rfl (.cons rfl (.cons rfl (.cons rfl (.nil _)))), fun _ s => s.perm List.perm_append_comm⟩
    · refine .seq ((.region (.v (.move rfl) (.v (.move rfl) (.v (.move rfl) (.v (.indexAddr rfl rfl (by omega) (by omega)) (.v (.loadA (vs := d.cells) rfl (.old (fun j v hv => ?_) (by simp [bl])) rfl) (.ef (.call (R := StepR ta ra (xa.length + d.ys.length)) (pre := TrH ta ra a1 a2 p1 p2) (fr := TrH tb rb b1 b2 q1 q2) rfl rfl (by exact List.Perm.refl _) fun w' s => ?_) ?_))))))))
      · rw [add_none, Int.toNat_natCast]; exact hcs j v hv
      · have := step_ok w' ta ra a1 a2 p1 p2 xa ka1 ka2 d.k d.o d.B d.c d.ys (hy.keep s fun b' hb' => s.mine b' (by simp only [bl, List.map_append, List.mem_append] at hb' ⊢; exact .inl hb')) (by omega)
        exact this
      rintro _ _ ⟨_, ⟨rfl, xs', v1, v2, h1, h2, rfl, k1, k2, hl⟩, rfl⟩
      refine .v (.not rfl) (.nil ?_)
      refine .cond_false rfl (.skip ?_)
      refine .region (.v (.move rfl) (.v (.addi rfl rfl (by omega)) (.v (.assign rfl) (.nil ?_))))
      exact ⟨⟨i + 1, xs', v1, v2, h1, h2, xb, b1, b2, q1, q2⟩, ⟨by simp only; omega, k1, k2, kb1, kb2, by simp only; omega⟩, by simp only; omega, .cons rfl (.cons rfl (.cons rfl (.cons rfl (.nil _)))), fun _ s => s⟩
  · obtain ⟨A1, c1, rfl, _⟩ := ka2.sl
    obtain ⟨A2, c2, rfl, _⟩ := kb2.sl
    refine .perm (hs' := [(ta, .cells [.pointer (some ⟨ra, 0, none⟩), .slice A1 xa.length c1] 59), (ra, .cells [a1] 77), (tb, .cells [.pointer (some ⟨rb, 0, none⟩), .slice A2 xb.length c2] 59), (rb, .cells [b1] 77)] ++ ((p1 ++ p2) ++ (q1 ++ q2))) (by exact (List.perm_append_comm_assoc (p1 ++ p2) [(tb, .cells [.pointer (some ⟨rb, 0, none⟩), .slice A2 xb.length c2] 59), (rb, .cells [b1] 77)] (q1 ++ q2)).cons _ |>.cons _) ?_
    refine .seq ((.draw [(ta, .cells [.pointer (some ⟨ra, 0, none⟩), .slice A1 xa.length c1] 59), (tb, .cells [.pointer (some ⟨rb, 0, none⟩), .slice A2 xb.length c2] 59)] (by intro p hp; simp at hp ⊢; rcases hp with rfl | rfl <;> simp) (by kernel_rfl) ?_))
    refine .v 0 rfl (by kernel_rfl) (fun hs' f => .move rfl) ?_
    refine .v 1 rfl (by kernel_rfl) (fun hs' f => .nilCheck rfl) ?_
    refine .v 2 rfl (by kernel_rfl) (fun hs' f => .fieldAddr rfl) ?_
    refine .v 3 rfl (by kernel_rfl) (fun hs' f => .load (v := .pointer (some ⟨ra, 0, none⟩)) rfl (.one (hb := .sub f) rfl)) ?_
    refine .v 5 rfl (by kernel_rfl) (fun hs' f => .move rfl) ?_
    refine .v 6 rfl (by kernel_rfl) (fun hs' f => .nilCheck rfl) ?_
    refine .v 7 rfl (by kernel_rfl) (fun hs' f => .fieldAddr rfl) ?_
    refine .v 8 rfl (by kernel_rfl) (fun hs' f => .load (v := .slice A1 xa.length c1) rfl (.one (hb := .sub f) rfl)) ?_
    refine .v 9 rfl (by kernel_rfl) (fun hs' f => .len rfl) ?_
    refine .ef 4 rfl (by kernel_rfl) (.call (pre := [(ra, .cells [a1] 77)]) (fr := [(ta, .cells [.pointer (some ⟨ra, 0, none⟩), .slice A1 xa.length c1] 59)] ++ ([(tb, .cells [.pointer (some ⟨rb, 0, none⟩), .slice A2 xb.length c2] 59), (rb, .cells [b1] 77)] ++ ((p1 ++ p2) ++ (q1 ++ q2)))) rfl rfl (by exact List.Perm.swap _ _ _) fun w' s => Left_ok w' ra _ xa.length _ p1 ka1) ?_ (fun v hs' ⟨h', ⟨_, e1⟩, e⟩ _ => by subst e1; subst e; intro p hp; simp at hp ⊢; rcases hp with rfl | rfl <;> simp)
    rintro _ _ ⟨_, ⟨rfl, rfl⟩, rfl⟩
    refine .v 10 rfl (by kernel_rfl) (fun hs' f => .eqi rfl rfl) ?_
    refine .v 11 rfl (by kernel_rfl) (fun hs' f => .move rfl) (.split (t := 67) rfl (fun _ => ?_) (fun h => absurd rfl h))
    refine .v 12 rfl (by kernel_rfl) (fun hs' f => .move rfl) ?_
    refine .v 13 rfl (by kernel_rfl) (fun hs' f => .nilCheck rfl) ?_
    refine .v 14 rfl (by kernel_rfl) (fun hs' f => .fieldAddr rfl) ?_
    refine .v 15 rfl (by kernel_rfl) (fun hs' f => .load (v := .pointer (some ⟨rb, 0, none⟩)) rfl (.one (hb := .sub f) rfl)) ?_
    refine .v 17 rfl (by kernel_rfl) (fun hs' f => .move rfl) ?_
    refine .v 18 rfl (by kernel_rfl) (fun hs' f => .nilCheck rfl) ?_
    refine .v 19 rfl (by kernel_rfl) (fun hs' f => .fieldAddr rfl) ?_
    refine .v 20 rfl (by kernel_rfl) (fun hs' f => .load (v := .slice A2 xb.length c2) rfl (.one (hb := .sub f) rfl)) ?_
    refine .v 21 rfl (by kernel_rfl) (fun hs' f => .len rfl) ?_
    refine .ef 16 rfl (by kernel_rfl) (.call (pre := [(rb, .cells [b1] 77)]) (fr := [(ra, .cells [a1] 77), (ta, .cells [.pointer (some ⟨ra, 0, none⟩), .slice A1 xa.length c1] 59), (tb, .cells [.pointer (some ⟨rb, 0, none⟩), .slice A2 xb.length c2] 59)] ++ ((p1 ++ p2) ++ (q1 ++ q2))) rfl rfl (by exact List.perm_append_comm_assoc [(ra, .cells [a1] 77), (ta, .cells [.pointer (some ⟨ra, 0, none⟩), .slice A1 xa.length c1] 59), (tb, .cells [.pointer (some ⟨rb, 0, none⟩), .slice A2 xb.length c2] 59)] [(rb, .cells [b1] 77)] ((p1 ++ p2) ++ (q1 ++ q2))) fun w' s => Left_ok w' rb _ xb.length _ q1 kb1) ?_ (fun v hs' ⟨h', ⟨_, e1⟩, e⟩ _ => by subst e1; subst e; intro p hp; simp at hp ⊢; rcases hp with rfl | rfl <;> simp)
    rintro _ _ ⟨_, ⟨rfl, rfl⟩, rfl⟩
    refine .v 22 rfl (by kernel_rfl) (fun hs' f => .eqi rfl rfl) ?_
    refine .v 23 rfl (by kernel_rfl) (fun hs' f => .pick rfl rfl rfl) ?_
    refine .v 24 rfl (by kernel_rfl) (fun hs' f => .assign rfl) ?_
    refine .done (by kernel_rfl) ?_
    exact .ret ⟨[_], ⟨rfl, trivial⟩, by simp [tup]⟩
end Go.Proofs.Ytcgnbdgagkhehaa

/- VN: slices of anything that come in: the cells of each element, and what each is read as. -/
namespace Go
namespace V
open Go.RowKit Go.ChangeShapes Go.WideShapes Go.ChangeAt
set_option linter.unusedVariables false

/-- these cells are read as 'd' -/
def TC {H : Type} (enc : TypeId × Value → H) (P : Program) (w : World) (base : Nat) (spare : Nat → Bool) (held : Bool) (t : TypeId) (cs : List Value) (d : DataW H) : Prop :=
  ∃ fuel p, DataW.trod enc P w base spare held fuel t cs = some (d, p)
section
variable {H : Type} {enc : TypeId × Value → H} {P : Program} {w : World} {base : Nat} {spare : Nat → Bool} {held : Bool}
theorem TC.of {t : TypeId} {v : Value} {cs : List Value} {d : DataW H} {p : List MemPlace} (h : DataW.Trod enc P w base spare held t v d p) (hc : v.cells = ⟨cs⟩) : TC enc P w base spare held t cs d := by
  obtain ⟨fuel, hf⟩ := h
  rw [hc] at hf
  exact ⟨fuel, p, hf⟩
theorem TC.int {t : TypeId} {k : IntKind} {cs : List Value} {d : DataW H} (ht : P.underlying t = some (.int k)) (h : TC enc P w base spare held t cs d) : ∃ n, cs = [.int k n] ∧ (Lit.int k n).wf = true := by
  obtain ⟨fuel, p, hf⟩ := h
  obtain ⟨n, h1, _, h2⟩ := DataW.trod_int ht hf
  exact ⟨n, h1, h2⟩
theorem TC.bool {t : TypeId} {cs : List Value} {d : DataW H} (ht : P.underlying t = some .bool) (h : TC enc P w base spare held t cs d) : ∃ b, cs = [.bool b] := by
  obtain ⟨fuel, p, hf⟩ := h
  obtain ⟨b, h1, _⟩ := DataW.trod_bool ht hf
  exact ⟨b, h1⟩
theorem TC.plain {t : TypeId} {cs : List Value} {d : DataW H} {ls : List Lf} (hl : leaves P 8 t = some ls) (hs : P.cellsOf t = ls.length) (h : TC enc P w base spare held t cs d) : okw ls cs := by
  obtain ⟨fuel, p, hf⟩ := h
  exact trod_plain 8 t ls fuel cs _ hl hs hf
/-- a struct's fields -/
theorem TC.struct {t : TypeId} {fs : Array Field} {cs : List Value} {d : DataW H} (ht : P.underlying t = some (.struct fs)) (h : TC enc P w base spare held t cs d) :
    ∃ ds, d = .agg ds ∧ ds.length = fs.size ∧ cs.length = P.cellsOf t ∧ ∀ (i : Nat) (f : Field) (di : DataW H), fs[i]? = some f → ds[i]? = some di → TC enc P w base spare held f.type ((cs.drop f.offset).take (P.cellsOf f.type)) di := by
  obtain ⟨fuel, p, hf⟩ := h
  obtain ⟨xs, n, _, hx, hl, hn, hf⟩ := DataW.trod_struct ht hf
  simp only [Prod.mk.injEq] at hx
  refine ⟨xs.map (·.1), hx.1, by simpa using hn, hl, fun i f di h1 h2 => ?_⟩
  have := hf i f h1
  rw [List.getElem?_map] at h2
  cases h3 : xs[i]? with
  | none => rw [h3] at h2; cases h2
  | some x =>
    rw [h3] at h2 this
    simp at h2
    exact ⟨n, x.2, by rw [this, ← h2]⟩
/-- a slice's elements -/
theorem TC.slice {t e m : Nat} {cs : List Value} {d : DataW H} (ht : P.underlying t = some (.slice e)) (hm : P.cellsOf e = m) (h0 : 0 < m) (h : TC enc P w base spare held t cs d) :
    ∃ A len cap, ∃ (css : List (List Value)) (ds : List (DataW H)), cs = [.slice A len cap] ∧ css.length = len ∧ ds.length = len ∧ (∀ c ∈ css, c.length = m) ∧ (∀ (i : Nat) (c : List Value), css[i]? = some c → ∀ (j : Nat) (v : Value), c[j]? = some v → ∃ b o, A = some ⟨b, o, none⟩ ∧ w.cell? ⟨b, o + (i * m + j), none⟩ = some v) ∧
      (d = .nil ∧ len = 0 ∨ ∃ sp, d = .slice ds sp) ∧ ∀ (i : Nat) (c : List Value) (di : DataW H), css[i]? = some c → ds[i]? = some di → TC enc P w base spare held e c di := by
  obtain ⟨fuel, p, hf⟩ := h
  rcases DataW.trod_slice ht hf with ⟨rfl, hx⟩ | ⟨a, len, cap, elems, rest, n, _, rfl, hx, hb, hl, hc, hn, he, _⟩
  · simp only [Prod.mk.injEq] at hx
    exact ⟨none, 0, 0, [], [], rfl, rfl, rfl, by simp, by simp, .inl ⟨hx.1, rfl⟩, by simp⟩
  · simp only [Prod.mk.injEq] at hx
    rw [hm] at he
    have each : ∀ i, i < len → ∃ c x, w.cells? base (a.add (i * m)) m = some c ∧ DataW.trod enc P w base spare held n e c = some x ∧ elems[i]? = some x := by
      intro i hi
      have := he i hi
      rw [List.getElem?_eq_getElem (by omega)] at this
      obtain ⟨c, h1, h2⟩ := Option.bind_eq_some_iff.1 this
      exact ⟨c, _, h1, h2, List.getElem?_eq_getElem (by omega)⟩
    have hcs : ∃ css : List (List Value), css.length = len ∧ ∀ i c, css[i]? = some c → ∃ x, w.cells? base (a.add (i * m)) m = some c ∧ DataW.trod enc P w base spare held n e c = some x ∧ elems[i]? = some x := by
      have key : ∀ k, k ≤ len → ∃ css : List (List Value), css.length = k ∧ ∀ i c, css[i]? = some c → ∃ x, w.cells? base (a.add (i * m)) m = some c ∧ DataW.trod enc P w base spare held n e c = some x ∧ elems[i]? = some x := by
        intro k
        induction k with
        | zero => intro _; exact ⟨[], rfl, by simp⟩
        | succ k ih =>
          intro hk
          obtain ⟨css, h1, h2⟩ := ih (by omega)
          obtain ⟨c, x, h3⟩ := each k (by omega)
          refine ⟨css ++ [c], by simp [h1], fun i c' hc' => ?_⟩
          by_cases hi : i < k
          · rw [List.getElem?_append_left (by omega)] at hc'
            exact h2 i c' hc'
          · rw [List.getElem?_append_right (by omega)] at hc'
            have hik : i = k := by
              have := (List.getElem?_eq_some_iff.1 hc').1
              simp at this; omega
            subst hik
            simp [h1] at hc'
            subst hc'
            exact ⟨x, h3⟩
      exact key len (Nat.le_refl _)
    obtain ⟨css, h1, h2⟩ := hcs
    refine ⟨some a, len, cap, css, elems.map (·.1), rfl, h1, by simpa using hn, fun c hc => ?_, fun i c hc j v hv => ?_, .inr ⟨_, hx.1⟩, fun i c di hc hdi => ?_⟩
    · obtain ⟨i, hi⟩ := List.mem_iff_getElem?.1 hc
      obtain ⟨x, h3, _⟩ := h2 i c hi
      exact (World.cells?_some h3).2.1
    · obtain ⟨x, h3, _⟩ := h2 i c hc
      obtain ⟨g1, g2, g3⟩ := World.cells?_some h3
      have hj := (List.getElem?_eq_some_iff.1 hv).1
      have hcell := g3 j (by omega)
      rw [hv] at hcell
      obtain ⟨b, o, sp⟩ := a
      have hsp : sp = none := by
        have hlt : 0 < css.length := by
          have := (List.getElem?_eq_some_iff.1 hc).1
          omega
        obtain ⟨x0, k3, _⟩ := h2 0 css[0] (List.getElem?_eq_getElem hlt)
        obtain ⟨_, k2, k4⟩ := World.cells?_some k3
        have := k4 0 h0
        rw [List.getElem?_eq_getElem (by omega)] at this
        simpa [Addr.add] using World.cell?_spot this
      subst hsp
      refine ⟨b, o, rfl, ?_⟩
      rw [add_none, add_none, Nat.add_assoc] at hcell
      exact hcell
    · obtain ⟨x, h3, h4, h5⟩ := h2 i c hc
      rw [List.getElem?_map, h5] at hdi
      simp at hdi
      exact ⟨n, x.2, by rw [h4, ← hdi]⟩
end
/-- one for each number below n -/
theorem list_of {α : Type} {Q : Nat → α → Prop} (n : Nat) (h : ∀ i, i < n → ∃ x, Q i x) : ∃ l : List α, l.length = n ∧ ∀ (i : Nat) (x : α), l[i]? = some x → Q i x := by
  induction n with
  | zero => exact ⟨[], rfl, by simp⟩
  | succ n ih =>
    obtain ⟨l, h1, h2⟩ := ih fun i hi => h i (by omega)
    obtain ⟨x, hx⟩ := h n (by omega)
    refine ⟨l ++ [x], by simp [h1], fun i y hy => ?_⟩
    by_cases hi : i < n
    · rw [List.getElem?_append_left (by omega)] at hy
      exact h2 i y hy
    · rw [List.getElem?_append_right (by omega)] at hy
      have hlt := (List.getElem?_eq_some_iff.1 hy).1
      simp at hlt
      have : i = n := by omega
      subst this
      simp [h1] at hy
      subst hy
      exact hx
section
variable {H : Type} {enc : TypeId × Value → H} {P : Program} {w : World} {base : Nat} {spare : Nat → Bool} {held : Bool}
/-- bytes -/
theorem TC.bytes {t e : Nat} {cs : List Value} {d : DataW H} (ht : P.underlying t = some (.slice e)) (he : P.underlying e = some (.int .u8)) (hm : P.cellsOf e = 1) (h : TC enc P w base spare held t cs d) :
    ∃ A c ys, cs = [.slice A (List.length ys) c] ∧ Rd w [] A (byts ys) ∧ (d = .nil ∧ ys = [] ∨ ∃ ds sp, d = .slice ds sp ∧ ds.length = ys.length) := by
  obtain ⟨A, len, cap, css, ds, h1, h2, h3, h4, h5, h6, h7⟩ := h.slice ht hm (by omega)
  obtain ⟨ys, hy1, hy2⟩ := list_of (Q := fun i (y : BitVec 8) => css[i]? = some [.int .u8 y.toNat]) len (fun i hi => by
    have hc := List.getElem?_eq_getElem (show i < css.length by omega)
    have hd := List.getElem?_eq_getElem (show i < ds.length by omega)
    obtain ⟨n, hn, hw⟩ := (h7 i _ _ hc hd).int he
    have := wf_u8 hw
    refine ⟨BitVec.ofNat 8 n.toNat, ?_⟩
    rw [hc, hn]
    simp
    omega)
  refine ⟨A, cap, ys, by rw [h1, hy1], fun j v hv => ?_, ?_⟩
  · have hj : j < ys.length := by have := (List.getElem?_eq_some_iff.1 hv).1; simpa [byts_length] using this
    rw [byts_get hj] at hv
    have h8 := hy2 j _ (List.getElem?_eq_getElem hj)
    obtain ⟨b, o, e1, e2⟩ := h5 j _ h8 0 v (by simpa using hv)
    exact ⟨b, o, e1, by simp, by simpa using e2⟩
  · rcases h6 with ⟨e1, e2⟩ | ⟨sp, e1⟩
    · exact .inl ⟨e1, List.eq_nil_of_length_eq_zero (by omega)⟩
    · exact .inr ⟨ds, sp, e1, by omega⟩
end
end V
end Go

/- Scripts for readers: as they come in. -/
namespace Go.Proofs.Ytcgnbdgagkhehaa
open Go.V Go.ChangeShapes Go.WideShapes Go.ChangeAt
set_option linter.unusedVariables false
set_option linter.unusedSimpArgs false

theorem bulk_pos {H : Type} (d : DataW H) : 1 ≤ Rows.uptoBulk d := by
  cases d with
  | lit l => cases l <;> simp [Rows.uptoBulk]
  | _ => simp [Rows.uptoBulk]
theorem bulk_len {H : Type} : ∀ (ds : List (DataW H)), ds.length ≤ Rows.uptoBulkAll ds
  | [] => by simp
  | d :: ds => by
    have h1 := bulk_pos d
    have h2 := bulk_len ds
    simp only [Rows.uptoBulkAll, List.length_cons]
    omega
theorem bulk_get {H : Type} : ∀ {ds : List (DataW H)} {i : Nat} {d : DataW H}, ds[i]? = some d → Rows.uptoBulk d ≤ Rows.uptoBulkAll ds
  | d' :: ds, 0, d, h => by simp at h; subst h; simp [Rows.uptoBulkAll]
  | d' :: ds, i + 1, d, h => by
    have := bulk_get (ds := ds) (i := i) (by simpa using h)
    simp only [Rows.uptoBulkAll]
    omega
  | [], i, d, h => by simp at h
theorem bulk_sum {H α : Type} (f : α → Nat) : ∀ {ds : List (DataW H)} {l : List α}, l.length = ds.length → (∀ (i : Nat) (x : α) (d : DataW H), l[i]? = some x → ds[i]? = some d → f x ≤ Rows.uptoBulk d) → (l.map f).sum ≤ Rows.uptoBulkAll ds
  | [], [], _, _ => by simp
  | d :: ds, x :: l, h, k => by
    have h1 := k 0 x d rfl rfl
    have h2 := bulk_sum f (ds := ds) (l := l) (by simpa using h) (fun i x d hx hd => k (i + 1) x d (by simpa using hx) (by simpa using hd))
    simp only [List.map_cons, List.sum_cons, Rows.uptoBulkAll]
    omega
  | [], _ :: _, h, _ => by simp at h
  | _ :: _, [], h, _ => by simp at h
theorem bulk_bytes {H : Type} {d : DataW H} {n : Nat} (h : d = .nil ∧ n = 0 ∨ ∃ ds sp, d = .slice ds sp ∧ ds.length = n) : n ≤ Rows.uptoBulk d := by
  rcases h with ⟨_, rfl⟩ | ⟨ds, sp, rfl, rfl⟩
  · omega
  · have := bulk_len ds
    simp only [Rows.uptoBulk]
    omega
theorem read_ops {H : Type} {enc : TypeId × Value → H} {base : Nat} {spare : Nat → Bool} {held : Bool} {W : World} {A : Option Addr} {len cap : Nat} {d : DataW H} {p : List MemPlace}
    (h : DataW.Trod enc Try.prog W base spare held 54 (.slice A len cap) d p) (hk : Rows.uptoBulk d ≤ 1048576) :
    ∃ l : List OpD, len = l.length ∧ (∀ (i : Nat) (d : OpD), l[i]? = some d → ∀ (j : Nat) (v : Value), d.cells[j]? = some v → ∃ b o, A = some ⟨b, o, none⟩ ∧ W.cell? ⟨b, o + (i * 3 + j), none⟩ = some v) ∧
      (∀ (i : Nat) (d : OpD), l[i]? = some d → Rd W [] d.B (byts d.ys)) ∧ tot l ≤ 1048576 ∧ len ≤ 1048576 := by
  obtain ⟨A', len', cap', css, ds, e0, h2, h3, h4, h5, h6, h7⟩ := (TC.of h (cs := [.slice A len cap]) rfl).slice Try.underlying54 (m := 3) (by kernel_rfl) (by omega)
  cases e0
  obtain ⟨l, hl1, hl2⟩ := list_of (Q := fun i (x : OpD) => css[i]? = some x.cells ∧ Rd W [] x.B (byts x.ys) ∧ ∀ di, ds[i]? = some di → x.ys.length ≤ Rows.uptoBulk di) len (fun i hi => by
    have hc := List.getElem?_eq_getElem (show i < css.length by omega)
    have hd := List.getElem?_eq_getElem (show i < ds.length by omega)
    have hlen := h4 css[i] (List.getElem_mem _)
    obtain ⟨es, he1, he2, -, he3⟩ := (h7 i _ _ hc hd).struct Try.underlying61
    generalize css[i] = c at *
    match c, hlen with
    | [c0, c1, c2], _ =>
    match es, he2 with
    | [e0, e1, e2], _ =>
    obtain ⟨k, f0, _⟩ := (he3 0 _ e0 rfl rfl).int Try.underlying3
    obtain ⟨o, f1⟩ := (he3 1 _ e1 rfl rfl).bool Try.underlying4
    obtain ⟨B, cB, ys, f2, f3, f4⟩ := (he3 2 _ e2 rfl rfl).bytes Try.underlying22 Try.underlying5 (by kernel_rfl)
    have z3 : Try.prog.cellsOf 3 = 1 := by kernel_rfl
    have z4 : Try.prog.cellsOf 4 = 1 := by kernel_rfl
    have z22 : Try.prog.cellsOf 22 = 1 := by kernel_rfl
    have g0 : c0 = .int .i64 k := by simpa [z3] using f0
    have g1 : c1 = .bool o := by simpa [z4] using f1
    have g2 : c2 = .slice B ys.length cB := by simpa [z22] using f2
    refine ⟨⟨k, o, B, cB, ys⟩, by rw [hc, g0, g1, g2]; rfl, f3, fun di hdi => ?_⟩
    rw [hd] at hdi
    cases hdi
    rw [he1]
    have hb := bulk_bytes (d := e2) (n := ys.length) (by rcases f4 with ⟨a, b⟩ | f4; exact .inl ⟨a, by simp [b]⟩; exact .inr f4)
    simp only [Rows.uptoBulk, Rows.uptoBulkAll]
    omega)
  have hbulk : tot l ≤ 1048576 ∧ len ≤ 1048576 := by
    rcases h6 with ⟨_, e2⟩ | ⟨sp, e1⟩
    · subst e2
      have : l = [] := List.eq_nil_of_length_eq_zero hl1
      subst this
      simp [tot]
    · rw [e1] at hk
      simp only [Rows.uptoBulk] at hk
      have := bulk_sum (fun x : OpD => x.ys.length) (ds := ds) (l := l) (by omega) (fun i x di hx hdi => (hl2 i x hx).2.2 di hdi)
      have h8 := bulk_len ds
      refine ⟨by unfold tot; omega, by omega⟩
  refine ⟨l, hl1.symm, fun i x hx j v hv => h5 i _ (hl2 i x hx).1 j v hv, fun i x hx => (hl2 i x hx).2.1, hbulk.1, hbulk.2⟩
end Go.Proofs.Ytcgnbdgagkhehaa

/- VT: lists of plain records that come in; what their lengths are held to. -/
namespace Go
namespace V
open Go.RowKit Go.ChangeShapes Go.WideShapes Go.ChangeAt
set_option linter.unusedVariables false

theorem flatten_get {m : Nat} : ∀ (rs : List (List Value)), (∀ r ∈ rs, r.length = m) → ∀ (k : Nat) (v : Value), rs.flatten[k]? = some v → ∃ i j r, rs[i]? = some r ∧ r[j]? = some v ∧ k = i * m + j
  | [], _, k, v, h => by simp at h
  | r :: rs, hm, k, v, h => by
    rw [List.flatten_cons] at h
    by_cases hk : k < r.length
    · rw [List.getElem?_append_left hk] at h
      exact ⟨0, k, r, rfl, h, by simp⟩
    · rw [List.getElem?_append_right (by omega)] at h
      obtain ⟨i, j, r', h1, h2, h3⟩ := flatten_get rs (fun r hr => hm r (List.mem_cons_of_mem _ hr)) _ v h
      have := hm r List.mem_cons_self
      exact ⟨i + 1, j, r', by simpa using h1, h2, by rw [Nat.succ_mul]; omega⟩
theorem map_of {α β : Type} {f : α → β} {Q : α → Prop} : ∀ (rs : List β), (∀ r ∈ rs, ∃ x, r = f x ∧ Q x) → ∃ l : List α, rs = l.map f ∧ ∀ x ∈ l, Q x
  | [], _ => ⟨[], rfl, by simp⟩
  | r :: rs, h => by
    obtain ⟨x, h1, h2⟩ := h r List.mem_cons_self
    obtain ⟨l, h3, h4⟩ := map_of rs fun r hr => h r (List.mem_cons_of_mem _ hr)
    exact ⟨x :: l, by simp [h1, h3], fun y hy => by rcases List.mem_cons.1 hy with rfl | hy; exact h2; exact h4 y hy⟩
theorem okw_length : ∀ {ls : List Lf} {cs : List Value}, okw ls cs → cs.length = ls.length
  | [], [], _ => rfl
  | l :: ls, c :: cs, h => by have := okw_length h.2; simp [this]
  | [], _ :: _, h => h.elim
  | _ :: _, [], h => h.elim
section
variable {H : Type} {enc : TypeId × Value → H} {P : Program} {w : World} {base : Nat} {spare : Nat → Bool} {held : Bool}
/-- a slice of plain records -/
theorem TC.recs {t e : Nat} {ls : List Lf} {cs : List Value} {d : DataW H} (ht : P.underlying t = some (.slice e)) (hl : leaves P 8 e = some ls) (hs : P.cellsOf e = ls.length) (h0 : 0 < ls.length) (h : TC enc P w base spare held t cs d) :
    ∃ A cap, ∃ rs : List (List Value), cs = [.slice A rs.length cap] ∧ (∀ r ∈ rs, okw ls r) ∧ Rd w [] A rs.flatten ∧ (d = .nil ∧ rs = [] ∨ ∃ ds sp, d = .slice ds sp ∧ ds.length = rs.length) := by
  obtain ⟨A, len, cap, css, ds, h1, h2, h3, h4, h5, h6, h7⟩ := h.slice ht hs h0
  refine ⟨A, cap, css, by rw [h1, h2], fun r hr => ?_, fun k v hv => ?_, ?_⟩
  · obtain ⟨i, hi, rfl⟩ := List.mem_iff_getElem.1 hr
    exact (h7 i _ _ (List.getElem?_eq_getElem hi) (List.getElem?_eq_getElem (by omega))).plain hl hs
  · obtain ⟨i, j, r, e1, e2, rfl⟩ := flatten_get css h4 k v hv
    obtain ⟨b, o, e3, e4⟩ := h5 i r e1 j v e2
    exact ⟨b, o, e3, by simp, e4⟩
  · rcases h6 with ⟨e1, e2⟩ | ⟨sp, e1⟩
    · exact .inl ⟨e1, List.eq_nil_of_length_eq_zero (by omega)⟩
    · exact .inr ⟨ds, sp, e1, by omega⟩
/-- the weights of a struct's parts -/
theorem sized_agg {ts : List TypeId} {ds : List (DataW H)} (h : (DataW.weightsEach P ts ds).all (· ≤ reachBytes) = true) {j : Nat} {t : TypeId} {fs : Array Field} {parts : List (DataW H)} (ht : ts[j]? = some t) (hd : ds[j]? = some (.agg parts)) (hu : P.underlying t = some (.struct fs)) :
    (DataW.weightsEach P (fs.toList.map (·.type)) parts).all (· ≤ reachBytes) = true := by
  rw [List.all_eq_true]
  intro x hx
  exact List.all_eq_true.1 h _ (DataW.weights_mem_each ht hd x (by simp only [DataW.weights, hu]; exact hx))
theorem sized_len {ts : List TypeId} {ds : List (DataW H)} (h : (DataW.weightsEach P ts ds).all (· ≤ reachBytes) = true) {j n : Nat} {t e : TypeId} {d : DataW H} (ht : ts[j]? = some t) (hd : ds[j]? = some d) (hu : P.underlying t = some (.slice e))
    (hk : d = .nil ∧ n = 0 ∨ ∃ es sp, d = .slice es sp ∧ es.length = n) : n * P.bytesOf e ≤ reachBytes := by
  rcases hk with ⟨_, rfl⟩ | ⟨es, sp, rfl, rfl⟩
  · simp
  · have := sized_slice h ht hd hu
    have h2 : es.length * P.bytesOf e ≤ (es.length + sp.length) * P.bytesOf e := Nat.mul_le_mul_right _ (by omega)
    omega
end
end V
end Go

/- VB: slices that come in: they have room for what they hold. -/
namespace Go
namespace V
open Go.RowKit Go.ChangeShapes Go.WideShapes
set_option linter.unusedVariables false
set_option linter.unusedSimpArgs false
section
variable {P : Program} {H : Type} {enc : TypeId × Value → H} {w : World} {base : Nat} {spare : Nat → Bool} {held : Bool}
theorem TC.cap {t e len cap : Nat} {A : Option Addr} {d : DataW H} (ht : P.underlying t = some (.slice e)) (h : TC enc P w base spare held t [.slice A len cap] d) : len ≤ cap := by
  obtain ⟨fuel, p, hf⟩ := h
  rcases DataW.trod_slice ht hf with ⟨e1, hx⟩ | ⟨a, len', cap', elems, rest, n, _, e1, hx, hb, hl, hc, hn, he, _⟩
  · simp at e1; omega
  · simp at e1
    obtain ⟨rfl, rfl, rfl⟩ := e1
    omega
/-- a slice of plain records, with its room -/
theorem TC.recsK {t e : Nat} {ls : List Lf} {cs : List Value} {d : DataW H} (ht : P.underlying t = some (.slice e)) (hl : leaves P 8 e = some ls) (hs : P.cellsOf e = ls.length) (h0 : 0 < ls.length) (h : TC enc P w base spare held t cs d) :
    ∃ A cap, ∃ rs : List (List Value), cs = [.slice A rs.length cap] ∧ (∀ r ∈ rs, okw ls r) ∧ Rd w [] A rs.flatten ∧ rs.length ≤ cap ∧ (d = .nil ∧ rs = [] ∨ ∃ ds sp, d = .slice ds sp ∧ ds.length = rs.length) := by
  obtain ⟨A, cap, rs, rfl, h2, h3, h4⟩ := h.recs ht hl hs h0
  exact ⟨A, cap, rs, rfl, h2, h3, TC.cap ht h, h4⟩
end
theorem okw_i {k : IntKind} {ls : List Lf} {cs : List Value} (h : okw (.i k :: ls) cs) : ∃ a cs', cs = .int k a :: cs' ∧ (Lit.int k a).wf = true ∧ okw ls cs' := by
  match cs, h with
  | .int _ a :: cs', ⟨⟨h1, w1⟩, h2⟩ => subst h1; exact ⟨a, cs', rfl, w1, h2⟩
theorem okw_b {ls : List Lf} {cs : List Value} (h : okw (.b :: ls) cs) : ∃ a cs', cs = .bool a :: cs' ∧ okw ls cs' := by
  match cs, h with
  | .bool a :: cs', ⟨h1, h2⟩ => exact ⟨a, cs', rfl, h2⟩
theorem okw_nil {cs : List Value} (h : okw [] cs) : cs = [] := by
  match cs, h with
  | [], _ => rfl
end V
end Go

/- Bytes as they come in, with their bound; an array of bytes. -/
namespace Go.Proofs.Ytcgnbdgagkhehaa
open Go.V Go.ChangeShapes Go.WideShapes Go.ChangeAt
set_option linter.unusedVariables false
set_option linter.unusedSimpArgs false

theorem okw_bytes {m : Nat} {cs : List Value} (h : okw (List.replicate m (.i .u8)) cs) : ∃ zs : List (BitVec 8), zs.length = m ∧ cs = byts zs := by
  induction m generalizing cs with
  | zero =>
    cases cs with
    | nil => exact ⟨[], rfl, rfl⟩
    | cons v cs => exact h.elim
  | succ m ih =>
    rw [List.replicate_succ] at h
    cases cs with
    | nil => exact h.elim
    | cons v cs =>
      obtain ⟨hv, h⟩ := h
      obtain ⟨zs, h1, h2⟩ := ih h
      cases v <;> simp only [Lf.okw] at hv
      obtain ⟨rfl, hw⟩ := hv
      rename_i n
      have := wf_u8 hw
      refine ⟨BitVec.ofNat 8 n.toNat :: zs, by simp [h1], ?_⟩
      rw [h2, byts, byts, List.map_cons]
      simp
      omega
theorem bytes_cap {H : Type} {enc : TypeId × Value → H} {base : Nat} {spare : Nat → Bool} {held : Bool} {W : World} {A : Option Addr} {len cap : Nat} {d : DataW H} {p : List MemPlace}
    (h : DataW.Trod enc Try.prog W base spare held 22 (.slice A len cap) d p) : len ≤ cap :=
  TC.cap Try.underlying22 (TC.of h (cs := [.slice A len cap]) rfl)
theorem bulk_open {H : Type} {d : DataW H} {n : Nat} (h : n = 0 ∨ ∃ ds sp, d = .slice ds sp ∧ ds.length = n) : n ≤ Rows.uptoBulk d := by
  rcases h with rfl | ⟨ds, sp, rfl, rfl⟩
  · omega
  · have := bulk_len ds
    simp only [Rows.uptoBulk]
    omega
end Go.Proofs.Ytcgnbdgagkhehaa
