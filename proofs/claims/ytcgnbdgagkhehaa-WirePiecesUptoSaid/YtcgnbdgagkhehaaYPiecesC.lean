/- Texts that the row RPieces stands on: VYN, VZD, VZE, WAlls, WTold, LOne, WAlone, WReader, LLeft, LPieces, WStep, LReaders, VN, BReaders, BLeft, VT, VB, BAlls. -/
import Derived.Test.YtcgnbdgagkhehaaYPiecesB
import Derived.OrdersIn
import Derived.Test.YtcgnbdgagkhehaaYPiecesA
import Derived.Test.YtcgnbdgagkhehaaRows
import Derived.SizedLaws
/- VYN: as VY, where a check against nil may come up at any time too. -/
namespace Go
namespace V
open Go.RowKit
set_option linter.unusedVariables false
set_option linter.unusedSimpArgs false
/-- does the operation touch no memory? -/
def noMemN (o : Oper) : Bool := match o.op with
  | .move _ => true
  | .indexAddr .. => true
  | .fieldAddr .. => true
  | .binOp .. => true
  | .extract .. => true
  | .nilCheck _ => true
  | _ => false
section
variable {P : Program} {n : Nat} {w0 : World} {own : List Nat} {e : Env} {hs F : Hp} {ops : Array Oper} {K : Env → Hp → Prop} {z m : Nat} {listed : Array Bool}
variable {d : Nat} {ty : TypeId} {pos : String} {aft : Array Edge} {g : Option (Nat × Bool)}
theorem JZ.xN {op : Op} {v : Value} (i : Nat) (hi : ops[i]? = some ⟨some d, op, ty, pos, aft, g⟩) (hf : firstB ops listed i = true) (hzi : z ≠ i)
    (h : ∀ w, Val P n w [] e [] op v) (k : JZ P n w0 own ops F z m (listed.setIfInBounds i true) ((d, v) :: e) hs K)
    (hdn : Nat.blt d n = true := by rfl) (hg : wantB ops e g = some true := by rfl) : JZ P n w0 own ops F z (m + 1) listed e hs K := by
  intro a w hr s hF
  unfold firstB at hf
  rw [Bool.and_eq_true, Bool.and_eq_true] at hf
  obtain ⟨⟨f1, f2⟩, f3⟩ := hf
  exact Upto.firstX hi (Region.noSelect_spec f1) (fun _ _ _ h => h) hzi m listed a w (Region.free_spec hi f2) (by simpa using f3)
    (.inl ⟨wanted_of hr hg, fun w' _ => h w' a w' _ _ _ _ _ hr (Sat.begin0 w')⟩) (fun hz => ⟨hs, s, hF hz⟩)
    (k _ _ (hr.put (Nat.le_of_ble_eq_true hdn) v) s fun hz => hF (by rw [getD_set_ne true (Ne.symm hzi)] at hz; exact hz))
end

def ordN (ops : Array Oper) (z : Nat) : List Oper → List Nat → Array Bool → Bool
  | [], [], _ => true
  | o :: l, i :: is, listed => (onlyB ops listed i || (!isEff o && firstZ ops z listed i) || (noMemN o && firstB ops listed i && !Nat.beq z i)) && (o.dst.isSome || Nat.beq i z || listed.getD z true) && ordN ops z l is (listed.setIfInBounds i true)
  | _, _, _ => false
/-- the operations in their order; 'late': the first store has been -/
def JN (P : Program) (n : Nat) (w0 : World) (own : List Nat) (ops : Array Oper) (F : Hp) (z : Nat) (late : Bool) (l : List Oper) (e : Env) (hs : Hp) (K : Bool → Env → Hp → Prop) : Prop :=
  ∀ (m : Nat) (is : List Nat) (listed : Array Bool) (Z : Env → Hp → Prop), Nums ops l is → ordN ops z l is listed = true → listed.size = ops.size → listed.getD z true = late → (late = false → F ⊆ hs) →
    (∀ late' e' hs', (marks_ is listed).getD z true = late' → (late' = false → F ⊆ hs') → K late' e' hs' → JZ P n w0 own ops F z m (marks_ is listed) e' hs' Z) → JZ P n w0 own ops F z (l.length + m) listed e hs Z

theorem eff_memN {o : Oper} (h : isEff o = true) : noMemN o = false := by
  unfold isEff at h; unfold noMemN
  split <;> simp_all
section
variable {P : Program} {n : Nat} {w0 : World} {own : List Nat} {e : Env} {hs F : Hp} {ops : Array Oper} {rest l : List Oper} {K : Bool → Env → Hp → Prop} {z : Nat} {late : Bool} {m : Nat} {listed : Array Bool} {Z : Env → Hp → Prop}
variable {d : Nat} {ty : TypeId} {pos : String} {aft : Array Edge} {g : Option (Nat × Bool)}

theorem JC.drawN {id : Nat} {Q : Post} {l : List Oper} (z : Nat) (is : List Nat) (F : Hp) (hF : F ⊆ hs) (hm : P.follows .mixedOrders = true)
    (hB : (ordN l.toArray z (pickL l is) is (Array.replicate l.length false) && doneB l.toArray (marks_ is (Array.replicate l.length false)) && Nat.beq (pickL l is).length l.length && Nat.beq is.length l.length && Nat.blt z l.length) = true)
    (h : JN P n w0 own l.toArray F z false (pickL l is) e hs (fun _ e' hs' => Q .normal e' hs')) : JC P n w0 own (.region id l.toArray true) e hs Q := by
  rw [Bool.and_eq_true, Bool.and_eq_true, Bool.and_eq_true, Bool.and_eq_true] at hB
  obtain ⟨⟨⟨⟨h1, h2⟩, h3⟩, h4⟩, h5⟩ := hB
  have h3 := Nat.eq_of_beq_eq_true h3
  have h4 := Nat.eq_of_beq_eq_true h4
  have h5 : z < l.length := Nat.le_of_ble_eq_true h5
  have key : ∀ (is : List Nat), (pickL l is).length = is.length → Nums l.toArray (pickL l is) is := by
    intro is
    induction is with
    | nil => intro _; trivial
    | cons i is ih =>
      intro hl
      unfold pickL at hl ⊢
      cases ho : l[i]? with
      | none => rw [ho] at hl; simp at hl
      | some o =>
        rw [ho] at hl
        simp only at hl ⊢
        exact ⟨by simpa using ho, ih (by simpa using hl)⟩
  refine JC.drawZ z F hF hm ?_
  have := h 0 is (Array.replicate l.length false) (fun e hs => Q .normal e hs) (key _ (by omega)) h1 (by simp) (by simp [h5]) (fun _ => hF) (fun _ e' hs' _ _ ke => JZ.done h2 ke)
  rw [h3] at this
  simpa using this
theorem JN.nil (h : K late e hs) : JN P n w0 own ops F z late [] e hs K := fun m is listed Z hn _ hsz hl hF hz => by
  cases is with
  | nil => rw [List.length_nil, Nat.zero_add]; exact hz late e hs hl hF h
  | cons i is => exact hn.elim
theorem JN.mono {K' : Bool → Env → Hp → Prop} (h : JN P n w0 own ops F z late l e hs K) (kk : ∀ b e hs, K b e hs → K' b e hs) : JN P n w0 own ops F z late l e hs K' :=
  fun m k listed Z h1 h2 h3 h4 h5 hz => h m k listed Z h1 h2 h3 h4 h5 fun b e' hs' f1 f ke => hz b e' hs' f1 f (kk b e' hs' ke)
theorem JN.sub {e2 : Env} (hs' : Sub e2 e) (h : JN P n w0 own ops F z late l e2 hs K) : JN P n w0 own ops F z late l e hs K :=
  fun m k listed Z h1 h2 h3 h4 h5 hz a w hr s hF => h m k listed Z h1 h2 h3 h4 h5 hz a w (hr.sub hs') s hF
theorem JN.splitB {t : Nat} {b : Bool} (ht : get e t = some (.bool b)) (h1 : b = true → JN P n w0 own ops F z late l ((t, .bool true) :: e) hs K)
    (h0 : b = false → JN P n w0 own ops F z late l ((t, .bool false) :: e) hs K) : JN P n w0 own ops F z late l e hs K := by
  cases b
  · exact JN.sub (sub_same' ht) (h0 rfl)
  · exact JN.sub (sub_same' ht) (h1 rfl)
/-- a value, ahead of the first store -/
theorem JN.v {op : Op} {v : Value} (h : ∀ hs', F ⊆ hs' → Val P n w0 own e hs' op v) (kk : JN P n w0 own ops F z false rest ((d, v) :: e) hs K) (hdn : Nat.blt d n = true := by rfl) (hg : wantB ops e g = some true := by rfl)
    (hzo : ((ops[z]?).map (·.dst.isNone)) = some true := by rfl) (hx : noMemN ⟨some d, op, ty, pos, aft, g⟩ = false := by rfl) :
    JN P n w0 own ops F z false (⟨some d, op, ty, pos, aft, g⟩ :: rest) e hs K := by
  intro m is listed Z h1 h2 h3 h4 h5 hz
  cases is with
  | nil => exact h1.elim
  | cons k is =>
  obtain ⟨h0, h1⟩ := h1
  unfold ordN at h2
  rw [Bool.and_eq_true, Bool.and_eq_true] at h2
  obtain ⟨⟨h2a, _⟩, h2b⟩ := h2
  rw [hx, Bool.false_and, Bool.false_and, Bool.or_false, Bool.or_eq_true, Bool.and_eq_true] at h2a
  have h2 := And.intro h2a h2b
  have hkz : k ≠ z := by rintro rfl; rw [h0] at hzo; simp at hzo
  have tail : JZ P n w0 own ops F z (rest.length + m) (listed.setIfInBounds k true) ((d, v) :: e) hs Z := kk m is _ Z h1 h2.2 (by simpa using h3) (set_lt h4 (.inr hkz)) h5 hz
  rw [show (⟨some d, op, ty, pos, aft, g⟩ :: rest : List Oper).length + m = (rest.length + m) + 1 from by simp; omega]
  rcases h2.1 with ho | ⟨_, hf⟩
  · exact JZ.v1 k h0 ho (h hs (h5 rfl)) tail rfl hdn hg
  · exact JZ.v k h0 hf h tail hdn hg
/-- a value behind it -/
theorem JN.w {op : Op} {v : Value} (h : Val P n w0 own e hs op v) (kk : JN P n w0 own ops F z true rest ((d, v) :: e) hs K) (hdn : Nat.blt d n = true := by rfl) (hg : wantB ops e g = some true := by rfl) (hx : noMemN ⟨some d, op, ty, pos, aft, g⟩ = false := by rfl) :
    JN P n w0 own ops F z true (⟨some d, op, ty, pos, aft, g⟩ :: rest) e hs K := by
  intro m is listed Z h1 h2 h3 h4 h5 hz
  cases is with
  | nil => exact h1.elim
  | cons k is =>
  obtain ⟨h0, h1⟩ := h1
  unfold ordN at h2
  rw [Bool.and_eq_true, Bool.and_eq_true] at h2
  obtain ⟨⟨h2a, _⟩, h2b⟩ := h2
  rw [hx, Bool.false_and, Bool.false_and, Bool.or_false, Bool.or_eq_true, Bool.and_eq_true] at h2a
  have h2 := And.intro h2a h2b
  have tail : JZ P n w0 own ops F z (rest.length + m) (listed.setIfInBounds k true) ((d, v) :: e) hs Z := kk m is _ Z h1 h2.2 (by simpa using h3) (set_lt h4 (.inl rfl)) (fun h => by cases h) hz
  rw [show (⟨some d, op, ty, pos, aft, g⟩ :: rest : List Oper).length + m = (rest.length + m) + 1 from by simp; omega]
  rcases h2.1 with ho | ⟨_, hf⟩
  · exact JZ.v1 k h0 ho h tail rfl hdn hg
  · unfold firstZ at hf
    rw [h4] at hf
    simp at hf
/-- what touches no memory, at any time -/
theorem JN.x {op : Op} {v : Value} (h : ∀ w0 own hs, Val P n w0 own e hs op v) (kk : JN P n w0 own ops F z late rest ((d, v) :: e) hs K) (hdn : Nat.blt d n = true := by rfl) (hg : wantB ops e g = some true := by rfl)
    (hzo : ((ops[z]?).map (·.dst.isNone)) = some true := by rfl) :
    JN P n w0 own ops F z late (⟨some d, op, ty, pos, aft, g⟩ :: rest) e hs K := by
  intro m is listed Z h1 h2 h3 h4 h5 hz
  cases is with
  | nil => exact h1.elim
  | cons k is =>
  obtain ⟨h0, h1⟩ := h1
  unfold ordN at h2
  rw [Bool.and_eq_true, Bool.and_eq_true] at h2
  obtain ⟨⟨h2a, _⟩, h2b⟩ := h2
  rw [Bool.or_eq_true, Bool.or_eq_true, Bool.and_eq_true, Bool.and_eq_true, Bool.and_eq_true] at h2a
  have hkz : k ≠ z := by rintro rfl; rw [h0] at hzo; simp at hzo
  have tail : JZ P n w0 own ops F z (rest.length + m) (listed.setIfInBounds k true) ((d, v) :: e) hs Z := kk m is _ Z h1 h2b (by simpa using h3) (set_lt h4 (.inr hkz)) h5 hz
  rw [show (⟨some d, op, ty, pos, aft, g⟩ :: rest : List Oper).length + m = (rest.length + m) + 1 from by simp; omega]
  rcases h2a with (ho | ⟨_, hf⟩) | ⟨⟨_, hf⟩, _⟩
  · exact JZ.v1 k h0 ho (h _ _ _) tail rfl hdn hg
  · exact JZ.v k h0 hf (fun hs' _ => h _ _ _) tail hdn hg
  · exact JZ.xN k h0 hf (Ne.symm hkz) (fun w => h _ _ _) tail hdn hg
/-- what works on memory, and leaves a value -/
theorem JN.ef {op : Op} {R : Value → Hp → Prop} (h : Eff P n w0 own e hs op R) (hF : ∀ v hs', R v hs' → F ⊆ hs → F ⊆ hs') (kk : ∀ v hs', R v hs' → JN P n w0 own ops F z late rest ((d, v) :: e) hs' K)
    (hE : isEff ⟨some d, op, ty, pos, aft, g⟩ = true := by rfl) (hdn : Nat.blt d n = true := by rfl) (hg : wantB ops e g = some true := by rfl) (hzo : ((ops[z]?).map (·.dst.isNone)) = some true := by rfl) : JN P n w0 own ops F z late (⟨some d, op, ty, pos, aft, g⟩ :: rest) e hs K := by
  intro m is listed Z h1 h2 h3 h4 h5 hz
  cases is with
  | nil => exact h1.elim
  | cons k is =>
  obtain ⟨h0, h1⟩ := h1
  unfold ordN at h2
  rw [Bool.and_eq_true, Bool.and_eq_true] at h2
  obtain ⟨⟨h2a, _⟩, h2b⟩ := h2
  rw [Bool.or_eq_true, Bool.or_eq_true, hE, eff_memN hE] at h2a
  have h2 := And.intro h2a h2b
  have hkz : k ≠ z := by rintro rfl; rw [h0] at hzo; simp at hzo
  have ho : onlyB ops listed k = true := by
    rcases h2.1 with (h | h) | h
    · exact h
    · simp at h
    · simp at h
  rw [show (⟨some d, op, ty, pos, aft, g⟩ :: rest : List Oper).length + m = (rest.length + m) + 1 from by simp; omega]
  exact JZ.ef k h0 ho h (fun v hs' r => kk v hs' r m is _ Z h1 h2.2 (by simpa using h3) (set_lt h4 (.inr hkz)) (fun e => hF v hs' r (h5 e)) hz) hF rfl hdn hg
/-- the first store -/
theorem JN.st {op : Op} {hs' : Hp} (h : Eff P n w0 own e hs op (fun v h => v = undef ∧ h = hs')) (kk : JN P n w0 own ops F z true rest e hs' K)
    (hE : isEff ⟨none, op, ty, pos, aft, g⟩ = true := by rfl) (hg : wantB ops e g = some true := by rfl) : JN P n w0 own ops F z false (⟨none, op, ty, pos, aft, g⟩ :: rest) e hs K := by
  intro m is listed Z h1 h2 h3 h4 h5 hz
  cases is with
  | nil => exact h1.elim
  | cons k is =>
  obtain ⟨h0, h1⟩ := h1
  unfold ordN at h2
  rw [Bool.and_eq_true, Bool.and_eq_true] at h2
  obtain ⟨⟨h2a, h2c⟩, h2b⟩ := h2
  rw [Bool.or_eq_true, Bool.or_eq_true, hE, eff_memN hE] at h2a
  have h2 := And.intro h2a h2b
  obtain rfl : k = z := by
    rw [h4] at h2c
    exact Nat.eq_of_beq_eq_true (by simpa using h2c)
  have ho : onlyB ops listed k = true := by
    rcases h2.1 with (h | h) | h
    · exact h
    · simp at h
    · simp at h
  have hk : k < listed.size := by rw [h3]; exact (Array.getElem?_eq_some_iff.1 h0).1
  rw [show (⟨none, op, ty, pos, aft, g⟩ :: rest : List Oper).length + m = (rest.length + m) + 1 from by simp; omega]
  refine JZ.st h0 ho (Nat.ble_eq_true_of_le hk) h (kk m is _ Z h1 h2.2 (by simpa using h3) (by simp [hk]) (fun h => by cases h) hz) hg
/-- a store behind it -/
theorem JN.st2 {op : Op} {hs' : Hp} (h : Eff P n w0 own e hs op (fun v h => v = undef ∧ h = hs')) (kk : JN P n w0 own ops F z true rest e hs' K)
    (hE : isEff ⟨none, op, ty, pos, aft, g⟩ = true := by rfl) (hg : wantB ops e g = some true := by rfl) : JN P n w0 own ops F z true (⟨none, op, ty, pos, aft, g⟩ :: rest) e hs K := by
  intro m is listed Z h1 h2 h3 h4 h5 hz
  cases is with
  | nil => exact h1.elim
  | cons k is =>
  obtain ⟨h0, h1⟩ := h1
  unfold ordN at h2
  rw [Bool.and_eq_true, Bool.and_eq_true] at h2
  obtain ⟨⟨h2a, h2c⟩, h2b⟩ := h2
  rw [Bool.or_eq_true, Bool.or_eq_true, hE, eff_memN hE] at h2a
  have h2 := And.intro h2a h2b
  have ho : onlyB ops listed k = true := by
    rcases h2.1 with (h | h) | h
    · exact h
    · simp at h
    · simp at h
  rw [show (⟨none, op, ty, pos, aft, g⟩ :: rest : List Oper).length + m = (rest.length + m) + 1 from by simp; omega]
  have hl := set_lt (k := k) (listed := listed) (z := z) h4 (.inl rfl)
  rcases Decidable.em (z = k) with rfl | hne
  · -- z has been: it cannot come up again
    have hr : Region.ready .any ops listed = [z] := by simpa [onlyB] using ho
    have hm : z ∈ Region.ready .any ops listed := by rw [hr]; simp
    obtain ⟨hu, _⟩ := mem_ready.1 hm
    have hk : z < listed.size := by rw [h3]; exact (Array.getElem?_eq_some_iff.1 h0).1
    simp [hk] at hu h4
    rw [hu] at h4; cases h4
  · exact JZ.st2 k h0 ho h4 (by cases h : Nat.beq z k; rfl; exact absurd (Nat.eq_of_beq_eq_true h) hne) h (kk m is _ Z h1 h2.2 (by simpa using h3) hl (fun h => by cases h) hz) hg
end
section
variable {P : Program} {n : Nat} {w0 : World} {own : List Nat} {e : Env} {hs F : Hp} {ops : Array Oper} {K : Bool → Env → Hp → Prop} {z : Nat} {late : Bool} {rest : List Oper}
variable {d : Nat} {ty : TypeId} {pos : String} {aft : Array Edge} {g : Option (Nat × Bool)}
/-- a call that leaves a value alone -/
theorem JQ.pc {f : Nat} {fo : Operand} {args : List Operand} {at_ : Array TypeId} {cap vals : List Value} {v : Value}
    (hf : ev e fo = some (.func (.func f) #[] ⟨cap⟩)) (ha : evs e args = some vals) (hc : ∀ w, Sat w0 own hs w → Is P f (vals ++ cap) w v) (kk : JQ P n w0 own ops F z late rest ((d, v) :: e) hs K) [hg : FnT P f]
    (hdn : Nat.blt d n = true := by rfl) (hw : wantB ops e g = some true := by rfl) (hzo : ((ops[z]?).map (·.dst.isNone)) = some true := by rfl) :
    JQ P n w0 own ops F z late (⟨some d, .call { callee := .value fo, args := ⟨args⟩, argTypes := at_ }, ty, pos, aft, g⟩ :: rest) e hs K :=
  JQ.ef (.call0 hf ha hc) (fun _ _ ⟨_, ⟨_, h2⟩, h3⟩ f => by subst h2; subst h3; exact f) (fun _ _ ⟨_, ⟨h1, h2⟩, h3⟩ => by subst h1; subst h2; subst h3; exact kk) rfl hdn hw hzo
theorem JN.pc {f : Nat} {fo : Operand} {args : List Operand} {at_ : Array TypeId} {cap vals : List Value} {v : Value}
    (hf : ev e fo = some (.func (.func f) #[] ⟨cap⟩)) (ha : evs e args = some vals) (hc : ∀ w, Sat w0 own hs w → Is P f (vals ++ cap) w v) (kk : JN P n w0 own ops F z late rest ((d, v) :: e) hs K) [hg : FnT P f]
    (hdn : Nat.blt d n = true := by rfl) (hw : wantB ops e g = some true := by rfl) (hzo : ((ops[z]?).map (·.dst.isNone)) = some true := by rfl) :
    JN P n w0 own ops F z late (⟨some d, .call { callee := .value fo, args := ⟨args⟩, argTypes := at_ }, ty, pos, aft, g⟩ :: rest) e hs K :=
  JN.ef (.call0 hf ha hc) (fun _ _ ⟨_, ⟨_, h2⟩, h3⟩ f => by subst h2; subst h3; exact f) (fun _ _ ⟨_, ⟨h1, h2⟩, h3⟩ => by subst h1; subst h2; subst h3; exact kk) rfl hdn hw hzo
end
end V
end Go

/- VZD: regions that draw their order, in functions that range over a function. -/
namespace Go
namespace V
open Go.RowKit
set_option linter.unusedVariables false
set_option linter.unusedSimpArgs false

theorem lift_ops {P : Program} {ro : Option Nat} {ops : Array Oper} {ds : List Deferred} {Q Q' : Exit → Act → World → Prop}
    (hQ : ∀ x a w, x ≠ .normal → ¬ Q' x a w) (hN : ∀ a' w', Q' .normal a' w' → Q .normal { a' with defers := a'.defers ++ ds } w') (hnd : ∀ (i : Nat) (o : Oper), ops[i]? = some o → ndOp o.op = true) : ∀ (l : List Nat) (a0 : Act) (w : World), wpOps P ops Q' l a0 w →
    wpOpsIn (Rnd ro) 0 P ops Q l { a0 with defers := a0.defers ++ ds } w
  | [], a0, w, h => hN _ _ h
  | i :: rest, a0, w, h => by
    unfold wpOps at h
    unfold wpOpsIn
    cases ho : ops[i]? with
    | none => rw [ho] at h; exact lift_ops hQ hN hnd rest a0 w h
    | some o =>
      rw [ho] at h
      simp only at h ⊢
      split at h
      · rename_i hw
        rw [if_pos hw]
        rcases h with h | ⟨_, a1, w1, h⟩
        · exact lift_op (hnd i o ho) (fun a' w' h' => lift_ops hQ hN hnd rest a' w' h') hQ h
        · exact (hQ _ _ _ (by simp) h).elim
      · rename_i hw
        rw [if_neg hw]
        refine ⟨fun f _ => Rnd.fn ro f, ?_⟩
        have := lift_ops (ro := ro) hQ hN hnd rest _ w h
        have pe : ∀ (a1 : Act) (d : Option Tmp) (v : Value), { a1.put d v with defers := (a1.put d v).defers ++ ds } = ({ a1 with defers := a1.defers ++ ds } : Act).put d v := by
          intro a1 d v; cases d <;> rfl
        rw [pe] at this
        exact this
theorem ndB_spec {l : List Oper} (h : ndB l = true) : ∀ (i : Nat) (o : Oper), l.toArray[i]? = some o → ndOp o.op = true := by
  intro i o ho
  have ho : l[i]? = some o := by simpa using ho
  exact List.all_eq_true.1 h o (List.mem_of_getElem? ho)
section
variable {ro : Option Nat} {P : Program} {n : Nat} {w0 : World} {own : List Nat} {ds : List Deferred} {e : Env} {hs : Hp} {Q : PostD} {l : List Oper}
theorem JF.any {id : Nat} (hm : P.follows .mixedOrders = true) (hn : ndB l = true)
    (h : ∀ a w, Rep n a e → Sat w0 own hs w → wpAny P .any l.toArray (QN fun a' w' => ∃ e' hs', Rep n a' e' ∧ Sat w0 own hs' w' ∧ Q .normal ds e' hs') l.toArray.size (Array.replicate l.toArray.size false) a w) : JF ro P n w0 own (.region id l.toArray true) ds e hs Q := by
  intro a w hr s
  refine wpIn_region_draw fun t => ?_
  rw [← hr.act]
  refine lift_ops (Q' := QN fun a' w' => ∃ e' hs', Rep n a' e' ∧ Sat w0 own hs' w' ∧ Q .normal ds e' hs') (fun x a w hx h => ?_) ?_ (ndB_spec hn) _ _ _ ?_
  · cases x with
    | normal => exact hx rfl
    | _ => exact h
  · rintro a' w' ⟨e', hs', h1, h2, h3⟩
    exact ⟨ds, e', hs', .of h1, h2, h3⟩
  · simp only [Region.schedule, hm, Bool.true_or, if_true]
    exact wpAny_sound l.toArray.size t _ _ _ (h _ _ hr.rep s.drew)
theorem JF.draw {id : Nat} (F : Hp) (hF : F ⊆ hs) (hm : P.follows .mixedOrders = true) (h : JD P n w0 own l.toArray F l.toArray.size (Array.replicate l.toArray.size false) e hs (fun e hs => Q .normal ds e hs)) (hn : ndB l = true := by rfl) : JF ro P n w0 own (.region id l.toArray true) ds e hs Q :=
  JF.any hm hn fun a w hr s => wpAny_of_held _ _ _ _ (h a w hr s hF)
theorem JF.drawZ {id : Nat} (z : Nat) (F : Hp) (hF : F ⊆ hs) (hm : P.follows .mixedOrders = true) (h : JZ P n w0 own l.toArray F z l.toArray.size (Array.replicate l.toArray.size false) e hs (fun e hs => Q .normal ds e hs)) (hn : ndB l = true := by rfl) : JF ro P n w0 own (.region id l.toArray true) ds e hs Q :=
  JF.any hm hn fun a w hr s => Upto.any _ _ _ _ (h a w hr s fun _ => hF)
theorem JF.drawK {id : Nat} (F : Hp) (hF : F ⊆ hs) (hm : P.follows .mixedOrders = true) (hB : (ordB l.toArray l (List.range' 0 l.length) (Array.replicate l.length false) && doneB l.toArray (marks_ (List.range' 0 l.length) (Array.replicate l.length false))) = true)
    (h : JK P n w0 own l.toArray F l e hs (fun e' hs' => Q .normal ds e' hs')) (hn : ndB l = true := by rfl) : JF ro P n w0 own (.region id l.toArray true) ds e hs Q := by
  rw [Bool.and_eq_true] at hB
  refine JF.draw F hF hm ?_ hn
  have := h 0 (List.range' 0 l.length) (Array.replicate l.length false) (fun e hs => Q .normal ds e hs) (Nums.seq l 0 fun j hj => by simp) hB.1 hF (fun e' hs' _ ke => JD.done hB.2 ke)
  simpa using this
theorem JF.drawP {id : Nat} (is : List Nat) (F : Hp) (hF : F ⊆ hs) (hm : P.follows .mixedOrders = true) (hB : (ordB l.toArray (pickL l is) is (Array.replicate l.length false) && doneB l.toArray (marks_ is (Array.replicate l.length false)) && Nat.beq (pickL l is).length l.length && Nat.beq (pickL l is).length is.length) = true)
    (h : JK P n w0 own l.toArray F (pickL l is) e hs (fun e' hs' => Q .normal ds e' hs')) (hn : ndB l = true := by rfl) : JF ro P n w0 own (.region id l.toArray true) ds e hs Q := by
  rw [Bool.and_eq_true, Bool.and_eq_true, Bool.and_eq_true] at hB
  obtain ⟨⟨⟨h1, h2⟩, h3⟩, h4⟩ := hB
  have h3 := Nat.eq_of_beq_eq_true h3
  have h4 := Nat.eq_of_beq_eq_true h4
  refine JF.draw F hF hm ?_ hn
  have := h 0 is (Array.replicate l.length false) (fun e hs => Q .normal ds e hs) (pickL_nums is h1 (by omega)) h1 hF (fun e' hs' _ ke => JD.done h2 ke)
  rw [h3] at this
  simpa using this
theorem JF.drawQ {id : Nat} (z : Nat) (is : List Nat) (F : Hp) (hF : F ⊆ hs) (hm : P.follows .mixedOrders = true)
    (hB : (ordZ l.toArray z (pickL l is) is (Array.replicate l.length false) && doneB l.toArray (marks_ is (Array.replicate l.length false)) && Nat.beq (pickL l is).length l.length && Nat.beq is.length l.length && Nat.blt z l.length) = true)
    (h : JQ P n w0 own l.toArray F z false (pickL l is) e hs (fun _ e' hs' => Q .normal ds e' hs')) (hn : ndB l = true := by rfl) : JF ro P n w0 own (.region id l.toArray true) ds e hs Q := by
  rw [Bool.and_eq_true, Bool.and_eq_true, Bool.and_eq_true, Bool.and_eq_true] at hB
  obtain ⟨⟨⟨⟨h1, h2⟩, h3⟩, h4⟩, h5⟩ := hB
  have h3 := Nat.eq_of_beq_eq_true h3
  have h4 := Nat.eq_of_beq_eq_true h4
  have h5 : z < l.length := Nat.le_of_ble_eq_true h5
  have key : ∀ (is : List Nat), (pickL l is).length = is.length → Nums l.toArray (pickL l is) is := by
    intro is
    induction is with
    | nil => intro _; trivial
    | cons i is ih =>
      intro hl
      unfold pickL at hl ⊢
      cases ho : l[i]? with
      | none => rw [ho] at hl; simp at hl
      | some o =>
        rw [ho] at hl
        simp only at hl ⊢
        exact ⟨by simpa using ho, ih (by simpa using hl)⟩
  refine JF.drawZ z F hF hm ?_ hn
  have := h 0 is (Array.replicate l.length false) (fun e hs => Q .normal ds e hs) (key _ (by omega)) h1 (by simp) (by simp [h5]) (fun _ => hF) (fun _ e' hs' _ _ ke => JZ.done h2 ke)
  rw [h3] at this
  simpa using this
end
end V
end Go

/- VZE: operations of all kinds beside a call of 'yield'; functions held against nil. -/
namespace Go
namespace V
open Go.RowKit
set_option linter.unusedVariables false
set_option linter.unusedSimpArgs false

class FuncTy (P : Program) (T : Nat) : Prop where
  out : ∃ d, P.underlying T = some d ∧ (match d with | .func .. => True | _ => False)
def fnTyB (P : Program) (T : Nat) : Bool := match P.underlying T with
  | some (.func ..) => true
  | _ => false
theorem FuncTy.of {P : Program} {T : Nat} (h : fnTyB P T = true) : FuncTy P T := by
  unfold fnTyB at h
  cases hd : P.underlying T with
  | none => rw [hd] at h; cases h
  | some d =>
    rw [hd] at h
    refine ⟨d, hd, ?_⟩
    cases d <;> first | trivial | cases h
section
variable {ro : Option Nat} {P : Program} {n : Nat} {w0 : World} {own : List Nat} {ds : List Deferred} {e : Env} {hs : Hp} {Q : PostD}
variable {ops : Array Oper} {rest : List Oper} {K : Env → Hp → Prop} {d : Nat} {ty : TypeId} {pos : String} {aft : Array Edge}
theorem Val.eql_func_nil {T U : Nat} {x y : Operand} {f : FuncId} {us vs : Array Value} (hx : ev e x = some (.func (.func f) us vs)) (hy : ev e y = some .nilFunc) [hT : FuncTy P T] :
    Val P n w0 own e hs (.binOp .eql T x y U) (.bool false) := fun _ w ty pos aft g d hr s => by
  obtain ⟨dd, hd, hm⟩ := hT.out
  have h : (Op.equalIn (9999 + 1) T (.func (.func f) us vs) .nilFunc).run P w = .ok false w := by
    cases dd <;> first | exact hm.elim | (rw [Op.equalIn]; simp [run_underlying hd])
  simp only [execOp, hr.eval hx, hr.eval hy, eqGuard, binOp, Op.equal, Op.maxDepth]
  simp [h]
theorem JFL.ef {op : Op} {R : Value → Hp → Prop} (h : Eff P n w0 own e hs op R) (k : ∀ v hs', R v hs' → JFL ro P n w0 own ops rest ds ((d, v) :: e) hs' K) (hdn : Nat.blt d n = true := by rfl) (hnd : ndOp op = true := by rfl) :
    JFL ro P n w0 own ops (⟨some d, op, ty, pos, aft, none⟩ :: rest) ds e hs K := by
  intro a w hr s Q hq
  unfold wpListIn
  rw [if_pos (by rfl)]
  have h1 := h { a with defers := [] } w ty pos aft none (some d) (fun a' w' => ∃ v hs', a' = Act.put { a with defers := [] } (some d) v ∧ R v hs' ∧ Sat w0 own hs' w') (fun _ _ _ => False) hr.rep s (fun v hs' w' r s' => ⟨v, hs', rfl, r, s'⟩)
  have h2 := lift_op (ro := ro) (ds := ds) (K := wpListIn (Rnd ro) 0 P ops Q rest) (Q := Q) hnd ?_ (fun _ _ _ _ h => h) h1
  · rw [hr.act] at h2
    exact h2
  · rintro a' w' ⟨v, hs', rfl, r, s'⟩
    have e1 : ({ (Act.put { a with defers := [] } (some d) v) with defers := (Act.put { a with defers := [] } (some d) v).defers ++ ds } : Act) = a.put (some d) v := by
      have := hr.nd
      cases a
      simp [Act.put] at this ⊢
      exact this.symm
    rw [e1]
    exact k v hs' r _ _ (hr.put (Nat.le_of_ble_eq_true hdn) v) s' Q hq
theorem JFL.pc {g : Nat} {f : Operand} {args : List Operand} {at_ : Array TypeId} {cap vals : List Value} {v : Value}
    (hf : ev e f = some (.func (.func g) #[] ⟨cap⟩)) (ha : evs e args = some vals) (hc : ∀ w, Sat w0 own hs w → Is P g (vals ++ cap) w v) (k : JFL ro P n w0 own ops rest ds ((d, v) :: e) hs K) [hg : FnT P g] (hdn : Nat.blt d n = true := by rfl) :
    JFL ro P n w0 own ops (⟨some d, .call { callee := .value f, args := ⟨args⟩, argTypes := at_ }, ty, pos, aft, none⟩ :: rest) ds e hs K :=
  JFL.ef (.call0 hf ha hc) (fun _ _ ⟨_, ⟨h1, h2⟩, h3⟩ => by subst h1; subst h2; subst h3; exact k) hdn rfl
end
end V
end Go

/- wire.All as an iterator; what is told of bytes, by the law and by the document. -/
namespace Go.Proofs.Ytcgnbdgagkhehaa
open Go.V
set_option linter.unusedVariables false
set_option linter.unusedSimpArgs false

instance : FuncTy Try.prog 42 := FuncTy.of (by kernel_rfl)
/-- piece i of bytes; how many there are -/
def chk (ys : List (BitVec 8)) (i : Nat) : List (BitVec 8) := (ys.drop (64 * i)).take 64
def nch (ys : List (BitVec 8)) : Nat := (ys.length + 63) / 64
theorem chk_len (ys : List (BitVec 8)) (i : Nat) : (chk ys i).length = min 64 (ys.length - 64 * i) := by simp [chk]
def fr (zs : List (BitVec 8)) : List Value := [.agg ⟨fcells (unpk zs).1 (unpk zs).2.1⟩, .int .i64 (unpk zs).2.2]
def frs (ys : List (BitVec 8)) : List (List Value) := (List.range (nch ys)).map fun i => fr (chk ys i)
theorem frs_len (ys : List (BitVec 8)) : (frs ys).length = nch ys := by simp [frs]
theorem frs_get (ys : List (BitVec 8)) (i : Nat) (h : i < (frs ys).length) : (frs ys)[i] = fr (chk ys i) := by simp [frs]
def tcells (zs : List (BitVec 8)) : List Value := fcells (unpk zs).1 (unpk zs).2.1 ++ [.int .i64 (unpk zs).2.2]
theorem tcells_len (zs : List (BitVec 8)) : (tcells zs).length = 9 := by simp [tcells, fcells_length (unpk_ws zs)]
theorem tcells_ones (zs : List (BitVec 8)) : ones (tcells zs) = true := by
  have := fcells_ones (unpk zs).1 (unpk zs).2.1
  simp only [ones, tcells, List.all_append] at this ⊢
  rw [this]; rfl
def trows (ys : List (BitVec 8)) (k : Nat) : List Value := (List.range k).flatMap fun i => tcells (chk ys i)
theorem trows_succ (ys : List (BitVec 8)) (k : Nat) : trows ys (k + 1) = trows ys k ++ tcells (chk ys k) := by simp [trows, List.range_succ]
theorem trows_len (ys : List (BitVec 8)) (k : Nat) : (trows ys k).length = k * 9 := by
  induction k with
  | zero => rfl
  | succ k ih => rw [trows_succ, List.length_append, ih, tcells_len]; omega
theorem bytsTk (ys : List (BitVec 8)) (k : Nat) : (byts ys).take k = byts (ys.take k) := by simp [byts]
theorem bytsDr (ys : List (BitVec 8)) (k : Nat) : (byts ys).drop k = byts (ys.drop k) := by simp [byts]
theorem fill_nine {f z : List Value} {e : Value} (hf : f.length = 8) (hz : z.length = 9) : fillL [(0, 8), (8, 1)] z [(0, f), (1, [e])] = some (f ++ [e]) := by
  match f, hf, z, hz with
  | [a, b, c, d, e', g, h, i], _, [z0, z1, z2, z3, z4, z5, z6, z7, z8], _ => rfl
theorem All_ok (w : World) (A : Option Addr) (len cap : Nat) : Does Try.prog 22 [.slice A len cap] [] w (fun v hs => ∃ b, v = .func (.func 32) #[] #[.pointer (some ⟨b, 0, none⟩)] ∧ hs = [(b, .cells [.slice A len cap] 22)]) := by
  refine Does.of (n := 4) Try.func22 rfl rfl rfl rfl ?_
  refine .seq ((.region (.nw (.box rfl rfl) fun b1 => (.v (.assign rfl) (.nil ?_)))))
  refine .seq ((.region (.v (.makeFunc (us := []) rfl rfl) (.v (.assign rfl) (.nil ?_)))))
  exact .ret ⟨[_], ⟨rfl, trivial⟩, b1, rfl, rfl⟩
structure AS where
  i : Nat
  A : Option Addr
  c : Nat
  h : Hp
  p : Hp
set_option maxRecDepth 20000 in
set_option maxHeartbeats 1000000 in
theorem All_its (w : World) (pre : Hp) (bb : Nat) (A : Option Addr) (cap : Nat) (ys : List (BitVec 8)) (hb : ys.length ≤ 100000000000) (hM : (bb, Ch.cells [.slice A ys.length cap] 22) ∈ pre) (hR : ∀ W, Sat w (bl pre) pre W → Rd W [] A (byts ys)) :
    Its Try.prog 32 [.pointer (some ⟨bb, 0, none⟩)] (frs ys) w pre := by
  intro l J Jx hJ0 hyield
  haveI : Mem bb (.cells [.slice A ys.length cap] 22) pre := ⟨hM⟩
  refine Does.ofF (n := 26) Try.func32 rfl rfl rfl rfl ?_
  refine .seq (.region (.v (.load (v := .slice A ys.length cap) rfl (.one rfl)) (.appT (h := []) (vs := []) (c := 0) (k := ys.length) (news := byts ys) rfl rfl (OwnS.nil _ _) (fun w s => (hR w s).src (by rw [byts_length]; omega) (by omega)) (by rw [byts_length]; omega) (byts_ones _) (by omega) (by omega) ?_)))
  intro v1 h1 o1
  rw [Nat.zero_add, List.nil_append] at o1
  obtain ⟨A1, d1, rfl⟩ := OwnS.slice o1
  refine .v (.assign rfl) (.nil ?_)
  refine .block (.loop (X := AS) (fun x => [(0, .func (.yield l) #[] #[]), (3, .slice x.A (ys.length - 64 * x.i) x.c)]) (fun x => x.h ++ x.p) (fun x => x.i ≤ nch ys ∧ OwnS 5 1 (.slice x.A (ys.length - 64 * x.i) x.c) (ys.length - 64 * x.i) (byts (ys.drop (64 * x.i))) x.h ∧ J x.i x.p ∧ ∀ W, Sat w (bl pre) (x.h ++ x.p) W → True) (fun x => nch ys - x.i) ⟨0, A1, d1, h1, pre⟩
    ⟨Nat.zero_le _, o1, hJ0, fun _ _ => trivial⟩ (.cons rfl (.cons rfl (.nil _))) (fun _ s => s) ?_)
  rintro ⟨i, A, c, h, p⟩ ⟨hi, ho, hJ, -⟩
  dsimp only at hi ho hJ ⊢
  have hn : nch ys = (ys.length + 63) / 64 := rfl
  refine .seq (.seq (.region (.v (.move rfl) (.v (.len rfl) (.v (.gtr rfl rfl) (.nil ?_))))))
  refine .cond_dec rfl (fun g1 => .skip ?_) (fun g1 => .exit ?_)
  · have hil : i < (frs ys).length := by rw [frs_len]; omega
    have hcl := (OwnS.cap_ ho).2
    have hmin : (min ((ys.length - 64 * i : Nat) : Int) 64) = ((chk ys i).length : Nat) := by rw [chk_len]; omega
    refine .block (.seq (.region (.v (.move rfl) (.v (.len rfl) (.v (.min2 rfl rfl) (.v (.assign rfl) (.nil ?_)))))))
    rw [hmin]
    have hck := chk_len ys i
    refine .seq (.seq (.regionY (.v (.move rfl) (.v (.move rfl) (.v (.move rfl) (.v (.move rfl) (.v (.slHiMax rfl rfl rfl (by omega) (by omega) (by omega)) ?_)))))))
    refine .pc (v := unpkV (chk ys i)) rfl rfl (fun W s => Unpack_ok W _ _ _ (chk ys i) (by
      have := (OwnS.rd ho s (no := []) (fun y hy => List.mem_append_left _ hy) (by simp)).take 64
      rw [bytsTk] at this
      exact this) (by rw [Int.toNat_natCast])) ?_
    refine .v (.extract (v := .agg ⟨fcells (unpk (chk ys i)).1 (unpk (chk ys i)).2.1⟩) rfl rfl) (.v (.extract (v := .int .i64 (unpk (chk ys i)).2.2) rfl rfl) ?_)
    refine .yield (vals := (frs ys)[i]) (pre := p) (fr := h) rfl (by rw [frs_get]; rfl) List.perm_append_comm (fun W s => hyield i hil W p hJ (s.sub (List.sublist_append_right _ _))) ?_
    rintro _ h' (⟨rfl, hJ'⟩ | ⟨rfl, hJx⟩)
    · refine .v (.not rfl) (.nil ?_)
      refine .cond (b := false) rfl (fun h => absurd h (by simp)) (fun _ => .skip ?_)
      refine .region (.v (.move rfl) (.v (.move rfl) (.v (.slLo rfl rfl (by omega) (by omega)) (.v (.assign rfl) (.nil ?_)))))
      have hcut := OwnS.cut ho (i := (chk ys i).length) (by omega) (by decide)
      refine ⟨rfl, ⟨i + 1, cutA A c (((chk ys i).length : Nat) : Int).toNat 1, c - (((chk ys i).length : Nat) : Int).toNat, h, h'⟩, ⟨by show i + 1 ≤ nch ys; rw [frs_len] at hil; omega, ?_, hJ', fun _ _ => trivial⟩, by show nch ys - (i + 1) < nch ys - i; rw [frs_len] at hil; omega, .cons rfl (.cons ?_ (.nil _)), fun _ s => s.perm List.perm_append_comm⟩
      · dsimp only
        rw [Int.toNat_natCast]
        rw [Nat.mul_one, bytsDr, List.drop_drop] at hcut
        have e1 : ys.length - 64 * i - (chk ys i).length = ys.length - 64 * (i + 1) := by omega
        rw [e1] at hcut
        by_cases hlast : 64 ≤ ys.length - 64 * i
        · have e2 : 64 * i + (chk ys i).length = 64 * (i + 1) := by omega
          rw [e2] at hcut; exact hcut
        · rw [List.drop_eq_nil_of_le (by omega)] at hcut
          rw [List.drop_eq_nil_of_le (by omega)]; exact hcut
      · show some (Value.slice _ (ys.length - 64 * i - (((chk ys i).length : Nat) : Int).toNat) _) = some (Value.slice _ (ys.length - 64 * (i + 1)) _)
        rw [Int.toNat_natCast, show ys.length - 64 * i - (chk ys i).length = ys.length - 64 * (i + 1) from by omega]
    · refine .v (.not rfl) (.nil ?_)
      refine .cond (b := true) rfl (fun _ => ?_) (fun h => absurd h (by simp))
      exact .ret ⟨.inr rfl, [], h', [], rfl, fun _ s => s.sub (List.sublist_append_left _ _), trivial, .inr hJx⟩
  · have hie : i = nch ys := by omega
    subst hie
    exact ⟨.inl rfl, [], p, [], rfl, fun _ s => s.sub (List.sublist_append_right _ _), trivial, .inl (by rw [frs_len]; exact hJ)⟩
end Go.Proofs.Ytcgnbdgagkhehaa

/- what is told of bytes, by the law (told) and by the document (All). -/
namespace Go.Proofs.Ytcgnbdgagkhehaa
open Go.V
set_option linter.unusedVariables false
set_option linter.unusedSimpArgs false

theorem nch_le (ys : List (BitVec 8)) : nch ys ≤ ys.length := by unfold nch; omega
set_option maxRecDepth 20000 in
set_option maxHeartbeats 1000000 in
theorem told_ok (w : World) (A : Option Addr) (cap : Nat) (ys : List (BitVec 8)) (hb : ys.length ≤ 100000000000) (hx : Rd w [] A (byts ys)) :
    Does Try.prog 24 [.slice A ys.length cap] [] w (fun v hs => OwnS 52 9 v (nch ys) (trows ys (nch ys)) hs) := by
  have hn := nch_le ys
  refine Does.ofF (n := 25) Try.func24 rfl rfl rfl rfl ?_
  refine .seq ((.region (.v (.assign rfl) (.nil ?_))))
  refine .seq ((.region (.nw .alloc fun b3 => (.nil ?_))))
  refine .seq ((.region (.v (.move rfl) ?_)))
  refine .ef (.call0 rfl rfl fun w s => All_ok w _ _ _) ?_
  rintro _ _ ⟨_, ⟨bb, rfl, rfl⟩, rfl⟩
  refine .v (.assign rfl) (.nil ?_)
  refine .seq (.seq ((.region (.v (.move rfl) (.v (.eql_func_nil rfl rfl) (.nil ?_))))))
  refine .cond rfl (fun h1 => absurd h1 (by simp)) (fun _ => .skip ?_)
  refine .seq (.seq ((.region (.v (.move rfl) (.nil ?_)))))
  refine .block (.rangeFunc (frs ys) (fun i h => ∃ v h', h = h' ++ [(bb, Ch.cells [.slice A ys.length cap] 22), (b3, .cells [v] 49)] ∧ OwnS 52 9 v i (trows ys i) h') (fun _ _ => False) rfl
    ⟨_, [], rfl, OwnS.nil _ _⟩ rfl (fun x hx => by obtain ⟨i, hi, rfl⟩ := List.mem_iff_getElem.1 hx; rw [frs_get]; rfl) (fun p q W s => ?_) (fun l D i hi h W rc rc' hI sW => ?_) (fun D h hI => ?_) (fun _ _ _ h => h.elim))
  · exact All_its W _ bb A cap ys hb (by simp) fun W2 s2 => hx.keep0 (show Sat w [] _ W2 from by have := Sat.call (pre := _) (fr := []) (by simpa using s) s2; rw [List.append_nil] at this; exact this)
  · obtain ⟨v, h', rfl, ho⟩ := hI
    rw [frs_len] at hi
    rw [frs_get]
    refine .seq ((.region (.nw .alloc fun b5 => (.st (.storeW (vs := fcells (unpk (chk ys i)).1 (unpk (chk ys i)).2.1) rfl rfl (fcells_length (unpk_ws _)) (fcells_ones _ _) rfl) (.nil ?_)))))
    refine .region (.v (.assign rfl) (.nil ?_))
    refine ⟨rfl, rfl, (b5, _) :: (h' ++ [_, _]), fun _ s => s.perm ((List.Perm.swap _ _ _).trans ((List.Perm.swap _ _ _).cons _)), ?_⟩
    refine .block (.region (.v (.load (v := v) rfl (.one rfl)) (.v (.loadA (m := 8) rfl .whole (fcells_length (unpk_ws _))) (.v (.move rfl) (.v (.build (out := tcells (chk ys i)) rfl (fill_nine (fcells_length (unpk_ws _)) rfl)) (.push (h := h') (oc := tcells (chk ys i)) (c := i) (vs := trows ys i) rfl rfl ho rfl (tcells_len _) (tcells_ones _) (by omega) (by omega) fun b v' h2 o2 => ?_))))))
    obtain ⟨A1, d1, rfl⟩ := OwnS.slice o2
    refine .st (.storeL (l' := [.slice A1 (i + 1) d1]) rfl rfl rfl) (.nil ?_)
    rw [← trows_succ] at o2
    have ep : List.Perm (h2 ++ [(l, rc'), (D, dfr), (b5, Ch.cells (fcells (unpk (chk ys i)).1 (unpk (chk ys i)).2.1) 31), (bb, Ch.cells [Value.slice A ys.length cap] 22), (b3, Ch.cells [.slice A1 (i + 1) d1] 49)]) ((b5, Ch.cells (fcells (unpk (chk ys i)).1 (unpk (chk ys i)).2.1) 31) :: (l, rc') :: (D, dfr) :: (h2 ++ [(bb, Ch.cells [Value.slice A ys.length cap] 22), (b3, Ch.cells [.slice A1 (i + 1) d1] 49)])) := by
      refine (List.perm_append_comm).trans ?_
      refine (List.Perm.append_right h2 ((List.Perm.swap _ _ _).cons _)).trans ?_
      refine (List.Perm.append_right h2 (List.Perm.swap _ _ _)).trans ?_
      exact (((List.perm_append_comm (l₁ := [(bb, _), (b3, _)])).cons _).cons _).cons _
    exact ⟨_, fun _ s => (s.perm ep).sub (List.sublist_cons_self _ _), _, h2, rfl, o2⟩
  · obtain ⟨v, h', rfl, ho⟩ := hI
    rw [frs_len] at ho
    refine .seq ((.region (.v (.load (v := v) rfl (.one rfl)) (.v (.assign rfl) (.nil ?_)))))
    refine .ret ?_
    exact ⟨.inr rfl, [D], h', [_], rfl, fun _ s => s.sub (by simp), ⟨rfl, trivial⟩, ho⟩

theorem chk_eq (ys : List (BitVec 8)) (i : Nat) : byts (chk ys i) = (byts (ys.drop (64 * i))).take 64 := by rw [bytsTk]; rfl
structure RA where
  i : Nat
  A : Option Addr
  c : Nat
  v : Value
  h : Hp
set_option maxRecDepth 20000 in
set_option maxHeartbeats 1000000 in
theorem refAll_ok (w : World) (A : Option Addr) (cap : Nat) (ys : List (BitVec 8)) (hb : ys.length ≤ 100000000000) (hc : ys.length ≤ cap) (hx : Rd w [] A (byts ys)) :
    Does Try.prog 23 [.slice A ys.length cap] [] w (fun v hs => OwnS 47 9 v (nch ys) (trows ys (nch ys)) hs) := by
  have hn : nch ys = (ys.length + 63) / 64 := rfl
  refine Does.of (n := 31) Try.func23 rfl rfl rfl rfl ?_
  refine .seq ((.region (.v (.assign rfl) (.nil ?_))))
  refine .seq ((.region (.v (.assign rfl) (.nil ?_))))
  refine .seq (.block (.loop (X := RA) (fun x => [(0, .slice x.A (ys.length - 64 * x.i) x.c), (3, x.v)]) (fun x => x.h) (fun x => 64 * x.i ≤ ys.length ∧ ys.length - 64 * x.i ≤ x.c ∧ Rd w [] x.A (byts (ys.drop (64 * x.i))) ∧ OwnS 47 9 x.v x.i (trows ys x.i) x.h) (fun x => ys.length - x.i) ⟨0, A, cap, .slice none 0 0, []⟩
    ⟨by simp, hc, hx, OwnS.nil _ _⟩ (.cons rfl (.cons rfl (.nil _))) (fun _ s => s) ?_))
  rintro ⟨i, A, c, v, h⟩ ⟨hi, hic, hR, ho⟩
  dsimp only at hi hic hR ho ⊢
  refine .seq (.seq ((.region (.v (.move rfl) (.v (.len rfl) (.v (.geq rfl rfl) (.nil ?_)))))))
  refine .cond_dec rfl (fun h1 => .skip ?_) (fun h1 => .exit ?_)
  · have hck := chk_len ys i
    refine .block (.seq ((.region (.v (.move rfl) (.v (.slHi rfl rfl (by omega) (by omega)) ?_)))))
    refine .ef (.call0 rfl rfl fun w s => refUnpack_ok w _ _ _ (chk ys i) (by rw [chk_eq]; exact (hR.keep0 s).take 64) (by omega)) ?_
    rintro _ h ⟨_, ⟨rfl, rfl⟩, rfl⟩
    refine .v (.move rfl) (.v (.extract (v := .agg ⟨fcells (unpk (chk ys i)).1 (unpk (chk ys i)).2.1⟩) rfl rfl) (.v (.extract (v := .int .i64 (unpk (chk ys i)).2.2) rfl rfl) (.nw .alloc fun b4 => (.st (.storeW (vs := fcells (unpk (chk ys i)).1 (unpk (chk ys i)).2.1) rfl rfl (fcells_length (unpk_ws _)) (fcells_ones _ _) rfl) (.v (.assign rfl) (.nil ?_))))))
    refine .seq ((.region (.v (.move rfl) (.v (.loadA (m := 8) rfl .whole (fcells_length (unpk_ws _))) (.v (.move rfl) (.v (.build (out := tcells (chk ys i)) rfl (fill_nine (fcells_length (unpk_ws _)) rfl)) (.push (h := h) (oc := tcells (chk ys i)) (c := i) (vs := trows ys i) rfl rfl ho rfl (tcells_len _) (tcells_ones _) (by omega) (by omega) fun b v' h2 o2 => (.v (.assign rfl) (.nil ?_)))))))))
    refine .region (.v (.move rfl) (.v (.slLo rfl rfl (by omega) (by omega)) (.v (.assign rfl) (.nil ?_))))
    rw [← trows_succ] at o2
    refine ⟨⟨i + 1, cutA A c 64 1, c - 64, v', h2⟩, ⟨by dsimp only; omega, ?_, ?_, o2⟩, by dsimp only; omega, .cons rfl (.cons rfl (.nil _)), fun _ s => s.sub (List.sublist_append_left _ _)⟩
    · dsimp only; omega
    · have hcut := Rd.cut (cap := c) (k := 64) (m := 1) hR (by rw [byts_length, List.length_drop]; omega)
      rw [Nat.mul_one, bytsDr, List.drop_drop] at hcut
      exact hcut
  · refine .mid (X := Value × Hp) (fun x => [(3, x.1)]) (fun x => x.2) (fun x => OwnS 47 9 x.1 (nch ys) (trows ys (nch ys)) x.2) (.seq ((.region (.v (.move rfl) (.v (.len rfl) (.v (.gtr rfl rfl) (.nil ?_))))))) ?_
    · refine .cond_dec rfl (fun h2 => ?_) (fun h2 => .skip ?_)
      · have e1 : nch ys = i + 1 := by omega
        have hck := chk_len ys i
        have hu : unpkV (chk ys i) = _ := unpk_short (by omega)
        have et : tcells (chk ys i) = fcells 0#8 zw ++ [.int .i64 20] := by
          unfold unpkV at hu
          simp only [Value.tuple.injEq, Array.mk.injEq, List.cons.injEq, Value.agg.injEq, and_true] at hu
          obtain ⟨hu1, hu2⟩ := hu
          unfold tcells; rw [hu1, hu2]
        refine .region (.v (.move rfl) (.v (.build (out := fcells 0#8 zw ++ [.int .i64 20]) rfl rfl) (.push (h := h) (oc := fcells 0#8 zw ++ [.int .i64 20]) (c := i) (vs := trows ys i) rfl rfl ho rfl rfl rfl (by omega) (by omega) fun b v' h2 o2 => (.v (.assign rfl) (.nil ?_)))))
        rw [← et, ← trows_succ, ← e1] at o2
        exact ⟨(v', h2), o2, .cons rfl (.nil _), fun _ s => s.sub (List.sublist_append_left _ _)⟩
      · have e1 : nch ys = i := by omega
        rw [← e1] at ho
        exact ⟨(v, h), ho, .cons rfl (.nil _), fun _ s => s⟩
    · rintro ⟨v, h⟩ ho
      refine .seq ((.region (.v (.move rfl) (.v (.assign rfl) (.nil ?_)))))
      refine .ret ?_
      exact ⟨[v], ⟨rfl, trivial⟩, ho⟩
end Go.Proofs.Ytcgnbdgagkhehaa

/- WireOneForm: the walk. -/
namespace Go.Proofs.Ytcgnbdgagkhehaa
open Go.V
set_option linter.unusedVariables false

theorem WireOneForm_ok (w : World) (k : BitVec 8) (ws : List (BitVec 64)) (hw : ws.length = 7) (A : Option Addr) (len cap : Nat) (xs : List (BitVec 8)) (hx : Rd w [] A (byts xs)) (hl : len = xs.length) :
    Does Try.prog 6 [.agg ⟨fcells k ws⟩, .slice A len cap] [] w (fun v hs => v = .bool true ∧ hs = []) := by
  refine Does.pure (Does.of (n := 43) Try.func6 rfl rfl rfl rfl ?_)
  have hU := unpk_ws xs
  have hp : unpkV (packed k ws) = .tuple ⟨[.agg ⟨fcells k ws⟩, .int .i64 0]⟩ := by rw [unpkV, unpk_packed _ _ hw]; rfl
  have hE : cellsEq (fcells k ws) (fcells k ws) = true := by rw [fcells_eq hw hw]; simp
  refine .seq ((.region (.nw (.box rfl rfl) fun b2 => (.v (.assign rfl) (.nil ?_)))))
  refine .seq (.seq ((.region (.ef (.call0 rfl rfl fun w s => lives_ok w) ?_))))
  rintro _ _ ⟨_, ⟨rfl, rfl⟩, rfl⟩
  refine .v (.not rfl) (.nil ?_)
  refine .cond_false rfl (.skip ?_)
  refine .seq ((.region (.v (.loadA rfl .whole (fcells_length hw)) (.ef (.call0 rfl rfl fun w s => Pack_ok w k ws hw) ?_))))
  rintro _ _ ⟨_, ⟨rfl, rfl⟩, rfl⟩
  refine .nw .alloc fun b5 => (.st (.storeW rfl rfl (by rw [byts_length, packed_length hw]) (byts_ones _) (by simp)) (.nil ?_))
  refine .seq ((.region (.v (.slArr rfl) (.ef (.call0 rfl rfl fun w s => Unpack_ok w _ _ 64 (packed k ws) (Rd.chunk s (by simp) fun j v hv => by rw [Nat.zero_add]; exact hv) (packed_length hw).symm) ?_))))
  rintro _ _ ⟨_, ⟨rfl, rfl⟩, rfl⟩
  rw [hp]
  refine .v (.move rfl) (.v (.extract rfl rfl) (.v (.extract rfl rfl) (.nw .alloc fun b6 => (.st (.storeW rfl rfl (fcells_length hw) (fcells_ones _ _) rfl) (.v (.assign rfl) (.nil ?_))))))
  refine .seq (.seq ((.region (.v (.move rfl) (.v (.nei rfl rfl) (.v (.move rfl) (.split (t := 21) rfl (fun h => absurd rfl h) (fun _ => ?_))))))))
  refine .v (.loadA rfl .whole (fcells_length hw)) (.v (.loadA rfl .whole (fcells_length hw)) (.v (.neA rfl rfl (fcells_oks hw) (fcells_oks hw)) (.v (.pick rfl rfl rfl) (.nil ?_))))
  refine .cond (b := !cellsEq (fcells k ws) (fcells k ws)) rfl (fun h => absurd h (by rw [hE]; simp)) (fun _ => .skip ?_)
  refine .seq ((.region (.v (.move rfl) (.ef (.call0 rfl rfl fun w s => Unpack_ok w _ _ cap xs (Rd.keep0 (own := bl []) hx s) hl) ?_))))
  rintro _ _ ⟨_, ⟨rfl, rfl⟩, rfl⟩
  refine .v (.move rfl) (.v (.extract (vs := [.agg ⟨fcells (unpk xs).1 (unpk xs).2.1⟩, .int .i64 (unpk xs).2.2]) rfl rfl) (.v (.extract (vs := [.agg ⟨fcells (unpk xs).1 (unpk xs).2.1⟩, .int .i64 (unpk xs).2.2]) rfl rfl) (.nw .alloc fun b8 => (.st (.storeW rfl rfl (fcells_length hU) (fcells_ones _ _) rfl) (.v (.assign rfl) (.nil ?_))))))
  refine .seq (.seq ((.region (.v (.move rfl) (.v (.nei rfl rfl) (.nil ?_))))))
  refine .cond_dec rfl (fun h3 => ?_) (fun h3 => .skip ?_)
  · refine .seq ((.region (.v (.loadA rfl .whole (fcells_length hU)) (.v (.build (out := fcells 0#8 zw) rfl rfl) (.v (.eqA rfl rfl (fcells_oks hU) (fcells_oks rfl)) (.v (.assign rfl) (.nil ?_)))))))
    refine .ret ?_
    have h4 := unpk_wrong (xs := xs) (by omega)
    exact ⟨[_], ⟨rfl, trivial⟩, by rw [fcells_eq hU (show zw.length = 7 from rfl)]; simp [tup, h4]⟩
  · have h4 := unpk_right (xs := xs) (by omega)
    refine .seq ((.region (.v (.loadA rfl .whole (fcells_length hU)) (.ef (.call0 rfl rfl fun w s => Pack_ok w _ _ hU) ?_))))
    rintro _ _ ⟨_, ⟨rfl, rfl⟩, rfl⟩
    rw [h4]
    have hlx : xs.length = 64 := by rw [← h4]; exact packed_length hU
    refine .st (.storeW rfl rfl (by rw [byts_length, hlx]) (byts_ones _) (by rw [byts_length, packed_length hw])) (.nil ?_)
    refine .seq ((.drawT 5 (by kernel_rfl) (by kernel_rfl) (.v (.slArr rfl) (.v (.bytesStr (xs := xs) rfl hlx .whole) (.v (.move rfl) (.v (.bytesStrR (xs := xs) rfl hl.symm fun w s => Rd.keep0 (own := bl []) hx s) (.v (.eql_string rfl rfl) (.nil ?_))))))))
    refine .v (.assign rfl) (.nil ?_)
    refine .ret ?_
    exact ⟨[_], ⟨rfl, trivial⟩, by simp [tup]⟩
theorem WireOneForm_walk (w : World) (cs : List Value) (h : okw [.i .u8, .i .u64, .i .u64, .i .u64, .i .u64, .i .u64, .i .u64, .i .u64] cs) (A : Option Addr) (len cap : Nat) (xs : List (BitVec 8)) (hx : Rd w [] A (byts xs)) (hl : len = xs.length) :
    Does Try.prog 6 [.agg ⟨cs⟩, .slice A len cap] [] w (fun v hs => v = .bool true ∧ hs = []) := by
  obtain ⟨k, ws, hw, rfl⟩ := okw_frame h
  exact WireOneForm_ok w k ws hw A len cap xs hx hl
end Go.Proofs.Ytcgnbdgagkhehaa

/- WireAlone: the walk. -/
namespace Go.Proofs.Ytcgnbdgagkhehaa
open Go.V
set_option linter.unusedVariables false
set_option linter.unusedSimpArgs false

theorem toldRow {E n' c k i : Nat} {A : Option Addr} {ys : List (BitVec 8)} {h : Hp} (w0 : World) (own : List Nat) (o : OwnS E 9 (.slice A n' c) k (trows ys k) h) (hi : i < k) :
    ∃ b o, A = some ⟨b, o, none⟩ ∧ ∀ (hs' : Hp), h ⊆ hs' → ∀ z : Int, z.toNat = i → At w0 own hs' ⟨b, o + z.toNat * 9, none⟩ (tcells (chk ys i)) := by
  obtain ⟨b, o', l, rfl, -, -, -, -⟩ := OwnS.some_ o (by omega)
  refine ⟨b, o', rfl, fun hs' hs z hz => ?_⟩
  have := recAt (fun i => tcells (chk ys i)) 9 (fun _ => tcells_len _) (l := List.range k) (i := i) (z := z) (OwnS.at0 (w0 := w0) (own := own) o hs) (by simpa using hi) hz
  simpa using this
theorem tcells_oks (zs : List (BitVec 8)) : oks [.i .u8, .i .u64, .i .u64, .i .u64, .i .u64, .i .u64, .i .u64, .i .u64, .i .i64] (tcells zs) :=
  oks_append (fcells_oks (unpk_ws zs)) ⟨rfl, trivial⟩
theorem tcells_same (zs : List (BitVec 8)) : cellsEq (tcells zs) (tcells zs) = true := (cellsEq_iff (tcells_oks zs) (tcells_oks zs)).2 rfl
theorem chk_left {p q : List (BitVec 8)} {i : Nat} (h : 64 * (i + 1) ≤ p.length) : chk (p ++ q) i = chk p i := by
  unfold chk
  rw [List.drop_append_of_le_length (by omega), List.take_append_of_le_length (by rw [List.length_drop]; omega)]
theorem chk_right {p q : List (BitVec 8)} {n : Nat} (i : Nat) (h : p.length = 64 * n) : chk (p ++ q) (n + i) = chk q i := by
  unfold chk
  rw [List.drop_append, List.drop_of_length_le (by omega), List.nil_append]
  congr 2; omega
theorem nch_app {p q : List (BitVec 8)} {n : Nat} (h : p.length = 64 * n) : nch (p ++ q) = n + nch q := by
  unfold nch; rw [List.length_append]; omega
theorem told_at (w : World) (A : Option Addr) (len cap : Nat) (ys : List (BitVec 8)) (hl : len = ys.length) (hb : ys.length ≤ 100000000000) (hx : Rd w [] A (byts ys)) :
    Does Try.prog 24 [.slice A len cap] [] w (fun v hs => OwnS 52 9 v (nch ys) (trows ys (nch ys)) hs) := by subst hl; exact told_ok w A cap ys hb hx
set_option maxRecDepth 20000 in
set_option maxHeartbeats 2000000 in
theorem WireAlone_ok (w : World) (A B : Option Addr) (len cap len2 cap2 : Nat) (xs ys zs : List (BitVec 8)) (hx : Rd w [] A (byts xs)) (hl : len = xs.length) (hc : len ≤ cap) (hy : Rd w [] B (byts ys)) (hl2 : len2 = ys.length)
    (hz : zs.length = 64) (hb : len ≤ 1048576) (hb2 : len2 ≤ 1048576) :
    Does Try.prog 9 [.slice A len cap, .slice B len2 cap2, .agg ⟨byts zs⟩] [] w (fun v hs => v = .bool true ∧ hs = []) := by
  refine Does.pure (Does.of (n := 107) Try.func9 rfl rfl rfl rfl ?_)
  refine .seq ((.region (.nw (.box rfl rfl) fun b5 => (.v (.assign rfl) (.nil ?_)))))
  refine .seq (.seq ((.region (.ef (.call0 rfl rfl fun w s => lives_ok w) ?_))))
  rintro _ _ ⟨_, ⟨rfl, rfl⟩, rfl⟩
  refine .v (.not rfl) (.nil ?_)
  refine .cond_false rfl (.skip ?_)
  refine .seq ((.region (.v (.move rfl) (.v (.len rfl) (.v (.quo rfl rfl (by decide)) (.v (.assign rfl) (.nil ?_)))))))
  obtain ⟨n, hn⟩ : ∃ n, n = len / 64 := ⟨_, rfl⟩
  have hq : IntKind.i64.wrap (((len : Nat) : Int).tdiv 64) = ((n : Nat) : Int) := by
    rw [Int.tdiv_eq_ediv_of_nonneg (by omega), wrap_i64 (by omega)]; omega
  rw [hq]
  have hpl : (xs.take (64 * n)).length = 64 * n := by rw [List.length_take]; omega
  have hxp : Rd w [] A (byts (xs.take (64 * n))) := by rw [← bytsTk]; exact hx.take _
  generalize hp : xs.take (64 * n) = p at hpl hxp
  have hn64 : 64 * n ≤ len := by omega
  clear hq hp
  refine .seq ((.drawP [1, 2, 3, 4, 6, 8, 0, 5, 7, 9, 10] [] (List.nil_subset _) (by kernel_rfl) (by kernel_rfl) ?_))
  refine .v (fun _ f => .move rfl) (.v (fun _ f => .move rfl) (.v (fun _ f => .muli rfl rfl (by omega)) (.v (fun _ f => .slHi rfl rfl (by omega) (by omega)) (.v (fun _ f => .slArr rfl) (.v (fun _ f => .move rfl) ?_)))))
  rw [show (((n : Nat) : Int) * 64).toNat = 64 * n from by omega]
  refine .ef (.buildSlice (out := []) rfl (by decide) rfl rfl) (fun _ _ _ _ => List.nil_subset _) ?_
  rintro _ _ ⟨b20, rfl, rfl⟩
  refine .ef (.append (c := 0) (k := 64 * n) (vs := []) (news := byts p) (h := [(b20, .cells [] 5)]) (fr := [(b5, _)]) rfl rfl ⟨rfl, .inr ⟨b20, 0, 0, [], rfl, rfl, by omega, by simp, by simp⟩⟩ (List.Perm.refl _) (fun w' s => (hxp.keep0 s).src (by rw [byts_length]; omega) (by omega)) (by rw [byts_length]; omega) (byts_ones _) (by omega) (by omega)) (fun _ _ _ _ => List.nil_subset _) ?_
  rintro v1 _ ⟨h1, o1, rfl⟩
  refine .ef (.append (c := 0 + 64 * n) (k := 64) (vs := [] ++ byts p) (news := byts zs) (h := h1) (fr := [(b5, _)]) rfl rfl o1 (List.Perm.refl _) (fun w' s => Src.of_at s .whole (by rw [byts_length]; omega)) (by rw [byts_length]; omega) (byts_ones _) (by omega) (by omega)) (fun _ _ _ _ => List.nil_subset _) ?_
  rintro v2 _ ⟨h2, o2, rfl⟩
  refine .ef (.append (c := 0 + 64 * n + 64) (k := len2) (vs := [] ++ byts p ++ byts zs) (news := byts ys) (h := h2) (fr := [(b5, _)]) rfl rfl o2 (List.Perm.refl _) (fun w' s => (hy.keep0 s).src (by rw [byts_length]; omega) (by omega)) (by rw [byts_length]; omega) (byts_ones _) (by omega) (by omega)) (fun _ _ _ _ => List.nil_subset _) ?_
  rintro v3 _ ⟨hA, oA, rfl⟩
  refine .v (fun _ f => .assign rfl) (.nil ?_)
  rw [List.nil_append, ← byts_append, ← byts_append, Nat.zero_add] at oA
  obtain ⟨AA, cA, rfl⟩ := OwnS.slice oA
  obtain ⟨al, hal⟩ : ∃ al, al = p ++ zs ++ ys := ⟨_, rfl⟩
  rw [← hal] at oA
  have hall : al.length = 64 * n + 64 + len2 := by rw [hal]; simp; omega
  have hpz : (p ++ zs).length = 64 * (n + 1) := by simp; omega
  have nA : nch al = n + 1 + nch ys := by rw [hal]; exact nch_app hpz
  have nZ : nch zs = 1 := by unfold nch; rw [hz]
  have nP : nch p = n := by unfold nch; rw [hpl]; omega
  have cP : ∀ i, i < n → chk al i = chk p i := fun i hi => by rw [hal, chk_left (by omega), chk_left (by omega)]
  have cZ : chk al n = chk zs 0 := by rw [hal, chk_left (by omega)]; exact chk_right 0 hpl
  have cY : ∀ i, chk al (n + 1 + i) = chk ys i := fun i => by rw [hal]; exact chk_right i hpz
  have hny : nch ys ≤ 1048576 := by have := nch_le ys; omega
  clear hal
  refine .seq ((.region (.v (.slArr rfl) (.ef (.call0 rfl rfl fun w' s => told_at w' _ 64 64 zs hz.symm (by omega) (Rd.chunk (b := b5) (l := byts zs) (T := 32) s (by simp) fun j v hv => by rw [Nat.zero_add]; exact hv)) ?_))))
  rintro v9 _ ⟨k1, o9, rfl⟩
  rw [nZ] at o9
  obtain ⟨A9, c9, rfl⟩ := OwnS.slice o9
  refine .v (.assign rfl) (.nil ?_)
  refine .seq ((.region (.v (.move rfl) (.ef (.call0 rfl rfl fun w' s => told_at w' AA _ cA al (by omega) (by omega) (OwnS.rd oA s (no := []) (fun y hy => by simp [hy]) (by simp))) ?_))))
  rintro v10 _ ⟨k2, o10, rfl⟩
  rw [nA] at o10
  obtain ⟨A10, c10, rfl⟩ := OwnS.slice o10
  refine .v (.assign rfl) (.nil ?_)
  refine .seq ((.region (.v (.move rfl) (.v (.move rfl) (.v (.muli rfl rfl (by omega)) (.v (.slHi rfl rfl (by omega) (by omega)) ?_))))))
  rw [show (((n : Nat) : Int) * 64).toNat = 64 * n from by omega]
  refine .ef (.call0 rfl rfl fun w' s => told_at w' A _ cap p hpl.symm (by omega) (hxp.keep0 s)) ?_
  rintro v11 _ ⟨k3, o11, rfl⟩
  rw [nP] at o11
  obtain ⟨A11, c11, rfl⟩ := OwnS.slice o11
  refine .v (.assign rfl) (.nil ?_)
  obtain ⟨b9, p9, rfl, r9⟩ := toldRow w [] o9 (i := 0) (by omega)
  obtain ⟨b10, p10, rfl, r10⟩ := toldRow w [] o10 (i := n) (by omega)
  refine .seq (.seq ((.drawK _ (fun _ h => h) (by kernel_rfl) (by kernel_rfl) ?_)))
  refine .v (fun _ f => .move rfl) (.v (fun _ f => .len rfl) (.v (fun _ f => .nei rfl rfl) (.v (fun _ f => .move rfl) (.or 42 46 4 4 rfl rfl (fun g1 => .v (fun _ f => .move rfl) (.v (fun _ f => .len rfl) (.v (fun _ f => .move rfl) (.v (fun _ f => .nei rfl rfl) (.nil ⟨rfl, rfl, rfl, rfl⟩))))) (.v (fun _ f => .move rfl) (.or 48 53 5 5 rfl rfl (fun g2 => .v (fun _ f => .move rfl) (.v (fun _ f => .len rfl) (.v (fun _ f => .move rfl) (.v (fun _ f => .addi rfl rfl (by omega)) (.v (fun _ f => .lss rfl rfl) (.nil ⟨rfl, rfl, rfl, rfl⟩)))))) (.v (fun _ f => .move rfl) (.or 55 63 8 8 rfl rfl (fun g3 => .v (fun _ f => .move rfl) (.v (fun _ f => .move rfl) (.v (fun _ f => .indexAddr rfl rfl (by omega) (by omega)) (.v (fun hs' f => .loadA (vs := tcells (chk al n)) rfl (r10 hs' (fun y hy => f (by simp [hy])) _ (by omega)) (tcells_len _)) (.v (fun _ f => .move rfl) (.v (fun _ f => .indexAddr rfl rfl (by omega) (by omega)) (.v (fun hs' f => .loadA (vs := tcells (chk zs 0)) rfl (r9 hs' (fun y hy => f (by simp [hy])) _ (by omega)) (tcells_len _)) (.v (fun _ f => .neA rfl rfl (tcells_oks _) (tcells_oks _)) (.nil ⟨rfl, rfl, rfl, rfl⟩))))))))) (.nil ?_)))))))))
  refine .cond rfl (fun g => absurd g ?_) (fun _ => .skip ?_)
  · rw [cZ, tcells_same]; simp; omega
  refine .seq (.seq ((.region (.v (.assign rfl) (.nil ?_)))))
  refine .block (.loop (X := Nat) (fun i => [(1, .slice B len2 cap2), (7, .int .i64 n), (10, .slice (some ⟨b10, p10, none⟩) (n + 1 + nch ys) c10), (11, .slice A11 n c11), (12, .int .i64 i)]) (fun _ => k3 ++ (k2 ++ (k1 ++ (hA ++ [(b5, Ch.cells (byts zs) 32)])))) (fun i => i ≤ n) (fun i => n - i) 0 (by omega) (.cons rfl (.cons rfl (.cons rfl (.cons rfl (.cons rfl (.nil _)))))) (fun _ s => s) ?_)
  intro i hi
  refine .seq (.seq ((.region (.v (.move rfl) (.v (.move rfl) (.v (.lss rfl rfl) (.nil ?_)))))))
  refine .cond_dec rfl (fun g1 => .skip ?_) (fun g1 => .exit ?_)
  · have hin : i < n := by omega
    obtain ⟨b11, p11, rfl, r11⟩ := toldRow w [] o11 (i := i) hin
    obtain ⟨b10', p10', e10, r10'⟩ := toldRow w [] o10 (i := i) (by omega)
    cases e10
    refine .seq (.block (.seq ((.drawK _ (fun _ h => h) (by kernel_rfl) (by kernel_rfl) ?_))))
    refine .v (fun _ f => .move rfl) (.v (fun _ f => .move rfl) (.v (fun _ f => .indexAddr rfl rfl (by omega) (by omega)) (.v (fun hs' f => .loadA (vs := tcells (chk al i)) rfl (r10' hs' (fun y hy => f (by simp [hy])) _ (by omega)) (tcells_len _)) (.v (fun _ f => .move rfl) (.v (fun _ f => .move rfl) (.v (fun _ f => .indexAddr rfl rfl (by omega) (by omega)) (.v (fun hs' f => .loadA (vs := tcells (chk p i)) rfl (r11 hs' (fun y hy => f (by simp [hy])) _ (by omega)) (tcells_len _)) (.v (fun _ f => .neA rfl rfl (tcells_oks _) (tcells_oks _)) (.nil ?_)))))))))
    refine .cond rfl (fun g => absurd g (by rw [cP i hin, tcells_same]; simp)) (fun _ => .skip ?_)
    refine .region (.v (.move rfl) (.v (.addi rfl rfl (by omega)) (.v (.assign rfl) (.nil ?_))))
    exact ⟨i + 1, by omega, by omega, .cons rfl (.cons rfl (.cons rfl (.cons rfl (.cons rfl (.nil _))))), fun _ s => s⟩
  · refine .seq ((.region (.v (.move rfl) (.ef (.call0 rfl rfl fun w' s => told_at w' B _ cap2 ys hl2 (by omega) (hy.keep0 s)) ?_))))
    rintro v13 _ ⟨k4, o13, rfl⟩
    obtain ⟨A13, c13, rfl⟩ := OwnS.slice o13
    refine .v (.assign rfl) (.nil ?_)
    refine .seq (.seq ((.region (.v (.move rfl) (.v (.len rfl) (.v (.move rfl) (.v (.addi rfl rfl (by omega)) (.v (.move rfl) (.v (.len rfl) (.v (.addi rfl rfl (by omega)) (.v (.nei rfl rfl) (.nil ?_))))))))))))
    refine .cond_dec rfl (fun g => absurd (show ((n + 1 + nch ys : Nat) : Int) = (n : Int) + 1 + (nch ys : Nat) from by push_cast; omega) g) (fun _ => .skip ?_)
    refine .seq (.seq ((.region (.v (.assign rfl) (.nil ?_)))))
    refine .block (.loop (X := Nat) (fun i => [(7, .int .i64 n), (10, .slice (some ⟨b10, p10, none⟩) (n + 1 + nch ys) c10), (13, .slice A13 (nch ys) c13), (14, .int .i64 i)]) (fun _ => k4 ++ (k3 ++ (k2 ++ (k1 ++ (hA ++ [(b5, Ch.cells (byts zs) 32)]))))) (fun i => i ≤ nch ys) (fun i => nch ys - i) 0 (by omega) (.cons rfl (.cons rfl (.cons rfl (.cons rfl (.nil _))))) (fun _ s => s) ?_)
    intro i hi
    refine .seq (.seq ((.region (.v (.move rfl) (.v (.move rfl) (.v (.len rfl) (.v (.lss rfl rfl) (.nil ?_))))))))
    refine .cond_dec rfl (fun g1 => .skip ?_) (fun g1 => .exit ?_)
    · have hin : i < nch ys := by omega
      obtain ⟨b13, p13, rfl, r13⟩ := toldRow w [] o13 (i := i) hin
      obtain ⟨b10', p10', e10, r10'⟩ := toldRow w [] o10 (i := n + 1 + i) (by omega)
      cases e10
      refine .seq (.block (.seq ((.drawK _ (fun _ h => h) (by kernel_rfl) (by kernel_rfl) ?_))))
      refine .v (fun _ f => .move rfl) (.v (fun _ f => .move rfl) (.v (fun _ f => .addi rfl rfl (by omega)) (.v (fun _ f => .move rfl) (.v (fun _ f => .addi rfl rfl (by omega)) (.v (fun _ f => .indexAddr rfl rfl (by omega) (by omega)) (.v (fun hs' f => .loadA (vs := tcells (chk al (n + 1 + i))) rfl (r10' hs' (fun y hy => f (by simp [hy])) _ (by omega)) (tcells_len _)) (.v (fun _ f => .move rfl) (.v (fun _ f => .move rfl) (.v (fun _ f => .indexAddr rfl rfl (by omega) (by omega)) (.v (fun hs' f => .loadA (vs := tcells (chk ys i)) rfl (r13 hs' (fun y hy => f (by simp [hy])) _ (by omega)) (tcells_len _)) (.v (fun _ f => .neA rfl rfl (tcells_oks _) (tcells_oks _)) (.nil ?_))))))))))))
      refine .cond rfl (fun g => absurd g (by rw [cY i, tcells_same]; simp)) (fun _ => .skip ?_)
      refine .region (.v (.move rfl) (.v (.addi rfl rfl (by omega)) (.v (.assign rfl) (.nil ?_))))
      exact ⟨i + 1, by omega, by omega, .cons rfl (.cons rfl (.cons rfl (.cons rfl (.nil _)))), fun _ s => s⟩
    · refine .seq ((.region (.v (.assign rfl) (.nil ?_))))
      refine .ret ?_
      exact ⟨[_], ⟨rfl, trivial⟩, by simp [tup]⟩
end Go.Proofs.Ytcgnbdgagkhehaa

/- wire.Reader: what its methods do. -/
namespace Go.Proofs.Ytcgnbdgagkhehaa
open Go.V
set_option linter.unusedVariables false
set_option linter.unusedSimpArgs false

/-- an own slice of these bytes -/
abbrev Bs (v : Value) (xs : List (BitVec 8)) (h : Hp) : Prop := OwnS 5 1 v xs.length (byts xs) h
theorem Bs.nil : Bs (.slice none 0 0) [] [] := OwnS.nil 5 1
theorem Bs.sl {v : Value} {xs : List (BitVec 8)} {h : Hp} (k : Bs v xs h) : ∃ A c, v = .slice A xs.length c ∧ xs.length ≤ c := by
  obtain ⟨A, c, rfl⟩ := k.slice
  exact ⟨A, c, rfl, k.cap_.2⟩

theorem NewReader_ok (w : World) : Does Try.prog 25 [] [] w (fun v hs => ∃ b, v = .pointer (some ⟨b, 0, none⟩) ∧ hs = [(b, .cells [.slice none 0 0] 77)]) := by
  refine Does.of (n := 3) Try.func25 rfl rfl rfl rfl ?_
  refine .seq ((.region (.v (.assign rfl) (.nil ?_))))
  refine .seq ((.region (.v (.build (out := [.slice none 0 0]) rfl rfl) (.nw (.box rfl rfl) fun b2 => (.v (.assign rfl) (.nil ?_))))))
  exact .ret ⟨[_], ⟨rfl, trivial⟩, b2, rfl, rfl⟩
theorem Left_ok (w : World) (br : Nat) (v : Value) (n : Nat) (vs : List Value) (h : Hp) (k : OwnS 5 1 v n vs h) : Does Try.prog 27 [.pointer (some ⟨br, 0, none⟩)] [(br, .cells [v] 77)] w (fun u hs => u = .int .i64 n ∧ hs = [(br, .cells [v] 77)]) := by
  obtain ⟨A, c, rfl⟩ := k.slice
  refine Does.of (n := 8) Try.func27 rfl rfl rfl rfl ?_
  refine .seq ((.region (.v (.assign rfl) (.nil ?_))))
  refine .seq ((.region (.v (.move rfl) (.v (.nilCheck rfl) (.v (.fieldAddr rfl) (.v (.load rfl (.one rfl)) (.v (.len rfl) (.v (.assign rfl) (.nil ?_)))))))))
  exact .ret ⟨[_], ⟨rfl, trivial⟩, rfl, rfl⟩
theorem Feed_ok (w : World) (br : Nat) (v : Value) (xs ys : List (BitVec 8)) (h : Hp) (k : Bs v xs h) (A : Option Addr) (c : Nat) (hy : Rd w (br :: bl h) A (byts ys)) (hb : xs.length + ys.length ≤ 140737488355000) :
    Does Try.prog 28 [.pointer (some ⟨br, 0, none⟩), .slice A ys.length c] ((br, .cells [v] 77) :: h) w (fun _ hs => ∃ v' h', hs = h' ++ [(br, .cells [v'] 77)] ∧ Bs v' (xs ++ ys) h') := by
  refine Does.of (n := 13) Try.func28 rfl rfl rfl rfl ?_
  refine .region (.v (.move rfl) (.v (.move rfl) (.v (.nilCheck rfl) (.v (.fieldAddr rfl) (.v (.load rfl (.one rfl)) (.v (.move rfl) (.ef (.append (c := xs.length) (k := ys.length) (vs := byts xs) (news := byts ys) (h := h) (fr := [(br, .cells [v] 77)]) rfl rfl k (List.perm_append_singleton _ _).symm (fun w' s => ?_) (by rw [byts_length]; omega) (byts_ones _) (by omega) (by omega)) ?_)))))))
  · exact (hy.keep (no := []) s (by simp)).src (by rw [byts_length]; omega) (by omega)
  rintro v' _ ⟨h', ho', rfl⟩
  refine .v (.nilCheck rfl) (.v (.fieldAddr rfl) (.st (.store rfl rfl ?_ (by simp)) (.nil ?_)))
  · obtain ⟨_, _, rfl⟩ := ho'.slice; rfl
  refine ⟨[], trivial, v', h', rfl, ?_⟩
  rw [← byts_append] at ho'
  unfold Bs
  rw [List.length_append]
  exact ho'
theorem Close_ok (w : World) (br : Nat) (v : Value) (xs : List (BitVec 8)) (h : Hp) (k : Bs v xs h) :
    Does Try.prog 30 [.pointer (some ⟨br, 0, none⟩)] [(br, .cells [v] 77)] w (fun u hs => u = .int .i64 (if 0 < xs.length then 20 else 0) ∧ hs = [(br, .cells [.slice none 0 0] 77)]) := by
  obtain ⟨A, c, rfl, _⟩ := k.sl
  refine Does.of (n := 14) Try.func30 rfl rfl rfl rfl ?_
  refine .seq ((.region (.v (.assign rfl) (.nil ?_))))
  refine .seq ((.region (.v (.move rfl) (.v (.nilCheck rfl) (.v (.fieldAddr rfl) (.v (.load rfl (.one rfl)) (.v (.len rfl) (.v (.assign rfl) (.nil ?_)))))))))
  refine .seq ((.region (.v (.move rfl) (.v (.nilCheck rfl) (.v (.fieldAddr rfl) (.st (.store rfl rfl rfl (by simp)) (.nil ?_)))))))
  refine .seq (.seq ((.region (.v (.move rfl) (.v (.gtr rfl rfl) (.nil ?_))))))
  refine .cond_dec rfl (fun h1 => ?_) (fun h1 => .skip ?_)
  · refine .seq ((.region (.v (.assign rfl) (.nil ?_))))
    exact .ret ⟨[_], ⟨rfl, trivial⟩, by rw [if_pos (by omega)]; rfl, rfl⟩
  · refine .seq ((.region (.v (.assign rfl) (.nil ?_))))
    exact .ret ⟨[_], ⟨rfl, trivial⟩, by rw [if_neg (by omega)]; rfl, rfl⟩
/-- what Next gives of these bytes -/
def nextV (xs : List (BitVec 8)) : Value :=
  if xs.length < 64 then .tuple ⟨[.agg ⟨fcells 0#8 zw⟩, .int .i64 0, .bool false]⟩ else .tuple ⟨[.agg ⟨fcells (unpk (xs.take 64)).1 (unpk (xs.take 64)).2.1⟩, .int .i64 (unpk (xs.take 64)).2.2, .bool true]⟩
def rest64 (xs : List (BitVec 8)) : List (BitVec 8) := if xs.length < 64 then xs else xs.drop 64
theorem byts_drop (xs : List (BitVec 8)) (n : Nat) : (byts xs).drop n = byts (xs.drop n) := by simp [byts, List.map_drop]
theorem byts_tk (xs : List (BitVec 8)) (n : Nat) : (byts xs).take n = byts (xs.take n) := by simp [byts, List.map_take]
theorem Bs.cut {A : Option Addr} {c : Nat} {xs : List (BitVec 8)} {h : Hp} (k : Bs (.slice A xs.length c) xs h) (hi : 64 ≤ xs.length) : Bs (.slice (cutA A c 64 1) (xs.length - 64) (c - 64)) (xs.drop 64) h := by
  have := OwnS.cut k hi (by omega)
  rw [byts_drop] at this
  unfold Bs
  rw [List.length_drop]
  exact this
theorem Next_ok (w : World) (br : Nat) (v : Value) (xs : List (BitVec 8)) (h : Hp) (k : Bs v xs h) :
    Does Try.prog 29 [.pointer (some ⟨br, 0, none⟩)] ((br, .cells [v] 77) :: h) w (fun u hs => u = nextV xs ∧ ∃ v', hs = (br, .cells [v'] 77) :: h ∧ Bs v' (rest64 xs) h) := by
  obtain ⟨A, c, rfl, hc⟩ := k.sl
  refine Does.less (Does.of (n := 33) Try.func29 rfl rfl rfl rfl ?_)
  refine .seq ((.region (.nw .alloc fun b2 => (.v (.assign rfl) (.v (.assign rfl) (.nil ?_))))))
  refine .seq (.seq ((.region (.v (.move rfl) (.v (.nilCheck rfl) (.v (.fieldAddr rfl) (.v (.load rfl (.one rfl)) (.v (.len rfl) (.v (.lss rfl rfl) (.nil ?_))))))))))
  refine .cond_dec rfl (fun h1 => ?_) (fun h1 => .skip ?_)
  · have hx : xs.length < 64 := by omega
    refine .seq ((.region (.v (.build (out := fcells 0#8 zw) rfl rfl) (.st (.storeW rfl rfl rfl rfl rfl) (.v (.assign rfl) (.v (.assign rfl) (.nil ?_)))))))
    exact .ret ⟨[_, _, _], ⟨⟨_, rfl, .inr ⟨8, _, inferInstance, rfl, rfl, .whole⟩⟩, rfl, rfl, trivial⟩, (br, .cells [.slice A xs.length c] 77) :: h, fun _ s => s.sub (List.sublist_cons_self _ _), by rw [nextV, if_pos hx]; rfl, _, rfl, by rw [rest64, if_pos hx]; exact k⟩
  · have hx : ¬ xs.length < 64 := by omega
    have hU := unpk_ws (xs.take 64)
    have hk := k.cut (by omega : 64 ≤ xs.length)
    refine .seq ((.region (.v (.move rfl) (.v (.nilCheck rfl) (.v (.fieldAddr rfl) (.v (.load rfl (.one rfl)) (.v (.slHi rfl rfl (by omega) (by omega)) (.pc rfl rfl (fun w s => Unpack_ok w _ _ c (xs.take 64) (by rw [← byts_tk]; exact (k.rd s (by simp) (by simp)).take 64) (by simp; omega)) (.v (.move rfl) (.v (.extract (vs := [.agg ⟨fcells (unpk (xs.take 64)).1 (unpk (xs.take 64)).2.1⟩, .int .i64 (unpk (xs.take 64)).2.2]) rfl rfl) (.v (.extract (vs := [.agg ⟨fcells (unpk (xs.take 64)).1 (unpk (xs.take 64)).2.1⟩, .int .i64 (unpk (xs.take 64)).2.2]) rfl rfl) (.nw .alloc fun b5 => (.st (.storeW rfl rfl (fcells_length hU) (fcells_ones _ _) rfl) (.v (.assign rfl) (.nil ?_)))))))))))))))
    refine .seq ((.region (.v (.move rfl) (.v (.move rfl) (.v (.nilCheck rfl) (.v (.fieldAddr rfl) (.v (.load rfl (.one rfl)) (.v (.slLo rfl rfl (by omega) (by omega)) (.v (.nilCheck rfl) (.v (.fieldAddr rfl) (.st (.store rfl rfl rfl (by simp)) (.nil ?_))))))))))))
    refine .seq ((.region (.v (.loadA rfl .whole (fcells_length hU)) (.v (.move rfl) (.st (.storeW rfl rfl (fcells_length hU) (fcells_ones _ _) rfl) (.v (.assign rfl) (.v (.assign rfl) (.nil ?_))))))))
    exact .ret ⟨[_, _, _], ⟨⟨_, rfl, .inr ⟨8, _, inferInstance, fcells_length hU, rfl, .whole⟩⟩, rfl, rfl, trivial⟩, (br, .cells [.slice (cutA A c 64 1) (xs.length - 64) (c - 64)] 77) :: h, fun _ s => s.sub (.cons _ (.cons _ (List.Sublist.refl _))), by rw [nextV, if_neg hx]; rfl, _, rfl, by rw [rest64, if_neg hx]; exact hk⟩
end Go.Proofs.Ytcgnbdgagkhehaa

/- WireLeft: the walk. -/
namespace Go.Proofs.Ytcgnbdgagkhehaa
open Go.V
set_option linter.unusedVariables false
set_option linter.unusedSimpArgs false

structure PcD where
  B : Option Addr
  c : Nat
  ys : List (BitVec 8)
def ptot (l : List PcD) : Nat := (l.map fun d => d.ys.length).sum
theorem ptot_take {l : List PcD} {i : Nat} {d : PcD} (h : l[i]? = some d) : ptot (l.take (i + 1)) = ptot (l.take i) + d.ys.length := by
  simp [ptot, List.take_add_one, h]
theorem ptot_le (l : List PcD) (i : Nat) : ptot (l.take i) ≤ ptot l := by
  have h : ptot l = ptot (l.take i) + ptot (l.drop i) := by
    rw [ptot, ptot, ptot, ← List.sum_append, ← List.map_append, List.take_append_drop]
  omega
structure LSt where
  i : Nat
  xs : List (BitVec 8)
  v : Value
  h : Hp
structure FSt where
  f : Nat
  xs : List (BitVec 8)
  v : Value
theorem tmod64 (n : Nat) : Int.tmod (n : Int) 64 = ((n % 64 : Nat) : Int) := by
  rw [Int.tmod_eq_emod_of_nonneg (by omega)]; omega

theorem WireLeft_ok (w : World) (A : Option Addr) (len cap : Nat) (l : List PcD) (hlen : len = l.length)
    (hcell : ∀ (i : Nat) (d : PcD), l[i]? = some d → ∃ b o, A = some ⟨b, o, none⟩ ∧ w.cell? ⟨b, o + i, none⟩ = some (.slice d.B d.ys.length d.c))
    (hys : ∀ (i : Nat) (d : PcD), l[i]? = some d → Rd w [] d.B (byts d.ys)) (hb : ptot l ≤ 1048576) (h63 : len ≤ 1048576) :
    Is Try.prog 11 [.slice A len cap] w (.bool true) := by
  refine Does.pure (Does.of (n := 68) Try.func11 rfl rfl rfl rfl ?_)
  refine .seq ((.region (.v (.assign rfl) (.nil ?_))))
  refine .seq (.seq ((.region (.pc rfl rfl (fun w s => lives_ok w) (.v (.not rfl) (.nil ?_))))))
  refine .cond_false rfl (.skip ?_)
  refine .seq ((.region (.ef (.call0 rfl rfl fun w s => NewReader_ok w) ?_)))
  rintro _ _ ⟨_, ⟨br, rfl, rfl⟩, rfl⟩
  refine .v (.assign rfl) (.nil ?_)
  refine .seq (.seq ((.region (.v (.move rfl) (.v (.eql_ptr_nil rfl rfl) (.nil ?_))))))
  refine .cond_false rfl (.skip ?_)
  refine .seq ((.region (.v (.assign rfl) (.nil ?_))))
  refine .seq (.seq ((.region (.v (.assign rfl) (.nil ?_)))))
  refine .block (.loop (X := LSt) (fun x => [(0, .slice A len cap), (3, .pointer (some ⟨br, 0, none⟩)), (4, .int .i64 (ptot (l.take x.i))), (5, .int .i64 x.i)])
    (fun x => (br, .cells [x.v] 77) :: x.h) (fun x => x.i ≤ len ∧ Bs x.v x.xs x.h ∧ x.xs.length = ptot (l.take x.i) % 64) (fun x => len - x.i)
    ⟨0, [], .slice none 0 0, []⟩ ⟨by simp, Bs.nil, by simp [ptot]⟩
    (.cons rfl (.cons rfl (.cons rfl (.cons rfl (.nil _))))) (fun _ s => s) ?_)
  rintro ⟨i, xs, v, h⟩ ⟨hi, k, hx⟩
  dsimp only at hi k hx ⊢
  refine .seq (.seq ((.region (.v (.move rfl) (.v (.move rfl) (.v (.len rfl) (.v (.lss rfl rfl) (.nil ?_))))))))
  refine .cond_dec rfl (fun g1 => .skip ?_) (fun g1 => .exit ?_)
  · have hil : i < l.length := by omega
    have hd := List.getElem?_eq_getElem hil
    have htot := ptot_take hd
    have hle := ptot_le l (i + 1)
    generalize hD : l[i] = d at hd htot
    have hc := hcell i d hd
    have hy := hys i d hd
    obtain ⟨b, o, rfl, hc⟩ := hc
    refine .seq (.block (.seq ((.region (.v (.move rfl) (.ef (.buildSlice (out := []) rfl (by decide) rfl rfl) ?_))))))
    rintro _ _ ⟨b6, rfl, rfl⟩
    refine .v (.move rfl) (.v (.move rfl) (.v (.indexAddr1 rfl rfl (by omega) (by omega)) (.v (.load (v := .slice d.B d.ys.length d.c) rfl (.old1 (by rw [Int.toNat_natCast]; exact hc) (by simp [bl]))) ?_)))
    refine .ef (.append (c := 0) (k := d.ys.length) (vs := []) (news := byts d.ys) (h := [(b6, .cells [] 5)]) (fr := (br, .cells [v] 77) :: h) rfl rfl ⟨rfl, .inr ⟨b6, 0, 0, [], rfl, rfl, by omega, by simp, by simp⟩⟩ (by exact List.Perm.refl _)
      (fun w' s => (hy.keep0 s).src (by rw [byts_length]; omega) (by omega)) (by rw [byts_length]; omega) (byts_ones _) (by omega) (by omega)) ?_
    rintro v6 _ ⟨h6, k6, rfl⟩
    obtain ⟨A6, c6, rfl⟩ := k6.slice
    rw [Nat.zero_add] at *
    refine .ef (.call (R := fun _ hs => ∃ v' h', hs = h' ++ [(br, .cells [v'] 77)] ∧ Bs v' (xs ++ d.ys) h') (pre := (br, .cells [v] 77) :: h) (fr := h6) rfl rfl (by exact List.perm_append_comm) fun w' s => ?_) ?_
    · exact Feed_ok w' br v xs d.ys h k A6 c6 (k6.rd s (fun p hp => by simp [hp]) s.disj) (by omega)
    rintro _ _ ⟨_, ⟨v1, h1, rfl, k1⟩, rfl⟩
    refine .nil ?_
    refine .seq ((.region (.v (.move rfl) (.v (.move rfl) (.v (.move rfl) (.v (.indexAddr1 rfl rfl (by omega) (by omega)) (.v (.load (v := .slice d.B d.ys.length d.c) rfl (.old1 (by rw [Int.toNat_natCast]; exact hc) (by simp [bl]))) (.v (.len rfl) (.v (.addi rfl rfl (by omega)) (.v (.assign rfl) (.nil ?_)))))))))))
    refine .seq ((.region (.v (.assign rfl) (.nil ?_))))
    refine .seq (.block (.loop (X := FSt) (fun x => [(0, .slice (some ⟨b, o, none⟩) len cap), (3, .pointer (some ⟨br, 0, none⟩)), (4, .int .i64 (ptot (l.take (i + 1)))), (5, .int .i64 i), (6, .int .i64 x.f)])
      (fun x => (br, .cells [x.v] 77) :: h1) (fun x => Bs x.v x.xs h1 ∧ x.xs.length + 64 * x.f = xs.length + d.ys.length) (fun x => x.xs.length) ⟨0, xs ++ d.ys, v1⟩ ⟨k1, by simp⟩
      (.cons rfl (.cons rfl (.cons (by rw [htot, Int.natCast_add]; rfl) (.cons rfl (.cons rfl (.nil _)))))) (fun _ s => (s.sub (List.sublist_append_left _ _)).perm (List.perm_append_singleton _ _)) ?_))
    rintro ⟨f, zs, v2⟩ ⟨k2, hz⟩
    dsimp only at k2 hz ⊢
    refine .block (.seq ((.region (.v (.move rfl) (.ef (.call (pre := (br, .cells [v2] 77) :: h1) (fr := []) rfl rfl (by simp) fun w' s => Next_ok w' br v2 zs h1 k2) ?_)))))
    rintro _ _ ⟨_, ⟨rfl, v3, rfl, k3⟩, rfl⟩
    by_cases hz64 : zs.length < 64
    · have e1 : nextV zs = .tuple ⟨[.agg ⟨fcells 0#8 zw⟩, .int .i64 0, .bool false]⟩ := by rw [nextV, if_pos hz64]
      have e2 : rest64 zs = zs := by rw [rest64, if_pos hz64]
      rw [e1]
      rw [e2] at k3
      refine .v (.move rfl) (.v (.extract rfl rfl) (.v (.extract rfl rfl) (.v (.extract rfl rfl) (.nw .alloc fun b7 => (.st (.storeW rfl rfl (fcells_length rfl) (fcells_ones _ _) rfl) (.v (.assign rfl) (.v (.assign rfl) (.nil ?_))))))))
      refine .seq (.seq ((.region (.v (.move rfl) (.v (.not rfl) (.nil ?_))))))
      refine .cond_true rfl (.exit ?_)
      refine .seq ((.region (.v (.move rfl) ?_)))
      have hperm : ((b7, Ch.cells (fcells 0#8 zw) 31) :: (((br, Ch.cells [v3] 77) :: h1) ++ [])).Perm ([(br, Ch.cells [v3] 77)] ++ ((b7, Ch.cells (fcells 0#8 zw) 31) :: h1)) := by
        rw [List.append_nil]; exact List.Perm.swap _ _ _
      refine .pl (pre := [(br, Ch.cells [v3] 77)]) (v := .int .i64 zs.length) ((b7, Ch.cells (fcells 0#8 zw) 31) :: h1) rfl rfl hperm (fun w' s => ?_) ?_
      · exact Left_ok w' br v3 zs.length _ h1 k3
      refine .v (.move rfl) (.v (.rem rfl rfl (by decide)) (.v (.nei rfl rfl) (.nil ?_)))
      refine .cond_dec rfl (fun g5 => absurd g5 (by rw [tmod64]; omega)) (fun g5 => .skip ?_)
      refine .region (.v (.move rfl) (.v (.addi rfl rfl (by omega)) (.v (.assign rfl) (.nil ?_))))
      exact ⟨⟨i + 1, zs, v3, h1⟩, ⟨by simp only; omega, k3, by simp only; omega⟩, by simp only; omega, .cons rfl (.cons rfl (.cons rfl (.cons rfl (.nil _)))), fun _ s => s.sub (by exact .cons _ (by simp))⟩
    · have hU := unpk_ws (zs.take 64)
      have e1 : nextV zs = .tuple ⟨[.agg ⟨fcells (unpk (zs.take 64)).1 (unpk (zs.take 64)).2.1⟩, .int .i64 (unpk (zs.take 64)).2.2, .bool true]⟩ := by rw [nextV, if_neg hz64]
      have e2 : rest64 zs = zs.drop 64 := by rw [rest64, if_neg hz64]
      rw [e1]
      rw [e2] at k3
      refine .v (.move rfl) (.v (.extract (v := .agg ⟨fcells (unpk (zs.take 64)).1 (unpk (zs.take 64)).2.1⟩) rfl rfl) (.v (.extract (v := .int .i64 (unpk (zs.take 64)).2.2) rfl rfl) (.v (.extract (v := .bool true) rfl rfl) (.nw .alloc fun b7 => (.st (.storeW rfl rfl (fcells_length hU) (fcells_ones _ _) rfl) (.v (.assign rfl) (.v (.assign rfl) (.nil ?_))))))))
      refine .seq (.seq ((.region (.v (.move rfl) (.v (.not rfl) (.nil ?_))))))
      refine .cond_false rfl (.skip ?_)
      refine .seq ((.region (.v (.move rfl) (.v (.addi rfl rfl (by omega)) (.v (.assign rfl) (.nil ?_))))))
      refine .seq ((.region (.v (.move rfl) (.v (.move rfl) (.v (.gtr rfl rfl) (.nil ?_))))))
      refine .cond_dec rfl (fun g6 => absurd g6 (by omega)) (fun g6 => .skip ?_)
      exact ⟨⟨f + 1, zs.drop 64, v3⟩, ⟨k3, by simp; omega⟩, by simp; omega, .cons rfl (.cons rfl (.cons rfl (.cons rfl (.cons rfl (.nil _))))), fun _ s => s.sub (by exact .cons _ (by simp))⟩
  · have hil : i = l.length := by omega
    subst hil
    rw [List.take_length] at hx ⊢
    refine .seq ((.region (.v (.move rfl) (.ef (.call (pre := [(br, .cells [v] 77)]) (fr := h) rfl rfl (by simp) fun w' s => Close_ok w' br v xs h k) ?_))))
    rintro _ _ ⟨_, ⟨rfl, rfl⟩, rfl⟩
    refine .v (.assign rfl) (.nil ?_)
    refine .seq ((.region (.v (.move rfl) (.v (.eqi rfl rfl) (.v (.move rfl) (.v (.rem rfl rfl (by decide)) (.v (.eqi rfl rfl) (.v (.eqb rfl rfl) (.v (.move rfl) (.and 63 66 3 3 rfl rfl (fun _ => .v (.move rfl) (.pl h rfl rfl (by exact List.Perm.refl _) (fun w' s => Left_ok w' br _ 0 _ [] Bs.nil) (.v (.eqi rfl rfl) (.nil ⟨rfl, rfl, rfl, rfl⟩)))) (.v (.assign rfl) (.nil ?_))))))))))))
    refine .ret ⟨[_], ⟨rfl, trivial⟩, ?_⟩
    simp only [tup]
    congr 1
    rw [tmod64]
    by_cases h0 : 0 < xs.length
    · have : ¬ ptot l % 64 = 0 := by omega
      simp [h0]; omega
    · have : ptot l % 64 = 0 := by omega
      simp [h0, this]
end Go.Proofs.Ytcgnbdgagkhehaa

/- WirePieces: the walk. -/
namespace Go.Proofs.Ytcgnbdgagkhehaa
open Go.V
set_option linter.unusedVariables false
set_option linter.unusedSimpArgs false

theorem nd_not {h r k : Hp} (hn : (bl (h ++ r)).Nodup) (hk : k ⊆ r) : ∀ b ∈ bl h, b ∉ bl k := by
  intro b hb hb2
  simp only [bl, List.map_append, List.nodup_append] at hn
  obtain ⟨p, hp, rfl⟩ := List.mem_map.1 hb2
  exact hn.2.2 _ hb _ (List.mem_map.2 ⟨p, hk hp, rfl⟩) rfl
/-- all bytes of the first pieces -/
def Wh (l : List PcD) (i : Nat) : List (BitVec 8) := (l.take i).flatMap (·.ys)
theorem Wh_succ {l : List PcD} {i : Nat} {d : PcD} (h : l[i]? = some d) : Wh l (i + 1) = Wh l i ++ d.ys := by
  simp [Wh, List.take_add_one, h]
theorem Wh_len (l : List PcD) (i : Nat) : (Wh l i).length = ptot (l.take i) := by
  simp [Wh, ptot, List.length_flatMap]
theorem trows_left {p q : List (BitVec 8)} {g : Nat} (h : 64 * g ≤ p.length) : trows (p ++ q) g = trows p g := by
  induction g with
  | zero => simp [trows]
  | succ g ih => rw [trows_succ, trows_succ, ih (by omega), chk_left h]
theorem chk_drop (W : List (BitVec 8)) (g : Nat) : (W.drop (64 * g)).take 64 = chk W g := rfl
theorem tcells_short {zs : List (BitVec 8)} (h : zs.length < 64) : tcells zs = fcells 0#8 zw ++ [.int .i64 20] := by
  have hu : unpkV zs = _ := unpk_short h
  unfold unpkV at hu
  simp only [Value.tuple.injEq, Array.mk.injEq, List.cons.injEq, Value.agg.injEq, and_true] at hu
  obtain ⟨hu1, hu2⟩ := hu
  unfold tcells; rw [hu1, hu2]
structure P2 where
  n : Nat
  g : Nat
  vR : Value
  hR : Hp
  vG : Value
  hG : Hp
structure P1 where
  i : Nat
  g : Nat
  vW : Value
  hW : Hp
  vR : Value
  hR : Hp
  vG : Value
  hG : Hp
set_option maxRecDepth 20000 in
set_option maxHeartbeats 2000000 in
theorem WirePieces_ok (w : World) (A B : Option Addr) (len cap len2 cap2 : Nat) (l : List PcD) (asks : List Bool) (hlen : len = l.length)
    (hcell : ∀ (i : Nat) (d : PcD), l[i]? = some d → ∃ b o, A = some ⟨b, o, none⟩ ∧ w.cell? ⟨b, o + i, none⟩ = some (.slice d.B d.ys.length d.c))
    (hys : ∀ (i : Nat) (d : PcD), l[i]? = some d → Rd w [] d.B (byts d.ys)) (hb : ptot l ≤ 1048576) (h63 : len ≤ 1048576)
    (hask : Rd w [] B (asks.map .bool)) (hlen2 : len2 = asks.length) :
    Is Try.prog 12 [.slice A len cap, .slice B len2 cap2] w (.bool true) := by
  refine Does.pure (Does.of (n := 121) Try.func12 rfl rfl rfl rfl ?_)
  refine .seq ((.region (.v (.assign rfl) (.nil ?_))))
  refine .seq (.seq ((.region (.pc rfl rfl (fun w s => lives_ok w) (.v (.not rfl) (.nil ?_))))))
  refine .cond_false rfl (.skip ?_)
  refine .seq ((.region (.ef (.call0 rfl rfl fun w s => NewReader_ok w) ?_)))
  rintro _ _ ⟨_, ⟨br, rfl, rfl⟩, rfl⟩
  refine .v (.assign rfl) (.nil ?_)
  refine .seq (.seq ((.region (.v (.move rfl) (.v (.eql_ptr_nil rfl rfl) (.nil ?_))))))
  refine .cond_false rfl (.skip ?_)
  refine .seq ((.region (.v (.assign rfl) (.nil ?_))))
  refine .seq ((.region (.v (.assign rfl) (.nil ?_))))
  refine .seq (.seq ((.region (.v (.assign rfl) (.nil ?_)))))
  refine .block (.loop (X := P1) (fun x => [(0, .slice A len cap), (1, .slice B len2 cap2), (5, .pointer (some ⟨br, 0, none⟩)), (6, x.vW), (7, x.vG), (8, .int .i64 x.i)])
    (fun x => (br, .cells [x.vR] 77) :: (x.hR ++ (x.hW ++ x.hG))) (fun x => x.i ≤ len ∧ 64 * x.g ≤ (Wh l x.i).length ∧ Bs x.vW (Wh l x.i) x.hW ∧ Bs x.vR ((Wh l x.i).drop (64 * x.g)) x.hR ∧ OwnS 52 9 x.vG x.g (trows (Wh l x.i) x.g) x.hG) (fun x => len - x.i)
    ⟨0, 0, .slice none 0 0, [], .slice none 0 0, [], .slice none 0 0, []⟩ ⟨Nat.zero_le _, Nat.zero_le _, Bs.nil, Bs.nil, OwnS.nil _ _⟩
    (.cons rfl (.cons rfl (.cons rfl (.cons rfl (.cons rfl (.cons rfl (.nil _))))))) (fun _ s => s) ?_)
  rintro ⟨i, g, vW, hW, vR, hR, vG, hG⟩ ⟨hi, hg, kW, kR, oG⟩
  dsimp only at hi hg kW kR oG ⊢
  have hwl := Wh_len l i
  have hle0 := ptot_le l i
  refine .seq (.seq ((.region (.v (.move rfl) (.v (.move rfl) (.v (.len rfl) (.v (.lss rfl rfl) (.nil ?_))))))))
  refine .cond_dec rfl (fun g1 => .skip ?_) (fun g1 => .exit ?_)
  · have hil : i < l.length := by omega
    have hd := List.getElem?_eq_getElem hil
    have htot := ptot_take hd
    have hle := ptot_le l (i + 1)
    generalize hD : l[i] = d at hd htot
    obtain ⟨b, o, rfl, hc⟩ := hcell i d hd
    have hy := hys i d hd
    have hws := Wh_succ hd
    have hwl1 := Wh_len l (i + 1)
    refine .mid (X := P1) (fun x => [(0, .slice (some ⟨b, o, none⟩) len cap), (1, .slice B len2 cap2), (5, .pointer (some ⟨br, 0, none⟩)), (6, x.vW), (7, x.vG), (8, .int .i64 i)])
      (fun x => (br, .cells [x.vR] 77) :: (x.hR ++ (x.hW ++ x.hG))) (fun x => 64 * x.g ≤ (Wh l (i + 1)).length ∧ Bs x.vW (Wh l (i + 1)) x.hW ∧ Bs x.vR ((Wh l (i + 1)).drop (64 * x.g)) x.hR ∧ OwnS 52 9 x.vG x.g (trows (Wh l (i + 1)) x.g) x.hG)
      (.block (.seq ((.region (.v (.move rfl) (.v (.move rfl) (.v (.move rfl) (.v (.indexAddr1 rfl rfl (by omega) (by omega)) (.v (.load (v := .slice d.B d.ys.length d.c) rfl (.old1 (by rw [Int.toNat_natCast]; exact hc) (by simp [bl])))
        (.appT (h := hW) (c := (Wh l i).length) (k := d.ys.length) (vs := byts (Wh l i)) (news := byts d.ys) rfl rfl kW (fun w' s => (hy.keep0 s).src (by rw [byts_length]; omega) (by omega)) (by rw [byts_length]; omega) (byts_ones _) (by omega) (by omega) ?_)))))))))) ?_
    · intro vW1 hW1 kW1
      have kW2 : Bs vW1 (Wh l (i + 1)) hW1 := by unfold Bs; rw [hws, List.length_append, byts_append]; exact kW1
      refine .v (.assign rfl) (.nil ?_)
      refine .seq ((.region (.v (.move rfl) (.ef (.buildSlice (out := []) rfl (by decide) rfl rfl) ?_))))
      rintro _ _ ⟨b6, rfl, rfl⟩
      refine .v (.move rfl) (.v (.move rfl) (.v (.indexAddr1 rfl rfl (by omega) (by omega)) (.v (.load (v := .slice d.B d.ys.length d.c) rfl (.old1 (by rw [Int.toNat_natCast]; exact hc) (by simp [bl]))) ?_)))
      refine .appT (h := [(b6, .cells [] 5)]) (c := 0) (k := d.ys.length) (vs := []) (news := byts d.ys) rfl rfl ⟨rfl, .inr ⟨b6, 0, 0, [], rfl, rfl, by omega, by simp, by simp⟩⟩ (fun w' s => (hy.keep0 s).src (by rw [byts_length]; omega) (by omega)) (by rw [byts_length]; omega) (byts_ones _) (by omega) (by omega) ?_
      intro v6 h6 k6
      obtain ⟨A6, c6, rfl⟩ := k6.slice
      rw [Nat.zero_add, List.nil_append] at k6
      rw [Nat.zero_add]
      refine .ef (.callT (R := fun _ hs => ∃ v' h', hs = h' ++ [(br, .cells [v'] 77)] ∧ Bs v' ((Wh l i).drop (64 * g) ++ d.ys) h') ((br, .cells [vR] 77) :: hR) rfl rfl fun w' s => ?_) ?_
      · exact Feed_ok w' br vR _ d.ys hR kR A6 c6 (k6.rd s (fun p hp => by simp [hp]) (nd_not (k := (br, .cells [vR] 77) :: hR) s.nd (by intro y hy; simp at hy ⊢; rcases hy with rfl | hy; simp; simp [hy]))) (by rw [List.length_drop]; omega)
      rintro _ _ ⟨_, ⟨vR1, hR1, rfl, kR1⟩, rfl⟩
      have kR2 : Bs vR1 ((Wh l (i + 1)).drop (64 * g)) hR1 := by rw [hws, List.drop_append_of_le_length hg]; exact kR1
      have oG2 : OwnS 52 9 vG g (trows (Wh l (i + 1)) g) hG := by rw [hws, trows_left hg]; exact oG
      have hg2 : 64 * g ≤ (Wh l (i + 1)).length := by rw [hws, List.length_append]; omega
      clear kR1 oG kW1 hg
      refine .nil ?_
      refine .seq (.seq ((.region (.v (.move rfl) (.v (.move rfl) (.v (.len rfl) (.v (.geq rfl rfl) (.v (.move rfl) (.or (b2 := !(asks.getD i false)) 47 52 5 5 rfl rfl (fun q1 => ?_) (.nil ?_))))))))))
      · have hq : i < asks.length := by
          have := of_decide_eq_false q1
          omega
        obtain ⟨b2, o2, rfl, -⟩ := hask.base (by simpa using (by omega : 0 < asks.length))
        exact .v (.move rfl) (.v (.move rfl) (.v (.indexAddr1 rfl rfl (by omega) (by omega)) (.v (.load (v := .bool (asks.getD i false)) rfl (hask.cell (by simp [List.getElem?_eq_getElem hq]))) (.v (.not rfl) (.nil ⟨rfl, rfl, rfl, rfl⟩)))))
      refine .cond rfl (fun h4 => .exit ?_) (fun h4 => .skip ?_)
      · exact ⟨⟨i, g, vW1, hW1, vR1, hR1, vG, hG⟩, ⟨hg2, kW2, kR2, oG2⟩, (.cons rfl (.cons rfl (.cons rfl (.cons rfl (.cons rfl (.cons rfl (.nil _))))))), fun _ s => s.take⟩
      refine .seq ((.region (.v (.move rfl) (.ef (.callT ((br, .cells [vR1] 77) :: hR1) rfl rfl fun w' s => Next_ok w' br vR1 _ hR1 kR2) ?_))))
      rintro _ _ ⟨_, ⟨rfl, vR3, rfl, kR3⟩, rfl⟩
      have hxl : ((Wh l (i + 1)).drop (64 * g)).length = (Wh l (i + 1)).length - 64 * g := List.length_drop ..
      by_cases hz64 : ((Wh l (i + 1)).drop (64 * g)).length < 64
      · have e1 : nextV ((Wh l (i + 1)).drop (64 * g)) = .tuple ⟨[.agg ⟨fcells 0#8 zw⟩, .int .i64 0, .bool false]⟩ := by rw [nextV, if_pos hz64]
        have e2 : rest64 ((Wh l (i + 1)).drop (64 * g)) = (Wh l (i + 1)).drop (64 * g) := by rw [rest64, if_pos hz64]
        rw [e1]
        rw [e2] at kR3
        refine .v (.move rfl) (.v (.extract rfl rfl) (.v (.extract rfl rfl) (.v (.extract rfl rfl) (.nw .alloc fun b9 => (.st (.storeW rfl rfl (fcells_length rfl) (fcells_ones _ _) rfl) (.v (.assign rfl) (.v (.assign rfl) (.nil ?_))))))))
        refine .seq ((.region (.v (.move rfl) (.nil ?_))))
        refine .cond_false rfl (.skip ?_)
        exact ⟨⟨i, g, vW1, hW1, vR3, hR1, vG, hG⟩, ⟨hg2, kW2, kR3, oG2⟩, (.cons rfl (.cons rfl (.cons rfl (.cons rfl (.cons rfl (.cons rfl (.nil _))))))), fun _ s => s.take⟩
      · have e1 : nextV ((Wh l (i + 1)).drop (64 * g)) = .tuple ⟨[.agg ⟨fcells (unpk (chk (Wh l (i + 1)) g)).1 (unpk (chk (Wh l (i + 1)) g)).2.1⟩, .int .i64 (unpk (chk (Wh l (i + 1)) g)).2.2, .bool true]⟩ := by rw [nextV, if_neg hz64]; rfl
        have e2 : rest64 ((Wh l (i + 1)).drop (64 * g)) = (Wh l (i + 1)).drop (64 * (g + 1)) := by rw [rest64, if_neg hz64, List.drop_drop]; rfl
        rw [e1]
        rw [e2] at kR3
        have hU := unpk_ws (chk (Wh l (i + 1)) g)
        refine .v (.move rfl) (.v (.extract (v := .agg ⟨fcells (unpk (chk (Wh l (i + 1)) g)).1 (unpk (chk (Wh l (i + 1)) g)).2.1⟩) rfl rfl) (.v (.extract (v := .int .i64 (unpk (chk (Wh l (i + 1)) g)).2.2) rfl rfl) (.v (.extract (v := .bool true) rfl rfl) (.nw .alloc fun b9 => (.st (.storeW rfl rfl (fcells_length hU) (fcells_ones _ _) rfl) (.v (.assign rfl) (.v (.assign rfl) (.nil ?_))))))))
        refine .seq ((.region (.v (.move rfl) (.nil ?_))))
        refine .cond_true rfl ?_
        refine .region (.v (.move rfl) (.v (.loadA (m := 8) rfl .whole (fcells_length hU)) (.v (.move rfl) (.v (.build (out := tcells (chk (Wh l (i + 1)) g)) rfl (fill_nine (fcells_length hU) rfl)) (.push (h := hG) (oc := tcells (chk (Wh l (i + 1)) g)) (c := g) (vs := trows (Wh l (i + 1)) g) rfl rfl oG2 rfl (tcells_len _) (tcells_ones _) (by omega) (by omega) fun b7 vG2 hG2 oG3 => (.v (.assign rfl) (.nil ?_)))))))
        rw [← trows_succ] at oG3
        exact ⟨⟨i, g + 1, vW1, hW1, vR3, hR1, vG2, hG2⟩, ⟨by dsimp only; omega, kW2, kR3, oG3⟩, (.cons rfl (.cons rfl (.cons rfl (.cons rfl (.cons rfl (.cons rfl (.nil _))))))), fun _ s => s.take⟩
    · rintro ⟨i', g', vW', hW', vR', hR', vG', hG'⟩ hinv
      dsimp only at hinv ⊢
      refine .region (.v (.move rfl) (.v (.addi rfl rfl (by omega)) (.v (.assign rfl) (.nil ?_))))
      exact ⟨⟨i + 1, g', vW', hW', vR', hR', vG', hG'⟩, ⟨by dsimp only; omega, hinv⟩, by dsimp only; omega, (.cons rfl (.cons rfl (.cons rfl (.cons rfl (.cons rfl (.cons rfl (.nil _))))))), fun _ s => s⟩
  · have hil : i = len := by omega
    subst hil
    rw [hlen, List.take_length] at hwl
    obtain ⟨W, hWe⟩ : ∃ W, W = Wh l i := ⟨_, rfl⟩
    rw [← hlen] at hwl
    rw [← hWe] at hg kW kR oG hwl
    obtain ⟨AW, cW, rfl, _⟩ := kW.sl
    obtain ⟨AG, cG, rfl⟩ := OwnS.slice oG
    have hWn : nch W = (W.length + 63) / 64 := rfl
    have hq : IntKind.i64.wrap (((W.length : Nat) : Int).tdiv 64) = ((W.length / 64 : Nat) : Int) := by
      rw [Int.tdiv_eq_ediv_of_nonneg (by omega), wrap_i64 (by omega)]; omega
    refine .seq (.seq ((.region (.v (.move rfl) (.v (.len rfl) (.v (.assign rfl) (.nil ?_)))))))
    refine .block (.loop (X := P2) (fun x => [(5, .pointer (some ⟨br, 0, none⟩)), (6, .slice AW W.length cW), (7, x.vG), (12, .int .i64 x.n)])
      (fun x => (br, .cells [x.vR] 77) :: (x.hR ++ (hW ++ x.hG))) (fun x => x.n ≤ W.length / 64 + 1 ∧ x.g = min x.n (W.length / 64) ∧ Bs x.vR (W.drop (64 * x.g)) x.hR ∧ OwnS 52 9 x.vG x.g (trows W x.g) x.hG) (fun x => W.length / 64 + 1 - x.n)
      ⟨g, g, vR, hR, .slice AG g cG, hG⟩ ⟨by dsimp only; omega, by dsimp only; omega, kR, oG⟩ (.cons rfl (.cons rfl (.cons rfl (.cons rfl (.nil _))))) (fun _ s => s) ?_)
    clear hg kR oG g1
    rintro ⟨n, g, vR, hR, vG, hG⟩ ⟨hn, hg, kR, oG⟩
    dsimp only at hn hg kR oG ⊢
    refine .seq (.seq ((.region (.v (.move rfl) (.v (.move rfl) (.v (.len rfl) (.v (.quo rfl rfl (by decide)) (.v (.leq rfl rfl) (.nil ?_)))))))))
    refine .cond_dec rfl (fun h6 => .skip ?_) (fun h6 => .exit ?_)
    · rw [hq] at h6
      have hxl : (W.drop (64 * g)).length = W.length - 64 * g := List.length_drop ..
      refine .mid (X := P2) (fun x => [(5, .pointer (some ⟨br, 0, none⟩)), (6, .slice AW W.length cW), (7, x.vG), (12, .int .i64 n)])
        (fun x => (br, .cells [x.vR] 77) :: (x.hR ++ (hW ++ x.hG))) (fun x => x.g = min (n + 1) (W.length / 64) ∧ Bs x.vR (W.drop (64 * x.g)) x.hR ∧ OwnS 52 9 x.vG x.g (trows W x.g) x.hG)
        (.block (.seq ((.region (.v (.move rfl) (.ef (.callT ((br, .cells [vR] 77) :: hR) rfl rfl fun w' s => Next_ok w' br vR _ hR kR) ?_)))))) ?_
      · rintro _ _ ⟨_, ⟨rfl, vR3, rfl, kR3⟩, rfl⟩
        by_cases hz64 : (W.drop (64 * g)).length < 64
        · have e1 : nextV (W.drop (64 * g)) = .tuple ⟨[.agg ⟨fcells 0#8 zw⟩, .int .i64 0, .bool false]⟩ := by rw [nextV, if_pos hz64]
          have e2 : rest64 (W.drop (64 * g)) = W.drop (64 * g) := by rw [rest64, if_pos hz64]
          rw [e1]
          rw [e2] at kR3
          refine .v (.move rfl) (.v (.extract rfl rfl) (.v (.extract rfl rfl) (.v (.extract rfl rfl) (.nw .alloc fun b13 => (.st (.storeW rfl rfl (fcells_length rfl) (fcells_ones _ _) rfl) (.v (.assign rfl) (.v (.assign rfl) (.nil ?_))))))))
          refine .seq ((.region (.v (.move rfl) (.nil ?_))))
          refine .cond_false rfl (.skip ?_)
          exact ⟨⟨n, g, vR3, hR, vG, hG⟩, ⟨by dsimp only; omega, kR3, oG⟩, (.cons rfl (.cons rfl (.cons rfl (.cons rfl (.nil _))))), fun _ s => s.take⟩
        · have e1 : nextV (W.drop (64 * g)) = .tuple ⟨[.agg ⟨fcells (unpk (chk W g)).1 (unpk (chk W g)).2.1⟩, .int .i64 (unpk (chk W g)).2.2, .bool true]⟩ := by rw [nextV, if_neg hz64]; rfl
          have e2 : rest64 (W.drop (64 * g)) = W.drop (64 * (g + 1)) := by rw [rest64, if_neg hz64, List.drop_drop]; rfl
          rw [e1]
          rw [e2] at kR3
          have hU := unpk_ws (chk W g)
          refine .v (.move rfl) (.v (.extract (v := .agg ⟨fcells (unpk (chk W g)).1 (unpk (chk W g)).2.1⟩) rfl rfl) (.v (.extract (v := .int .i64 (unpk (chk W g)).2.2) rfl rfl) (.v (.extract (v := .bool true) rfl rfl) (.nw .alloc fun b13 => (.st (.storeW rfl rfl (fcells_length hU) (fcells_ones _ _) rfl) (.v (.assign rfl) (.v (.assign rfl) (.nil ?_))))))))
          refine .seq ((.region (.v (.move rfl) (.nil ?_))))
          refine .cond_true rfl ?_
          refine .region (.v (.move rfl) (.v (.loadA (m := 8) rfl .whole (fcells_length hU)) (.v (.move rfl) (.v (.build (out := tcells (chk W g)) rfl (fill_nine (fcells_length hU) rfl)) (.push (h := hG) (oc := tcells (chk W g)) (c := g) (vs := trows W g) rfl rfl oG rfl (tcells_len _) (tcells_ones _) (by omega) (by omega) fun b7 vG2 hG2 oG3 => (.v (.assign rfl) (.nil ?_)))))))
          rw [← trows_succ] at oG3
          exact ⟨⟨n, g + 1, vR3, hR, vG2, hG2⟩, ⟨by dsimp only; omega, kR3, oG3⟩, (.cons rfl (.cons rfl (.cons rfl (.cons rfl (.nil _))))), fun _ s => s.take⟩
      · rintro ⟨n', g', vR', hR', vG', hG'⟩ ⟨hg', hinv⟩
        dsimp only at hg' hinv ⊢
        refine .region (.v (.move rfl) (.v (.addi rfl rfl (by omega)) (.v (.assign rfl) (.nil ?_))))
        exact ⟨⟨n + 1, g', vR', hR', vG', hG'⟩, ⟨by dsimp only; omega, hg', hinv⟩, by dsimp only; omega, (.cons rfl (.cons rfl (.cons rfl (.cons rfl (.nil _))))), fun _ s => s⟩
    · rw [hq] at h6
      have hg3 : g = W.length / 64 := by omega
      have hxl : (W.drop (64 * g)).length = W.length - 64 * g := List.length_drop ..
      refine .mid (X := Value × Hp) (fun x => [(5, .pointer (some ⟨br, 0, none⟩)), (6, .slice AW W.length cW), (7, x.1)]) (fun x => (br, .cells [.slice none 0 0] 77) :: (hW ++ x.2)) (fun x => OwnS 52 9 x.1 (nch W) (trows W (nch W)) x.2)
        (.seq ((.region (.v (.move rfl) (.ef (.callT [(br, .cells [vR] 77)] rfl rfl fun w' s => Close_ok w' br vR _ hR kR) ?_))))) ?_
      · rintro _ _ ⟨_, ⟨rfl, rfl⟩, rfl⟩
        refine .v (.nei rfl rfl) (.nil ?_)
        refine .cond_dec rfl (fun h8 => ?_) (fun h8 => .skip ?_)
        · have h9 : 0 < (W.drop (64 * g)).length := by
            by_cases h : 0 < (W.drop (64 * g)).length
            · exact h
            · rw [if_neg h] at h8; exact absurd rfl h8
          have e1 : nch W = g + 1 := by omega
          have et : tcells (chk W g) = fcells 0#8 zw ++ [.int .i64 20] := tcells_short (by rw [chk_len]; omega)
          refine .region (.v (.move rfl) (.v (.build (out := fcells 0#8 zw ++ [.int .i64 20]) rfl rfl) (.push (h := hG) (oc := fcells 0#8 zw ++ [.int .i64 20]) (c := g) (vs := trows W g) rfl rfl oG rfl rfl rfl (by omega) (by omega) fun b7 vG2 hG2 oG3 => (.v (.assign rfl) (.nil ?_)))))
          rw [← et, ← trows_succ, ← e1] at oG3
          exact ⟨(vG2, hG2), oG3, (.cons rfl (.cons rfl (.cons rfl (.nil _)))), fun _ s => s.take⟩
        · have h9 : ¬ 0 < (W.drop (64 * g)).length := fun h => h8 (by rw [if_pos h]; decide)
          have e1 : nch W = g := by omega
          rw [← e1] at oG
          exact ⟨(vG, hG), oG, (.cons rfl (.cons rfl (.cons rfl (.nil _)))), fun _ s => s.take⟩
      · clear oG hg hg3 hxl kR h6
        rintro ⟨vG, hG⟩ oG
        dsimp only at oG ⊢
        obtain ⟨AG, cG, rfl⟩ := OwnS.slice oG
        refine .seq ((.region (.v (.move rfl) (.ef (.call0 rfl rfl fun w' s => told_at w' AW _ cW W rfl (by omega) (OwnS.rd kW s (no := []) (fun y hy => by simp [hy]) (by simp))) ?_))))
        rintro vT _ ⟨hT, oT, rfl⟩
        obtain ⟨AT, cT, rfl⟩ := OwnS.slice oT
        refine .v (.assign rfl) (.nil ?_)
        refine .seq (.seq ((.region (.v (.move rfl) (.v (.len rfl) (.v (.move rfl) (.v (.len rfl) (.v (.nei rfl rfl) (.nil ?_)))))))))
        refine .cond_dec rfl (fun h9 => absurd rfl h9) (fun h9 => .skip ?_)
        refine .seq (.seq ((.region (.v (.assign rfl) (.nil ?_)))))
        refine .block (.loop (X := Nat) (fun i => [(5, .pointer (some ⟨br, 0, none⟩)), (7, .slice AG (nch W) cG), (16, .slice AT (nch W) cT), (17, .int .i64 i)]) (fun x => hT ++ ((br, .cells [.slice none 0 0] 77) :: (hW ++ hG))) (fun i => i ≤ nch W) (fun i => nch W - i) 0 (Nat.zero_le _) (.cons rfl (.cons rfl (.cons rfl (.cons rfl (.nil _))))) (fun _ s => s) ?_)
        intro i hi
        refine .seq (.seq ((.region (.v (.move rfl) (.v (.move rfl) (.v (.len rfl) (.v (.lss rfl rfl) (.nil ?_))))))))
        refine .cond_dec rfl (fun h10 => .skip ?_) (fun h10 => .exit ?_)
        · have hin : i < nch W := by omega
          obtain ⟨bG, pG, rfl, rG⟩ := toldRow w [] oG (i := i) hin
          obtain ⟨bT, pT, rfl, rT⟩ := toldRow w [] oT (i := i) hin
          refine .seq (.block (.seq ((.drawK _ (fun _ h => h) (by kernel_rfl) (by kernel_rfl) ?_))))
          refine .v (fun _ f => .move rfl) (.v (fun _ f => .move rfl) (.v (fun _ f => .indexAddr rfl rfl (by omega) (by omega)) (.v (fun hs' f => .loadA (vs := tcells (chk W i)) rfl (rG hs' (fun y hy => f (by simp [hy])) _ (by omega)) (tcells_len _)) (.v (fun _ f => .move rfl) (.v (fun _ f => .move rfl) (.v (fun _ f => .indexAddr rfl rfl (by omega) (by omega)) (.v (fun hs' f => .loadA (vs := tcells (chk W i)) rfl (rT hs' (fun y hy => f (by simp [hy])) _ (by omega)) (tcells_len _)) (.v (fun _ f => .neA rfl rfl (tcells_oks _) (tcells_oks _)) (.nil ?_)))))))))
          refine .cond rfl (fun g => absurd g (by rw [tcells_same]; simp)) (fun _ => .skip ?_)
          refine .region (.v (.move rfl) (.v (.addi rfl rfl (by omega)) (.v (.assign rfl) (.nil ?_))))
          exact ⟨i + 1, by omega, by omega, (.cons rfl (.cons rfl (.cons rfl (.cons rfl (.nil _))))), fun _ s => s⟩
        · refine .seq ((.region (.v (.move rfl) (.ef (.callT [(br, .cells [.slice none 0 0] 77)] rfl rfl fun w' s => Left_ok w' br _ 0 _ [] Bs.nil) ?_))))
          rintro _ _ ⟨_, ⟨rfl, rfl⟩, rfl⟩
          refine .v (.eqi rfl rfl) (.v (.assign rfl) (.nil ?_))
          exact .ret ⟨[_], ⟨rfl, trivial⟩, by simp [tup]⟩
end Go.Proofs.Ytcgnbdgagkhehaa

/- A step on a reader and on what came to it. -/
namespace Go.Proofs.Ytcgnbdgagkhehaa
open Go.V
set_option linter.unusedVariables false
set_option linter.unusedSimpArgs false

/-- a reader and its track in memory -/
abbrev TrH (bt br : Nat) (v1 v2 : Value) (h1 h2 : Hp) : Hp := (bt, .cells [.pointer (some ⟨br, 0, none⟩), v2] 59) :: (br, .cells [v1] 77) :: (h1 ++ h2)
def StepR (bt br : Nat) (n : Nat) (v : Value) (hs : Hp) : Prop :=
  v = .bool true ∧ ∃ (xs' : List (BitVec 8)) (v1 v2 : Value) (h1 h2 : Hp), hs = TrH bt br v1 v2 h1 h2 ∧ Bs v1 xs' h1 ∧ Bs v2 xs' h2 ∧ xs'.length ≤ n
theorem step_ok (w : World) (bt br : Nat) (v1 v2 : Value) (h1 h2 : Hp) (xs : List (BitVec 8)) (k1 : Bs v1 xs h1) (k2 : Bs v2 xs h2) (kd : Int) (ot : Bool) (B : Option Addr) (cB : Nat) (ys : List (BitVec 8))
    (hy : Rd w (bl (TrH bt br v1 v2 h1 h2)) B (byts ys)) (hb : xs.length + ys.length ≤ 1048576) :
    Does Try.prog 26 [.pointer (some ⟨bt, 0, none⟩), .agg ⟨[.int .i64 kd, .bool ot, .slice B ys.length cB]⟩] (TrH bt br v1 v2 h1 h2) w (StepR bt br (xs.length + ys.length)) := by
  refine Does.less (Does.of (n := 144) Try.func26 rfl rfl rfl rfl ?_)
  obtain ⟨A1, c1, rfl, hc1⟩ := k1.sl
  obtain ⟨A2, c2, rfl, hc2⟩ := k2.sl
  refine .seq ((.region (.nw (.box rfl rfl) fun b3 => (.v (.assign rfl) (.nil ?_)))))
  refine .seq (.seq ((.region (.v (.fieldAddr rfl) (.v (.load rfl (.one rfl)) (.nil ?_))))))
  refine .block (.seq ((.region (.v (.eqi rfl rfl) (.v (.assign rfl) (.nil ?_))))))
  refine .cond_dec rfl (fun g1 => ?_) (fun g1 => ?_)
  · -- Feed
    refine .seq ((.region (.v (.fieldAddr rfl) (.v (.load rfl (.one rfl)) (.ef (.call0 rfl rfl fun w s => hand_ok w B _ cB ys (hy.keep0 s) rfl (by omega)) ?_)))))
    rintro _ _ ⟨h, ho, rfl⟩
    obtain ⟨b, o, c3, l, rfl, rfl, hc, hlen, htk, hvl⟩ := ho.pos (by omega)
    have hcx : ∀ (j : Nat) (v : Value), (byts ys)[j]? = some v → l[o + j]? = some v := by
      intro j v hv
      have hv2 : (byts (ys ++ marks))[j]? = some v := by rw [byts_append, List.getElem?_append_left (List.getElem?_eq_some_iff.1 hv).1]; exact hv
      rw [← htk, List.getElem?_take] at hv2
      split at hv2
      · rw [List.getElem?_drop] at hv2; exact hv2
      · cases hv2
    refine .v (.assign rfl) (.nil ?_)
    refine .seq ((.drawT 9 (by kernel_rfl) (by kernel_rfl) (.v (.move rfl) (.v (.nilCheck rfl) (.v (.fieldAddr rfl) (.v (.load (v := .pointer (some ⟨br, 0, none⟩)) rfl (.one rfl)) (.v (.move rfl) (.v (.fieldAddr rfl) (.v (.load (v := .slice B ys.length cB) rfl (.one rfl)) (.v (.len rfl) (.v (.slHi rfl rfl (by omega) (by omega)) (.nil ?_))))))))))))
    refine .ef (.call (pre := (br, .cells [.slice A1 xs.length c1] 77) :: h1) (fr := [(b, .cells l 5), (b3, .cells [.int .i64 kd, .bool ot, .slice B ys.length cB] 61), (bt, .cells [.pointer (some ⟨br, 0, none⟩), .slice A2 xs.length c2] 59)] ++ h2) rfl rfl (List.perm_append_comm_assoc [_, _, _] ((br, _) :: h1) h2)
      fun w' s => Feed_ok w' br _ xs ys h1 k1 _ c3 (Rd.chunk s ?_ hcx) (by omega)) ?_
    · exact Sat.not_in s (h := (br, .cells [.slice A1 xs.length c1] 77) :: h1) (by intro p hp; simp at hp ⊢; rcases hp with rfl | hp <;> simp [*])
    rintro _ _ ⟨_, ⟨v1', h1', rfl, k1'⟩, rfl⟩
    refine .nil ?_
    refine .seq ((.drawZ 12 [(b3, .cells [.int .i64 kd, .bool ot, .slice B ys.length cB] 61), (bt, .cells [.pointer (some ⟨br, 0, none⟩), .slice A2 xs.length c2] 59)] (by intro p hp; simp at hp ⊢; rcases hp with rfl | rfl <;> simp) (by kernel_rfl) ?_))
    refine .v 0 rfl (by kernel_rfl) (fun hs' f => .move rfl) ?_
    refine .v 2 rfl (by kernel_rfl) (fun hs' f => .move rfl) ?_
    refine .v 3 rfl (by kernel_rfl) (fun hs' f => .nilCheck rfl) ?_
    refine .v 4 rfl (by kernel_rfl) (fun hs' f => .fieldAddr rfl) ?_
    refine .v 5 rfl (by kernel_rfl) (fun hs' f => .load (v := .slice A2 xs.length c2) rfl (.one (hb := .sub f) rfl)) ?_
    refine .v 7 rfl (by kernel_rfl) (fun hs' f => .fieldAddr rfl) ?_
    refine .v 8 rfl (by kernel_rfl) (fun hs' f => .load (v := .slice B ys.length cB) rfl (.one (hb := .sub f) rfl)) ?_
    refine .ef 1 rfl (by kernel_rfl) (.buildSlice (out := []) rfl (by decide) rfl rfl) ?_ (fun v hs' ⟨b, _, e⟩ f => by subst e; exact fun p hp => List.mem_cons_of_mem _ (f hp)) rfl
    rintro _ _ ⟨b6, rfl, rfl⟩
    refine .ef 6 rfl (by kernel_rfl) (.append (c := 0) (k := xs.length) (vs := []) (news := byts xs) (h := [(b6, .cells [] 5)]) (fr := (h1' ++ [(br, .cells [v1'] 77)]) ++ ([(b, .cells l 5), (b3, .cells [.int .i64 kd, .bool ot, .slice B ys.length cB] 61), (bt, .cells [.pointer (some ⟨br, 0, none⟩), .slice A2 xs.length c2] 59)] ++ h2)) rfl rfl ⟨rfl, .inr ⟨b6, 0, 0, [], rfl, rfl, by omega, by simp, by simp⟩⟩ (List.Perm.refl _)
      (fun w' s => (k2.rd s (no := []) (fun p hp => by simp [hp]) (by simp)).src (by rw [byts_length]; omega) (by omega)) (by rw [byts_length]; omega) (byts_ones _) (by omega) (by omega)) ?_ (fun v hs' ⟨h', _, e⟩ _ => by subst e; intro p hp; simp at hp ⊢; rcases hp with rfl | rfl <;> simp) rfl
    rintro v6 _ ⟨h6, k6, rfl⟩
    refine .ef 9 rfl (by kernel_rfl) (.append (c := 0 + xs.length) (k := ys.length) (vs := [] ++ byts xs) (news := byts ys) (h := h6) (fr := (h1' ++ [(br, .cells [v1'] 77)]) ++ ([(b, .cells l 5), (b3, .cells [.int .i64 kd, .bool ot, .slice B ys.length cB] 61), (bt, .cells [.pointer (some ⟨br, 0, none⟩), .slice A2 xs.length c2] 59)] ++ h2)) rfl rfl k6 (List.Perm.refl _)
      (fun w' s => (hy.keep0 s).src (by rw [byts_length]; omega) (by omega)) (by rw [byts_length]; omega) (byts_ones _) (by omega) (by omega)) ?_ (fun v hs' ⟨h', _, e⟩ _ => by subst e; intro p hp; simp at hp ⊢; rcases hp with rfl | rfl <;> simp) rfl
    rintro v9 _ ⟨h9, k9, rfl⟩
    refine .v1 10 rfl (by kernel_rfl) (.nilCheck rfl) ?_ rfl
    refine .v1 11 rfl (by kernel_rfl) (.fieldAddr rfl) ?_ rfl
    refine .st rfl (by kernel_rfl) rfl (.store rfl rfl (by obtain ⟨_, _, rfl⟩ := k9.slice; rfl) (by simp)) ?_
    refine .done (by kernel_rfl) ?_
    have k9' : Bs v9 (xs ++ ys) h9 := by
      unfold Bs
      rw [List.length_append]
      simpa [byts_append] using k9
    refine .seq ((.region (.v (.move rfl) (.v (.fieldAddr rfl) (.v (.load (v := .slice B ys.length cB) rfl (.one rfl)) ?_)))))
    refine .ef (.call (pre := [(b, .cells l 5)]) (fr := (h9 ++ (h1' ++ [(br, .cells [v1'] 77)])) ++ ([(b3, .cells [.int .i64 kd, .bool ot, .slice B ys.length cB] 61), (bt, .cells [.pointer (some ⟨br, 0, none⟩), v9] 59)] ++ h2)) rfl rfl (by rw [← List.append_assoc]; exact List.perm_middle)
      fun w' s => left_ok w' b o c3 ys.length cB B l (ys ++ marks) ys 5 (ys.length + 5) (by simp [marks]) (by simpa using htk) (by omega) (by omega) (hy.keep s fun b' hb' => ?_) rfl (by omega) (by omega)) ?_
    · simp at hb'
      subst hb'
      exact s.mine _ (by simp [bl])
    rintro _ _ ⟨_, ⟨rfl, rfl⟩, rfl⟩
    refine .v (.assign rfl) (.nil ?_)
    refine .ret ⟨[_], ⟨rfl, trivial⟩, TrH bt br v1' v9 h1' h9, fun w' s => ?_, by simp [tup], xs ++ ys, v1', v9, h1', h9, rfl, k1', k9', by simp⟩
    have s1 : Sat w (bl (TrH bt br (.slice A1 xs.length c1) (.slice A2 xs.length c2) h1 h2)) ((h9 ++ (h1' ++ [(br, .cells [v1'] 77)])) ++ [(bt, .cells [.pointer (some ⟨br, 0, none⟩), v9] 59)]) w' := s.sub (List.Sublist.append_left (.cons _ (.cons_cons _ (List.nil_sublist _))) _)
    refine s1.perm ?_
    refine (List.perm_append_singleton _ _).trans (.cons _ ?_)
    rw [← List.append_assoc]
    exact (List.perm_append_singleton _ _).trans (.cons _ List.perm_append_comm)
  refine .seq ((.region (.v (.eqi rfl rfl) (.v (.assign rfl) (.nil ?_)))))
  refine .cond_dec rfl (fun g2 => ?_) (fun g2 => ?_)
  · -- Next
    refine .seq ((.region (.v (.move rfl) (.v (.nilCheck rfl) (.v (.fieldAddr rfl) (.v (.load (v := .pointer (some ⟨br, 0, none⟩)) rfl (.one rfl)) (.ef (.call (pre := (br, .cells [.slice A1 xs.length c1] 77) :: h1) (fr := [(b3, .cells [.int .i64 kd, .bool ot, .slice B ys.length cB] 61), (bt, .cells [.pointer (some ⟨br, 0, none⟩), .slice A2 xs.length c2] 59)] ++ h2) rfl rfl (by exact List.perm_append_comm_assoc [(b3, .cells [.int .i64 kd, .bool ot, .slice B ys.length cB] 61), (bt, .cells [.pointer (some ⟨br, 0, none⟩), .slice A2 xs.length c2] 59)] ((br, .cells [.slice A1 xs.length c1] 77) :: h1) h2) fun w' s => Next_ok w' br _ xs h1 k1) ?_)))))))
    rintro _ _ ⟨_, ⟨rfl, v1', rfl, k1'⟩, rfl⟩
    by_cases hx : xs.length < 64
    · have e1 : nextV xs = .tuple ⟨[.agg ⟨fcells 0#8 zw⟩, .int .i64 0, .bool false]⟩ := by rw [nextV, if_pos hx]
      have e2 : rest64 xs = xs := by rw [rest64, if_pos hx]
      rw [e1]
      rw [e2] at k1'
      have eq1 : cellsEq (fcells 0#8 zw) (fcells 0#8 zw) = true := by rw [fcells_eq rfl rfl]; simp
      refine .v (.move rfl) (.v (.extract rfl rfl) (.v (.extract rfl rfl) (.v (.extract rfl rfl) (.nw .alloc fun b6 => (.st (.storeW rfl rfl (fcells_length rfl) (fcells_ones _ _) rfl) (.v (.assign rfl) (.v (.assign rfl) (.nil ?_))))))))
      refine .seq (.seq ((.region (.v (.move rfl) (.v (.nilCheck rfl) (.v (.fieldAddr rfl) (.v (.load (v := .slice A2 xs.length c2) rfl (.one rfl)) (.v (.len rfl) (.v (.lss rfl rfl) (.nil ?_))))))))))
      refine .cond_dec rfl (fun g3 => ?_) (fun g3 => absurd g3 (by omega))
      refine .seq ((.region (.v (.move rfl) (.v (.not rfl) (.v (.move rfl) (.and 65 68 3 3 rfl rfl (fun _ => .v (.loadA rfl .whole (fcells_length rfl)) (.v (.build (out := fcells 0#8 zw) rfl rfl) (.v (.eqA rfl rfl (fcells_oks rfl) (fcells_oks rfl)) (.nil ⟨rfl, rfl, rfl, rfl⟩)))) (.v (.move rfl) (.and 70 72 2 2 rfl rfl (fun _ => .v (.move rfl) (.v (.eqi rfl rfl) (.nil ⟨rfl, rfl, rfl, rfl⟩))) (.v (.assign rfl) (.nil ?_))))))))))
      refine .ret ⟨[_], ⟨rfl, trivial⟩, TrH bt br v1' (.slice A2 xs.length c2) h1 h2, fun w' s => ?_, by simp [tup, eq1], xs, v1', _, h1, h2, rfl, k1', k2, by omega⟩
      have s1 : Sat w (bl (TrH bt br (.slice A1 xs.length c1) (.slice A2 xs.length c2) h1 h2)) ((br, .cells [v1'] 77) :: (h1 ++ ((bt, .cells [.pointer (some ⟨br, 0, none⟩), .slice A2 xs.length c2] 59) :: h2))) w' := s.sub (.cons _ (.cons_cons _ (List.Sublist.append_left (.cons _ (List.Sublist.refl _)) _)))
      exact s1.perm (((List.Perm.cons _ List.perm_middle)).trans (List.Perm.swap _ _ _))
    · have hU := unpk_ws (xs.take 64)
      have e1 : nextV xs = .tuple ⟨[.agg ⟨fcells (unpk (xs.take 64)).1 (unpk (xs.take 64)).2.1⟩, .int .i64 (unpk (xs.take 64)).2.2, .bool true]⟩ := by rw [nextV, if_neg hx]
      have e2 : rest64 xs = xs.drop 64 := by rw [rest64, if_neg hx]
      rw [e1]
      rw [e2] at k1'
      have eq1 : cellsEq (fcells (unpk (xs.take 64)).1 (unpk (xs.take 64)).2.1) (fcells (unpk (xs.take 64)).1 (unpk (xs.take 64)).2.1) = true := by rw [fcells_eq hU hU]; simp
      have k2' := k2.cut (by omega : 64 ≤ xs.length)
      refine .v (.move rfl) (.v (.extract (v := .agg ⟨fcells (unpk (xs.take 64)).1 (unpk (xs.take 64)).2.1⟩) rfl rfl) (.v (.extract (v := .int .i64 (unpk (xs.take 64)).2.2) rfl rfl) (.v (.extract (v := .bool true) rfl rfl) (.nw .alloc fun b6 => (.st (.storeW rfl rfl (fcells_length hU) (fcells_ones _ _) rfl) (.v (.assign rfl) (.v (.assign rfl) (.nil ?_))))))))
      refine .seq (.seq ((.region (.v (.move rfl) (.v (.nilCheck rfl) (.v (.fieldAddr rfl) (.v (.load (v := .slice A2 xs.length c2) rfl (.one rfl)) (.v (.len rfl) (.v (.lss rfl rfl) (.nil ?_))))))))))
      refine .cond_dec rfl (fun g3 => absurd g3 (by omega)) (fun g3 => .skip ?_)
      refine .seq ((.region (.v (.move rfl) (.v (.nilCheck rfl) (.v (.fieldAddr rfl) (.v (.load (v := .slice A2 xs.length c2) rfl (.one rfl)) (.v (.slHi rfl rfl (by omega) (by omega)) (.pc rfl rfl (fun w s => refUnpack_ok w _ _ c2 (xs.take 64) (by rw [← byts_tk]; exact (k2.rd s (fun p hp => by simp [hp]) (by simp)).take 64) (by simp; omega)) (.v (.move rfl) (.v (.extract (vs := [.agg ⟨fcells (unpk (xs.take 64)).1 (unpk (xs.take 64)).2.1⟩, .int .i64 (unpk (xs.take 64)).2.2]) rfl rfl) (.v (.extract (vs := [.agg ⟨fcells (unpk (xs.take 64)).1 (unpk (xs.take 64)).2.1⟩, .int .i64 (unpk (xs.take 64)).2.2]) rfl rfl) (.nw .alloc fun b9 => (.st (.storeW rfl rfl (fcells_length hU) (fcells_ones _ _) rfl) (.v (.assign rfl) (.nil ?_)))))))))))))))
      refine .seq ((.region (.v (.move rfl) (.v (.move rfl) (.v (.nilCheck rfl) (.v (.fieldAddr rfl) (.v (.load (v := .slice A2 xs.length c2) rfl (.one rfl)) (.v (.slLo rfl rfl (by omega) (by omega)) (.v (.nilCheck rfl) (.v (.fieldAddr rfl) (.st (.store rfl rfl rfl (by simp)) (.nil ?_))))))))))))
      refine .seq ((.region (.v (.move rfl) (.v (.move rfl) (.and 92 95 3 3 rfl rfl (fun _ => .v (.loadA rfl .whole (fcells_length hU)) (.v (.loadA rfl .whole (fcells_length hU)) (.v (.eqA rfl rfl (fcells_oks hU) (fcells_oks hU)) (.nil ⟨rfl, rfl, rfl, rfl⟩)))) (.v (.move rfl) (.and 97 100 3 3 rfl rfl (fun _ => .v (.move rfl) (.v (.move rfl) (.v (.eqi rfl rfl) (.nil ⟨rfl, rfl, rfl, rfl⟩)))) (.v (.assign rfl) (.nil ?_)))))))))
      refine .ret ⟨[_], ⟨rfl, trivial⟩, TrH bt br v1' (.slice (cutA A2 c2 64 1) (xs.length - 64) (c2 - 64)) h1 h2, fun w' s => ?_, by simp [tup, eq1], xs.drop 64, v1', _, h1, h2, rfl, k1', k2', by simp; omega⟩
      have s1 : Sat w (bl (TrH bt br (.slice A1 xs.length c1) (.slice A2 xs.length c2) h1 h2)) ((br, .cells [v1'] 77) :: (h1 ++ ((bt, .cells [.pointer (some ⟨br, 0, none⟩), .slice (cutA A2 c2 64 1) (xs.length - 64) (c2 - 64)] 59) :: h2))) w' := s.sub (.cons _ (.cons _ (.cons_cons _ (List.Sublist.append_left (.cons _ (List.Sublist.refl _)) _))))
      exact s1.perm (((List.Perm.cons _ List.perm_middle)).trans (List.Perm.swap _ _ _))
  refine .seq ((.region (.v (.eqi rfl rfl) (.v (.assign rfl) (.nil ?_)))))
  refine .cond_dec rfl (fun g3 => ?_) (fun g3 => ?_)
  · -- Left
    refine .seq ((.draw [(bt, .cells [.pointer (some ⟨br, 0, none⟩), .slice A2 xs.length c2] 59)] (by intro p hp; simp at hp ⊢; simp [hp]) (by kernel_rfl) ?_))
    refine .v 0 rfl (by kernel_rfl) (fun hs' f => .move rfl) ?_
    refine .v 1 rfl (by kernel_rfl) (fun hs' f => .nilCheck rfl) ?_
    refine .v 2 rfl (by kernel_rfl) (fun hs' f => .fieldAddr rfl) ?_
    refine .v 3 rfl (by kernel_rfl) (fun hs' f => .load (v := .pointer (some ⟨br, 0, none⟩)) rfl (.one (hb := .sub f) rfl)) ?_
    refine .v 5 rfl (by kernel_rfl) (fun hs' f => .move rfl) ?_
    refine .v 6 rfl (by kernel_rfl) (fun hs' f => .nilCheck rfl) ?_
    refine .v 7 rfl (by kernel_rfl) (fun hs' f => .fieldAddr rfl) ?_
    refine .v 8 rfl (by kernel_rfl) (fun hs' f => .load (v := .slice A2 xs.length c2) rfl (.one (hb := .sub f) rfl)) ?_
    refine .v 9 rfl (by kernel_rfl) (fun hs' f => .len rfl) ?_
    refine .ef 4 rfl (by kernel_rfl) (.call (pre := [(br, .cells [.slice A1 xs.length c1] 77)]) (fr := [(b3, .cells [.int .i64 kd, .bool ot, .slice B ys.length cB] 61), (bt, .cells [.pointer (some ⟨br, 0, none⟩), .slice A2 xs.length c2] 59)] ++ (h1 ++ h2)) rfl rfl (by exact List.perm_append_comm_assoc [(b3, .cells [.int .i64 kd, .bool ot, .slice B ys.length cB] 61), (bt, .cells [.pointer (some ⟨br, 0, none⟩), .slice A2 xs.length c2] 59)] [(br, .cells [.slice A1 xs.length c1] 77)] (h1 ++ h2)) fun w' s => Left_ok w' br _ xs.length _ h1 k1) ?_ (fun v hs' ⟨h', ⟨_, e1⟩, e⟩ _ => by subst e1; subst e; intro p hp; simp at hp ⊢; simp [hp])
    rintro _ _ ⟨_, ⟨rfl, rfl⟩, rfl⟩
    refine .v 10 rfl (by kernel_rfl) (fun hs' f => .eqi rfl rfl) ?_
    refine .v 11 rfl (by kernel_rfl) (fun hs' f => .assign rfl) ?_
    refine .done (by kernel_rfl) ?_
    refine .ret ⟨[_], ⟨rfl, trivial⟩, TrH bt br (.slice A1 xs.length c1) (.slice A2 xs.length c2) h1 h2, fun w' s => ?_, by simp [tup], xs, _, _, h1, h2, rfl, k1, k2, by omega⟩
    exact (s.sub (.cons_cons _ (.cons _ (List.Sublist.refl _)))).perm (List.Perm.swap _ _ _)
  refine .seq ((.region (.v (.eqi rfl rfl) (.v (.assign rfl) (.nil ?_)))))
  refine .cond_dec rfl (fun g4 => ?_) (fun g4 => .skip ?_)
  · -- Close
    refine .seq ((.region (.v (.move rfl) (.v (.nilCheck rfl) (.v (.fieldAddr rfl) (.v (.load (v := .pointer (some ⟨br, 0, none⟩)) rfl (.one rfl)) (.ef (.call (pre := [(br, .cells [.slice A1 xs.length c1] 77)]) (fr := [(b3, .cells [.int .i64 kd, .bool ot, .slice B ys.length cB] 61), (bt, .cells [.pointer (some ⟨br, 0, none⟩), .slice A2 xs.length c2] 59)] ++ (h1 ++ h2)) rfl rfl (by exact List.perm_append_comm_assoc [(b3, .cells [.int .i64 kd, .bool ot, .slice B ys.length cB] 61), (bt, .cells [.pointer (some ⟨br, 0, none⟩), .slice A2 xs.length c2] 59)] [(br, .cells [.slice A1 xs.length c1] 77)] (h1 ++ h2)) fun w' s => Close_ok w' br _ xs h1 k1) ?_)))))))
    rintro _ _ ⟨_, ⟨rfl, rfl⟩, rfl⟩
    refine .v (.assign rfl) (.nil ?_)
    refine .seq ((.region (.v (.move rfl) (.v (.nilCheck rfl) (.v (.fieldAddr rfl) (.v (.load (v := .slice A2 xs.length c2) rfl (.one rfl)) (.v (.len rfl) (.v (.gtr rfl rfl) (.v (.assign rfl) (.nil ?_))))))))))
    refine .seq ((.region (.v (.move rfl) (.v (.nilCheck rfl) (.v (.fieldAddr rfl) (.st (.store rfl rfl rfl (by simp)) (.nil ?_)))))))
    refine .seq ((.region (.v (.move rfl) (.v (.move rfl) (.and 132 134 2 2 rfl rfl (fun _ => .v (.move rfl) (.v (.eqi rfl rfl) (.nil ⟨rfl, rfl, rfl, rfl⟩))) (.v (.move rfl) (.or 136 142 6 4 rfl rfl (fun _ => .v (.move rfl) (.v (.not rfl) (.v (.move rfl) (.and 139 141 2 2 rfl rfl (fun _ => .v (.move rfl) (.v (.eqi rfl rfl) (.nil ⟨rfl, rfl, rfl, rfl⟩))) (.nil ⟨rfl, rfl, rfl, rfl⟩))))) (.v (.assign rfl) (.nil ?_)))))))))
    refine .ret ⟨[_], ⟨rfl, trivial⟩, TrH bt br (.slice none 0 0) (.slice none 0 0) [] [], fun w' s => ?_, ?_, [], _, _, [], [], rfl, Bs.nil, Bs.nil, by simp⟩
    · have s1 : Sat w (bl (TrH bt br (.slice A1 xs.length c1) (.slice A2 xs.length c2) h1 h2)) [(br, .cells [.slice none 0 0] 77), (bt, .cells [.pointer (some ⟨br, 0, none⟩), .slice none 0 0] 59)] w' := s.sub (.cons_cons _ (.cons _ (.cons_cons _ (List.nil_sublist _))))
      exact s1.perm (List.Perm.swap _ _ _)
    · simp only [tup]
      congr 1
      by_cases h0 : 0 < xs.length
      · simp [h0]
      · simp [h0]
  · refine .seq ((.region (.v (.assign rfl) (.nil ?_))))
    refine .ret ⟨[_], ⟨rfl, trivial⟩, TrH bt br (.slice A1 xs.length c1) (.slice A2 xs.length c2) h1 h2, fun w' s => s.sub (.cons _ (List.Sublist.refl _)), by simp [tup], xs, _, _, h1, h2, rfl, k1, k2, by omega⟩
end Go.Proofs.Ytcgnbdgagkhehaa

/- WireReaders: the walk. -/
namespace Go.Proofs.Ytcgnbdgagkhehaa
open Go.V
set_option linter.unusedVariables false
set_option linter.unusedSimpArgs false

structure OpD where
  k : Int
  o : Bool
  B : Option Addr
  c : Nat
  ys : List (BitVec 8)
def OpD.cells (d : OpD) : List Value := [.int .i64 d.k, .bool d.o, .slice d.B d.ys.length d.c]
def tot (l : List OpD) : Nat := (l.map fun d => d.ys.length).sum
theorem tot_take {l : List OpD} {i : Nat} {d : OpD} (h : l[i]? = some d) : tot (l.take (i + 1)) = tot (l.take i) + d.ys.length := by
  simp [tot, List.take_add_one, h]
theorem tot_le (l : List OpD) (i : Nat) : tot (l.take i) ≤ tot l := by
  have h : tot l = tot (l.take i) + tot (l.drop i) := by
    rw [tot, tot, tot, ← List.sum_append, ← List.map_append, List.take_append_drop]
  omega
/-- two tracks -/
structure St where
  i : Nat
  xa : List (BitVec 8)
  a1 : Value
  a2 : Value
  p1 : Hp
  p2 : Hp
  xb : List (BitVec 8)
  b1 : Value
  b2 : Value
  q1 : Hp
  q2 : Hp
theorem WireReaders_ok (w : World) (A : Option Addr) (len cap : Nat) (l : List OpD) (hlen : len = l.length)
    (hcell : ∀ (i : Nat) (d : OpD), l[i]? = some d → ∀ (j : Nat) (v : Value), d.cells[j]? = some v → ∃ b o, A = some ⟨b, o, none⟩ ∧ w.cell? ⟨b, o + (i * 3 + j), none⟩ = some v)
    (hys : ∀ (i : Nat) (d : OpD), l[i]? = some d → Rd w [] d.B (byts d.ys)) (hb : tot l ≤ 1048576) (h63 : len ≤ 1048576) :
    Is Try.prog 10 [.slice A len cap] w (.bool true) := by
  refine Does.pure (Does.of (n := 80) Try.func10 rfl rfl rfl rfl ?_)
  refine .seq ((.region (.v (.assign rfl) (.nil ?_))))
  refine .seq ((.region (.ef (.call0 rfl rfl fun w s => NewReader_ok w) ?_)))
  rintro _ _ ⟨_, ⟨ra, rfl, rfl⟩, rfl⟩
  refine .v (.build (out := [.pointer (some ⟨ra, 0, none⟩), .slice none 0 0]) rfl rfl) (.nw (.box rfl rfl) fun ta => (.v (.assign rfl) (.nil ?_)))
  refine .seq ((.region (.ef (.call0 rfl rfl fun w s => NewReader_ok w) ?_)))
  rintro _ _ ⟨_, ⟨rb, rfl, rfl⟩, rfl⟩
  refine .v (.build (out := [.pointer (some ⟨rb, 0, none⟩), .slice none 0 0]) rfl rfl) (.nw (.box rfl rfl) fun tb => (.v (.assign rfl) (.nil ?_)))
  have hpz := packed_length (k := 0#8) (ws := zw) rfl
  have hz : cellsEq (byts (packed 0#8 zw)) (byts (packed 0#8 zw)) = true := by rw [byts_eq hpz hpz]; simp
  have hc0 : ((crc []).toNat : Int) = 0 := by decide +kernel
  refine .seq (.seq ((.region (.v (.move rfl) (.v (.nilCheck rfl) (.v (.fieldAddr rfl) (.v (.load (v := .pointer (some ⟨ra, 0, none⟩)) rfl (.one rfl)) (.v (.eql_ptr_nil rfl rfl) (.v (.move rfl) (.or 18 23 5 5 rfl rfl (fun _ => .v (.move rfl) (.v (.nilCheck rfl) (.v (.fieldAddr rfl) (.v (.load (v := .pointer (some ⟨rb, 0, none⟩)) rfl (.one rfl)) (.v (.eql_ptr_nil rfl rfl) (.nil ⟨rfl, rfl, rfl, rfl⟩)))))) (.v (.move rfl) (.or 25 27 2 2 rfl rfl (fun _ => .pc rfl rfl (fun w s => Sum_ok w _ _ 0 [] (Rd.nil _ _ _) rfl (by decide)) (.v (.nei rfl rfl) (.nil ⟨rfl, rfl, rfl, rfl⟩))) (.v (.move rfl) (.or 29 34 5 5 rfl rfl (fun _ => .v (.build (out := fcells 0#8 zw) rfl rfl) (.pc rfl rfl (fun w s => Pack_ok w 0#8 zw rfl) (.v (.build (out := fcells 0#8 zw) rfl rfl) (.pc rfl rfl (fun w s => refPack_ok w 0#8 zw rfl) (.v (.neA rfl rfl (byts_oks' hpz) (byts_oks' hpz)) (.nil ⟨rfl, rfl, rfl, rfl⟩)))))) (.nil ?_)))))))))))))))
  refine .cond rfl (fun h => absurd h (by rw [hc0, hz]; simp)) (fun _ => .skip ?_)
  refine .seq (.seq ((.region (.v (.assign rfl) (.nil ?_)))))
  refine .block (.loop (X := St) (fun x => [(0, .slice A len cap), (3, .pointer (some ⟨ta, 0, none⟩)), (4, .pointer (some ⟨tb, 0, none⟩)), (5, .int .i64 x.i)])
    (fun x => TrH ta ra x.a1 x.a2 x.p1 x.p2 ++ TrH tb rb x.b1 x.b2 x.q1 x.q2)
    (fun x => x.i ≤ len ∧ Bs x.a1 x.xa x.p1 ∧ Bs x.a2 x.xa x.p2 ∧ Bs x.b1 x.xb x.q1 ∧ Bs x.b2 x.xb x.q2 ∧ x.xa.length + x.xb.length ≤ tot (l.take x.i)) (fun x => len - x.i)
    ⟨0, [], .slice none 0 0, .slice none 0 0, [], [], [], .slice none 0 0, .slice none 0 0, [], []⟩ ⟨by simp, Bs.nil, Bs.nil, Bs.nil, Bs.nil, by simp⟩
    (.cons rfl (.cons rfl (.cons rfl (.cons rfl (.nil _))))) (fun _ s => s.perm (List.perm_append_comm (l₁ := [_, _]) (l₂ := [_, _]))) ?_)
  rintro ⟨i, xa, a1, a2, p1, p2, xb, b1, b2, q1, q2⟩ ⟨hi, ka1, ka2, kb1, kb2, hx⟩
  dsimp only at hi ka1 ka2 kb1 kb2 hx ⊢
  refine .seq (.seq ((.region (.v (.move rfl) (.v (.move rfl) (.v (.len rfl) (.v (.lss rfl rfl) (.nil ?_))))))))
  refine .cond_dec rfl (fun g1 => .skip ?_) (fun g1 => .exit ?_)
  · have hil : i < l.length := by omega
    have hd := List.getElem?_eq_getElem hil
    have htot := tot_take hd
    have hle := tot_le l (i + 1)
    generalize hD : l[i] = d at hd htot
    have hc := hcell i d hd
    have hy := hys i d hd
    obtain ⟨b, o, rfl, -⟩ := hc 0 _ rfl
    have hcs : ∀ (j : Nat) (v : Value), d.cells[j]? = some v → w.cell? ⟨b, o + i * 3 + j, none⟩ = some v := by
      intro j v hv
      obtain ⟨b', o', e, h⟩ := hc j v hv
      cases e
      rw [Nat.add_assoc]; exact h
    refine .seq (.block (.seq ((.region (.v (.move rfl) (.v (.assign rfl) (.nil ?_)))))))
    refine .seq (.seq ((.region (.v (.move rfl) (.v (.move rfl) (.v (.indexAddr rfl rfl (by omega) (by omega)) (.v (.fieldAddr rfl) (.v (.load (v := .bool d.o) rfl (.old1 ?_ (by simp [bl]))) (.nil ?_)))))))))
    · rw [Int.toNat_natCast]; exact hcs 1 _ rfl
    refine .cond rfl (fun ho => ?_) (fun ho => .skip ?_)
    · refine .region (.v (.move rfl) (.v (.assign rfl) (.nil ?_)))
      refine .seq ((.region (.v (.move rfl) (.v (.move rfl) (.v (.move rfl) (.v (.indexAddr rfl rfl (by omega) (by omega)) (.v (.loadA (vs := d.cells) rfl (.old (fun j v hv => ?_) (by simp [bl])) rfl) (.ef (.call (R := StepR tb rb (xb.length + d.ys.length)) (pre := TrH tb rb b1 b2 q1 q2) (fr := TrH ta ra a1 a2 p1 p2) rfl rfl (by exact List.perm_append_comm) fun w' s => ?_) ?_))))))))
      · rw [add_none, Int.toNat_natCast]; exact hcs j v hv
      · have := step_ok w' tb rb b1 b2 q1 q2 xb kb1 kb2 d.k d.o d.B d.c d.ys (hy.keep s fun b' hb' => s.mine b' (by simp only [bl, List.map_append, List.mem_append] at hb' ⊢; exact .inr hb')) (by omega)
        exact this
      rintro _ _ ⟨_, ⟨rfl, xs', v1, v2, h1, h2, rfl, k1, k2, hl⟩, rfl⟩
      refine .v (.not rfl) (.nil ?_)
      refine .cond_false rfl (.skip ?_)
      refine .region (.v (.move rfl) (.v (.addi rfl rfl (by omega)) (.v (.assign rfl) (.nil ?_))))
      exact ⟨⟨i + 1, xa, a1, a2, p1, p2, xs', v1, v2, h1, h2⟩, ⟨by simp only; omega, ka1, ka2, k1, k2, by simp only; omega⟩, by simp only; omega, .cons rfl (.cons rfl (.cons rfl (.cons rfl (.nil _)))), fun _ s => s.perm List.perm_append_comm⟩
    · refine .seq ((.region (.v (.move rfl) (.v (.move rfl) (.v (.move rfl) (.v (.indexAddr rfl rfl (by omega) (by omega)) (.v (.loadA (vs := d.cells) rfl (.old (fun j v hv => ?_) (by simp [bl])) rfl) (.ef (.call (R := StepR ta ra (xa.length + d.ys.length)) (pre := TrH ta ra a1 a2 p1 p2) (fr := TrH tb rb b1 b2 q1 q2) rfl rfl (by exact List.Perm.refl _) fun w' s => ?_) ?_))))))))
      · rw [add_none, Int.toNat_natCast]; exact hcs j v hv
      · have := step_ok w' ta ra a1 a2 p1 p2 xa ka1 ka2 d.k d.o d.B d.c d.ys (hy.keep s fun b' hb' => s.mine b' (by simp only [bl, List.map_append, List.mem_append] at hb' ⊢; exact .inl hb')) (by omega)
        exact this
      rintro _ _ ⟨_, ⟨rfl, xs', v1, v2, h1, h2, rfl, k1, k2, hl⟩, rfl⟩
      refine .v (.not rfl) (.nil ?_)
      refine .cond_false rfl (.skip ?_)
      refine .region (.v (.move rfl) (.v (.addi rfl rfl (by omega)) (.v (.assign rfl) (.nil ?_))))
      exact ⟨⟨i + 1, xs', v1, v2, h1, h2, xb, b1, b2, q1, q2⟩, ⟨by simp only; omega, k1, k2, kb1, kb2, by simp only; omega⟩, by simp only; omega, .cons rfl (.cons rfl (.cons rfl (.cons rfl (.nil _)))), fun _ s => s⟩
  · obtain ⟨A1, c1, rfl, _⟩ := ka2.sl
    obtain ⟨A2, c2, rfl, _⟩ := kb2.sl
    refine .perm (hs' := [(ta, .cells [.pointer (some ⟨ra, 0, none⟩), .slice A1 xa.length c1] 59), (ra, .cells [a1] 77), (tb, .cells [.pointer (some ⟨rb, 0, none⟩), .slice A2 xb.length c2] 59), (rb, .cells [b1] 77)] ++ ((p1 ++ p2) ++ (q1 ++ q2))) (by exact (List.perm_append_comm_assoc (p1 ++ p2) [(tb, .cells [.pointer (some ⟨rb, 0, none⟩), .slice A2 xb.length c2] 59), (rb, .cells [b1] 77)] (q1 ++ q2)).cons _ |>.cons _) ?_
    refine .seq ((.draw [(ta, .cells [.pointer (some ⟨ra, 0, none⟩), .slice A1 xa.length c1] 59), (tb, .cells [.pointer (some ⟨rb, 0, none⟩), .slice A2 xb.length c2] 59)] (by intro p hp; simp at hp ⊢; rcases hp with rfl | rfl <;> simp) (by kernel_rfl) ?_))
    refine .v 0 rfl (by kernel_rfl) (fun hs' f => .move rfl) ?_
    refine .v 1 rfl (by kernel_rfl) (fun hs' f => .nilCheck rfl) ?_
    refine .v 2 rfl (by kernel_rfl) (fun hs' f => .fieldAddr rfl) ?_
    refine .v 3 rfl (by kernel_rfl) (fun hs' f => .load (v := .pointer (some ⟨ra, 0, none⟩)) rfl (.one (hb := .sub f) rfl)) ?_
    refine .v 5 rfl (by kernel_rfl) (fun hs' f => .move rfl) ?_
    refine .v 6 rfl (by kernel_rfl) (fun hs' f => .nilCheck rfl) ?_
    refine .v 7 rfl (by kernel_rfl) (fun hs' f => .fieldAddr rfl) ?_
    refine .v 8 rfl (by kernel_rfl) (fun hs' f => .load (v := .slice A1 xa.length c1) rfl (.one (hb := .sub f) rfl)) ?_
    refine .v 9 rfl (by kernel_rfl) (fun hs' f => .len rfl) ?_
    refine .ef 4 rfl (by kernel_rfl) (.call (pre := [(ra, .cells [a1] 77)]) (fr := [(ta, .cells [.pointer (some ⟨ra, 0, none⟩), .slice A1 xa.length c1] 59)] ++ ([(tb, .cells [.pointer (some ⟨rb, 0, none⟩), .slice A2 xb.length c2] 59), (rb, .cells [b1] 77)] ++ ((p1 ++ p2) ++ (q1 ++ q2)))) rfl rfl (by exact List.Perm.swap _ _ _) fun w' s => Left_ok w' ra _ xa.length _ p1 ka1) ?_ (fun v hs' ⟨h', ⟨_, e1⟩, e⟩ _ => by subst e1; subst e; intro p hp; simp at hp ⊢; rcases hp with rfl | rfl <;> simp)
    rintro _ _ ⟨_, ⟨rfl, rfl⟩, rfl⟩
    refine .v 10 rfl (by kernel_rfl) (fun hs' f => .eqi rfl rfl) ?_
    refine .v 11 rfl (by kernel_rfl) (fun hs' f => .move rfl) (.split (t := 67) rfl (fun _ => ?_) (fun h => absurd rfl h))
    refine .v 12 rfl (by kernel_rfl) (fun hs' f => .move rfl) ?_
    refine .v 13 rfl (by kernel_rfl) (fun hs' f => .nilCheck rfl) ?_
    refine .v 14 rfl (by kernel_rfl) (fun hs' f => .fieldAddr rfl) ?_
    refine .v 15 rfl (by kernel_rfl) (fun hs' f => .load (v := .pointer (some ⟨rb, 0, none⟩)) rfl (.one (hb := .sub f) rfl)) ?_
    refine .v 17 rfl (by kernel_rfl) (fun hs' f => .move rfl) ?_
    refine .v 18 rfl (by kernel_rfl) (fun hs' f => .nilCheck rfl) ?_
    refine .v 19 rfl (by kernel_rfl) (fun hs' f => .fieldAddr rfl) ?_
    refine .v 20 rfl (by kernel_rfl) (fun hs' f => .load (v := .slice A2 xb.length c2) rfl (.one (hb := .sub f) rfl)) ?_
    refine .v 21 rfl (by kernel_rfl) (fun hs' f => .len rfl) ?_
    refine .ef 16 rfl (by kernel_rfl) (.call (pre := [(rb, .cells [b1] 77)]) (fr := [(ra, .cells [a1] 77), (ta, .cells [.pointer (some ⟨ra, 0, none⟩), .slice A1 xa.length c1] 59), (tb, .cells [.pointer (some ⟨rb, 0, none⟩), .slice A2 xb.length c2] 59)] ++ ((p1 ++ p2) ++ (q1 ++ q2))) rfl rfl (by exact List.perm_append_comm_assoc [(ra, .cells [a1] 77), (ta, .cells [.pointer (some ⟨ra, 0, none⟩), .slice A1 xa.length c1] 59), (tb, .cells [.pointer (some ⟨rb, 0, none⟩), .slice A2 xb.length c2] 59)] [(rb, .cells [b1] 77)] ((p1 ++ p2) ++ (q1 ++ q2))) fun w' s => Left_ok w' rb _ xb.length _ q1 kb1) ?_ (fun v hs' ⟨h', ⟨_, e1⟩, e⟩ _ => by subst e1; subst e; intro p hp; simp at hp ⊢; rcases hp with rfl | rfl <;> simp)
    rintro _ _ ⟨_, ⟨rfl, rfl⟩, rfl⟩
    refine .v 22 rfl (by kernel_rfl) (fun hs' f => .eqi rfl rfl) ?_
    refine .v 23 rfl (by kernel_rfl) (fun hs' f => .pick rfl rfl rfl) ?_
    refine .v 24 rfl (by kernel_rfl) (fun hs' f => .assign rfl) ?_
    refine .done (by kernel_rfl) ?_
    exact .ret ⟨[_], ⟨rfl, trivial⟩, by simp [tup]⟩
end Go.Proofs.Ytcgnbdgagkhehaa

/- VN: slices of anything that come in: the cells of each element, and what each is read as. -/
namespace Go
namespace V
open Go.RowKit Go.ChangeShapes Go.WideShapes Go.ChangeAt
set_option linter.unusedVariables false

/-- these cells are read as 'd' -/
def TC {H : Type} (enc : TypeId × Value → H) (P : Program) (w : World) (base : Nat) (spare : Nat → Bool) (held : Bool) (t : TypeId) (cs : List Value) (d : DataW H) : Prop :=
  ∃ fuel p, DataW.trod enc P w base spare held fuel t cs = some (d, p)
section
variable {H : Type} {enc : TypeId × Value → H} {P : Program} {w : World} {base : Nat} {spare : Nat → Bool} {held : Bool}
theorem TC.of {t : TypeId} {v : Value} {cs : List Value} {d : DataW H} {p : List MemPlace} (h : DataW.Trod enc P w base spare held t v d p) (hc : v.cells = ⟨cs⟩) : TC enc P w base spare held t cs d := by
  obtain ⟨fuel, hf⟩ := h
  rw [hc] at hf
  exact ⟨fuel, p, hf⟩
theorem TC.int {t : TypeId} {k : IntKind} {cs : List Value} {d : DataW H} (ht : P.underlying t = some (.int k)) (h : TC enc P w base spare held t cs d) : ∃ n, cs = [.int k n] ∧ (Lit.int k n).wf = true := by
  obtain ⟨fuel, p, hf⟩ := h
  obtain ⟨n, h1, _, h2⟩ := DataW.trod_int ht hf
  exact ⟨n, h1, h2⟩
theorem TC.bool {t : TypeId} {cs : List Value} {d : DataW H} (ht : P.underlying t = some .bool) (h : TC enc P w base spare held t cs d) : ∃ b, cs = [.bool b] := by
  obtain ⟨fuel, p, hf⟩ := h
  obtain ⟨b, h1, _⟩ := DataW.trod_bool ht hf
  exact ⟨b, h1⟩
theorem TC.plain {t : TypeId} {cs : List Value} {d : DataW H} {ls : List Lf} (hl : leaves P 8 t = some ls) (hs : P.cellsOf t = ls.length) (h : TC enc P w base spare held t cs d) : okw ls cs := by
  obtain ⟨fuel, p, hf⟩ := h
  exact trod_plain 8 t ls fuel cs _ hl hs hf
/-- a struct's fields -/
theorem TC.struct {t : TypeId} {fs : Array Field} {cs : List Value} {d : DataW H} (ht : P.underlying t = some (.struct fs)) (h : TC enc P w base spare held t cs d) :
    ∃ ds, d = .agg ds ∧ ds.length = fs.size ∧ cs.length = P.cellsOf t ∧ ∀ (i : Nat) (f : Field) (di : DataW H), fs[i]? = some f → ds[i]? = some di → TC enc P w base spare held f.type ((cs.drop f.offset).take (P.cellsOf f.type)) di := by
  obtain ⟨fuel, p, hf⟩ := h
  obtain ⟨xs, n, _, hx, hl, hn, hf⟩ := DataW.trod_struct ht hf
  simp only [Prod.mk.injEq] at hx
  refine ⟨xs.map (·.1), hx.1, by simpa using hn, hl, fun i f di h1 h2 => ?_⟩
  have := hf i f h1
  rw [List.getElem?_map] at h2
  cases h3 : xs[i]? with
  | none => rw [h3] at h2; cases h2
  | some x =>
    rw [h3] at h2 this
    simp at h2
    exact ⟨n, x.2, by rw [this, ← h2]⟩
/-- a slice's elements -/
theorem TC.slice {t e m : Nat} {cs : List Value} {d : DataW H} (ht : P.underlying t = some (.slice e)) (hm : P.cellsOf e = m) (h0 : 0 < m) (h : TC enc P w base spare held t cs d) :
    ∃ A len cap, ∃ (css : List (List Value)) (ds : List (DataW H)), cs = [.slice A len cap] ∧ css.length = len ∧ ds.length = len ∧ (∀ c ∈ css, c.length = m) ∧ (∀ (i : Nat) (c : List Value), css[i]? = some c → ∀ (j : Nat) (v : Value), c[j]? = some v → ∃ b o, A = some ⟨b, o, none⟩ ∧ w.cell? ⟨b, o + (i * m + j), none⟩ = some v) ∧
      (d = .nil ∧ len = 0 ∨ ∃ sp, d = .slice ds sp) ∧ ∀ (i : Nat) (c : List Value) (di : DataW H), css[i]? = some c → ds[i]? = some di → TC enc P w base spare held e c di := by
  obtain ⟨fuel, p, hf⟩ := h
  rcases DataW.trod_slice ht hf with ⟨rfl, hx⟩ | ⟨a, len, cap, elems, rest, n, _, rfl, hx, hb, hl, hc, hn, he, _⟩
  · simp only [Prod.mk.injEq] at hx
    exact ⟨none, 0, 0, [], [], rfl, rfl, rfl, by simp, by simp, .inl ⟨hx.1, rfl⟩, by simp⟩
  · simp only [Prod.mk.injEq] at hx
    rw [hm] at he
    have each : ∀ i, i < len → ∃ c x, w.cells? base (a.add (i * m)) m = some c ∧ DataW.trod enc P w base spare held n e c = some x ∧ elems[i]? = some x := by
      intro i hi
      have := he i hi
      rw [List.getElem?_eq_getElem (by omega)] at this
      obtain ⟨c, h1, h2⟩ := Option.bind_eq_some_iff.1 this
      exact ⟨c, _, h1, h2, List.getElem?_eq_getElem (by omega)⟩
    have hcs : ∃ css : List (List Value), css.length = len ∧ ∀ i c, css[i]? = some c → ∃ x, w.cells? base (a.add (i * m)) m = some c ∧ DataW.trod enc P w base spare held n e c = some x ∧ elems[i]? = some x := by
      have key : ∀ k, k ≤ len → ∃ css : List (List Value), css.length = k ∧ ∀ i c, css[i]? = some c → ∃ x, w.cells? base (a.add (i * m)) m = some c ∧ DataW.trod enc P w base spare held n e c = some x ∧ elems[i]? = some x := by
        intro k
        induction k with
        | zero => intro _; exact ⟨[], rfl, by simp⟩
        | succ k ih =>
          intro hk
          obtain ⟨css, h1, h2⟩ := ih (by omega)
          obtain ⟨c, x, h3⟩ := each k (by omega)
          refine ⟨css ++ [c], by simp [h1], fun i c' hc' => ?_⟩
          by_cases hi : i < k
          · rw [List.getElem?_append_left (by omega)] at hc'
            exact h2 i c' hc'
          · rw [List.getElem?_append_right (by omega)] at hc'
            have hik : i = k := by
              have := (List.getElem?_eq_some_iff.1 hc').1
              simp at this; omega
            subst hik
            simp [h1] at hc'
            subst hc'
            exact ⟨x, h3⟩
      exact key len (Nat.le_refl _)
    obtain ⟨css, h1, h2⟩ := hcs
    refine ⟨some a, len, cap, css, elems.map (·.1), rfl, h1, by simpa using hn, fun c hc => ?_, fun i c hc j v hv => ?_, .inr ⟨_, hx.1⟩, fun i c di hc hdi => ?_⟩
    · obtain ⟨i, hi⟩ := List.mem_iff_getElem?.1 hc
      obtain ⟨x, h3, _⟩ := h2 i c hi
      exact (World.cells?_some h3).2.1
    · obtain ⟨x, h3, _⟩ := h2 i c hc
      obtain ⟨g1, g2, g3⟩ := World.cells?_some h3
      have hj := (List.getElem?_eq_some_iff.1 hv).1
      have hcell := g3 j (by omega)
      rw [hv] at hcell
      obtain ⟨b, o, sp⟩ := a
      have hsp : sp = none := by
        have hlt : 0 < css.length := by
          have := (List.getElem?_eq_some_iff.1 hc).1
          omega
        obtain ⟨x0, k3, _⟩ := h2 0 css[0] (List.getElem?_eq_getElem hlt)
        obtain ⟨_, k2, k4⟩ := World.cells?_some k3
        have := k4 0 h0
        rw [List.getElem?_eq_getElem (by omega)] at this
        simpa [Addr.add] using World.cell?_spot this
      subst hsp
      refine ⟨b, o, rfl, ?_⟩
      rw [add_none, add_none, Nat.add_assoc] at hcell
      exact hcell
    · obtain ⟨x, h3, h4, h5⟩ := h2 i c hc
      rw [List.getElem?_map, h5] at hdi
      simp at hdi
      exact ⟨n, x.2, by rw [h4, ← hdi]⟩
end
/-- one for each number below n -/
theorem list_of {α : Type} {Q : Nat → α → Prop} (n : Nat) (h : ∀ i, i < n → ∃ x, Q i x) : ∃ l : List α, l.length = n ∧ ∀ (i : Nat) (x : α), l[i]? = some x → Q i x := by
  induction n with
  | zero => exact ⟨[], rfl, by simp⟩
  | succ n ih =>
    obtain ⟨l, h1, h2⟩ := ih fun i hi => h i (by omega)
    obtain ⟨x, hx⟩ := h n (by omega)
    refine ⟨l ++ [x], by simp [h1], fun i y hy => ?_⟩
    by_cases hi : i < n
    · rw [List.getElem?_append_left (by omega)] at hy
      exact h2 i y hy
    · rw [List.getElem?_append_right (by omega)] at hy
      have hlt := (List.getElem?_eq_some_iff.1 hy).1
      simp at hlt
      have : i = n := by omega
      subst this
      simp [h1] at hy
      subst hy
      exact hx
section
variable {H : Type} {enc : TypeId × Value → H} {P : Program} {w : World} {base : Nat} {spare : Nat → Bool} {held : Bool}
/-- bytes -/
theorem TC.bytes {t e : Nat} {cs : List Value} {d : DataW H} (ht : P.underlying t = some (.slice e)) (he : P.underlying e = some (.int .u8)) (hm : P.cellsOf e = 1) (h : TC enc P w base spare held t cs d) :
    ∃ A c ys, cs = [.slice A (List.length ys) c] ∧ Rd w [] A (byts ys) ∧ (d = .nil ∧ ys = [] ∨ ∃ ds sp, d = .slice ds sp ∧ ds.length = ys.length) := by
  obtain ⟨A, len, cap, css, ds, h1, h2, h3, h4, h5, h6, h7⟩ := h.slice ht hm (by omega)
  obtain ⟨ys, hy1, hy2⟩ := list_of (Q := fun i (y : BitVec 8) => css[i]? = some [.int .u8 y.toNat]) len (fun i hi => by
    have hc := List.getElem?_eq_getElem (show i < css.length by omega)
    have hd := List.getElem?_eq_getElem (show i < ds.length by omega)
    obtain ⟨n, hn, hw⟩ := (h7 i _ _ hc hd).int he
    have := wf_u8 hw
    refine ⟨BitVec.ofNat 8 n.toNat, ?_⟩
    rw [hc, hn]
    simp
    omega)
  refine ⟨A, cap, ys, by rw [h1, hy1], fun j v hv => ?_, ?_⟩
  · have hj : j < ys.length := by have := (List.getElem?_eq_some_iff.1 hv).1; simpa [byts_length] using this
    rw [byts_get hj] at hv
    have h8 := hy2 j _ (List.getElem?_eq_getElem hj)
    obtain ⟨b, o, e1, e2⟩ := h5 j _ h8 0 v (by simpa using hv)
    exact ⟨b, o, e1, by simp, by simpa using e2⟩
  · rcases h6 with ⟨e1, e2⟩ | ⟨sp, e1⟩
    · exact .inl ⟨e1, List.eq_nil_of_length_eq_zero (by omega)⟩
    · exact .inr ⟨ds, sp, e1, by omega⟩
end
end V
end Go

/- Scripts for readers: as they come in. -/
namespace Go.Proofs.Ytcgnbdgagkhehaa
open Go.V Go.ChangeShapes Go.WideShapes Go.ChangeAt
set_option linter.unusedVariables false
set_option linter.unusedSimpArgs false

theorem bulk_pos {H : Type} (d : DataW H) : 1 ≤ Rows.uptoBulk d := by
  cases d with
  | lit l => cases l <;> simp [Rows.uptoBulk]
  | _ => simp [Rows.uptoBulk]
theorem bulk_len {H : Type} : ∀ (ds : List (DataW H)), ds.length ≤ Rows.uptoBulkAll ds
  | [] => by simp
  | d :: ds => by
    have h1 := bulk_pos d
    have h2 := bulk_len ds
    simp only [Rows.uptoBulkAll, List.length_cons]
    omega
theorem bulk_get {H : Type} : ∀ {ds : List (DataW H)} {i : Nat} {d : DataW H}, ds[i]? = some d → Rows.uptoBulk d ≤ Rows.uptoBulkAll ds
  | d' :: ds, 0, d, h => by simp at h; subst h; simp [Rows.uptoBulkAll]
  | d' :: ds, i + 1, d, h => by
    have := bulk_get (ds := ds) (i := i) (by simpa using h)
    simp only [Rows.uptoBulkAll]
    omega
  | [], i, d, h => by simp at h
theorem bulk_sum {H α : Type} (f : α → Nat) : ∀ {ds : List (DataW H)} {l : List α}, l.length = ds.length → (∀ (i : Nat) (x : α) (d : DataW H), l[i]? = some x → ds[i]? = some d → f x ≤ Rows.uptoBulk d) → (l.map f).sum ≤ Rows.uptoBulkAll ds
  | [], [], _, _ => by simp
  | d :: ds, x :: l, h, k => by
    have h1 := k 0 x d rfl rfl
    have h2 := bulk_sum f (ds := ds) (l := l) (by simpa using h) (fun i x d hx hd => k (i + 1) x d (by simpa using hx) (by simpa using hd))
    simp only [List.map_cons, List.sum_cons, Rows.uptoBulkAll]
    omega
  | [], _ :: _, h, _ => by simp at h
  | _ :: _, [], h, _ => by simp at h
theorem bulk_bytes {H : Type} {d : DataW H} {n : Nat} (h : d = .nil ∧ n = 0 ∨ ∃ ds sp, d = .slice ds sp ∧ ds.length = n) : n ≤ Rows.uptoBulk d := by
  rcases h with ⟨_, rfl⟩ | ⟨ds, sp, rfl, rfl⟩
  · omega
  · have := bulk_len ds
    simp only [Rows.uptoBulk]
    omega
theorem read_ops {H : Type} {enc : TypeId × Value → H} {base : Nat} {spare : Nat → Bool} {held : Bool} {W : World} {A : Option Addr} {len cap : Nat} {d : DataW H} {p : List MemPlace}
    (h : DataW.Trod enc Try.prog W base spare held 54 (.slice A len cap) d p) (hk : Rows.uptoBulk d ≤ 1048576) :
    ∃ l : List OpD, len = l.length ∧ (∀ (i : Nat) (d : OpD), l[i]? = some d → ∀ (j : Nat) (v : Value), d.cells[j]? = some v → ∃ b o, A = some ⟨b, o, none⟩ ∧ W.cell? ⟨b, o + (i * 3 + j), none⟩ = some v) ∧
      (∀ (i : Nat) (d : OpD), l[i]? = some d → Rd W [] d.B (byts d.ys)) ∧ tot l ≤ 1048576 ∧ len ≤ 1048576 := by
  obtain ⟨A', len', cap', css, ds, e0, h2, h3, h4, h5, h6, h7⟩ := (TC.of h (cs := [.slice A len cap]) rfl).slice Try.underlying54 (m := 3) (by kernel_rfl) (by omega)
  cases e0
  obtain ⟨l, hl1, hl2⟩ := list_of (Q := fun i (x : OpD) => css[i]? = some x.cells ∧ Rd W [] x.B (byts x.ys) ∧ ∀ di, ds[i]? = some di → x.ys.length ≤ Rows.uptoBulk di) len (fun i hi => by
    have hc := List.getElem?_eq_getElem (show i < css.length by omega)
    have hd := List.getElem?_eq_getElem (show i < ds.length by omega)
    have hlen := h4 css[i] (List.getElem_mem _)
    obtain ⟨es, he1, he2, -, he3⟩ := (h7 i _ _ hc hd).struct Try.underlying61
    generalize css[i] = c at *
    match c, hlen with
    | [c0, c1, c2], _ =>
    match es, he2 with
    | [e0, e1, e2], _ =>
    obtain ⟨k, f0, _⟩ := (he3 0 _ e0 rfl rfl).int Try.underlying3
    obtain ⟨o, f1⟩ := (he3 1 _ e1 rfl rfl).bool Try.underlying4
    obtain ⟨B, cB, ys, f2, f3, f4⟩ := (he3 2 _ e2 rfl rfl).bytes Try.underlying22 Try.underlying5 (by kernel_rfl)
    have z3 : Try.prog.cellsOf 3 = 1 := by kernel_rfl
    have z4 : Try.prog.cellsOf 4 = 1 := by kernel_rfl
    have z22 : Try.prog.cellsOf 22 = 1 := by kernel_rfl
    have g0 : c0 = .int .i64 k := by simpa [z3] using f0
    have g1 : c1 = .bool o := by simpa [z4] using f1
    have g2 : c2 = .slice B ys.length cB := by simpa [z22] using f2
    refine ⟨⟨k, o, B, cB, ys⟩, by rw [hc, g0, g1, g2]; rfl, f3, fun di hdi => ?_⟩
    rw [hd] at hdi
    cases hdi
    rw [he1]
    have hb := bulk_bytes (d := e2) (n := ys.length) (by rcases f4 with ⟨a, b⟩ | f4; exact .inl ⟨a, by simp [b]⟩; exact .inr f4)
    simp only [Rows.uptoBulk, Rows.uptoBulkAll]
    omega)
  have hbulk : tot l ≤ 1048576 ∧ len ≤ 1048576 := by
    rcases h6 with ⟨_, e2⟩ | ⟨sp, e1⟩
    · subst e2
      have : l = [] := List.eq_nil_of_length_eq_zero hl1
      subst this
      simp [tot]
    · rw [e1] at hk
      simp only [Rows.uptoBulk] at hk
      have := bulk_sum (fun x : OpD => x.ys.length) (ds := ds) (l := l) (by omega) (fun i x di hx hdi => (hl2 i x hx).2.2 di hdi)
      have h8 := bulk_len ds
      refine ⟨by unfold tot; omega, by omega⟩
  refine ⟨l, hl1.symm, fun i x hx j v hv => h5 i _ (hl2 i x hx).1 j v hv, fun i x hx => (hl2 i x hx).2.1, hbulk.1, hbulk.2⟩
end Go.Proofs.Ytcgnbdgagkhehaa

/- Pieces of bytes: as they come in. -/
namespace Go.Proofs.Ytcgnbdgagkhehaa
open Go.V Go.ChangeShapes Go.WideShapes Go.ChangeAt
set_option linter.unusedVariables false
set_option linter.unusedSimpArgs false

theorem read_pieces {H : Type} {enc : TypeId × Value → H} {base : Nat} {spare : Nat → Bool} {held : Bool} {W : World} {A : Option Addr} {len cap : Nat} {d : DataW H} {p : List MemPlace}
    (h : DataW.Trod enc Try.prog W base spare held 65 (.slice A len cap) d p) (hk : Rows.uptoBulk d ≤ 1048576) :
    ∃ l : List PcD, len = l.length ∧ (∀ (i : Nat) (d : PcD), l[i]? = some d → ∃ b o, A = some ⟨b, o, none⟩ ∧ W.cell? ⟨b, o + i, none⟩ = some (.slice d.B d.ys.length d.c)) ∧
      (∀ (i : Nat) (d : PcD), l[i]? = some d → Rd W [] d.B (byts d.ys)) ∧ ptot l ≤ 1048576 ∧ len ≤ 1048576 := by
  obtain ⟨A', len', cap', css, ds, e0, h2, h3, h4, h5, h6, h7⟩ := (TC.of h (cs := [.slice A len cap]) rfl).slice Try.underlying65 (m := 1) (by kernel_rfl) (by omega)
  cases e0
  obtain ⟨l, hl1, hl2⟩ := list_of (Q := fun i (x : PcD) => css[i]? = some [.slice x.B x.ys.length x.c] ∧ Rd W [] x.B (byts x.ys) ∧ ∀ di, ds[i]? = some di → x.ys.length ≤ Rows.uptoBulk di) len (fun i hi => by
    have hc := List.getElem?_eq_getElem (show i < css.length by omega)
    have hd := List.getElem?_eq_getElem (show i < ds.length by omega)
    obtain ⟨B, cB, ys, f2, f3, f4⟩ := (h7 i _ _ hc hd).bytes Try.underlying22 Try.underlying5 (by kernel_rfl)
    refine ⟨⟨B, cB, ys⟩, by rw [hc, f2], f3, fun di hdi => ?_⟩
    rw [hd] at hdi
    cases hdi
    exact bulk_bytes (by rcases f4 with ⟨a, b⟩ | f4; exact .inl ⟨a, by simp [b]⟩; exact .inr f4))
  have hbulk : ptot l ≤ 1048576 ∧ len ≤ 1048576 := by
    rcases h6 with ⟨_, e2⟩ | ⟨sp, e1⟩
    · subst e2
      have : l = [] := List.eq_nil_of_length_eq_zero hl1
      subst this
      simp [ptot]
    · rw [e1] at hk
      simp only [Rows.uptoBulk] at hk
      have := bulk_sum (fun x : PcD => x.ys.length) (ds := ds) (l := l) (by omega) (fun i x di hx hdi => (hl2 i x hx).2.2 di hdi)
      have h8 := bulk_len ds
      refine ⟨by unfold ptot; omega, by omega⟩
  refine ⟨l, hl1.symm, fun i x hx => ?_, fun i x hx => (hl2 i x hx).2.1, hbulk.1, hbulk.2⟩
  obtain ⟨b, o, e1, e2⟩ := h5 i _ (hl2 i x hx).1 0 _ rfl
  exact ⟨b, o, e1, by simpa using e2⟩
end Go.Proofs.Ytcgnbdgagkhehaa

/- VT: lists of plain records that come in; what their lengths are held to. -/
namespace Go
namespace V
open Go.RowKit Go.ChangeShapes Go.WideShapes Go.ChangeAt
set_option linter.unusedVariables false

theorem flatten_get {m : Nat} : ∀ (rs : List (List Value)), (∀ r ∈ rs, r.length = m) → ∀ (k : Nat) (v : Value), rs.flatten[k]? = some v → ∃ i j r, rs[i]? = some r ∧ r[j]? = some v ∧ k = i * m + j
  | [], _, k, v, h => by simp at h
  | r :: rs, hm, k, v, h => by
    rw [List.flatten_cons] at h
    by_cases hk : k < r.length
    · rw [List.getElem?_append_left hk] at h
      exact ⟨0, k, r, rfl, h, by simp⟩
    · rw [List.getElem?_append_right (by omega)] at h
      obtain ⟨i, j, r', h1, h2, h3⟩ := flatten_get rs (fun r hr => hm r (List.mem_cons_of_mem _ hr)) _ v h
      have := hm r List.mem_cons_self
      exact ⟨i + 1, j, r', by simpa using h1, h2, by rw [Nat.succ_mul]; omega⟩
theorem map_of {α β : Type} {f : α → β} {Q : α → Prop} : ∀ (rs : List β), (∀ r ∈ rs, ∃ x, r = f x ∧ Q x) → ∃ l : List α, rs = l.map f ∧ ∀ x ∈ l, Q x
  | [], _ => ⟨[], rfl, by simp⟩
  | r :: rs, h => by
    obtain ⟨x, h1, h2⟩ := h r List.mem_cons_self
    obtain ⟨l, h3, h4⟩ := map_of rs fun r hr => h r (List.mem_cons_of_mem _ hr)
    exact ⟨x :: l, by simp [h1, h3], fun y hy => by rcases List.mem_cons.1 hy with rfl | hy; exact h2; exact h4 y hy⟩
theorem okw_length : ∀ {ls : List Lf} {cs : List Value}, okw ls cs → cs.length = ls.length
  | [], [], _ => rfl
  | l :: ls, c :: cs, h => by have := okw_length h.2; simp [this]
  | [], _ :: _, h => h.elim
  | _ :: _, [], h => h.elim
section
variable {H : Type} {enc : TypeId × Value → H} {P : Program} {w : World} {base : Nat} {spare : Nat → Bool} {held : Bool}
/-- a slice of plain records -/
theorem TC.recs {t e : Nat} {ls : List Lf} {cs : List Value} {d : DataW H} (ht : P.underlying t = some (.slice e)) (hl : leaves P 8 e = some ls) (hs : P.cellsOf e = ls.length) (h0 : 0 < ls.length) (h : TC enc P w base spare held t cs d) :
    ∃ A cap, ∃ rs : List (List Value), cs = [.slice A rs.length cap] ∧ (∀ r ∈ rs, okw ls r) ∧ Rd w [] A rs.flatten ∧ (d = .nil ∧ rs = [] ∨ ∃ ds sp, d = .slice ds sp ∧ ds.length = rs.length) := by
  obtain ⟨A, len, cap, css, ds, h1, h2, h3, h4, h5, h6, h7⟩ := h.slice ht hs h0
  refine ⟨A, cap, css, by rw [h1, h2], fun r hr => ?_, fun k v hv => ?_, ?_⟩
  · obtain ⟨i, hi, rfl⟩ := List.mem_iff_getElem.1 hr
    exact (h7 i _ _ (List.getElem?_eq_getElem hi) (List.getElem?_eq_getElem (by omega))).plain hl hs
  · obtain ⟨i, j, r, e1, e2, rfl⟩ := flatten_get css h4 k v hv
    obtain ⟨b, o, e3, e4⟩ := h5 i r e1 j v e2
    exact ⟨b, o, e3, by simp, e4⟩
  · rcases h6 with ⟨e1, e2⟩ | ⟨sp, e1⟩
    · exact .inl ⟨e1, List.eq_nil_of_length_eq_zero (by omega)⟩
    · exact .inr ⟨ds, sp, e1, by omega⟩
/-- the weights of a struct's parts -/
theorem sized_agg {ts : List TypeId} {ds : List (DataW H)} (h : (DataW.weightsEach P ts ds).all (· ≤ reachBytes) = true) {j : Nat} {t : TypeId} {fs : Array Field} {parts : List (DataW H)} (ht : ts[j]? = some t) (hd : ds[j]? = some (.agg parts)) (hu : P.underlying t = some (.struct fs)) :
    (DataW.weightsEach P (fs.toList.map (·.type)) parts).all (· ≤ reachBytes) = true := by
  rw [List.all_eq_true]
  intro x hx
  exact List.all_eq_true.1 h _ (DataW.weights_mem_each ht hd x (by simp only [DataW.weights, hu]; exact hx))
theorem sized_len {ts : List TypeId} {ds : List (DataW H)} (h : (DataW.weightsEach P ts ds).all (· ≤ reachBytes) = true) {j n : Nat} {t e : TypeId} {d : DataW H} (ht : ts[j]? = some t) (hd : ds[j]? = some d) (hu : P.underlying t = some (.slice e))
    (hk : d = .nil ∧ n = 0 ∨ ∃ es sp, d = .slice es sp ∧ es.length = n) : n * P.bytesOf e ≤ reachBytes := by
  rcases hk with ⟨_, rfl⟩ | ⟨es, sp, rfl, rfl⟩
  · simp
  · have := sized_slice h ht hd hu
    have h2 : es.length * P.bytesOf e ≤ (es.length + sp.length) * P.bytesOf e := Nat.mul_le_mul_right _ (by omega)
    omega
end
end V
end Go

/- VB: slices that come in: they have room for what they hold. -/
namespace Go
namespace V
open Go.RowKit Go.ChangeShapes Go.WideShapes
set_option linter.unusedVariables false
set_option linter.unusedSimpArgs false
section
variable {P : Program} {H : Type} {enc : TypeId × Value → H} {w : World} {base : Nat} {spare : Nat → Bool} {held : Bool}
theorem TC.cap {t e len cap : Nat} {A : Option Addr} {d : DataW H} (ht : P.underlying t = some (.slice e)) (h : TC enc P w base spare held t [.slice A len cap] d) : len ≤ cap := by
  obtain ⟨fuel, p, hf⟩ := h
  rcases DataW.trod_slice ht hf with ⟨e1, hx⟩ | ⟨a, len', cap', elems, rest, n, _, e1, hx, hb, hl, hc, hn, he, _⟩
  · simp at e1; omega
  · simp at e1
    obtain ⟨rfl, rfl, rfl⟩ := e1
    omega
/-- a slice of plain records, with its room -/
theorem TC.recsK {t e : Nat} {ls : List Lf} {cs : List Value} {d : DataW H} (ht : P.underlying t = some (.slice e)) (hl : leaves P 8 e = some ls) (hs : P.cellsOf e = ls.length) (h0 : 0 < ls.length) (h : TC enc P w base spare held t cs d) :
    ∃ A cap, ∃ rs : List (List Value), cs = [.slice A rs.length cap] ∧ (∀ r ∈ rs, okw ls r) ∧ Rd w [] A rs.flatten ∧ rs.length ≤ cap ∧ (d = .nil ∧ rs = [] ∨ ∃ ds sp, d = .slice ds sp ∧ ds.length = rs.length) := by
  obtain ⟨A, cap, rs, rfl, h2, h3, h4⟩ := h.recs ht hl hs h0
  exact ⟨A, cap, rs, rfl, h2, h3, TC.cap ht h, h4⟩
end
theorem okw_i {k : IntKind} {ls : List Lf} {cs : List Value} (h : okw (.i k :: ls) cs) : ∃ a cs', cs = .int k a :: cs' ∧ (Lit.int k a).wf = true ∧ okw ls cs' := by
  match cs, h with
  | .int _ a :: cs', ⟨⟨h1, w1⟩, h2⟩ => subst h1; exact ⟨a, cs', rfl, w1, h2⟩
theorem okw_b {ls : List Lf} {cs : List Value} (h : okw (.b :: ls) cs) : ∃ a cs', cs = .bool a :: cs' ∧ okw ls cs' := by
  match cs, h with
  | .bool a :: cs', ⟨h1, h2⟩ => exact ⟨a, cs', rfl, h2⟩
theorem okw_nil {cs : List Value} (h : okw [] cs) : cs = [] := by
  match cs, h with
  | [], _ => rfl
end V
end Go

/- Bytes as they come in, with their bound; an array of bytes. -/
namespace Go.Proofs.Ytcgnbdgagkhehaa
open Go.V Go.ChangeShapes Go.WideShapes Go.ChangeAt
set_option linter.unusedVariables false
set_option linter.unusedSimpArgs false

theorem okw_bytes {m : Nat} {cs : List Value} (h : okw (List.replicate m (.i .u8)) cs) : ∃ zs : List (BitVec 8), zs.length = m ∧ cs = byts zs := by
  induction m generalizing cs with
  | zero =>
    cases cs with
    | nil => exact ⟨[], rfl, rfl⟩
    | cons v cs => exact h.elim
  | succ m ih =>
    rw [List.replicate_succ] at h
    cases cs with
    | nil => exact h.elim
    | cons v cs =>
      obtain ⟨hv, h⟩ := h
      obtain ⟨zs, h1, h2⟩ := ih h
      cases v <;> simp only [Lf.okw] at hv
      obtain ⟨rfl, hw⟩ := hv
      rename_i n
      have := wf_u8 hw
      refine ⟨BitVec.ofNat 8 n.toNat :: zs, by simp [h1], ?_⟩
      rw [h2, byts, byts, List.map_cons]
      simp
      omega
theorem bytes_cap {H : Type} {enc : TypeId × Value → H} {base : Nat} {spare : Nat → Bool} {held : Bool} {W : World} {A : Option Addr} {len cap : Nat} {d : DataW H} {p : List MemPlace}
    (h : DataW.Trod enc Try.prog W base spare held 22 (.slice A len cap) d p) : len ≤ cap :=
  TC.cap Try.underlying22 (TC.of h (cs := [.slice A len cap]) rfl)
theorem bulk_open {H : Type} {d : DataW H} {n : Nat} (h : n = 0 ∨ ∃ ds sp, d = .slice ds sp ∧ ds.length = n) : n ≤ Rows.uptoBulk d := by
  rcases h with rfl | ⟨ds, sp, rfl, rfl⟩
  · omega
  · have := bulk_len ds
    simp only [Rows.uptoBulk]
    omega
theorem read_bools {H : Type} {enc : TypeId × Value → H} {base : Nat} {spare : Nat → Bool} {held : Bool} {W : World} {A : Option Addr} {len cap : Nat} {d : DataW H} {p : List MemPlace}
    (h : DataW.Trod enc Try.prog W base spare held 71 (.slice A len cap) d p) : ∃ l : List Bool, len = l.length ∧ Rd W [] A (l.map .bool) := by
  obtain ⟨A', len', cap', css, ds, e0, h2, h3, h4, h5, h6, h7⟩ := (TC.of h (cs := [.slice A len cap]) rfl).slice Try.underlying71 (m := 1) (by kernel_rfl) (by omega)
  cases e0
  obtain ⟨l, hl1, hl2⟩ := list_of (Q := fun i (x : Bool) => css[i]? = some [.bool x]) len (fun i hi => by
    have hc := List.getElem?_eq_getElem (show i < css.length by omega)
    have hd := List.getElem?_eq_getElem (show i < ds.length by omega)
    obtain ⟨o, f2⟩ := (h7 i _ _ hc hd).bool Try.underlying4
    exact ⟨o, by rw [hc, f2]⟩)
  refine ⟨l, hl1.symm, fun j v hv => ?_⟩
  rw [List.getElem?_map] at hv
  cases hx : l[j]? with
  | none => rw [hx] at hv; cases hv
  | some x =>
    rw [hx] at hv
    cases hv
    obtain ⟨b, o, e1, e2⟩ := h5 j _ (hl2 j x hx) 0 _ rfl
    exact ⟨b, o, e1, by simp, by simpa using e2⟩
end Go.Proofs.Ytcgnbdgagkhehaa
