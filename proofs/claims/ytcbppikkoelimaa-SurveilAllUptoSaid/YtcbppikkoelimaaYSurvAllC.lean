/- Texts that the row RSurvAll stands on: VY, VA, VC, VMA, SVPlain, SVRefP, VD, VE, VYN, VPK, SVMem, VSF, SVAlert, SVAcks, SVCanc. -/
import Derived.Test.YtcbppikkoelimaaYSurvAllB
import Derived.Maps.RangeRun
/- VY: as VW; and what touches no memory may come up at any time. -/
namespace Go
namespace V
open Go.RowKit
set_option linter.unusedVariables false
set_option linter.unusedSimpArgs false

section
variable {P : Program} {ops : Array Oper} {Q : Exit → Act → World → Prop} {S : World → Prop} {z : Nat}
/-- number i may be taken first, if its value hangs on no world -/
theorem Upto.firstX {i : Nat} {oi : Oper} {v : Value} (hi : ops[i]? = some oi) (hsel : ∀ (j : Nat) (o : Oper) cs b, ops[j]? = some o → o.op ≠ .select cs b)
    (hQ : ∀ c a w, Q (.panic c) (a.put oi.dst v) w → Q (.panic c) a w) (hzi : z ≠ i) :
    ∀ (k : Nat) (l : Array Bool) (a : Act) (w : World),
      (∀ j oj, ops[j]? = some oj → j ≠ i → l.getD j true = false → (∀ e ∈ oj.after, Region.binds .any e = true → e.on ≠ i) → oi.apart ops oj = true) →
      i ∈ Region.ready .any ops l → YieldsIf P ops (fun _ => True) oi v a → (l.getD z true = false → S w) →
      Upto P ops Q S z k (l.setIfInBounds i true) (a.put oi.dst v) w → Upto P ops Q S z (k + 1) l a w := by
  intro k
  induction k with
  | zero =>
    intro l a w _ hr hy hS H
    refine ⟨fun h => absurd (h ▸ hr) List.not_mem_nil, fun j hj => ?_⟩
    rcases Decidable.em (j = i) with rfl | hji
    · exact hy.wpOp hi trivial ⟨fun hz => hS (by rw [getD_set_ne true (Ne.symm hzi)] at hz; exact hz), H⟩
    · exact absurd (H.1 ▸ ready_mono hj hji) List.not_mem_nil
  | succ k ih =>
    intro l a w hfree hr hy hS H
    refine ⟨fun h => absurd (h ▸ hr) List.not_mem_nil, fun j hj => ?_⟩
    rcases Decidable.em (j = i) with rfl | hji
    · exact hy.wpOp hi trivial ⟨fun hz => hS (by rw [getD_set_ne true (Ne.symm hzi)] at hz; exact hz), H⟩
    obtain ⟨hun, oj, hoj, hall⟩ := mem_ready.1 hj
    have hno : ∀ e ∈ oj.after, Region.binds .any e = true → e.on ≠ i := by
      intro e he hb hon
      exact not_both (z := j) hoj ⟨e, he, hb, hon⟩ hr hj
    have step := wpOp_putIf hoj (hfree j oj hoj hji hun hno) (fun cs b => hsel i oi cs b hi) (fun cs b => hsel j oj cs b hoj) hQ hy (H.2 j (ready_mono hj hji))
    refine wpOp_mono (fun a' w' ⟨hy', hS', hrest⟩ => ?_) step
    have e1 : ((l.setIfInBounds i true).setIfInBounds j true).getD z true = (l.setIfInBounds j true).getD z true := by
      rw [Array.setIfInBounds_comm _ _ (Ne.symm hji), getD_set_ne true (Ne.symm hzi)]
    have hS2 : (l.setIfInBounds j true).getD z true = false → S w' := fun hz => hS' (by rw [e1]; exact hz)
    refine ⟨hS2, ih (l.setIfInBounds j true) a' w' (fun m om hm hmi hun' hno' => ?_) (ready_mono hr (Ne.symm hji)) hy' hS2 ?_⟩
    · refine hfree m om hm hmi ?_ hno'
      rcases Decidable.em (j = m) with rfl | hjm
      · exact hun
      · rw [getD_set_ne true hjm] at hun'; exact hun'
    · rw [Array.setIfInBounds_comm _ _ hji]; exact hrest
end
/-- does the operation touch no memory? -/
def noMem (o : Oper) : Bool := match o.op with
  | .move _ => true
  | .indexAddr .. => true
  | .fieldAddr .. => true
  | .binOp .. => true
  | .extract .. => true
  | _ => false
section
variable {P : Program} {n : Nat} {w0 : World} {own : List Nat} {e : Env} {hs F : Hp} {ops : Array Oper} {K : Env → Hp → Prop} {z m : Nat} {listed : Array Bool}
variable {d : Nat} {ty : TypeId} {pos : String} {aft : Array Edge} {g : Option (Nat × Bool)}
theorem JZ.x {op : Op} {v : Value} (i : Nat) (hi : ops[i]? = some ⟨some d, op, ty, pos, aft, g⟩) (hf : firstB ops listed i = true) (hzi : z ≠ i)
    (h : ∀ w, Val P n w [] e [] op v) (k : JZ P n w0 own ops F z m (listed.setIfInBounds i true) ((d, v) :: e) hs K)
    (hdn : Nat.blt d n = true := by rfl) (hg : wantB ops e g = some true := by rfl) : JZ P n w0 own ops F z (m + 1) listed e hs K := by
  intro a w hr s hF
  unfold firstB at hf
  rw [Bool.and_eq_true, Bool.and_eq_true] at hf
  obtain ⟨⟨f1, f2⟩, f3⟩ := hf
  exact Upto.firstX hi (Region.noSelect_spec f1) (fun _ _ _ h => h) hzi m listed a w (Region.free_spec hi f2) (by simpa using f3)
    (.inl ⟨wanted_of hr hg, fun w' _ => h w' a w' _ _ _ _ _ hr (Sat.begin0 w')⟩) (fun hz => ⟨hs, s, hF hz⟩)
    (k _ _ (hr.put (Nat.le_of_ble_eq_true hdn) v) s fun hz => hF (by rw [getD_set_ne true (Ne.symm hzi)] at hz; exact hz))
end

def ordY (ops : Array Oper) (z : Nat) : List Oper → List Nat → Array Bool → Bool
  | [], [], _ => true
  | o :: l, i :: is, listed => (onlyB ops listed i || (!isEff o && firstZ ops z listed i) || (noMem o && firstB ops listed i && !Nat.beq z i)) && (o.dst.isSome || Nat.beq i z || listed.getD z true) && ordY ops z l is (listed.setIfInBounds i true)
  | _, _, _ => false
/-- the operations in their order; 'late': the first store has been -/
def JY (P : Program) (n : Nat) (w0 : World) (own : List Nat) (ops : Array Oper) (F : Hp) (z : Nat) (late : Bool) (l : List Oper) (e : Env) (hs : Hp) (K : Bool → Env → Hp → Prop) : Prop :=
  ∀ (m : Nat) (is : List Nat) (listed : Array Bool) (Z : Env → Hp → Prop), Nums ops l is → ordY ops z l is listed = true → listed.size = ops.size → listed.getD z true = late → (late = false → F ⊆ hs) →
    (∀ late' e' hs', (marks_ is listed).getD z true = late' → (late' = false → F ⊆ hs') → K late' e' hs' → JZ P n w0 own ops F z m (marks_ is listed) e' hs' Z) → JZ P n w0 own ops F z (l.length + m) listed e hs Z

theorem eff_mem {o : Oper} (h : isEff o = true) : noMem o = false := by
  unfold isEff at h; unfold noMem
  split <;> simp_all
section
variable {P : Program} {n : Nat} {w0 : World} {own : List Nat} {e : Env} {hs F : Hp} {ops : Array Oper} {rest l : List Oper} {K : Bool → Env → Hp → Prop} {z : Nat} {late : Bool} {m : Nat} {listed : Array Bool} {Z : Env → Hp → Prop}
variable {d : Nat} {ty : TypeId} {pos : String} {aft : Array Edge} {g : Option (Nat × Bool)}

theorem JC.drawY {id : Nat} {Q : Post} {l : List Oper} (z : Nat) (is : List Nat) (F : Hp) (hF : F ⊆ hs) (hm : P.follows .mixedOrders = true)
    (hB : (ordY l.toArray z (pickL l is) is (Array.replicate l.length false) && doneB l.toArray (marks_ is (Array.replicate l.length false)) && Nat.beq (pickL l is).length l.length && Nat.beq is.length l.length && Nat.blt z l.length) = true)
    (h : JY P n w0 own l.toArray F z false (pickL l is) e hs (fun _ e' hs' => Q .normal e' hs')) : JC P n w0 own (.region id l.toArray true) e hs Q := by
  rw [Bool.and_eq_true, Bool.and_eq_true, Bool.and_eq_true, Bool.and_eq_true] at hB
  obtain ⟨⟨⟨⟨h1, h2⟩, h3⟩, h4⟩, h5⟩ := hB
  have h3 := Nat.eq_of_beq_eq_true h3
  have h4 := Nat.eq_of_beq_eq_true h4
  have h5 : z < l.length := Nat.le_of_ble_eq_true h5
  have key : ∀ (is : List Nat), (pickL l is).length = is.length → Nums l.toArray (pickL l is) is := by
    intro is
    induction is with
    | nil => intro _; trivial
    | cons i is ih =>
      intro hl
      unfold pickL at hl ⊢
      cases ho : l[i]? with
      | none => rw [ho] at hl; simp at hl
      | some o =>
        rw [ho] at hl
        simp only at hl ⊢
        exact ⟨by simpa using ho, ih (by simpa using hl)⟩
  refine JC.drawZ z F hF hm ?_
  have := h 0 is (Array.replicate l.length false) (fun e hs => Q .normal e hs) (key _ (by omega)) h1 (by simp) (by simp [h5]) (fun _ => hF) (fun _ e' hs' _ _ ke => JZ.done h2 ke)
  rw [h3] at this
  simpa using this
theorem JY.nil (h : K late e hs) : JY P n w0 own ops F z late [] e hs K := fun m is listed Z hn _ hsz hl hF hz => by
  cases is with
  | nil => rw [List.length_nil, Nat.zero_add]; exact hz late e hs hl hF h
  | cons i is => exact hn.elim
theorem JY.mono {K' : Bool → Env → Hp → Prop} (h : JY P n w0 own ops F z late l e hs K) (kk : ∀ b e hs, K b e hs → K' b e hs) : JY P n w0 own ops F z late l e hs K' :=
  fun m k listed Z h1 h2 h3 h4 h5 hz => h m k listed Z h1 h2 h3 h4 h5 fun b e' hs' f1 f ke => hz b e' hs' f1 f (kk b e' hs' ke)
theorem JY.sub {e2 : Env} (hs' : Sub e2 e) (h : JY P n w0 own ops F z late l e2 hs K) : JY P n w0 own ops F z late l e hs K :=
  fun m k listed Z h1 h2 h3 h4 h5 hz a w hr s hF => h m k listed Z h1 h2 h3 h4 h5 hz a w (hr.sub hs') s hF
theorem JY.splitB {t : Nat} {b : Bool} (ht : get e t = some (.bool b)) (h1 : b = true → JY P n w0 own ops F z late l ((t, .bool true) :: e) hs K)
    (h0 : b = false → JY P n w0 own ops F z late l ((t, .bool false) :: e) hs K) : JY P n w0 own ops F z late l e hs K := by
  cases b
  · exact JY.sub (sub_same' ht) (h0 rfl)
  · exact JY.sub (sub_same' ht) (h1 rfl)
/-- a value, ahead of the first store -/
theorem JY.v {op : Op} {v : Value} (h : ∀ hs', F ⊆ hs' → Val P n w0 own e hs' op v) (kk : JY P n w0 own ops F z false rest ((d, v) :: e) hs K) (hdn : Nat.blt d n = true := by rfl) (hg : wantB ops e g = some true := by rfl)
    (hzo : ((ops[z]?).map (·.dst.isNone)) = some true := by rfl) (hx : noMem ⟨some d, op, ty, pos, aft, g⟩ = false := by rfl) :
    JY P n w0 own ops F z false (⟨some d, op, ty, pos, aft, g⟩ :: rest) e hs K := by
  intro m is listed Z h1 h2 h3 h4 h5 hz
  cases is with
  | nil => exact h1.elim
  | cons k is =>
  obtain ⟨h0, h1⟩ := h1
  unfold ordY at h2
  rw [Bool.and_eq_true, Bool.and_eq_true] at h2
  obtain ⟨⟨h2a, _⟩, h2b⟩ := h2
  rw [hx, Bool.false_and, Bool.false_and, Bool.or_false, Bool.or_eq_true, Bool.and_eq_true] at h2a
  have h2 := And.intro h2a h2b
  have hkz : k ≠ z := by rintro rfl; rw [h0] at hzo; simp at hzo
  have tail : JZ P n w0 own ops F z (rest.length + m) (listed.setIfInBounds k true) ((d, v) :: e) hs Z := kk m is _ Z h1 h2.2 (by simpa using h3) (set_lt h4 (.inr hkz)) h5 hz
  rw [show (⟨some d, op, ty, pos, aft, g⟩ :: rest : List Oper).length + m = (rest.length + m) + 1 from by simp; omega]
  rcases h2.1 with ho | ⟨_, hf⟩
  · exact JZ.v1 k h0 ho (h hs (h5 rfl)) tail rfl hdn hg
  · exact JZ.v k h0 hf h tail hdn hg
/-- a value behind it -/
theorem JY.w {op : Op} {v : Value} (h : Val P n w0 own e hs op v) (kk : JY P n w0 own ops F z true rest ((d, v) :: e) hs K) (hdn : Nat.blt d n = true := by rfl) (hg : wantB ops e g = some true := by rfl) (hx : noMem ⟨some d, op, ty, pos, aft, g⟩ = false := by rfl) :
    JY P n w0 own ops F z true (⟨some d, op, ty, pos, aft, g⟩ :: rest) e hs K := by
  intro m is listed Z h1 h2 h3 h4 h5 hz
  cases is with
  | nil => exact h1.elim
  | cons k is =>
  obtain ⟨h0, h1⟩ := h1
  unfold ordY at h2
  rw [Bool.and_eq_true, Bool.and_eq_true] at h2
  obtain ⟨⟨h2a, _⟩, h2b⟩ := h2
  rw [hx, Bool.false_and, Bool.false_and, Bool.or_false, Bool.or_eq_true, Bool.and_eq_true] at h2a
  have h2 := And.intro h2a h2b
  have tail : JZ P n w0 own ops F z (rest.length + m) (listed.setIfInBounds k true) ((d, v) :: e) hs Z := kk m is _ Z h1 h2.2 (by simpa using h3) (set_lt h4 (.inl rfl)) (fun h => by cases h) hz
  rw [show (⟨some d, op, ty, pos, aft, g⟩ :: rest : List Oper).length + m = (rest.length + m) + 1 from by simp; omega]
  rcases h2.1 with ho | ⟨_, hf⟩
  · exact JZ.v1 k h0 ho h tail rfl hdn hg
  · unfold firstZ at hf
    rw [h4] at hf
    simp at hf
/-- what touches no memory, at any time -/
theorem JY.x {op : Op} {v : Value} (h : ∀ w0 own hs, Val P n w0 own e hs op v) (kk : JY P n w0 own ops F z late rest ((d, v) :: e) hs K) (hdn : Nat.blt d n = true := by rfl) (hg : wantB ops e g = some true := by rfl)
    (hzo : ((ops[z]?).map (·.dst.isNone)) = some true := by rfl) :
    JY P n w0 own ops F z late (⟨some d, op, ty, pos, aft, g⟩ :: rest) e hs K := by
  intro m is listed Z h1 h2 h3 h4 h5 hz
  cases is with
  | nil => exact h1.elim
  | cons k is =>
  obtain ⟨h0, h1⟩ := h1
  unfold ordY at h2
  rw [Bool.and_eq_true, Bool.and_eq_true] at h2
  obtain ⟨⟨h2a, _⟩, h2b⟩ := h2
  rw [Bool.or_eq_true, Bool.or_eq_true, Bool.and_eq_true, Bool.and_eq_true, Bool.and_eq_true] at h2a
  have hkz : k ≠ z := by rintro rfl; rw [h0] at hzo; simp at hzo
  have tail : JZ P n w0 own ops F z (rest.length + m) (listed.setIfInBounds k true) ((d, v) :: e) hs Z := kk m is _ Z h1 h2b (by simpa using h3) (set_lt h4 (.inr hkz)) h5 hz
  rw [show (⟨some d, op, ty, pos, aft, g⟩ :: rest : List Oper).length + m = (rest.length + m) + 1 from by simp; omega]
  rcases h2a with (ho | ⟨_, hf⟩) | ⟨⟨_, hf⟩, _⟩
  · exact JZ.v1 k h0 ho (h _ _ _) tail rfl hdn hg
  · exact JZ.v k h0 hf (fun hs' _ => h _ _ _) tail hdn hg
  · exact JZ.x k h0 hf (Ne.symm hkz) (fun w => h _ _ _) tail hdn hg
/-- what works on memory, and leaves a value -/
theorem JY.ef {op : Op} {R : Value → Hp → Prop} (h : Eff P n w0 own e hs op R) (hF : ∀ v hs', R v hs' → F ⊆ hs → F ⊆ hs') (kk : ∀ v hs', R v hs' → JY P n w0 own ops F z late rest ((d, v) :: e) hs' K)
    (hE : isEff ⟨some d, op, ty, pos, aft, g⟩ = true := by rfl) (hdn : Nat.blt d n = true := by rfl) (hg : wantB ops e g = some true := by rfl) (hzo : ((ops[z]?).map (·.dst.isNone)) = some true := by rfl) : JY P n w0 own ops F z late (⟨some d, op, ty, pos, aft, g⟩ :: rest) e hs K := by
  intro m is listed Z h1 h2 h3 h4 h5 hz
  cases is with
  | nil => exact h1.elim
  | cons k is =>
  obtain ⟨h0, h1⟩ := h1
  unfold ordY at h2
  rw [Bool.and_eq_true, Bool.and_eq_true] at h2
  obtain ⟨⟨h2a, _⟩, h2b⟩ := h2
  rw [Bool.or_eq_true, Bool.or_eq_true, hE, eff_mem hE] at h2a
  have h2 := And.intro h2a h2b
  have hkz : k ≠ z := by rintro rfl; rw [h0] at hzo; simp at hzo
  have ho : onlyB ops listed k = true := by
    rcases h2.1 with (h | h) | h
    · exact h
    · simp at h
    · simp at h
  rw [show (⟨some d, op, ty, pos, aft, g⟩ :: rest : List Oper).length + m = (rest.length + m) + 1 from by simp; omega]
  exact JZ.ef k h0 ho h (fun v hs' r => kk v hs' r m is _ Z h1 h2.2 (by simpa using h3) (set_lt h4 (.inr hkz)) (fun e => hF v hs' r (h5 e)) hz) hF rfl hdn hg
/-- the first store -/
theorem JY.st {op : Op} {hs' : Hp} (h : Eff P n w0 own e hs op (fun v h => v = undef ∧ h = hs')) (kk : JY P n w0 own ops F z true rest e hs' K)
    (hE : isEff ⟨none, op, ty, pos, aft, g⟩ = true := by rfl) (hg : wantB ops e g = some true := by rfl) : JY P n w0 own ops F z false (⟨none, op, ty, pos, aft, g⟩ :: rest) e hs K := by
  intro m is listed Z h1 h2 h3 h4 h5 hz
  cases is with
  | nil => exact h1.elim
  | cons k is =>
  obtain ⟨h0, h1⟩ := h1
  unfold ordY at h2
  rw [Bool.and_eq_true, Bool.and_eq_true] at h2
  obtain ⟨⟨h2a, h2c⟩, h2b⟩ := h2
  rw [Bool.or_eq_true, Bool.or_eq_true, hE, eff_mem hE] at h2a
  have h2 := And.intro h2a h2b
  obtain rfl : k = z := by
    rw [h4] at h2c
    exact Nat.eq_of_beq_eq_true (by simpa using h2c)
  have ho : onlyB ops listed k = true := by
    rcases h2.1 with (h | h) | h
    · exact h
    · simp at h
    · simp at h
  have hk : k < listed.size := by rw [h3]; exact (Array.getElem?_eq_some_iff.1 h0).1
  rw [show (⟨none, op, ty, pos, aft, g⟩ :: rest : List Oper).length + m = (rest.length + m) + 1 from by simp; omega]
  refine JZ.st h0 ho (Nat.ble_eq_true_of_le hk) h (kk m is _ Z h1 h2.2 (by simpa using h3) (by simp [hk]) (fun h => by cases h) hz) hg
/-- a store behind it -/
theorem JY.st2 {op : Op} {hs' : Hp} (h : Eff P n w0 own e hs op (fun v h => v = undef ∧ h = hs')) (kk : JY P n w0 own ops F z true rest e hs' K)
    (hE : isEff ⟨none, op, ty, pos, aft, g⟩ = true := by rfl) (hg : wantB ops e g = some true := by rfl) : JY P n w0 own ops F z true (⟨none, op, ty, pos, aft, g⟩ :: rest) e hs K := by
  intro m is listed Z h1 h2 h3 h4 h5 hz
  cases is with
  | nil => exact h1.elim
  | cons k is =>
  obtain ⟨h0, h1⟩ := h1
  unfold ordY at h2
  rw [Bool.and_eq_true, Bool.and_eq_true] at h2
  obtain ⟨⟨h2a, h2c⟩, h2b⟩ := h2
  rw [Bool.or_eq_true, Bool.or_eq_true, hE, eff_mem hE] at h2a
  have h2 := And.intro h2a h2b
  have ho : onlyB ops listed k = true := by
    rcases h2.1 with (h | h) | h
    · exact h
    · simp at h
    · simp at h
  rw [show (⟨none, op, ty, pos, aft, g⟩ :: rest : List Oper).length + m = (rest.length + m) + 1 from by simp; omega]
  have hl := set_lt (k := k) (listed := listed) (z := z) h4 (.inl rfl)
  rcases Decidable.em (z = k) with rfl | hne
  · -- z has been: it cannot come up again
    have hr : Region.ready .any ops listed = [z] := by simpa [onlyB] using ho
    have hm : z ∈ Region.ready .any ops listed := by rw [hr]; simp
    obtain ⟨hu, _⟩ := mem_ready.1 hm
    have hk : z < listed.size := by rw [h3]; exact (Array.getElem?_eq_some_iff.1 h0).1
    simp [hk] at hu h4
    rw [hu] at h4; cases h4
  · exact JZ.st2 k h0 ho h4 (by cases h : Nat.beq z k; rfl; exact absurd (Nat.eq_of_beq_eq_true h) hne) h (kk m is _ Z h1 h2.2 (by simpa using h3) hl (fun h => by cases h) hz) hg
end
/-- number i comes up now -/
def JS (P : Program) (n : Nat) (w0 : World) (own : List Nat) (ops : Array Oper) (F : Hp) (m : Nat) (listed : Array Bool) (e : Env) (hs : Hp) (K : Env → Hp → Prop) (i : Nat) : Prop :=
  ∀ a w, Rep n a e → Sat w0 own hs w → F ⊆ hs →
    wpOp P ops (QN fun a' w' => ∃ e' hs', Rep n a' e' ∧ Sat w0 own hs' w' ∧ K e' hs') i (fun a' w' => Keeps w0 own F w' ∧ wpAnyH P .any ops (QN fun a' w' => ∃ e' hs', Rep n a' e' ∧ Sat w0 own hs' w' ∧ K e' hs') (Keeps w0 own F) m (listed.setIfInBounds i true) a' w') a w
section
variable {P : Program} {n : Nat} {w0 : World} {own : List Nat} {e : Env} {hs F : Hp} {ops : Array Oper} {K : Env → Hp → Prop} {m : Nat} {listed : Array Bool}
variable {d : Nat} {ty : TypeId} {pos : String} {aft : Array Edge} {g : Option (Nat × Bool)}
/-- any of those that may come up -/
theorem JD.two (i j : Nat) (hr : (Region.ready .any ops listed == [i, j]) = true) (h1 : JS P n w0 own ops F m listed e hs K i) (h2 : JS P n w0 own ops F m listed e hs K j) : JD P n w0 own ops F (m + 1) listed e hs K := by
  intro a w hr' s hf
  refine wpAnyH_all (rs := [i, j]) (by simpa using hr) (by simp) fun k hk => ?_
  simp only [List.mem_cons, List.not_mem_nil, or_false] at hk
  rcases hk with rfl | rfl
  · exact h1 a w hr' s hf
  · exact h2 a w hr' s hf
theorem JD.one (i : Nat) (hr : onlyB ops listed i = true) (h1 : JS P n w0 own ops F m listed e hs K i) : JD P n w0 own ops F (m + 1) listed e hs K := by
  intro a w hr' s hf
  refine wpAnyH_all (rs := [i]) (by simpa [onlyB] using hr) (by simp) fun k hk => ?_
  simp only [List.mem_singleton] at hk
  subst hk
  exact h1 a w hr' s hf
theorem JS.v {i : Nat} {op : Op} {v : Value} (hi : ops[i]? = some ⟨some d, op, ty, pos, aft, g⟩) (h : Val P n w0 own e hs op v) (k : JD P n w0 own ops F m (listed.setIfInBounds i true) ((d, v) :: e) hs K)
    (hdn : Nat.blt d n = true := by rfl) (hg : wantB ops e g = some true := by rfl) : JS P n w0 own ops F m listed e hs K i := by
  intro a w hr s hf
  unfold wpOp
  simp only [hi]
  rw [if_pos (wanted_of hr hg)]
  exact .inl (h.eff a w _ _ _ _ _ _ _ hr s fun v' hs' w' ⟨e1, e2⟩ s' => by
    subst e1; subst e2
    exact ⟨⟨_, s', hf⟩, k _ _ (hr.put (Nat.le_of_ble_eq_true hdn) _) s' hf⟩)
theorem JS.st {i : Nat} {op : Op} {hs' : Hp} (hi : ops[i]? = some ⟨none, op, ty, pos, aft, g⟩) (h : Eff P n w0 own e hs op (fun v h => v = undef ∧ h = hs')) (hF : F ⊆ hs') (k : JD P n w0 own ops F m (listed.setIfInBounds i true) e hs' K)
    (hg : wantB ops e g = some true := by rfl) : JS P n w0 own ops F m listed e hs K i := by
  intro a w hr s hf
  unfold wpOp
  simp only [hi]
  rw [if_pos (wanted_of hr hg)]
  exact .inl (h a w _ _ _ _ _ _ _ hr s fun v' h' w' ⟨_, e2⟩ s' => by
    subst e2
    exact ⟨⟨_, s', hF⟩, k _ _ (hr.put_none _) s' hF⟩)
end
end V
end Go

/- VA: one element put behind a slice; what is known is let go inside a region. -/
namespace Go
namespace V
open Go.RowKit
set_option linter.unusedVariables false
set_option linter.unusedSimpArgs false
section
variable {P : Program} {n : Nat} {w0 : World} {own : List Nat} {e : Env} {hs : Hp} {ops : Array Oper} {rest l : List Oper} {K : Env → Hp → Prop}
theorem JL.heap {hs' : Hp} (k : ∀ w, Sat w0 own hs w → Sat w0 own hs' w) (h : JL P n w0 own ops l e hs' K) : JL P n w0 own ops l e hs K := fun a w hr s => h a w hr (k w s)
theorem JL.sub {e' : Env} (k : Sub e' e) (h : JL P n w0 own ops l e' hs K) : JL P n w0 own ops l e hs K := fun a w hr s => h a w (hr.sub k) s
theorem JL.take (pre : Hp) {fr : Hp} [t : TakeI pre hs fr] (h : JL P n w0 own ops l e pre K) : JL P n w0 own ops l e hs K := JL.heap (fun _ s => s.take) h
theorem fill_one {m : Nat} {cs oc : List Value} (hc : cs.length = m) (ho : oc.length = m) : fillL ((List.range 1).map fun i => (i * m, m)) cs [(0, oc)] = some oc := by
  simp [fillL, hc, ho, splice_whole cs oc (by omega)]
/-- 's = append(s, x)' -/
theorem JL.push {s x : Operand} {T t u E m by_ c d1 d2 ty1 ty2 : Nat} {p1 p2 : String} {a1 a2 : Array Edge} {z vs oc : List Value} {v xv : Value} {h fr : Hp}
    (hs_ : ev e s = some v) (hx : ev e x = some xv) [hT : SliceT P T E] [ht : SliceT P t E] [hu : SliceT P u E] [hE : El P E m by_ z] (ho : OwnS E m v c vs h) [tk : TakeI h hs fr] (hoc : xv.cells = ⟨oc⟩) (hl : oc.length = m) (h1 : ones oc = true)
    (hb : (c + 1) * by_ ≤ 140737488355328) (h63 : c + 1 ≤ 4611686018427387904)
    (k : ∀ b v' h', OwnS E m v' (c + 1) (vs ++ oc) h' → JL P n w0 own ops rest ((d2, v') :: (d1, .slice (some ⟨b, 0, none⟩) 1 1) :: e) (h' ++ fr) K)
    (hs2 : ∀ b, ev ((d1, .slice (some ⟨b, 0, none⟩) 1 1) :: e) s = some v := by intro b; rfl) (hm : Nat.ble m 16777216 = true := by rfl) (hd1 : Nat.blt d1 n = true := by rfl) (hd2 : Nat.blt d2 n = true := by rfl) :
    JL P n w0 own ops (⟨some d1, .buildSlice T 1 #[(0, x)], ty1, p1, a1, none⟩ :: ⟨some d2, .call { callee := .builtin .append, args := #[s, .tmp d1], argTypes := #[t, u] }, ty2, p2, a2, none⟩ :: rest) e hs K := by
  have hzl : z.length = m := by obtain ⟨i, v, _, _, _, _, _, h⟩ := hE.out; exact h
  refine .ef (Eff.buildSlice (parts := [(0, x)]) (vs := [(0, xv)]) (out := oc) (by simp [evp, hx]) (by rw [Nat.one_mul]; exact Nat.le_of_ble_eq_true hm) rfl ?_) ?_ hd1 rfl
  · rw [show ([(0, xv)] : List (Nat × Value)).map (fun p => (p.1, p.2.cells.toList)) = [(0, oc)] from by simp [hoc]]
    exact fill_one (by simp) hl
  · rintro _ _ ⟨b, rfl, rfl⟩
    refine .ef (Eff.append (c := c) (k := 1) (vs := vs) (news := oc) (h := h) (fr := (b, .cells oc E) :: fr) (hs2 b) (show ev ((d1, .slice (some ⟨b, 0, none⟩) 1 1) :: e) (.tmp d1) = some (.slice (some ⟨b, 0, none⟩) 1 1) by simp [ev, get]) ho ((tk.out.cons _).trans List.perm_middle.symm) (fun w s' => Src.of_at s' .whole (by rw [hl, Nat.one_mul])) (by rw [hl, Nat.one_mul]) h1 hb h63) ?_ hd2 rfl
    rintro v' _ ⟨h', k', rfl⟩
    exact .heap (fun _ s' => s'.sub (List.Sublist.append_left (List.sublist_cons_self _ _) _)) (k b v' h' k')
end
/-! ### rows of records -/
theorem at_sub {w0 : World} {own : List Nat} {hs : Hp} {b o i : Nat} {vs us : List Value} (h : At w0 own hs ⟨b, o, none⟩ vs) (hu : ∀ (j : Nat) (u : Value), us[j]? = some u → vs[i + j]? = some u) : At w0 own hs ⟨b, o + i, none⟩ us := by
  intro w s j u hj
  have := h w s (i + j) u (hu j u hj)
  rw [add_none] at this ⊢
  rw [Nat.add_assoc]; exact this
section
variable {α : Type} (f : α → List Value) (m : Nat) (hm : ∀ a, (f a).length = m) {w0 : World} {own : List Nat} {hs : Hp} {b o i : Nat} {l : List α} {z : Int}
include hm
theorem recAt (h : At w0 own hs ⟨b, o, none⟩ (l.flatMap f)) (hi : i < l.length) (hz : z.toNat = i := by omega) : At w0 own hs ⟨b, o + z.toNat * m, none⟩ (f l[i]) := by
  subst hz
  refine at_sub h fun j u hj => ?_
  rw [flatMap_get f m hm l _ j hi (by have := (List.getElem?_eq_some_iff.1 hj).1; rw [hm] at this; exact this)]; exact hj
theorem fldAt (h : At w0 own hs ⟨b, o, none⟩ (l.flatMap f)) (hi : i < l.length) (k : Nat) {v : Value} (hv : (f l[i])[k]? = some v) (hz : z.toNat = i := by omega) : At w0 own hs ⟨b, o + z.toNat * m + k, none⟩ [v] := by
  subst hz
  rw [Nat.add_assoc]
  refine at_sub h fun j u hj => ?_
  match j, hj with
  | 0, hj =>
    simp at hj; subst hj
    rw [Nat.add_zero, flatMap_get f m hm l _ k hi (by have := (List.getElem?_eq_some_iff.1 hv).1; rw [hm] at this; exact this)]; exact hv
theorem Rd.recs {w : World} {no : List Nat} {A : Option Addr} (h : Rd w no A (l.flatMap f)) (h0 : 0 < l.length) (hm0 : 0 < m) : ∃ b o, A = some ⟨b, o, none⟩ ∧ ∀ hs, At w no hs ⟨b, o, none⟩ (l.flatMap f) := by
  obtain ⟨b, o, rfl, -⟩ := h.base (by rw [flatMap_length f m hm]; exact Nat.mul_pos h0 hm0)
  exact ⟨b, o, rfl, fun hs => h.whole⟩
theorem rows_take (k : Nat) : (l.take k).flatMap f = (l.flatMap f).take (k * m) := by
  induction l generalizing k with
  | nil => simp
  | cons v l ih =>
    cases k with
    | zero => simp
    | succ k =>
      have e1 : (f v).take ((k + 1) * m) = f v := List.take_of_length_le (by rw [hm, Nat.succ_mul]; omega)
      have e2 : (k + 1) * m - (f v).length = k * m := by rw [hm, Nat.succ_mul]; omega
      rw [List.take_succ_cons, List.flatMap_cons, List.flatMap_cons, ih, List.take_append, e1, e2]
theorem rows_drop (k : Nat) : (l.drop k).flatMap f = (l.flatMap f).drop (k * m) := by
  induction l generalizing k with
  | nil => simp
  | cons v l ih =>
    cases k with
    | zero => simp
    | succ k =>
      have e1 : (f v).drop ((k + 1) * m) = [] := List.drop_of_length_le (by rw [hm, Nat.succ_mul]; omega)
      have e2 : (k + 1) * m - (f v).length = k * m := by rw [hm, Nat.succ_mul]; omega
      rw [List.drop_succ_cons, List.flatMap_cons, ih, List.drop_append, e1, e2, List.nil_append]
end
theorem rows_ones {α : Type} (f : α → List Value) (h : ∀ a, ones (f a) = true) (l : List α) : ones (l.flatMap f) = true := by
  simp only [ones, List.all_flatMap, List.all_eq_true]
  intro a _ x hx
  exact ones_mem (h a) x hx
/-- a slice that was cut -/
theorem Rd.cut {w : World} {no : List Nat} {A : Option Addr} {vs : List Value} {cap k m : Nat} (h : Rd w no A vs) (hc : vs.length ≤ cap * m) : Rd w no (cutA A cap k m) (vs.drop (k * m)) := by
  intro j v hv
  rw [List.getElem?_drop] at hv
  obtain ⟨b, o, rfl, hb, hv'⟩ := h _ v hv
  have hlt := (List.getElem?_eq_some_iff.1 hv).1
  have hne : cap ≠ k := by intro e; subst e; omega
  unfold cutA
  rw [if_neg hne]
  refine ⟨b, o + k * m, by simp [add_none], hb, ?_⟩
  rw [Nat.add_assoc]; exact hv'
/-- what an own slice holds, loaded -/
theorem OwnS.at0 {w0 : World} {own : List Nat} {E m n n' c b o : Nat} {vs : List Value} {h hs : Hp} (k : OwnS E m (.slice (some ⟨b, o, none⟩) n' c) n vs h) (hh : h ⊆ hs) : At w0 own hs ⟨b, o, none⟩ vs := by
  have := k.atN (i := 0) (w0 := w0) (own := own) hh (us := vs) (fun j v hv => by rw [Nat.zero_add]; exact hv)
  exact this
/-- .. cells of it -/
theorem OwnS.spliceAt {E m n n' c b o i : Nat} {vs l us : List Value} (k : OwnS E m (.slice (some ⟨b, o, none⟩) n' c) n vs [(b, .cells l E)]) (hi : i + us.length ≤ n * m) : OwnS E m (.slice (some ⟨b, o, none⟩) n' c) n (splice vs i us) [(b, .cells (splice l (o + i) us) E)] := by
  obtain ⟨hl, k⟩ := k
  refine ⟨by rw [splice_length _ _ _ (by omega)]; exact hl, ?_⟩
  rcases k with ⟨h1, h2, h3⟩ | ⟨b', o', cap, l', h1, h2, h3, h4, h5⟩
  · cases h3
  · cases h1; cases h2
    have hn := Nat.mul_le_mul_right m h3
    refine .inr ⟨b, o, c, splice l (o + i) us, rfl, rfl, h3, by rw [splice_length _ _ _ (by omega)]; exact h4, ?_⟩
    apply List.ext_getElem?
    intro j
    rw [List.getElem?_take, List.getElem?_drop, splice_get _ _ _ _ (by omega), splice_get _ _ _ _ (by omega), ← h5, List.getElem?_take, List.getElem?_drop]
    by_cases hj : j < n * m
    · rw [if_pos hj, if_pos hj]
      by_cases e1 : j < i
      · rw [if_pos (by omega), if_pos e1]
      · rw [if_neg (by omega), if_neg e1]
        by_cases e2 : j < i + us.length
        · rw [if_pos (by omega), if_pos e2]; congr 1; omega
        · rw [if_neg (by omega), if_neg e2]
    · rw [if_neg hj, if_neg hj, if_neg (by omega), if_neg (by omega)]
/-- one cell of an own slice is turned -/
theorem OwnS.setAt {E m n n' c b o i : Nat} {vs l : List Value} {v : Value} (k : OwnS E m (.slice (some ⟨b, o, none⟩) n' c) n vs [(b, .cells l E)]) (hi : i < n * m) : OwnS E m (.slice (some ⟨b, o, none⟩) n' c) n (vs.set i v) [(b, .cells (l.set (o + i) v) E)] := by
  have h := k.spliceAt (i := i) (us := [v]) (by simp; omega)
  obtain ⟨hl, k⟩ := k
  rcases k with ⟨h1, h2, h3⟩ | ⟨b', o', cap, l', h1, h2, h3, h4, h5⟩
  · cases h3
  · cases h1; cases h2
    have hn := Nat.mul_le_mul_right m h3
    rw [splice_one vs i v (by omega), splice_one l (o + i) v (by omega)] at h
    exact h
theorem OwnS.src {P : Program} {w0 w : World} {own : List Nat} {hs : Hp} {E m n : Nat} {v : Value} {vs : List Value} {h : Hp} (k : OwnS E m v n vs h) (s : Sat w0 own hs w) (hh : h ⊆ hs) (hm : 0 < m) : Src P w m v n vs := by
  obtain ⟨A, c, rfl⟩ := k.slice
  exact (OwnS.rd k s (no := []) hh (by simp)).src k.1 hm
section
variable {P : Program} {n : Nat} {w0 : World} {own : List Nat} {e : Env} {hs : Hp} {ops : Array Oper} {rest l : List Oper} {K : Env → Hp → Prop}
/-- 's = append(s, t...)' -/
theorem JL.appT {s x : Operand} {t u E m by_ c d ty k : Nat} {p : String} {af : Array Edge} {z vs news : List Value} {v xv : Value} {h fr : Hp}
    (hs_ : ev e s = some v) (hx : ev e x = some xv) [ht : SliceT P t E] [hu : SliceT P u E] [hE : El P E m by_ z] (ho : OwnS E m v c vs h) [tk : TakeI h hs fr] (hsrc : ∀ w, Sat w0 own hs w → Src P w m xv k news) (hl : news.length = k * m) (h1 : ones news = true)
    (hb : (c + k) * by_ ≤ 140737488355328) (h63 : c + k ≤ 4611686018427387904) (kk : ∀ v' h', OwnS E m v' (c + k) (vs ++ news) h' → JL P n w0 own ops rest ((d, v') :: e) (h' ++ fr) K) (hd : Nat.blt d n = true := by rfl) :
    JL P n w0 own ops (⟨some d, .call { callee := .builtin .append, args := #[s, x], argTypes := #[t, u] }, ty, p, af, none⟩ :: rest) e hs K :=
  .ef (Eff.append (c := c) (k := k) (vs := vs) (news := news) (h := h) (fr := fr) hs_ hx ho tk.out hsrc hl h1 hb h63) (fun v' _ ⟨h', k', e⟩ => by subst e; exact kk v' h' k') hd rfl
end
/-! ### regions in which two effects may come up in either order -/
section
variable {P : Program} {n : Nat} {w0 : World} {own : List Nat} {e : Env} {hs F : Hp} {K : Env → Hp → Prop} {m : Nat} {listed : Array Bool}
variable {d : Nat} {ty : TypeId} {pos : String} {aft : Array Edge} {g : Option (Nat × Bool)}
/-- the first operations, in an order of ours; then by hand -/
theorem JC.drawX {id : Nat} {Q : Post} {l : List Oper} (is : List Nat) (F : Hp) (hF : F ⊆ hs) (hm : P.follows .mixedOrders = true)
    (hB : (ordB l.toArray (pickL l is) is (Array.replicate l.length false) && Nat.beq (pickL l is).length is.length && Nat.ble is.length l.length) = true)
    (h : JK P n w0 own l.toArray F (pickL l is) e hs (fun e' hs' => JD P n w0 own l.toArray F (l.length - is.length) (marks_ is (Array.replicate l.length false)) e' hs' (fun e hs => Q .normal e hs))) : JC P n w0 own (.region id l.toArray true) e hs Q := by
  rw [Bool.and_eq_true, Bool.and_eq_true] at hB
  obtain ⟨⟨h1, h2⟩, h3⟩ := hB
  have h2 := Nat.eq_of_beq_eq_true h2
  have h3 := Nat.le_of_ble_eq_true h3
  refine JC.draw F hF hm ?_
  have := h (l.length - is.length) is (Array.replicate l.length false) (fun e hs => Q .normal e hs) (pickL_nums is h1 h2) h1 hF (fun e' hs' _ ke => ke)
  rw [h2, show is.length + (l.length - is.length) = l.length by omega] at this
  simpa using this
theorem pickL_nums' {l : List Oper} : ∀ (is : List Nat), (pickL l is).length = is.length → Nums l.toArray (pickL l is) is
  | [], _ => trivial
  | i :: is, hl => by
    unfold pickL at hl ⊢
    cases ho : l[i]? with
    | none => rw [ho] at hl; simp at hl
    | some o =>
      rw [ho] at hl
      simp only at hl ⊢
      exact ⟨by simpa using ho, pickL_nums' is (by simpa using hl)⟩
/-- the others, in an order of ours -/
theorem JD.run {l : List Oper} (is : List Nat) (hF : F ⊆ hs) (hB : (ordB l.toArray (pickL l is) is listed && doneB l.toArray (marks_ is listed) && Nat.beq (pickL l is).length is.length && Nat.beq is.length m) = true)
    (h : JK P n w0 own l.toArray F (pickL l is) e hs K) : JD P n w0 own l.toArray F m listed e hs K := by
  rw [Bool.and_eq_true, Bool.and_eq_true, Bool.and_eq_true] at hB
  obtain ⟨⟨⟨h1, h2⟩, h3⟩, h4⟩ := hB
  have h3 := Nat.eq_of_beq_eq_true h3
  have h4 := Nat.eq_of_beq_eq_true h4
  have := h 0 is listed K (pickL_nums' is h3) h1 hF (fun e' hs' _ ke => JD.done h2 ke)
  rw [h3, h4] at this
  simpa using this
theorem JD.heap {ops : Array Oper} {hs' : Hp} (k : ∀ w, Sat w0 own hs w → Sat w0 own hs' w) (hF : F ⊆ hs') (h : JD P n w0 own ops F m listed e hs' K) : JD P n w0 own ops F m listed e hs K := fun a w hr s _ => h a w hr (k w s) hF
theorem JS.ef {ops : Array Oper} {i : Nat} {op : Op} {R : Value → Hp → Prop} (hi : ops[i]? = some ⟨some d, op, ty, pos, aft, g⟩) (h : Eff P n w0 own e hs op R) (hF : ∀ v hs', R v hs' → F ⊆ hs → F ⊆ hs')
    (k : ∀ v hs', R v hs' → JD P n w0 own ops F m (listed.setIfInBounds i true) ((d, v) :: e) hs' K) (hdn : Nat.blt d n = true := by rfl) (hg : wantB ops e g = some true := by rfl) : JS P n w0 own ops F m listed e hs K i := by
  intro a w hr s hf
  unfold wpOp
  simp only [hi]
  rw [if_pos (wanted_of hr hg)]
  exact .inl (h a w _ _ _ _ _ _ _ hr s fun v' h' w' r s' => ⟨⟨_, s', hF _ _ r hf⟩, k _ _ r _ _ (hr.put (Nat.le_of_ble_eq_true hdn) _) s' (hF _ _ r hf)⟩)
theorem JS.nw {ops : Array Oper} {i : Nat} {op : Op} {c : Ch} (hi : ops[i]? = some ⟨some d, op, ty, pos, aft, g⟩) (h : Eff P n w0 own e hs op (NewP hs c))
    (k : ∀ b, JD P n w0 own ops F m (listed.setIfInBounds i true) ((d, .pointer (some ⟨b, 0, none⟩)) :: e) ((b, c) :: hs) K) (hdn : Nat.blt d n = true := by rfl) (hg : wantB ops e g = some true := by rfl) : JS P n w0 own ops F m listed e hs K i :=
  .ef hi h (fun v h' ⟨b, _, e2⟩ f => by subst e2; exact fun p hp => List.mem_cons_of_mem _ (f hp)) (fun v h' ⟨b, e1, e2⟩ => by subst e1; subst e2; exact k b) hdn hg
theorem JS.cl {ops : Array Oper} {i f : Nat} {fo : Operand} {args : List Operand} {at_ : Array TypeId} {cap vals : List Value} {R : Value → Hp → Prop}
    (hi : ops[i]? = some ⟨some d, .call { callee := .value fo, args := ⟨args⟩, argTypes := at_ }, ty, pos, aft, g⟩) (hf : ev e fo = some (.func (.func f) #[] ⟨cap⟩)) (ha : evs e args = some vals) (hc : ∀ w, Sat w0 own hs w → Does P f (vals ++ cap) [] w R)
    (k : ∀ v h, R v h → JD P n w0 own ops F m (listed.setIfInBounds i true) ((d, v) :: e) (h ++ hs) K) [hg' : FnT P f] (hdn : Nat.blt d n = true := by rfl) (hg : wantB ops e g = some true := by rfl) : JS P n w0 own ops F m listed e hs K i :=
  .ef hi (.call0 hf ha hc) (fun _ _ ⟨_, _, h3⟩ f => by subst h3; exact fun p hp => List.mem_append_right _ (f hp)) (fun v _ ⟨h, h1, h3⟩ => by subst h3; exact k v h h1) hdn hg
theorem JK.nw {ops : Array Oper} {rest : List Oper} {op : Op} {c : Ch} (h : Eff P n w0 own e hs op (NewP hs c)) (kk : ∀ b, JK P n w0 own ops F rest ((d, .pointer (some ⟨b, 0, none⟩)) :: e) ((b, c) :: hs) K)
    (he : isEff ⟨some d, op, ty, pos, aft, g⟩ = true := by rfl) (hdn : Nat.blt d n = true := by rfl) (hg : wantB ops e g = some true := by rfl) : JK P n w0 own ops F (⟨some d, op, ty, pos, aft, g⟩ :: rest) e hs K :=
  .ef h (fun v h' ⟨b, _, e2⟩ f => by subst e2; exact fun p hp => List.mem_cons_of_mem _ (f hp)) (fun v h' ⟨b, e1, e2⟩ => by subst e1; subst e2; exact kk b) he hdn hg
end
/-- a slice of its own, whatever it holds -/
def AnyS (E m : Nat) (v : Value) (n : Nat) (h : Hp) : Prop := ∃ vs, OwnS E m v n vs h
theorem AnyS.sl {E m n : Nat} {v : Value} {h : Hp} (k : AnyS E m v n h) : ∃ A c, v = .slice A n c := by
  obtain ⟨vs, k⟩ := k
  exact k.slice
theorem AnyS.put {E m n c i : Nat} {A : Option Addr} {h : Hp} (k : AnyS E m (.slice A n c) n h) (hi : i < n) : ∃ b o l, A = some ⟨b, o, none⟩ ∧ h = [(b, .cells l E)] ∧ o + n * m ≤ l.length ∧ ∀ us : List Value, us.length = m → AnyS E m (.slice A n c) n [(b, .cells (splice l (o + i * m) us) E)] := by
  obtain ⟨vs, k⟩ := k
  obtain ⟨b, o, l, rfl, -, rfl, hc, hl, hv⟩ := k.some_ (by omega)
  have := Nat.mul_le_mul_right m hc
  have hm : i * m + m ≤ n * m := by rw [← Nat.succ_mul]; exact Nat.mul_le_mul_right m hi
  exact ⟨b, o, l, rfl, rfl, by omega, fun us hu => ⟨_, OwnS.spliceAt (i := i * m) k (by rw [hu]; exact hm)⟩⟩
theorem Sat.apart {w0 w : World} {own : List Nat} {hs a b fr : Hp} (s : Sat w0 own hs w) [h : TakeI (a ++ b) hs fr] : ∀ x ∈ bl a, x ∉ bl b := (s.take (pre := a ++ b)).disj
theorem Rd.blk {w0 w : World} {own : List Nat} {hs : Hp} {b T : Nat} {l : List Value} (s : Sat w0 own hs w) [hb : Mem b (.cells l T) hs] : Rd w [] (some ⟨b, 0, none⟩) l :=
  Rd.chunk s (T := T) (l := l) (by simp) (fun j v hv => by rw [Nat.zero_add]; exact hv)
section
variable {P : Program} {n : Nat} {w0 : World} {own : List Nat} {e : Env} {hs F : Hp} {K : Env → Hp → Prop} {m : Nat} {listed : Array Bool}
variable {d : Nat} {ty : TypeId} {pos : String} {aft : Array Edge} {g : Option (Nat × Bool)}
/-- a call that is lent blocks, where two effects may come up -/
theorem JS.clT {ops : Array Oper} {i f : Nat} {fo : Operand} {args : List Operand} {at_ : Array TypeId} {cap vals : List Value} {R : Value → Hp → Prop} (pre : Hp) {fr : Hp}
    (hi : ops[i]? = some ⟨some d, .call { callee := .value fo, args := ⟨args⟩, argTypes := at_ }, ty, pos, aft, g⟩) (hf : ev e fo = some (.func (.func f) #[] ⟨cap⟩)) (ha : evs e args = some vals) [tk : TakeI pre hs fr] (hc : ∀ w, Sat w0 own hs w → Does P f (vals ++ cap) pre w R)
    (hF : ∀ h, F ⊆ h ++ fr) (k : ∀ v h, R v h → JD P n w0 own ops F m (listed.setIfInBounds i true) ((d, v) :: e) (h ++ fr) K) [hg' : FnT P f] (hdn : Nat.blt d n = true := by rfl) (hg : wantB ops e g = some true := by rfl) : JS P n w0 own ops F m listed e hs K i :=
  .ef hi (.callT pre hf ha hc) (fun _ _ ⟨h, _, h3⟩ f => by subst h3; exact hF h) (fun v _ ⟨h, h1, h3⟩ => by subst h3; exact k v h h1) hdn hg
theorem JK.clT {ops : Array Oper} {rest : List Oper} {f : Nat} {fo : Operand} {args : List Operand} {at_ : Array TypeId} {cap vals : List Value} {R : Value → Hp → Prop} (pre : Hp) {fr : Hp}
    (hf : ev e fo = some (.func (.func f) #[] ⟨cap⟩)) (ha : evs e args = some vals) [tk : TakeI pre hs fr] (hc : ∀ w, Sat w0 own hs w → Does P f (vals ++ cap) pre w R) (hF : ∀ h, F ⊆ h ++ fr) (kk : ∀ v h, R v h → JK P n w0 own ops F rest ((d, v) :: e) (h ++ fr) K) [hg : FnT P f]
    (hdn : Nat.blt d n = true := by rfl) (hw : wantB ops e g = some true := by rfl) :
    JK P n w0 own ops F (⟨some d, .call { callee := .value fo, args := ⟨args⟩, argTypes := at_ }, ty, pos, aft, g⟩ :: rest) e hs K :=
  JK.ef (.callT pre hf ha hc) (fun _ _ ⟨h, _, h3⟩ f => by subst h3; exact hF h) (fun v _ ⟨h, h1, h3⟩ => by subst h3; exact kk v h h1) rfl hdn hw
end
end V
end Go

/- VC: maps whose keys are numbers, further: look-up with 'ok', delete, len, a range over them; max. -/
namespace Go
namespace V
open Go.RowKit
set_option linter.unusedVariables false
set_option linter.unusedSimpArgs false

abbrev ME.born (x : ME) : Nat := x.2.2
/-- the map behind a deletion -/
def mdel (k : Int) (es : List ME) : List ME := match mfind k es 0 with
  | some (i, _) => es.eraseIdx i
  | none => es
abbrev iter_ (m since : Nat) (seen : List Nat) (last : Nat) : Ch := .obj (.mapIter (some m) since ⟨seen⟩ last)
section
variable {P : Program} {n : Nat} {w0 : World} {own : List Nat} {e : Env} {hs : Hp}
theorem Val.lookup2 {T kT eT b c : Nat} {q : IntKind} {k : Int} {x y : Operand} {es : List ME} {z : Value} (hx : ev e x = some (.map (some b))) (hy : ev e y = some (.int q k)) [hT : MapT P T kT eT] [hk : IntT P kT q] [hz : ZrV P eT z]
    [hb : Mem b (.obj (mapOf q es c)) hs] : Val P n w0 own e hs (.lookup T x y true) (.tuple ⟨[(mget k es).getD z, .bool (mget k es).isSome]⟩) := fun a w ty pos aft g d hr s => by
  obtain ⟨i, hi, hzz⟩ := hz.out
  have h1 := s.mrow hb.out
  have h1' : w.heap[b]? = some (.map ⟨es.map (mentry q)⟩ c) := h1
  have key : (Instr.lookup T (.map (some b)) (.int q k) true).run P w = .ok (.tuple ⟨[(mget k es).getD z, .bool (mget k es).isSome]⟩) w := by
    unfold Instr.lookup
    simp [run_underlying hT.out, MapKept.run_getObj_map h1', run_checkKey_int hk.out, run_findKey_int hk.out]
    unfold mget
    cases mfind k es 0 with
    | none => simp [zeroValue, typeInfo, hi, hzz]
    | some p => simp
  simp [execOp, hr.eval hx, hr.eval hy, key]
theorem Val.lookup2E {T kT eT b c : Nat} {q : IntKind} {k : Int} {x y : Operand} {es : List ME} {z v : Value} {ok : Bool} (hx : ev e x = some (.map (some b))) (hy : ev e y = some (.int q k)) [hT : MapT P T kT eT] [hk : IntT P kT q] [hz : ZrV P eT z]
    [hb : Mem b (.obj (mapOf q es c)) hs] (hv : (mget k es).getD z = v) (ho : (mget k es).isSome = ok) : Val P n w0 own e hs (.lookup T x y true) (.tuple ⟨[v, .bool ok]⟩) := hv ▸ ho ▸ Val.lookup2 hx hy
theorem Eff.del {T kT eT uT b c : Nat} {q : IntKind} {k : Int} {x y : Operand} {es : List ME} {hs' : Hp} (hx : ev e x = some (.map (some b))) (hy : ev e y = some (.int q k)) [hT : MapT P T kT eT] [hk : IntT P kT q]
    [hb : Mem b (.obj (mapOf q es c)) hs] [u : UpdI b (.obj (mapOf q (mdel k es) c)) hs hs'] : Eff P n w0 own e hs (.call { callee := .builtin .delete, args := #[x, y], argTypes := #[T, uT] }) (fun v h => v = .tuple ⟨[]⟩ ∧ h = hs') :=
  Eff.of_run fun a w ty pos aft g d hr s => by
    have h1 := s.mrow hb.out
    have h1' : w.heap[b]? = some (.map ⟨es.map (mentry q)⟩ c) := h1
    have hlt : b < w.heap.size := (Array.getElem?_eq_some_iff.1 h1').1
    have key : (Builtin.delete_ #[T, uT] ty #[.map (some b), .int q k]).run P w = .ok (.tuple #[]) { w with heap := w.heap.setIfInBounds b (mapOf q (mdel k es) c) } := by
      unfold Builtin.delete_
      cases hf : mfind k es 0 with
      | none =>
        simp [run_underlying hT.out, MapKept.run_getObj_map h1', run_checkKey_int hk.out, run_findKey_int hk.out, hf, MapKept.run_setObj_map _ h1', mdel, mapOf]
      | some p =>
        obtain ⟨i, v0⟩ := p
        obtain ⟨_, y0, g1, g2, _⟩ := mfind_key k es 0 i v0 hf
        have hi : i < es.length := by have := (List.getElem?_eq_some_iff.1 g1).1; omega
        simp [run_underlying hT.out, MapKept.run_getObj_map h1', run_checkKey_int hk.out, run_findKey_int hk.out, hf, MapKept.run_setObj_map _ h1', mdel, mapOf, Array.eraseIdxIfInBounds, hi]
        congr 2
        apply Array.ext'
        apply List.ext_getElem?
        intro m
        simp only [List.getElem?_eraseIdx, List.getElem?_map]
        split <;> rfl
    refine ⟨.tuple ⟨[]⟩, hs', { w with heap := w.heap.setIfInBounds b (mapOf q (mdel k es) c) }, ?_, ⟨rfl, rfl⟩, ?_⟩
    · simp [execOp, hr.eval hx, hr.eval hy, resolve, invoke, builtin, key]
    · refine s.upd u.out ?_ ?_ ?_ rfl rfl rfl
      · simp
      · intro i hi
        simp [Array.getElem?_setIfInBounds, Ne.symm hi]
      · simp [Array.getElem?_setIfInBounds, hlt, Ch.toObj]
theorem Val.lenM {T kT eT b c : Nat} {q : IntKind} {x : Operand} {es : List ME} (hx : ev e x = some (.map (some b))) [hT : MapT P T kT eT] [hb : Mem b (.obj (mapOf q es c)) hs] :
    Val P n w0 own e hs (.call { callee := .builtin .len, args := #[x], argTypes := #[T] }) (.int .i64 es.length) := fun a w ty pos aft g d hr s => by
  have h1 := s.mrow hb.out
  have h1' : w.heap[b]? = some (.map ⟨es.map (mentry q)⟩ c) := h1
  have hu := hT.out
  simp [execOp, hr.eval hx, resolve, invoke, builtin, Builtin.len_, run_underlying hu, goInt, MapKept.run_getObj_map h1']
theorem Val.max2 {x y : Operand} {q : IntKind} {i j : Int} {ts : Array TypeId} (hx : ev e x = some (.int q i)) (hy : ev e y = some (.int q j)) :
    Val P n w0 own e hs (.call { callee := .builtin .max, args := #[x, y], argTypes := ts }) (.int q (max i j)) := fun a w ty pos aft g d hr s => by
  simp [execOp, hr.eval hx, hr.eval hy, resolve, invoke, builtin, Builtin.max_, Builtin.max2]
  by_cases h : i < j
  · simp [h]; omega
  · simp [h]; omega
theorem Eff.range {T kT eT b c : Nat} {q : IntKind} {x : Operand} {es : List ME} (hx : ev e x = some (.map (some b))) [hT : MapT P T kT eT] [hb : Mem b (.obj (mapOf q es c)) hs] :
    Eff P n w0 own e hs (.range T x) (NewP hs (iter_ b c [] c)) :=
  Eff.of_run fun a w ty pos aft g d hr s => by
    have h1 := s.mrow hb.out
    have h1' : w.heap[b]? = some (.map ⟨es.map (mentry q)⟩ c) := h1
    refine ⟨.pointer (some ⟨w.heap.size, 0, none⟩), _, w.alloc (.mapIter (some b) c #[] c), ?_, ⟨w.heap.size, rfl, rfl⟩, s.new (iter_ b c [] c)⟩
    have key : (Instr.range T (.map (some b))).run P w = .ok (.pointer (some ⟨w.heap.size, 0, none⟩)) (w.alloc (.mapIter (some b) c #[] c)) := by
      unfold Instr.range
      simp [run_underlying hT.out, MapKept.run_getObj_map h1', run_newObj_alloc]
    simp [execOp, hr.eval hx, key]
theorem left_nil {q : IntKind} {es : List ME} {seen : List Nat} : (leftOf ⟨es.map (mentry q)⟩ ⟨seen⟩).size = 0 ↔ ∀ x ∈ es, x.born ∈ seen := by
  unfold leftOf
  rw [Array.size_eq_zero_iff, Array.filter_eq_empty_iff]
  constructor
  · intro h x hx
    have := h (mentry q x) (by simp; exact ⟨_, _, _, hx, rfl⟩)
    simpa [mentry] using this
  · intro h y hy
    simp at hy
    obtain ⟨a, b, c, hx, rfl⟩ := hy
    simpa [mentry] using h _ hx
theorem Eff.next {r b since last c : Nat} {q : IntKind} {x : Operand} {es : List ME} {seen : List Nat} {fr : Hp} (hx : ev e x = some (.pointer (some ⟨r, 0, none⟩))) [hr_ : Rem (r, iter_ b since seen last) hs fr] [hb : Mem b (.obj (mapOf q es c)) hs]
    (hold : ∀ y ∈ es, y.born < since) (hl : since ≤ last) :
    Eff P n w0 own e hs (.next x false) (fun v h => (v = .tuple ⟨[.bool false]⟩ ∧ (∀ y ∈ es, y.born ∈ seen) ∧ h = hs) ∨
      ∃ y ∈ es, y.born ∉ seen ∧ v = .tuple ⟨[.bool true, .int q y.1, y.2.1]⟩ ∧ h = (r, iter_ b since (seen ++ [y.born]) c) :: fr) :=
  Eff.of_run fun a w ty pos aft g d hr s => by
    have h1 := s.mrow hb.out
    have h1' : w.heap[b]? = some (.map ⟨es.map (mentry q)⟩ c) := h1
    have hrr : w.heap[r]? = some (.mapIter (some b) since ⟨seen⟩ last) := s.has r _ (hr_.out.mem_iff.2 List.mem_cons_self)
    have hlt : r < w.heap.size := (Array.getElem?_eq_some_iff.1 hrr).1
    rcases run_next_at (P := P) w ty r b since last ⟨seen⟩ ⟨es.map (mentry q)⟩ c hrr h1' (by
      intro y hy
      simp at hy
      obtain ⟨a, b, c, hm, rfl⟩ := hy
      exact hold _ hm) hl with ⟨h0, hrun⟩ | ⟨y, hy, w1, hw1, hrun⟩
    · exact ⟨_, hs, w, by simp [execOp, hr.eval hx, hrun], .inl ⟨rfl, left_nil.1 h0, rfl⟩, s⟩
    · unfold leftOf at hy
      simp at hy
      obtain ⟨⟨a1, a2, a3, hm, rfl⟩, hns⟩ := hy
      have hpu : (⟨seen⟩ : Array Nat).push (mentry q (a1, a2, a3)).born = ⟨seen ++ [a3]⟩ := by apply Array.ext'; simp [mentry]
      rw [hpu] at hrun
      have s1 : Sat w0 own hs w1 := by rcases hw1 with rfl | rfl; exact s; exact s.drew
      have s2 := (s1.perm hr_.out).upd (w' := ChangeMaps.setBlock w1 r (.mapIter (some b) since ⟨seen ++ [a3]⟩ c)) (c := iter_ b since (seen ++ [a3]) c) (.head) (by simp [ChangeMaps.setBlock]) (fun i hi => by simp [ChangeMaps.setBlock, Array.getElem?_setIfInBounds, Ne.symm hi]) (by
        have hlt1 : r < w1.heap.size := by rcases hw1 with rfl | rfl <;> exact hlt
        simp [ChangeMaps.setBlock, Array.getElem?_setIfInBounds, hlt1, Ch.toObj]) rfl rfl rfl
      exact ⟨_, _, _, by simp [execOp, hr.eval hx, hrun, mentry], .inr ⟨(a1, a2, a3), hm, by simpa [mentry] using hns, rfl, rfl⟩, s2⟩
theorem Val.entry {r b since c : Nat} {q : IntKind} {x : Operand} {es : List ME} {seen : List Nat} {y : ME} (hx : ev e x = some (.pointer (some ⟨r, 0, none⟩))) [hr_ : Mem r (iter_ b since (seen ++ [y.born]) c) hs] [hb : Mem b (.obj (mapOf q es c)) hs]
    (hy : y ∈ es) (hn : (es.map ME.born).Nodup) : Val P n w0 own e hs (.entry x) (.tuple ⟨[.int q y.1, y.2.1]⟩) := fun a w ty pos aft g d hr s => by
  have h1 := s.mrow hb.out
  have h1' : w.heap[b]? = some (.map ⟨es.map (mentry q)⟩ c) := h1
  have hrr : w.heap[r]? = some (.mapIter (some b) since ⟨seen ++ [y.born]⟩ c) := s.has r _ hr_.out
  have hpu : (⟨seen ++ [y.born]⟩ : Array Nat) = (⟨seen⟩ : Array Nat).push (mentry q y).born := by apply Array.ext'; simp [mentry]
  rw [hpu] at hrr
  have := run_entry_at (P := P) w r b since ⟨seen⟩ ⟨es.map (mentry q)⟩ c (mentry q y) hrr h1' (by simp; exact ⟨_, _, _, hy, rfl⟩) (by
    simpa [List.map_map, Function.comp_def, mentry] using hn)
  simp [execOp, hr.eval hx, this, mentry]
end
section
variable {P : Program} {n : Nat} {w0 : World} {own : List Nat} {e : Env} {hs F : Hp} {ops : Array Oper} {rest : List Oper} {K : Env → Hp → Prop}
variable {d : Nat} {ty : TypeId} {pos : String} {aft : Array Edge} {g : Option (Nat × Bool)}
/-- what works on memory and leaves nothing, when it is alone -/
theorem JK.ef0 {op : Op} {R : Value → Hp → Prop} (h : Eff P n w0 own e hs op R) (hF : ∀ v hs', R v hs' → F ⊆ hs → F ⊆ hs') (kk : ∀ v hs', R v hs' → JK P n w0 own ops F rest e hs' K)
    (hE : isEff ⟨none, op, ty, pos, aft, g⟩ = true := by rfl) (hg : wantB ops e g = some true := by rfl) : JK P n w0 own ops F (⟨none, op, ty, pos, aft, g⟩ :: rest) e hs K := by
  intro m is listed Z h1 h2 h3 hz
  cases is with
  | nil => exact h1.elim
  | cons k is =>
  obtain ⟨h0, h1⟩ := h1
  unfold ordB at h2
  rw [Bool.and_eq_true, Bool.or_eq_true, Bool.and_eq_true] at h2
  rw [show (⟨none, op, ty, pos, aft, g⟩ :: rest : List Oper).length + m = (rest.length + m) + 1 from by simp; omega]
  rcases h2.1 with ho | ⟨hn, _⟩
  · exact JD.ef0 k h0 ho h (fun v hs' r => kk v hs' r m is _ Z h1 h2.2 (hF v hs' r h3) hz) hF hg
  · rw [hE] at hn; cases hn
theorem JY.nw {z : Nat} {late : Bool} {K' : Bool → Env → Hp → Prop} {op : Op} {c : Ch} (h : Eff P n w0 own e hs op (NewP hs c)) (kk : ∀ b, JY P n w0 own ops F z late rest ((d, .pointer (some ⟨b, 0, none⟩)) :: e) ((b, c) :: hs) K')
    (hE : isEff ⟨some d, op, ty, pos, aft, g⟩ = true := by rfl) (hdn : Nat.blt d n = true := by rfl) (hg : wantB ops e g = some true := by rfl) (hzo : ((ops[z]?).map (·.dst.isNone)) = some true := by rfl) : JY P n w0 own ops F z late (⟨some d, op, ty, pos, aft, g⟩ :: rest) e hs K' :=
  .ef h (fun v h' ⟨b, _, e2⟩ f => by subst e2; exact fun p hp => List.mem_cons_of_mem _ (f hp)) (fun v h' ⟨b, e1, e2⟩ => by subst e1; subst e2; exact kk b) hE hdn hg hzo
/-- a record stored into a record -/
theorem Eff.storeR {T m b o U : Nat} {x y : Operand} {vs l : List Value} {hs' : Hp} (l' : List Value) (hx : ev e x = some (.pointer (some ⟨b, o, none⟩))) (hy : ev e y = some (.agg ⟨vs⟩)) [hT : Sz P T m] [hb : Mem b (.cells l U) hs]
    [u : UpdI b (.cells l' U) hs hs'] (hm : vs.length = m := by rfl) (h1 : ones vs = true := by rfl) (ho : Nat.ble (o + vs.length) l.length = true := by rfl) (hl : splice l o vs = l' := by rfl) : Eff P n w0 own e hs (.store T x y) (fun v h => v = undef ∧ h = hs') := by
  subst hl
  exact Eff.storeA hx hy hm h1 (Nat.le_of_ble_eq_true ho)
end
end V
end Go

/- VMA: maps whose keys are numbers, told as functions. -/
namespace Go
namespace V
open Go.RowKit
set_option linter.unusedVariables false
set_option linter.unusedSimpArgs false

theorem mfind_none (k : Int) : ∀ (es : List ME) (i : Nat), mfind k es i = none ↔ ∀ y ∈ es, y.1 ≠ k
  | [], i => by simp [mfind]
  | x :: es, i => by
    unfold mfind
    cases hk : k == x.1 with
    | true =>
      have := beq_iff_eq.1 hk
      simp only [if_true, reduceCtorEq, List.mem_cons, false_iff]
      exact fun h => h x (.inl rfl) this.symm
    | false =>
      have hne : x.1 ≠ k := fun e => by rw [e] at hk; simp at hk
      simp only [Bool.false_eq_true, if_false, List.mem_cons]
      rw [mfind_none k es (i + 1)]
      exact ⟨fun h y hy => by rcases hy with rfl | hy; exact hne; exact h y hy, fun h y hy => h y (.inr hy)⟩
theorem mfind_app (k : Int) : ∀ (a b : List ME) (i : Nat), mfind k (a ++ b) i = match mfind k a i with | some x => some x | none => mfind k b (i + a.length)
  | [], b, i => by simp [mfind]
  | x :: a, b, i => by
    simp only [List.cons_append, mfind]
    cases hk : k == x.1 with
    | true => simp
    | false => simp only [Bool.false_eq_true, if_false]; rw [mfind_app k a b (i + 1), List.length_cons, show i + 1 + a.length = i + (a.length + 1) from by omega]
/-- each key once, each birth once, all of them past -/
structure MOk (es : List ME) (c : Nat) : Prop where
  k : (es.map (·.1)).Nodup
  b : (es.map (·.2.2)).Nodup
  c : ∀ y ∈ es, y.2.2 < c
theorem MOk.nil : MOk [] 0 := ⟨by simp, by simp, by simp⟩
theorem mget_eq (k : Int) : ∀ (es : List ME), mget k es = (es.find? fun y => k == y.1).map (·.2.1) := by
  intro es
  unfold mget
  suffices h : ∀ (es : List ME) (i : Nat), (mfind k es i).map (·.2) = (es.find? fun y => k == y.1).map (·.2.1) from h es 0
  intro es
  induction es with
  | nil => intro i; simp [mfind]
  | cons x es ih =>
    intro i
    unfold mfind
    rw [List.find?_cons]
    cases hk : k == x.1 with
    | true => simp
    | false => simpa using ih (i + 1)
theorem mget_none {k : Int} {es : List ME} : mget k es = none ↔ ∀ y ∈ es, y.1 ≠ k := by
  unfold mget
  rw [Option.map_eq_none_iff]
  exact mfind_none k es 0
theorem mget_some {k : Int} {es : List ME} {v : Value} (h : mget k es = some v) : ∃ y ∈ es, y.1 = k ∧ y.2.1 = v := by
  rw [mget_eq] at h
  cases hf : es.find? (fun y => k == y.1) with
  | none => rw [hf] at h; cases h
  | some y =>
    rw [hf] at h
    have h1 := List.find?_some hf
    exact ⟨y, List.mem_of_find?_eq_some hf, (beq_iff_eq.1 h1).symm, by simpa using h⟩
theorem nodup_inj {α β : Type} {f : α → β} : ∀ {l : List α}, (l.map f).Nodup → ∀ {x y : α}, x ∈ l → y ∈ l → f x = f y → x = y
  | [], _, x, y, hx, _, _ => by cases hx
  | a :: l, h, x, y, hx, hy, e => by
    simp only [List.map_cons, List.nodup_cons] at h
    rcases List.mem_cons.1 hx with hx1 | hx1 <;> rcases List.mem_cons.1 hy with hy1 | hy1
    · rw [hx1, hy1]
    · exact absurd (List.mem_map.2 ⟨y, hy1, by rw [← e, hx1]⟩) h.1
    · exact absurd (List.mem_map.2 ⟨x, hx1, by rw [e, hy1]⟩) h.1
    · exact nodup_inj h.2 hx1 hy1 e
theorem MOk.get {es : List ME} {c : Nat} (h : MOk es c) {y : ME} (hy : y ∈ es) : mget y.1 es = some y.2.1 := by
  cases hg : mget y.1 es with
  | none => exact absurd rfl (mget_none.1 hg y hy)
  | some v =>
    obtain ⟨z, hz, e1, e2⟩ := mget_some hg
    have := nodup_inj h.k hz hy e1
    subst this
    rw [← e2]
theorem mset_old {k : Int} {v u : Value} {es : List ME} {c i : Nat} (h : mfind k es 0 = some (i, u)) : mset k v es c = (es.modify i fun x => (k, v, x.2.2), c) := by
  unfold mset; rw [h]
theorem mset_new {k : Int} {v : Value} {es : List ME} {c : Nat} (h : mfind k es 0 = none) : mset k v es c = (es ++ [(k, v, c)], c + 1) := by
  unfold mset; rw [h]
theorem mfind_split {k : Int} {es : List ME} {i : Nat} {u : Value} (h : mfind k es 0 = some (i, u)) : ∃ x, es = es.take i ++ x :: es.drop (i + 1) ∧ x.1 = k ∧ i < es.length ∧ ∀ f : ME → ME, es.modify i f = es.take i ++ f x :: es.drop (i + 1) := by
  obtain ⟨_, x, h1, h2, h3⟩ := mfind_key k es 0 i u h
  rw [Nat.sub_zero] at h1
  obtain ⟨hi, rfl⟩ := List.getElem?_eq_some_iff.1 h1
  exact ⟨es[i], by rw [← List.drop_eq_getElem_cons hi, List.take_append_drop], h2, hi, fun f => List.modify_eq_take_cons_drop hi⟩
theorem MOk.set {es : List ME} {c : Nat} (h : MOk es c) (k : Int) (v : Value) : MOk (mset k v es c).1 (mset k v es c).2 := by
  cases hf : mfind k es 0 with
  | none =>
    rw [mset_new hf]
    have hn := (mfind_none k es 0).1 hf
    refine ⟨?_, ?_, ?_⟩
    · simp only [List.map_append, List.map_cons, List.map_nil]
      rw [List.nodup_append]
      refine ⟨h.k, by simp, fun a ha b hb => ?_⟩
      simp at hb; subst hb
      obtain ⟨y, hy, rfl⟩ := List.mem_map.1 ha
      exact hn y hy
    · simp only [List.map_append, List.map_cons, List.map_nil]
      rw [List.nodup_append]
      refine ⟨h.b, by simp, fun a ha b hb => ?_⟩
      simp at hb; subst hb
      obtain ⟨y, hy, rfl⟩ := List.mem_map.1 ha
      have := h.c y hy; omega
    · intro y hy
      rcases List.mem_append.1 hy with hy | hy
      · exact Nat.lt_succ_of_lt (h.c y hy)
      · simp at hy; subst hy; exact Nat.lt_succ_self _
  | some x =>
    obtain ⟨i, u⟩ := x
    rw [mset_old hf]
    obtain ⟨x, e1, e2, _, e3⟩ := mfind_split hf
    dsimp only
    rw [e3]
    have hk := h.k
    have hb := h.b
    rw [e1] at hk hb
    refine ⟨?_, ?_, fun y hy => ?_⟩
    · simp only [List.map_append, List.map_cons] at hk ⊢
      rw [← e2]; exact hk
    · simp only [List.map_append, List.map_cons] at hb ⊢
      exact hb
    · rcases List.mem_append.1 hy with hy | hy
      · exact h.c y (List.mem_of_mem_take hy)
      · rcases List.mem_cons.1 hy with rfl | hy
        · exact h.c x (by rw [e1]; simp)
        · exact h.c y (List.mem_of_mem_drop hy)
theorem mget_set (j k : Int) (v : Value) (es : List ME) (c : Nat) : mget j (mset k v es c).1 = if j = k then some v else mget j es := by
  cases hf : mfind k es 0 with
  | none =>
    rw [mset_new hf]
    have hn := (mfind_none k es 0).1 hf
    rw [mget_eq, mget_eq, List.find?_append]
    by_cases e : j = k
    · subst e
      rw [if_pos rfl, List.find?_eq_none.2 (fun y hy => by have := hn y hy; simp [Ne.symm this])]
      simp
    · rw [if_neg e]
      have : (j == k) = false := by simpa using e
      simp [List.find?_cons, this]
  | some x =>
    obtain ⟨i, u⟩ := x
    rw [mset_old hf]
    obtain ⟨x, e1, e2, _, e3⟩ := mfind_split hf
    dsimp only
    rw [e3, mget_eq, mget_eq]
    have hnb : ∀ y ∈ es.take i, y.1 ≠ k := by
      intro y hy e
      have hfirst : mfind k (es.take i ++ x :: es.drop (i + 1)) 0 = some (i, u) := by rw [← e1]; exact hf
      rw [mfind_app] at hfirst
      cases h0 : mfind k (es.take i) 0 with
      | none => exact (mfind_none k _ 0).1 h0 y hy e
      | some z =>
        rw [h0] at hfirst
        have hz : z = (i, u) := Option.some.inj hfirst
        subst hz
        obtain ⟨_, y', h1, _⟩ := mfind_key k _ 0 i u h0
        have := (List.getElem?_eq_some_iff.1 h1).1
        simp at this
        omega
    by_cases e : j = k
    · subst e
      rw [if_pos rfl, List.find?_append, List.find?_eq_none.2 (fun y hy => by have := hnb y hy; simp [Ne.symm this])]
      simp
    · rw [if_neg e]
      have h1 : (j == k) = false := by simpa using e
      have h2 : (j == x.1) = false := by rw [e2]; exact h1
      conv => rhs; rw [e1]
      rw [List.find?_append, List.find?_append, List.find?_cons, List.find?_cons, h1, h2]
theorem mset_len (k : Int) (v : Value) (es : List ME) (c : Nat) : (mset k v es c).1.length = es.length + if (mget k es).isSome then 0 else 1 := by
  unfold mget
  cases hf : mfind k es 0 with
  | none => rw [mset_new hf]; simp
  | some x => obtain ⟨i, u⟩ := x; rw [mset_old hf]; simp
theorem MOk.del {es : List ME} {c : Nat} (h : MOk es c) (k : Int) : MOk (mdel k es) c := by
  unfold mdel
  cases mfind k es 0 with
  | none => exact h
  | some x => exact ⟨h.k.sublist ((List.eraseIdx_sublist _ _).map _), h.b.sublist ((List.eraseIdx_sublist _ _).map _), fun y hy => h.c y ((List.eraseIdx_sublist _ _).subset hy)⟩
theorem mget_del {es : List ME} {c : Nat} (h : MOk es c) (j k : Int) : mget j (mdel k es) = if j = k then none else mget j es := by
  unfold mdel
  cases hf : mfind k es 0 with
  | none =>
    by_cases e : j = k
    · subst e; rw [if_pos rfl, mget_none]; exact (mfind_none j es 0).1 hf
    · rw [if_neg e]
  | some x =>
    obtain ⟨i, u⟩ := x
    obtain ⟨x, e1, e2, hi, _⟩ := mfind_split hf
    dsimp only
    rw [List.eraseIdx_eq_take_drop_succ]
    by_cases e : j = k
    · subst e
      rw [if_pos rfl, mget_none]
      intro y hy hy'
      have hyes : y ∈ es := by
        rcases List.mem_append.1 hy with hy | hy
        · exact List.mem_of_mem_take hy
        · exact List.mem_of_mem_drop hy
      have hk := h.k
      rw [e1, List.map_append, List.map_cons, List.nodup_append] at hk
      obtain ⟨_, k2, k3⟩ := hk
      rcases List.mem_append.1 hy with hy | hy
      · exact k3 y.1 (List.mem_map.2 ⟨y, hy, rfl⟩) x.1 (by simp) (by rw [hy', e2])
      · have := (List.nodup_cons.1 k2).1
        exact this (List.mem_map.2 ⟨y, hy, by rw [hy', e2]⟩)
    · rw [if_neg e, mget_eq, mget_eq]
      have h2 : (j == x.1) = false := by rw [e2]; simpa using e
      conv => rhs; rw [e1]
      rw [List.find?_append, List.find?_append, List.find?_cons, h2]
theorem mdel_len {es : List ME} (k : Int) : (mdel k es).length = es.length - if (mget k es).isSome then 1 else 0 := by
  unfold mdel mget
  cases hf : mfind k es 0 with
  | none => simp
  | some x =>
    obtain ⟨i, u⟩ := x
    obtain ⟨x, e1, e2, hi, _⟩ := mfind_split hf
    simp [List.length_eraseIdx, hi]
end V
end Go

/- Surveil: the plain words: what a watch keeps, what it does at an event. -/
namespace Go.Proofs.Ytcbppikkoelimaa
open Go.V
set_option linter.unusedVariables false
set_option linter.unusedSimpArgs false

structure Wn where
  span : Int
  lay : Int
  rat : Int
  lst : Int
  mov : Int
abbrev Wn.cells (w : Wn) : List Value := [.int .i64 w.span, .int .i64 w.lay, .int .i64 w.rat, .int .i64 w.lst, .int .i64 w.mov]
abbrev Wn.Can (w : Wn) : Prop := (1 ≤ w.span ∧ w.span ≤ 1000) ∧ (1 ≤ w.lay ∧ w.lay ≤ w.span) ∧ (1 ≤ w.rat ∧ w.rat ≤ 1000) ∧ (1 ≤ w.lst ∧ w.lst ≤ 1000) ∧ (1 ≤ w.mov ∧ w.mov ≤ 262144)
structure Kn where
  m : Int
  s : Int
  t : Bool
abbrev Kn.cells (k : Kn) : List Value := [.int .u32 k.m, .int .i64 k.s, .bool k.t]
structure Pf where
  o : Int
  c : Int
  t : Int
  b : Int
  s : Int
  a : Int
abbrev Pf.cells (p : Pf) : List Value := [.int .i64 p.o, .int .i64 p.c, .int .i64 p.t, .int .u64 p.b, .int .u64 p.s, .int .i64 p.a]
abbrev pf0 : Pf := ⟨0, 0, 0, 0, 0, 0⟩
structure Sn where
  at_ : Int
  tr : Bool
  pr : Int
  by_ : Int
  se : Int
  cm : Int
  cs : Int
  fr : Bool
def Sn.cells (x : Sn) : List Value := [.int .u64 x.at_, .bool x.tr, .int .i64 x.pr, .int .u32 x.by_, .int .u32 x.se, .int .u32 x.cm, .int .i64 x.cs, .bool x.fr]
structure Al where
  r : Int
  m : Int
  at_ : Int
  o : Int
  n : Int
  deriving DecidableEq
def Al.cells (a : Al) : List Value := [.int .i64 a.r, .int .u32 a.m, .int .u64 a.at_, .int .u64 a.o, .int .i64 a.n]
structure Cs where
  r : Int
  m : Int
  f : Int
  l : Int
  n : Int
  op : Bool
  deriving DecidableEq
def Cs.cells (c : Cs) : List Value := [.int .i64 c.r, .int .u32 c.m, .int .u64 c.f, .int .u64 c.l, .int .i64 c.n, .bool c.op]
/-- a watch -/
structure Wt where
  n : Int
  K : Int → Option Kn
  P : Int → Pf
  A : Int → Bool
  last : List Sn
  cs : List Cs
def Wt.new : Wt := ⟨0, fun _ => none, fun _ => pf0, fun _ => false, [], []⟩
/-- a member's profile is changed, if it is somebody -/
def Wt.chg (W : Wt) (m : Int) (f : Pf → Pf) : Wt := if m = 0 then W else { W with P := fun x => if x = m then f (W.P m) else W.P x }
/-- the place of the last case of a rule and a member -/
def clast (r m : Int) (l : List Cs) : Int := l.zipIdx.foldl (fun a p => if p.1.r = r ∧ p.1.m = m then (p.2 : Int) else a) (-1)
theorem clast_snoc (r m : Int) (l : List Cs) (c : Cs) : clast r m (l ++ [c]) = if c.r = r ∧ c.m = m then (l.length : Int) else clast r m l := by
  unfold clast
  rw [List.zipIdx_append, List.foldl_append]
  simp
abbrev ClS (r m : Int) (l : List Cs) : Prop := (clast r m l = -1 ∧ ∀ c ∈ l, ¬ (c.r = r ∧ c.m = m)) ∨ ∃ i : Nat, clast r m l = i ∧ ∃ h : i < l.length, (l[i].r = r ∧ l[i].m = m) ∧ ∀ j, (hj : j < l.length) → i < j → ¬ (l[j].r = r ∧ l[j].m = m)
theorem clast_all (r m : Int) : ∀ (n : Nat) (l : List Cs), l.length = n → ClS r m l := by
  intro n
  induction n with
  | zero =>
    intro l hn
    have : l = [] := List.eq_nil_of_length_eq_zero hn
    subst this
    exact .inl ⟨rfl, by simp⟩
  | succ n ih =>
    intro l hn
    obtain ⟨l', c, rfl⟩ : ∃ l' c, l = l' ++ [c] := by
      refine ⟨l.dropLast, l.getLast (by intro h; rw [h] at hn; simp at hn), ?_⟩
      rw [List.dropLast_concat_getLast]
    rw [List.length_append, List.length_singleton] at hn
    unfold ClS
    rw [clast_snoc]
    by_cases h : c.r = r ∧ c.m = m
    · rw [if_pos h]
      refine .inr ⟨l'.length, rfl, by rw [List.length_append]; simp, by simpa using h, fun j hj hij => ?_⟩
      rw [List.length_append, List.length_singleton] at hj
      omega
    · rw [if_neg h]
      rcases ih l' (by omega) with ⟨h1, h2⟩ | ⟨i, h1, hi, h2, h3⟩
      · refine .inl ⟨h1, fun x hx => ?_⟩
        rcases List.mem_append.1 hx with hx | hx
        · exact h2 x hx
        · have : x = c := by simpa using hx
          subst this; exact h
      · refine .inr ⟨i, h1, by rw [List.length_append]; omega, by rw [List.getElem_append_left hi]; exact h2, fun j hj hij => ?_⟩
        rw [List.length_append, List.length_singleton] at hj
        by_cases hjl : j < l'.length
        · rw [List.getElem_append_left hjl]; exact h3 j hjl hij
        · have : j = l'.length := by omega
          subst this
          simpa using h
theorem clast_spec (r m : Int) (l : List Cs) : ClS r m l := clast_all r m _ l rfl
/-- an alert is put to a case -/
def cput (span at_ r m : Int) (l : List Cs) : List Cs :=
  match l[(clast r m l).toNat]? with
  | some c => if (0 ≤ clast r m l ∧ c.op = true) ∧ at_ - c.l ≤ span then l.set (clast r m l).toNat { c with l := at_, n := c.n + 1 } else l ++ [⟨r, m, at_, at_, 1, true⟩]
  | none => l ++ [⟨r, m, at_, at_, 1, true⟩]
def Wt.al (w : Wn) (z : Wt × List Al) (r m o n : Int) : Wt × List Al :=
  if m = 0 then z else ({ z.1.chg m (fun p => { p with a := p.a + 1 }) with cs := cput w.span z.1.n r m z.1.cs }, z.2 ++ [⟨r, m, z.1.n, o, n⟩])
def Wt.ack0 (W : Wt) (e : Ev) : Wt := ({ W with K := fun x => if x = e.id then some ⟨e.mb, e.sd, false⟩ else W.K x, A := fun x => if x = e.mb then true else W.A x } : Wt).chg e.mb (fun p => { p with o := p.o + 1 })
def Wt.acks (w : Wn) (z : Wt × List Al) (e : Ev) : Wt × List Al :=
  if w.lst ≤ ((z.1.ack0 e).P e.mb).o ∧ w.rat * ((z.1.ack0 e).P e.mb).t < ((z.1.ack0 e).P e.mb).o then Wt.al w (z.1.ack0 e, z.2) 3 e.mb e.id ((z.1.ack0 e).P e.mb).o else (z.1.ack0 e, z.2)
/-- whose an order is -/
def Wt.who (W : Wt) (id : Int) : Int := match W.K id with | some k => k.m | none => 0
def Wt.side (W : Wt) (id : Int) : Int := match W.K id with | some k => k.s | none => 0
/-- an order traded -/
def Wt.part (W : Wt) (id : Int) : Wt := { W with K := fun x => if x = id then (W.K id).map (fun k => { k with t := true }) else W.K x }
def tickOf (p : Int) : Int := if p < 0 ∨ 262144 ≤ p then 0 else p
def Wt.buyer (W : Wt) (e : Ev) : Int := if e.sd = 1 then W.who e.id else W.who e.other
def Wt.seller (W : Wt) (e : Ev) : Int := if e.sd = 1 then W.who e.other else W.who e.id
def Wt.trade0 (W : Wt) (e : Ev) : Wt :=
  ((((((W.part e.id).part e.other).chg (W.who e.id) fun p => { p with t := p.t + 1 }).chg (W.who e.other) fun p => { p with t := p.t + 1 }).chg (W.buyer e) fun p => { p with b := (p.b + e.q) % 18446744073709551616 }).chg (W.seller e) fun p => { p with s := (p.s + e.q) % 18446744073709551616 })
def Wt.trade1 (W : Wt) (e : Ev) : Wt := { W.trade0 e with last := W.last ++ [⟨W.n, true, tickOf e.pr, W.buyer e, W.seller e, 0, 0, false⟩] }
def Wt.wash (w : Wn) (W : Wt) (out : List Al) (e : Ev) : Wt × List Al := if W.who e.id = W.who e.other then Wt.al w (W.trade1 e, out) 1 (W.who e.id) e.id 0 else (W.trade1 e, out)
def farOf (p q : Int) : Int := max (p - q) (q - p)
def jump (w : Wn) (z : Wt × List Al) (price m id : Int) : Wt × List Al := match z.1.last.find? (·.tr) with
  | none => z
  | some x => if w.mov < farOf price x.pr then Wt.al w z 4 m id (farOf price x.pr) else z
def Wt.trades (w : Wn) (z : Wt × List Al) (e : Ev) : Wt × List Al := jump w (z.1.wash w z.2 e) (tickOf e.pr) (z.1.who e.id) e.id
def layN (m s : Int) (l : List Sn) : Nat := (l.filter fun x => x.fr && (decide (x.cm = m) && decide (x.cs = s))).length
def metB (m s : Int) (l : List Sn) : Bool := l.any fun x => x.tr && decide ((if s = 1 then x.se else x.by_) = m)
def Wt.fresh (W : Wt) (k : Kn) : Wt := { W with last := W.last ++ [⟨W.n, false, 0, 0, 0, k.m, k.s, true⟩] }
def Wt.cancels (w : Wn) (z : Wt × List Al) (e : Ev) : Wt × List Al := match z.1.K e.id with
  | none => z
  | some k =>
    if k.t then (z.1.chg k.m (fun p => { p with c := p.c + 1 }), z.2)
    else if w.lay ≤ (layN k.m k.s ((z.1.chg k.m (fun p => { p with c := p.c + 1 })).fresh k).last : Int) ∧ metB k.m k.s ((z.1.chg k.m (fun p => { p with c := p.c + 1 })).fresh k).last = true then
      Wt.al w ((z.1.chg k.m (fun p => { p with c := p.c + 1 })).fresh k, z.2) 2 k.m e.id (layN k.m k.s ((z.1.chg k.m (fun p => { p with c := p.c + 1 })).fresh k).last)
    else ((z.1.chg k.m (fun p => { p with c := p.c + 1 })).fresh k, z.2)
/-- an event is counted; who is too old goes -/
def Wt.tick (w : Wn) (W : Wt) : Wt := { W with n := W.n + 1, last := W.last.dropWhile fun x => decide (w.span ≤ W.n + 1 - x.at_) }
def Wt.ev (w : Wn) (z : Wt × List Al) (e : Ev) : Wt × List Al :=
  if e.kind = 1 then Wt.acks w (z.1.tick w, z.2) e
  else if e.kind = 3 then Wt.trades w (z.1.tick w, z.2) e
  else if e.kind = 4 ∧ e.reason = 1 then Wt.cancels w (z.1.tick w, z.2) e
  else (z.1.tick w, z.2)
def Wt.add (w : Wn) (z : Wt × List Al) (l : List Ev) : Wt × List Al := l.foldl (Wt.ev w) z
theorem Wt.add_app (w : Wn) (z : Wt × List Al) (a b : List Ev) : Wt.add w z (a ++ b) = Wt.add w (Wt.add w z a) b := List.foldl_append

/-! ### what stays as it was -/
theorem Wt.chg_eq (W : Wt) (m : Int) (f : Pf → Pf) : (W.chg m f).n = W.n ∧ (W.chg m f).K = W.K ∧ (W.chg m f).A = W.A ∧ (W.chg m f).last = W.last ∧ (W.chg m f).cs = W.cs := by
  unfold Wt.chg; split <;> exact ⟨rfl, rfl, rfl, rfl, rfl⟩
theorem Wt.chg_P (W : Wt) (m : Int) (f : Pf → Pf) (x : Int) : (W.chg m f).P x = if x = m ∧ m ≠ 0 then f (W.P m) else W.P x := by
  unfold Wt.chg
  by_cases h : m = 0
  · rw [if_pos h, if_neg (by intro hh; exact hh.2 h)]
  · rw [if_neg h]
    by_cases e : x = m
    · rw [if_pos ⟨e, h⟩]; simp [e]
    · rw [if_neg (fun hh => e hh.1)]; simp [e]
theorem Wt.al_eq (w : Wn) (z : Wt × List Al) (r m o n : Int) : (Wt.al w z r m o n).1.n = z.1.n ∧ (Wt.al w z r m o n).1.K = z.1.K ∧ (Wt.al w z r m o n).1.A = z.1.A ∧ (Wt.al w z r m o n).1.last = z.1.last := by
  unfold Wt.al
  split
  · exact ⟨rfl, rfl, rfl, rfl⟩
  · have := z.1.chg_eq m (fun p => { p with a := p.a + 1 })
    exact ⟨this.1, this.2.1, this.2.2.1, this.2.2.2.1⟩
theorem Wt.al_P (w : Wn) (z : Wt × List Al) (r m o n : Int) (x : Int) : ((Wt.al w z r m o n).1.P x).o = (z.1.P x).o ∧ ((Wt.al w z r m o n).1.P x).t = (z.1.P x).t := by
  unfold Wt.al
  split
  · exact ⟨rfl, rfl⟩
  · dsimp only
    rw [Wt.chg_P]
    split
    · rename_i h; rw [h.1]; exact ⟨rfl, rfl⟩
    · exact ⟨rfl, rfl⟩
end Go.Proofs.Ytcbppikkoelimaa

/- Surveil: the document's watch, plain: all that came, looked at anew; it says what the watch says. -/
namespace Go.Proofs.Ytcbppikkoelimaa
open Go.V
set_option linter.unusedVariables false
set_option linter.unusedSimpArgs false

structure DO where
  id : Int
  m : Int
  s : Int
  t : Bool
abbrev DO.cells (o : DO) : List Value := [.int .u64 o.id, .int .u32 o.m, .int .i64 o.s, .bool o.t]
abbrev do0 : DO := ⟨0, 0, 0, false⟩
structure DSn where
  e : Ev
  by_ : Int
  ow : Int
  se : Int
  cm : Int
  kn : Bool
  od : DO
def DSn.cells (x : DSn) : List Value := x.e.cells ++ [.int .u32 x.by_, .int .u32 x.ow, .int .u32 x.se, .int .u32 x.cm, .bool x.kn] ++ x.od.cells
structure DW where
  L : List DSn
  O : List DO
  al : List Al
  cs : List Cs
def DW.new : DW := ⟨[], [], [], []⟩

/-! ### orders -/
def dfind (id : Int) (O : List DO) : Option DO := O.find? (fun o => decide (o.id = id))
def dix (id : Int) (O : List DO) : Option Nat := O.findIdx? (fun o => decide (o.id = id))
def dset (O : List DO) (o : DO) : List DO := match dix o.id O with | some i => O.set i o | none => O ++ [o]
def dtr (O : List DO) (id : Int) : List DO := match dix id O with | some i => (match O[i]? with | some o => O.set i { o with t := true } | none => O) | none => O
theorem dix_some {id : Int} : ∀ {O : List DO} {i : Nat}, dix id O = some i → ∃ h : i < O.length, O[i].id = id ∧ dfind id O = some O[i]
  | [], i, h => by simp [dix] at h
  | o :: O, i, h => by
    unfold dix at h
    rw [List.findIdx?_cons] at h
    by_cases ho : o.id = id
    · simp only [ho, decide_true, if_true, Option.some.injEq] at h
      subst h
      exact ⟨by simp, ho, by simp [dfind, ho]⟩
    · simp only [ho, decide_false, Bool.false_eq_true, if_false, Option.map_eq_some_iff] at h
      obtain ⟨j, hj, rfl⟩ := h
      obtain ⟨h1, h2, h3⟩ := dix_some (O := O) hj
      exact ⟨by simp; omega, by simpa using h2, by unfold dfind at *; rw [List.find?_cons]; simp [ho, h3]⟩
theorem dix_none {id : Int} {O : List DO} (h : dix id O = none) : dfind id O = none := by
  unfold dix at h
  rw [List.findIdx?_eq_none_iff] at h
  unfold dfind
  rw [List.find?_eq_none]
  intro x hx
  simpa using h x hx
theorem dfind_set {id : Int} (o : DO) (ho : o.id = id) (x : Int) : ∀ {O : List DO} {i : Nat}, dix id O = some i → dfind x (O.set i o) = if x = id then some o else dfind x O
  | [], i, h => by simp [dix] at h
  | p :: O, i, h => by
    unfold dix at h
    rw [List.findIdx?_cons] at h
    by_cases hp : p.id = id
    · simp only [hp, decide_true, if_true, Option.some.injEq] at h
      subst h
      unfold dfind
      rw [List.set_cons_zero, List.find?_cons, List.find?_cons]
      by_cases hx : x = id
      · simp [hx, ho]
      · have h1 : ¬ id = x := fun e => hx e.symm
        simp [hx, ho, hp, h1]
    · simp only [hp, decide_false, Bool.false_eq_true, if_false, Option.map_eq_some_iff] at h
      obtain ⟨j, hj, rfl⟩ := h
      have := dfind_set o ho x (O := O) hj
      unfold dfind at *
      rw [List.set_cons_succ, List.find?_cons, List.find?_cons, this]
      by_cases hx : x = id
      · subst hx; simp [hp]
      · by_cases hpx : p.id = x <;> simp [hpx, hx]
theorem dfind_dset (O : List DO) (o : DO) (x : Int) : dfind x (dset O o) = if x = o.id then some o else dfind x O := by
  unfold dset
  cases h : dix o.id O with
  | some i => exact dfind_set o rfl x h
  | none =>
    have h2 := dix_none h
    dsimp only
    unfold dfind at *
    rw [List.find?_append]
    by_cases hx : x = o.id
    · subst hx; rw [h2]; simp
    · have h1 : ¬ o.id = x := fun e => hx e.symm
      simp [hx, h1]
theorem dfind_dtr (O : List DO) (id x : Int) : dfind x (dtr O id) = if x = id then (dfind id O).map (fun o => { o with t := true }) else dfind x O := by
  unfold dtr
  cases h : dix id O with
  | some i =>
    obtain ⟨h1, h2, h3⟩ := dix_some h
    dsimp only
    rw [List.getElem?_eq_getElem h1]
    dsimp only
    rw [dfind_set { O[i] with t := true } h2 x h, h3]; rfl
  | none =>
    have h2 := dix_none h
    dsimp only
    by_cases hx : x = id
    · subst hx; rw [if_pos rfl, h2]; rfl
    · rw [if_neg hx]

/-! ### what a member did -/
def pstep (m : Int) (p : Pf) (x : DSn) : Pf :=
  if x.e.kind = 1 then (if x.e.mb = m then { p with o := p.o + 1 } else p)
  else if x.e.kind = 3 then
    let p1 := if x.by_ = m then { p with t := p.t + 1, b := (p.b + x.e.q) % 18446744073709551616 } else p
    if x.se = m then { p1 with t := p1.t + 1, s := (p1.s + x.e.q) % 18446744073709551616 } else p1
  else if x.e.kind = 4 then (if (x.kn = true ∧ x.od.m = m) ∧ x.e.reason = 1 then { p with c := p.c + 1 } else p)
  else p
def lprof (L : List DSn) (m : Int) : Pf := L.foldl (pstep m) pf0
def acnt (m : Int) (l : List Al) : Nat := l.countP fun a => decide (a.m = m)
def DW.prof (D : DW) (m : Int) : Pf := if m = 0 then pf0 else { lprof D.L m with a := acnt m D.al }
theorem lprof_snoc (L : List DSn) (x : DSn) (m : Int) : lprof (L ++ [x]) m = pstep m (lprof L m) x := by simp [lprof]
theorem pstep_a (m : Int) (p : Pf) (x : DSn) (a : Int) : pstep m { p with a := a } x = { pstep m p x with a := a } := by
  unfold pstep
  split
  · split <;> rfl
  · split
    · dsimp only; split <;> split <;> rfl
    · split
      · split <;> rfl
      · rfl

/-! ### the last events -/
def lay (x : DSn) : Bool := ((decide (x.e.kind = 4) && decide (x.e.reason = 1)) && x.kn) && !x.od.t
def snOf (p : DSn × Nat) : Option Sn :=
  if p.1.e.kind = 3 then some ⟨p.2 + 1, true, tickOf p.1.e.pr, p.1.by_, p.1.se, 0, 0, false⟩
  else if lay p.1 = true then some ⟨p.2 + 1, false, 0, 0, 0, p.1.od.m, p.1.od.s, true⟩ else none
def DW.last (w : Wn) (D : DW) : List DSn := D.L.drop (D.L.length - w.span.toNat)
def lastZ (w : Wn) (L : List DSn) : List (DSn × Nat) := L.zipIdx.drop (L.length - w.span.toNat)
def lastOf (w : Wn) (L : List DSn) : List Sn := (lastZ w L).filterMap snOf
theorem lastZ_fst (w : Wn) (D : DW) : (lastZ w D.L).map Prod.fst = D.last w := by
  unfold lastZ DW.last
  rw [List.map_drop]; simp
theorem snOf_at {p : DSn × Nat} {s : Sn} (h : snOf p = some s) : s.at_ = p.2 + 1 := by
  unfold snOf at h
  split at h
  · cases h; rfl
  · split at h
    · cases h; rfl
    · cases h
theorem tailZ_at (L : List DSn) (j : Nat) {s : Sn} (h : s ∈ (L.zipIdx.drop j).filterMap snOf) : (j : Int) + 1 ≤ s.at_ := by
  obtain ⟨p, hp, hs⟩ := List.mem_filterMap.1 h
  rw [snOf_at hs]
  obtain ⟨i, hi, rfl⟩ := List.getElem_of_mem hp
  rw [List.length_drop] at hi
  rw [List.getElem_drop, List.getElem_zipIdx]
  simp; omega
theorem dropWhile_all {α : Type} {p : α → Bool} : ∀ {l : List α}, (∀ x ∈ l, p x = false) → l.dropWhile p = l
  | [], _ => rfl
  | a :: l, h => by rw [List.dropWhile_cons, h a (by simp)]; simp
theorem lastOf_tick (w : Wn) (hw : w.Can) (L : List DSn) (x : DSn) : lastOf w (L ++ [x]) = ((lastOf w L).dropWhile fun s => decide (w.span ≤ (L.length : Int) + 1 - s.at_)) ++ (snOf (x, L.length)).toList := by
  obtain ⟨⟨h1, h2⟩, _⟩ := hw
  obtain ⟨sp, hsp⟩ : ∃ sp : Nat, w.span = sp := ⟨w.span.toNat, by omega⟩
  have h1' : 1 ≤ sp := by omega
  unfold lastOf lastZ
  rw [hsp, Int.toNat_natCast, List.zipIdx_append, List.length_append, List.length_singleton, Nat.zero_add, List.drop_append, List.filterMap_append]
  have hs : (List.zipIdx [x] L.length).drop (L.length + 1 - sp - L.zipIdx.length) = [(x, L.length)] := by
    rw [List.length_zipIdx, show L.length + 1 - sp - L.length = 0 from by omega]; rfl
  rw [hs]
  have he : List.filterMap snOf [(x, L.length)] = (snOf (x, L.length)).toList := by
    rw [List.filterMap_cons]; cases snOf (x, L.length) <;> rfl
  rw [he]
  congr 1
  by_cases hc : L.length < sp
  · rw [show L.length + 1 - sp = 0 from by omega, show L.length - sp = 0 from by omega]
    rw [dropWhile_all]
    intro s hs
    have := tailZ_at L 0 hs
    rw [decide_eq_false_iff_not]; omega
  · have hk : L.length - sp < L.zipIdx.length := by rw [List.length_zipIdx]; omega
    rw [List.drop_eq_getElem_cons hk, List.filterMap_cons]
    rw [show L.length + 1 - sp = L.length - sp + 1 from by omega]
    have hr : ((L.zipIdx.drop (L.length - sp + 1)).filterMap snOf).dropWhile (fun s => decide ((sp : Int) ≤ (L.length : Int) + 1 - s.at_)) = (L.zipIdx.drop (L.length - sp + 1)).filterMap snOf := dropWhile_all fun s hs => by
      have := tailZ_at L _ hs
      rw [decide_eq_false_iff_not]; omega
    cases hq : snOf L.zipIdx[L.length - sp] with
    | none => dsimp only; rw [hr]
    | some s =>
      dsimp only
      have ha := snOf_at hq
      rw [List.getElem_zipIdx] at ha
      dsimp only at ha
      rw [List.dropWhile_cons, if_pos (by rw [decide_eq_true_eq]; omega), hr]
theorem find_Z : ∀ (Z : List (DSn × Nat)), (Z.filterMap snOf).find? (·.tr) = ((Z.map Prod.fst).find? fun x => decide (x.e.kind = 3)).map fun x => ⟨(((Z.filterMap snOf).find? (·.tr)).map Sn.at_).getD 0, true, tickOf x.e.pr, x.by_, x.se, 0, 0, false⟩
  | [] => rfl
  | p :: Z => by
    rw [List.filterMap_cons, List.map_cons, List.find?_cons]
    by_cases hk : p.1.e.kind = 3
    · simp [snOf, hk]
    · simp only [snOf, hk, if_false, decide_false]
      by_cases hl : lay p.1 = true
      · simp only [hl, if_true]
        rw [List.find?_cons]
        exact find_Z Z
      · simp only [hl, if_false]
        exact find_Z Z
theorem lay_kind {x : DSn} (h : lay x = true) : x.e.kind = 4 := by
  unfold lay at h
  simp only [Bool.and_eq_true, decide_eq_true_eq] at h
  exact h.1.1.1
theorem layN_Z (m s : Int) : ∀ (Z : List (DSn × Nat)), layN m s (Z.filterMap snOf) = (Z.map Prod.fst).countP fun x => (lay x && decide (x.od.m = m)) && decide (x.od.s = s)
  | [] => rfl
  | p :: Z => by
    have ih := layN_Z m s Z
    unfold layN at ih ⊢
    rw [List.filterMap_cons, List.map_cons, List.countP_cons, ← ih]
    by_cases hk : p.1.e.kind = 3
    · have hl : lay p.1 = false := by
        cases h : lay p.1 with
        | false => rfl
        | true => have := lay_kind h; omega
      simp [snOf, hk, hl]
    · by_cases hl : lay p.1 = true
      · simp only [snOf, hk, if_false, hl, if_true, List.filter_cons, Bool.true_and]
        by_cases h1 : p.1.od.m = m <;> by_cases h2 : p.1.od.s = s <;> simp [h1, h2]
      · simp [snOf, hk, hl]
theorem metB_Z (m s : Int) : ∀ (Z : List (DSn × Nat)), metB m s (Z.filterMap snOf) = (Z.map Prod.fst).any fun x => decide (x.e.kind = 3) && ((decide (s = 1) && decide (x.se = m)) || (!decide (s = 1) && decide (x.by_ = m)))
  | [] => rfl
  | p :: Z => by
    have ih := metB_Z m s Z
    unfold metB at ih ⊢
    rw [List.filterMap_cons, List.map_cons, List.any_cons, ← ih]
    by_cases hk : p.1.e.kind = 3
    · by_cases hs : s = 1 <;> simp [snOf, hk, hs]
    · by_cases hl : lay p.1 = true
      · simp [snOf, hk, hl]
      · simp [snOf, hk, hl]

/-! ### what it does -/
def DW.alert (w : Wn) (D : DW) (r m o n : Int) : DW := if m = 0 then D else { D with al := D.al ++ [⟨r, m, D.L.length, o, n⟩], cs := cput w.span D.L.length r m D.cs }
def DW.mem (D : DW) (id : Int) : Int := match dfind id D.O with | some o => o.m | none => 0
def DW.push (D : DW) (x : DSn) : DW := { D with L := D.L ++ [x] }
def DW.ack0 (D : DW) (e : Ev) : DW := { D with O := dset D.O ⟨e.id, e.mb, e.sd, false⟩, L := D.L ++ [⟨e, 0, 0, 0, 0, false, do0⟩] }
def DW.acked (w : Wn) (D : DW) (e : Ev) : DW :=
  if w.lst ≤ ((D.ack0 e).prof e.mb).o ∧ w.rat * ((D.ack0 e).prof e.mb).t < ((D.ack0 e).prof e.mb).o then (D.ack0 e).alert w 3 e.mb e.id ((D.ack0 e).prof e.mb).o else D.ack0 e
def DW.seenT (D : DW) (e : Ev) : DSn := ⟨e, if e.sd = 1 then D.mem e.id else D.mem e.other, 0, if e.sd = 1 then D.mem e.other else D.mem e.id, D.mem e.id, false, do0⟩
def DW.tr1 (D : DW) (e : Ev) : DW := { D with O := dtr (dtr D.O e.id) e.other, L := D.L ++ [D.seenT e] }
def DW.tr2 (w : Wn) (D : DW) (e : Ev) : DW := if (D.seenT e).by_ = (D.seenT e).se then (D.tr1 e).alert w 1 (D.seenT e).by_ e.id 0 else D.tr1 e
def absI (d : Int) : Int := if d < 0 then -d else d
def DW.traded (w : Wn) (D : DW) (e : Ev) : DW := match ((D.tr2 w e).last w).find? (fun x => decide (x.e.kind = 3)) with
  | none => D.tr2 w e
  | some x => if w.mov < absI (tickOf e.pr - tickOf x.e.pr) then (D.tr2 w e).alert w 4 (D.mem e.id) e.id (absI (tickOf e.pr - tickOf x.e.pr)) else D.tr2 w e
def DW.seenC (D : DW) (e : Ev) : DSn := match dfind e.id D.O with | some o => ⟨e, 0, 0, 0, 0, true, o⟩ | none => ⟨e, 0, 0, 0, 0, false, do0⟩
def dlayN (m s : Int) (l : List DSn) : Nat := l.countP fun x => (lay x && decide (x.od.m = m)) && decide (x.od.s = s)
def dmet (m s : Int) (l : List DSn) : Bool := l.any fun x => decide (x.e.kind = 3) && ((decide (s = 1) && decide (x.se = m)) || (!decide (s = 1) && decide (x.by_ = m)))
def DW.cancelled (w : Wn) (D : DW) (e : Ev) : DW :=
  if lay (D.seenC e) = true then
    (if w.lay ≤ (dlayN (D.seenC e).od.m (D.seenC e).od.s ((D.push (D.seenC e)).last w) : Int) ∧ dmet (D.seenC e).od.m (D.seenC e).od.s ((D.push (D.seenC e)).last w) = true then
      (D.push (D.seenC e)).alert w 2 (D.seenC e).od.m e.id (dlayN (D.seenC e).od.m (D.seenC e).od.s ((D.push (D.seenC e)).last w)) else D.push (D.seenC e))
  else D.push (D.seenC e)
def DW.ev (w : Wn) (D : DW) (e : Ev) : DW :=
  if e.kind = 1 then D.acked w e else if e.kind = 3 then D.traded w e else if e.kind = 4 then D.cancelled w e else D.push ⟨e, 0, 0, 0, 0, false, do0⟩
def DW.add (w : Wn) (D : DW) (l : List Ev) : DW := l.foldl (DW.ev w) D

/-! ### it is what the watch does -/
structure Rel (w : Wn) (al0 : List Al) (z : Wt × List Al) (D : DW) : Prop where
  n : z.1.n = D.L.length
  K : ∀ id, z.1.K id = (dfind id D.O).map fun o => ⟨o.m, o.s, o.t⟩
  P : ∀ m, z.1.P m = D.prof m
  A : ∀ m, z.1.A m = D.L.any fun x => decide (x.e.kind = 1) && decide (x.e.mb = m)
  l : z.1.last = lastOf w D.L
  c : z.1.cs = D.cs
  a : D.al = al0 ++ z.2
theorem Rel.new (w : Wn) : Rel w [] (Wt.new, []) DW.new := ⟨rfl, fun _ => rfl, fun m => by unfold DW.prof; split <;> rfl, fun _ => rfl, by show [] = lastOf w []; unfold lastOf lastZ; simp, rfl, rfl⟩
section
variable {w : Wn} {al0 : List Al} {z : Wt × List Al} {D : DW}
theorem Rel.alert (h : Rel w al0 z D) (r m o n : Int) : Rel w al0 (Wt.al w z r m o n) (D.alert w r m o n) := by
  unfold Wt.al DW.alert
  by_cases hm : m = 0
  · rw [if_pos hm, if_pos hm]; exact h
  · rw [if_neg hm, if_neg hm]
    obtain ⟨g1, g2, g3, g4, g5⟩ := z.1.chg_eq m (fun p => { p with a := p.a + 1 })
    refine ⟨by show (z.1.chg m _).n = _; rw [g1]; exact h.n, fun id => by show (z.1.chg m _).K id = _; rw [g2]; exact h.K id, fun x => ?_, fun x => by show (z.1.chg m _).A x = _; rw [g3]; exact h.A x, by show (z.1.chg m _).last = _; rw [g4]; exact h.l, ?_, ?_⟩
    · show (z.1.chg m _).P x = _
      rw [Wt.chg_P, h.P, h.P]
      unfold DW.prof
      dsimp only
      by_cases hx : x = m
      · subst hx
        rw [if_pos ⟨rfl, hm⟩, if_neg hm, if_neg hm]
        simp [acnt]
      · rw [if_neg (fun hh => hx hh.1)]
        by_cases h0 : x = 0
        · rw [if_pos h0, if_pos h0]
        · rw [if_neg h0, if_neg h0]
          have : ¬ m = x := fun e => hx e.symm
          simp [acnt, this]
    · show cput w.span z.1.n r m z.1.cs = cput w.span D.L.length r m D.cs
      rw [h.n, h.c]
    · show D.al ++ _ = al0 ++ (z.2 ++ _)
      rw [h.a, List.append_assoc, h.n]
theorem Rel.mem (h : Rel w al0 z D) (id : Int) : z.1.who id = D.mem id := by
  unfold Wt.who DW.mem
  rw [h.K]
  cases dfind id D.O <;> rfl
/-- an event that is pushed: what the parts must say -/
theorem Rel.mk' {W : Wt} {out : List Al} {x : DSn} {O : List DO} (hw : w.Can) (h : Rel w al0 z D) (ho : out = z.2) (hn : W.n = z.1.n + 1) (hK : ∀ id, W.K id = (dfind id O).map fun o => ⟨o.m, o.s, o.t⟩) (hP : ∀ m, m ≠ 0 → W.P m = { pstep m (lprof D.L m) x with a := acnt m D.al }) (hP0 : W.P 0 = z.1.P 0)
    (hA : ∀ m, W.A m = (z.1.A m || (decide (x.e.kind = 1) && decide (x.e.mb = m)))) (hl : W.last = (z.1.tick w).last ++ (snOf (x, D.L.length)).toList) (hc : W.cs = z.1.cs) : Rel w al0 (W, out) { D with O := O, L := D.L ++ [x] } := by
  refine ⟨?_, hK, fun m => ?_, fun m => ?_, ?_, by rw [← h.c]; exact hc, by rw [ho]; exact h.a⟩
  · show W.n = _
    rw [hn, h.n]; simp
  · show W.P m = _
    unfold DW.prof
    dsimp only
    by_cases hm : m = 0
    · subst hm
      rw [if_pos rfl, hP0, h.P]; unfold DW.prof; rw [if_pos rfl]
    · rw [if_neg hm, lprof_snoc]; exact hP m hm
  · show W.A m = _
    rw [hA, h.A, List.any_append]; simp
  · show W.last = _
    rw [hl, lastOf_tick w hw, ← h.l, ← h.n]; rfl
theorem pf_of (h : Rel w al0 z D) {m : Int} (hm : m ≠ 0) : z.1.P m = { lprof D.L m with a := acnt m D.al } := by rw [h.P]; unfold DW.prof; rw [if_neg hm]
theorem Rel.push (hw : w.Can) (h : Rel w al0 z D) (e : Ev) (h1 : e.kind ≠ 1) (h3 : e.kind ≠ 3) (h4 : ¬ (e.kind = 4 ∧ e.reason = 1)) (kn : Bool) (o : DO) : Rel w al0 (z.1.tick w, z.2) (D.push ⟨e, 0, 0, 0, 0, kn, o⟩) := by
  refine Rel.mk' (x := ⟨e, 0, 0, 0, 0, kn, o⟩) (O := D.O) hw h rfl rfl h.K (fun m hm => ?_) rfl (fun m => by show z.1.A m = _; simp [h1]) ?_ rfl
  · show z.1.P m = _
    rw [pf_of h hm]
    unfold pstep
    rw [if_neg h1, if_neg h3]
    split
    · rename_i h4'
      rw [if_neg (fun hh => h4 ⟨h4', hh.2⟩)]
    · rfl
  · show (z.1.tick w).last = _
    have : lay ⟨e, 0, 0, 0, 0, kn, o⟩ = false := by
      unfold lay
      simp only [Bool.and_eq_false_iff, decide_eq_false_iff_not]
      by_cases hk : e.kind = 4
      · exact .inl (.inl (.inr fun hh => h4 ⟨hk, hh⟩))
      · exact .inl (.inl (.inl hk))
    simp [snOf, h3, this]
theorem Rel.acked (hw : w.Can) (h : Rel w al0 z D) (e : Ev) (hk : e.kind = 1) : Rel w al0 (Wt.acks w (z.1.tick w, z.2) e) (D.acked w e) := by
  have h0 : Rel w al0 ((z.1.tick w).ack0 e, z.2) (D.ack0 e) := by
    refine Rel.mk' (x := ⟨e, 0, 0, 0, 0, false, do0⟩) (O := dset D.O ⟨e.id, e.mb, e.sd, false⟩) hw h rfl ?_ (fun id => ?_) (fun m hm => ?_) ?_ (fun m => ?_) ?_ ?_
    · unfold Wt.ack0; rw [(Wt.chg_eq _ _ _).1]; rfl
    · unfold Wt.ack0; rw [(Wt.chg_eq _ _ _).2.1, dfind_dset]
      show (if id = e.id then _ else z.1.K id) = _
      rw [h.K]
      by_cases hid : id = e.id <;> simp [hid]
    · unfold Wt.ack0; rw [Wt.chg_P]
      show (if _ then (fun p : Pf => { p with o := p.o + 1 }) (z.1.P e.mb) else z.1.P m) = _
      unfold pstep
      rw [if_pos hk]
      dsimp only
      by_cases hmb : m = e.mb
      · subst hmb
        rw [if_pos ⟨rfl, hm⟩, if_pos rfl, pf_of h hm]
      · rw [if_neg (fun hh => hmb hh.1), if_neg (fun hh => hmb hh.symm), pf_of h hm]
    · unfold Wt.ack0; rw [Wt.chg_P, if_neg (fun hh => hh.2 hh.1.symm)]; rfl
    · unfold Wt.ack0; rw [(Wt.chg_eq _ _ _).2.2.1]
      show (if m = e.mb then true else z.1.A m) = _
      by_cases hmb : m = e.mb
      · subst hmb; simp [hk]
      · have : ¬ e.mb = m := fun hh => hmb hh.symm
        simp [hmb, this]
    · unfold Wt.ack0; rw [(Wt.chg_eq _ _ _).2.2.2.1]
      have : lay ⟨e, 0, 0, 0, 0, false, do0⟩ = false := by simp [lay]
      simp [snOf, hk, this]
    · unfold Wt.ack0; rw [(Wt.chg_eq _ _ _).2.2.2.2]; rfl
  unfold Wt.acks DW.acked
  have hp := h0.P e.mb
  dsimp only at hp ⊢
  rw [hp]
  split
  · exact h0.alert 3 e.mb e.id _
  · exact h0
theorem Rel.jump (h : Rel w al0 z D) (e : Ev) (m : Int) : Rel w al0 (jump w z (tickOf e.pr) m e.id) (match (D.last w).find? (fun x => decide (x.e.kind = 3)) with
    | none => D
    | some x => if w.mov < absI (tickOf e.pr - tickOf x.e.pr) then D.alert w 4 m e.id (absI (tickOf e.pr - tickOf x.e.pr)) else D) := by
  unfold Go.Proofs.Ytcbppikkoelimaa.jump
  have hf := find_Z (lastZ w D.L)
  rw [h.l]
  rw [lastZ_fst] at hf
  rw [show lastOf w D.L = (lastZ w D.L).filterMap snOf from rfl, hf]
  cases (D.last w).find? (fun x => decide (x.e.kind = 3)) with
  | none => exact h
  | some x =>
    dsimp only [Option.map_some]
    have : farOf (tickOf e.pr) (tickOf x.e.pr) = absI (tickOf e.pr - tickOf x.e.pr) := by unfold farOf absI; split <;> omega
    rw [this]
    split
    · exact h.alert 4 m e.id _
    · exact h
theorem Rel.traded (hw : w.Can) (h : Rel w al0 z D) (e : Ev) (hk : e.kind = 3) : Rel w al0 (Wt.trades w (z.1.tick w, z.2) e) (D.traded w e) := by
  have hwho : ∀ id, (z.1.tick w).who id = D.mem id := fun id => h.mem id
  have h1 : Rel w al0 ((z.1.tick w).trade1 e, z.2) (D.tr1 e) := by
    refine Rel.mk' (x := D.seenT e) (O := dtr (dtr D.O e.id) e.other) hw h rfl ?_ (fun id => ?_) (fun m hm => ?_) ?_ (fun m => ?_) ?_ ?_
    · unfold Wt.trade1 Wt.trade0
      show (Wt.chg _ _ _).n = _
      rw [(Wt.chg_eq _ _ _).1, (Wt.chg_eq _ _ _).1, (Wt.chg_eq _ _ _).1, (Wt.chg_eq _ _ _).1]; rfl
    · unfold Wt.trade1 Wt.trade0
      show (Wt.chg _ _ _).K id = _
      rw [(Wt.chg_eq _ _ _).2.1, (Wt.chg_eq _ _ _).2.1, (Wt.chg_eq _ _ _).2.1, (Wt.chg_eq _ _ _).2.1, dfind_dtr, dfind_dtr, dfind_dtr]
      show (if id = e.other then Option.map _ (if e.other = e.id then Option.map _ (z.1.K e.id) else z.1.K e.other) else (if id = e.id then Option.map _ (z.1.K e.id) else z.1.K id)) = _
      rw [h.K, h.K, h.K]
      by_cases h1 : id = e.other
      · rw [if_pos h1, if_pos h1]
        by_cases h2 : e.other = e.id
        · rw [if_pos h2, if_pos h2]; simp [Function.comp_def]
        · rw [if_neg h2, if_neg h2]; simp [Function.comp_def]
      · rw [if_neg h1, if_neg h1]
        by_cases h2 : id = e.id
        · rw [if_pos h2, if_pos h2]; simp [Function.comp_def]
        · rw [if_neg h2, if_neg h2]
    · show (Wt.trade0 _ e).P m = _
      unfold Wt.trade0 Wt.buyer Wt.seller
      simp only [hwho]
      have hP : ∀ y, (((z.1.tick w).part e.id).part e.other).P y = z.1.P y := fun y => rfl
      have hm' := pf_of h hm
      have e1 : pstep m (lprof D.L m) (D.seenT e) = if (D.seenT e).se = m then { (if (D.seenT e).by_ = m then { lprof D.L m with t := (lprof D.L m).t + 1, b := ((lprof D.L m).b + e.q) % 18446744073709551616 } else lprof D.L m) with t := (if (D.seenT e).by_ = m then { lprof D.L m with t := (lprof D.L m).t + 1, b := ((lprof D.L m).b + e.q) % 18446744073709551616 } else lprof D.L m).t + 1, s := ((if (D.seenT e).by_ = m then { lprof D.L m with t := (lprof D.L m).t + 1, b := ((lprof D.L m).b + e.q) % 18446744073709551616 } else lprof D.L m).s + e.q) % 18446744073709551616 } else (if (D.seenT e).by_ = m then { lprof D.L m with t := (lprof D.L m).t + 1, b := ((lprof D.L m).b + e.q) % 18446744073709551616 } else lprof D.L m) := by
        unfold pstep
        rw [if_neg (by show ¬ e.kind = 1; omega), if_pos (show (D.seenT e).e.kind = 3 from hk)]; rfl
      rw [e1]
      unfold DW.seenT
      dsimp only
      simp only [Wt.chg_P, hP]
      generalize D.mem e.id = x1
      generalize D.mem e.other = x2
      generalize hq : lprof D.L m = q at hm' ⊢
      by_cases hs : e.sd = 1
      · simp only [hs, if_true]
        by_cases a1 : m = x1 <;> by_cases a2 : m = x2
        · subst a1; subst a2; simp [hm, hm']
        · have a2' : ¬ x2 = m := fun hh => a2 hh.symm
          subst a1; simp [hm, hm', a2, a2']
        · have a1' : ¬ x1 = m := fun hh => a1 hh.symm
          subst a2; simp [hm, hm', a1, a1']
        · have a2' : ¬ x2 = m := fun hh => a2 hh.symm
          have a1' : ¬ x1 = m := fun hh => a1 hh.symm
          simp [a1, a2, a1', a2', hm']
      · simp only [hs, if_false]
        by_cases a1 : m = x1 <;> by_cases a2 : m = x2
        · subst a1; subst a2; simp [hm, hm']
        · have a2' : ¬ x2 = m := fun hh => a2 hh.symm
          subst a1; simp [hm, hm', a2, a2']
        · have a1' : ¬ x1 = m := fun hh => a1 hh.symm
          subst a2; simp [hm, hm', a1, a1']
        · have a2' : ¬ x2 = m := fun hh => a2 hh.symm
          have a1' : ¬ x1 = m := fun hh => a1 hh.symm
          simp [a1, a2, a1', a2', hm']
    · show (Wt.trade0 _ e).P 0 = _
      unfold Wt.trade0
      rw [Wt.chg_P, if_neg (fun hh => hh.2 hh.1.symm), Wt.chg_P, if_neg (fun hh => hh.2 hh.1.symm), Wt.chg_P, if_neg (fun hh => hh.2 hh.1.symm), Wt.chg_P, if_neg (fun hh => hh.2 hh.1.symm)]; rfl
    · show (Wt.trade0 _ e).A m = _
      unfold Wt.trade0
      rw [(Wt.chg_eq _ _ _).2.2.1, (Wt.chg_eq _ _ _).2.2.1, (Wt.chg_eq _ _ _).2.2.1, (Wt.chg_eq _ _ _).2.2.1]
      have : ¬ (D.seenT e).e.kind = 1 := by show ¬ e.kind = 1; omega
      show z.1.A m = _
      simp [this]
    · show (z.1.tick w).last ++ _ = _
      congr 1
      have : (D.seenT e).e.kind = 3 := hk
      unfold snOf
      dsimp only
      rw [if_pos this, Option.toList_some]
      unfold Wt.buyer Wt.seller
      simp only [hwho]
      have hn : (z.1.tick w).n = (D.L.length : Int) + 1 := by show z.1.n + 1 = _; rw [h.n]
      rw [hn]; rfl
    · show (Wt.trade0 _ e).cs = _
      unfold Wt.trade0
      rw [(Wt.chg_eq _ _ _).2.2.2.2, (Wt.chg_eq _ _ _).2.2.2.2, (Wt.chg_eq _ _ _).2.2.2.2, (Wt.chg_eq _ _ _).2.2.2.2]; rfl
  have h2 : Rel w al0 ((z.1.tick w).wash w z.2 e) (D.tr2 w e) := by
    unfold Wt.wash DW.tr2
    rw [hwho, hwho]
    unfold DW.seenT
    dsimp only
    by_cases hs : e.sd = 1
    · rw [if_pos hs, if_pos hs]
      split
      · exact h1.alert 1 _ e.id 0
      · exact h1
    · rw [if_neg hs, if_neg hs]
      by_cases he : D.mem e.id = D.mem e.other
      · rw [if_pos he, if_pos he.symm, ← he]
        exact h1.alert 1 _ e.id 0
      · rw [if_neg he, if_neg (fun hh => he hh.symm)]
        exact h1
  unfold Wt.trades DW.traded
  dsimp only
  rw [hwho]
  exact h2.jump e (D.mem e.id)
theorem Rel.cancelled (hw : w.Can) (h : Rel w al0 z D) (e : Ev) (hk : e.kind = 4) (hr : e.reason = 1) : Rel w al0 (Wt.cancels w (z.1.tick w, z.2) e) (D.cancelled w e) := by
  unfold Wt.cancels DW.cancelled
  have hKe : (z.1.tick w).K e.id = (dfind e.id D.O).map fun o => ⟨o.m, o.s, o.t⟩ := h.K e.id
  dsimp only
  rw [hKe]
  unfold DW.seenC
  cases hf : dfind e.id D.O with
  | none =>
    dsimp only [Option.map_none]
    rw [if_neg (by simp [lay])]
    refine Rel.mk' (x := ⟨e, 0, 0, 0, 0, false, do0⟩) (O := D.O) hw h rfl rfl h.K (fun m hm => ?_) rfl (fun m => by show z.1.A m = _; simp [hk]) ?_ rfl
    · show z.1.P m = _
      rw [pf_of h hm]
      unfold pstep
      rw [if_neg (by show ¬ e.kind = 1; omega), if_neg (by show ¬ e.kind = 3; omega), if_pos (show e.kind = 4 from hk)]
      simp
    · show (z.1.tick w).last = _
      simp [snOf, hk, lay]
  | some o =>
    dsimp only [Option.map_some]
    have hpush : ∀ (W : Wt), W.n = z.1.n + 1 → W.K = z.1.K → W.P = ((z.1.tick w).chg o.m fun p => { p with c := p.c + 1 }).P → W.A = z.1.A → W.last = (z.1.tick w).last ++ (snOf (⟨e, 0, 0, 0, 0, true, o⟩, D.L.length)).toList → W.cs = z.1.cs → Rel w al0 (W, z.2) (D.push ⟨e, 0, 0, 0, 0, true, o⟩) := by
      intro W w1 w2 w3 w4 w5 w6
      refine Rel.mk' (x := ⟨e, 0, 0, 0, 0, true, o⟩) (O := D.O) hw h rfl w1 (fun id => by rw [w2]; exact h.K id) (fun m hm => ?_) ?_ (fun m => by rw [w4]; simp [hk]) w5 w6
      · rw [w3, Wt.chg_P]
        show (if _ then (fun p : Pf => { p with c := p.c + 1 }) (z.1.P o.m) else z.1.P m) = _
        have e1 : pstep m (lprof D.L m) ⟨e, 0, 0, 0, 0, true, o⟩ = if o.m = m then { lprof D.L m with c := (lprof D.L m).c + 1 } else lprof D.L m := by
          unfold pstep
          rw [if_neg (by show ¬ e.kind = 1; omega), if_neg (by show ¬ e.kind = 3; omega), if_pos (show e.kind = 4 from hk)]
          simp [hr]
        rw [e1]
        by_cases hmo : m = o.m
        · rw [if_pos ⟨hmo, by rw [← hmo]; exact hm⟩, if_pos hmo.symm, ← hmo, pf_of h hm]
        · rw [if_neg (fun hh => hmo hh.1), if_neg (fun hh => hmo hh.symm), pf_of h hm]
      · rw [w3, Wt.chg_P, if_neg (fun hh => hh.2 hh.1.symm)]; rfl
    obtain ⟨g1, g2, g3, g4, g5⟩ := (z.1.tick w).chg_eq o.m (fun p => { p with c := p.c + 1 })
    by_cases ht : o.t = true
    · rw [if_pos ht, if_neg (by simp [lay, ht])]
      refine hpush _ (by rw [g1]; rfl) (by rw [g2]; rfl) rfl (by rw [g3]; rfl) ?_ (by rw [g5]; rfl)
      rw [g4]
      simp [snOf, hk, lay, ht]
    · have ht' : o.t = false := by simpa using ht
      have hlay : lay ⟨e, 0, 0, 0, 0, true, o⟩ = true := by simp [lay, hk, hr, ht']
      rw [if_neg ht, if_pos hlay]
      have h1 : Rel w al0 ((((z.1.tick w).chg o.m fun p => { p with c := p.c + 1 }).fresh ⟨o.m, o.s, o.t⟩), z.2) (D.push ⟨e, 0, 0, 0, 0, true, o⟩) := by
        refine hpush _ (by show (Wt.chg _ _ _).n = _; rw [g1]; rfl) (by show (Wt.chg _ _ _).K = _; rw [g2]; rfl) rfl (by show (Wt.chg _ _ _).A = _; rw [g3]; rfl) ?_ (by show (Wt.chg _ _ _).cs = _; rw [g5]; rfl)
        show (Wt.chg _ _ _).last ++ [⟨(Wt.chg _ _ _).n, _, _, _, _, _, _, _⟩] = _
        rw [g4, g1]
        have hn : (z.1.tick w).n = (D.L.length : Int) + 1 := by show z.1.n + 1 = _; rw [h.n]
        rw [hn]
        simp [snOf, hk, hlay]
      have e1 := layN_Z o.m o.s (lastZ w (D.push ⟨e, 0, 0, 0, 0, true, o⟩).L)
      have e2 := metB_Z o.m o.s (lastZ w (D.push ⟨e, 0, 0, 0, 0, true, o⟩).L)
      rw [lastZ_fst] at e1 e2
      have hl := h1.l
      dsimp only at hl ⊢
      rw [show lastOf w (D.push ⟨e, 0, 0, 0, 0, true, o⟩).L = (lastZ w (D.push ⟨e, 0, 0, 0, 0, true, o⟩).L).filterMap snOf from rfl] at hl
      have e1' : layN o.m o.s ((lastZ w (D.push ⟨e, 0, 0, 0, 0, true, o⟩).L).filterMap snOf) = dlayN o.m o.s ((D.push ⟨e, 0, 0, 0, 0, true, o⟩).last w) := e1
      have e2' : metB o.m o.s ((lastZ w (D.push ⟨e, 0, 0, 0, 0, true, o⟩).L).filterMap snOf) = dmet o.m o.s ((D.push ⟨e, 0, 0, 0, 0, true, o⟩).last w) := e2
      rw [hl, e1', e2']
      by_cases hc : w.lay ≤ (dlayN o.m o.s ((D.push ⟨e, 0, 0, 0, 0, true, o⟩).last w) : Int) ∧ dmet o.m o.s ((D.push ⟨e, 0, 0, 0, 0, true, o⟩).last w) = true
      · rw [if_pos hc, if_pos hc]
        exact h1.alert 2 o.m e.id _
      · rw [if_neg hc, if_neg hc]
        exact h1
theorem Rel.ev (hw : w.Can) (h : Rel w al0 z D) (e : Ev) : Rel w al0 (Wt.ev w z e) (D.ev w e) := by
  unfold Wt.ev DW.ev
  by_cases h1 : e.kind = 1
  · rw [if_pos h1, if_pos h1]; exact h.acked hw e h1
  rw [if_neg h1, if_neg h1]
  by_cases h3 : e.kind = 3
  · rw [if_pos h3, if_pos h3]; exact h.traded hw e h3
  rw [if_neg h3, if_neg h3]
  by_cases h4 : e.kind = 4
  · rw [if_pos h4]
    by_cases hr : e.reason = 1
    · rw [if_pos ⟨h4, hr⟩]; exact h.cancelled hw e h4 hr
    · rw [if_neg (fun hh => hr hh.2)]
      unfold DW.cancelled
      have hl : lay (D.seenC e) = false := by
        unfold DW.seenC; split <;> simp [lay, hr]
      rw [if_neg (by rw [hl]; simp)]
      unfold DW.seenC
      split
      · exact h.push hw e h1 h3 (fun hh => hr hh.2) _ _
      · exact h.push hw e h1 h3 (fun hh => hr hh.2) _ _
  · rw [if_neg h4, if_neg (fun hh => h4 hh.1)]
    exact h.push hw e h1 h3 (fun hh => h4 hh.1) _ _
end
theorem Rel.add {w : Wn} (hw : w.Can) {al0 : List Al} : ∀ (l : List Ev) {z : Wt × List Al} {D : DW}, Rel w al0 z D → Rel w al0 (Wt.add w z l) (D.add w l)
  | [], _, _, h => h
  | e :: l, z, D, h => Rel.add hw l (h.ev hw e)
theorem Rel.next {w : Wn} {al0 : List Al} {z : Wt × List Al} {D : DW} (h : Rel w al0 z D) : Rel w D.al (z.1, []) D := ⟨h.n, h.K, h.P, h.A, h.l, h.c, by simp⟩
/-! ### cases closed -/
def cls (r m : Int) (c : Cs) : Bool := (decide (c.r = r) && decide (c.m = m)) && c.op
def closeL (r m : Int) (l : List Cs) : List Cs := l.map fun c => if cls r m c = true then { c with op := false } else c
def Wt.close (W : Wt) (r m : Int) : Wt := { W with cs := closeL r m W.cs }
def DW.close (D : DW) (r m : Int) : DW := { D with cs := closeL r m D.cs }
theorem Rel.close {w : Wn} {al0 : List Al} {z : Wt × List Al} {D : DW} (h : Rel w al0 z D) (r m : Int) : Rel w al0 (z.1.close r m, z.2) (D.close r m) :=
  ⟨h.n, h.K, h.P, h.A, h.l, by show closeL r m z.1.cs = closeL r m D.cs; rw [h.c], h.a⟩
/-! ### members -/
def insM (m : Int) : List Int → List Int
  | [] => [m]
  | x :: l => if x < m then x :: insM m l else if x = m then x :: l else m :: x :: l
def DW.members (D : DW) : List Int := D.L.foldl (fun l x => if x.e.kind ≠ 1 ∨ x.e.mb = 0 then l else insM x.e.mb l) []
theorem insM_mem (m x : Int) : ∀ l : List Int, x ∈ insM m l ↔ x = m ∨ x ∈ l
  | [] => by simp [insM]
  | y :: l => by
    unfold insM
    split
    · rw [List.mem_cons, insM_mem m x l, List.mem_cons]; constructor <;> (intro h; rcases h with h | h | h <;> simp [h])
    · split
      · rename_i h; subst h; simp
      · simp
theorem insM_sorted (m : Int) : ∀ l : List Int, l.Pairwise (· < ·) → (insM m l).Pairwise (· < ·)
  | [], _ => by simp [insM]
  | y :: l, h => by
    rw [List.pairwise_cons] at h
    unfold insM
    split
    · rename_i hy
      rw [List.pairwise_cons]
      refine ⟨fun x hx => ?_, insM_sorted m l h.2⟩
      rcases (insM_mem m x l).1 hx with rfl | hx
      · exact hy
      · exact h.1 x hx
    · split
      · rw [List.pairwise_cons]; exact h
      · rename_i h1 h2
        rw [List.pairwise_cons, List.pairwise_cons]
        refine ⟨fun x hx => ?_, h⟩
        rcases List.mem_cons.1 hx with rfl | hx
        · omega
        · have := h.1 x hx; omega
theorem members_fold : ∀ (L : List DSn) (l : List Int), l.Pairwise (· < ·) → (L.foldl (fun l x => if x.e.kind ≠ 1 ∨ x.e.mb = 0 then l else insM x.e.mb l) l).Pairwise (· < ·) ∧ ∀ y, y ∈ L.foldl (fun l x => if x.e.kind ≠ 1 ∨ x.e.mb = 0 then l else insM x.e.mb l) l ↔ y ∈ l ∨ ∃ x ∈ L, (x.e.kind = 1 ∧ x.e.mb = y) ∧ y ≠ 0
  | [], l, h => ⟨h, by simp⟩
  | a :: L, l, h => by
    rw [List.foldl_cons]
    by_cases ha : a.e.kind ≠ 1 ∨ a.e.mb = 0
    · rw [if_pos ha]
      obtain ⟨h1, h2⟩ := members_fold L l h
      refine ⟨h1, fun y => ?_⟩
      rw [h2]
      constructor
      · rintro (h | ⟨x, hx, h⟩)
        · exact .inl h
        · exact .inr ⟨x, List.mem_cons_of_mem _ hx, h⟩
      · rintro (h | ⟨x, hx, h⟩)
        · exact .inl h
        · rcases List.mem_cons.1 hx with rfl | hx
          · rcases ha with ha | ha
            · exact absurd h.1.1 ha
            · exact absurd (h.1.2.symm.trans ha) h.2
          · exact .inr ⟨x, hx, h⟩
    · rw [if_neg ha]
      obtain ⟨h1, h2⟩ := members_fold L _ (insM_sorted a.e.mb l h)
      refine ⟨h1, fun y => ?_⟩
      rw [h2, insM_mem]
      have hk : a.e.kind = 1 := by
        by_cases hk : a.e.kind = 1
        · exact hk
        · exact absurd (.inl hk) ha
      have hm : a.e.mb ≠ 0 := fun hh => ha (.inr hh)
      constructor
      · rintro ((h | h) | ⟨x, hx, h⟩)
        · exact .inr ⟨a, List.mem_cons_self, ⟨hk, h.symm⟩, by rw [h]; exact hm⟩
        · exact .inl h
        · exact .inr ⟨x, List.mem_cons_of_mem _ hx, h⟩
      · rintro (h | ⟨x, hx, h⟩)
        · exact .inl (.inr h)
        · rcases List.mem_cons.1 hx with rfl | hx
          · exact .inl (.inl h.1.2.symm)
          · exact .inr ⟨x, hx, h⟩
theorem DW.members_spec (D : DW) : D.members.Pairwise (· < ·) ∧ ∀ y, y ∈ D.members ↔ (∃ x ∈ D.L, x.e.kind = 1 ∧ x.e.mb = y) ∧ y ≠ 0 := by
  obtain ⟨h1, h2⟩ := members_fold D.L [] List.Pairwise.nil
  refine ⟨h1, fun y => ?_⟩
  unfold DW.members
  rw [h2]
  constructor
  · rintro (h | ⟨x, hx, h, h0⟩)
    · cases h
    · exact ⟨⟨x, hx, h⟩, h0⟩
  · rintro ⟨⟨x, hx, h⟩, h0⟩
    exact .inr ⟨x, hx, h, h0⟩
end Go.Proofs.Ytcbppikkoelimaa

/- VD: regions with one store at their end, in which two effects may come up in either order. -/
namespace Go
namespace V
open Go.RowKit
set_option linter.unusedVariables false
set_option linter.unusedSimpArgs false

/-- number i comes up now -/
def JT (P : Program) (n : Nat) (w0 : World) (own : List Nat) (ops : Array Oper) (F : Hp) (z : Nat) (m : Nat) (listed : Array Bool) (e : Env) (hs : Hp) (K : Env → Hp → Prop) (i : Nat) : Prop :=
  ∀ a w, Rep n a e → Sat w0 own hs w → (listed.getD z true = false → F ⊆ hs) →
    wpOp P ops (QN fun a' w' => ∃ e' hs', Rep n a' e' ∧ Sat w0 own hs' w' ∧ K e' hs') i (fun a' w' => ((listed.setIfInBounds i true).getD z true = false → Keeps w0 own F w') ∧ Upto P ops (QN fun a' w' => ∃ e' hs', Rep n a' e' ∧ Sat w0 own hs' w' ∧ K e' hs') (Keeps w0 own F) z m (listed.setIfInBounds i true) a' w') a w
section
variable {P : Program} {n : Nat} {w0 : World} {own : List Nat} {e : Env} {hs F : Hp} {K : Env → Hp → Prop} {z m : Nat} {listed : Array Bool}
variable {d : Nat} {ty : TypeId} {pos : String} {aft : Array Edge} {g : Option (Nat × Bool)}
theorem JZ.two {ops : Array Oper} (i j : Nat) (hr : (Region.ready .any ops listed == [i, j]) = true) (h1 : JT P n w0 own ops F z m listed e hs K i) (h2 : JT P n w0 own ops F z m listed e hs K j) : JZ P n w0 own ops F z (m + 1) listed e hs K := by
  intro a w hr' s hf
  have hr : Region.ready .any ops listed = [i, j] := by simpa using hr
  refine ⟨fun h0 => (by rw [hr] at h0; cases h0), fun k hk => ?_⟩
  rw [hr] at hk
  simp only [List.mem_cons, List.not_mem_nil, or_false] at hk
  rcases hk with rfl | rfl
  · exact h1 a w hr' s hf
  · exact h2 a w hr' s hf
theorem JT.ef {ops : Array Oper} {i : Nat} {op : Op} {R : Value → Hp → Prop} (hi : ops[i]? = some ⟨some d, op, ty, pos, aft, g⟩) (h : Eff P n w0 own e hs op R) (hF : ∀ v hs', R v hs' → F ⊆ hs → F ⊆ hs')
    (k : ∀ v hs', R v hs' → JZ P n w0 own ops F z m (listed.setIfInBounds i true) ((d, v) :: e) hs' K) (hdn : Nat.blt d n = true := by rfl) (hg : wantB ops e g = some true := by rfl) : JT P n w0 own ops F z m listed e hs K i := by
  intro a w hr s hf
  unfold wpOp
  simp only [hi]
  rw [if_pos (wanted_of hr hg)]
  have hsub : ∀ v hs', R v hs' → (listed.setIfInBounds i true).getD z true = false → F ⊆ hs' := by
    intro v hs' r hz'
    have hzj : z ≠ i := by
      intro e
      subst e
      rcases Nat.lt_or_ge z listed.size with h' | h'
      · simp [h'] at hz'
      · simp [h'] at hz'
    rw [getD_set_ne true (Ne.symm hzj)] at hz'
    exact hF v hs' r (hf hz')
  exact .inl (h a w _ _ _ _ _ _ _ hr s fun v hs' w' r s' => ⟨fun hz' => ⟨hs', s', hsub v hs' r hz'⟩, k v hs' r _ _ (hr.put (Nat.le_of_ble_eq_true hdn) v) s' (hsub v hs' r)⟩)
/-- the first operations, in an order of ours; then by hand -/
theorem JC.drawW {id : Nat} {Q : Post} {l : List Oper} (z : Nat) (is : List Nat) (F : Hp) (hF : F ⊆ hs) (hm : P.follows .mixedOrders = true)
    (hB : (ordZ l.toArray z (pickL l is) is (Array.replicate l.length false) && Nat.beq (pickL l is).length is.length && Nat.ble is.length l.length && Nat.blt z l.length) = true)
    (h : JQ P n w0 own l.toArray F z false (pickL l is) e hs (fun _ e' hs' => JZ P n w0 own l.toArray F z (l.length - is.length) (marks_ is (Array.replicate l.length false)) e' hs' (fun e hs => Q .normal e hs))) : JC P n w0 own (.region id l.toArray true) e hs Q := by
  rw [Bool.and_eq_true, Bool.and_eq_true, Bool.and_eq_true] at hB
  obtain ⟨⟨⟨h1, h2⟩, h3⟩, h4⟩ := hB
  have h2 := Nat.eq_of_beq_eq_true h2
  have h3 := Nat.le_of_ble_eq_true h3
  have h4 : z < l.length := Nat.le_of_ble_eq_true h4
  refine JC.drawZ z F hF hm ?_
  have := h (l.length - is.length) is (Array.replicate l.length false) (fun e hs => Q .normal e hs) (pickL_nums' is h2) h1 (by simp) (by simp [h4]) (fun _ => hF) (fun _ e' hs' _ _ ke => ke)
  rw [h2, show is.length + (l.length - is.length) = l.length by omega] at this
  simpa using this
/-- the others, in an order of ours -/
theorem JZ.run {l : List Oper} (is : List Nat) (hF : F ⊆ hs) (hB : (ordZ l.toArray z (pickL l is) is listed && doneB l.toArray (marks_ is listed) && Nat.beq (pickL l is).length is.length && Nat.beq is.length m && Nat.beq listed.size l.length && !listed.getD z true) = true)
    (h : JQ P n w0 own l.toArray F z false (pickL l is) e hs (fun _ e hs => K e hs)) : JZ P n w0 own l.toArray F z m listed e hs K := by
  simp only [Bool.and_eq_true] at hB
  obtain ⟨⟨⟨⟨⟨h1, h2⟩, h3⟩, h4⟩, h5⟩, h6⟩ := hB
  have h3 := Nat.eq_of_beq_eq_true h3
  have h4 := Nat.eq_of_beq_eq_true h4
  have h5 := Nat.eq_of_beq_eq_true h5
  have := h 0 is listed K (pickL_nums' is h3) h1 (by simpa using h5) (by simpa using h6) (fun _ => hF) (fun _ e' hs' _ _ ke => JZ.done h2 ke)
  rw [h3, h4] at this
  simpa using this
end
end V
end Go

/- VE: drawn regions in which blocks are let go. -/
namespace Go
namespace V
open Go.RowKit
set_option linter.unusedVariables false
section
variable {P : Program} {n : Nat} {w0 : World} {own : List Nat} {e : Env} {hs hs2 F : Hp} {ops : Array Oper} {l : List Oper} {K : Env → Hp → Prop}
/-- some of what lies there is let go -/
theorem JK.heap (k : ∀ w, Sat w0 own hs w → Sat w0 own hs2 w) (hF : F ⊆ hs → F ⊆ hs2) (h : JK P n w0 own ops F l e hs2 K) : JK P n w0 own ops F l e hs K :=
  fun m is listed Z h1 h2 h3 hz a w hr s hf => h m is listed Z h1 h2 (hF h3) hz a w hr (k w s) (hF hf)
theorem JK.dropA {h : Hp} (hF : F ⊆ hs) (k : JK P n w0 own ops F l e hs K) : JK P n w0 own ops F l e (h ++ hs) K :=
  JK.heap (fun w s => s.sub (List.sublist_append_right _ _)) (fun _ => hF) k
end
end V
end Go

/- VYN: as VY, where a check against nil may come up at any time too. -/
namespace Go
namespace V
open Go.RowKit
set_option linter.unusedVariables false
set_option linter.unusedSimpArgs false
/-- does the operation touch no memory? -/
def noMemN (o : Oper) : Bool := match o.op with
  | .move _ => true
  | .indexAddr .. => true
  | .fieldAddr .. => true
  | .binOp .. => true
  | .extract .. => true
  | .nilCheck _ => true
  | _ => false
section
variable {P : Program} {n : Nat} {w0 : World} {own : List Nat} {e : Env} {hs F : Hp} {ops : Array Oper} {K : Env → Hp → Prop} {z m : Nat} {listed : Array Bool}
variable {d : Nat} {ty : TypeId} {pos : String} {aft : Array Edge} {g : Option (Nat × Bool)}
theorem JZ.xN {op : Op} {v : Value} (i : Nat) (hi : ops[i]? = some ⟨some d, op, ty, pos, aft, g⟩) (hf : firstB ops listed i = true) (hzi : z ≠ i)
    (h : ∀ w, Val P n w [] e [] op v) (k : JZ P n w0 own ops F z m (listed.setIfInBounds i true) ((d, v) :: e) hs K)
    (hdn : Nat.blt d n = true := by rfl) (hg : wantB ops e g = some true := by rfl) : JZ P n w0 own ops F z (m + 1) listed e hs K := by
  intro a w hr s hF
  unfold firstB at hf
  rw [Bool.and_eq_true, Bool.and_eq_true] at hf
  obtain ⟨⟨f1, f2⟩, f3⟩ := hf
  exact Upto.firstX hi (Region.noSelect_spec f1) (fun _ _ _ h => h) hzi m listed a w (Region.free_spec hi f2) (by simpa using f3)
    (.inl ⟨wanted_of hr hg, fun w' _ => h w' a w' _ _ _ _ _ hr (Sat.begin0 w')⟩) (fun hz => ⟨hs, s, hF hz⟩)
    (k _ _ (hr.put (Nat.le_of_ble_eq_true hdn) v) s fun hz => hF (by rw [getD_set_ne true (Ne.symm hzi)] at hz; exact hz))
end

def ordN (ops : Array Oper) (z : Nat) : List Oper → List Nat → Array Bool → Bool
  | [], [], _ => true
  | o :: l, i :: is, listed => (onlyB ops listed i || (!isEff o && firstZ ops z listed i) || (noMemN o && firstB ops listed i && !Nat.beq z i)) && (o.dst.isSome || Nat.beq i z || listed.getD z true) && ordN ops z l is (listed.setIfInBounds i true)
  | _, _, _ => false
/-- the operations in their order; 'late': the first store has been -/
def JN (P : Program) (n : Nat) (w0 : World) (own : List Nat) (ops : Array Oper) (F : Hp) (z : Nat) (late : Bool) (l : List Oper) (e : Env) (hs : Hp) (K : Bool → Env → Hp → Prop) : Prop :=
  ∀ (m : Nat) (is : List Nat) (listed : Array Bool) (Z : Env → Hp → Prop), Nums ops l is → ordN ops z l is listed = true → listed.size = ops.size → listed.getD z true = late → (late = false → F ⊆ hs) →
    (∀ late' e' hs', (marks_ is listed).getD z true = late' → (late' = false → F ⊆ hs') → K late' e' hs' → JZ P n w0 own ops F z m (marks_ is listed) e' hs' Z) → JZ P n w0 own ops F z (l.length + m) listed e hs Z

theorem eff_memN {o : Oper} (h : isEff o = true) : noMemN o = false := by
  unfold isEff at h; unfold noMemN
  split <;> simp_all
section
variable {P : Program} {n : Nat} {w0 : World} {own : List Nat} {e : Env} {hs F : Hp} {ops : Array Oper} {rest l : List Oper} {K : Bool → Env → Hp → Prop} {z : Nat} {late : Bool} {m : Nat} {listed : Array Bool} {Z : Env → Hp → Prop}
variable {d : Nat} {ty : TypeId} {pos : String} {aft : Array Edge} {g : Option (Nat × Bool)}

theorem JC.drawN {id : Nat} {Q : Post} {l : List Oper} (z : Nat) (is : List Nat) (F : Hp) (hF : F ⊆ hs) (hm : P.follows .mixedOrders = true)
    (hB : (ordN l.toArray z (pickL l is) is (Array.replicate l.length false) && doneB l.toArray (marks_ is (Array.replicate l.length false)) && Nat.beq (pickL l is).length l.length && Nat.beq is.length l.length && Nat.blt z l.length) = true)
    (h : JN P n w0 own l.toArray F z false (pickL l is) e hs (fun _ e' hs' => Q .normal e' hs')) : JC P n w0 own (.region id l.toArray true) e hs Q := by
  rw [Bool.and_eq_true, Bool.and_eq_true, Bool.and_eq_true, Bool.and_eq_true] at hB
  obtain ⟨⟨⟨⟨h1, h2⟩, h3⟩, h4⟩, h5⟩ := hB
  have h3 := Nat.eq_of_beq_eq_true h3
  have h4 := Nat.eq_of_beq_eq_true h4
  have h5 : z < l.length := Nat.le_of_ble_eq_true h5
  have key : ∀ (is : List Nat), (pickL l is).length = is.length → Nums l.toArray (pickL l is) is := by
    intro is
    induction is with
    | nil => intro _; trivial
    | cons i is ih =>
      intro hl
      unfold pickL at hl ⊢
      cases ho : l[i]? with
      | none => rw [ho] at hl; simp at hl
      | some o =>
        rw [ho] at hl
        simp only at hl ⊢
        exact ⟨by simpa using ho, ih (by simpa using hl)⟩
  refine JC.drawZ z F hF hm ?_
  have := h 0 is (Array.replicate l.length false) (fun e hs => Q .normal e hs) (key _ (by omega)) h1 (by simp) (by simp [h5]) (fun _ => hF) (fun _ e' hs' _ _ ke => JZ.done h2 ke)
  rw [h3] at this
  simpa using this
theorem JN.nil (h : K late e hs) : JN P n w0 own ops F z late [] e hs K := fun m is listed Z hn _ hsz hl hF hz => by
  cases is with
  | nil => rw [List.length_nil, Nat.zero_add]; exact hz late e hs hl hF h
  | cons i is => exact hn.elim
theorem JN.mono {K' : Bool → Env → Hp → Prop} (h : JN P n w0 own ops F z late l e hs K) (kk : ∀ b e hs, K b e hs → K' b e hs) : JN P n w0 own ops F z late l e hs K' :=
  fun m k listed Z h1 h2 h3 h4 h5 hz => h m k listed Z h1 h2 h3 h4 h5 fun b e' hs' f1 f ke => hz b e' hs' f1 f (kk b e' hs' ke)
theorem JN.sub {e2 : Env} (hs' : Sub e2 e) (h : JN P n w0 own ops F z late l e2 hs K) : JN P n w0 own ops F z late l e hs K :=
  fun m k listed Z h1 h2 h3 h4 h5 hz a w hr s hF => h m k listed Z h1 h2 h3 h4 h5 hz a w (hr.sub hs') s hF
theorem JN.splitB {t : Nat} {b : Bool} (ht : get e t = some (.bool b)) (h1 : b = true → JN P n w0 own ops F z late l ((t, .bool true) :: e) hs K)
    (h0 : b = false → JN P n w0 own ops F z late l ((t, .bool false) :: e) hs K) : JN P n w0 own ops F z late l e hs K := by
  cases b
  · exact JN.sub (sub_same' ht) (h0 rfl)
  · exact JN.sub (sub_same' ht) (h1 rfl)
/-- a value, ahead of the first store -/
theorem JN.v {op : Op} {v : Value} (h : ∀ hs', F ⊆ hs' → Val P n w0 own e hs' op v) (kk : JN P n w0 own ops F z false rest ((d, v) :: e) hs K) (hdn : Nat.blt d n = true := by rfl) (hg : wantB ops e g = some true := by rfl)
    (hzo : ((ops[z]?).map (·.dst.isNone)) = some true := by rfl) (hx : noMemN ⟨some d, op, ty, pos, aft, g⟩ = false := by rfl) :
    JN P n w0 own ops F z false (⟨some d, op, ty, pos, aft, g⟩ :: rest) e hs K := by
  intro m is listed Z h1 h2 h3 h4 h5 hz
  cases is with
  | nil => exact h1.elim
  | cons k is =>
  obtain ⟨h0, h1⟩ := h1
  unfold ordN at h2
  rw [Bool.and_eq_true, Bool.and_eq_true] at h2
  obtain ⟨⟨h2a, _⟩, h2b⟩ := h2
  rw [hx, Bool.false_and, Bool.false_and, Bool.or_false, Bool.or_eq_true, Bool.and_eq_true] at h2a
  have h2 := And.intro h2a h2b
  have hkz : k ≠ z := by rintro rfl; rw [h0] at hzo; simp at hzo
  have tail : JZ P n w0 own ops F z (rest.length + m) (listed.setIfInBounds k true) ((d, v) :: e) hs Z := kk m is _ Z h1 h2.2 (by simpa using h3) (set_lt h4 (.inr hkz)) h5 hz
  rw [show (⟨some d, op, ty, pos, aft, g⟩ :: rest : List Oper).length + m = (rest.length + m) + 1 from by simp; omega]
  rcases h2.1 with ho | ⟨_, hf⟩
  · exact JZ.v1 k h0 ho (h hs (h5 rfl)) tail rfl hdn hg
  · exact JZ.v k h0 hf h tail hdn hg
/-- a value behind it -/
theorem JN.w {op : Op} {v : Value} (h : Val P n w0 own e hs op v) (kk : JN P n w0 own ops F z true rest ((d, v) :: e) hs K) (hdn : Nat.blt d n = true := by rfl) (hg : wantB ops e g = some true := by rfl) (hx : noMemN ⟨some d, op, ty, pos, aft, g⟩ = false := by rfl) :
    JN P n w0 own ops F z true (⟨some d, op, ty, pos, aft, g⟩ :: rest) e hs K := by
  intro m is listed Z h1 h2 h3 h4 h5 hz
  cases is with
  | nil => exact h1.elim
  | cons k is =>
  obtain ⟨h0, h1⟩ := h1
  unfold ordN at h2
  rw [Bool.and_eq_true, Bool.and_eq_true] at h2
  obtain ⟨⟨h2a, _⟩, h2b⟩ := h2
  rw [hx, Bool.false_and, Bool.false_and, Bool.or_false, Bool.or_eq_true, Bool.and_eq_true] at h2a
  have h2 := And.intro h2a h2b
  have tail : JZ P n w0 own ops F z (rest.length + m) (listed.setIfInBounds k true) ((d, v) :: e) hs Z := kk m is _ Z h1 h2.2 (by simpa using h3) (set_lt h4 (.inl rfl)) (fun h => by cases h) hz
  rw [show (⟨some d, op, ty, pos, aft, g⟩ :: rest : List Oper).length + m = (rest.length + m) + 1 from by simp; omega]
  rcases h2.1 with ho | ⟨_, hf⟩
  · exact JZ.v1 k h0 ho h tail rfl hdn hg
  · unfold firstZ at hf
    rw [h4] at hf
    simp at hf
/-- what touches no memory, at any time -/
theorem JN.x {op : Op} {v : Value} (h : ∀ w0 own hs, Val P n w0 own e hs op v) (kk : JN P n w0 own ops F z late rest ((d, v) :: e) hs K) (hdn : Nat.blt d n = true := by rfl) (hg : wantB ops e g = some true := by rfl)
    (hzo : ((ops[z]?).map (·.dst.isNone)) = some true := by rfl) :
    JN P n w0 own ops F z late (⟨some d, op, ty, pos, aft, g⟩ :: rest) e hs K := by
  intro m is listed Z h1 h2 h3 h4 h5 hz
  cases is with
  | nil => exact h1.elim
  | cons k is =>
  obtain ⟨h0, h1⟩ := h1
  unfold ordN at h2
  rw [Bool.and_eq_true, Bool.and_eq_true] at h2
  obtain ⟨⟨h2a, _⟩, h2b⟩ := h2
  rw [Bool.or_eq_true, Bool.or_eq_true, Bool.and_eq_true, Bool.and_eq_true, Bool.and_eq_true] at h2a
  have hkz : k ≠ z := by rintro rfl; rw [h0] at hzo; simp at hzo
  have tail : JZ P n w0 own ops F z (rest.length + m) (listed.setIfInBounds k true) ((d, v) :: e) hs Z := kk m is _ Z h1 h2b (by simpa using h3) (set_lt h4 (.inr hkz)) h5 hz
  rw [show (⟨some d, op, ty, pos, aft, g⟩ :: rest : List Oper).length + m = (rest.length + m) + 1 from by simp; omega]
  rcases h2a with (ho | ⟨_, hf⟩) | ⟨⟨_, hf⟩, _⟩
  · exact JZ.v1 k h0 ho (h _ _ _) tail rfl hdn hg
  · exact JZ.v k h0 hf (fun hs' _ => h _ _ _) tail hdn hg
  · exact JZ.xN k h0 hf (Ne.symm hkz) (fun w => h _ _ _) tail hdn hg
/-- what works on memory, and leaves a value -/
theorem JN.ef {op : Op} {R : Value → Hp → Prop} (h : Eff P n w0 own e hs op R) (hF : ∀ v hs', R v hs' → F ⊆ hs → F ⊆ hs') (kk : ∀ v hs', R v hs' → JN P n w0 own ops F z late rest ((d, v) :: e) hs' K)
    (hE : isEff ⟨some d, op, ty, pos, aft, g⟩ = true := by rfl) (hdn : Nat.blt d n = true := by rfl) (hg : wantB ops e g = some true := by rfl) (hzo : ((ops[z]?).map (·.dst.isNone)) = some true := by rfl) : JN P n w0 own ops F z late (⟨some d, op, ty, pos, aft, g⟩ :: rest) e hs K := by
  intro m is listed Z h1 h2 h3 h4 h5 hz
  cases is with
  | nil => exact h1.elim
  | cons k is =>
  obtain ⟨h0, h1⟩ := h1
  unfold ordN at h2
  rw [Bool.and_eq_true, Bool.and_eq_true] at h2
  obtain ⟨⟨h2a, _⟩, h2b⟩ := h2
  rw [Bool.or_eq_true, Bool.or_eq_true, hE, eff_memN hE] at h2a
  have h2 := And.intro h2a h2b
  have hkz : k ≠ z := by rintro rfl; rw [h0] at hzo; simp at hzo
  have ho : onlyB ops listed k = true := by
    rcases h2.1 with (h | h) | h
    · exact h
    · simp at h
    · simp at h
  rw [show (⟨some d, op, ty, pos, aft, g⟩ :: rest : List Oper).length + m = (rest.length + m) + 1 from by simp; omega]
  exact JZ.ef k h0 ho h (fun v hs' r => kk v hs' r m is _ Z h1 h2.2 (by simpa using h3) (set_lt h4 (.inr hkz)) (fun e => hF v hs' r (h5 e)) hz) hF rfl hdn hg
/-- the first store -/
theorem JN.st {op : Op} {hs' : Hp} (h : Eff P n w0 own e hs op (fun v h => v = undef ∧ h = hs')) (kk : JN P n w0 own ops F z true rest e hs' K)
    (hE : isEff ⟨none, op, ty, pos, aft, g⟩ = true := by rfl) (hg : wantB ops e g = some true := by rfl) : JN P n w0 own ops F z false (⟨none, op, ty, pos, aft, g⟩ :: rest) e hs K := by
  intro m is listed Z h1 h2 h3 h4 h5 hz
  cases is with
  | nil => exact h1.elim
  | cons k is =>
  obtain ⟨h0, h1⟩ := h1
  unfold ordN at h2
  rw [Bool.and_eq_true, Bool.and_eq_true] at h2
  obtain ⟨⟨h2a, h2c⟩, h2b⟩ := h2
  rw [Bool.or_eq_true, Bool.or_eq_true, hE, eff_memN hE] at h2a
  have h2 := And.intro h2a h2b
  obtain rfl : k = z := by
    rw [h4] at h2c
    exact Nat.eq_of_beq_eq_true (by simpa using h2c)
  have ho : onlyB ops listed k = true := by
    rcases h2.1 with (h | h) | h
    · exact h
    · simp at h
    · simp at h
  have hk : k < listed.size := by rw [h3]; exact (Array.getElem?_eq_some_iff.1 h0).1
  rw [show (⟨none, op, ty, pos, aft, g⟩ :: rest : List Oper).length + m = (rest.length + m) + 1 from by simp; omega]
  refine JZ.st h0 ho (Nat.ble_eq_true_of_le hk) h (kk m is _ Z h1 h2.2 (by simpa using h3) (by simp [hk]) (fun h => by cases h) hz) hg
/-- a store behind it -/
theorem JN.st2 {op : Op} {hs' : Hp} (h : Eff P n w0 own e hs op (fun v h => v = undef ∧ h = hs')) (kk : JN P n w0 own ops F z true rest e hs' K)
    (hE : isEff ⟨none, op, ty, pos, aft, g⟩ = true := by rfl) (hg : wantB ops e g = some true := by rfl) : JN P n w0 own ops F z true (⟨none, op, ty, pos, aft, g⟩ :: rest) e hs K := by
  intro m is listed Z h1 h2 h3 h4 h5 hz
  cases is with
  | nil => exact h1.elim
  | cons k is =>
  obtain ⟨h0, h1⟩ := h1
  unfold ordN at h2
  rw [Bool.and_eq_true, Bool.and_eq_true] at h2
  obtain ⟨⟨h2a, h2c⟩, h2b⟩ := h2
  rw [Bool.or_eq_true, Bool.or_eq_true, hE, eff_memN hE] at h2a
  have h2 := And.intro h2a h2b
  have ho : onlyB ops listed k = true := by
    rcases h2.1 with (h | h) | h
    · exact h
    · simp at h
    · simp at h
  rw [show (⟨none, op, ty, pos, aft, g⟩ :: rest : List Oper).length + m = (rest.length + m) + 1 from by simp; omega]
  have hl := set_lt (k := k) (listed := listed) (z := z) h4 (.inl rfl)
  rcases Decidable.em (z = k) with rfl | hne
  · -- z has been: it cannot come up again
    have hr : Region.ready .any ops listed = [z] := by simpa [onlyB] using ho
    have hm : z ∈ Region.ready .any ops listed := by rw [hr]; simp
    obtain ⟨hu, _⟩ := mem_ready.1 hm
    have hk : z < listed.size := by rw [h3]; exact (Array.getElem?_eq_some_iff.1 h0).1
    simp [hk] at hu h4
    rw [hu] at h4; cases h4
  · exact JZ.st2 k h0 ho h4 (by cases h : Nat.beq z k; rfl; exact absurd (Nat.eq_of_beq_eq_true h) hne) h (kk m is _ Z h1 h2.2 (by simpa using h3) hl (fun h => by cases h) hz) hg
end
section
variable {P : Program} {n : Nat} {w0 : World} {own : List Nat} {e : Env} {hs F : Hp} {ops : Array Oper} {K : Bool → Env → Hp → Prop} {z : Nat} {late : Bool} {rest : List Oper}
variable {d : Nat} {ty : TypeId} {pos : String} {aft : Array Edge} {g : Option (Nat × Bool)}
/-- a call that leaves a value alone -/
theorem JQ.pc {f : Nat} {fo : Operand} {args : List Operand} {at_ : Array TypeId} {cap vals : List Value} {v : Value}
    (hf : ev e fo = some (.func (.func f) #[] ⟨cap⟩)) (ha : evs e args = some vals) (hc : ∀ w, Sat w0 own hs w → Is P f (vals ++ cap) w v) (kk : JQ P n w0 own ops F z late rest ((d, v) :: e) hs K) [hg : FnT P f]
    (hdn : Nat.blt d n = true := by rfl) (hw : wantB ops e g = some true := by rfl) (hzo : ((ops[z]?).map (·.dst.isNone)) = some true := by rfl) :
    JQ P n w0 own ops F z late (⟨some d, .call { callee := .value fo, args := ⟨args⟩, argTypes := at_ }, ty, pos, aft, g⟩ :: rest) e hs K :=
  JQ.ef (.call0 hf ha hc) (fun _ _ ⟨_, ⟨_, h2⟩, h3⟩ f => by subst h2; subst h3; exact f) (fun _ _ ⟨_, ⟨h1, h2⟩, h3⟩ => by subst h1; subst h2; subst h3; exact kk) rfl hdn hw hzo
theorem JN.pc {f : Nat} {fo : Operand} {args : List Operand} {at_ : Array TypeId} {cap vals : List Value} {v : Value}
    (hf : ev e fo = some (.func (.func f) #[] ⟨cap⟩)) (ha : evs e args = some vals) (hc : ∀ w, Sat w0 own hs w → Is P f (vals ++ cap) w v) (kk : JN P n w0 own ops F z late rest ((d, v) :: e) hs K) [hg : FnT P f]
    (hdn : Nat.blt d n = true := by rfl) (hw : wantB ops e g = some true := by rfl) (hzo : ((ops[z]?).map (·.dst.isNone)) = some true := by rfl) :
    JN P n w0 own ops F z late (⟨some d, .call { callee := .value fo, args := ⟨args⟩, argTypes := at_ }, ty, pos, aft, g⟩ :: rest) e hs K :=
  JN.ef (.call0 hf ha hc) (fun _ _ ⟨_, ⟨_, h2⟩, h3⟩ f => by subst h2; subst h3; exact f) (fun _ _ ⟨_, ⟨h1, h2⟩, h3⟩ => by subst h1; subst h2; subst h3; exact kk) rfl hdn hw hzo
end
end V
end Go

/- VPK: guards that are known: picks with a known condition, runs of operations that are passed over. -/
namespace Go
namespace V
open Go.RowKit
set_option linter.unusedVariables false
set_option linter.unusedSimpArgs false

section
variable {P : Program} {n : Nat} {w0 : World} {own : List Nat} {e : Env} {hs F : Hp} {ops : Array Oper} {l : List Oper} {K : Env → Hp → Prop}
theorem Val.pickT {c x y : Operand} {u v : Value} (hc : ev e c = some (.bool true)) (hx : ev e x = some u) (hy : ev e y = some v) : Val P n w0 own e hs (.pick c x y) u := by
  have := Val.pick (P := P) (n := n) (w0 := w0) (own := own) (hs := hs) hc hx hy
  simpa using this
theorem Val.pickF {c x y : Operand} {u v : Value} (hc : ev e c = some (.bool false)) (hx : ev e x = some u) (hy : ev e y = some v) : Val P n w0 own e hs (.pick c x y) v := by
  have := Val.pick (P := P) (n := n) (w0 := w0) (own := own) (hs := hs) hc hx hy
  simpa using this
theorem Val.yes {op : Op} {p : Prop} [Decidable p] (h : Val P n w0 own e hs op (.bool (decide p))) (hp : p) : Val P n w0 own e hs op (.bool true) := by rwa [decide_eq_true hp] at h
theorem Val.no {op : Op} {p : Prop} [Decidable p] (h : Val P n w0 own e hs op (.bool (decide p))) (hp : ¬ p) : Val P n w0 own e hs op (.bool false) := by rwa [decide_eq_false hp] at h
theorem Val.convE {T U : Nat} {x : Operand} {q r : IntKind} {i : Int} (j : Int) (hx : ev e x = some (.int q i)) [hT : IntT P T q] [hU : IntT P U r] (hj : r.wrap i = j) : Val P n w0 own e hs (.convert T U x) (.int r j) := hj ▸ Val.conv hx
/-- k operations are passed over -/
theorem JK.skn {e1 : Env} (k : Nat) (h : skB ops n (l.take k) e = some e1) (kk : JK P n w0 own ops F (l.drop k) e hs K) : JK P n w0 own ops F l e hs K := by
  rw [← List.take_append_drop k l]
  exact JK.app (JK.skips h fun e1' hs' => .nil (JK.sub hs' kk))
theorem JL.skn {e1 : Env} (k : Nat) (h : skB ops n (l.take k) e = some e1) (kk : JL P n w0 own ops (l.drop k) e hs K) : JL P n w0 own ops l e hs K := by
  rw [← List.take_append_drop k l]
  exact JL.app (JL.skips h fun e1' hs' => .nil (fun a w hr s => kk a w (hr.sub hs') s))
end
end V
end Go

/- Surveil: a watch in memory; its profiles, changed; its orders. -/
namespace Go.Proofs.Ytcbppikkoelimaa
open Go.V
set_option linter.unusedVariables false
set_option linter.unusedSimpArgs false

abbrev wcells (w : Wn) (n : Int) (mo mp ma : Nat) (vl vc : Value) : List Value := [.int .i64 w.span, .int .i64 w.lay, .int .i64 w.rat, .int .i64 w.lst, .int .i64 w.mov, .int .u64 n, .map (some mo), .map (some mp), .map (some ma), vl, vc]
abbrev Wb (b : Nat) (w : Wn) (n : Int) (mo mp ma : Nat) (vl vc : Value) : Nat × Ch := (b, .cells (wcells w n mo mp ma vl vc) 77)
abbrev M64 (m : Nat) (es : List ME) (c : Nat) : Nat × Ch := (m, Ch.obj (mapOf .u64 es c))
abbrev M32 (m : Nat) (es : List ME) (c : Nat) : Nat × Ch := (m, Ch.obj (mapOf .u32 es c))
def snrows (l : List Sn) : List Value := l.flatMap Sn.cells
def csrows (l : List Cs) : List Value := l.flatMap Cs.cells
def alrows (l : List Al) : List Value := l.flatMap Al.cells
abbrev SnOwn (v : Value) (l : List Sn) (h : Hp) : Prop := OwnS 81 8 v l.length (snrows l) h
abbrev CsOwn (v : Value) (l : List Cs) (h : Hp) : Prop := OwnS 48 6 v l.length (csrows l) h
abbrev AlOwn (v : Value) (l : List Al) (h : Hp) : Prop := OwnS 46 5 v l.length (alrows l) h
theorem snrows_app (a b : List Sn) : snrows (a ++ b) = snrows a ++ snrows b := by simp [snrows]
theorem csrows_app (a b : List Cs) : csrows (a ++ b) = csrows a ++ csrows b := by simp [csrows]
theorem alrows_app (a b : List Al) : alrows (a ++ b) = alrows a ++ alrows b := by simp [alrows]
/-- where a watch lies -/
structure WP where
  b : Nat
  mo : Nat
  mp : Nat
  ma : Nat
/-- what lies there -/
structure WZ where
  eo : List ME
  co : Nat
  ep : List ME
  cp : Nat
  ea : List ME
  ca : Nat
  vl : Value
  hl : Hp
  vc : Value
  hc : Hp
abbrev WZ.H (p : WP) (w : Wn) (n : Int) (z : WZ) : Hp := Wb p.b w n p.mo p.mp p.ma z.vl z.vc :: M64 p.mo z.eo z.co :: M32 p.mp z.ep z.cp :: M32 p.ma z.ea z.ca :: (z.hl ++ z.hc)
structure WI (W : Wt) (z : WZ) : Prop where
  oo : MOk z.eo z.co
  o : ∀ id, mget id z.eo = (W.K id).map fun k => .agg ⟨k.cells⟩
  po : MOk z.ep z.cp
  p : ∀ m, (mget m z.ep).getD (.agg ⟨pf0.cells⟩) = .agg ⟨(W.P m).cells⟩
  ao : MOk z.ea z.ca
  a : ∀ m, mget m z.ea = if W.A m then some (.bool true) else none
  l : SnOwn z.vl W.last z.hl
  c : CsOwn z.vc W.cs z.hc
abbrev Pb (b : Nat) (p : Pf) : Nat × Ch := (b, .cells p.cells 119)
/-- what a closure does to a profile -/
abbrev ClOk (g : Nat) (cap : List Value) (w : World) (bp : Nat) (p p' : Pf) : Prop := Does Try.prog g (.pointer (some ⟨bp, 0, none⟩) :: cap) [Pb bp p] w (fun _ hs => hs = [Pb bp p'])
theorem clAcks (w : World) (bp : Nat) (p : Pf) (h : -1 ≤ p.o ∧ p.o ≤ 100000000000) : ClOk 44 [] w bp p { p with o := p.o + 1 } := by
  refine Does.of (n := 9) Try.func44 rfl rfl rfl rfl ?_
  refine .region (.v (.move rfl) (.v (.nilCheck rfl) (.v (.fieldAddr rfl) (.v (.load (v := .int .i64 p.o) rfl (.one rfl)) (.v (.addi rfl rfl (by omega)) (.v (.nilCheck rfl) (.v (.fieldAddr rfl) (.st (.storeL rfl rfl rfl) (.nil ?_)))))))))
  exact ⟨[], trivial, rfl⟩
theorem clCanc (w : World) (bp : Nat) (p : Pf) (h : -1 ≤ p.c ∧ p.c ≤ 100000000000) : ClOk 50 [] w bp p { p with c := p.c + 1 } := by
  refine Does.of (n := 9) Try.func50 rfl rfl rfl rfl ?_
  refine .region (.v (.move rfl) (.v (.nilCheck rfl) (.v (.fieldAddr rfl) (.v (.load (v := .int .i64 p.c) rfl (.one rfl)) (.v (.addi rfl rfl (by omega)) (.v (.nilCheck rfl) (.v (.fieldAddr rfl) (.st (.storeL rfl rfl rfl) (.nil ?_)))))))))
  exact ⟨[], trivial, rfl⟩
theorem clTrad (w : World) (bp : Nat) (p : Pf) (h : -1 ≤ p.t ∧ p.t ≤ 100000000000) : ClOk 47 [] w bp p { p with t := p.t + 1 } := by
  refine Does.of (n := 9) Try.func47 rfl rfl rfl rfl ?_
  refine .region (.v (.move rfl) (.v (.nilCheck rfl) (.v (.fieldAddr rfl) (.v (.load (v := .int .i64 p.t) rfl (.one rfl)) (.v (.addi rfl rfl (by omega)) (.v (.nilCheck rfl) (.v (.fieldAddr rfl) (.st (.storeL rfl rfl rfl) (.nil ?_)))))))))
  exact ⟨[], trivial, rfl⟩
theorem clAler (w : World) (bp : Nat) (p : Pf) (h : -1 ≤ p.a ∧ p.a ≤ 100000000000) : ClOk 70 [] w bp p { p with a := p.a + 1 } := by
  refine Does.of (n := 9) Try.func70 rfl rfl rfl rfl ?_
  refine .region (.v (.move rfl) (.v (.nilCheck rfl) (.v (.fieldAddr rfl) (.v (.load (v := .int .i64 p.a) rfl (.one rfl)) (.v (.addi rfl rfl (by omega)) (.v (.nilCheck rfl) (.v (.fieldAddr rfl) (.st (.storeL rfl rfl rfl) (.nil ?_)))))))))
  exact ⟨[], trivial, rfl⟩
theorem evQ {w0 : World} {own : List Nat} {hs : Hp} {b : Nat} {e : Ev} (h : Rd w0 own (some ⟨b, 0, none⟩) e.cells) : At w0 own hs ⟨b, 0 + 9, none⟩ [.int .u64 e.q] := Rd.cell h (i := 9) rfl
theorem wrap_u64 (x : Int) : IntKind.u64.wrap x = x % 18446744073709551616 := by simp [IntKind.wrap, IntKind.signed, IntKind.bits]
theorem clBuy (w : World) (bp be : Nat) (p : Pf) (e : Ev) (h : Rd w [bp] (some ⟨be, 0, none⟩) e.cells) : ClOk 48 [.pointer (some ⟨be, 0, none⟩)] w bp p { p with b := (p.b + e.q) % 18446744073709551616 } := by
  refine Does.of (n := 12) Try.func48 rfl rfl rfl rfl ?_
  refine (.drawQ 9 [0, 1, 2, 3, 4, 5, 6, 7, 8, 9] [Pb bp p] (fun _ h => h) (by kernel_rfl) (by kernel_rfl) ?_)
  refine .v (fun _ f => .move rfl) (.v (fun _ f => .nilCheck rfl) (.v (fun _ f => .fieldAddr rfl) (.v (fun _ f => .load (v := .int .u64 p.b) rfl (.one (hb := .sub f) rfl)) (.v (fun _ f => .fieldAddr rfl) (.v (fun _ f => .load (v := .int .u64 e.q) rfl (evQ h)) (.v (fun _ f => .add rfl rfl) (.v (fun _ f => .nilCheck rfl) (.v (fun _ f => .fieldAddr rfl) (.st (.storeL rfl rfl rfl) (.nil ?_))))))))))
  refine ⟨[], trivial, ?_⟩
  rw [wrap_u64]
theorem clSell (w : World) (bp be : Nat) (p : Pf) (e : Ev) (h : Rd w [bp] (some ⟨be, 0, none⟩) e.cells) : ClOk 49 [.pointer (some ⟨be, 0, none⟩)] w bp p { p with s := (p.s + e.q) % 18446744073709551616 } := by
  refine Does.of (n := 12) Try.func49 rfl rfl rfl rfl ?_
  refine (.drawQ 9 [0, 1, 2, 3, 4, 5, 6, 7, 8, 9] [Pb bp p] (fun _ h => h) (by kernel_rfl) (by kernel_rfl) ?_)
  refine .v (fun _ f => .move rfl) (.v (fun _ f => .nilCheck rfl) (.v (fun _ f => .fieldAddr rfl) (.v (fun _ f => .load (v := .int .u64 p.s) rfl (.one (hb := .sub f) rfl)) (.v (fun _ f => .fieldAddr rfl) (.v (fun _ f => .load (v := .int .u64 e.q) rfl (evQ h)) (.v (fun _ f => .add rfl rfl) (.v (fun _ f => .nilCheck rfl) (.v (fun _ f => .fieldAddr rfl) (.st (.storeL rfl rfl rfl) (.nil ?_))))))))))
  refine ⟨[], trivial, ?_⟩
  rw [wrap_u64]
theorem chg_zero (W : Wt) (f : Pf → Pf) : W.chg 0 f = W := if_pos rfl
theorem chg_not (W : Wt) {m : Int} (h : m ≠ 0) (f : Pf → Pf) : W.chg m f = { W with P := fun x => if x = m then f (W.P m) else W.P x } := if_neg h
set_option maxRecDepth 20000 in
set_option maxHeartbeats 1000000 in
theorem changed_ok (w0 : World) (p : WP) (wn : Wn) (nn : Int) (W : Wt) (z : WZ) (hI : WI W z) (m : Int) (g : Nat) (cap : List Value) (f : Pf → Pf) [FnT Try.prog g] (A : Option Addr) (vs : List Value) (hA : Rd w0 (bl (z.H p wn nn)) A vs)
    (hg : m ≠ 0 → ∀ (w : World) (bp : Nat), Rd w [bp] A vs → ClOk g cap w bp (W.P m) (f (W.P m))) :
    Does Try.prog 43 [.pointer (some ⟨p.b, 0, none⟩), .int .u32 m, .func (.func g) #[] ⟨cap⟩] (z.H p wn nn) w0
      (fun v hs => ∃ z', v = .agg ⟨((W.chg m f).P m).cells⟩ ∧ hs = z'.H p wn nn ∧ WI (W.chg m f) z') := by
  obtain ⟨b, mo, mp, ma⟩ := p
  obtain ⟨eo, co, ep, cp, ea, ca, vl, hl, vc, hc⟩ := z
  dsimp only at hA ⊢
  have hP := hI.p m
  refine Does.less (Does.of (n := 25) Try.func43 rfl rfl rfl rfl ?_)
  refine .seq ((.region (.nw .alloc fun b6 => (.nil ?_))))
  refine .seq ((.region (.v (.move rfl) (.v (.nilCheck rfl) (.v (.fieldAddr rfl) (.v (.load (v := .map (some mp)) rfl (.one rfl)) (.v (.move rfl) (.v (.lookupE (es := ep) (c := cp) (v := .agg ⟨(W.P m).cells⟩) rfl rfl hP) (.nw .alloc fun b7 => (.st (.sw rfl rfl) (.nil ?_)))))))))))
  by_cases hm : m = 0
  · subst hm
    refine .seq (.seq ((.region (.v (.move rfl) (.v (.nei rfl rfl) (.nil ?_))))))
    refine .cond_dec rfl (fun h => absurd rfl h) (fun _ => .skip ?_)
    refine .seq ((.region (.v (.loadA (vs := (W.P 0).cells) rfl .whole rfl) (.st (.sw rfl rfl) (.nil ?_)))))
    exact .ret ⟨[_], ⟨⟨_, rfl, .inr ⟨6, _, inferInstance, rfl, rfl, .whole⟩⟩, trivial⟩, WZ.H ⟨b, mo, mp, ma⟩ wn nn ⟨eo, co, ep, cp, ea, ca, vl, hl, vc, hc⟩, fun _ s => s.take, ⟨eo, co, ep, cp, ea, ca, vl, hl, vc, hc⟩, by rw [chg_zero]; rfl, rfl, by rw [chg_zero]; exact hI⟩
  · rw [chg_not W hm]
    have hg := hg hm
    dsimp only
    rw [if_pos rfl]
    refine .seq (.seq ((.region (.v (.move rfl) (.v (.nei rfl rfl) (.nil ?_))))))
    refine .cond_dec rfl (fun _ => ?_) (fun h => absurd hm h)
    refine .seq ((.region (.v (.move rfl) ?_)))
    refine .ef (.callT [Pb b7 (W.P m)] rfl rfl fun w s => hg w b7 (hA.keep s (fun y hy => s.mine y (by simp at hy; subst hy; simp [bl])))) ?_
    rintro _ _ ⟨_, rfl, rfl⟩
    refine .nil ?_
    generalize f (W.P m) = P'
    refine (.drawQ 6 [0, 1, 2, 3, 4, 5, 6] [Pb b7 P', Wb b wn nn mo mp ma vl vc, M32 mp ep cp] (by intro y hy; simp at hy ⊢; rcases hy with rfl | rfl | rfl <;> simp) (by kernel_rfl) (by kernel_rfl) ?_)
    refine .v (fun _ f => .move rfl) (.v (fun _ f => .nilCheck rfl) (.v (fun _ f => .fieldAddr rfl) (.v (fun _ f => .load (v := .map (some mp)) rfl (.one (hb := .sub f) rfl)) (.v (fun _ f => .move rfl) (.v (fun _ f => .loadA (vs := P'.cells) rfl (.whole (hb := .sub f)) rfl) ?_)))))
    refine .st (.mapUpdate (es := ep) (c := cp) rfl rfl rfl) (.nil ?_)
    refine .seq ((.region (.v (.loadA (vs := P'.cells) rfl .whole rfl) (.st (.sw rfl rfl) (.nil ?_)))))
    refine .ret ⟨[_], ⟨⟨_, rfl, .inr ⟨6, _, inferInstance, rfl, rfl, .whole⟩⟩, trivial⟩, WZ.H ⟨b, mo, mp, ma⟩ wn nn ⟨eo, co, (mset m (.agg ⟨P'.cells⟩) ep cp).1, (mset m (.agg ⟨P'.cells⟩) ep cp).2, ea, ca, vl, hl, vc, hc⟩, fun _ s => s.take, ⟨eo, co, (mset m (.agg ⟨P'.cells⟩) ep cp).1, (mset m (.agg ⟨P'.cells⟩) ep cp).2, ea, ca, vl, hl, vc, hc⟩, rfl, rfl, ⟨hI.oo, hI.o, hI.po.set _ _, fun x => ?_, hI.ao, hI.a, hI.l, hI.c⟩⟩
    dsimp only
    rw [mget_set]
    split
    · rfl
    · exact hI.p x
/-- an order traded -/
theorem WI.who {W : Wt} {z : WZ} (h : WI W z) (id : Int) : True := trivial
set_option maxRecDepth 20000 in
set_option maxHeartbeats 1000000 in
theorem part_ok (w0 : World) (p : WP) (wn : Wn) (nn : Int) (W : Wt) (z : WZ) (hI : WI W z) (id : Int) :
    Does Try.prog 46 [.pointer (some ⟨p.b, 0, none⟩), .int .u64 id] (z.H p wn nn) w0
      (fun v hs => ∃ z', v = .agg ⟨[.int .u32 (W.who id), .int .i64 (W.side id)]⟩ ∧ hs = z'.H p wn nn ∧ WI (W.part id) z') := by
  obtain ⟨b, mo, mp, ma⟩ := p
  obtain ⟨eo, co, ep, cp, ea, ca, vl, hl, vc, hc⟩ := z
  have hO := hI.o id
  dsimp only at hO ⊢
  refine Does.less (Does.of (n := 28) Try.func46 rfl rfl rfl rfl ?_)
  refine .seq ((.region (.nw .alloc fun b4 => (.nil ?_))))
  unfold Wt.who Wt.side Wt.part
  cases hK : W.K id with
  | none =>
    rw [hK] at hO
    refine .seq ((.region (.v (.move rfl) (.v (.nilCheck rfl) (.v (.fieldAddr rfl) (.v (.load (v := .map (some mo)) rfl (.one rfl)) (.v (.move rfl) (.v (.lookup2E (es := eo) (c := co) (v := .agg ⟨(⟨0, 0, false⟩ : Kn).cells⟩) (ok := false) rfl rfl (by rw [hO]; rfl) (by rw [hO]; rfl)) (.v (.move rfl) (.v (.extract rfl rfl) (.v (.extract rfl rfl) (.nw .alloc fun b5 => (.st (.sw rfl rfl) (.v (.assign rfl) (.nil ?_)))))))))))))))
    refine .seq (.seq ((.region (.v (.move rfl) (.v (.not rfl) (.nil ?_))))))
    refine .cond rfl (fun _ => ?_) (fun h => absurd h (by simp))
    refine .seq ((.region (.v (.build (out := [.int .u32 0, .int .i64 0]) rfl rfl) (.st (.sw rfl rfl) (.nil ?_)))))
    refine .ret ⟨[_], ⟨⟨_, rfl, .inr ⟨2, _, inferInstance, rfl, rfl, .whole⟩⟩, trivial⟩, WZ.H ⟨b, mo, mp, ma⟩ wn nn ⟨eo, co, ep, cp, ea, ca, vl, hl, vc, hc⟩, fun _ s => s.take, ⟨eo, co, ep, cp, ea, ca, vl, hl, vc, hc⟩, rfl, rfl, ⟨hI.oo, fun x => ?_, hI.po, hI.p, hI.ao, hI.a, hI.l, hI.c⟩⟩
    dsimp only
    rw [hI.o x]
    split
    · rename_i e; rw [e, hK]; rfl
    · rfl
  | some k =>
    rw [hK] at hO
    obtain ⟨km, ks, kt⟩ := k
    refine .seq ((.region (.v (.move rfl) (.v (.nilCheck rfl) (.v (.fieldAddr rfl) (.v (.load (v := .map (some mo)) rfl (.one rfl)) (.v (.move rfl) (.v (.lookup2E (es := eo) (c := co) (v := .agg ⟨(⟨km, ks, kt⟩ : Kn).cells⟩) (ok := true) rfl rfl (by rw [hO]; rfl) (by rw [hO]; rfl)) (.v (.move rfl) (.v (.extract rfl rfl) (.v (.extract rfl rfl) (.nw .alloc fun b5 => (.st (.sw rfl rfl) (.v (.assign rfl) (.nil ?_)))))))))))))))
    refine .seq (.seq ((.region (.v (.move rfl) (.v (.not rfl) (.nil ?_))))))
    refine .cond rfl (fun h => absurd h (by simp)) (fun _ => .skip ?_)
    refine .seq ((.region (.v (.fieldAddr rfl) (.st (.storeL rfl rfl rfl) (.nil ?_)))))
    refine .seq ((.drawQ 6 [0, 1, 2, 3, 4, 5, 6] [(b5, .cells (⟨km, ks, true⟩ : Kn).cells 122), Wb b wn nn mo mp ma vl vc] (by intro y hy; simp at hy ⊢; rcases hy with rfl | rfl <;> simp) (by kernel_rfl) (by kernel_rfl) ?_))
    refine .v (fun _ f => .move rfl) (.v (fun _ f => .nilCheck rfl) (.v (fun _ f => .fieldAddr rfl) (.v (fun _ f => .load (v := .map (some mo)) rfl (.one (hb := .sub f) rfl)) (.v (fun _ f => .move rfl) (.v (fun _ f => .loadA (vs := (⟨km, ks, true⟩ : Kn).cells) rfl (.whole (hb := .sub f)) rfl) ?_)))))
    refine .st (.mapUpdate (es := eo) (c := co) rfl rfl rfl) (.nil ?_)
    refine .seq ((.region (.v (.fieldAddr rfl) (.v (.loadA (vs := [.int .u32 km, .int .i64 ks]) rfl (.chunk (fun j v hj => by match j, hj with | 0, hj => exact hj | 1, hj => exact hj)) rfl) (.st (.sw rfl rfl) (.nil ?_))))))
    refine .ret ⟨[_], ⟨⟨_, rfl, .inr ⟨2, _, inferInstance, rfl, rfl, .whole⟩⟩, trivial⟩, WZ.H ⟨b, mo, mp, ma⟩ wn nn ⟨(mset id (.agg ⟨(⟨km, ks, true⟩ : Kn).cells⟩) eo co).1, (mset id (.agg ⟨(⟨km, ks, true⟩ : Kn).cells⟩) eo co).2, ep, cp, ea, ca, vl, hl, vc, hc⟩, fun _ s => s.take, ⟨(mset id (.agg ⟨(⟨km, ks, true⟩ : Kn).cells⟩) eo co).1, (mset id (.agg ⟨(⟨km, ks, true⟩ : Kn).cells⟩) eo co).2, ep, cp, ea, ca, vl, hl, vc, hc⟩, rfl, rfl, ⟨hI.oo.set _ _, fun x => ?_, hI.po, hI.p, hI.ao, hI.a, hI.l, hI.c⟩⟩
    dsimp only
    rw [mget_set]
    split
    · rename_i e; simp
    · exact hI.o x
end Go.Proofs.Ytcbppikkoelimaa

/- VSF: one field of one record of an own slice is turned. -/
namespace Go
namespace V
open Go.RowKit
set_option linter.unusedVariables false
set_option linter.unusedSimpArgs false

theorem rows_setF {α : Type} (f : α → List Value) (m : Nat) (hm : ∀ a, (f a).length = m) {l : List α} {i k : Nat} (hi : i < l.length) (hk : k < m) {a' : α} {v : Value} (ha : f a' = (f l[i]).set k v) :
    (l.set i a').flatMap f = (l.flatMap f).set (i * m + k) v := by
  have e1 : l.set i a' = l.take i ++ a' :: l.drop (i + 1) := by rw [List.set_eq_take_append_cons_drop, if_pos hi]
  have e2 : l = l.take i ++ l[i] :: l.drop (i + 1) := by rw [← List.drop_eq_getElem_cons hi, List.take_append_drop]
  have hl : ((l.take i).flatMap f).length = i * m := by rw [flatMap_length f m hm, List.length_take]; congr 1; omega
  rw [e1]
  conv => rhs; rw [e2]
  rw [List.flatMap_append, List.flatMap_cons, List.flatMap_append, List.flatMap_cons, List.set_append, if_neg (by rw [hl]; omega), hl, List.set_append, if_pos (by rw [hm]; omega), ha]
  congr 3; omega
/-- a whole record -/
theorem rows_setR {α : Type} (f : α → List Value) (m : Nat) (hm : ∀ a, (f a).length = m) {l : List α} {i : Nat} (hi : i < l.length) (a' : α) : (l.set i a').flatMap f = splice (l.flatMap f) (i * m) (f a') := by
  have e1 : l.set i a' = l.take i ++ a' :: l.drop (i + 1) := by rw [List.set_eq_take_append_cons_drop, if_pos hi]
  have e2 : l = l.take i ++ l[i] :: l.drop (i + 1) := by rw [← List.drop_eq_getElem_cons hi, List.take_append_drop]
  have hl : ((l.take i).flatMap f).length = i * m := by rw [flatMap_length f m hm, List.length_take]; congr 1; omega
  unfold splice
  rw [e1]
  conv => rhs; rw [e2]
  rw [List.flatMap_append, List.flatMap_cons, List.flatMap_append, List.flatMap_cons, hm, List.take_left' hl, ← List.append_assoc (List.flatMap f (l.take i)) (f l[i]), List.drop_left' (by rw [List.length_append, hl, hm]), List.append_assoc]
theorem OwnS.setR {α : Type} (f : α → List Value) {m : Nat} (hm : ∀ a, (f a).length = m) {E b o c n' : Nat} {l : List α} {lc : List Value} (h : OwnS E m (.slice (some ⟨b, o, none⟩) n' c) l.length (l.flatMap f) [(b, .cells lc E)]) {i : Nat} (hi : i < l.length) (a' : α) :
    OwnS E m (.slice (some ⟨b, o, none⟩) n' c) (l.set i a').length ((l.set i a').flatMap f) [(b, .cells (splice lc (o + i * m) (f a')) E)] := by
  have hlt : i * m + (f a').length ≤ l.length * m := by
    have : (i + 1) * m ≤ l.length * m := Nat.mul_le_mul_right _ hi
    rw [Nat.add_mul, Nat.one_mul] at this
    rw [hm]; omega
  have := OwnS.spliceAt (i := i * m) (us := f a') h hlt
  rw [rows_setR f m hm hi, List.length_set]
  exact this
theorem OwnS.setF {α : Type} (f : α → List Value) {m : Nat} (hm : ∀ a, (f a).length = m) {E b o c n' : Nat} {l : List α} {lc : List Value} (h : OwnS E m (.slice (some ⟨b, o, none⟩) n' c) l.length (l.flatMap f) [(b, .cells lc E)]) {i : Nat} (k : Nat) (hi : i < l.length) (hk : k < m) {a' : α} {v : Value} (ha : f a' = (f l[i]).set k v) :
    OwnS E m (.slice (some ⟨b, o, none⟩) n' c) (l.set i a').length ((l.set i a').flatMap f) [(b, .cells (lc.set (o + i * m + k) v) E)] := by
  have hlt : i * m + k < l.length * m := by
    have : (i + 1) * m ≤ l.length * m := Nat.mul_le_mul_right _ hi
    rw [Nat.add_mul, Nat.one_mul] at this
    omega
  have := OwnS.setAt (i := i * m + k) (v := v) h hlt
  rw [rows_setF f m hm hi hk ha, List.length_set, Nat.add_assoc]
  exact this
theorem getP {vs us : List Value} (i : Nat) (h : (vs.drop i).take us.length = us) : ∀ (j : Nat) (v : Value), us[j]? = some v → vs[i + j]? = some v := by
  intro j v hj
  have e : us[j]? = ((vs.drop i).take us.length)[j]? := by rw [h]
  rw [e, List.getElem?_take] at hj
  split at hj
  · rw [List.getElem?_drop] at hj; exact hj
  · cases hj
section
variable {P : Program} {n : Nat} {w0 : World} {own : List Nat} {e : Env} {hs F : Hp} {ops : Array Oper} {K : Env → Hp → Prop} {m : Nat} {listed : Array Bool}
theorem JD.three (i j k : Nat) (hr : (Region.ready .any ops listed == [i, j, k]) = true) (h1 : JS P n w0 own ops F m listed e hs K i) (h2 : JS P n w0 own ops F m listed e hs K j) (h3 : JS P n w0 own ops F m listed e hs K k) : JD P n w0 own ops F (m + 1) listed e hs K := by
  intro a w hr' s hf
  refine wpAnyH_all (rs := [i, j, k]) (by simpa using hr) (by simp) fun x hx => ?_
  simp only [List.mem_cons, List.not_mem_nil, or_false] at hx
  rcases hx with rfl | rfl | rfl
  · exact h1 a w hr' s hf
  · exact h2 a w hr' s hf
  · exact h3 a w hr' s hf
end
end V
end Go

/- Surveil: an alert is told and put to a case. -/
namespace Go.Proofs.Ytcbppikkoelimaa
open Go.V
set_option linter.unusedVariables false
set_option linter.unusedSimpArgs false

theorem cput_new {span at_ r m : Int} {l : List Cs} (h : clast r m l = -1) : cput span at_ r m l = l ++ [⟨r, m, at_, at_, 1, true⟩] := by
  unfold cput
  split
  · rw [if_neg (by rw [h]; intro hh; omega)]
  · rfl
theorem cput_old {span at_ r m : Int} {l : List Cs} {i : Nat} (h : clast r m l = i) (hi : i < l.length) : cput span at_ r m l = if l[i].op = true ∧ at_ - l[i].l ≤ span then l.set i { l[i] with l := at_, n := l[i].n + 1 } else l ++ [⟨r, m, at_, at_, 1, true⟩] := by
  unfold cput
  rw [h]
  simp only [Int.toNat_natCast, List.getElem?_eq_getElem hi]
  have : (0 : Int) ≤ (i : Int) := Int.natCast_nonneg i
  simp only [this, true_and]
/-! ### bounds -/
abbrev Bdc (b x : Int) : Prop := 0 ≤ x ∧ x ≤ b
structure Wt.Bd (j : Int) (W : Wt) : Prop where
  n : 0 ≤ W.n
  p : ∀ m, (Bdc (8 * W.n + j) (W.P m).o ∧ Bdc (8 * W.n + j) (W.P m).c) ∧ Bdc (8 * W.n + j) (W.P m).t ∧ Bdc (8 * W.n + j) (W.P m).a
  z : W.P 0 = pf0
  l : (W.last.length : Int) ≤ 8 * W.n + j
  s : ∀ x ∈ W.last, (0 ≤ x.at_ ∧ x.at_ ≤ W.n) ∧ (0 ≤ x.pr ∧ x.pr < 262144)
  k : (W.cs.length : Int) ≤ 8 * W.n + j
  c : ∀ c ∈ W.cs, Bdc W.n c.l ∧ Bdc (8 * W.n + j) c.n
theorem Wt.Bd.mono {j j' : Int} {W : Wt} (h : W.Bd j) (hj : j ≤ j') : W.Bd j' := by
  refine ⟨h.n, fun m => ?_, h.z, by have := h.l; omega, h.s, by have := h.k; omega, fun c hc => ?_⟩
  · obtain ⟨⟨a, b⟩, c, d⟩ := h.p m
    unfold Bdc at *
    omega
  · obtain ⟨a, b⟩ := h.c c hc
    unfold Bdc at *
    omega
theorem Wt.Bd.chg {j : Int} {W : Wt} (h : W.Bd j) (m : Int) {f : Pf → Pf} (hf : ∀ p, (p.o ≤ (f p).o ∧ (f p).o ≤ p.o + 1) ∧ (p.c ≤ (f p).c ∧ (f p).c ≤ p.c + 1) ∧ (p.t ≤ (f p).t ∧ (f p).t ≤ p.t + 1) ∧ (p.a ≤ (f p).a ∧ (f p).a ≤ p.a + 1)) : (W.chg m f).Bd (j + 1) := by
  have h' := h.mono (show j ≤ j + 1 by omega)
  by_cases hm : m = 0
  · subst hm; rw [chg_zero]; exact h'
  · rw [chg_not W hm]
    refine ⟨h'.n, fun x => ?_, ?_, h'.l, h'.s, h'.k, h'.c⟩
    · dsimp only
      split
      · obtain ⟨⟨a, b⟩, c, d⟩ := h.p m
        obtain ⟨e1, e2, e3, e4⟩ := hf (W.P m)
        unfold Bdc at *
        omega
      · exact h'.p x
    · show (if (0 : Int) = m then _ else _) = _
      rw [if_neg (Ne.symm hm)]; exact h.z
theorem Wt.Bd.al {j : Int} {w : Wn} {z : Wt × List Al} (h : z.1.Bd j) (hj : 0 ≤ 8 * z.1.n + j) (r m o n : Int) : (Wt.al w z r m o n).1.Bd (j + 1) := by
  unfold Wt.al
  split
  · exact h.mono (by omega)
  · have h1 := h.chg m (f := fun p => { p with a := p.a + 1 }) (fun p => by dsimp only; omega)
    have hn : (z.1.chg m fun p => { p with a := p.a + 1 }).n = z.1.n := (Wt.chg_eq _ _ _).1
    have hcs : (z.1.chg m fun p => { p with a := p.a + 1 }).cs = z.1.cs := (Wt.chg_eq _ _ _).2.2.2.2
    generalize z.1.chg m (fun p => { p with a := p.a + 1 }) = W' at h1 hn hcs
    have hk := h.k
    have h0 := h.n
    have hnew : Bdc W'.n (⟨r, m, z.1.n, z.1.n, 1, true⟩ : Cs).l ∧ Bdc (8 * W'.n + (j + 1)) (⟨r, m, z.1.n, z.1.n, 1, true⟩ : Cs).n := by
      unfold Bdc; dsimp only; omega
    have hall : ((cput w.span z.1.n r m z.1.cs).length : Int) ≤ 8 * W'.n + (j + 1) ∧ ∀ c ∈ cput w.span z.1.n r m z.1.cs, Bdc W'.n c.l ∧ Bdc (8 * W'.n + (j + 1)) c.n := by
      have happ : ((z.1.cs ++ [(⟨r, m, z.1.n, z.1.n, 1, true⟩ : Cs)]).length : Int) ≤ 8 * W'.n + (j + 1) ∧ ∀ c ∈ z.1.cs ++ [(⟨r, m, z.1.n, z.1.n, 1, true⟩ : Cs)], Bdc W'.n c.l ∧ Bdc (8 * W'.n + (j + 1)) c.n := by
        refine ⟨by rw [List.length_append, List.length_singleton]; omega, fun c hc => ?_⟩
        rcases List.mem_append.1 hc with hc | hc
        · exact h1.c c (by rw [hcs]; exact hc)
        · have : c = ⟨r, m, z.1.n, z.1.n, 1, true⟩ := by simpa using hc
          subst this; exact hnew
      unfold cput
      split
      · rename_i c hc
        split
        · refine ⟨by rw [List.length_set]; omega, fun c' hc' => ?_⟩
          rcases List.mem_or_eq_of_mem_set hc' with hc' | rfl
          · exact h1.c c' (by rw [hcs]; exact hc')
          · have := h.c c (List.mem_of_getElem? hc)
            unfold Bdc at *
            dsimp only
            omega
        · exact happ
      · exact happ
    exact ⟨h1.n, h1.p, h1.z, h1.l, h1.s, hall.1, hall.2⟩
abbrev Alb (b : Nat) (r m a o n : Int) : Nat × Ch := (b, .cells [.int .i64 r, .int .u32 m, .int .u64 a, .int .u64 o, .int .i64 n] 46)
structure AX where
  vc : Value
  hc : Hp
  cs : List Cs
set_option maxRecDepth 20000 in
set_option maxHeartbeats 4000000 in
theorem alert_ok (w0 : World) (p : WP) (wn : Wn) (hw : wn.Can) {W : Wt} {z : WZ} (hI : WI W z) {j : Int} (hB : W.Bd j) (hj : j ≤ 16) (hn : W.n ≤ 800000000) {out : List Al} {v : Value} {k : Hp} (ho : AlOwn v out k) (hol : out.length ≤ 3000000000) (r m a0 o n : Int) :
    Does Try.prog 45 [.pointer (some ⟨p.b, 0, none⟩), v, .agg ⟨(⟨r, m, a0, o, n⟩ : Al).cells⟩] (z.H p wn W.n ++ k) w0
      (fun v' hs => ∃ z' k', hs = z'.H p wn W.n ++ k' ∧ WI (Wt.al wn (W, out) r m o n).1 z' ∧ AlOwn v' (Wt.al wn (W, out) r m o n).2 k') := by
  obtain ⟨b, mo, mp, ma⟩ := p
  obtain ⟨eo, co, ep, cp, ea, ca, vl, hl, vc, hc⟩ := z
  obtain ⟨Ao, ko, rfl⟩ := OwnS.slice ho
  dsimp only
  refine Does.less (Does.of (n := 121) Try.func45 rfl rfl rfl rfl ?_)
  refine .seq ((.region (.nw (.box (l := [.int .i64 r, .int .u32 m, .int .u64 a0, .int .u64 o, .int .i64 n]) rfl rfl) fun b5 => (.v (.assign rfl) (.nil ?_)))))
  refine .seq (.seq ((.region (.v (.fieldAddr rfl) (.v (.load (v := .int .u32 m) rfl (.one rfl)) (.v (.eqi rfl rfl) (.nil ?_)))))))
  unfold Wt.al
  refine .cond_dec rfl (fun h1 => ?_) (fun h1 => .skip ?_)
  · rw [if_pos h1]
    refine .seq ((.region (.v (.move rfl) (.v (.assign rfl) (.nil ?_)))))
    exact .ret ⟨[_], ⟨rfl, trivial⟩, WZ.H ⟨b, mo, mp, ma⟩ wn W.n ⟨eo, co, ep, cp, ea, ca, vl, hl, vc, hc⟩ ++ k, fun _ s => s.take, ⟨eo, co, ep, cp, ea, ca, vl, hl, vc, hc⟩, k, rfl, hI, ho⟩
  rw [if_neg h1]
  have hn0 := hB.n
  have hpa := (hB.p m).2.2
  refine .seq ((.region (.v (.move rfl) (.v (.nilCheck rfl) (.v (.fieldAddr rfl) (.v (.load (v := .int .u64 W.n) rfl (.one rfl)) (.v (.fieldAddr rfl) (.st (.storeL rfl rfl rfl) (.nil ?_)))))))))
  refine .seq ((.region (.v (.move rfl) (.v (.fieldAddr rfl) (.v (.load (v := .int .u32 m) rfl (.one rfl)) ?_)))))
  refine .ef (.callT (WZ.H ⟨b, mo, mp, ma⟩ wn W.n ⟨eo, co, ep, cp, ea, ca, vl, hl, vc, hc⟩) rfl rfl fun w s => changed_ok w ⟨b, mo, mp, ma⟩ wn W.n W ⟨eo, co, ep, cp, ea, ca, vl, hl, vc, hc⟩ hI m 70 [] (fun p => { p with a := p.a + 1 }) none [] (fun j v hv => by simp at hv) (fun _ w bp _ => clAler w bp (W.P m) (by unfold Bdc at hpa; omega))) ?_
  rintro _ _ ⟨_, ⟨⟨eo1, co1, ep1, cp1, ea1, ca1, vl1, hl1, vc1, hc1⟩, rfl, rfl, hI1⟩, rfl⟩
  have hcs1 : (W.chg m fun p => { p with a := p.a + 1 }).cs = W.cs := (Wt.chg_eq _ _ _).2.2.2.2
  clear hI
  generalize W.chg m (fun p => { p with a := p.a + 1 }) = W1 at hI1 hcs1 ⊢
  have oc := hI1.c
  rw [hcs1] at oc
  dsimp only at oc ⊢
  obtain ⟨Ac, kc, rfl⟩ := OwnS.slice oc
  have hcl := hB.k
  have hcb := hB.c
  generalize W.cs = cs at oc hcl hcb
  refine .nil ?_
  refine .keep (Alb b5 r m W.n o n :: (WZ.H ⟨b, mo, mp, ma⟩ wn W.n ⟨eo1, co1, ep1, cp1, ea1, ca1, vl1, hl1, .slice Ac cs.length kc, hc1⟩ ++ k)) ?_
  refine .seq ((.region (.v (.assign rfl) (.nil ?_))))
  refine .seq (.seq ((.region (.v (.move rfl) (.v (.nilCheck rfl) (.v (.fieldAddr rfl) (.v (.load (v := .slice Ac cs.length kc) rfl (.one rfl)) (.v (.len rfl) (.v (.move rfl) (.nil ?_))))))))))
  refine .block (.loop (X := Nat) (fun i => [(0, .pointer (some ⟨b, 0, none⟩)), (1, .slice Ao out.length ko), (5, .pointer (some ⟨b5, 0, none⟩)), (7, .int .i64 (clast r m (cs.take i))), (26, .slice Ac cs.length kc), (27, .int .i64 cs.length), (28, .int .i64 i)]) (fun _ => Alb b5 r m W.n o n :: (WZ.H ⟨b, mo, mp, ma⟩ wn W.n ⟨eo1, co1, ep1, cp1, ea1, ca1, vl1, hl1, .slice Ac cs.length kc, hc1⟩ ++ k)) (fun i => i ≤ cs.length) (fun i => cs.length - i) 0 (Nat.zero_le _) (.cons rfl (.cons rfl (.cons rfl (.cons rfl (.cons rfl (.cons rfl (.cons rfl (.nil _)))))))) (fun _ s => s) ?_)
  intro i hi
  refine .seq ((.region (.v (.lss rfl rfl) (.nil ?_))))
  refine .seq (.cond_dec rfl (fun h2 => .skip ?_) (fun h2 => .exit ?_))
  · have hil : i < cs.length := by omega
    obtain ⟨bc, oc_, lc, rfl, -, rfl, -, -, -⟩ := OwnS.some_ oc (by omega)
    have hat := fun hs' hsub => recAt Cs.cells 6 (fun _ => rfl) (z := (i : Int)) (OwnS.at0 (w0 := w0) (own := bl (WZ.H ⟨b, mo, mp, ma⟩ wn W.n ⟨eo, co, ep, cp, ea, ca, vl, hl, vc, hc⟩ ++ k)) (hs := hs') oc hsub) hil
    have htk : cs.take (i + 1) = cs.take i ++ [cs[i]] := by rw [List.take_add_one, List.getElem?_eq_getElem hil]; rfl
    have hcl' : clast r m (cs.take (i + 1)) = if cs[i].r = r ∧ cs[i].m = m then (i : Int) else clast r m (cs.take i) := by
      rw [htk, clast_snoc, List.length_take]
      congr 2; omega
    generalize cs[i] = c at hat hcl'
    refine .mid (X := Int) (fun x => [(0, .pointer (some ⟨b, 0, none⟩)), (1, .slice Ao out.length ko), (5, .pointer (some ⟨b5, 0, none⟩)), (7, .int .i64 x), (26, .slice (some ⟨bc, oc_, none⟩) cs.length kc), (27, .int .i64 cs.length), (28, .int .i64 i)]) (fun _ => Alb b5 r m W.n o n :: (WZ.H ⟨b, mo, mp, ma⟩ wn W.n ⟨eo1, co1, ep1, cp1, ea1, ca1, vl1, hl1, .slice (some ⟨bc, oc_, none⟩) cs.length kc, [(bc, Ch.cells lc 48)]⟩ ++ k)) (fun x => x = clast r m (cs.take (i + 1))) (.block (.seq ((.region (.v (.move rfl) (.v (.indexAddr rfl rfl (by omega) (by omega)) (.v (.loadA (vs := c.cells) rfl (hat _ (fun y hy => by simp at hy; subst hy; simp)) rfl) (.nw .alloc fun b9 => (.v (.assign rfl) (.st (.sw rfl rfl) (.nil ?_))))))))))) ?_
    · refine .seq ((.region (.v (.fieldAddr rfl) (.v (.load (v := .int .i64 c.r) rfl (.one rfl)) (.v (.fieldAddr rfl) (.v (.load (v := .int .i64 r) rfl (.one rfl)) (.v (.eqi rfl rfl) (.v (.move rfl) (.and (b2 := decide (c.m = m)) 38 43 5 5 rfl rfl (fun g1 => .v (.fieldAddr rfl) (.v (.load (v := .int .u32 c.m) rfl (.one rfl)) (.v (.fieldAddr rfl) (.v (.load (v := .int .u32 m) rfl (.one rfl)) (.v (.eqi rfl rfl) (.nil ⟨rfl, rfl, rfl, rfl⟩)))))) (.nil ?_))))))))))
      refine .cond rfl (fun h3 => ?_) (fun h3 => .skip ?_)
      · rw [Bool.and_eq_true, decide_eq_true_eq, decide_eq_true_eq] at h3
        refine .region (.v (.move rfl) (.v (.assign rfl) (.nil ?_)))
        exact ⟨(i : Int), by rw [hcl', if_pos h3], .cons rfl (.cons rfl (.cons rfl (.cons rfl (.cons rfl (.cons rfl (.cons rfl (.nil _))))))), fun _ s => s.take⟩
      · have h3 : ¬ (c.r = r ∧ c.m = m) := fun hh => by rw [decide_eq_true hh.1, decide_eq_true hh.2] at h3; cases h3
        exact ⟨clast r m (cs.take i), by rw [hcl', if_neg h3], .cons rfl (.cons rfl (.cons rfl (.cons rfl (.cons rfl (.cons rfl (.cons rfl (.nil _))))))), fun _ s => s.take⟩
    · rintro x rfl
      refine .region (.v (.addi rfl rfl (by omega)) (.v (.move rfl) (.nil ?_)))
      exact ⟨i + 1, hil, by show cs.length - (i + 1) < _; omega, .cons rfl (.cons rfl (.cons rfl (.cons rfl (.cons rfl (.cons rfl (.cons rfl (.nil _))))))), fun _ s => s⟩
  · have hil : i = cs.length := by omega
    subst hil
    rw [List.take_length]
    refine .mid (X := AX) (fun _ => [(1, .slice Ao out.length ko), (5, .pointer (some ⟨b5, 0, none⟩))]) (fun x => Alb b5 r m W.n o n :: (WZ.H ⟨b, mo, mp, ma⟩ wn W.n ⟨eo1, co1, ep1, cp1, ea1, ca1, vl1, hl1, x.vc, x.hc⟩ ++ k)) (fun x => x.cs = cput wn.span W.n r m cs ∧ CsOwn x.vc x.cs x.hc) ?_ ?_
    · -- the place of the case
      refine .mid (X := Bool) (fun B => [(0, .pointer (some ⟨b, 0, none⟩)), (1, .slice Ao out.length ko), (5, .pointer (some ⟨b5, 0, none⟩)), (7, .int .i64 (clast r m cs)), (78, .bool B)]) (fun _ => Alb b5 r m W.n o n :: (WZ.H ⟨b, mo, mp, ma⟩ wn W.n ⟨eo1, co1, ep1, cp1, ea1, ca1, vl1, hl1, .slice Ac cs.length kc, hc1⟩ ++ k)) (fun B => (B = true → ∃ i, ∃ hi : i < cs.length, clast r m cs = i ∧ cput wn.span W.n r m cs = cs.set i { cs[i] with l := W.n, n := cs[i].n + 1 }) ∧ (B = false → cput wn.span W.n r m cs = cs ++ [⟨r, m, W.n, W.n, 1, true⟩])) ?_ ?_
      · rcases clast_spec r m cs with ⟨c1, c2⟩ | ⟨i, c1, hi, c2, c3⟩
        · rw [c1, cput_new c1]
          refine (.drawK [] (List.nil_subset _) (by kernel_rfl) (by kernel_rfl) ?_)
          refine .v (fun _ f => .move rfl) (.v (fun _ f => .no (.geq rfl rfl) (by omega)) (.v (fun _ f => .move rfl) (.skn 7 rfl (.sk (.v (fun _ f => .pickF rfl rfl rfl) (.v (fun _ f => .move rfl) (.skn 17 rfl (.sk (.v (fun _ f => .pickF rfl rfl rfl) (.nil ?_))))))))))
          exact ⟨false, ⟨fun h => (by cases h), fun _ => rfl⟩, .cons rfl (.cons rfl (.cons rfl (.cons rfl (.cons rfl (.nil _))))), fun _ s => s⟩
        · rw [c1, cput_old c1 hi]
          obtain ⟨bc, oc_, lc, rfl, -, rfl, -, -, -⟩ := OwnS.some_ oc (by omega)
          have hfo := fun hs' hsub => fldAt Cs.cells 6 (fun _ => rfl) (z := (i : Int)) (OwnS.at0 (w0 := w0) (own := bl (WZ.H ⟨b, mo, mp, ma⟩ wn W.n ⟨eo, co, ep, cp, ea, ca, vl, hl, vc, hc⟩ ++ k)) (hs := hs') oc hsub) hi 5 rfl
          have hfl := fun hs' hsub => fldAt Cs.cells 6 (fun _ => rfl) (z := (i : Int)) (OwnS.at0 (w0 := w0) (own := bl (WZ.H ⟨b, mo, mp, ma⟩ wn W.n ⟨eo, co, ep, cp, ea, ca, vl, hl, vc, hc⟩ ++ k)) (hs := hs') oc hsub) hi 3 rfl
          have hcb' := hcb _ (List.getElem_mem hi)
          unfold Bdc at hcb'
          have hsp := hw.1
          have hset : ∀ B : Bool, B = (cs[i].op && decide (W.n - cs[i].l ≤ wn.span)) → ((B = true → ∃ i', ∃ hi' : i' < cs.length, (i : Int) = (i' : Int) ∧ (if cs[i].op = true ∧ W.n - cs[i].l ≤ wn.span then cs.set i { cs[i] with l := W.n, n := cs[i].n + 1 } else cs ++ [⟨r, m, W.n, W.n, 1, true⟩]) = cs.set i' { cs[i'] with l := W.n, n := cs[i'].n + 1 }) ∧ (B = false → (if cs[i].op = true ∧ W.n - cs[i].l ≤ wn.span then cs.set i { cs[i] with l := W.n, n := cs[i].n + 1 } else cs ++ [⟨r, m, W.n, W.n, 1, true⟩]) = cs ++ [⟨r, m, W.n, W.n, 1, true⟩])) := by
            rintro B rfl
            refine ⟨fun h => ?_, fun h => ?_⟩
            · rw [Bool.and_eq_true, decide_eq_true_eq] at h
              rw [if_pos h]
              exact ⟨i, hi, rfl, rfl⟩
            · rw [if_neg]
              intro hh
              rw [hh.1, decide_eq_true hh.2] at h
              cases h
          generalize (if cs[i].op = true ∧ W.n - cs[i].l ≤ wn.span then cs.set i { cs[i] with l := W.n, n := cs[i].n + 1 } else cs ++ [⟨r, m, W.n, W.n, 1, true⟩]) = R at hset
          refine (.drawK [Alb b5 r m W.n o n, Wb b wn W.n mo mp ma vl1 (.slice (some ⟨bc, oc_, none⟩) cs.length kc), (bc, Ch.cells lc 48)] (by intro y hy; simp at hy ⊢; rcases hy with rfl | rfl | rfl <;> simp) (by kernel_rfl) (by kernel_rfl) ?_)
          refine .v (fun _ f => .move rfl) (.v (fun _ f => .yes (.geq rfl rfl) (by omega)) (.v (fun _ f => .move rfl) (.v (fun _ f => .move rfl) (.v (fun _ f => .nilCheck rfl) (.v (fun _ f => .fieldAddr rfl) (.v (fun _ f => .load (v := .slice (some ⟨bc, oc_, none⟩) cs.length kc) rfl (.one (hb := .sub f) rfl)) (.v (fun _ f => .move rfl) (.v (fun _ f => .indexAddr rfl rfl (by omega) (by omega)) (.v (fun _ f => .fieldAddr rfl) (.v (fun hs' f => .load (v := .bool cs[i].op) rfl (hfo hs' (fun y hy => f (by simp at hy; subst hy; simp)))) ?_))))))))))
          refine .v (fun _ f => .pickT rfl rfl rfl) (.v (fun _ f => .move rfl) (.and (b2 := decide (W.n - cs[i].l ≤ wn.span)) 59 77 18 18 rfl rfl (fun g3 => .v (fun _ f => .fieldAddr rfl) (.v (fun _ f => .load (v := .int .u64 W.n) rfl (.one (hb := .sub f) rfl)) (.v (fun _ f => .move rfl) (.v (fun _ f => .nilCheck rfl) (.v (fun _ f => .fieldAddr rfl) (.v (fun _ f => .load (v := .slice (some ⟨bc, oc_, none⟩) cs.length kc) rfl (.one (hb := .sub f) rfl)) (.v (fun _ f => .move rfl) (.v (fun _ f => .indexAddr rfl rfl (by omega) (by omega)) (.v (fun _ f => .fieldAddr rfl) (.v (fun hs' f => .load (v := .int .u64 cs[i].l) rfl (hfl hs' (fun y hy => f (by simp at hy; subst hy; simp)))) (.v (fun _ f => .subU (W.n - cs[i].l) rfl rfl rfl (by omega)) (.v (fun _ f => .move rfl) (.v (fun _ f => .nilCheck rfl) (.v (fun _ f => .fieldAddr rfl) (.v (fun _ f => .fieldAddr rfl) (.v (fun _ f => .load (v := .int .i64 wn.span) rfl (.one (hb := .sub f) rfl)) (.v (fun _ f => .convE wn.span rfl (wrap_u64_in (by omega))) (.v (fun _ f => .leq rfl rfl) (.nil ⟨rfl, rfl, rfl, rfl⟩))))))))))))))))))) (.nil ?_)))
          exact ⟨_, hset _ rfl, .cons rfl (.cons rfl (.cons rfl (.cons rfl (.cons rfl (.nil _))))), fun _ s => s⟩
      · rintro B ⟨hT, hF⟩
        refine .cond rfl (fun hB => ?_) (fun hB => ?_)
        · obtain ⟨i, hi, c1, hput⟩ := hT hB
          rw [c1]
          obtain ⟨bc, oc_, lc, rfl, -, rfl, -, hlc, -⟩ := OwnS.some_ oc (by omega)
          have hcap := (OwnS.cap_ oc).2
          have hcb' := hcb _ (List.getElem_mem hi)
          unfold Bdc at hcb'
          have o2 := OwnS.setF Cs.cells (fun _ => rfl) oc 3 hi (by omega) (a' := { cs[i] with l := W.n }) (v := .int .u64 W.n) rfl
          have hfn := fun hs' hsub => fldAt Cs.cells 6 (fun _ => rfl) (z := (i : Int)) (OwnS.at0 (w0 := w0) (own := bl (WZ.H ⟨b, mo, mp, ma⟩ wn W.n ⟨eo, co, ep, cp, ea, ca, vl, hl, vc, hc⟩ ++ k)) (hs := hs') o2 hsub) (by rw [List.length_set]; exact hi) 4 (v := .int .i64 cs[i].n) (by rw [List.getElem_set_self]; rfl)
          have o3 := OwnS.setF Cs.cells (fun _ => rfl) o2 4 (by rw [List.length_set]; exact hi) (by omega) (a' := { cs[i] with l := W.n, n := cs[i].n + 1 }) (v := .int .i64 (cs[i].n + 1)) (by rw [List.getElem_set_self]; rfl)
          rw [List.set_set, ← hput] at o3
          have hpl : (cput wn.span W.n r m cs).length = cs.length := by rw [hput, List.length_set]
          rw [hpl] at o3
          rw [List.length_set] at o2
          have hlc2 : oc_ + i * 6 + 5 < lc.length := by
            have := hlc
            omega
          refine .keep (Alb b5 r m W.n o n :: Wb b wn W.n mo mp ma vl1 (.slice (some ⟨bc, oc_, none⟩) cs.length kc) :: (bc, Ch.cells lc 48) :: M64 mo eo1 co1 :: M32 mp ep1 cp1 :: M32 ma ea1 ca1 :: (hl1 ++ k)) ?_
          refine .seq ((.drawQ 9 [0, 1, 2, 3, 4, 5, 6, 7, 8, 9] [Alb b5 r m W.n o n, Wb b wn W.n mo mp ma vl1 (.slice (some ⟨bc, oc_, none⟩) cs.length kc)] (by intro y hy; simp at hy ⊢; rcases hy with rfl | rfl <;> simp) (by kernel_rfl) (by kernel_rfl) ?_))
          refine .v (fun _ f => .move rfl) (.v (fun _ f => .nilCheck rfl) (.v (fun _ f => .fieldAddr rfl) (.v (fun _ f => .load (v := .slice (some ⟨bc, oc_, none⟩) cs.length kc) rfl (.one (hb := .sub f) rfl)) (.v (fun _ f => .move rfl) (.v (fun _ f => .fieldAddr rfl) (.v (fun _ f => .load (v := .int .u64 W.n) rfl (.one (hb := .sub f) rfl)) (.v (fun _ f => .indexAddr rfl rfl (by omega) (by omega)) (.v (fun _ f => .fieldAddr rfl) (.st (.store (b := bc) (l := lc) rfl rfl rfl (by omega)) (.nil ?_))))))))))
          rw [Int.toNat_natCast]
          refine .region (.v (.move rfl) (.v (.nilCheck rfl) (.v (.fieldAddr rfl) (.v (.load (v := .slice (some ⟨bc, oc_, none⟩) cs.length kc) rfl (.one rfl)) (.v (.move rfl) (.v (.indexAddr rfl rfl (by omega) (by omega)) (.v (.fieldAddr rfl) (.v (.load (v := .int .i64 cs[i].n) rfl (hfn _ (fun y hy => by simp at hy; subst hy; simp))) (.v (.addi rfl rfl (by omega)) (.v (.indexAddr rfl rfl (by omega) (by omega)) (.v (.fieldAddr rfl) (.st (.store (b := bc) (l := lc.set (oc_ + i * 6 + 3) (.int .u64 W.n)) rfl rfl rfl (by rw [List.length_set]; omega)) (.nil ?_)))))))))))))
          rw [Int.toNat_natCast]
          generalize (lc.set (oc_ + i * 6 + 3) (.int .u64 W.n)).set (oc_ + i * 6 + 4) (.int .i64 (cs[i].n + 1)) = lc' at o3 ⊢
          refine ⟨⟨.slice (some ⟨bc, oc_, none⟩) cs.length kc, [(bc, .cells lc' 48)], cput wn.span W.n r m cs⟩, ⟨rfl, ?_⟩, .cons rfl (.cons rfl (.nil _)), fun _ s => s.take⟩
          show OwnS _ 6 _ (cput wn.span W.n r m cs).length _ _
          rw [hpl]; exact o3
        · have hput := hF hB
          refine (.drawQ 18 [0, 1, 2, 3, 4, 5, 6, 7, 8, 9, 10, 11, 12, 13, 14, 15, 16, 17, 18] [Alb b5 r m W.n o n, Wb b wn W.n mo mp ma vl1 (.slice Ac cs.length kc)] (by intro y hy; simp at hy ⊢; rcases hy with rfl | rfl <;> simp) (by kernel_rfl) (by kernel_rfl) ?_)
          refine .v (fun _ f => .move rfl) (.v (fun _ f => .move rfl) (.v (fun _ f => .nilCheck rfl) (.v (fun _ f => .fieldAddr rfl) (.v (fun _ f => .load (v := .slice Ac cs.length kc) rfl (.one (hb := .sub f) rfl)) (.v (fun _ f => .fieldAddr rfl) (.v (fun _ f => .load (v := .int .i64 r) rfl (.one (hb := .sub f) rfl)) (.v (fun _ f => .fieldAddr rfl) (.v (fun _ f => .load (v := .int .u32 m) rfl (.one (hb := .sub f) rfl)) (.v (fun _ f => .fieldAddr rfl) (.v (fun _ f => .load (v := .int .u64 W.n) rfl (.one (hb := .sub f) rfl)) (.v (fun _ f => .fieldAddr rfl) (.v (fun _ f => .load (v := .int .u64 W.n) rfl (.one (hb := .sub f) rfl)) (.v (fun _ f => .build (out := (⟨r, m, W.n, W.n, 1, true⟩ : Cs).cells) rfl rfl) ?_)))))))))))))
          refine .ef (.buildSlice (out := (⟨r, m, W.n, W.n, 1, true⟩ : Cs).cells) rfl (by decide) rfl rfl) (fun v hs' ⟨_, _, e⟩ f => by subst e; exact fun y hy => List.mem_cons_of_mem _ (f hy)) ?_
          rintro _ _ ⟨bn, rfl, rfl⟩
          refine .ef (.append (c := cs.length) (k := 1) (vs := csrows cs) (news := (⟨r, m, W.n, W.n, 1, true⟩ : Cs).cells) (h := hc1) rfl rfl oc TakeI.out (fun w' s => Src.of_at s .whole rfl) rfl rfl (by omega) (by omega)) (fun v hs' ⟨_, _, e⟩ f => by subst e; intro y hy; simp at hy; rcases hy with rfl | rfl <;> simp) ?_
          rintro vc' _ ⟨hc', oc', rfl⟩
          obtain ⟨Ac', kc', rfl⟩ := OwnS.slice oc'
          refine .v (fun _ f => .nilCheck rfl) (.v (fun _ f => .fieldAddr rfl) (.st (.storeL rfl rfl rfl) (.nil ?_)))
          refine ⟨⟨.slice Ac' (cs.length + 1) kc', hc', cs ++ [⟨r, m, W.n, W.n, 1, true⟩]⟩, ⟨hput.symm, ?_⟩, .cons rfl (.cons rfl (.nil _)), fun _ s => s.take⟩
          show OwnS _ 6 _ (cs ++ [_]).length (csrows (cs ++ [_])) _
          rw [List.length_append, csrows_app]; exact oc'
    · rintro ⟨vc', hc', cs'⟩ ⟨hcs', oc'⟩
      dsimp only at hcs' oc' ⊢
      subst hcs'
      refine .seq ((.region (.v (.move rfl) (.v (.loadA (vs := (⟨r, m, W.n, o, n⟩ : Al).cells) rfl .whole rfl) (.push (vs := alrows out) (c := out.length) (oc := (⟨r, m, W.n, o, n⟩ : Al).cells) rfl rfl ho rfl rfl rfl (by omega) (by omega) ?_)))))
      intro bq v' k' ho'
      refine .v (.assign rfl) (.nil ?_)
      refine .ret ⟨[_], ⟨rfl, trivial⟩, WZ.H ⟨b, mo, mp, ma⟩ wn W.n ⟨eo1, co1, ep1, cp1, ea1, ca1, vl1, hl1, vc', hc'⟩ ++ k', fun _ s => s.take, ⟨eo1, co1, ep1, cp1, ea1, ca1, vl1, hl1, vc', hc'⟩, k', rfl, ⟨hI1.oo, hI1.o, hI1.po, hI1.p, hI1.ao, hI1.a, hI1.l, oc'⟩, ?_⟩
      show OwnS _ 5 _ (out ++ [_]).length (alrows (out ++ [_])) _
      rw [List.length_append, alrows_app]; exact ho'
end Go.Proofs.Ytcbppikkoelimaa

/- Surveil: an order is acked. -/
namespace Go.Proofs.Ytcbppikkoelimaa
open Go.V
set_option linter.unusedVariables false
set_option linter.unusedSimpArgs false

/-- what a step leaves: a watch and what was told -/
abbrev StepP (p : WP) (wn : Wn) (n : Int) (R : Wt × List Al) (v : Value) (hs : Hp) : Prop := ∃ z k, hs = WZ.H p wn n z ++ k ∧ WI R.1 z ∧ AlOwn v R.2 k
abbrev Evb (b : Nat) (e : Ev) : Nat × Ch := (b, .cells e.cells 34)
def Wt.ackK (W : Wt) (e : Ev) : Wt := { W with K := fun x => if x = e.id then some ⟨e.mb, e.sd, false⟩ else W.K x, A := fun x => if x = e.mb then true else W.A x }
theorem ack0_eq (W : Wt) (e : Ev) : W.ack0 e = (W.ackK e).chg e.mb (fun p => { p with o := p.o + 1 }) := rfl
theorem Wt.Bd.ackK {j : Int} {W : Wt} (h : W.Bd j) (e : Ev) : (W.ackK e).Bd j := ⟨h.n, h.p, h.z, h.l, h.s, h.k, h.c⟩
theorem Wt.Bd.ack0 {j : Int} {W : Wt} (h : W.Bd j) (e : Ev) : (W.ack0 e).Bd (j + 1) := (h.ackK e).chg e.mb (fun p => by dsimp only; omega)
theorem ack0_n (W : Wt) (e : Ev) : (W.ack0 e).n = W.n := by rw [ack0_eq, (Wt.chg_eq _ _ _).1]; rfl
theorem Wt.Bd.acks {j : Int} {w : Wn} {z : Wt × List Al} (h : z.1.Bd j) (hj : 0 ≤ 8 * z.1.n + j) (e : Ev) : (Wt.acks w z e).1.Bd (j + 2) ∧ (Wt.acks w z e).1.n = z.1.n ∧ (Wt.acks w z e).2.length ≤ z.2.length + 1 := by
  have h0 := h.ack0 e
  unfold Wt.acks
  split
  · refine ⟨(Wt.Bd.al (z := (z.1.ack0 e, z.2)) h0 (by have := ack0_n z.1 e; show 0 ≤ 8 * (z.1.ack0 e).n + (j + 1); omega) _ _ _ _).mono (by omega), by rw [(Wt.al_eq w (z.1.ack0 e, z.2) _ _ _ _).1]; exact ack0_n _ _, ?_⟩
    unfold Wt.al
    split
    · exact Nat.le_succ _
    · dsimp only; rw [List.length_append]; exact Nat.le_refl _
  · exact ⟨h0.mono (by omega), ack0_n _ _, Nat.le_succ _⟩
set_option maxRecDepth 20000 in
set_option maxHeartbeats 2000000 in
theorem acks_ok (w0 : World) (p : WP) (wn : Wn) (hw : wn.Can) {W : Wt} {z : WZ} (hI : WI W z) {j : Int} (hB : W.Bd j) (hj : 0 ≤ j ∧ j ≤ 8) (hn : W.n ≤ 800000000) {out : List Al} {v : Value} {k : Hp} (ho : AlOwn v out k) (hol : out.length ≤ 3000000000) (e : Ev) :
    Does Try.prog 23 [.pointer (some ⟨p.b, 0, none⟩), v, .agg ⟨e.cells⟩] (z.H p wn W.n ++ k) w0 (StepP p wn W.n (Wt.acks wn (W, out) e)) := by
  obtain ⟨b, mo, mp, ma⟩ := p
  obtain ⟨eo, co, ep, cp, ea, ca, vl, hl, vc, hc⟩ := z
  dsimp only
  refine Does.less (Does.of (n := 62) Try.func23 rfl rfl rfl rfl ?_)
  refine .seq ((.region (.nw (.box (l := e.cells) rfl rfl) fun b5 => (.v (.assign rfl) (.nil ?_)))))
  refine .seq ((.drawQ 12 [0, 1, 2, 3, 4, 5, 6, 7, 8, 9, 10, 11, 12] [Evb b5 e, Wb b wn W.n mo mp ma vl vc] (by intro y hy; simp at hy ⊢; rcases hy with rfl | rfl <;> simp) (by kernel_rfl) (by kernel_rfl) ?_))
  refine .v (fun _ f => .move rfl) (.v (fun _ f => .nilCheck rfl) (.v (fun _ f => .fieldAddr rfl) (.v (fun _ f => .load (v := .map (some mo)) rfl (.one (hb := .sub f) rfl)) (.v (fun _ f => .fieldAddr rfl) (.v (fun _ f => .load (v := .int .u64 e.id) rfl (.one (hb := .sub f) rfl)) (.v (fun _ f => .fieldAddr rfl) (.v (fun _ f => .load (v := .int .u32 e.mb) rfl (.one (hb := .sub f) rfl)) (.v (fun _ f => .fieldAddr rfl) (.v (fun _ f => .load (v := .int .i64 e.sd) rfl (.one (hb := .sub f) rfl)) (.v (fun _ f => .build (out := [.int .u32 e.mb, .int .i64 e.sd]) rfl rfl) (.v (fun _ f => .build (out := (⟨e.mb, e.sd, false⟩ : Kn).cells) rfl rfl) ?_)))))))))))
  refine .st (.mapUpdate (es := eo) (c := co) rfl rfl rfl) (.nil ?_)
  refine .seq ((.drawQ 6 [0, 1, 2, 3, 4, 5, 6] [Evb b5 e, Wb b wn W.n mo mp ma vl vc] (by intro y hy; simp at hy ⊢; rcases hy with rfl | rfl <;> simp) (by kernel_rfl) (by kernel_rfl) ?_))
  refine .v (fun _ f => .move rfl) (.v (fun _ f => .nilCheck rfl) (.v (fun _ f => .fieldAddr rfl) (.v (fun _ f => .load (v := .map (some ma)) rfl (.one (hb := .sub f) rfl)) (.v (fun _ f => .fieldAddr rfl) (.v (fun _ f => .load (v := .int .u32 e.mb) rfl (.one (hb := .sub f) rfl)) ?_)))))
  refine .st (.mapUpdate (es := ea) (c := ca) rfl rfl rfl) (.nil ?_)
  have hIk : WI (W.ackK e) ⟨(mset e.id (.agg ⟨(⟨e.mb, e.sd, false⟩ : Kn).cells⟩) eo co).1, (mset e.id (.agg ⟨(⟨e.mb, e.sd, false⟩ : Kn).cells⟩) eo co).2, ep, cp, (mset e.mb (.bool true) ea ca).1, (mset e.mb (.bool true) ea ca).2, vl, hl, vc, hc⟩ := by
    refine ⟨hI.oo.set _ _, fun x => ?_, hI.po, hI.p, hI.ao.set _ _, fun x => ?_, hI.l, hI.c⟩
    · dsimp only
      rw [mget_set]
      unfold Wt.ackK
      dsimp only
      split
      · rfl
      · exact hI.o x
    · dsimp only
      rw [mget_set]
      unfold Wt.ackK
      dsimp only
      split
      · rfl
      · exact hI.a x
  refine .keep (Evb b5 e :: (WZ.H ⟨b, mo, mp, ma⟩ wn W.n ⟨(mset e.id (.agg ⟨(⟨e.mb, e.sd, false⟩ : Kn).cells⟩) eo co).1, (mset e.id (.agg ⟨(⟨e.mb, e.sd, false⟩ : Kn).cells⟩) eo co).2, ep, cp, (mset e.mb (.bool true) ea ca).1, (mset e.mb (.bool true) ea ca).2, vl, hl, vc, hc⟩ ++ k)) ?_
  generalize (⟨(mset e.id (.agg ⟨(⟨e.mb, e.sd, false⟩ : Kn).cells⟩) eo co).1, (mset e.id (.agg ⟨(⟨e.mb, e.sd, false⟩ : Kn).cells⟩) eo co).2, ep, cp, (mset e.mb (.bool true) ea ca).1, (mset e.mb (.bool true) ea ca).2, vl, hl, vc, hc⟩ : WZ) = z1 at hIk
  have hBk := hB.ackK e
  have hpo := (hBk.p e.mb).1.1
  refine .seq ((.region (.v (.move rfl) (.v (.fieldAddr rfl) (.v (.load (v := .int .u32 e.mb) rfl (.one rfl)) ?_)))))
  refine .ef (.callT (WZ.H ⟨b, mo, mp, ma⟩ wn W.n z1) rfl rfl fun w s => changed_ok w ⟨b, mo, mp, ma⟩ wn W.n (W.ackK e) z1 hIk e.mb 44 [] (fun p => { p with o := p.o + 1 }) none [] (fun j v hv => by simp at hv) (fun _ w bp _ => clAcks w bp _ (by unfold Bdc at hpo; have : (W.ackK e).n = W.n := rfl; omega))) ?_
  rintro _ _ ⟨_, ⟨z2, rfl, rfl, hI2⟩, rfl⟩
  rw [← ack0_eq] at hI2 ⊢
  have hB2 := hB.ack0 e
  have hn2 := ack0_n W e
  have hz0 := hB.n
  unfold Wt.acks
  dsimp only
  generalize W.ack0 e = W2 at hI2 hB2 hn2 ⊢
  have hp2 := hB2.p e.mb
  unfold Bdc at hp2
  generalize W2.P e.mb = P at hp2 ⊢
  refine .nw .alloc fun b7 => (.st (.sw rfl rfl) (.nil ?_))
  obtain ⟨eo2, co2, ep2, cp2, ea2, ca2, vl2, hl2, vc2, hc2⟩ := z2
  have hwr := hw.2.2.1
  have hmul : 0 ≤ wn.rat * P.t ∧ wn.rat * P.t ≤ 1000 * P.t := ⟨Int.mul_nonneg (by omega) (by omega), Int.mul_le_mul_of_nonneg_right (by omega) (by omega)⟩
  refine .seq (.seq ((.drawK [Pb b7 P, Wb b wn W.n mo mp ma vl2 vc2] (by intro y hy; simp at hy ⊢; rcases hy with rfl | rfl <;> simp) (by kernel_rfl) (by kernel_rfl) ?_)))
  refine .v (fun _ f => .fieldAddr rfl) (.v (fun _ f => .load (v := .int .i64 P.o) rfl (.one (hb := .sub f) rfl)) (.v (fun _ f => .move rfl) (.v (fun _ f => .nilCheck rfl) (.v (fun _ f => .fieldAddr rfl) (.v (fun _ f => .fieldAddr rfl) (.v (fun _ f => .load (v := .int .i64 wn.lst) rfl (.one (hb := .sub f) rfl)) (.v (fun _ f => .geq rfl rfl) (.v (fun _ f => .move rfl) (.and (b2 := decide (wn.rat * P.t < P.o)) 38 49 11 11 rfl rfl (fun g1 => .v (fun _ f => .fieldAddr rfl) (.v (fun _ f => .load (v := .int .i64 P.o) rfl (.one (hb := .sub f) rfl)) (.v (fun _ f => .move rfl) (.v (fun _ f => .nilCheck rfl) (.v (fun _ f => .fieldAddr rfl) (.v (fun _ f => .fieldAddr rfl) (.v (fun _ f => .load (v := .int .i64 wn.rat) rfl (.one (hb := .sub f) rfl)) (.v (fun _ f => .fieldAddr rfl) (.v (fun _ f => .load (v := .int .i64 P.t) rfl (.one (hb := .sub f) rfl)) (.v (fun _ f => .muli rfl rfl (by omega)) (.v (fun _ f => .gtr rfl rfl) (.nil ⟨rfl, rfl, rfl, rfl⟩)))))))))))) (.nil ?_))))))))))
  refine .cond rfl (fun h1 => ?_) (fun h1 => .skip ?_)
  · rw [Bool.and_eq_true, decide_eq_true_eq, decide_eq_true_eq] at h1
    rw [if_pos h1]
    refine .keep (Pb b7 P :: Evb b5 e :: (WZ.H ⟨b, mo, mp, ma⟩ wn W2.n ⟨eo2, co2, ep2, cp2, ea2, ca2, vl2, hl2, vc2, hc2⟩ ++ k)) (h := by rw [hn2]; infer_instance) ?_
    refine .seq ((.region (.v (.move rfl) (.v (.move rfl) (.v (.fieldAddr rfl) (.v (.load (v := .int .u32 e.mb) rfl (.one rfl)) (.v (.fieldAddr rfl) (.v (.load (v := .int .u64 e.id) rfl (.one rfl)) (.v (.fieldAddr rfl) (.v (.load (v := .int .i64 P.o) rfl (.one rfl)) (.v (.build (out := (⟨3, e.mb, 0, e.id, P.o⟩ : Al).cells) rfl rfl) ?_)))))))))))
    refine .ef (.callT (WZ.H ⟨b, mo, mp, ma⟩ wn W2.n ⟨eo2, co2, ep2, cp2, ea2, ca2, vl2, hl2, vc2, hc2⟩ ++ k) rfl rfl fun w s => alert_ok w ⟨b, mo, mp, ma⟩ wn hw hI2 hB2 (by omega) (by omega) ho hol 3 e.mb 0 e.id P.o) ?_
    rintro v' _ ⟨_, ⟨z', k', rfl, hI', ho'⟩, rfl⟩
    refine .v (.assign rfl) (.nil ?_)
    rw [hn2]
    exact .ret ⟨[_], ⟨rfl, trivial⟩, WZ.H ⟨b, mo, mp, ma⟩ wn W.n z' ++ k', fun _ s => s.take, z', k', rfl, hI', ho'⟩
  · have h1 : ¬ (wn.lst ≤ P.o ∧ wn.rat * P.t < P.o) := fun hh => by rw [decide_eq_true hh.1, decide_eq_true hh.2] at h1; cases h1
    rw [if_neg h1]
    refine .seq ((.region (.v (.move rfl) (.v (.assign rfl) (.nil ?_)))))
    exact .ret ⟨[_], ⟨rfl, trivial⟩, WZ.H ⟨b, mo, mp, ma⟩ wn W.n ⟨eo2, co2, ep2, cp2, ea2, ca2, vl2, hl2, vc2, hc2⟩ ++ k, fun _ s => s.take, ⟨eo2, co2, ep2, cp2, ea2, ca2, vl2, hl2, vc2, hc2⟩, k, rfl, hI2, ho⟩
end Go.Proofs.Ytcbppikkoelimaa

/- Surveil: an order is cancelled by its owner. -/
namespace Go.Proofs.Ytcbppikkoelimaa
open Go.V
set_option linter.unusedVariables false
set_option linter.unusedSimpArgs false

theorem ow_dec (a b c d : Int) : cellsEq [.int .u32 a, .int .i64 b] [.int .u32 c, .int .i64 d] = (decide (a = c) && decide (b = d)) := by
  have h := cellsEq_iff (ls := [.i .u32, .i .i64]) (xs := [.int .u32 a, .int .i64 b]) (ys := [.int .u32 c, .int .i64 d]) ⟨rfl, rfl, trivial⟩ ⟨rfl, rfl, trivial⟩
  rw [Bool.eq_iff_iff, h]
  simp
theorem Wt.Bd.push {j : Int} {W : Wt} (h : W.Bd j) {x : Sn} (hx : x.at_ = W.n) (hp : 0 ≤ x.pr ∧ x.pr < 262144) : Wt.Bd (j + 1) { W with last := W.last ++ [x] } := by
  have h' := h.mono (show j ≤ j + 1 by omega)
  refine ⟨h'.n, h'.p, h'.z, ?_, fun y hy => ?_, h'.k, h'.c⟩
  · have := h.l
    show (((W.last ++ [x]).length : Nat) : Int) ≤ 8 * W.n + (j + 1)
    rw [List.length_append, List.length_singleton]; omega
  · rcases List.mem_append.1 hy with hy | hy
    · exact h.s y hy
    · have : y = x := by simpa using hy
      subst this
      have := h.n
      show (0 ≤ y.at_ ∧ y.at_ ≤ W.n) ∧ _
      exact ⟨by omega, hp⟩
theorem take_snoc {α : Type} {l : List α} {i : Nat} (h : i < l.length) : l.take (i + 1) = l.take i ++ [l[i]] := by rw [List.take_add_one, List.getElem?_eq_getElem h]; rfl
theorem layN_snoc (m s : Int) (l : List Sn) (x : Sn) : (layN m s (l ++ [x]) : Int) = layN m s l + if x.fr && (decide (x.cm = m) && decide (x.cs = s)) then 1 else 0 := by
  unfold layN
  rw [List.filter_append, List.length_append]
  by_cases h : (x.fr && (decide (x.cm = m) && decide (x.cs = s))) = true <;> simp [h]
theorem metB_snoc (m s : Int) (l : List Sn) (x : Sn) : metB m s (l ++ [x]) = (metB m s l || (x.tr && decide ((if s = 1 then x.se else x.by_) = m))) := by
  unfold metB; simp
theorem layN_le (m s : Int) (l : List Sn) : layN m s l ≤ l.length := List.length_filter_le _ _
theorem Wt.Bd.cancels {j : Int} {w : Wn} {z : Wt × List Al} (h : z.1.Bd j) (hj : 0 ≤ 8 * z.1.n + j) (e : Ev) : (Wt.cancels w z e).1.Bd (j + 3) ∧ (Wt.cancels w z e).1.n = z.1.n ∧ (Wt.cancels w z e).2.length ≤ z.2.length + 1 := by
  unfold Wt.cancels
  split
  · exact ⟨h.mono (by omega), rfl, Nat.le_succ _⟩
  · rename_i k _
    have h1 := h.chg k.m (f := fun p => { p with c := p.c + 1 }) (fun p => by dsimp only; omega)
    have n1 := (Wt.chg_eq z.1 k.m (fun p => { p with c := p.c + 1 })).1
    generalize z.1.chg k.m (fun p => { p with c := p.c + 1 }) = W1 at h1 n1
    split
    · exact ⟨h1.mono (by omega), n1, Nat.le_succ _⟩
    · have h2 : (W1.fresh k).Bd (j + 1 + 1) := h1.push rfl (by dsimp only; omega)
      split
      · refine ⟨(Wt.Bd.al (z := (W1.fresh k, z.2)) h2 (by show 0 ≤ 8 * W1.n + (j + 1 + 1); omega) _ _ _ _).mono (by omega), by rw [(Wt.al_eq w (W1.fresh k, z.2) _ _ _ _).1]; exact n1, ?_⟩
        unfold Wt.al
        split
        · exact Nat.le_succ _
        · dsimp only; rw [List.length_append]; exact Nat.le_refl _
      · exact ⟨h2.mono (by omega), n1, Nat.le_succ _⟩
set_option maxRecDepth 20000 in
set_option maxHeartbeats 4000000 in
theorem cancels_ok (w0 : World) (p : WP) (wn : Wn) (hw : wn.Can) {W : Wt} {z : WZ} (hI : WI W z) {j : Int} (hB : W.Bd j) (hj : 0 ≤ j ∧ j ≤ 8) (hn : W.n ≤ 800000000) {out : List Al} {v : Value} {k : Hp} (ho : AlOwn v out k) (hol : out.length ≤ 3000000000) (e : Ev) :
    Does Try.prog 25 [.pointer (some ⟨p.b, 0, none⟩), v, .agg ⟨e.cells⟩] (z.H p wn W.n ++ k) w0 (StepP p wn W.n (Wt.cancels wn (W, out) e)) := by
  obtain ⟨b, mo, mp, ma⟩ := p
  obtain ⟨eo, co, ep, cp, ea, ca, vl, hl, vc, hc⟩ := z
  have hO := hI.o e.id
  dsimp only at hO ⊢
  refine Does.less (Does.of (n := 113) Try.func25 rfl rfl rfl rfl ?_)
  refine .seq ((.region (.nw (.box (l := e.cells) rfl rfl) fun b5 => (.v (.assign rfl) (.nil ?_)))))
  have hF : [Evb b5 e, Wb b wn W.n mo mp ma vl vc, M64 mo eo co] ⊆ Evb b5 e :: (WZ.H ⟨b, mo, mp, ma⟩ wn W.n ⟨eo, co, ep, cp, ea, ca, vl, hl, vc, hc⟩ ++ k) := by
    intro y hy; simp at hy ⊢; rcases hy with rfl | rfl | rfl <;> simp
  unfold Wt.cancels
  dsimp only
  cases hK : W.K e.id with
  | none =>
    rw [hK] at hO
    refine .seq ((.drawY 11 [0, 1, 2, 3, 4, 5, 6, 7, 8, 9, 10, 11, 12] [Evb b5 e, Wb b wn W.n mo mp ma vl vc, M64 mo eo co] hF (by kernel_rfl) (by kernel_rfl) ?_))
    refine .x (fun _ _ _ => .move rfl) (.v (fun _ f => .nilCheck rfl) (.x (fun _ _ _ => .fieldAddr rfl) (.v (fun _ f => .load (v := .map (some mo)) rfl (.one (hb := .sub f) rfl)) (.x (fun _ _ _ => .fieldAddr rfl) (.v (fun _ f => .load (v := .int .u64 e.id) rfl (.one (hb := .sub f) rfl)) ?_)))))
    refine .v (fun _ f => .lookup2E (es := eo) (c := co) (v := .agg ⟨(⟨0, 0, false⟩ : Kn).cells⟩) (ok := false) rfl rfl (hb := .sub f) (by rw [hO]; rfl) (by rw [hO]; rfl)) ?_
    refine .x (fun _ _ _ => .move rfl) (.x (fun _ _ _ => .extract rfl rfl) (.x (fun _ _ _ => .extract rfl rfl) (.nw .alloc fun b7 => (.st (.sw rfl rfl) (.w (.assign rfl) (.nil ?_))))))
    refine .seq (.seq ((.region (.v (.move rfl) (.v (.not rfl) (.nil ?_))))))
    refine .cond rfl (fun _ => ?_) (fun h => absurd h (by simp))
    refine .seq ((.region (.v (.move rfl) (.v (.assign rfl) (.nil ?_)))))
    exact .ret ⟨[_], ⟨rfl, trivial⟩, WZ.H ⟨b, mo, mp, ma⟩ wn W.n ⟨eo, co, ep, cp, ea, ca, vl, hl, vc, hc⟩ ++ k, fun _ s => s.take, ⟨eo, co, ep, cp, ea, ca, vl, hl, vc, hc⟩, k, rfl, hI, ho⟩
  | some kk =>
    rw [hK] at hO
    dsimp only
    obtain ⟨km, ks, kt⟩ := kk
    dsimp only
    refine .seq ((.drawY 11 [0, 1, 2, 3, 4, 5, 6, 7, 8, 9, 10, 11, 12] [Evb b5 e, Wb b wn W.n mo mp ma vl vc, M64 mo eo co] hF (by kernel_rfl) (by kernel_rfl) ?_))
    refine .x (fun _ _ _ => .move rfl) (.v (fun _ f => .nilCheck rfl) (.x (fun _ _ _ => .fieldAddr rfl) (.v (fun _ f => .load (v := .map (some mo)) rfl (.one (hb := .sub f) rfl)) (.x (fun _ _ _ => .fieldAddr rfl) (.v (fun _ f => .load (v := .int .u64 e.id) rfl (.one (hb := .sub f) rfl)) ?_)))))
    refine .v (fun _ f => .lookup2E (es := eo) (c := co) (v := .agg ⟨(⟨km, ks, kt⟩ : Kn).cells⟩) (ok := true) rfl rfl (hb := .sub f) (by rw [hO]; rfl) (by rw [hO]; rfl)) ?_
    refine .x (fun _ _ _ => .move rfl) (.x (fun _ _ _ => .extract rfl rfl) (.x (fun _ _ _ => .extract rfl rfl) (.nw .alloc fun b7 => (.st (.sw rfl rfl) (.w (.assign rfl) (.nil ?_))))))
    refine .seq (.seq ((.region (.v (.move rfl) (.v (.not rfl) (.nil ?_))))))
    refine .cond rfl (fun h => absurd h (by simp)) (fun _ => .skip ?_)
    refine .seq ((.region (.v (.move rfl) (.v (.fieldAddr rfl) (.v (.fieldAddr rfl) (.v (.load (v := .int .u32 km) rfl (.one rfl)) ?_))))))
    have hpc := (hB.p km).1.2
    have hz0 := hB.n
    refine .ef (.callT (WZ.H ⟨b, mo, mp, ma⟩ wn W.n ⟨eo, co, ep, cp, ea, ca, vl, hl, vc, hc⟩) rfl rfl fun w s => changed_ok w ⟨b, mo, mp, ma⟩ wn W.n W ⟨eo, co, ep, cp, ea, ca, vl, hl, vc, hc⟩ hI km 50 [] (fun p => { p with c := p.c + 1 }) none [] (fun j v hv => by simp at hv) (fun _ w bp _ => clCanc w bp _ (by unfold Bdc at hpc; omega))) ?_
    rintro _ _ ⟨_, ⟨⟨eo1, co1, ep1, cp1, ea1, ca1, vl1, hl1, vc1, hc1⟩, rfl, rfl, hI1⟩, rfl⟩
    have hB1 := hB.chg km (f := fun p => { p with c := p.c + 1 }) (fun p => by dsimp only; omega)
    have hn1 := (Wt.chg_eq W km (fun p => { p with c := p.c + 1 })).1
    generalize W.chg km (fun p => { p with c := p.c + 1 }) = W1 at hI1 hB1 hn1 ⊢
    have ol := hI1.l
    dsimp only at ol
    obtain ⟨Al1, kl1, rfl⟩ := OwnS.slice ol
    refine .nil ?_
    refine .keep ((b7, .cells (⟨km, ks, kt⟩ : Kn).cells 122) :: Evb b5 e :: (WZ.H ⟨b, mo, mp, ma⟩ wn W.n ⟨eo1, co1, ep1, cp1, ea1, ca1, .slice Al1 W1.last.length kl1, hl1, vc1, hc1⟩ ++ k)) ?_
    refine .seq (.seq ((.region (.v (.fieldAddr rfl) (.v (.load (v := .bool kt) rfl (.one rfl)) (.nil ?_))))))
    refine .cond rfl (fun h2 => ?_) (fun h2 => .skip ?_)
    · rw [if_pos h2]
      refine .seq ((.region (.v (.move rfl) (.v (.assign rfl) (.nil ?_)))))
      exact .ret ⟨[_], ⟨rfl, trivial⟩, WZ.H ⟨b, mo, mp, ma⟩ wn W.n ⟨eo1, co1, ep1, cp1, ea1, ca1, .slice Al1 W1.last.length kl1, hl1, vc1, hc1⟩ ++ k, fun _ s => s.take, ⟨eo1, co1, ep1, cp1, ea1, ca1, .slice Al1 W1.last.length kl1, hl1, vc1, hc1⟩, k, rfl, hI1, ho⟩
    · rw [if_neg (by rw [h2]; simp)]
      have hlen1 := hB1.l
      have hB2 : (W1.fresh ⟨km, ks, kt⟩).Bd (j + 1 + 1) := hB1.push rfl (by dsimp only; omega)
      have hL2 : (W1.fresh ⟨km, ks, kt⟩).last = W1.last ++ [⟨W.n, false, 0, 0, 0, km, ks, true⟩] := by unfold Wt.fresh; rw [← hn1]
      have hn2 : (W1.fresh ⟨km, ks, kt⟩).n = W.n := hn1
      refine .seq ((.drawQ 16 [0, 1, 2, 3, 4, 5, 6, 7, 8, 9, 10, 11, 12, 13, 14, 15, 16] [(b7, .cells (⟨km, ks, kt⟩ : Kn).cells 122), Wb b wn W.n mo mp ma (.slice Al1 W1.last.length kl1) vc1] (by intro y hy; simp at hy ⊢; rcases hy with rfl | rfl <;> simp) (by kernel_rfl) (by kernel_rfl) ?_))
      refine .v (fun _ f => .move rfl) (.v (fun _ f => .move rfl) (.v (fun _ f => .nilCheck rfl) (.v (fun _ f => .fieldAddr rfl) (.v (fun _ f => .load (v := .slice Al1 W1.last.length kl1) rfl (.one (hb := .sub f) rfl)) (.v (fun _ f => .move rfl) (.v (fun _ f => .nilCheck rfl) (.v (fun _ f => .fieldAddr rfl) (.v (fun _ f => .load (v := .int .u64 W.n) rfl (.one (hb := .sub f) rfl)) (.v (fun _ f => .fieldAddr rfl) (.v (fun _ f => .loadA (vs := [.int .u32 km, .int .i64 ks]) rfl (.chunk (hb := .sub f) (getP 0 rfl)) rfl) (.v (fun _ f => .build (out := (⟨W.n, false, 0, 0, 0, km, ks, true⟩ : Sn).cells) rfl rfl) ?_)))))))))))
      refine .ef (.buildSlice (out := (⟨W.n, false, 0, 0, 0, km, ks, true⟩ : Sn).cells) rfl (by decide) rfl rfl) (fun v hs' ⟨_, _, e⟩ f => by subst e; exact fun y hy => List.mem_cons_of_mem _ (f hy)) ?_
      rintro _ _ ⟨bn, rfl, rfl⟩
      refine .ef (.append (c := W1.last.length) (k := 1) (vs := snrows W1.last) (news := (⟨W.n, false, 0, 0, 0, km, ks, true⟩ : Sn).cells) (h := hl1) rfl rfl ol TakeI.out (fun w' s => Src.of_at s .whole rfl) rfl rfl (by omega) (by omega)) (fun v hs' ⟨_, _, e⟩ f => by subst e; intro y hy; simp at hy; rcases hy with rfl | rfl <;> simp) ?_
      rintro vl2 _ ⟨hl2, ol2, rfl⟩
      have ol2' : SnOwn vl2 (W1.fresh ⟨km, ks, kt⟩).last hl2 := by
        rw [hL2]
        show OwnS _ 8 _ (W1.last ++ [_]).length (snrows (W1.last ++ [_])) _
        rw [List.length_append, snrows_app]; exact ol2
      clear ol2
      have hI2 : ∀ z, z = (⟨eo1, co1, ep1, cp1, ea1, ca1, vl2, hl2, vc1, hc1⟩ : WZ) → WI (W1.fresh ⟨km, ks, kt⟩) z := fun z hz => by subst hz; exact ⟨hI1.oo, hI1.o, hI1.po, hI1.p, hI1.ao, hI1.a, ol2', hI1.c⟩
      generalize W1.fresh ⟨km, ks, kt⟩ = W2 at ol2' hI2 hB2 hn2 ⊢
      clear hL2
      obtain ⟨Al2, kl2, rfl⟩ := OwnS.slice ol2'
      refine .v (fun _ f => .nilCheck rfl) (.v (fun _ f => .fieldAddr rfl) (.st (.storeL rfl rfl rfl) (.nil ?_)))
      refine .keep ((b7, .cells (⟨km, ks, kt⟩ : Kn).cells 122) :: Evb b5 e :: (WZ.H ⟨b, mo, mp, ma⟩ wn W.n ⟨eo1, co1, ep1, cp1, ea1, ca1, .slice Al2 W2.last.length kl2, hl2, vc1, hc1⟩ ++ k)) ?_
      have hI2 := hI2 _ rfl
      have hlen2 := hB2.l
      refine .seq ((.region (.v (.assign rfl) (.v (.assign rfl) (.nil ?_)))))
      refine .seq (.seq ((.region (.v (.move rfl) (.v (.nilCheck rfl) (.v (.fieldAddr rfl) (.v (.load (v := .slice Al2 W2.last.length kl2) rfl (.one rfl)) (.v (.len rfl) (.v (.move rfl) (.nil ?_))))))))))
      refine .block (.loop (X := Nat) (fun i => [(0, .pointer (some ⟨b, 0, none⟩)), (1, v), (5, .pointer (some ⟨b5, 0, none⟩)), (7, .pointer (some ⟨b7, 0, none⟩)), (9, .int .i64 (layN km ks (W2.last.take i))), (10, .bool (metB km ks (W2.last.take i))), (54, .slice Al2 W2.last.length kl2), (55, .int .i64 W2.last.length), (56, .int .i64 i)]) (fun _ => (b7, .cells (⟨km, ks, kt⟩ : Kn).cells 122) :: Evb b5 e :: (WZ.H ⟨b, mo, mp, ma⟩ wn W.n ⟨eo1, co1, ep1, cp1, ea1, ca1, .slice Al2 W2.last.length kl2, hl2, vc1, hc1⟩ ++ k)) (fun i => i ≤ W2.last.length) (fun i => W2.last.length - i) 0 (Nat.zero_le _) (.cons rfl (.cons rfl (.cons rfl (.cons rfl (.cons rfl (.cons rfl (.cons rfl (.cons rfl (.cons rfl (.nil _)))))))))) (fun _ s => s) ?_)
      intro i hi
      refine .seq ((.region (.v (.lss rfl rfl) (.nil ?_))))
      refine .seq (.cond_dec rfl (fun h3 => .skip ?_) (fun h3 => .exit ?_))
      · have hil : i < W2.last.length := by omega
        obtain ⟨bq, oq, lq, rfl, -, rfl, -, -, -⟩ := OwnS.some_ ol2' (by omega)
        have hat := fun hs' hsub => recAt Sn.cells 8 (fun _ => rfl) (z := (i : Int)) (OwnS.at0 (w0 := w0) (own := bl (WZ.H ⟨b, mo, mp, ma⟩ wn W.n ⟨eo, co, ep, cp, ea, ca, vl, hl, vc, hc⟩ ++ k)) (hs := hs') ol2' hsub) hil
        have hts := take_snoc hil
        have hla := layN_snoc km ks (W2.last.take i) W2.last[i]
        have hme := metB_snoc km ks (W2.last.take i) W2.last[i]
        rw [← hts] at hla hme
        have hln := layN_le km ks (W2.last.take i)
        rw [List.length_take] at hln
        generalize W2.last[i] = x at hat hla hme
        refine .seq (.block (.seq ((.region (.v (.indexAddr rfl rfl (by omega) (by omega)) (.v (.loadA (vs := x.cells) rfl (hat _ (fun y hy => by simp at hy; subst hy; simp)) rfl) (.nw .alloc fun b12 => (.st (.sw rfl rfl) (.nil ?_)))))))))
        refine .mid (X := Int) (fun c => [(0, .pointer (some ⟨b, 0, none⟩)), (1, v), (5, .pointer (some ⟨b5, 0, none⟩)), (7, .pointer (some ⟨b7, 0, none⟩)), (9, .int .i64 c), (10, .bool (metB km ks (W2.last.take i))), (12, .pointer (some ⟨b12, 0, none⟩)), (54, .slice (some ⟨bq, oq, none⟩) W2.last.length kl2), (55, .int .i64 W2.last.length), (56, .int .i64 i)]) (fun _ => (b12, .cells x.cells 81) :: (b7, .cells (⟨km, ks, kt⟩ : Kn).cells 122) :: Evb b5 e :: (WZ.H ⟨b, mo, mp, ma⟩ wn W.n ⟨eo1, co1, ep1, cp1, ea1, ca1, .slice (some ⟨bq, oq, none⟩) W2.last.length kl2, [(bq, Ch.cells lq 81)], vc1, hc1⟩ ++ k)) (fun c => c = layN km ks (W2.last.take (i + 1))) (.seq ((.region (.v (.fieldAddr rfl) (.v (.load (v := .bool x.fr) rfl (.one rfl)) (.v (.move rfl) (.and (b2 := cellsEq [.int .u32 x.cm, .int .i64 x.cs] [.int .u32 km, .int .i64 ks]) 62 67 5 5 rfl rfl (fun g1 => .v (.fieldAddr rfl) (.v (.loadA (vs := [.int .u32 x.cm, .int .i64 x.cs]) rfl (.chunk (getP 5 rfl)) rfl) (.v (.fieldAddr rfl) (.v (.loadA (vs := [.int .u32 km, .int .i64 ks]) rfl (.chunk (getP 0 rfl)) rfl) (.v (.eqA rfl rfl (ls := [.i .u32, .i .i64]) ⟨rfl, rfl, trivial⟩ ⟨rfl, rfl, trivial⟩) (.nil ⟨rfl, rfl, rfl, rfl⟩)))))) (.nil ?_)))))))) ?_
        · rw [ow_dec]
          refine .cond rfl (fun h4 => ?_) (fun h4 => .skip ?_)
          · rw [if_pos h4] at hla
            refine .region (.v (.move rfl) (.v (.addi rfl rfl (by omega)) (.v (.assign rfl) (.nil ?_))))
            exact ⟨_, hla.symm, .cons rfl (.cons rfl (.cons rfl (.cons rfl (.cons rfl (.cons rfl (.cons rfl (.cons rfl (.cons rfl (.cons rfl (.nil _)))))))))), fun _ s => s.take⟩
          · rw [if_neg (by rw [h4]; simp)] at hla
            exact ⟨_, by rw [hla]; omega, .cons rfl (.cons rfl (.cons rfl (.cons rfl (.cons rfl (.cons rfl (.cons rfl (.cons rfl (.cons rfl (.cons rfl (.nil _)))))))))), fun _ s => s.take⟩
        · rintro c rfl
          refine .seq ((.region (.v (.fieldAddr rfl) (.v (.load (v := .int .u32 x.by_) rfl (.one rfl)) (.v (.assign rfl) (.nil ?_))))))
          refine .mid (X := Int) (fun g => [(0, .pointer (some ⟨b, 0, none⟩)), (1, v), (5, .pointer (some ⟨b5, 0, none⟩)), (7, .pointer (some ⟨b7, 0, none⟩)), (9, .int .i64 (layN km ks (W2.last.take (i + 1)))), (10, .bool (metB km ks (W2.last.take i))), (12, .pointer (some ⟨b12, 0, none⟩)), (13, .int .u32 g), (54, .slice (some ⟨bq, oq, none⟩) W2.last.length kl2), (55, .int .i64 W2.last.length), (56, .int .i64 i)]) (fun _ => (b12, .cells x.cells 81) :: (b7, .cells (⟨km, ks, kt⟩ : Kn).cells 122) :: Evb b5 e :: (WZ.H ⟨b, mo, mp, ma⟩ wn W.n ⟨eo1, co1, ep1, cp1, ea1, ca1, .slice (some ⟨bq, oq, none⟩) W2.last.length kl2, [(bq, Ch.cells lq 81)], vc1, hc1⟩ ++ k)) (fun g => g = if ks = 1 then x.se else x.by_) (.seq ((.region (.v (.fieldAddr rfl) (.v (.fieldAddr rfl) (.v (.load (v := .int .i64 ks) rfl (.one rfl)) (.v (.eqi rfl rfl) (.nil ?_)))))))) ?_
          · refine .cond_dec rfl (fun h5 => ?_) (fun h5 => .skip ?_)
            · refine .region (.v (.fieldAddr rfl) (.v (.load (v := .int .u32 x.se) rfl (.one rfl)) (.v (.assign rfl) (.nil ?_))))
              exact ⟨x.se, by rw [if_pos h5], .cons rfl (.cons rfl (.cons rfl (.cons rfl (.cons rfl (.cons rfl (.cons rfl (.cons rfl (.cons rfl (.cons rfl (.cons rfl (.nil _))))))))))), fun _ s => s⟩
            · exact ⟨x.by_, by rw [if_neg h5], .cons rfl (.cons rfl (.cons rfl (.cons rfl (.cons rfl (.cons rfl (.cons rfl (.cons rfl (.cons rfl (.cons rfl (.cons rfl (.nil _))))))))))), fun _ s => s⟩
          · rintro g rfl
            refine .region (.v (.move rfl) (.v (.move rfl) (.or (b2 := x.tr && decide ((if ks = 1 then x.se else x.by_) = km)) 80 89 9 4 rfl rfl (fun g4 => .v (.fieldAddr rfl) (.v (.load (v := .bool x.tr) rfl (.one rfl)) (.v (.move rfl) (.and (b2 := decide ((if ks = 1 then x.se else x.by_) = km)) 83 88 5 5 rfl rfl (fun g5 => .v (.move rfl) (.v (.fieldAddr rfl) (.v (.fieldAddr rfl) (.v (.load (v := .int .u32 km) rfl (.one rfl)) (.v (.eqi rfl rfl) (.nil ⟨rfl, rfl, rfl, rfl⟩)))))) (.nil ⟨rfl, rfl, rfl, rfl⟩))))) (.v (.assign rfl) (.nil ?_)))))
            rw [← hme]
            refine .region (.v (.addi rfl rfl (by omega)) (.v (.move rfl) (.nil ?_)))
            exact ⟨i + 1, hil, by show W2.last.length - (i + 1) < _; omega, .cons rfl (.cons rfl (.cons rfl (.cons rfl (.cons rfl (.cons rfl (.cons rfl (.cons rfl (.cons rfl (.nil _))))))))), fun _ s => s.take⟩
      · have hil : i = W2.last.length := by omega
        subst hil
        rw [List.take_length]
        have hln := layN_le km ks W2.last
        refine .seq (.seq ((.region (.v (.move rfl) (.v (.move rfl) (.v (.nilCheck rfl) (.v (.fieldAddr rfl) (.v (.fieldAddr rfl) (.v (.load (v := .int .i64 wn.lay) rfl (.one rfl)) (.v (.geq rfl rfl) (.v (.move rfl) (.and (b2 := metB km ks W2.last) 99 100 1 1 rfl rfl (fun g10 => .v (.move rfl) (.nil ⟨rfl, rfl, rfl, rfl⟩)) (.nil ?_)))))))))))))
        refine .cond rfl (fun h7 => ?_) (fun h7 => .skip ?_)
        · rw [Bool.and_eq_true, decide_eq_true_eq] at h7
          rw [if_pos h7]
          refine .keep ((b7, .cells (⟨km, ks, kt⟩ : Kn).cells 122) :: Evb b5 e :: (WZ.H ⟨b, mo, mp, ma⟩ wn W2.n ⟨eo1, co1, ep1, cp1, ea1, ca1, .slice Al2 W2.last.length kl2, hl2, vc1, hc1⟩ ++ k)) (h := by rw [hn2]; infer_instance) ?_
          refine .seq ((.region (.v (.move rfl) (.v (.move rfl) (.v (.fieldAddr rfl) (.v (.fieldAddr rfl) (.v (.load (v := .int .u32 km) rfl (.one rfl)) (.v (.fieldAddr rfl) (.v (.load (v := .int .u64 e.id) rfl (.one rfl)) (.v (.move rfl) (.v (.build (out := (⟨2, km, 0, e.id, layN km ks W2.last⟩ : Al).cells) rfl rfl) ?_)))))))))))
          refine .ef (.callT (WZ.H ⟨b, mo, mp, ma⟩ wn W2.n ⟨eo1, co1, ep1, cp1, ea1, ca1, .slice Al2 W2.last.length kl2, hl2, vc1, hc1⟩ ++ k) rfl rfl fun w s => alert_ok w ⟨b, mo, mp, ma⟩ wn hw hI2 hB2 (by omega) (by omega) ho hol 2 km 0 e.id (layN km ks W2.last)) ?_
          rintro v' _ ⟨_, ⟨z', k', rfl, hI', ho'⟩, rfl⟩
          refine .v (.assign rfl) (.nil ?_)
          rw [hn2]
          exact .ret ⟨[_], ⟨rfl, trivial⟩, WZ.H ⟨b, mo, mp, ma⟩ wn W.n z' ++ k', fun _ s => s.take, z', k', rfl, hI', ho'⟩
        · have h7 : ¬ (wn.lay ≤ (layN km ks W2.last : Int) ∧ metB km ks W2.last = true) := fun hh => by rw [decide_eq_true hh.1, hh.2] at h7; cases h7
          rw [if_neg h7]
          refine .seq ((.region (.v (.move rfl) (.v (.assign rfl) (.nil ?_)))))
          exact .ret ⟨[_], ⟨rfl, trivial⟩, WZ.H ⟨b, mo, mp, ma⟩ wn W.n ⟨eo1, co1, ep1, cp1, ea1, ca1, .slice Al2 W2.last.length kl2, hl2, vc1, hc1⟩ ++ k, fun _ s => s.take, ⟨eo1, co1, ep1, cp1, ea1, ca1, .slice Al2 W2.last.length kl2, hl2, vc1, hc1⟩, k, rfl, hI2, ho⟩
end Go.Proofs.Ytcbppikkoelimaa
