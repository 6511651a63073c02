/- VL: regions that draw their order and end with one store: what is held is held up to that store. -/
import Derived.Test.YtmfobfamdaajmaaVK
namespace Go
namespace V
open Go.RowKit
set_option linter.unusedVariables false
set_option linter.unusedSimpArgs false

section
variable {P : Program} {ops : Array Oper} {Q : Exit → Act → World → Prop} {S : World → Prop} {z : Nat}

/-- whatever comes up next, to the end; up to number z S is shown behind each -/
def Upto (P : Program) (ops : Array Oper) (Q : Exit → Act → World → Prop) (S : World → Prop) (z : Nat) : Nat → Array Bool → Act → World → Prop
  | 0, l, a, w => Region.ready .any ops l = [] ∧ Q .normal a w
  | k + 1, l, a, w => (Region.ready .any ops l = [] → Q .normal a w) ∧
      ∀ i ∈ Region.ready .any ops l, wpOp P ops Q i (fun a' w' => ((l.setIfInBounds i true).getD z true = false → S w') ∧ Upto P ops Q S z k (l.setIfInBounds i true) a' w') a w
theorem Upto.any : ∀ (k : Nat) (l : Array Bool) (a : Act) (w : World), Upto P ops Q S z k l a w → wpAny P .any ops Q k l a w
  | 0, _, _, _, h => h
  | k + 1, l, a, w, h => ⟨h.1, fun i hi => wpOp_mono (fun a' w' h' => Upto.any k _ a' w' h'.2) (h.2 i hi)⟩
theorem not_both {i z : Nat} {l : Array Bool} {oz : Oper} (hoz : ops[z]? = some oz) (hw : ∃ e ∈ oz.after, Region.binds .any e = true ∧ e.on = i) (hr : i ∈ Region.ready .any ops l) : z ∉ Region.ready .any ops l := by
  intro hz
  obtain ⟨h0, _, _, _⟩ := mem_ready.1 hr
  obtain ⟨_, o, ho, hall⟩ := mem_ready.1 hz
  have : o = oz := Option.some.inj (ho.symm.trans hoz)
  subst this
  obtain ⟨e, he, hb, hon⟩ := hw
  have h1 := hall e he hb
  rw [hon] at h1
  rcases Nat.lt_or_ge i l.size with h' | h'
  · simp [h'] at h0 h1
    rw [h0] at h1; cases h1
  · simp [Array.getElem?_eq_none h'] at h1
/-- number i may be taken first, if z waits for it -/
theorem Upto.first {i : Nat} {oi oz : Oper} {v : Value} (hi : ops[i]? = some oi) (hsel : ∀ (j : Nat) (o : Oper) cs b, ops[j]? = some o → o.op ≠ .select cs b)
    (hQ : ∀ c a w, Q (.panic c) (a.put oi.dst v) w → Q (.panic c) a w) (hoz : ops[z]? = some oz) (hw : ∃ e ∈ oz.after, Region.binds .any e = true ∧ e.on = i) (hzi : z ≠ i) :
    ∀ (k : Nat) (l : Array Bool) (a : Act) (w : World),
      (∀ j oj, ops[j]? = some oj → j ≠ i → l.getD j true = false → (∀ e ∈ oj.after, Region.binds .any e = true → e.on ≠ i) → oi.apart ops oj = true) →
      i ∈ Region.ready .any ops l → YieldsIf P ops S oi v a → S w → l.getD z true = false →
      Upto P ops Q S z k (l.setIfInBounds i true) (a.put oi.dst v) w → Upto P ops Q S z (k + 1) l a w := by
  intro k
  induction k with
  | zero =>
    intro l a w _ hr hy hS hz H
    refine ⟨fun h => absurd (h ▸ hr) List.not_mem_nil, fun j hj => ?_⟩
    rcases Decidable.em (j = i) with rfl | hji
    · exact hy.wpOp hi hS ⟨fun _ => hS, H⟩
    · exact absurd (H.1 ▸ ready_mono hj hji) List.not_mem_nil
  | succ k ih =>
    intro l a w hfree hr hy hS hz H
    refine ⟨fun h => absurd (h ▸ hr) List.not_mem_nil, fun j hj => ?_⟩
    rcases Decidable.em (j = i) with rfl | hji
    · exact hy.wpOp hi hS ⟨fun _ => hS, H⟩
    have hjz : j ≠ z := fun e => not_both hoz hw hr (e ▸ hj)
    obtain ⟨hun, oj, hoj, hall⟩ := mem_ready.1 hj
    have hno : ∀ e ∈ oj.after, Region.binds .any e = true → e.on ≠ i := by
      intro e he hb hon
      exact not_both (z := j) hoj ⟨e, he, hb, hon⟩ hr hj
    have step := wpOp_putIf hoj (hfree j oj hoj hji hun hno) (fun cs b => hsel i oi cs b hi) (fun cs b => hsel j oj cs b hoj) hQ hy (H.2 j (ready_mono hj hji))
    refine wpOp_mono (fun a' w' ⟨hy', hS', hrest⟩ => ?_) step
    have hz' : (l.setIfInBounds j true).getD z true = false := by rw [getD_set_ne true hjz]; exact hz
    have hz2 : ((l.setIfInBounds i true).setIfInBounds j true).getD z true = false := by
      rw [getD_set_ne true hjz, getD_set_ne true (Ne.symm hzi)]; exact hz
    refine ⟨fun _ => hS' hz2, ih (l.setIfInBounds j true) a' w' (fun m om hm hmi hun' hno' => ?_) (ready_mono hr (Ne.symm hji)) hy' (hS' hz2) hz' ?_⟩
    · refine hfree m om hm hmi ?_ hno'
      rcases Decidable.em (j = m) with rfl | hjm
      · exact hun
      · rw [getD_set_ne true hjm] at hun'; exact hun'
    · rw [Array.setIfInBounds_comm _ _ hji]; exact hrest
end

/-- the operations that have not come up; 'F' is held up to number z -/
def JZ (P : Program) (n : Nat) (w0 : World) (own : List Nat) (ops : Array Oper) (F : Hp) (z : Nat) (m : Nat) (listed : Array Bool) (e : Env) (hs : Hp) (K : Env → Hp → Prop) : Prop :=
  ∀ a w, Rep n a e → Sat w0 own hs w → (listed.getD z true = false → F ⊆ hs) →
    Upto P ops (QN fun a' w' => ∃ e' hs', Rep n a' e' ∧ Sat w0 own hs' w' ∧ K e' hs') (Keeps w0 own F) z m listed a w
/-- z has not come up, and waits for i; i may be taken first -/
def firstZ (ops : Array Oper) (z : Nat) (listed : Array Bool) (i : Nat) : Bool :=
  Region.noSelect ops && Region.free .any ops listed i && (Region.ready .any ops listed).contains i && Region.waitsFor .any ops z i && !Nat.beq z i && !listed.getD z true

section
variable {P : Program} {n : Nat} {w0 : World} {own : List Nat} {e : Env} {hs F : Hp} {ops : Array Oper} {K : Env → Hp → Prop} {z m : Nat} {listed : Array Bool}
variable {d : Nat} {ty : TypeId} {pos : String} {aft : Array Edge} {g : Option (Nat × Bool)}

theorem JC.drawZ {id : Nat} {Q : Post} (z : Nat) (F : Hp) (hF : F ⊆ hs) (hm : P.follows .mixedOrders = true) (h : JZ P n w0 own ops F z ops.size (Array.replicate ops.size false) e hs (fun e hs => Q .normal e hs)) :
    JC P n w0 own (.region id ops true) e hs Q := by
  intro a w hr s
  refine wp_mono (wp_region_any hm (Upto.any _ _ _ _ (h a { w with drawn := w.drawn + 1 } hr s.drew fun _ => hF))) ?_
  intro x a' w' hq
  cases x with
  | normal => exact hq
  | _ => exact hq.elim
theorem JZ.done (hd : doneB ops listed = true) (h : K e hs) : JZ P n w0 own ops F z m listed e hs K := by
  intro a w hr s hF
  have h0 : Region.ready .any ops listed = [] := by simpa [doneB] using hd
  cases m with
  | zero => exact ⟨h0, e, hs, hr, s, h⟩
  | succ m => exact ⟨fun _ => ⟨e, hs, hr, s, h⟩, fun i hi => by rw [h0] at hi; cases hi⟩
theorem JZ.v {op : Op} {v : Value} (i : Nat) (hi : ops[i]? = some ⟨some d, op, ty, pos, aft, g⟩) (hf : firstZ ops z listed i = true)
    (h : ∀ hs', F ⊆ hs' → Val P n w0 own e hs' op v) (k : JZ P n w0 own ops F z m (listed.setIfInBounds i true) ((d, v) :: e) hs K)
    (hdn : Nat.blt d n = true := by rfl) (hg : wantB ops e g = some true := by rfl) : JZ P n w0 own ops F z (m + 1) listed e hs K := by
  intro a w hr s hF
  unfold firstZ at hf
  simp only [Bool.and_eq_true, Bool.not_eq_true'] at hf
  obtain ⟨⟨⟨⟨⟨f1, f2⟩, f3⟩, f4⟩, f5⟩, f6⟩ := hf
  obtain ⟨oz, hoz, ez, hez, hb, hon⟩ := Region.waitsFor_spec f4
  have hzi : z ≠ i := Nat.ne_of_beq_eq_false f5
  have hz2 : (listed.setIfInBounds i true).getD z true = false := by rw [getD_set_ne true (Ne.symm hzi)]; exact f6
  exact Upto.first hi (Region.noSelect_spec f1) (fun _ _ _ h => h) hoz ⟨ez, hez, hb, hon⟩ hzi m listed a w (Region.free_spec hi f2) (by simpa using f3)
    (.inl ⟨wanted_of hr hg, fun w' ⟨hs', s', f'⟩ => h hs' f' a w' _ _ _ _ _ hr s'⟩) ⟨hs, s, hF f6⟩ f6
    (k _ _ (hr.put (Nat.le_of_ble_eq_true hdn) v) s fun _ => hF f6)
theorem JZ.ef {op : Op} {R : Value → Hp → Prop} (i : Nat) (hi : ops[i]? = some ⟨some d, op, ty, pos, aft, g⟩) (ho : onlyB ops listed i = true)
    (h : Eff P n w0 own e hs op R) (k : ∀ v hs', R v hs' → JZ P n w0 own ops F z m (listed.setIfInBounds i true) ((d, v) :: e) hs' K) (hF : ∀ v hs', R v hs' → F ⊆ hs → F ⊆ hs')
    (hz : true = true) (hdn : Nat.blt d n = true := by rfl) (hg : wantB ops e g = some true := by rfl) : JZ P n w0 own ops F z (m + 1) listed e hs K := by
  intro a w hr s hf
  have h1 : Region.ready .any ops listed = [i] := by simpa [onlyB] using ho
  refine ⟨fun h0 => (by rw [h1] at h0; cases h0), fun j hj => ?_⟩
  rw [h1] at hj
  simp only [List.mem_singleton] at hj
  subst hj
  unfold wpOp
  simp only [hi]
  rw [if_pos (wanted_of hr hg)]
  have hsub : ∀ v hs', R v hs' → (listed.setIfInBounds j true).getD z true = false → F ⊆ hs' := by
    intro v hs' r hz'
    have hzj : z ≠ j := by
      intro e
      subst e
      rcases Nat.lt_or_ge z listed.size with h' | h'
      · simp [h'] at hz'
      · simp [h'] at hz'
    rw [getD_set_ne true (Ne.symm hzj)] at hz'
    exact hF v hs' r (hf hz')
  exact .inl (h a w _ _ _ _ _ _ _ hr s fun v hs' w' r s' => ⟨fun hz' => ⟨hs', s', hsub v hs' r hz'⟩, k v hs' r _ _ (hr.put (Nat.le_of_ble_eq_true hdn) v) s' (hsub v hs' r)⟩)
/-- a value that is the one thing that may come up -/
theorem JZ.v1 {op : Op} {v : Value} (i : Nat) (hi : ops[i]? = some ⟨some d, op, ty, pos, aft, g⟩) (ho : onlyB ops listed i = true)
    (h : Val P n w0 own e hs op v) (k : JZ P n w0 own ops F z m (listed.setIfInBounds i true) ((d, v) :: e) hs K) (hz : true = true)
    (hdn : Nat.blt d n = true := by rfl) (hg : wantB ops e g = some true := by rfl) : JZ P n w0 own ops F z (m + 1) listed e hs K :=
  JZ.ef i hi ho h.eff (fun v' hs' ⟨h1, h2⟩ => by subst h1; subst h2; exact k) (fun v' hs' ⟨h1, h2⟩ f => by subst h2; exact f) hz hdn hg
/-- THE STORE -/
theorem JZ.st {op : Op} {hs' : Hp} (hi : ops[z]? = some ⟨none, op, ty, pos, aft, g⟩) (ho : onlyB ops listed z = true) (hsz : Nat.blt z listed.size = true)
    (h : Eff P n w0 own e hs op (fun v h => v = undef ∧ h = hs')) (k : JZ P n w0 own ops F z m (listed.setIfInBounds z true) e hs' K)
    (hg : wantB ops e g = some true := by rfl) : JZ P n w0 own ops F z (m + 1) listed e hs K := by
  intro a w hr s hf
  have h1 : Region.ready .any ops listed = [z] := by simpa [onlyB] using ho
  refine ⟨fun h0 => (by rw [h1] at h0; cases h0), fun j hj => ?_⟩
  rw [h1] at hj
  simp only [List.mem_singleton] at hj
  subst hj
  unfold wpOp
  simp only [hi]
  rw [if_pos (wanted_of hr hg)]
  have hlt : j < listed.size := Nat.le_of_ble_eq_true hsz
  have habs : (listed.setIfInBounds j true).getD j true = false → F ⊆ hs' := by intro h; simp [hlt] at h
  exact .inl (h a w _ _ _ _ _ _ _ hr s fun v h' w' ⟨_, e2⟩ s' => by
    subst e2
    exact ⟨fun hz' => absurd (habs hz') (by simp [hlt] at hz'), k _ _ (hr.put_none v) s' habs⟩)
/-- a store behind z -/
theorem JZ.st2 {op : Op} {hs' : Hp} (i : Nat) (hi : ops[i]? = some ⟨none, op, ty, pos, aft, g⟩) (ho : onlyB ops listed i = true) (hz : listed.getD z true = true) (hsz : Nat.beq z i = false)
    (h : Eff P n w0 own e hs op (fun v h => v = undef ∧ h = hs')) (k : JZ P n w0 own ops F z m (listed.setIfInBounds i true) e hs' K)
    (hg : wantB ops e g = some true := by rfl) : JZ P n w0 own ops F z (m + 1) listed e hs K := by
  intro a w hr s hf
  have h1 : Region.ready .any ops listed = [i] := by simpa [onlyB] using ho
  refine ⟨fun h0 => (by rw [h1] at h0; cases h0), fun j hj => ?_⟩
  rw [h1] at hj
  simp only [List.mem_singleton] at hj
  subst hj
  unfold wpOp
  simp only [hi]
  rw [if_pos (wanted_of hr hg)]
  have hno : (listed.setIfInBounds j true).getD z true = true := by rw [getD_set_ne true (Ne.symm (Nat.ne_of_beq_eq_false hsz))]; exact hz
  have habs : (listed.setIfInBounds j true).getD z true = false → F ⊆ hs' := by intro h; rw [hno] at h; cases h
  exact .inl (h a w _ _ _ _ _ _ _ hr s fun v h' w' ⟨_, e2⟩ s' => by
    subst e2
    exact ⟨fun hz' => (nomatch (hno.symm.trans hz')), k _ _ (hr.put_none v) s' habs⟩)
end
end V
end Go
