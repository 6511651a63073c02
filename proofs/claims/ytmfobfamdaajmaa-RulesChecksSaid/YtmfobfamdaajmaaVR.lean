/- VR: regions that draw their order: they run in an order of our choice, values first, what works on memory when it is alone. -/
import Derived.Test.YtmfobfamdaajmaaVQ
namespace Go
namespace V
open Go.RowKit
set_option linter.unusedVariables false
set_option linter.unusedSimpArgs false

/-- does the operation work on memory? -/
def isEff (o : Oper) : Bool := match o.op with
  | .alloc _ | .box _ _ | .buildSlice _ _ _ | .insert _ _ _ _ | .store _ _ _ | .makeMap _ _ | .makeSlice _ _ _ | .mapUpdate _ _ _ _ | .mapEntry _ _ _ | .entryStore _ _ _ _ | .range _ _ | .next _ _ | .entry _ => true
  | .call { callee := .value _, .. } => true
  | .call { callee := .builtin .append, .. } => true
  | .call { callee := .builtin .copy, .. } => true
  | .call { callee := .builtin .delete, .. } => true
  | .call { callee := .builtin .clear, .. } => true
  | _ => false
/-- the numbers may come up in this order -/
def ordB (ops : Array Oper) : List Oper → List Nat → Array Bool → Bool
  | [], [], _ => true
  | o :: l, i :: is, listed => (onlyB ops listed i || (!isEff o && firstB ops listed i)) && ordB ops l is (listed.setIfInBounds i true)
  | _, _, _ => false
def marks_ : List Nat → Array Bool → Array Bool
  | [], listed => listed
  | i :: is, listed => marks_ is (listed.setIfInBounds i true)
theorem marks_app : ∀ (a b : List Nat) (listed : Array Bool), marks_ (a ++ b) listed = marks_ b (marks_ a listed)
  | [], b, listed => rfl
  | i :: a, b, listed => marks_app a b _
theorem ordB_app (ops : Array Oper) : ∀ (l1 l2 : List Oper) (i1 i2 : List Nat) (listed : Array Bool), l1.length = i1.length → ordB ops (l1 ++ l2) (i1 ++ i2) listed = (ordB ops l1 i1 listed && ordB ops l2 i2 (marks_ i1 listed))
  | [], l2, [], i2, listed, _ => by simp [ordB, marks_]
  | o :: l1, l2, i :: i1, i2, listed, h => by
    simp only [List.cons_append, ordB, ordB_app ops l1 l2 i1 i2 _ (by simpa using h), marks_, Bool.and_assoc]
  | [], _, _ :: _, _, _, h => by simp at h
  | _ :: _, _, [], _, _, h => by simp at h
def Nums (ops : Array Oper) : List Oper → List Nat → Prop
  | [], [] => True
  | o :: l, i :: is => ops[i]? = some o ∧ Nums ops l is
  | _, _ => False
theorem Nums.len {ops : Array Oper} : ∀ {l : List Oper} {is : List Nat}, Nums ops l is → l.length = is.length
  | [], [], _ => rfl
  | o :: l, i :: is, h => by have := Nums.len h.2; simp [this]
  | [], _ :: _, h => h.elim
  | _ :: _, [], h => h.elim
theorem Nums.app {ops : Array Oper} : ∀ {l1 l2 : List Oper} {is : List Nat}, Nums ops (l1 ++ l2) is → Nums ops l1 (is.take l1.length) ∧ Nums ops l2 (is.drop l1.length)
  | [], l2, is, h => ⟨by simp [Nums], by simpa using h⟩
  | o :: l1, l2, i :: is, h => by
    obtain ⟨h1, h2⟩ := h
    obtain ⟨k1, k2⟩ := Nums.app h2
    exact ⟨⟨h1, k1⟩, k2⟩
  | _ :: _, _, [], h => h.elim
theorem Nums.seq {ops : Array Oper} : ∀ (l : List Oper) (k : Nat), (∀ j, j < l.length → ops[k + j]? = l[j]?) → Nums ops l (List.range' k l.length)
  | [], k, _ => trivial
  | o :: l, k, h => by
    rw [List.length_cons, List.range'_succ]
    refine ⟨by simpa using h 0 (by simp), Nums.seq l (k + 1) fun j hj => ?_⟩
    have := h (j + 1) (by simpa using hj)
    rw [List.getElem?_cons_succ] at this
    rw [← this, Nat.add_right_comm, Nat.add_assoc]

/-- the operations, in a drawn region, in their order: 'F' is held -/
def JK (P : Program) (n : Nat) (w0 : World) (own : List Nat) (ops : Array Oper) (F : Hp) (l : List Oper) (e : Env) (hs : Hp) (K : Env → Hp → Prop) : Prop :=
  ∀ (m : Nat) (is : List Nat) (listed : Array Bool) (Z : Env → Hp → Prop), Nums ops l is → ordB ops l is listed = true → F ⊆ hs →
    (∀ e' hs', F ⊆ hs' → K e' hs' → JD P n w0 own ops F m (marks_ is listed) e' hs' Z) → JD P n w0 own ops F (l.length + m) listed e hs Z

section
variable {P : Program} {n : Nat} {w0 : World} {own : List Nat} {e : Env} {hs F : Hp} {ops : Array Oper} {rest l : List Oper} {K : Env → Hp → Prop}
variable {d : Nat} {ty : TypeId} {pos : String} {aft : Array Edge} {g : Option (Nat × Bool)}

theorem JC.drawK {id : Nat} {Q : Post} {l : List Oper} (F : Hp) (hF : F ⊆ hs) (hm : P.follows .mixedOrders = true) (hB : (ordB l.toArray l (List.range' 0 l.length) (Array.replicate l.length false) && doneB l.toArray (marks_ (List.range' 0 l.length) (Array.replicate l.length false))) = true)
    (h : JK P n w0 own l.toArray F l e hs (fun e' hs' => Q .normal e' hs')) : JC P n w0 own (.region id l.toArray true) e hs Q := by
  rw [Bool.and_eq_true] at hB
  refine JC.draw F hF hm ?_
  have := h 0 (List.range' 0 l.length) (Array.replicate l.length false) (fun e hs => Q .normal e hs) (Nums.seq l 0 fun j hj => by simp) hB.1 hF (fun e' hs' _ ke => JD.done hB.2 ke)
  simpa using this
def pickL (l : List Oper) : List Nat → List Oper
  | [] => []
  | i :: is => match l[i]? with
    | some o => o :: pickL l is
    | none => []
theorem pickL_nums {l : List Oper} : ∀ (is : List Nat), ordB l.toArray (pickL l is) is (Array.replicate l.length false) = true → (pickL l is).length = is.length → Nums l.toArray (pickL l is) is
  | [], _, _ => trivial
  | i :: is, h, hl => by
    have key : ∀ (is : List Nat), (pickL l is).length = is.length → Nums l.toArray (pickL l is) is := by
      intro is
      induction is with
      | nil => intro _; trivial
      | cons i is ih =>
        intro hl
        unfold pickL at hl ⊢
        cases ho : l[i]? with
        | none => rw [ho] at hl; simp at hl
        | some o =>
          rw [ho] at hl
          simp only at hl ⊢
          exact ⟨by simpa using ho, ih (by simpa using hl)⟩
    exact key _ hl
/-- in an order of ours -/
theorem JC.drawP {id : Nat} {Q : Post} {l : List Oper} (is : List Nat) (F : Hp) (hF : F ⊆ hs) (hm : P.follows .mixedOrders = true) (hB : (ordB l.toArray (pickL l is) is (Array.replicate l.length false) && doneB l.toArray (marks_ is (Array.replicate l.length false)) && Nat.beq (pickL l is).length l.length && Nat.beq is.length l.length) = true)
    (h : JK P n w0 own l.toArray F (pickL l is) e hs (fun e' hs' => Q .normal e' hs')) : JC P n w0 own (.region id l.toArray true) e hs Q := by
  rw [Bool.and_eq_true, Bool.and_eq_true, Bool.and_eq_true] at hB
  obtain ⟨⟨⟨h1, h2⟩, h3⟩, h4⟩ := hB
  have h3 := Nat.eq_of_beq_eq_true h3
  have h4 := Nat.eq_of_beq_eq_true h4
  refine JC.draw F hF hm ?_
  have := h 0 is (Array.replicate l.length false) (fun e hs => Q .normal e hs) (pickL_nums is h1 (by omega)) h1 hF (fun e' hs' _ ke => JD.done h2 ke)
  rw [h3] at this
  simpa using this
theorem JK.nil (h : K e hs) : JK P n w0 own ops F [] e hs K := fun m is listed Z hn _ hF hz => by
  cases is with
  | nil => rw [List.length_nil, Nat.zero_add]; exact hz e hs hF h
  | cons i is => exact hn.elim
theorem JK.mono {K' : Env → Hp → Prop} (h : JK P n w0 own ops F l e hs K) (kk : ∀ e hs, K e hs → K' e hs) : JK P n w0 own ops F l e hs K' :=
  fun m k listed Z h1 h2 h3 hz => h m k listed Z h1 h2 h3 fun e' hs' f ke => hz e' hs' f (kk e' hs' ke)
theorem JK.sub {e2 : Env} (hs' : Sub e2 e) (h : JK P n w0 own ops F l e2 hs K) : JK P n w0 own ops F l e hs K :=
  fun m k listed Z h1 h2 h3 hz a w hr s hF => h m k listed Z h1 h2 h3 hz a w (hr.sub hs') s hF
/-- a thing that is known already may be laid on top -/
theorem sub_same' {t : Nat} {v : Value} (ht : get e t = some v) : Sub ((t, v) :: e) e := fun s u hu => by
  simp only [get] at hu
  cases hb : Nat.beq t s with
  | true => rw [hb] at hu; have := Nat.eq_of_beq_eq_true hb; subst this; rw [ht]; simpa using hu
  | false => rw [hb] at hu; exact hu
theorem JK.sub' {e2 : Env} (hs' : Sub e2 e) (h : JK P n w0 own ops F l e2 hs K) : JK P n w0 own ops F l e hs K := JK.sub hs' h
theorem JK.splitB {t : Nat} {b : Bool} (ht : get e t = some (.bool b)) (h1 : b = true → JK P n w0 own ops F l ((t, .bool true) :: e) hs K)
    (h0 : b = false → JK P n w0 own ops F l ((t, .bool false) :: e) hs K) : JK P n w0 own ops F l e hs K := by
  cases b
  · exact JK.sub' (sub_same' ht) (h0 rfl)
  · exact JK.sub' (sub_same' ht) (h1 rfl)

theorem JK.v {op : Op} {v : Value} (h : ∀ hs', F ⊆ hs' → Val P n w0 own e hs' op v) (kk : JK P n w0 own ops F rest ((d, v) :: e) hs K) (hdn : Nat.blt d n = true := by rfl) (hg : wantB ops e g = some true := by rfl) :
    JK P n w0 own ops F (⟨some d, op, ty, pos, aft, g⟩ :: rest) e hs K := by
  intro m is listed Z h1 h2 h3 hz
  cases is with
  | nil => exact h1.elim
  | cons k is =>
  obtain ⟨h0, h1⟩ := h1
  unfold ordB at h2
  rw [Bool.and_eq_true, Bool.or_eq_true, Bool.and_eq_true] at h2
  have tail : JD P n w0 own ops F (rest.length + m) (listed.setIfInBounds k true) ((d, v) :: e) hs Z := kk m is _ Z h1 h2.2 h3 hz
  rw [show (⟨some d, op, ty, pos, aft, g⟩ :: rest : List Oper).length + m = (rest.length + m) + 1 from by simp; omega]
  rcases h2.1 with ho | ⟨_, hf⟩
  · exact JD.ef k h0 ho (h hs h3).eff (fun v' hs' ⟨e1, e2⟩ => by subst e1; subst e2; exact tail) (fun v' hs' ⟨e1, e2⟩ f => by subst e2; exact f) hdn hg
  · exact JD.v k h0 hf h tail hdn hg
/-- an operation that is passed over, whichever way it comes up -/
theorem JK.skw {o : Oper} (ho : o.dst = some d) (hw : ∀ a, Rep n a e → Region.wanted o (yielded ops a.tmps) = false) (kk : JK P n w0 own ops F rest ((d, undef) :: e) hs K) (hdn : Nat.blt d n = true) :
    JK P n w0 own ops F (o :: rest) e hs K := by
  intro m is listed Z h1 h2 h3 hz
  cases is with
  | nil => exact h1.elim
  | cons k is =>
  obtain ⟨h0, h1⟩ := h1
  unfold ordB at h2
  rw [Bool.and_eq_true, Bool.or_eq_true, Bool.and_eq_true] at h2
  have tail : JD P n w0 own ops F (rest.length + m) (listed.setIfInBounds k true) ((d, undef) :: e) hs Z := kk m is _ Z h1 h2.2 h3 hz
  rw [show (o :: rest : List Oper).length + m = (rest.length + m) + 1 from by simp; omega]
  intro a w hr s hf
  have hput := hr.put (Nat.le_of_ble_eq_true hdn) undef
  rcases h2.1 with ho2 | ⟨_, hf2⟩
  · refine wpAnyH_all (rs := [k]) (by simpa [onlyB] using ho2) (by simp) ?_
    intro j hj
    simp only [List.mem_singleton] at hj
    subst hj
    unfold wpOp
    simp only [h0]
    rw [if_neg (by rw [hw a hr]; simp), ho]
    exact ⟨⟨hs, s, hf⟩, tail _ _ hput s hf⟩
  · unfold firstB at hf2
    rw [Bool.and_eq_true, Bool.and_eq_true] at hf2
    refine wpAnyH_take h0 hf2.1.1 hf2.1.2 hf2.2 (fun _ _ _ h => h) (.inr ⟨hw a hr, rfl⟩) ⟨hs, s, hf⟩ ?_
    rw [ho]
    exact tail _ _ hput s hf
theorem JK.sk {op : Op} (kk : JK P n w0 own ops F rest ((d, undef) :: e) hs K) (hdn : Nat.blt d n = true := by rfl) (hg : wantB ops e g = some false := by rfl) :
    JK P n w0 own ops F (⟨some d, op, ty, pos, aft, g⟩ :: rest) e hs K := JK.skw rfl (fun a hr => wanted_of hr hg) kk hdn
theorem JK.skips : ∀ {l : List Oper} {e e1 : Env}, skB ops n l e = some e1 → (∀ e1', Sub e e1' → JK P n w0 own ops F [] e1' hs K) → JK P n w0 own ops F l e hs K
  | [], e, e1, h, k => k e (Sub.refl e)
  | o :: l, e, e1, h, k => by
    unfold skB at h
    cases ho : o.dst with
    | none => rw [ho] at h; cases h
    | some dd =>
      rw [ho] at h
      simp only at h
      split at h
      · rename_i hc
        rw [Bool.and_eq_true, Bool.and_eq_true] at hc
        obtain ⟨⟨c1, c2⟩, c3⟩ := hc
        exact JK.skw ho (fun a hr => skip_step hr ho c3) (JK.skips h fun e1' hs' => k e1' (Sub.trans (sub_app [(dd, undef)] e (by simp [c2])) hs')) c1
      · cases h
theorem JK.app {l1 l2 : List Oper} (h : JK P n w0 own ops F l1 e hs (fun e' hs' => JK P n w0 own ops F l2 e' hs' K)) : JK P n w0 own ops F (l1 ++ l2) e hs K := by
  intro m is listed Z h1 h2 h3 hz
  obtain ⟨k1, k2⟩ := h1.app
  have hl1 := k1.len
  rw [← List.take_append_drop l1.length is, ordB_app _ _ _ _ _ _ hl1, Bool.and_eq_true] at h2
  rw [List.length_append, Nat.add_assoc]
  refine h (l2.length + m) _ listed Z k1 h2.1 h3 fun e' hs' f ke => ke m _ _ Z k2 h2.2 f fun e2 hs2 f2 ke2 => ?_
  have := hz e2 hs2 f2 ke2
  rwa [← List.take_append_drop l1.length is, marks_app] at this
/-- what works on memory, when it is alone -/
theorem JK.ef {op : Op} {R : Value → Hp → Prop} (h : Eff P n w0 own e hs op R) (hF : ∀ v hs', R v hs' → F ⊆ hs → F ⊆ hs') (kk : ∀ v hs', R v hs' → JK P n w0 own ops F rest ((d, v) :: e) hs' K)
    (hE : isEff ⟨some d, op, ty, pos, aft, g⟩ = true := by rfl) (hdn : Nat.blt d n = true := by rfl) (hg : wantB ops e g = some true := by rfl) : JK P n w0 own ops F (⟨some d, op, ty, pos, aft, g⟩ :: rest) e hs K := by
  intro m is listed Z h1 h2 h3 hz
  cases is with
  | nil => exact h1.elim
  | cons k is =>
  obtain ⟨h0, h1⟩ := h1
  unfold ordB at h2
  rw [Bool.and_eq_true, Bool.or_eq_true, hE] at h2
  have ho : onlyB ops listed k = true := by
    rcases h2.1 with h | h
    · exact h
    · simp at h
  rw [show (⟨some d, op, ty, pos, aft, g⟩ :: rest : List Oper).length + m = (rest.length + m) + 1 from by simp; omega]
  exact JD.ef k h0 ho h (fun v hs' r => kk v hs' r m is _ Z h1 h2.2 (hF v hs' r h3) hz) hF hdn hg
theorem JK.st {op : Op} {hs' : Hp} (h : Eff P n w0 own e hs op (fun v h => v = undef ∧ h = hs')) (hF : F ⊆ hs → F ⊆ hs') (kk : JK P n w0 own ops F rest e hs' K)
    (hE : isEff ⟨none, op, ty, pos, aft, g⟩ = true := by rfl) (hg : wantB ops e g = some true := by rfl) : JK P n w0 own ops F (⟨none, op, ty, pos, aft, g⟩ :: rest) e hs K := by
  intro m is listed Z h1 h2 h3 hz
  cases is with
  | nil => exact h1.elim
  | cons k is =>
  obtain ⟨h0, h1⟩ := h1
  unfold ordB at h2
  rw [Bool.and_eq_true, Bool.or_eq_true, hE] at h2
  have ho : onlyB ops listed k = true := by
    rcases h2.1 with h | h
    · exact h
    · simp at h
  rw [show (⟨none, op, ty, pos, aft, g⟩ :: rest : List Oper).length + m = (rest.length + m) + 1 from by simp; omega]
  exact JD.st k h0 ho h (kk m is _ Z h1 h2.2 (hF h3) hz) hF hg
/-- a call that leaves a value alone -/
theorem JK.pc {f : Nat} {fo : Operand} {args : List Operand} {at_ : Array TypeId} {cap vals : List Value} {v : Value}
    (hf : ev e fo = some (.func (.func f) #[] ⟨cap⟩)) (ha : evs e args = some vals) (hc : ∀ w, Sat w0 own hs w → Is P f (vals ++ cap) w v) (kk : JK P n w0 own ops F rest ((d, v) :: e) hs K) [hg : FnT P f]
    (hdn : Nat.blt d n = true := by rfl) (hw : wantB ops e g = some true := by rfl) :
    JK P n w0 own ops F (⟨some d, .call { callee := .value fo, args := ⟨args⟩, argTypes := at_ }, ty, pos, aft, g⟩ :: rest) e hs K :=
  JK.ef (.call0 hf ha hc) (fun _ _ ⟨_, ⟨_, h2⟩, h3⟩ f => by subst h2; subst h3; exact f) (fun _ _ ⟨_, ⟨h1, h2⟩, h3⟩ => by subst h1; subst h2; subst h3; exact kk) rfl hdn hw
/-- a call that is lent nothing -/
theorem JK.cl {f : Nat} {fo : Operand} {args : List Operand} {at_ : Array TypeId} {cap vals : List Value} {R : Value → Hp → Prop}
    (hf : ev e fo = some (.func (.func f) #[] ⟨cap⟩)) (ha : evs e args = some vals) (hc : ∀ w, Sat w0 own hs w → Does P f (vals ++ cap) [] w R) (kk : ∀ v h, R v h → JK P n w0 own ops F rest ((d, v) :: e) (h ++ hs) K) [hg : FnT P f]
    (hdn : Nat.blt d n = true := by rfl) (hw : wantB ops e g = some true := by rfl) :
    JK P n w0 own ops F (⟨some d, .call { callee := .value fo, args := ⟨args⟩, argTypes := at_ }, ty, pos, aft, g⟩ :: rest) e hs K :=
  JK.ef (.call0 hf ha hc) (fun _ _ ⟨_, _, h3⟩ f => by subst h3; exact fun p hp => List.mem_append_right _ (f hp)) (fun v _ ⟨h, h1, h3⟩ => by subst h3; exact kk v h h1) rfl hdn hw
/-- '&&' -/
theorem JK.and {b1 b2 : Bool} (t y m k : Nat) (hl : l.drop m = ⟨some d, .pick (.tmp t) (.tmp y) (.const (.bool false)), ty, pos, aft, g⟩ :: rest) (ht : get e t = some (.bool b1))
    (h : b1 = true → JK P n w0 own ops F (l.take m) ((t, .bool true) :: e) hs (fun e' hs' => hs' = hs ∧ get e' y = some (.bool b2) ∧ Pop k e' ((t, .bool true) :: e)))
    (kk : JK P n w0 own ops F rest ((d, .bool (b1 && b2)) :: e) hs K)
    (hsk : (skB ops n (l.take m) ((t, .bool false) :: e)).isSome = true := by rfl)
    (hdn : Nat.blt d n = true := by rfl) (hg : wantB ops e g = some true := by rfl) : JK P n w0 own ops F l e hs K := by
  rw [← List.take_append_drop m l, hl]
  refine JK.app ?_
  have fin : ∀ (e1 : Env), Sub e e1 → (b1 = true → get e1 y = some (.bool b2)) → JK P n w0 own ops F (⟨some d, .pick (.tmp t) (.tmp y) (.const (.bool false)), ty, pos, aft, g⟩ :: rest) e1 hs K := by
    intro e1 hsub hy
    have hg1 : wantB ops e1 g = some true := by
      unfold wantB at hg ⊢
      cases g with
      | none => rfl
      | some jw =>
        obtain ⟨j, want⟩ := jw
        simp only at hg ⊢
        cases hd : (ops[j]?).bind (·.dst) with
        | none => rw [hd] at hg; cases hg
        | some t2 =>
          rw [hd] at hg
          simp only at hg ⊢
          cases hgt : get e t2 with
          | none => rw [hgt] at hg; cases hg
          | some v2 => rw [hgt] at hg; rw [hsub _ _ hgt]; exact hg
    refine JK.v (v := .bool (b1 && b2)) (fun hs' _ => ?_) (JK.sub (e2 := (d, .bool (b1 && b2)) :: e) ?_ kk) hdn hg1
    · intro a w ty pos aft g d hr s
      have e1t := hr.eval (x := .tmp t) (hsub t _ ht)
      cases hb : b1 with
      | false =>
        rw [hb] at e1t
        have e3 : ∀ v, a.eval (.const v) = v := fun _ => rfl
        simp [execOp, e1t, asBool, e3]
      | true =>
        rw [hb] at e1t
        have e2 := hr.eval (x := .tmp y) (hy hb)
        simp [execOp, e1t, e2, asBool]
    · intro s u hu
      simp only [get] at hu ⊢
      cases hb : Nat.beq d s with
      | true => rw [hb] at hu; exact hu
      | false => rw [hb] at hu; exact hsub s u hu
  cases hb : b1 with
  | true =>
    rw [hb] at ht
    refine JK.sub' (sub_same' ht) ((h hb).mono fun e' hs' ⟨h1, h2, h3⟩ => by subst h1; exact fin e' ((sub_same ht).trans h3.sub) (fun _ => h2))
  | false =>
    rw [hb] at ht
    obtain ⟨e1, he1⟩ := Option.isSome_iff_exists.1 hsk
    refine JK.sub' (sub_same' ht) (JK.skips he1 (fun e1' hs' => JK.nil (fin e1' ((sub_same ht).trans hs') (fun h => by rw [hb] at h; cases h))))
/-- '||' -/
theorem JK.or {b1 b2 : Bool} (t y m k : Nat) (hl : l.drop m = ⟨some d, .pick (.tmp t) (.const (.bool true)) (.tmp y), ty, pos, aft, g⟩ :: rest) (ht : get e t = some (.bool b1))
    (h : b1 = false → JK P n w0 own ops F (l.take m) ((t, .bool false) :: e) hs (fun e' hs' => hs' = hs ∧ get e' y = some (.bool b2) ∧ Pop k e' ((t, .bool false) :: e)))
    (kk : JK P n w0 own ops F rest ((d, .bool (b1 || b2)) :: e) hs K)
    (hsk : (skB ops n (l.take m) ((t, .bool true) :: e)).isSome = true := by rfl)
    (hdn : Nat.blt d n = true := by rfl) (hg : wantB ops e g = some true := by rfl) : JK P n w0 own ops F l e hs K := by
  rw [← List.take_append_drop m l, hl]
  refine JK.app ?_
  have fin : ∀ (e1 : Env), Sub e e1 → (b1 = false → get e1 y = some (.bool b2)) → JK P n w0 own ops F (⟨some d, .pick (.tmp t) (.const (.bool true)) (.tmp y), ty, pos, aft, g⟩ :: rest) e1 hs K := by
    intro e1 hsub hy
    have hg1 : wantB ops e1 g = some true := by
      unfold wantB at hg ⊢
      cases g with
      | none => rfl
      | some jw =>
        obtain ⟨j, want⟩ := jw
        simp only at hg ⊢
        cases hd : (ops[j]?).bind (·.dst) with
        | none => rw [hd] at hg; cases hg
        | some t2 =>
          rw [hd] at hg
          simp only at hg ⊢
          cases hgt : get e t2 with
          | none => rw [hgt] at hg; cases hg
          | some v2 => rw [hgt] at hg; rw [hsub _ _ hgt]; exact hg
    refine JK.v (v := .bool (b1 || b2)) (fun hs' _ => ?_) (JK.sub (e2 := (d, .bool (b1 || b2)) :: e) ?_ kk) hdn hg1
    · intro a w ty pos aft g d hr s
      have e1t := hr.eval (x := .tmp t) (hsub t _ ht)
      cases hb : b1 with
      | true =>
        rw [hb] at e1t
        have e3 : ∀ v, a.eval (.const v) = v := fun _ => rfl
        simp [execOp, e1t, asBool, e3]
      | false =>
        rw [hb] at e1t
        have e2 := hr.eval (x := .tmp y) (hy hb)
        simp [execOp, e1t, e2, asBool]
    · intro s u hu
      simp only [get] at hu ⊢
      cases hb : Nat.beq d s with
      | true => rw [hb] at hu; exact hu
      | false => rw [hb] at hu; exact hsub s u hu
  cases hb : b1 with
  | false =>
    rw [hb] at ht
    refine JK.sub' (sub_same' ht) ((h hb).mono fun e' hs' ⟨h1, h2, h3⟩ => by subst h1; exact fin e' ((sub_same ht).trans h3.sub) (fun _ => h2))
  | true =>
    rw [hb] at ht
    obtain ⟨e1, he1⟩ := Option.isSome_iff_exists.1 hsk
    refine JK.sub' (sub_same' ht) (JK.skips he1 (fun e1' hs' => JK.nil (fin e1' ((sub_same ht).trans hs') (fun h => by rw [hb] at h; cases h))))
end
end V
end Go
