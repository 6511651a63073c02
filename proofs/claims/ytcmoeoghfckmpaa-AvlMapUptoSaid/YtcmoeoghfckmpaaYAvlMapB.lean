/- Texts that the row RAvlMap stands on: VR, VS, VU, VW, VX, VY, VA, VC, VD, VE, VYN, Ty, TNode, TRot, TFlat, TPath, TUp. -/
import Derived.Test.YtcmoeoghfckmpaaYAvlMapA
import Derived.Lib.Overlaps
import Derived.Maps.RangeRun
import Derived.Test.YtcmoeoghfckmpaaChecked
/- VR: regions that draw their order: they run in an order of our choice, values first, what works on memory when it is alone. -/
namespace Go
namespace V
open Go.RowKit
set_option linter.unusedVariables false
set_option linter.unusedSimpArgs false

/-- does the operation work on memory? -/
def isEff (o : Oper) : Bool := match o.op with
  | .alloc _ | .box _ _ | .buildSlice _ _ _ | .insert _ _ _ _ | .store _ _ _ | .makeMap _ _ | .makeSlice _ _ _ | .mapUpdate _ _ _ _ | .mapEntry _ _ _ | .entryStore _ _ _ _ | .range _ _ | .next _ _ | .entry _ => true
  | .call { callee := .value _, .. } => true
  | .call { callee := .builtin .append, .. } => true
  | .call { callee := .builtin .copy, .. } => true
  | .call { callee := .builtin .delete, .. } => true
  | .call { callee := .builtin .clear, .. } => true
  | _ => false
/-- the numbers may come up in this order -/
def ordB (ops : Array Oper) : List Oper → List Nat → Array Bool → Bool
  | [], [], _ => true
  | o :: l, i :: is, listed => (onlyB ops listed i || (!isEff o && firstB ops listed i)) && ordB ops l is (listed.setIfInBounds i true)
  | _, _, _ => false
def marks_ : List Nat → Array Bool → Array Bool
  | [], listed => listed
  | i :: is, listed => marks_ is (listed.setIfInBounds i true)
theorem marks_app : ∀ (a b : List Nat) (listed : Array Bool), marks_ (a ++ b) listed = marks_ b (marks_ a listed)
  | [], b, listed => rfl
  | i :: a, b, listed => marks_app a b _
theorem ordB_app (ops : Array Oper) : ∀ (l1 l2 : List Oper) (i1 i2 : List Nat) (listed : Array Bool), l1.length = i1.length → ordB ops (l1 ++ l2) (i1 ++ i2) listed = (ordB ops l1 i1 listed && ordB ops l2 i2 (marks_ i1 listed))
  | [], l2, [], i2, listed, _ => by simp [ordB, marks_]
  | o :: l1, l2, i :: i1, i2, listed, h => by
    simp only [List.cons_append, ordB, ordB_app ops l1 l2 i1 i2 _ (by simpa using h), marks_, Bool.and_assoc]
  | [], _, _ :: _, _, _, h => by simp at h
  | _ :: _, _, [], _, _, h => by simp at h
def Nums (ops : Array Oper) : List Oper → List Nat → Prop
  | [], [] => True
  | o :: l, i :: is => ops[i]? = some o ∧ Nums ops l is
  | _, _ => False
theorem Nums.len {ops : Array Oper} : ∀ {l : List Oper} {is : List Nat}, Nums ops l is → l.length = is.length
  | [], [], _ => rfl
  | o :: l, i :: is, h => by have := Nums.len h.2; simp [this]
  | [], _ :: _, h => h.elim
  | _ :: _, [], h => h.elim
theorem Nums.app {ops : Array Oper} : ∀ {l1 l2 : List Oper} {is : List Nat}, Nums ops (l1 ++ l2) is → Nums ops l1 (is.take l1.length) ∧ Nums ops l2 (is.drop l1.length)
  | [], l2, is, h => ⟨by simp [Nums], by simpa using h⟩
  | o :: l1, l2, i :: is, h => by
    obtain ⟨h1, h2⟩ := h
    obtain ⟨k1, k2⟩ := Nums.app h2
    exact ⟨⟨h1, k1⟩, k2⟩
  | _ :: _, _, [], h => h.elim
theorem Nums.seq {ops : Array Oper} : ∀ (l : List Oper) (k : Nat), (∀ j, j < l.length → ops[k + j]? = l[j]?) → Nums ops l (List.range' k l.length)
  | [], k, _ => trivial
  | o :: l, k, h => by
    rw [List.length_cons, List.range'_succ]
    refine ⟨by simpa using h 0 (by simp), Nums.seq l (k + 1) fun j hj => ?_⟩
    have := h (j + 1) (by simpa using hj)
    rw [List.getElem?_cons_succ] at this
    rw [← this, Nat.add_right_comm, Nat.add_assoc]

/-- the operations, in a drawn region, in their order: 'F' is held -/
def JK (P : Program) (n : Nat) (w0 : World) (own : List Nat) (ops : Array Oper) (F : Hp) (l : List Oper) (e : Env) (hs : Hp) (K : Env → Hp → Prop) : Prop :=
  ∀ (m : Nat) (is : List Nat) (listed : Array Bool) (Z : Env → Hp → Prop), Nums ops l is → ordB ops l is listed = true → F ⊆ hs →
    (∀ e' hs', F ⊆ hs' → K e' hs' → JD P n w0 own ops F m (marks_ is listed) e' hs' Z) → JD P n w0 own ops F (l.length + m) listed e hs Z

section
variable {P : Program} {n : Nat} {w0 : World} {own : List Nat} {e : Env} {hs F : Hp} {ops : Array Oper} {rest l : List Oper} {K : Env → Hp → Prop}
variable {d : Nat} {ty : TypeId} {pos : String} {aft : Array Edge} {g : Option (Nat × Bool)}

theorem JC.drawK {id : Nat} {Q : Post} {l : List Oper} (F : Hp) (hF : F ⊆ hs) (hm : P.follows .mixedOrders = true) (hB : (ordB l.toArray l (List.range' 0 l.length) (Array.replicate l.length false) && doneB l.toArray (marks_ (List.range' 0 l.length) (Array.replicate l.length false))) = true)
    (h : JK P n w0 own l.toArray F l e hs (fun e' hs' => Q .normal e' hs')) : JC P n w0 own (.region id l.toArray true) e hs Q := by
  rw [Bool.and_eq_true] at hB
  refine JC.draw F hF hm ?_
  have := h 0 (List.range' 0 l.length) (Array.replicate l.length false) (fun e hs => Q .normal e hs) (Nums.seq l 0 fun j hj => by simp) hB.1 hF (fun e' hs' _ ke => JD.done hB.2 ke)
  simpa using this
def pickL (l : List Oper) : List Nat → List Oper
  | [] => []
  | i :: is => match l[i]? with
    | some o => o :: pickL l is
    | none => []
theorem pickL_nums {l : List Oper} : ∀ (is : List Nat), ordB l.toArray (pickL l is) is (Array.replicate l.length false) = true → (pickL l is).length = is.length → Nums l.toArray (pickL l is) is
  | [], _, _ => trivial
  | i :: is, h, hl => by
    have key : ∀ (is : List Nat), (pickL l is).length = is.length → Nums l.toArray (pickL l is) is := by
      intro is
      induction is with
      | nil => intro _; trivial
      | cons i is ih =>
        intro hl
        unfold pickL at hl ⊢
        cases ho : l[i]? with
        | none => rw [ho] at hl; simp at hl
        | some o =>
          rw [ho] at hl
          simp only at hl ⊢
          exact ⟨by simpa using ho, ih (by simpa using hl)⟩
    exact key _ hl
/-- in an order of ours -/
theorem JC.drawP {id : Nat} {Q : Post} {l : List Oper} (is : List Nat) (F : Hp) (hF : F ⊆ hs) (hm : P.follows .mixedOrders = true) (hB : (ordB l.toArray (pickL l is) is (Array.replicate l.length false) && doneB l.toArray (marks_ is (Array.replicate l.length false)) && Nat.beq (pickL l is).length l.length && Nat.beq is.length l.length) = true)
    (h : JK P n w0 own l.toArray F (pickL l is) e hs (fun e' hs' => Q .normal e' hs')) : JC P n w0 own (.region id l.toArray true) e hs Q := by
  rw [Bool.and_eq_true, Bool.and_eq_true, Bool.and_eq_true] at hB
  obtain ⟨⟨⟨h1, h2⟩, h3⟩, h4⟩ := hB
  have h3 := Nat.eq_of_beq_eq_true h3
  have h4 := Nat.eq_of_beq_eq_true h4
  refine JC.draw F hF hm ?_
  have := h 0 is (Array.replicate l.length false) (fun e hs => Q .normal e hs) (pickL_nums is h1 (by omega)) h1 hF (fun e' hs' _ ke => JD.done h2 ke)
  rw [h3] at this
  simpa using this
theorem JK.nil (h : K e hs) : JK P n w0 own ops F [] e hs K := fun m is listed Z hn _ hF hz => by
  cases is with
  | nil => rw [List.length_nil, Nat.zero_add]; exact hz e hs hF h
  | cons i is => exact hn.elim
theorem JK.mono {K' : Env → Hp → Prop} (h : JK P n w0 own ops F l e hs K) (kk : ∀ e hs, K e hs → K' e hs) : JK P n w0 own ops F l e hs K' :=
  fun m k listed Z h1 h2 h3 hz => h m k listed Z h1 h2 h3 fun e' hs' f ke => hz e' hs' f (kk e' hs' ke)
theorem JK.sub {e2 : Env} (hs' : Sub e2 e) (h : JK P n w0 own ops F l e2 hs K) : JK P n w0 own ops F l e hs K :=
  fun m k listed Z h1 h2 h3 hz a w hr s hF => h m k listed Z h1 h2 h3 hz a w (hr.sub hs') s hF
/-- a thing that is known already may be laid on top -/
theorem sub_same' {t : Nat} {v : Value} (ht : get e t = some v) : Sub ((t, v) :: e) e := fun s u hu => by
  simp only [get] at hu
  cases hb : Nat.beq t s with
  | true => rw [hb] at hu; have := Nat.eq_of_beq_eq_true hb; subst this; rw [ht]; simpa using hu
  | false => rw [hb] at hu; exact hu
theorem JK.sub' {e2 : Env} (hs' : Sub e2 e) (h : JK P n w0 own ops F l e2 hs K) : JK P n w0 own ops F l e hs K := JK.sub hs' h
theorem JK.splitB {t : Nat} {b : Bool} (ht : get e t = some (.bool b)) (h1 : b = true → JK P n w0 own ops F l ((t, .bool true) :: e) hs K)
    (h0 : b = false → JK P n w0 own ops F l ((t, .bool false) :: e) hs K) : JK P n w0 own ops F l e hs K := by
  cases b
  · exact JK.sub' (sub_same' ht) (h0 rfl)
  · exact JK.sub' (sub_same' ht) (h1 rfl)

theorem JK.v {op : Op} {v : Value} (h : ∀ hs', F ⊆ hs' → Val P n w0 own e hs' op v) (kk : JK P n w0 own ops F rest ((d, v) :: e) hs K) (hdn : Nat.blt d n = true := by rfl) (hg : wantB ops e g = some true := by rfl) :
    JK P n w0 own ops F (⟨some d, op, ty, pos, aft, g⟩ :: rest) e hs K := by
  intro m is listed Z h1 h2 h3 hz
  cases is with
  | nil => exact h1.elim
  | cons k is =>
  obtain ⟨h0, h1⟩ := h1
  unfold ordB at h2
  rw [Bool.and_eq_true, Bool.or_eq_true, Bool.and_eq_true] at h2
  have tail : JD P n w0 own ops F (rest.length + m) (listed.setIfInBounds k true) ((d, v) :: e) hs Z := kk m is _ Z h1 h2.2 h3 hz
  rw [show (⟨some d, op, ty, pos, aft, g⟩ :: rest : List Oper).length + m = (rest.length + m) + 1 from by simp; omega]
  rcases h2.1 with ho | ⟨_, hf⟩
  · exact JD.ef k h0 ho (h hs h3).eff (fun v' hs' ⟨e1, e2⟩ => by subst e1; subst e2; exact tail) (fun v' hs' ⟨e1, e2⟩ f => by subst e2; exact f) hdn hg
  · exact JD.v k h0 hf h tail hdn hg
/-- an operation that is passed over, whichever way it comes up -/
theorem JK.skw {o : Oper} (ho : o.dst = some d) (hw : ∀ a, Rep n a e → Region.wanted o (yielded ops a.tmps) = false) (kk : JK P n w0 own ops F rest ((d, undef) :: e) hs K) (hdn : Nat.blt d n = true) :
    JK P n w0 own ops F (o :: rest) e hs K := by
  intro m is listed Z h1 h2 h3 hz
  cases is with
  | nil => exact h1.elim
  | cons k is =>
  obtain ⟨h0, h1⟩ := h1
  unfold ordB at h2
  rw [Bool.and_eq_true, Bool.or_eq_true, Bool.and_eq_true] at h2
  have tail : JD P n w0 own ops F (rest.length + m) (listed.setIfInBounds k true) ((d, undef) :: e) hs Z := kk m is _ Z h1 h2.2 h3 hz
  rw [show (o :: rest : List Oper).length + m = (rest.length + m) + 1 from by simp; omega]
  intro a w hr s hf
  have hput := hr.put (Nat.le_of_ble_eq_true hdn) undef
  rcases h2.1 with ho2 | ⟨_, hf2⟩
  · refine wpAnyH_all (rs := [k]) (by simpa [onlyB] using ho2) (by simp) ?_
    intro j hj
    simp only [List.mem_singleton] at hj
    subst hj
    unfold wpOp
    simp only [h0]
    rw [if_neg (by rw [hw a hr]; simp), ho]
    exact ⟨⟨hs, s, hf⟩, tail _ _ hput s hf⟩
  · unfold firstB at hf2
    rw [Bool.and_eq_true, Bool.and_eq_true] at hf2
    refine wpAnyH_take h0 hf2.1.1 hf2.1.2 hf2.2 (fun _ _ _ h => h) (.inr ⟨hw a hr, rfl⟩) ⟨hs, s, hf⟩ ?_
    rw [ho]
    exact tail _ _ hput s hf
theorem JK.sk {op : Op} (kk : JK P n w0 own ops F rest ((d, undef) :: e) hs K) (hdn : Nat.blt d n = true := by rfl) (hg : wantB ops e g = some false := by rfl) :
    JK P n w0 own ops F (⟨some d, op, ty, pos, aft, g⟩ :: rest) e hs K := JK.skw rfl (fun a hr => wanted_of hr hg) kk hdn
theorem JK.skips : ∀ {l : List Oper} {e e1 : Env}, skB ops n l e = some e1 → (∀ e1', Sub e e1' → JK P n w0 own ops F [] e1' hs K) → JK P n w0 own ops F l e hs K
  | [], e, e1, h, k => k e (Sub.refl e)
  | o :: l, e, e1, h, k => by
    unfold skB at h
    cases ho : o.dst with
    | none => rw [ho] at h; cases h
    | some dd =>
      rw [ho] at h
      simp only at h
      split at h
      · rename_i hc
        rw [Bool.and_eq_true, Bool.and_eq_true] at hc
        obtain ⟨⟨c1, c2⟩, c3⟩ := hc
        exact JK.skw ho (fun a hr => skip_step hr ho c3) (JK.skips h fun e1' hs' => k e1' (Sub.trans (sub_app [(dd, undef)] e (by simp [c2])) hs')) c1
      · cases h
theorem JK.app {l1 l2 : List Oper} (h : JK P n w0 own ops F l1 e hs (fun e' hs' => JK P n w0 own ops F l2 e' hs' K)) : JK P n w0 own ops F (l1 ++ l2) e hs K := by
  intro m is listed Z h1 h2 h3 hz
  obtain ⟨k1, k2⟩ := h1.app
  have hl1 := k1.len
  rw [← List.take_append_drop l1.length is, ordB_app _ _ _ _ _ _ hl1, Bool.and_eq_true] at h2
  rw [List.length_append, Nat.add_assoc]
  refine h (l2.length + m) _ listed Z k1 h2.1 h3 fun e' hs' f ke => ke m _ _ Z k2 h2.2 f fun e2 hs2 f2 ke2 => ?_
  have := hz e2 hs2 f2 ke2
  rwa [← List.take_append_drop l1.length is, marks_app] at this
/-- what works on memory, when it is alone -/
theorem JK.ef {op : Op} {R : Value → Hp → Prop} (h : Eff P n w0 own e hs op R) (hF : ∀ v hs', R v hs' → F ⊆ hs → F ⊆ hs') (kk : ∀ v hs', R v hs' → JK P n w0 own ops F rest ((d, v) :: e) hs' K)
    (hE : isEff ⟨some d, op, ty, pos, aft, g⟩ = true := by rfl) (hdn : Nat.blt d n = true := by rfl) (hg : wantB ops e g = some true := by rfl) : JK P n w0 own ops F (⟨some d, op, ty, pos, aft, g⟩ :: rest) e hs K := by
  intro m is listed Z h1 h2 h3 hz
  cases is with
  | nil => exact h1.elim
  | cons k is =>
  obtain ⟨h0, h1⟩ := h1
  unfold ordB at h2
  rw [Bool.and_eq_true, Bool.or_eq_true, hE] at h2
  have ho : onlyB ops listed k = true := by
    rcases h2.1 with h | h
    · exact h
    · simp at h
  rw [show (⟨some d, op, ty, pos, aft, g⟩ :: rest : List Oper).length + m = (rest.length + m) + 1 from by simp; omega]
  exact JD.ef k h0 ho h (fun v hs' r => kk v hs' r m is _ Z h1 h2.2 (hF v hs' r h3) hz) hF hdn hg
theorem JK.st {op : Op} {hs' : Hp} (h : Eff P n w0 own e hs op (fun v h => v = undef ∧ h = hs')) (hF : F ⊆ hs → F ⊆ hs') (kk : JK P n w0 own ops F rest e hs' K)
    (hE : isEff ⟨none, op, ty, pos, aft, g⟩ = true := by rfl) (hg : wantB ops e g = some true := by rfl) : JK P n w0 own ops F (⟨none, op, ty, pos, aft, g⟩ :: rest) e hs K := by
  intro m is listed Z h1 h2 h3 hz
  cases is with
  | nil => exact h1.elim
  | cons k is =>
  obtain ⟨h0, h1⟩ := h1
  unfold ordB at h2
  rw [Bool.and_eq_true, Bool.or_eq_true, hE] at h2
  have ho : onlyB ops listed k = true := by
    rcases h2.1 with h | h
    · exact h
    · simp at h
  rw [show (⟨none, op, ty, pos, aft, g⟩ :: rest : List Oper).length + m = (rest.length + m) + 1 from by simp; omega]
  exact JD.st k h0 ho h (kk m is _ Z h1 h2.2 (hF h3) hz) hF hg
/-- a call that leaves a value alone -/
theorem JK.pc {f : Nat} {fo : Operand} {args : List Operand} {at_ : Array TypeId} {cap vals : List Value} {v : Value}
    (hf : ev e fo = some (.func (.func f) #[] ⟨cap⟩)) (ha : evs e args = some vals) (hc : ∀ w, Sat w0 own hs w → Is P f (vals ++ cap) w v) (kk : JK P n w0 own ops F rest ((d, v) :: e) hs K) [hg : FnT P f]
    (hdn : Nat.blt d n = true := by rfl) (hw : wantB ops e g = some true := by rfl) :
    JK P n w0 own ops F (⟨some d, .call { callee := .value fo, args := ⟨args⟩, argTypes := at_ }, ty, pos, aft, g⟩ :: rest) e hs K :=
  JK.ef (.call0 hf ha hc) (fun _ _ ⟨_, ⟨_, h2⟩, h3⟩ f => by subst h2; subst h3; exact f) (fun _ _ ⟨_, ⟨h1, h2⟩, h3⟩ => by subst h1; subst h2; subst h3; exact kk) rfl hdn hw
/-- a call that is lent nothing -/
theorem JK.cl {f : Nat} {fo : Operand} {args : List Operand} {at_ : Array TypeId} {cap vals : List Value} {R : Value → Hp → Prop}
    (hf : ev e fo = some (.func (.func f) #[] ⟨cap⟩)) (ha : evs e args = some vals) (hc : ∀ w, Sat w0 own hs w → Does P f (vals ++ cap) [] w R) (kk : ∀ v h, R v h → JK P n w0 own ops F rest ((d, v) :: e) (h ++ hs) K) [hg : FnT P f]
    (hdn : Nat.blt d n = true := by rfl) (hw : wantB ops e g = some true := by rfl) :
    JK P n w0 own ops F (⟨some d, .call { callee := .value fo, args := ⟨args⟩, argTypes := at_ }, ty, pos, aft, g⟩ :: rest) e hs K :=
  JK.ef (.call0 hf ha hc) (fun _ _ ⟨_, _, h3⟩ f => by subst h3; exact fun p hp => List.mem_append_right _ (f hp)) (fun v _ ⟨h, h1, h3⟩ => by subst h3; exact kk v h h1) rfl hdn hw
/-- '&&' -/
theorem JK.and {b1 b2 : Bool} (t y m k : Nat) (hl : l.drop m = ⟨some d, .pick (.tmp t) (.tmp y) (.const (.bool false)), ty, pos, aft, g⟩ :: rest) (ht : get e t = some (.bool b1))
    (h : b1 = true → JK P n w0 own ops F (l.take m) ((t, .bool true) :: e) hs (fun e' hs' => hs' = hs ∧ get e' y = some (.bool b2) ∧ Pop k e' ((t, .bool true) :: e)))
    (kk : JK P n w0 own ops F rest ((d, .bool (b1 && b2)) :: e) hs K)
    (hsk : (skB ops n (l.take m) ((t, .bool false) :: e)).isSome = true := by rfl)
    (hdn : Nat.blt d n = true := by rfl) (hg : wantB ops e g = some true := by rfl) : JK P n w0 own ops F l e hs K := by
  rw [← List.take_append_drop m l, hl]
  refine JK.app ?_
  have fin : ∀ (e1 : Env), Sub e e1 → (b1 = true → get e1 y = some (.bool b2)) → JK P n w0 own ops F (⟨some d, .pick (.tmp t) (.tmp y) (.const (.bool false)), ty, pos, aft, g⟩ :: rest) e1 hs K := by
    intro e1 hsub hy
    have hg1 : wantB ops e1 g = some true := by
      unfold wantB at hg ⊢
      cases g with
      | none => rfl
      | some jw =>
        obtain ⟨j, want⟩ := jw
        simp only at hg ⊢
        cases hd : (ops[j]?).bind (·.dst) with
        | none => rw [hd] at hg; cases hg
        | some t2 =>
          rw [hd] at hg
          simp only at hg ⊢
          cases hgt : get e t2 with
          | none => rw [hgt] at hg; cases hg
          | some v2 => rw [hgt] at hg; rw [hsub _ _ hgt]; exact hg
    refine JK.v (v := .bool (b1 && b2)) (fun hs' _ => ?_) (JK.sub (e2 := (d, .bool (b1 && b2)) :: e) ?_ kk) hdn hg1
    · intro a w ty pos aft g d hr s
      have e1t := hr.eval (x := .tmp t) (hsub t _ ht)
      cases hb : b1 with
      | false =>
        rw [hb] at e1t
        have e3 : ∀ v, a.eval (.const v) = v := fun _ => rfl
        simp [execOp, e1t, asBool, e3]
      | true =>
        rw [hb] at e1t
        have e2 := hr.eval (x := .tmp y) (hy hb)
        simp [execOp, e1t, e2, asBool]
    · intro s u hu
      simp only [get] at hu ⊢
      cases hb : Nat.beq d s with
      | true => rw [hb] at hu; exact hu
      | false => rw [hb] at hu; exact hsub s u hu
  cases hb : b1 with
  | true =>
    rw [hb] at ht
    refine JK.sub' (sub_same' ht) ((h hb).mono fun e' hs' ⟨h1, h2, h3⟩ => by subst h1; exact fin e' ((sub_same ht).trans h3.sub) (fun _ => h2))
  | false =>
    rw [hb] at ht
    obtain ⟨e1, he1⟩ := Option.isSome_iff_exists.1 hsk
    refine JK.sub' (sub_same' ht) (JK.skips he1 (fun e1' hs' => JK.nil (fin e1' ((sub_same ht).trans hs') (fun h => by rw [hb] at h; cases h))))
/-- '||' -/
theorem JK.or {b1 b2 : Bool} (t y m k : Nat) (hl : l.drop m = ⟨some d, .pick (.tmp t) (.const (.bool true)) (.tmp y), ty, pos, aft, g⟩ :: rest) (ht : get e t = some (.bool b1))
    (h : b1 = false → JK P n w0 own ops F (l.take m) ((t, .bool false) :: e) hs (fun e' hs' => hs' = hs ∧ get e' y = some (.bool b2) ∧ Pop k e' ((t, .bool false) :: e)))
    (kk : JK P n w0 own ops F rest ((d, .bool (b1 || b2)) :: e) hs K)
    (hsk : (skB ops n (l.take m) ((t, .bool true) :: e)).isSome = true := by rfl)
    (hdn : Nat.blt d n = true := by rfl) (hg : wantB ops e g = some true := by rfl) : JK P n w0 own ops F l e hs K := by
  rw [← List.take_append_drop m l, hl]
  refine JK.app ?_
  have fin : ∀ (e1 : Env), Sub e e1 → (b1 = false → get e1 y = some (.bool b2)) → JK P n w0 own ops F (⟨some d, .pick (.tmp t) (.const (.bool true)) (.tmp y), ty, pos, aft, g⟩ :: rest) e1 hs K := by
    intro e1 hsub hy
    have hg1 : wantB ops e1 g = some true := by
      unfold wantB at hg ⊢
      cases g with
      | none => rfl
      | some jw =>
        obtain ⟨j, want⟩ := jw
        simp only at hg ⊢
        cases hd : (ops[j]?).bind (·.dst) with
        | none => rw [hd] at hg; cases hg
        | some t2 =>
          rw [hd] at hg
          simp only at hg ⊢
          cases hgt : get e t2 with
          | none => rw [hgt] at hg; cases hg
          | some v2 => rw [hgt] at hg; rw [hsub _ _ hgt]; exact hg
    refine JK.v (v := .bool (b1 || b2)) (fun hs' _ => ?_) (JK.sub (e2 := (d, .bool (b1 || b2)) :: e) ?_ kk) hdn hg1
    · intro a w ty pos aft g d hr s
      have e1t := hr.eval (x := .tmp t) (hsub t _ ht)
      cases hb : b1 with
      | true =>
        rw [hb] at e1t
        have e3 : ∀ v, a.eval (.const v) = v := fun _ => rfl
        simp [execOp, e1t, asBool, e3]
      | false =>
        rw [hb] at e1t
        have e2 := hr.eval (x := .tmp y) (hy hb)
        simp [execOp, e1t, e2, asBool]
    · intro s u hu
      simp only [get] at hu ⊢
      cases hb : Nat.beq d s with
      | true => rw [hb] at hu; exact hu
      | false => rw [hb] at hu; exact hsub s u hu
  cases hb : b1 with
  | false =>
    rw [hb] at ht
    refine JK.sub' (sub_same' ht) ((h hb).mono fun e' hs' ⟨h1, h2, h3⟩ => by subst h1; exact fin e' ((sub_same ht).trans h3.sub) (fun _ => h2))
  | true =>
    rw [hb] at ht
    obtain ⟨e1, he1⟩ := Option.isSome_iff_exists.1 hsk
    refine JK.sub' (sub_same' ht) (JK.skips he1 (fun e1' hs' => JK.nil (fin e1' ((sub_same ht).trans hs') (fun h => by rw [hb] at h; cases h))))
end
end V
end Go

/- VS: slices held against nil. -/
namespace Go
namespace V
open Go.RowKit
set_option linter.unusedVariables false
set_option linter.unusedSimpArgs false
section
variable {P : Program} {n : Nat} {w0 : World} {own : List Nat} {e : Env} {hs : Hp}
theorem Val.eql_slice_nil {T U E l c : Nat} {x y : Operand} {a : Option Addr} (hx : ev e x = some (.slice a l c)) (hy : ev e y = some (.slice none 0 0)) [hT : SliceT P T E] :
    Val P n w0 own e hs (.binOp .eql T x y U) (.bool a.isNone) := fun _ w ty pos aft g d hr s => by
  have h : (Op.equalIn (9999 + 1) T (.slice a l c) (.slice none 0 0)).run P w = .ok a.isNone w := by
    cases a <;> (rw [Op.equalIn]; simp [run_underlying hT.out])
  simp only [execOp, hr.eval hx, hr.eval hy, eqGuard, binOp, Op.equal, Op.maxDepth]
  simp [h]
end
end V
end Go

/- VU: slices in place: append that has room, copy, clear, append of zeros that grows, cap, cutting with three numbers, slices.overlaps of two blocks. -/
namespace Go
namespace V
open Go.RowKit
set_option linter.unusedVariables false
set_option linter.unusedSimpArgs false

section
variable {P : Program} {n : Nat} {w0 : World} {own : List Nat} {e : Env} {hs : Hp}

theorem Val.cap_ {x : Operand} {T E len cap : Nat} {a : Option Addr} (hx : ev e x = some (.slice a len cap)) [hT : SliceT P T E] :
    Val P n w0 own e hs (.call { callee := .builtin .cap, args := #[x], argTypes := #[T] }) (.int .i64 cap) :=
  fun b w ty pos aft g d hr s => by
    have hu := hT.out
    simp [execOp, hr.eval hx, resolve, invoke, builtin, Builtin.cap_, run_underlying hu, goInt]
theorem Val.sl3 {T E m len cap : Nat} {x y z u : Operand} {A : Option Addr} {i k l : Int} {q r t : IntKind} (hx : ev e x = some (.slice A len cap)) (hy : ev e y = some (.int q i)) (hz_ : ev e z = some (.int r k)) (hu : ev e u = some (.int t l)) [hT : SliceT P T E] [hE : Sz P E m]
    (h0 : 0 ≤ i) (h1 : i ≤ k) (h2 : k ≤ l) (h3 : l ≤ cap) : Val P n w0 own e hs (.slice T x (some y) (some z) (some u)) (.slice (cutA A l.toNat i.toNat m) (k.toNat - i.toNat) (l.toNat - i.toNat)) := fun a w ty pos aft g d hr s => by
  obtain ⟨j, hj, hz⟩ := hE.out
  have h4 : 0 ≤ k := by omega
  have h5 : 0 ≤ l := by omega
  have h6 : max k 0 = k := by omega
  have h7 : max l 0 = l := by omega
  simp [execOp, hr.eval hx, hr.eval hy, hr.eval hz_, hr.eval hu, Instr.sliceAt, run_underlying hT.out, Instr.slice, Instr.sliceBounds, Instr.sliceBound, asIntOf, h0, h1, h2, h3, h4, h5, h6, h7, sizeOf, typeInfo, hj, hz, cutA]

/-- append that has room: in place -/
theorem Eff.appendIn {s x : Operand} {t u E m by_ c k b o cap : Nat} {z news l : List Value} {xv : Value} {hs' : Hp} (hs_ : ev e s = some (.slice (some ⟨b, o, none⟩) c cap)) (hx : ev e x = some xv) [ht : SliceT P t E] [hu : SliceT P u E] [hE : El P E m by_ z]
    [hb : Mem b (.cells l E) hs] [up : UpdI b (.cells (splice l (o + c * m) news) E) hs hs'] (hsrc : ∀ w, Sat w0 own hs w → Src P w m xv k news) (hn : news.length = k * m) (h1 : ones news = true) (hc : c + k ≤ cap) (hl : o + cap * m ≤ l.length) :
    Eff P n w0 own e hs (.call { callee := .builtin .append, args := #[s, x], argTypes := #[t, u] }) (fun v h => v = .slice (some ⟨b, o, none⟩) (c + k) cap ∧ h = hs') :=
  Eff.of_run fun a w ty pos aft g d hr s' => by
    obtain ⟨i, zv, hi, hm, hby, hz, hzv, hzl⟩ := hE.out
    have hck : (c + k) * m ≤ cap * m := Nat.mul_le_mul_right _ hc
    have hadd : (c + k) * m = c * m + k * m := Nat.add_mul _ _ _
    obtain ⟨w', r1, r2⟩ := s'.splice (P := P) (b := b) (T := E) (o := o + c * m) (l := l) (vs := news) up.out hb.out (by omega) h1
    refine ⟨_, hs', w', ?_, ⟨rfl, rfl⟩, r2⟩
    have h2 := (hsrc w s').2 w (fun _ => rfl)
    have hr1 : (Builtin.append_ #[t, u] ty #[.slice (some ⟨b, o, none⟩) c cap, xv]).run P w = .ok (.slice (some ⟨b, o, none⟩) (c + k) cap) w' := by
      simp only [Builtin.append_, Sem.run_bind]
      simp [run_underlying ht.out, run_underlying hu.out, sizeOf, typeInfo, hi, hm, (hsrc w s').1, h2, hc, add_none, r1]
    simp [execOp, hr.eval hs_, hr.eval hx, resolve, invoke, builtin, hr1]
/-- copy: the first k elements of a source -/
theorem Eff.copyIn {s x : Operand} {t u E m by_ k b o dl dc sl : Nat} {z news l : List Value} {xv : Value} {hs' : Hp} (hs_ : ev e s = some (.slice (some ⟨b, o, none⟩) dl dc)) (hx : ev e x = some xv) [ht : SliceT P t E] [hE : El P E m by_ z]
    [hb : Mem b (.cells l E) hs] [up : UpdI b (.cells (splice l o news) E) hs hs'] (hk : min sl dl = k) (hsl : ∀ w, Sat w0 own hs w → (Builtin.lenOf xv).run P w = .ok sl w) (hsrc : ∀ w, Sat w0 own hs w → (Builtin.firstCells m k xv).run P w = .ok ⟨news⟩ w)
    (h1 : ones news = true) (hl : o + news.length ≤ l.length) :
    Eff P n w0 own e hs (.call { callee := .builtin .copy, args := #[s, x], argTypes := #[t, u] }) (fun v h => v = .int .i64 k ∧ h = hs') :=
  Eff.of_run fun a w ty pos aft g d hr s' => by
    obtain ⟨i, zv, hi, hm, hby, hz, hzv, hzl⟩ := hE.out
    obtain ⟨w', r1, r2⟩ := s'.splice (P := P) (b := b) (T := E) (o := o) (l := l) (vs := news) up.out hb.out hl h1
    refine ⟨_, hs', w', ?_, ⟨rfl, rfl⟩, r2⟩
    have h2 := hsrc w s'
    have hk' : Nat.min sl dl = k := hk
    have hr1 : (Builtin.copy_ #[t, u] ty #[.slice (some ⟨b, o, none⟩) dl dc, xv]).run P w = .ok (.int .i64 k) w' := by
      simp only [Builtin.copy_, Sem.run_bind]
      simp [run_underlying ht.out, sizeOf, typeInfo, hi, hm, hsl w s', hk', h2, r1, goInt]
    simp [execOp, hr.eval hs_, hr.eval hx, resolve, invoke, builtin, hr1]
theorem run_lenOf_sl {w : World} {A : Option Addr} {len cap : Nat} : (Builtin.lenOf (.slice A len cap)).run P w = .ok len w := by simp [Builtin.lenOf]
/-- the first elements of a slice in a block that is held -/
theorem Sat.first {w : World} {b o m k sl c T : Nat} {l news : List Value} (s : Sat w0 own hs w) [hb : Mem b (.cells l T) hs] (hn : news.length = k * m) (h : ∀ j v, news[j]? = some v → l[o + j]? = some v) :
    (Builtin.firstCells m k (.slice (some ⟨b, o, none⟩) sl c)).run P w = .ok ⟨news⟩ w :=
  run_firstCells_some (P := P) w m k ⟨b, o, none⟩ sl c news hn (fun j v hv => by rw [add_none, s.cell hb.out]; exact h j v hv)

def zeros (z : List Value) (k : Nat) : List Value := (List.replicate k z).flatten
theorem zeros_length (z : List Value) (k : Nat) : (zeros z k).length = k * z.length := by simp [zeros]
theorem zeros_get (z : List Value) (k i : Nat) (hi : i < k * z.length) : (zeros z k)[i]? = z[i % z.length]? := by
  induction k generalizing i with
  | zero => simp at hi
  | succ k ih =>
    have hz : 0 < z.length := by
      rcases Nat.eq_zero_or_pos z.length with h | h
      · rw [h] at hi; simp at hi
      · exact h
    unfold zeros
    rw [List.replicate_succ, List.flatten_cons]
    by_cases h : i < z.length
    · rw [List.getElem?_append_left h, Nat.mod_eq_of_lt h]
    · rw [List.getElem?_append_right (by omega)]
      have h2 := ih (i - z.length) (by rw [Nat.add_mul, Nat.one_mul] at hi; omega)
      unfold zeros at h2
      rw [h2, ← Nat.mod_eq_sub_mod (by omega)]
theorem zeroCells_eq (z : List Value) (k : Nat) : (Builtin.zeroCells ⟨z⟩ k).toList = zeros z k := by
  apply List.ext_getElem?
  intro i
  have hlen : (Builtin.zeroCells ⟨z⟩ k).toList.length = k * z.length := by simp [Builtin.zeroCells]
  by_cases hi : i < k * z.length
  · have hz : 0 < z.length := by
      rcases Nat.eq_zero_or_pos z.length with h | h
      · rw [h] at hi; simp at hi
      · exact h
    rw [zeros_get z k i hi]
    have hm := Nat.mod_lt i hz
    simp [Builtin.zeroCells, hi, hm]
  · rw [List.getElem?_eq_none (by omega), List.getElem?_eq_none (by rw [zeros_length]; omega)]
theorem ones_zeros {z : List Value} (h : ones z = true) (k : Nat) : ones (zeros z k) = true := by
  simp only [ones, zeros, List.all_eq_true, List.mem_flatten, List.mem_replicate] at *
  rintro x ⟨l, ⟨_, rfl⟩, hx⟩
  exact h x hx
/-- clear of a slice -/
theorem Eff.clearIn {s : Operand} {t E m by_ b o dl dc : Nat} {z l : List Value} {hs' : Hp} (hs_ : ev e s = some (.slice (some ⟨b, o, none⟩) dl dc)) [ht : SliceT P t E] [hE : El P E m by_ z]
    [hb : Mem b (.cells l E) hs] [up : UpdI b (.cells (splice l o (zeros z dl)) E) hs hs'] (h1 : ones z = true) (hl : o + dl * m ≤ l.length) :
    Eff P n w0 own e hs (.call { callee := .builtin .clear, args := #[s], argTypes := #[t] }) (fun v h => v = .tuple #[] ∧ h = hs') :=
  Eff.of_run fun a w ty pos aft g d hr s' => by
    obtain ⟨i, zv, hi, hm, hby, hz, hzv, hzl⟩ := hE.out
    obtain ⟨w', r1, r2⟩ := s'.splice (P := P) (b := b) (T := E) (o := o) (l := l) (vs := zeros z dl) up.out hb.out (by rw [zeros_length, hzl]; exact hl) (ones_zeros h1 dl)
    have hzc : (Builtin.zeroCells zv.cells dl).toList = zeros z dl := by rw [hzv]; exact zeroCells_eq z dl
    cases dl with
    | zero =>
      have e1 : hs' = hs' := rfl
      have e2 : w' = w := by
        have : (storeCells (⟨b, o, none⟩ : Addr) (zeros z 0)).run P w = .ok () w := by simp [zeros, storeCells]
        rw [this] at r1
        simpa using r1.symm
      refine ⟨.tuple #[], hs', w, ?_, ⟨rfl, rfl⟩, e2 ▸ r2⟩
      have hr1 : (Builtin.clear_ #[t] ty #[.slice (some ⟨b, o, none⟩) 0 dc]).run P w = .ok (.tuple #[]) w := by
        simp only [Builtin.clear_, Sem.run_bind]
        simp [run_underlying ht.out]
      simp [execOp, hr.eval hs_, resolve, invoke, builtin, hr1]
    | succ dl =>
      refine ⟨.tuple #[], hs', w', ?_, ⟨rfl, rfl⟩, r2⟩
      have hr1 : (Builtin.clear_ #[t] ty #[.slice (some ⟨b, o, none⟩) (dl + 1) dc]).run P w = .ok (.tuple #[]) w' := by
        simp only [Builtin.clear_, Sem.run_bind]
        simp [run_underlying ht.out, zeroValue, typeInfo, hi, hz, hzc, r1]
      simp [execOp, hr.eval hs_, resolve, invoke, builtin, hr1]
/-- append(s, make([]E, k)...) that has no room: a new block -/
theorem Eff.appendZ {s x : Operand} {t u E m by_ c k b o cap : Nat} {q : IntKind} {z vs l : List Value} (hs_ : ev e s = some (.slice (some ⟨b, o, none⟩) c cap)) (hx : ev e x = some (.int .i64 (k : Int))) [ht : SliceT P t E] [hu : IntT P u q] [hE : El P E m by_ z]
    [hb : Mem b (.cells l E) hs] (hv : (l.drop o).take (c * m) = vs) (hcl : o + cap * m ≤ l.length) (hcc : c ≤ cap) (hg : cap < c + k) (hm0 : 0 < m)
    (hby : (c + k) * by_ ≤ 140737488355328) (h63 : c + k ≤ 4611686018427387904) :
    Eff P n w0 own e hs (.call { callee := .builtin .append, args := #[s, x], argTypes := #[t, u] }) (fun v h => ∃ b' cap' r, v = .slice (some ⟨b', 0, none⟩) (c + k) cap' ∧ h = (b', .cells (vs ++ zeros z k ++ r) E) :: hs ∧ c + k ≤ cap' ∧ (vs ++ zeros z k ++ r).length = cap' * m) :=
  Eff.of_run fun a w ty pos aft g d hr s' => by
    obtain ⟨i, zv, hi, hm, hby2, hz, hzv, hzl⟩ := hE.out
    have hck : c * m ≤ cap * m := Nat.mul_le_mul_right _ hcc
    have hvl : vs.length = c * m := by rw [← hv]; simp; omega
    have hfo := run_firstCells_some (P := P) w.drew m c ⟨b, o, none⟩ c cap vs hvl (fun j u hj => by
        have hh := s'.cell hb.out (o + j)
        rw [add_none]
        show w.cell? _ = _
        rw [hh, ← hj, ← hv, List.getElem?_take, List.getElem?_drop]
        have := (List.getElem?_eq_some_iff.1 hj).1
        rw [if_pos (by omega)])
    have hge := grownCap_ge w (c + k) cap E
    have h63' : ¬ (9223372036854775807 < ((c : Int) + (k : Int))) := by omega
    have h48' : ¬ (281474976710656 < Builtin.nextslicecap (c + k) cap * by_) := by
      have := growslice_fits (need := c + k) (old := cap) (bytes := by_) (by omega) hby
      omega
    have hkb : k * by_ ≤ (c + k) * by_ := Nat.mul_le_mul_right _ (by omega)
    have hw : IntKind.i64.wrap (k : Int) = k := by rw [IntKind.wrap_i64]; omega
    have hneg : ¬ ((k : Int) < 0) := by omega
    have h48i : ¬ (281474976710656 < (k : Int) * (by_ : Int)) := by rw [← Int.natCast_mul]; omega
    have hns : ¬ (k * m = 0) := Nat.mul_ne_zero (by omega) (by omega)
    have hk0 : k ≠ 0 := by omega
    have hm1 : m ≠ 0 := by omega
    have hr' : ¬ (c + k ≤ cap) := by omega
    refine ⟨.slice (some ⟨w.heap.size, 0, none⟩) (c + k) (grownCap w (c + k) cap E), (w.heap.size, .cells (vs ++ zeros z k ++ (Builtin.zeroCells zv.cells (grownCap w (c + k) cap E - (c + k))).toList) E) :: hs,
      w.drew.alloc (.cells (⟨vs⟩ ++ Builtin.zeroCells zv.cells k ++ Builtin.zeroCells zv.cells (grownCap w (c + k) cap E - (c + k))) E), ?_, ⟨_, _, _, rfl, rfl, hge, ?_⟩, ?_⟩
    · have hr1 : (Builtin.append_ #[t, u] ty #[.slice (some ⟨b, o, none⟩) c cap, .int .i64 k]).run P w = .ok (.slice (some ⟨w.heap.size, 0, none⟩) (c + k) (grownCap w (c + k) cap E)) (w.drew.alloc (.cells (⟨vs⟩ ++ Builtin.zeroCells zv.cells k ++ Builtin.zeroCells zv.cells (grownCap w (c + k) cap E - (c + k))) E)) := by
        simp only [Builtin.append_, Sem.run_bind]
        simp [run_underlying ht.out, run_underlying hu.out, sizeOf, typeInfo, zeroValue, hi, hm, hz, hby2, asInt, asIntOf, hw, hneg, h48i, hns, hk0, hm1, hr', h63', h48', Question.forced, hfo, newRow, grownCap]
      simp [execOp, hr.eval hs_, hr.eval hx, resolve, invoke, builtin, hr1]
    · have h2 : (grownCap w (c + k) cap E) * m = (c + k) * m + (grownCap w (c + k) cap E - (c + k)) * m := by rw [← Nat.add_mul]; congr 1; omega
      have h3 : (c + k) * m = c * m + k * m := Nat.add_mul _ _ _
      simp [hvl, zeros_length, size_zeroCells, hzv, hzl]; omega
    · have := s'.drew.new (.cells (vs ++ zeros z k ++ (Builtin.zeroCells zv.cells (grownCap w (c + k) cap E - (c + k))).toList) E)
      have e1 : (⟨vs⟩ ++ Builtin.zeroCells zv.cells k ++ Builtin.zeroCells zv.cells (grownCap w (c + k) cap E - (c + k)) : Array Value) = ⟨vs ++ zeros z k ++ (Builtin.zeroCells zv.cells (grownCap w (c + k) cap E - (c + k))).toList⟩ := by
        apply Array.ext'
        have : (Builtin.zeroCells zv.cells k).toList = zeros z k := by rw [hzv]; exact zeroCells_eq z k
        simp [this]
      rw [e1]
      exact this
/-- slices.overlaps, as the model has it -/
class OvT (P : Program) (g : Nat) (T R : outParam Nat) : Prop where
  out : ∃ fn, P.funcs[g]? = some fn ∧ (fn.name == "runtime.NumGoroutine") = false ∧ fn.body.isNone = true ∧ Extern.findNext fn = none ∧ Extern.find fn = some (Extern.SlicesOverlaps.overlaps #[T, T] #[R])
theorem Val.overlapsNo {g : Nat} {x y : Operand} {at_ : Array TypeId} {T R E m b1 o1 n1 c1 b2 o2 n2 c2 T1 T2 : Nat} {l1 l2 : List Value} (hx : ev e x = some (.slice (some ⟨b1, o1, none⟩) n1 c1)) (hy : ev e y = some (.slice (some ⟨b2, o2, none⟩) n2 c2)) [hg : OvT P g T R] [hT : SliceT P T E] [hE : Sz P E m]
    [h1 : Mem b1 (.cells l1 T1) hs] [h2 : Mem b2 (.cells l2 T2) hs] (hne : b1 ≠ b2) (hl : l2 ≠ []) :
    Val P n w0 own e hs (.call { callee := .value (.func g), args := #[x, y], argTypes := at_ }) (.bool false) := fun a w ty pos aft gd d hr s => by
  obtain ⟨fn, f1, f2, f3, f4, f5⟩ := hg.out
  obtain ⟨i, hi, hz⟩ := hE.out
  have r1 := s.row h1.out
  have r2 := s.row h2.out
  have ho := Lib.run_overlaps_apart (P := P) w T R E hT.out m (fun w => by simp [sizeOf, typeInfo, hi, hz]) ⟨b1, o1, none⟩ ⟨b2, o2, none⟩ n1 c1 n2 c2 hne T1 T2 l1.length l2.length
    (by simp [World.shape?, r1]) (by simp [World.shape?, r2]) (by simpa using hl) (by simp [World.frozen?, r1]) (by simp [World.frozen?, r1])
  have hc := run_callFunc_extern f1 f2 f3 f4 f5 #[.slice (some ⟨b1, o1, none⟩) n1 c1, .slice (some ⟨b2, o2, none⟩) n2 c2] w
  rw [ho] at hc
  have hf : a.eval (.func g) = .func (.func g) #[] #[] := rfl
  simp [execOp, resolve, hf, hr.eval hx, hr.eval hy, Deferred.ofValue, invoke, hc, Result.andThen]
end
theorem splice_keep (l zs : List Value) (o p q : Nat) (h : p ≤ q) (hl : o + q ≤ l.length) : ((splice l (o + q) zs).drop o).take p = (l.drop o).take p := by
  unfold splice
  rw [List.append_assoc, List.drop_append_of_le_length (by rw [List.length_take]; omega), List.take_append_of_le_length (by rw [List.length_drop, List.length_take]; omega), List.drop_take, List.take_take]
  congr 1; omega
theorem OwnS.some_ {E m n c : Nat} {A : Option Addr} {n' : Nat} {vs : List Value} {h : Hp} (k : OwnS E m (.slice A n' c) n vs h) (hn : 0 < n) :
    ∃ b o l, A = some ⟨b, o, none⟩ ∧ n' = n ∧ h = [(b, .cells l E)] ∧ n ≤ c ∧ o + c * m ≤ l.length ∧ (l.drop o).take (n * m) = vs := by
  rcases k.2 with ⟨_, h2, _⟩ | ⟨b, o, cap, l, h1, h2, h3, h4, h5⟩
  · omega
  · cases h1; exact ⟨b, o, l, rfl, rfl, h2, h3, h4, h5⟩
theorem splice_get (l vs : List Value) (o i : Nat) (h : o + vs.length ≤ l.length) : (splice l o vs)[i]? = if i < o then l[i]? else if i < o + vs.length then vs[i - o]? else l[i]? := by
  unfold splice
  by_cases h1 : i < o
  · rw [if_pos h1, List.append_assoc, List.getElem?_append_left (by rw [List.length_take]; omega), List.getElem?_take, if_pos h1]
  · rw [if_neg h1, List.append_assoc, List.getElem?_append_right (by rw [List.length_take]; omega), List.length_take, Nat.min_eq_left (by omega)]
    by_cases h2 : i < o + vs.length
    · rw [if_pos h2, List.getElem?_append_left (by omega)]
    · rw [if_neg h2, List.getElem?_append_right (by omega), List.getElem?_drop]
      congr 1; omega
/-- one element put in by two copies -/
theorem ins_two (l oc D : List Value) (o p q : Nat) (hq : oc.length = q) (hl : o + p + q + D.length ≤ l.length) :
    ((splice (splice l (o + (p + q)) D) (o + p) oc).drop o).take (p + q + D.length) = (l.drop o).take p ++ oc ++ D := by
  apply List.ext_getElem?
  intro i
  have h1 : (splice l (o + (p + q)) D).length = l.length := splice_length _ _ _ (by omega)
  rw [List.getElem?_take, List.getElem?_drop, splice_get _ _ _ _ (by rw [h1]; omega), splice_get _ _ _ _ (by omega)]
  have ht : ((l.drop o).take p).length = p := by rw [List.length_take, List.length_drop]; omega
  by_cases c1 : i < p
  · rw [if_pos (by omega), if_pos (by omega), if_pos (by omega), List.append_assoc, List.getElem?_append_left (by omega), List.getElem?_take, if_pos c1, List.getElem?_drop]
  · by_cases c2 : i < p + q
    · rw [if_pos (by omega), if_neg (by omega), if_pos (by omega), List.append_assoc, List.getElem?_append_right (by omega), List.getElem?_append_left (by omega), ht]
      congr 1; omega
    · by_cases c3 : i < p + q + D.length
      · rw [if_pos c3, if_neg (by omega), if_neg (by omega), if_neg (by omega), if_pos (by omega), List.getElem?_append_right (by rw [List.length_append]; omega), List.length_append, ht]
        congr 1; omega
      · rw [if_neg c3, List.getElem?_eq_none (by simp only [List.length_append]; omega)]
theorem ins_two' (l oc D : List Value) (o p q : Nat) (hq : oc.length = q) (hl : o + p + q + D.length ≤ l.length) :
    ((splice (splice l (o + p) oc) (o + (p + q)) D).drop o).take (p + q + D.length) = (l.drop o).take p ++ oc ++ D := by
  apply List.ext_getElem?
  intro i
  have h1 : (splice l (o + p) oc).length = l.length := splice_length _ _ _ (by omega)
  rw [List.getElem?_take, List.getElem?_drop, splice_get _ _ _ _ (by rw [h1]; omega), splice_get _ _ _ _ (by omega)]
  have ht : ((l.drop o).take p).length = p := by rw [List.length_take, List.length_drop]; omega
  by_cases c1 : i < p
  · rw [if_pos (by omega), if_pos (by omega), if_pos (by omega), List.append_assoc, List.getElem?_append_left (by omega), List.getElem?_take, if_pos c1, List.getElem?_drop]
  · by_cases c2 : i < p + q
    · rw [if_pos (by omega), if_pos (by omega), if_neg (by omega), if_pos (by omega), List.append_assoc, List.getElem?_append_right (by omega), List.getElem?_append_left (by omega), ht]
      congr 1; omega
    · by_cases c3 : i < p + q + D.length
      · rw [if_pos c3, if_neg (by omega), if_pos (by omega), List.getElem?_append_right (by rw [List.length_append]; omega), List.length_append, ht]
        congr 1; omega
      · rw [if_neg c3, List.getElem?_eq_none (by simp only [List.length_append]; omega)]
/-- the blocks are apart -/
theorem JC.nd {P : Program} {n : Nat} {w0 : World} {own : List Nat} {e : Env} {hs : Hp} {c : Code} {Q : Post} (h : (bl hs).Nodup → JC P n w0 own c e hs Q) : JC P n w0 own c e hs Q := fun a w r s => h s.nd a w r s
end V
end Go

/- VW: regions that draw their order and store: in an order of our choice; what is held is held up to the first store. -/
namespace Go
namespace V
open Go.RowKit
set_option linter.unusedVariables false
set_option linter.unusedSimpArgs false

instance (priority := high) SetL.head0 {u v : Value} {l : List Value} : SetL (u :: l) (0 + 0) v (v :: l) := ⟨by simp, rfl⟩
instance (priority := high) SetL.head00 {u v : Value} {l : List Value} : SetL (u :: l) (0 + 0 + 0) v (v :: l) := ⟨by simp, rfl⟩

def ordZ (ops : Array Oper) (z : Nat) : List Oper → List Nat → Array Bool → Bool
  | [], [], _ => true
  | o :: l, i :: is, listed => (onlyB ops listed i || (!isEff o && firstZ ops z listed i)) && (o.dst.isSome || Nat.beq i z || listed.getD z true) && ordZ ops z l is (listed.setIfInBounds i true)
  | _, _, _ => false
theorem marks_size : ∀ (is : List Nat) (listed : Array Bool), (marks_ is listed).size = listed.size
  | [], _ => rfl
  | i :: is, listed => by simp [marks_, marks_size is]

/-- the operations in their order; 'late': the first store has been -/
def JQ (P : Program) (n : Nat) (w0 : World) (own : List Nat) (ops : Array Oper) (F : Hp) (z : Nat) (late : Bool) (l : List Oper) (e : Env) (hs : Hp) (K : Bool → Env → Hp → Prop) : Prop :=
  ∀ (m : Nat) (is : List Nat) (listed : Array Bool) (Z : Env → Hp → Prop), Nums ops l is → ordZ ops z l is listed = true → listed.size = ops.size → listed.getD z true = late → (late = false → F ⊆ hs) →
    (∀ late' e' hs', (marks_ is listed).getD z true = late' → (late' = false → F ⊆ hs') → K late' e' hs' → JZ P n w0 own ops F z m (marks_ is listed) e' hs' Z) → JZ P n w0 own ops F z (l.length + m) listed e hs Z

section
variable {P : Program} {n : Nat} {w0 : World} {own : List Nat} {e : Env} {hs F : Hp} {ops : Array Oper} {rest l : List Oper} {K : Bool → Env → Hp → Prop} {z : Nat} {late : Bool} {m : Nat} {listed : Array Bool} {Z : Env → Hp → Prop}
variable {d : Nat} {ty : TypeId} {pos : String} {aft : Array Edge} {g : Option (Nat × Bool)}

theorem JC.drawQ {id : Nat} {Q : Post} {l : List Oper} (z : Nat) (is : List Nat) (F : Hp) (hF : F ⊆ hs) (hm : P.follows .mixedOrders = true)
    (hB : (ordZ l.toArray z (pickL l is) is (Array.replicate l.length false) && doneB l.toArray (marks_ is (Array.replicate l.length false)) && Nat.beq (pickL l is).length l.length && Nat.beq is.length l.length && Nat.blt z l.length) = true)
    (h : JQ P n w0 own l.toArray F z false (pickL l is) e hs (fun _ e' hs' => Q .normal e' hs')) : JC P n w0 own (.region id l.toArray true) e hs Q := by
  rw [Bool.and_eq_true, Bool.and_eq_true, Bool.and_eq_true, Bool.and_eq_true] at hB
  obtain ⟨⟨⟨⟨h1, h2⟩, h3⟩, h4⟩, h5⟩ := hB
  have h3 := Nat.eq_of_beq_eq_true h3
  have h4 := Nat.eq_of_beq_eq_true h4
  have h5 : z < l.length := Nat.le_of_ble_eq_true h5
  have key : ∀ (is : List Nat), (pickL l is).length = is.length → Nums l.toArray (pickL l is) is := by
    intro is
    induction is with
    | nil => intro _; trivial
    | cons i is ih =>
      intro hl
      unfold pickL at hl ⊢
      cases ho : l[i]? with
      | none => rw [ho] at hl; simp at hl
      | some o =>
        rw [ho] at hl
        simp only at hl ⊢
        exact ⟨by simpa using ho, ih (by simpa using hl)⟩
  refine JC.drawZ z F hF hm ?_
  have := h 0 is (Array.replicate l.length false) (fun e hs => Q .normal e hs) (key _ (by omega)) h1 (by simp) (by simp [h5]) (fun _ => hF) (fun _ e' hs' _ _ ke => JZ.done h2 ke)
  rw [h3] at this
  simpa using this
theorem JQ.nil (h : K late e hs) : JQ P n w0 own ops F z late [] e hs K := fun m is listed Z hn _ hsz hl hF hz => by
  cases is with
  | nil => rw [List.length_nil, Nat.zero_add]; exact hz late e hs hl hF h
  | cons i is => exact hn.elim
theorem JQ.mono {K' : Bool → Env → Hp → Prop} (h : JQ P n w0 own ops F z late l e hs K) (kk : ∀ b e hs, K b e hs → K' b e hs) : JQ P n w0 own ops F z late l e hs K' :=
  fun m k listed Z h1 h2 h3 h4 h5 hz => h m k listed Z h1 h2 h3 h4 h5 fun b e' hs' f1 f ke => hz b e' hs' f1 f (kk b e' hs' ke)
theorem JQ.sub {e2 : Env} (hs' : Sub e2 e) (h : JQ P n w0 own ops F z late l e2 hs K) : JQ P n w0 own ops F z late l e hs K :=
  fun m k listed Z h1 h2 h3 h4 h5 hz a w hr s hF => h m k listed Z h1 h2 h3 h4 h5 hz a w (hr.sub hs') s hF
theorem JQ.splitB {t : Nat} {b : Bool} (ht : get e t = some (.bool b)) (h1 : b = true → JQ P n w0 own ops F z late l ((t, .bool true) :: e) hs K)
    (h0 : b = false → JQ P n w0 own ops F z late l ((t, .bool false) :: e) hs K) : JQ P n w0 own ops F z late l e hs K := by
  cases b
  · exact JQ.sub (sub_same' ht) (h0 rfl)
  · exact JQ.sub (sub_same' ht) (h1 rfl)
theorem set_lt {k : Nat} {late : Bool} (hl : listed.getD z true = late) (hz : late = true ∨ k ≠ z) : (listed.setIfInBounds k true).getD z true = late := by
  rcases hz with rfl | hz
  · rcases Decidable.em (k = z) with rfl | hne
    · rcases Nat.lt_or_ge k listed.size with h' | h'
      · simp [h']
      · simp [h']
    · rw [getD_set_ne true hne]; exact hl
  · rw [getD_set_ne true hz]; exact hl
/-- a value, ahead of the first store -/
theorem JQ.v {op : Op} {v : Value} (h : ∀ hs', F ⊆ hs' → Val P n w0 own e hs' op v) (kk : JQ P n w0 own ops F z false rest ((d, v) :: e) hs K) (hdn : Nat.blt d n = true := by rfl) (hg : wantB ops e g = some true := by rfl)
    (hzo : ((ops[z]?).map (·.dst.isNone)) = some true := by rfl) :
    JQ P n w0 own ops F z false (⟨some d, op, ty, pos, aft, g⟩ :: rest) e hs K := by
  intro m is listed Z h1 h2 h3 h4 h5 hz
  cases is with
  | nil => exact h1.elim
  | cons k is =>
  obtain ⟨h0, h1⟩ := h1
  unfold ordZ at h2
  rw [Bool.and_eq_true, Bool.and_eq_true] at h2
  obtain ⟨⟨h2a, _⟩, h2b⟩ := h2
  rw [Bool.or_eq_true, Bool.and_eq_true] at h2a
  have h2 := And.intro h2a h2b
  have hkz : k ≠ z := by rintro rfl; rw [h0] at hzo; simp at hzo
  have tail : JZ P n w0 own ops F z (rest.length + m) (listed.setIfInBounds k true) ((d, v) :: e) hs Z := kk m is _ Z h1 h2.2 (by simpa using h3) (set_lt h4 (.inr hkz)) h5 hz
  rw [show (⟨some d, op, ty, pos, aft, g⟩ :: rest : List Oper).length + m = (rest.length + m) + 1 from by simp; omega]
  rcases h2.1 with ho | ⟨_, hf⟩
  · exact JZ.v1 k h0 ho (h hs (h5 rfl)) tail rfl hdn hg
  · exact JZ.v k h0 hf h tail hdn hg
/-- a value behind it -/
theorem JQ.w {op : Op} {v : Value} (h : Val P n w0 own e hs op v) (kk : JQ P n w0 own ops F z true rest ((d, v) :: e) hs K) (hdn : Nat.blt d n = true := by rfl) (hg : wantB ops e g = some true := by rfl) :
    JQ P n w0 own ops F z true (⟨some d, op, ty, pos, aft, g⟩ :: rest) e hs K := by
  intro m is listed Z h1 h2 h3 h4 h5 hz
  cases is with
  | nil => exact h1.elim
  | cons k is =>
  obtain ⟨h0, h1⟩ := h1
  unfold ordZ at h2
  rw [Bool.and_eq_true, Bool.and_eq_true] at h2
  obtain ⟨⟨h2a, _⟩, h2b⟩ := h2
  rw [Bool.or_eq_true, Bool.and_eq_true] at h2a
  have h2 := And.intro h2a h2b
  have tail : JZ P n w0 own ops F z (rest.length + m) (listed.setIfInBounds k true) ((d, v) :: e) hs Z := kk m is _ Z h1 h2.2 (by simpa using h3) (set_lt h4 (.inl rfl)) (fun h => by cases h) hz
  rw [show (⟨some d, op, ty, pos, aft, g⟩ :: rest : List Oper).length + m = (rest.length + m) + 1 from by simp; omega]
  rcases h2.1 with ho | ⟨_, hf⟩
  · exact JZ.v1 k h0 ho h tail rfl hdn hg
  · unfold firstZ at hf
    rw [h4] at hf
    simp at hf
/-- what works on memory, and leaves a value -/
theorem JQ.ef {op : Op} {R : Value → Hp → Prop} (h : Eff P n w0 own e hs op R) (hF : ∀ v hs', R v hs' → F ⊆ hs → F ⊆ hs') (kk : ∀ v hs', R v hs' → JQ P n w0 own ops F z late rest ((d, v) :: e) hs' K)
    (hE : isEff ⟨some d, op, ty, pos, aft, g⟩ = true := by rfl) (hdn : Nat.blt d n = true := by rfl) (hg : wantB ops e g = some true := by rfl) (hzo : ((ops[z]?).map (·.dst.isNone)) = some true := by rfl) : JQ P n w0 own ops F z late (⟨some d, op, ty, pos, aft, g⟩ :: rest) e hs K := by
  intro m is listed Z h1 h2 h3 h4 h5 hz
  cases is with
  | nil => exact h1.elim
  | cons k is =>
  obtain ⟨h0, h1⟩ := h1
  unfold ordZ at h2
  rw [Bool.and_eq_true, Bool.and_eq_true] at h2
  obtain ⟨⟨h2a, _⟩, h2b⟩ := h2
  rw [Bool.or_eq_true, hE] at h2a
  have h2 := And.intro h2a h2b
  have hkz : k ≠ z := by rintro rfl; rw [h0] at hzo; simp at hzo
  have ho : onlyB ops listed k = true := by
    rcases h2.1 with h | h
    · exact h
    · simp at h
  rw [show (⟨some d, op, ty, pos, aft, g⟩ :: rest : List Oper).length + m = (rest.length + m) + 1 from by simp; omega]
  exact JZ.ef k h0 ho h (fun v hs' r => kk v hs' r m is _ Z h1 h2.2 (by simpa using h3) (set_lt h4 (.inr hkz)) (fun e => hF v hs' r (h5 e)) hz) hF rfl hdn hg
/-- the first store -/
theorem JQ.st {op : Op} {hs' : Hp} (h : Eff P n w0 own e hs op (fun v h => v = undef ∧ h = hs')) (kk : JQ P n w0 own ops F z true rest e hs' K)
    (hE : isEff ⟨none, op, ty, pos, aft, g⟩ = true := by rfl) (hg : wantB ops e g = some true := by rfl) : JQ P n w0 own ops F z false (⟨none, op, ty, pos, aft, g⟩ :: rest) e hs K := by
  intro m is listed Z h1 h2 h3 h4 h5 hz
  cases is with
  | nil => exact h1.elim
  | cons k is =>
  obtain ⟨h0, h1⟩ := h1
  unfold ordZ at h2
  rw [Bool.and_eq_true, Bool.and_eq_true] at h2
  obtain ⟨⟨h2a, h2c⟩, h2b⟩ := h2
  rw [Bool.or_eq_true, hE] at h2a
  have h2 := And.intro h2a h2b
  obtain rfl : k = z := by
    rw [h4] at h2c
    exact Nat.eq_of_beq_eq_true (by simpa using h2c)
  have ho : onlyB ops listed k = true := by
    rcases h2.1 with h | h
    · exact h
    · simp at h
  have hk : k < listed.size := by rw [h3]; exact (Array.getElem?_eq_some_iff.1 h0).1
  rw [show (⟨none, op, ty, pos, aft, g⟩ :: rest : List Oper).length + m = (rest.length + m) + 1 from by simp; omega]
  refine JZ.st h0 ho (Nat.ble_eq_true_of_le hk) h (kk m is _ Z h1 h2.2 (by simpa using h3) (by simp [hk]) (fun h => by cases h) hz) hg
/-- a store behind it -/
theorem JQ.st2 {op : Op} {hs' : Hp} (h : Eff P n w0 own e hs op (fun v h => v = undef ∧ h = hs')) (kk : JQ P n w0 own ops F z true rest e hs' K)
    (hE : isEff ⟨none, op, ty, pos, aft, g⟩ = true := by rfl) (hg : wantB ops e g = some true := by rfl) : JQ P n w0 own ops F z true (⟨none, op, ty, pos, aft, g⟩ :: rest) e hs K := by
  intro m is listed Z h1 h2 h3 h4 h5 hz
  cases is with
  | nil => exact h1.elim
  | cons k is =>
  obtain ⟨h0, h1⟩ := h1
  unfold ordZ at h2
  rw [Bool.and_eq_true, Bool.and_eq_true] at h2
  obtain ⟨⟨h2a, h2c⟩, h2b⟩ := h2
  rw [Bool.or_eq_true, hE] at h2a
  have h2 := And.intro h2a h2b
  have ho : onlyB ops listed k = true := by
    rcases h2.1 with h | h
    · exact h
    · simp at h
  rw [show (⟨none, op, ty, pos, aft, g⟩ :: rest : List Oper).length + m = (rest.length + m) + 1 from by simp; omega]
  have hl := set_lt (k := k) (listed := listed) (z := z) h4 (.inl rfl)
  rcases Decidable.em (z = k) with rfl | hne
  · -- z has been: it cannot come up again
    have hr : Region.ready .any ops listed = [z] := by simpa [onlyB] using ho
    have hm : z ∈ Region.ready .any ops listed := by rw [hr]; simp
    obtain ⟨hu, _⟩ := mem_ready.1 hm
    have hk : z < listed.size := by rw [h3]; exact (Array.getElem?_eq_some_iff.1 h0).1
    simp [hk] at hu h4
    rw [hu] at h4; cases h4
  · exact JZ.st2 k h0 ho h4 (by cases h : Nat.beq z k; rfl; exact absurd (Nat.eq_of_beq_eq_true h) hne) h (kk m is _ Z h1 h2.2 (by simpa using h3) hl (fun h => by cases h) hz) hg
end
/-- what an own slice holds, loaded -/
theorem OwnS.atN {w0 : World} {own : List Nat} {E m n n' c b o i : Nat} {vs us : List Value} {h hs : Hp} (k : OwnS E m (.slice (some ⟨b, o, none⟩) n' c) n vs h) (hh : h ⊆ hs) (hu : ∀ (j : Nat) (v : Value), us[j]? = some v → vs[i + j]? = some v) : At w0 own hs ⟨b, o + i, none⟩ us := by
  obtain rfl := k.one
  intro w s j v hv
  obtain ⟨b', o', h1, _, h3⟩ := OwnS.rd k s hh (no := []) (by simp) _ v (hu j v hv)
  cases h1
  rw [add_none, Nat.add_assoc]
  exact h3
theorem OwnS.at1 {w0 : World} {own : List Nat} {E m n n' c b o i : Nat} {vs : List Value} {v : Value} {h hs : Hp} (k : OwnS E m (.slice (some ⟨b, o, none⟩) n' c) n vs h) (hh : h ⊆ hs) (hv : vs[i]? = some v) : At w0 own hs ⟨b, o + i, none⟩ [v] :=
  k.atN hh fun j u hu => by
    match j, hu with
    | 0, hu => simp at hu; subst hu; simpa using hv
section
variable {P : Program} {n : Nat} {w0 : World} {own : List Nat} {e : Env} {hs : Hp}
/-- sums and differences of numbers that are told in another way -/
theorem Val.addE {T U : Nat} {x y : Operand} {i j : Int} (r : Int) (hx : ev e x = some (.int .i64 i)) (hy : ev e y = some (.int .i64 j)) (hr : i + j = r) (hb : -9223372036854775808 ≤ r ∧ r ≤ 9223372036854775807) :
    Val P n w0 own e hs (.binOp .add T x y U) (.int .i64 r) := by
  subst hr; exact Val.addi hx hy hb
theorem Val.subE {T U : Nat} {x y : Operand} {i j : Int} (r : Int) (hx : ev e x = some (.int .i64 i)) (hy : ev e y = some (.int .i64 j)) (hr : i - j = r) (hb : -9223372036854775808 ≤ r ∧ r ≤ 9223372036854775807) :
    Val P n w0 own e hs (.binOp .sub T x y U) (.int .i64 r) := by
  subst hr; exact Val.subi hx hy hb
theorem wrap_u64_in {x : Int} (h : 0 ≤ x ∧ x ≤ 18446744073709551615) : IntKind.u64.wrap x = x := by
  simp [IntKind.wrap, IntKind.bits, IntKind.signed]; omega
theorem Val.addU {T U : Nat} {x y : Operand} {i j : Int} (r : Int) (hx : ev e x = some (.int .u64 i)) (hy : ev e y = some (.int .u64 j)) (hr : i + j = r) (hb : 0 ≤ r ∧ r ≤ 18446744073709551615) :
    Val P n w0 own e hs (.binOp .add T x y U) (.int .u64 r) := by
  subst hr
  have h := Val.add (P := P) (n := n) (w0 := w0) (own := own) (hs := hs) (T := T) (U := U) hx hy
  rw [wrap_u64_in hb] at h; exact h
theorem Val.subU {T U : Nat} {x y : Operand} {i j : Int} (r : Int) (hx : ev e x = some (.int .u64 i)) (hy : ev e y = some (.int .u64 j)) (hr : i - j = r) (hb : 0 ≤ r ∧ r ≤ 18446744073709551615) :
    Val P n w0 own e hs (.binOp .sub T x y U) (.int .u64 r) := by
  subst hr
  have h := Val.sub_ (P := P) (n := n) (w0 := w0) (own := own) (hs := hs) (T := T) (U := U) hx hy
  rw [wrap_u64_in hb] at h; exact h
end
end V
end Go

/- VX: blocks that are lent, found by instances. -/
namespace Go
namespace V
open Go.RowKit
set_option linter.unusedVariables false
set_option linter.unusedSimpArgs false

/-- one block is taken out -/
class Rem (p : Nat × Ch) (hs : Hp) (hs1 : outParam Hp) : Prop where
  out : hs.Perm (p :: hs1)
instance (priority := high) Rem.head {p : Nat × Ch} {hs : Hp} : Rem p (p :: hs) hs := ⟨.refl _⟩
instance Rem.tail {p q : Nat × Ch} {hs hs1 : Hp} [h : Rem p hs hs1] : Rem p (q :: hs) (q :: hs1) := ⟨(List.Perm.cons q h.out).trans (List.Perm.swap _ _ _)⟩
instance Rem.cons_app {p q : Nat × Ch} {k hs r : Hp} [h : Rem p (q :: (k ++ hs)) r] : Rem p ((q :: k) ++ hs) r := ⟨h.out⟩
instance Rem.nil_app {p : Nat × Ch} {hs r : Hp} [h : Rem p hs r] : Rem p ([] ++ hs) r := ⟨h.out⟩
instance (priority := low) Rem.assoc {p : Nat × Ch} {a b c r : Hp} [h : Rem p (a ++ (b ++ c)) r] : Rem p ((a ++ b) ++ c) r := ⟨by rw [List.append_assoc]; exact h.out⟩
instance (priority := low - 10) Rem.app {p : Nat × Ch} {k hs hs1 : Hp} [h : Rem p hs hs1] : Rem p (k ++ hs) (k ++ hs1) := ⟨(List.Perm.append_left k h.out).trans List.perm_middle⟩
/-- a bunch is taken out -/
class RemC (k : Hp) (hs : Hp) (hs1 : outParam Hp) : Prop where
  out : hs.Perm (k ++ hs1)
instance (priority := high) RemC.head {k hs : Hp} : RemC k (k ++ hs) hs := ⟨.refl _⟩
instance (priority := high) RemC.last {k : Hp} : RemC k k [] := ⟨by rw [List.append_nil]⟩
instance RemC.cons_app {q : Nat × Ch} {k k' hs r : Hp} [h : RemC k (q :: (k' ++ hs)) r] : RemC k ((q :: k') ++ hs) r := ⟨h.out⟩
instance RemC.nil_app {k hs r : Hp} [h : RemC k hs r] : RemC k ([] ++ hs) r := ⟨h.out⟩
instance RemC.tail {k : Hp} {q : Nat × Ch} {hs hs1 : Hp} [h : RemC k hs hs1] : RemC k (q :: hs) (q :: hs1) := ⟨(List.Perm.cons q h.out).trans List.perm_middle.symm⟩
instance (priority := low) RemC.assoc {k a b c r : Hp} [h : RemC k (a ++ (b ++ c)) r] : RemC k ((a ++ b) ++ c) r := ⟨by rw [List.append_assoc]; exact h.out⟩
instance (priority := low - 10) RemC.app {k k' hs hs1 : Hp} [h : RemC k hs hs1] : RemC k (k' ++ hs) (k' ++ hs1) := ⟨(List.Perm.append_left k' h.out).trans (by rw [← List.append_assoc, ← List.append_assoc]; exact List.Perm.append_right _ List.perm_append_comm)⟩
/-- all of these are taken out -/
class TakeI (pre hs : Hp) (fr : outParam Hp) : Prop where
  out : hs.Perm (pre ++ fr)
instance (priority := high) TakeI.nil {hs : Hp} : TakeI [] hs hs := ⟨.refl _⟩
instance TakeI.cons {p : Nat × Ch} {pre hs hs1 fr : Hp} [h : Rem p hs hs1] [t : TakeI pre hs1 fr] : TakeI (p :: pre) hs fr := ⟨h.out.trans (.cons p t.out)⟩
instance TakeI.cons_app {p : Nat × Ch} {k pre hs fr : Hp} [t : TakeI (p :: (k ++ pre)) hs fr] : TakeI ((p :: k) ++ pre) hs fr := ⟨t.out⟩
instance TakeI.nil_app {pre hs fr : Hp} [t : TakeI pre hs fr] : TakeI ([] ++ pre) hs fr := ⟨t.out⟩
instance (priority := low) TakeI.assoc {a b c hs fr : Hp} [t : TakeI (a ++ (b ++ c)) hs fr] : TakeI ((a ++ b) ++ c) hs fr := ⟨by rw [List.append_assoc a b c]; exact t.out⟩
instance (priority := low - 10) TakeI.app {k pre hs hs1 fr : Hp} [h : RemC k hs hs1] [t : TakeI pre hs1 fr] : TakeI (k ++ pre) hs fr := ⟨by rw [List.append_assoc]; exact h.out.trans (List.Perm.append_left k t.out)⟩
instance (priority := low - 20) TakeI.last {k hs fr : Hp} [h : RemC k hs fr] : TakeI k hs fr := ⟨h.out⟩

theorem Sat.take {w0 w : World} {own : List Nat} {hs pre fr : Hp} (s : Sat w0 own hs w) [h : TakeI pre hs fr] : Sat w0 own pre w := (s.perm h.out).sub (List.sublist_append_left _ _)
section
variable {P : Program} {n : Nat} {w0 : World} {own : List Nat} {e : Env} {hs : Hp}
theorem JC.keep {c : Code} {Q : Post} (pre : Hp) {fr : Hp} [h : TakeI pre hs fr] (k : JC P n w0 own c e pre Q) : JC P n w0 own c e hs Q := JC.heap (fun _ s => s.take) k
/-- a call that is lent blocks -/
theorem Eff.callT {g : Nat} {f : Operand} {args : List Operand} {at_ : Array TypeId} {cap vals : List Value} {R : Value → Hp → Prop} (pre : Hp) {fr : Hp} (hf : ev e f = some (.func (.func g) #[] ⟨cap⟩)) (ha : evs e args = some vals) [hg : FnT P g] [tk : TakeI pre hs fr]
    (hc : ∀ w, Sat w0 own hs w → Does P g (vals ++ cap) pre w R) :
    Eff P n w0 own e hs (.call { callee := .value f, args := ⟨args⟩, argTypes := at_ }) (fun v hs' => ∃ h, R v h ∧ hs' = h ++ fr) := Eff.call hf ha tk.out hc
end
/-- two roads that join: what holds where they do -/
theorem JC.mid {P : Program} {n : Nat} {w0 : World} {own : List Nat} {e : Env} {hs : Hp} {Q : Post} {x y : Code} {X : Type} (env : X → Env) (heap : X → Hp) (I : X → Prop)
    (h1 : JC P n w0 own x e hs (thenQ (fun e' hs' => ∃ z, I z ∧ Sub (env z) e' ∧ ∀ w, Sat w0 own hs' w → Sat w0 own (heap z) w) Q)) (h2 : ∀ z, I z → JC P n w0 own y (env z) (heap z) Q) : JC P n w0 own (.seq x y) e hs Q := by
  refine .seq (h1.mono fun ex e' hs' h => ?_)
  cases ex with
  | normal => obtain ⟨z, hz, hs1, hh⟩ := h; exact JC.sub hs1 (JC.heap hh (h2 z hz))
  | _ => exact h
/-- a contract, where more is lent -/
theorem Does.lendT {P : Program} {g : Nat} {vals : List Value} {w : World} {R : Value → Hp → Prop} (pre : Hp) {big fr : Hp} [tk : TakeI pre big fr] (h : Does P g vals pre w R) : Does P g vals big w (fun v hs => ∃ h, R v h ∧ hs = h ++ fr) := by
  intro hp hd
  have s := (Sat.begin hp hd).perm tk.out
  have nd := s.nd
  simp only [bl, List.map_append, List.nodup_append] at nd
  refine (h (fun b c hb => s.has b c (List.mem_append.2 (.inl hb))) nd.1).mono ?_
  rintro x w' ⟨v, hs', rfl, h1, h2⟩
  exact ⟨v, hs' ++ fr, rfl, ⟨hs', h1, rfl⟩, s.call h2⟩
/-- .. and what is left is told in another order, less of it -/
theorem Does.keepT {P : Program} {g : Nat} {vals : List Value} {w : World} {R R' : Value → Hp → Prop} {pre : Hp} (h : Does P g vals pre w R) (k : ∀ v hs, R v hs → ∃ hs' fr, hs.Perm (hs' ++ fr) ∧ R' v hs') : Does P g vals pre w R' :=
  Does.less (h.mono fun v hs r => by
    obtain ⟨hs', fr, h1, h2⟩ := k v hs r
    exact ⟨hs', fun _ s => (s.perm h1).sub (List.sublist_append_left _ _), h2⟩)
end V
end Go

/- VY: as VW; and what touches no memory may come up at any time. -/
namespace Go
namespace V
open Go.RowKit
set_option linter.unusedVariables false
set_option linter.unusedSimpArgs false

section
variable {P : Program} {ops : Array Oper} {Q : Exit → Act → World → Prop} {S : World → Prop} {z : Nat}
/-- number i may be taken first, if its value hangs on no world -/
theorem Upto.firstX {i : Nat} {oi : Oper} {v : Value} (hi : ops[i]? = some oi) (hsel : ∀ (j : Nat) (o : Oper) cs b, ops[j]? = some o → o.op ≠ .select cs b)
    (hQ : ∀ c a w, Q (.panic c) (a.put oi.dst v) w → Q (.panic c) a w) (hzi : z ≠ i) :
    ∀ (k : Nat) (l : Array Bool) (a : Act) (w : World),
      (∀ j oj, ops[j]? = some oj → j ≠ i → l.getD j true = false → (∀ e ∈ oj.after, Region.binds .any e = true → e.on ≠ i) → oi.apart ops oj = true) →
      i ∈ Region.ready .any ops l → YieldsIf P ops (fun _ => True) oi v a → (l.getD z true = false → S w) →
      Upto P ops Q S z k (l.setIfInBounds i true) (a.put oi.dst v) w → Upto P ops Q S z (k + 1) l a w := by
  intro k
  induction k with
  | zero =>
    intro l a w _ hr hy hS H
    refine ⟨fun h => absurd (h ▸ hr) List.not_mem_nil, fun j hj => ?_⟩
    rcases Decidable.em (j = i) with rfl | hji
    · exact hy.wpOp hi trivial ⟨fun hz => hS (by rw [getD_set_ne true (Ne.symm hzi)] at hz; exact hz), H⟩
    · exact absurd (H.1 ▸ ready_mono hj hji) List.not_mem_nil
  | succ k ih =>
    intro l a w hfree hr hy hS H
    refine ⟨fun h => absurd (h ▸ hr) List.not_mem_nil, fun j hj => ?_⟩
    rcases Decidable.em (j = i) with rfl | hji
    · exact hy.wpOp hi trivial ⟨fun hz => hS (by rw [getD_set_ne true (Ne.symm hzi)] at hz; exact hz), H⟩
    obtain ⟨hun, oj, hoj, hall⟩ := mem_ready.1 hj
    have hno : ∀ e ∈ oj.after, Region.binds .any e = true → e.on ≠ i := by
      intro e he hb hon
      exact not_both (z := j) hoj ⟨e, he, hb, hon⟩ hr hj
    have step := wpOp_putIf hoj (hfree j oj hoj hji hun hno) (fun cs b => hsel i oi cs b hi) (fun cs b => hsel j oj cs b hoj) hQ hy (H.2 j (ready_mono hj hji))
    refine wpOp_mono (fun a' w' ⟨hy', hS', hrest⟩ => ?_) step
    have e1 : ((l.setIfInBounds i true).setIfInBounds j true).getD z true = (l.setIfInBounds j true).getD z true := by
      rw [Array.setIfInBounds_comm _ _ (Ne.symm hji), getD_set_ne true (Ne.symm hzi)]
    have hS2 : (l.setIfInBounds j true).getD z true = false → S w' := fun hz => hS' (by rw [e1]; exact hz)
    refine ⟨hS2, ih (l.setIfInBounds j true) a' w' (fun m om hm hmi hun' hno' => ?_) (ready_mono hr (Ne.symm hji)) hy' hS2 ?_⟩
    · refine hfree m om hm hmi ?_ hno'
      rcases Decidable.em (j = m) with rfl | hjm
      · exact hun
      · rw [getD_set_ne true hjm] at hun'; exact hun'
    · rw [Array.setIfInBounds_comm _ _ hji]; exact hrest
end
/-- does the operation touch no memory? -/
def noMem (o : Oper) : Bool := match o.op with
  | .move _ => true
  | .indexAddr .. => true
  | .fieldAddr .. => true
  | .binOp .. => true
  | .extract .. => true
  | _ => false
section
variable {P : Program} {n : Nat} {w0 : World} {own : List Nat} {e : Env} {hs F : Hp} {ops : Array Oper} {K : Env → Hp → Prop} {z m : Nat} {listed : Array Bool}
variable {d : Nat} {ty : TypeId} {pos : String} {aft : Array Edge} {g : Option (Nat × Bool)}
theorem JZ.x {op : Op} {v : Value} (i : Nat) (hi : ops[i]? = some ⟨some d, op, ty, pos, aft, g⟩) (hf : firstB ops listed i = true) (hzi : z ≠ i)
    (h : ∀ w, Val P n w [] e [] op v) (k : JZ P n w0 own ops F z m (listed.setIfInBounds i true) ((d, v) :: e) hs K)
    (hdn : Nat.blt d n = true := by rfl) (hg : wantB ops e g = some true := by rfl) : JZ P n w0 own ops F z (m + 1) listed e hs K := by
  intro a w hr s hF
  unfold firstB at hf
  rw [Bool.and_eq_true, Bool.and_eq_true] at hf
  obtain ⟨⟨f1, f2⟩, f3⟩ := hf
  exact Upto.firstX hi (Region.noSelect_spec f1) (fun _ _ _ h => h) hzi m listed a w (Region.free_spec hi f2) (by simpa using f3)
    (.inl ⟨wanted_of hr hg, fun w' _ => h w' a w' _ _ _ _ _ hr (Sat.begin0 w')⟩) (fun hz => ⟨hs, s, hF hz⟩)
    (k _ _ (hr.put (Nat.le_of_ble_eq_true hdn) v) s fun hz => hF (by rw [getD_set_ne true (Ne.symm hzi)] at hz; exact hz))
end

def ordY (ops : Array Oper) (z : Nat) : List Oper → List Nat → Array Bool → Bool
  | [], [], _ => true
  | o :: l, i :: is, listed => (onlyB ops listed i || (!isEff o && firstZ ops z listed i) || (noMem o && firstB ops listed i && !Nat.beq z i)) && (o.dst.isSome || Nat.beq i z || listed.getD z true) && ordY ops z l is (listed.setIfInBounds i true)
  | _, _, _ => false
/-- the operations in their order; 'late': the first store has been -/
def JY (P : Program) (n : Nat) (w0 : World) (own : List Nat) (ops : Array Oper) (F : Hp) (z : Nat) (late : Bool) (l : List Oper) (e : Env) (hs : Hp) (K : Bool → Env → Hp → Prop) : Prop :=
  ∀ (m : Nat) (is : List Nat) (listed : Array Bool) (Z : Env → Hp → Prop), Nums ops l is → ordY ops z l is listed = true → listed.size = ops.size → listed.getD z true = late → (late = false → F ⊆ hs) →
    (∀ late' e' hs', (marks_ is listed).getD z true = late' → (late' = false → F ⊆ hs') → K late' e' hs' → JZ P n w0 own ops F z m (marks_ is listed) e' hs' Z) → JZ P n w0 own ops F z (l.length + m) listed e hs Z

theorem eff_mem {o : Oper} (h : isEff o = true) : noMem o = false := by
  unfold isEff at h; unfold noMem
  split <;> simp_all
section
variable {P : Program} {n : Nat} {w0 : World} {own : List Nat} {e : Env} {hs F : Hp} {ops : Array Oper} {rest l : List Oper} {K : Bool → Env → Hp → Prop} {z : Nat} {late : Bool} {m : Nat} {listed : Array Bool} {Z : Env → Hp → Prop}
variable {d : Nat} {ty : TypeId} {pos : String} {aft : Array Edge} {g : Option (Nat × Bool)}

theorem JC.drawY {id : Nat} {Q : Post} {l : List Oper} (z : Nat) (is : List Nat) (F : Hp) (hF : F ⊆ hs) (hm : P.follows .mixedOrders = true)
    (hB : (ordY l.toArray z (pickL l is) is (Array.replicate l.length false) && doneB l.toArray (marks_ is (Array.replicate l.length false)) && Nat.beq (pickL l is).length l.length && Nat.beq is.length l.length && Nat.blt z l.length) = true)
    (h : JY P n w0 own l.toArray F z false (pickL l is) e hs (fun _ e' hs' => Q .normal e' hs')) : JC P n w0 own (.region id l.toArray true) e hs Q := by
  rw [Bool.and_eq_true, Bool.and_eq_true, Bool.and_eq_true, Bool.and_eq_true] at hB
  obtain ⟨⟨⟨⟨h1, h2⟩, h3⟩, h4⟩, h5⟩ := hB
  have h3 := Nat.eq_of_beq_eq_true h3
  have h4 := Nat.eq_of_beq_eq_true h4
  have h5 : z < l.length := Nat.le_of_ble_eq_true h5
  have key : ∀ (is : List Nat), (pickL l is).length = is.length → Nums l.toArray (pickL l is) is := by
    intro is
    induction is with
    | nil => intro _; trivial
    | cons i is ih =>
      intro hl
      unfold pickL at hl ⊢
      cases ho : l[i]? with
      | none => rw [ho] at hl; simp at hl
      | some o =>
        rw [ho] at hl
        simp only at hl ⊢
        exact ⟨by simpa using ho, ih (by simpa using hl)⟩
  refine JC.drawZ z F hF hm ?_
  have := h 0 is (Array.replicate l.length false) (fun e hs => Q .normal e hs) (key _ (by omega)) h1 (by simp) (by simp [h5]) (fun _ => hF) (fun _ e' hs' _ _ ke => JZ.done h2 ke)
  rw [h3] at this
  simpa using this
theorem JY.nil (h : K late e hs) : JY P n w0 own ops F z late [] e hs K := fun m is listed Z hn _ hsz hl hF hz => by
  cases is with
  | nil => rw [List.length_nil, Nat.zero_add]; exact hz late e hs hl hF h
  | cons i is => exact hn.elim
theorem JY.mono {K' : Bool → Env → Hp → Prop} (h : JY P n w0 own ops F z late l e hs K) (kk : ∀ b e hs, K b e hs → K' b e hs) : JY P n w0 own ops F z late l e hs K' :=
  fun m k listed Z h1 h2 h3 h4 h5 hz => h m k listed Z h1 h2 h3 h4 h5 fun b e' hs' f1 f ke => hz b e' hs' f1 f (kk b e' hs' ke)
theorem JY.sub {e2 : Env} (hs' : Sub e2 e) (h : JY P n w0 own ops F z late l e2 hs K) : JY P n w0 own ops F z late l e hs K :=
  fun m k listed Z h1 h2 h3 h4 h5 hz a w hr s hF => h m k listed Z h1 h2 h3 h4 h5 hz a w (hr.sub hs') s hF
theorem JY.splitB {t : Nat} {b : Bool} (ht : get e t = some (.bool b)) (h1 : b = true → JY P n w0 own ops F z late l ((t, .bool true) :: e) hs K)
    (h0 : b = false → JY P n w0 own ops F z late l ((t, .bool false) :: e) hs K) : JY P n w0 own ops F z late l e hs K := by
  cases b
  · exact JY.sub (sub_same' ht) (h0 rfl)
  · exact JY.sub (sub_same' ht) (h1 rfl)
/-- a value, ahead of the first store -/
theorem JY.v {op : Op} {v : Value} (h : ∀ hs', F ⊆ hs' → Val P n w0 own e hs' op v) (kk : JY P n w0 own ops F z false rest ((d, v) :: e) hs K) (hdn : Nat.blt d n = true := by rfl) (hg : wantB ops e g = some true := by rfl)
    (hzo : ((ops[z]?).map (·.dst.isNone)) = some true := by rfl) (hx : noMem ⟨some d, op, ty, pos, aft, g⟩ = false := by rfl) :
    JY P n w0 own ops F z false (⟨some d, op, ty, pos, aft, g⟩ :: rest) e hs K := by
  intro m is listed Z h1 h2 h3 h4 h5 hz
  cases is with
  | nil => exact h1.elim
  | cons k is =>
  obtain ⟨h0, h1⟩ := h1
  unfold ordY at h2
  rw [Bool.and_eq_true, Bool.and_eq_true] at h2
  obtain ⟨⟨h2a, _⟩, h2b⟩ := h2
  rw [hx, Bool.false_and, Bool.false_and, Bool.or_false, Bool.or_eq_true, Bool.and_eq_true] at h2a
  have h2 := And.intro h2a h2b
  have hkz : k ≠ z := by rintro rfl; rw [h0] at hzo; simp at hzo
  have tail : JZ P n w0 own ops F z (rest.length + m) (listed.setIfInBounds k true) ((d, v) :: e) hs Z := kk m is _ Z h1 h2.2 (by simpa using h3) (set_lt h4 (.inr hkz)) h5 hz
  rw [show (⟨some d, op, ty, pos, aft, g⟩ :: rest : List Oper).length + m = (rest.length + m) + 1 from by simp; omega]
  rcases h2.1 with ho | ⟨_, hf⟩
  · exact JZ.v1 k h0 ho (h hs (h5 rfl)) tail rfl hdn hg
  · exact JZ.v k h0 hf h tail hdn hg
/-- a value behind it -/
theorem JY.w {op : Op} {v : Value} (h : Val P n w0 own e hs op v) (kk : JY P n w0 own ops F z true rest ((d, v) :: e) hs K) (hdn : Nat.blt d n = true := by rfl) (hg : wantB ops e g = some true := by rfl) (hx : noMem ⟨some d, op, ty, pos, aft, g⟩ = false := by rfl) :
    JY P n w0 own ops F z true (⟨some d, op, ty, pos, aft, g⟩ :: rest) e hs K := by
  intro m is listed Z h1 h2 h3 h4 h5 hz
  cases is with
  | nil => exact h1.elim
  | cons k is =>
  obtain ⟨h0, h1⟩ := h1
  unfold ordY at h2
  rw [Bool.and_eq_true, Bool.and_eq_true] at h2
  obtain ⟨⟨h2a, _⟩, h2b⟩ := h2
  rw [hx, Bool.false_and, Bool.false_and, Bool.or_false, Bool.or_eq_true, Bool.and_eq_true] at h2a
  have h2 := And.intro h2a h2b
  have tail : JZ P n w0 own ops F z (rest.length + m) (listed.setIfInBounds k true) ((d, v) :: e) hs Z := kk m is _ Z h1 h2.2 (by simpa using h3) (set_lt h4 (.inl rfl)) (fun h => by cases h) hz
  rw [show (⟨some d, op, ty, pos, aft, g⟩ :: rest : List Oper).length + m = (rest.length + m) + 1 from by simp; omega]
  rcases h2.1 with ho | ⟨_, hf⟩
  · exact JZ.v1 k h0 ho h tail rfl hdn hg
  · unfold firstZ at hf
    rw [h4] at hf
    simp at hf
/-- what touches no memory, at any time -/
theorem JY.x {op : Op} {v : Value} (h : ∀ w0 own hs, Val P n w0 own e hs op v) (kk : JY P n w0 own ops F z late rest ((d, v) :: e) hs K) (hdn : Nat.blt d n = true := by rfl) (hg : wantB ops e g = some true := by rfl)
    (hzo : ((ops[z]?).map (·.dst.isNone)) = some true := by rfl) :
    JY P n w0 own ops F z late (⟨some d, op, ty, pos, aft, g⟩ :: rest) e hs K := by
  intro m is listed Z h1 h2 h3 h4 h5 hz
  cases is with
  | nil => exact h1.elim
  | cons k is =>
  obtain ⟨h0, h1⟩ := h1
  unfold ordY at h2
  rw [Bool.and_eq_true, Bool.and_eq_true] at h2
  obtain ⟨⟨h2a, _⟩, h2b⟩ := h2
  rw [Bool.or_eq_true, Bool.or_eq_true, Bool.and_eq_true, Bool.and_eq_true, Bool.and_eq_true] at h2a
  have hkz : k ≠ z := by rintro rfl; rw [h0] at hzo; simp at hzo
  have tail : JZ P n w0 own ops F z (rest.length + m) (listed.setIfInBounds k true) ((d, v) :: e) hs Z := kk m is _ Z h1 h2b (by simpa using h3) (set_lt h4 (.inr hkz)) h5 hz
  rw [show (⟨some d, op, ty, pos, aft, g⟩ :: rest : List Oper).length + m = (rest.length + m) + 1 from by simp; omega]
  rcases h2a with (ho | ⟨_, hf⟩) | ⟨⟨_, hf⟩, _⟩
  · exact JZ.v1 k h0 ho (h _ _ _) tail rfl hdn hg
  · exact JZ.v k h0 hf (fun hs' _ => h _ _ _) tail hdn hg
  · exact JZ.x k h0 hf (Ne.symm hkz) (fun w => h _ _ _) tail hdn hg
/-- what works on memory, and leaves a value -/
theorem JY.ef {op : Op} {R : Value → Hp → Prop} (h : Eff P n w0 own e hs op R) (hF : ∀ v hs', R v hs' → F ⊆ hs → F ⊆ hs') (kk : ∀ v hs', R v hs' → JY P n w0 own ops F z late rest ((d, v) :: e) hs' K)
    (hE : isEff ⟨some d, op, ty, pos, aft, g⟩ = true := by rfl) (hdn : Nat.blt d n = true := by rfl) (hg : wantB ops e g = some true := by rfl) (hzo : ((ops[z]?).map (·.dst.isNone)) = some true := by rfl) : JY P n w0 own ops F z late (⟨some d, op, ty, pos, aft, g⟩ :: rest) e hs K := by
  intro m is listed Z h1 h2 h3 h4 h5 hz
  cases is with
  | nil => exact h1.elim
  | cons k is =>
  obtain ⟨h0, h1⟩ := h1
  unfold ordY at h2
  rw [Bool.and_eq_true, Bool.and_eq_true] at h2
  obtain ⟨⟨h2a, _⟩, h2b⟩ := h2
  rw [Bool.or_eq_true, Bool.or_eq_true, hE, eff_mem hE] at h2a
  have h2 := And.intro h2a h2b
  have hkz : k ≠ z := by rintro rfl; rw [h0] at hzo; simp at hzo
  have ho : onlyB ops listed k = true := by
    rcases h2.1 with (h | h) | h
    · exact h
    · simp at h
    · simp at h
  rw [show (⟨some d, op, ty, pos, aft, g⟩ :: rest : List Oper).length + m = (rest.length + m) + 1 from by simp; omega]
  exact JZ.ef k h0 ho h (fun v hs' r => kk v hs' r m is _ Z h1 h2.2 (by simpa using h3) (set_lt h4 (.inr hkz)) (fun e => hF v hs' r (h5 e)) hz) hF rfl hdn hg
/-- the first store -/
theorem JY.st {op : Op} {hs' : Hp} (h : Eff P n w0 own e hs op (fun v h => v = undef ∧ h = hs')) (kk : JY P n w0 own ops F z true rest e hs' K)
    (hE : isEff ⟨none, op, ty, pos, aft, g⟩ = true := by rfl) (hg : wantB ops e g = some true := by rfl) : JY P n w0 own ops F z false (⟨none, op, ty, pos, aft, g⟩ :: rest) e hs K := by
  intro m is listed Z h1 h2 h3 h4 h5 hz
  cases is with
  | nil => exact h1.elim
  | cons k is =>
  obtain ⟨h0, h1⟩ := h1
  unfold ordY at h2
  rw [Bool.and_eq_true, Bool.and_eq_true] at h2
  obtain ⟨⟨h2a, h2c⟩, h2b⟩ := h2
  rw [Bool.or_eq_true, Bool.or_eq_true, hE, eff_mem hE] at h2a
  have h2 := And.intro h2a h2b
  obtain rfl : k = z := by
    rw [h4] at h2c
    exact Nat.eq_of_beq_eq_true (by simpa using h2c)
  have ho : onlyB ops listed k = true := by
    rcases h2.1 with (h | h) | h
    · exact h
    · simp at h
    · simp at h
  have hk : k < listed.size := by rw [h3]; exact (Array.getElem?_eq_some_iff.1 h0).1
  rw [show (⟨none, op, ty, pos, aft, g⟩ :: rest : List Oper).length + m = (rest.length + m) + 1 from by simp; omega]
  refine JZ.st h0 ho (Nat.ble_eq_true_of_le hk) h (kk m is _ Z h1 h2.2 (by simpa using h3) (by simp [hk]) (fun h => by cases h) hz) hg
/-- a store behind it -/
theorem JY.st2 {op : Op} {hs' : Hp} (h : Eff P n w0 own e hs op (fun v h => v = undef ∧ h = hs')) (kk : JY P n w0 own ops F z true rest e hs' K)
    (hE : isEff ⟨none, op, ty, pos, aft, g⟩ = true := by rfl) (hg : wantB ops e g = some true := by rfl) : JY P n w0 own ops F z true (⟨none, op, ty, pos, aft, g⟩ :: rest) e hs K := by
  intro m is listed Z h1 h2 h3 h4 h5 hz
  cases is with
  | nil => exact h1.elim
  | cons k is =>
  obtain ⟨h0, h1⟩ := h1
  unfold ordY at h2
  rw [Bool.and_eq_true, Bool.and_eq_true] at h2
  obtain ⟨⟨h2a, h2c⟩, h2b⟩ := h2
  rw [Bool.or_eq_true, Bool.or_eq_true, hE, eff_mem hE] at h2a
  have h2 := And.intro h2a h2b
  have ho : onlyB ops listed k = true := by
    rcases h2.1 with (h | h) | h
    · exact h
    · simp at h
    · simp at h
  rw [show (⟨none, op, ty, pos, aft, g⟩ :: rest : List Oper).length + m = (rest.length + m) + 1 from by simp; omega]
  have hl := set_lt (k := k) (listed := listed) (z := z) h4 (.inl rfl)
  rcases Decidable.em (z = k) with rfl | hne
  · -- z has been: it cannot come up again
    have hr : Region.ready .any ops listed = [z] := by simpa [onlyB] using ho
    have hm : z ∈ Region.ready .any ops listed := by rw [hr]; simp
    obtain ⟨hu, _⟩ := mem_ready.1 hm
    have hk : z < listed.size := by rw [h3]; exact (Array.getElem?_eq_some_iff.1 h0).1
    simp [hk] at hu h4
    rw [hu] at h4; cases h4
  · exact JZ.st2 k h0 ho h4 (by cases h : Nat.beq z k; rfl; exact absurd (Nat.eq_of_beq_eq_true h) hne) h (kk m is _ Z h1 h2.2 (by simpa using h3) hl (fun h => by cases h) hz) hg
end
/-- number i comes up now -/
def JS (P : Program) (n : Nat) (w0 : World) (own : List Nat) (ops : Array Oper) (F : Hp) (m : Nat) (listed : Array Bool) (e : Env) (hs : Hp) (K : Env → Hp → Prop) (i : Nat) : Prop :=
  ∀ a w, Rep n a e → Sat w0 own hs w → F ⊆ hs →
    wpOp P ops (QN fun a' w' => ∃ e' hs', Rep n a' e' ∧ Sat w0 own hs' w' ∧ K e' hs') i (fun a' w' => Keeps w0 own F w' ∧ wpAnyH P .any ops (QN fun a' w' => ∃ e' hs', Rep n a' e' ∧ Sat w0 own hs' w' ∧ K e' hs') (Keeps w0 own F) m (listed.setIfInBounds i true) a' w') a w
section
variable {P : Program} {n : Nat} {w0 : World} {own : List Nat} {e : Env} {hs F : Hp} {ops : Array Oper} {K : Env → Hp → Prop} {m : Nat} {listed : Array Bool}
variable {d : Nat} {ty : TypeId} {pos : String} {aft : Array Edge} {g : Option (Nat × Bool)}
/-- any of those that may come up -/
theorem JD.two (i j : Nat) (hr : (Region.ready .any ops listed == [i, j]) = true) (h1 : JS P n w0 own ops F m listed e hs K i) (h2 : JS P n w0 own ops F m listed e hs K j) : JD P n w0 own ops F (m + 1) listed e hs K := by
  intro a w hr' s hf
  refine wpAnyH_all (rs := [i, j]) (by simpa using hr) (by simp) fun k hk => ?_
  simp only [List.mem_cons, List.not_mem_nil, or_false] at hk
  rcases hk with rfl | rfl
  · exact h1 a w hr' s hf
  · exact h2 a w hr' s hf
theorem JD.one (i : Nat) (hr : onlyB ops listed i = true) (h1 : JS P n w0 own ops F m listed e hs K i) : JD P n w0 own ops F (m + 1) listed e hs K := by
  intro a w hr' s hf
  refine wpAnyH_all (rs := [i]) (by simpa [onlyB] using hr) (by simp) fun k hk => ?_
  simp only [List.mem_singleton] at hk
  subst hk
  exact h1 a w hr' s hf
theorem JS.v {i : Nat} {op : Op} {v : Value} (hi : ops[i]? = some ⟨some d, op, ty, pos, aft, g⟩) (h : Val P n w0 own e hs op v) (k : JD P n w0 own ops F m (listed.setIfInBounds i true) ((d, v) :: e) hs K)
    (hdn : Nat.blt d n = true := by rfl) (hg : wantB ops e g = some true := by rfl) : JS P n w0 own ops F m listed e hs K i := by
  intro a w hr s hf
  unfold wpOp
  simp only [hi]
  rw [if_pos (wanted_of hr hg)]
  exact .inl (h.eff a w _ _ _ _ _ _ _ hr s fun v' hs' w' ⟨e1, e2⟩ s' => by
    subst e1; subst e2
    exact ⟨⟨_, s', hf⟩, k _ _ (hr.put (Nat.le_of_ble_eq_true hdn) _) s' hf⟩)
theorem JS.st {i : Nat} {op : Op} {hs' : Hp} (hi : ops[i]? = some ⟨none, op, ty, pos, aft, g⟩) (h : Eff P n w0 own e hs op (fun v h => v = undef ∧ h = hs')) (hF : F ⊆ hs') (k : JD P n w0 own ops F m (listed.setIfInBounds i true) e hs' K)
    (hg : wantB ops e g = some true := by rfl) : JS P n w0 own ops F m listed e hs K i := by
  intro a w hr s hf
  unfold wpOp
  simp only [hi]
  rw [if_pos (wanted_of hr hg)]
  exact .inl (h a w _ _ _ _ _ _ _ hr s fun v' h' w' ⟨_, e2⟩ s' => by
    subst e2
    exact ⟨⟨_, s', hF⟩, k _ _ (hr.put_none _) s' hF⟩)
end
end V
end Go

/- VA: one element put behind a slice; what is known is let go inside a region. -/
namespace Go
namespace V
open Go.RowKit
set_option linter.unusedVariables false
set_option linter.unusedSimpArgs false
section
variable {P : Program} {n : Nat} {w0 : World} {own : List Nat} {e : Env} {hs : Hp} {ops : Array Oper} {rest l : List Oper} {K : Env → Hp → Prop}
theorem JL.heap {hs' : Hp} (k : ∀ w, Sat w0 own hs w → Sat w0 own hs' w) (h : JL P n w0 own ops l e hs' K) : JL P n w0 own ops l e hs K := fun a w hr s => h a w hr (k w s)
theorem JL.sub {e' : Env} (k : Sub e' e) (h : JL P n w0 own ops l e' hs K) : JL P n w0 own ops l e hs K := fun a w hr s => h a w (hr.sub k) s
theorem JL.take (pre : Hp) {fr : Hp} [t : TakeI pre hs fr] (h : JL P n w0 own ops l e pre K) : JL P n w0 own ops l e hs K := JL.heap (fun _ s => s.take) h
theorem fill_one {m : Nat} {cs oc : List Value} (hc : cs.length = m) (ho : oc.length = m) : fillL ((List.range 1).map fun i => (i * m, m)) cs [(0, oc)] = some oc := by
  simp [fillL, hc, ho, splice_whole cs oc (by omega)]
/-- 's = append(s, x)' -/
theorem JL.push {s x : Operand} {T t u E m by_ c d1 d2 ty1 ty2 : Nat} {p1 p2 : String} {a1 a2 : Array Edge} {z vs oc : List Value} {v xv : Value} {h fr : Hp}
    (hs_ : ev e s = some v) (hx : ev e x = some xv) [hT : SliceT P T E] [ht : SliceT P t E] [hu : SliceT P u E] [hE : El P E m by_ z] (ho : OwnS E m v c vs h) [tk : TakeI h hs fr] (hoc : xv.cells = ⟨oc⟩) (hl : oc.length = m) (h1 : ones oc = true)
    (hb : (c + 1) * by_ ≤ 140737488355328) (h63 : c + 1 ≤ 4611686018427387904)
    (k : ∀ b v' h', OwnS E m v' (c + 1) (vs ++ oc) h' → JL P n w0 own ops rest ((d2, v') :: (d1, .slice (some ⟨b, 0, none⟩) 1 1) :: e) (h' ++ fr) K)
    (hs2 : ∀ b, ev ((d1, .slice (some ⟨b, 0, none⟩) 1 1) :: e) s = some v := by intro b; rfl) (hm : Nat.ble m 16777216 = true := by rfl) (hd1 : Nat.blt d1 n = true := by rfl) (hd2 : Nat.blt d2 n = true := by rfl) :
    JL P n w0 own ops (⟨some d1, .buildSlice T 1 #[(0, x)], ty1, p1, a1, none⟩ :: ⟨some d2, .call { callee := .builtin .append, args := #[s, .tmp d1], argTypes := #[t, u] }, ty2, p2, a2, none⟩ :: rest) e hs K := by
  have hzl : z.length = m := by obtain ⟨i, v, _, _, _, _, _, h⟩ := hE.out; exact h
  refine .ef (Eff.buildSlice (parts := [(0, x)]) (vs := [(0, xv)]) (out := oc) (by simp [evp, hx]) (by rw [Nat.one_mul]; exact Nat.le_of_ble_eq_true hm) rfl ?_) ?_ hd1 rfl
  · rw [show ([(0, xv)] : List (Nat × Value)).map (fun p => (p.1, p.2.cells.toList)) = [(0, oc)] from by simp [hoc]]
    exact fill_one (by simp) hl
  · rintro _ _ ⟨b, rfl, rfl⟩
    refine .ef (Eff.append (c := c) (k := 1) (vs := vs) (news := oc) (h := h) (fr := (b, .cells oc E) :: fr) (hs2 b) (show ev ((d1, .slice (some ⟨b, 0, none⟩) 1 1) :: e) (.tmp d1) = some (.slice (some ⟨b, 0, none⟩) 1 1) by simp [ev, get]) ho ((tk.out.cons _).trans List.perm_middle.symm) (fun w s' => Src.of_at s' .whole (by rw [hl, Nat.one_mul])) (by rw [hl, Nat.one_mul]) h1 hb h63) ?_ hd2 rfl
    rintro v' _ ⟨h', k', rfl⟩
    exact .heap (fun _ s' => s'.sub (List.Sublist.append_left (List.sublist_cons_self _ _) _)) (k b v' h' k')
end
/-! ### rows of records -/
theorem at_sub {w0 : World} {own : List Nat} {hs : Hp} {b o i : Nat} {vs us : List Value} (h : At w0 own hs ⟨b, o, none⟩ vs) (hu : ∀ (j : Nat) (u : Value), us[j]? = some u → vs[i + j]? = some u) : At w0 own hs ⟨b, o + i, none⟩ us := by
  intro w s j u hj
  have := h w s (i + j) u (hu j u hj)
  rw [add_none] at this ⊢
  rw [Nat.add_assoc]; exact this
section
variable {α : Type} (f : α → List Value) (m : Nat) (hm : ∀ a, (f a).length = m) {w0 : World} {own : List Nat} {hs : Hp} {b o i : Nat} {l : List α} {z : Int}
include hm
theorem recAt (h : At w0 own hs ⟨b, o, none⟩ (l.flatMap f)) (hi : i < l.length) (hz : z.toNat = i := by omega) : At w0 own hs ⟨b, o + z.toNat * m, none⟩ (f l[i]) := by
  subst hz
  refine at_sub h fun j u hj => ?_
  rw [flatMap_get f m hm l _ j hi (by have := (List.getElem?_eq_some_iff.1 hj).1; rw [hm] at this; exact this)]; exact hj
theorem fldAt (h : At w0 own hs ⟨b, o, none⟩ (l.flatMap f)) (hi : i < l.length) (k : Nat) {v : Value} (hv : (f l[i])[k]? = some v) (hz : z.toNat = i := by omega) : At w0 own hs ⟨b, o + z.toNat * m + k, none⟩ [v] := by
  subst hz
  rw [Nat.add_assoc]
  refine at_sub h fun j u hj => ?_
  match j, hj with
  | 0, hj =>
    simp at hj; subst hj
    rw [Nat.add_zero, flatMap_get f m hm l _ k hi (by have := (List.getElem?_eq_some_iff.1 hv).1; rw [hm] at this; exact this)]; exact hv
theorem Rd.recs {w : World} {no : List Nat} {A : Option Addr} (h : Rd w no A (l.flatMap f)) (h0 : 0 < l.length) (hm0 : 0 < m) : ∃ b o, A = some ⟨b, o, none⟩ ∧ ∀ hs, At w no hs ⟨b, o, none⟩ (l.flatMap f) := by
  obtain ⟨b, o, rfl, -⟩ := h.base (by rw [flatMap_length f m hm]; exact Nat.mul_pos h0 hm0)
  exact ⟨b, o, rfl, fun hs => h.whole⟩
theorem rows_take (k : Nat) : (l.take k).flatMap f = (l.flatMap f).take (k * m) := by
  induction l generalizing k with
  | nil => simp
  | cons v l ih =>
    cases k with
    | zero => simp
    | succ k =>
      have e1 : (f v).take ((k + 1) * m) = f v := List.take_of_length_le (by rw [hm, Nat.succ_mul]; omega)
      have e2 : (k + 1) * m - (f v).length = k * m := by rw [hm, Nat.succ_mul]; omega
      rw [List.take_succ_cons, List.flatMap_cons, List.flatMap_cons, ih, List.take_append, e1, e2]
theorem rows_drop (k : Nat) : (l.drop k).flatMap f = (l.flatMap f).drop (k * m) := by
  induction l generalizing k with
  | nil => simp
  | cons v l ih =>
    cases k with
    | zero => simp
    | succ k =>
      have e1 : (f v).drop ((k + 1) * m) = [] := List.drop_of_length_le (by rw [hm, Nat.succ_mul]; omega)
      have e2 : (k + 1) * m - (f v).length = k * m := by rw [hm, Nat.succ_mul]; omega
      rw [List.drop_succ_cons, List.flatMap_cons, ih, List.drop_append, e1, e2, List.nil_append]
end
theorem rows_ones {α : Type} (f : α → List Value) (h : ∀ a, ones (f a) = true) (l : List α) : ones (l.flatMap f) = true := by
  simp only [ones, List.all_flatMap, List.all_eq_true]
  intro a _ x hx
  exact ones_mem (h a) x hx
/-- a slice that was cut -/
theorem Rd.cut {w : World} {no : List Nat} {A : Option Addr} {vs : List Value} {cap k m : Nat} (h : Rd w no A vs) (hc : vs.length ≤ cap * m) : Rd w no (cutA A cap k m) (vs.drop (k * m)) := by
  intro j v hv
  rw [List.getElem?_drop] at hv
  obtain ⟨b, o, rfl, hb, hv'⟩ := h _ v hv
  have hlt := (List.getElem?_eq_some_iff.1 hv).1
  have hne : cap ≠ k := by intro e; subst e; omega
  unfold cutA
  rw [if_neg hne]
  refine ⟨b, o + k * m, by simp [add_none], hb, ?_⟩
  rw [Nat.add_assoc]; exact hv'
/-- what an own slice holds, loaded -/
theorem OwnS.at0 {w0 : World} {own : List Nat} {E m n n' c b o : Nat} {vs : List Value} {h hs : Hp} (k : OwnS E m (.slice (some ⟨b, o, none⟩) n' c) n vs h) (hh : h ⊆ hs) : At w0 own hs ⟨b, o, none⟩ vs := by
  have := k.atN (i := 0) (w0 := w0) (own := own) hh (us := vs) (fun j v hv => by rw [Nat.zero_add]; exact hv)
  exact this
/-- .. cells of it -/
theorem OwnS.spliceAt {E m n n' c b o i : Nat} {vs l us : List Value} (k : OwnS E m (.slice (some ⟨b, o, none⟩) n' c) n vs [(b, .cells l E)]) (hi : i + us.length ≤ n * m) : OwnS E m (.slice (some ⟨b, o, none⟩) n' c) n (splice vs i us) [(b, .cells (splice l (o + i) us) E)] := by
  obtain ⟨hl, k⟩ := k
  refine ⟨by rw [splice_length _ _ _ (by omega)]; exact hl, ?_⟩
  rcases k with ⟨h1, h2, h3⟩ | ⟨b', o', cap, l', h1, h2, h3, h4, h5⟩
  · cases h3
  · cases h1; cases h2
    have hn := Nat.mul_le_mul_right m h3
    refine .inr ⟨b, o, c, splice l (o + i) us, rfl, rfl, h3, by rw [splice_length _ _ _ (by omega)]; exact h4, ?_⟩
    apply List.ext_getElem?
    intro j
    rw [List.getElem?_take, List.getElem?_drop, splice_get _ _ _ _ (by omega), splice_get _ _ _ _ (by omega), ← h5, List.getElem?_take, List.getElem?_drop]
    by_cases hj : j < n * m
    · rw [if_pos hj, if_pos hj]
      by_cases e1 : j < i
      · rw [if_pos (by omega), if_pos e1]
      · rw [if_neg (by omega), if_neg e1]
        by_cases e2 : j < i + us.length
        · rw [if_pos (by omega), if_pos e2]; congr 1; omega
        · rw [if_neg (by omega), if_neg e2]
    · rw [if_neg hj, if_neg hj, if_neg (by omega), if_neg (by omega)]
/-- one cell of an own slice is turned -/
theorem OwnS.setAt {E m n n' c b o i : Nat} {vs l : List Value} {v : Value} (k : OwnS E m (.slice (some ⟨b, o, none⟩) n' c) n vs [(b, .cells l E)]) (hi : i < n * m) : OwnS E m (.slice (some ⟨b, o, none⟩) n' c) n (vs.set i v) [(b, .cells (l.set (o + i) v) E)] := by
  have h := k.spliceAt (i := i) (us := [v]) (by simp; omega)
  obtain ⟨hl, k⟩ := k
  rcases k with ⟨h1, h2, h3⟩ | ⟨b', o', cap, l', h1, h2, h3, h4, h5⟩
  · cases h3
  · cases h1; cases h2
    have hn := Nat.mul_le_mul_right m h3
    rw [splice_one vs i v (by omega), splice_one l (o + i) v (by omega)] at h
    exact h
theorem OwnS.src {P : Program} {w0 w : World} {own : List Nat} {hs : Hp} {E m n : Nat} {v : Value} {vs : List Value} {h : Hp} (k : OwnS E m v n vs h) (s : Sat w0 own hs w) (hh : h ⊆ hs) (hm : 0 < m) : Src P w m v n vs := by
  obtain ⟨A, c, rfl⟩ := k.slice
  exact (OwnS.rd k s (no := []) hh (by simp)).src k.1 hm
section
variable {P : Program} {n : Nat} {w0 : World} {own : List Nat} {e : Env} {hs : Hp} {ops : Array Oper} {rest l : List Oper} {K : Env → Hp → Prop}
/-- 's = append(s, t...)' -/
theorem JL.appT {s x : Operand} {t u E m by_ c d ty k : Nat} {p : String} {af : Array Edge} {z vs news : List Value} {v xv : Value} {h fr : Hp}
    (hs_ : ev e s = some v) (hx : ev e x = some xv) [ht : SliceT P t E] [hu : SliceT P u E] [hE : El P E m by_ z] (ho : OwnS E m v c vs h) [tk : TakeI h hs fr] (hsrc : ∀ w, Sat w0 own hs w → Src P w m xv k news) (hl : news.length = k * m) (h1 : ones news = true)
    (hb : (c + k) * by_ ≤ 140737488355328) (h63 : c + k ≤ 4611686018427387904) (kk : ∀ v' h', OwnS E m v' (c + k) (vs ++ news) h' → JL P n w0 own ops rest ((d, v') :: e) (h' ++ fr) K) (hd : Nat.blt d n = true := by rfl) :
    JL P n w0 own ops (⟨some d, .call { callee := .builtin .append, args := #[s, x], argTypes := #[t, u] }, ty, p, af, none⟩ :: rest) e hs K :=
  .ef (Eff.append (c := c) (k := k) (vs := vs) (news := news) (h := h) (fr := fr) hs_ hx ho tk.out hsrc hl h1 hb h63) (fun v' _ ⟨h', k', e⟩ => by subst e; exact kk v' h' k') hd rfl
end
/-! ### regions in which two effects may come up in either order -/
section
variable {P : Program} {n : Nat} {w0 : World} {own : List Nat} {e : Env} {hs F : Hp} {K : Env → Hp → Prop} {m : Nat} {listed : Array Bool}
variable {d : Nat} {ty : TypeId} {pos : String} {aft : Array Edge} {g : Option (Nat × Bool)}
/-- the first operations, in an order of ours; then by hand -/
theorem JC.drawX {id : Nat} {Q : Post} {l : List Oper} (is : List Nat) (F : Hp) (hF : F ⊆ hs) (hm : P.follows .mixedOrders = true)
    (hB : (ordB l.toArray (pickL l is) is (Array.replicate l.length false) && Nat.beq (pickL l is).length is.length && Nat.ble is.length l.length) = true)
    (h : JK P n w0 own l.toArray F (pickL l is) e hs (fun e' hs' => JD P n w0 own l.toArray F (l.length - is.length) (marks_ is (Array.replicate l.length false)) e' hs' (fun e hs => Q .normal e hs))) : JC P n w0 own (.region id l.toArray true) e hs Q := by
  rw [Bool.and_eq_true, Bool.and_eq_true] at hB
  obtain ⟨⟨h1, h2⟩, h3⟩ := hB
  have h2 := Nat.eq_of_beq_eq_true h2
  have h3 := Nat.le_of_ble_eq_true h3
  refine JC.draw F hF hm ?_
  have := h (l.length - is.length) is (Array.replicate l.length false) (fun e hs => Q .normal e hs) (pickL_nums is h1 h2) h1 hF (fun e' hs' _ ke => ke)
  rw [h2, show is.length + (l.length - is.length) = l.length by omega] at this
  simpa using this
theorem pickL_nums' {l : List Oper} : ∀ (is : List Nat), (pickL l is).length = is.length → Nums l.toArray (pickL l is) is
  | [], _ => trivial
  | i :: is, hl => by
    unfold pickL at hl ⊢
    cases ho : l[i]? with
    | none => rw [ho] at hl; simp at hl
    | some o =>
      rw [ho] at hl
      simp only at hl ⊢
      exact ⟨by simpa using ho, pickL_nums' is (by simpa using hl)⟩
/-- the others, in an order of ours -/
theorem JD.run {l : List Oper} (is : List Nat) (hF : F ⊆ hs) (hB : (ordB l.toArray (pickL l is) is listed && doneB l.toArray (marks_ is listed) && Nat.beq (pickL l is).length is.length && Nat.beq is.length m) = true)
    (h : JK P n w0 own l.toArray F (pickL l is) e hs K) : JD P n w0 own l.toArray F m listed e hs K := by
  rw [Bool.and_eq_true, Bool.and_eq_true, Bool.and_eq_true] at hB
  obtain ⟨⟨⟨h1, h2⟩, h3⟩, h4⟩ := hB
  have h3 := Nat.eq_of_beq_eq_true h3
  have h4 := Nat.eq_of_beq_eq_true h4
  have := h 0 is listed K (pickL_nums' is h3) h1 hF (fun e' hs' _ ke => JD.done h2 ke)
  rw [h3, h4] at this
  simpa using this
theorem JD.heap {ops : Array Oper} {hs' : Hp} (k : ∀ w, Sat w0 own hs w → Sat w0 own hs' w) (hF : F ⊆ hs') (h : JD P n w0 own ops F m listed e hs' K) : JD P n w0 own ops F m listed e hs K := fun a w hr s _ => h a w hr (k w s) hF
theorem JS.ef {ops : Array Oper} {i : Nat} {op : Op} {R : Value → Hp → Prop} (hi : ops[i]? = some ⟨some d, op, ty, pos, aft, g⟩) (h : Eff P n w0 own e hs op R) (hF : ∀ v hs', R v hs' → F ⊆ hs → F ⊆ hs')
    (k : ∀ v hs', R v hs' → JD P n w0 own ops F m (listed.setIfInBounds i true) ((d, v) :: e) hs' K) (hdn : Nat.blt d n = true := by rfl) (hg : wantB ops e g = some true := by rfl) : JS P n w0 own ops F m listed e hs K i := by
  intro a w hr s hf
  unfold wpOp
  simp only [hi]
  rw [if_pos (wanted_of hr hg)]
  exact .inl (h a w _ _ _ _ _ _ _ hr s fun v' h' w' r s' => ⟨⟨_, s', hF _ _ r hf⟩, k _ _ r _ _ (hr.put (Nat.le_of_ble_eq_true hdn) _) s' (hF _ _ r hf)⟩)
theorem JS.nw {ops : Array Oper} {i : Nat} {op : Op} {c : Ch} (hi : ops[i]? = some ⟨some d, op, ty, pos, aft, g⟩) (h : Eff P n w0 own e hs op (NewP hs c))
    (k : ∀ b, JD P n w0 own ops F m (listed.setIfInBounds i true) ((d, .pointer (some ⟨b, 0, none⟩)) :: e) ((b, c) :: hs) K) (hdn : Nat.blt d n = true := by rfl) (hg : wantB ops e g = some true := by rfl) : JS P n w0 own ops F m listed e hs K i :=
  .ef hi h (fun v h' ⟨b, _, e2⟩ f => by subst e2; exact fun p hp => List.mem_cons_of_mem _ (f hp)) (fun v h' ⟨b, e1, e2⟩ => by subst e1; subst e2; exact k b) hdn hg
theorem JS.cl {ops : Array Oper} {i f : Nat} {fo : Operand} {args : List Operand} {at_ : Array TypeId} {cap vals : List Value} {R : Value → Hp → Prop}
    (hi : ops[i]? = some ⟨some d, .call { callee := .value fo, args := ⟨args⟩, argTypes := at_ }, ty, pos, aft, g⟩) (hf : ev e fo = some (.func (.func f) #[] ⟨cap⟩)) (ha : evs e args = some vals) (hc : ∀ w, Sat w0 own hs w → Does P f (vals ++ cap) [] w R)
    (k : ∀ v h, R v h → JD P n w0 own ops F m (listed.setIfInBounds i true) ((d, v) :: e) (h ++ hs) K) [hg' : FnT P f] (hdn : Nat.blt d n = true := by rfl) (hg : wantB ops e g = some true := by rfl) : JS P n w0 own ops F m listed e hs K i :=
  .ef hi (.call0 hf ha hc) (fun _ _ ⟨_, _, h3⟩ f => by subst h3; exact fun p hp => List.mem_append_right _ (f hp)) (fun v _ ⟨h, h1, h3⟩ => by subst h3; exact k v h h1) hdn hg
theorem JK.nw {ops : Array Oper} {rest : List Oper} {op : Op} {c : Ch} (h : Eff P n w0 own e hs op (NewP hs c)) (kk : ∀ b, JK P n w0 own ops F rest ((d, .pointer (some ⟨b, 0, none⟩)) :: e) ((b, c) :: hs) K)
    (he : isEff ⟨some d, op, ty, pos, aft, g⟩ = true := by rfl) (hdn : Nat.blt d n = true := by rfl) (hg : wantB ops e g = some true := by rfl) : JK P n w0 own ops F (⟨some d, op, ty, pos, aft, g⟩ :: rest) e hs K :=
  .ef h (fun v h' ⟨b, _, e2⟩ f => by subst e2; exact fun p hp => List.mem_cons_of_mem _ (f hp)) (fun v h' ⟨b, e1, e2⟩ => by subst e1; subst e2; exact kk b) he hdn hg
end
/-- a slice of its own, whatever it holds -/
def AnyS (E m : Nat) (v : Value) (n : Nat) (h : Hp) : Prop := ∃ vs, OwnS E m v n vs h
theorem AnyS.sl {E m n : Nat} {v : Value} {h : Hp} (k : AnyS E m v n h) : ∃ A c, v = .slice A n c := by
  obtain ⟨vs, k⟩ := k
  exact k.slice
theorem AnyS.put {E m n c i : Nat} {A : Option Addr} {h : Hp} (k : AnyS E m (.slice A n c) n h) (hi : i < n) : ∃ b o l, A = some ⟨b, o, none⟩ ∧ h = [(b, .cells l E)] ∧ o + n * m ≤ l.length ∧ ∀ us : List Value, us.length = m → AnyS E m (.slice A n c) n [(b, .cells (splice l (o + i * m) us) E)] := by
  obtain ⟨vs, k⟩ := k
  obtain ⟨b, o, l, rfl, -, rfl, hc, hl, hv⟩ := k.some_ (by omega)
  have := Nat.mul_le_mul_right m hc
  have hm : i * m + m ≤ n * m := by rw [← Nat.succ_mul]; exact Nat.mul_le_mul_right m hi
  exact ⟨b, o, l, rfl, rfl, by omega, fun us hu => ⟨_, OwnS.spliceAt (i := i * m) k (by rw [hu]; exact hm)⟩⟩
theorem Sat.apart {w0 w : World} {own : List Nat} {hs a b fr : Hp} (s : Sat w0 own hs w) [h : TakeI (a ++ b) hs fr] : ∀ x ∈ bl a, x ∉ bl b := (s.take (pre := a ++ b)).disj
theorem Rd.blk {w0 w : World} {own : List Nat} {hs : Hp} {b T : Nat} {l : List Value} (s : Sat w0 own hs w) [hb : Mem b (.cells l T) hs] : Rd w [] (some ⟨b, 0, none⟩) l :=
  Rd.chunk s (T := T) (l := l) (by simp) (fun j v hv => by rw [Nat.zero_add]; exact hv)
section
variable {P : Program} {n : Nat} {w0 : World} {own : List Nat} {e : Env} {hs F : Hp} {K : Env → Hp → Prop} {m : Nat} {listed : Array Bool}
variable {d : Nat} {ty : TypeId} {pos : String} {aft : Array Edge} {g : Option (Nat × Bool)}
/-- a call that is lent blocks, where two effects may come up -/
theorem JS.clT {ops : Array Oper} {i f : Nat} {fo : Operand} {args : List Operand} {at_ : Array TypeId} {cap vals : List Value} {R : Value → Hp → Prop} (pre : Hp) {fr : Hp}
    (hi : ops[i]? = some ⟨some d, .call { callee := .value fo, args := ⟨args⟩, argTypes := at_ }, ty, pos, aft, g⟩) (hf : ev e fo = some (.func (.func f) #[] ⟨cap⟩)) (ha : evs e args = some vals) [tk : TakeI pre hs fr] (hc : ∀ w, Sat w0 own hs w → Does P f (vals ++ cap) pre w R)
    (hF : ∀ h, F ⊆ h ++ fr) (k : ∀ v h, R v h → JD P n w0 own ops F m (listed.setIfInBounds i true) ((d, v) :: e) (h ++ fr) K) [hg' : FnT P f] (hdn : Nat.blt d n = true := by rfl) (hg : wantB ops e g = some true := by rfl) : JS P n w0 own ops F m listed e hs K i :=
  .ef hi (.callT pre hf ha hc) (fun _ _ ⟨h, _, h3⟩ f => by subst h3; exact hF h) (fun v _ ⟨h, h1, h3⟩ => by subst h3; exact k v h h1) hdn hg
theorem JK.clT {ops : Array Oper} {rest : List Oper} {f : Nat} {fo : Operand} {args : List Operand} {at_ : Array TypeId} {cap vals : List Value} {R : Value → Hp → Prop} (pre : Hp) {fr : Hp}
    (hf : ev e fo = some (.func (.func f) #[] ⟨cap⟩)) (ha : evs e args = some vals) [tk : TakeI pre hs fr] (hc : ∀ w, Sat w0 own hs w → Does P f (vals ++ cap) pre w R) (hF : ∀ h, F ⊆ h ++ fr) (kk : ∀ v h, R v h → JK P n w0 own ops F rest ((d, v) :: e) (h ++ fr) K) [hg : FnT P f]
    (hdn : Nat.blt d n = true := by rfl) (hw : wantB ops e g = some true := by rfl) :
    JK P n w0 own ops F (⟨some d, .call { callee := .value fo, args := ⟨args⟩, argTypes := at_ }, ty, pos, aft, g⟩ :: rest) e hs K :=
  JK.ef (.callT pre hf ha hc) (fun _ _ ⟨h, _, h3⟩ f => by subst h3; exact hF h) (fun v _ ⟨h, h1, h3⟩ => by subst h3; exact kk v h h1) rfl hdn hw
end
end V
end Go

/- VC: maps whose keys are numbers, further: look-up with 'ok', delete, len, a range over them; max. -/
namespace Go
namespace V
open Go.RowKit
set_option linter.unusedVariables false
set_option linter.unusedSimpArgs false

abbrev ME.born (x : ME) : Nat := x.2.2
/-- the map behind a deletion -/
def mdel (k : Int) (es : List ME) : List ME := match mfind k es 0 with
  | some (i, _) => es.eraseIdx i
  | none => es
abbrev iter_ (m since : Nat) (seen : List Nat) (last : Nat) : Ch := .obj (.mapIter (some m) since ⟨seen⟩ last)
section
variable {P : Program} {n : Nat} {w0 : World} {own : List Nat} {e : Env} {hs : Hp}
theorem Val.lookup2 {T kT eT b c : Nat} {q : IntKind} {k : Int} {x y : Operand} {es : List ME} {z : Value} (hx : ev e x = some (.map (some b))) (hy : ev e y = some (.int q k)) [hT : MapT P T kT eT] [hk : IntT P kT q] [hz : ZrV P eT z]
    [hb : Mem b (.obj (mapOf q es c)) hs] : Val P n w0 own e hs (.lookup T x y true) (.tuple ⟨[(mget k es).getD z, .bool (mget k es).isSome]⟩) := fun a w ty pos aft g d hr s => by
  obtain ⟨i, hi, hzz⟩ := hz.out
  have h1 := s.mrow hb.out
  have h1' : w.heap[b]? = some (.map ⟨es.map (mentry q)⟩ c) := h1
  have key : (Instr.lookup T (.map (some b)) (.int q k) true).run P w = .ok (.tuple ⟨[(mget k es).getD z, .bool (mget k es).isSome]⟩) w := by
    unfold Instr.lookup
    simp [run_underlying hT.out, MapKept.run_getObj_map h1', run_checkKey_int hk.out, run_findKey_int hk.out]
    unfold mget
    cases mfind k es 0 with
    | none => simp [zeroValue, typeInfo, hi, hzz]
    | some p => simp
  simp [execOp, hr.eval hx, hr.eval hy, key]
theorem Val.lookup2E {T kT eT b c : Nat} {q : IntKind} {k : Int} {x y : Operand} {es : List ME} {z v : Value} {ok : Bool} (hx : ev e x = some (.map (some b))) (hy : ev e y = some (.int q k)) [hT : MapT P T kT eT] [hk : IntT P kT q] [hz : ZrV P eT z]
    [hb : Mem b (.obj (mapOf q es c)) hs] (hv : (mget k es).getD z = v) (ho : (mget k es).isSome = ok) : Val P n w0 own e hs (.lookup T x y true) (.tuple ⟨[v, .bool ok]⟩) := hv ▸ ho ▸ Val.lookup2 hx hy
theorem Eff.del {T kT eT uT b c : Nat} {q : IntKind} {k : Int} {x y : Operand} {es : List ME} {hs' : Hp} (hx : ev e x = some (.map (some b))) (hy : ev e y = some (.int q k)) [hT : MapT P T kT eT] [hk : IntT P kT q]
    [hb : Mem b (.obj (mapOf q es c)) hs] [u : UpdI b (.obj (mapOf q (mdel k es) c)) hs hs'] : Eff P n w0 own e hs (.call { callee := .builtin .delete, args := #[x, y], argTypes := #[T, uT] }) (fun v h => v = .tuple ⟨[]⟩ ∧ h = hs') :=
  Eff.of_run fun a w ty pos aft g d hr s => by
    have h1 := s.mrow hb.out
    have h1' : w.heap[b]? = some (.map ⟨es.map (mentry q)⟩ c) := h1
    have hlt : b < w.heap.size := (Array.getElem?_eq_some_iff.1 h1').1
    have key : (Builtin.delete_ #[T, uT] ty #[.map (some b), .int q k]).run P w = .ok (.tuple #[]) { w with heap := w.heap.setIfInBounds b (mapOf q (mdel k es) c) } := by
      unfold Builtin.delete_
      cases hf : mfind k es 0 with
      | none =>
        simp [run_underlying hT.out, MapKept.run_getObj_map h1', run_checkKey_int hk.out, run_findKey_int hk.out, hf, MapKept.run_setObj_map _ h1', mdel, mapOf]
      | some p =>
        obtain ⟨i, v0⟩ := p
        obtain ⟨_, y0, g1, g2, _⟩ := mfind_key k es 0 i v0 hf
        have hi : i < es.length := by have := (List.getElem?_eq_some_iff.1 g1).1; omega
        simp [run_underlying hT.out, MapKept.run_getObj_map h1', run_checkKey_int hk.out, run_findKey_int hk.out, hf, MapKept.run_setObj_map _ h1', mdel, mapOf, Array.eraseIdxIfInBounds, hi]
        congr 2
        apply Array.ext'
        apply List.ext_getElem?
        intro m
        simp only [List.getElem?_eraseIdx, List.getElem?_map]
        split <;> rfl
    refine ⟨.tuple ⟨[]⟩, hs', { w with heap := w.heap.setIfInBounds b (mapOf q (mdel k es) c) }, ?_, ⟨rfl, rfl⟩, ?_⟩
    · simp [execOp, hr.eval hx, hr.eval hy, resolve, invoke, builtin, key]
    · refine s.upd u.out ?_ ?_ ?_ rfl rfl rfl
      · simp
      · intro i hi
        simp [Array.getElem?_setIfInBounds, Ne.symm hi]
      · simp [Array.getElem?_setIfInBounds, hlt, Ch.toObj]
theorem Val.lenM {T kT eT b c : Nat} {q : IntKind} {x : Operand} {es : List ME} (hx : ev e x = some (.map (some b))) [hT : MapT P T kT eT] [hb : Mem b (.obj (mapOf q es c)) hs] :
    Val P n w0 own e hs (.call { callee := .builtin .len, args := #[x], argTypes := #[T] }) (.int .i64 es.length) := fun a w ty pos aft g d hr s => by
  have h1 := s.mrow hb.out
  have h1' : w.heap[b]? = some (.map ⟨es.map (mentry q)⟩ c) := h1
  have hu := hT.out
  simp [execOp, hr.eval hx, resolve, invoke, builtin, Builtin.len_, run_underlying hu, goInt, MapKept.run_getObj_map h1']
theorem Val.max2 {x y : Operand} {q : IntKind} {i j : Int} {ts : Array TypeId} (hx : ev e x = some (.int q i)) (hy : ev e y = some (.int q j)) :
    Val P n w0 own e hs (.call { callee := .builtin .max, args := #[x, y], argTypes := ts }) (.int q (max i j)) := fun a w ty pos aft g d hr s => by
  simp [execOp, hr.eval hx, hr.eval hy, resolve, invoke, builtin, Builtin.max_, Builtin.max2]
  by_cases h : i < j
  · simp [h]; omega
  · simp [h]; omega
theorem Eff.range {T kT eT b c : Nat} {q : IntKind} {x : Operand} {es : List ME} (hx : ev e x = some (.map (some b))) [hT : MapT P T kT eT] [hb : Mem b (.obj (mapOf q es c)) hs] :
    Eff P n w0 own e hs (.range T x) (NewP hs (iter_ b c [] c)) :=
  Eff.of_run fun a w ty pos aft g d hr s => by
    have h1 := s.mrow hb.out
    have h1' : w.heap[b]? = some (.map ⟨es.map (mentry q)⟩ c) := h1
    refine ⟨.pointer (some ⟨w.heap.size, 0, none⟩), _, w.alloc (.mapIter (some b) c #[] c), ?_, ⟨w.heap.size, rfl, rfl⟩, s.new (iter_ b c [] c)⟩
    have key : (Instr.range T (.map (some b))).run P w = .ok (.pointer (some ⟨w.heap.size, 0, none⟩)) (w.alloc (.mapIter (some b) c #[] c)) := by
      unfold Instr.range
      simp [run_underlying hT.out, MapKept.run_getObj_map h1', run_newObj_alloc]
    simp [execOp, hr.eval hx, key]
theorem left_nil {q : IntKind} {es : List ME} {seen : List Nat} : (leftOf ⟨es.map (mentry q)⟩ ⟨seen⟩).size = 0 ↔ ∀ x ∈ es, x.born ∈ seen := by
  unfold leftOf
  rw [Array.size_eq_zero_iff, Array.filter_eq_empty_iff]
  constructor
  · intro h x hx
    have := h (mentry q x) (by simp; exact ⟨_, _, _, hx, rfl⟩)
    simpa [mentry] using this
  · intro h y hy
    simp at hy
    obtain ⟨a, b, c, hx, rfl⟩ := hy
    simpa [mentry] using h _ hx
theorem Eff.next {r b since last c : Nat} {q : IntKind} {x : Operand} {es : List ME} {seen : List Nat} {fr : Hp} (hx : ev e x = some (.pointer (some ⟨r, 0, none⟩))) [hr_ : Rem (r, iter_ b since seen last) hs fr] [hb : Mem b (.obj (mapOf q es c)) hs]
    (hold : ∀ y ∈ es, y.born < since) (hl : since ≤ last) :
    Eff P n w0 own e hs (.next x false) (fun v h => (v = .tuple ⟨[.bool false]⟩ ∧ (∀ y ∈ es, y.born ∈ seen) ∧ h = hs) ∨
      ∃ y ∈ es, y.born ∉ seen ∧ v = .tuple ⟨[.bool true, .int q y.1, y.2.1]⟩ ∧ h = (r, iter_ b since (seen ++ [y.born]) c) :: fr) :=
  Eff.of_run fun a w ty pos aft g d hr s => by
    have h1 := s.mrow hb.out
    have h1' : w.heap[b]? = some (.map ⟨es.map (mentry q)⟩ c) := h1
    have hrr : w.heap[r]? = some (.mapIter (some b) since ⟨seen⟩ last) := s.has r _ (hr_.out.mem_iff.2 List.mem_cons_self)
    have hlt : r < w.heap.size := (Array.getElem?_eq_some_iff.1 hrr).1
    rcases run_next_at (P := P) w ty r b since last ⟨seen⟩ ⟨es.map (mentry q)⟩ c hrr h1' (by
      intro y hy
      simp at hy
      obtain ⟨a, b, c, hm, rfl⟩ := hy
      exact hold _ hm) hl with ⟨h0, hrun⟩ | ⟨y, hy, w1, hw1, hrun⟩
    · exact ⟨_, hs, w, by simp [execOp, hr.eval hx, hrun], .inl ⟨rfl, left_nil.1 h0, rfl⟩, s⟩
    · unfold leftOf at hy
      simp at hy
      obtain ⟨⟨a1, a2, a3, hm, rfl⟩, hns⟩ := hy
      have hpu : (⟨seen⟩ : Array Nat).push (mentry q (a1, a2, a3)).born = ⟨seen ++ [a3]⟩ := by apply Array.ext'; simp [mentry]
      rw [hpu] at hrun
      have s1 : Sat w0 own hs w1 := by rcases hw1 with rfl | rfl; exact s; exact s.drew
      have s2 := (s1.perm hr_.out).upd (w' := ChangeMaps.setBlock w1 r (.mapIter (some b) since ⟨seen ++ [a3]⟩ c)) (c := iter_ b since (seen ++ [a3]) c) (.head) (by simp [ChangeMaps.setBlock]) (fun i hi => by simp [ChangeMaps.setBlock, Array.getElem?_setIfInBounds, Ne.symm hi]) (by
        have hlt1 : r < w1.heap.size := by rcases hw1 with rfl | rfl <;> exact hlt
        simp [ChangeMaps.setBlock, Array.getElem?_setIfInBounds, hlt1, Ch.toObj]) rfl rfl rfl
      exact ⟨_, _, _, by simp [execOp, hr.eval hx, hrun, mentry], .inr ⟨(a1, a2, a3), hm, by simpa [mentry] using hns, rfl, rfl⟩, s2⟩
theorem Val.entry {r b since c : Nat} {q : IntKind} {x : Operand} {es : List ME} {seen : List Nat} {y : ME} (hx : ev e x = some (.pointer (some ⟨r, 0, none⟩))) [hr_ : Mem r (iter_ b since (seen ++ [y.born]) c) hs] [hb : Mem b (.obj (mapOf q es c)) hs]
    (hy : y ∈ es) (hn : (es.map ME.born).Nodup) : Val P n w0 own e hs (.entry x) (.tuple ⟨[.int q y.1, y.2.1]⟩) := fun a w ty pos aft g d hr s => by
  have h1 := s.mrow hb.out
  have h1' : w.heap[b]? = some (.map ⟨es.map (mentry q)⟩ c) := h1
  have hrr : w.heap[r]? = some (.mapIter (some b) since ⟨seen ++ [y.born]⟩ c) := s.has r _ hr_.out
  have hpu : (⟨seen ++ [y.born]⟩ : Array Nat) = (⟨seen⟩ : Array Nat).push (mentry q y).born := by apply Array.ext'; simp [mentry]
  rw [hpu] at hrr
  have := run_entry_at (P := P) w r b since ⟨seen⟩ ⟨es.map (mentry q)⟩ c (mentry q y) hrr h1' (by simp; exact ⟨_, _, _, hy, rfl⟩) (by
    simpa [List.map_map, Function.comp_def, mentry] using hn)
  simp [execOp, hr.eval hx, this, mentry]
end
section
variable {P : Program} {n : Nat} {w0 : World} {own : List Nat} {e : Env} {hs F : Hp} {ops : Array Oper} {rest : List Oper} {K : Env → Hp → Prop}
variable {d : Nat} {ty : TypeId} {pos : String} {aft : Array Edge} {g : Option (Nat × Bool)}
/-- what works on memory and leaves nothing, when it is alone -/
theorem JK.ef0 {op : Op} {R : Value → Hp → Prop} (h : Eff P n w0 own e hs op R) (hF : ∀ v hs', R v hs' → F ⊆ hs → F ⊆ hs') (kk : ∀ v hs', R v hs' → JK P n w0 own ops F rest e hs' K)
    (hE : isEff ⟨none, op, ty, pos, aft, g⟩ = true := by rfl) (hg : wantB ops e g = some true := by rfl) : JK P n w0 own ops F (⟨none, op, ty, pos, aft, g⟩ :: rest) e hs K := by
  intro m is listed Z h1 h2 h3 hz
  cases is with
  | nil => exact h1.elim
  | cons k is =>
  obtain ⟨h0, h1⟩ := h1
  unfold ordB at h2
  rw [Bool.and_eq_true, Bool.or_eq_true, Bool.and_eq_true] at h2
  rw [show (⟨none, op, ty, pos, aft, g⟩ :: rest : List Oper).length + m = (rest.length + m) + 1 from by simp; omega]
  rcases h2.1 with ho | ⟨hn, _⟩
  · exact JD.ef0 k h0 ho h (fun v hs' r => kk v hs' r m is _ Z h1 h2.2 (hF v hs' r h3) hz) hF hg
  · rw [hE] at hn; cases hn
theorem JY.nw {z : Nat} {late : Bool} {K' : Bool → Env → Hp → Prop} {op : Op} {c : Ch} (h : Eff P n w0 own e hs op (NewP hs c)) (kk : ∀ b, JY P n w0 own ops F z late rest ((d, .pointer (some ⟨b, 0, none⟩)) :: e) ((b, c) :: hs) K')
    (hE : isEff ⟨some d, op, ty, pos, aft, g⟩ = true := by rfl) (hdn : Nat.blt d n = true := by rfl) (hg : wantB ops e g = some true := by rfl) (hzo : ((ops[z]?).map (·.dst.isNone)) = some true := by rfl) : JY P n w0 own ops F z late (⟨some d, op, ty, pos, aft, g⟩ :: rest) e hs K' :=
  .ef h (fun v h' ⟨b, _, e2⟩ f => by subst e2; exact fun p hp => List.mem_cons_of_mem _ (f hp)) (fun v h' ⟨b, e1, e2⟩ => by subst e1; subst e2; exact kk b) hE hdn hg hzo
/-- a record stored into a record -/
theorem Eff.storeR {T m b o U : Nat} {x y : Operand} {vs l : List Value} {hs' : Hp} (l' : List Value) (hx : ev e x = some (.pointer (some ⟨b, o, none⟩))) (hy : ev e y = some (.agg ⟨vs⟩)) [hT : Sz P T m] [hb : Mem b (.cells l U) hs]
    [u : UpdI b (.cells l' U) hs hs'] (hm : vs.length = m := by rfl) (h1 : ones vs = true := by rfl) (ho : Nat.ble (o + vs.length) l.length = true := by rfl) (hl : splice l o vs = l' := by rfl) : Eff P n w0 own e hs (.store T x y) (fun v h => v = undef ∧ h = hs') := by
  subst hl
  exact Eff.storeA hx hy hm h1 (Nat.le_of_ble_eq_true ho)
end
end V
end Go

/- VD: regions with one store at their end, in which two effects may come up in either order. -/
namespace Go
namespace V
open Go.RowKit
set_option linter.unusedVariables false
set_option linter.unusedSimpArgs false

/-- number i comes up now -/
def JT (P : Program) (n : Nat) (w0 : World) (own : List Nat) (ops : Array Oper) (F : Hp) (z : Nat) (m : Nat) (listed : Array Bool) (e : Env) (hs : Hp) (K : Env → Hp → Prop) (i : Nat) : Prop :=
  ∀ a w, Rep n a e → Sat w0 own hs w → (listed.getD z true = false → F ⊆ hs) →
    wpOp P ops (QN fun a' w' => ∃ e' hs', Rep n a' e' ∧ Sat w0 own hs' w' ∧ K e' hs') i (fun a' w' => ((listed.setIfInBounds i true).getD z true = false → Keeps w0 own F w') ∧ Upto P ops (QN fun a' w' => ∃ e' hs', Rep n a' e' ∧ Sat w0 own hs' w' ∧ K e' hs') (Keeps w0 own F) z m (listed.setIfInBounds i true) a' w') a w
section
variable {P : Program} {n : Nat} {w0 : World} {own : List Nat} {e : Env} {hs F : Hp} {K : Env → Hp → Prop} {z m : Nat} {listed : Array Bool}
variable {d : Nat} {ty : TypeId} {pos : String} {aft : Array Edge} {g : Option (Nat × Bool)}
theorem JZ.two {ops : Array Oper} (i j : Nat) (hr : (Region.ready .any ops listed == [i, j]) = true) (h1 : JT P n w0 own ops F z m listed e hs K i) (h2 : JT P n w0 own ops F z m listed e hs K j) : JZ P n w0 own ops F z (m + 1) listed e hs K := by
  intro a w hr' s hf
  have hr : Region.ready .any ops listed = [i, j] := by simpa using hr
  refine ⟨fun h0 => (by rw [hr] at h0; cases h0), fun k hk => ?_⟩
  rw [hr] at hk
  simp only [List.mem_cons, List.not_mem_nil, or_false] at hk
  rcases hk with rfl | rfl
  · exact h1 a w hr' s hf
  · exact h2 a w hr' s hf
theorem JT.ef {ops : Array Oper} {i : Nat} {op : Op} {R : Value → Hp → Prop} (hi : ops[i]? = some ⟨some d, op, ty, pos, aft, g⟩) (h : Eff P n w0 own e hs op R) (hF : ∀ v hs', R v hs' → F ⊆ hs → F ⊆ hs')
    (k : ∀ v hs', R v hs' → JZ P n w0 own ops F z m (listed.setIfInBounds i true) ((d, v) :: e) hs' K) (hdn : Nat.blt d n = true := by rfl) (hg : wantB ops e g = some true := by rfl) : JT P n w0 own ops F z m listed e hs K i := by
  intro a w hr s hf
  unfold wpOp
  simp only [hi]
  rw [if_pos (wanted_of hr hg)]
  have hsub : ∀ v hs', R v hs' → (listed.setIfInBounds i true).getD z true = false → F ⊆ hs' := by
    intro v hs' r hz'
    have hzj : z ≠ i := by
      intro e
      subst e
      rcases Nat.lt_or_ge z listed.size with h' | h'
      · simp [h'] at hz'
      · simp [h'] at hz'
    rw [getD_set_ne true (Ne.symm hzj)] at hz'
    exact hF v hs' r (hf hz')
  exact .inl (h a w _ _ _ _ _ _ _ hr s fun v hs' w' r s' => ⟨fun hz' => ⟨hs', s', hsub v hs' r hz'⟩, k v hs' r _ _ (hr.put (Nat.le_of_ble_eq_true hdn) v) s' (hsub v hs' r)⟩)
/-- the first operations, in an order of ours; then by hand -/
theorem JC.drawW {id : Nat} {Q : Post} {l : List Oper} (z : Nat) (is : List Nat) (F : Hp) (hF : F ⊆ hs) (hm : P.follows .mixedOrders = true)
    (hB : (ordZ l.toArray z (pickL l is) is (Array.replicate l.length false) && Nat.beq (pickL l is).length is.length && Nat.ble is.length l.length && Nat.blt z l.length) = true)
    (h : JQ P n w0 own l.toArray F z false (pickL l is) e hs (fun _ e' hs' => JZ P n w0 own l.toArray F z (l.length - is.length) (marks_ is (Array.replicate l.length false)) e' hs' (fun e hs => Q .normal e hs))) : JC P n w0 own (.region id l.toArray true) e hs Q := by
  rw [Bool.and_eq_true, Bool.and_eq_true, Bool.and_eq_true] at hB
  obtain ⟨⟨⟨h1, h2⟩, h3⟩, h4⟩ := hB
  have h2 := Nat.eq_of_beq_eq_true h2
  have h3 := Nat.le_of_ble_eq_true h3
  have h4 : z < l.length := Nat.le_of_ble_eq_true h4
  refine JC.drawZ z F hF hm ?_
  have := h (l.length - is.length) is (Array.replicate l.length false) (fun e hs => Q .normal e hs) (pickL_nums' is h2) h1 (by simp) (by simp [h4]) (fun _ => hF) (fun _ e' hs' _ _ ke => ke)
  rw [h2, show is.length + (l.length - is.length) = l.length by omega] at this
  simpa using this
/-- the others, in an order of ours -/
theorem JZ.run {l : List Oper} (is : List Nat) (hF : F ⊆ hs) (hB : (ordZ l.toArray z (pickL l is) is listed && doneB l.toArray (marks_ is listed) && Nat.beq (pickL l is).length is.length && Nat.beq is.length m && Nat.beq listed.size l.length && !listed.getD z true) = true)
    (h : JQ P n w0 own l.toArray F z false (pickL l is) e hs (fun _ e hs => K e hs)) : JZ P n w0 own l.toArray F z m listed e hs K := by
  simp only [Bool.and_eq_true] at hB
  obtain ⟨⟨⟨⟨⟨h1, h2⟩, h3⟩, h4⟩, h5⟩, h6⟩ := hB
  have h3 := Nat.eq_of_beq_eq_true h3
  have h4 := Nat.eq_of_beq_eq_true h4
  have h5 := Nat.eq_of_beq_eq_true h5
  have := h 0 is listed K (pickL_nums' is h3) h1 (by simpa using h5) (by simpa using h6) (fun _ => hF) (fun _ e' hs' _ _ ke => JZ.done h2 ke)
  rw [h3, h4] at this
  simpa using this
end
end V
end Go

/- VE: drawn regions in which blocks are let go. -/
namespace Go
namespace V
open Go.RowKit
set_option linter.unusedVariables false
section
variable {P : Program} {n : Nat} {w0 : World} {own : List Nat} {e : Env} {hs hs2 F : Hp} {ops : Array Oper} {l : List Oper} {K : Env → Hp → Prop}
/-- some of what lies there is let go -/
theorem JK.heap (k : ∀ w, Sat w0 own hs w → Sat w0 own hs2 w) (hF : F ⊆ hs → F ⊆ hs2) (h : JK P n w0 own ops F l e hs2 K) : JK P n w0 own ops F l e hs K :=
  fun m is listed Z h1 h2 h3 hz a w hr s hf => h m is listed Z h1 h2 (hF h3) hz a w hr (k w s) (hF hf)
theorem JK.dropA {h : Hp} (hF : F ⊆ hs) (k : JK P n w0 own ops F l e hs K) : JK P n w0 own ops F l e (h ++ hs) K :=
  JK.heap (fun w s => s.sub (List.sublist_append_right _ _)) (fun _ => hF) k
end
end V
end Go

/- VYN: as VY, where a check against nil may come up at any time too. -/
namespace Go
namespace V
open Go.RowKit
set_option linter.unusedVariables false
set_option linter.unusedSimpArgs false
/-- does the operation touch no memory? -/
def noMemN (o : Oper) : Bool := match o.op with
  | .move _ => true
  | .indexAddr .. => true
  | .fieldAddr .. => true
  | .binOp .. => true
  | .extract .. => true
  | .nilCheck _ => true
  | _ => false
section
variable {P : Program} {n : Nat} {w0 : World} {own : List Nat} {e : Env} {hs F : Hp} {ops : Array Oper} {K : Env → Hp → Prop} {z m : Nat} {listed : Array Bool}
variable {d : Nat} {ty : TypeId} {pos : String} {aft : Array Edge} {g : Option (Nat × Bool)}
theorem JZ.xN {op : Op} {v : Value} (i : Nat) (hi : ops[i]? = some ⟨some d, op, ty, pos, aft, g⟩) (hf : firstB ops listed i = true) (hzi : z ≠ i)
    (h : ∀ w, Val P n w [] e [] op v) (k : JZ P n w0 own ops F z m (listed.setIfInBounds i true) ((d, v) :: e) hs K)
    (hdn : Nat.blt d n = true := by rfl) (hg : wantB ops e g = some true := by rfl) : JZ P n w0 own ops F z (m + 1) listed e hs K := by
  intro a w hr s hF
  unfold firstB at hf
  rw [Bool.and_eq_true, Bool.and_eq_true] at hf
  obtain ⟨⟨f1, f2⟩, f3⟩ := hf
  exact Upto.firstX hi (Region.noSelect_spec f1) (fun _ _ _ h => h) hzi m listed a w (Region.free_spec hi f2) (by simpa using f3)
    (.inl ⟨wanted_of hr hg, fun w' _ => h w' a w' _ _ _ _ _ hr (Sat.begin0 w')⟩) (fun hz => ⟨hs, s, hF hz⟩)
    (k _ _ (hr.put (Nat.le_of_ble_eq_true hdn) v) s fun hz => hF (by rw [getD_set_ne true (Ne.symm hzi)] at hz; exact hz))
end

def ordN (ops : Array Oper) (z : Nat) : List Oper → List Nat → Array Bool → Bool
  | [], [], _ => true
  | o :: l, i :: is, listed => (onlyB ops listed i || (!isEff o && firstZ ops z listed i) || (noMemN o && firstB ops listed i && !Nat.beq z i)) && (o.dst.isSome || Nat.beq i z || listed.getD z true) && ordN ops z l is (listed.setIfInBounds i true)
  | _, _, _ => false
/-- the operations in their order; 'late': the first store has been -/
def JN (P : Program) (n : Nat) (w0 : World) (own : List Nat) (ops : Array Oper) (F : Hp) (z : Nat) (late : Bool) (l : List Oper) (e : Env) (hs : Hp) (K : Bool → Env → Hp → Prop) : Prop :=
  ∀ (m : Nat) (is : List Nat) (listed : Array Bool) (Z : Env → Hp → Prop), Nums ops l is → ordN ops z l is listed = true → listed.size = ops.size → listed.getD z true = late → (late = false → F ⊆ hs) →
    (∀ late' e' hs', (marks_ is listed).getD z true = late' → (late' = false → F ⊆ hs') → K late' e' hs' → JZ P n w0 own ops F z m (marks_ is listed) e' hs' Z) → JZ P n w0 own ops F z (l.length + m) listed e hs Z

theorem eff_memN {o : Oper} (h : isEff o = true) : noMemN o = false := by
  unfold isEff at h; unfold noMemN
  split <;> simp_all
section
variable {P : Program} {n : Nat} {w0 : World} {own : List Nat} {e : Env} {hs F : Hp} {ops : Array Oper} {rest l : List Oper} {K : Bool → Env → Hp → Prop} {z : Nat} {late : Bool} {m : Nat} {listed : Array Bool} {Z : Env → Hp → Prop}
variable {d : Nat} {ty : TypeId} {pos : String} {aft : Array Edge} {g : Option (Nat × Bool)}

theorem JC.drawN {id : Nat} {Q : Post} {l : List Oper} (z : Nat) (is : List Nat) (F : Hp) (hF : F ⊆ hs) (hm : P.follows .mixedOrders = true)
    (hB : (ordN l.toArray z (pickL l is) is (Array.replicate l.length false) && doneB l.toArray (marks_ is (Array.replicate l.length false)) && Nat.beq (pickL l is).length l.length && Nat.beq is.length l.length && Nat.blt z l.length) = true)
    (h : JN P n w0 own l.toArray F z false (pickL l is) e hs (fun _ e' hs' => Q .normal e' hs')) : JC P n w0 own (.region id l.toArray true) e hs Q := by
  rw [Bool.and_eq_true, Bool.and_eq_true, Bool.and_eq_true, Bool.and_eq_true] at hB
  obtain ⟨⟨⟨⟨h1, h2⟩, h3⟩, h4⟩, h5⟩ := hB
  have h3 := Nat.eq_of_beq_eq_true h3
  have h4 := Nat.eq_of_beq_eq_true h4
  have h5 : z < l.length := Nat.le_of_ble_eq_true h5
  have key : ∀ (is : List Nat), (pickL l is).length = is.length → Nums l.toArray (pickL l is) is := by
    intro is
    induction is with
    | nil => intro _; trivial
    | cons i is ih =>
      intro hl
      unfold pickL at hl ⊢
      cases ho : l[i]? with
      | none => rw [ho] at hl; simp at hl
      | some o =>
        rw [ho] at hl
        simp only at hl ⊢
        exact ⟨by simpa using ho, ih (by simpa using hl)⟩
  refine JC.drawZ z F hF hm ?_
  have := h 0 is (Array.replicate l.length false) (fun e hs => Q .normal e hs) (key _ (by omega)) h1 (by simp) (by simp [h5]) (fun _ => hF) (fun _ e' hs' _ _ ke => JZ.done h2 ke)
  rw [h3] at this
  simpa using this
theorem JN.nil (h : K late e hs) : JN P n w0 own ops F z late [] e hs K := fun m is listed Z hn _ hsz hl hF hz => by
  cases is with
  | nil => rw [List.length_nil, Nat.zero_add]; exact hz late e hs hl hF h
  | cons i is => exact hn.elim
theorem JN.mono {K' : Bool → Env → Hp → Prop} (h : JN P n w0 own ops F z late l e hs K) (kk : ∀ b e hs, K b e hs → K' b e hs) : JN P n w0 own ops F z late l e hs K' :=
  fun m k listed Z h1 h2 h3 h4 h5 hz => h m k listed Z h1 h2 h3 h4 h5 fun b e' hs' f1 f ke => hz b e' hs' f1 f (kk b e' hs' ke)
theorem JN.sub {e2 : Env} (hs' : Sub e2 e) (h : JN P n w0 own ops F z late l e2 hs K) : JN P n w0 own ops F z late l e hs K :=
  fun m k listed Z h1 h2 h3 h4 h5 hz a w hr s hF => h m k listed Z h1 h2 h3 h4 h5 hz a w (hr.sub hs') s hF
theorem JN.splitB {t : Nat} {b : Bool} (ht : get e t = some (.bool b)) (h1 : b = true → JN P n w0 own ops F z late l ((t, .bool true) :: e) hs K)
    (h0 : b = false → JN P n w0 own ops F z late l ((t, .bool false) :: e) hs K) : JN P n w0 own ops F z late l e hs K := by
  cases b
  · exact JN.sub (sub_same' ht) (h0 rfl)
  · exact JN.sub (sub_same' ht) (h1 rfl)
/-- a value, ahead of the first store -/
theorem JN.v {op : Op} {v : Value} (h : ∀ hs', F ⊆ hs' → Val P n w0 own e hs' op v) (kk : JN P n w0 own ops F z false rest ((d, v) :: e) hs K) (hdn : Nat.blt d n = true := by rfl) (hg : wantB ops e g = some true := by rfl)
    (hzo : ((ops[z]?).map (·.dst.isNone)) = some true := by rfl) (hx : noMemN ⟨some d, op, ty, pos, aft, g⟩ = false := by rfl) :
    JN P n w0 own ops F z false (⟨some d, op, ty, pos, aft, g⟩ :: rest) e hs K := by
  intro m is listed Z h1 h2 h3 h4 h5 hz
  cases is with
  | nil => exact h1.elim
  | cons k is =>
  obtain ⟨h0, h1⟩ := h1
  unfold ordN at h2
  rw [Bool.and_eq_true, Bool.and_eq_true] at h2
  obtain ⟨⟨h2a, _⟩, h2b⟩ := h2
  rw [hx, Bool.false_and, Bool.false_and, Bool.or_false, Bool.or_eq_true, Bool.and_eq_true] at h2a
  have h2 := And.intro h2a h2b
  have hkz : k ≠ z := by rintro rfl; rw [h0] at hzo; simp at hzo
  have tail : JZ P n w0 own ops F z (rest.length + m) (listed.setIfInBounds k true) ((d, v) :: e) hs Z := kk m is _ Z h1 h2.2 (by simpa using h3) (set_lt h4 (.inr hkz)) h5 hz
  rw [show (⟨some d, op, ty, pos, aft, g⟩ :: rest : List Oper).length + m = (rest.length + m) + 1 from by simp; omega]
  rcases h2.1 with ho | ⟨_, hf⟩
  · exact JZ.v1 k h0 ho (h hs (h5 rfl)) tail rfl hdn hg
  · exact JZ.v k h0 hf h tail hdn hg
/-- a value behind it -/
theorem JN.w {op : Op} {v : Value} (h : Val P n w0 own e hs op v) (kk : JN P n w0 own ops F z true rest ((d, v) :: e) hs K) (hdn : Nat.blt d n = true := by rfl) (hg : wantB ops e g = some true := by rfl) (hx : noMemN ⟨some d, op, ty, pos, aft, g⟩ = false := by rfl) :
    JN P n w0 own ops F z true (⟨some d, op, ty, pos, aft, g⟩ :: rest) e hs K := by
  intro m is listed Z h1 h2 h3 h4 h5 hz
  cases is with
  | nil => exact h1.elim
  | cons k is =>
  obtain ⟨h0, h1⟩ := h1
  unfold ordN at h2
  rw [Bool.and_eq_true, Bool.and_eq_true] at h2
  obtain ⟨⟨h2a, _⟩, h2b⟩ := h2
  rw [hx, Bool.false_and, Bool.false_and, Bool.or_false, Bool.or_eq_true, Bool.and_eq_true] at h2a
  have h2 := And.intro h2a h2b
  have tail : JZ P n w0 own ops F z (rest.length + m) (listed.setIfInBounds k true) ((d, v) :: e) hs Z := kk m is _ Z h1 h2.2 (by simpa using h3) (set_lt h4 (.inl rfl)) (fun h => by cases h) hz
  rw [show (⟨some d, op, ty, pos, aft, g⟩ :: rest : List Oper).length + m = (rest.length + m) + 1 from by simp; omega]
  rcases h2.1 with ho | ⟨_, hf⟩
  · exact JZ.v1 k h0 ho h tail rfl hdn hg
  · unfold firstZ at hf
    rw [h4] at hf
    simp at hf
/-- what touches no memory, at any time -/
theorem JN.x {op : Op} {v : Value} (h : ∀ w0 own hs, Val P n w0 own e hs op v) (kk : JN P n w0 own ops F z late rest ((d, v) :: e) hs K) (hdn : Nat.blt d n = true := by rfl) (hg : wantB ops e g = some true := by rfl)
    (hzo : ((ops[z]?).map (·.dst.isNone)) = some true := by rfl) :
    JN P n w0 own ops F z late (⟨some d, op, ty, pos, aft, g⟩ :: rest) e hs K := by
  intro m is listed Z h1 h2 h3 h4 h5 hz
  cases is with
  | nil => exact h1.elim
  | cons k is =>
  obtain ⟨h0, h1⟩ := h1
  unfold ordN at h2
  rw [Bool.and_eq_true, Bool.and_eq_true] at h2
  obtain ⟨⟨h2a, _⟩, h2b⟩ := h2
  rw [Bool.or_eq_true, Bool.or_eq_true, Bool.and_eq_true, Bool.and_eq_true, Bool.and_eq_true] at h2a
  have hkz : k ≠ z := by rintro rfl; rw [h0] at hzo; simp at hzo
  have tail : JZ P n w0 own ops F z (rest.length + m) (listed.setIfInBounds k true) ((d, v) :: e) hs Z := kk m is _ Z h1 h2b (by simpa using h3) (set_lt h4 (.inr hkz)) h5 hz
  rw [show (⟨some d, op, ty, pos, aft, g⟩ :: rest : List Oper).length + m = (rest.length + m) + 1 from by simp; omega]
  rcases h2a with (ho | ⟨_, hf⟩) | ⟨⟨_, hf⟩, _⟩
  · exact JZ.v1 k h0 ho (h _ _ _) tail rfl hdn hg
  · exact JZ.v k h0 hf (fun hs' _ => h _ _ _) tail hdn hg
  · exact JZ.xN k h0 hf (Ne.symm hkz) (fun w => h _ _ _) tail hdn hg
/-- what works on memory, and leaves a value -/
theorem JN.ef {op : Op} {R : Value → Hp → Prop} (h : Eff P n w0 own e hs op R) (hF : ∀ v hs', R v hs' → F ⊆ hs → F ⊆ hs') (kk : ∀ v hs', R v hs' → JN P n w0 own ops F z late rest ((d, v) :: e) hs' K)
    (hE : isEff ⟨some d, op, ty, pos, aft, g⟩ = true := by rfl) (hdn : Nat.blt d n = true := by rfl) (hg : wantB ops e g = some true := by rfl) (hzo : ((ops[z]?).map (·.dst.isNone)) = some true := by rfl) : JN P n w0 own ops F z late (⟨some d, op, ty, pos, aft, g⟩ :: rest) e hs K := by
  intro m is listed Z h1 h2 h3 h4 h5 hz
  cases is with
  | nil => exact h1.elim
  | cons k is =>
  obtain ⟨h0, h1⟩ := h1
  unfold ordN at h2
  rw [Bool.and_eq_true, Bool.and_eq_true] at h2
  obtain ⟨⟨h2a, _⟩, h2b⟩ := h2
  rw [Bool.or_eq_true, Bool.or_eq_true, hE, eff_memN hE] at h2a
  have h2 := And.intro h2a h2b
  have hkz : k ≠ z := by rintro rfl; rw [h0] at hzo; simp at hzo
  have ho : onlyB ops listed k = true := by
    rcases h2.1 with (h | h) | h
    · exact h
    · simp at h
    · simp at h
  rw [show (⟨some d, op, ty, pos, aft, g⟩ :: rest : List Oper).length + m = (rest.length + m) + 1 from by simp; omega]
  exact JZ.ef k h0 ho h (fun v hs' r => kk v hs' r m is _ Z h1 h2.2 (by simpa using h3) (set_lt h4 (.inr hkz)) (fun e => hF v hs' r (h5 e)) hz) hF rfl hdn hg
/-- the first store -/
theorem JN.st {op : Op} {hs' : Hp} (h : Eff P n w0 own e hs op (fun v h => v = undef ∧ h = hs')) (kk : JN P n w0 own ops F z true rest e hs' K)
    (hE : isEff ⟨none, op, ty, pos, aft, g⟩ = true := by rfl) (hg : wantB ops e g = some true := by rfl) : JN P n w0 own ops F z false (⟨none, op, ty, pos, aft, g⟩ :: rest) e hs K := by
  intro m is listed Z h1 h2 h3 h4 h5 hz
  cases is with
  | nil => exact h1.elim
  | cons k is =>
  obtain ⟨h0, h1⟩ := h1
  unfold ordN at h2
  rw [Bool.and_eq_true, Bool.and_eq_true] at h2
  obtain ⟨⟨h2a, h2c⟩, h2b⟩ := h2
  rw [Bool.or_eq_true, Bool.or_eq_true, hE, eff_memN hE] at h2a
  have h2 := And.intro h2a h2b
  obtain rfl : k = z := by
    rw [h4] at h2c
    exact Nat.eq_of_beq_eq_true (by simpa using h2c)
  have ho : onlyB ops listed k = true := by
    rcases h2.1 with (h | h) | h
    · exact h
    · simp at h
    · simp at h
  have hk : k < listed.size := by rw [h3]; exact (Array.getElem?_eq_some_iff.1 h0).1
  rw [show (⟨none, op, ty, pos, aft, g⟩ :: rest : List Oper).length + m = (rest.length + m) + 1 from by simp; omega]
  refine JZ.st h0 ho (Nat.ble_eq_true_of_le hk) h (kk m is _ Z h1 h2.2 (by simpa using h3) (by simp [hk]) (fun h => by cases h) hz) hg
/-- a store behind it -/
theorem JN.st2 {op : Op} {hs' : Hp} (h : Eff P n w0 own e hs op (fun v h => v = undef ∧ h = hs')) (kk : JN P n w0 own ops F z true rest e hs' K)
    (hE : isEff ⟨none, op, ty, pos, aft, g⟩ = true := by rfl) (hg : wantB ops e g = some true := by rfl) : JN P n w0 own ops F z true (⟨none, op, ty, pos, aft, g⟩ :: rest) e hs K := by
  intro m is listed Z h1 h2 h3 h4 h5 hz
  cases is with
  | nil => exact h1.elim
  | cons k is =>
  obtain ⟨h0, h1⟩ := h1
  unfold ordN at h2
  rw [Bool.and_eq_true, Bool.and_eq_true] at h2
  obtain ⟨⟨h2a, h2c⟩, h2b⟩ := h2
  rw [Bool.or_eq_true, Bool.or_eq_true, hE, eff_memN hE] at h2a
  have h2 := And.intro h2a h2b
  have ho : onlyB ops listed k = true := by
    rcases h2.1 with (h | h) | h
    · exact h
    · simp at h
    · simp at h
  rw [show (⟨none, op, ty, pos, aft, g⟩ :: rest : List Oper).length + m = (rest.length + m) + 1 from by simp; omega]
  have hl := set_lt (k := k) (listed := listed) (z := z) h4 (.inl rfl)
  rcases Decidable.em (z = k) with rfl | hne
  · -- z has been: it cannot come up again
    have hr : Region.ready .any ops listed = [z] := by simpa [onlyB] using ho
    have hm : z ∈ Region.ready .any ops listed := by rw [hr]; simp
    obtain ⟨hu, _⟩ := mem_ready.1 hm
    have hk : z < listed.size := by rw [h3]; exact (Array.getElem?_eq_some_iff.1 h0).1
    simp [hk] at hu h4
    rw [hu] at h4; cases h4
  · exact JZ.st2 k h0 ho h4 (by cases h : Nat.beq z k; rfl; exact absurd (Nat.eq_of_beq_eq_true h) hne) h (kk m is _ Z h1 h2.2 (by simpa using h3) hl (fun h => by cases h) hz) hg
end
section
variable {P : Program} {n : Nat} {w0 : World} {own : List Nat} {e : Env} {hs F : Hp} {ops : Array Oper} {K : Bool → Env → Hp → Prop} {z : Nat} {late : Bool} {rest : List Oper}
variable {d : Nat} {ty : TypeId} {pos : String} {aft : Array Edge} {g : Option (Nat × Bool)}
/-- a call that leaves a value alone -/
theorem JQ.pc {f : Nat} {fo : Operand} {args : List Operand} {at_ : Array TypeId} {cap vals : List Value} {v : Value}
    (hf : ev e fo = some (.func (.func f) #[] ⟨cap⟩)) (ha : evs e args = some vals) (hc : ∀ w, Sat w0 own hs w → Is P f (vals ++ cap) w v) (kk : JQ P n w0 own ops F z late rest ((d, v) :: e) hs K) [hg : FnT P f]
    (hdn : Nat.blt d n = true := by rfl) (hw : wantB ops e g = some true := by rfl) (hzo : ((ops[z]?).map (·.dst.isNone)) = some true := by rfl) :
    JQ P n w0 own ops F z late (⟨some d, .call { callee := .value fo, args := ⟨args⟩, argTypes := at_ }, ty, pos, aft, g⟩ :: rest) e hs K :=
  JQ.ef (.call0 hf ha hc) (fun _ _ ⟨_, ⟨_, h2⟩, h3⟩ f => by subst h2; subst h3; exact f) (fun _ _ ⟨_, ⟨h1, h2⟩, h3⟩ => by subst h1; subst h2; subst h3; exact kk) rfl hdn hw hzo
theorem JN.pc {f : Nat} {fo : Operand} {args : List Operand} {at_ : Array TypeId} {cap vals : List Value} {v : Value}
    (hf : ev e fo = some (.func (.func f) #[] ⟨cap⟩)) (ha : evs e args = some vals) (hc : ∀ w, Sat w0 own hs w → Is P f (vals ++ cap) w v) (kk : JN P n w0 own ops F z late rest ((d, v) :: e) hs K) [hg : FnT P f]
    (hdn : Nat.blt d n = true := by rfl) (hw : wantB ops e g = some true := by rfl) (hzo : ((ops[z]?).map (·.dst.isNone)) = some true := by rfl) :
    JN P n w0 own ops F z late (⟨some d, .call { callee := .value fo, args := ⟨args⟩, argTypes := at_ }, ty, pos, aft, g⟩ :: rest) e hs K :=
  JN.ef (.call0 hf ha hc) (fun _ _ ⟨_, ⟨_, h2⟩, h3⟩ f => by subst h2; subst h3; exact f) (fun _ _ ⟨_, ⟨h1, h2⟩, h3⟩ => by subst h1; subst h2; subst h3; exact kk) rfl hdn hw hzo
end
end V
end Go

/- YtcmoeoghfckmpaaTy: the facts on types and functions that V's rules ask for: written by ty.py. -/
namespace Go.Proofs.Ytcmoeoghfckmpaa
open Go.V
instance : Sc Try.prog 3 := Sc.of (by kernel_rfl)
instance : Sz Try.prog 3 1 := Sz.of (by kernel_rfl)
instance : Zr Try.prog 3 ([.int .i64 0]) := Zr.of (v := .int .i64 0) (by kernel_rfl) rfl
instance : ZrV Try.prog 3 (.int .i64 0) := ZrV.of (by kernel_rfl)
instance : El Try.prog 3 1 8 ([.int .i64 0]) := El.of (v := .int .i64 0) (by kernel_rfl) (by kernel_rfl) rfl rfl
instance : IntT Try.prog 3 .i64 := ⟨by kernel_rfl⟩
instance : Sc Try.prog 4 := Sc.of (by kernel_rfl)
instance : Sz Try.prog 4 1 := Sz.of (by kernel_rfl)
instance : Zr Try.prog 4 ([.bool false]) := Zr.of (v := .bool false) (by kernel_rfl) rfl
instance : ZrV Try.prog 4 (.bool false) := ZrV.of (by kernel_rfl)
instance : BoolT Try.prog 4 := ⟨by kernel_rfl⟩
instance : Sc Try.prog 22 := Sc.of (by kernel_rfl)
instance : Sz Try.prog 22 1 := Sz.of (by kernel_rfl)
instance : Zr Try.prog 22 ([.slice none 0 0]) := Zr.of (v := .slice none 0 0) (by kernel_rfl) rfl
instance : ZrV Try.prog 22 (.slice none 0 0) := ZrV.of (by kernel_rfl)
instance : SliceT Try.prog 22 3 := ⟨by kernel_rfl⟩
instance : Sc Try.prog 23 := Sc.of (by kernel_rfl)
instance : Sz Try.prog 23 1 := Sz.of (by kernel_rfl)
instance : Zr Try.prog 23 ([.pointer none]) := Zr.of (v := .pointer none) (by kernel_rfl) rfl
instance : ZrV Try.prog 23 (.pointer none) := ZrV.of (by kernel_rfl)
instance : PtrT Try.prog 23 26 := ⟨by kernel_rfl⟩
instance : Sc Try.prog 24 := Sc.of (by kernel_rfl)
instance : Sz Try.prog 24 1 := Sz.of (by kernel_rfl)
instance : Zr Try.prog 24 ([.pointer none]) := Zr.of (v := .pointer none) (by kernel_rfl) rfl
instance : ZrV Try.prog 24 (.pointer none) := ZrV.of (by kernel_rfl)
instance : PtrT Try.prog 24 63 := ⟨by kernel_rfl⟩
instance : Ag Try.prog 26 1 := Ag.of (by kernel_rfl)
instance : Sz Try.prog 26 1 := Sz.of (by kernel_rfl)
instance : Zr Try.prog 26 ([.pointer none]) := Zr.of (v := .agg ⟨[.pointer none]⟩) (by kernel_rfl) rfl
instance : ZrV Try.prog 26 (.agg ⟨[.pointer none]⟩) := ZrV.of (by kernel_rfl)
instance : StT Try.prog 26 [(0, 1)] ([.pointer none]) := StT.of (by kernel_rfl) (by kernel_rfl)
instance : Sc Try.prog 35 := Sc.of (by kernel_rfl)
instance : Sz Try.prog 35 1 := Sz.of (by kernel_rfl)
instance : Zr Try.prog 35 ([.map none]) := Zr.of (v := .map none) (by kernel_rfl) rfl
instance : ZrV Try.prog 35 (.map none) := ZrV.of (by kernel_rfl)
instance : MapT Try.prog 35 3 3 := ⟨by kernel_rfl⟩
instance : Sc Try.prog 39 := Sc.of (by kernel_rfl)
instance : Sz Try.prog 39 1 := Sz.of (by kernel_rfl)
instance : Zr Try.prog 39 ([.slice none 0 0]) := Zr.of (v := .slice none 0 0) (by kernel_rfl) rfl
instance : ZrV Try.prog 39 (.slice none 0 0) := ZrV.of (by kernel_rfl)
instance : SliceT Try.prog 39 50 := ⟨by kernel_rfl⟩
instance : Sc Try.prog 40 := Sc.of (by kernel_rfl)
instance : Sz Try.prog 40 1 := Sz.of (by kernel_rfl)
instance : Zr Try.prog 40 ([.pointer none]) := Zr.of (v := .pointer none) (by kernel_rfl) rfl
instance : ZrV Try.prog 40 (.pointer none) := ZrV.of (by kernel_rfl)
instance : PtrT Try.prog 40 45 := ⟨by kernel_rfl⟩
instance : Ag Try.prog 41 2 := Ag.of (by kernel_rfl)
instance : Sz Try.prog 41 2 := Sz.of (by kernel_rfl)
instance : Zr Try.prog 41 ([.pointer none, .pointer none]) := Zr.of (v := .agg ⟨[.pointer none, .pointer none]⟩) (by kernel_rfl) rfl
instance : ZrV Try.prog 41 (.agg ⟨[.pointer none, .pointer none]⟩) := ZrV.of (by kernel_rfl)
instance : ArrT Try.prog 41 2 23 := ⟨by kernel_rfl⟩
instance : Sc Try.prog 42 := Sc.of (by kernel_rfl)
instance : Sz Try.prog 42 1 := Sz.of (by kernel_rfl)
instance : Zr Try.prog 42 ([.pointer none]) := Zr.of (v := .pointer none) (by kernel_rfl) rfl
instance : ZrV Try.prog 42 (.pointer none) := ZrV.of (by kernel_rfl)
instance : PtrT Try.prog 42 47 := ⟨by kernel_rfl⟩
instance : Ag Try.prog 43 2 := Ag.of (by kernel_rfl)
instance : Sz Try.prog 43 2 := Sz.of (by kernel_rfl)
instance : Zr Try.prog 43 ([.pointer none, .pointer none]) := Zr.of (v := .agg ⟨[.pointer none, .pointer none]⟩) (by kernel_rfl) rfl
instance : ZrV Try.prog 43 (.agg ⟨[.pointer none, .pointer none]⟩) := ZrV.of (by kernel_rfl)
instance : ArrT Try.prog 43 2 42 := ⟨by kernel_rfl⟩
instance : Ag Try.prog 45 4 := Ag.of (by kernel_rfl)
instance : Sz Try.prog 45 4 := Sz.of (by kernel_rfl)
instance : Zr Try.prog 45 ([.pointer none, .pointer none, .pointer none, .pointer none]) := Zr.of (v := .agg ⟨[.pointer none, .pointer none, .pointer none, .pointer none]⟩) (by kernel_rfl) rfl
instance : ZrV Try.prog 45 (.agg ⟨[.pointer none, .pointer none, .pointer none, .pointer none]⟩) := ZrV.of (by kernel_rfl)
instance : StT Try.prog 45 [(0, 2), (2, 2)] ([.pointer none, .pointer none, .pointer none, .pointer none]) := StT.of (by kernel_rfl) (by kernel_rfl)
instance : Ag Try.prog 47 2 := Ag.of (by kernel_rfl)
instance : Sz Try.prog 47 2 := Sz.of (by kernel_rfl)
instance : Zr Try.prog 47 ([.slice none 0 0, .slice none 0 0]) := Zr.of (v := .agg ⟨[.slice none 0 0, .slice none 0 0]⟩) (by kernel_rfl) rfl
instance : ZrV Try.prog 47 (.agg ⟨[.slice none 0 0, .slice none 0 0]⟩) := ZrV.of (by kernel_rfl)
instance : StT Try.prog 47 [(0, 1), (1, 1)] ([.slice none 0 0, .slice none 0 0]) := StT.of (by kernel_rfl) (by kernel_rfl)
instance : Ag Try.prog 50 4 := Ag.of (by kernel_rfl)
instance : Sz Try.prog 50 4 := Sz.of (by kernel_rfl)
instance : Zr Try.prog 50 ([.int .i64 0, .bool false, .int .i64 0, .int .i64 0]) := Zr.of (v := .agg ⟨[.int .i64 0, .bool false, .int .i64 0, .int .i64 0]⟩) (by kernel_rfl) rfl
instance : ZrV Try.prog 50 (.agg ⟨[.int .i64 0, .bool false, .int .i64 0, .int .i64 0]⟩) := ZrV.of (by kernel_rfl)
instance : EqT Try.prog 50 ([.i .i64, .b, .i .i64, .i .i64]) := ⟨by kernel_rfl, by kernel_rfl, by kernel_rfl⟩
instance : StT Try.prog 50 [(0, 1), (1, 1), (2, 1), (3, 1)] ([.int .i64 0, .bool false, .int .i64 0, .int .i64 0]) := StT.of (by kernel_rfl) (by kernel_rfl)
instance : El Try.prog 50 4 32 ([.int .i64 0, .bool false, .int .i64 0, .int .i64 0]) := El.of (v := .agg ⟨[.int .i64 0, .bool false, .int .i64 0, .int .i64 0]⟩) (by kernel_rfl) (by kernel_rfl) rfl rfl
instance : Sc Try.prog 54 := Sc.of (by kernel_rfl)
instance : Sz Try.prog 54 1 := Sz.of (by kernel_rfl)
instance : Zr Try.prog 54 ([.pointer none]) := Zr.of (v := .pointer none) (by kernel_rfl) rfl
instance : ZrV Try.prog 54 (.pointer none) := ZrV.of (by kernel_rfl)
instance : PtrT Try.prog 54 59 := ⟨by kernel_rfl⟩
instance : Sc Try.prog 56 := Sc.of (by kernel_rfl)
instance : Sz Try.prog 56 1 := Sz.of (by kernel_rfl)
instance : Zr Try.prog 56 ([.pointer none]) := Zr.of (v := .pointer none) (by kernel_rfl) rfl
instance : ZrV Try.prog 56 (.pointer none) := ZrV.of (by kernel_rfl)
instance : PtrT Try.prog 56 24 := ⟨by kernel_rfl⟩
instance : Ag Try.prog 57 96 := Ag.of (by kernel_rfl)
instance : Sz Try.prog 57 96 := Sz.of (by kernel_rfl)
instance : Zr Try.prog 57 (List.replicate 96 (.pointer none)) := Zr.of (v := .agg ⟨List.replicate 96 (.pointer none)⟩) (by kernel_rfl) rfl
instance : ZrV Try.prog 57 (.agg ⟨List.replicate 96 (.pointer none)⟩) := ZrV.of (by kernel_rfl)
instance : ArrT Try.prog 57 96 56 := ⟨by kernel_rfl⟩
instance : Ag Try.prog 59 97 := Ag.of (by kernel_rfl)
instance : Sz Try.prog 59 97 := Sz.of (by kernel_rfl)
instance : Zr Try.prog 59 ([.pointer none, .pointer none, .pointer none, .pointer none, .pointer none, .pointer none, .pointer none, .pointer none, .pointer none, .pointer none, .pointer none, .pointer none, .pointer none, .pointer none, .pointer none, .pointer none, .pointer none, .pointer none, .pointer none, .pointer none, .pointer none, .pointer none, .pointer none, .pointer none, .pointer none, .pointer none, .pointer none, .pointer none, .pointer none, .pointer none, .pointer none, .pointer none, .pointer none, .pointer none, .pointer none, .pointer none, .pointer none, .pointer none, .pointer none, .pointer none, .pointer none, .pointer none, .pointer none, .pointer none, .pointer none, .pointer none, .pointer none, .pointer none, .pointer none, .pointer none, .pointer none, .pointer none, .pointer none, .pointer none, .pointer none, .pointer none, .pointer none, .pointer none, .pointer none, .pointer none, .pointer none, .pointer none, .pointer none, .pointer none, .pointer none, .pointer none, .pointer none, .pointer none, .pointer none, .pointer none, .pointer none, .pointer none, .pointer none, .pointer none, .pointer none, .pointer none, .pointer none, .pointer none, .pointer none, .pointer none, .pointer none, .pointer none, .pointer none, .pointer none, .pointer none, .pointer none, .pointer none, .pointer none, .pointer none, .pointer none, .pointer none, .pointer none, .pointer none, .pointer none, .pointer none, .pointer none, .int .i64 0]) := Zr.of (v := .agg ⟨[.pointer none, .pointer none, .pointer none, .pointer none, .pointer none, .pointer none, .pointer none, .pointer none, .pointer none, .pointer none, .pointer none, .pointer none, .pointer none, .pointer none, .pointer none, .pointer none, .pointer none, .pointer none, .pointer none, .pointer none, .pointer none, .pointer none, .pointer none, .pointer none, .pointer none, .pointer none, .pointer none, .pointer none, .pointer none, .pointer none, .pointer none, .pointer none, .pointer none, .pointer none, .pointer none, .pointer none, .pointer none, .pointer none, .pointer none, .pointer none, .pointer none, .pointer none, .pointer none, .pointer none, .pointer none, .pointer none, .pointer none, .pointer none, .pointer none, .pointer none, .pointer none, .pointer none, .pointer none, .pointer none, .pointer none, .pointer none, .pointer none, .pointer none, .pointer none, .pointer none, .pointer none, .pointer none, .pointer none, .pointer none, .pointer none, .pointer none, .pointer none, .pointer none, .pointer none, .pointer none, .pointer none, .pointer none, .pointer none, .pointer none, .pointer none, .pointer none, .pointer none, .pointer none, .pointer none, .pointer none, .pointer none, .pointer none, .pointer none, .pointer none, .pointer none, .pointer none, .pointer none, .pointer none, .pointer none, .pointer none, .pointer none, .pointer none, .pointer none, .pointer none, .pointer none, .pointer none, .int .i64 0]⟩) (by kernel_rfl) rfl
instance : ZrV Try.prog 59 (.agg ⟨[.pointer none, .pointer none, .pointer none, .pointer none, .pointer none, .pointer none, .pointer none, .pointer none, .pointer none, .pointer none, .pointer none, .pointer none, .pointer none, .pointer none, .pointer none, .pointer none, .pointer none, .pointer none, .pointer none, .pointer none, .pointer none, .pointer none, .pointer none, .pointer none, .pointer none, .pointer none, .pointer none, .pointer none, .pointer none, .pointer none, .pointer none, .pointer none, .pointer none, .pointer none, .pointer none, .pointer none, .pointer none, .pointer none, .pointer none, .pointer none, .pointer none, .pointer none, .pointer none, .pointer none, .pointer none, .pointer none, .pointer none, .pointer none, .pointer none, .pointer none, .pointer none, .pointer none, .pointer none, .pointer none, .pointer none, .pointer none, .pointer none, .pointer none, .pointer none, .pointer none, .pointer none, .pointer none, .pointer none, .pointer none, .pointer none, .pointer none, .pointer none, .pointer none, .pointer none, .pointer none, .pointer none, .pointer none, .pointer none, .pointer none, .pointer none, .pointer none, .pointer none, .pointer none, .pointer none, .pointer none, .pointer none, .pointer none, .pointer none, .pointer none, .pointer none, .pointer none, .pointer none, .pointer none, .pointer none, .pointer none, .pointer none, .pointer none, .pointer none, .pointer none, .pointer none, .pointer none, .int .i64 0]⟩) := ZrV.of (by kernel_rfl)
instance : StT Try.prog 59 [(0, 96), (96, 1)] ([.pointer none, .pointer none, .pointer none, .pointer none, .pointer none, .pointer none, .pointer none, .pointer none, .pointer none, .pointer none, .pointer none, .pointer none, .pointer none, .pointer none, .pointer none, .pointer none, .pointer none, .pointer none, .pointer none, .pointer none, .pointer none, .pointer none, .pointer none, .pointer none, .pointer none, .pointer none, .pointer none, .pointer none, .pointer none, .pointer none, .pointer none, .pointer none, .pointer none, .pointer none, .pointer none, .pointer none, .pointer none, .pointer none, .pointer none, .pointer none, .pointer none, .pointer none, .pointer none, .pointer none, .pointer none, .pointer none, .pointer none, .pointer none, .pointer none, .pointer none, .pointer none, .pointer none, .pointer none, .pointer none, .pointer none, .pointer none, .pointer none, .pointer none, .pointer none, .pointer none, .pointer none, .pointer none, .pointer none, .pointer none, .pointer none, .pointer none, .pointer none, .pointer none, .pointer none, .pointer none, .pointer none, .pointer none, .pointer none, .pointer none, .pointer none, .pointer none, .pointer none, .pointer none, .pointer none, .pointer none, .pointer none, .pointer none, .pointer none, .pointer none, .pointer none, .pointer none, .pointer none, .pointer none, .pointer none, .pointer none, .pointer none, .pointer none, .pointer none, .pointer none, .pointer none, .pointer none, .int .i64 0]) := StT.of (by kernel_rfl) (by kernel_rfl)
instance : Ag Try.prog 61 2 := Ag.of (by kernel_rfl)
instance : Sz Try.prog 61 2 := Sz.of (by kernel_rfl)
instance : Zr Try.prog 61 ([.pointer none, .pointer none]) := Zr.of (v := .agg ⟨[.pointer none, .pointer none]⟩) (by kernel_rfl) rfl
instance : ZrV Try.prog 61 (.agg ⟨[.pointer none, .pointer none]⟩) := ZrV.of (by kernel_rfl)
instance : ArrT Try.prog 61 2 24 := ⟨by kernel_rfl⟩
instance : Ag Try.prog 63 6 := Ag.of (by kernel_rfl)
instance : Sz Try.prog 63 6 := Sz.of (by kernel_rfl)
instance : Zr Try.prog 63 ([.int .i64 0, .int .i64 0, .int .i64 0, .int .i64 0, .pointer none, .pointer none]) := Zr.of (v := .agg ⟨[.int .i64 0, .int .i64 0, .int .i64 0, .int .i64 0, .pointer none, .pointer none]⟩) (by kernel_rfl) rfl
instance : ZrV Try.prog 63 (.agg ⟨[.int .i64 0, .int .i64 0, .int .i64 0, .int .i64 0, .pointer none, .pointer none]⟩) := ZrV.of (by kernel_rfl)
instance : StT Try.prog 63 [(0, 1), (1, 1), (2, 1), (3, 1), (4, 2)] ([.int .i64 0, .int .i64 0, .int .i64 0, .int .i64 0, .pointer none, .pointer none]) := StT.of (by kernel_rfl) (by kernel_rfl)
instance : El Try.prog 63 6 48 ([.int .i64 0, .int .i64 0, .int .i64 0, .int .i64 0, .pointer none, .pointer none]) := El.of (v := .agg ⟨[.int .i64 0, .int .i64 0, .int .i64 0, .int .i64 0, .pointer none, .pointer none]⟩) (by kernel_rfl) (by kernel_rfl) rfl rfl
instance : Sc Try.prog 69 := Sc.of (by kernel_rfl)
instance : Sz Try.prog 69 1 := Sz.of (by kernel_rfl)
instance : Zr Try.prog 69 ([.nilFunc]) := Zr.of (v := .nilFunc) (by kernel_rfl) rfl
instance : ZrV Try.prog 69 (.nilFunc) := ZrV.of (by kernel_rfl)
instance : Sc Try.prog 72 := Sc.of (by kernel_rfl)
instance : Sz Try.prog 72 1 := Sz.of (by kernel_rfl)
instance : Zr Try.prog 72 ([.int .u64 0]) := Zr.of (v := .int .u64 0) (by kernel_rfl) rfl
instance : ZrV Try.prog 72 (.int .u64 0) := ZrV.of (by kernel_rfl)
instance : IntT Try.prog 72 .u64 := ⟨by kernel_rfl⟩
instance : Sc Try.prog 73 := Sc.of (by kernel_rfl)
instance : Sz Try.prog 73 1 := Sz.of (by kernel_rfl)
instance : Zr Try.prog 73 ([.int .u64 0]) := Zr.of (v := .int .u64 0) (by kernel_rfl) rfl
instance : ZrV Try.prog 73 (.int .u64 0) := ZrV.of (by kernel_rfl)
instance : IntT Try.prog 73 .u64 := ⟨by kernel_rfl⟩
instance : Sc Try.prog 75 := Sc.of (by kernel_rfl)
instance : Sz Try.prog 75 1 := Sz.of (by kernel_rfl)
instance : Zr Try.prog 75 ([.slice none 0 0]) := Zr.of (v := .slice none 0 0) (by kernel_rfl) rfl
instance : ZrV Try.prog 75 (.slice none 0 0) := ZrV.of (by kernel_rfl)
instance : SliceT Try.prog 75 63 := ⟨by kernel_rfl⟩
instance : FldV Try.prog 26 0 0 24 := FldV.of (by kernel_rfl)
instance : FldT Try.prog 26 0 0 := FldT.of (by kernel_rfl)
instance : FldV Try.prog 45 0 0 41 := FldV.of (by kernel_rfl)
instance : FldT Try.prog 45 0 0 := FldT.of (by kernel_rfl)
instance : FldV Try.prog 45 1 2 43 := FldV.of (by kernel_rfl)
instance : FldT Try.prog 45 1 2 := FldT.of (by kernel_rfl)
instance : FldV Try.prog 47 0 0 22 := FldV.of (by kernel_rfl)
instance : FldT Try.prog 47 0 0 := FldT.of (by kernel_rfl)
instance : FldV Try.prog 47 1 1 22 := FldV.of (by kernel_rfl)
instance : FldT Try.prog 47 1 1 := FldT.of (by kernel_rfl)
instance : FldV Try.prog 50 0 0 3 := FldV.of (by kernel_rfl)
instance : FldT Try.prog 50 0 0 := FldT.of (by kernel_rfl)
instance : FldV Try.prog 50 1 1 4 := FldV.of (by kernel_rfl)
instance : FldT Try.prog 50 1 1 := FldT.of (by kernel_rfl)
instance : FldV Try.prog 50 2 2 3 := FldV.of (by kernel_rfl)
instance : FldT Try.prog 50 2 2 := FldT.of (by kernel_rfl)
instance : FldV Try.prog 50 3 3 3 := FldV.of (by kernel_rfl)
instance : FldT Try.prog 50 3 3 := FldT.of (by kernel_rfl)
instance : FldV Try.prog 59 0 0 57 := FldV.of (by kernel_rfl)
instance : FldT Try.prog 59 0 0 := FldT.of (by kernel_rfl)
instance : FldV Try.prog 59 1 96 3 := FldV.of (by kernel_rfl)
instance : FldT Try.prog 59 1 96 := FldT.of (by kernel_rfl)
instance : FldV Try.prog 63 0 0 3 := FldV.of (by kernel_rfl)
instance : FldT Try.prog 63 0 0 := FldT.of (by kernel_rfl)
instance : FldV Try.prog 63 1 1 3 := FldV.of (by kernel_rfl)
instance : FldT Try.prog 63 1 1 := FldT.of (by kernel_rfl)
instance : FldV Try.prog 63 2 2 3 := FldV.of (by kernel_rfl)
instance : FldT Try.prog 63 2 2 := FldT.of (by kernel_rfl)
instance : FldV Try.prog 63 3 3 3 := FldV.of (by kernel_rfl)
instance : FldT Try.prog 63 3 3 := FldT.of (by kernel_rfl)
instance : FldV Try.prog 63 4 4 61 := FldV.of (by kernel_rfl)
instance : FldT Try.prog 63 4 4 := FldT.of (by kernel_rfl)
instance : FnT Try.prog 8 := FnT.of (by kernel_rfl)
instance : FnT Try.prog 9 := FnT.of (by kernel_rfl)
instance : FnT Try.prog 10 := FnT.of (by kernel_rfl)
instance : FnT Try.prog 11 := FnT.of (by kernel_rfl)
instance : FnT Try.prog 12 := FnT.of (by kernel_rfl)
instance : FnT Try.prog 13 := FnT.of (by kernel_rfl)
instance : FnT Try.prog 14 := FnT.of (by kernel_rfl)
instance : FnT Try.prog 15 := FnT.of (by kernel_rfl)
instance : FnT Try.prog 16 := FnT.of (by kernel_rfl)
instance : FnT Try.prog 17 := FnT.of (by kernel_rfl)
instance : FnT Try.prog 18 := FnT.of (by kernel_rfl)
instance : FnT Try.prog 19 := FnT.of (by kernel_rfl)
instance : FnT Try.prog 20 := FnT.of (by kernel_rfl)
instance : FnT Try.prog 21 := FnT.of (by kernel_rfl)
instance : FnT Try.prog 22 := FnT.of (by kernel_rfl)
instance : FnT Try.prog 23 := FnT.of (by kernel_rfl)
instance : FnT Try.prog 24 := FnT.of (by kernel_rfl)
instance : FnT Try.prog 25 := FnT.of (by kernel_rfl)
instance : FnT Try.prog 26 := FnT.of (by kernel_rfl)
instance : FnT Try.prog 27 := FnT.of (by kernel_rfl)
instance : FnT Try.prog 28 := FnT.of (by kernel_rfl)
instance : FnT Try.prog 29 := FnT.of (by kernel_rfl)
instance : FnT Try.prog 30 := FnT.of (by kernel_rfl)
instance : FnT Try.prog 31 := FnT.of (by kernel_rfl)
instance : FnT Try.prog 32 := FnT.of (by kernel_rfl)
instance : FnT Try.prog 33 := FnT.of (by kernel_rfl)
instance : FnT Try.prog 34 := FnT.of (by kernel_rfl)
instance : FnT Try.prog 35 := FnT.of (by kernel_rfl)
instance : FnT Try.prog 36 := FnT.of (by kernel_rfl)
instance : FnT Try.prog 37 := FnT.of (by kernel_rfl)
instance : FnT Try.prog 38 := FnT.of (by kernel_rfl)
instance : FnT Try.prog 39 := FnT.of (by kernel_rfl)
instance : FnT Try.prog 40 := FnT.of (by kernel_rfl)
instance : FnT Try.prog 41 := FnT.of (by kernel_rfl)
instance : FnT Try.prog 42 := FnT.of (by kernel_rfl)
instance : FnT Try.prog 43 := FnT.of (by kernel_rfl)
instance : FnT Try.prog 44 := FnT.of (by kernel_rfl)
instance : FnT Try.prog 45 := FnT.of (by kernel_rfl)
instance : FnT Try.prog 46 := FnT.of (by kernel_rfl)
instance : FnT Try.prog 47 := FnT.of (by kernel_rfl)
instance : FnT Try.prog 48 := FnT.of (by kernel_rfl)
instance : FnT Try.prog 49 := FnT.of (by kernel_rfl)
instance : FnT Try.prog 50 := FnT.of (by kernel_rfl)
instance : FnT Try.prog 51 := FnT.of (by kernel_rfl)
instance : FnT Try.prog 52 := FnT.of (by kernel_rfl)
end Go.Proofs.Ytcmoeoghfckmpaa

/- Nodes of a tree in memory: high, size, side, count, turned, flat. -/
namespace Go.Proofs.Ytcmoeoghfckmpaa
open Go.V
set_option linter.unusedVariables false
set_option linter.unusedSimpArgs false

namespace Tr
def ptr : Tr → Value
  | nil => .pointer none
  | node b _ _ _ _ _ _ => .pointer (some ⟨b, 0, none⟩)
abbrev nc (k v h n : Int) (l r : Value) : List Value := [.int .i64 k, .int .i64 v, .int .i64 h, .int .i64 n, l, r]
abbrev nb (b : Nat) (k v h n : Int) (l r : Value) : Nat × Ch := (b, .cells (nc k v h n l r) 63)
/-- a tree's blocks -/
def H : Tr → Hp
  | nil => []
  | node b l k v h n r => nb b k v h n l.ptr r.ptr :: (l.H ++ r.H)
theorem H_node (b : Nat) (l r : Tr) (k v h n : Int) : (node b l k v h n r).H = nb b k v h n l.ptr r.ptr :: (l.H ++ r.H) := rfl
/-- the top node is read -/
def Top (w : World) (no : List Nat) : Tr → Prop
  | nil => True
  | node b l k v h n r => Rd w no (some ⟨b, 0, none⟩) (nc k v h n l.ptr r.ptr)
theorem Top.of {w0 w : World} {own no : List Nat} {hs : Hp} {t : Tr} (s : Sat w0 own hs w) (hh : t.H ⊆ hs) (hn : ∀ b ∈ bl t.H, b ∉ no) : t.Top w no := by
  cases t with
  | nil => trivial
  | node b l k v h n r =>
    haveI : Mem b (.cells (nc k v h n l.ptr r.ptr) 63) hs := ⟨hh (by rw [H_node]; exact List.mem_cons_self)⟩
    exact Rd.chunk s (T := 63) (hn b (by rw [H_node]; simp [bl])) (fun j v hv => by rw [Nat.zero_add]; exact hv)
theorem Top.keep {w0 w : World} {own no : List Nat} {hs : Hp} {t : Tr} (h : t.Top w0 own) (s : Sat w0 own hs w) (hn : ∀ b ∈ no, b ∈ own ∨ w0.heap.size ≤ b) : t.Top w no := by
  cases t with
  | nil => trivial
  | node b l k v h' n r => exact Rd.keep h s hn
theorem Top.any {w : World} {no : List Nat} {t : Tr} (h : t.Top w no) : t.Top w [] := by
  cases t with
  | nil => trivial
  | node b l k v h' n r => exact fun j v hv => by obtain ⟨b, o, e1, _, e2⟩ := h j v hv; exact ⟨b, o, e1, by simp, e2⟩
/-- the numbers are small -/
structure Bd (t : Tr) : Prop where
  h : 0 ≤ t.ht ∧ t.ht ≤ 1000000
  n : 0 ≤ t.sz ∧ t.sz ≤ 1000000000000000
end Tr
open Tr

theorem high_ok (w : World) (t : Tr) (h : t.Top w []) : Is Try.prog 31 [t.ptr] w (.int .i64 t.ht) := by
  refine Does.pure (Does.of (n := 9) Try.func31 rfl rfl rfl rfl ?_)
  refine .seq ((.region (.v (.assign rfl) (.nil ?_))))
  cases t with
  | nil =>
    refine .seq (.seq ((.region (.v (.move rfl) (.v (.eql_ptr_nil rfl rfl) (.nil ?_))))))
    refine .cond rfl (fun _ => ?_) (fun h => absurd h (by simp))
    refine .seq ((.region (.v (.assign rfl) (.nil ?_))))
    exact .ret ⟨[_], ⟨rfl, trivial⟩, rfl⟩
  | node b l k v hh n r =>
    refine .seq (.seq ((.region (.v (.move rfl) (.v (.eql_ptr_nil (a := some ⟨b, 0, none⟩) rfl rfl) (.nil ?_))))))
    refine .cond rfl (fun h => absurd h (by simp)) (fun _ => .skip ?_)
    refine .seq ((.region (.v (.move rfl) (.v (.nilCheck (a := ⟨b, 0, none⟩) rfl) (.v (.fieldAddr rfl) (.v (.load (v := .int .i64 hh) rfl (Rd.cell (vs := nc k v hh n l.ptr r.ptr) h rfl)) (.v (.assign rfl) (.nil ?_))))))))
    exact .ret ⟨[_], ⟨rfl, trivial⟩, rfl⟩
theorem size_ok (w : World) (t : Tr) (h : t.Top w []) : Is Try.prog 28 [t.ptr] w (.int .i64 t.sz) := by
  refine Does.pure (Does.of (n := 9) Try.func28 rfl rfl rfl rfl ?_)
  refine .seq ((.region (.v (.assign rfl) (.nil ?_))))
  cases t with
  | nil =>
    refine .seq (.seq ((.region (.v (.move rfl) (.v (.eql_ptr_nil rfl rfl) (.nil ?_))))))
    refine .cond rfl (fun _ => ?_) (fun h => absurd h (by simp))
    refine .seq ((.region (.v (.assign rfl) (.nil ?_))))
    exact .ret ⟨[_], ⟨rfl, trivial⟩, rfl⟩
  | node b l k v hh n r =>
    refine .seq (.seq ((.region (.v (.move rfl) (.v (.eql_ptr_nil (a := some ⟨b, 0, none⟩) rfl rfl) (.nil ?_))))))
    refine .cond rfl (fun h => absurd h (by simp)) (fun _ => .skip ?_)
    refine .seq ((.region (.v (.move rfl) (.v (.nilCheck (a := ⟨b, 0, none⟩) rfl) (.v (.fieldAddr rfl) (.v (.load (v := .int .i64 n) rfl (Rd.cell (vs := nc k v hh n l.ptr r.ptr) h rfl)) (.v (.assign rfl) (.nil ?_))))))))
    exact .ret ⟨[_], ⟨rfl, trivial⟩, rfl⟩
theorem side_ok (w : World) (b : Nat) (l r : Value) (k v h n key : Int) (hb : Rd w [] (some ⟨b, 0, none⟩) (nc k v h n l r)) : Is Try.prog 46 [.pointer (some ⟨b, 0, none⟩), .int .i64 key] w (.int .i64 (if k < key then 1 else 0)) := by
  refine Does.pure (Does.of (n := 11) Try.func46 rfl rfl rfl rfl ?_)
  refine .seq ((.region (.v (.assign rfl) (.nil ?_))))
  refine .seq (.seq ((.region (.v (.move rfl) (.v (.move rfl) (.v (.nilCheck rfl) (.v (.fieldAddr rfl) (.v (.load (v := .int .i64 k) rfl (Rd.cell hb rfl)) (.v (.gtr rfl rfl) (.nil ?_))))))))))
  refine .cond_dec rfl (fun h1 => ?_) (fun h1 => .skip ?_)
  · refine .seq ((.region (.v (.assign rfl) (.nil ?_))))
    exact .ret ⟨[_], ⟨rfl, trivial⟩, by rw [if_pos h1]; rfl⟩
  · refine .seq ((.region (.v (.assign rfl) (.nil ?_))))
    exact .ret ⟨[_], ⟨rfl, trivial⟩, by rw [if_neg h1]; rfl⟩
set_option maxRecDepth 10000 in
theorem count_ok (w : World) (b : Nat) (l r : Tr) (k v h n : Int) (hl : l.Top w [b]) (hr : r.Top w [b]) (bl_ : l.Bd) (br : r.Bd) :
    Does Try.prog 49 [.pointer (some ⟨b, 0, none⟩)] [nb b k v h n l.ptr r.ptr] w (fun _ hs => hs = [nb b k v (1 + max l.ht r.ht) (1 + l.sz + r.sz) l.ptr r.ptr]) := by
  obtain ⟨a1, a2⟩ := bl_
  obtain ⟨a3, a4⟩ := br
  refine Does.of (n := 36) Try.func49 rfl rfl rfl rfl ?_
  refine .seq ((.drawQ 17 [0, 1, 2, 3, 4, 5, 7, 8, 9, 10, 11, 6, 12, 13, 14, 15, 16, 17] [nb b k v h n l.ptr r.ptr] (fun _ h => h) (by kernel_rfl) (by kernel_rfl) ?_))
  refine .v (fun _ f => .move rfl) (.v (fun _ f => .move rfl) (.v (fun _ f => .nilCheck rfl) (.v (fun _ f => .fieldAddr rfl) (.v (fun _ f => .indexAddrA1 rfl rfl (by omega) (by omega)) (.v (fun _ f => .load (v := l.ptr) rfl (.one (hb := .sub f) rfl)) (.v (fun _ f => .move rfl) (.v (fun _ f => .nilCheck rfl) (.v (fun _ f => .fieldAddr rfl) (.v (fun _ f => .indexAddrA1 rfl rfl (by omega) (by omega)) (.v (fun _ f => .load (v := r.ptr) rfl (.one (hb := .sub f) rfl)) ?_))))))))))
  refine .pc rfl rfl (fun w s => high_ok w l (hl.keep s (by simp))) (.pc rfl rfl (fun w s => high_ok w r (hr.keep s (by simp))) ?_)
  refine .v (fun _ f => .max2 rfl rfl) (.v (fun _ f => .addi rfl rfl (by omega)) (.v (fun _ f => .nilCheck rfl) (.v (fun _ f => .fieldAddr rfl) (.st (.storeL rfl rfl rfl) (.nil ?_)))))
  refine (.drawQ 17 [0, 1, 2, 3, 4, 5, 8, 9, 10, 11, 12, 6, 7, 13, 14, 15, 16, 17] [nb b k v (1 + max l.ht r.ht) n l.ptr r.ptr] (fun _ h => h) (by kernel_rfl) (by kernel_rfl) ?_)
  refine .v (fun _ f => .move rfl) (.v (fun _ f => .move rfl) (.v (fun _ f => .nilCheck rfl) (.v (fun _ f => .fieldAddr rfl) (.v (fun _ f => .indexAddrA1 rfl rfl (by omega) (by omega)) (.v (fun _ f => .load (v := l.ptr) rfl (.one (hb := .sub f) rfl)) (.v (fun _ f => .move rfl) (.v (fun _ f => .nilCheck rfl) (.v (fun _ f => .fieldAddr rfl) (.v (fun _ f => .indexAddrA1 rfl rfl (by omega) (by omega)) (.v (fun _ f => .load (v := r.ptr) rfl (.one (hb := .sub f) rfl)) ?_))))))))))
  refine .pc rfl rfl (fun w s => size_ok w l (hl.keep s (by simp))) (.v (fun _ f => .addi rfl rfl (by omega)) (.pc rfl rfl (fun w s => size_ok w r (hr.keep s (by simp))) ?_))
  refine .v (fun _ f => .addi rfl rfl (by omega)) (.v (fun _ f => .nilCheck rfl) (.v (fun _ f => .fieldAddr rfl) (.st (.storeL rfl rfl rfl) (.nil ?_))))
  exact ⟨[], trivial, rfl⟩
end Go.Proofs.Ytcmoeoghfckmpaa

/- Nodes turned and made flat. -/
namespace Go.Proofs.Ytcmoeoghfckmpaa
open Go.V
open Tr
set_option linter.unusedVariables false
set_option linter.unusedSimpArgs false

def Tr.AllBd : Tr → Prop
  | nil => True
  | node _ l _ _ h n r => l.AllBd ∧ r.AllBd ∧ (0 ≤ h ∧ h ≤ 1000) ∧ 0 ≤ n ∧ n ≤ 1000000000000
theorem Tr.AllBd.bd {t : Tr} (h : t.AllBd) : t.Bd := by
  cases t with
  | nil => exact ⟨by show (0 : Int) ≤ 0 ∧ (0 : Int) ≤ 1000000; decide, by show (0 : Int) ≤ 0 ∧ (0 : Int) ≤ 1000000000000000; decide⟩
  | node b l k v hh n r =>
    obtain ⟨_, _, h1, h2⟩ := h
    exact ⟨by show 0 ≤ hh ∧ hh ≤ _; omega, by show 0 ≤ n ∧ n ≤ _; omega⟩
theorem bd_node {l r : Tr} (hl : l.AllBd) (hr : r.AllBd) (b : Nat) (k v : Int) : (Tr.node b l k v (1 + max l.ht r.ht) (1 + l.sz + r.sz) r).Bd := by
  cases l with
  | nil => cases r with
    | nil => exact ⟨by show 0 ≤ 1 + max (0 : Int) 0 ∧ 1 + max (0 : Int) 0 ≤ 1000000; omega, by show 0 ≤ 1 + (0 : Int) + 0 ∧ 1 + (0 : Int) + 0 ≤ 1000000000000000; omega⟩
    | node _ _ _ _ h2 n2 _ =>
      obtain ⟨_, _, h3, h4⟩ := hr
      exact ⟨by show 0 ≤ 1 + max (0 : Int) h2 ∧ 1 + max (0 : Int) h2 ≤ 1000000; omega, by show 0 ≤ 1 + (0 : Int) + n2 ∧ 1 + (0 : Int) + n2 ≤ 1000000000000000; omega⟩
  | node _ _ _ _ h1 n1 _ =>
    obtain ⟨_, _, h3, h4⟩ := hl
    cases r with
    | nil => exact ⟨by show 0 ≤ 1 + max h1 (0 : Int) ∧ 1 + max h1 (0 : Int) ≤ 1000000; omega, by show 0 ≤ 1 + n1 + (0 : Int) ∧ 1 + n1 + (0 : Int) ≤ 1000000000000000; omega⟩
    | node _ _ _ _ h2 n2 _ =>
      obtain ⟨_, _, h5, h6⟩ := hr
      exact ⟨by show 0 ≤ 1 + max h1 h2 ∧ 1 + max h1 h2 ≤ 1000000; omega, by show 0 ≤ 1 + n1 + n2 ∧ 1 + n1 + n2 ≤ 1000000000000000; omega⟩
theorem Tr.Top.sub {w : World} {no no' : List Nat} {t : Tr} (h : t.Top w no) (k : ∀ b ∈ no', b ∈ no) : t.Top w no' := by
  cases t with
  | nil => trivial
  | node b l kk v h' n r => exact fun j u hv => by obtain ⟨b, o, e1, e0, e2⟩ := h j u hv; exact ⟨b, o, e1, fun hh => e0 (k _ hh), e2⟩
set_option maxRecDepth 10000 in
theorem turned0_ok (w : World) (b c : Nat) (a d r : Tr) (k v h n k2 v2 h2 n2 : Int) (ha : a.Top w [b, c]) (hd : d.Top w [b, c]) (hr : r.Top w [b, c]) (ba : a.Bd) (bd : d.Bd) (br : r.Bd) (bB : (Tr.node b d k v (1 + max d.ht r.ht) (1 + d.sz + r.sz) r).Bd) :
    Does Try.prog 50 [.pointer (some ⟨b, 0, none⟩), .int .i64 0] [nb b k v h n (.pointer (some ⟨c, 0, none⟩)) r.ptr, nb c k2 v2 h2 n2 a.ptr d.ptr] w
      (fun u hs => u = .pointer (some ⟨c, 0, none⟩) ∧ hs = [nb c k2 v2 (1 + max (Tr.ht a) (Tr.ht (.node b d k v (1 + max d.ht r.ht) (1 + d.sz + r.sz) r))) (1 + Tr.sz a + Tr.sz (.node b d k v (1 + max d.ht r.ht) (1 + d.sz + r.sz) r)) (Tr.ptr a) (Tr.ptr (.node b d k v (1 + max d.ht r.ht) (1 + d.sz + r.sz) r)), nb b k v (1 + max d.ht r.ht) (1 + d.sz + r.sz) d.ptr r.ptr]) := by
  refine Does.of (n := 36) Try.func50 rfl rfl rfl rfl ?_
  refine .nd fun hnd => ?_
  have hbc : b ≠ c := by intro e; subst e; simp [bl] at hnd
  refine .seq ((.region (.v (.assign rfl) (.nil ?_))))
  refine .seq ((.region (.v (.move rfl) (.v (.move rfl) (.v (.nilCheck rfl) (.v (.fieldAddr rfl) (.v (.indexAddrA1 rfl rfl (by omega) (by omega)) (.v (.load (v := .pointer (some ⟨c, 0, none⟩)) rfl (.one rfl)) (.v (.assign rfl) (.nil ?_))))))))))
  refine .seq (.drawN 16 [0, 1, 2, 3, 4, 5, 6, 7, 8, 9, 10, 11, 12, 13, 14, 15, 17, 18, 16, 19, 20] [nb b k v h n (.pointer (some ⟨c, 0, none⟩)) r.ptr, nb c k2 v2 h2 n2 a.ptr d.ptr] (fun _ h => h) (by kernel_rfl) (by kernel_rfl) ?_)
  refine .x (fun _ _ _ => .move rfl) (.x (fun _ _ _ => .move rfl) (.x (fun _ _ _ => .move rfl) (.x (fun _ _ _ => .move rfl) (.x (fun _ _ _ => .subi rfl rfl (by omega)) (.x (fun _ _ _ => .move rfl) (.x (fun _ _ _ => .move rfl) (.x (fun _ _ _ => .subi rfl rfl (by omega)) (.x (fun _ _ _ => .nilCheck rfl) (.x (fun _ _ _ => .fieldAddr rfl) (.x (fun _ _ _ => .indexAddrA1 rfl rfl (by omega) (by omega)) ?_))))))))))
  refine .v (fun _ f => .load (v := d.ptr) rfl (.one (l := nc k2 v2 h2 n2 a.ptr d.ptr) (T := 63) (hb := .sub f) rfl)) (.x (fun _ _ _ => .move rfl) (.x (fun _ _ _ => .nilCheck rfl) (.x (fun _ _ _ => .fieldAddr rfl) (.x (fun _ _ _ => .indexAddrA1 rfl rfl (by omega) (by omega)) ?_))))
  refine .x (fun _ _ _ => .nilCheck rfl) (.x (fun _ _ _ => .fieldAddr rfl) (.st (.store rfl rfl (by cases d <;> rfl) (by simp)) (.x (fun _ _ _ => .indexAddrA1 rfl rfl (by omega) (by omega)) (.st2 (.store rfl rfl rfl (by simp)) (.nil ?_)))))
  refine .heap (hs' := [nb b k v h n d.ptr r.ptr, nb c k2 v2 h2 n2 a.ptr (.pointer (some ⟨b, 0, none⟩))]) (fun _ s => s) ?_
  refine .seq ((.region (.v (.move rfl) ?_)))
  refine .ef (.callT [nb b k v h n d.ptr r.ptr] rfl rfl (fun w s => count_ok w b d r k v h n ((Tr.Top.keep hd s (by simp [bl])).sub (no := [b, c]) (by simp)) ((Tr.Top.keep hr s (by simp [bl])).sub (no := [b, c]) (by simp)) bd br)) ?_
  rintro _ _ ⟨_, rfl, rfl⟩
  refine .nil ?_
  refine .seq ((.region (.v (.move rfl) ?_)))
  refine .ef (.callT [nb c k2 v2 h2 n2 a.ptr (.pointer (some ⟨b, 0, none⟩))] rfl rfl (fun w s => count_ok w c a (.node b d k v (1 + max d.ht r.ht) (1 + d.sz + r.sz) r) k2 v2 h2 n2 ((Tr.Top.keep ha s (by simp [bl])).sub (no := [b, c]) (by simp)) (show Tr.Top w [c] (.node b d k v (1 + max d.ht r.ht) (1 + d.sz + r.sz) r) from Rd.chunk s (T := 63) (l := nc k v (1 + max d.ht r.ht) (1 + d.sz + r.sz) d.ptr r.ptr) (by simpa using hbc) (fun j v hv => by rw [Nat.zero_add]; exact hv)) ba bB)) ?_
  rintro _ _ ⟨_, rfl, rfl⟩
  refine .nil ?_
  refine .seq ((.region (.v (.move rfl) (.v (.assign rfl) (.nil ?_)))))
  exact .ret ⟨[_], ⟨rfl, trivial⟩, rfl, rfl⟩
set_option maxRecDepth 10000 in
theorem turned1_ok (w : World) (b c : Nat) (a d r : Tr) (k v h n k2 v2 h2 n2 : Int) (ha : a.Top w [b, c]) (hd : d.Top w [b, c]) (hr : r.Top w [b, c]) (ba : a.Bd) (bd : d.Bd) (br : r.Bd) (bB : (Tr.node b r k v (1 + max r.ht d.ht) (1 + r.sz + d.sz) d).Bd) :
    Does Try.prog 50 [.pointer (some ⟨b, 0, none⟩), .int .i64 1] [nb b k v h n r.ptr (.pointer (some ⟨c, 0, none⟩)), nb c k2 v2 h2 n2 d.ptr a.ptr] w
      (fun u hs => u = .pointer (some ⟨c, 0, none⟩) ∧ hs = [nb c k2 v2 (1 + max (Tr.ht (.node b r k v (1 + max r.ht d.ht) (1 + r.sz + d.sz) d)) (Tr.ht a)) (1 + Tr.sz (.node b r k v (1 + max r.ht d.ht) (1 + r.sz + d.sz) d) + Tr.sz a) (Tr.ptr (.node b r k v (1 + max r.ht d.ht) (1 + r.sz + d.sz) d)) (Tr.ptr a), nb b k v (1 + max r.ht d.ht) (1 + r.sz + d.sz) r.ptr d.ptr]) := by
  refine Does.of (n := 36) Try.func50 rfl rfl rfl rfl ?_
  refine .nd fun hnd => ?_
  have hbc : b ≠ c := by intro e; subst e; simp [bl] at hnd
  refine .seq ((.region (.v (.assign rfl) (.nil ?_))))
  refine .seq ((.region (.v (.move rfl) (.v (.move rfl) (.v (.nilCheck rfl) (.v (.fieldAddr rfl) (.v (.indexAddrA1 rfl rfl (by omega) (by omega)) (.v (.load (v := .pointer (some ⟨c, 0, none⟩)) rfl (.one rfl)) (.v (.assign rfl) (.nil ?_))))))))))
  refine .seq (.drawN 16 [0, 1, 2, 3, 4, 5, 6, 7, 8, 9, 10, 11, 12, 13, 14, 15, 17, 18, 16, 19, 20] [nb b k v h n r.ptr (.pointer (some ⟨c, 0, none⟩)), nb c k2 v2 h2 n2 d.ptr a.ptr] (fun _ h => h) (by kernel_rfl) (by kernel_rfl) ?_)
  refine .x (fun _ _ _ => .move rfl) (.x (fun _ _ _ => .move rfl) (.x (fun _ _ _ => .move rfl) (.x (fun _ _ _ => .move rfl) (.x (fun _ _ _ => .subi rfl rfl (by omega)) (.x (fun _ _ _ => .move rfl) (.x (fun _ _ _ => .move rfl) (.x (fun _ _ _ => .subi rfl rfl (by omega)) (.x (fun _ _ _ => .nilCheck rfl) (.x (fun _ _ _ => .fieldAddr rfl) (.x (fun _ _ _ => .indexAddrA1 rfl rfl (by omega) (by omega)) ?_))))))))))
  refine .v (fun _ f => .load (v := d.ptr) rfl (.one (l := nc k2 v2 h2 n2 d.ptr a.ptr) (T := 63) (hb := .sub f) rfl)) (.x (fun _ _ _ => .move rfl) (.x (fun _ _ _ => .nilCheck rfl) (.x (fun _ _ _ => .fieldAddr rfl) (.x (fun _ _ _ => .indexAddrA1 rfl rfl (by omega) (by omega)) ?_))))
  refine .x (fun _ _ _ => .nilCheck rfl) (.x (fun _ _ _ => .fieldAddr rfl) (.st (.store rfl rfl (by cases d <;> rfl) (by simp)) (.x (fun _ _ _ => .indexAddrA1 rfl rfl (by omega) (by omega)) (.st2 (.store rfl rfl rfl (by simp)) (.nil ?_)))))
  refine .heap (hs' := [nb b k v h n r.ptr d.ptr, nb c k2 v2 h2 n2 (.pointer (some ⟨b, 0, none⟩)) a.ptr]) (fun _ s => s) ?_
  refine .seq ((.region (.v (.move rfl) ?_)))
  refine .ef (.callT [nb b k v h n r.ptr d.ptr] rfl rfl (fun w s => count_ok w b r d k v h n ((Tr.Top.keep hr s (by simp [bl])).sub (no := [b, c]) (by simp)) ((Tr.Top.keep hd s (by simp [bl])).sub (no := [b, c]) (by simp)) br bd)) ?_
  rintro _ _ ⟨_, rfl, rfl⟩
  refine .nil ?_
  refine .seq ((.region (.v (.move rfl) ?_)))
  refine .ef (.callT [nb c k2 v2 h2 n2 (.pointer (some ⟨b, 0, none⟩)) a.ptr] rfl rfl (fun w s => count_ok w c (.node b r k v (1 + max r.ht d.ht) (1 + r.sz + d.sz) d) a k2 v2 h2 n2 (show Tr.Top w [c] (.node b r k v (1 + max r.ht d.ht) (1 + r.sz + d.sz) d) from Rd.chunk s (T := 63) (l := nc k v (1 + max r.ht d.ht) (1 + r.sz + d.sz) r.ptr d.ptr) (by simpa using hbc) (fun j v hv => by rw [Nat.zero_add]; exact hv)) ((Tr.Top.keep ha s (by simp [bl])).sub (no := [b, c]) (by simp)) bB ba)) ?_
  rintro _ _ ⟨_, rfl, rfl⟩
  refine .nil ?_
  refine .seq ((.region (.v (.move rfl) (.v (.assign rfl) (.nil ?_)))))
  exact .ret ⟨[_], ⟨rfl, trivial⟩, rfl, rfl⟩
end Go.Proofs.Ytcmoeoghfckmpaa

/- A node made flat. -/
namespace Go.Proofs.Ytcmoeoghfckmpaa
open Go.V
open Tr
set_option linter.unusedVariables false
set_option linter.unusedSimpArgs false

theorem Tr.AllBd.ht0 {t : Tr} (h : t.AllBd) : 0 ≤ t.ht := h.bd.h.1
set_option maxRecDepth 20000 in
set_option maxHeartbeats 2000000 in
theorem nflat_ok (w : World) (b : Nat) (l r : Tr) (k v h n : Int) (hl : l.AllBd) (hr : r.AllBd) :
    Does Try.prog 47 [.pointer (some ⟨b, 0, none⟩)] (Tr.node b l k v h n r).H w (fun u hs => u = (Tr.flat (.node b l k v h n r)).ptr ∧ hs = (Tr.flat (.node b l k v h n r)).H) := by
  have bl0 := hl.bd.h
  have br0 := hr.bd.h
  refine Does.less (Does.of (n := 58) Try.func47 rfl rfl rfl rfl ?_)
  refine .seq ((.region (.v (.assign rfl) (.nil ?_))))
  refine .heap (hs' := nb b k v h n l.ptr r.ptr :: (l.H ++ r.H)) (fun _ s => s) ?_
  refine .seq ((.region (.v (.move rfl) ?_)))
  refine .ef (.callT [nb b k v h n l.ptr r.ptr] rfl rfl (fun w s => count_ok w b l r k v h n (Top.of s (fun y hy => by simp [hy]) (Sat.apart (a := l.H) (b := [nb b k v h n l.ptr r.ptr]) s)) (Top.of s (fun y hy => by simp [hy]) (Sat.apart (a := r.H) (b := [nb b k v h n l.ptr r.ptr]) s)) hl.bd hr.bd)) ?_
  rintro _ _ ⟨_, rfl, rfl⟩
  refine .nil ?_
  refine .seq (.seq ((.region (.v (.move rfl) (.nil ?_)))))
  refine .block (.loop (X := Nat) (fun x => [(0, .pointer (some ⟨b, 0, none⟩)), (7, .int .i64 x)]) (fun _ => nb b k v (1 + max l.ht r.ht) (1 + l.sz + r.sz) l.ptr r.ptr :: (l.H ++ r.H)) (fun x => x ≤ 2 ∧ (1 ≤ x → ¬ r.ht + 1 < l.ht) ∧ (2 ≤ x → ¬ l.ht + 1 < r.ht)) (fun x => 2 - x) 0
    ⟨by omega, fun h => absurd h (by omega), fun h => absurd h (by omega)⟩ (.cons rfl (.cons rfl (.nil _))) (fun _ s => s) ?_)
  rintro x ⟨hx, hx1, hx2⟩
  refine .seq ((.region (.v (.lss rfl rfl) (.nil ?_))))
  refine .seq (.cond_dec rfl (fun h1 => .skip ?_) (fun h1 => .exit ?_))
  case refine_2 =>
    obtain rfl : x = 2 := by omega
    refine .seq ((.region (.v (.move rfl) (.v (.assign rfl) (.nil ?_)))))
    have key : Tr.flat (.node b l k v h n r) = .node b l k v (1 + max l.ht r.ht) (1 + l.sz + r.sz) r := by rw [flat_node, if_neg (hx1 (by omega)), if_neg (hx2 (by omega))]
    exact .ret ⟨[_], ⟨rfl, trivial⟩, _, fun _ s => s, by rw [key]; exact ⟨rfl, rfl⟩⟩
  refine .seq (.block (.seq ((.region (.v (.move rfl) (.v (.assign rfl) (.nil ?_)))))))
  obtain rfl | rfl : x = 0 ∨ x = 1 := by omega
  · refine .seq ((.region (.v (.move rfl) (.v (.move rfl) (.v (.nilCheck rfl) (.v (.fieldAddr rfl) (.v (.indexAddrA1 rfl rfl (by omega) (by omega)) (.v (.load (v := l.ptr) rfl (.one rfl)) (.v (.assign rfl) (.nil ?_))))))))))
    refine .seq ((.drawP [0, 2, 3, 4, 5, 6, 7, 8, 1, 9, 10, 11] [nb b k v (1 + max l.ht r.ht) (1 + l.sz + r.sz) l.ptr r.ptr] (by intro y hy; simp at hy; subst hy; exact List.mem_cons_self) (by kernel_rfl) (by kernel_rfl) ?_))
    refine .v (fun _ f => .move rfl) (.v (fun _ f => .move rfl) (.v (fun _ f => .move rfl) (.v (fun _ f => .subi rfl rfl (by omega)) (.v (fun _ f => .nilCheck rfl) (.v (fun _ f => .fieldAddr rfl) (.v (fun _ f => .indexAddrA1 rfl rfl (by omega) (by omega)) (.v (fun _ f => .load (v := r.ptr) rfl (.one (l := nc k v (1 + max l.ht r.ht) (1 + l.sz + r.sz) l.ptr r.ptr) (T := 63) (hb := .sub f) rfl)) ?_)))))))
    refine .pc rfl rfl (fun w s => high_ok w l (Top.of s (fun y hy => by simp [hy]) (by simp))) (.pc rfl rfl (fun w s => high_ok w r (Top.of s (fun y hy => by simp [hy]) (by simp))) (.v (fun _ f => .addi rfl rfl (by omega)) (.v (fun _ f => .gtr rfl rfl) (.nil ?_))))
    refine .cond_dec rfl (fun h2 => ?_) (fun h2 => .skip ?_)
    case refine_2 =>
      refine .region (.v (.addi rfl rfl (by omega)) (.v (.move rfl) (.nil ?_)))
      exact ⟨1, ⟨by omega, fun _ => h2, fun h => absurd h (by omega)⟩, by omega, .cons rfl (.cons rfl (.nil _)), fun _ s => s⟩
    cases l with
    | nil => exact absurd h2 (by show ¬ (_ : Int) < 0; omega)
    | node c cl k2 v2 h2' n2 cr =>
      obtain ⟨ac, ad, ah, an⟩ := hl
      have pcl := ac.bd.h
      have pcr := ad.bd.h
      refine .heap (hs' := nb b k v (1 + max (Tr.ht (Tr.node c cl k2 v2 h2' n2 cr)) (Tr.ht r)) (1 + Tr.sz (Tr.node c cl k2 v2 h2' n2 cr) + Tr.sz r) (.pointer (some ⟨c, 0, none⟩)) r.ptr :: ((nb c k2 v2 h2' n2 cl.ptr cr.ptr :: (cl.H ++ cr.H)) ++ r.H)) (fun _ s => s) ?_
      refine .seq (.seq ((.drawP [0, 1, 2, 3, 4, 5, 6, 8, 9, 10, 11, 12, 13, 7, 14, 15] [nb c k2 v2 h2' n2 cl.ptr cr.ptr] (by intro y hy; simp at hy; subst hy; simp) (by kernel_rfl) (by kernel_rfl) ?_)))
      refine .v (fun _ f => .move rfl) (.v (fun _ f => .move rfl) (.v (fun _ f => .subi rfl rfl (by omega)) (.v (fun _ f => .nilCheck (a := ⟨c, 0, none⟩) rfl) (.v (fun _ f => .fieldAddr rfl) (.v (fun _ f => .indexAddrA1 rfl rfl (by omega) (by omega)) (.v (fun _ f => .load (v := cr.ptr) rfl (.one (l := nc k2 v2 h2' n2 cl.ptr cr.ptr) (T := 63) (hb := .sub f) rfl)) ?_))))))
      refine .v (fun _ f => .move rfl) (.v (fun _ f => .move rfl) (.v (fun _ f => .nilCheck (a := ⟨c, 0, none⟩) rfl) (.v (fun _ f => .fieldAddr rfl) (.v (fun _ f => .indexAddrA1 rfl rfl (by omega) (by omega)) (.v (fun _ f => .load (v := cl.ptr) rfl (.one (l := nc k2 v2 h2' n2 cl.ptr cr.ptr) (T := 63) (hb := .sub f) rfl)) ?_)))))
      refine .pc rfl rfl (fun w s => high_ok w cr (Top.of s (fun y hy => by simp [hy]) (by simp))) (.pc rfl rfl (fun w s => high_ok w cl (Top.of s (fun y hy => by simp [hy]) (by simp))) (.v (fun _ f => .gtr rfl rfl) (.nil ?_)))
      refine .cond_dec rfl (fun c2 => ?_) (fun c2 => .skip ?_)
      · cases cr with
        | nil => exact absurd c2 (by show ¬ (_ : Int) < 0; omega)
        | node g x k3 v3 h3 n3 y =>
          obtain ⟨gx, gy, gh, gn⟩ := ad
          refine .heap (hs' := nb b k v (1 + max (Tr.ht (Tr.node c cl k2 v2 h2' n2 (Tr.node g x k3 v3 h3 n3 y))) (Tr.ht r)) (1 + Tr.sz (Tr.node c cl k2 v2 h2' n2 (Tr.node g x k3 v3 h3 n3 y)) + Tr.sz r) (.pointer (some ⟨c, 0, none⟩)) r.ptr :: ((nb c k2 v2 h2' n2 cl.ptr (.pointer (some ⟨g, 0, none⟩)) :: (cl.H ++ (nb g k3 v3 h3 n3 x.ptr y.ptr :: (x.H ++ y.H)))) ++ r.H)) (fun _ s => s) ?_
          refine .drawN 9 [0, 1, 2, 3, 4, 6, 7, 5, 8, 9] [] (List.nil_subset _) (by kernel_rfl) (by kernel_rfl) ?_
          refine .x (fun _ _ _ => .move rfl) (.x (fun _ _ _ => .move rfl) (.x (fun _ _ _ => .move rfl) (.x (fun _ _ _ => .move rfl) (.x (fun _ _ _ => .subi rfl rfl (by omega)) (.x (fun _ _ _ => .nilCheck rfl) (.x (fun _ _ _ => .fieldAddr rfl) ?_))))))
          refine .ef (.callT [nb c k2 v2 h2' n2 cl.ptr (.pointer (some ⟨g, 0, none⟩)), nb g k3 v3 h3 n3 x.ptr y.ptr] rfl rfl (fun w s => turned1_ok w c g y x cl k2 v2 h2' n2 k3 v3 h3 n3 (Top.of s (fun z hz => by simp [hz]) (Sat.apart (a := y.H) (b := [nb c k2 v2 h2' n2 cl.ptr (.pointer (some ⟨g, 0, none⟩)), nb g k3 v3 h3 n3 x.ptr y.ptr]) s)) (Top.of s (fun z hz => by simp [hz]) (Sat.apart (a := x.H) (b := [nb c k2 v2 h2' n2 cl.ptr (.pointer (some ⟨g, 0, none⟩)), nb g k3 v3 h3 n3 x.ptr y.ptr]) s)) (Top.of s (fun z hz => by simp [hz]) (Sat.apart (a := cl.H) (b := [nb c k2 v2 h2' n2 cl.ptr (.pointer (some ⟨g, 0, none⟩)), nb g k3 v3 h3 n3 x.ptr y.ptr]) s)) gy.bd gx.bd ac.bd (bd_node ac gx c k2 v2))) (fun _ _ _ _ => List.nil_subset _) ?_
          rintro _ _ ⟨_, ⟨rfl, rfl⟩, rfl⟩
          refine .x (fun _ _ _ => .indexAddrA1 rfl rfl (by omega) (by omega)) (.st (.storeL (l' := nc k v (1 + max (Tr.ht (Tr.node c cl k2 v2 h2' n2 (Tr.node g x k3 v3 h3 n3 y))) (Tr.ht r)) (1 + Tr.sz (Tr.node c cl k2 v2 h2' n2 (Tr.node g x k3 v3 h3 n3 y)) + Tr.sz r) (.pointer (some ⟨g, 0, none⟩)) r.ptr) (ho := ⟨by simp, rfl⟩) rfl rfl rfl) (.nil ?_))
          refine .heap (hs' := nb b k v (1 + max (Tr.ht (Tr.node c cl k2 v2 h2' n2 (Tr.node g x k3 v3 h3 n3 y))) (Tr.ht r)) (1 + Tr.sz (Tr.node c cl k2 v2 h2' n2 (Tr.node g x k3 v3 h3 n3 y)) + Tr.sz r) (.pointer (some ⟨g, 0, none⟩)) r.ptr :: (nb g k3 v3 (1 + max (Tr.ht (Tr.node c cl k2 v2 (1 + max (Tr.ht cl) (Tr.ht x)) (1 + Tr.sz cl + Tr.sz x) x)) (Tr.ht y)) (1 + Tr.sz (Tr.node c cl k2 v2 (1 + max (Tr.ht cl) (Tr.ht x)) (1 + Tr.sz cl + Tr.sz x) x) + Tr.sz y) (.pointer (some ⟨c, 0, none⟩)) y.ptr :: (nb c k2 v2 (1 + max (Tr.ht cl) (Tr.ht x)) (1 + Tr.sz cl + Tr.sz x) cl.ptr x.ptr :: (cl.H ++ (x.H ++ (y.H ++ r.H)))))) (fun _ s => Sat.take (pre := nb b k v (1 + max (Tr.ht (Tr.node c cl k2 v2 h2' n2 (Tr.node g x k3 v3 h3 n3 y))) (Tr.ht r)) (1 + Tr.sz (Tr.node c cl k2 v2 h2' n2 (Tr.node g x k3 v3 h3 n3 y)) + Tr.sz r) (.pointer (some ⟨g, 0, none⟩)) r.ptr :: (nb g k3 v3 (1 + max (Tr.ht (Tr.node c cl k2 v2 (1 + max (Tr.ht cl) (Tr.ht x)) (1 + Tr.sz cl + Tr.sz x) x)) (Tr.ht y)) (1 + Tr.sz (Tr.node c cl k2 v2 (1 + max (Tr.ht cl) (Tr.ht x)) (1 + Tr.sz cl + Tr.sz x) x) + Tr.sz y) (Tr.ptr (Tr.node c cl k2 v2 (1 + max (Tr.ht cl) (Tr.ht x)) (1 + Tr.sz cl + Tr.sz x) x)) (Tr.ptr y) :: (nb c k2 v2 (1 + max (Tr.ht cl) (Tr.ht x)) (1 + Tr.sz cl + Tr.sz x) cl.ptr x.ptr :: (cl.H ++ (x.H ++ (y.H ++ r.H)))))) s) ?_
          have key : Tr.flat (.node b (Tr.node c cl k2 v2 h2' n2 (Tr.node g x k3 v3 h3 n3 y)) k v h n r) = (Tr.node g (Tr.node c cl k2 v2 (1 + max (Tr.ht cl) (Tr.ht x)) (1 + Tr.sz cl + Tr.sz x) x) k3 v3 (1 + max (Tr.ht (Tr.node c cl k2 v2 (1 + max (Tr.ht cl) (Tr.ht x)) (1 + Tr.sz cl + Tr.sz x) x)) (Tr.ht (Tr.node b y k v (1 + max (Tr.ht y) (Tr.ht r)) (1 + Tr.sz y + Tr.sz r) r))) (1 + Tr.sz (Tr.node c cl k2 v2 (1 + max (Tr.ht cl) (Tr.ht x)) (1 + Tr.sz cl + Tr.sz x) x) + Tr.sz (Tr.node b y k v (1 + max (Tr.ht y) (Tr.ht r)) (1 + Tr.sz y + Tr.sz r) r)) (Tr.node b y k v (1 + max (Tr.ht y) (Tr.ht r)) (1 + Tr.sz y + Tr.sz r) r)) := by
            rw [flat_node, if_pos h2, if_pos (show Tr.ht (Tr.lf (Tr.node c cl k2 v2 h2' n2 (Tr.node g x k3 v3 h3 n3 y))) < Tr.ht (Tr.rt (Tr.node c cl k2 v2 h2' n2 (Tr.node g x k3 v3 h3 n3 y))) from c2)]; rfl
          refine .seq ((.region (.v (.move rfl) (.v (.move rfl) ?_))))
          refine .ef (.callT [nb b k v (1 + max (Tr.ht (Tr.node c cl k2 v2 h2' n2 (Tr.node g x k3 v3 h3 n3 y))) (Tr.ht r)) (1 + Tr.sz (Tr.node c cl k2 v2 h2' n2 (Tr.node g x k3 v3 h3 n3 y)) + Tr.sz r) (.pointer (some ⟨g, 0, none⟩)) r.ptr, nb g k3 v3 (1 + max (Tr.ht (Tr.node c cl k2 v2 (1 + max (Tr.ht cl) (Tr.ht x)) (1 + Tr.sz cl + Tr.sz x) x)) (Tr.ht y)) (1 + Tr.sz (Tr.node c cl k2 v2 (1 + max (Tr.ht cl) (Tr.ht x)) (1 + Tr.sz cl + Tr.sz x) x) + Tr.sz y) (.pointer (some ⟨c, 0, none⟩)) y.ptr] rfl rfl (fun w s => turned0_ok w b g (Tr.node c cl k2 v2 (1 + max (Tr.ht cl) (Tr.ht x)) (1 + Tr.sz cl + Tr.sz x) x) y r k v _ _ k3 v3 _ _ (show Tr.Top w [b, g] (Tr.node c cl k2 v2 (1 + max (Tr.ht cl) (Tr.ht x)) (1 + Tr.sz cl + Tr.sz x) x) from Rd.chunk s (T := 63) (l := nc k2 v2 (1 + max (Tr.ht cl) (Tr.ht x)) (1 + Tr.sz cl + Tr.sz x) cl.ptr x.ptr) (Sat.apart (a := [nb c k2 v2 (1 + max (Tr.ht cl) (Tr.ht x)) (1 + Tr.sz cl + Tr.sz x) cl.ptr x.ptr]) (b := [nb b k v (1 + max (Tr.ht (Tr.node c cl k2 v2 h2' n2 (Tr.node g x k3 v3 h3 n3 y))) (Tr.ht r)) (1 + Tr.sz (Tr.node c cl k2 v2 h2' n2 (Tr.node g x k3 v3 h3 n3 y)) + Tr.sz r) (.pointer (some ⟨g, 0, none⟩)) r.ptr, nb g k3 v3 (1 + max (Tr.ht (Tr.node c cl k2 v2 (1 + max (Tr.ht cl) (Tr.ht x)) (1 + Tr.sz cl + Tr.sz x) x)) (Tr.ht y)) (1 + Tr.sz (Tr.node c cl k2 v2 (1 + max (Tr.ht cl) (Tr.ht x)) (1 + Tr.sz cl + Tr.sz x) x) + Tr.sz y) (.pointer (some ⟨c, 0, none⟩)) y.ptr]) s c (by simp [bl])) (fun j v hv => by rw [Nat.zero_add]; exact hv)) (Top.of s (fun z hz => by simp [hz]) (Sat.apart (a := y.H) (b := [nb b k v (1 + max (Tr.ht (Tr.node c cl k2 v2 h2' n2 (Tr.node g x k3 v3 h3 n3 y))) (Tr.ht r)) (1 + Tr.sz (Tr.node c cl k2 v2 h2' n2 (Tr.node g x k3 v3 h3 n3 y)) + Tr.sz r) (.pointer (some ⟨g, 0, none⟩)) r.ptr, nb g k3 v3 (1 + max (Tr.ht (Tr.node c cl k2 v2 (1 + max (Tr.ht cl) (Tr.ht x)) (1 + Tr.sz cl + Tr.sz x) x)) (Tr.ht y)) (1 + Tr.sz (Tr.node c cl k2 v2 (1 + max (Tr.ht cl) (Tr.ht x)) (1 + Tr.sz cl + Tr.sz x) x) + Tr.sz y) (.pointer (some ⟨c, 0, none⟩)) y.ptr]) s)) (Top.of s (fun z hz => by simp [hz]) (Sat.apart (a := r.H) (b := [nb b k v (1 + max (Tr.ht (Tr.node c cl k2 v2 h2' n2 (Tr.node g x k3 v3 h3 n3 y))) (Tr.ht r)) (1 + Tr.sz (Tr.node c cl k2 v2 h2' n2 (Tr.node g x k3 v3 h3 n3 y)) + Tr.sz r) (.pointer (some ⟨g, 0, none⟩)) r.ptr, nb g k3 v3 (1 + max (Tr.ht (Tr.node c cl k2 v2 (1 + max (Tr.ht cl) (Tr.ht x)) (1 + Tr.sz cl + Tr.sz x) x)) (Tr.ht y)) (1 + Tr.sz (Tr.node c cl k2 v2 (1 + max (Tr.ht cl) (Tr.ht x)) (1 + Tr.sz cl + Tr.sz x) x) + Tr.sz y) (.pointer (some ⟨c, 0, none⟩)) y.ptr]) s)) (bd_node ac gx c k2 v2) gy.bd hr.bd (bd_node gy hr b k v))) ?_
          rintro _ _ ⟨_, ⟨rfl, rfl⟩, rfl⟩
          refine .v (.assign rfl) (.nil ?_)
          refine .ret ⟨[_], ⟨rfl, trivial⟩, _, fun _ s => Sat.take (pre := nb g k3 v3 (1 + max (Tr.ht (Tr.node c cl k2 v2 (1 + max (Tr.ht cl) (Tr.ht x)) (1 + Tr.sz cl + Tr.sz x) x)) (Tr.ht (Tr.node b y k v (1 + max (Tr.ht y) (Tr.ht r)) (1 + Tr.sz y + Tr.sz r) r))) (1 + Tr.sz (Tr.node c cl k2 v2 (1 + max (Tr.ht cl) (Tr.ht x)) (1 + Tr.sz cl + Tr.sz x) x) + Tr.sz (Tr.node b y k v (1 + max (Tr.ht y) (Tr.ht r)) (1 + Tr.sz y + Tr.sz r) r)) (Tr.ptr (Tr.node c cl k2 v2 (1 + max (Tr.ht cl) (Tr.ht x)) (1 + Tr.sz cl + Tr.sz x) x)) (Tr.ptr (Tr.node b y k v (1 + max (Tr.ht y) (Tr.ht r)) (1 + Tr.sz y + Tr.sz r) r)) :: ((nb c k2 v2 (1 + max (Tr.ht cl) (Tr.ht x)) (1 + Tr.sz cl + Tr.sz x) (Tr.ptr cl) (Tr.ptr x) :: (cl.H ++ x.H)) ++ (nb b k v (1 + max (Tr.ht y) (Tr.ht r)) (1 + Tr.sz y + Tr.sz r) (Tr.ptr y) (Tr.ptr r) :: (y.H ++ r.H)))) s, by rw [key]; exact ⟨rfl, rfl⟩⟩
      · have key : Tr.flat (.node b (Tr.node c cl k2 v2 h2' n2 cr) k v h n r) = (Tr.node c cl k2 v2 (1 + max (Tr.ht cl) (Tr.ht (Tr.node b cr k v (1 + max (Tr.ht cr) (Tr.ht r)) (1 + Tr.sz cr + Tr.sz r) r))) (1 + Tr.sz cl + Tr.sz (Tr.node b cr k v (1 + max (Tr.ht cr) (Tr.ht r)) (1 + Tr.sz cr + Tr.sz r) r)) (Tr.node b cr k v (1 + max (Tr.ht cr) (Tr.ht r)) (1 + Tr.sz cr + Tr.sz r) r)) := by
          rw [flat_node, if_pos h2, if_neg (show ¬ (Tr.ht (Tr.lf (Tr.node c cl k2 v2 h2' n2 cr)) < Tr.ht (Tr.rt (Tr.node c cl k2 v2 h2' n2 cr))) from c2)]; rfl
        refine .seq ((.region (.v (.move rfl) (.v (.move rfl) ?_))))
        refine .ef (.callT [nb b k v (1 + max (Tr.ht (Tr.node c cl k2 v2 h2' n2 cr)) (Tr.ht r)) (1 + Tr.sz (Tr.node c cl k2 v2 h2' n2 cr) + Tr.sz r) (.pointer (some ⟨c, 0, none⟩)) r.ptr, nb c k2 v2 h2' n2 cl.ptr cr.ptr] rfl rfl (fun w s => turned0_ok w b c cl cr r k v _ _ k2 v2 h2' n2 (Top.of s (fun z hz => by simp [hz]) (Sat.apart (a := cl.H) (b := [nb b k v (1 + max (Tr.ht (Tr.node c cl k2 v2 h2' n2 cr)) (Tr.ht r)) (1 + Tr.sz (Tr.node c cl k2 v2 h2' n2 cr) + Tr.sz r) (.pointer (some ⟨c, 0, none⟩)) r.ptr, nb c k2 v2 h2' n2 cl.ptr cr.ptr]) s)) (Top.of s (fun z hz => by simp [hz]) (Sat.apart (a := cr.H) (b := [nb b k v (1 + max (Tr.ht (Tr.node c cl k2 v2 h2' n2 cr)) (Tr.ht r)) (1 + Tr.sz (Tr.node c cl k2 v2 h2' n2 cr) + Tr.sz r) (.pointer (some ⟨c, 0, none⟩)) r.ptr, nb c k2 v2 h2' n2 cl.ptr cr.ptr]) s)) (Top.of s (fun z hz => by simp [hz]) (Sat.apart (a := r.H) (b := [nb b k v (1 + max (Tr.ht (Tr.node c cl k2 v2 h2' n2 cr)) (Tr.ht r)) (1 + Tr.sz (Tr.node c cl k2 v2 h2' n2 cr) + Tr.sz r) (.pointer (some ⟨c, 0, none⟩)) r.ptr, nb c k2 v2 h2' n2 cl.ptr cr.ptr]) s)) ac.bd ad.bd hr.bd (bd_node ad hr b k v))) ?_
        rintro _ _ ⟨_, ⟨rfl, rfl⟩, rfl⟩
        refine .v (.assign rfl) (.nil ?_)
        refine .ret ⟨[_], ⟨rfl, trivial⟩, _, fun _ s => Sat.take (pre := nb c k2 v2 (1 + max (Tr.ht cl) (Tr.ht (Tr.node b cr k v (1 + max (Tr.ht cr) (Tr.ht r)) (1 + Tr.sz cr + Tr.sz r) r))) (1 + Tr.sz cl + Tr.sz (Tr.node b cr k v (1 + max (Tr.ht cr) (Tr.ht r)) (1 + Tr.sz cr + Tr.sz r) r)) (Tr.ptr cl) (Tr.ptr (Tr.node b cr k v (1 + max (Tr.ht cr) (Tr.ht r)) (1 + Tr.sz cr + Tr.sz r) r)) :: (cl.H ++ (nb b k v (1 + max (Tr.ht cr) (Tr.ht r)) (1 + Tr.sz cr + Tr.sz r) (Tr.ptr cr) (Tr.ptr r) :: (cr.H ++ r.H)))) s, by rw [key]; exact ⟨rfl, rfl⟩⟩
  · refine .seq ((.region (.v (.move rfl) (.v (.move rfl) (.v (.nilCheck rfl) (.v (.fieldAddr rfl) (.v (.indexAddrA1 rfl rfl (by omega) (by omega)) (.v (.load (v := r.ptr) rfl (.one rfl)) (.v (.assign rfl) (.nil ?_))))))))))
    refine .seq ((.drawP [0, 2, 3, 4, 5, 6, 7, 8, 1, 9, 10, 11] [nb b k v (1 + max l.ht r.ht) (1 + l.sz + r.sz) l.ptr r.ptr] (by intro y hy; simp at hy; subst hy; exact List.mem_cons_self) (by kernel_rfl) (by kernel_rfl) ?_))
    refine .v (fun _ f => .move rfl) (.v (fun _ f => .move rfl) (.v (fun _ f => .move rfl) (.v (fun _ f => .subi rfl rfl (by omega)) (.v (fun _ f => .nilCheck rfl) (.v (fun _ f => .fieldAddr rfl) (.v (fun _ f => .indexAddrA1 rfl rfl (by omega) (by omega)) (.v (fun _ f => .load (v := l.ptr) rfl (.one (l := nc k v (1 + max l.ht r.ht) (1 + l.sz + r.sz) l.ptr r.ptr) (T := 63) (hb := .sub f) rfl)) ?_)))))))
    refine .pc rfl rfl (fun w s => high_ok w r (Top.of s (fun y hy => by simp [hy]) (by simp))) (.pc rfl rfl (fun w s => high_ok w l (Top.of s (fun y hy => by simp [hy]) (by simp))) (.v (fun _ f => .addi rfl rfl (by omega)) (.v (fun _ f => .gtr rfl rfl) (.nil ?_))))
    refine .cond_dec rfl (fun h2 => ?_) (fun h2 => .skip ?_)
    case refine_2 =>
      refine .region (.v (.addi rfl rfl (by omega)) (.v (.move rfl) (.nil ?_)))
      exact ⟨2, ⟨by omega, fun _ => hx1 (by omega), fun _ => h2⟩, by omega, .cons rfl (.cons rfl (.nil _)), fun _ s => s⟩
    cases r with
    | nil => exact absurd h2 (by show ¬ (_ : Int) < 0; omega)
    | node c cl k2 v2 h2' n2 cr =>
      obtain ⟨ac, ad, ah, an⟩ := hr
      have pcl := ac.bd.h
      have pcr := ad.bd.h
      refine .heap (hs' := nb b k v (1 + max (Tr.ht l) (Tr.ht (Tr.node c cl k2 v2 h2' n2 cr))) (1 + Tr.sz l + Tr.sz (Tr.node c cl k2 v2 h2' n2 cr)) l.ptr (.pointer (some ⟨c, 0, none⟩)) :: (l.H ++ (nb c k2 v2 h2' n2 cl.ptr cr.ptr :: (cl.H ++ cr.H)))) (fun _ s => s) ?_
      refine .seq (.seq ((.drawP [0, 1, 2, 3, 4, 5, 6, 8, 9, 10, 11, 12, 13, 7, 14, 15] [nb c k2 v2 h2' n2 cl.ptr cr.ptr] (by intro y hy; simp at hy; subst hy; simp) (by kernel_rfl) (by kernel_rfl) ?_)))
      refine .v (fun _ f => .move rfl) (.v (fun _ f => .move rfl) (.v (fun _ f => .subi rfl rfl (by omega)) (.v (fun _ f => .nilCheck (a := ⟨c, 0, none⟩) rfl) (.v (fun _ f => .fieldAddr rfl) (.v (fun _ f => .indexAddrA1 rfl rfl (by omega) (by omega)) (.v (fun _ f => .load (v := cl.ptr) rfl (.one (l := nc k2 v2 h2' n2 cl.ptr cr.ptr) (T := 63) (hb := .sub f) rfl)) ?_))))))
      refine .v (fun _ f => .move rfl) (.v (fun _ f => .move rfl) (.v (fun _ f => .nilCheck (a := ⟨c, 0, none⟩) rfl) (.v (fun _ f => .fieldAddr rfl) (.v (fun _ f => .indexAddrA1 rfl rfl (by omega) (by omega)) (.v (fun _ f => .load (v := cr.ptr) rfl (.one (l := nc k2 v2 h2' n2 cl.ptr cr.ptr) (T := 63) (hb := .sub f) rfl)) ?_)))))
      refine .pc rfl rfl (fun w s => high_ok w cl (Top.of s (fun y hy => by simp [hy]) (by simp))) (.pc rfl rfl (fun w s => high_ok w cr (Top.of s (fun y hy => by simp [hy]) (by simp))) (.v (fun _ f => .gtr rfl rfl) (.nil ?_)))
      refine .cond_dec rfl (fun c2 => ?_) (fun c2 => .skip ?_)
      · cases cl with
        | nil => exact absurd c2 (by show ¬ (_ : Int) < 0; omega)
        | node g y k3 v3 h3 n3 x =>
          obtain ⟨gy, gx, gh, gn⟩ := ac
          refine .heap (hs' := nb b k v (1 + max (Tr.ht l) (Tr.ht (Tr.node c (Tr.node g y k3 v3 h3 n3 x) k2 v2 h2' n2 cr))) (1 + Tr.sz l + Tr.sz (Tr.node c (Tr.node g y k3 v3 h3 n3 x) k2 v2 h2' n2 cr)) l.ptr (.pointer (some ⟨c, 0, none⟩)) :: (l.H ++ (nb c k2 v2 h2' n2 (.pointer (some ⟨g, 0, none⟩)) cr.ptr :: ((nb g k3 v3 h3 n3 y.ptr x.ptr :: (y.H ++ x.H)) ++ cr.H)))) (fun _ s => s) ?_
          refine .drawN 9 [0, 1, 2, 3, 4, 6, 7, 5, 8, 9] [] (List.nil_subset _) (by kernel_rfl) (by kernel_rfl) ?_
          refine .x (fun _ _ _ => .move rfl) (.x (fun _ _ _ => .move rfl) (.x (fun _ _ _ => .move rfl) (.x (fun _ _ _ => .move rfl) (.x (fun _ _ _ => .subi rfl rfl (by omega)) (.x (fun _ _ _ => .nilCheck rfl) (.x (fun _ _ _ => .fieldAddr rfl) ?_))))))
          refine .ef (.callT [nb c k2 v2 h2' n2 (.pointer (some ⟨g, 0, none⟩)) cr.ptr, nb g k3 v3 h3 n3 y.ptr x.ptr] rfl rfl (fun w s => turned0_ok w c g y x cr k2 v2 h2' n2 k3 v3 h3 n3 (Top.of s (fun z hz => by simp [hz]) (Sat.apart (a := y.H) (b := [nb c k2 v2 h2' n2 (.pointer (some ⟨g, 0, none⟩)) cr.ptr, nb g k3 v3 h3 n3 y.ptr x.ptr]) s)) (Top.of s (fun z hz => by simp [hz]) (Sat.apart (a := x.H) (b := [nb c k2 v2 h2' n2 (.pointer (some ⟨g, 0, none⟩)) cr.ptr, nb g k3 v3 h3 n3 y.ptr x.ptr]) s)) (Top.of s (fun z hz => by simp [hz]) (Sat.apart (a := cr.H) (b := [nb c k2 v2 h2' n2 (.pointer (some ⟨g, 0, none⟩)) cr.ptr, nb g k3 v3 h3 n3 y.ptr x.ptr]) s)) gy.bd gx.bd ad.bd (bd_node gx ad c k2 v2))) (fun _ _ _ _ => List.nil_subset _) ?_
          rintro _ _ ⟨_, ⟨rfl, rfl⟩, rfl⟩
          refine .x (fun _ _ _ => .indexAddrA1 rfl rfl (by omega) (by omega)) (.st (.storeL (l' := nc k v (1 + max (Tr.ht l) (Tr.ht (Tr.node c (Tr.node g y k3 v3 h3 n3 x) k2 v2 h2' n2 cr))) (1 + Tr.sz l + Tr.sz (Tr.node c (Tr.node g y k3 v3 h3 n3 x) k2 v2 h2' n2 cr)) l.ptr (.pointer (some ⟨g, 0, none⟩))) (ho := ⟨by simp, rfl⟩) rfl rfl rfl) (.nil ?_))
          refine .heap (hs' := nb b k v (1 + max (Tr.ht l) (Tr.ht (Tr.node c (Tr.node g y k3 v3 h3 n3 x) k2 v2 h2' n2 cr))) (1 + Tr.sz l + Tr.sz (Tr.node c (Tr.node g y k3 v3 h3 n3 x) k2 v2 h2' n2 cr)) l.ptr (.pointer (some ⟨g, 0, none⟩)) :: (nb g k3 v3 (1 + max (Tr.ht y) (Tr.ht (Tr.node c x k2 v2 (1 + max (Tr.ht x) (Tr.ht cr)) (1 + Tr.sz x + Tr.sz cr) cr))) (1 + Tr.sz y + Tr.sz (Tr.node c x k2 v2 (1 + max (Tr.ht x) (Tr.ht cr)) (1 + Tr.sz x + Tr.sz cr) cr)) y.ptr (.pointer (some ⟨c, 0, none⟩)) :: (nb c k2 v2 (1 + max (Tr.ht x) (Tr.ht cr)) (1 + Tr.sz x + Tr.sz cr) x.ptr cr.ptr :: (cr.H ++ (x.H ++ (y.H ++ l.H)))))) (fun _ s => Sat.take (pre := nb b k v (1 + max (Tr.ht l) (Tr.ht (Tr.node c (Tr.node g y k3 v3 h3 n3 x) k2 v2 h2' n2 cr))) (1 + Tr.sz l + Tr.sz (Tr.node c (Tr.node g y k3 v3 h3 n3 x) k2 v2 h2' n2 cr)) l.ptr (.pointer (some ⟨g, 0, none⟩)) :: (nb g k3 v3 (1 + max (Tr.ht y) (Tr.ht (Tr.node c x k2 v2 (1 + max (Tr.ht x) (Tr.ht cr)) (1 + Tr.sz x + Tr.sz cr) cr))) (1 + Tr.sz y + Tr.sz (Tr.node c x k2 v2 (1 + max (Tr.ht x) (Tr.ht cr)) (1 + Tr.sz x + Tr.sz cr) cr)) (Tr.ptr y) (Tr.ptr (Tr.node c x k2 v2 (1 + max (Tr.ht x) (Tr.ht cr)) (1 + Tr.sz x + Tr.sz cr) cr)) :: (nb c k2 v2 (1 + max (Tr.ht x) (Tr.ht cr)) (1 + Tr.sz x + Tr.sz cr) x.ptr cr.ptr :: (cr.H ++ (x.H ++ (y.H ++ l.H)))))) s) ?_
          have key : Tr.flat (.node b l k v h n (Tr.node c (Tr.node g y k3 v3 h3 n3 x) k2 v2 h2' n2 cr)) = (Tr.node g (Tr.node b l k v (1 + max (Tr.ht l) (Tr.ht y)) (1 + Tr.sz l + Tr.sz y) y) k3 v3 (1 + max (Tr.ht (Tr.node b l k v (1 + max (Tr.ht l) (Tr.ht y)) (1 + Tr.sz l + Tr.sz y) y)) (Tr.ht (Tr.node c x k2 v2 (1 + max (Tr.ht x) (Tr.ht cr)) (1 + Tr.sz x + Tr.sz cr) cr))) (1 + Tr.sz (Tr.node b l k v (1 + max (Tr.ht l) (Tr.ht y)) (1 + Tr.sz l + Tr.sz y) y) + Tr.sz (Tr.node c x k2 v2 (1 + max (Tr.ht x) (Tr.ht cr)) (1 + Tr.sz x + Tr.sz cr) cr)) (Tr.node c x k2 v2 (1 + max (Tr.ht x) (Tr.ht cr)) (1 + Tr.sz x + Tr.sz cr) cr)) := by
            rw [flat_node, if_neg (hx1 (by omega)), if_pos h2, if_pos (show Tr.ht (Tr.rt (Tr.node c (Tr.node g y k3 v3 h3 n3 x) k2 v2 h2' n2 cr)) < Tr.ht (Tr.lf (Tr.node c (Tr.node g y k3 v3 h3 n3 x) k2 v2 h2' n2 cr)) from c2)]; rfl
          refine .seq ((.region (.v (.move rfl) (.v (.move rfl) ?_))))
          refine .ef (.callT [nb b k v (1 + max (Tr.ht l) (Tr.ht (Tr.node c (Tr.node g y k3 v3 h3 n3 x) k2 v2 h2' n2 cr))) (1 + Tr.sz l + Tr.sz (Tr.node c (Tr.node g y k3 v3 h3 n3 x) k2 v2 h2' n2 cr)) l.ptr (.pointer (some ⟨g, 0, none⟩)), nb g k3 v3 (1 + max (Tr.ht y) (Tr.ht (Tr.node c x k2 v2 (1 + max (Tr.ht x) (Tr.ht cr)) (1 + Tr.sz x + Tr.sz cr) cr))) (1 + Tr.sz y + Tr.sz (Tr.node c x k2 v2 (1 + max (Tr.ht x) (Tr.ht cr)) (1 + Tr.sz x + Tr.sz cr) cr)) y.ptr (.pointer (some ⟨c, 0, none⟩))] rfl rfl (fun w s => turned1_ok w b g (Tr.node c x k2 v2 (1 + max (Tr.ht x) (Tr.ht cr)) (1 + Tr.sz x + Tr.sz cr) cr) y l k v _ _ k3 v3 _ _ (show Tr.Top w [b, g] (Tr.node c x k2 v2 (1 + max (Tr.ht x) (Tr.ht cr)) (1 + Tr.sz x + Tr.sz cr) cr) from Rd.chunk s (T := 63) (l := nc k2 v2 (1 + max (Tr.ht x) (Tr.ht cr)) (1 + Tr.sz x + Tr.sz cr) x.ptr cr.ptr) (Sat.apart (a := [nb c k2 v2 (1 + max (Tr.ht x) (Tr.ht cr)) (1 + Tr.sz x + Tr.sz cr) x.ptr cr.ptr]) (b := [nb b k v (1 + max (Tr.ht l) (Tr.ht (Tr.node c (Tr.node g y k3 v3 h3 n3 x) k2 v2 h2' n2 cr))) (1 + Tr.sz l + Tr.sz (Tr.node c (Tr.node g y k3 v3 h3 n3 x) k2 v2 h2' n2 cr)) l.ptr (.pointer (some ⟨g, 0, none⟩)), nb g k3 v3 (1 + max (Tr.ht y) (Tr.ht (Tr.node c x k2 v2 (1 + max (Tr.ht x) (Tr.ht cr)) (1 + Tr.sz x + Tr.sz cr) cr))) (1 + Tr.sz y + Tr.sz (Tr.node c x k2 v2 (1 + max (Tr.ht x) (Tr.ht cr)) (1 + Tr.sz x + Tr.sz cr) cr)) y.ptr (.pointer (some ⟨c, 0, none⟩))]) s c (by simp [bl])) (fun j v hv => by rw [Nat.zero_add]; exact hv)) (Top.of s (fun z hz => by simp [hz]) (Sat.apart (a := y.H) (b := [nb b k v (1 + max (Tr.ht l) (Tr.ht (Tr.node c (Tr.node g y k3 v3 h3 n3 x) k2 v2 h2' n2 cr))) (1 + Tr.sz l + Tr.sz (Tr.node c (Tr.node g y k3 v3 h3 n3 x) k2 v2 h2' n2 cr)) l.ptr (.pointer (some ⟨g, 0, none⟩)), nb g k3 v3 (1 + max (Tr.ht y) (Tr.ht (Tr.node c x k2 v2 (1 + max (Tr.ht x) (Tr.ht cr)) (1 + Tr.sz x + Tr.sz cr) cr))) (1 + Tr.sz y + Tr.sz (Tr.node c x k2 v2 (1 + max (Tr.ht x) (Tr.ht cr)) (1 + Tr.sz x + Tr.sz cr) cr)) y.ptr (.pointer (some ⟨c, 0, none⟩))]) s)) (Top.of s (fun z hz => by simp [hz]) (Sat.apart (a := l.H) (b := [nb b k v (1 + max (Tr.ht l) (Tr.ht (Tr.node c (Tr.node g y k3 v3 h3 n3 x) k2 v2 h2' n2 cr))) (1 + Tr.sz l + Tr.sz (Tr.node c (Tr.node g y k3 v3 h3 n3 x) k2 v2 h2' n2 cr)) l.ptr (.pointer (some ⟨g, 0, none⟩)), nb g k3 v3 (1 + max (Tr.ht y) (Tr.ht (Tr.node c x k2 v2 (1 + max (Tr.ht x) (Tr.ht cr)) (1 + Tr.sz x + Tr.sz cr) cr))) (1 + Tr.sz y + Tr.sz (Tr.node c x k2 v2 (1 + max (Tr.ht x) (Tr.ht cr)) (1 + Tr.sz x + Tr.sz cr) cr)) y.ptr (.pointer (some ⟨c, 0, none⟩))]) s)) (bd_node gx ad c k2 v2) gy.bd hl.bd (bd_node hl gy b k v))) ?_
          rintro _ _ ⟨_, ⟨rfl, rfl⟩, rfl⟩
          refine .v (.assign rfl) (.nil ?_)
          refine .ret ⟨[_], ⟨rfl, trivial⟩, _, fun _ s => Sat.take (pre := nb g k3 v3 (1 + max (Tr.ht (Tr.node b l k v (1 + max (Tr.ht l) (Tr.ht y)) (1 + Tr.sz l + Tr.sz y) y)) (Tr.ht (Tr.node c x k2 v2 (1 + max (Tr.ht x) (Tr.ht cr)) (1 + Tr.sz x + Tr.sz cr) cr))) (1 + Tr.sz (Tr.node b l k v (1 + max (Tr.ht l) (Tr.ht y)) (1 + Tr.sz l + Tr.sz y) y) + Tr.sz (Tr.node c x k2 v2 (1 + max (Tr.ht x) (Tr.ht cr)) (1 + Tr.sz x + Tr.sz cr) cr)) (Tr.ptr (Tr.node b l k v (1 + max (Tr.ht l) (Tr.ht y)) (1 + Tr.sz l + Tr.sz y) y)) (Tr.ptr (Tr.node c x k2 v2 (1 + max (Tr.ht x) (Tr.ht cr)) (1 + Tr.sz x + Tr.sz cr) cr)) :: ((nb b k v (1 + max (Tr.ht l) (Tr.ht y)) (1 + Tr.sz l + Tr.sz y) (Tr.ptr l) (Tr.ptr y) :: (l.H ++ y.H)) ++ (nb c k2 v2 (1 + max (Tr.ht x) (Tr.ht cr)) (1 + Tr.sz x + Tr.sz cr) (Tr.ptr x) (Tr.ptr cr) :: (x.H ++ cr.H)))) s, by rw [key]; exact ⟨rfl, rfl⟩⟩
      · have key : Tr.flat (.node b l k v h n (Tr.node c cl k2 v2 h2' n2 cr)) = (Tr.node c (Tr.node b l k v (1 + max (Tr.ht l) (Tr.ht cl)) (1 + Tr.sz l + Tr.sz cl) cl) k2 v2 (1 + max (Tr.ht (Tr.node b l k v (1 + max (Tr.ht l) (Tr.ht cl)) (1 + Tr.sz l + Tr.sz cl) cl)) (Tr.ht cr)) (1 + Tr.sz (Tr.node b l k v (1 + max (Tr.ht l) (Tr.ht cl)) (1 + Tr.sz l + Tr.sz cl) cl) + Tr.sz cr) cr) := by
          rw [flat_node, if_neg (hx1 (by omega)), if_pos h2, if_neg (show ¬ (Tr.ht (Tr.rt (Tr.node c cl k2 v2 h2' n2 cr)) < Tr.ht (Tr.lf (Tr.node c cl k2 v2 h2' n2 cr))) from c2)]; rfl
        refine .seq ((.region (.v (.move rfl) (.v (.move rfl) ?_))))
        refine .ef (.callT [nb b k v (1 + max (Tr.ht l) (Tr.ht (Tr.node c cl k2 v2 h2' n2 cr))) (1 + Tr.sz l + Tr.sz (Tr.node c cl k2 v2 h2' n2 cr)) l.ptr (.pointer (some ⟨c, 0, none⟩)), nb c k2 v2 h2' n2 cl.ptr cr.ptr] rfl rfl (fun w s => turned1_ok w b c cr cl l k v _ _ k2 v2 h2' n2 (Top.of s (fun z hz => by simp [hz]) (Sat.apart (a := cr.H) (b := [nb b k v (1 + max (Tr.ht l) (Tr.ht (Tr.node c cl k2 v2 h2' n2 cr))) (1 + Tr.sz l + Tr.sz (Tr.node c cl k2 v2 h2' n2 cr)) l.ptr (.pointer (some ⟨c, 0, none⟩)), nb c k2 v2 h2' n2 cl.ptr cr.ptr]) s)) (Top.of s (fun z hz => by simp [hz]) (Sat.apart (a := cl.H) (b := [nb b k v (1 + max (Tr.ht l) (Tr.ht (Tr.node c cl k2 v2 h2' n2 cr))) (1 + Tr.sz l + Tr.sz (Tr.node c cl k2 v2 h2' n2 cr)) l.ptr (.pointer (some ⟨c, 0, none⟩)), nb c k2 v2 h2' n2 cl.ptr cr.ptr]) s)) (Top.of s (fun z hz => by simp [hz]) (Sat.apart (a := l.H) (b := [nb b k v (1 + max (Tr.ht l) (Tr.ht (Tr.node c cl k2 v2 h2' n2 cr))) (1 + Tr.sz l + Tr.sz (Tr.node c cl k2 v2 h2' n2 cr)) l.ptr (.pointer (some ⟨c, 0, none⟩)), nb c k2 v2 h2' n2 cl.ptr cr.ptr]) s)) ad.bd ac.bd hl.bd (bd_node hl ac b k v))) ?_
        rintro _ _ ⟨_, ⟨rfl, rfl⟩, rfl⟩
        refine .v (.assign rfl) (.nil ?_)
        refine .ret ⟨[_], ⟨rfl, trivial⟩, _, fun _ s => Sat.take (pre := nb c k2 v2 (1 + max (Tr.ht (Tr.node b l k v (1 + max (Tr.ht l) (Tr.ht cl)) (1 + Tr.sz l + Tr.sz cl) cl)) (Tr.ht cr)) (1 + Tr.sz (Tr.node b l k v (1 + max (Tr.ht l) (Tr.ht cl)) (1 + Tr.sz l + Tr.sz cl) cl) + Tr.sz cr) (Tr.ptr (Tr.node b l k v (1 + max (Tr.ht l) (Tr.ht cl)) (1 + Tr.sz l + Tr.sz cl) cl)) (Tr.ptr cr) :: ((nb b k v (1 + max (Tr.ht l) (Tr.ht cl)) (1 + Tr.sz l + Tr.sz cl) (Tr.ptr l) (Tr.ptr cl) :: (l.H ++ cl.H)) ++ cr.H)) s, by rw [key]; exact ⟨rfl, rfl⟩⟩
end Go.Proofs.Ytcmoeoghfckmpaa

/- The way to a key, and up again, in memory. -/
namespace Go.Proofs.Ytcmoeoghfckmpaa
open Go.V
open Tr
set_option linter.unusedVariables false
set_option linter.unusedSimpArgs false

/-- a flat tree of so many keys: its numbers are small -/
theorem Tr.Ok.allBd {t : Tr} (h : t.Ok) (hM : t.toL.length ≤ 1000000000) : t.AllBd := by
  induction t with
  | nil => trivial
  | node b l k v hh n r il ir =>
    have h1 := h.ht_le (by omega)
    have h2 := h.sz_len
    have h3 := h.node_pos
    obtain ⟨a, c, _⟩ := h
    have e : (Tr.node b l k v hh n r).ht = hh := rfl
    have e2 : (Tr.node b l k v hh n r).sz = n := rfl
    rw [e] at h1; rw [e2] at h2
    simp only [Tr.toL, List.length_append, List.length_cons] at hM h2
    exact ⟨il a (by omega), ir c (by omega), ⟨by omega, by omega⟩, by omega, by omega⟩

def Tr.mass : Tr → Nat
  | nil => 0
  | node _ l _ _ _ _ r => l.mass + r.mass + 1
/-- where a link lies -/
def lkA (tb : Nat) : List Fr → Addr
  | [] => ⟨tb, 0, none⟩
  | f :: _ => ⟨f.b, 4 + (if f.s then 1 else 0), none⟩
def lks (tb : Nat) : List Fr → List Value
  | [] => [.pointer (some (lkA tb []))]
  | f :: fs => lks tb fs ++ [.pointer (some (lkA tb (f :: fs)))]
theorem lks_length (tb : Nat) : ∀ fs : List Fr, (lks tb fs).length = fs.length + 1
  | [] => rfl
  | f :: fs => by simp [lks, lks_length tb fs]
theorem lks_last (tb : Nat) (fs : List Fr) : (lks tb fs)[fs.length]? = some (.pointer (some (lkA tb fs))) := by
  cases fs with
  | nil => rfl
  | cons f fs => simp only [lks]; rw [List.getElem?_append_right (by rw [lks_length]; simp)]; simp [lks_length]
theorem lks_tail (tb : Nat) (f : Fr) (fs : List Fr) (i : Nat) (v : Value) (h : (lks tb fs)[i]? = some v) : (lks tb (f :: fs))[i]? = some v := by
  simp only [lks]
  rw [List.getElem?_append_left (List.getElem?_eq_some_iff.1 h).1]; exact h
abbrev Tk (tb : Nat) (tv : Value) : Nat × Ch := (tb, .cells [tv] 26)
/-- a tree in memory -/
def TH (tb : Nat) (t : Tr) : Hp := Tk tb t.ptr :: t.H
/-- the nodes on the way, around a link that holds 'tv' -/
def ZH (tb : Nat) : List Fr → Value → Hp
  | [], tv => [Tk tb tv]
  | f :: fs, tv => nb f.b f.k f.v f.h f.n (if f.s then f.o.ptr else tv) (if f.s then tv else f.o.ptr) :: (f.o.H ++ ZH tb fs (.pointer (some ⟨f.b, 0, none⟩)))
theorem fill_ptr (f : Fr) (t : Tr) : (f.fill t).ptr = .pointer (some ⟨f.b, 0, none⟩) := by unfold Fr.fill; cases f.s <;> rfl
theorem fill_H (f : Fr) (t : Tr) : ∃ l, (f.fill t).H = nb f.b f.k f.v f.h f.n (if f.s then f.o.ptr else t.ptr) (if f.s then t.ptr else f.o.ptr) :: l ∧ l.Perm (f.o.H ++ t.H) := by
  unfold Fr.fill
  cases f.s with
  | true => exact ⟨f.o.H ++ t.H, rfl, List.Perm.refl _⟩
  | false => exact ⟨t.H ++ f.o.H, rfl, List.perm_append_comm⟩
/-- down a step, or up -/
theorem zh_step (tb : Nat) (f : Fr) (fs : List Fr) (t : Tr) : (ZH tb (f :: fs) t.ptr ++ t.H).Perm (ZH tb fs (f.fill t).ptr ++ (f.fill t).H) := by
  obtain ⟨l, h1, h2⟩ := fill_H f t
  rw [h1, fill_ptr]
  show (nb f.b f.k f.v f.h f.n _ _ :: (f.o.H ++ ZH tb fs (.pointer (some ⟨f.b, 0, none⟩))) ++ t.H).Perm _
  refine List.Perm.trans ?_ List.perm_middle.symm
  rw [List.cons_append]
  refine List.Perm.cons _ ?_
  refine List.Perm.trans ?_ (List.Perm.append_left _ h2.symm)
  refine (List.Perm.append_right _ List.perm_append_comm).trans ?_
  rw [List.append_assoc]
theorem zh_all (tb : Nat) : ∀ (fs : List Fr) (t : Tr), (ZH tb fs t.ptr ++ t.H).Perm (TH tb (raw fs t))
  | [], t => List.Perm.refl _
  | f :: fs, t => (zh_step tb f fs t).trans (zh_all tb fs (f.fill t))
theorem zh_link {w0 : World} {own : List Nat} {hs : Hp} (tb : Nat) (fs : List Fr) (tv : Value) (h : ZH tb fs tv ⊆ hs) : At w0 own hs (lkA tb fs) [tv] := by
  cases fs with
  | nil => exact At.one (hb := ⟨h (List.mem_cons_self)⟩) rfl
  | cons f fs =>
    refine At.one (hb := ⟨h (List.mem_cons_self)⟩) ?_
    cases f.s <;> rfl
/-- the link turned -/
theorem zh_set (tb : Nat) (fs : List Fr) (tv : Value) : ∃ (c : List Value) (T : Nat) (rest : Hp), ZH tb fs tv = ((lkA tb fs).block, .cells c T) :: rest ∧ (lkA tb fs).off < c.length ∧ ∀ tv' : Value, ZH tb fs tv' = ((lkA tb fs).block, .cells (c.set (lkA tb fs).off tv') T) :: rest := by
  cases fs with
  | nil => exact ⟨_, _, _, rfl, by simp [lkA], fun _ => rfl⟩
  | cons f fs =>
    refine ⟨_, _, _, rfl, ?_, fun tv' => ?_⟩
    · simp only [lkA]; cases f.s <;> simp
    · simp only [lkA, ZH]; cases f.s <;> rfl
theorem lkA_ptr (tb : Nat) (fs : List Fr) : ∃ b o, lkA tb fs = ⟨b, o, none⟩ := by
  cases fs with
  | nil => exact ⟨_, _, rfl⟩
  | cons f fs => exact ⟨_, _, rfl⟩

/-- a path's cells: its links, and how many -/
structure PathI (ls cs : List Value) : Prop where
  len : cs.length = 97
  n : cs[96]? = some (.int .i64 (ls.length : Nat))
  at_ : ∀ (i : Nat) (v : Value), ls[i]? = some v → cs[i]? = some v
  le : ls.length ≤ 96
abbrev Pk (pb : Nat) (cs : List Value) : Nat × Ch := (pb, .cells cs 59)
def path0 : List Value := List.replicate 96 (.pointer none) ++ [.int .i64 0]
theorem path0_I : PathI [] path0 := ⟨by decide, rfl, fun i v h => by simp at h, by decide⟩
theorem PathI.push {ls cs : List Value} (h : PathI ls cs) (hl : ls.length < 96) (v : Value) : PathI (ls ++ [v]) ((cs.set ls.length v).set 96 (.int .i64 ((ls.length : Int) + 1))) := by
  refine ⟨by simp [h.len], ?_, fun i u hi => ?_, by simp; omega⟩
  · rw [List.getElem?_set_self (by simp [h.len])]; simp
  · have hlt : i < ls.length + 1 := by have := (List.getElem?_eq_some_iff.1 hi).1; simpa using this
    rw [List.getElem?_set_ne (by omega)]
    by_cases e : i = ls.length
    · subst e
      rw [List.getElem?_append_right (Nat.le_refl _)] at hi
      rw [List.getElem?_set_self (by rw [h.len]; omega)]
      simpa using hi
    · rw [List.getElem?_append_left (by omega)] at hi
      rw [List.getElem?_set_ne (by omega)]
      exact h.at_ i u hi
set_option maxRecDepth 10000 in
theorem down_ok (w : World) (pb : Nat) (ls cs : List Value) (h : PathI ls cs) (hl : ls.length < 96) (a : Addr) :
    Does Try.prog 29 [.pointer (some ⟨pb, 0, none⟩), .pointer (some a)] [Pk pb cs] w (fun _ hs => ∃ cs', hs = [Pk pb cs'] ∧ PathI (ls ++ [.pointer (some a)]) cs') := by
  have hn : (96 : Nat) < cs.length := by rw [h.len]; decide
  refine Does.of (n := 20) Try.func29 rfl rfl rfl rfl ?_
  refine .seq ((.drawQ 9 [0, 1, 2, 3, 4, 5, 6, 7, 8, 9] [Pk pb cs] (fun _ h => h) (by kernel_rfl) (by kernel_rfl) ?_))
  refine .v (fun _ f => .move rfl) (.v (fun _ f => .move rfl) (.v (fun _ f => .nilCheck rfl) (.v (fun _ f => .fieldAddr rfl) (.v (fun _ f => .load (v := .int .i64 (ls.length : Nat)) rfl (.one (l := cs) (T := 59) (hb := .sub f) (by simpa using h.n))) (.v (fun _ f => .move rfl) (.v (fun _ f => .nilCheck rfl) (.v (fun _ f => .fieldAddr rfl) (.v (fun _ f => .indexAddrA1 rfl rfl (by omega) (by omega)) (.st (.store rfl rfl rfl (by simp [h.len]; omega)) (.nil ?_))))))))))
  refine .heap (hs' := [Pk pb (cs.set ls.length (.pointer (some a)))]) (fun _ s => by simpa using s) ?_
  have hg : (cs.set ls.length (.pointer (some a)))[96]? = some (.int .i64 (ls.length : Nat)) := by rw [List.getElem?_set_ne (by omega)]; exact h.n
  refine .region (.v (.move rfl) (.v (.nilCheck rfl) (.v (.fieldAddr rfl) (.v (.load (v := .int .i64 (ls.length : Nat)) rfl (.one (l := cs.set ls.length (.pointer (some a))) (T := 59) (by simpa using hg))) (.v (.addi rfl rfl (by omega)) (.v (.nilCheck rfl) (.v (.fieldAddr rfl) (.st (.store rfl rfl rfl (by simp [h.len])) (.nil ?_)))))))))
  exact ⟨[], trivial, _, rfl, by simpa using h.push hl (.pointer (some a))⟩

/-! ### the way -/
theorem way_stop (key : Int) (t : Tr) (fs : List Fr) (h : t = .nil ∨ ∃ b l v h' n r, t = .node b l key v h' n r) : way key t fs = (fs, t) := by
  rcases h with rfl | ⟨b, l, v, h', n, r, rfl⟩
  · rfl
  · simp [way]
set_option maxRecDepth 20000 in
set_option maxHeartbeats 1000000 in
theorem way_ok (w : World) (tb : Nat) (t : Tr) (key : Int) (ho : t.Ok) (hM : t.toL.length ≤ 1000000000) :
    Does Try.prog 24 [.pointer (some ⟨tb, 0, none⟩), .int .i64 key] (TH tb t) w
      (fun u hs => ∃ pb cs, u = .pointer (some ⟨pb, 0, none⟩) ∧ PathI (lks tb (way key t []).1) cs ∧ hs = Pk pb cs :: (ZH tb (way key t []).1 (way key t []).2.ptr ++ (way key t []).2.H)) := by
  have hht := ho.ht_le (by omega)
  refine Does.of (n := 46) Try.func24 rfl rfl rfl rfl ?_
  refine .seq ((.region (.v (.assign rfl) (.nil ?_))))
  refine .seq ((.region (.v (.build (out := path0) rfl rfl) (.nw (.box (l := path0) rfl rfl) fun b8 => (.v (.assign rfl) (.nil ?_))))))
  refine .seq ((.region (.v (.move rfl) (.v (.move rfl) (.v (.nilCheck rfl) (.v (.fieldAddr rfl) ?_))))))
  refine .ef (.callT [Pk b8 path0] rfl rfl fun w s => down_ok w b8 [] path0 path0_I (by decide) ⟨tb, 0, none⟩) ?_
  rintro _ _ ⟨_, ⟨cs0, rfl, hI0⟩, rfl⟩
  refine .nil ?_
  refine .block (.loop (X := List Value × List Fr × Tr) (fun x => [(1, .int .i64 key), (5, .pointer (some ⟨b8, 0, none⟩))]) (fun x => Pk b8 x.1 :: (ZH tb x.2.1 x.2.2.ptr ++ x.2.2.H)) (fun x => PathI (lks tb x.2.1) x.1 ∧ raw x.2.1 x.2.2 = t ∧ way key x.2.2 x.2.1 = way key t []) (fun x => x.2.2.mass)
    ⟨cs0, [], t⟩ ⟨hI0, rfl, rfl⟩ (.cons rfl (.cons rfl (.nil _))) (fun _ s => s) ?_)
  rintro ⟨cs, fs, s⟩ ⟨hI, hraw, hway⟩
  dsimp only at hI hraw hway ⊢
  have hlen := hI.le
  rw [lks_length] at hlen
  obtain ⟨lb, lo, hlk⟩ := lkA_ptr tb fs
  have hlast : cs[fs.length]? = some (.pointer (some (lkA tb fs))) := hI.at_ _ _ (lks_last tb fs)
  have hnn : cs[96]? = some (.int .i64 ((fs.length : Int) + 1)) := by have := hI.n; rw [lks_length] at this; simpa using this
  have hdep := zok_len fs s (by rw [hraw]; exact ho)
  rw [hraw] at hdep
  have hsok := (zok_of fs s (by rw [hraw]; exact ho)).1
  refine .block (.seq ((.drawK (Pk b8 cs :: ZH tb fs s.ptr) (by intro y hy; rcases List.mem_cons.1 hy with rfl | hy; exact List.mem_cons_self; exact List.mem_cons_of_mem _ (List.mem_append_left _ hy)) (by kernel_rfl) (by kernel_rfl) ?_)))
  refine .v (fun _ f => .move rfl) (.v (fun _ f => .move rfl) (.v (fun _ f => .nilCheck rfl) (.v (fun _ f => .fieldAddr rfl) (.v (fun _ f => .load (v := .int .i64 ((fs.length : Int) + 1)) rfl (.one (l := cs) (T := 59) (hb := .sub f) (by simpa using hnn))) (.v (fun _ f => .subE (fs.length : Int) rfl rfl (by omega) (by omega)) (.v (fun _ f => .nilCheck rfl) (.v (fun _ f => .fieldAddr rfl) (.v (fun _ f => .indexAddrA1 rfl rfl (by omega) (by omega)) ?_))))))))
  refine .v (fun _ f => .load (v := .pointer (some (lkA tb fs))) rfl (.one (l := cs) (T := 59) (hb := .sub f) (by simpa using hlast))) (.v (fun _ f => .nilCheck rfl) (.v (fun _ f => .load (v := s.ptr) rfl (zh_link tb fs s.ptr (fun y hy => f (List.mem_cons_of_mem _ hy)))) (.v (fun _ f => .assign rfl) (.nil ?_))))
  cases s with
  | nil =>
    refine .seq (.seq ((.region (.v (.move rfl) (.v (.eql_ptr_nil rfl rfl) (.v (.move rfl) (.or (b2 := true) 28 34 6 6 rfl rfl (fun g1 => absurd g1 (by simp)) (.nil ?_))))))))
    refine .cond rfl (fun _ => ?_) (fun h => absurd h (by simp))
    refine .seq ((.region (.v (.move rfl) (.v (.assign rfl) (.nil ?_)))))
    rw [way_stop key .nil fs (.inl rfl)] at hway
    exact .ret ⟨[_], ⟨rfl, trivial⟩, b8, cs, rfl, by rw [← hway]; exact hI, by rw [← hway]⟩
  | node b l k v h n r =>
    obtain ⟨ol, or_, oh, on, ob1, ob2⟩ := hsok
    have pl := ol.ht_pos
    have pr := or_.ht_pos
    have hdep' : (fs.length : Int) + h ≤ t.ht := hdep
    refine .heap (hs' := Pk b8 cs :: (ZH tb fs (.pointer (some ⟨b, 0, none⟩)) ++ nb b k v h n l.ptr r.ptr :: (l.H ++ r.H))) (fun _ s => s) ?_
    refine .seq (.seq ((.region (.v (.move rfl) (.v (.eql_ptr_nil (a := some ⟨b, 0, none⟩) rfl rfl) (.v (.move rfl) (.or (b2 := decide (k = key)) 28 34 6 6 rfl rfl (fun g1 => .v (.move rfl) (.v (.nilCheck (a := ⟨b, 0, none⟩) rfl) (.v (.fieldAddr rfl) (.v (.load (v := .int .i64 k) rfl (.one rfl)) (.v (.move rfl) (.v (.eqi rfl rfl) (.nil ⟨rfl, rfl, rfl, rfl⟩))))))) (.nil ?_))))))))
    refine .cond rfl (fun h1 => ?_) (fun h1 => .skip ?_)
    · have hk : k = key := by simpa using h1
      subst hk
      refine .seq ((.region (.v (.move rfl) (.v (.assign rfl) (.nil ?_)))))
      rw [way_stop k (.node b l k v h n r) fs (.inr ⟨_, _, _, _, _, _, rfl⟩)] at hway
      exact .ret ⟨[_], ⟨rfl, trivial⟩, b8, cs, rfl, by rw [← hway]; exact hI, by rw [← hway]; rfl⟩
    · have hk : ¬ k = key := by simpa using h1
      refine (.drawP [0, 1, 2, 3, 5, 6, 4, 7, 8] [] (List.nil_subset _) (by kernel_rfl) (by kernel_rfl) ?_)
      refine .v (fun _ f => .move rfl) (.v (fun _ f => .move rfl) (.v (fun _ f => .move rfl) (.v (fun _ f => .move rfl) (.v (fun _ f => .nilCheck (a := ⟨b, 0, none⟩) rfl) (.v (fun _ f => .fieldAddr rfl) ?_)))))
      refine .pc rfl rfl (fun w s => side_ok w b l.ptr r.ptr k v h n key (Rd.chunk s (T := 63) (l := nc k v h n l.ptr r.ptr) (by simp) (fun j u hv => by rw [Nat.zero_add]; exact hv))) ?_
      have hls : (lks tb fs).length < 96 := by rw [lks_length]; omega
      by_cases hkk : k < key
      · rw [if_pos hkk]
        refine .v (fun _ f => .indexAddrA1 rfl rfl (by omega) (by omega)) ?_
        refine .ef (.callT [Pk b8 cs] rfl rfl fun w s => down_ok w b8 (lks tb fs) cs hI hls ⟨b, 4 + 1, none⟩) (fun _ _ _ _ => List.nil_subset _) ?_
        rintro _ _ ⟨_, ⟨cs', rfl, hI'⟩, rfl⟩
        refine .nil ?_
        refine ⟨⟨cs', ⟨b, true, k, v, h, n, l⟩ :: fs, r⟩, ⟨hI', hraw, ?_⟩, ?_, .cons rfl (.cons rfl (.nil _)), fun _ s => ?_⟩
        · rw [← hway]; simp only [way]; rw [if_neg hk, if_pos hkk]
        · show r.mass < l.mass + r.mass + 1; omega
        · refine s.perm (List.Perm.cons _ ?_)
          exact (zh_step tb ⟨b, true, k, v, h, n, l⟩ fs r).symm
      · rw [if_neg hkk]
        refine .v (fun _ f => .indexAddrA1 rfl rfl (by omega) (by omega)) ?_
        refine .ef (.callT [Pk b8 cs] rfl rfl fun w s => down_ok w b8 (lks tb fs) cs hI hls ⟨b, 4 + 0, none⟩) (fun _ _ _ _ => List.nil_subset _) ?_
        rintro _ _ ⟨_, ⟨cs', rfl, hI'⟩, rfl⟩
        refine .nil ?_
        refine ⟨⟨cs', ⟨b, false, k, v, h, n, r⟩ :: fs, l⟩, ⟨hI', hraw, ?_⟩, ?_, .cons rfl (.cons rfl (.nil _)), fun _ s => ?_⟩
        · rw [← hway]; simp only [way]; rw [if_neg hk, if_neg hkk]
        · show l.mass < l.mass + r.mass + 1; omega
        · refine s.perm (List.Perm.cons _ ?_)
          exact (zh_step tb ⟨b, false, k, v, h, n, r⟩ fs l).symm
end Go.Proofs.Ytcmoeoghfckmpaa

/- Up the way: all nodes on it made flat. -/
namespace Go.Proofs.Ytcmoeoghfckmpaa
open Go.V
open Tr
set_option linter.unusedVariables false
set_option linter.unusedSimpArgs false

/-- what is made flat: its kids are, and stand two apart at most -/
def Nr : Tr → Prop
  | .nil => True
  | .node _ l _ _ _ _ r => l.Ok ∧ r.Ok ∧ l.ht ≤ r.ht + 2 ∧ r.ht ≤ l.ht + 2
theorem Nr.ok {t : Tr} (h : Nr t) : t.flat.Ok := by
  cases t with
  | nil => trivial
  | node b l k v hh n r => exact (Tr.flat_ok b k v hh n h.1 h.2.1 h.2.2.1 h.2.2.2).1
theorem Tr.Ok.nr {t : Tr} (h : t.Ok) : Nr t := by
  cases t with
  | nil => trivial
  | node b l k v hh n r => obtain ⟨a, c, _, _, d, e⟩ := h; exact ⟨a, c, by omega, by omega⟩
theorem nr_step {f : Fr} {fs : List Fr} {h : Int} (hz : Zok (f :: fs) h) {t : Tr} (ht : t.Ok) (h1 : t.ht ≤ h + 1) (h2 : h ≤ t.ht + 1) :
    Nr (f.fill t) ∧ Zok fs f.h ∧ (f.fill t).flat.ht ≤ f.h + 1 ∧ f.h ≤ (f.fill t).flat.ht + 1 := by
  obtain ⟨a, b, c, d, e⟩ := hz
  have hn : Nr (f.fill t) := by
    unfold Fr.fill
    cases f.s with
    | true => exact ⟨a, ht, by omega, by omega⟩
    | false => exact ⟨ht, a, by omega, by omega⟩
  refine ⟨hn, e, ?_⟩
  unfold Fr.fill
  cases f.s with
  | true =>
    obtain ⟨k1, k2, k3, k4⟩ := Tr.flat_ok f.b (l := f.o) (r := t) f.k f.v f.h f.n a ht (by omega) (by omega)
    constructor
    · show (Tr.flat (.node f.b f.o f.k f.v f.h f.n t)).ht ≤ _; omega
    · show _ ≤ (Tr.flat (.node f.b f.o f.k f.v f.h f.n t)).ht + 1
      by_cases q : f.o.ht ≤ t.ht + 1 ∧ t.ht ≤ f.o.ht + 1
      · have := k4 q.1 q.2; omega
      · omega
  | false =>
    obtain ⟨k1, k2, k3, k4⟩ := Tr.flat_ok f.b (l := t) (r := f.o) f.k f.v f.h f.n ht a (by omega) (by omega)
    constructor
    · show (Tr.flat (.node f.b t f.k f.v f.h f.n f.o)).ht ≤ _; omega
    · show _ ≤ (Tr.flat (.node f.b t f.k f.v f.h f.n f.o)).ht + 1
      by_cases q : t.ht ≤ f.o.ht + 1 ∧ f.o.ht ≤ t.ht + 1
      · have := k4 q.1 q.2; omega
      · omega
structure UpI (tb : Nat) (R : Tr) (m : Nat) (cs : List Value) (fs : List Fr) (t : Tr) : Prop where
  len : cs.length = 97
  n : cs[96]? = some (.int .i64 (m : Nat))
  go : (m = fs.length + 1 ∧ (∀ (i : Nat) (v : Value), (lks tb fs)[i]? = some v → cs[i]? = some v) ∧ fs.length < 96 ∧ Nr t ∧ (∃ h, Zok fs h ∧ t.flat.ht ≤ h + 1 ∧ h ≤ t.flat.ht + 1) ∧ (ahead fs).length + t.toL.length + (behind fs).length ≤ 1000000000 ∧ plug fs t.flat = R) ∨ (m = 0 ∧ fs = [] ∧ t = R)
theorem flat_len (t : Tr) : t.flat.toL.length = t.toL.length := by rw [Tr.flat_toL]
set_option maxRecDepth 20000 in
set_option maxHeartbeats 1000000 in
theorem up_ok (w : World) (tb pb : Nat) (fs0 : List Fr) (t0 : Tr) (cs0 : List Value) (hI : PathI (lks tb fs0) cs0) (hN : Nr t0) (h : Int) (hz : Zok fs0 h) (h1 : t0.flat.ht ≤ h + 1) (h2 : h ≤ t0.flat.ht + 1) (hM : (ahead fs0).length + t0.toL.length + (behind fs0).length ≤ 1000000000) :
    Does Try.prog 26 [.pointer (some ⟨pb, 0, none⟩)] (Pk pb cs0 :: (ZH tb fs0 t0.ptr ++ t0.H)) w (fun _ hs => hs = TH tb (plug fs0 t0.flat)) := by
  refine Does.less (Does.of (n := 34) Try.func26 rfl rfl rfl rfl ?_)
  have hle0 := hI.le
  rw [lks_length] at hle0
  refine .block (.loop (X := Nat × List Value × List Fr × Tr) (fun x => [(0, .pointer (some ⟨pb, 0, none⟩))]) (fun x => Pk pb x.2.1 :: (ZH tb x.2.2.1 x.2.2.2.ptr ++ x.2.2.2.H)) (fun x => UpI tb (plug fs0 t0.flat) x.1 x.2.1 x.2.2.1 x.2.2.2) (fun x => x.1)
    ⟨fs0.length + 1, cs0, fs0, t0⟩ ⟨hI.len, by have := hI.n; rwa [lks_length] at this, .inl ⟨rfl, hI.at_, by show fs0.length < 96; omega, hN, ⟨h, hz, h1, h2⟩, hM, rfl⟩⟩ (.cons rfl (.nil _)) (fun _ s => s) ?_)
  rintro ⟨m, cs, fs, t⟩ ⟨hlen, hn, hgo⟩
  dsimp only at hlen hn hgo ⊢
  refine .seq (.seq ((.region (.v (.move rfl) (.v (.nilCheck rfl) (.v (.fieldAddr rfl) (.v (.load (v := .int .i64 (m : Nat)) rfl (.one (l := cs) (T := 59) (by simpa using hn))) (.v (.gtr rfl rfl) (.nil ?_)))))))))
  refine .cond_dec rfl (fun g1 => .skip ?_) (fun g1 => .exit ?_)
  case refine_2 =>
    obtain ⟨_, rfl, rfl⟩ : m = 0 ∧ fs = [] ∧ t = plug fs0 t0.flat := by
      rcases hgo with h | h
      · omega
      · exact h
    exact ⟨[], trivial, _, fun _ s => s.sub (List.sublist_cons_self _ _), rfl⟩
  obtain ⟨hm, hat, hfl, hNt, ⟨hh, hz', hb1, hb2⟩, hM', hR⟩ : m = fs.length + 1 ∧ _ := by
    rcases hgo with h | h
    · exact h
    · omega
  subst hm
  have hlast : cs[fs.length]? = some (.pointer (some (lkA tb fs))) := hat _ _ (lks_last tb fs)
  have hset : ∀ i, i < 96 → (cs.set 96 (.int .i64 (fs.length : Nat)))[i]? = cs[i]? := fun i hi => List.getElem?_set_ne (by omega)
  obtain ⟨cs', hcs'⟩ : ∃ cs', cs' = cs.set 96 (.int .i64 (fs.length : Nat)) := ⟨_, rfl⟩
  have hlen' : cs'.length = 97 := by rw [hcs']; simp [hlen]
  have hn' : cs'[96]? = some (.int .i64 (fs.length : Nat)) := by rw [hcs', List.getElem?_set_self (by omega)]
  have hlast' : cs'[fs.length]? = some (.pointer (some (lkA tb fs))) := by rw [hcs', hset _ hfl]; exact hlast
  have key : ∃ X : Nat × List Value × List Fr × Tr, UpI tb (plug fs0 t0.flat) X.1 X.2.1 X.2.2.1 X.2.2.2 ∧ X.1 < fs.length + 1 ∧ ∀ w0 own w, Sat w0 own (Pk pb cs' :: (ZH tb fs t.flat.ptr ++ t.flat.H)) w → Sat w0 own (Pk pb X.2.1 :: (ZH tb X.2.2.1 X.2.2.2.ptr ++ X.2.2.2.H)) w := by
    cases fs with
    | nil => exact ⟨⟨0, cs', [], t.flat⟩, ⟨hlen', hn', .inr ⟨rfl, rfl, hR⟩⟩, by simp, fun _ _ _ s => s⟩
    | cons f fs =>
      obtain ⟨q1, q2, q3, q4⟩ := nr_step hz' hNt.ok hb1 hb2
      refine ⟨⟨fs.length + 1, cs', fs, f.fill t.flat⟩, ⟨hlen', hn', .inl ⟨rfl, fun i v hv => ?_, by show fs.length < 96; simp at hfl; omega, q1, ⟨f.h, q2, q3, q4⟩, ?_, hR⟩⟩, by simp, fun _ _ _ s => s.perm (List.Perm.cons _ (zh_step tb f fs t.flat))⟩
      · have hi := (List.getElem?_eq_some_iff.1 hv).1
        rw [lks_length] at hi
        have hi : i < fs.length + 1 := hi
        simp only [List.length_cons] at hfl
        rw [hcs', hset i (by omega)]
        exact hat i v (lks_tail tb f fs i v hv)
      · have e1 : (raw fs (f.fill t.flat)).toL.length = (raw (f :: fs) t.flat).toL.length := rfl
        rw [raw_toL, raw_toL] at e1
        simp only [List.length_append] at e1
        rw [flat_len] at e1
        show (ahead fs).length + (f.fill t.flat).toL.length + (behind fs).length ≤ _
        omega
  obtain ⟨lb, lo, hlk⟩ := lkA_ptr tb fs
  refine .block (.seq ((.region (.v (.move rfl) (.v (.nilCheck rfl) (.v (.fieldAddr rfl) (.v (.load (v := .int .i64 ((fs.length + 1 : Nat))) rfl (.one (l := cs) (T := 59) (by simpa using hn))) (.v (.subE (fs.length : Int) rfl rfl (by omega) (by omega)) (.v (.nilCheck rfl) (.v (.fieldAddr rfl) (.st (.store rfl rfl rfl (by omega)) (.nil ?_))))))))))))
  refine .heap (hs' := Pk pb cs' :: (ZH tb fs t.ptr ++ t.H)) (fun _ s => by rw [hcs']; simpa using s) ?_
  refine .seq ((.drawK [Pk pb cs'] (by intro y hy; simp at hy; subst hy; exact List.mem_cons_self) (by kernel_rfl) (by kernel_rfl) ?_))
  refine .v (fun _ f => .move rfl) (.v (fun _ f => .move rfl) (.v (fun _ f => .nilCheck rfl) (.v (fun _ f => .fieldAddr rfl) (.v (fun _ f => .load (v := .int .i64 (fs.length : Nat)) rfl (.one (l := cs') (T := 59) (hb := .sub f) (by simpa using hn'))) (.v (fun _ f => .nilCheck rfl) (.v (fun _ f => .fieldAddr rfl) (.v (fun _ f => .indexAddrA1 rfl rfl (by omega) (by omega)) ?_)))))))
  refine .v (fun _ f => .load (v := .pointer (some (lkA tb fs))) rfl (.one (l := cs') (T := 59) (hb := .sub f) (by simpa using hlast'))) (.v (fun _ f => .assign rfl) (.nil ?_))
  have hz1 : ZH tb fs t.ptr ⊆ Pk pb cs' :: (ZH tb fs t.ptr ++ t.H) := fun y hy => List.mem_cons_of_mem _ (List.mem_append_left _ hy)
  refine .seq ((.region (.v (.move rfl) (.v (.nilCheck rfl) (.v (.load (v := t.ptr) rfl (zh_link tb fs t.ptr hz1)) ?_)))))
  obtain ⟨X, x1, x2, x3⟩ := key
  cases t with
  | nil =>
    refine .v (.neq_ptr_nil (a := none) rfl rfl) (.nil ?_)
    refine .cond rfl (fun h => absurd h (by simp)) (fun _ => .skip ?_)
    exact ⟨X, x1, x2, .cons rfl (.nil _), fun w s => x3 _ _ w s⟩
  | node b l k v hh' n r =>
    refine .v (.neq_ptr_nil (a := some ⟨b, 0, none⟩) rfl rfl) (.nil ?_)
    refine .cond rfl (fun _ => ?_) (fun h => absurd h (by simp))
    obtain ⟨c, T, rest, e1, e2, e3⟩ := zh_set tb fs (.pointer (some ⟨b, 0, none⟩))
    obtain ⟨n1, n2, n3, n4⟩ := hNt
    have hlr : (l.toL.length ≤ 1000000000 ∧ r.toL.length ≤ 1000000000) := by simp only [Tr.toL, List.length_append, List.length_cons] at hM'; omega
    have hatl := fun hs' hsub => zh_link (w0 := w) (own := bl (Pk pb cs0 :: (ZH tb fs0 t0.ptr ++ t0.H))) (hs := hs') tb fs (.pointer (some ⟨b, 0, none⟩)) hsub
    rw [hlk] at e1 e2 e3 hatl
    dsimp only at e1 e2 e3
    refine .heap (hs' := Pk pb cs' :: (((lb, .cells c T) :: rest) ++ (Tr.node b l k v hh' n r).H)) (fun _ s => by rw [← e1]; exact s) ?_
    rw [hlk]
    refine .region (.v (.move rfl) (.v (.move rfl) (.v (.nilCheck rfl) (.v (.load (v := .pointer (some ⟨b, 0, none⟩)) rfl (hatl _ (fun y hy => by rw [e1] at hy; simp only [List.mem_cons, List.mem_append]; rcases List.mem_cons.1 hy with rfl | hy; simp; simp [hy]))) ?_))))
    refine .ef (.callT ((Tr.node b l k v hh' n r).H) rfl rfl fun w s => nflat_ok w b l r k v hh' n (n1.allBd hlr.1) (n2.allBd hlr.2)) ?_
    rintro _ _ ⟨_, ⟨rfl, rfl⟩, rfl⟩
    refine .v (.nilCheck rfl) (.st (.store rfl rfl (by cases (Tr.flat (.node b l k v hh' n r)) <;> rfl) e2) (.nil ?_))
    refine ⟨X, x1, x2, .cons rfl (.nil _), fun w s => x3 _ _ w ?_⟩
    rw [e3]
    exact Sat.take (pre := Pk pb cs' :: (((lb, .cells (c.set lo (Tr.flat (.node b l k v hh' n r)).ptr) T) :: rest) ++ (Tr.flat (.node b l k v hh' n r)).H)) s
end Go.Proofs.Ytcmoeoghfckmpaa
