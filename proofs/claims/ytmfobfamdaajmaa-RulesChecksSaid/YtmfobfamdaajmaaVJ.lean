/- VJ: '&&' and '||' inside a region: the guarded operations are walked once, their results forgotten behind the pick. -/
import Derived.Test.YtmfobfamdaajmaaVI
namespace Go
namespace V
open Go.RowKit
set_option linter.unusedVariables false
set_option linter.unusedSimpArgs false

/-- 'e'' is 'e', with k things laid on it, in slots that 'e' does not speak of -/
def Pop (k : Nat) (e' e : Env) : Prop := e'.drop k = e ∧ ((e'.take k).all fun p => (get e p.1).isNone) = true
theorem sub_app : ∀ (x e : Env), (x.all fun p => (get e p.1).isNone) = true → Sub e (x ++ e)
  | [], e, _ => Sub.refl e
  | p :: x, e, h => by
    simp only [List.all_cons, Bool.and_eq_true] at h
    intro t v hv
    show get (p :: (x ++ e)) t = some v
    unfold get
    cases hb : Nat.beq p.1 t with
    | true =>
      have := Nat.eq_of_beq_eq_true hb
      rw [this, hv] at h
      simp at h
    | false => exact sub_app x e h.2 t v hv
theorem Pop.sub {k : Nat} {e' e : Env} (h : Pop k e' e) : Sub e e' := by
  obtain ⟨h1, h2⟩ := h
  have := sub_app (e'.take k) e h2
  rw [← h1] at this ⊢
  rwa [List.take_append_drop] at this

def skOne (ops : Array Oper) (e : Env) (o : Oper) : Bool := match o.guard with
  | none => false
  | some (j, want) => match (ops[j]?).bind (·.dst) with
    | some t => match get e t with
      | some (.bool b) => !(b == want)
      | some (.tuple ⟨[]⟩) => true
      | _ => false
    | none => false
/-- all of these are passed over -/
def skB (ops : Array Oper) (n : Nat) : List Oper → Env → Option Env
  | [], e => some e
  | o :: l, e => match o.dst with
    | some d => if Nat.blt d n && (get e d).isNone && skOne ops e o then skB ops n l ((d, undef) :: e) else none
    | none => none

section
variable {P : Program} {n : Nat} {w0 : World} {own : List Nat} {e : Env} {hs : Hp} {ops : Array Oper} {rest l : List Oper} {K : Env → Hp → Prop}
variable {d : Nat} {ty : TypeId} {pos : String} {aft : Array Edge} {g : Option (Nat × Bool)}

theorem skip_step {o : Oper} {dd : Nat} {a : Act} (hr : Rep n a e) (ho : o.dst = some dd) (h : skOne ops e o = true) : Region.wanted o (yielded ops a.tmps) = false := by
  unfold Region.wanted
  unfold skOne at h
  cases hg : o.guard with
  | none => rw [hg] at h; cases h
  | some jw =>
    obtain ⟨j, want⟩ := jw
    rw [hg] at h
    simp only at h ⊢
    cases hd : (ops[j]?).bind (·.dst) with
    | none => rw [hd] at h; cases h
    | some t =>
      rw [hd] at h
      simp only at h
      cases ht : get e t with
      | none => rw [ht] at h; cases h
      | some v =>
        rw [ht] at h
        have hat := hr.at_ t v ht
        unfold yielded
        rw [hd]
        simp only [Option.bind_some, hat]
        split at h
        · rename_i b hb
          cases hb
          cases b <;> cases want <;> simp_all
        · rename_i hb
          cases hb
          cases want <;> rfl
        · cases h
theorem JL.skips : ∀ {l : List Oper} {e e1 : Env}, skB ops n l e = some e1 → (∀ e1', Sub e e1' → JL P n w0 own ops [] e1' hs K) → JL P n w0 own ops l e hs K
  | [], e, e1, h, k => k e (Sub.refl e)
  | o :: l, e, e1, h, k => by
    unfold skB at h
    cases ho : o.dst with
    | none => rw [ho] at h; cases h
    | some dd =>
      rw [ho] at h
      simp only at h
      split at h
      · rename_i hc
        rw [Bool.and_eq_true, Bool.and_eq_true] at hc
        obtain ⟨⟨c1, c2⟩, c3⟩ := hc
        intro a w hr s Q hq
        unfold wpList
        rw [if_neg (by rw [skip_step hr ho c3]; simp), ho]
        refine JL.skips h (fun e1' hs' => k e1' (Sub.trans ?_ hs')) _ _ (hr.put (Nat.le_of_ble_eq_true c1) undef) s Q hq
        exact sub_app [(dd, undef)] e (by simp [c2])
      · cases h
theorem JL.app {l1 l2 : List Oper} (h : JL P n w0 own ops l1 e hs (fun e' hs' => JL P n w0 own ops l2 e' hs' K)) : JL P n w0 own ops (l1 ++ l2) e hs K := by
  intro a w hr s Q hq
  have key : ∀ (l1 : List Oper) (a : Act) (w : World), wpList P ops (fun x a w => match x with | .normal => wpList P ops Q l2 a w | x => Q x a w) l1 a w → wpList P ops Q (l1 ++ l2) a w := by
    intro l1
    induction l1 with
    | nil => intro a w h; exact h
    | cons o l1 ih =>
      intro a w h
      unfold wpList at h
      rw [List.cons_append]
      unfold wpList
      split
      · rename_i hw
        rw [if_pos hw] at h
        rcases h with h | ⟨h1, h2⟩
        · refine .inl ?_
          unfold Oper.wp at *
          generalize (execOp a.eval o).run P w = r at *
          cases r with
          | ok nx w' =>
            cases nx with
            | value v => exact ih _ _ h
            | skip => exact ih _ _ h
            | defer d => exact ih _ _ h
            | enter f args =>
              refine Calls.mono h ?_
              rintro x w'' hx
              cases x with
              | returned v => exact ih _ _ hx
              | panicked c => exact hx
              | outgrown => exact hx
            | row r args => exact Rows.mono h fun v w'' hx => ih _ _ hx
            | _ => exact h
          | halt x w' => cases x <;> exact h
        · exact .inr ⟨h1, h2⟩
      · rename_i hw
        rw [if_neg hw] at h
        exact ih _ _ h
  exact key l1 a w (h a w hr s _ fun e' hs' a' w' r s' kk => kk a' w' r s' Q hq)

/-- '&&' -/
theorem JL.and {b1 b2 : Bool} (t y m k : Nat) (hl : l.drop m = ⟨some d, .pick (.tmp t) (.tmp y) (.const (.bool false)), ty, pos, aft, g⟩ :: rest) (ht : get e t = some (.bool b1))
    (h : b1 = true → JL P n w0 own ops (l.take m) ((t, .bool true) :: e) hs (fun e' hs' => hs' = hs ∧ get e' y = some (.bool b2) ∧ Pop k e' ((t, .bool true) :: e)))
    (kk : JL P n w0 own ops rest ((d, .bool (b1 && b2)) :: e) hs K)
    (hsk : (skB ops n (l.take m) ((t, .bool false) :: e)).isSome = true := by rfl)
    (hdn : Nat.blt d n = true := by rfl) (hg : wantB ops e g = some true := by rfl) : JL P n w0 own ops l e hs K := by
  rw [← List.take_append_drop m l, hl]
  refine JL.app ?_
  have fin : ∀ (e1 : Env) (c : Value), Sub e e1 → get e1 y = some c ∨ b1 = false → (b1 = true → c = .bool b2) → JL P n w0 own ops (⟨some d, .pick (.tmp t) (.tmp y) (.const (.bool false)), ty, pos, aft, g⟩ :: rest) e1 hs K := by
    intro e1 c hsub hy hc a w hr s Q hq
    have hr' := hr.sub hsub
    unfold wpList
    rw [if_pos (wanted_of hr' hg)]
    refine .inl ?_
    have e1t := hr.eval (x := .tmp t) (hsub t _ ht)
    have hrun : (execOp a.eval ⟨some d, .pick (.tmp t) (.tmp y) (.const (.bool false)), ty, pos, aft, g⟩).run P w = .ok (.value (.bool (b1 && b2))) w := by
      cases hb : b1 with
      | false =>
        rw [hb] at e1t
        have e3 : ∀ v, a.eval (.const v) = v := fun _ => rfl
        simp [execOp, e1t, asBool, e3]
      | true =>
        rw [hb] at e1t
        rcases hy with hy | hy
        · rw [hc hb] at hy
          have e2 := hr.eval (x := .tmp y) hy
          simp [execOp, e1t, e2, asBool]
        · rw [hb] at hy; cases hy
    simp only [Oper.wp, hrun, Oper.upon_value]
    exact kk _ _ (hr'.put (Nat.le_of_ble_eq_true hdn) _) s Q hq
  cases hb : b1 with
  | true =>
    rw [hb] at ht
    have hsub : Sub e ((t, .bool true) :: e) := fun s v hv => by
      unfold get
      cases hb : Nat.beq t s with
      | true => have := Nat.eq_of_beq_eq_true hb; subst this; rw [ht] at hv; simpa using hv
      | false => exact hv
    intro a w hr s
    refine (h hb).mono (fun e' hs' ⟨h1, h2, h3⟩ => ?_) a w (hr.same ht) s
    subst h1
    exact fin e' (.bool b2) (hsub.trans h3.sub) (.inl h2) (fun _ => rfl)
  | false =>
    rw [hb] at ht
    have hsub : Sub e ((t, .bool false) :: e) := fun s v hv => by
      unfold get
      cases hb : Nat.beq t s with
      | true => have := Nat.eq_of_beq_eq_true hb; subst this; rw [ht] at hv; simpa using hv
      | false => exact hv
    obtain ⟨e1, he1⟩ := Option.isSome_iff_exists.1 hsk
    intro a w hr s
    exact JL.skips he1 (fun e1' hs' => JL.nil (fin e1' (.bool b2) (hsub.trans hs') (.inr hb) (fun _ => rfl))) a w (hr.same ht) s
/-- '||' -/
theorem JL.or {b1 b2 : Bool} (t y m k : Nat) (hl : l.drop m = ⟨some d, .pick (.tmp t) (.const (.bool true)) (.tmp y), ty, pos, aft, g⟩ :: rest) (ht : get e t = some (.bool b1))
    (h : b1 = false → JL P n w0 own ops (l.take m) ((t, .bool false) :: e) hs (fun e' hs' => hs' = hs ∧ get e' y = some (.bool b2) ∧ Pop k e' ((t, .bool false) :: e)))
    (kk : JL P n w0 own ops rest ((d, .bool (b1 || b2)) :: e) hs K)
    (hsk : (skB ops n (l.take m) ((t, .bool true) :: e)).isSome = true := by rfl)
    (hdn : Nat.blt d n = true := by rfl) (hg : wantB ops e g = some true := by rfl) : JL P n w0 own ops l e hs K := by
  rw [← List.take_append_drop m l, hl]
  refine JL.app ?_
  have fin : ∀ (e1 : Env) (c : Value), Sub e e1 → get e1 y = some c ∨ b1 = true → (b1 = false → c = .bool b2) → JL P n w0 own ops (⟨some d, .pick (.tmp t) (.const (.bool true)) (.tmp y), ty, pos, aft, g⟩ :: rest) e1 hs K := by
    intro e1 c hsub hy hc a w hr s Q hq
    have hr' := hr.sub hsub
    unfold wpList
    rw [if_pos (wanted_of hr' hg)]
    refine .inl ?_
    have e1t := hr.eval (x := .tmp t) (hsub t _ ht)
    have hrun : (execOp a.eval ⟨some d, .pick (.tmp t) (.const (.bool true)) (.tmp y), ty, pos, aft, g⟩).run P w = .ok (.value (.bool (b1 || b2))) w := by
      cases hb : b1 with
      | true =>
        rw [hb] at e1t
        have e3 : ∀ v, a.eval (.const v) = v := fun _ => rfl
        simp [execOp, e1t, asBool, e3]
      | false =>
        rw [hb] at e1t
        rcases hy with hy | hy
        · rw [hc hb] at hy
          have e2 := hr.eval (x := .tmp y) hy
          simp [execOp, e1t, e2, asBool]
        · rw [hb] at hy; cases hy
    simp only [Oper.wp, hrun, Oper.upon_value]
    exact kk _ _ (hr'.put (Nat.le_of_ble_eq_true hdn) _) s Q hq
  cases hb : b1 with
  | false =>
    rw [hb] at ht
    have hsub : Sub e ((t, .bool false) :: e) := fun s v hv => by
      unfold get
      cases hb : Nat.beq t s with
      | true => have := Nat.eq_of_beq_eq_true hb; subst this; rw [ht] at hv; simpa using hv
      | false => exact hv
    intro a w hr s
    refine (h hb).mono (fun e' hs' ⟨h1, h2, h3⟩ => ?_) a w (hr.same ht) s
    subst h1
    exact fin e' (.bool b2) (hsub.trans h3.sub) (.inl h2) (fun _ => rfl)
  | true =>
    rw [hb] at ht
    have hsub : Sub e ((t, .bool true) :: e) := fun s v hv => by
      unfold get
      cases hb : Nat.beq t s with
      | true => have := Nat.eq_of_beq_eq_true hb; subst this; rw [ht] at hv; simpa using hv
      | false => exact hv
    obtain ⟨e1, he1⟩ := Option.isSome_iff_exists.1 hsk
    intro a w hr s
    exact JL.skips he1 (fun e1' hs' => JL.nil (fin e1' (.bool b2) (hsub.trans hs') (.inr hb) (fun _ => rfl))) a w (hr.same ht) s
end
end V
end Go
