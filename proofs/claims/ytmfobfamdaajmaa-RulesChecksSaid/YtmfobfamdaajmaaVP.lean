/- VP: '&&' and '||' in regions that draw and turn nothing. -/
import Derived.Test.YtmfobfamdaajmaaVO
namespace Go
namespace V
open Go.RowKit
set_option linter.unusedVariables false
set_option linter.unusedSimpArgs false

section
variable {P : Program} {n : Nat} {w0 : World} {own : List Nat} {e : Env} {hs : Hp} {ops : Array Oper} {rest l : List Oper} {K : Env → Prop}
variable {d : Nat} {ty : TypeId} {pos : String} {aft : Array Edge} {g : Option (Nat × Bool)}

theorem JH.mono {l : List Oper} {K' : Env → Prop} (h : JH P n w0 own ops l e hs K) (k : ∀ e, K e → K' e) : JH P n w0 own ops l e hs K' :=
  fun a w hr s L hL => h a w hr s L fun e' a' r kk => hL e' a' r (k _ kk)
theorem JH.skips : ∀ {l : List Oper} {e e1 : Env}, skB ops n l e = some e1 → (∀ e1', Sub e e1' → JH P n w0 own ops [] e1' hs K) → JH P n w0 own ops l e hs K
  | [], e, e1, h, k => k e (Sub.refl e)
  | o :: l, e, e1, h, k => by
    unfold skB at h
    cases ho : o.dst with
    | none => rw [ho] at h; cases h
    | some dd =>
      rw [ho] at h
      simp only at h
      split at h
      · rename_i hc
        rw [Bool.and_eq_true, Bool.and_eq_true] at hc
        obtain ⟨⟨c1, c2⟩, c3⟩ := hc
        intro a w hr s L hL
        unfold wpStill
        rw [if_neg (by rw [skip_step hr ho c3]; simp), ho]
        refine JH.skips h (fun e1' hs' => k e1' (Sub.trans ?_ hs')) _ _ (hr.put (Nat.le_of_ble_eq_true c1) undef) s L hL
        exact sub_app [(dd, undef)] e (by simp [c2])
      · cases h
theorem JH.app {l1 l2 : List Oper} (h : JH P n w0 own ops l1 e hs (fun e' => JH P n w0 own ops l2 e' hs K)) : JH P n w0 own ops (l1 ++ l2) e hs K := by
  intro a w hr s L hL
  have key : ∀ (l1 : List Oper) (a : Act), wpStill P ops w (fun a => wpStill P ops w L l2 a) l1 a → wpStill P ops w L (l1 ++ l2) a := by
    intro l1
    induction l1 with
    | nil => intro a h; exact h
    | cons o l1 ih =>
      intro a h
      unfold wpStill at h
      rw [List.cons_append]
      unfold wpStill
      split
      · rename_i hw
        rw [if_pos hw] at h
        exact Oper.still_mono ih h
      · rename_i hw
        rw [if_neg hw] at h
        exact ih _ h
  exact key l1 a (h a w hr s _ fun e' a' r' kk => kk a' w r' s L hL)
theorem sub_same {t : Nat} {v : Value} (ht : get e t = some v) : Sub e ((t, v) :: e) := fun s u hu => by
  unfold get
  cases hb : Nat.beq t s with
  | true => have := Nat.eq_of_beq_eq_true hb; subst this; rw [ht] at hu; simpa using hu
  | false => exact hu
/-- '&&' -/
theorem JH.and {b1 b2 : Bool} (t y m k : Nat) (hl : l.drop m = ⟨some d, .pick (.tmp t) (.tmp y) (.const (.bool false)), ty, pos, aft, g⟩ :: rest) (ht : get e t = some (.bool b1))
    (h : b1 = true → JH P n w0 own ops (l.take m) ((t, .bool true) :: e) hs (fun e' => get e' y = some (.bool b2) ∧ Pop k e' ((t, .bool true) :: e)))
    (kk : JH P n w0 own ops rest ((d, .bool (b1 && b2)) :: e) hs K)
    (hsk : (skB ops n (l.take m) ((t, .bool false) :: e)).isSome = true := by rfl)
    (hdn : Nat.blt d n = true := by rfl) (hg : wantB ops e g = some true := by rfl) : JH P n w0 own ops l e hs K := by
  rw [← List.take_append_drop m l, hl]
  refine JH.app ?_
  have fin : ∀ (e1 : Env), Sub e e1 → (b1 = true → get e1 y = some (.bool b2)) → JH P n w0 own ops (⟨some d, .pick (.tmp t) (.tmp y) (.const (.bool false)), ty, pos, aft, g⟩ :: rest) e1 hs K := by
    intro e1 hsub hy a w hr s L hL
    have hr' := hr.sub hsub
    unfold wpStill
    rw [if_pos (wanted_of hr' hg)]
    have e1t := hr.eval (x := .tmp t) (hsub t _ ht)
    have hrun : (execOp a.eval ⟨some d, .pick (.tmp t) (.tmp y) (.const (.bool false)), ty, pos, aft, g⟩).run P w = .ok (.value (.bool (b1 && b2))) w := by
      cases hb : b1 with
      | false =>
        rw [hb] at e1t
        have e3 : ∀ v, a.eval (.const v) = v := fun _ => rfl
        simp [execOp, e1t, asBool, e3]
      | true =>
        rw [hb] at e1t
        have e2 := hr.eval (x := .tmp y) (hy hb)
        simp [execOp, e1t, e2, asBool]
    rw [Oper.still, hrun, Oper.stillUpon_value]
    exact kk _ _ (hr'.put (Nat.le_of_ble_eq_true hdn) _) s L hL
  cases hb : b1 with
  | true =>
    rw [hb] at ht
    intro a w hr s
    exact (h hb).mono (fun e' ⟨h2, h3⟩ => fin e' ((sub_same ht).trans h3.sub) (fun _ => h2)) a w (hr.same ht) s
  | false =>
    rw [hb] at ht
    obtain ⟨e1, he1⟩ := Option.isSome_iff_exists.1 hsk
    intro a w hr s
    exact JH.skips he1 (fun e1' hs' => JH.nil (fin e1' ((sub_same ht).trans hs') (fun h => by rw [hb] at h; cases h))) a w (hr.same ht) s
/-- '||' -/
theorem JH.or {b1 b2 : Bool} (t y m k : Nat) (hl : l.drop m = ⟨some d, .pick (.tmp t) (.const (.bool true)) (.tmp y), ty, pos, aft, g⟩ :: rest) (ht : get e t = some (.bool b1))
    (h : b1 = false → JH P n w0 own ops (l.take m) ((t, .bool false) :: e) hs (fun e' => get e' y = some (.bool b2) ∧ Pop k e' ((t, .bool false) :: e)))
    (kk : JH P n w0 own ops rest ((d, .bool (b1 || b2)) :: e) hs K)
    (hsk : (skB ops n (l.take m) ((t, .bool true) :: e)).isSome = true := by rfl)
    (hdn : Nat.blt d n = true := by rfl) (hg : wantB ops e g = some true := by rfl) : JH P n w0 own ops l e hs K := by
  rw [← List.take_append_drop m l, hl]
  refine JH.app ?_
  have fin : ∀ (e1 : Env), Sub e e1 → (b1 = false → get e1 y = some (.bool b2)) → JH P n w0 own ops (⟨some d, .pick (.tmp t) (.const (.bool true)) (.tmp y), ty, pos, aft, g⟩ :: rest) e1 hs K := by
    intro e1 hsub hy a w hr s L hL
    have hr' := hr.sub hsub
    unfold wpStill
    rw [if_pos (wanted_of hr' hg)]
    have e1t := hr.eval (x := .tmp t) (hsub t _ ht)
    have hrun : (execOp a.eval ⟨some d, .pick (.tmp t) (.const (.bool true)) (.tmp y), ty, pos, aft, g⟩).run P w = .ok (.value (.bool (b1 || b2))) w := by
      cases hb : b1 with
      | true =>
        rw [hb] at e1t
        have e3 : ∀ v, a.eval (.const v) = v := fun _ => rfl
        simp [execOp, e1t, asBool, e3]
      | false =>
        rw [hb] at e1t
        have e2 := hr.eval (x := .tmp y) (hy hb)
        simp [execOp, e1t, e2, asBool]
    rw [Oper.still, hrun, Oper.stillUpon_value]
    exact kk _ _ (hr'.put (Nat.le_of_ble_eq_true hdn) _) s L hL
  cases hb : b1 with
  | false =>
    rw [hb] at ht
    intro a w hr s
    exact (h hb).mono (fun e' ⟨h2, h3⟩ => fin e' ((sub_same ht).trans h3.sub) (fun _ => h2)) a w (hr.same ht) s
  | true =>
    rw [hb] at ht
    obtain ⟨e1, he1⟩ := Option.isSome_iff_exists.1 hsk
    intro a w hr s
    exact JH.skips he1 (fun e1' hs' => JH.nil (fin e1' ((sub_same ht).trans hs') (fun h => by rw [hb] at h; cases h))) a w (hr.same ht) s
end
end V
end Go
