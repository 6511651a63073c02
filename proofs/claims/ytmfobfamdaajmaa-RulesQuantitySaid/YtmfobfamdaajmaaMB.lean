/- MB: several texts in one. -/
import Derived.Test.YtmfobfamdaajmaaMA
import Derived.StillTail
import Derived.MapKept
import Derived.SizedLaws
import Derived.Lib.Overlaps
/- VH: regions that draw their order, whose head turns nothing and whose tail is a chain: they run as they are written. -/
namespace Go
namespace V
open Go.RowKit
set_option linter.unusedVariables false
set_option linter.unusedSimpArgs false

/-- the operations, none of which turns the world -/
def JH (P : Program) (n : Nat) (w0 : World) (own : List Nat) (ops : Array Oper) (l : List Oper) (e : Env) (hs : Hp) (K : Env → Prop) : Prop :=
  ∀ a w, Rep n a e → Sat w0 own hs w → ∀ L : Act → Prop, (∀ e' a', Rep n a' e' → K e' → L a') → wpStill P ops w L l a

section
variable {P : Program} {n : Nat} {w0 : World} {own : List Nat} {e : Env} {hs : Hp} {ops : Array Oper} {rest : List Oper} {K : Env → Prop}
variable {d : Nat} {ty : TypeId} {pos : String} {aft : Array Edge} {g : Option (Nat × Bool)}

theorem JC.drawT {id : Nat} {l : List Oper} {Q : Post} (k : Nat) (hm : P.follows .mixedOrders = true) (hB : Region.lexTailB .any l.toArray k = true)
    (h : JH P n w0 own l.toArray (l.take k) e hs (fun e' => JL P n w0 own l.toArray (l.drop k) e' hs (fun e hs => Q .normal e hs))) : JC P n w0 own (.region id l.toArray true) e hs Q := by
  intro a w hr s
  refine wp_region_still_tail k hm hB (h a _ hr s.drew _ fun e' a' hr' hk => ?_)
  exact hk a' _ hr' s.drew _ fun e2 hs2 a2 w2 r2 s2 k2 => ⟨e2, hs2, r2, s2, k2⟩
theorem JC.drawS {id : Nat} {l : List Oper} {Q : Post} (hm : P.follows .mixedOrders = true) (hB : Region.lexB .any l.toArray = true)
    (h : JH P n w0 own l.toArray l e hs (fun e' => Q .normal e' hs)) : JC P n w0 own (.region id l.toArray true) e hs Q := by
  intro a w hr s
  refine wp_region_still_lit hm hB (h a _ hr s.drew _ fun e' a' hr' hk => ?_)
  exact ⟨e', hs, hr', s.drew, hk⟩
theorem JH.nil (h : K e) : JH P n w0 own ops [] e hs K := fun a w hr s L hL => hL _ _ hr h
theorem JH.v {op : Op} {v : Value} (h : Val P n w0 own e hs op v) (k : JH P n w0 own ops rest ((d, v) :: e) hs K) (hdn : Nat.blt d n = true := by rfl) (hg : wantB ops e g = some true := by rfl) :
    JH P n w0 own ops (⟨some d, op, ty, pos, aft, g⟩ :: rest) e hs K := by
  intro a w hr s L hL
  unfold wpStill
  rw [if_pos (wanted_of hr hg), Oper.still, h a w ty pos aft g (some d) hr s, Oper.stillUpon_value]
  exact k _ _ (hr.put (Nat.le_of_ble_eq_true hdn) v) s L hL
theorem JH.sk {op : Op} (k : JH P n w0 own ops rest ((d, undef) :: e) hs K) (hdn : Nat.blt d n = true := by rfl) (hg : wantB ops e g = some false := by rfl) :
    JH P n w0 own ops (⟨some d, op, ty, pos, aft, g⟩ :: rest) e hs K := by
  intro a w hr s L hL
  unfold wpStill
  rw [if_neg (by rw [wanted_of hr hg]; simp)]
  exact k _ _ (hr.put (Nat.le_of_ble_eq_true hdn) undef) s L hL
theorem JH.split {l : List Oper} {t : Nat} {p : Prop} [Decidable p] (ht : get e t = some (.bool (decide p))) (h1 : p → JH P n w0 own ops l ((t, .bool true) :: e) hs K)
    (h0 : ¬ p → JH P n w0 own ops l ((t, .bool false) :: e) hs K) : JH P n w0 own ops l e hs K := by
  by_cases hp : p
  · rw [decide_eq_true hp] at ht
    exact fun a w hr s => h1 hp a w (hr.same ht) s
  · rw [decide_eq_false hp] at ht
    exact fun a w hr s => h0 hp a w (hr.same ht) s
theorem JH.splitB {l : List Oper} {t : Nat} {b : Bool} (ht : get e t = some (.bool b)) (h1 : b = true → JH P n w0 own ops l ((t, .bool true) :: e) hs K)
    (h0 : b = false → JH P n w0 own ops l ((t, .bool false) :: e) hs K) : JH P n w0 own ops l e hs K := by
  cases b
  · exact fun a w hr s => h0 rfl a w (hr.same ht) s
  · exact fun a w hr s => h1 rfl a w (hr.same ht) s
end

theorem Rd.base {w : World} {no : List Nat} {A : Option Addr} {vs : List Value} (h : Rd w no A vs) (hn : 0 < vs.length) :
    ∃ b o, A = some ⟨b, o, none⟩ ∧ b ∉ no ∧ ∀ j v, vs[j]? = some v → w.cell? ⟨b, o + j, none⟩ = some v := by
  obtain ⟨b, o, h1, h2, h3⟩ := h 0 vs[0] (by simp)
  refine ⟨b, o, h1, h2, fun j v hv => ?_⟩
  obtain ⟨b', o', h1', h2', h3'⟩ := h j v hv
  rw [h1] at h1'; cases h1'; exact h3'

/-! ### bits of 64 -/
theorem ofInt_nat' (m : Nat) (b : BitVec m) : BitVec.ofInt m (b.toNat : Int) = b := by
  apply BitVec.eq_of_toNat_eq; simp
theorem wrap_u64 (b : BitVec 64) : IntKind.u64.wrap (b.toNat : Int) = b.toNat := by
  have := b.isLt
  simp [IntKind.wrap, IntKind.bits, IntKind.signed]; omega
theorem or64 (a b : BitVec 64) : bop .or .u64 (a.toNat : Int) (b.toNat : Int) = (a ||| b).toNat := by
  have h := wrap_u64 (a ||| b)
  simp only [bop, IntKind.bits, ofInt_nat'] at *; exact h
theorem conv8_64 (a : BitVec 8) : IntKind.u64.wrap (a.toNat : Int) = (a.setWidth 64).toNat := by
  have := a.isLt
  simp [IntKind.wrap, IntKind.bits, IntKind.signed]
theorem shl64 (a : BitVec 64) (s : Nat) (hs : s ≤ 64) : IntKind.u64.wrap ((a.toNat : Int) * 2 ^ min s IntKind.u64.bits) = (a <<< s).toNat := by
  rw [show min s IntKind.u64.bits = s from by simp [IntKind.bits]; omega]
  rw [BitVec.toNat_shiftLeft, Nat.shiftLeft_eq]
  simp [IntKind.wrap, IntKind.bits, IntKind.signed]
theorem add64 (a b : BitVec 64) : IntKind.u64.wrap ((a.toNat : Int) + (b.toNat : Int)) = (a + b).toNat := by
  rw [BitVec.toNat_add]
  simp [IntKind.wrap, IntKind.bits, IntKind.signed]
end V
end Go

/- VI: bytes of a constant text: their row gets a mark. -/
namespace Go
namespace V
open Go.RowKit
set_option linter.unusedVariables false
set_option linter.unusedSimpArgs false

/-- a row with its mark behind the last cell -/
def marked (l : List Value) (T : Nat) : Obj := .cells ⟨l⟩ T (l.length, l.length + 1)
theorem Rd.marked {w0 w : World} {own no : List Nat} {hs : Hp} (s : Sat w0 own hs w) {b o T : Nat} {l vs : List Value} [hb : Mem b (.obj (marked l T)) hs] (hn : b ∉ no) (h : ∀ j v, vs[j]? = some v → l[o + j]? = some v) : Rd w no (some ⟨b, o, none⟩) vs :=
  fun j v hv => ⟨b, o, rfl, hn, by
    have h1 : w.heap[b]? = some (.cells ⟨l⟩ T (l.length, l.length + 1)) := s.has b _ hb.out
    simp [World.cell?, h1, h j v hv]⟩
section
variable {P : Program} {n : Nat} {w0 : World} {own : List Nat} {e : Env} {hs : Hp}
theorem Eff.convMark {T E b o k c U : Nat} {x : Operand} {l : List Value} {hs' : Hp} (hx : ev e x = some (.slice (some ⟨b, o, none⟩) k c)) [hT : SliceT P T E] [hE : IntT P E .u8] [hb : Mem b (.cells l U) hs]
    [u : UpdI b (.obj (marked l U)) hs hs'] : Eff P n w0 own e hs (.convert T T x) (fun v h => v = .slice (some ⟨b, o, none⟩) k c ∧ h = hs') :=
  Eff.of_run fun a w ty pos aft g d hr s => by
    have hrow := s.row hb.out
    have hlt : b < w.heap.size := (Array.getElem?_eq_some_iff.1 hrow).1
    have hsh : w.shape? b = some (U, l.length) := by unfold World.shape?; rw [hrow]; rfl
    refine ⟨_, hs', w.freeze ⟨b, l.length, none⟩ 1, ?_, ⟨rfl, rfl⟩, ?_⟩
    · have key : (convert T T (.slice (some ⟨b, o, none⟩) k c)).run P w = .ok (.slice (some ⟨b, o, none⟩) k c) (w.freeze ⟨b, l.length, none⟩ 1) := by
        simp [convert, run_underlying hT.out, run_underlying hE.out, markStringish, hsh]
      simp [execOp, hr.eval hx, key]
    · refine s.upd u.out ?_ ?_ ?_ rfl rfl rfl
      · unfold World.freeze; rw [if_neg (by decide)]; simp
      · intro i hi
        unfold World.freeze; rw [if_neg (by decide)]
        simp [Array.getElem?_modify, Ne.symm hi]
      · unfold World.freeze; rw [if_neg (by decide)]
        simp [Array.getElem?_modify, hrow, Ch.toObj, V.marked]
end
end V
end Go

/- VJ: '&&' and '||' inside a region: the guarded operations are walked once, their results forgotten behind the pick. -/
namespace Go
namespace V
open Go.RowKit
set_option linter.unusedVariables false
set_option linter.unusedSimpArgs false

/-- 'e'' is 'e', with k things laid on it, in slots that 'e' does not speak of -/
def Pop (k : Nat) (e' e : Env) : Prop := e'.drop k = e ∧ ((e'.take k).all fun p => (get e p.1).isNone) = true
theorem sub_app : ∀ (x e : Env), (x.all fun p => (get e p.1).isNone) = true → Sub e (x ++ e)
  | [], e, _ => Sub.refl e
  | p :: x, e, h => by
    simp only [List.all_cons, Bool.and_eq_true] at h
    intro t v hv
    show get (p :: (x ++ e)) t = some v
    unfold get
    cases hb : Nat.beq p.1 t with
    | true =>
      have := Nat.eq_of_beq_eq_true hb
      rw [this, hv] at h
      simp at h
    | false => exact sub_app x e h.2 t v hv
theorem Pop.sub {k : Nat} {e' e : Env} (h : Pop k e' e) : Sub e e' := by
  obtain ⟨h1, h2⟩ := h
  have := sub_app (e'.take k) e h2
  rw [← h1] at this ⊢
  rwa [List.take_append_drop] at this

def skOne (ops : Array Oper) (e : Env) (o : Oper) : Bool := match o.guard with
  | none => false
  | some (j, want) => match (ops[j]?).bind (·.dst) with
    | some t => match get e t with
      | some (.bool b) => !(b == want)
      | some (.tuple ⟨[]⟩) => true
      | _ => false
    | none => false
/-- all of these are passed over -/
def skB (ops : Array Oper) (n : Nat) : List Oper → Env → Option Env
  | [], e => some e
  | o :: l, e => match o.dst with
    | some d => if Nat.blt d n && (get e d).isNone && skOne ops e o then skB ops n l ((d, undef) :: e) else none
    | none => none

section
variable {P : Program} {n : Nat} {w0 : World} {own : List Nat} {e : Env} {hs : Hp} {ops : Array Oper} {rest l : List Oper} {K : Env → Hp → Prop}
variable {d : Nat} {ty : TypeId} {pos : String} {aft : Array Edge} {g : Option (Nat × Bool)}

theorem skip_step {o : Oper} {dd : Nat} {a : Act} (hr : Rep n a e) (ho : o.dst = some dd) (h : skOne ops e o = true) : Region.wanted o (yielded ops a.tmps) = false := by
  unfold Region.wanted
  unfold skOne at h
  cases hg : o.guard with
  | none => rw [hg] at h; cases h
  | some jw =>
    obtain ⟨j, want⟩ := jw
    rw [hg] at h
    simp only at h ⊢
    cases hd : (ops[j]?).bind (·.dst) with
    | none => rw [hd] at h; cases h
    | some t =>
      rw [hd] at h
      simp only at h
      cases ht : get e t with
      | none => rw [ht] at h; cases h
      | some v =>
        rw [ht] at h
        have hat := hr.at_ t v ht
        unfold yielded
        rw [hd]
        simp only [Option.bind_some, hat]
        split at h
        · rename_i b hb
          cases hb
          cases b <;> cases want <;> simp_all
        · rename_i hb
          cases hb
          cases want <;> rfl
        · cases h
theorem JL.skips : ∀ {l : List Oper} {e e1 : Env}, skB ops n l e = some e1 → (∀ e1', Sub e e1' → JL P n w0 own ops [] e1' hs K) → JL P n w0 own ops l e hs K
  | [], e, e1, h, k => k e (Sub.refl e)
  | o :: l, e, e1, h, k => by
    unfold skB at h
    cases ho : o.dst with
    | none => rw [ho] at h; cases h
    | some dd =>
      rw [ho] at h
      simp only at h
      split at h
      · rename_i hc
        rw [Bool.and_eq_true, Bool.and_eq_true] at hc
        obtain ⟨⟨c1, c2⟩, c3⟩ := hc
        intro a w hr s Q hq
        unfold wpList
        rw [if_neg (by rw [skip_step hr ho c3]; simp), ho]
        refine JL.skips h (fun e1' hs' => k e1' (Sub.trans ?_ hs')) _ _ (hr.put (Nat.le_of_ble_eq_true c1) undef) s Q hq
        exact sub_app [(dd, undef)] e (by simp [c2])
      · cases h
theorem JL.app {l1 l2 : List Oper} (h : JL P n w0 own ops l1 e hs (fun e' hs' => JL P n w0 own ops l2 e' hs' K)) : JL P n w0 own ops (l1 ++ l2) e hs K := by
  intro a w hr s Q hq
  have key : ∀ (l1 : List Oper) (a : Act) (w : World), wpList P ops (fun x a w => match x with | .normal => wpList P ops Q l2 a w | x => Q x a w) l1 a w → wpList P ops Q (l1 ++ l2) a w := by
    intro l1
    induction l1 with
    | nil => intro a w h; exact h
    | cons o l1 ih =>
      intro a w h
      unfold wpList at h
      rw [List.cons_append]
      unfold wpList
      split
      · rename_i hw
        rw [if_pos hw] at h
        rcases h with h | ⟨h1, h2⟩
        · refine .inl ?_
          unfold Oper.wp at *
          generalize (execOp a.eval o).run P w = r at *
          cases r with
          | ok nx w' =>
            cases nx with
            | value v => exact ih _ _ h
            | skip => exact ih _ _ h
            | defer d => exact ih _ _ h
            | enter f args =>
              refine Calls.mono h ?_
              rintro x w'' hx
              cases x with
              | returned v => exact ih _ _ hx
              | panicked c => exact hx
              | outgrown => exact hx
            | row r args => exact Rows.mono h fun v w'' hx => ih _ _ hx
            | _ => exact h
          | halt x w' => cases x <;> exact h
        · exact .inr ⟨h1, h2⟩
      · rename_i hw
        rw [if_neg hw] at h
        exact ih _ _ h
  exact key l1 a w (h a w hr s _ fun e' hs' a' w' r s' kk => kk a' w' r s' Q hq)

/-- '&&' -/
theorem JL.and {b1 b2 : Bool} (t y m k : Nat) (hl : l.drop m = ⟨some d, .pick (.tmp t) (.tmp y) (.const (.bool false)), ty, pos, aft, g⟩ :: rest) (ht : get e t = some (.bool b1))
    (h : b1 = true → JL P n w0 own ops (l.take m) ((t, .bool true) :: e) hs (fun e' hs' => hs' = hs ∧ get e' y = some (.bool b2) ∧ Pop k e' ((t, .bool true) :: e)))
    (kk : JL P n w0 own ops rest ((d, .bool (b1 && b2)) :: e) hs K)
    (hsk : (skB ops n (l.take m) ((t, .bool false) :: e)).isSome = true := by rfl)
    (hdn : Nat.blt d n = true := by rfl) (hg : wantB ops e g = some true := by rfl) : JL P n w0 own ops l e hs K := by
  rw [← List.take_append_drop m l, hl]
  refine JL.app ?_
  have fin : ∀ (e1 : Env) (c : Value), Sub e e1 → get e1 y = some c ∨ b1 = false → (b1 = true → c = .bool b2) → JL P n w0 own ops (⟨some d, .pick (.tmp t) (.tmp y) (.const (.bool false)), ty, pos, aft, g⟩ :: rest) e1 hs K := by
    intro e1 c hsub hy hc a w hr s Q hq
    have hr' := hr.sub hsub
    unfold wpList
    rw [if_pos (wanted_of hr' hg)]
    refine .inl ?_
    have e1t := hr.eval (x := .tmp t) (hsub t _ ht)
    have hrun : (execOp a.eval ⟨some d, .pick (.tmp t) (.tmp y) (.const (.bool false)), ty, pos, aft, g⟩).run P w = .ok (.value (.bool (b1 && b2))) w := by
      cases hb : b1 with
      | false =>
        rw [hb] at e1t
        have e3 : ∀ v, a.eval (.const v) = v := fun _ => rfl
        simp [execOp, e1t, asBool, e3]
      | true =>
        rw [hb] at e1t
        rcases hy with hy | hy
        · rw [hc hb] at hy
          have e2 := hr.eval (x := .tmp y) hy
          simp [execOp, e1t, e2, asBool]
        · rw [hb] at hy; cases hy
    simp only [Oper.wp, hrun, Oper.upon_value]
    exact kk _ _ (hr'.put (Nat.le_of_ble_eq_true hdn) _) s Q hq
  cases hb : b1 with
  | true =>
    rw [hb] at ht
    have hsub : Sub e ((t, .bool true) :: e) := fun s v hv => by
      unfold get
      cases hb : Nat.beq t s with
      | true => have := Nat.eq_of_beq_eq_true hb; subst this; rw [ht] at hv; simpa using hv
      | false => exact hv
    intro a w hr s
    refine (h hb).mono (fun e' hs' ⟨h1, h2, h3⟩ => ?_) a w (hr.same ht) s
    subst h1
    exact fin e' (.bool b2) (hsub.trans h3.sub) (.inl h2) (fun _ => rfl)
  | false =>
    rw [hb] at ht
    have hsub : Sub e ((t, .bool false) :: e) := fun s v hv => by
      unfold get
      cases hb : Nat.beq t s with
      | true => have := Nat.eq_of_beq_eq_true hb; subst this; rw [ht] at hv; simpa using hv
      | false => exact hv
    obtain ⟨e1, he1⟩ := Option.isSome_iff_exists.1 hsk
    intro a w hr s
    exact JL.skips he1 (fun e1' hs' => JL.nil (fin e1' (.bool b2) (hsub.trans hs') (.inr hb) (fun _ => rfl))) a w (hr.same ht) s
/-- '||' -/
theorem JL.or {b1 b2 : Bool} (t y m k : Nat) (hl : l.drop m = ⟨some d, .pick (.tmp t) (.const (.bool true)) (.tmp y), ty, pos, aft, g⟩ :: rest) (ht : get e t = some (.bool b1))
    (h : b1 = false → JL P n w0 own ops (l.take m) ((t, .bool false) :: e) hs (fun e' hs' => hs' = hs ∧ get e' y = some (.bool b2) ∧ Pop k e' ((t, .bool false) :: e)))
    (kk : JL P n w0 own ops rest ((d, .bool (b1 || b2)) :: e) hs K)
    (hsk : (skB ops n (l.take m) ((t, .bool true) :: e)).isSome = true := by rfl)
    (hdn : Nat.blt d n = true := by rfl) (hg : wantB ops e g = some true := by rfl) : JL P n w0 own ops l e hs K := by
  rw [← List.take_append_drop m l, hl]
  refine JL.app ?_
  have fin : ∀ (e1 : Env) (c : Value), Sub e e1 → get e1 y = some c ∨ b1 = true → (b1 = false → c = .bool b2) → JL P n w0 own ops (⟨some d, .pick (.tmp t) (.const (.bool true)) (.tmp y), ty, pos, aft, g⟩ :: rest) e1 hs K := by
    intro e1 c hsub hy hc a w hr s Q hq
    have hr' := hr.sub hsub
    unfold wpList
    rw [if_pos (wanted_of hr' hg)]
    refine .inl ?_
    have e1t := hr.eval (x := .tmp t) (hsub t _ ht)
    have hrun : (execOp a.eval ⟨some d, .pick (.tmp t) (.const (.bool true)) (.tmp y), ty, pos, aft, g⟩).run P w = .ok (.value (.bool (b1 || b2))) w := by
      cases hb : b1 with
      | true =>
        rw [hb] at e1t
        have e3 : ∀ v, a.eval (.const v) = v := fun _ => rfl
        simp [execOp, e1t, asBool, e3]
      | false =>
        rw [hb] at e1t
        rcases hy with hy | hy
        · rw [hc hb] at hy
          have e2 := hr.eval (x := .tmp y) hy
          simp [execOp, e1t, e2, asBool]
        · rw [hb] at hy; cases hy
    simp only [Oper.wp, hrun, Oper.upon_value]
    exact kk _ _ (hr'.put (Nat.le_of_ble_eq_true hdn) _) s Q hq
  cases hb : b1 with
  | false =>
    rw [hb] at ht
    have hsub : Sub e ((t, .bool false) :: e) := fun s v hv => by
      unfold get
      cases hb : Nat.beq t s with
      | true => have := Nat.eq_of_beq_eq_true hb; subst this; rw [ht] at hv; simpa using hv
      | false => exact hv
    intro a w hr s
    refine (h hb).mono (fun e' hs' ⟨h1, h2, h3⟩ => ?_) a w (hr.same ht) s
    subst h1
    exact fin e' (.bool b2) (hsub.trans h3.sub) (.inl h2) (fun _ => rfl)
  | true =>
    rw [hb] at ht
    have hsub : Sub e ((t, .bool true) :: e) := fun s v hv => by
      unfold get
      cases hb : Nat.beq t s with
      | true => have := Nat.eq_of_beq_eq_true hb; subst this; rw [ht] at hv; simpa using hv
      | false => exact hv
    obtain ⟨e1, he1⟩ := Option.isSome_iff_exists.1 hsk
    intro a w hr s
    exact JL.skips he1 (fun e1' hs' => JL.nil (fin e1' (.bool b2) (hsub.trans hs') (.inr hb) (fun _ => rfl))) a w (hr.same ht) s
end
end V
end Go

/- VK: calls that leave a value and nothing else. -/
namespace Go
namespace V
open Go.RowKit
set_option linter.unusedVariables false
set_option linter.unusedSimpArgs false

/-- the call returns 'v', whatever it is lent -/
abbrev Is (P : Program) (g : Nat) (vals : List Value) (w : World) (v : Value) : Prop := Does P g vals [] w (fun u hs => u = v ∧ hs = [])
theorem vb {a b : Bool} (h : a = true ↔ b = true) : Value.bool a = Value.bool b := congrArg Value.bool (Bool.eq_iff_iff.2 h)
section
variable {P : Program} {n : Nat} {w0 : World} {own : List Nat} {e : Env} {hs F : Hp} {ops : Array Oper} {rest l : List Oper} {K : Env → Hp → Prop}
variable {d : Nat} {ty : TypeId} {pos : String} {aft : Array Edge} {gd : Option (Nat × Bool)} {m : Nat} {listed : Array Bool}

/-- a store of a whole block -/
theorem Eff.sw {T m b U : Nat} {x y : Operand} {vs l : List Value} {hs' : Hp} (hx : ev e x = some (.pointer (some ⟨b, 0, none⟩))) (hy : ev e y = some (.agg ⟨vs⟩)) [hT : Sz P T m] [hb : Mem b (.cells l U) hs]
    [u : UpdI b (.cells vs U) hs hs'] (hm : vs.length = m := by rfl) (h1 : ones vs = true := by rfl) (ho : l.length = m := by rfl) : Eff P n w0 own e hs (.store T x y) (fun v h => v = undef ∧ h = hs') :=
  Eff.storeW hx hy hm h1 ho
theorem JL.pc {g : Nat} {f : Operand} {args : List Operand} {at_ : Array TypeId} {cap vals : List Value} {v : Value}
    (hf : ev e f = some (.func (.func g) #[] ⟨cap⟩)) (ha : evs e args = some vals) (hc : ∀ w, Sat w0 own hs w → Is P g (vals ++ cap) w v) (k : JL P n w0 own ops rest ((d, v) :: e) hs K) [hg : FnT P g]
    (hdn : Nat.blt d n = true := by rfl) (hw : wantB ops e gd = some true := by rfl) :
    JL P n w0 own ops (⟨some d, .call { callee := .value f, args := ⟨args⟩, argTypes := at_ }, ty, pos, aft, gd⟩ :: rest) e hs K :=
  JL.ef (.call0 hf ha hc) (fun _ _ ⟨_, ⟨h1, h2⟩, h3⟩ => by subst h1; subst h2; subst h3; exact k) hdn hw
theorem JD.pc {g : Nat} {f : Operand} {args : List Operand} {at_ : Array TypeId} {cap vals : List Value} {v : Value} (i : Nat)
    (hi : ops[i]? = some ⟨some d, .call { callee := .value f, args := ⟨args⟩, argTypes := at_ }, ty, pos, aft, gd⟩) (ho : onlyB ops listed i = true)
    (hf : ev e f = some (.func (.func g) #[] ⟨cap⟩)) (ha : evs e args = some vals) (hc : ∀ w, Sat w0 own hs w → Is P g (vals ++ cap) w v) (k : JD P n w0 own ops F m (listed.setIfInBounds i true) ((d, v) :: e) hs K) [hg : FnT P g]
    (hdn : Nat.blt d n = true := by rfl) (hw : wantB ops e gd = some true := by rfl) :
    JD P n w0 own ops F (m + 1) listed e hs K :=
  JD.ef i hi ho (.call0 hf ha hc) (fun _ _ ⟨_, ⟨h1, h2⟩, h3⟩ => by subst h1; subst h2; subst h3; exact k) (fun _ _ ⟨_, ⟨_, h2⟩, h3⟩ f => by subst h2; subst h3; exact f) hdn hw
end
end V
end Go

/- VL: regions that draw their order and end with one store: what is held is held up to that store. -/
namespace Go
namespace V
open Go.RowKit
set_option linter.unusedVariables false
set_option linter.unusedSimpArgs false

section
variable {P : Program} {ops : Array Oper} {Q : Exit → Act → World → Prop} {S : World → Prop} {z : Nat}

/-- whatever comes up next, to the end; up to number z S is shown behind each -/
def Upto (P : Program) (ops : Array Oper) (Q : Exit → Act → World → Prop) (S : World → Prop) (z : Nat) : Nat → Array Bool → Act → World → Prop
  | 0, l, a, w => Region.ready .any ops l = [] ∧ Q .normal a w
  | k + 1, l, a, w => (Region.ready .any ops l = [] → Q .normal a w) ∧
      ∀ i ∈ Region.ready .any ops l, wpOp P ops Q i (fun a' w' => ((l.setIfInBounds i true).getD z true = false → S w') ∧ Upto P ops Q S z k (l.setIfInBounds i true) a' w') a w
theorem Upto.any : ∀ (k : Nat) (l : Array Bool) (a : Act) (w : World), Upto P ops Q S z k l a w → wpAny P .any ops Q k l a w
  | 0, _, _, _, h => h
  | k + 1, l, a, w, h => ⟨h.1, fun i hi => wpOp_mono (fun a' w' h' => Upto.any k _ a' w' h'.2) (h.2 i hi)⟩
theorem not_both {i z : Nat} {l : Array Bool} {oz : Oper} (hoz : ops[z]? = some oz) (hw : ∃ e ∈ oz.after, Region.binds .any e = true ∧ e.on = i) (hr : i ∈ Region.ready .any ops l) : z ∉ Region.ready .any ops l := by
  intro hz
  obtain ⟨h0, _, _, _⟩ := mem_ready.1 hr
  obtain ⟨_, o, ho, hall⟩ := mem_ready.1 hz
  have : o = oz := Option.some.inj (ho.symm.trans hoz)
  subst this
  obtain ⟨e, he, hb, hon⟩ := hw
  have h1 := hall e he hb
  rw [hon] at h1
  rcases Nat.lt_or_ge i l.size with h' | h'
  · simp [h'] at h0 h1
    rw [h0] at h1; cases h1
  · simp [Array.getElem?_eq_none h'] at h1
/-- number i may be taken first, if z waits for it -/
theorem Upto.first {i : Nat} {oi oz : Oper} {v : Value} (hi : ops[i]? = some oi) (hsel : ∀ (j : Nat) (o : Oper) cs b, ops[j]? = some o → o.op ≠ .select cs b)
    (hQ : ∀ c a w, Q (.panic c) (a.put oi.dst v) w → Q (.panic c) a w) (hoz : ops[z]? = some oz) (hw : ∃ e ∈ oz.after, Region.binds .any e = true ∧ e.on = i) (hzi : z ≠ i) :
    ∀ (k : Nat) (l : Array Bool) (a : Act) (w : World),
      (∀ j oj, ops[j]? = some oj → j ≠ i → l.getD j true = false → (∀ e ∈ oj.after, Region.binds .any e = true → e.on ≠ i) → oi.apart ops oj = true) →
      i ∈ Region.ready .any ops l → YieldsIf P ops S oi v a → S w → l.getD z true = false →
      Upto P ops Q S z k (l.setIfInBounds i true) (a.put oi.dst v) w → Upto P ops Q S z (k + 1) l a w := by
  intro k
  induction k with
  | zero =>
    intro l a w _ hr hy hS hz H
    refine ⟨fun h => absurd (h ▸ hr) List.not_mem_nil, fun j hj => ?_⟩
    rcases Decidable.em (j = i) with rfl | hji
    · exact hy.wpOp hi hS ⟨fun _ => hS, H⟩
    · exact absurd (H.1 ▸ ready_mono hj hji) List.not_mem_nil
  | succ k ih =>
    intro l a w hfree hr hy hS hz H
    refine ⟨fun h => absurd (h ▸ hr) List.not_mem_nil, fun j hj => ?_⟩
    rcases Decidable.em (j = i) with rfl | hji
    · exact hy.wpOp hi hS ⟨fun _ => hS, H⟩
    have hjz : j ≠ z := fun e => not_both hoz hw hr (e ▸ hj)
    obtain ⟨hun, oj, hoj, hall⟩ := mem_ready.1 hj
    have hno : ∀ e ∈ oj.after, Region.binds .any e = true → e.on ≠ i := by
      intro e he hb hon
      exact not_both (z := j) hoj ⟨e, he, hb, hon⟩ hr hj
    have step := wpOp_putIf hoj (hfree j oj hoj hji hun hno) (fun cs b => hsel i oi cs b hi) (fun cs b => hsel j oj cs b hoj) hQ hy (H.2 j (ready_mono hj hji))
    refine wpOp_mono (fun a' w' ⟨hy', hS', hrest⟩ => ?_) step
    have hz' : (l.setIfInBounds j true).getD z true = false := by rw [getD_set_ne true hjz]; exact hz
    have hz2 : ((l.setIfInBounds i true).setIfInBounds j true).getD z true = false := by
      rw [getD_set_ne true hjz, getD_set_ne true (Ne.symm hzi)]; exact hz
    refine ⟨fun _ => hS' hz2, ih (l.setIfInBounds j true) a' w' (fun m om hm hmi hun' hno' => ?_) (ready_mono hr (Ne.symm hji)) hy' (hS' hz2) hz' ?_⟩
    · refine hfree m om hm hmi ?_ hno'
      rcases Decidable.em (j = m) with rfl | hjm
      · exact hun
      · rw [getD_set_ne true hjm] at hun'; exact hun'
    · rw [Array.setIfInBounds_comm _ _ hji]; exact hrest
end

/-- the operations that have not come up; 'F' is held up to number z -/
def JZ (P : Program) (n : Nat) (w0 : World) (own : List Nat) (ops : Array Oper) (F : Hp) (z : Nat) (m : Nat) (listed : Array Bool) (e : Env) (hs : Hp) (K : Env → Hp → Prop) : Prop :=
  ∀ a w, Rep n a e → Sat w0 own hs w → (listed.getD z true = false → F ⊆ hs) →
    Upto P ops (QN fun a' w' => ∃ e' hs', Rep n a' e' ∧ Sat w0 own hs' w' ∧ K e' hs') (Keeps w0 own F) z m listed a w
/-- z has not come up, and waits for i; i may be taken first -/
def firstZ (ops : Array Oper) (z : Nat) (listed : Array Bool) (i : Nat) : Bool :=
  Region.noSelect ops && Region.free .any ops listed i && (Region.ready .any ops listed).contains i && Region.waitsFor .any ops z i && !Nat.beq z i && !listed.getD z true

section
variable {P : Program} {n : Nat} {w0 : World} {own : List Nat} {e : Env} {hs F : Hp} {ops : Array Oper} {K : Env → Hp → Prop} {z m : Nat} {listed : Array Bool}
variable {d : Nat} {ty : TypeId} {pos : String} {aft : Array Edge} {g : Option (Nat × Bool)}

theorem JC.drawZ {id : Nat} {Q : Post} (z : Nat) (F : Hp) (hF : F ⊆ hs) (hm : P.follows .mixedOrders = true) (h : JZ P n w0 own ops F z ops.size (Array.replicate ops.size false) e hs (fun e hs => Q .normal e hs)) :
    JC P n w0 own (.region id ops true) e hs Q := by
  intro a w hr s
  refine wp_mono (wp_region_any hm (Upto.any _ _ _ _ (h a { w with drawn := w.drawn + 1 } hr s.drew fun _ => hF))) ?_
  intro x a' w' hq
  cases x with
  | normal => exact hq
  | _ => exact hq.elim
theorem JZ.done (hd : doneB ops listed = true) (h : K e hs) : JZ P n w0 own ops F z m listed e hs K := by
  intro a w hr s hF
  have h0 : Region.ready .any ops listed = [] := by simpa [doneB] using hd
  cases m with
  | zero => exact ⟨h0, e, hs, hr, s, h⟩
  | succ m => exact ⟨fun _ => ⟨e, hs, hr, s, h⟩, fun i hi => by rw [h0] at hi; cases hi⟩
theorem JZ.v {op : Op} {v : Value} (i : Nat) (hi : ops[i]? = some ⟨some d, op, ty, pos, aft, g⟩) (hf : firstZ ops z listed i = true)
    (h : ∀ hs', F ⊆ hs' → Val P n w0 own e hs' op v) (k : JZ P n w0 own ops F z m (listed.setIfInBounds i true) ((d, v) :: e) hs K)
    (hdn : Nat.blt d n = true := by rfl) (hg : wantB ops e g = some true := by rfl) : JZ P n w0 own ops F z (m + 1) listed e hs K := by
  intro a w hr s hF
  unfold firstZ at hf
  simp only [Bool.and_eq_true, Bool.not_eq_true'] at hf
  obtain ⟨⟨⟨⟨⟨f1, f2⟩, f3⟩, f4⟩, f5⟩, f6⟩ := hf
  obtain ⟨oz, hoz, ez, hez, hb, hon⟩ := Region.waitsFor_spec f4
  have hzi : z ≠ i := Nat.ne_of_beq_eq_false f5
  have hz2 : (listed.setIfInBounds i true).getD z true = false := by rw [getD_set_ne true (Ne.symm hzi)]; exact f6
  exact Upto.first hi (Region.noSelect_spec f1) (fun _ _ _ h => h) hoz ⟨ez, hez, hb, hon⟩ hzi m listed a w (Region.free_spec hi f2) (by simpa using f3)
    (.inl ⟨wanted_of hr hg, fun w' ⟨hs', s', f'⟩ => h hs' f' a w' _ _ _ _ _ hr s'⟩) ⟨hs, s, hF f6⟩ f6
    (k _ _ (hr.put (Nat.le_of_ble_eq_true hdn) v) s fun _ => hF f6)
theorem JZ.ef {op : Op} {R : Value → Hp → Prop} (i : Nat) (hi : ops[i]? = some ⟨some d, op, ty, pos, aft, g⟩) (ho : onlyB ops listed i = true)
    (h : Eff P n w0 own e hs op R) (k : ∀ v hs', R v hs' → JZ P n w0 own ops F z m (listed.setIfInBounds i true) ((d, v) :: e) hs' K) (hF : ∀ v hs', R v hs' → F ⊆ hs → F ⊆ hs')
    (hz : true = true) (hdn : Nat.blt d n = true := by rfl) (hg : wantB ops e g = some true := by rfl) : JZ P n w0 own ops F z (m + 1) listed e hs K := by
  intro a w hr s hf
  have h1 : Region.ready .any ops listed = [i] := by simpa [onlyB] using ho
  refine ⟨fun h0 => (by rw [h1] at h0; cases h0), fun j hj => ?_⟩
  rw [h1] at hj
  simp only [List.mem_singleton] at hj
  subst hj
  unfold wpOp
  simp only [hi]
  rw [if_pos (wanted_of hr hg)]
  have hsub : ∀ v hs', R v hs' → (listed.setIfInBounds j true).getD z true = false → F ⊆ hs' := by
    intro v hs' r hz'
    have hzj : z ≠ j := by
      intro e
      subst e
      rcases Nat.lt_or_ge z listed.size with h' | h'
      · simp [h'] at hz'
      · simp [h'] at hz'
    rw [getD_set_ne true (Ne.symm hzj)] at hz'
    exact hF v hs' r (hf hz')
  exact .inl (h a w _ _ _ _ _ _ _ hr s fun v hs' w' r s' => ⟨fun hz' => ⟨hs', s', hsub v hs' r hz'⟩, k v hs' r _ _ (hr.put (Nat.le_of_ble_eq_true hdn) v) s' (hsub v hs' r)⟩)
/-- a value that is the one thing that may come up -/
theorem JZ.v1 {op : Op} {v : Value} (i : Nat) (hi : ops[i]? = some ⟨some d, op, ty, pos, aft, g⟩) (ho : onlyB ops listed i = true)
    (h : Val P n w0 own e hs op v) (k : JZ P n w0 own ops F z m (listed.setIfInBounds i true) ((d, v) :: e) hs K) (hz : true = true)
    (hdn : Nat.blt d n = true := by rfl) (hg : wantB ops e g = some true := by rfl) : JZ P n w0 own ops F z (m + 1) listed e hs K :=
  JZ.ef i hi ho h.eff (fun v' hs' ⟨h1, h2⟩ => by subst h1; subst h2; exact k) (fun v' hs' ⟨h1, h2⟩ f => by subst h2; exact f) hz hdn hg
/-- THE STORE -/
theorem JZ.st {op : Op} {hs' : Hp} (hi : ops[z]? = some ⟨none, op, ty, pos, aft, g⟩) (ho : onlyB ops listed z = true) (hsz : Nat.blt z listed.size = true)
    (h : Eff P n w0 own e hs op (fun v h => v = undef ∧ h = hs')) (k : JZ P n w0 own ops F z m (listed.setIfInBounds z true) e hs' K)
    (hg : wantB ops e g = some true := by rfl) : JZ P n w0 own ops F z (m + 1) listed e hs K := by
  intro a w hr s hf
  have h1 : Region.ready .any ops listed = [z] := by simpa [onlyB] using ho
  refine ⟨fun h0 => (by rw [h1] at h0; cases h0), fun j hj => ?_⟩
  rw [h1] at hj
  simp only [List.mem_singleton] at hj
  subst hj
  unfold wpOp
  simp only [hi]
  rw [if_pos (wanted_of hr hg)]
  have hlt : j < listed.size := Nat.le_of_ble_eq_true hsz
  have habs : (listed.setIfInBounds j true).getD j true = false → F ⊆ hs' := by intro h; simp [hlt] at h
  exact .inl (h a w _ _ _ _ _ _ _ hr s fun v h' w' ⟨_, e2⟩ s' => by
    subst e2
    exact ⟨fun hz' => absurd (habs hz') (by simp [hlt] at hz'), k _ _ (hr.put_none v) s' habs⟩)
/-- a store behind z -/
theorem JZ.st2 {op : Op} {hs' : Hp} (i : Nat) (hi : ops[i]? = some ⟨none, op, ty, pos, aft, g⟩) (ho : onlyB ops listed i = true) (hz : listed.getD z true = true) (hsz : Nat.beq z i = false)
    (h : Eff P n w0 own e hs op (fun v h => v = undef ∧ h = hs')) (k : JZ P n w0 own ops F z m (listed.setIfInBounds i true) e hs' K)
    (hg : wantB ops e g = some true := by rfl) : JZ P n w0 own ops F z (m + 1) listed e hs K := by
  intro a w hr s hf
  have h1 : Region.ready .any ops listed = [i] := by simpa [onlyB] using ho
  refine ⟨fun h0 => (by rw [h1] at h0; cases h0), fun j hj => ?_⟩
  rw [h1] at hj
  simp only [List.mem_singleton] at hj
  subst hj
  unfold wpOp
  simp only [hi]
  rw [if_pos (wanted_of hr hg)]
  have hno : (listed.setIfInBounds j true).getD z true = true := by rw [getD_set_ne true (Ne.symm (Nat.ne_of_beq_eq_false hsz))]; exact hz
  have habs : (listed.setIfInBounds j true).getD z true = false → F ⊆ hs' := by intro h; rw [hno] at h; cases h
  exact .inl (h a w _ _ _ _ _ _ _ hr s fun v h' w' ⟨_, e2⟩ s' => by
    subst e2
    exact ⟨fun hz' => (nomatch (hno.symm.trans hz')), k _ _ (hr.put_none v) s' habs⟩)
end
end V
end Go

/- VM: blocks behind an unknown head; own slices that are cut and read. -/
namespace Go
namespace V
open Go.RowKit
set_option linter.unusedVariables false
set_option linter.unusedSimpArgs false

instance (priority := low) Mem.app_right {b : Nat} {c : Ch} {h fr : Hp} [k : Mem b c fr] : Mem b c (h ++ fr) := ⟨List.mem_append_right _ k.out⟩
instance (priority := low - 10) Mem.app_left {b : Nat} {c : Ch} {h fr : Hp} [k : Mem b c h] : Mem b c (h ++ fr) := ⟨List.mem_append_left _ k.out⟩
theorem Upd.app_right {b : Nat} {c : Ch} {h fr fr' : Hp} (k : Upd b c fr fr') : Upd b c (h ++ fr) (h ++ fr') := by
  induction h with
  | nil => exact k
  | cons p h ih => exact .tail ih
instance (priority := low) UpdI.app_right {b : Nat} {c : Ch} {h fr fr' : Hp} [k : UpdI b c fr fr'] : UpdI b c (h ++ fr) (h ++ fr') := ⟨k.out.app_right⟩

/-- some of what is left in memory is let go, or told in another order -/
theorem Does.less {P : Program} {g : Nat} {vals : List Value} {pre : Hp} {w : World} {R : Value → Hp → Prop} (h : Does P g vals pre w (fun v hs => ∃ hs', (∀ w', Sat w (bl pre) hs w' → Sat w (bl pre) hs' w') ∧ R v hs')) : Does P g vals pre w R :=
  fun a b => (h a b).mono fun x w' ⟨v, hs, h1, ⟨hs', h2, h4⟩, h3⟩ => ⟨v, hs', h1, h4, h2 _ h3⟩
theorem Sat.not_in {w0 w : World} {own : List Nat} {b : Nat} {c : Ch} {rest h : Hp} (s : Sat w0 own ((b, c) :: rest) w) (hs : h ⊆ rest) : b ∉ bl h := by
  have nd := s.nd
  simp only [bl, List.map_cons, List.nodup_cons] at nd
  intro hb
  obtain ⟨p, hp, rfl⟩ := List.mem_map.1 hb
  exact nd.1 (List.mem_map.2 ⟨p, hs hp, rfl⟩)
theorem OwnS.len {E m n : Nat} {v : Value} {vs : List Value} {h : Hp} (k : OwnS E m v n vs h) : vs.length = n * m := k.1
theorem OwnS.cap_ {E m n c : Nat} {A : Option Addr} {n' : Nat} {vs : List Value} {h : Hp} (k : OwnS E m (.slice A n' c) n vs h) : n' = n ∧ n ≤ c := by
  rcases k.2 with ⟨h1, h2, _⟩ | ⟨b, o, cap, l, h1, _, h3, _⟩
  · cases h1; subst h2; exact ⟨rfl, by omega⟩
  · cases h1; exact ⟨rfl, h3⟩
/-- the head is cut off -/
theorem OwnS.cut {E m n c : Nat} {A : Option Addr} {vs : List Value} {h : Hp} (k : OwnS E m (.slice A n c) n vs h) {i : Nat} (hi : i ≤ n) (hm : 0 < m) :
    OwnS E m (.slice (cutA A c i m) (n - i) (c - i)) (n - i) (vs.drop (i * m)) h := by
  obtain ⟨hl, k⟩ := k
  refine ⟨by rw [List.length_drop, hl, Nat.sub_mul], ?_⟩
  rcases k with ⟨h1, h2, h3⟩ | ⟨b, o, cap, l, h1, h2, h3, h4, h5⟩
  · cases h1
    obtain rfl : i = 0 := by omega
    exact .inl ⟨by simp [cutA_zero], by simp, h3⟩
  · cases h1
    have hcm : i * m ≤ c * m := Nat.mul_le_mul_right _ (by omega)
    have hsub : (c - i) * m = c * m - i * m := Nat.sub_mul _ _ _
    refine .inr ?_
    by_cases e : c = i
    · have hn : n = i := by omega
      refine ⟨b, o, c - i, l, ?_, h2, by omega, by rw [e]; simp; omega, ?_⟩
      · unfold cutA; rw [if_pos e]
      · rw [hn, Nat.sub_self, Nat.zero_mul, List.take_zero, ← h5, List.drop_take, hn, Nat.sub_self, List.take_zero]
    · refine ⟨b, o + i * m, c - i, l, by rw [cutA_some (by omega)], h2, by omega, by omega, ?_⟩
      rw [← h5, List.drop_take, List.drop_drop, Nat.sub_mul]
/-- what an own slice holds is read -/
theorem OwnS.rd {E m n c : Nat} {A : Option Addr} {vs : List Value} {h hs : Hp} {w0 w : World} {own no : List Nat} (k : OwnS E m (.slice A n c) n vs h) (s : Sat w0 own hs w) (hh : h ⊆ hs) (hn : ∀ b ∈ bl h, b ∉ no) : Rd w no A vs := by
  obtain ⟨hl, k⟩ := k
  rcases k with ⟨h1, h2, h3⟩ | ⟨b, o, cap, l, h1, h2, h3, h4, h5⟩
  · cases h1
    have : vs = [] := by simpa using hl
    subst this
    exact Rd.nil _ _ _
  · cases h1
    subst h2
    intro j v hv
    refine ⟨b, o, rfl, hn b (by simp [bl]), ?_⟩
    have hb : (b, Ch.cells l E) ∈ hs := hh (by simp)
    rw [s.cell hb, ← hv, ← h5, List.getElem?_take, List.getElem?_drop]
    have := (List.getElem?_eq_some_iff.1 hv).1
    rw [if_pos (by omega)]
theorem OwnS.one {E m n n' c : Nat} {A : Option Addr} {vs : List Value} {h : Hp} (k : OwnS E m (.slice A n' c) n vs h) : n' = n := k.cap_.1
theorem Rd.take {w : World} {no : List Nat} {A : Option Addr} {vs : List Value} (h : Rd w no A vs) (k : Nat) : Rd w no A (vs.take k) :=
  h.mono fun j v hv => by
    rw [List.getElem?_take] at hv
    split at hv
    · exact hv
    · cases hv
theorem Sat.disj {w0 w : World} {own : List Nat} {h fr : Hp} (s : Sat w0 own (h ++ fr) w) : ∀ b ∈ bl h, b ∉ bl fr := by
  have nd := s.nd
  simp only [bl, List.map_append, List.nodup_append] at nd
  exact fun b hb hf => nd.2.2 b hb b hf rfl
/-- what is read at an address is loaded there -/
theorem Rd.part {w0 : World} {own : List Nat} {hs : Hp} {b o i : Nat} {vs us : List Value} (h : Rd w0 own (some ⟨b, o, none⟩) vs) (hu : ∀ (j : Nat) (v : Value), us[j]? = some v → vs[i + j]? = some v) : At w0 own hs ⟨b, o + i, none⟩ us := by
  intro w s j v hv
  obtain ⟨b', o', h1, h2, h3⟩ := h _ v (hu j v hv)
  cases h1
  rw [add_none, Nat.add_assoc]
  exact s.cell_old h3 h2
theorem Rd.whole {w0 : World} {own : List Nat} {hs : Hp} {b o : Nat} {vs : List Value} (h : Rd w0 own (some ⟨b, o, none⟩) vs) : At w0 own hs ⟨b, o, none⟩ vs :=
  h.part (i := 0) (fun j v hv => by rwa [Nat.zero_add])
theorem Rd.cell {w0 : World} {own : List Nat} {hs : Hp} {b o : Nat} {vs : List Value} (h : Rd w0 own (some ⟨b, o, none⟩) vs) {i : Nat} {v : Value} (hv : vs[i]? = some v) : At w0 own hs ⟨b, o + i, none⟩ [v] :=
  h.part (fun j u hu => by
    match j, hu with
    | 0, hu => simp at hu; subst hu; simpa using hv)
section
variable {P : Program} {n : Nat} {w0 : World} {own : List Nat} {e : Env} {hs : Hp} {ops : Array Oper} {rest l : List Oper} {K : Env → Hp → Prop}
variable {d : Nat} {ty : TypeId} {pos : String} {aft : Array Edge} {gd : Option (Nat × Bool)}
/-- a call that is lent blocks and gives them back as they were -/
theorem Eff.lend {g : Nat} {f : Operand} {args : List Operand} {at_ : Array TypeId} {cap vals : List Value} {v : Value} {pre fr : Hp}
    (hf : ev e f = some (.func (.func g) #[] ⟨cap⟩)) (ha : evs e args = some vals) [hg : FnT P g] (hp : hs.Perm (pre ++ fr)) (hc : ∀ w, Sat w0 own hs w → Does P g (vals ++ cap) pre w (fun u h => u = v ∧ h = pre)) :
    Eff P n w0 own e hs (.call { callee := .value f, args := ⟨args⟩, argTypes := at_ }) (fun u h => u = v ∧ h = hs) := by
  intro a w ty pos aft gd d K Q hr s hk
  refine Eff.call hf ha hp hc a w ty pos aft gd d K Q hr s ?_
  rintro _ hs' w' ⟨h, ⟨rfl, rfl⟩, rfl⟩ s'
  exact hk _ _ _ ⟨rfl, rfl⟩ (s'.perm hp.symm)
theorem JL.pl {g : Nat} {f : Operand} {args : List Operand} {at_ : Array TypeId} {cap vals : List Value} {v : Value} {pre : Hp} (fr : Hp)
    (hf : ev e f = some (.func (.func g) #[] ⟨cap⟩)) (ha : evs e args = some vals) (hp : hs.Perm (pre ++ fr)) (hc : ∀ w, Sat w0 own hs w → Does P g (vals ++ cap) pre w (fun u h => u = v ∧ h = pre))
    (k : JL P n w0 own ops rest ((d, v) :: e) hs K) [hg : FnT P g] (hdn : Nat.blt d n = true := by rfl) (hw : wantB ops e gd = some true := by rfl) :
    JL P n w0 own ops (⟨some d, .call { callee := .value f, args := ⟨args⟩, argTypes := at_ }, ty, pos, aft, gd⟩ :: rest) e hs K :=
  JL.ef (.lend hf ha hp hc) (fun _ _ ⟨h1, h2⟩ => by subst h1; subst h2; exact k) hdn hw
end
end V
end Go

/- VN: slices of anything that come in: the cells of each element, and what each is read as. -/
namespace Go
namespace V
open Go.RowKit Go.ChangeShapes Go.WideShapes Go.ChangeAt
set_option linter.unusedVariables false

/-- these cells are read as 'd' -/
def TC {H : Type} (enc : TypeId × Value → H) (P : Program) (w : World) (base : Nat) (spare : Nat → Bool) (held : Bool) (t : TypeId) (cs : List Value) (d : DataW H) : Prop :=
  ∃ fuel p, DataW.trod enc P w base spare held fuel t cs = some (d, p)
section
variable {H : Type} {enc : TypeId × Value → H} {P : Program} {w : World} {base : Nat} {spare : Nat → Bool} {held : Bool}
theorem TC.of {t : TypeId} {v : Value} {cs : List Value} {d : DataW H} {p : List MemPlace} (h : DataW.Trod enc P w base spare held t v d p) (hc : v.cells = ⟨cs⟩) : TC enc P w base spare held t cs d := by
  obtain ⟨fuel, hf⟩ := h
  rw [hc] at hf
  exact ⟨fuel, p, hf⟩
theorem TC.int {t : TypeId} {k : IntKind} {cs : List Value} {d : DataW H} (ht : P.underlying t = some (.int k)) (h : TC enc P w base spare held t cs d) : ∃ n, cs = [.int k n] ∧ (Lit.int k n).wf = true := by
  obtain ⟨fuel, p, hf⟩ := h
  obtain ⟨n, h1, _, h2⟩ := DataW.trod_int ht hf
  exact ⟨n, h1, h2⟩
theorem TC.bool {t : TypeId} {cs : List Value} {d : DataW H} (ht : P.underlying t = some .bool) (h : TC enc P w base spare held t cs d) : ∃ b, cs = [.bool b] := by
  obtain ⟨fuel, p, hf⟩ := h
  obtain ⟨b, h1, _⟩ := DataW.trod_bool ht hf
  exact ⟨b, h1⟩
theorem TC.plain {t : TypeId} {cs : List Value} {d : DataW H} {ls : List Lf} (hl : leaves P 8 t = some ls) (hs : P.cellsOf t = ls.length) (h : TC enc P w base spare held t cs d) : okw ls cs := by
  obtain ⟨fuel, p, hf⟩ := h
  exact trod_plain 8 t ls fuel cs _ hl hs hf
/-- a struct's fields -/
theorem TC.struct {t : TypeId} {fs : Array Field} {cs : List Value} {d : DataW H} (ht : P.underlying t = some (.struct fs)) (h : TC enc P w base spare held t cs d) :
    ∃ ds, d = .agg ds ∧ ds.length = fs.size ∧ cs.length = P.cellsOf t ∧ ∀ (i : Nat) (f : Field) (di : DataW H), fs[i]? = some f → ds[i]? = some di → TC enc P w base spare held f.type ((cs.drop f.offset).take (P.cellsOf f.type)) di := by
  obtain ⟨fuel, p, hf⟩ := h
  obtain ⟨xs, n, _, hx, hl, hn, hf⟩ := DataW.trod_struct ht hf
  simp only [Prod.mk.injEq] at hx
  refine ⟨xs.map (·.1), hx.1, by simpa using hn, hl, fun i f di h1 h2 => ?_⟩
  have := hf i f h1
  rw [List.getElem?_map] at h2
  cases h3 : xs[i]? with
  | none => rw [h3] at h2; cases h2
  | some x =>
    rw [h3] at h2 this
    simp at h2
    exact ⟨n, x.2, by rw [this, ← h2]⟩
/-- a slice's elements -/
theorem TC.slice {t e m : Nat} {cs : List Value} {d : DataW H} (ht : P.underlying t = some (.slice e)) (hm : P.cellsOf e = m) (h0 : 0 < m) (h : TC enc P w base spare held t cs d) :
    ∃ A len cap, ∃ (css : List (List Value)) (ds : List (DataW H)), cs = [.slice A len cap] ∧ css.length = len ∧ ds.length = len ∧ (∀ c ∈ css, c.length = m) ∧ (∀ (i : Nat) (c : List Value), css[i]? = some c → ∀ (j : Nat) (v : Value), c[j]? = some v → ∃ b o, A = some ⟨b, o, none⟩ ∧ w.cell? ⟨b, o + (i * m + j), none⟩ = some v) ∧
      (d = .nil ∧ len = 0 ∨ ∃ sp, d = .slice ds sp) ∧ ∀ (i : Nat) (c : List Value) (di : DataW H), css[i]? = some c → ds[i]? = some di → TC enc P w base spare held e c di := by
  obtain ⟨fuel, p, hf⟩ := h
  rcases DataW.trod_slice ht hf with ⟨rfl, hx⟩ | ⟨a, len, cap, elems, rest, n, _, rfl, hx, hb, hl, hc, hn, he, _⟩
  · simp only [Prod.mk.injEq] at hx
    exact ⟨none, 0, 0, [], [], rfl, rfl, rfl, by simp, by simp, .inl ⟨hx.1, rfl⟩, by simp⟩
  · simp only [Prod.mk.injEq] at hx
    rw [hm] at he
    have each : ∀ i, i < len → ∃ c x, w.cells? base (a.add (i * m)) m = some c ∧ DataW.trod enc P w base spare held n e c = some x ∧ elems[i]? = some x := by
      intro i hi
      have := he i hi
      rw [List.getElem?_eq_getElem (by omega)] at this
      obtain ⟨c, h1, h2⟩ := Option.bind_eq_some_iff.1 this
      exact ⟨c, _, h1, h2, List.getElem?_eq_getElem (by omega)⟩
    have hcs : ∃ css : List (List Value), css.length = len ∧ ∀ i c, css[i]? = some c → ∃ x, w.cells? base (a.add (i * m)) m = some c ∧ DataW.trod enc P w base spare held n e c = some x ∧ elems[i]? = some x := by
      have key : ∀ k, k ≤ len → ∃ css : List (List Value), css.length = k ∧ ∀ i c, css[i]? = some c → ∃ x, w.cells? base (a.add (i * m)) m = some c ∧ DataW.trod enc P w base spare held n e c = some x ∧ elems[i]? = some x := by
        intro k
        induction k with
        | zero => intro _; exact ⟨[], rfl, by simp⟩
        | succ k ih =>
          intro hk
          obtain ⟨css, h1, h2⟩ := ih (by omega)
          obtain ⟨c, x, h3⟩ := each k (by omega)
          refine ⟨css ++ [c], by simp [h1], fun i c' hc' => ?_⟩
          by_cases hi : i < k
          · rw [List.getElem?_append_left (by omega)] at hc'
            exact h2 i c' hc'
          · rw [List.getElem?_append_right (by omega)] at hc'
            have hik : i = k := by
              have := (List.getElem?_eq_some_iff.1 hc').1
              simp at this; omega
            subst hik
            simp [h1] at hc'
            subst hc'
            exact ⟨x, h3⟩
      exact key len (Nat.le_refl _)
    obtain ⟨css, h1, h2⟩ := hcs
    refine ⟨some a, len, cap, css, elems.map (·.1), rfl, h1, by simpa using hn, fun c hc => ?_, fun i c hc j v hv => ?_, .inr ⟨_, hx.1⟩, fun i c di hc hdi => ?_⟩
    · obtain ⟨i, hi⟩ := List.mem_iff_getElem?.1 hc
      obtain ⟨x, h3, _⟩ := h2 i c hi
      exact (World.cells?_some h3).2.1
    · obtain ⟨x, h3, _⟩ := h2 i c hc
      obtain ⟨g1, g2, g3⟩ := World.cells?_some h3
      have hj := (List.getElem?_eq_some_iff.1 hv).1
      have hcell := g3 j (by omega)
      rw [hv] at hcell
      obtain ⟨b, o, sp⟩ := a
      have hsp : sp = none := by
        have hlt : 0 < css.length := by
          have := (List.getElem?_eq_some_iff.1 hc).1
          omega
        obtain ⟨x0, k3, _⟩ := h2 0 css[0] (List.getElem?_eq_getElem hlt)
        obtain ⟨_, k2, k4⟩ := World.cells?_some k3
        have := k4 0 h0
        rw [List.getElem?_eq_getElem (by omega)] at this
        simpa [Addr.add] using World.cell?_spot this
      subst hsp
      refine ⟨b, o, rfl, ?_⟩
      rw [add_none, add_none, Nat.add_assoc] at hcell
      exact hcell
    · obtain ⟨x, h3, h4, h5⟩ := h2 i c hc
      rw [List.getElem?_map, h5] at hdi
      simp at hdi
      exact ⟨n, x.2, by rw [h4, ← hdi]⟩
end
/-- one for each number below n -/
theorem list_of {α : Type} {Q : Nat → α → Prop} (n : Nat) (h : ∀ i, i < n → ∃ x, Q i x) : ∃ l : List α, l.length = n ∧ ∀ (i : Nat) (x : α), l[i]? = some x → Q i x := by
  induction n with
  | zero => exact ⟨[], rfl, by simp⟩
  | succ n ih =>
    obtain ⟨l, h1, h2⟩ := ih fun i hi => h i (by omega)
    obtain ⟨x, hx⟩ := h n (by omega)
    refine ⟨l ++ [x], by simp [h1], fun i y hy => ?_⟩
    by_cases hi : i < n
    · rw [List.getElem?_append_left (by omega)] at hy
      exact h2 i y hy
    · rw [List.getElem?_append_right (by omega)] at hy
      have hlt := (List.getElem?_eq_some_iff.1 hy).1
      simp at hlt
      have : i = n := by omega
      subst this
      simp [h1] at hy
      subst hy
      exact hx
section
variable {H : Type} {enc : TypeId × Value → H} {P : Program} {w : World} {base : Nat} {spare : Nat → Bool} {held : Bool}
/-- bytes -/
theorem TC.bytes {t e : Nat} {cs : List Value} {d : DataW H} (ht : P.underlying t = some (.slice e)) (he : P.underlying e = some (.int .u8)) (hm : P.cellsOf e = 1) (h : TC enc P w base spare held t cs d) :
    ∃ A c ys, cs = [.slice A (List.length ys) c] ∧ Rd w [] A (byts ys) ∧ (d = .nil ∧ ys = [] ∨ ∃ ds sp, d = .slice ds sp ∧ ds.length = ys.length) := by
  obtain ⟨A, len, cap, css, ds, h1, h2, h3, h4, h5, h6, h7⟩ := h.slice ht hm (by omega)
  obtain ⟨ys, hy1, hy2⟩ := list_of (Q := fun i (y : BitVec 8) => css[i]? = some [.int .u8 y.toNat]) len (fun i hi => by
    have hc := List.getElem?_eq_getElem (show i < css.length by omega)
    have hd := List.getElem?_eq_getElem (show i < ds.length by omega)
    obtain ⟨n, hn, hw⟩ := (h7 i _ _ hc hd).int he
    have := wf_u8 hw
    refine ⟨BitVec.ofNat 8 n.toNat, ?_⟩
    rw [hc, hn]
    simp
    omega)
  refine ⟨A, cap, ys, by rw [h1, hy1], fun j v hv => ?_, ?_⟩
  · have hj : j < ys.length := by have := (List.getElem?_eq_some_iff.1 hv).1; simpa [byts_length] using this
    rw [byts_get hj] at hv
    have h8 := hy2 j _ (List.getElem?_eq_getElem hj)
    obtain ⟨b, o, e1, e2⟩ := h5 j _ h8 0 v (by simpa using hv)
    exact ⟨b, o, e1, by simp, by simpa using e2⟩
  · rcases h6 with ⟨e1, e2⟩ | ⟨sp, e1⟩
    · exact .inl ⟨e1, List.eq_nil_of_length_eq_zero (by omega)⟩
    · exact .inr ⟨ds, sp, e1, by omega⟩
end
end V
end Go

/- VO: min and max of numbers; wrapped numbers as remainders. -/
namespace Go
namespace V
open Go.RowKit
set_option linter.unusedVariables false
set_option linter.unusedSimpArgs false
section
variable {P : Program} {n : Nat} {w0 : World} {own : List Nat} {e : Env} {hs : Hp}
theorem Val.min2 {x y : Operand} {q : IntKind} {i j : Int} {ts : Array TypeId} (hx : ev e x = some (.int q i)) (hy : ev e y = some (.int q j)) :
    Val P n w0 own e hs (.call { callee := .builtin .min, args := #[x, y], argTypes := ts }) (.int q (min i j)) := fun a w ty pos aft g d hr s => by
  simp [execOp, hr.eval hx, hr.eval hy, resolve, invoke, builtin, Builtin.min_, Builtin.min2]
  by_cases h : j < i
  · simp [h]; omega
  · simp [h]; omega
end
/-- rows of so many cells -/
theorem flatMap_get {α : Type} (f : α → List Value) (m : Nat) (hm : ∀ a, (f a).length = m) : ∀ (l : List α) (i j : Nat) (hi : i < l.length), j < m → (l.flatMap f)[i * m + j]? = (f l[i])[j]?
  | a :: l, 0, j, hi, hj => by
    rw [List.flatMap_cons, List.getElem?_append_left (by rw [hm]; omega)]; simp
  | a :: l, i + 1, j, hi, hj => by
    have e : (i + 1) * m + j = m + (i * m + j) := by rw [Nat.add_mul]; omega
    rw [List.flatMap_cons, List.getElem?_append_right (by rw [hm]; omega), hm, e, Nat.add_sub_cancel_left, flatMap_get f m hm l i j (by simpa using hi) hj]
    simp
  | [], i, j, hi, _ => by simp at hi
theorem flatMap_length {α : Type} (f : α → List Value) (m : Nat) (hm : ∀ a, (f a).length = m) (l : List α) : (l.flatMap f).length = l.length * m := by
  induction l with
  | nil => simp
  | cons a l ih => rw [List.flatMap_cons, List.length_append, hm, ih, List.length_cons, Nat.add_mul]; omega
theorem u64w (z : Int) : IntKind.u64.wrap z = z % 18446744073709551616 := by simp [IntKind.wrap, IntKind.bits, IntKind.signed]
theorem u32w (z : Int) : IntKind.u32.wrap z = z % 4294967296 := by simp [IntKind.wrap, IntKind.bits, IntKind.signed]
end V
end Go

/- VP: '&&' and '||' in regions that draw and turn nothing. -/
namespace Go
namespace V
open Go.RowKit
set_option linter.unusedVariables false
set_option linter.unusedSimpArgs false

section
variable {P : Program} {n : Nat} {w0 : World} {own : List Nat} {e : Env} {hs : Hp} {ops : Array Oper} {rest l : List Oper} {K : Env → Prop}
variable {d : Nat} {ty : TypeId} {pos : String} {aft : Array Edge} {g : Option (Nat × Bool)}

theorem JH.mono {l : List Oper} {K' : Env → Prop} (h : JH P n w0 own ops l e hs K) (k : ∀ e, K e → K' e) : JH P n w0 own ops l e hs K' :=
  fun a w hr s L hL => h a w hr s L fun e' a' r kk => hL e' a' r (k _ kk)
theorem JH.skips : ∀ {l : List Oper} {e e1 : Env}, skB ops n l e = some e1 → (∀ e1', Sub e e1' → JH P n w0 own ops [] e1' hs K) → JH P n w0 own ops l e hs K
  | [], e, e1, h, k => k e (Sub.refl e)
  | o :: l, e, e1, h, k => by
    unfold skB at h
    cases ho : o.dst with
    | none => rw [ho] at h; cases h
    | some dd =>
      rw [ho] at h
      simp only at h
      split at h
      · rename_i hc
        rw [Bool.and_eq_true, Bool.and_eq_true] at hc
        obtain ⟨⟨c1, c2⟩, c3⟩ := hc
        intro a w hr s L hL
        unfold wpStill
        rw [if_neg (by rw [skip_step hr ho c3]; simp), ho]
        refine JH.skips h (fun e1' hs' => k e1' (Sub.trans ?_ hs')) _ _ (hr.put (Nat.le_of_ble_eq_true c1) undef) s L hL
        exact sub_app [(dd, undef)] e (by simp [c2])
      · cases h
theorem JH.app {l1 l2 : List Oper} (h : JH P n w0 own ops l1 e hs (fun e' => JH P n w0 own ops l2 e' hs K)) : JH P n w0 own ops (l1 ++ l2) e hs K := by
  intro a w hr s L hL
  have key : ∀ (l1 : List Oper) (a : Act), wpStill P ops w (fun a => wpStill P ops w L l2 a) l1 a → wpStill P ops w L (l1 ++ l2) a := by
    intro l1
    induction l1 with
    | nil => intro a h; exact h
    | cons o l1 ih =>
      intro a h
      unfold wpStill at h
      rw [List.cons_append]
      unfold wpStill
      split
      · rename_i hw
        rw [if_pos hw] at h
        exact Oper.still_mono ih h
      · rename_i hw
        rw [if_neg hw] at h
        exact ih _ h
  exact key l1 a (h a w hr s _ fun e' a' r' kk => kk a' w r' s L hL)
theorem sub_same {t : Nat} {v : Value} (ht : get e t = some v) : Sub e ((t, v) :: e) := fun s u hu => by
  unfold get
  cases hb : Nat.beq t s with
  | true => have := Nat.eq_of_beq_eq_true hb; subst this; rw [ht] at hu; simpa using hu
  | false => exact hu
/-- '&&' -/
theorem JH.and {b1 b2 : Bool} (t y m k : Nat) (hl : l.drop m = ⟨some d, .pick (.tmp t) (.tmp y) (.const (.bool false)), ty, pos, aft, g⟩ :: rest) (ht : get e t = some (.bool b1))
    (h : b1 = true → JH P n w0 own ops (l.take m) ((t, .bool true) :: e) hs (fun e' => get e' y = some (.bool b2) ∧ Pop k e' ((t, .bool true) :: e)))
    (kk : JH P n w0 own ops rest ((d, .bool (b1 && b2)) :: e) hs K)
    (hsk : (skB ops n (l.take m) ((t, .bool false) :: e)).isSome = true := by rfl)
    (hdn : Nat.blt d n = true := by rfl) (hg : wantB ops e g = some true := by rfl) : JH P n w0 own ops l e hs K := by
  rw [← List.take_append_drop m l, hl]
  refine JH.app ?_
  have fin : ∀ (e1 : Env), Sub e e1 → (b1 = true → get e1 y = some (.bool b2)) → JH P n w0 own ops (⟨some d, .pick (.tmp t) (.tmp y) (.const (.bool false)), ty, pos, aft, g⟩ :: rest) e1 hs K := by
    intro e1 hsub hy a w hr s L hL
    have hr' := hr.sub hsub
    unfold wpStill
    rw [if_pos (wanted_of hr' hg)]
    have e1t := hr.eval (x := .tmp t) (hsub t _ ht)
    have hrun : (execOp a.eval ⟨some d, .pick (.tmp t) (.tmp y) (.const (.bool false)), ty, pos, aft, g⟩).run P w = .ok (.value (.bool (b1 && b2))) w := by
      cases hb : b1 with
      | false =>
        rw [hb] at e1t
        have e3 : ∀ v, a.eval (.const v) = v := fun _ => rfl
        simp [execOp, e1t, asBool, e3]
      | true =>
        rw [hb] at e1t
        have e2 := hr.eval (x := .tmp y) (hy hb)
        simp [execOp, e1t, e2, asBool]
    rw [Oper.still, hrun, Oper.stillUpon_value]
    exact kk _ _ (hr'.put (Nat.le_of_ble_eq_true hdn) _) s L hL
  cases hb : b1 with
  | true =>
    rw [hb] at ht
    intro a w hr s
    exact (h hb).mono (fun e' ⟨h2, h3⟩ => fin e' ((sub_same ht).trans h3.sub) (fun _ => h2)) a w (hr.same ht) s
  | false =>
    rw [hb] at ht
    obtain ⟨e1, he1⟩ := Option.isSome_iff_exists.1 hsk
    intro a w hr s
    exact JH.skips he1 (fun e1' hs' => JH.nil (fin e1' ((sub_same ht).trans hs') (fun h => by rw [hb] at h; cases h))) a w (hr.same ht) s
/-- '||' -/
theorem JH.or {b1 b2 : Bool} (t y m k : Nat) (hl : l.drop m = ⟨some d, .pick (.tmp t) (.const (.bool true)) (.tmp y), ty, pos, aft, g⟩ :: rest) (ht : get e t = some (.bool b1))
    (h : b1 = false → JH P n w0 own ops (l.take m) ((t, .bool false) :: e) hs (fun e' => get e' y = some (.bool b2) ∧ Pop k e' ((t, .bool false) :: e)))
    (kk : JH P n w0 own ops rest ((d, .bool (b1 || b2)) :: e) hs K)
    (hsk : (skB ops n (l.take m) ((t, .bool true) :: e)).isSome = true := by rfl)
    (hdn : Nat.blt d n = true := by rfl) (hg : wantB ops e g = some true := by rfl) : JH P n w0 own ops l e hs K := by
  rw [← List.take_append_drop m l, hl]
  refine JH.app ?_
  have fin : ∀ (e1 : Env), Sub e e1 → (b1 = false → get e1 y = some (.bool b2)) → JH P n w0 own ops (⟨some d, .pick (.tmp t) (.const (.bool true)) (.tmp y), ty, pos, aft, g⟩ :: rest) e1 hs K := by
    intro e1 hsub hy a w hr s L hL
    have hr' := hr.sub hsub
    unfold wpStill
    rw [if_pos (wanted_of hr' hg)]
    have e1t := hr.eval (x := .tmp t) (hsub t _ ht)
    have hrun : (execOp a.eval ⟨some d, .pick (.tmp t) (.const (.bool true)) (.tmp y), ty, pos, aft, g⟩).run P w = .ok (.value (.bool (b1 || b2))) w := by
      cases hb : b1 with
      | true =>
        rw [hb] at e1t
        have e3 : ∀ v, a.eval (.const v) = v := fun _ => rfl
        simp [execOp, e1t, asBool, e3]
      | false =>
        rw [hb] at e1t
        have e2 := hr.eval (x := .tmp y) (hy hb)
        simp [execOp, e1t, e2, asBool]
    rw [Oper.still, hrun, Oper.stillUpon_value]
    exact kk _ _ (hr'.put (Nat.le_of_ble_eq_true hdn) _) s L hL
  cases hb : b1 with
  | false =>
    rw [hb] at ht
    intro a w hr s
    exact (h hb).mono (fun e' ⟨h2, h3⟩ => fin e' ((sub_same ht).trans h3.sub) (fun _ => h2)) a w (hr.same ht) s
  | true =>
    rw [hb] at ht
    obtain ⟨e1, he1⟩ := Option.isSome_iff_exists.1 hsk
    intro a w hr s
    exact JH.skips he1 (fun e1' hs' => JH.nil (fin e1' ((sub_same ht).trans hs') (fun h => by rw [hb] at h; cases h))) a w (hr.same ht) s
end
end V
end Go

/- VQ: maps whose keys are numbers: make, look up, set. -/
namespace Go
namespace V
open Go.RowKit
set_option linter.unusedVariables false
set_option linter.unusedSimpArgs false

abbrev ME := Int × Value × Nat
def mentry (q : IntKind) (x : ME) : MapEntry := { key := .int q x.1, val := x.2.1, born := x.2.2 }
def mapOf (q : IntKind) (es : List ME) (clock : Nat) : Obj := .map ⟨es.map (mentry q)⟩ clock
def mfind (k : Int) : List ME → Nat → Option (Nat × Value)
  | [], _ => none
  | x :: es, i => if k == x.1 then some (i, x.2.1) else mfind k es (i + 1)
def mget (k : Int) (es : List ME) : Option Value := (mfind k es 0).map (·.2)
theorem findNow_int (q : IntKind) (k : Int) : ∀ (es : List ME) (i : Nat), Instr.findNow (.int q) (.int q k) (es.map (mentry q)) i = some (mfind k es i)
  | [], i => rfl
  | x :: es, i => by
    simp only [List.map_cons, Instr.findNow, mentry, Instr.sameNow, if_true]
    unfold mfind
    cases h : k == x.1 with
    | true => simp
    | false => simpa using findNow_int q k es (i + 1)
section
variable {P : Program} {n : Nat} {w0 : World} {own : List Nat} {e : Env} {hs : Hp}
theorem run_checkKey_int {kT : Nat} {q : IntKind} (h : P.underlying kT = some (.int q)) (b : Bool) (k : Int) (w : World) : (Instr.checkKey b 10000 kT (.int q k)).run P w = .ok () w := by
  unfold Instr.checkKey
  simp [run_underlying h]
theorem run_findKey_int {kT : Nat} {q : IntKind} (h : P.underlying kT = some (.int q)) (k : Int) (es : List ME) (w : World) : (Instr.findKey kT (.int q k) (es.map (mentry q))).run P w = .ok (mfind k es 0) w := by
  unfold Instr.findKey
  simp [run_underlying h, findNow_int]
theorem Sat.mrow {w0 w : World} {own : List Nat} {hs : Hp} (h : Sat w0 own hs w) {b : Nat} {o : Obj} (hb : (b, .obj o) ∈ hs) : w.heap[b]? = some o := h.has b _ hb
theorem Eff.makeMap {T : Nat} (q : IntKind) : Eff P n w0 own e hs (.makeMap T none) (fun v h => ∃ b, v = .map (some b) ∧ h = (b, .obj (mapOf q [] 0)) :: hs) :=
  Eff.of_run fun a w ty pos aft g d hr s => by
    refine ⟨.map (some w.heap.size), _, w.alloc (.map #[] 0), ?_, ⟨w.heap.size, rfl, rfl⟩, s.new (.obj (mapOf q [] 0))⟩
    have := run_makeMap (P := P) T w
    simp [execOp, this]
theorem Val.lookup {T kT eT b c : Nat} {q : IntKind} {k : Int} {x y : Operand} {es : List ME} {z : Value} (hx : ev e x = some (.map (some b))) (hy : ev e y = some (.int q k)) [hT : MapT P T kT eT] [hk : IntT P kT q] [hz : ZrV P eT z]
    [hb : Mem b (.obj (mapOf q es c)) hs] : Val P n w0 own e hs (.lookup T x y false) ((mget k es).getD z) := fun a w ty pos aft g d hr s => by
  obtain ⟨i, hi, hzz⟩ := hz.out
  have h1 := s.mrow hb.out
  have h1' : w.heap[b]? = some (.map ⟨es.map (mentry q)⟩ c) := h1
  have key : (Instr.lookup T (.map (some b)) (.int q k) false).run P w = .ok ((mget k es).getD z) w := by
    unfold Instr.lookup
    simp [run_underlying hT.out, MapKept.run_getObj_map h1', run_checkKey_int hk.out, run_findKey_int hk.out]
    unfold mget
    cases mfind k es 0 with
    | none => simp [zeroValue, typeInfo, hi, hzz]
    | some p => simp
  simp [execOp, hr.eval hx, hr.eval hy, key]
theorem Val.lookupE {T kT eT b c : Nat} {q : IntKind} {k : Int} {x y : Operand} {es : List ME} {z v : Value} (hx : ev e x = some (.map (some b))) (hy : ev e y = some (.int q k)) [hT : MapT P T kT eT] [hk : IntT P kT q] [hz : ZrV P eT z]
    [hb : Mem b (.obj (mapOf q es c)) hs] (hv : (mget k es).getD z = v) : Val P n w0 own e hs (.lookup T x y false) v := hv ▸ Val.lookup hx hy
/-- the map behind a setting, and its clock -/
def mset (k : Int) (v : Value) (es : List ME) (c : Nat) : List ME × Nat := match mfind k es 0 with
  | some (i, _) => (es.modify i fun x => (k, v, x.2.2), c)
  | none => (es ++ [(k, v, c)], c + 1)
theorem mfind_key (k : Int) : ∀ (es : List ME) (i j : Nat) (v : Value), mfind k es i = some (j, v) → i ≤ j ∧ ∃ x, es[j - i]? = some x ∧ x.1 = k ∧ x.2.1 = v
  | [], i, j, v, h => by simp [mfind] at h
  | x :: es, i, j, v, h => by
    unfold mfind at h
    cases hk : k == x.1 with
    | true =>
      rw [hk] at h
      simp at h
      obtain ⟨rfl, rfl⟩ := h
      exact ⟨Nat.le_refl _, x, by simp, by simpa using (beq_iff_eq.1 hk).symm, rfl⟩
    | false =>
      rw [hk] at h
      simp at h
      obtain ⟨h1, y, h2, h3⟩ := mfind_key k es (i + 1) j v h
      refine ⟨by omega, y, ?_, h3⟩
      obtain ⟨m, hm⟩ : ∃ m, j - i = m + 1 := ⟨j - i - 1, by omega⟩
      rw [hm, List.getElem?_cons_succ, show m = j - (i + 1) from by omega]
      exact h2
theorem Eff.mapUpdate {T kT eT b c : Nat} {q : IntKind} {k : Int} {x y z : Operand} {v : Value} {es : List ME} {hs' : Hp} (hx : ev e x = some (.map (some b))) (hy : ev e y = some (.int q k)) (hz : ev e z = some v) [hT : MapT P T kT eT] [hk : IntT P kT q]
    [hb : Mem b (.obj (mapOf q es c)) hs] [u : UpdI b (.obj (mapOf q (mset k v es c).1 (mset k v es c).2)) hs hs'] : Eff P n w0 own e hs (.mapUpdate T x y z) (fun u h => u = undef ∧ h = hs') :=
  Eff.of_skip fun a w ty pos aft g d hr s => by
    have h1 := s.mrow hb.out
    have h1' : w.heap[b]? = some (.map ⟨es.map (mentry q)⟩ c) := h1
    have hlt : b < w.heap.size := (Array.getElem?_eq_some_iff.1 h1').1
    have key : (Instr.mapUpdate T (.map (some b)) (.int q k) v).run P w = .ok () { w with heap := w.heap.setIfInBounds b (mapOf q (mset k v es c).1 (mset k v es c).2) } := by
      unfold Instr.mapUpdate
      cases hf : mfind k es 0 with
      | none =>
        simp [run_underlying hT.out, MapKept.run_getObj_map h1', run_checkKey_int hk.out, run_findKey_int hk.out, hf, MapKept.run_setObj_map _ h1', mset, mapOf, mentry]
      | some p =>
        obtain ⟨i, v0⟩ := p
        obtain ⟨_, y0, g1, g2, _⟩ := mfind_key k es 0 i v0 hf
        have hold : ((((⟨es.map (mentry q)⟩ : Array MapEntry)[i]?).map (·.key)).getD (.int q k)) = .int q k := by
          simp at g1
          simp [g1, mentry, g2]
        have hst : (Instr.keyThatStays (.int q k) (.int q k)).run P w = .ok (.int q k) w := by
          simp [Instr.keyThatStays, Instr.sameBits]
        simp [run_underlying hT.out, MapKept.run_getObj_map h1', run_checkKey_int hk.out, run_findKey_int hk.out, hf]
        have hold' : (Option.map ((fun x => x.key) ∘ mentry q) es[i]?).getD (Value.int q k) = Value.int q k := by
          simp at g1
          simp [g1, mentry, g2]
        rw [hold', hst]
        simp only [Result.andThen_ok, MapKept.run_setObj_map _ h1']
        congr 3
        simp only [mset, hf, mapOf]
        congr 2
        apply List.ext_getElem?
        intro m
        simp only [List.getElem?_modify, List.getElem?_map]
        cases es[m]? with
        | none => simp
        | some x => by_cases hm : i = m <;> simp [hm, mentry]
    refine ⟨{ w with heap := w.heap.setIfInBounds b (mapOf q (mset k v es c).1 (mset k v es c).2) }, ?_, ?_⟩
    · simp [execOp, hr.eval hx, hr.eval hy, hr.eval hz, key]
    · refine s.upd u.out ?_ ?_ ?_ rfl rfl rfl
      · simp
      · intro i hi
        simp [Array.getElem?_setIfInBounds, Ne.symm hi]
      · simp [Array.getElem?_setIfInBounds, hlt, Ch.toObj]
end
end V
end Go

/- VR: regions that draw their order: they run in an order of our choice, values first, what works on memory when it is alone. -/
namespace Go
namespace V
open Go.RowKit
set_option linter.unusedVariables false
set_option linter.unusedSimpArgs false

/-- does the operation work on memory? -/
def isEff (o : Oper) : Bool := match o.op with
  | .alloc _ | .box _ _ | .buildSlice _ _ _ | .insert _ _ _ _ | .store _ _ _ | .makeMap _ _ | .makeSlice _ _ _ | .mapUpdate _ _ _ _ | .mapEntry _ _ _ | .entryStore _ _ _ _ | .range _ _ | .next _ _ | .entry _ => true
  | .call { callee := .value _, .. } => true
  | .call { callee := .builtin .append, .. } => true
  | .call { callee := .builtin .copy, .. } => true
  | .call { callee := .builtin .delete, .. } => true
  | .call { callee := .builtin .clear, .. } => true
  | _ => false
/-- the numbers may come up in this order -/
def ordB (ops : Array Oper) : List Oper → List Nat → Array Bool → Bool
  | [], [], _ => true
  | o :: l, i :: is, listed => (onlyB ops listed i || (!isEff o && firstB ops listed i)) && ordB ops l is (listed.setIfInBounds i true)
  | _, _, _ => false
def marks_ : List Nat → Array Bool → Array Bool
  | [], listed => listed
  | i :: is, listed => marks_ is (listed.setIfInBounds i true)
theorem marks_app : ∀ (a b : List Nat) (listed : Array Bool), marks_ (a ++ b) listed = marks_ b (marks_ a listed)
  | [], b, listed => rfl
  | i :: a, b, listed => marks_app a b _
theorem ordB_app (ops : Array Oper) : ∀ (l1 l2 : List Oper) (i1 i2 : List Nat) (listed : Array Bool), l1.length = i1.length → ordB ops (l1 ++ l2) (i1 ++ i2) listed = (ordB ops l1 i1 listed && ordB ops l2 i2 (marks_ i1 listed))
  | [], l2, [], i2, listed, _ => by simp [ordB, marks_]
  | o :: l1, l2, i :: i1, i2, listed, h => by
    simp only [List.cons_append, ordB, ordB_app ops l1 l2 i1 i2 _ (by simpa using h), marks_, Bool.and_assoc]
  | [], _, _ :: _, _, _, h => by simp at h
  | _ :: _, _, [], _, _, h => by simp at h
def Nums (ops : Array Oper) : List Oper → List Nat → Prop
  | [], [] => True
  | o :: l, i :: is => ops[i]? = some o ∧ Nums ops l is
  | _, _ => False
theorem Nums.len {ops : Array Oper} : ∀ {l : List Oper} {is : List Nat}, Nums ops l is → l.length = is.length
  | [], [], _ => rfl
  | o :: l, i :: is, h => by have := Nums.len h.2; simp [this]
  | [], _ :: _, h => h.elim
  | _ :: _, [], h => h.elim
theorem Nums.app {ops : Array Oper} : ∀ {l1 l2 : List Oper} {is : List Nat}, Nums ops (l1 ++ l2) is → Nums ops l1 (is.take l1.length) ∧ Nums ops l2 (is.drop l1.length)
  | [], l2, is, h => ⟨by simp [Nums], by simpa using h⟩
  | o :: l1, l2, i :: is, h => by
    obtain ⟨h1, h2⟩ := h
    obtain ⟨k1, k2⟩ := Nums.app h2
    exact ⟨⟨h1, k1⟩, k2⟩
  | _ :: _, _, [], h => h.elim
theorem Nums.seq {ops : Array Oper} : ∀ (l : List Oper) (k : Nat), (∀ j, j < l.length → ops[k + j]? = l[j]?) → Nums ops l (List.range' k l.length)
  | [], k, _ => trivial
  | o :: l, k, h => by
    rw [List.length_cons, List.range'_succ]
    refine ⟨by simpa using h 0 (by simp), Nums.seq l (k + 1) fun j hj => ?_⟩
    have := h (j + 1) (by simpa using hj)
    rw [List.getElem?_cons_succ] at this
    rw [← this, Nat.add_right_comm, Nat.add_assoc]

/-- the operations, in a drawn region, in their order: 'F' is held -/
def JK (P : Program) (n : Nat) (w0 : World) (own : List Nat) (ops : Array Oper) (F : Hp) (l : List Oper) (e : Env) (hs : Hp) (K : Env → Hp → Prop) : Prop :=
  ∀ (m : Nat) (is : List Nat) (listed : Array Bool) (Z : Env → Hp → Prop), Nums ops l is → ordB ops l is listed = true → F ⊆ hs →
    (∀ e' hs', F ⊆ hs' → K e' hs' → JD P n w0 own ops F m (marks_ is listed) e' hs' Z) → JD P n w0 own ops F (l.length + m) listed e hs Z

section
variable {P : Program} {n : Nat} {w0 : World} {own : List Nat} {e : Env} {hs F : Hp} {ops : Array Oper} {rest l : List Oper} {K : Env → Hp → Prop}
variable {d : Nat} {ty : TypeId} {pos : String} {aft : Array Edge} {g : Option (Nat × Bool)}

theorem JC.drawK {id : Nat} {Q : Post} {l : List Oper} (F : Hp) (hF : F ⊆ hs) (hm : P.follows .mixedOrders = true) (hB : (ordB l.toArray l (List.range' 0 l.length) (Array.replicate l.length false) && doneB l.toArray (marks_ (List.range' 0 l.length) (Array.replicate l.length false))) = true)
    (h : JK P n w0 own l.toArray F l e hs (fun e' hs' => Q .normal e' hs')) : JC P n w0 own (.region id l.toArray true) e hs Q := by
  rw [Bool.and_eq_true] at hB
  refine JC.draw F hF hm ?_
  have := h 0 (List.range' 0 l.length) (Array.replicate l.length false) (fun e hs => Q .normal e hs) (Nums.seq l 0 fun j hj => by simp) hB.1 hF (fun e' hs' _ ke => JD.done hB.2 ke)
  simpa using this
def pickL (l : List Oper) : List Nat → List Oper
  | [] => []
  | i :: is => match l[i]? with
    | some o => o :: pickL l is
    | none => []
theorem pickL_nums {l : List Oper} : ∀ (is : List Nat), ordB l.toArray (pickL l is) is (Array.replicate l.length false) = true → (pickL l is).length = is.length → Nums l.toArray (pickL l is) is
  | [], _, _ => trivial
  | i :: is, h, hl => by
    have key : ∀ (is : List Nat), (pickL l is).length = is.length → Nums l.toArray (pickL l is) is := by
      intro is
      induction is with
      | nil => intro _; trivial
      | cons i is ih =>
        intro hl
        unfold pickL at hl ⊢
        cases ho : l[i]? with
        | none => rw [ho] at hl; simp at hl
        | some o =>
          rw [ho] at hl
          simp only at hl ⊢
          exact ⟨by simpa using ho, ih (by simpa using hl)⟩
    exact key _ hl
/-- in an order of ours -/
theorem JC.drawP {id : Nat} {Q : Post} {l : List Oper} (is : List Nat) (F : Hp) (hF : F ⊆ hs) (hm : P.follows .mixedOrders = true) (hB : (ordB l.toArray (pickL l is) is (Array.replicate l.length false) && doneB l.toArray (marks_ is (Array.replicate l.length false)) && Nat.beq (pickL l is).length l.length && Nat.beq is.length l.length) = true)
    (h : JK P n w0 own l.toArray F (pickL l is) e hs (fun e' hs' => Q .normal e' hs')) : JC P n w0 own (.region id l.toArray true) e hs Q := by
  rw [Bool.and_eq_true, Bool.and_eq_true, Bool.and_eq_true] at hB
  obtain ⟨⟨⟨h1, h2⟩, h3⟩, h4⟩ := hB
  have h3 := Nat.eq_of_beq_eq_true h3
  have h4 := Nat.eq_of_beq_eq_true h4
  refine JC.draw F hF hm ?_
  have := h 0 is (Array.replicate l.length false) (fun e hs => Q .normal e hs) (pickL_nums is h1 (by omega)) h1 hF (fun e' hs' _ ke => JD.done h2 ke)
  rw [h3] at this
  simpa using this
theorem JK.nil (h : K e hs) : JK P n w0 own ops F [] e hs K := fun m is listed Z hn _ hF hz => by
  cases is with
  | nil => rw [List.length_nil, Nat.zero_add]; exact hz e hs hF h
  | cons i is => exact hn.elim
theorem JK.mono {K' : Env → Hp → Prop} (h : JK P n w0 own ops F l e hs K) (kk : ∀ e hs, K e hs → K' e hs) : JK P n w0 own ops F l e hs K' :=
  fun m k listed Z h1 h2 h3 hz => h m k listed Z h1 h2 h3 fun e' hs' f ke => hz e' hs' f (kk e' hs' ke)
theorem JK.sub {e2 : Env} (hs' : Sub e2 e) (h : JK P n w0 own ops F l e2 hs K) : JK P n w0 own ops F l e hs K :=
  fun m k listed Z h1 h2 h3 hz a w hr s hF => h m k listed Z h1 h2 h3 hz a w (hr.sub hs') s hF
/-- a thing that is known already may be laid on top -/
theorem sub_same' {t : Nat} {v : Value} (ht : get e t = some v) : Sub ((t, v) :: e) e := fun s u hu => by
  simp only [get] at hu
  cases hb : Nat.beq t s with
  | true => rw [hb] at hu; have := Nat.eq_of_beq_eq_true hb; subst this; rw [ht]; simpa using hu
  | false => rw [hb] at hu; exact hu
theorem JK.sub' {e2 : Env} (hs' : Sub e2 e) (h : JK P n w0 own ops F l e2 hs K) : JK P n w0 own ops F l e hs K := JK.sub hs' h
theorem JK.splitB {t : Nat} {b : Bool} (ht : get e t = some (.bool b)) (h1 : b = true → JK P n w0 own ops F l ((t, .bool true) :: e) hs K)
    (h0 : b = false → JK P n w0 own ops F l ((t, .bool false) :: e) hs K) : JK P n w0 own ops F l e hs K := by
  cases b
  · exact JK.sub' (sub_same' ht) (h0 rfl)
  · exact JK.sub' (sub_same' ht) (h1 rfl)

theorem JK.v {op : Op} {v : Value} (h : ∀ hs', F ⊆ hs' → Val P n w0 own e hs' op v) (kk : JK P n w0 own ops F rest ((d, v) :: e) hs K) (hdn : Nat.blt d n = true := by rfl) (hg : wantB ops e g = some true := by rfl) :
    JK P n w0 own ops F (⟨some d, op, ty, pos, aft, g⟩ :: rest) e hs K := by
  intro m is listed Z h1 h2 h3 hz
  cases is with
  | nil => exact h1.elim
  | cons k is =>
  obtain ⟨h0, h1⟩ := h1
  unfold ordB at h2
  rw [Bool.and_eq_true, Bool.or_eq_true, Bool.and_eq_true] at h2
  have tail : JD P n w0 own ops F (rest.length + m) (listed.setIfInBounds k true) ((d, v) :: e) hs Z := kk m is _ Z h1 h2.2 h3 hz
  rw [show (⟨some d, op, ty, pos, aft, g⟩ :: rest : List Oper).length + m = (rest.length + m) + 1 from by simp; omega]
  rcases h2.1 with ho | ⟨_, hf⟩
  · exact JD.ef k h0 ho (h hs h3).eff (fun v' hs' ⟨e1, e2⟩ => by subst e1; subst e2; exact tail) (fun v' hs' ⟨e1, e2⟩ f => by subst e2; exact f) hdn hg
  · exact JD.v k h0 hf h tail hdn hg
/-- an operation that is passed over, whichever way it comes up -/
theorem JK.skw {o : Oper} (ho : o.dst = some d) (hw : ∀ a, Rep n a e → Region.wanted o (yielded ops a.tmps) = false) (kk : JK P n w0 own ops F rest ((d, undef) :: e) hs K) (hdn : Nat.blt d n = true) :
    JK P n w0 own ops F (o :: rest) e hs K := by
  intro m is listed Z h1 h2 h3 hz
  cases is with
  | nil => exact h1.elim
  | cons k is =>
  obtain ⟨h0, h1⟩ := h1
  unfold ordB at h2
  rw [Bool.and_eq_true, Bool.or_eq_true, Bool.and_eq_true] at h2
  have tail : JD P n w0 own ops F (rest.length + m) (listed.setIfInBounds k true) ((d, undef) :: e) hs Z := kk m is _ Z h1 h2.2 h3 hz
  rw [show (o :: rest : List Oper).length + m = (rest.length + m) + 1 from by simp; omega]
  intro a w hr s hf
  have hput := hr.put (Nat.le_of_ble_eq_true hdn) undef
  rcases h2.1 with ho2 | ⟨_, hf2⟩
  · refine wpAnyH_all (rs := [k]) (by simpa [onlyB] using ho2) (by simp) ?_
    intro j hj
    simp only [List.mem_singleton] at hj
    subst hj
    unfold wpOp
    simp only [h0]
    rw [if_neg (by rw [hw a hr]; simp), ho]
    exact ⟨⟨hs, s, hf⟩, tail _ _ hput s hf⟩
  · unfold firstB at hf2
    rw [Bool.and_eq_true, Bool.and_eq_true] at hf2
    refine wpAnyH_take h0 hf2.1.1 hf2.1.2 hf2.2 (fun _ _ _ h => h) (.inr ⟨hw a hr, rfl⟩) ⟨hs, s, hf⟩ ?_
    rw [ho]
    exact tail _ _ hput s hf
theorem JK.sk {op : Op} (kk : JK P n w0 own ops F rest ((d, undef) :: e) hs K) (hdn : Nat.blt d n = true := by rfl) (hg : wantB ops e g = some false := by rfl) :
    JK P n w0 own ops F (⟨some d, op, ty, pos, aft, g⟩ :: rest) e hs K := JK.skw rfl (fun a hr => wanted_of hr hg) kk hdn
theorem JK.skips : ∀ {l : List Oper} {e e1 : Env}, skB ops n l e = some e1 → (∀ e1', Sub e e1' → JK P n w0 own ops F [] e1' hs K) → JK P n w0 own ops F l e hs K
  | [], e, e1, h, k => k e (Sub.refl e)
  | o :: l, e, e1, h, k => by
    unfold skB at h
    cases ho : o.dst with
    | none => rw [ho] at h; cases h
    | some dd =>
      rw [ho] at h
      simp only at h
      split at h
      · rename_i hc
        rw [Bool.and_eq_true, Bool.and_eq_true] at hc
        obtain ⟨⟨c1, c2⟩, c3⟩ := hc
        exact JK.skw ho (fun a hr => skip_step hr ho c3) (JK.skips h fun e1' hs' => k e1' (Sub.trans (sub_app [(dd, undef)] e (by simp [c2])) hs')) c1
      · cases h
theorem JK.app {l1 l2 : List Oper} (h : JK P n w0 own ops F l1 e hs (fun e' hs' => JK P n w0 own ops F l2 e' hs' K)) : JK P n w0 own ops F (l1 ++ l2) e hs K := by
  intro m is listed Z h1 h2 h3 hz
  obtain ⟨k1, k2⟩ := h1.app
  have hl1 := k1.len
  rw [← List.take_append_drop l1.length is, ordB_app _ _ _ _ _ _ hl1, Bool.and_eq_true] at h2
  rw [List.length_append, Nat.add_assoc]
  refine h (l2.length + m) _ listed Z k1 h2.1 h3 fun e' hs' f ke => ke m _ _ Z k2 h2.2 f fun e2 hs2 f2 ke2 => ?_
  have := hz e2 hs2 f2 ke2
  rwa [← List.take_append_drop l1.length is, marks_app] at this
/-- what works on memory, when it is alone -/
theorem JK.ef {op : Op} {R : Value → Hp → Prop} (h : Eff P n w0 own e hs op R) (hF : ∀ v hs', R v hs' → F ⊆ hs → F ⊆ hs') (kk : ∀ v hs', R v hs' → JK P n w0 own ops F rest ((d, v) :: e) hs' K)
    (hE : isEff ⟨some d, op, ty, pos, aft, g⟩ = true := by rfl) (hdn : Nat.blt d n = true := by rfl) (hg : wantB ops e g = some true := by rfl) : JK P n w0 own ops F (⟨some d, op, ty, pos, aft, g⟩ :: rest) e hs K := by
  intro m is listed Z h1 h2 h3 hz
  cases is with
  | nil => exact h1.elim
  | cons k is =>
  obtain ⟨h0, h1⟩ := h1
  unfold ordB at h2
  rw [Bool.and_eq_true, Bool.or_eq_true, hE] at h2
  have ho : onlyB ops listed k = true := by
    rcases h2.1 with h | h
    · exact h
    · simp at h
  rw [show (⟨some d, op, ty, pos, aft, g⟩ :: rest : List Oper).length + m = (rest.length + m) + 1 from by simp; omega]
  exact JD.ef k h0 ho h (fun v hs' r => kk v hs' r m is _ Z h1 h2.2 (hF v hs' r h3) hz) hF hdn hg
theorem JK.st {op : Op} {hs' : Hp} (h : Eff P n w0 own e hs op (fun v h => v = undef ∧ h = hs')) (hF : F ⊆ hs → F ⊆ hs') (kk : JK P n w0 own ops F rest e hs' K)
    (hE : isEff ⟨none, op, ty, pos, aft, g⟩ = true := by rfl) (hg : wantB ops e g = some true := by rfl) : JK P n w0 own ops F (⟨none, op, ty, pos, aft, g⟩ :: rest) e hs K := by
  intro m is listed Z h1 h2 h3 hz
  cases is with
  | nil => exact h1.elim
  | cons k is =>
  obtain ⟨h0, h1⟩ := h1
  unfold ordB at h2
  rw [Bool.and_eq_true, Bool.or_eq_true, hE] at h2
  have ho : onlyB ops listed k = true := by
    rcases h2.1 with h | h
    · exact h
    · simp at h
  rw [show (⟨none, op, ty, pos, aft, g⟩ :: rest : List Oper).length + m = (rest.length + m) + 1 from by simp; omega]
  exact JD.st k h0 ho h (kk m is _ Z h1 h2.2 (hF h3) hz) hF hg
/-- a call that leaves a value alone -/
theorem JK.pc {f : Nat} {fo : Operand} {args : List Operand} {at_ : Array TypeId} {cap vals : List Value} {v : Value}
    (hf : ev e fo = some (.func (.func f) #[] ⟨cap⟩)) (ha : evs e args = some vals) (hc : ∀ w, Sat w0 own hs w → Is P f (vals ++ cap) w v) (kk : JK P n w0 own ops F rest ((d, v) :: e) hs K) [hg : FnT P f]
    (hdn : Nat.blt d n = true := by rfl) (hw : wantB ops e g = some true := by rfl) :
    JK P n w0 own ops F (⟨some d, .call { callee := .value fo, args := ⟨args⟩, argTypes := at_ }, ty, pos, aft, g⟩ :: rest) e hs K :=
  JK.ef (.call0 hf ha hc) (fun _ _ ⟨_, ⟨_, h2⟩, h3⟩ f => by subst h2; subst h3; exact f) (fun _ _ ⟨_, ⟨h1, h2⟩, h3⟩ => by subst h1; subst h2; subst h3; exact kk) rfl hdn hw
/-- a call that is lent nothing -/
theorem JK.cl {f : Nat} {fo : Operand} {args : List Operand} {at_ : Array TypeId} {cap vals : List Value} {R : Value → Hp → Prop}
    (hf : ev e fo = some (.func (.func f) #[] ⟨cap⟩)) (ha : evs e args = some vals) (hc : ∀ w, Sat w0 own hs w → Does P f (vals ++ cap) [] w R) (kk : ∀ v h, R v h → JK P n w0 own ops F rest ((d, v) :: e) (h ++ hs) K) [hg : FnT P f]
    (hdn : Nat.blt d n = true := by rfl) (hw : wantB ops e g = some true := by rfl) :
    JK P n w0 own ops F (⟨some d, .call { callee := .value fo, args := ⟨args⟩, argTypes := at_ }, ty, pos, aft, g⟩ :: rest) e hs K :=
  JK.ef (.call0 hf ha hc) (fun _ _ ⟨_, _, h3⟩ f => by subst h3; exact fun p hp => List.mem_append_right _ (f hp)) (fun v _ ⟨h, h1, h3⟩ => by subst h3; exact kk v h h1) rfl hdn hw
/-- '&&' -/
theorem JK.and {b1 b2 : Bool} (t y m k : Nat) (hl : l.drop m = ⟨some d, .pick (.tmp t) (.tmp y) (.const (.bool false)), ty, pos, aft, g⟩ :: rest) (ht : get e t = some (.bool b1))
    (h : b1 = true → JK P n w0 own ops F (l.take m) ((t, .bool true) :: e) hs (fun e' hs' => hs' = hs ∧ get e' y = some (.bool b2) ∧ Pop k e' ((t, .bool true) :: e)))
    (kk : JK P n w0 own ops F rest ((d, .bool (b1 && b2)) :: e) hs K)
    (hsk : (skB ops n (l.take m) ((t, .bool false) :: e)).isSome = true := by rfl)
    (hdn : Nat.blt d n = true := by rfl) (hg : wantB ops e g = some true := by rfl) : JK P n w0 own ops F l e hs K := by
  rw [← List.take_append_drop m l, hl]
  refine JK.app ?_
  have fin : ∀ (e1 : Env), Sub e e1 → (b1 = true → get e1 y = some (.bool b2)) → JK P n w0 own ops F (⟨some d, .pick (.tmp t) (.tmp y) (.const (.bool false)), ty, pos, aft, g⟩ :: rest) e1 hs K := by
    intro e1 hsub hy
    have hg1 : wantB ops e1 g = some true := by
      unfold wantB at hg ⊢
      cases g with
      | none => rfl
      | some jw =>
        obtain ⟨j, want⟩ := jw
        simp only at hg ⊢
        cases hd : (ops[j]?).bind (·.dst) with
        | none => rw [hd] at hg; cases hg
        | some t2 =>
          rw [hd] at hg
          simp only at hg ⊢
          cases hgt : get e t2 with
          | none => rw [hgt] at hg; cases hg
          | some v2 => rw [hgt] at hg; rw [hsub _ _ hgt]; exact hg
    refine JK.v (v := .bool (b1 && b2)) (fun hs' _ => ?_) (JK.sub (e2 := (d, .bool (b1 && b2)) :: e) ?_ kk) hdn hg1
    · intro a w ty pos aft g d hr s
      have e1t := hr.eval (x := .tmp t) (hsub t _ ht)
      cases hb : b1 with
      | false =>
        rw [hb] at e1t
        have e3 : ∀ v, a.eval (.const v) = v := fun _ => rfl
        simp [execOp, e1t, asBool, e3]
      | true =>
        rw [hb] at e1t
        have e2 := hr.eval (x := .tmp y) (hy hb)
        simp [execOp, e1t, e2, asBool]
    · intro s u hu
      simp only [get] at hu ⊢
      cases hb : Nat.beq d s with
      | true => rw [hb] at hu; exact hu
      | false => rw [hb] at hu; exact hsub s u hu
  cases hb : b1 with
  | true =>
    rw [hb] at ht
    refine JK.sub' (sub_same' ht) ((h hb).mono fun e' hs' ⟨h1, h2, h3⟩ => by subst h1; exact fin e' ((sub_same ht).trans h3.sub) (fun _ => h2))
  | false =>
    rw [hb] at ht
    obtain ⟨e1, he1⟩ := Option.isSome_iff_exists.1 hsk
    refine JK.sub' (sub_same' ht) (JK.skips he1 (fun e1' hs' => JK.nil (fin e1' ((sub_same ht).trans hs') (fun h => by rw [hb] at h; cases h))))
/-- '||' -/
theorem JK.or {b1 b2 : Bool} (t y m k : Nat) (hl : l.drop m = ⟨some d, .pick (.tmp t) (.const (.bool true)) (.tmp y), ty, pos, aft, g⟩ :: rest) (ht : get e t = some (.bool b1))
    (h : b1 = false → JK P n w0 own ops F (l.take m) ((t, .bool false) :: e) hs (fun e' hs' => hs' = hs ∧ get e' y = some (.bool b2) ∧ Pop k e' ((t, .bool false) :: e)))
    (kk : JK P n w0 own ops F rest ((d, .bool (b1 || b2)) :: e) hs K)
    (hsk : (skB ops n (l.take m) ((t, .bool true) :: e)).isSome = true := by rfl)
    (hdn : Nat.blt d n = true := by rfl) (hg : wantB ops e g = some true := by rfl) : JK P n w0 own ops F l e hs K := by
  rw [← List.take_append_drop m l, hl]
  refine JK.app ?_
  have fin : ∀ (e1 : Env), Sub e e1 → (b1 = false → get e1 y = some (.bool b2)) → JK P n w0 own ops F (⟨some d, .pick (.tmp t) (.const (.bool true)) (.tmp y), ty, pos, aft, g⟩ :: rest) e1 hs K := by
    intro e1 hsub hy
    have hg1 : wantB ops e1 g = some true := by
      unfold wantB at hg ⊢
      cases g with
      | none => rfl
      | some jw =>
        obtain ⟨j, want⟩ := jw
        simp only at hg ⊢
        cases hd : (ops[j]?).bind (·.dst) with
        | none => rw [hd] at hg; cases hg
        | some t2 =>
          rw [hd] at hg
          simp only at hg ⊢
          cases hgt : get e t2 with
          | none => rw [hgt] at hg; cases hg
          | some v2 => rw [hgt] at hg; rw [hsub _ _ hgt]; exact hg
    refine JK.v (v := .bool (b1 || b2)) (fun hs' _ => ?_) (JK.sub (e2 := (d, .bool (b1 || b2)) :: e) ?_ kk) hdn hg1
    · intro a w ty pos aft g d hr s
      have e1t := hr.eval (x := .tmp t) (hsub t _ ht)
      cases hb : b1 with
      | true =>
        rw [hb] at e1t
        have e3 : ∀ v, a.eval (.const v) = v := fun _ => rfl
        simp [execOp, e1t, asBool, e3]
      | false =>
        rw [hb] at e1t
        have e2 := hr.eval (x := .tmp y) (hy hb)
        simp [execOp, e1t, e2, asBool]
    · intro s u hu
      simp only [get] at hu ⊢
      cases hb : Nat.beq d s with
      | true => rw [hb] at hu; exact hu
      | false => rw [hb] at hu; exact hsub s u hu
  cases hb : b1 with
  | false =>
    rw [hb] at ht
    refine JK.sub' (sub_same' ht) ((h hb).mono fun e' hs' ⟨h1, h2, h3⟩ => by subst h1; exact fin e' ((sub_same ht).trans h3.sub) (fun _ => h2))
  | true =>
    rw [hb] at ht
    obtain ⟨e1, he1⟩ := Option.isSome_iff_exists.1 hsk
    refine JK.sub' (sub_same' ht) (JK.skips he1 (fun e1' hs' => JK.nil (fin e1' ((sub_same ht).trans hs') (fun h => by rw [hb] at h; cases h))))
end
end V
end Go

/- VS: slices held against nil. -/
namespace Go
namespace V
open Go.RowKit
set_option linter.unusedVariables false
set_option linter.unusedSimpArgs false
section
variable {P : Program} {n : Nat} {w0 : World} {own : List Nat} {e : Env} {hs : Hp}
theorem Val.eql_slice_nil {T U E l c : Nat} {x y : Operand} {a : Option Addr} (hx : ev e x = some (.slice a l c)) (hy : ev e y = some (.slice none 0 0)) [hT : SliceT P T E] :
    Val P n w0 own e hs (.binOp .eql T x y U) (.bool a.isNone) := fun _ w ty pos aft g d hr s => by
  have h : (Op.equalIn (9999 + 1) T (.slice a l c) (.slice none 0 0)).run P w = .ok a.isNone w := by
    cases a <;> (rw [Op.equalIn]; simp [run_underlying hT.out])
  simp only [execOp, hr.eval hx, hr.eval hy, eqGuard, binOp, Op.equal, Op.maxDepth]
  simp [h]
end
end V
end Go

/- VT: lists of plain records that come in; what their lengths are held to. -/
namespace Go
namespace V
open Go.RowKit Go.ChangeShapes Go.WideShapes Go.ChangeAt
set_option linter.unusedVariables false

theorem flatten_get {m : Nat} : ∀ (rs : List (List Value)), (∀ r ∈ rs, r.length = m) → ∀ (k : Nat) (v : Value), rs.flatten[k]? = some v → ∃ i j r, rs[i]? = some r ∧ r[j]? = some v ∧ k = i * m + j
  | [], _, k, v, h => by simp at h
  | r :: rs, hm, k, v, h => by
    rw [List.flatten_cons] at h
    by_cases hk : k < r.length
    · rw [List.getElem?_append_left hk] at h
      exact ⟨0, k, r, rfl, h, by simp⟩
    · rw [List.getElem?_append_right (by omega)] at h
      obtain ⟨i, j, r', h1, h2, h3⟩ := flatten_get rs (fun r hr => hm r (List.mem_cons_of_mem _ hr)) _ v h
      have := hm r List.mem_cons_self
      exact ⟨i + 1, j, r', by simpa using h1, h2, by rw [Nat.succ_mul]; omega⟩
theorem map_of {α β : Type} {f : α → β} {Q : α → Prop} : ∀ (rs : List β), (∀ r ∈ rs, ∃ x, r = f x ∧ Q x) → ∃ l : List α, rs = l.map f ∧ ∀ x ∈ l, Q x
  | [], _ => ⟨[], rfl, by simp⟩
  | r :: rs, h => by
    obtain ⟨x, h1, h2⟩ := h r List.mem_cons_self
    obtain ⟨l, h3, h4⟩ := map_of rs fun r hr => h r (List.mem_cons_of_mem _ hr)
    exact ⟨x :: l, by simp [h1, h3], fun y hy => by rcases List.mem_cons.1 hy with rfl | hy; exact h2; exact h4 y hy⟩
theorem okw_length : ∀ {ls : List Lf} {cs : List Value}, okw ls cs → cs.length = ls.length
  | [], [], _ => rfl
  | l :: ls, c :: cs, h => by have := okw_length h.2; simp [this]
  | [], _ :: _, h => h.elim
  | _ :: _, [], h => h.elim
section
variable {H : Type} {enc : TypeId × Value → H} {P : Program} {w : World} {base : Nat} {spare : Nat → Bool} {held : Bool}
/-- a slice of plain records -/
theorem TC.recs {t e : Nat} {ls : List Lf} {cs : List Value} {d : DataW H} (ht : P.underlying t = some (.slice e)) (hl : leaves P 8 e = some ls) (hs : P.cellsOf e = ls.length) (h0 : 0 < ls.length) (h : TC enc P w base spare held t cs d) :
    ∃ A cap, ∃ rs : List (List Value), cs = [.slice A rs.length cap] ∧ (∀ r ∈ rs, okw ls r) ∧ Rd w [] A rs.flatten ∧ (d = .nil ∧ rs = [] ∨ ∃ ds sp, d = .slice ds sp ∧ ds.length = rs.length) := by
  obtain ⟨A, len, cap, css, ds, h1, h2, h3, h4, h5, h6, h7⟩ := h.slice ht hs h0
  refine ⟨A, cap, css, by rw [h1, h2], fun r hr => ?_, fun k v hv => ?_, ?_⟩
  · obtain ⟨i, hi, rfl⟩ := List.mem_iff_getElem.1 hr
    exact (h7 i _ _ (List.getElem?_eq_getElem hi) (List.getElem?_eq_getElem (by omega))).plain hl hs
  · obtain ⟨i, j, r, e1, e2, rfl⟩ := flatten_get css h4 k v hv
    obtain ⟨b, o, e3, e4⟩ := h5 i r e1 j v e2
    exact ⟨b, o, e3, by simp, e4⟩
  · rcases h6 with ⟨e1, e2⟩ | ⟨sp, e1⟩
    · exact .inl ⟨e1, List.eq_nil_of_length_eq_zero (by omega)⟩
    · exact .inr ⟨ds, sp, e1, by omega⟩
/-- the weights of a struct's parts -/
theorem sized_agg {ts : List TypeId} {ds : List (DataW H)} (h : (DataW.weightsEach P ts ds).all (· ≤ reachBytes) = true) {j : Nat} {t : TypeId} {fs : Array Field} {parts : List (DataW H)} (ht : ts[j]? = some t) (hd : ds[j]? = some (.agg parts)) (hu : P.underlying t = some (.struct fs)) :
    (DataW.weightsEach P (fs.toList.map (·.type)) parts).all (· ≤ reachBytes) = true := by
  rw [List.all_eq_true]
  intro x hx
  exact List.all_eq_true.1 h _ (DataW.weights_mem_each ht hd x (by simp only [DataW.weights, hu]; exact hx))
theorem sized_len {ts : List TypeId} {ds : List (DataW H)} (h : (DataW.weightsEach P ts ds).all (· ≤ reachBytes) = true) {j n : Nat} {t e : TypeId} {d : DataW H} (ht : ts[j]? = some t) (hd : ds[j]? = some d) (hu : P.underlying t = some (.slice e))
    (hk : d = .nil ∧ n = 0 ∨ ∃ es sp, d = .slice es sp ∧ es.length = n) : n * P.bytesOf e ≤ reachBytes := by
  rcases hk with ⟨_, rfl⟩ | ⟨es, sp, rfl, rfl⟩
  · simp
  · have := sized_slice h ht hd hu
    have h2 : es.length * P.bytesOf e ≤ (es.length + sp.length) * P.bytesOf e := Nat.mul_le_mul_right _ (by omega)
    omega
end
end V
end Go

/- VU: slices in place: append that has room, copy, clear, append of zeros that grows, cap, cutting with three numbers, slices.overlaps of two blocks. -/
namespace Go
namespace V
open Go.RowKit
set_option linter.unusedVariables false
set_option linter.unusedSimpArgs false

section
variable {P : Program} {n : Nat} {w0 : World} {own : List Nat} {e : Env} {hs : Hp}

theorem Val.cap_ {x : Operand} {T E len cap : Nat} {a : Option Addr} (hx : ev e x = some (.slice a len cap)) [hT : SliceT P T E] :
    Val P n w0 own e hs (.call { callee := .builtin .cap, args := #[x], argTypes := #[T] }) (.int .i64 cap) :=
  fun b w ty pos aft g d hr s => by
    have hu := hT.out
    simp [execOp, hr.eval hx, resolve, invoke, builtin, Builtin.cap_, run_underlying hu, goInt]
theorem Val.sl3 {T E m len cap : Nat} {x y z u : Operand} {A : Option Addr} {i k l : Int} {q r t : IntKind} (hx : ev e x = some (.slice A len cap)) (hy : ev e y = some (.int q i)) (hz_ : ev e z = some (.int r k)) (hu : ev e u = some (.int t l)) [hT : SliceT P T E] [hE : Sz P E m]
    (h0 : 0 ≤ i) (h1 : i ≤ k) (h2 : k ≤ l) (h3 : l ≤ cap) : Val P n w0 own e hs (.slice T x (some y) (some z) (some u)) (.slice (cutA A l.toNat i.toNat m) (k.toNat - i.toNat) (l.toNat - i.toNat)) := fun a w ty pos aft g d hr s => by
  obtain ⟨j, hj, hz⟩ := hE.out
  have h4 : 0 ≤ k := by omega
  have h5 : 0 ≤ l := by omega
  have h6 : max k 0 = k := by omega
  have h7 : max l 0 = l := by omega
  simp [execOp, hr.eval hx, hr.eval hy, hr.eval hz_, hr.eval hu, Instr.sliceAt, run_underlying hT.out, Instr.slice, Instr.sliceBounds, Instr.sliceBound, asIntOf, h0, h1, h2, h3, h4, h5, h6, h7, sizeOf, typeInfo, hj, hz, cutA]

/-- append that has room: in place -/
theorem Eff.appendIn {s x : Operand} {t u E m by_ c k b o cap : Nat} {z news l : List Value} {xv : Value} {hs' : Hp} (hs_ : ev e s = some (.slice (some ⟨b, o, none⟩) c cap)) (hx : ev e x = some xv) [ht : SliceT P t E] [hu : SliceT P u E] [hE : El P E m by_ z]
    [hb : Mem b (.cells l E) hs] [up : UpdI b (.cells (splice l (o + c * m) news) E) hs hs'] (hsrc : ∀ w, Sat w0 own hs w → Src P w m xv k news) (hn : news.length = k * m) (h1 : ones news = true) (hc : c + k ≤ cap) (hl : o + cap * m ≤ l.length) :
    Eff P n w0 own e hs (.call { callee := .builtin .append, args := #[s, x], argTypes := #[t, u] }) (fun v h => v = .slice (some ⟨b, o, none⟩) (c + k) cap ∧ h = hs') :=
  Eff.of_run fun a w ty pos aft g d hr s' => by
    obtain ⟨i, zv, hi, hm, hby, hz, hzv, hzl⟩ := hE.out
    have hck : (c + k) * m ≤ cap * m := Nat.mul_le_mul_right _ hc
    have hadd : (c + k) * m = c * m + k * m := Nat.add_mul _ _ _
    obtain ⟨w', r1, r2⟩ := s'.splice (P := P) (b := b) (T := E) (o := o + c * m) (l := l) (vs := news) up.out hb.out (by omega) h1
    refine ⟨_, hs', w', ?_, ⟨rfl, rfl⟩, r2⟩
    have h2 := (hsrc w s').2 w (fun _ => rfl)
    have hr1 : (Builtin.append_ #[t, u] ty #[.slice (some ⟨b, o, none⟩) c cap, xv]).run P w = .ok (.slice (some ⟨b, o, none⟩) (c + k) cap) w' := by
      simp only [Builtin.append_, Sem.run_bind]
      simp [run_underlying ht.out, run_underlying hu.out, sizeOf, typeInfo, hi, hm, (hsrc w s').1, h2, hc, add_none, r1]
    simp [execOp, hr.eval hs_, hr.eval hx, resolve, invoke, builtin, hr1]
/-- copy: the first k elements of a source -/
theorem Eff.copyIn {s x : Operand} {t u E m by_ k b o dl dc sl : Nat} {z news l : List Value} {xv : Value} {hs' : Hp} (hs_ : ev e s = some (.slice (some ⟨b, o, none⟩) dl dc)) (hx : ev e x = some xv) [ht : SliceT P t E] [hE : El P E m by_ z]
    [hb : Mem b (.cells l E) hs] [up : UpdI b (.cells (splice l o news) E) hs hs'] (hk : min sl dl = k) (hsl : ∀ w, Sat w0 own hs w → (Builtin.lenOf xv).run P w = .ok sl w) (hsrc : ∀ w, Sat w0 own hs w → (Builtin.firstCells m k xv).run P w = .ok ⟨news⟩ w)
    (h1 : ones news = true) (hl : o + news.length ≤ l.length) :
    Eff P n w0 own e hs (.call { callee := .builtin .copy, args := #[s, x], argTypes := #[t, u] }) (fun v h => v = .int .i64 k ∧ h = hs') :=
  Eff.of_run fun a w ty pos aft g d hr s' => by
    obtain ⟨i, zv, hi, hm, hby, hz, hzv, hzl⟩ := hE.out
    obtain ⟨w', r1, r2⟩ := s'.splice (P := P) (b := b) (T := E) (o := o) (l := l) (vs := news) up.out hb.out hl h1
    refine ⟨_, hs', w', ?_, ⟨rfl, rfl⟩, r2⟩
    have h2 := hsrc w s'
    have hk' : Nat.min sl dl = k := hk
    have hr1 : (Builtin.copy_ #[t, u] ty #[.slice (some ⟨b, o, none⟩) dl dc, xv]).run P w = .ok (.int .i64 k) w' := by
      simp only [Builtin.copy_, Sem.run_bind]
      simp [run_underlying ht.out, sizeOf, typeInfo, hi, hm, hsl w s', hk', h2, r1, goInt]
    simp [execOp, hr.eval hs_, hr.eval hx, resolve, invoke, builtin, hr1]
theorem run_lenOf_sl {w : World} {A : Option Addr} {len cap : Nat} : (Builtin.lenOf (.slice A len cap)).run P w = .ok len w := by simp [Builtin.lenOf]
/-- the first elements of a slice in a block that is held -/
theorem Sat.first {w : World} {b o m k sl c T : Nat} {l news : List Value} (s : Sat w0 own hs w) [hb : Mem b (.cells l T) hs] (hn : news.length = k * m) (h : ∀ j v, news[j]? = some v → l[o + j]? = some v) :
    (Builtin.firstCells m k (.slice (some ⟨b, o, none⟩) sl c)).run P w = .ok ⟨news⟩ w :=
  run_firstCells_some (P := P) w m k ⟨b, o, none⟩ sl c news hn (fun j v hv => by rw [add_none, s.cell hb.out]; exact h j v hv)

def zeros (z : List Value) (k : Nat) : List Value := (List.replicate k z).flatten
theorem zeros_length (z : List Value) (k : Nat) : (zeros z k).length = k * z.length := by simp [zeros]
theorem zeros_get (z : List Value) (k i : Nat) (hi : i < k * z.length) : (zeros z k)[i]? = z[i % z.length]? := by
  induction k generalizing i with
  | zero => simp at hi
  | succ k ih =>
    have hz : 0 < z.length := by
      rcases Nat.eq_zero_or_pos z.length with h | h
      · rw [h] at hi; simp at hi
      · exact h
    unfold zeros
    rw [List.replicate_succ, List.flatten_cons]
    by_cases h : i < z.length
    · rw [List.getElem?_append_left h, Nat.mod_eq_of_lt h]
    · rw [List.getElem?_append_right (by omega)]
      have h2 := ih (i - z.length) (by rw [Nat.add_mul, Nat.one_mul] at hi; omega)
      unfold zeros at h2
      rw [h2, ← Nat.mod_eq_sub_mod (by omega)]
theorem zeroCells_eq (z : List Value) (k : Nat) : (Builtin.zeroCells ⟨z⟩ k).toList = zeros z k := by
  apply List.ext_getElem?
  intro i
  have hlen : (Builtin.zeroCells ⟨z⟩ k).toList.length = k * z.length := by simp [Builtin.zeroCells]
  by_cases hi : i < k * z.length
  · have hz : 0 < z.length := by
      rcases Nat.eq_zero_or_pos z.length with h | h
      · rw [h] at hi; simp at hi
      · exact h
    rw [zeros_get z k i hi]
    have hm := Nat.mod_lt i hz
    simp [Builtin.zeroCells, hi, hm]
  · rw [List.getElem?_eq_none (by omega), List.getElem?_eq_none (by rw [zeros_length]; omega)]
theorem ones_zeros {z : List Value} (h : ones z = true) (k : Nat) : ones (zeros z k) = true := by
  simp only [ones, zeros, List.all_eq_true, List.mem_flatten, List.mem_replicate] at *
  rintro x ⟨l, ⟨_, rfl⟩, hx⟩
  exact h x hx
/-- clear of a slice -/
theorem Eff.clearIn {s : Operand} {t E m by_ b o dl dc : Nat} {z l : List Value} {hs' : Hp} (hs_ : ev e s = some (.slice (some ⟨b, o, none⟩) dl dc)) [ht : SliceT P t E] [hE : El P E m by_ z]
    [hb : Mem b (.cells l E) hs] [up : UpdI b (.cells (splice l o (zeros z dl)) E) hs hs'] (h1 : ones z = true) (hl : o + dl * m ≤ l.length) :
    Eff P n w0 own e hs (.call { callee := .builtin .clear, args := #[s], argTypes := #[t] }) (fun v h => v = .tuple #[] ∧ h = hs') :=
  Eff.of_run fun a w ty pos aft g d hr s' => by
    obtain ⟨i, zv, hi, hm, hby, hz, hzv, hzl⟩ := hE.out
    obtain ⟨w', r1, r2⟩ := s'.splice (P := P) (b := b) (T := E) (o := o) (l := l) (vs := zeros z dl) up.out hb.out (by rw [zeros_length, hzl]; exact hl) (ones_zeros h1 dl)
    have hzc : (Builtin.zeroCells zv.cells dl).toList = zeros z dl := by rw [hzv]; exact zeroCells_eq z dl
    cases dl with
    | zero =>
      have e1 : hs' = hs' := rfl
      have e2 : w' = w := by
        have : (storeCells (⟨b, o, none⟩ : Addr) (zeros z 0)).run P w = .ok () w := by simp [zeros, storeCells]
        rw [this] at r1
        simpa using r1.symm
      refine ⟨.tuple #[], hs', w, ?_, ⟨rfl, rfl⟩, e2 ▸ r2⟩
      have hr1 : (Builtin.clear_ #[t] ty #[.slice (some ⟨b, o, none⟩) 0 dc]).run P w = .ok (.tuple #[]) w := by
        simp only [Builtin.clear_, Sem.run_bind]
        simp [run_underlying ht.out]
      simp [execOp, hr.eval hs_, resolve, invoke, builtin, hr1]
    | succ dl =>
      refine ⟨.tuple #[], hs', w', ?_, ⟨rfl, rfl⟩, r2⟩
      have hr1 : (Builtin.clear_ #[t] ty #[.slice (some ⟨b, o, none⟩) (dl + 1) dc]).run P w = .ok (.tuple #[]) w' := by
        simp only [Builtin.clear_, Sem.run_bind]
        simp [run_underlying ht.out, zeroValue, typeInfo, hi, hz, hzc, r1]
      simp [execOp, hr.eval hs_, resolve, invoke, builtin, hr1]
/-- append(s, make([]E, k)...) that has no room: a new block -/
theorem Eff.appendZ {s x : Operand} {t u E m by_ c k b o cap : Nat} {q : IntKind} {z vs l : List Value} (hs_ : ev e s = some (.slice (some ⟨b, o, none⟩) c cap)) (hx : ev e x = some (.int .i64 (k : Int))) [ht : SliceT P t E] [hu : IntT P u q] [hE : El P E m by_ z]
    [hb : Mem b (.cells l E) hs] (hv : (l.drop o).take (c * m) = vs) (hcl : o + cap * m ≤ l.length) (hcc : c ≤ cap) (hg : cap < c + k) (hm0 : 0 < m)
    (hby : (c + k) * by_ ≤ 140737488355328) (h63 : c + k ≤ 4611686018427387904) :
    Eff P n w0 own e hs (.call { callee := .builtin .append, args := #[s, x], argTypes := #[t, u] }) (fun v h => ∃ b' cap' r, v = .slice (some ⟨b', 0, none⟩) (c + k) cap' ∧ h = (b', .cells (vs ++ zeros z k ++ r) E) :: hs ∧ c + k ≤ cap' ∧ (vs ++ zeros z k ++ r).length = cap' * m) :=
  Eff.of_run fun a w ty pos aft g d hr s' => by
    obtain ⟨i, zv, hi, hm, hby2, hz, hzv, hzl⟩ := hE.out
    have hck : c * m ≤ cap * m := Nat.mul_le_mul_right _ hcc
    have hvl : vs.length = c * m := by rw [← hv]; simp; omega
    have hfo := run_firstCells_some (P := P) w.drew m c ⟨b, o, none⟩ c cap vs hvl (fun j u hj => by
        have hh := s'.cell hb.out (o + j)
        rw [add_none]
        show w.cell? _ = _
        rw [hh, ← hj, ← hv, List.getElem?_take, List.getElem?_drop]
        have := (List.getElem?_eq_some_iff.1 hj).1
        rw [if_pos (by omega)])
    have hge := grownCap_ge w (c + k) cap E
    have h63' : ¬ (9223372036854775807 < ((c : Int) + (k : Int))) := by omega
    have h48' : ¬ (281474976710656 < Builtin.nextslicecap (c + k) cap * by_) := by
      have := growslice_fits (need := c + k) (old := cap) (bytes := by_) (by omega) hby
      omega
    have hkb : k * by_ ≤ (c + k) * by_ := Nat.mul_le_mul_right _ (by omega)
    have hw : IntKind.i64.wrap (k : Int) = k := by rw [IntKind.wrap_i64]; omega
    have hneg : ¬ ((k : Int) < 0) := by omega
    have h48i : ¬ (281474976710656 < (k : Int) * (by_ : Int)) := by rw [← Int.natCast_mul]; omega
    have hns : ¬ (k * m = 0) := Nat.mul_ne_zero (by omega) (by omega)
    have hk0 : k ≠ 0 := by omega
    have hm1 : m ≠ 0 := by omega
    have hr' : ¬ (c + k ≤ cap) := by omega
    refine ⟨.slice (some ⟨w.heap.size, 0, none⟩) (c + k) (grownCap w (c + k) cap E), (w.heap.size, .cells (vs ++ zeros z k ++ (Builtin.zeroCells zv.cells (grownCap w (c + k) cap E - (c + k))).toList) E) :: hs,
      w.drew.alloc (.cells (⟨vs⟩ ++ Builtin.zeroCells zv.cells k ++ Builtin.zeroCells zv.cells (grownCap w (c + k) cap E - (c + k))) E), ?_, ⟨_, _, _, rfl, rfl, hge, ?_⟩, ?_⟩
    · have hr1 : (Builtin.append_ #[t, u] ty #[.slice (some ⟨b, o, none⟩) c cap, .int .i64 k]).run P w = .ok (.slice (some ⟨w.heap.size, 0, none⟩) (c + k) (grownCap w (c + k) cap E)) (w.drew.alloc (.cells (⟨vs⟩ ++ Builtin.zeroCells zv.cells k ++ Builtin.zeroCells zv.cells (grownCap w (c + k) cap E - (c + k))) E)) := by
        simp only [Builtin.append_, Sem.run_bind]
        simp [run_underlying ht.out, run_underlying hu.out, sizeOf, typeInfo, zeroValue, hi, hm, hz, hby2, asInt, asIntOf, hw, hneg, h48i, hns, hk0, hm1, hr', h63', h48', Question.forced, hfo, newRow, grownCap]
      simp [execOp, hr.eval hs_, hr.eval hx, resolve, invoke, builtin, hr1]
    · have h2 : (grownCap w (c + k) cap E) * m = (c + k) * m + (grownCap w (c + k) cap E - (c + k)) * m := by rw [← Nat.add_mul]; congr 1; omega
      have h3 : (c + k) * m = c * m + k * m := Nat.add_mul _ _ _
      simp [hvl, zeros_length, size_zeroCells, hzv, hzl]; omega
    · have := s'.drew.new (.cells (vs ++ zeros z k ++ (Builtin.zeroCells zv.cells (grownCap w (c + k) cap E - (c + k))).toList) E)
      have e1 : (⟨vs⟩ ++ Builtin.zeroCells zv.cells k ++ Builtin.zeroCells zv.cells (grownCap w (c + k) cap E - (c + k)) : Array Value) = ⟨vs ++ zeros z k ++ (Builtin.zeroCells zv.cells (grownCap w (c + k) cap E - (c + k))).toList⟩ := by
        apply Array.ext'
        have : (Builtin.zeroCells zv.cells k).toList = zeros z k := by rw [hzv]; exact zeroCells_eq z k
        simp [this]
      rw [e1]
      exact this
/-- slices.overlaps, as the model has it -/
class OvT (P : Program) (g : Nat) (T R : outParam Nat) : Prop where
  out : ∃ fn, P.funcs[g]? = some fn ∧ (fn.name == "runtime.NumGoroutine") = false ∧ fn.body.isNone = true ∧ Extern.findNext fn = none ∧ Extern.find fn = some (Extern.SlicesOverlaps.overlaps #[T, T] #[R])
theorem Val.overlapsNo {g : Nat} {x y : Operand} {at_ : Array TypeId} {T R E m b1 o1 n1 c1 b2 o2 n2 c2 T1 T2 : Nat} {l1 l2 : List Value} (hx : ev e x = some (.slice (some ⟨b1, o1, none⟩) n1 c1)) (hy : ev e y = some (.slice (some ⟨b2, o2, none⟩) n2 c2)) [hg : OvT P g T R] [hT : SliceT P T E] [hE : Sz P E m]
    [h1 : Mem b1 (.cells l1 T1) hs] [h2 : Mem b2 (.cells l2 T2) hs] (hne : b1 ≠ b2) (hl : l2 ≠ []) :
    Val P n w0 own e hs (.call { callee := .value (.func g), args := #[x, y], argTypes := at_ }) (.bool false) := fun a w ty pos aft gd d hr s => by
  obtain ⟨fn, f1, f2, f3, f4, f5⟩ := hg.out
  obtain ⟨i, hi, hz⟩ := hE.out
  have r1 := s.row h1.out
  have r2 := s.row h2.out
  have ho := Lib.run_overlaps_apart (P := P) w T R E hT.out m (fun w => by simp [sizeOf, typeInfo, hi, hz]) ⟨b1, o1, none⟩ ⟨b2, o2, none⟩ n1 c1 n2 c2 hne T1 T2 l1.length l2.length
    (by simp [World.shape?, r1]) (by simp [World.shape?, r2]) (by simpa using hl) (by simp [World.frozen?, r1]) (by simp [World.frozen?, r1])
  have hc := run_callFunc_extern f1 f2 f3 f4 f5 #[.slice (some ⟨b1, o1, none⟩) n1 c1, .slice (some ⟨b2, o2, none⟩) n2 c2] w
  rw [ho] at hc
  have hf : a.eval (.func g) = .func (.func g) #[] #[] := rfl
  simp [execOp, resolve, hf, hr.eval hx, hr.eval hy, Deferred.ofValue, invoke, hc, Result.andThen]
end
theorem splice_keep (l zs : List Value) (o p q : Nat) (h : p ≤ q) (hl : o + q ≤ l.length) : ((splice l (o + q) zs).drop o).take p = (l.drop o).take p := by
  unfold splice
  rw [List.append_assoc, List.drop_append_of_le_length (by rw [List.length_take]; omega), List.take_append_of_le_length (by rw [List.length_drop, List.length_take]; omega), List.drop_take, List.take_take]
  congr 1; omega
theorem OwnS.some_ {E m n c : Nat} {A : Option Addr} {n' : Nat} {vs : List Value} {h : Hp} (k : OwnS E m (.slice A n' c) n vs h) (hn : 0 < n) :
    ∃ b o l, A = some ⟨b, o, none⟩ ∧ n' = n ∧ h = [(b, .cells l E)] ∧ n ≤ c ∧ o + c * m ≤ l.length ∧ (l.drop o).take (n * m) = vs := by
  rcases k.2 with ⟨_, h2, _⟩ | ⟨b, o, cap, l, h1, h2, h3, h4, h5⟩
  · omega
  · cases h1; exact ⟨b, o, l, rfl, rfl, h2, h3, h4, h5⟩
theorem splice_get (l vs : List Value) (o i : Nat) (h : o + vs.length ≤ l.length) : (splice l o vs)[i]? = if i < o then l[i]? else if i < o + vs.length then vs[i - o]? else l[i]? := by
  unfold splice
  by_cases h1 : i < o
  · rw [if_pos h1, List.append_assoc, List.getElem?_append_left (by rw [List.length_take]; omega), List.getElem?_take, if_pos h1]
  · rw [if_neg h1, List.append_assoc, List.getElem?_append_right (by rw [List.length_take]; omega), List.length_take, Nat.min_eq_left (by omega)]
    by_cases h2 : i < o + vs.length
    · rw [if_pos h2, List.getElem?_append_left (by omega)]
    · rw [if_neg h2, List.getElem?_append_right (by omega), List.getElem?_drop]
      congr 1; omega
/-- one element put in by two copies -/
theorem ins_two (l oc D : List Value) (o p q : Nat) (hq : oc.length = q) (hl : o + p + q + D.length ≤ l.length) :
    ((splice (splice l (o + (p + q)) D) (o + p) oc).drop o).take (p + q + D.length) = (l.drop o).take p ++ oc ++ D := by
  apply List.ext_getElem?
  intro i
  have h1 : (splice l (o + (p + q)) D).length = l.length := splice_length _ _ _ (by omega)
  rw [List.getElem?_take, List.getElem?_drop, splice_get _ _ _ _ (by rw [h1]; omega), splice_get _ _ _ _ (by omega)]
  have ht : ((l.drop o).take p).length = p := by rw [List.length_take, List.length_drop]; omega
  by_cases c1 : i < p
  · rw [if_pos (by omega), if_pos (by omega), if_pos (by omega), List.append_assoc, List.getElem?_append_left (by omega), List.getElem?_take, if_pos c1, List.getElem?_drop]
  · by_cases c2 : i < p + q
    · rw [if_pos (by omega), if_neg (by omega), if_pos (by omega), List.append_assoc, List.getElem?_append_right (by omega), List.getElem?_append_left (by omega), ht]
      congr 1; omega
    · by_cases c3 : i < p + q + D.length
      · rw [if_pos c3, if_neg (by omega), if_neg (by omega), if_neg (by omega), if_pos (by omega), List.getElem?_append_right (by rw [List.length_append]; omega), List.length_append, ht]
        congr 1; omega
      · rw [if_neg c3, List.getElem?_eq_none (by simp only [List.length_append]; omega)]
theorem ins_two' (l oc D : List Value) (o p q : Nat) (hq : oc.length = q) (hl : o + p + q + D.length ≤ l.length) :
    ((splice (splice l (o + p) oc) (o + (p + q)) D).drop o).take (p + q + D.length) = (l.drop o).take p ++ oc ++ D := by
  apply List.ext_getElem?
  intro i
  have h1 : (splice l (o + p) oc).length = l.length := splice_length _ _ _ (by omega)
  rw [List.getElem?_take, List.getElem?_drop, splice_get _ _ _ _ (by rw [h1]; omega), splice_get _ _ _ _ (by omega)]
  have ht : ((l.drop o).take p).length = p := by rw [List.length_take, List.length_drop]; omega
  by_cases c1 : i < p
  · rw [if_pos (by omega), if_pos (by omega), if_pos (by omega), List.append_assoc, List.getElem?_append_left (by omega), List.getElem?_take, if_pos c1, List.getElem?_drop]
  · by_cases c2 : i < p + q
    · rw [if_pos (by omega), if_pos (by omega), if_neg (by omega), if_pos (by omega), List.append_assoc, List.getElem?_append_right (by omega), List.getElem?_append_left (by omega), ht]
      congr 1; omega
    · by_cases c3 : i < p + q + D.length
      · rw [if_pos c3, if_neg (by omega), if_pos (by omega), List.getElem?_append_right (by rw [List.length_append]; omega), List.length_append, ht]
        congr 1; omega
      · rw [if_neg c3, List.getElem?_eq_none (by simp only [List.length_append]; omega)]
/-- the blocks are apart -/
theorem JC.nd {P : Program} {n : Nat} {w0 : World} {own : List Nat} {e : Env} {hs : Hp} {c : Code} {Q : Post} (h : (bl hs).Nodup → JC P n w0 own c e hs Q) : JC P n w0 own c e hs Q := fun a w r s => h s.nd a w r s
end V
end Go

/- VW: regions that draw their order and store: in an order of our choice; what is held is held up to the first store. -/
namespace Go
namespace V
open Go.RowKit
set_option linter.unusedVariables false
set_option linter.unusedSimpArgs false

instance (priority := high) SetL.head0 {u v : Value} {l : List Value} : SetL (u :: l) (0 + 0) v (v :: l) := ⟨by simp, rfl⟩
instance (priority := high) SetL.head00 {u v : Value} {l : List Value} : SetL (u :: l) (0 + 0 + 0) v (v :: l) := ⟨by simp, rfl⟩

def ordZ (ops : Array Oper) (z : Nat) : List Oper → List Nat → Array Bool → Bool
  | [], [], _ => true
  | o :: l, i :: is, listed => (onlyB ops listed i || (!isEff o && firstZ ops z listed i)) && (o.dst.isSome || Nat.beq i z || listed.getD z true) && ordZ ops z l is (listed.setIfInBounds i true)
  | _, _, _ => false
theorem marks_size : ∀ (is : List Nat) (listed : Array Bool), (marks_ is listed).size = listed.size
  | [], _ => rfl
  | i :: is, listed => by simp [marks_, marks_size is]

/-- the operations in their order; 'late': the first store has been -/
def JQ (P : Program) (n : Nat) (w0 : World) (own : List Nat) (ops : Array Oper) (F : Hp) (z : Nat) (late : Bool) (l : List Oper) (e : Env) (hs : Hp) (K : Bool → Env → Hp → Prop) : Prop :=
  ∀ (m : Nat) (is : List Nat) (listed : Array Bool) (Z : Env → Hp → Prop), Nums ops l is → ordZ ops z l is listed = true → listed.size = ops.size → listed.getD z true = late → (late = false → F ⊆ hs) →
    (∀ late' e' hs', (marks_ is listed).getD z true = late' → (late' = false → F ⊆ hs') → K late' e' hs' → JZ P n w0 own ops F z m (marks_ is listed) e' hs' Z) → JZ P n w0 own ops F z (l.length + m) listed e hs Z

section
variable {P : Program} {n : Nat} {w0 : World} {own : List Nat} {e : Env} {hs F : Hp} {ops : Array Oper} {rest l : List Oper} {K : Bool → Env → Hp → Prop} {z : Nat} {late : Bool} {m : Nat} {listed : Array Bool} {Z : Env → Hp → Prop}
variable {d : Nat} {ty : TypeId} {pos : String} {aft : Array Edge} {g : Option (Nat × Bool)}

theorem JC.drawQ {id : Nat} {Q : Post} {l : List Oper} (z : Nat) (is : List Nat) (F : Hp) (hF : F ⊆ hs) (hm : P.follows .mixedOrders = true)
    (hB : (ordZ l.toArray z (pickL l is) is (Array.replicate l.length false) && doneB l.toArray (marks_ is (Array.replicate l.length false)) && Nat.beq (pickL l is).length l.length && Nat.beq is.length l.length && Nat.blt z l.length) = true)
    (h : JQ P n w0 own l.toArray F z false (pickL l is) e hs (fun _ e' hs' => Q .normal e' hs')) : JC P n w0 own (.region id l.toArray true) e hs Q := by
  rw [Bool.and_eq_true, Bool.and_eq_true, Bool.and_eq_true, Bool.and_eq_true] at hB
  obtain ⟨⟨⟨⟨h1, h2⟩, h3⟩, h4⟩, h5⟩ := hB
  have h3 := Nat.eq_of_beq_eq_true h3
  have h4 := Nat.eq_of_beq_eq_true h4
  have h5 : z < l.length := Nat.le_of_ble_eq_true h5
  have key : ∀ (is : List Nat), (pickL l is).length = is.length → Nums l.toArray (pickL l is) is := by
    intro is
    induction is with
    | nil => intro _; trivial
    | cons i is ih =>
      intro hl
      unfold pickL at hl ⊢
      cases ho : l[i]? with
      | none => rw [ho] at hl; simp at hl
      | some o =>
        rw [ho] at hl
        simp only at hl ⊢
        exact ⟨by simpa using ho, ih (by simpa using hl)⟩
  refine JC.drawZ z F hF hm ?_
  have := h 0 is (Array.replicate l.length false) (fun e hs => Q .normal e hs) (key _ (by omega)) h1 (by simp) (by simp [h5]) (fun _ => hF) (fun _ e' hs' _ _ ke => JZ.done h2 ke)
  rw [h3] at this
  simpa using this
theorem JQ.nil (h : K late e hs) : JQ P n w0 own ops F z late [] e hs K := fun m is listed Z hn _ hsz hl hF hz => by
  cases is with
  | nil => rw [List.length_nil, Nat.zero_add]; exact hz late e hs hl hF h
  | cons i is => exact hn.elim
theorem JQ.mono {K' : Bool → Env → Hp → Prop} (h : JQ P n w0 own ops F z late l e hs K) (kk : ∀ b e hs, K b e hs → K' b e hs) : JQ P n w0 own ops F z late l e hs K' :=
  fun m k listed Z h1 h2 h3 h4 h5 hz => h m k listed Z h1 h2 h3 h4 h5 fun b e' hs' f1 f ke => hz b e' hs' f1 f (kk b e' hs' ke)
theorem JQ.sub {e2 : Env} (hs' : Sub e2 e) (h : JQ P n w0 own ops F z late l e2 hs K) : JQ P n w0 own ops F z late l e hs K :=
  fun m k listed Z h1 h2 h3 h4 h5 hz a w hr s hF => h m k listed Z h1 h2 h3 h4 h5 hz a w (hr.sub hs') s hF
theorem JQ.splitB {t : Nat} {b : Bool} (ht : get e t = some (.bool b)) (h1 : b = true → JQ P n w0 own ops F z late l ((t, .bool true) :: e) hs K)
    (h0 : b = false → JQ P n w0 own ops F z late l ((t, .bool false) :: e) hs K) : JQ P n w0 own ops F z late l e hs K := by
  cases b
  · exact JQ.sub (sub_same' ht) (h0 rfl)
  · exact JQ.sub (sub_same' ht) (h1 rfl)
theorem set_lt {k : Nat} {late : Bool} (hl : listed.getD z true = late) (hz : late = true ∨ k ≠ z) : (listed.setIfInBounds k true).getD z true = late := by
  rcases hz with rfl | hz
  · rcases Decidable.em (k = z) with rfl | hne
    · rcases Nat.lt_or_ge k listed.size with h' | h'
      · simp [h']
      · simp [h']
    · rw [getD_set_ne true hne]; exact hl
  · rw [getD_set_ne true hz]; exact hl
/-- a value, ahead of the first store -/
theorem JQ.v {op : Op} {v : Value} (h : ∀ hs', F ⊆ hs' → Val P n w0 own e hs' op v) (kk : JQ P n w0 own ops F z false rest ((d, v) :: e) hs K) (hdn : Nat.blt d n = true := by rfl) (hg : wantB ops e g = some true := by rfl)
    (hzo : ((ops[z]?).map (·.dst.isNone)) = some true := by rfl) :
    JQ P n w0 own ops F z false (⟨some d, op, ty, pos, aft, g⟩ :: rest) e hs K := by
  intro m is listed Z h1 h2 h3 h4 h5 hz
  cases is with
  | nil => exact h1.elim
  | cons k is =>
  obtain ⟨h0, h1⟩ := h1
  unfold ordZ at h2
  rw [Bool.and_eq_true, Bool.and_eq_true] at h2
  obtain ⟨⟨h2a, _⟩, h2b⟩ := h2
  rw [Bool.or_eq_true, Bool.and_eq_true] at h2a
  have h2 := And.intro h2a h2b
  have hkz : k ≠ z := by rintro rfl; rw [h0] at hzo; simp at hzo
  have tail : JZ P n w0 own ops F z (rest.length + m) (listed.setIfInBounds k true) ((d, v) :: e) hs Z := kk m is _ Z h1 h2.2 (by simpa using h3) (set_lt h4 (.inr hkz)) h5 hz
  rw [show (⟨some d, op, ty, pos, aft, g⟩ :: rest : List Oper).length + m = (rest.length + m) + 1 from by simp; omega]
  rcases h2.1 with ho | ⟨_, hf⟩
  · exact JZ.v1 k h0 ho (h hs (h5 rfl)) tail rfl hdn hg
  · exact JZ.v k h0 hf h tail hdn hg
/-- a value behind it -/
theorem JQ.w {op : Op} {v : Value} (h : Val P n w0 own e hs op v) (kk : JQ P n w0 own ops F z true rest ((d, v) :: e) hs K) (hdn : Nat.blt d n = true := by rfl) (hg : wantB ops e g = some true := by rfl) :
    JQ P n w0 own ops F z true (⟨some d, op, ty, pos, aft, g⟩ :: rest) e hs K := by
  intro m is listed Z h1 h2 h3 h4 h5 hz
  cases is with
  | nil => exact h1.elim
  | cons k is =>
  obtain ⟨h0, h1⟩ := h1
  unfold ordZ at h2
  rw [Bool.and_eq_true, Bool.and_eq_true] at h2
  obtain ⟨⟨h2a, _⟩, h2b⟩ := h2
  rw [Bool.or_eq_true, Bool.and_eq_true] at h2a
  have h2 := And.intro h2a h2b
  have tail : JZ P n w0 own ops F z (rest.length + m) (listed.setIfInBounds k true) ((d, v) :: e) hs Z := kk m is _ Z h1 h2.2 (by simpa using h3) (set_lt h4 (.inl rfl)) (fun h => by cases h) hz
  rw [show (⟨some d, op, ty, pos, aft, g⟩ :: rest : List Oper).length + m = (rest.length + m) + 1 from by simp; omega]
  rcases h2.1 with ho | ⟨_, hf⟩
  · exact JZ.v1 k h0 ho h tail rfl hdn hg
  · unfold firstZ at hf
    rw [h4] at hf
    simp at hf
/-- what works on memory, and leaves a value -/
theorem JQ.ef {op : Op} {R : Value → Hp → Prop} (h : Eff P n w0 own e hs op R) (hF : ∀ v hs', R v hs' → F ⊆ hs → F ⊆ hs') (kk : ∀ v hs', R v hs' → JQ P n w0 own ops F z late rest ((d, v) :: e) hs' K)
    (hE : isEff ⟨some d, op, ty, pos, aft, g⟩ = true := by rfl) (hdn : Nat.blt d n = true := by rfl) (hg : wantB ops e g = some true := by rfl) (hzo : ((ops[z]?).map (·.dst.isNone)) = some true := by rfl) : JQ P n w0 own ops F z late (⟨some d, op, ty, pos, aft, g⟩ :: rest) e hs K := by
  intro m is listed Z h1 h2 h3 h4 h5 hz
  cases is with
  | nil => exact h1.elim
  | cons k is =>
  obtain ⟨h0, h1⟩ := h1
  unfold ordZ at h2
  rw [Bool.and_eq_true, Bool.and_eq_true] at h2
  obtain ⟨⟨h2a, _⟩, h2b⟩ := h2
  rw [Bool.or_eq_true, hE] at h2a
  have h2 := And.intro h2a h2b
  have hkz : k ≠ z := by rintro rfl; rw [h0] at hzo; simp at hzo
  have ho : onlyB ops listed k = true := by
    rcases h2.1 with h | h
    · exact h
    · simp at h
  rw [show (⟨some d, op, ty, pos, aft, g⟩ :: rest : List Oper).length + m = (rest.length + m) + 1 from by simp; omega]
  exact JZ.ef k h0 ho h (fun v hs' r => kk v hs' r m is _ Z h1 h2.2 (by simpa using h3) (set_lt h4 (.inr hkz)) (fun e => hF v hs' r (h5 e)) hz) hF rfl hdn hg
/-- the first store -/
theorem JQ.st {op : Op} {hs' : Hp} (h : Eff P n w0 own e hs op (fun v h => v = undef ∧ h = hs')) (kk : JQ P n w0 own ops F z true rest e hs' K)
    (hE : isEff ⟨none, op, ty, pos, aft, g⟩ = true := by rfl) (hg : wantB ops e g = some true := by rfl) : JQ P n w0 own ops F z false (⟨none, op, ty, pos, aft, g⟩ :: rest) e hs K := by
  intro m is listed Z h1 h2 h3 h4 h5 hz
  cases is with
  | nil => exact h1.elim
  | cons k is =>
  obtain ⟨h0, h1⟩ := h1
  unfold ordZ at h2
  rw [Bool.and_eq_true, Bool.and_eq_true] at h2
  obtain ⟨⟨h2a, h2c⟩, h2b⟩ := h2
  rw [Bool.or_eq_true, hE] at h2a
  have h2 := And.intro h2a h2b
  obtain rfl : k = z := by
    rw [h4] at h2c
    exact Nat.eq_of_beq_eq_true (by simpa using h2c)
  have ho : onlyB ops listed k = true := by
    rcases h2.1 with h | h
    · exact h
    · simp at h
  have hk : k < listed.size := by rw [h3]; exact (Array.getElem?_eq_some_iff.1 h0).1
  rw [show (⟨none, op, ty, pos, aft, g⟩ :: rest : List Oper).length + m = (rest.length + m) + 1 from by simp; omega]
  refine JZ.st h0 ho (Nat.ble_eq_true_of_le hk) h (kk m is _ Z h1 h2.2 (by simpa using h3) (by simp [hk]) (fun h => by cases h) hz) hg
/-- a store behind it -/
theorem JQ.st2 {op : Op} {hs' : Hp} (h : Eff P n w0 own e hs op (fun v h => v = undef ∧ h = hs')) (kk : JQ P n w0 own ops F z true rest e hs' K)
    (hE : isEff ⟨none, op, ty, pos, aft, g⟩ = true := by rfl) (hg : wantB ops e g = some true := by rfl) : JQ P n w0 own ops F z true (⟨none, op, ty, pos, aft, g⟩ :: rest) e hs K := by
  intro m is listed Z h1 h2 h3 h4 h5 hz
  cases is with
  | nil => exact h1.elim
  | cons k is =>
  obtain ⟨h0, h1⟩ := h1
  unfold ordZ at h2
  rw [Bool.and_eq_true, Bool.and_eq_true] at h2
  obtain ⟨⟨h2a, h2c⟩, h2b⟩ := h2
  rw [Bool.or_eq_true, hE] at h2a
  have h2 := And.intro h2a h2b
  have ho : onlyB ops listed k = true := by
    rcases h2.1 with h | h
    · exact h
    · simp at h
  rw [show (⟨none, op, ty, pos, aft, g⟩ :: rest : List Oper).length + m = (rest.length + m) + 1 from by simp; omega]
  have hl := set_lt (k := k) (listed := listed) (z := z) h4 (.inl rfl)
  rcases Decidable.em (z = k) with rfl | hne
  · -- z has been: it cannot come up again
    have hr : Region.ready .any ops listed = [z] := by simpa [onlyB] using ho
    have hm : z ∈ Region.ready .any ops listed := by rw [hr]; simp
    obtain ⟨hu, _⟩ := mem_ready.1 hm
    have hk : z < listed.size := by rw [h3]; exact (Array.getElem?_eq_some_iff.1 h0).1
    simp [hk] at hu h4
    rw [hu] at h4; cases h4
  · exact JZ.st2 k h0 ho h4 (by cases h : Nat.beq z k; rfl; exact absurd (Nat.eq_of_beq_eq_true h) hne) h (kk m is _ Z h1 h2.2 (by simpa using h3) hl (fun h => by cases h) hz) hg
end
/-- what an own slice holds, loaded -/
theorem OwnS.atN {w0 : World} {own : List Nat} {E m n n' c b o i : Nat} {vs us : List Value} {h hs : Hp} (k : OwnS E m (.slice (some ⟨b, o, none⟩) n' c) n vs h) (hh : h ⊆ hs) (hu : ∀ (j : Nat) (v : Value), us[j]? = some v → vs[i + j]? = some v) : At w0 own hs ⟨b, o + i, none⟩ us := by
  obtain rfl := k.one
  intro w s j v hv
  obtain ⟨b', o', h1, _, h3⟩ := OwnS.rd k s hh (no := []) (by simp) _ v (hu j v hv)
  cases h1
  rw [add_none, Nat.add_assoc]
  exact h3
theorem OwnS.at1 {w0 : World} {own : List Nat} {E m n n' c b o i : Nat} {vs : List Value} {v : Value} {h hs : Hp} (k : OwnS E m (.slice (some ⟨b, o, none⟩) n' c) n vs h) (hh : h ⊆ hs) (hv : vs[i]? = some v) : At w0 own hs ⟨b, o + i, none⟩ [v] :=
  k.atN hh fun j u hu => by
    match j, hu with
    | 0, hu => simp at hu; subst hu; simpa using hv
section
variable {P : Program} {n : Nat} {w0 : World} {own : List Nat} {e : Env} {hs : Hp}
/-- sums and differences of numbers that are told in another way -/
theorem Val.addE {T U : Nat} {x y : Operand} {i j : Int} (r : Int) (hx : ev e x = some (.int .i64 i)) (hy : ev e y = some (.int .i64 j)) (hr : i + j = r) (hb : -9223372036854775808 ≤ r ∧ r ≤ 9223372036854775807) :
    Val P n w0 own e hs (.binOp .add T x y U) (.int .i64 r) := by
  subst hr; exact Val.addi hx hy hb
theorem Val.subE {T U : Nat} {x y : Operand} {i j : Int} (r : Int) (hx : ev e x = some (.int .i64 i)) (hy : ev e y = some (.int .i64 j)) (hr : i - j = r) (hb : -9223372036854775808 ≤ r ∧ r ≤ 9223372036854775807) :
    Val P n w0 own e hs (.binOp .sub T x y U) (.int .i64 r) := by
  subst hr; exact Val.subi hx hy hb
theorem wrap_u64_in {x : Int} (h : 0 ≤ x ∧ x ≤ 18446744073709551615) : IntKind.u64.wrap x = x := by
  simp [IntKind.wrap, IntKind.bits, IntKind.signed]; omega
theorem Val.addU {T U : Nat} {x y : Operand} {i j : Int} (r : Int) (hx : ev e x = some (.int .u64 i)) (hy : ev e y = some (.int .u64 j)) (hr : i + j = r) (hb : 0 ≤ r ∧ r ≤ 18446744073709551615) :
    Val P n w0 own e hs (.binOp .add T x y U) (.int .u64 r) := by
  subst hr
  have h := Val.add (P := P) (n := n) (w0 := w0) (own := own) (hs := hs) (T := T) (U := U) hx hy
  rw [wrap_u64_in hb] at h; exact h
theorem Val.subU {T U : Nat} {x y : Operand} {i j : Int} (r : Int) (hx : ev e x = some (.int .u64 i)) (hy : ev e y = some (.int .u64 j)) (hr : i - j = r) (hb : 0 ≤ r ∧ r ≤ 18446744073709551615) :
    Val P n w0 own e hs (.binOp .sub T x y U) (.int .u64 r) := by
  subst hr
  have h := Val.sub_ (P := P) (n := n) (w0 := w0) (own := own) (hs := hs) (T := T) (U := U) hx hy
  rw [wrap_u64_in hb] at h; exact h
end
end V
end Go

/- VX: blocks that are lent, found by instances. -/
namespace Go
namespace V
open Go.RowKit
set_option linter.unusedVariables false
set_option linter.unusedSimpArgs false

/-- one block is taken out -/
class Rem (p : Nat × Ch) (hs : Hp) (hs1 : outParam Hp) : Prop where
  out : hs.Perm (p :: hs1)
instance (priority := high) Rem.head {p : Nat × Ch} {hs : Hp} : Rem p (p :: hs) hs := ⟨.refl _⟩
instance Rem.tail {p q : Nat × Ch} {hs hs1 : Hp} [h : Rem p hs hs1] : Rem p (q :: hs) (q :: hs1) := ⟨(List.Perm.cons q h.out).trans (List.Perm.swap _ _ _)⟩
instance Rem.cons_app {p q : Nat × Ch} {k hs r : Hp} [h : Rem p (q :: (k ++ hs)) r] : Rem p ((q :: k) ++ hs) r := ⟨h.out⟩
instance Rem.nil_app {p : Nat × Ch} {hs r : Hp} [h : Rem p hs r] : Rem p ([] ++ hs) r := ⟨h.out⟩
instance (priority := low) Rem.assoc {p : Nat × Ch} {a b c r : Hp} [h : Rem p (a ++ (b ++ c)) r] : Rem p ((a ++ b) ++ c) r := ⟨by rw [List.append_assoc]; exact h.out⟩
instance (priority := low - 10) Rem.app {p : Nat × Ch} {k hs hs1 : Hp} [h : Rem p hs hs1] : Rem p (k ++ hs) (k ++ hs1) := ⟨(List.Perm.append_left k h.out).trans List.perm_middle⟩
/-- a bunch is taken out -/
class RemC (k : Hp) (hs : Hp) (hs1 : outParam Hp) : Prop where
  out : hs.Perm (k ++ hs1)
instance (priority := high) RemC.head {k hs : Hp} : RemC k (k ++ hs) hs := ⟨.refl _⟩
instance (priority := high) RemC.last {k : Hp} : RemC k k [] := ⟨by rw [List.append_nil]⟩
instance RemC.cons_app {q : Nat × Ch} {k k' hs r : Hp} [h : RemC k (q :: (k' ++ hs)) r] : RemC k ((q :: k') ++ hs) r := ⟨h.out⟩
instance RemC.nil_app {k hs r : Hp} [h : RemC k hs r] : RemC k ([] ++ hs) r := ⟨h.out⟩
instance RemC.tail {k : Hp} {q : Nat × Ch} {hs hs1 : Hp} [h : RemC k hs hs1] : RemC k (q :: hs) (q :: hs1) := ⟨(List.Perm.cons q h.out).trans List.perm_middle.symm⟩
instance (priority := low) RemC.assoc {k a b c r : Hp} [h : RemC k (a ++ (b ++ c)) r] : RemC k ((a ++ b) ++ c) r := ⟨by rw [List.append_assoc]; exact h.out⟩
instance (priority := low - 10) RemC.app {k k' hs hs1 : Hp} [h : RemC k hs hs1] : RemC k (k' ++ hs) (k' ++ hs1) := ⟨(List.Perm.append_left k' h.out).trans (by rw [← List.append_assoc, ← List.append_assoc]; exact List.Perm.append_right _ List.perm_append_comm)⟩
/-- all of these are taken out -/
class TakeI (pre hs : Hp) (fr : outParam Hp) : Prop where
  out : hs.Perm (pre ++ fr)
instance (priority := high) TakeI.nil {hs : Hp} : TakeI [] hs hs := ⟨.refl _⟩
instance TakeI.cons {p : Nat × Ch} {pre hs hs1 fr : Hp} [h : Rem p hs hs1] [t : TakeI pre hs1 fr] : TakeI (p :: pre) hs fr := ⟨h.out.trans (.cons p t.out)⟩
instance TakeI.cons_app {p : Nat × Ch} {k pre hs fr : Hp} [t : TakeI (p :: (k ++ pre)) hs fr] : TakeI ((p :: k) ++ pre) hs fr := ⟨t.out⟩
instance TakeI.nil_app {pre hs fr : Hp} [t : TakeI pre hs fr] : TakeI ([] ++ pre) hs fr := ⟨t.out⟩
instance (priority := low) TakeI.assoc {a b c hs fr : Hp} [t : TakeI (a ++ (b ++ c)) hs fr] : TakeI ((a ++ b) ++ c) hs fr := ⟨by rw [List.append_assoc a b c]; exact t.out⟩
instance (priority := low - 10) TakeI.app {k pre hs hs1 fr : Hp} [h : RemC k hs hs1] [t : TakeI pre hs1 fr] : TakeI (k ++ pre) hs fr := ⟨by rw [List.append_assoc]; exact h.out.trans (List.Perm.append_left k t.out)⟩
instance (priority := low - 20) TakeI.last {k hs fr : Hp} [h : RemC k hs fr] : TakeI k hs fr := ⟨h.out⟩

theorem Sat.take {w0 w : World} {own : List Nat} {hs pre fr : Hp} (s : Sat w0 own hs w) [h : TakeI pre hs fr] : Sat w0 own pre w := (s.perm h.out).sub (List.sublist_append_left _ _)
section
variable {P : Program} {n : Nat} {w0 : World} {own : List Nat} {e : Env} {hs : Hp}
theorem JC.keep {c : Code} {Q : Post} (pre : Hp) {fr : Hp} [h : TakeI pre hs fr] (k : JC P n w0 own c e pre Q) : JC P n w0 own c e hs Q := JC.heap (fun _ s => s.take) k
/-- a call that is lent blocks -/
theorem Eff.callT {g : Nat} {f : Operand} {args : List Operand} {at_ : Array TypeId} {cap vals : List Value} {R : Value → Hp → Prop} (pre : Hp) {fr : Hp} (hf : ev e f = some (.func (.func g) #[] ⟨cap⟩)) (ha : evs e args = some vals) [hg : FnT P g] [tk : TakeI pre hs fr]
    (hc : ∀ w, Sat w0 own hs w → Does P g (vals ++ cap) pre w R) :
    Eff P n w0 own e hs (.call { callee := .value f, args := ⟨args⟩, argTypes := at_ }) (fun v hs' => ∃ h, R v h ∧ hs' = h ++ fr) := Eff.call hf ha tk.out hc
end
/-- two roads that join: what holds where they do -/
theorem JC.mid {P : Program} {n : Nat} {w0 : World} {own : List Nat} {e : Env} {hs : Hp} {Q : Post} {x y : Code} {X : Type} (env : X → Env) (heap : X → Hp) (I : X → Prop)
    (h1 : JC P n w0 own x e hs (thenQ (fun e' hs' => ∃ z, I z ∧ Sub (env z) e' ∧ ∀ w, Sat w0 own hs' w → Sat w0 own (heap z) w) Q)) (h2 : ∀ z, I z → JC P n w0 own y (env z) (heap z) Q) : JC P n w0 own (.seq x y) e hs Q := by
  refine .seq (h1.mono fun ex e' hs' h => ?_)
  cases ex with
  | normal => obtain ⟨z, hz, hs1, hh⟩ := h; exact JC.sub hs1 (JC.heap hh (h2 z hz))
  | _ => exact h
/-- a contract, where more is lent -/
theorem Does.lendT {P : Program} {g : Nat} {vals : List Value} {w : World} {R : Value → Hp → Prop} (pre : Hp) {big fr : Hp} [tk : TakeI pre big fr] (h : Does P g vals pre w R) : Does P g vals big w (fun v hs => ∃ h, R v h ∧ hs = h ++ fr) := by
  intro hp hd
  have s := (Sat.begin hp hd).perm tk.out
  have nd := s.nd
  simp only [bl, List.map_append, List.nodup_append] at nd
  refine (h (fun b c hb => s.has b c (List.mem_append.2 (.inl hb))) nd.1).mono ?_
  rintro x w' ⟨v, hs', rfl, h1, h2⟩
  exact ⟨v, hs' ++ fr, rfl, ⟨hs', h1, rfl⟩, s.call h2⟩
/-- .. and what is left is told in another order, less of it -/
theorem Does.keepT {P : Program} {g : Nat} {vals : List Value} {w : World} {R R' : Value → Hp → Prop} {pre : Hp} (h : Does P g vals pre w R) (k : ∀ v hs, R v hs → ∃ hs' fr, hs.Perm (hs' ++ fr) ∧ R' v hs') : Does P g vals pre w R' :=
  Does.less (h.mono fun v hs r => by
    obtain ⟨hs', fr, h1, h2⟩ := k v hs r
    exact ⟨hs', fun _ s => (s.perm h1).sub (List.sublist_append_left _ _), h2⟩)
end V
end Go

/- VY: as VW; and what touches no memory may come up at any time. -/
namespace Go
namespace V
open Go.RowKit
set_option linter.unusedVariables false
set_option linter.unusedSimpArgs false

section
variable {P : Program} {ops : Array Oper} {Q : Exit → Act → World → Prop} {S : World → Prop} {z : Nat}
/-- number i may be taken first, if its value hangs on no world -/
theorem Upto.firstX {i : Nat} {oi : Oper} {v : Value} (hi : ops[i]? = some oi) (hsel : ∀ (j : Nat) (o : Oper) cs b, ops[j]? = some o → o.op ≠ .select cs b)
    (hQ : ∀ c a w, Q (.panic c) (a.put oi.dst v) w → Q (.panic c) a w) (hzi : z ≠ i) :
    ∀ (k : Nat) (l : Array Bool) (a : Act) (w : World),
      (∀ j oj, ops[j]? = some oj → j ≠ i → l.getD j true = false → (∀ e ∈ oj.after, Region.binds .any e = true → e.on ≠ i) → oi.apart ops oj = true) →
      i ∈ Region.ready .any ops l → YieldsIf P ops (fun _ => True) oi v a → (l.getD z true = false → S w) →
      Upto P ops Q S z k (l.setIfInBounds i true) (a.put oi.dst v) w → Upto P ops Q S z (k + 1) l a w := by
  intro k
  induction k with
  | zero =>
    intro l a w _ hr hy hS H
    refine ⟨fun h => absurd (h ▸ hr) List.not_mem_nil, fun j hj => ?_⟩
    rcases Decidable.em (j = i) with rfl | hji
    · exact hy.wpOp hi trivial ⟨fun hz => hS (by rw [getD_set_ne true (Ne.symm hzi)] at hz; exact hz), H⟩
    · exact absurd (H.1 ▸ ready_mono hj hji) List.not_mem_nil
  | succ k ih =>
    intro l a w hfree hr hy hS H
    refine ⟨fun h => absurd (h ▸ hr) List.not_mem_nil, fun j hj => ?_⟩
    rcases Decidable.em (j = i) with rfl | hji
    · exact hy.wpOp hi trivial ⟨fun hz => hS (by rw [getD_set_ne true (Ne.symm hzi)] at hz; exact hz), H⟩
    obtain ⟨hun, oj, hoj, hall⟩ := mem_ready.1 hj
    have hno : ∀ e ∈ oj.after, Region.binds .any e = true → e.on ≠ i := by
      intro e he hb hon
      exact not_both (z := j) hoj ⟨e, he, hb, hon⟩ hr hj
    have step := wpOp_putIf hoj (hfree j oj hoj hji hun hno) (fun cs b => hsel i oi cs b hi) (fun cs b => hsel j oj cs b hoj) hQ hy (H.2 j (ready_mono hj hji))
    refine wpOp_mono (fun a' w' ⟨hy', hS', hrest⟩ => ?_) step
    have e1 : ((l.setIfInBounds i true).setIfInBounds j true).getD z true = (l.setIfInBounds j true).getD z true := by
      rw [Array.setIfInBounds_comm _ _ (Ne.symm hji), getD_set_ne true (Ne.symm hzi)]
    have hS2 : (l.setIfInBounds j true).getD z true = false → S w' := fun hz => hS' (by rw [e1]; exact hz)
    refine ⟨hS2, ih (l.setIfInBounds j true) a' w' (fun m om hm hmi hun' hno' => ?_) (ready_mono hr (Ne.symm hji)) hy' hS2 ?_⟩
    · refine hfree m om hm hmi ?_ hno'
      rcases Decidable.em (j = m) with rfl | hjm
      · exact hun
      · rw [getD_set_ne true hjm] at hun'; exact hun'
    · rw [Array.setIfInBounds_comm _ _ hji]; exact hrest
end
/-- does the operation touch no memory? -/
def noMem (o : Oper) : Bool := match o.op with
  | .move _ => true
  | .indexAddr .. => true
  | .fieldAddr .. => true
  | .binOp .. => true
  | .extract .. => true
  | _ => false
section
variable {P : Program} {n : Nat} {w0 : World} {own : List Nat} {e : Env} {hs F : Hp} {ops : Array Oper} {K : Env → Hp → Prop} {z m : Nat} {listed : Array Bool}
variable {d : Nat} {ty : TypeId} {pos : String} {aft : Array Edge} {g : Option (Nat × Bool)}
theorem JZ.x {op : Op} {v : Value} (i : Nat) (hi : ops[i]? = some ⟨some d, op, ty, pos, aft, g⟩) (hf : firstB ops listed i = true) (hzi : z ≠ i)
    (h : ∀ w, Val P n w [] e [] op v) (k : JZ P n w0 own ops F z m (listed.setIfInBounds i true) ((d, v) :: e) hs K)
    (hdn : Nat.blt d n = true := by rfl) (hg : wantB ops e g = some true := by rfl) : JZ P n w0 own ops F z (m + 1) listed e hs K := by
  intro a w hr s hF
  unfold firstB at hf
  rw [Bool.and_eq_true, Bool.and_eq_true] at hf
  obtain ⟨⟨f1, f2⟩, f3⟩ := hf
  exact Upto.firstX hi (Region.noSelect_spec f1) (fun _ _ _ h => h) hzi m listed a w (Region.free_spec hi f2) (by simpa using f3)
    (.inl ⟨wanted_of hr hg, fun w' _ => h w' a w' _ _ _ _ _ hr (Sat.begin0 w')⟩) (fun hz => ⟨hs, s, hF hz⟩)
    (k _ _ (hr.put (Nat.le_of_ble_eq_true hdn) v) s fun hz => hF (by rw [getD_set_ne true (Ne.symm hzi)] at hz; exact hz))
end

def ordY (ops : Array Oper) (z : Nat) : List Oper → List Nat → Array Bool → Bool
  | [], [], _ => true
  | o :: l, i :: is, listed => (onlyB ops listed i || (!isEff o && firstZ ops z listed i) || (noMem o && firstB ops listed i && !Nat.beq z i)) && (o.dst.isSome || Nat.beq i z || listed.getD z true) && ordY ops z l is (listed.setIfInBounds i true)
  | _, _, _ => false
/-- the operations in their order; 'late': the first store has been -/
def JY (P : Program) (n : Nat) (w0 : World) (own : List Nat) (ops : Array Oper) (F : Hp) (z : Nat) (late : Bool) (l : List Oper) (e : Env) (hs : Hp) (K : Bool → Env → Hp → Prop) : Prop :=
  ∀ (m : Nat) (is : List Nat) (listed : Array Bool) (Z : Env → Hp → Prop), Nums ops l is → ordY ops z l is listed = true → listed.size = ops.size → listed.getD z true = late → (late = false → F ⊆ hs) →
    (∀ late' e' hs', (marks_ is listed).getD z true = late' → (late' = false → F ⊆ hs') → K late' e' hs' → JZ P n w0 own ops F z m (marks_ is listed) e' hs' Z) → JZ P n w0 own ops F z (l.length + m) listed e hs Z

theorem eff_mem {o : Oper} (h : isEff o = true) : noMem o = false := by
  unfold isEff at h; unfold noMem
  split <;> simp_all
section
variable {P : Program} {n : Nat} {w0 : World} {own : List Nat} {e : Env} {hs F : Hp} {ops : Array Oper} {rest l : List Oper} {K : Bool → Env → Hp → Prop} {z : Nat} {late : Bool} {m : Nat} {listed : Array Bool} {Z : Env → Hp → Prop}
variable {d : Nat} {ty : TypeId} {pos : String} {aft : Array Edge} {g : Option (Nat × Bool)}

theorem JC.drawY {id : Nat} {Q : Post} {l : List Oper} (z : Nat) (is : List Nat) (F : Hp) (hF : F ⊆ hs) (hm : P.follows .mixedOrders = true)
    (hB : (ordY l.toArray z (pickL l is) is (Array.replicate l.length false) && doneB l.toArray (marks_ is (Array.replicate l.length false)) && Nat.beq (pickL l is).length l.length && Nat.beq is.length l.length && Nat.blt z l.length) = true)
    (h : JY P n w0 own l.toArray F z false (pickL l is) e hs (fun _ e' hs' => Q .normal e' hs')) : JC P n w0 own (.region id l.toArray true) e hs Q := by
  rw [Bool.and_eq_true, Bool.and_eq_true, Bool.and_eq_true, Bool.and_eq_true] at hB
  obtain ⟨⟨⟨⟨h1, h2⟩, h3⟩, h4⟩, h5⟩ := hB
  have h3 := Nat.eq_of_beq_eq_true h3
  have h4 := Nat.eq_of_beq_eq_true h4
  have h5 : z < l.length := Nat.le_of_ble_eq_true h5
  have key : ∀ (is : List Nat), (pickL l is).length = is.length → Nums l.toArray (pickL l is) is := by
    intro is
    induction is with
    | nil => intro _; trivial
    | cons i is ih =>
      intro hl
      unfold pickL at hl ⊢
      cases ho : l[i]? with
      | none => rw [ho] at hl; simp at hl
      | some o =>
        rw [ho] at hl
        simp only at hl ⊢
        exact ⟨by simpa using ho, ih (by simpa using hl)⟩
  refine JC.drawZ z F hF hm ?_
  have := h 0 is (Array.replicate l.length false) (fun e hs => Q .normal e hs) (key _ (by omega)) h1 (by simp) (by simp [h5]) (fun _ => hF) (fun _ e' hs' _ _ ke => JZ.done h2 ke)
  rw [h3] at this
  simpa using this
theorem JY.nil (h : K late e hs) : JY P n w0 own ops F z late [] e hs K := fun m is listed Z hn _ hsz hl hF hz => by
  cases is with
  | nil => rw [List.length_nil, Nat.zero_add]; exact hz late e hs hl hF h
  | cons i is => exact hn.elim
theorem JY.mono {K' : Bool → Env → Hp → Prop} (h : JY P n w0 own ops F z late l e hs K) (kk : ∀ b e hs, K b e hs → K' b e hs) : JY P n w0 own ops F z late l e hs K' :=
  fun m k listed Z h1 h2 h3 h4 h5 hz => h m k listed Z h1 h2 h3 h4 h5 fun b e' hs' f1 f ke => hz b e' hs' f1 f (kk b e' hs' ke)
theorem JY.sub {e2 : Env} (hs' : Sub e2 e) (h : JY P n w0 own ops F z late l e2 hs K) : JY P n w0 own ops F z late l e hs K :=
  fun m k listed Z h1 h2 h3 h4 h5 hz a w hr s hF => h m k listed Z h1 h2 h3 h4 h5 hz a w (hr.sub hs') s hF
theorem JY.splitB {t : Nat} {b : Bool} (ht : get e t = some (.bool b)) (h1 : b = true → JY P n w0 own ops F z late l ((t, .bool true) :: e) hs K)
    (h0 : b = false → JY P n w0 own ops F z late l ((t, .bool false) :: e) hs K) : JY P n w0 own ops F z late l e hs K := by
  cases b
  · exact JY.sub (sub_same' ht) (h0 rfl)
  · exact JY.sub (sub_same' ht) (h1 rfl)
/-- a value, ahead of the first store -/
theorem JY.v {op : Op} {v : Value} (h : ∀ hs', F ⊆ hs' → Val P n w0 own e hs' op v) (kk : JY P n w0 own ops F z false rest ((d, v) :: e) hs K) (hdn : Nat.blt d n = true := by rfl) (hg : wantB ops e g = some true := by rfl)
    (hzo : ((ops[z]?).map (·.dst.isNone)) = some true := by rfl) (hx : noMem ⟨some d, op, ty, pos, aft, g⟩ = false := by rfl) :
    JY P n w0 own ops F z false (⟨some d, op, ty, pos, aft, g⟩ :: rest) e hs K := by
  intro m is listed Z h1 h2 h3 h4 h5 hz
  cases is with
  | nil => exact h1.elim
  | cons k is =>
  obtain ⟨h0, h1⟩ := h1
  unfold ordY at h2
  rw [Bool.and_eq_true, Bool.and_eq_true] at h2
  obtain ⟨⟨h2a, _⟩, h2b⟩ := h2
  rw [hx, Bool.false_and, Bool.false_and, Bool.or_false, Bool.or_eq_true, Bool.and_eq_true] at h2a
  have h2 := And.intro h2a h2b
  have hkz : k ≠ z := by rintro rfl; rw [h0] at hzo; simp at hzo
  have tail : JZ P n w0 own ops F z (rest.length + m) (listed.setIfInBounds k true) ((d, v) :: e) hs Z := kk m is _ Z h1 h2.2 (by simpa using h3) (set_lt h4 (.inr hkz)) h5 hz
  rw [show (⟨some d, op, ty, pos, aft, g⟩ :: rest : List Oper).length + m = (rest.length + m) + 1 from by simp; omega]
  rcases h2.1 with ho | ⟨_, hf⟩
  · exact JZ.v1 k h0 ho (h hs (h5 rfl)) tail rfl hdn hg
  · exact JZ.v k h0 hf h tail hdn hg
/-- a value behind it -/
theorem JY.w {op : Op} {v : Value} (h : Val P n w0 own e hs op v) (kk : JY P n w0 own ops F z true rest ((d, v) :: e) hs K) (hdn : Nat.blt d n = true := by rfl) (hg : wantB ops e g = some true := by rfl) (hx : noMem ⟨some d, op, ty, pos, aft, g⟩ = false := by rfl) :
    JY P n w0 own ops F z true (⟨some d, op, ty, pos, aft, g⟩ :: rest) e hs K := by
  intro m is listed Z h1 h2 h3 h4 h5 hz
  cases is with
  | nil => exact h1.elim
  | cons k is =>
  obtain ⟨h0, h1⟩ := h1
  unfold ordY at h2
  rw [Bool.and_eq_true, Bool.and_eq_true] at h2
  obtain ⟨⟨h2a, _⟩, h2b⟩ := h2
  rw [hx, Bool.false_and, Bool.false_and, Bool.or_false, Bool.or_eq_true, Bool.and_eq_true] at h2a
  have h2 := And.intro h2a h2b
  have tail : JZ P n w0 own ops F z (rest.length + m) (listed.setIfInBounds k true) ((d, v) :: e) hs Z := kk m is _ Z h1 h2.2 (by simpa using h3) (set_lt h4 (.inl rfl)) (fun h => by cases h) hz
  rw [show (⟨some d, op, ty, pos, aft, g⟩ :: rest : List Oper).length + m = (rest.length + m) + 1 from by simp; omega]
  rcases h2.1 with ho | ⟨_, hf⟩
  · exact JZ.v1 k h0 ho h tail rfl hdn hg
  · unfold firstZ at hf
    rw [h4] at hf
    simp at hf
/-- what touches no memory, at any time -/
theorem JY.x {op : Op} {v : Value} (h : ∀ w0 own hs, Val P n w0 own e hs op v) (kk : JY P n w0 own ops F z late rest ((d, v) :: e) hs K) (hdn : Nat.blt d n = true := by rfl) (hg : wantB ops e g = some true := by rfl)
    (hzo : ((ops[z]?).map (·.dst.isNone)) = some true := by rfl) :
    JY P n w0 own ops F z late (⟨some d, op, ty, pos, aft, g⟩ :: rest) e hs K := by
  intro m is listed Z h1 h2 h3 h4 h5 hz
  cases is with
  | nil => exact h1.elim
  | cons k is =>
  obtain ⟨h0, h1⟩ := h1
  unfold ordY at h2
  rw [Bool.and_eq_true, Bool.and_eq_true] at h2
  obtain ⟨⟨h2a, _⟩, h2b⟩ := h2
  rw [Bool.or_eq_true, Bool.or_eq_true, Bool.and_eq_true, Bool.and_eq_true, Bool.and_eq_true] at h2a
  have hkz : k ≠ z := by rintro rfl; rw [h0] at hzo; simp at hzo
  have tail : JZ P n w0 own ops F z (rest.length + m) (listed.setIfInBounds k true) ((d, v) :: e) hs Z := kk m is _ Z h1 h2b (by simpa using h3) (set_lt h4 (.inr hkz)) h5 hz
  rw [show (⟨some d, op, ty, pos, aft, g⟩ :: rest : List Oper).length + m = (rest.length + m) + 1 from by simp; omega]
  rcases h2a with (ho | ⟨_, hf⟩) | ⟨⟨_, hf⟩, _⟩
  · exact JZ.v1 k h0 ho (h _ _ _) tail rfl hdn hg
  · exact JZ.v k h0 hf (fun hs' _ => h _ _ _) tail hdn hg
  · exact JZ.x k h0 hf (Ne.symm hkz) (fun w => h _ _ _) tail hdn hg
/-- what works on memory, and leaves a value -/
theorem JY.ef {op : Op} {R : Value → Hp → Prop} (h : Eff P n w0 own e hs op R) (hF : ∀ v hs', R v hs' → F ⊆ hs → F ⊆ hs') (kk : ∀ v hs', R v hs' → JY P n w0 own ops F z late rest ((d, v) :: e) hs' K)
    (hE : isEff ⟨some d, op, ty, pos, aft, g⟩ = true := by rfl) (hdn : Nat.blt d n = true := by rfl) (hg : wantB ops e g = some true := by rfl) (hzo : ((ops[z]?).map (·.dst.isNone)) = some true := by rfl) : JY P n w0 own ops F z late (⟨some d, op, ty, pos, aft, g⟩ :: rest) e hs K := by
  intro m is listed Z h1 h2 h3 h4 h5 hz
  cases is with
  | nil => exact h1.elim
  | cons k is =>
  obtain ⟨h0, h1⟩ := h1
  unfold ordY at h2
  rw [Bool.and_eq_true, Bool.and_eq_true] at h2
  obtain ⟨⟨h2a, _⟩, h2b⟩ := h2
  rw [Bool.or_eq_true, Bool.or_eq_true, hE, eff_mem hE] at h2a
  have h2 := And.intro h2a h2b
  have hkz : k ≠ z := by rintro rfl; rw [h0] at hzo; simp at hzo
  have ho : onlyB ops listed k = true := by
    rcases h2.1 with (h | h) | h
    · exact h
    · simp at h
    · simp at h
  rw [show (⟨some d, op, ty, pos, aft, g⟩ :: rest : List Oper).length + m = (rest.length + m) + 1 from by simp; omega]
  exact JZ.ef k h0 ho h (fun v hs' r => kk v hs' r m is _ Z h1 h2.2 (by simpa using h3) (set_lt h4 (.inr hkz)) (fun e => hF v hs' r (h5 e)) hz) hF rfl hdn hg
/-- the first store -/
theorem JY.st {op : Op} {hs' : Hp} (h : Eff P n w0 own e hs op (fun v h => v = undef ∧ h = hs')) (kk : JY P n w0 own ops F z true rest e hs' K)
    (hE : isEff ⟨none, op, ty, pos, aft, g⟩ = true := by rfl) (hg : wantB ops e g = some true := by rfl) : JY P n w0 own ops F z false (⟨none, op, ty, pos, aft, g⟩ :: rest) e hs K := by
  intro m is listed Z h1 h2 h3 h4 h5 hz
  cases is with
  | nil => exact h1.elim
  | cons k is =>
  obtain ⟨h0, h1⟩ := h1
  unfold ordY at h2
  rw [Bool.and_eq_true, Bool.and_eq_true] at h2
  obtain ⟨⟨h2a, h2c⟩, h2b⟩ := h2
  rw [Bool.or_eq_true, Bool.or_eq_true, hE, eff_mem hE] at h2a
  have h2 := And.intro h2a h2b
  obtain rfl : k = z := by
    rw [h4] at h2c
    exact Nat.eq_of_beq_eq_true (by simpa using h2c)
  have ho : onlyB ops listed k = true := by
    rcases h2.1 with (h | h) | h
    · exact h
    · simp at h
    · simp at h
  have hk : k < listed.size := by rw [h3]; exact (Array.getElem?_eq_some_iff.1 h0).1
  rw [show (⟨none, op, ty, pos, aft, g⟩ :: rest : List Oper).length + m = (rest.length + m) + 1 from by simp; omega]
  refine JZ.st h0 ho (Nat.ble_eq_true_of_le hk) h (kk m is _ Z h1 h2.2 (by simpa using h3) (by simp [hk]) (fun h => by cases h) hz) hg
/-- a store behind it -/
theorem JY.st2 {op : Op} {hs' : Hp} (h : Eff P n w0 own e hs op (fun v h => v = undef ∧ h = hs')) (kk : JY P n w0 own ops F z true rest e hs' K)
    (hE : isEff ⟨none, op, ty, pos, aft, g⟩ = true := by rfl) (hg : wantB ops e g = some true := by rfl) : JY P n w0 own ops F z true (⟨none, op, ty, pos, aft, g⟩ :: rest) e hs K := by
  intro m is listed Z h1 h2 h3 h4 h5 hz
  cases is with
  | nil => exact h1.elim
  | cons k is =>
  obtain ⟨h0, h1⟩ := h1
  unfold ordY at h2
  rw [Bool.and_eq_true, Bool.and_eq_true] at h2
  obtain ⟨⟨h2a, h2c⟩, h2b⟩ := h2
  rw [Bool.or_eq_true, Bool.or_eq_true, hE, eff_mem hE] at h2a
  have h2 := And.intro h2a h2b
  have ho : onlyB ops listed k = true := by
    rcases h2.1 with (h | h) | h
    · exact h
    · simp at h
    · simp at h
  rw [show (⟨none, op, ty, pos, aft, g⟩ :: rest : List Oper).length + m = (rest.length + m) + 1 from by simp; omega]
  have hl := set_lt (k := k) (listed := listed) (z := z) h4 (.inl rfl)
  rcases Decidable.em (z = k) with rfl | hne
  · -- z has been: it cannot come up again
    have hr : Region.ready .any ops listed = [z] := by simpa [onlyB] using ho
    have hm : z ∈ Region.ready .any ops listed := by rw [hr]; simp
    obtain ⟨hu, _⟩ := mem_ready.1 hm
    have hk : z < listed.size := by rw [h3]; exact (Array.getElem?_eq_some_iff.1 h0).1
    simp [hk] at hu h4
    rw [hu] at h4; cases h4
  · exact JZ.st2 k h0 ho h4 (by cases h : Nat.beq z k; rfl; exact absurd (Nat.eq_of_beq_eq_true h) hne) h (kk m is _ Z h1 h2.2 (by simpa using h3) hl (fun h => by cases h) hz) hg
end
end V
end Go
