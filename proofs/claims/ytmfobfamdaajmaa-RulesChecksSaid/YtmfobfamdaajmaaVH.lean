/- VH: regions that draw their order, whose head turns nothing and whose tail is a chain: they run as they are written. -/
import Derived.Test.YtmfobfamdaajmaaV9
import Derived.StillTail
namespace Go
namespace V
open Go.RowKit
set_option linter.unusedVariables false
set_option linter.unusedSimpArgs false

/-- the operations, none of which turns the world -/
def JH (P : Program) (n : Nat) (w0 : World) (own : List Nat) (ops : Array Oper) (l : List Oper) (e : Env) (hs : Hp) (K : Env → Prop) : Prop :=
  ∀ a w, Rep n a e → Sat w0 own hs w → ∀ L : Act → Prop, (∀ e' a', Rep n a' e' → K e' → L a') → wpStill P ops w L l a

section
variable {P : Program} {n : Nat} {w0 : World} {own : List Nat} {e : Env} {hs : Hp} {ops : Array Oper} {rest : List Oper} {K : Env → Prop}
variable {d : Nat} {ty : TypeId} {pos : String} {aft : Array Edge} {g : Option (Nat × Bool)}

theorem JC.drawT {id : Nat} {l : List Oper} {Q : Post} (k : Nat) (hm : P.follows .mixedOrders = true) (hB : Region.lexTailB .any l.toArray k = true)
    (h : JH P n w0 own l.toArray (l.take k) e hs (fun e' => JL P n w0 own l.toArray (l.drop k) e' hs (fun e hs => Q .normal e hs))) : JC P n w0 own (.region id l.toArray true) e hs Q := by
  intro a w hr s
  refine wp_region_still_tail k hm hB (h a _ hr s.drew _ fun e' a' hr' hk => ?_)
  exact hk a' _ hr' s.drew _ fun e2 hs2 a2 w2 r2 s2 k2 => ⟨e2, hs2, r2, s2, k2⟩
theorem JC.drawS {id : Nat} {l : List Oper} {Q : Post} (hm : P.follows .mixedOrders = true) (hB : Region.lexB .any l.toArray = true)
    (h : JH P n w0 own l.toArray l e hs (fun e' => Q .normal e' hs)) : JC P n w0 own (.region id l.toArray true) e hs Q := by
  intro a w hr s
  refine wp_region_still_lit hm hB (h a _ hr s.drew _ fun e' a' hr' hk => ?_)
  exact ⟨e', hs, hr', s.drew, hk⟩
theorem JH.nil (h : K e) : JH P n w0 own ops [] e hs K := fun a w hr s L hL => hL _ _ hr h
theorem JH.v {op : Op} {v : Value} (h : Val P n w0 own e hs op v) (k : JH P n w0 own ops rest ((d, v) :: e) hs K) (hdn : Nat.blt d n = true := by rfl) (hg : wantB ops e g = some true := by rfl) :
    JH P n w0 own ops (⟨some d, op, ty, pos, aft, g⟩ :: rest) e hs K := by
  intro a w hr s L hL
  unfold wpStill
  rw [if_pos (wanted_of hr hg), Oper.still, h a w ty pos aft g (some d) hr s, Oper.stillUpon_value]
  exact k _ _ (hr.put (Nat.le_of_ble_eq_true hdn) v) s L hL
theorem JH.sk {op : Op} (k : JH P n w0 own ops rest ((d, undef) :: e) hs K) (hdn : Nat.blt d n = true := by rfl) (hg : wantB ops e g = some false := by rfl) :
    JH P n w0 own ops (⟨some d, op, ty, pos, aft, g⟩ :: rest) e hs K := by
  intro a w hr s L hL
  unfold wpStill
  rw [if_neg (by rw [wanted_of hr hg]; simp)]
  exact k _ _ (hr.put (Nat.le_of_ble_eq_true hdn) undef) s L hL
theorem JH.split {l : List Oper} {t : Nat} {p : Prop} [Decidable p] (ht : get e t = some (.bool (decide p))) (h1 : p → JH P n w0 own ops l ((t, .bool true) :: e) hs K)
    (h0 : ¬ p → JH P n w0 own ops l ((t, .bool false) :: e) hs K) : JH P n w0 own ops l e hs K := by
  by_cases hp : p
  · rw [decide_eq_true hp] at ht
    exact fun a w hr s => h1 hp a w (hr.same ht) s
  · rw [decide_eq_false hp] at ht
    exact fun a w hr s => h0 hp a w (hr.same ht) s
theorem JH.splitB {l : List Oper} {t : Nat} {b : Bool} (ht : get e t = some (.bool b)) (h1 : b = true → JH P n w0 own ops l ((t, .bool true) :: e) hs K)
    (h0 : b = false → JH P n w0 own ops l ((t, .bool false) :: e) hs K) : JH P n w0 own ops l e hs K := by
  cases b
  · exact fun a w hr s => h0 rfl a w (hr.same ht) s
  · exact fun a w hr s => h1 rfl a w (hr.same ht) s
end

theorem Rd.base {w : World} {no : List Nat} {A : Option Addr} {vs : List Value} (h : Rd w no A vs) (hn : 0 < vs.length) :
    ∃ b o, A = some ⟨b, o, none⟩ ∧ b ∉ no ∧ ∀ j v, vs[j]? = some v → w.cell? ⟨b, o + j, none⟩ = some v := by
  obtain ⟨b, o, h1, h2, h3⟩ := h 0 vs[0] (by simp)
  refine ⟨b, o, h1, h2, fun j v hv => ?_⟩
  obtain ⟨b', o', h1', h2', h3'⟩ := h j v hv
  rw [h1] at h1'; cases h1'; exact h3'

/-! ### bits of 64 -/
theorem ofInt_nat' (m : Nat) (b : BitVec m) : BitVec.ofInt m (b.toNat : Int) = b := by
  apply BitVec.eq_of_toNat_eq; simp
theorem wrap_u64 (b : BitVec 64) : IntKind.u64.wrap (b.toNat : Int) = b.toNat := by
  have := b.isLt
  simp [IntKind.wrap, IntKind.bits, IntKind.signed]; omega
theorem or64 (a b : BitVec 64) : bop .or .u64 (a.toNat : Int) (b.toNat : Int) = (a ||| b).toNat := by
  have h := wrap_u64 (a ||| b)
  simp only [bop, IntKind.bits, ofInt_nat'] at *; exact h
theorem conv8_64 (a : BitVec 8) : IntKind.u64.wrap (a.toNat : Int) = (a.setWidth 64).toNat := by
  have := a.isLt
  simp [IntKind.wrap, IntKind.bits, IntKind.signed]
theorem shl64 (a : BitVec 64) (s : Nat) (hs : s ≤ 64) : IntKind.u64.wrap ((a.toNat : Int) * 2 ^ min s IntKind.u64.bits) = (a <<< s).toNat := by
  rw [show min s IntKind.u64.bits = s from by simp [IntKind.bits]; omega]
  rw [BitVec.toNat_shiftLeft, Nat.shiftLeft_eq]
  simp [IntKind.wrap, IntKind.bits, IntKind.signed]
theorem add64 (a b : BitVec 64) : IntKind.u64.wrap ((a.toNat : Int) + (b.toNat : Int)) = (a + b).toNat := by
  rw [BitVec.toNat_add]
  simp [IntKind.wrap, IntKind.bits, IntKind.signed]
end V
end Go
