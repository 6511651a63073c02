/- Texts that the row RAucFair stands on: VW, VX, VY, VA, VC, VMA, AStP, Ty, AUPlain, VD, VE, VYN, VPK, VSF, VF, VSO, AUMem, AURot, SIIns, SIHeap, SIPiv, SICho. -/
import Derived.Test.YtamldmgdhaoigaaYAucFairA
import Derived.Maps.RangeRun
import Derived.Test.YtamldmgdhaoigaaChecked
import Derived.ProofKit
import Derived.OpenShut
import Derived.ShutString
import Derived.ChangeOld
import Derived.SizedLaws
import Derived.JoinedCond
import Derived.Sort.AssemblyPlain
/- VW: regions that draw their order and store: in an order of our choice; what is held is held up to the first store. -/
namespace Go
namespace V
open Go.RowKit
set_option linter.unusedVariables false
set_option linter.unusedSimpArgs false

instance (priority := high) SetL.head0 {u v : Value} {l : List Value} : SetL (u :: l) (0 + 0) v (v :: l) := ⟨by simp, rfl⟩
instance (priority := high) SetL.head00 {u v : Value} {l : List Value} : SetL (u :: l) (0 + 0 + 0) v (v :: l) := ⟨by simp, rfl⟩

def ordZ (ops : Array Oper) (z : Nat) : List Oper → List Nat → Array Bool → Bool
  | [], [], _ => true
  | o :: l, i :: is, listed => (onlyB ops listed i || (!isEff o && firstZ ops z listed i)) && (o.dst.isSome || Nat.beq i z || listed.getD z true) && ordZ ops z l is (listed.setIfInBounds i true)
  | _, _, _ => false
theorem marks_size : ∀ (is : List Nat) (listed : Array Bool), (marks_ is listed).size = listed.size
  | [], _ => rfl
  | i :: is, listed => by simp [marks_, marks_size is]

/-- the operations in their order; 'late': the first store has been -/
def JQ (P : Program) (n : Nat) (w0 : World) (own : List Nat) (ops : Array Oper) (F : Hp) (z : Nat) (late : Bool) (l : List Oper) (e : Env) (hs : Hp) (K : Bool → Env → Hp → Prop) : Prop :=
  ∀ (m : Nat) (is : List Nat) (listed : Array Bool) (Z : Env → Hp → Prop), Nums ops l is → ordZ ops z l is listed = true → listed.size = ops.size → listed.getD z true = late → (late = false → F ⊆ hs) →
    (∀ late' e' hs', (marks_ is listed).getD z true = late' → (late' = false → F ⊆ hs') → K late' e' hs' → JZ P n w0 own ops F z m (marks_ is listed) e' hs' Z) → JZ P n w0 own ops F z (l.length + m) listed e hs Z

section
variable {P : Program} {n : Nat} {w0 : World} {own : List Nat} {e : Env} {hs F : Hp} {ops : Array Oper} {rest l : List Oper} {K : Bool → Env → Hp → Prop} {z : Nat} {late : Bool} {m : Nat} {listed : Array Bool} {Z : Env → Hp → Prop}
variable {d : Nat} {ty : TypeId} {pos : String} {aft : Array Edge} {g : Option (Nat × Bool)}

theorem JC.drawQ {id : Nat} {Q : Post} {l : List Oper} (z : Nat) (is : List Nat) (F : Hp) (hF : F ⊆ hs) (hm : P.follows .mixedOrders = true)
    (hB : (ordZ l.toArray z (pickL l is) is (Array.replicate l.length false) && doneB l.toArray (marks_ is (Array.replicate l.length false)) && Nat.beq (pickL l is).length l.length && Nat.beq is.length l.length && Nat.blt z l.length) = true)
    (h : JQ P n w0 own l.toArray F z false (pickL l is) e hs (fun _ e' hs' => Q .normal e' hs')) : JC P n w0 own (.region id l.toArray true) e hs Q := by
  rw [Bool.and_eq_true, Bool.and_eq_true, Bool.and_eq_true, Bool.and_eq_true] at hB
  obtain ⟨⟨⟨⟨h1, h2⟩, h3⟩, h4⟩, h5⟩ := hB
  have h3 := Nat.eq_of_beq_eq_true h3
  have h4 := Nat.eq_of_beq_eq_true h4
  have h5 : z < l.length := Nat.le_of_ble_eq_true h5
  have key : ∀ (is : List Nat), (pickL l is).length = is.length → Nums l.toArray (pickL l is) is := by
    intro is
    induction is with
    | nil => intro _; trivial
    | cons i is ih =>
      intro hl
      unfold pickL at hl ⊢
      cases ho : l[i]? with
      | none => rw [ho] at hl; simp at hl
      | some o =>
        rw [ho] at hl
        simp only at hl ⊢
        exact ⟨by simpa using ho, ih (by simpa using hl)⟩
  refine JC.drawZ z F hF hm ?_
  have := h 0 is (Array.replicate l.length false) (fun e hs => Q .normal e hs) (key _ (by omega)) h1 (by simp) (by simp [h5]) (fun _ => hF) (fun _ e' hs' _ _ ke => JZ.done h2 ke)
  rw [h3] at this
  simpa using this
theorem JQ.nil (h : K late e hs) : JQ P n w0 own ops F z late [] e hs K := fun m is listed Z hn _ hsz hl hF hz => by
  cases is with
  | nil => rw [List.length_nil, Nat.zero_add]; exact hz late e hs hl hF h
  | cons i is => exact hn.elim
theorem JQ.mono {K' : Bool → Env → Hp → Prop} (h : JQ P n w0 own ops F z late l e hs K) (kk : ∀ b e hs, K b e hs → K' b e hs) : JQ P n w0 own ops F z late l e hs K' :=
  fun m k listed Z h1 h2 h3 h4 h5 hz => h m k listed Z h1 h2 h3 h4 h5 fun b e' hs' f1 f ke => hz b e' hs' f1 f (kk b e' hs' ke)
theorem JQ.sub {e2 : Env} (hs' : Sub e2 e) (h : JQ P n w0 own ops F z late l e2 hs K) : JQ P n w0 own ops F z late l e hs K :=
  fun m k listed Z h1 h2 h3 h4 h5 hz a w hr s hF => h m k listed Z h1 h2 h3 h4 h5 hz a w (hr.sub hs') s hF
theorem JQ.splitB {t : Nat} {b : Bool} (ht : get e t = some (.bool b)) (h1 : b = true → JQ P n w0 own ops F z late l ((t, .bool true) :: e) hs K)
    (h0 : b = false → JQ P n w0 own ops F z late l ((t, .bool false) :: e) hs K) : JQ P n w0 own ops F z late l e hs K := by
  cases b
  · exact JQ.sub (sub_same' ht) (h0 rfl)
  · exact JQ.sub (sub_same' ht) (h1 rfl)
theorem set_lt {k : Nat} {late : Bool} (hl : listed.getD z true = late) (hz : late = true ∨ k ≠ z) : (listed.setIfInBounds k true).getD z true = late := by
  rcases hz with rfl | hz
  · rcases Decidable.em (k = z) with rfl | hne
    · rcases Nat.lt_or_ge k listed.size with h' | h'
      · simp [h']
      · simp [h']
    · rw [getD_set_ne true hne]; exact hl
  · rw [getD_set_ne true hz]; exact hl
/-- a value, ahead of the first store -/
theorem JQ.v {op : Op} {v : Value} (h : ∀ hs', F ⊆ hs' → Val P n w0 own e hs' op v) (kk : JQ P n w0 own ops F z false rest ((d, v) :: e) hs K) (hdn : Nat.blt d n = true := by rfl) (hg : wantB ops e g = some true := by rfl)
    (hzo : ((ops[z]?).map (·.dst.isNone)) = some true := by rfl) :
    JQ P n w0 own ops F z false (⟨some d, op, ty, pos, aft, g⟩ :: rest) e hs K := by
  intro m is listed Z h1 h2 h3 h4 h5 hz
  cases is with
  | nil => exact h1.elim
  | cons k is =>
  obtain ⟨h0, h1⟩ := h1
  unfold ordZ at h2
  rw [Bool.and_eq_true, Bool.and_eq_true] at h2
  obtain ⟨⟨h2a, _⟩, h2b⟩ := h2
  rw [Bool.or_eq_true, Bool.and_eq_true] at h2a
  have h2 := And.intro h2a h2b
  have hkz : k ≠ z := by rintro rfl; rw [h0] at hzo; simp at hzo
  have tail : JZ P n w0 own ops F z (rest.length + m) (listed.setIfInBounds k true) ((d, v) :: e) hs Z := kk m is _ Z h1 h2.2 (by simpa using h3) (set_lt h4 (.inr hkz)) h5 hz
  rw [show (⟨some d, op, ty, pos, aft, g⟩ :: rest : List Oper).length + m = (rest.length + m) + 1 from by simp; omega]
  rcases h2.1 with ho | ⟨_, hf⟩
  · exact JZ.v1 k h0 ho (h hs (h5 rfl)) tail rfl hdn hg
  · exact JZ.v k h0 hf h tail hdn hg
/-- a value behind it -/
theorem JQ.w {op : Op} {v : Value} (h : Val P n w0 own e hs op v) (kk : JQ P n w0 own ops F z true rest ((d, v) :: e) hs K) (hdn : Nat.blt d n = true := by rfl) (hg : wantB ops e g = some true := by rfl) :
    JQ P n w0 own ops F z true (⟨some d, op, ty, pos, aft, g⟩ :: rest) e hs K := by
  intro m is listed Z h1 h2 h3 h4 h5 hz
  cases is with
  | nil => exact h1.elim
  | cons k is =>
  obtain ⟨h0, h1⟩ := h1
  unfold ordZ at h2
  rw [Bool.and_eq_true, Bool.and_eq_true] at h2
  obtain ⟨⟨h2a, _⟩, h2b⟩ := h2
  rw [Bool.or_eq_true, Bool.and_eq_true] at h2a
  have h2 := And.intro h2a h2b
  have tail : JZ P n w0 own ops F z (rest.length + m) (listed.setIfInBounds k true) ((d, v) :: e) hs Z := kk m is _ Z h1 h2.2 (by simpa using h3) (set_lt h4 (.inl rfl)) (fun h => by cases h) hz
  rw [show (⟨some d, op, ty, pos, aft, g⟩ :: rest : List Oper).length + m = (rest.length + m) + 1 from by simp; omega]
  rcases h2.1 with ho | ⟨_, hf⟩
  · exact JZ.v1 k h0 ho h tail rfl hdn hg
  · unfold firstZ at hf
    rw [h4] at hf
    simp at hf
/-- what works on memory, and leaves a value -/
theorem JQ.ef {op : Op} {R : Value → Hp → Prop} (h : Eff P n w0 own e hs op R) (hF : ∀ v hs', R v hs' → F ⊆ hs → F ⊆ hs') (kk : ∀ v hs', R v hs' → JQ P n w0 own ops F z late rest ((d, v) :: e) hs' K)
    (hE : isEff ⟨some d, op, ty, pos, aft, g⟩ = true := by rfl) (hdn : Nat.blt d n = true := by rfl) (hg : wantB ops e g = some true := by rfl) (hzo : ((ops[z]?).map (·.dst.isNone)) = some true := by rfl) : JQ P n w0 own ops F z late (⟨some d, op, ty, pos, aft, g⟩ :: rest) e hs K := by
  intro m is listed Z h1 h2 h3 h4 h5 hz
  cases is with
  | nil => exact h1.elim
  | cons k is =>
  obtain ⟨h0, h1⟩ := h1
  unfold ordZ at h2
  rw [Bool.and_eq_true, Bool.and_eq_true] at h2
  obtain ⟨⟨h2a, _⟩, h2b⟩ := h2
  rw [Bool.or_eq_true, hE] at h2a
  have h2 := And.intro h2a h2b
  have hkz : k ≠ z := by rintro rfl; rw [h0] at hzo; simp at hzo
  have ho : onlyB ops listed k = true := by
    rcases h2.1 with h | h
    · exact h
    · simp at h
  rw [show (⟨some d, op, ty, pos, aft, g⟩ :: rest : List Oper).length + m = (rest.length + m) + 1 from by simp; omega]
  exact JZ.ef k h0 ho h (fun v hs' r => kk v hs' r m is _ Z h1 h2.2 (by simpa using h3) (set_lt h4 (.inr hkz)) (fun e => hF v hs' r (h5 e)) hz) hF rfl hdn hg
/-- the first store -/
theorem JQ.st {op : Op} {hs' : Hp} (h : Eff P n w0 own e hs op (fun v h => v = undef ∧ h = hs')) (kk : JQ P n w0 own ops F z true rest e hs' K)
    (hE : isEff ⟨none, op, ty, pos, aft, g⟩ = true := by rfl) (hg : wantB ops e g = some true := by rfl) : JQ P n w0 own ops F z false (⟨none, op, ty, pos, aft, g⟩ :: rest) e hs K := by
  intro m is listed Z h1 h2 h3 h4 h5 hz
  cases is with
  | nil => exact h1.elim
  | cons k is =>
  obtain ⟨h0, h1⟩ := h1
  unfold ordZ at h2
  rw [Bool.and_eq_true, Bool.and_eq_true] at h2
  obtain ⟨⟨h2a, h2c⟩, h2b⟩ := h2
  rw [Bool.or_eq_true, hE] at h2a
  have h2 := And.intro h2a h2b
  obtain rfl : k = z := by
    rw [h4] at h2c
    exact Nat.eq_of_beq_eq_true (by simpa using h2c)
  have ho : onlyB ops listed k = true := by
    rcases h2.1 with h | h
    · exact h
    · simp at h
  have hk : k < listed.size := by rw [h3]; exact (Array.getElem?_eq_some_iff.1 h0).1
  rw [show (⟨none, op, ty, pos, aft, g⟩ :: rest : List Oper).length + m = (rest.length + m) + 1 from by simp; omega]
  refine JZ.st h0 ho (Nat.ble_eq_true_of_le hk) h (kk m is _ Z h1 h2.2 (by simpa using h3) (by simp [hk]) (fun h => by cases h) hz) hg
/-- a store behind it -/
theorem JQ.st2 {op : Op} {hs' : Hp} (h : Eff P n w0 own e hs op (fun v h => v = undef ∧ h = hs')) (kk : JQ P n w0 own ops F z true rest e hs' K)
    (hE : isEff ⟨none, op, ty, pos, aft, g⟩ = true := by rfl) (hg : wantB ops e g = some true := by rfl) : JQ P n w0 own ops F z true (⟨none, op, ty, pos, aft, g⟩ :: rest) e hs K := by
  intro m is listed Z h1 h2 h3 h4 h5 hz
  cases is with
  | nil => exact h1.elim
  | cons k is =>
  obtain ⟨h0, h1⟩ := h1
  unfold ordZ at h2
  rw [Bool.and_eq_true, Bool.and_eq_true] at h2
  obtain ⟨⟨h2a, h2c⟩, h2b⟩ := h2
  rw [Bool.or_eq_true, hE] at h2a
  have h2 := And.intro h2a h2b
  have ho : onlyB ops listed k = true := by
    rcases h2.1 with h | h
    · exact h
    · simp at h
  rw [show (⟨none, op, ty, pos, aft, g⟩ :: rest : List Oper).length + m = (rest.length + m) + 1 from by simp; omega]
  have hl := set_lt (k := k) (listed := listed) (z := z) h4 (.inl rfl)
  rcases Decidable.em (z = k) with rfl | hne
  · -- z has been: it cannot come up again
    have hr : Region.ready .any ops listed = [z] := by simpa [onlyB] using ho
    have hm : z ∈ Region.ready .any ops listed := by rw [hr]; simp
    obtain ⟨hu, _⟩ := mem_ready.1 hm
    have hk : z < listed.size := by rw [h3]; exact (Array.getElem?_eq_some_iff.1 h0).1
    simp [hk] at hu h4
    rw [hu] at h4; cases h4
  · exact JZ.st2 k h0 ho h4 (by cases h : Nat.beq z k; rfl; exact absurd (Nat.eq_of_beq_eq_true h) hne) h (kk m is _ Z h1 h2.2 (by simpa using h3) hl (fun h => by cases h) hz) hg
end
/-- what an own slice holds, loaded -/
theorem OwnS.atN {w0 : World} {own : List Nat} {E m n n' c b o i : Nat} {vs us : List Value} {h hs : Hp} (k : OwnS E m (.slice (some ⟨b, o, none⟩) n' c) n vs h) (hh : h ⊆ hs) (hu : ∀ (j : Nat) (v : Value), us[j]? = some v → vs[i + j]? = some v) : At w0 own hs ⟨b, o + i, none⟩ us := by
  obtain rfl := k.one
  intro w s j v hv
  obtain ⟨b', o', h1, _, h3⟩ := OwnS.rd k s hh (no := []) (by simp) _ v (hu j v hv)
  cases h1
  rw [add_none, Nat.add_assoc]
  exact h3
theorem OwnS.at1 {w0 : World} {own : List Nat} {E m n n' c b o i : Nat} {vs : List Value} {v : Value} {h hs : Hp} (k : OwnS E m (.slice (some ⟨b, o, none⟩) n' c) n vs h) (hh : h ⊆ hs) (hv : vs[i]? = some v) : At w0 own hs ⟨b, o + i, none⟩ [v] :=
  k.atN hh fun j u hu => by
    match j, hu with
    | 0, hu => simp at hu; subst hu; simpa using hv
section
variable {P : Program} {n : Nat} {w0 : World} {own : List Nat} {e : Env} {hs : Hp}
/-- sums and differences of numbers that are told in another way -/
theorem Val.addE {T U : Nat} {x y : Operand} {i j : Int} (r : Int) (hx : ev e x = some (.int .i64 i)) (hy : ev e y = some (.int .i64 j)) (hr : i + j = r) (hb : -9223372036854775808 ≤ r ∧ r ≤ 9223372036854775807) :
    Val P n w0 own e hs (.binOp .add T x y U) (.int .i64 r) := by
  subst hr; exact Val.addi hx hy hb
theorem Val.subE {T U : Nat} {x y : Operand} {i j : Int} (r : Int) (hx : ev e x = some (.int .i64 i)) (hy : ev e y = some (.int .i64 j)) (hr : i - j = r) (hb : -9223372036854775808 ≤ r ∧ r ≤ 9223372036854775807) :
    Val P n w0 own e hs (.binOp .sub T x y U) (.int .i64 r) := by
  subst hr; exact Val.subi hx hy hb
theorem wrap_u64_in {x : Int} (h : 0 ≤ x ∧ x ≤ 18446744073709551615) : IntKind.u64.wrap x = x := by
  simp [IntKind.wrap, IntKind.bits, IntKind.signed]; omega
theorem Val.addU {T U : Nat} {x y : Operand} {i j : Int} (r : Int) (hx : ev e x = some (.int .u64 i)) (hy : ev e y = some (.int .u64 j)) (hr : i + j = r) (hb : 0 ≤ r ∧ r ≤ 18446744073709551615) :
    Val P n w0 own e hs (.binOp .add T x y U) (.int .u64 r) := by
  subst hr
  have h := Val.add (P := P) (n := n) (w0 := w0) (own := own) (hs := hs) (T := T) (U := U) hx hy
  rw [wrap_u64_in hb] at h; exact h
theorem Val.subU {T U : Nat} {x y : Operand} {i j : Int} (r : Int) (hx : ev e x = some (.int .u64 i)) (hy : ev e y = some (.int .u64 j)) (hr : i - j = r) (hb : 0 ≤ r ∧ r ≤ 18446744073709551615) :
    Val P n w0 own e hs (.binOp .sub T x y U) (.int .u64 r) := by
  subst hr
  have h := Val.sub_ (P := P) (n := n) (w0 := w0) (own := own) (hs := hs) (T := T) (U := U) hx hy
  rw [wrap_u64_in hb] at h; exact h
end
end V
end Go

/- VX: blocks that are lent, found by instances. -/
namespace Go
namespace V
open Go.RowKit
set_option linter.unusedVariables false
set_option linter.unusedSimpArgs false

/-- one block is taken out -/
class Rem (p : Nat × Ch) (hs : Hp) (hs1 : outParam Hp) : Prop where
  out : hs.Perm (p :: hs1)
instance (priority := high) Rem.head {p : Nat × Ch} {hs : Hp} : Rem p (p :: hs) hs := ⟨.refl _⟩
instance Rem.tail {p q : Nat × Ch} {hs hs1 : Hp} [h : Rem p hs hs1] : Rem p (q :: hs) (q :: hs1) := ⟨(List.Perm.cons q h.out).trans (List.Perm.swap _ _ _)⟩
instance Rem.cons_app {p q : Nat × Ch} {k hs r : Hp} [h : Rem p (q :: (k ++ hs)) r] : Rem p ((q :: k) ++ hs) r := ⟨h.out⟩
instance Rem.nil_app {p : Nat × Ch} {hs r : Hp} [h : Rem p hs r] : Rem p ([] ++ hs) r := ⟨h.out⟩
instance (priority := low) Rem.assoc {p : Nat × Ch} {a b c r : Hp} [h : Rem p (a ++ (b ++ c)) r] : Rem p ((a ++ b) ++ c) r := ⟨by rw [List.append_assoc]; exact h.out⟩
instance (priority := low - 10) Rem.app {p : Nat × Ch} {k hs hs1 : Hp} [h : Rem p hs hs1] : Rem p (k ++ hs) (k ++ hs1) := ⟨(List.Perm.append_left k h.out).trans List.perm_middle⟩
/-- a bunch is taken out -/
class RemC (k : Hp) (hs : Hp) (hs1 : outParam Hp) : Prop where
  out : hs.Perm (k ++ hs1)
instance (priority := high) RemC.head {k hs : Hp} : RemC k (k ++ hs) hs := ⟨.refl _⟩
instance (priority := high) RemC.last {k : Hp} : RemC k k [] := ⟨by rw [List.append_nil]⟩
instance RemC.cons_app {q : Nat × Ch} {k k' hs r : Hp} [h : RemC k (q :: (k' ++ hs)) r] : RemC k ((q :: k') ++ hs) r := ⟨h.out⟩
instance RemC.nil_app {k hs r : Hp} [h : RemC k hs r] : RemC k ([] ++ hs) r := ⟨h.out⟩
instance RemC.tail {k : Hp} {q : Nat × Ch} {hs hs1 : Hp} [h : RemC k hs hs1] : RemC k (q :: hs) (q :: hs1) := ⟨(List.Perm.cons q h.out).trans List.perm_middle.symm⟩
instance (priority := low) RemC.assoc {k a b c r : Hp} [h : RemC k (a ++ (b ++ c)) r] : RemC k ((a ++ b) ++ c) r := ⟨by rw [List.append_assoc]; exact h.out⟩
instance (priority := low - 10) RemC.app {k k' hs hs1 : Hp} [h : RemC k hs hs1] : RemC k (k' ++ hs) (k' ++ hs1) := ⟨(List.Perm.append_left k' h.out).trans (by rw [← List.append_assoc, ← List.append_assoc]; exact List.Perm.append_right _ List.perm_append_comm)⟩
/-- all of these are taken out -/
class TakeI (pre hs : Hp) (fr : outParam Hp) : Prop where
  out : hs.Perm (pre ++ fr)
instance (priority := high) TakeI.nil {hs : Hp} : TakeI [] hs hs := ⟨.refl _⟩
instance TakeI.cons {p : Nat × Ch} {pre hs hs1 fr : Hp} [h : Rem p hs hs1] [t : TakeI pre hs1 fr] : TakeI (p :: pre) hs fr := ⟨h.out.trans (.cons p t.out)⟩
instance TakeI.cons_app {p : Nat × Ch} {k pre hs fr : Hp} [t : TakeI (p :: (k ++ pre)) hs fr] : TakeI ((p :: k) ++ pre) hs fr := ⟨t.out⟩
instance TakeI.nil_app {pre hs fr : Hp} [t : TakeI pre hs fr] : TakeI ([] ++ pre) hs fr := ⟨t.out⟩
instance (priority := low) TakeI.assoc {a b c hs fr : Hp} [t : TakeI (a ++ (b ++ c)) hs fr] : TakeI ((a ++ b) ++ c) hs fr := ⟨by rw [List.append_assoc a b c]; exact t.out⟩
instance (priority := low - 10) TakeI.app {k pre hs hs1 fr : Hp} [h : RemC k hs hs1] [t : TakeI pre hs1 fr] : TakeI (k ++ pre) hs fr := ⟨by rw [List.append_assoc]; exact h.out.trans (List.Perm.append_left k t.out)⟩
instance (priority := low - 20) TakeI.last {k hs fr : Hp} [h : RemC k hs fr] : TakeI k hs fr := ⟨h.out⟩

theorem Sat.take {w0 w : World} {own : List Nat} {hs pre fr : Hp} (s : Sat w0 own hs w) [h : TakeI pre hs fr] : Sat w0 own pre w := (s.perm h.out).sub (List.sublist_append_left _ _)
section
variable {P : Program} {n : Nat} {w0 : World} {own : List Nat} {e : Env} {hs : Hp}
theorem JC.keep {c : Code} {Q : Post} (pre : Hp) {fr : Hp} [h : TakeI pre hs fr] (k : JC P n w0 own c e pre Q) : JC P n w0 own c e hs Q := JC.heap (fun _ s => s.take) k
/-- a call that is lent blocks -/
theorem Eff.callT {g : Nat} {f : Operand} {args : List Operand} {at_ : Array TypeId} {cap vals : List Value} {R : Value → Hp → Prop} (pre : Hp) {fr : Hp} (hf : ev e f = some (.func (.func g) #[] ⟨cap⟩)) (ha : evs e args = some vals) [hg : FnT P g] [tk : TakeI pre hs fr]
    (hc : ∀ w, Sat w0 own hs w → Does P g (vals ++ cap) pre w R) :
    Eff P n w0 own e hs (.call { callee := .value f, args := ⟨args⟩, argTypes := at_ }) (fun v hs' => ∃ h, R v h ∧ hs' = h ++ fr) := Eff.call hf ha tk.out hc
end
/-- two roads that join: what holds where they do -/
theorem JC.mid {P : Program} {n : Nat} {w0 : World} {own : List Nat} {e : Env} {hs : Hp} {Q : Post} {x y : Code} {X : Type} (env : X → Env) (heap : X → Hp) (I : X → Prop)
    (h1 : JC P n w0 own x e hs (thenQ (fun e' hs' => ∃ z, I z ∧ Sub (env z) e' ∧ ∀ w, Sat w0 own hs' w → Sat w0 own (heap z) w) Q)) (h2 : ∀ z, I z → JC P n w0 own y (env z) (heap z) Q) : JC P n w0 own (.seq x y) e hs Q := by
  refine .seq (h1.mono fun ex e' hs' h => ?_)
  cases ex with
  | normal => obtain ⟨z, hz, hs1, hh⟩ := h; exact JC.sub hs1 (JC.heap hh (h2 z hz))
  | _ => exact h
/-- a contract, where more is lent -/
theorem Does.lendT {P : Program} {g : Nat} {vals : List Value} {w : World} {R : Value → Hp → Prop} (pre : Hp) {big fr : Hp} [tk : TakeI pre big fr] (h : Does P g vals pre w R) : Does P g vals big w (fun v hs => ∃ h, R v h ∧ hs = h ++ fr) := by
  intro hp hd
  have s := (Sat.begin hp hd).perm tk.out
  have nd := s.nd
  simp only [bl, List.map_append, List.nodup_append] at nd
  refine (h (fun b c hb => s.has b c (List.mem_append.2 (.inl hb))) nd.1).mono ?_
  rintro x w' ⟨v, hs', rfl, h1, h2⟩
  exact ⟨v, hs' ++ fr, rfl, ⟨hs', h1, rfl⟩, s.call h2⟩
/-- .. and what is left is told in another order, less of it -/
theorem Does.keepT {P : Program} {g : Nat} {vals : List Value} {w : World} {R R' : Value → Hp → Prop} {pre : Hp} (h : Does P g vals pre w R) (k : ∀ v hs, R v hs → ∃ hs' fr, hs.Perm (hs' ++ fr) ∧ R' v hs') : Does P g vals pre w R' :=
  Does.less (h.mono fun v hs r => by
    obtain ⟨hs', fr, h1, h2⟩ := k v hs r
    exact ⟨hs', fun _ s => (s.perm h1).sub (List.sublist_append_left _ _), h2⟩)
end V
end Go

/- VY: as VW; and what touches no memory may come up at any time. -/
namespace Go
namespace V
open Go.RowKit
set_option linter.unusedVariables false
set_option linter.unusedSimpArgs false

section
variable {P : Program} {ops : Array Oper} {Q : Exit → Act → World → Prop} {S : World → Prop} {z : Nat}
/-- number i may be taken first, if its value hangs on no world -/
theorem Upto.firstX {i : Nat} {oi : Oper} {v : Value} (hi : ops[i]? = some oi) (hsel : ∀ (j : Nat) (o : Oper) cs b, ops[j]? = some o → o.op ≠ .select cs b)
    (hQ : ∀ c a w, Q (.panic c) (a.put oi.dst v) w → Q (.panic c) a w) (hzi : z ≠ i) :
    ∀ (k : Nat) (l : Array Bool) (a : Act) (w : World),
      (∀ j oj, ops[j]? = some oj → j ≠ i → l.getD j true = false → (∀ e ∈ oj.after, Region.binds .any e = true → e.on ≠ i) → oi.apart ops oj = true) →
      i ∈ Region.ready .any ops l → YieldsIf P ops (fun _ => True) oi v a → (l.getD z true = false → S w) →
      Upto P ops Q S z k (l.setIfInBounds i true) (a.put oi.dst v) w → Upto P ops Q S z (k + 1) l a w := by
  intro k
  induction k with
  | zero =>
    intro l a w _ hr hy hS H
    refine ⟨fun h => absurd (h ▸ hr) List.not_mem_nil, fun j hj => ?_⟩
    rcases Decidable.em (j = i) with rfl | hji
    · exact hy.wpOp hi trivial ⟨fun hz => hS (by rw [getD_set_ne true (Ne.symm hzi)] at hz; exact hz), H⟩
    · exact absurd (H.1 ▸ ready_mono hj hji) List.not_mem_nil
  | succ k ih =>
    intro l a w hfree hr hy hS H
    refine ⟨fun h => absurd (h ▸ hr) List.not_mem_nil, fun j hj => ?_⟩
    rcases Decidable.em (j = i) with rfl | hji
    · exact hy.wpOp hi trivial ⟨fun hz => hS (by rw [getD_set_ne true (Ne.symm hzi)] at hz; exact hz), H⟩
    obtain ⟨hun, oj, hoj, hall⟩ := mem_ready.1 hj
    have hno : ∀ e ∈ oj.after, Region.binds .any e = true → e.on ≠ i := by
      intro e he hb hon
      exact not_both (z := j) hoj ⟨e, he, hb, hon⟩ hr hj
    have step := wpOp_putIf hoj (hfree j oj hoj hji hun hno) (fun cs b => hsel i oi cs b hi) (fun cs b => hsel j oj cs b hoj) hQ hy (H.2 j (ready_mono hj hji))
    refine wpOp_mono (fun a' w' ⟨hy', hS', hrest⟩ => ?_) step
    have e1 : ((l.setIfInBounds i true).setIfInBounds j true).getD z true = (l.setIfInBounds j true).getD z true := by
      rw [Array.setIfInBounds_comm _ _ (Ne.symm hji), getD_set_ne true (Ne.symm hzi)]
    have hS2 : (l.setIfInBounds j true).getD z true = false → S w' := fun hz => hS' (by rw [e1]; exact hz)
    refine ⟨hS2, ih (l.setIfInBounds j true) a' w' (fun m om hm hmi hun' hno' => ?_) (ready_mono hr (Ne.symm hji)) hy' hS2 ?_⟩
    · refine hfree m om hm hmi ?_ hno'
      rcases Decidable.em (j = m) with rfl | hjm
      · exact hun
      · rw [getD_set_ne true hjm] at hun'; exact hun'
    · rw [Array.setIfInBounds_comm _ _ hji]; exact hrest
end
/-- does the operation touch no memory? -/
def noMem (o : Oper) : Bool := match o.op with
  | .move _ => true
  | .indexAddr .. => true
  | .fieldAddr .. => true
  | .binOp .. => true
  | .extract .. => true
  | _ => false
section
variable {P : Program} {n : Nat} {w0 : World} {own : List Nat} {e : Env} {hs F : Hp} {ops : Array Oper} {K : Env → Hp → Prop} {z m : Nat} {listed : Array Bool}
variable {d : Nat} {ty : TypeId} {pos : String} {aft : Array Edge} {g : Option (Nat × Bool)}
theorem JZ.x {op : Op} {v : Value} (i : Nat) (hi : ops[i]? = some ⟨some d, op, ty, pos, aft, g⟩) (hf : firstB ops listed i = true) (hzi : z ≠ i)
    (h : ∀ w, Val P n w [] e [] op v) (k : JZ P n w0 own ops F z m (listed.setIfInBounds i true) ((d, v) :: e) hs K)
    (hdn : Nat.blt d n = true := by rfl) (hg : wantB ops e g = some true := by rfl) : JZ P n w0 own ops F z (m + 1) listed e hs K := by
  intro a w hr s hF
  unfold firstB at hf
  rw [Bool.and_eq_true, Bool.and_eq_true] at hf
  obtain ⟨⟨f1, f2⟩, f3⟩ := hf
  exact Upto.firstX hi (Region.noSelect_spec f1) (fun _ _ _ h => h) hzi m listed a w (Region.free_spec hi f2) (by simpa using f3)
    (.inl ⟨wanted_of hr hg, fun w' _ => h w' a w' _ _ _ _ _ hr (Sat.begin0 w')⟩) (fun hz => ⟨hs, s, hF hz⟩)
    (k _ _ (hr.put (Nat.le_of_ble_eq_true hdn) v) s fun hz => hF (by rw [getD_set_ne true (Ne.symm hzi)] at hz; exact hz))
end

def ordY (ops : Array Oper) (z : Nat) : List Oper → List Nat → Array Bool → Bool
  | [], [], _ => true
  | o :: l, i :: is, listed => (onlyB ops listed i || (!isEff o && firstZ ops z listed i) || (noMem o && firstB ops listed i && !Nat.beq z i)) && (o.dst.isSome || Nat.beq i z || listed.getD z true) && ordY ops z l is (listed.setIfInBounds i true)
  | _, _, _ => false
/-- the operations in their order; 'late': the first store has been -/
def JY (P : Program) (n : Nat) (w0 : World) (own : List Nat) (ops : Array Oper) (F : Hp) (z : Nat) (late : Bool) (l : List Oper) (e : Env) (hs : Hp) (K : Bool → Env → Hp → Prop) : Prop :=
  ∀ (m : Nat) (is : List Nat) (listed : Array Bool) (Z : Env → Hp → Prop), Nums ops l is → ordY ops z l is listed = true → listed.size = ops.size → listed.getD z true = late → (late = false → F ⊆ hs) →
    (∀ late' e' hs', (marks_ is listed).getD z true = late' → (late' = false → F ⊆ hs') → K late' e' hs' → JZ P n w0 own ops F z m (marks_ is listed) e' hs' Z) → JZ P n w0 own ops F z (l.length + m) listed e hs Z

theorem eff_mem {o : Oper} (h : isEff o = true) : noMem o = false := by
  unfold isEff at h; unfold noMem
  split <;> simp_all
section
variable {P : Program} {n : Nat} {w0 : World} {own : List Nat} {e : Env} {hs F : Hp} {ops : Array Oper} {rest l : List Oper} {K : Bool → Env → Hp → Prop} {z : Nat} {late : Bool} {m : Nat} {listed : Array Bool} {Z : Env → Hp → Prop}
variable {d : Nat} {ty : TypeId} {pos : String} {aft : Array Edge} {g : Option (Nat × Bool)}

theorem JC.drawY {id : Nat} {Q : Post} {l : List Oper} (z : Nat) (is : List Nat) (F : Hp) (hF : F ⊆ hs) (hm : P.follows .mixedOrders = true)
    (hB : (ordY l.toArray z (pickL l is) is (Array.replicate l.length false) && doneB l.toArray (marks_ is (Array.replicate l.length false)) && Nat.beq (pickL l is).length l.length && Nat.beq is.length l.length && Nat.blt z l.length) = true)
    (h : JY P n w0 own l.toArray F z false (pickL l is) e hs (fun _ e' hs' => Q .normal e' hs')) : JC P n w0 own (.region id l.toArray true) e hs Q := by
  rw [Bool.and_eq_true, Bool.and_eq_true, Bool.and_eq_true, Bool.and_eq_true] at hB
  obtain ⟨⟨⟨⟨h1, h2⟩, h3⟩, h4⟩, h5⟩ := hB
  have h3 := Nat.eq_of_beq_eq_true h3
  have h4 := Nat.eq_of_beq_eq_true h4
  have h5 : z < l.length := Nat.le_of_ble_eq_true h5
  have key : ∀ (is : List Nat), (pickL l is).length = is.length → Nums l.toArray (pickL l is) is := by
    intro is
    induction is with
    | nil => intro _; trivial
    | cons i is ih =>
      intro hl
      unfold pickL at hl ⊢
      cases ho : l[i]? with
      | none => rw [ho] at hl; simp at hl
      | some o =>
        rw [ho] at hl
        simp only at hl ⊢
        exact ⟨by simpa using ho, ih (by simpa using hl)⟩
  refine JC.drawZ z F hF hm ?_
  have := h 0 is (Array.replicate l.length false) (fun e hs => Q .normal e hs) (key _ (by omega)) h1 (by simp) (by simp [h5]) (fun _ => hF) (fun _ e' hs' _ _ ke => JZ.done h2 ke)
  rw [h3] at this
  simpa using this
theorem JY.nil (h : K late e hs) : JY P n w0 own ops F z late [] e hs K := fun m is listed Z hn _ hsz hl hF hz => by
  cases is with
  | nil => rw [List.length_nil, Nat.zero_add]; exact hz late e hs hl hF h
  | cons i is => exact hn.elim
theorem JY.mono {K' : Bool → Env → Hp → Prop} (h : JY P n w0 own ops F z late l e hs K) (kk : ∀ b e hs, K b e hs → K' b e hs) : JY P n w0 own ops F z late l e hs K' :=
  fun m k listed Z h1 h2 h3 h4 h5 hz => h m k listed Z h1 h2 h3 h4 h5 fun b e' hs' f1 f ke => hz b e' hs' f1 f (kk b e' hs' ke)
theorem JY.sub {e2 : Env} (hs' : Sub e2 e) (h : JY P n w0 own ops F z late l e2 hs K) : JY P n w0 own ops F z late l e hs K :=
  fun m k listed Z h1 h2 h3 h4 h5 hz a w hr s hF => h m k listed Z h1 h2 h3 h4 h5 hz a w (hr.sub hs') s hF
theorem JY.splitB {t : Nat} {b : Bool} (ht : get e t = some (.bool b)) (h1 : b = true → JY P n w0 own ops F z late l ((t, .bool true) :: e) hs K)
    (h0 : b = false → JY P n w0 own ops F z late l ((t, .bool false) :: e) hs K) : JY P n w0 own ops F z late l e hs K := by
  cases b
  · exact JY.sub (sub_same' ht) (h0 rfl)
  · exact JY.sub (sub_same' ht) (h1 rfl)
/-- a value, ahead of the first store -/
theorem JY.v {op : Op} {v : Value} (h : ∀ hs', F ⊆ hs' → Val P n w0 own e hs' op v) (kk : JY P n w0 own ops F z false rest ((d, v) :: e) hs K) (hdn : Nat.blt d n = true := by rfl) (hg : wantB ops e g = some true := by rfl)
    (hzo : ((ops[z]?).map (·.dst.isNone)) = some true := by rfl) (hx : noMem ⟨some d, op, ty, pos, aft, g⟩ = false := by rfl) :
    JY P n w0 own ops F z false (⟨some d, op, ty, pos, aft, g⟩ :: rest) e hs K := by
  intro m is listed Z h1 h2 h3 h4 h5 hz
  cases is with
  | nil => exact h1.elim
  | cons k is =>
  obtain ⟨h0, h1⟩ := h1
  unfold ordY at h2
  rw [Bool.and_eq_true, Bool.and_eq_true] at h2
  obtain ⟨⟨h2a, _⟩, h2b⟩ := h2
  rw [hx, Bool.false_and, Bool.false_and, Bool.or_false, Bool.or_eq_true, Bool.and_eq_true] at h2a
  have h2 := And.intro h2a h2b
  have hkz : k ≠ z := by rintro rfl; rw [h0] at hzo; simp at hzo
  have tail : JZ P n w0 own ops F z (rest.length + m) (listed.setIfInBounds k true) ((d, v) :: e) hs Z := kk m is _ Z h1 h2.2 (by simpa using h3) (set_lt h4 (.inr hkz)) h5 hz
  rw [show (⟨some d, op, ty, pos, aft, g⟩ :: rest : List Oper).length + m = (rest.length + m) + 1 from by simp; omega]
  rcases h2.1 with ho | ⟨_, hf⟩
  · exact JZ.v1 k h0 ho (h hs (h5 rfl)) tail rfl hdn hg
  · exact JZ.v k h0 hf h tail hdn hg
/-- a value behind it -/
theorem JY.w {op : Op} {v : Value} (h : Val P n w0 own e hs op v) (kk : JY P n w0 own ops F z true rest ((d, v) :: e) hs K) (hdn : Nat.blt d n = true := by rfl) (hg : wantB ops e g = some true := by rfl) (hx : noMem ⟨some d, op, ty, pos, aft, g⟩ = false := by rfl) :
    JY P n w0 own ops F z true (⟨some d, op, ty, pos, aft, g⟩ :: rest) e hs K := by
  intro m is listed Z h1 h2 h3 h4 h5 hz
  cases is with
  | nil => exact h1.elim
  | cons k is =>
  obtain ⟨h0, h1⟩ := h1
  unfold ordY at h2
  rw [Bool.and_eq_true, Bool.and_eq_true] at h2
  obtain ⟨⟨h2a, _⟩, h2b⟩ := h2
  rw [hx, Bool.false_and, Bool.false_and, Bool.or_false, Bool.or_eq_true, Bool.and_eq_true] at h2a
  have h2 := And.intro h2a h2b
  have tail : JZ P n w0 own ops F z (rest.length + m) (listed.setIfInBounds k true) ((d, v) :: e) hs Z := kk m is _ Z h1 h2.2 (by simpa using h3) (set_lt h4 (.inl rfl)) (fun h => by cases h) hz
  rw [show (⟨some d, op, ty, pos, aft, g⟩ :: rest : List Oper).length + m = (rest.length + m) + 1 from by simp; omega]
  rcases h2.1 with ho | ⟨_, hf⟩
  · exact JZ.v1 k h0 ho h tail rfl hdn hg
  · unfold firstZ at hf
    rw [h4] at hf
    simp at hf
/-- what touches no memory, at any time -/
theorem JY.x {op : Op} {v : Value} (h : ∀ w0 own hs, Val P n w0 own e hs op v) (kk : JY P n w0 own ops F z late rest ((d, v) :: e) hs K) (hdn : Nat.blt d n = true := by rfl) (hg : wantB ops e g = some true := by rfl)
    (hzo : ((ops[z]?).map (·.dst.isNone)) = some true := by rfl) :
    JY P n w0 own ops F z late (⟨some d, op, ty, pos, aft, g⟩ :: rest) e hs K := by
  intro m is listed Z h1 h2 h3 h4 h5 hz
  cases is with
  | nil => exact h1.elim
  | cons k is =>
  obtain ⟨h0, h1⟩ := h1
  unfold ordY at h2
  rw [Bool.and_eq_true, Bool.and_eq_true] at h2
  obtain ⟨⟨h2a, _⟩, h2b⟩ := h2
  rw [Bool.or_eq_true, Bool.or_eq_true, Bool.and_eq_true, Bool.and_eq_true, Bool.and_eq_true] at h2a
  have hkz : k ≠ z := by rintro rfl; rw [h0] at hzo; simp at hzo
  have tail : JZ P n w0 own ops F z (rest.length + m) (listed.setIfInBounds k true) ((d, v) :: e) hs Z := kk m is _ Z h1 h2b (by simpa using h3) (set_lt h4 (.inr hkz)) h5 hz
  rw [show (⟨some d, op, ty, pos, aft, g⟩ :: rest : List Oper).length + m = (rest.length + m) + 1 from by simp; omega]
  rcases h2a with (ho | ⟨_, hf⟩) | ⟨⟨_, hf⟩, _⟩
  · exact JZ.v1 k h0 ho (h _ _ _) tail rfl hdn hg
  · exact JZ.v k h0 hf (fun hs' _ => h _ _ _) tail hdn hg
  · exact JZ.x k h0 hf (Ne.symm hkz) (fun w => h _ _ _) tail hdn hg
/-- what works on memory, and leaves a value -/
theorem JY.ef {op : Op} {R : Value → Hp → Prop} (h : Eff P n w0 own e hs op R) (hF : ∀ v hs', R v hs' → F ⊆ hs → F ⊆ hs') (kk : ∀ v hs', R v hs' → JY P n w0 own ops F z late rest ((d, v) :: e) hs' K)
    (hE : isEff ⟨some d, op, ty, pos, aft, g⟩ = true := by rfl) (hdn : Nat.blt d n = true := by rfl) (hg : wantB ops e g = some true := by rfl) (hzo : ((ops[z]?).map (·.dst.isNone)) = some true := by rfl) : JY P n w0 own ops F z late (⟨some d, op, ty, pos, aft, g⟩ :: rest) e hs K := by
  intro m is listed Z h1 h2 h3 h4 h5 hz
  cases is with
  | nil => exact h1.elim
  | cons k is =>
  obtain ⟨h0, h1⟩ := h1
  unfold ordY at h2
  rw [Bool.and_eq_true, Bool.and_eq_true] at h2
  obtain ⟨⟨h2a, _⟩, h2b⟩ := h2
  rw [Bool.or_eq_true, Bool.or_eq_true, hE, eff_mem hE] at h2a
  have h2 := And.intro h2a h2b
  have hkz : k ≠ z := by rintro rfl; rw [h0] at hzo; simp at hzo
  have ho : onlyB ops listed k = true := by
    rcases h2.1 with (h | h) | h
    · exact h
    · simp at h
    · simp at h
  rw [show (⟨some d, op, ty, pos, aft, g⟩ :: rest : List Oper).length + m = (rest.length + m) + 1 from by simp; omega]
  exact JZ.ef k h0 ho h (fun v hs' r => kk v hs' r m is _ Z h1 h2.2 (by simpa using h3) (set_lt h4 (.inr hkz)) (fun e => hF v hs' r (h5 e)) hz) hF rfl hdn hg
/-- the first store -/
theorem JY.st {op : Op} {hs' : Hp} (h : Eff P n w0 own e hs op (fun v h => v = undef ∧ h = hs')) (kk : JY P n w0 own ops F z true rest e hs' K)
    (hE : isEff ⟨none, op, ty, pos, aft, g⟩ = true := by rfl) (hg : wantB ops e g = some true := by rfl) : JY P n w0 own ops F z false (⟨none, op, ty, pos, aft, g⟩ :: rest) e hs K := by
  intro m is listed Z h1 h2 h3 h4 h5 hz
  cases is with
  | nil => exact h1.elim
  | cons k is =>
  obtain ⟨h0, h1⟩ := h1
  unfold ordY at h2
  rw [Bool.and_eq_true, Bool.and_eq_true] at h2
  obtain ⟨⟨h2a, h2c⟩, h2b⟩ := h2
  rw [Bool.or_eq_true, Bool.or_eq_true, hE, eff_mem hE] at h2a
  have h2 := And.intro h2a h2b
  obtain rfl : k = z := by
    rw [h4] at h2c
    exact Nat.eq_of_beq_eq_true (by simpa using h2c)
  have ho : onlyB ops listed k = true := by
    rcases h2.1 with (h | h) | h
    · exact h
    · simp at h
    · simp at h
  have hk : k < listed.size := by rw [h3]; exact (Array.getElem?_eq_some_iff.1 h0).1
  rw [show (⟨none, op, ty, pos, aft, g⟩ :: rest : List Oper).length + m = (rest.length + m) + 1 from by simp; omega]
  refine JZ.st h0 ho (Nat.ble_eq_true_of_le hk) h (kk m is _ Z h1 h2.2 (by simpa using h3) (by simp [hk]) (fun h => by cases h) hz) hg
/-- a store behind it -/
theorem JY.st2 {op : Op} {hs' : Hp} (h : Eff P n w0 own e hs op (fun v h => v = undef ∧ h = hs')) (kk : JY P n w0 own ops F z true rest e hs' K)
    (hE : isEff ⟨none, op, ty, pos, aft, g⟩ = true := by rfl) (hg : wantB ops e g = some true := by rfl) : JY P n w0 own ops F z true (⟨none, op, ty, pos, aft, g⟩ :: rest) e hs K := by
  intro m is listed Z h1 h2 h3 h4 h5 hz
  cases is with
  | nil => exact h1.elim
  | cons k is =>
  obtain ⟨h0, h1⟩ := h1
  unfold ordY at h2
  rw [Bool.and_eq_true, Bool.and_eq_true] at h2
  obtain ⟨⟨h2a, h2c⟩, h2b⟩ := h2
  rw [Bool.or_eq_true, Bool.or_eq_true, hE, eff_mem hE] at h2a
  have h2 := And.intro h2a h2b
  have ho : onlyB ops listed k = true := by
    rcases h2.1 with (h | h) | h
    · exact h
    · simp at h
    · simp at h
  rw [show (⟨none, op, ty, pos, aft, g⟩ :: rest : List Oper).length + m = (rest.length + m) + 1 from by simp; omega]
  have hl := set_lt (k := k) (listed := listed) (z := z) h4 (.inl rfl)
  rcases Decidable.em (z = k) with rfl | hne
  · -- z has been: it cannot come up again
    have hr : Region.ready .any ops listed = [z] := by simpa [onlyB] using ho
    have hm : z ∈ Region.ready .any ops listed := by rw [hr]; simp
    obtain ⟨hu, _⟩ := mem_ready.1 hm
    have hk : z < listed.size := by rw [h3]; exact (Array.getElem?_eq_some_iff.1 h0).1
    simp [hk] at hu h4
    rw [hu] at h4; cases h4
  · exact JZ.st2 k h0 ho h4 (by cases h : Nat.beq z k; rfl; exact absurd (Nat.eq_of_beq_eq_true h) hne) h (kk m is _ Z h1 h2.2 (by simpa using h3) hl (fun h => by cases h) hz) hg
end
/-- number i comes up now -/
def JS (P : Program) (n : Nat) (w0 : World) (own : List Nat) (ops : Array Oper) (F : Hp) (m : Nat) (listed : Array Bool) (e : Env) (hs : Hp) (K : Env → Hp → Prop) (i : Nat) : Prop :=
  ∀ a w, Rep n a e → Sat w0 own hs w → F ⊆ hs →
    wpOp P ops (QN fun a' w' => ∃ e' hs', Rep n a' e' ∧ Sat w0 own hs' w' ∧ K e' hs') i (fun a' w' => Keeps w0 own F w' ∧ wpAnyH P .any ops (QN fun a' w' => ∃ e' hs', Rep n a' e' ∧ Sat w0 own hs' w' ∧ K e' hs') (Keeps w0 own F) m (listed.setIfInBounds i true) a' w') a w
section
variable {P : Program} {n : Nat} {w0 : World} {own : List Nat} {e : Env} {hs F : Hp} {ops : Array Oper} {K : Env → Hp → Prop} {m : Nat} {listed : Array Bool}
variable {d : Nat} {ty : TypeId} {pos : String} {aft : Array Edge} {g : Option (Nat × Bool)}
/-- any of those that may come up -/
theorem JD.two (i j : Nat) (hr : (Region.ready .any ops listed == [i, j]) = true) (h1 : JS P n w0 own ops F m listed e hs K i) (h2 : JS P n w0 own ops F m listed e hs K j) : JD P n w0 own ops F (m + 1) listed e hs K := by
  intro a w hr' s hf
  refine wpAnyH_all (rs := [i, j]) (by simpa using hr) (by simp) fun k hk => ?_
  simp only [List.mem_cons, List.not_mem_nil, or_false] at hk
  rcases hk with rfl | rfl
  · exact h1 a w hr' s hf
  · exact h2 a w hr' s hf
theorem JD.one (i : Nat) (hr : onlyB ops listed i = true) (h1 : JS P n w0 own ops F m listed e hs K i) : JD P n w0 own ops F (m + 1) listed e hs K := by
  intro a w hr' s hf
  refine wpAnyH_all (rs := [i]) (by simpa [onlyB] using hr) (by simp) fun k hk => ?_
  simp only [List.mem_singleton] at hk
  subst hk
  exact h1 a w hr' s hf
theorem JS.v {i : Nat} {op : Op} {v : Value} (hi : ops[i]? = some ⟨some d, op, ty, pos, aft, g⟩) (h : Val P n w0 own e hs op v) (k : JD P n w0 own ops F m (listed.setIfInBounds i true) ((d, v) :: e) hs K)
    (hdn : Nat.blt d n = true := by rfl) (hg : wantB ops e g = some true := by rfl) : JS P n w0 own ops F m listed e hs K i := by
  intro a w hr s hf
  unfold wpOp
  simp only [hi]
  rw [if_pos (wanted_of hr hg)]
  exact .inl (h.eff a w _ _ _ _ _ _ _ hr s fun v' hs' w' ⟨e1, e2⟩ s' => by
    subst e1; subst e2
    exact ⟨⟨_, s', hf⟩, k _ _ (hr.put (Nat.le_of_ble_eq_true hdn) _) s' hf⟩)
theorem JS.st {i : Nat} {op : Op} {hs' : Hp} (hi : ops[i]? = some ⟨none, op, ty, pos, aft, g⟩) (h : Eff P n w0 own e hs op (fun v h => v = undef ∧ h = hs')) (hF : F ⊆ hs') (k : JD P n w0 own ops F m (listed.setIfInBounds i true) e hs' K)
    (hg : wantB ops e g = some true := by rfl) : JS P n w0 own ops F m listed e hs K i := by
  intro a w hr s hf
  unfold wpOp
  simp only [hi]
  rw [if_pos (wanted_of hr hg)]
  exact .inl (h a w _ _ _ _ _ _ _ hr s fun v' h' w' ⟨_, e2⟩ s' => by
    subst e2
    exact ⟨⟨_, s', hF⟩, k _ _ (hr.put_none _) s' hF⟩)
end
end V
end Go

/- VA: one element put behind a slice; what is known is let go inside a region. -/
namespace Go
namespace V
open Go.RowKit
set_option linter.unusedVariables false
set_option linter.unusedSimpArgs false
section
variable {P : Program} {n : Nat} {w0 : World} {own : List Nat} {e : Env} {hs : Hp} {ops : Array Oper} {rest l : List Oper} {K : Env → Hp → Prop}
theorem JL.heap {hs' : Hp} (k : ∀ w, Sat w0 own hs w → Sat w0 own hs' w) (h : JL P n w0 own ops l e hs' K) : JL P n w0 own ops l e hs K := fun a w hr s => h a w hr (k w s)
theorem JL.sub {e' : Env} (k : Sub e' e) (h : JL P n w0 own ops l e' hs K) : JL P n w0 own ops l e hs K := fun a w hr s => h a w (hr.sub k) s
theorem JL.take (pre : Hp) {fr : Hp} [t : TakeI pre hs fr] (h : JL P n w0 own ops l e pre K) : JL P n w0 own ops l e hs K := JL.heap (fun _ s => s.take) h
theorem fill_one {m : Nat} {cs oc : List Value} (hc : cs.length = m) (ho : oc.length = m) : fillL ((List.range 1).map fun i => (i * m, m)) cs [(0, oc)] = some oc := by
  simp [fillL, hc, ho, splice_whole cs oc (by omega)]
/-- 's = append(s, x)' -/
theorem JL.push {s x : Operand} {T t u E m by_ c d1 d2 ty1 ty2 : Nat} {p1 p2 : String} {a1 a2 : Array Edge} {z vs oc : List Value} {v xv : Value} {h fr : Hp}
    (hs_ : ev e s = some v) (hx : ev e x = some xv) [hT : SliceT P T E] [ht : SliceT P t E] [hu : SliceT P u E] [hE : El P E m by_ z] (ho : OwnS E m v c vs h) [tk : TakeI h hs fr] (hoc : xv.cells = ⟨oc⟩) (hl : oc.length = m) (h1 : ones oc = true)
    (hb : (c + 1) * by_ ≤ 140737488355328) (h63 : c + 1 ≤ 4611686018427387904)
    (k : ∀ b v' h', OwnS E m v' (c + 1) (vs ++ oc) h' → JL P n w0 own ops rest ((d2, v') :: (d1, .slice (some ⟨b, 0, none⟩) 1 1) :: e) (h' ++ fr) K)
    (hs2 : ∀ b, ev ((d1, .slice (some ⟨b, 0, none⟩) 1 1) :: e) s = some v := by intro b; rfl) (hm : Nat.ble m 16777216 = true := by rfl) (hd1 : Nat.blt d1 n = true := by rfl) (hd2 : Nat.blt d2 n = true := by rfl) :
    JL P n w0 own ops (⟨some d1, .buildSlice T 1 #[(0, x)], ty1, p1, a1, none⟩ :: ⟨some d2, .call { callee := .builtin .append, args := #[s, .tmp d1], argTypes := #[t, u] }, ty2, p2, a2, none⟩ :: rest) e hs K := by
  have hzl : z.length = m := by obtain ⟨i, v, _, _, _, _, _, h⟩ := hE.out; exact h
  refine .ef (Eff.buildSlice (parts := [(0, x)]) (vs := [(0, xv)]) (out := oc) (by simp [evp, hx]) (by rw [Nat.one_mul]; exact Nat.le_of_ble_eq_true hm) rfl ?_) ?_ hd1 rfl
  · rw [show ([(0, xv)] : List (Nat × Value)).map (fun p => (p.1, p.2.cells.toList)) = [(0, oc)] from by simp [hoc]]
    exact fill_one (by simp) hl
  · rintro _ _ ⟨b, rfl, rfl⟩
    refine .ef (Eff.append (c := c) (k := 1) (vs := vs) (news := oc) (h := h) (fr := (b, .cells oc E) :: fr) (hs2 b) (show ev ((d1, .slice (some ⟨b, 0, none⟩) 1 1) :: e) (.tmp d1) = some (.slice (some ⟨b, 0, none⟩) 1 1) by simp [ev, get]) ho ((tk.out.cons _).trans List.perm_middle.symm) (fun w s' => Src.of_at s' .whole (by rw [hl, Nat.one_mul])) (by rw [hl, Nat.one_mul]) h1 hb h63) ?_ hd2 rfl
    rintro v' _ ⟨h', k', rfl⟩
    exact .heap (fun _ s' => s'.sub (List.Sublist.append_left (List.sublist_cons_self _ _) _)) (k b v' h' k')
end
/-! ### rows of records -/
theorem at_sub {w0 : World} {own : List Nat} {hs : Hp} {b o i : Nat} {vs us : List Value} (h : At w0 own hs ⟨b, o, none⟩ vs) (hu : ∀ (j : Nat) (u : Value), us[j]? = some u → vs[i + j]? = some u) : At w0 own hs ⟨b, o + i, none⟩ us := by
  intro w s j u hj
  have := h w s (i + j) u (hu j u hj)
  rw [add_none] at this ⊢
  rw [Nat.add_assoc]; exact this
section
variable {α : Type} (f : α → List Value) (m : Nat) (hm : ∀ a, (f a).length = m) {w0 : World} {own : List Nat} {hs : Hp} {b o i : Nat} {l : List α} {z : Int}
include hm
theorem recAt (h : At w0 own hs ⟨b, o, none⟩ (l.flatMap f)) (hi : i < l.length) (hz : z.toNat = i := by omega) : At w0 own hs ⟨b, o + z.toNat * m, none⟩ (f l[i]) := by
  subst hz
  refine at_sub h fun j u hj => ?_
  rw [flatMap_get f m hm l _ j hi (by have := (List.getElem?_eq_some_iff.1 hj).1; rw [hm] at this; exact this)]; exact hj
theorem fldAt (h : At w0 own hs ⟨b, o, none⟩ (l.flatMap f)) (hi : i < l.length) (k : Nat) {v : Value} (hv : (f l[i])[k]? = some v) (hz : z.toNat = i := by omega) : At w0 own hs ⟨b, o + z.toNat * m + k, none⟩ [v] := by
  subst hz
  rw [Nat.add_assoc]
  refine at_sub h fun j u hj => ?_
  match j, hj with
  | 0, hj =>
    simp at hj; subst hj
    rw [Nat.add_zero, flatMap_get f m hm l _ k hi (by have := (List.getElem?_eq_some_iff.1 hv).1; rw [hm] at this; exact this)]; exact hv
theorem Rd.recs {w : World} {no : List Nat} {A : Option Addr} (h : Rd w no A (l.flatMap f)) (h0 : 0 < l.length) (hm0 : 0 < m) : ∃ b o, A = some ⟨b, o, none⟩ ∧ ∀ hs, At w no hs ⟨b, o, none⟩ (l.flatMap f) := by
  obtain ⟨b, o, rfl, -⟩ := h.base (by rw [flatMap_length f m hm]; exact Nat.mul_pos h0 hm0)
  exact ⟨b, o, rfl, fun hs => h.whole⟩
theorem rows_take (k : Nat) : (l.take k).flatMap f = (l.flatMap f).take (k * m) := by
  induction l generalizing k with
  | nil => simp
  | cons v l ih =>
    cases k with
    | zero => simp
    | succ k =>
      have e1 : (f v).take ((k + 1) * m) = f v := List.take_of_length_le (by rw [hm, Nat.succ_mul]; omega)
      have e2 : (k + 1) * m - (f v).length = k * m := by rw [hm, Nat.succ_mul]; omega
      rw [List.take_succ_cons, List.flatMap_cons, List.flatMap_cons, ih, List.take_append, e1, e2]
theorem rows_drop (k : Nat) : (l.drop k).flatMap f = (l.flatMap f).drop (k * m) := by
  induction l generalizing k with
  | nil => simp
  | cons v l ih =>
    cases k with
    | zero => simp
    | succ k =>
      have e1 : (f v).drop ((k + 1) * m) = [] := List.drop_of_length_le (by rw [hm, Nat.succ_mul]; omega)
      have e2 : (k + 1) * m - (f v).length = k * m := by rw [hm, Nat.succ_mul]; omega
      rw [List.drop_succ_cons, List.flatMap_cons, ih, List.drop_append, e1, e2, List.nil_append]
end
theorem rows_ones {α : Type} (f : α → List Value) (h : ∀ a, ones (f a) = true) (l : List α) : ones (l.flatMap f) = true := by
  simp only [ones, List.all_flatMap, List.all_eq_true]
  intro a _ x hx
  exact ones_mem (h a) x hx
/-- a slice that was cut -/
theorem Rd.cut {w : World} {no : List Nat} {A : Option Addr} {vs : List Value} {cap k m : Nat} (h : Rd w no A vs) (hc : vs.length ≤ cap * m) : Rd w no (cutA A cap k m) (vs.drop (k * m)) := by
  intro j v hv
  rw [List.getElem?_drop] at hv
  obtain ⟨b, o, rfl, hb, hv'⟩ := h _ v hv
  have hlt := (List.getElem?_eq_some_iff.1 hv).1
  have hne : cap ≠ k := by intro e; subst e; omega
  unfold cutA
  rw [if_neg hne]
  refine ⟨b, o + k * m, by simp [add_none], hb, ?_⟩
  rw [Nat.add_assoc]; exact hv'
/-- what an own slice holds, loaded -/
theorem OwnS.at0 {w0 : World} {own : List Nat} {E m n n' c b o : Nat} {vs : List Value} {h hs : Hp} (k : OwnS E m (.slice (some ⟨b, o, none⟩) n' c) n vs h) (hh : h ⊆ hs) : At w0 own hs ⟨b, o, none⟩ vs := by
  have := k.atN (i := 0) (w0 := w0) (own := own) hh (us := vs) (fun j v hv => by rw [Nat.zero_add]; exact hv)
  exact this
/-- .. cells of it -/
theorem OwnS.spliceAt {E m n n' c b o i : Nat} {vs l us : List Value} (k : OwnS E m (.slice (some ⟨b, o, none⟩) n' c) n vs [(b, .cells l E)]) (hi : i + us.length ≤ n * m) : OwnS E m (.slice (some ⟨b, o, none⟩) n' c) n (splice vs i us) [(b, .cells (splice l (o + i) us) E)] := by
  obtain ⟨hl, k⟩ := k
  refine ⟨by rw [splice_length _ _ _ (by omega)]; exact hl, ?_⟩
  rcases k with ⟨h1, h2, h3⟩ | ⟨b', o', cap, l', h1, h2, h3, h4, h5⟩
  · cases h3
  · cases h1; cases h2
    have hn := Nat.mul_le_mul_right m h3
    refine .inr ⟨b, o, c, splice l (o + i) us, rfl, rfl, h3, by rw [splice_length _ _ _ (by omega)]; exact h4, ?_⟩
    apply List.ext_getElem?
    intro j
    rw [List.getElem?_take, List.getElem?_drop, splice_get _ _ _ _ (by omega), splice_get _ _ _ _ (by omega), ← h5, List.getElem?_take, List.getElem?_drop]
    by_cases hj : j < n * m
    · rw [if_pos hj, if_pos hj]
      by_cases e1 : j < i
      · rw [if_pos (by omega), if_pos e1]
      · rw [if_neg (by omega), if_neg e1]
        by_cases e2 : j < i + us.length
        · rw [if_pos (by omega), if_pos e2]; congr 1; omega
        · rw [if_neg (by omega), if_neg e2]
    · rw [if_neg hj, if_neg hj, if_neg (by omega), if_neg (by omega)]
/-- one cell of an own slice is turned -/
theorem OwnS.setAt {E m n n' c b o i : Nat} {vs l : List Value} {v : Value} (k : OwnS E m (.slice (some ⟨b, o, none⟩) n' c) n vs [(b, .cells l E)]) (hi : i < n * m) : OwnS E m (.slice (some ⟨b, o, none⟩) n' c) n (vs.set i v) [(b, .cells (l.set (o + i) v) E)] := by
  have h := k.spliceAt (i := i) (us := [v]) (by simp; omega)
  obtain ⟨hl, k⟩ := k
  rcases k with ⟨h1, h2, h3⟩ | ⟨b', o', cap, l', h1, h2, h3, h4, h5⟩
  · cases h3
  · cases h1; cases h2
    have hn := Nat.mul_le_mul_right m h3
    rw [splice_one vs i v (by omega), splice_one l (o + i) v (by omega)] at h
    exact h
theorem OwnS.src {P : Program} {w0 w : World} {own : List Nat} {hs : Hp} {E m n : Nat} {v : Value} {vs : List Value} {h : Hp} (k : OwnS E m v n vs h) (s : Sat w0 own hs w) (hh : h ⊆ hs) (hm : 0 < m) : Src P w m v n vs := by
  obtain ⟨A, c, rfl⟩ := k.slice
  exact (OwnS.rd k s (no := []) hh (by simp)).src k.1 hm
section
variable {P : Program} {n : Nat} {w0 : World} {own : List Nat} {e : Env} {hs : Hp} {ops : Array Oper} {rest l : List Oper} {K : Env → Hp → Prop}
/-- 's = append(s, t...)' -/
theorem JL.appT {s x : Operand} {t u E m by_ c d ty k : Nat} {p : String} {af : Array Edge} {z vs news : List Value} {v xv : Value} {h fr : Hp}
    (hs_ : ev e s = some v) (hx : ev e x = some xv) [ht : SliceT P t E] [hu : SliceT P u E] [hE : El P E m by_ z] (ho : OwnS E m v c vs h) [tk : TakeI h hs fr] (hsrc : ∀ w, Sat w0 own hs w → Src P w m xv k news) (hl : news.length = k * m) (h1 : ones news = true)
    (hb : (c + k) * by_ ≤ 140737488355328) (h63 : c + k ≤ 4611686018427387904) (kk : ∀ v' h', OwnS E m v' (c + k) (vs ++ news) h' → JL P n w0 own ops rest ((d, v') :: e) (h' ++ fr) K) (hd : Nat.blt d n = true := by rfl) :
    JL P n w0 own ops (⟨some d, .call { callee := .builtin .append, args := #[s, x], argTypes := #[t, u] }, ty, p, af, none⟩ :: rest) e hs K :=
  .ef (Eff.append (c := c) (k := k) (vs := vs) (news := news) (h := h) (fr := fr) hs_ hx ho tk.out hsrc hl h1 hb h63) (fun v' _ ⟨h', k', e⟩ => by subst e; exact kk v' h' k') hd rfl
end
/-! ### regions in which two effects may come up in either order -/
section
variable {P : Program} {n : Nat} {w0 : World} {own : List Nat} {e : Env} {hs F : Hp} {K : Env → Hp → Prop} {m : Nat} {listed : Array Bool}
variable {d : Nat} {ty : TypeId} {pos : String} {aft : Array Edge} {g : Option (Nat × Bool)}
/-- the first operations, in an order of ours; then by hand -/
theorem JC.drawX {id : Nat} {Q : Post} {l : List Oper} (is : List Nat) (F : Hp) (hF : F ⊆ hs) (hm : P.follows .mixedOrders = true)
    (hB : (ordB l.toArray (pickL l is) is (Array.replicate l.length false) && Nat.beq (pickL l is).length is.length && Nat.ble is.length l.length) = true)
    (h : JK P n w0 own l.toArray F (pickL l is) e hs (fun e' hs' => JD P n w0 own l.toArray F (l.length - is.length) (marks_ is (Array.replicate l.length false)) e' hs' (fun e hs => Q .normal e hs))) : JC P n w0 own (.region id l.toArray true) e hs Q := by
  rw [Bool.and_eq_true, Bool.and_eq_true] at hB
  obtain ⟨⟨h1, h2⟩, h3⟩ := hB
  have h2 := Nat.eq_of_beq_eq_true h2
  have h3 := Nat.le_of_ble_eq_true h3
  refine JC.draw F hF hm ?_
  have := h (l.length - is.length) is (Array.replicate l.length false) (fun e hs => Q .normal e hs) (pickL_nums is h1 h2) h1 hF (fun e' hs' _ ke => ke)
  rw [h2, show is.length + (l.length - is.length) = l.length by omega] at this
  simpa using this
theorem pickL_nums' {l : List Oper} : ∀ (is : List Nat), (pickL l is).length = is.length → Nums l.toArray (pickL l is) is
  | [], _ => trivial
  | i :: is, hl => by
    unfold pickL at hl ⊢
    cases ho : l[i]? with
    | none => rw [ho] at hl; simp at hl
    | some o =>
      rw [ho] at hl
      simp only at hl ⊢
      exact ⟨by simpa using ho, pickL_nums' is (by simpa using hl)⟩
/-- the others, in an order of ours -/
theorem JD.run {l : List Oper} (is : List Nat) (hF : F ⊆ hs) (hB : (ordB l.toArray (pickL l is) is listed && doneB l.toArray (marks_ is listed) && Nat.beq (pickL l is).length is.length && Nat.beq is.length m) = true)
    (h : JK P n w0 own l.toArray F (pickL l is) e hs K) : JD P n w0 own l.toArray F m listed e hs K := by
  rw [Bool.and_eq_true, Bool.and_eq_true, Bool.and_eq_true] at hB
  obtain ⟨⟨⟨h1, h2⟩, h3⟩, h4⟩ := hB
  have h3 := Nat.eq_of_beq_eq_true h3
  have h4 := Nat.eq_of_beq_eq_true h4
  have := h 0 is listed K (pickL_nums' is h3) h1 hF (fun e' hs' _ ke => JD.done h2 ke)
  rw [h3, h4] at this
  simpa using this
theorem JD.heap {ops : Array Oper} {hs' : Hp} (k : ∀ w, Sat w0 own hs w → Sat w0 own hs' w) (hF : F ⊆ hs') (h : JD P n w0 own ops F m listed e hs' K) : JD P n w0 own ops F m listed e hs K := fun a w hr s _ => h a w hr (k w s) hF
theorem JS.ef {ops : Array Oper} {i : Nat} {op : Op} {R : Value → Hp → Prop} (hi : ops[i]? = some ⟨some d, op, ty, pos, aft, g⟩) (h : Eff P n w0 own e hs op R) (hF : ∀ v hs', R v hs' → F ⊆ hs → F ⊆ hs')
    (k : ∀ v hs', R v hs' → JD P n w0 own ops F m (listed.setIfInBounds i true) ((d, v) :: e) hs' K) (hdn : Nat.blt d n = true := by rfl) (hg : wantB ops e g = some true := by rfl) : JS P n w0 own ops F m listed e hs K i := by
  intro a w hr s hf
  unfold wpOp
  simp only [hi]
  rw [if_pos (wanted_of hr hg)]
  exact .inl (h a w _ _ _ _ _ _ _ hr s fun v' h' w' r s' => ⟨⟨_, s', hF _ _ r hf⟩, k _ _ r _ _ (hr.put (Nat.le_of_ble_eq_true hdn) _) s' (hF _ _ r hf)⟩)
theorem JS.nw {ops : Array Oper} {i : Nat} {op : Op} {c : Ch} (hi : ops[i]? = some ⟨some d, op, ty, pos, aft, g⟩) (h : Eff P n w0 own e hs op (NewP hs c))
    (k : ∀ b, JD P n w0 own ops F m (listed.setIfInBounds i true) ((d, .pointer (some ⟨b, 0, none⟩)) :: e) ((b, c) :: hs) K) (hdn : Nat.blt d n = true := by rfl) (hg : wantB ops e g = some true := by rfl) : JS P n w0 own ops F m listed e hs K i :=
  .ef hi h (fun v h' ⟨b, _, e2⟩ f => by subst e2; exact fun p hp => List.mem_cons_of_mem _ (f hp)) (fun v h' ⟨b, e1, e2⟩ => by subst e1; subst e2; exact k b) hdn hg
theorem JS.cl {ops : Array Oper} {i f : Nat} {fo : Operand} {args : List Operand} {at_ : Array TypeId} {cap vals : List Value} {R : Value → Hp → Prop}
    (hi : ops[i]? = some ⟨some d, .call { callee := .value fo, args := ⟨args⟩, argTypes := at_ }, ty, pos, aft, g⟩) (hf : ev e fo = some (.func (.func f) #[] ⟨cap⟩)) (ha : evs e args = some vals) (hc : ∀ w, Sat w0 own hs w → Does P f (vals ++ cap) [] w R)
    (k : ∀ v h, R v h → JD P n w0 own ops F m (listed.setIfInBounds i true) ((d, v) :: e) (h ++ hs) K) [hg' : FnT P f] (hdn : Nat.blt d n = true := by rfl) (hg : wantB ops e g = some true := by rfl) : JS P n w0 own ops F m listed e hs K i :=
  .ef hi (.call0 hf ha hc) (fun _ _ ⟨_, _, h3⟩ f => by subst h3; exact fun p hp => List.mem_append_right _ (f hp)) (fun v _ ⟨h, h1, h3⟩ => by subst h3; exact k v h h1) hdn hg
theorem JK.nw {ops : Array Oper} {rest : List Oper} {op : Op} {c : Ch} (h : Eff P n w0 own e hs op (NewP hs c)) (kk : ∀ b, JK P n w0 own ops F rest ((d, .pointer (some ⟨b, 0, none⟩)) :: e) ((b, c) :: hs) K)
    (he : isEff ⟨some d, op, ty, pos, aft, g⟩ = true := by rfl) (hdn : Nat.blt d n = true := by rfl) (hg : wantB ops e g = some true := by rfl) : JK P n w0 own ops F (⟨some d, op, ty, pos, aft, g⟩ :: rest) e hs K :=
  .ef h (fun v h' ⟨b, _, e2⟩ f => by subst e2; exact fun p hp => List.mem_cons_of_mem _ (f hp)) (fun v h' ⟨b, e1, e2⟩ => by subst e1; subst e2; exact kk b) he hdn hg
end
/-- a slice of its own, whatever it holds -/
def AnyS (E m : Nat) (v : Value) (n : Nat) (h : Hp) : Prop := ∃ vs, OwnS E m v n vs h
theorem AnyS.sl {E m n : Nat} {v : Value} {h : Hp} (k : AnyS E m v n h) : ∃ A c, v = .slice A n c := by
  obtain ⟨vs, k⟩ := k
  exact k.slice
theorem AnyS.put {E m n c i : Nat} {A : Option Addr} {h : Hp} (k : AnyS E m (.slice A n c) n h) (hi : i < n) : ∃ b o l, A = some ⟨b, o, none⟩ ∧ h = [(b, .cells l E)] ∧ o + n * m ≤ l.length ∧ ∀ us : List Value, us.length = m → AnyS E m (.slice A n c) n [(b, .cells (splice l (o + i * m) us) E)] := by
  obtain ⟨vs, k⟩ := k
  obtain ⟨b, o, l, rfl, -, rfl, hc, hl, hv⟩ := k.some_ (by omega)
  have := Nat.mul_le_mul_right m hc
  have hm : i * m + m ≤ n * m := by rw [← Nat.succ_mul]; exact Nat.mul_le_mul_right m hi
  exact ⟨b, o, l, rfl, rfl, by omega, fun us hu => ⟨_, OwnS.spliceAt (i := i * m) k (by rw [hu]; exact hm)⟩⟩
theorem Sat.apart {w0 w : World} {own : List Nat} {hs a b fr : Hp} (s : Sat w0 own hs w) [h : TakeI (a ++ b) hs fr] : ∀ x ∈ bl a, x ∉ bl b := (s.take (pre := a ++ b)).disj
theorem Rd.blk {w0 w : World} {own : List Nat} {hs : Hp} {b T : Nat} {l : List Value} (s : Sat w0 own hs w) [hb : Mem b (.cells l T) hs] : Rd w [] (some ⟨b, 0, none⟩) l :=
  Rd.chunk s (T := T) (l := l) (by simp) (fun j v hv => by rw [Nat.zero_add]; exact hv)
section
variable {P : Program} {n : Nat} {w0 : World} {own : List Nat} {e : Env} {hs F : Hp} {K : Env → Hp → Prop} {m : Nat} {listed : Array Bool}
variable {d : Nat} {ty : TypeId} {pos : String} {aft : Array Edge} {g : Option (Nat × Bool)}
/-- a call that is lent blocks, where two effects may come up -/
theorem JS.clT {ops : Array Oper} {i f : Nat} {fo : Operand} {args : List Operand} {at_ : Array TypeId} {cap vals : List Value} {R : Value → Hp → Prop} (pre : Hp) {fr : Hp}
    (hi : ops[i]? = some ⟨some d, .call { callee := .value fo, args := ⟨args⟩, argTypes := at_ }, ty, pos, aft, g⟩) (hf : ev e fo = some (.func (.func f) #[] ⟨cap⟩)) (ha : evs e args = some vals) [tk : TakeI pre hs fr] (hc : ∀ w, Sat w0 own hs w → Does P f (vals ++ cap) pre w R)
    (hF : ∀ h, F ⊆ h ++ fr) (k : ∀ v h, R v h → JD P n w0 own ops F m (listed.setIfInBounds i true) ((d, v) :: e) (h ++ fr) K) [hg' : FnT P f] (hdn : Nat.blt d n = true := by rfl) (hg : wantB ops e g = some true := by rfl) : JS P n w0 own ops F m listed e hs K i :=
  .ef hi (.callT pre hf ha hc) (fun _ _ ⟨h, _, h3⟩ f => by subst h3; exact hF h) (fun v _ ⟨h, h1, h3⟩ => by subst h3; exact k v h h1) hdn hg
theorem JK.clT {ops : Array Oper} {rest : List Oper} {f : Nat} {fo : Operand} {args : List Operand} {at_ : Array TypeId} {cap vals : List Value} {R : Value → Hp → Prop} (pre : Hp) {fr : Hp}
    (hf : ev e fo = some (.func (.func f) #[] ⟨cap⟩)) (ha : evs e args = some vals) [tk : TakeI pre hs fr] (hc : ∀ w, Sat w0 own hs w → Does P f (vals ++ cap) pre w R) (hF : ∀ h, F ⊆ h ++ fr) (kk : ∀ v h, R v h → JK P n w0 own ops F rest ((d, v) :: e) (h ++ fr) K) [hg : FnT P f]
    (hdn : Nat.blt d n = true := by rfl) (hw : wantB ops e g = some true := by rfl) :
    JK P n w0 own ops F (⟨some d, .call { callee := .value fo, args := ⟨args⟩, argTypes := at_ }, ty, pos, aft, g⟩ :: rest) e hs K :=
  JK.ef (.callT pre hf ha hc) (fun _ _ ⟨h, _, h3⟩ f => by subst h3; exact hF h) (fun v _ ⟨h, h1, h3⟩ => by subst h3; exact kk v h h1) rfl hdn hw
end
end V
end Go

/- VC: maps whose keys are numbers, further: look-up with 'ok', delete, len, a range over them; max. -/
namespace Go
namespace V
open Go.RowKit
set_option linter.unusedVariables false
set_option linter.unusedSimpArgs false

abbrev ME.born (x : ME) : Nat := x.2.2
/-- the map behind a deletion -/
def mdel (k : Int) (es : List ME) : List ME := match mfind k es 0 with
  | some (i, _) => es.eraseIdx i
  | none => es
abbrev iter_ (m since : Nat) (seen : List Nat) (last : Nat) : Ch := .obj (.mapIter (some m) since ⟨seen⟩ last)
section
variable {P : Program} {n : Nat} {w0 : World} {own : List Nat} {e : Env} {hs : Hp}
theorem Val.lookup2 {T kT eT b c : Nat} {q : IntKind} {k : Int} {x y : Operand} {es : List ME} {z : Value} (hx : ev e x = some (.map (some b))) (hy : ev e y = some (.int q k)) [hT : MapT P T kT eT] [hk : IntT P kT q] [hz : ZrV P eT z]
    [hb : Mem b (.obj (mapOf q es c)) hs] : Val P n w0 own e hs (.lookup T x y true) (.tuple ⟨[(mget k es).getD z, .bool (mget k es).isSome]⟩) := fun a w ty pos aft g d hr s => by
  obtain ⟨i, hi, hzz⟩ := hz.out
  have h1 := s.mrow hb.out
  have h1' : w.heap[b]? = some (.map ⟨es.map (mentry q)⟩ c) := h1
  have key : (Instr.lookup T (.map (some b)) (.int q k) true).run P w = .ok (.tuple ⟨[(mget k es).getD z, .bool (mget k es).isSome]⟩) w := by
    unfold Instr.lookup
    simp [run_underlying hT.out, MapKept.run_getObj_map h1', run_checkKey_int hk.out, run_findKey_int hk.out]
    unfold mget
    cases mfind k es 0 with
    | none => simp [zeroValue, typeInfo, hi, hzz]
    | some p => simp
  simp [execOp, hr.eval hx, hr.eval hy, key]
theorem Val.lookup2E {T kT eT b c : Nat} {q : IntKind} {k : Int} {x y : Operand} {es : List ME} {z v : Value} {ok : Bool} (hx : ev e x = some (.map (some b))) (hy : ev e y = some (.int q k)) [hT : MapT P T kT eT] [hk : IntT P kT q] [hz : ZrV P eT z]
    [hb : Mem b (.obj (mapOf q es c)) hs] (hv : (mget k es).getD z = v) (ho : (mget k es).isSome = ok) : Val P n w0 own e hs (.lookup T x y true) (.tuple ⟨[v, .bool ok]⟩) := hv ▸ ho ▸ Val.lookup2 hx hy
theorem Eff.del {T kT eT uT b c : Nat} {q : IntKind} {k : Int} {x y : Operand} {es : List ME} {hs' : Hp} (hx : ev e x = some (.map (some b))) (hy : ev e y = some (.int q k)) [hT : MapT P T kT eT] [hk : IntT P kT q]
    [hb : Mem b (.obj (mapOf q es c)) hs] [u : UpdI b (.obj (mapOf q (mdel k es) c)) hs hs'] : Eff P n w0 own e hs (.call { callee := .builtin .delete, args := #[x, y], argTypes := #[T, uT] }) (fun v h => v = .tuple ⟨[]⟩ ∧ h = hs') :=
  Eff.of_run fun a w ty pos aft g d hr s => by
    have h1 := s.mrow hb.out
    have h1' : w.heap[b]? = some (.map ⟨es.map (mentry q)⟩ c) := h1
    have hlt : b < w.heap.size := (Array.getElem?_eq_some_iff.1 h1').1
    have key : (Builtin.delete_ #[T, uT] ty #[.map (some b), .int q k]).run P w = .ok (.tuple #[]) { w with heap := w.heap.setIfInBounds b (mapOf q (mdel k es) c) } := by
      unfold Builtin.delete_
      cases hf : mfind k es 0 with
      | none =>
        simp [run_underlying hT.out, MapKept.run_getObj_map h1', run_checkKey_int hk.out, run_findKey_int hk.out, hf, MapKept.run_setObj_map _ h1', mdel, mapOf]
      | some p =>
        obtain ⟨i, v0⟩ := p
        obtain ⟨_, y0, g1, g2, _⟩ := mfind_key k es 0 i v0 hf
        have hi : i < es.length := by have := (List.getElem?_eq_some_iff.1 g1).1; omega
        simp [run_underlying hT.out, MapKept.run_getObj_map h1', run_checkKey_int hk.out, run_findKey_int hk.out, hf, MapKept.run_setObj_map _ h1', mdel, mapOf, Array.eraseIdxIfInBounds, hi]
        congr 2
        apply Array.ext'
        apply List.ext_getElem?
        intro m
        simp only [List.getElem?_eraseIdx, List.getElem?_map]
        split <;> rfl
    refine ⟨.tuple ⟨[]⟩, hs', { w with heap := w.heap.setIfInBounds b (mapOf q (mdel k es) c) }, ?_, ⟨rfl, rfl⟩, ?_⟩
    · simp [execOp, hr.eval hx, hr.eval hy, resolve, invoke, builtin, key]
    · refine s.upd u.out ?_ ?_ ?_ rfl rfl rfl
      · simp
      · intro i hi
        simp [Array.getElem?_setIfInBounds, Ne.symm hi]
      · simp [Array.getElem?_setIfInBounds, hlt, Ch.toObj]
theorem Val.lenM {T kT eT b c : Nat} {q : IntKind} {x : Operand} {es : List ME} (hx : ev e x = some (.map (some b))) [hT : MapT P T kT eT] [hb : Mem b (.obj (mapOf q es c)) hs] :
    Val P n w0 own e hs (.call { callee := .builtin .len, args := #[x], argTypes := #[T] }) (.int .i64 es.length) := fun a w ty pos aft g d hr s => by
  have h1 := s.mrow hb.out
  have h1' : w.heap[b]? = some (.map ⟨es.map (mentry q)⟩ c) := h1
  have hu := hT.out
  simp [execOp, hr.eval hx, resolve, invoke, builtin, Builtin.len_, run_underlying hu, goInt, MapKept.run_getObj_map h1']
theorem Val.max2 {x y : Operand} {q : IntKind} {i j : Int} {ts : Array TypeId} (hx : ev e x = some (.int q i)) (hy : ev e y = some (.int q j)) :
    Val P n w0 own e hs (.call { callee := .builtin .max, args := #[x, y], argTypes := ts }) (.int q (max i j)) := fun a w ty pos aft g d hr s => by
  simp [execOp, hr.eval hx, hr.eval hy, resolve, invoke, builtin, Builtin.max_, Builtin.max2]
  by_cases h : i < j
  · simp [h]; omega
  · simp [h]; omega
theorem Eff.range {T kT eT b c : Nat} {q : IntKind} {x : Operand} {es : List ME} (hx : ev e x = some (.map (some b))) [hT : MapT P T kT eT] [hb : Mem b (.obj (mapOf q es c)) hs] :
    Eff P n w0 own e hs (.range T x) (NewP hs (iter_ b c [] c)) :=
  Eff.of_run fun a w ty pos aft g d hr s => by
    have h1 := s.mrow hb.out
    have h1' : w.heap[b]? = some (.map ⟨es.map (mentry q)⟩ c) := h1
    refine ⟨.pointer (some ⟨w.heap.size, 0, none⟩), _, w.alloc (.mapIter (some b) c #[] c), ?_, ⟨w.heap.size, rfl, rfl⟩, s.new (iter_ b c [] c)⟩
    have key : (Instr.range T (.map (some b))).run P w = .ok (.pointer (some ⟨w.heap.size, 0, none⟩)) (w.alloc (.mapIter (some b) c #[] c)) := by
      unfold Instr.range
      simp [run_underlying hT.out, MapKept.run_getObj_map h1', run_newObj_alloc]
    simp [execOp, hr.eval hx, key]
theorem left_nil {q : IntKind} {es : List ME} {seen : List Nat} : (leftOf ⟨es.map (mentry q)⟩ ⟨seen⟩).size = 0 ↔ ∀ x ∈ es, x.born ∈ seen := by
  unfold leftOf
  rw [Array.size_eq_zero_iff, Array.filter_eq_empty_iff]
  constructor
  · intro h x hx
    have := h (mentry q x) (by simp; exact ⟨_, _, _, hx, rfl⟩)
    simpa [mentry] using this
  · intro h y hy
    simp at hy
    obtain ⟨a, b, c, hx, rfl⟩ := hy
    simpa [mentry] using h _ hx
theorem Eff.next {r b since last c : Nat} {q : IntKind} {x : Operand} {es : List ME} {seen : List Nat} {fr : Hp} (hx : ev e x = some (.pointer (some ⟨r, 0, none⟩))) [hr_ : Rem (r, iter_ b since seen last) hs fr] [hb : Mem b (.obj (mapOf q es c)) hs]
    (hold : ∀ y ∈ es, y.born < since) (hl : since ≤ last) :
    Eff P n w0 own e hs (.next x false) (fun v h => (v = .tuple ⟨[.bool false]⟩ ∧ (∀ y ∈ es, y.born ∈ seen) ∧ h = hs) ∨
      ∃ y ∈ es, y.born ∉ seen ∧ v = .tuple ⟨[.bool true, .int q y.1, y.2.1]⟩ ∧ h = (r, iter_ b since (seen ++ [y.born]) c) :: fr) :=
  Eff.of_run fun a w ty pos aft g d hr s => by
    have h1 := s.mrow hb.out
    have h1' : w.heap[b]? = some (.map ⟨es.map (mentry q)⟩ c) := h1
    have hrr : w.heap[r]? = some (.mapIter (some b) since ⟨seen⟩ last) := s.has r _ (hr_.out.mem_iff.2 List.mem_cons_self)
    have hlt : r < w.heap.size := (Array.getElem?_eq_some_iff.1 hrr).1
    rcases run_next_at (P := P) w ty r b since last ⟨seen⟩ ⟨es.map (mentry q)⟩ c hrr h1' (by
      intro y hy
      simp at hy
      obtain ⟨a, b, c, hm, rfl⟩ := hy
      exact hold _ hm) hl with ⟨h0, hrun⟩ | ⟨y, hy, w1, hw1, hrun⟩
    · exact ⟨_, hs, w, by simp [execOp, hr.eval hx, hrun], .inl ⟨rfl, left_nil.1 h0, rfl⟩, s⟩
    · unfold leftOf at hy
      simp at hy
      obtain ⟨⟨a1, a2, a3, hm, rfl⟩, hns⟩ := hy
      have hpu : (⟨seen⟩ : Array Nat).push (mentry q (a1, a2, a3)).born = ⟨seen ++ [a3]⟩ := by apply Array.ext'; simp [mentry]
      rw [hpu] at hrun
      have s1 : Sat w0 own hs w1 := by rcases hw1 with rfl | rfl; exact s; exact s.drew
      have s2 := (s1.perm hr_.out).upd (w' := ChangeMaps.setBlock w1 r (.mapIter (some b) since ⟨seen ++ [a3]⟩ c)) (c := iter_ b since (seen ++ [a3]) c) (.head) (by simp [ChangeMaps.setBlock]) (fun i hi => by simp [ChangeMaps.setBlock, Array.getElem?_setIfInBounds, Ne.symm hi]) (by
        have hlt1 : r < w1.heap.size := by rcases hw1 with rfl | rfl <;> exact hlt
        simp [ChangeMaps.setBlock, Array.getElem?_setIfInBounds, hlt1, Ch.toObj]) rfl rfl rfl
      exact ⟨_, _, _, by simp [execOp, hr.eval hx, hrun, mentry], .inr ⟨(a1, a2, a3), hm, by simpa [mentry] using hns, rfl, rfl⟩, s2⟩
theorem Val.entry {r b since c : Nat} {q : IntKind} {x : Operand} {es : List ME} {seen : List Nat} {y : ME} (hx : ev e x = some (.pointer (some ⟨r, 0, none⟩))) [hr_ : Mem r (iter_ b since (seen ++ [y.born]) c) hs] [hb : Mem b (.obj (mapOf q es c)) hs]
    (hy : y ∈ es) (hn : (es.map ME.born).Nodup) : Val P n w0 own e hs (.entry x) (.tuple ⟨[.int q y.1, y.2.1]⟩) := fun a w ty pos aft g d hr s => by
  have h1 := s.mrow hb.out
  have h1' : w.heap[b]? = some (.map ⟨es.map (mentry q)⟩ c) := h1
  have hrr : w.heap[r]? = some (.mapIter (some b) since ⟨seen ++ [y.born]⟩ c) := s.has r _ hr_.out
  have hpu : (⟨seen ++ [y.born]⟩ : Array Nat) = (⟨seen⟩ : Array Nat).push (mentry q y).born := by apply Array.ext'; simp [mentry]
  rw [hpu] at hrr
  have := run_entry_at (P := P) w r b since ⟨seen⟩ ⟨es.map (mentry q)⟩ c (mentry q y) hrr h1' (by simp; exact ⟨_, _, _, hy, rfl⟩) (by
    simpa [List.map_map, Function.comp_def, mentry] using hn)
  simp [execOp, hr.eval hx, this, mentry]
end
section
variable {P : Program} {n : Nat} {w0 : World} {own : List Nat} {e : Env} {hs F : Hp} {ops : Array Oper} {rest : List Oper} {K : Env → Hp → Prop}
variable {d : Nat} {ty : TypeId} {pos : String} {aft : Array Edge} {g : Option (Nat × Bool)}
/-- what works on memory and leaves nothing, when it is alone -/
theorem JK.ef0 {op : Op} {R : Value → Hp → Prop} (h : Eff P n w0 own e hs op R) (hF : ∀ v hs', R v hs' → F ⊆ hs → F ⊆ hs') (kk : ∀ v hs', R v hs' → JK P n w0 own ops F rest e hs' K)
    (hE : isEff ⟨none, op, ty, pos, aft, g⟩ = true := by rfl) (hg : wantB ops e g = some true := by rfl) : JK P n w0 own ops F (⟨none, op, ty, pos, aft, g⟩ :: rest) e hs K := by
  intro m is listed Z h1 h2 h3 hz
  cases is with
  | nil => exact h1.elim
  | cons k is =>
  obtain ⟨h0, h1⟩ := h1
  unfold ordB at h2
  rw [Bool.and_eq_true, Bool.or_eq_true, Bool.and_eq_true] at h2
  rw [show (⟨none, op, ty, pos, aft, g⟩ :: rest : List Oper).length + m = (rest.length + m) + 1 from by simp; omega]
  rcases h2.1 with ho | ⟨hn, _⟩
  · exact JD.ef0 k h0 ho h (fun v hs' r => kk v hs' r m is _ Z h1 h2.2 (hF v hs' r h3) hz) hF hg
  · rw [hE] at hn; cases hn
theorem JY.nw {z : Nat} {late : Bool} {K' : Bool → Env → Hp → Prop} {op : Op} {c : Ch} (h : Eff P n w0 own e hs op (NewP hs c)) (kk : ∀ b, JY P n w0 own ops F z late rest ((d, .pointer (some ⟨b, 0, none⟩)) :: e) ((b, c) :: hs) K')
    (hE : isEff ⟨some d, op, ty, pos, aft, g⟩ = true := by rfl) (hdn : Nat.blt d n = true := by rfl) (hg : wantB ops e g = some true := by rfl) (hzo : ((ops[z]?).map (·.dst.isNone)) = some true := by rfl) : JY P n w0 own ops F z late (⟨some d, op, ty, pos, aft, g⟩ :: rest) e hs K' :=
  .ef h (fun v h' ⟨b, _, e2⟩ f => by subst e2; exact fun p hp => List.mem_cons_of_mem _ (f hp)) (fun v h' ⟨b, e1, e2⟩ => by subst e1; subst e2; exact kk b) hE hdn hg hzo
/-- a record stored into a record -/
theorem Eff.storeR {T m b o U : Nat} {x y : Operand} {vs l : List Value} {hs' : Hp} (l' : List Value) (hx : ev e x = some (.pointer (some ⟨b, o, none⟩))) (hy : ev e y = some (.agg ⟨vs⟩)) [hT : Sz P T m] [hb : Mem b (.cells l U) hs]
    [u : UpdI b (.cells l' U) hs hs'] (hm : vs.length = m := by rfl) (h1 : ones vs = true := by rfl) (ho : Nat.ble (o + vs.length) l.length = true := by rfl) (hl : splice l o vs = l' := by rfl) : Eff P n w0 own e hs (.store T x y) (fun v h => v = undef ∧ h = hs') := by
  subst hl
  exact Eff.storeA hx hy hm h1 (Nat.le_of_ble_eq_true ho)
end
end V
end Go

/- VMA: maps whose keys are numbers, told as functions. -/
namespace Go
namespace V
open Go.RowKit
set_option linter.unusedVariables false
set_option linter.unusedSimpArgs false

theorem mfind_none (k : Int) : ∀ (es : List ME) (i : Nat), mfind k es i = none ↔ ∀ y ∈ es, y.1 ≠ k
  | [], i => by simp [mfind]
  | x :: es, i => by
    unfold mfind
    cases hk : k == x.1 with
    | true =>
      have := beq_iff_eq.1 hk
      simp only [if_true, reduceCtorEq, List.mem_cons, false_iff]
      exact fun h => h x (.inl rfl) this.symm
    | false =>
      have hne : x.1 ≠ k := fun e => by rw [e] at hk; simp at hk
      simp only [Bool.false_eq_true, if_false, List.mem_cons]
      rw [mfind_none k es (i + 1)]
      exact ⟨fun h y hy => by rcases hy with rfl | hy; exact hne; exact h y hy, fun h y hy => h y (.inr hy)⟩
theorem mfind_app (k : Int) : ∀ (a b : List ME) (i : Nat), mfind k (a ++ b) i = match mfind k a i with | some x => some x | none => mfind k b (i + a.length)
  | [], b, i => by simp [mfind]
  | x :: a, b, i => by
    simp only [List.cons_append, mfind]
    cases hk : k == x.1 with
    | true => simp
    | false => simp only [Bool.false_eq_true, if_false]; rw [mfind_app k a b (i + 1), List.length_cons, show i + 1 + a.length = i + (a.length + 1) from by omega]
/-- each key once, each birth once, all of them past -/
structure MOk (es : List ME) (c : Nat) : Prop where
  k : (es.map (·.1)).Nodup
  b : (es.map (·.2.2)).Nodup
  c : ∀ y ∈ es, y.2.2 < c
theorem MOk.nil : MOk [] 0 := ⟨by simp, by simp, by simp⟩
theorem mget_eq (k : Int) : ∀ (es : List ME), mget k es = (es.find? fun y => k == y.1).map (·.2.1) := by
  intro es
  unfold mget
  suffices h : ∀ (es : List ME) (i : Nat), (mfind k es i).map (·.2) = (es.find? fun y => k == y.1).map (·.2.1) from h es 0
  intro es
  induction es with
  | nil => intro i; simp [mfind]
  | cons x es ih =>
    intro i
    unfold mfind
    rw [List.find?_cons]
    cases hk : k == x.1 with
    | true => simp
    | false => simpa using ih (i + 1)
theorem mget_none {k : Int} {es : List ME} : mget k es = none ↔ ∀ y ∈ es, y.1 ≠ k := by
  unfold mget
  rw [Option.map_eq_none_iff]
  exact mfind_none k es 0
theorem mget_some {k : Int} {es : List ME} {v : Value} (h : mget k es = some v) : ∃ y ∈ es, y.1 = k ∧ y.2.1 = v := by
  rw [mget_eq] at h
  cases hf : es.find? (fun y => k == y.1) with
  | none => rw [hf] at h; cases h
  | some y =>
    rw [hf] at h
    have h1 := List.find?_some hf
    exact ⟨y, List.mem_of_find?_eq_some hf, (beq_iff_eq.1 h1).symm, by simpa using h⟩
theorem nodup_inj {α β : Type} {f : α → β} : ∀ {l : List α}, (l.map f).Nodup → ∀ {x y : α}, x ∈ l → y ∈ l → f x = f y → x = y
  | [], _, x, y, hx, _, _ => by cases hx
  | a :: l, h, x, y, hx, hy, e => by
    simp only [List.map_cons, List.nodup_cons] at h
    rcases List.mem_cons.1 hx with hx1 | hx1 <;> rcases List.mem_cons.1 hy with hy1 | hy1
    · rw [hx1, hy1]
    · exact absurd (List.mem_map.2 ⟨y, hy1, by rw [← e, hx1]⟩) h.1
    · exact absurd (List.mem_map.2 ⟨x, hx1, by rw [e, hy1]⟩) h.1
    · exact nodup_inj h.2 hx1 hy1 e
theorem MOk.get {es : List ME} {c : Nat} (h : MOk es c) {y : ME} (hy : y ∈ es) : mget y.1 es = some y.2.1 := by
  cases hg : mget y.1 es with
  | none => exact absurd rfl (mget_none.1 hg y hy)
  | some v =>
    obtain ⟨z, hz, e1, e2⟩ := mget_some hg
    have := nodup_inj h.k hz hy e1
    subst this
    rw [← e2]
theorem mset_old {k : Int} {v u : Value} {es : List ME} {c i : Nat} (h : mfind k es 0 = some (i, u)) : mset k v es c = (es.modify i fun x => (k, v, x.2.2), c) := by
  unfold mset; rw [h]
theorem mset_new {k : Int} {v : Value} {es : List ME} {c : Nat} (h : mfind k es 0 = none) : mset k v es c = (es ++ [(k, v, c)], c + 1) := by
  unfold mset; rw [h]
theorem mfind_split {k : Int} {es : List ME} {i : Nat} {u : Value} (h : mfind k es 0 = some (i, u)) : ∃ x, es = es.take i ++ x :: es.drop (i + 1) ∧ x.1 = k ∧ i < es.length ∧ ∀ f : ME → ME, es.modify i f = es.take i ++ f x :: es.drop (i + 1) := by
  obtain ⟨_, x, h1, h2, h3⟩ := mfind_key k es 0 i u h
  rw [Nat.sub_zero] at h1
  obtain ⟨hi, rfl⟩ := List.getElem?_eq_some_iff.1 h1
  exact ⟨es[i], by rw [← List.drop_eq_getElem_cons hi, List.take_append_drop], h2, hi, fun f => List.modify_eq_take_cons_drop hi⟩
theorem MOk.set {es : List ME} {c : Nat} (h : MOk es c) (k : Int) (v : Value) : MOk (mset k v es c).1 (mset k v es c).2 := by
  cases hf : mfind k es 0 with
  | none =>
    rw [mset_new hf]
    have hn := (mfind_none k es 0).1 hf
    refine ⟨?_, ?_, ?_⟩
    · simp only [List.map_append, List.map_cons, List.map_nil]
      rw [List.nodup_append]
      refine ⟨h.k, by simp, fun a ha b hb => ?_⟩
      simp at hb; subst hb
      obtain ⟨y, hy, rfl⟩ := List.mem_map.1 ha
      exact hn y hy
    · simp only [List.map_append, List.map_cons, List.map_nil]
      rw [List.nodup_append]
      refine ⟨h.b, by simp, fun a ha b hb => ?_⟩
      simp at hb; subst hb
      obtain ⟨y, hy, rfl⟩ := List.mem_map.1 ha
      have := h.c y hy; omega
    · intro y hy
      rcases List.mem_append.1 hy with hy | hy
      · exact Nat.lt_succ_of_lt (h.c y hy)
      · simp at hy; subst hy; exact Nat.lt_succ_self _
  | some x =>
    obtain ⟨i, u⟩ := x
    rw [mset_old hf]
    obtain ⟨x, e1, e2, _, e3⟩ := mfind_split hf
    dsimp only
    rw [e3]
    have hk := h.k
    have hb := h.b
    rw [e1] at hk hb
    refine ⟨?_, ?_, fun y hy => ?_⟩
    · simp only [List.map_append, List.map_cons] at hk ⊢
      rw [← e2]; exact hk
    · simp only [List.map_append, List.map_cons] at hb ⊢
      exact hb
    · rcases List.mem_append.1 hy with hy | hy
      · exact h.c y (List.mem_of_mem_take hy)
      · rcases List.mem_cons.1 hy with rfl | hy
        · exact h.c x (by rw [e1]; simp)
        · exact h.c y (List.mem_of_mem_drop hy)
theorem mget_set (j k : Int) (v : Value) (es : List ME) (c : Nat) : mget j (mset k v es c).1 = if j = k then some v else mget j es := by
  cases hf : mfind k es 0 with
  | none =>
    rw [mset_new hf]
    have hn := (mfind_none k es 0).1 hf
    rw [mget_eq, mget_eq, List.find?_append]
    by_cases e : j = k
    · subst e
      rw [if_pos rfl, List.find?_eq_none.2 (fun y hy => by have := hn y hy; simp [Ne.symm this])]
      simp
    · rw [if_neg e]
      have : (j == k) = false := by simpa using e
      simp [List.find?_cons, this]
  | some x =>
    obtain ⟨i, u⟩ := x
    rw [mset_old hf]
    obtain ⟨x, e1, e2, _, e3⟩ := mfind_split hf
    dsimp only
    rw [e3, mget_eq, mget_eq]
    have hnb : ∀ y ∈ es.take i, y.1 ≠ k := by
      intro y hy e
      have hfirst : mfind k (es.take i ++ x :: es.drop (i + 1)) 0 = some (i, u) := by rw [← e1]; exact hf
      rw [mfind_app] at hfirst
      cases h0 : mfind k (es.take i) 0 with
      | none => exact (mfind_none k _ 0).1 h0 y hy e
      | some z =>
        rw [h0] at hfirst
        have hz : z = (i, u) := Option.some.inj hfirst
        subst hz
        obtain ⟨_, y', h1, _⟩ := mfind_key k _ 0 i u h0
        have := (List.getElem?_eq_some_iff.1 h1).1
        simp at this
        omega
    by_cases e : j = k
    · subst e
      rw [if_pos rfl, List.find?_append, List.find?_eq_none.2 (fun y hy => by have := hnb y hy; simp [Ne.symm this])]
      simp
    · rw [if_neg e]
      have h1 : (j == k) = false := by simpa using e
      have h2 : (j == x.1) = false := by rw [e2]; exact h1
      conv => rhs; rw [e1]
      rw [List.find?_append, List.find?_append, List.find?_cons, List.find?_cons, h1, h2]
theorem mset_len (k : Int) (v : Value) (es : List ME) (c : Nat) : (mset k v es c).1.length = es.length + if (mget k es).isSome then 0 else 1 := by
  unfold mget
  cases hf : mfind k es 0 with
  | none => rw [mset_new hf]; simp
  | some x => obtain ⟨i, u⟩ := x; rw [mset_old hf]; simp
theorem MOk.del {es : List ME} {c : Nat} (h : MOk es c) (k : Int) : MOk (mdel k es) c := by
  unfold mdel
  cases mfind k es 0 with
  | none => exact h
  | some x => exact ⟨h.k.sublist ((List.eraseIdx_sublist _ _).map _), h.b.sublist ((List.eraseIdx_sublist _ _).map _), fun y hy => h.c y ((List.eraseIdx_sublist _ _).subset hy)⟩
theorem mget_del {es : List ME} {c : Nat} (h : MOk es c) (j k : Int) : mget j (mdel k es) = if j = k then none else mget j es := by
  unfold mdel
  cases hf : mfind k es 0 with
  | none =>
    by_cases e : j = k
    · subst e; rw [if_pos rfl, mget_none]; exact (mfind_none j es 0).1 hf
    · rw [if_neg e]
  | some x =>
    obtain ⟨i, u⟩ := x
    obtain ⟨x, e1, e2, hi, _⟩ := mfind_split hf
    dsimp only
    rw [List.eraseIdx_eq_take_drop_succ]
    by_cases e : j = k
    · subst e
      rw [if_pos rfl, mget_none]
      intro y hy hy'
      have hyes : y ∈ es := by
        rcases List.mem_append.1 hy with hy | hy
        · exact List.mem_of_mem_take hy
        · exact List.mem_of_mem_drop hy
      have hk := h.k
      rw [e1, List.map_append, List.map_cons, List.nodup_append] at hk
      obtain ⟨_, k2, k3⟩ := hk
      rcases List.mem_append.1 hy with hy | hy
      · exact k3 y.1 (List.mem_map.2 ⟨y, hy, rfl⟩) x.1 (by simp) (by rw [hy', e2])
      · have := (List.nodup_cons.1 k2).1
        exact this (List.mem_map.2 ⟨y, hy, by rw [hy', e2]⟩)
    · rw [if_neg e, mget_eq, mget_eq]
      have h2 : (j == x.1) = false := by rw [e2]; simpa using e
      conv => rhs; rw [e1]
      rw [List.find?_append, List.find?_append, List.find?_cons, h2]
theorem mdel_len {es : List ME} (k : Int) : (mdel k es).length = es.length - if (mget k es).isSome then 1 else 0 := by
  unfold mdel mget
  cases hf : mfind k es 0 with
  | none => simp
  | some x =>
    obtain ⟨i, u⟩ := x
    obtain ⟨x, e1, e2, hi, _⟩ := mfind_split hf
    simp [List.length_eraseIdx, hi]
end V
end Go

/- Sorting that keeps what is equal in its order, plain. -/
namespace Go.Proofs.Ytamldmgdhaoigaa
set_option linter.unusedVariables false
set_option linter.unusedSimpArgs false

section
variable {α : Type} (key : α → Int)
def Srk (l : List α) : Prop := l.Pairwise fun x y => key x ≤ key y
/-- those of one key -/
def kf (k : Int) (l : List α) : List α := l.filter fun x => decide (key x = k)
/-- sorted, and those of one key as they stood -/
structure St (l z : List α) : Prop where
  s : Srk key z
  f : ∀ k, kf key k z = kf key k l
theorem kf_app (k : Int) (a b : List α) : kf key k (a ++ b) = kf key k a ++ kf key k b := List.filter_append ..
theorem mem_kf {x : α} {l : List α} : x ∈ l ↔ x ∈ kf key (key x) l := by
  unfold kf; rw [List.mem_filter]; simp
variable {key}
theorem St.mem {l z : List α} (h : St key l z) (x : α) : x ∈ z ↔ x ∈ l := by
  rw [mem_kf key, h.f, ← mem_kf key]
theorem St.refl {l : List α} (h : Srk key l) : St key l l := ⟨h, fun _ => rfl⟩
theorem St.front {a b z : List α} (h : St key a b) (x : List α) (k : St key (b ++ x) z) : St key (a ++ x) z := ⟨k.s, fun i => by rw [k.f, kf_app, kf_app, h.f]⟩
theorem St.uniq : ∀ {z z' l : List α}, St key l z → St key l z' → z = z'
  | [], [], _, _, _ => rfl
  | [], y :: z', l, h, h' => by
    have := (h.mem y).2 ((h'.mem y).1 List.mem_cons_self)
    cases this
  | x :: z, [], l, h, h' => by
    have := (h'.mem x).2 ((h.mem x).1 List.mem_cons_self)
    cases this
  | x :: z, y :: z', l, h, h' => by
    obtain ⟨s1, s2⟩ := List.pairwise_cons.1 h.s
    obtain ⟨t1, t2⟩ := List.pairwise_cons.1 h'.s
    have hx := (h'.mem x).2 ((h.mem x).1 List.mem_cons_self)
    have hy := (h.mem y).2 ((h'.mem y).1 List.mem_cons_self)
    have e1 : key x ≤ key y := by
      rcases List.mem_cons.1 hy with rfl | hy
      · exact Int.le_refl _
      · exact s1 y hy
    have e2 : key y ≤ key x := by
      rcases List.mem_cons.1 hx with rfl | hx
      · exact Int.le_refl _
      · exact t1 x hx
    have e : key x = key y := by omega
    have hf := (h.f (key x)).trans (h'.f (key x)).symm
    unfold kf at hf
    rw [List.filter_cons_of_pos (by simp), List.filter_cons_of_pos (by simp [e])] at hf
    obtain ⟨rfl, hf2⟩ := List.cons.inj hf
    congr 1
    refine St.uniq (l := z) ⟨s2, fun _ => rfl⟩ ⟨t2, fun k => ?_⟩
    by_cases hk : key x = k
    · subst hk; exact hf2.symm
    · have := (h.f k).trans (h'.f k).symm
      unfold kf at this
      rw [List.filter_cons_of_neg (by simpa using hk), List.filter_cons_of_neg (by simpa using hk)] at this
      exact this.symm
theorem kf_nil {k : Int} {l : List α} (h : ∀ x ∈ l, key x ≠ k) : kf key k l = [] := by
  unfold kf; rw [List.filter_eq_nil_iff]; intro x hx; simpa using h x hx
theorem St.merge {A1 A2 B1 B2 Z1 Z2 : List α} (hA : Srk key (A1 ++ A2)) (hB : Srk key (B1 ++ B2)) (h1 : ∀ y ∈ B1, ∀ x ∈ A2, key y < key x) (h2 : ∀ x ∈ A1, ∀ y ∈ B2, key x ≤ key y)
    (k1 : St key (A1 ++ B1) Z1) (k2 : St key (A2 ++ B2) Z2) : St key ((A1 ++ A2) ++ (B1 ++ B2)) (Z1 ++ Z2) := by
  have a := (List.pairwise_append.1 hA).2.2
  have b := (List.pairwise_append.1 hB).2.2
  refine ⟨List.pairwise_append.2 ⟨k1.s, k2.s, fun x hx y hy => ?_⟩, fun k => ?_⟩
  · rcases List.mem_append.1 ((k1.mem x).1 hx) with hx | hx <;> rcases List.mem_append.1 ((k2.mem y).1 hy) with hy | hy
    · exact a x hx y hy
    · exact h2 x hx y hy
    · exact Int.le_of_lt (h1 x hx y hy)
    · exact b x hx y hy
  · rw [kf_app, k1.f, k2.f, kf_app, kf_app, kf_app, kf_app, kf_app]
    have hc : kf key k B1 ++ kf key k A2 = kf key k A2 ++ kf key k B1 := by
      by_cases e : ∃ y ∈ B1, key y = k
      · obtain ⟨y, hy, rfl⟩ := e
        rw [kf_nil (l := A2) fun x hx e => by have := h1 y hy x hx; omega]; simp
      · rw [kf_nil (l := B1) fun y hy e' => e ⟨y, hy, e'⟩]; simp
    rw [List.append_assoc, ← List.append_assoc (kf key k B1), hc]
    simp only [List.append_assoc]
theorem srk_nil : Srk key ([] : List α) := List.Pairwise.nil
theorem srk_one (x : α) : Srk key [x] := List.pairwise_singleton ..
/-- one put into a sorted list, behind its equals -/
theorem St.ins {P1 P2 : List α} {x : α} (h : Srk key (P1 ++ P2)) (h1 : ∀ y ∈ P2, key x < key y) (h2 : ∀ y ∈ P1, key y ≤ key x) : St key ((P1 ++ P2) ++ [x]) (P1 ++ ([x] ++ P2)) := by
  have hs := List.pairwise_append.1 h
  have := St.merge (A1 := P1) (A2 := P2) (B1 := [x]) (B2 := []) (Z1 := P1 ++ [x]) (Z2 := P2) h (srk_one x) (fun y hy z hz => by rw [List.mem_singleton.1 hy]; exact h1 z hz) (fun _ _ y hy => by cases hy)
    (.refl (List.pairwise_append.2 ⟨hs.1, srk_one x, fun y hy z hz => by rw [List.mem_singleton.1 hz]; exact h2 y hy⟩)) (by rw [List.append_nil]; exact .refl hs.2.1)
  rw [List.append_nil] at this
  rw [← List.append_assoc P1 [x] P2]
  exact this
/-- one put into a sorted list, ahead of its equals -/
theorem St.ahead {P1 P2 : List α} {x : α} (h : Srk key (P1 ++ P2)) (h1 : ∀ y ∈ P1, key y < key x) (h2 : ∀ y ∈ P2, key x ≤ key y) : St key ([x] ++ (P1 ++ P2)) (P1 ++ ([x] ++ P2)) := by
  have hs := List.pairwise_append.1 h
  have := St.merge (A1 := []) (A2 := [x]) (B1 := P1) (B2 := P2) (Z1 := P1) (Z2 := [x] ++ P2) (srk_one x) h (fun y hy z hz => by rw [List.mem_singleton.1 hz]; exact h1 y hy) (fun _ hy => by cases hy)
    (.refl hs.1) (.refl (List.pairwise_append.2 ⟨srk_one x, hs.2.1, fun y hy z hz => by rw [List.mem_singleton.1 hy]; exact h2 z hz⟩))
  exact this
theorem srk_get [Inhabited α] {l : List α} (h : Srk key l) {i j : Nat} (hij : i ≤ j) (hj : j < l.length) : key l[i]! ≤ key l[j]! := by
  rw [getElem!_pos l i (by omega), getElem!_pos l j hj]
  rcases Nat.lt_or_ge i j with h1 | h1
  · exact List.pairwise_iff_getElem.1 h i j (by omega) hj h1
  · have : i = j := by omega
    subst this; exact Int.le_refl _
theorem mem_take_get [Inhabited α] {l : List α} {k : Nat} {x : α} (h : x ∈ l.take k) : ∃ i, i < k ∧ i < l.length ∧ x = l[i]! := by
  obtain ⟨i, hi, rfl⟩ := List.mem_iff_getElem.1 h
  rw [List.length_take] at hi
  exact ⟨i, by omega, by omega, by rw [getElem!_pos l i (by omega), List.getElem_take]⟩
theorem mem_drop_get [Inhabited α] {l : List α} {k : Nat} {x : α} (h : x ∈ l.drop k) : ∃ i, k ≤ i ∧ i < l.length ∧ x = l[i]! := by
  obtain ⟨i, hi, rfl⟩ := List.mem_iff_getElem.1 h
  rw [List.length_drop] at hi
  exact ⟨k + i, by omega, by omega, by rw [getElem!_pos l (k + i) (by omega), List.getElem_drop]⟩
/-- where two sorted lists are cut, so that what is behind the first cut and ahead of the second one changes places -/
theorem sym_cut [Inhabited α] {A B : List α} (hA : Srk key A) (hB : Srk key B) {H lo hi s : Nat} (hH : H = (A.length + B.length) / 2)
    (hr : (A.length > H ∧ lo = H - B.length ∧ hi = H) ∨ (A.length ≤ H ∧ lo = 0 ∧ hi = A.length)) (h1 : lo ≤ s) (h2 : s ≤ hi)
    (hlo : ∀ i, lo ≤ i → i < s → ¬ key B[H - 1 - i]! < key A[i]!) (hhi : ∀ i, s ≤ i → i < hi → key B[H - 1 - i]! < key A[i]!) :
    s ≤ A.length ∧ H - s ≤ B.length ∧ s ≤ H ∧ (∀ y ∈ B.take (H - s), ∀ x ∈ A.drop s, key y < key x) ∧ (∀ x ∈ A.take s, ∀ y ∈ B.drop (H - s), key x ≤ key y) := by
  refine ⟨by omega, by omega, by omega, fun y hy x hx => ?_, fun x hx y hy => ?_⟩
  · obtain ⟨j, j1, j2, rfl⟩ := mem_take_get hy
    obtain ⟨i, i1, i2, rfl⟩ := mem_drop_get hx
    have hs : s < hi := by omega
    have := hhi s (Nat.le_refl _) hs
    have a1 := srk_get hA (i := s) (j := i) i1 i2
    have a2 := srk_get hB (i := j) (j := H - 1 - s) (by omega) (by omega)
    omega
  · obtain ⟨i, i1, i2, rfl⟩ := mem_take_get hx
    obtain ⟨j, j1, j2, rfl⟩ := mem_drop_get hy
    have hs : lo < s := by omega
    have := hlo (s - 1) (by omega) (by omega)
    rw [show H - 1 - (s - 1) = H - s by omega] at this
    have a1 := srk_get hA (i := i) (j := s - 1) (by omega) (by omega)
    have a2 := srk_get hB (i := H - s) (j := j) j1 j2
    omega
/-! ### sorted block by block -/
variable (key)
inductive Chk (bs : Nat) : List α → Prop
  | last {l : List α} : l.length ≤ bs → Srk key l → Chk bs l
  | cons {A R : List α} : A.length = bs → Srk key A → Chk bs R → Chk bs (A ++ R)
inductive Blk (bs : Nat) : List α → Prop
  | nil : Blk bs []
  | snoc {X A : List α} : Blk bs X → A.length = bs → Srk key A → Blk bs (X ++ A)
variable {key}
theorem Blk.chk {bs : Nat} {X : List α} (h : Blk key bs X) : ∀ {R : List α}, Chk key bs R → Chk key bs (X ++ R) := by
  induction h with
  | nil => intro R k; exact k
  | snoc _ h1 h2 ih => intro R k; rw [List.append_assoc]; exact ih (.cons h1 h2 k)
theorem Chk.small {bs : Nat} {l : List α} (h : Chk key bs l) (hl : l.length ≤ bs) : Srk key l := by
  cases h with
  | last _ h => exact h
  | cons h1 h2 h3 =>
    rename_i A R
    have : R = [] := by
      apply List.length_eq_zero_iff.1
      rw [List.length_append] at hl; omega
    subst this
    rw [List.append_nil]; exact h2
theorem Chk.one {bs : Nat} {l : List α} (h : Chk key bs l) (hl : bs < l.length) : ∃ A R, l = A ++ R ∧ A.length = bs ∧ Srk key A ∧ Chk key bs R := by
  cases h with
  | last h1 _ => omega
  | cons h1 h2 h3 => exact ⟨_, _, rfl, h1, h2, h3⟩
theorem Chk.two {bs : Nat} {l : List α} (h : Chk key bs l) (h0 : 0 < bs) (hl : 2 * bs ≤ l.length) : ∃ A B R, l = A ++ (B ++ R) ∧ A.length = bs ∧ B.length = bs ∧ Srk key A ∧ Srk key B ∧ Chk key bs R := by
  obtain ⟨A, R, rfl, a1, a2, a3⟩ := h.one (by omega)
  rw [List.length_append] at hl
  rcases Nat.lt_or_ge bs R.length with h1 | h1
  · obtain ⟨B, R', rfl, b1, b2, b3⟩ := a3.one h1
    exact ⟨A, B, R', rfl, a1, b1, a2, b2, b3⟩
  · exact ⟨A, R, [], by rw [List.append_nil], a1, by omega, a2, a3.small h1, .last (Nat.zero_le _) srk_nil⟩
end
end Go.Proofs.Ytamldmgdhaoigaa

/- YtamldmgdhaoigaaTy: the facts on types and functions that V's rules ask for: written by ty.py. -/
namespace Go.Proofs.Ytamldmgdhaoigaa
open Go.V
instance : Sc Try.prog 3 := Sc.of (by kernel_rfl)
instance : Sz Try.prog 3 1 := Sz.of (by kernel_rfl)
instance : Zr Try.prog 3 ([.int .i64 0]) := Zr.of (v := .int .i64 0) (by kernel_rfl) rfl
instance : ZrV Try.prog 3 (.int .i64 0) := ZrV.of (by kernel_rfl)
instance : El Try.prog 3 1 8 ([.int .i64 0]) := El.of (v := .int .i64 0) (by kernel_rfl) (by kernel_rfl) rfl rfl
instance : IntT Try.prog 3 .i64 := ⟨by kernel_rfl⟩
instance : Sc Try.prog 4 := Sc.of (by kernel_rfl)
instance : Sz Try.prog 4 1 := Sz.of (by kernel_rfl)
instance : Zr Try.prog 4 ([.bool false]) := Zr.of (v := .bool false) (by kernel_rfl) rfl
instance : ZrV Try.prog 4 (.bool false) := ZrV.of (by kernel_rfl)
instance : BoolT Try.prog 4 := ⟨by kernel_rfl⟩
instance : Sc Try.prog 5 := Sc.of (by kernel_rfl)
instance : Sz Try.prog 5 1 := Sz.of (by kernel_rfl)
instance : Zr Try.prog 5 ([.int .u8 0]) := Zr.of (v := .int .u8 0) (by kernel_rfl) rfl
instance : ZrV Try.prog 5 (.int .u8 0) := ZrV.of (by kernel_rfl)
instance : IntT Try.prog 5 .u8 := ⟨by kernel_rfl⟩
instance : Sc Try.prog 9 := Sc.of (by kernel_rfl)
instance : Sz Try.prog 9 1 := Sz.of (by kernel_rfl)
instance : Zr Try.prog 9 ([.string ⟨#[]⟩]) := Zr.of (v := .string ⟨#[]⟩) (by kernel_rfl) rfl
instance : ZrV Try.prog 9 (.string ⟨#[]⟩) := ZrV.of (by kernel_rfl)
instance : StrT Try.prog 9 := ⟨by kernel_rfl⟩
instance : Sc Try.prog 22 := Sc.of (by kernel_rfl)
instance : Sz Try.prog 22 1 := Sz.of (by kernel_rfl)
instance : Zr Try.prog 22 ([.slice none 0 0]) := Zr.of (v := .slice none 0 0) (by kernel_rfl) rfl
instance : ZrV Try.prog 22 (.slice none 0 0) := ZrV.of (by kernel_rfl)
instance : SliceT Try.prog 22 36 := ⟨by kernel_rfl⟩
instance : Sc Try.prog 23 := Sc.of (by kernel_rfl)
instance : Sz Try.prog 23 1 := Sz.of (by kernel_rfl)
instance : Zr Try.prog 23 ([.slice none 0 0]) := Zr.of (v := .slice none 0 0) (by kernel_rfl) rfl
instance : ZrV Try.prog 23 (.slice none 0 0) := ZrV.of (by kernel_rfl)
instance : SliceT Try.prog 23 3 := ⟨by kernel_rfl⟩
instance : Sc Try.prog 25 := Sc.of (by kernel_rfl)
instance : Sz Try.prog 25 1 := Sz.of (by kernel_rfl)
instance : Zr Try.prog 25 ([.pointer none]) := Zr.of (v := .pointer none) (by kernel_rfl) rfl
instance : ZrV Try.prog 25 (.pointer none) := ZrV.of (by kernel_rfl)
instance : PtrT Try.prog 25 75 := ⟨by kernel_rfl⟩
instance : Sc Try.prog 28 := Sc.of (by kernel_rfl)
instance : Sz Try.prog 28 1 := Sz.of (by kernel_rfl)
instance : Zr Try.prog 28 ([.int .u64 0]) := Zr.of (v := .int .u64 0) (by kernel_rfl) rfl
instance : ZrV Try.prog 28 (.int .u64 0) := ZrV.of (by kernel_rfl)
instance : IntT Try.prog 28 .u64 := ⟨by kernel_rfl⟩
instance : Ag Try.prog 30 5 := Ag.of (by kernel_rfl)
instance : Sz Try.prog 30 5 := Sz.of (by kernel_rfl)
instance : Zr Try.prog 30 ([.int .i64 0, .int .u64 0, .int .u64 0, .int .i64 0, .int .i64 0]) := Zr.of (v := .agg ⟨[.int .i64 0, .int .u64 0, .int .u64 0, .int .i64 0, .int .i64 0]⟩) (by kernel_rfl) rfl
instance : ZrV Try.prog 30 (.agg ⟨[.int .i64 0, .int .u64 0, .int .u64 0, .int .i64 0, .int .i64 0]⟩) := ZrV.of (by kernel_rfl)
instance : EqT Try.prog 30 ([.i .i64, .i .u64, .i .u64, .i .i64, .i .i64]) := ⟨by kernel_rfl, by kernel_rfl, by kernel_rfl⟩
instance : StT Try.prog 30 [(0, 1), (1, 1), (2, 1), (3, 1), (4, 1)] ([.int .i64 0, .int .u64 0, .int .u64 0, .int .i64 0, .int .i64 0]) := StT.of (by kernel_rfl) (by kernel_rfl)
instance : El Try.prog 30 5 40 ([.int .i64 0, .int .u64 0, .int .u64 0, .int .i64 0, .int .i64 0]) := El.of (v := .agg ⟨[.int .i64 0, .int .u64 0, .int .u64 0, .int .i64 0, .int .i64 0]⟩) (by kernel_rfl) (by kernel_rfl) rfl rfl
instance : Sc Try.prog 34 := Sc.of (by kernel_rfl)
instance : Sz Try.prog 34 1 := Sz.of (by kernel_rfl)
instance : Zr Try.prog 34 ([.int .u32 0]) := Zr.of (v := .int .u32 0) (by kernel_rfl) rfl
instance : ZrV Try.prog 34 (.int .u32 0) := ZrV.of (by kernel_rfl)
instance : IntT Try.prog 34 .u32 := ⟨by kernel_rfl⟩
instance : Ag Try.prog 36 6 := Ag.of (by kernel_rfl)
instance : Sz Try.prog 36 6 := Sz.of (by kernel_rfl)
instance : Zr Try.prog 36 ([.int .u64 0, .int .u32 0, .int .i64 0, .int .i64 0, .int .i64 0, .int .u64 0]) := Zr.of (v := .agg ⟨[.int .u64 0, .int .u32 0, .int .i64 0, .int .i64 0, .int .i64 0, .int .u64 0]⟩) (by kernel_rfl) rfl
instance : ZrV Try.prog 36 (.agg ⟨[.int .u64 0, .int .u32 0, .int .i64 0, .int .i64 0, .int .i64 0, .int .u64 0]⟩) := ZrV.of (by kernel_rfl)
instance : EqT Try.prog 36 ([.i .u64, .i .u32, .i .i64, .i .i64, .i .i64, .i .u64]) := ⟨by kernel_rfl, by kernel_rfl, by kernel_rfl⟩
instance : StT Try.prog 36 [(0, 1), (1, 1), (2, 1), (3, 1), (4, 1), (5, 1)] ([.int .u64 0, .int .u32 0, .int .i64 0, .int .i64 0, .int .i64 0, .int .u64 0]) := StT.of (by kernel_rfl) (by kernel_rfl)
instance : El Try.prog 36 6 48 ([.int .u64 0, .int .u32 0, .int .i64 0, .int .i64 0, .int .i64 0, .int .u64 0]) := El.of (v := .agg ⟨[.int .u64 0, .int .u32 0, .int .i64 0, .int .i64 0, .int .i64 0, .int .u64 0]⟩) (by kernel_rfl) (by kernel_rfl) rfl rfl
instance : Sc Try.prog 39 := Sc.of (by kernel_rfl)
instance : Sz Try.prog 39 1 := Sz.of (by kernel_rfl)
instance : Zr Try.prog 39 ([.slice none 0 0]) := Zr.of (v := .slice none 0 0) (by kernel_rfl) rfl
instance : ZrV Try.prog 39 (.slice none 0 0) := ZrV.of (by kernel_rfl)
instance : SliceT Try.prog 39 44 := ⟨by kernel_rfl⟩
instance : Ag Try.prog 44 4 := Ag.of (by kernel_rfl)
instance : Sz Try.prog 44 4 := Sz.of (by kernel_rfl)
instance : Zr Try.prog 44 ([.int .u64 0, .int .u64 0, .int .i64 0, .int .u64 0]) := Zr.of (v := .agg ⟨[.int .u64 0, .int .u64 0, .int .i64 0, .int .u64 0]⟩) (by kernel_rfl) rfl
instance : ZrV Try.prog 44 (.agg ⟨[.int .u64 0, .int .u64 0, .int .i64 0, .int .u64 0]⟩) := ZrV.of (by kernel_rfl)
instance : EqT Try.prog 44 ([.i .u64, .i .u64, .i .i64, .i .u64]) := ⟨by kernel_rfl, by kernel_rfl, by kernel_rfl⟩
instance : StT Try.prog 44 [(0, 1), (1, 1), (2, 1), (3, 1)] ([.int .u64 0, .int .u64 0, .int .i64 0, .int .u64 0]) := StT.of (by kernel_rfl) (by kernel_rfl)
instance : El Try.prog 44 4 32 ([.int .u64 0, .int .u64 0, .int .i64 0, .int .u64 0]) := El.of (v := .agg ⟨[.int .u64 0, .int .u64 0, .int .i64 0, .int .u64 0]⟩) (by kernel_rfl) (by kernel_rfl) rfl rfl
instance : Sc Try.prog 52 := Sc.of (by kernel_rfl)
instance : Sz Try.prog 52 1 := Sz.of (by kernel_rfl)
instance : Zr Try.prog 52 ([.int .i64 0]) := Zr.of (v := .int .i64 0) (by kernel_rfl) rfl
instance : ZrV Try.prog 52 (.int .i64 0) := ZrV.of (by kernel_rfl)
instance : IntT Try.prog 52 .i64 := ⟨by kernel_rfl⟩
instance : Sc Try.prog 59 := Sc.of (by kernel_rfl)
instance : Sz Try.prog 59 1 := Sz.of (by kernel_rfl)
instance : Zr Try.prog 59 ([.pointer none]) := Zr.of (v := .pointer none) (by kernel_rfl) rfl
instance : ZrV Try.prog 59 (.pointer none) := ZrV.of (by kernel_rfl)
instance : PtrT Try.prog 59 65 := ⟨by kernel_rfl⟩
instance : Ag Try.prog 63 3 := Ag.of (by kernel_rfl)
instance : Sz Try.prog 63 3 := Sz.of (by kernel_rfl)
instance : Zr Try.prog 63 ([.int .i64 0, .int .i64 0, .slice none 0 0]) := Zr.of (v := .agg ⟨[.int .i64 0, .int .i64 0, .slice none 0 0]⟩) (by kernel_rfl) rfl
instance : ZrV Try.prog 63 (.agg ⟨[.int .i64 0, .int .i64 0, .slice none 0 0]⟩) := ZrV.of (by kernel_rfl)
instance : StT Try.prog 63 [(0, 1), (1, 1), (2, 1)] ([.int .i64 0, .int .i64 0, .slice none 0 0]) := StT.of (by kernel_rfl) (by kernel_rfl)
instance : Ag Try.prog 65 4 := Ag.of (by kernel_rfl)
instance : Sz Try.prog 65 4 := Sz.of (by kernel_rfl)
instance : Zr Try.prog 65 ([.pointer none, .int .i64 0, .int .i64 0, .slice none 0 0]) := Zr.of (v := .agg ⟨[.pointer none, .int .i64 0, .int .i64 0, .slice none 0 0]⟩) (by kernel_rfl) rfl
instance : ZrV Try.prog 65 (.agg ⟨[.pointer none, .int .i64 0, .int .i64 0, .slice none 0 0]⟩) := ZrV.of (by kernel_rfl)
instance : StT Try.prog 65 [(0, 1), (1, 3)] ([.pointer none, .int .i64 0, .int .i64 0, .slice none 0 0]) := StT.of (by kernel_rfl) (by kernel_rfl)
instance : Ag Try.prog 68 10 := Ag.of (by kernel_rfl)
instance : Sz Try.prog 68 10 := Sz.of (by kernel_rfl)
instance : Zr Try.prog 68 ([.int .i64 0, .bool false, .int .u64 0, .int .u32 0, .int .i64 0, .int .i64 0, .int .i64 0, .int .u64 0, .int .u64 0, .int .i64 0]) := Zr.of (v := .agg ⟨[.int .i64 0, .bool false, .int .u64 0, .int .u32 0, .int .i64 0, .int .i64 0, .int .i64 0, .int .u64 0, .int .u64 0, .int .i64 0]⟩) (by kernel_rfl) rfl
instance : ZrV Try.prog 68 (.agg ⟨[.int .i64 0, .bool false, .int .u64 0, .int .u32 0, .int .i64 0, .int .i64 0, .int .i64 0, .int .u64 0, .int .u64 0, .int .i64 0]⟩) := ZrV.of (by kernel_rfl)
instance : EqT Try.prog 68 ([.i .i64, .b, .i .u64, .i .u32, .i .i64, .i .i64, .i .i64, .i .u64, .i .u64, .i .i64]) := ⟨by kernel_rfl, by kernel_rfl, by kernel_rfl⟩
instance : StT Try.prog 68 [(0, 1), (1, 1), (2, 6), (8, 1), (9, 1)] ([.int .i64 0, .bool false, .int .u64 0, .int .u32 0, .int .i64 0, .int .i64 0, .int .i64 0, .int .u64 0, .int .u64 0, .int .i64 0]) := StT.of (by kernel_rfl) (by kernel_rfl)
instance : El Try.prog 68 10 80 ([.int .i64 0, .bool false, .int .u64 0, .int .u32 0, .int .i64 0, .int .i64 0, .int .i64 0, .int .u64 0, .int .u64 0, .int .i64 0]) := El.of (v := .agg ⟨[.int .i64 0, .bool false, .int .u64 0, .int .u32 0, .int .i64 0, .int .i64 0, .int .i64 0, .int .u64 0, .int .u64 0, .int .i64 0]⟩) (by kernel_rfl) (by kernel_rfl) rfl rfl
instance : Sc Try.prog 71 := Sc.of (by kernel_rfl)
instance : Sz Try.prog 71 1 := Sz.of (by kernel_rfl)
instance : Zr Try.prog 71 ([.slice none 0 0]) := Zr.of (v := .slice none 0 0) (by kernel_rfl) rfl
instance : ZrV Try.prog 71 (.slice none 0 0) := ZrV.of (by kernel_rfl)
instance : SliceT Try.prog 71 68 := ⟨by kernel_rfl⟩
instance : Ag Try.prog 73 24 := Ag.of (by kernel_rfl)
instance : Sz Try.prog 73 24 := Sz.of (by kernel_rfl)
instance : Zr Try.prog 73 ([.int .u64 0, .int .u32 0, .int .i64 0, .int .i64 0, .int .i64 0, .int .u64 0, .int .u64 0, .int .u32 0, .int .i64 0, .int .i64 0, .int .i64 0, .int .u64 0, .int .u64 0, .int .u32 0, .int .i64 0, .int .i64 0, .int .i64 0, .int .u64 0, .int .u64 0, .int .u32 0, .int .i64 0, .int .i64 0, .int .i64 0, .int .u64 0]) := Zr.of (v := .agg ⟨[.int .u64 0, .int .u32 0, .int .i64 0, .int .i64 0, .int .i64 0, .int .u64 0, .int .u64 0, .int .u32 0, .int .i64 0, .int .i64 0, .int .i64 0, .int .u64 0, .int .u64 0, .int .u32 0, .int .i64 0, .int .i64 0, .int .i64 0, .int .u64 0, .int .u64 0, .int .u32 0, .int .i64 0, .int .i64 0, .int .i64 0, .int .u64 0]⟩) (by kernel_rfl) rfl
instance : ZrV Try.prog 73 (.agg ⟨[.int .u64 0, .int .u32 0, .int .i64 0, .int .i64 0, .int .i64 0, .int .u64 0, .int .u64 0, .int .u32 0, .int .i64 0, .int .i64 0, .int .i64 0, .int .u64 0, .int .u64 0, .int .u32 0, .int .i64 0, .int .i64 0, .int .i64 0, .int .u64 0, .int .u64 0, .int .u32 0, .int .i64 0, .int .i64 0, .int .i64 0, .int .u64 0]⟩) := ZrV.of (by kernel_rfl)
instance : EqT Try.prog 73 ([.i .u64, .i .u32, .i .i64, .i .i64, .i .i64, .i .u64, .i .u64, .i .u32, .i .i64, .i .i64, .i .i64, .i .u64, .i .u64, .i .u32, .i .i64, .i .i64, .i .i64, .i .u64, .i .u64, .i .u32, .i .i64, .i .i64, .i .i64, .i .u64]) := ⟨by kernel_rfl, by kernel_rfl, by kernel_rfl⟩
instance : ArrT Try.prog 73 4 36 := ⟨by kernel_rfl⟩
instance : Ag Try.prog 75 3 := Ag.of (by kernel_rfl)
instance : Sz Try.prog 75 3 := Sz.of (by kernel_rfl)
instance : Zr Try.prog 75 ([.int .i64 0, .int .i64 0, .slice none 0 0]) := Zr.of (v := .agg ⟨[.int .i64 0, .int .i64 0, .slice none 0 0]⟩) (by kernel_rfl) rfl
instance : ZrV Try.prog 75 (.agg ⟨[.int .i64 0, .int .i64 0, .slice none 0 0]⟩) := ZrV.of (by kernel_rfl)
instance : StT Try.prog 75 [(0, 1), (1, 1), (2, 1)] ([.int .i64 0, .int .i64 0, .slice none 0 0]) := StT.of (by kernel_rfl) (by kernel_rfl)
instance : Sc Try.prog 77 := Sc.of (by kernel_rfl)
instance : Sz Try.prog 77 1 := Sz.of (by kernel_rfl)
instance : Zr Try.prog 77 ([.slice none 0 0]) := Zr.of (v := .slice none 0 0) (by kernel_rfl) rfl
instance : ZrV Try.prog 77 (.slice none 0 0) := ZrV.of (by kernel_rfl)
instance : SliceT Try.prog 77 30 := ⟨by kernel_rfl⟩
instance : Sc Try.prog 81 := Sc.of (by kernel_rfl)
instance : Sz Try.prog 81 1 := Sz.of (by kernel_rfl)
instance : Zr Try.prog 81 ([.nilFunc]) := Zr.of (v := .nilFunc) (by kernel_rfl) rfl
instance : ZrV Try.prog 81 (.nilFunc) := ZrV.of (by kernel_rfl)
instance : Sc Try.prog 84 := Sc.of (by kernel_rfl)
instance : Sz Try.prog 84 1 := Sz.of (by kernel_rfl)
instance : Zr Try.prog 84 ([.nilFunc]) := Zr.of (v := .nilFunc) (by kernel_rfl) rfl
instance : ZrV Try.prog 84 (.nilFunc) := ZrV.of (by kernel_rfl)
instance : Sc Try.prog 86 := Sc.of (by kernel_rfl)
instance : Sz Try.prog 86 1 := Sz.of (by kernel_rfl)
instance : Zr Try.prog 86 ([.nilFunc]) := Zr.of (v := .nilFunc) (by kernel_rfl) rfl
instance : ZrV Try.prog 86 (.nilFunc) := ZrV.of (by kernel_rfl)
instance : Sc Try.prog 89 := Sc.of (by kernel_rfl)
instance : Sz Try.prog 89 1 := Sz.of (by kernel_rfl)
instance : Zr Try.prog 89 ([.nilFunc]) := Zr.of (v := .nilFunc) (by kernel_rfl) rfl
instance : ZrV Try.prog 89 (.nilFunc) := ZrV.of (by kernel_rfl)
instance : Sc Try.prog 93 := Sc.of (by kernel_rfl)
instance : Sz Try.prog 93 1 := Sz.of (by kernel_rfl)
instance : Zr Try.prog 93 ([.nilFunc]) := Zr.of (v := .nilFunc) (by kernel_rfl) rfl
instance : ZrV Try.prog 93 (.nilFunc) := ZrV.of (by kernel_rfl)
instance : Sc Try.prog 111 := Sc.of (by kernel_rfl)
instance : Sz Try.prog 111 1 := Sz.of (by kernel_rfl)
instance : Zr Try.prog 111 ([.int .u64 0]) := Zr.of (v := .int .u64 0) (by kernel_rfl) rfl
instance : ZrV Try.prog 111 (.int .u64 0) := ZrV.of (by kernel_rfl)
instance : IntT Try.prog 111 .u64 := ⟨by kernel_rfl⟩
instance : Sc Try.prog 120 := Sc.of (by kernel_rfl)
instance : Sz Try.prog 120 1 := Sz.of (by kernel_rfl)
instance : Zr Try.prog 120 ([.int .i64 0]) := Zr.of (v := .int .i64 0) (by kernel_rfl) rfl
instance : ZrV Try.prog 120 (.int .i64 0) := ZrV.of (by kernel_rfl)
instance : IntT Try.prog 120 .i64 := ⟨by kernel_rfl⟩
instance : Sc Try.prog 130 := Sc.of (by kernel_rfl)
instance : Sz Try.prog 130 1 := Sz.of (by kernel_rfl)
instance : Zr Try.prog 130 ([.int .u64 0]) := Zr.of (v := .int .u64 0) (by kernel_rfl) rfl
instance : ZrV Try.prog 130 (.int .u64 0) := ZrV.of (by kernel_rfl)
instance : IntT Try.prog 130 .u64 := ⟨by kernel_rfl⟩
instance : Sc Try.prog 134 := Sc.of (by kernel_rfl)
instance : Sz Try.prog 134 1 := Sz.of (by kernel_rfl)
instance : Zr Try.prog 134 ([.pointer none]) := Zr.of (v := .pointer none) (by kernel_rfl) rfl
instance : ZrV Try.prog 134 (.pointer none) := ZrV.of (by kernel_rfl)
instance : PtrT Try.prog 134 3 := ⟨by kernel_rfl⟩
instance : FldV Try.prog 30 0 0 3 := FldV.of (by kernel_rfl)
instance : FldT Try.prog 30 0 0 := FldT.of (by kernel_rfl)
instance : FldV Try.prog 30 1 1 28 := FldV.of (by kernel_rfl)
instance : FldT Try.prog 30 1 1 := FldT.of (by kernel_rfl)
instance : FldV Try.prog 30 2 2 28 := FldV.of (by kernel_rfl)
instance : FldT Try.prog 30 2 2 := FldT.of (by kernel_rfl)
instance : FldV Try.prog 30 3 3 3 := FldV.of (by kernel_rfl)
instance : FldT Try.prog 30 3 3 := FldT.of (by kernel_rfl)
instance : FldV Try.prog 30 4 4 3 := FldV.of (by kernel_rfl)
instance : FldT Try.prog 30 4 4 := FldT.of (by kernel_rfl)
instance : FldV Try.prog 36 0 0 28 := FldV.of (by kernel_rfl)
instance : FldT Try.prog 36 0 0 := FldT.of (by kernel_rfl)
instance : FldV Try.prog 36 2 2 3 := FldV.of (by kernel_rfl)
instance : FldT Try.prog 36 2 2 := FldT.of (by kernel_rfl)
instance : FldV Try.prog 36 3 3 3 := FldV.of (by kernel_rfl)
instance : FldT Try.prog 36 3 3 := FldT.of (by kernel_rfl)
instance : FldV Try.prog 36 4 4 3 := FldV.of (by kernel_rfl)
instance : FldT Try.prog 36 4 4 := FldT.of (by kernel_rfl)
instance : FldV Try.prog 36 5 5 28 := FldV.of (by kernel_rfl)
instance : FldT Try.prog 36 5 5 := FldT.of (by kernel_rfl)
instance : FldV Try.prog 44 0 0 28 := FldV.of (by kernel_rfl)
instance : FldT Try.prog 44 0 0 := FldT.of (by kernel_rfl)
instance : FldV Try.prog 44 1 1 28 := FldV.of (by kernel_rfl)
instance : FldT Try.prog 44 1 1 := FldT.of (by kernel_rfl)
instance : FldV Try.prog 44 2 2 3 := FldV.of (by kernel_rfl)
instance : FldT Try.prog 44 2 2 := FldT.of (by kernel_rfl)
instance : FldV Try.prog 44 3 3 28 := FldV.of (by kernel_rfl)
instance : FldT Try.prog 44 3 3 := FldT.of (by kernel_rfl)
instance : FldV Try.prog 63 0 0 3 := FldV.of (by kernel_rfl)
instance : FldT Try.prog 63 0 0 := FldT.of (by kernel_rfl)
instance : FldV Try.prog 63 1 1 3 := FldV.of (by kernel_rfl)
instance : FldT Try.prog 63 1 1 := FldT.of (by kernel_rfl)
instance : FldV Try.prog 63 2 2 22 := FldV.of (by kernel_rfl)
instance : FldT Try.prog 63 2 2 := FldT.of (by kernel_rfl)
instance : FldV Try.prog 65 0 0 25 := FldV.of (by kernel_rfl)
instance : FldT Try.prog 65 0 0 := FldT.of (by kernel_rfl)
instance : FldV Try.prog 65 1 1 63 := FldV.of (by kernel_rfl)
instance : FldT Try.prog 65 1 1 := FldT.of (by kernel_rfl)
instance : FldV Try.prog 68 0 0 3 := FldV.of (by kernel_rfl)
instance : FldT Try.prog 68 0 0 := FldT.of (by kernel_rfl)
instance : FldV Try.prog 68 1 1 4 := FldV.of (by kernel_rfl)
instance : FldT Try.prog 68 1 1 := FldT.of (by kernel_rfl)
instance : FldV Try.prog 68 2 2 36 := FldV.of (by kernel_rfl)
instance : FldT Try.prog 68 2 2 := FldT.of (by kernel_rfl)
instance : FldV Try.prog 68 3 8 28 := FldV.of (by kernel_rfl)
instance : FldT Try.prog 68 3 8 := FldT.of (by kernel_rfl)
instance : FldV Try.prog 68 4 9 3 := FldV.of (by kernel_rfl)
instance : FldT Try.prog 68 4 9 := FldT.of (by kernel_rfl)
instance : FldV Try.prog 75 0 0 3 := FldV.of (by kernel_rfl)
instance : FldT Try.prog 75 0 0 := FldT.of (by kernel_rfl)
instance : FldV Try.prog 75 1 1 3 := FldV.of (by kernel_rfl)
instance : FldT Try.prog 75 1 1 := FldT.of (by kernel_rfl)
instance : FldV Try.prog 75 2 2 22 := FldV.of (by kernel_rfl)
instance : FldT Try.prog 75 2 2 := FldT.of (by kernel_rfl)
instance : FnT Try.prog 12 := FnT.of (by kernel_rfl)
instance : FnT Try.prog 13 := FnT.of (by kernel_rfl)
instance : FnT Try.prog 14 := FnT.of (by kernel_rfl)
instance : FnT Try.prog 15 := FnT.of (by kernel_rfl)
instance : FnT Try.prog 16 := FnT.of (by kernel_rfl)
instance : FnT Try.prog 17 := FnT.of (by kernel_rfl)
instance : FnT Try.prog 18 := FnT.of (by kernel_rfl)
instance : FnT Try.prog 19 := FnT.of (by kernel_rfl)
instance : FnT Try.prog 20 := FnT.of (by kernel_rfl)
instance : FnT Try.prog 21 := FnT.of (by kernel_rfl)
instance : FnT Try.prog 22 := FnT.of (by kernel_rfl)
instance : FnT Try.prog 23 := FnT.of (by kernel_rfl)
instance : FnT Try.prog 24 := FnT.of (by kernel_rfl)
instance : FnT Try.prog 25 := FnT.of (by kernel_rfl)
instance : FnT Try.prog 26 := FnT.of (by kernel_rfl)
instance : FnT Try.prog 27 := FnT.of (by kernel_rfl)
instance : FnT Try.prog 28 := FnT.of (by kernel_rfl)
instance : FnT Try.prog 29 := FnT.of (by kernel_rfl)
instance : FnT Try.prog 30 := FnT.of (by kernel_rfl)
instance : FnT Try.prog 31 := FnT.of (by kernel_rfl)
instance : FnT Try.prog 32 := FnT.of (by kernel_rfl)
instance : FnT Try.prog 33 := FnT.of (by kernel_rfl)
instance : FnT Try.prog 34 := FnT.of (by kernel_rfl)
instance : FnT Try.prog 35 := FnT.of (by kernel_rfl)
instance : FnT Try.prog 36 := FnT.of (by kernel_rfl)
instance : FnT Try.prog 37 := FnT.of (by kernel_rfl)
instance : FnT Try.prog 38 := FnT.of (by kernel_rfl)
instance : FnT Try.prog 39 := FnT.of (by kernel_rfl)
instance : FnT Try.prog 40 := FnT.of (by kernel_rfl)
instance : FnT Try.prog 41 := FnT.of (by kernel_rfl)
instance : FnT Try.prog 42 := FnT.of (by kernel_rfl)
instance : FnT Try.prog 43 := FnT.of (by kernel_rfl)
instance : FnT Try.prog 44 := FnT.of (by kernel_rfl)
instance : FnT Try.prog 45 := FnT.of (by kernel_rfl)
instance : FnT Try.prog 46 := FnT.of (by kernel_rfl)
instance : FnT Try.prog 47 := FnT.of (by kernel_rfl)
instance : FnT Try.prog 48 := FnT.of (by kernel_rfl)
instance : FnT Try.prog 49 := FnT.of (by kernel_rfl)
instance : FnT Try.prog 50 := FnT.of (by kernel_rfl)
instance : FnT Try.prog 51 := FnT.of (by kernel_rfl)
instance : FnT Try.prog 52 := FnT.of (by kernel_rfl)
instance : FnT Try.prog 53 := FnT.of (by kernel_rfl)
instance : FnT Try.prog 54 := FnT.of (by kernel_rfl)
instance : FnT Try.prog 55 := FnT.of (by kernel_rfl)
instance : FnT Try.prog 56 := FnT.of (by kernel_rfl)
instance : FnT Try.prog 57 := FnT.of (by kernel_rfl)
instance : FnT Try.prog 58 := FnT.of (by kernel_rfl)
instance : FnT Try.prog 59 := FnT.of (by kernel_rfl)
instance : FnT Try.prog 60 := FnT.of (by kernel_rfl)
instance : FnT Try.prog 61 := FnT.of (by kernel_rfl)
instance : FnT Try.prog 62 := FnT.of (by kernel_rfl)
instance : FnT Try.prog 63 := FnT.of (by kernel_rfl)
instance : FnT Try.prog 64 := FnT.of (by kernel_rfl)
instance : FnT Try.prog 65 := FnT.of (by kernel_rfl)
instance : FnT Try.prog 66 := FnT.of (by kernel_rfl)
instance : FnT Try.prog 67 := FnT.of (by kernel_rfl)
instance : FnT Try.prog 68 := FnT.of (by kernel_rfl)
instance : FnT Try.prog 69 := FnT.of (by kernel_rfl)
instance : FnT Try.prog 70 := FnT.of (by kernel_rfl)
instance : FnT Try.prog 71 := FnT.of (by kernel_rfl)
instance : FnT Try.prog 72 := FnT.of (by kernel_rfl)
instance : FnT Try.prog 73 := FnT.of (by kernel_rfl)
instance : FnT Try.prog 74 := FnT.of (by kernel_rfl)
instance : FnT Try.prog 75 := FnT.of (by kernel_rfl)
instance : FnT Try.prog 76 := FnT.of (by kernel_rfl)
instance : FnT Try.prog 77 := FnT.of (by kernel_rfl)
instance : FnT Try.prog 78 := FnT.of (by kernel_rfl)
instance : FnT Try.prog 79 := FnT.of (by kernel_rfl)
instance : FnT Try.prog 80 := FnT.of (by kernel_rfl)
instance : FnT Try.prog 81 := FnT.of (by kernel_rfl)
instance : FnT Try.prog 82 := FnT.of (by kernel_rfl)
instance : FnT Try.prog 83 := FnT.of (by kernel_rfl)
instance : FnT Try.prog 84 := FnT.of (by kernel_rfl)
instance : FnT Try.prog 85 := FnT.of (by kernel_rfl)
instance : FnT Try.prog 86 := FnT.of (by kernel_rfl)
instance : FnT Try.prog 87 := FnT.of (by kernel_rfl)
instance : FnT Try.prog 88 := FnT.of (by kernel_rfl)
instance : FnT Try.prog 89 := FnT.of (by kernel_rfl)
instance : FnT Try.prog 90 := FnT.of (by kernel_rfl)
instance : FnT Try.prog 91 := FnT.of (by kernel_rfl)
instance : FnT Try.prog 92 := FnT.of (by kernel_rfl)
instance : FnT Try.prog 93 := FnT.of (by kernel_rfl)
instance : FnT Try.prog 94 := FnT.of (by kernel_rfl)
instance : FnT Try.prog 95 := FnT.of (by kernel_rfl)
instance : FnT Try.prog 96 := FnT.of (by kernel_rfl)
instance : FnT Try.prog 97 := FnT.of (by kernel_rfl)
end Go.Proofs.Ytamldmgdhaoigaa

/- An auction, plain: interests, priorities, curves, quotes. -/
namespace Go.Proofs.Ytamldmgdhaoigaa
open Go.V
set_option linter.unusedVariables false
set_option linter.unusedSimpArgs false

structure It where
  id : Int
  mb : Int
  sd : Int
  ty : Int
  pr : Int
  q : Int
abbrev It.cells (x : It) : List Value := [.int .u64 x.id, .int .u32 x.mb, .int .i64 x.sd, .int .i64 x.ty, .int .i64 x.pr, .int .u64 x.q]
abbrev it0 : It := ⟨0, 0, 0, 0, 0, 0⟩
instance : Inhabited It := ⟨it0⟩
structure Qt where
  pr : Int
  vol : Int
  sur : Int
  sd : Int
  rl : Int
abbrev Qt.cells (x : Qt) : List Value := [.int .i64 x.pr, .int .u64 x.vol, .int .u64 x.sur, .int .i64 x.sd, .int .i64 x.rl]
abbrev qt0 : Qt := ⟨0, 0, 0, 0, 0⟩
instance : Inhabited Qt := ⟨qt0⟩
structure Fl where
  b : Int
  s : Int
  pr : Int
  q : Int
abbrev Fl.cells (x : Fl) : List Value := [.int .u64 x.b, .int .u64 x.s, .int .i64 x.pr, .int .u64 x.q]
instance : Inhabited Fl := ⟨⟨0, 0, 0, 0⟩⟩
/-- a call: the reference, the room, the interests as they were entered -/
structure Cl where
  rf : Int
  rm : Int
  L : List It
abbrev irows (l : List It) : List Value := l.flatMap It.cells
abbrev qrows (l : List Qt) : List Value := l.flatMap Qt.cells
abbrev frows (l : List Fl) : List Value := l.flatMap Fl.cells
abbrev tickP (p : Int) : Prop := 0 ≤ p ∧ p < 262144
def It.has (id : Int) (x : It) : Bool := decide (x.id = id)
/-- where an interest stands; -1: nowhere -/
def ixI (p : It → Bool) (l : List It) : Int := match l.findIdx? p with
  | some i => i
  | none => -1
/-- why an interest is not taken; 0: it is -/
def Cl.why (C : Cl) (i : It) : Int :=
  if i.sd ≠ 1 ∧ i.sd ≠ 2 then 92
  else if i.ty ≠ 1 ∧ i.ty ≠ 2 then 93
  else if ¬ tickP i.pr ∨ i.ty = 2 ∧ i.pr ≠ 0 then 94
  else if i.q < 1 ∨ 4294967295 < i.q then 95
  else if i.id = 0 ∨ 0 ≤ ixI (It.has i.id) C.L then 97
  else if C.rm ≤ C.L.length then 98
  else 0
def Cl.enter (C : Cl) (i : It) : Cl := if C.why i = 0 then ⟨C.rf, C.rm, C.L ++ [i]⟩ else C
def Cl.dropI (C : Cl) (id : Int) : Cl := match C.L.findIdx? (It.has id) with
  | some k => ⟨C.rf, C.rm, C.L.eraseIdx k⟩
  | none => C
def Cl.dropV (C : Cl) (id : Int) : It × Bool := match C.L.findIdx? (It.has id) with
  | some k => (C.L[k]!, true)
  | none => (it0, false)
/-- how far behind an interest stands on its side -/
def rank (x : It) : Int := if x.ty = 2 then -1 else if x.sd = 1 then 262144 - x.pr else x.pr
/-- put in behind all that do not stand behind it -/
def insI (x : It) : List It → List It
  | [] => [x]
  | y :: l => if rank x < rank y then x :: y :: l else y :: insI x l
def sortI (l : List It) : List It := l.foldl (fun z x => insI x z) []
def Cl.side (C : Cl) (s : Int) : List It := sortI (C.L.filter fun x => decide (x.sd = s))
/-- would an interest be bought, or sold, at a price? -/
def buysAt (p : Int) (x : It) : Bool := decide (x.sd = 1) && (decide (x.ty = 2) || decide (p ≤ x.pr))
def sellsAt (p : Int) (x : It) : Bool := decide (x.sd = 2) && (decide (x.ty = 2) || decide (x.pr ≤ p))
def qsum (l : List It) : Int := (l.map It.q).sum
def buyQ (p : Int) (l : List It) : Int := qsum (l.filter (buysAt p))
def sellQ (p : Int) (l : List It) : Int := qsum (l.filter (sellsAt p))
def volQ (p : Int) (l : List It) : Int := min (buyQ p l) (sellQ p l)
def atQ (l : List It) (p : Int) : Qt := ⟨p, min (buyQ p l) (sellQ p l), max (buyQ p l) (sellQ p l) - min (buyQ p l) (sellQ p l), if sellQ p l < buyQ p l then 1 else if buyQ p l < sellQ p l then 2 else 0, 0⟩
/-- those of the least number -/
def bestS (f : Qt → Int) (r : List Qt) (q : Qt) : List Qt := match r with
  | [] => [q]
  | x :: r => if f q < f x then [q] else if f q = f x then (x :: r) ++ [q] else x :: r
def best (f : Qt → Int) (l : List Qt) : List Qt := l.foldl (bestS f) []
/-- each number once -/
def compactZ : List Int → List Int
  | [] => []
  | [a] => [a]
  | a :: b :: l => if a = b then compactZ (b :: l) else a :: compactZ (b :: l)
def prices (rf : Int) (l : List It) : List Int := rf :: (l.filter fun x => decide (x.ty = 1)).map It.pr
def ruledQ (q : Qt) (r : Int) : Qt := ⟨q.pr, q.vol, q.sur, q.sd, r⟩
def nVol (q : Qt) : Int := 18446744073709551615 - q.vol
def nFar (rf : Int) (q : Qt) : Int := max (q.pr - rf) (rf - q.pr)
def allSide (s : Int) (l : List Qt) : Bool := l.all fun q => decide (q.sd = s)
/-- the quote of candidates in the order of their prices -/
def quoteL (rf : Int) (l : List Qt) : Qt × Bool :=
  let l1 := best nVol l
  if (l1[0]!).vol = 0 then (qt0, false)
  else if l1.length = 1 then (ruledQ l1[0]! 1, true)
  else
    let l2 := best Qt.sur l1
    if l2.length = 1 then (ruledQ l2[0]! 2, true)
    else if allSide 1 l2 then (ruledQ l2[l2.length - 1]! 3, true)
    else if allSide 2 l2 then (ruledQ l2[0]! 3, true)
    else (ruledQ (best (nFar rf) l2)[0]! 4, true)
/-- what is left of interests, when some of one was traded -/
def takeI (id n : Int) (l : List It) : List It := (l.map fun x => if x.id = id then { x with q := x.q - n } else x).filter fun x => decide (x.q ≠ 0)
end Go.Proofs.Ytamldmgdhaoigaa

/- VD: regions with one store at their end, in which two effects may come up in either order. -/
namespace Go
namespace V
open Go.RowKit
set_option linter.unusedVariables false
set_option linter.unusedSimpArgs false

/-- number i comes up now -/
def JT (P : Program) (n : Nat) (w0 : World) (own : List Nat) (ops : Array Oper) (F : Hp) (z : Nat) (m : Nat) (listed : Array Bool) (e : Env) (hs : Hp) (K : Env → Hp → Prop) (i : Nat) : Prop :=
  ∀ a w, Rep n a e → Sat w0 own hs w → (listed.getD z true = false → F ⊆ hs) →
    wpOp P ops (QN fun a' w' => ∃ e' hs', Rep n a' e' ∧ Sat w0 own hs' w' ∧ K e' hs') i (fun a' w' => ((listed.setIfInBounds i true).getD z true = false → Keeps w0 own F w') ∧ Upto P ops (QN fun a' w' => ∃ e' hs', Rep n a' e' ∧ Sat w0 own hs' w' ∧ K e' hs') (Keeps w0 own F) z m (listed.setIfInBounds i true) a' w') a w
section
variable {P : Program} {n : Nat} {w0 : World} {own : List Nat} {e : Env} {hs F : Hp} {K : Env → Hp → Prop} {z m : Nat} {listed : Array Bool}
variable {d : Nat} {ty : TypeId} {pos : String} {aft : Array Edge} {g : Option (Nat × Bool)}
theorem JZ.two {ops : Array Oper} (i j : Nat) (hr : (Region.ready .any ops listed == [i, j]) = true) (h1 : JT P n w0 own ops F z m listed e hs K i) (h2 : JT P n w0 own ops F z m listed e hs K j) : JZ P n w0 own ops F z (m + 1) listed e hs K := by
  intro a w hr' s hf
  have hr : Region.ready .any ops listed = [i, j] := by simpa using hr
  refine ⟨fun h0 => (by rw [hr] at h0; cases h0), fun k hk => ?_⟩
  rw [hr] at hk
  simp only [List.mem_cons, List.not_mem_nil, or_false] at hk
  rcases hk with rfl | rfl
  · exact h1 a w hr' s hf
  · exact h2 a w hr' s hf
theorem JT.ef {ops : Array Oper} {i : Nat} {op : Op} {R : Value → Hp → Prop} (hi : ops[i]? = some ⟨some d, op, ty, pos, aft, g⟩) (h : Eff P n w0 own e hs op R) (hF : ∀ v hs', R v hs' → F ⊆ hs → F ⊆ hs')
    (k : ∀ v hs', R v hs' → JZ P n w0 own ops F z m (listed.setIfInBounds i true) ((d, v) :: e) hs' K) (hdn : Nat.blt d n = true := by rfl) (hg : wantB ops e g = some true := by rfl) : JT P n w0 own ops F z m listed e hs K i := by
  intro a w hr s hf
  unfold wpOp
  simp only [hi]
  rw [if_pos (wanted_of hr hg)]
  have hsub : ∀ v hs', R v hs' → (listed.setIfInBounds i true).getD z true = false → F ⊆ hs' := by
    intro v hs' r hz'
    have hzj : z ≠ i := by
      intro e
      subst e
      rcases Nat.lt_or_ge z listed.size with h' | h'
      · simp [h'] at hz'
      · simp [h'] at hz'
    rw [getD_set_ne true (Ne.symm hzj)] at hz'
    exact hF v hs' r (hf hz')
  exact .inl (h a w _ _ _ _ _ _ _ hr s fun v hs' w' r s' => ⟨fun hz' => ⟨hs', s', hsub v hs' r hz'⟩, k v hs' r _ _ (hr.put (Nat.le_of_ble_eq_true hdn) v) s' (hsub v hs' r)⟩)
/-- the first operations, in an order of ours; then by hand -/
theorem JC.drawW {id : Nat} {Q : Post} {l : List Oper} (z : Nat) (is : List Nat) (F : Hp) (hF : F ⊆ hs) (hm : P.follows .mixedOrders = true)
    (hB : (ordZ l.toArray z (pickL l is) is (Array.replicate l.length false) && Nat.beq (pickL l is).length is.length && Nat.ble is.length l.length && Nat.blt z l.length) = true)
    (h : JQ P n w0 own l.toArray F z false (pickL l is) e hs (fun _ e' hs' => JZ P n w0 own l.toArray F z (l.length - is.length) (marks_ is (Array.replicate l.length false)) e' hs' (fun e hs => Q .normal e hs))) : JC P n w0 own (.region id l.toArray true) e hs Q := by
  rw [Bool.and_eq_true, Bool.and_eq_true, Bool.and_eq_true] at hB
  obtain ⟨⟨⟨h1, h2⟩, h3⟩, h4⟩ := hB
  have h2 := Nat.eq_of_beq_eq_true h2
  have h3 := Nat.le_of_ble_eq_true h3
  have h4 : z < l.length := Nat.le_of_ble_eq_true h4
  refine JC.drawZ z F hF hm ?_
  have := h (l.length - is.length) is (Array.replicate l.length false) (fun e hs => Q .normal e hs) (pickL_nums' is h2) h1 (by simp) (by simp [h4]) (fun _ => hF) (fun _ e' hs' _ _ ke => ke)
  rw [h2, show is.length + (l.length - is.length) = l.length by omega] at this
  simpa using this
/-- the others, in an order of ours -/
theorem JZ.run {l : List Oper} (is : List Nat) (hF : F ⊆ hs) (hB : (ordZ l.toArray z (pickL l is) is listed && doneB l.toArray (marks_ is listed) && Nat.beq (pickL l is).length is.length && Nat.beq is.length m && Nat.beq listed.size l.length && !listed.getD z true) = true)
    (h : JQ P n w0 own l.toArray F z false (pickL l is) e hs (fun _ e hs => K e hs)) : JZ P n w0 own l.toArray F z m listed e hs K := by
  simp only [Bool.and_eq_true] at hB
  obtain ⟨⟨⟨⟨⟨h1, h2⟩, h3⟩, h4⟩, h5⟩, h6⟩ := hB
  have h3 := Nat.eq_of_beq_eq_true h3
  have h4 := Nat.eq_of_beq_eq_true h4
  have h5 := Nat.eq_of_beq_eq_true h5
  have := h 0 is listed K (pickL_nums' is h3) h1 (by simpa using h5) (by simpa using h6) (fun _ => hF) (fun _ e' hs' _ _ ke => JZ.done h2 ke)
  rw [h3, h4] at this
  simpa using this
end
end V
end Go

/- VE: drawn regions in which blocks are let go. -/
namespace Go
namespace V
open Go.RowKit
set_option linter.unusedVariables false
section
variable {P : Program} {n : Nat} {w0 : World} {own : List Nat} {e : Env} {hs hs2 F : Hp} {ops : Array Oper} {l : List Oper} {K : Env → Hp → Prop}
/-- some of what lies there is let go -/
theorem JK.heap (k : ∀ w, Sat w0 own hs w → Sat w0 own hs2 w) (hF : F ⊆ hs → F ⊆ hs2) (h : JK P n w0 own ops F l e hs2 K) : JK P n w0 own ops F l e hs K :=
  fun m is listed Z h1 h2 h3 hz a w hr s hf => h m is listed Z h1 h2 (hF h3) hz a w hr (k w s) (hF hf)
theorem JK.dropA {h : Hp} (hF : F ⊆ hs) (k : JK P n w0 own ops F l e hs K) : JK P n w0 own ops F l e (h ++ hs) K :=
  JK.heap (fun w s => s.sub (List.sublist_append_right _ _)) (fun _ => hF) k
end
end V
end Go

/- VYN: as VY, where a check against nil may come up at any time too. -/
namespace Go
namespace V
open Go.RowKit
set_option linter.unusedVariables false
set_option linter.unusedSimpArgs false
/-- does the operation touch no memory? -/
def noMemN (o : Oper) : Bool := match o.op with
  | .move _ => true
  | .indexAddr .. => true
  | .fieldAddr .. => true
  | .binOp .. => true
  | .extract .. => true
  | .nilCheck _ => true
  | _ => false
section
variable {P : Program} {n : Nat} {w0 : World} {own : List Nat} {e : Env} {hs F : Hp} {ops : Array Oper} {K : Env → Hp → Prop} {z m : Nat} {listed : Array Bool}
variable {d : Nat} {ty : TypeId} {pos : String} {aft : Array Edge} {g : Option (Nat × Bool)}
theorem JZ.xN {op : Op} {v : Value} (i : Nat) (hi : ops[i]? = some ⟨some d, op, ty, pos, aft, g⟩) (hf : firstB ops listed i = true) (hzi : z ≠ i)
    (h : ∀ w, Val P n w [] e [] op v) (k : JZ P n w0 own ops F z m (listed.setIfInBounds i true) ((d, v) :: e) hs K)
    (hdn : Nat.blt d n = true := by rfl) (hg : wantB ops e g = some true := by rfl) : JZ P n w0 own ops F z (m + 1) listed e hs K := by
  intro a w hr s hF
  unfold firstB at hf
  rw [Bool.and_eq_true, Bool.and_eq_true] at hf
  obtain ⟨⟨f1, f2⟩, f3⟩ := hf
  exact Upto.firstX hi (Region.noSelect_spec f1) (fun _ _ _ h => h) hzi m listed a w (Region.free_spec hi f2) (by simpa using f3)
    (.inl ⟨wanted_of hr hg, fun w' _ => h w' a w' _ _ _ _ _ hr (Sat.begin0 w')⟩) (fun hz => ⟨hs, s, hF hz⟩)
    (k _ _ (hr.put (Nat.le_of_ble_eq_true hdn) v) s fun hz => hF (by rw [getD_set_ne true (Ne.symm hzi)] at hz; exact hz))
end

def ordN (ops : Array Oper) (z : Nat) : List Oper → List Nat → Array Bool → Bool
  | [], [], _ => true
  | o :: l, i :: is, listed => (onlyB ops listed i || (!isEff o && firstZ ops z listed i) || (noMemN o && firstB ops listed i && !Nat.beq z i)) && (o.dst.isSome || Nat.beq i z || listed.getD z true) && ordN ops z l is (listed.setIfInBounds i true)
  | _, _, _ => false
/-- the operations in their order; 'late': the first store has been -/
def JN (P : Program) (n : Nat) (w0 : World) (own : List Nat) (ops : Array Oper) (F : Hp) (z : Nat) (late : Bool) (l : List Oper) (e : Env) (hs : Hp) (K : Bool → Env → Hp → Prop) : Prop :=
  ∀ (m : Nat) (is : List Nat) (listed : Array Bool) (Z : Env → Hp → Prop), Nums ops l is → ordN ops z l is listed = true → listed.size = ops.size → listed.getD z true = late → (late = false → F ⊆ hs) →
    (∀ late' e' hs', (marks_ is listed).getD z true = late' → (late' = false → F ⊆ hs') → K late' e' hs' → JZ P n w0 own ops F z m (marks_ is listed) e' hs' Z) → JZ P n w0 own ops F z (l.length + m) listed e hs Z

theorem eff_memN {o : Oper} (h : isEff o = true) : noMemN o = false := by
  unfold isEff at h; unfold noMemN
  split <;> simp_all
section
variable {P : Program} {n : Nat} {w0 : World} {own : List Nat} {e : Env} {hs F : Hp} {ops : Array Oper} {rest l : List Oper} {K : Bool → Env → Hp → Prop} {z : Nat} {late : Bool} {m : Nat} {listed : Array Bool} {Z : Env → Hp → Prop}
variable {d : Nat} {ty : TypeId} {pos : String} {aft : Array Edge} {g : Option (Nat × Bool)}

theorem JC.drawN {id : Nat} {Q : Post} {l : List Oper} (z : Nat) (is : List Nat) (F : Hp) (hF : F ⊆ hs) (hm : P.follows .mixedOrders = true)
    (hB : (ordN l.toArray z (pickL l is) is (Array.replicate l.length false) && doneB l.toArray (marks_ is (Array.replicate l.length false)) && Nat.beq (pickL l is).length l.length && Nat.beq is.length l.length && Nat.blt z l.length) = true)
    (h : JN P n w0 own l.toArray F z false (pickL l is) e hs (fun _ e' hs' => Q .normal e' hs')) : JC P n w0 own (.region id l.toArray true) e hs Q := by
  rw [Bool.and_eq_true, Bool.and_eq_true, Bool.and_eq_true, Bool.and_eq_true] at hB
  obtain ⟨⟨⟨⟨h1, h2⟩, h3⟩, h4⟩, h5⟩ := hB
  have h3 := Nat.eq_of_beq_eq_true h3
  have h4 := Nat.eq_of_beq_eq_true h4
  have h5 : z < l.length := Nat.le_of_ble_eq_true h5
  have key : ∀ (is : List Nat), (pickL l is).length = is.length → Nums l.toArray (pickL l is) is := by
    intro is
    induction is with
    | nil => intro _; trivial
    | cons i is ih =>
      intro hl
      unfold pickL at hl ⊢
      cases ho : l[i]? with
      | none => rw [ho] at hl; simp at hl
      | some o =>
        rw [ho] at hl
        simp only at hl ⊢
        exact ⟨by simpa using ho, ih (by simpa using hl)⟩
  refine JC.drawZ z F hF hm ?_
  have := h 0 is (Array.replicate l.length false) (fun e hs => Q .normal e hs) (key _ (by omega)) h1 (by simp) (by simp [h5]) (fun _ => hF) (fun _ e' hs' _ _ ke => JZ.done h2 ke)
  rw [h3] at this
  simpa using this
theorem JN.nil (h : K late e hs) : JN P n w0 own ops F z late [] e hs K := fun m is listed Z hn _ hsz hl hF hz => by
  cases is with
  | nil => rw [List.length_nil, Nat.zero_add]; exact hz late e hs hl hF h
  | cons i is => exact hn.elim
theorem JN.mono {K' : Bool → Env → Hp → Prop} (h : JN P n w0 own ops F z late l e hs K) (kk : ∀ b e hs, K b e hs → K' b e hs) : JN P n w0 own ops F z late l e hs K' :=
  fun m k listed Z h1 h2 h3 h4 h5 hz => h m k listed Z h1 h2 h3 h4 h5 fun b e' hs' f1 f ke => hz b e' hs' f1 f (kk b e' hs' ke)
theorem JN.sub {e2 : Env} (hs' : Sub e2 e) (h : JN P n w0 own ops F z late l e2 hs K) : JN P n w0 own ops F z late l e hs K :=
  fun m k listed Z h1 h2 h3 h4 h5 hz a w hr s hF => h m k listed Z h1 h2 h3 h4 h5 hz a w (hr.sub hs') s hF
theorem JN.splitB {t : Nat} {b : Bool} (ht : get e t = some (.bool b)) (h1 : b = true → JN P n w0 own ops F z late l ((t, .bool true) :: e) hs K)
    (h0 : b = false → JN P n w0 own ops F z late l ((t, .bool false) :: e) hs K) : JN P n w0 own ops F z late l e hs K := by
  cases b
  · exact JN.sub (sub_same' ht) (h0 rfl)
  · exact JN.sub (sub_same' ht) (h1 rfl)
/-- a value, ahead of the first store -/
theorem JN.v {op : Op} {v : Value} (h : ∀ hs', F ⊆ hs' → Val P n w0 own e hs' op v) (kk : JN P n w0 own ops F z false rest ((d, v) :: e) hs K) (hdn : Nat.blt d n = true := by rfl) (hg : wantB ops e g = some true := by rfl)
    (hzo : ((ops[z]?).map (·.dst.isNone)) = some true := by rfl) (hx : noMemN ⟨some d, op, ty, pos, aft, g⟩ = false := by rfl) :
    JN P n w0 own ops F z false (⟨some d, op, ty, pos, aft, g⟩ :: rest) e hs K := by
  intro m is listed Z h1 h2 h3 h4 h5 hz
  cases is with
  | nil => exact h1.elim
  | cons k is =>
  obtain ⟨h0, h1⟩ := h1
  unfold ordN at h2
  rw [Bool.and_eq_true, Bool.and_eq_true] at h2
  obtain ⟨⟨h2a, _⟩, h2b⟩ := h2
  rw [hx, Bool.false_and, Bool.false_and, Bool.or_false, Bool.or_eq_true, Bool.and_eq_true] at h2a
  have h2 := And.intro h2a h2b
  have hkz : k ≠ z := by rintro rfl; rw [h0] at hzo; simp at hzo
  have tail : JZ P n w0 own ops F z (rest.length + m) (listed.setIfInBounds k true) ((d, v) :: e) hs Z := kk m is _ Z h1 h2.2 (by simpa using h3) (set_lt h4 (.inr hkz)) h5 hz
  rw [show (⟨some d, op, ty, pos, aft, g⟩ :: rest : List Oper).length + m = (rest.length + m) + 1 from by simp; omega]
  rcases h2.1 with ho | ⟨_, hf⟩
  · exact JZ.v1 k h0 ho (h hs (h5 rfl)) tail rfl hdn hg
  · exact JZ.v k h0 hf h tail hdn hg
/-- a value behind it -/
theorem JN.w {op : Op} {v : Value} (h : Val P n w0 own e hs op v) (kk : JN P n w0 own ops F z true rest ((d, v) :: e) hs K) (hdn : Nat.blt d n = true := by rfl) (hg : wantB ops e g = some true := by rfl) (hx : noMemN ⟨some d, op, ty, pos, aft, g⟩ = false := by rfl) :
    JN P n w0 own ops F z true (⟨some d, op, ty, pos, aft, g⟩ :: rest) e hs K := by
  intro m is listed Z h1 h2 h3 h4 h5 hz
  cases is with
  | nil => exact h1.elim
  | cons k is =>
  obtain ⟨h0, h1⟩ := h1
  unfold ordN at h2
  rw [Bool.and_eq_true, Bool.and_eq_true] at h2
  obtain ⟨⟨h2a, _⟩, h2b⟩ := h2
  rw [hx, Bool.false_and, Bool.false_and, Bool.or_false, Bool.or_eq_true, Bool.and_eq_true] at h2a
  have h2 := And.intro h2a h2b
  have tail : JZ P n w0 own ops F z (rest.length + m) (listed.setIfInBounds k true) ((d, v) :: e) hs Z := kk m is _ Z h1 h2.2 (by simpa using h3) (set_lt h4 (.inl rfl)) (fun h => by cases h) hz
  rw [show (⟨some d, op, ty, pos, aft, g⟩ :: rest : List Oper).length + m = (rest.length + m) + 1 from by simp; omega]
  rcases h2.1 with ho | ⟨_, hf⟩
  · exact JZ.v1 k h0 ho h tail rfl hdn hg
  · unfold firstZ at hf
    rw [h4] at hf
    simp at hf
/-- what touches no memory, at any time -/
theorem JN.x {op : Op} {v : Value} (h : ∀ w0 own hs, Val P n w0 own e hs op v) (kk : JN P n w0 own ops F z late rest ((d, v) :: e) hs K) (hdn : Nat.blt d n = true := by rfl) (hg : wantB ops e g = some true := by rfl)
    (hzo : ((ops[z]?).map (·.dst.isNone)) = some true := by rfl) :
    JN P n w0 own ops F z late (⟨some d, op, ty, pos, aft, g⟩ :: rest) e hs K := by
  intro m is listed Z h1 h2 h3 h4 h5 hz
  cases is with
  | nil => exact h1.elim
  | cons k is =>
  obtain ⟨h0, h1⟩ := h1
  unfold ordN at h2
  rw [Bool.and_eq_true, Bool.and_eq_true] at h2
  obtain ⟨⟨h2a, _⟩, h2b⟩ := h2
  rw [Bool.or_eq_true, Bool.or_eq_true, Bool.and_eq_true, Bool.and_eq_true, Bool.and_eq_true] at h2a
  have hkz : k ≠ z := by rintro rfl; rw [h0] at hzo; simp at hzo
  have tail : JZ P n w0 own ops F z (rest.length + m) (listed.setIfInBounds k true) ((d, v) :: e) hs Z := kk m is _ Z h1 h2b (by simpa using h3) (set_lt h4 (.inr hkz)) h5 hz
  rw [show (⟨some d, op, ty, pos, aft, g⟩ :: rest : List Oper).length + m = (rest.length + m) + 1 from by simp; omega]
  rcases h2a with (ho | ⟨_, hf⟩) | ⟨⟨_, hf⟩, _⟩
  · exact JZ.v1 k h0 ho (h _ _ _) tail rfl hdn hg
  · exact JZ.v k h0 hf (fun hs' _ => h _ _ _) tail hdn hg
  · exact JZ.xN k h0 hf (Ne.symm hkz) (fun w => h _ _ _) tail hdn hg
/-- what works on memory, and leaves a value -/
theorem JN.ef {op : Op} {R : Value → Hp → Prop} (h : Eff P n w0 own e hs op R) (hF : ∀ v hs', R v hs' → F ⊆ hs → F ⊆ hs') (kk : ∀ v hs', R v hs' → JN P n w0 own ops F z late rest ((d, v) :: e) hs' K)
    (hE : isEff ⟨some d, op, ty, pos, aft, g⟩ = true := by rfl) (hdn : Nat.blt d n = true := by rfl) (hg : wantB ops e g = some true := by rfl) (hzo : ((ops[z]?).map (·.dst.isNone)) = some true := by rfl) : JN P n w0 own ops F z late (⟨some d, op, ty, pos, aft, g⟩ :: rest) e hs K := by
  intro m is listed Z h1 h2 h3 h4 h5 hz
  cases is with
  | nil => exact h1.elim
  | cons k is =>
  obtain ⟨h0, h1⟩ := h1
  unfold ordN at h2
  rw [Bool.and_eq_true, Bool.and_eq_true] at h2
  obtain ⟨⟨h2a, _⟩, h2b⟩ := h2
  rw [Bool.or_eq_true, Bool.or_eq_true, hE, eff_memN hE] at h2a
  have h2 := And.intro h2a h2b
  have hkz : k ≠ z := by rintro rfl; rw [h0] at hzo; simp at hzo
  have ho : onlyB ops listed k = true := by
    rcases h2.1 with (h | h) | h
    · exact h
    · simp at h
    · simp at h
  rw [show (⟨some d, op, ty, pos, aft, g⟩ :: rest : List Oper).length + m = (rest.length + m) + 1 from by simp; omega]
  exact JZ.ef k h0 ho h (fun v hs' r => kk v hs' r m is _ Z h1 h2.2 (by simpa using h3) (set_lt h4 (.inr hkz)) (fun e => hF v hs' r (h5 e)) hz) hF rfl hdn hg
/-- the first store -/
theorem JN.st {op : Op} {hs' : Hp} (h : Eff P n w0 own e hs op (fun v h => v = undef ∧ h = hs')) (kk : JN P n w0 own ops F z true rest e hs' K)
    (hE : isEff ⟨none, op, ty, pos, aft, g⟩ = true := by rfl) (hg : wantB ops e g = some true := by rfl) : JN P n w0 own ops F z false (⟨none, op, ty, pos, aft, g⟩ :: rest) e hs K := by
  intro m is listed Z h1 h2 h3 h4 h5 hz
  cases is with
  | nil => exact h1.elim
  | cons k is =>
  obtain ⟨h0, h1⟩ := h1
  unfold ordN at h2
  rw [Bool.and_eq_true, Bool.and_eq_true] at h2
  obtain ⟨⟨h2a, h2c⟩, h2b⟩ := h2
  rw [Bool.or_eq_true, Bool.or_eq_true, hE, eff_memN hE] at h2a
  have h2 := And.intro h2a h2b
  obtain rfl : k = z := by
    rw [h4] at h2c
    exact Nat.eq_of_beq_eq_true (by simpa using h2c)
  have ho : onlyB ops listed k = true := by
    rcases h2.1 with (h | h) | h
    · exact h
    · simp at h
    · simp at h
  have hk : k < listed.size := by rw [h3]; exact (Array.getElem?_eq_some_iff.1 h0).1
  rw [show (⟨none, op, ty, pos, aft, g⟩ :: rest : List Oper).length + m = (rest.length + m) + 1 from by simp; omega]
  refine JZ.st h0 ho (Nat.ble_eq_true_of_le hk) h (kk m is _ Z h1 h2.2 (by simpa using h3) (by simp [hk]) (fun h => by cases h) hz) hg
/-- a store behind it -/
theorem JN.st2 {op : Op} {hs' : Hp} (h : Eff P n w0 own e hs op (fun v h => v = undef ∧ h = hs')) (kk : JN P n w0 own ops F z true rest e hs' K)
    (hE : isEff ⟨none, op, ty, pos, aft, g⟩ = true := by rfl) (hg : wantB ops e g = some true := by rfl) : JN P n w0 own ops F z true (⟨none, op, ty, pos, aft, g⟩ :: rest) e hs K := by
  intro m is listed Z h1 h2 h3 h4 h5 hz
  cases is with
  | nil => exact h1.elim
  | cons k is =>
  obtain ⟨h0, h1⟩ := h1
  unfold ordN at h2
  rw [Bool.and_eq_true, Bool.and_eq_true] at h2
  obtain ⟨⟨h2a, h2c⟩, h2b⟩ := h2
  rw [Bool.or_eq_true, Bool.or_eq_true, hE, eff_memN hE] at h2a
  have h2 := And.intro h2a h2b
  have ho : onlyB ops listed k = true := by
    rcases h2.1 with (h | h) | h
    · exact h
    · simp at h
    · simp at h
  rw [show (⟨none, op, ty, pos, aft, g⟩ :: rest : List Oper).length + m = (rest.length + m) + 1 from by simp; omega]
  have hl := set_lt (k := k) (listed := listed) (z := z) h4 (.inl rfl)
  rcases Decidable.em (z = k) with rfl | hne
  · -- z has been: it cannot come up again
    have hr : Region.ready .any ops listed = [z] := by simpa [onlyB] using ho
    have hm : z ∈ Region.ready .any ops listed := by rw [hr]; simp
    obtain ⟨hu, _⟩ := mem_ready.1 hm
    have hk : z < listed.size := by rw [h3]; exact (Array.getElem?_eq_some_iff.1 h0).1
    simp [hk] at hu h4
    rw [hu] at h4; cases h4
  · exact JZ.st2 k h0 ho h4 (by cases h : Nat.beq z k; rfl; exact absurd (Nat.eq_of_beq_eq_true h) hne) h (kk m is _ Z h1 h2.2 (by simpa using h3) hl (fun h => by cases h) hz) hg
end
section
variable {P : Program} {n : Nat} {w0 : World} {own : List Nat} {e : Env} {hs F : Hp} {ops : Array Oper} {K : Bool → Env → Hp → Prop} {z : Nat} {late : Bool} {rest : List Oper}
variable {d : Nat} {ty : TypeId} {pos : String} {aft : Array Edge} {g : Option (Nat × Bool)}
/-- a call that leaves a value alone -/
theorem JQ.pc {f : Nat} {fo : Operand} {args : List Operand} {at_ : Array TypeId} {cap vals : List Value} {v : Value}
    (hf : ev e fo = some (.func (.func f) #[] ⟨cap⟩)) (ha : evs e args = some vals) (hc : ∀ w, Sat w0 own hs w → Is P f (vals ++ cap) w v) (kk : JQ P n w0 own ops F z late rest ((d, v) :: e) hs K) [hg : FnT P f]
    (hdn : Nat.blt d n = true := by rfl) (hw : wantB ops e g = some true := by rfl) (hzo : ((ops[z]?).map (·.dst.isNone)) = some true := by rfl) :
    JQ P n w0 own ops F z late (⟨some d, .call { callee := .value fo, args := ⟨args⟩, argTypes := at_ }, ty, pos, aft, g⟩ :: rest) e hs K :=
  JQ.ef (.call0 hf ha hc) (fun _ _ ⟨_, ⟨_, h2⟩, h3⟩ f => by subst h2; subst h3; exact f) (fun _ _ ⟨_, ⟨h1, h2⟩, h3⟩ => by subst h1; subst h2; subst h3; exact kk) rfl hdn hw hzo
theorem JN.pc {f : Nat} {fo : Operand} {args : List Operand} {at_ : Array TypeId} {cap vals : List Value} {v : Value}
    (hf : ev e fo = some (.func (.func f) #[] ⟨cap⟩)) (ha : evs e args = some vals) (hc : ∀ w, Sat w0 own hs w → Is P f (vals ++ cap) w v) (kk : JN P n w0 own ops F z late rest ((d, v) :: e) hs K) [hg : FnT P f]
    (hdn : Nat.blt d n = true := by rfl) (hw : wantB ops e g = some true := by rfl) (hzo : ((ops[z]?).map (·.dst.isNone)) = some true := by rfl) :
    JN P n w0 own ops F z late (⟨some d, .call { callee := .value fo, args := ⟨args⟩, argTypes := at_ }, ty, pos, aft, g⟩ :: rest) e hs K :=
  JN.ef (.call0 hf ha hc) (fun _ _ ⟨_, ⟨_, h2⟩, h3⟩ f => by subst h2; subst h3; exact f) (fun _ _ ⟨_, ⟨h1, h2⟩, h3⟩ => by subst h1; subst h2; subst h3; exact kk) rfl hdn hw hzo
end
end V
end Go

/- VPK: guards that are known: picks with a known condition, runs of operations that are passed over. -/
namespace Go
namespace V
open Go.RowKit
set_option linter.unusedVariables false
set_option linter.unusedSimpArgs false

section
variable {P : Program} {n : Nat} {w0 : World} {own : List Nat} {e : Env} {hs F : Hp} {ops : Array Oper} {l : List Oper} {K : Env → Hp → Prop}
theorem Val.pickT {c x y : Operand} {u v : Value} (hc : ev e c = some (.bool true)) (hx : ev e x = some u) (hy : ev e y = some v) : Val P n w0 own e hs (.pick c x y) u := by
  have := Val.pick (P := P) (n := n) (w0 := w0) (own := own) (hs := hs) hc hx hy
  simpa using this
theorem Val.pickF {c x y : Operand} {u v : Value} (hc : ev e c = some (.bool false)) (hx : ev e x = some u) (hy : ev e y = some v) : Val P n w0 own e hs (.pick c x y) v := by
  have := Val.pick (P := P) (n := n) (w0 := w0) (own := own) (hs := hs) hc hx hy
  simpa using this
theorem Val.yes {op : Op} {p : Prop} [Decidable p] (h : Val P n w0 own e hs op (.bool (decide p))) (hp : p) : Val P n w0 own e hs op (.bool true) := by rwa [decide_eq_true hp] at h
theorem Val.no {op : Op} {p : Prop} [Decidable p] (h : Val P n w0 own e hs op (.bool (decide p))) (hp : ¬ p) : Val P n w0 own e hs op (.bool false) := by rwa [decide_eq_false hp] at h
theorem Val.convE {T U : Nat} {x : Operand} {q r : IntKind} {i : Int} (j : Int) (hx : ev e x = some (.int q i)) [hT : IntT P T q] [hU : IntT P U r] (hj : r.wrap i = j) : Val P n w0 own e hs (.convert T U x) (.int r j) := hj ▸ Val.conv hx
/-- k operations are passed over -/
theorem JK.skn {e1 : Env} (k : Nat) (h : skB ops n (l.take k) e = some e1) (kk : JK P n w0 own ops F (l.drop k) e hs K) : JK P n w0 own ops F l e hs K := by
  rw [← List.take_append_drop k l]
  exact JK.app (JK.skips h fun e1' hs' => .nil (JK.sub hs' kk))
theorem JL.skn {e1 : Env} (k : Nat) (h : skB ops n (l.take k) e = some e1) (kk : JL P n w0 own ops (l.drop k) e hs K) : JL P n w0 own ops l e hs K := by
  rw [← List.take_append_drop k l]
  exact JL.app (JL.skips h fun e1' hs' => .nil (fun a w hr s => kk a w (hr.sub hs') s))
end
end V
end Go

/- VSF: one field of one record of an own slice is turned. -/
namespace Go
namespace V
open Go.RowKit
set_option linter.unusedVariables false
set_option linter.unusedSimpArgs false

theorem rows_setF {α : Type} (f : α → List Value) (m : Nat) (hm : ∀ a, (f a).length = m) {l : List α} {i k : Nat} (hi : i < l.length) (hk : k < m) {a' : α} {v : Value} (ha : f a' = (f l[i]).set k v) :
    (l.set i a').flatMap f = (l.flatMap f).set (i * m + k) v := by
  have e1 : l.set i a' = l.take i ++ a' :: l.drop (i + 1) := by rw [List.set_eq_take_append_cons_drop, if_pos hi]
  have e2 : l = l.take i ++ l[i] :: l.drop (i + 1) := by rw [← List.drop_eq_getElem_cons hi, List.take_append_drop]
  have hl : ((l.take i).flatMap f).length = i * m := by rw [flatMap_length f m hm, List.length_take]; congr 1; omega
  rw [e1]
  conv => rhs; rw [e2]
  rw [List.flatMap_append, List.flatMap_cons, List.flatMap_append, List.flatMap_cons, List.set_append, if_neg (by rw [hl]; omega), hl, List.set_append, if_pos (by rw [hm]; omega), ha]
  congr 3; omega
/-- a whole record -/
theorem rows_setR {α : Type} (f : α → List Value) (m : Nat) (hm : ∀ a, (f a).length = m) {l : List α} {i : Nat} (hi : i < l.length) (a' : α) : (l.set i a').flatMap f = splice (l.flatMap f) (i * m) (f a') := by
  have e1 : l.set i a' = l.take i ++ a' :: l.drop (i + 1) := by rw [List.set_eq_take_append_cons_drop, if_pos hi]
  have e2 : l = l.take i ++ l[i] :: l.drop (i + 1) := by rw [← List.drop_eq_getElem_cons hi, List.take_append_drop]
  have hl : ((l.take i).flatMap f).length = i * m := by rw [flatMap_length f m hm, List.length_take]; congr 1; omega
  unfold splice
  rw [e1]
  conv => rhs; rw [e2]
  rw [List.flatMap_append, List.flatMap_cons, List.flatMap_append, List.flatMap_cons, hm, List.take_left' hl, ← List.append_assoc (List.flatMap f (l.take i)) (f l[i]), List.drop_left' (by rw [List.length_append, hl, hm]), List.append_assoc]
theorem OwnS.setR {α : Type} (f : α → List Value) {m : Nat} (hm : ∀ a, (f a).length = m) {E b o c n' : Nat} {l : List α} {lc : List Value} (h : OwnS E m (.slice (some ⟨b, o, none⟩) n' c) l.length (l.flatMap f) [(b, .cells lc E)]) {i : Nat} (hi : i < l.length) (a' : α) :
    OwnS E m (.slice (some ⟨b, o, none⟩) n' c) (l.set i a').length ((l.set i a').flatMap f) [(b, .cells (splice lc (o + i * m) (f a')) E)] := by
  have hlt : i * m + (f a').length ≤ l.length * m := by
    have : (i + 1) * m ≤ l.length * m := Nat.mul_le_mul_right _ hi
    rw [Nat.add_mul, Nat.one_mul] at this
    rw [hm]; omega
  have := OwnS.spliceAt (i := i * m) (us := f a') h hlt
  rw [rows_setR f m hm hi, List.length_set]
  exact this
theorem OwnS.setF {α : Type} (f : α → List Value) {m : Nat} (hm : ∀ a, (f a).length = m) {E b o c n' : Nat} {l : List α} {lc : List Value} (h : OwnS E m (.slice (some ⟨b, o, none⟩) n' c) l.length (l.flatMap f) [(b, .cells lc E)]) {i : Nat} (k : Nat) (hi : i < l.length) (hk : k < m) {a' : α} {v : Value} (ha : f a' = (f l[i]).set k v) :
    OwnS E m (.slice (some ⟨b, o, none⟩) n' c) (l.set i a').length ((l.set i a').flatMap f) [(b, .cells (lc.set (o + i * m + k) v) E)] := by
  have hlt : i * m + k < l.length * m := by
    have : (i + 1) * m ≤ l.length * m := Nat.mul_le_mul_right _ hi
    rw [Nat.add_mul, Nat.one_mul] at this
    omega
  have := OwnS.setAt (i := i * m + k) (v := v) h hlt
  rw [rows_setF f m hm hi hk ha, List.length_set, Nat.add_assoc]
  exact this
theorem getP {vs us : List Value} (i : Nat) (h : (vs.drop i).take us.length = us) : ∀ (j : Nat) (v : Value), us[j]? = some v → vs[i + j]? = some v := by
  intro j v hj
  have e : us[j]? = ((vs.drop i).take us.length)[j]? := by rw [h]
  rw [e, List.getElem?_take] at hj
  split at hj
  · rw [List.getElem?_drop] at hj; exact hj
  · cases hj
section
variable {P : Program} {n : Nat} {w0 : World} {own : List Nat} {e : Env} {hs F : Hp} {ops : Array Oper} {K : Env → Hp → Prop} {m : Nat} {listed : Array Bool}
theorem JD.three (i j k : Nat) (hr : (Region.ready .any ops listed == [i, j, k]) = true) (h1 : JS P n w0 own ops F m listed e hs K i) (h2 : JS P n w0 own ops F m listed e hs K j) (h3 : JS P n w0 own ops F m listed e hs K k) : JD P n w0 own ops F (m + 1) listed e hs K := by
  intro a w hr' s hf
  refine wpAnyH_all (rs := [i, j, k]) (by simpa using hr) (by simp) fun x hx => ?_
  simp only [List.mem_cons, List.not_mem_nil, or_false] at hx
  rcases hx with rfl | rfl | rfl
  · exact h1 a w hr' s hf
  · exact h2 a w hr' s hf
  · exact h3 a w hr' s hf
end
end V
end Go

/- VF: from the data that come in to the words of V. -/
namespace Go
namespace V
open Go.RowKit Go.ChangeShapes Go.WideShapes Go.ChangeAt
set_option linter.unusedVariables false

theorem Does.calls {P : Program} {g : Nat} {vals : List Value} {w : World} {R : Value → Hp → Prop} (h : Does P g vals [] w R) : Calls P g ⟨vals⟩ w fun e w' => (∃ v hs, e = .returned v ∧ R v hs) ∧ Below w.heap.size w w' :=
  (h (fun _ _ h => (List.not_mem_nil h).elim) (by simp [bl])).mono fun e w' ⟨v, hs, h1, h2, h3⟩ => ⟨⟨v, hs, h1, h2⟩, (Sat.sub (hs' := []) h3 (List.nil_sublist _)).below⟩

/-- numbers of a slice as they are read -/
def ints (k : IntKind) (zs : List Int) : List Value := zs.map (.int k)
theorem open_slice_ints {H : Type} {enc : TypeId × Value → H} {P : Program} {W : World} {base : Nat} {spare : Nat → Bool} {held : Bool} {t e : Nat} {k : IntKind} {a0 : Option Addr} {len cap : Nat} {d : DataW H} {p : List MemPlace}
    (ht : P.underlying t = some (.slice e)) (he : P.underlying e = some (.int k)) (hc : P.cellsOf e = 1)
    (h : DataW.Trod enc P W base spare held t (.slice a0 len cap) d p) :
    ∃ zs : List Int, Rd W [] a0 (ints k zs) ∧ len = zs.length ∧ (∀ n ∈ zs, (Lit.int k n).wf = true) ∧ (len = 0 ∨ ∃ elems sp, d = .slice elems sp ∧ elems.length = len) := by
  obtain ⟨fuel, hf⟩ := h
  rcases open_ints ht he hc hf with ⟨hcs, hx⟩ | ⟨x, l, c, zs, hcs, _, hl, hm, hz, hx, hcell, hwz⟩
  · simp [Value.cells] at hcs
    obtain ⟨rfl, rfl, rfl⟩ := hcs
    exact ⟨[], Rd.nil _ _ _, rfl, by simp, .inl rfl⟩
  · simp [Value.cells] at hcs
    obtain ⟨rfl, rfl, rfl⟩ := hcs
    have hzl : len ≤ zs.length := by split at hz <;> omega
    refine ⟨zs.take len, ?_, by simp; omega, fun n hn => hwz n (List.mem_of_mem_take hn), .inr ?_⟩
    · intro j v hv
      have hj : j < len := by
        have := (List.getElem?_eq_some_iff.1 hv).1
        simp [ints] at this; omega
      have hjz : j < zs.length := by omega
      have hcj := hcell j hjz
      obtain ⟨b, o, sp⟩ := x
      have hspot : sp = none := by simpa [Addr.add] using World.cell?_spot (hcell 0 (by omega))
      subst hspot
      refine ⟨b, o, rfl, by simp, ?_⟩
      rw [add_none] at hcj
      rw [hcj]
      simp [ints, hj, hjz] at hv
      simp [List.getElem?_eq_getElem hjz, hv]
    · simp only [Prod.mk.injEq] at hx
      exact ⟨_, _, hx.1, by simp [lits]; omega⟩
theorem wf_u8 {n : Int} (h : (Lit.int .u8 n).wf = true) : 0 ≤ n ∧ n ≤ 255 := by
  simpa [Lit.wf, IntKind.min, IntKind.max, IntKind.signed, IntKind.bits] using h
theorem ints_bytes {zs : List Int} (h : ∀ n ∈ zs, (Lit.int .u8 n).wf = true) : ∃ xs : List (BitVec 8), ints .u8 zs = byts xs ∧ xs.length = zs.length := by
  refine ⟨zs.map fun n => BitVec.ofNat 8 n.toNat, ?_, by simp⟩
  simp only [ints, byts, List.map_map]
  apply List.map_congr_left
  intro n hn
  have := wf_u8 (h n hn)
  simp
  omega
theorem open_bytes {H : Type} {enc : TypeId × Value → H} {P : Program} {W : World} {base : Nat} {spare : Nat → Bool} {held : Bool} {t e : Nat} {a0 : Option Addr} {len cap : Nat} {d : DataW H} {p : List MemPlace}
    (ht : P.underlying t = some (.slice e)) (he : P.underlying e = some (.int .u8)) (hc : P.cellsOf e = 1)
    (h : DataW.Trod enc P W base spare held t (.slice a0 len cap) d p) :
    ∃ xs : List (BitVec 8), Rd W [] a0 (byts xs) ∧ len = xs.length ∧ (len = 0 ∨ ∃ elems sp, d = .slice elems sp ∧ elems.length = len) := by
  obtain ⟨zs, h1, h2, h3, h4⟩ := open_slice_ints ht he hc h
  obtain ⟨xs, e1, e2⟩ := ints_bytes h3
  exact ⟨xs, e1 ▸ h1, by omega, h4⟩
end V
end Go

/- VSO: a row of numbers in memory, as an array: what the library's sorting turns. -/
namespace Go
namespace V
open Go.RowKit
open Go.Sort (swp)
set_option linter.unusedVariables false
set_option linter.unusedSimpArgs false

structure SO (q : IntKind) (E b o c n : Nat) (d : Array Int) (l : List Value) : Prop where
  sz : d.size = n
  own : OwnS E 1 (.slice (some ⟨b, o, none⟩) n c) n (ints q d.toList) [(b, .cells l E)]
section
variable {q : IntKind} {E b o c n : Nat} {d : Array Int} {l : List Value}
theorem ints_get {d : Array Int} {i : Nat} (hi : i < d.size) : (ints q d.toList)[i]? = some (.int q d[i]!) := by
  rw [ints, List.getElem?_map, Array.getElem?_toList, Array.getElem?_eq_getElem hi, getElem!_pos d i hi]; rfl
theorem SO.at_ (k : SO q E b o c n d l) {i : Nat} (hi : i < n) {w0 : World} {own : List Nat} {hs : Hp} (hh : [(b, Ch.cells l E)] ⊆ hs) : At w0 own hs ⟨b, o + i, none⟩ [.int q d[i]!] :=
  k.own.at1 hh (ints_get (by rw [k.sz]; exact hi))
theorem SO.len (k : SO q E b o c n d l) : o + n ≤ l.length := by
  rcases k.own.2 with ⟨_, _, h3⟩ | ⟨b', o', cap, l', h1, h2, h3, h4, h5⟩
  · cases h3
  · cases h1; cases h2; omega
theorem SO.set (k : SO q E b o c n d l) {i : Nat} (hi : i < n) (x : Int) : SO q E b o c n (d.setIfInBounds i x) (l.set (o + i) (.int q x)) := by
  refine ⟨by rw [Array.size_setIfInBounds]; exact k.sz, ?_⟩
  have := OwnS.setAt (v := .int q x) k.own (i := i) (by omega)
  rw [show ints q (d.setIfInBounds i x).toList = (ints q d.toList).set i (.int q x) by rw [Array.toList_setIfInBounds, ints, ints, List.map_set]]
  exact this
theorem SO.swp (k : SO q E b o c n d l) {i j : Nat} (hi : i < n) (hj : j < n) : SO q E b o c n (swp d i j) ((l.set (o + i) (.int q d[j]!)).set (o + j) (.int q d[i]!)) :=
  (k.set hi d[j]!).set hj d[i]!
end
section
variable {P : Program} {m : Nat} {w0 : World} {own : List Nat} {e : Env} {hs : Hp}
theorem Val.indexN {T E b o len cap : Nat} {x y : Operand} (i : Nat) {q : IntKind} (hx : ev e x = some (.slice (some ⟨b, o, none⟩) len cap)) (hy : ev e y = some (.int q i)) [hT : SliceT P T E] [hE : Sz P E 1] (h1 : i < len) :
    Val P m w0 own e hs (.indexAddr T x y) (.pointer (some ⟨b, o + i, none⟩)) := by
  have h := Val.indexAddr1 (P := P) (n := m) (w0 := w0) (own := own) (hs := hs) (T := T) hx hy (by omega) (by omega)
  rw [Int.toNat_natCast] at h; exact h
theorem Val.quoN {T U : Nat} {x y : Operand} {i : Nat} (r : Nat) {j : Int} (hx : ev e x = some (.int .i64 i)) (hy : ev e y = some (.int .i64 j)) (h0 : 0 < j) (hr : (i : Int) / j = r) (hb : i < 4611686018427387904) (hb2 : r < 4611686018427387904) : Val P m w0 own e hs (.binOp .quo T x y U) (.int .i64 r) := by
  have h := Val.quo (P := P) (n := m) (w0 := w0) (own := own) (hs := hs) (T := T) (U := U) hx hy (by omega)
  rw [Int.tdiv_eq_ediv_of_nonneg (by omega), hr, wrap_i64 (by omega)] at h
  exact h
end
end V
end Go

/- An auction's rows in memory: interests as a list. -/
namespace Go.Proofs.Ytamldmgdhaoigaa
open Go.V
set_option linter.unusedVariables false
set_option linter.unusedSimpArgs false

theorem irows_len (l : List It) : (irows l).length = l.length * 6 := flatMap_length It.cells 6 (fun _ => rfl) l
theorem irows_ones (l : List It) : ones (irows l) = true := Go.V.rows_ones It.cells (fun _ => rfl) l
theorem irows_app (a b : List It) : irows (a ++ b) = irows a ++ irows b := List.flatMap_append ..
/-- a row of interests in a block -/
structure SI (b o c n : Nat) (d : List It) (l : List Value) : Prop where
  sz : d.length = n
  own : OwnS 36 6 (.slice (some ⟨b, o, none⟩) n c) n (irows d) [(b, .cells l 36)]
abbrev IB (b : Nat) (l : List Value) : Nat × Ch := (b, .cells l 36)
section
variable {b o c n : Nat} {d : List It} {l : List Value}
theorem SI.len (k : SI b o c n d l) : o + n * 6 ≤ l.length := by
  rcases k.own.2 with ⟨_, _, h3⟩ | ⟨b', o', cap, l', h1, h2, h3, h4, h5⟩
  · cases h3
  · cases h1; cases h2
    have := Nat.mul_le_mul_right 6 h3
    omega
theorem SI.at_ (k : SI b o c n d l) {i : Nat} (hi : i < n) {w0 : World} {own : List Nat} {hs : Hp} (hh : [IB b l] ⊆ hs) : At w0 own hs ⟨b, o + i * 6, none⟩ (d[i]!).cells := by
  have h := k.sz
  have := recAt (w0 := w0) (own := own) (hs := hs) It.cells 6 (fun _ => rfl) (z := (i : Int)) (OwnS.at0 k.own hh) (i := i) (by omega)
  rw [Int.toNat_natCast] at this
  rw [getElem!_pos d i (by omega)]
  exact this
theorem SI.fld (k : SI b o c n d l) {i : Nat} (hi : i < n) (j : Nat) {v : Value} (hv : ((d[i]!).cells)[j]? = some v) {w0 : World} {own : List Nat} {hs : Hp} (hh : [IB b l] ⊆ hs) : At w0 own hs ⟨b, o + i * 6 + j, none⟩ [v] := by
  have h := k.sz
  rw [getElem!_pos d i (by omega)] at hv
  have := fldAt (w0 := w0) (own := own) (hs := hs) It.cells 6 (fun _ => rfl) (z := (i : Int)) (OwnS.at0 k.own hh) (i := i) (by omega) j hv
  rw [Int.toNat_natCast] at this
  exact this
theorem SI.set (k : SI b o c n d l) {i : Nat} (hi : i < n) (x : It) : SI b o c n (d.set i x) (splice l (o + i * 6) x.cells) := by
  have h := k.sz
  subst h
  exact ⟨List.length_set, by have := OwnS.setR It.cells (fun _ => rfl) k.own hi x; rw [List.length_set] at this; exact this⟩
theorem SI.swp (k : SI b o c n d l) {i j : Nat} (hi : i < n) (hj : j < n) : SI b o c n ((d.set i d[j]!).set j d[i]!) (splice (splice l (o + i * 6) (d[j]!).cells) (o + j * 6) (d[i]!).cells) := (k.set hi d[j]!).set hj d[i]!
theorem SI.to (k : SI b o c n d l) {d' : List It} (e : d = d') : SI b o c n d' l := e ▸ k
end
theorem get_mid (U V : List It) (x : It) : (U ++ x :: V)[U.length]! = x := by
  rw [getElem!_pos _ _ (by simp)]; simp
theorem get_mid2 (U M V : List It) (x y : It) : (U ++ x :: (M ++ y :: V))[U.length + 1 + M.length]! = y := by
  have e : U ++ x :: (M ++ y :: V) = (U ++ x :: M) ++ y :: V := by simp
  have := get_mid (U ++ x :: M) V y
  rw [← e, List.length_append, List.length_cons, show U.length + (M.length + 1) = U.length + 1 + M.length by omega] at this
  exact this
theorem swp_mid (U M V : List It) (x y : It) : ((U ++ x :: (M ++ y :: V)).set U.length y).set (U.length + 1 + M.length) x = U ++ y :: (M ++ x :: V) := by
  rw [List.set_append_right _ _ (Nat.le_refl _), Nat.sub_self, List.set_cons_zero]
  rw [List.set_append_right _ _ (by omega), show U.length + 1 + M.length - U.length = M.length + 1 by omega, List.set_cons_succ, List.set_append_right _ _ (Nat.le_refl _), Nat.sub_self, List.set_cons_zero]
theorem swp_mid' (U M V : List It) (x y : It) : ((U ++ x :: (M ++ y :: V)).set (U.length + 1 + M.length) x).set U.length y = U ++ y :: (M ++ x :: V) := by
  rw [List.set_comm _ _ (by omega)]; exact swp_mid U M V x y
section
variable {P : Program} {m : Nat} {w0 : World} {own : List Nat} {e : Env} {hs : Hp}
theorem _root_.Go.V.Val.as {op : Op} {v v' : Value} (h : Val P m w0 own e hs op v) (q : v = v') : Val P m w0 own e hs op v' := q ▸ h
theorem _root_.Go.V.Val.indexM {T E M b o len cap : Nat} {x y : Operand} (i : Nat) {q : IntKind} (hx : ev e x = some (.slice (some ⟨b, o, none⟩) len cap)) (hy : ev e y = some (.int q i)) [hT : SliceT P T E] [hE : Sz P E M] (h1 : i < len) :
    Val P m w0 own e hs (.indexAddr T x y) (.pointer (some ⟨b, o + i * M, none⟩)) := by
  have h := Val.indexAddr (P := P) (n := m) (w0 := w0) (own := own) (hs := hs) (T := T) hx hy (by omega) (by omega)
  rw [Int.toNat_natCast] at h; exact h
end
/-! ### how interests are compared -/
def cmpZ (a b : Int) : Int := if a < b then -1 else if b < a then 1 else 0
theorem cmpZ_lt (a b : Int) : cmpZ a b < 0 ↔ a < b := by
  unfold cmpZ
  split
  · simp_all
  · split <;> omega
theorem isNaNI_ok (w : World) (x : Int) : Is Try.prog 67 [.int .i64 x] w (.bool false) := by
  refine Does.pure (Does.of (n := 6) Try.func67 rfl rfl rfl rfl ?_)
  refine .seq ((.region (.v (.assign rfl) (.nil ?_))))
  refine .seq ((.region (.v (.move rfl) (.v (.move rfl) (.v (.no (.nei rfl rfl) (by simp)) (.v (.assign rfl) (.nil ?_)))))))
  exact .ret ⟨[_], ⟨rfl, trivial⟩, rfl⟩
theorem compare_ok (w : World) (x y : Int) : Is Try.prog 45 [.int .i64 x, .int .i64 y] w (.int .i64 (cmpZ x y)) := by
  refine Does.pure (Does.of (n := 20) Try.func45 rfl rfl rfl rfl ?_)
  refine .seq ((.region (.v (.assign rfl) (.nil ?_))))
  refine .seq ((.region (.v (.move rfl) (.pc rfl rfl (fun w s => isNaNI_ok w x) (.v (.assign rfl) (.nil ?_))))))
  refine .seq ((.region (.v (.move rfl) (.pc rfl rfl (fun w s => isNaNI_ok w y) (.v (.assign rfl) (.nil ?_))))))
  refine .seq (.seq ((.region (.v (.move rfl) (.nil ?_)))))
  refine .cond_false rfl (.skip ?_)
  refine .seq (.seq ((.region (.v (.move rfl) (.nil ?_)))))
  refine .cond_false rfl (.skip ?_)
  refine .seq (.seq ((.region (.v (.move rfl) (.v (.move rfl) (.v (.lss rfl rfl) (.nil ?_)))))))
  refine .cond_dec rfl (fun h4 => ?_) (fun h4 => .skip ?_)
  · refine .seq ((.region (.v (.assign rfl) (.nil ?_))))
    exact .ret ⟨[_], ⟨rfl, trivial⟩, by unfold cmpZ; rw [if_pos h4]; rfl⟩
  · refine .seq (.seq ((.region (.v (.move rfl) (.v (.move rfl) (.v (.gtr rfl rfl) (.nil ?_)))))))
    refine .cond_dec rfl (fun h5 => ?_) (fun h5 => .skip ?_)
    · refine .seq ((.region (.v (.assign rfl) (.nil ?_))))
      exact .ret ⟨[_], ⟨rfl, trivial⟩, by unfold cmpZ; rw [if_neg h4, if_pos (by omega)]; rfl⟩
    · refine .seq ((.region (.v (.assign rfl) (.nil ?_))))
      exact .ret ⟨[_], ⟨rfl, trivial⟩, by unfold cmpZ; rw [if_neg h4, if_neg (by omega)]; rfl⟩
/-- prices that can be -/
abbrev It.P (x : It) : Prop := -1 ≤ x.pr ∧ x.pr ≤ 262144
theorem rank_ok (w : World) (x : It) (hp : x.P) : Is Try.prog 46 [.agg ⟨x.cells⟩] w (.int .i64 (rank x)) := by
  obtain ⟨p1, p2⟩ := hp
  refine Does.pure (Does.of (n := 16) Try.func46 rfl rfl rfl rfl ?_)
  refine .seq ((.region (.nw (.box (l := x.cells) rfl rfl) fun b1 => (.v (.assign rfl) (.nil ?_)))))
  refine .seq (.block (.seq ((.region (.v (.fieldAddr rfl) (.v (.load (v := .int .i64 x.ty) rfl (.one rfl)) (.v (.eqi rfl rfl) (.v (.assign rfl) (.nil ?_)))))))))
  refine .cond_dec rfl (fun h1 => ?_) (fun h1 => ?_)
  · refine .seq ((.region (.v (.assign rfl) (.nil ?_))))
    exact .ret ⟨[_], ⟨rfl, trivial⟩, by unfold rank; rw [if_pos h1]; rfl⟩
  · refine .seq ((.region (.v (.fieldAddr rfl) (.v (.load (v := .int .i64 x.sd) rfl (.one rfl)) (.v (.eqi rfl rfl) (.v (.assign rfl) (.nil ?_)))))))
    refine .cond_dec rfl (fun h2 => ?_) (fun h2 => .skip ?_)
    · refine .seq ((.region (.v (.fieldAddr rfl) (.v (.load (v := .int .i64 x.pr) rfl (.one rfl)) (.v (.subi rfl rfl (by omega)) (.v (.assign rfl) (.nil ?_)))))))
      exact .ret ⟨[_], ⟨rfl, trivial⟩, by unfold rank; rw [if_neg h1, if_pos h2]; rfl⟩
    · refine .seq ((.region (.v (.fieldAddr rfl) (.v (.load (v := .int .i64 x.pr) rfl (.one rfl)) (.v (.assign rfl) (.nil ?_))))))
      exact .ret ⟨[_], ⟨rfl, trivial⟩, by unfold rank; rw [if_neg h1, if_neg h2]; rfl⟩
theorem cmpI_ok (w : World) (x y : It) (hx : x.P) (hy : y.P) : Is Try.prog 44 [.agg ⟨x.cells⟩, .agg ⟨y.cells⟩] w (.int .i64 (cmpZ (rank x) (rank y))) := by
  refine Does.pure (Does.of (n := 10) Try.func44 rfl rfl rfl rfl ?_)
  refine .seq ((.region (.nw (.box (l := x.cells) rfl rfl) fun b2 => (.nw (.box (l := y.cells) rfl rfl) fun b3 => (.v (.assign rfl) (.nil ?_))))))
  refine .seq (.drawP [0, 2, 1, 3, 4, 5] [(b3, .cells y.cells 36), (b2, .cells x.cells 36)] (fun _ h => h) (by kernel_rfl) (by kernel_rfl) ?_)
  refine .v (fun _ f => .loadA (vs := x.cells) rfl (.whole (hb := .sub f)) rfl) (.v (fun _ f => .loadA (vs := y.cells) rfl (.whole (hb := .sub f)) rfl) (.pc rfl rfl (fun w s => rank_ok w x hx) (.pc rfl rfl (fun w s => rank_ok w y hy) (.pc rfl rfl (fun w s => compare_ok w _ _) (.v (fun _ f => .assign rfl) (.nil ?_))))))
  exact .ret ⟨[_], ⟨rfl, trivial⟩, rfl⟩
end Go.Proofs.Ytamldmgdhaoigaa

/- slices.swapRangeCmpFunc, rotateCmpFunc, insertionSortCmpFunc over interests. -/
namespace Go.Proofs.Ytamldmgdhaoigaa
open Go.V
set_option linter.unusedVariables false
set_option linter.unusedSimpArgs false
set_option maxRecDepth 20000

abbrev CF : Value := .func (.func 44) #[] ⟨[]⟩
abbrev SIR (b o c n : Nat) (d : List It) (hs : Hp) : Prop := ∃ l', hs = [IB b l'] ∧ SI b o c n d l'
structure SwS where
  i : Nat
  l : List Value
theorem swr_ok (w : World) {b o c n : Nat} {l : List Value} (Pre P M Q Post : List It) (hPQ : P.length = Q.length) (k : SI b o c n (Pre ++ (P ++ (M ++ (Q ++ Post)))) l) (hn : n < 1152921504606846976) (a e m : Nat) (ha : a = Pre.length) (he : e = Pre.length + P.length + M.length) (hm : m = P.length) (cv : Value) :
    Does Try.prog 97 [.slice (some ⟨b, o, none⟩) n c, .int .i64 a, .int .i64 e, .int .i64 m, cv] [IB b l] w (fun _ hs => SIR b o c n (Pre ++ (Q ++ (M ++ (P ++ Post)))) hs) := by
  refine Does.of (n := 38) Try.func97 rfl rfl rfl rfl ?_
  have hsz := k.sz
  simp only [List.length_append] at hsz
  refine .seq ((.region (.v (.assign rfl) (.nil ?_))))
  refine .block (.loop (X := SwS) (fun x => [(0, .slice (some ⟨b, o, none⟩) n c), (1, .int .i64 a), (2, .int .i64 e), (3, .int .i64 m), (10, .int .i64 x.i)]) (fun x => [IB b x.l]) (fun x => x.i ≤ m ∧ SI b o c n (Pre ++ (Q.take x.i ++ (P.drop x.i ++ (M ++ (P.take x.i ++ (Q.drop x.i ++ Post)))))) x.l) (fun x => m - x.i) ⟨0, l⟩ ⟨Nat.zero_le _, by simpa using k⟩ (.cons rfl (.cons rfl (.cons rfl (.cons rfl (.cons rfl (.nil _)))))) (fun _ s => s) ?_)
  clear k
  rintro ⟨i, l⟩ ⟨hi, k⟩
  dsimp only at hi k ⊢
  refine .seq (.seq ((.region (.v (.move rfl) (.v (.move rfl) (.v (.lss rfl rfl) (.nil ?_)))))))
  refine .cond_dec rfl (fun h1 => .skip ?_) (fun h1 => .exit ?_)
  · have him : i < m := by omega
    have hiP : i < P.length := by omega
    have hiQ : i < Q.length := by omega
    have e1 : Pre ++ (Q.take i ++ (P.drop i ++ (M ++ (P.take i ++ (Q.drop i ++ Post))))) = (Pre ++ Q.take i) ++ P[i] :: ((P.drop (i + 1) ++ (M ++ P.take i)) ++ Q[i] :: (Q.drop (i + 1) ++ Post)) := by
      rw [List.drop_eq_getElem_cons hiP, List.drop_eq_getElem_cons hiQ]; simp only [List.append_assoc, List.cons_append]
    have e2 : (Pre ++ Q.take i) ++ Q[i] :: ((P.drop (i + 1) ++ (M ++ P.take i)) ++ P[i] :: (Q.drop (i + 1) ++ Post)) = Pre ++ (Q.take (i + 1) ++ (P.drop (i + 1) ++ (M ++ (P.take (i + 1) ++ (Q.drop (i + 1) ++ Post))))) := by
      rw [List.take_succ_eq_append_getElem hiP, List.take_succ_eq_append_getElem hiQ]; simp only [List.append_assoc, List.cons_append, List.nil_append]
    have l1 : (Pre ++ Q.take i).length = a + i := by rw [List.length_append, List.length_take]; omega
    have l2 : (Pre ++ Q.take i).length + 1 + (P.drop (i + 1) ++ (M ++ P.take i)).length = e + i := by
      simp only [List.length_append, List.length_take, List.length_drop]; omega
    rw [e1] at k
    have g1 := get_mid (Pre ++ Q.take i) ((P.drop (i + 1) ++ (M ++ P.take i)) ++ Q[i] :: (Q.drop (i + 1) ++ Post)) P[i]
    have g2 := get_mid2 (Pre ++ Q.take i) (P.drop (i + 1) ++ (M ++ P.take i)) (Q.drop (i + 1) ++ Post) P[i] Q[i]
    have g3 := swp_mid (Pre ++ Q.take i) (P.drop (i + 1) ++ (M ++ P.take i)) (Q.drop (i + 1) ++ Post) P[i] Q[i]
    rw [l2] at g2 g3
    rw [l1] at g1 g3
    rw [e2] at g3
    generalize (Pre ++ Q.take i) ++ P[i] :: ((P.drop (i + 1) ++ (M ++ P.take i)) ++ Q[i] :: (Q.drop (i + 1) ++ Post)) = d at k g1 g2 g3
    have q1 := fun hs' hsub => k.at_ (w0 := w) (own := [b]) (hs := hs') (i := a + i) (by omega) hsub
    have q2 := fun hs' hsub => k.at_ (w0 := w) (own := [b]) (hs := hs') (i := e + i) (by omega) hsub
    have k3 := k.swp (i := a + i) (j := e + i) (by omega) (by omega)
    have hlen := k.len
    rw [g1] at q1 k3
    rw [g2] at q2 k3
    rw [g3] at k3
    generalize P[i] = x at q1 k3
    generalize Q[i] = y at q2 k3
    clear g1 g2 g3 e1 e2 l1 l2
    refine .seq (.block ((.drawY 21 [0, 1, 2, 3, 4, 5, 6, 7, 8, 9, 10, 11, 12, 13, 14, 15, 16, 17, 18, 19, 20, 21, 22, 23] [IB b l] (fun _ h => h) (by kernel_rfl) (by kernel_rfl) ?_)))
    refine .x (fun _ _ _ => .move rfl) (.x (fun _ _ _ => .move rfl) (.x (fun _ _ _ => .move rfl) (.x (fun _ _ _ => .addE ((a + i : Nat) : Int) rfl rfl (by omega) (by omega)) (.x (fun _ _ _ => .move rfl) (.x (fun _ _ _ => .move rfl) (.x (fun _ _ _ => .move rfl) (.x (fun _ _ _ => .addE ((e + i : Nat) : Int) rfl rfl (by omega) (by omega)) (.x (fun _ _ _ => .move rfl) (.x (fun _ _ _ => .move rfl) (.x (fun _ _ _ => .move rfl) (.x (fun _ _ _ => .addE ((e + i : Nat) : Int) rfl rfl (by omega) (by omega)) (.x (fun _ _ _ => .indexM (e + i) rfl rfl (by omega)) (.v (fun hs' f => .loadA (vs := y.cells) rfl (q2 hs' f) rfl) ?_)))))))))))))
    refine .x (fun _ _ _ => .move rfl) (.x (fun _ _ _ => .move rfl) (.x (fun _ _ _ => .move rfl) (.x (fun _ _ _ => .addE ((a + i : Nat) : Int) rfl rfl (by omega) (by omega)) (.x (fun _ _ _ => .indexM (a + i) rfl rfl (by omega)) (.v (fun hs' f => .loadA (vs := x.cells) rfl (q1 hs' f) rfl) ?_)))))
    refine .x (fun _ _ _ => .indexM (a + i) rfl rfl (by omega)) (.st (.storeA rfl rfl rfl rfl (by show o + (a + i) * 6 + 6 ≤ _; omega)) (.x (fun _ _ _ => .indexM (e + i) rfl rfl (by omega)) (.st2 (.storeA rfl rfl rfl rfl (by rw [splice_length _ _ _ (by show o + (a + i) * 6 + 6 ≤ _; omega)]; show o + (e + i) * 6 + 6 ≤ _; omega)) (.nil ?_))))
    refine .region (.v (.move rfl) (.v (.addE ((i + 1 : Nat) : Int) rfl rfl (by omega) (by omega)) (.v (.assign rfl) (.nil ?_))))
    exact ⟨⟨i + 1, _⟩, ⟨by show i + 1 ≤ m; omega, k3⟩, by show m - (i + 1) < m - i; omega, .cons rfl (.cons rfl (.cons rfl (.cons rfl (.cons rfl (.nil _))))), fun _ s => s⟩
  · have : i = m := by omega
    subst this
    rw [List.take_of_length_le (by omega), List.take_of_length_le (by omega), List.drop_of_length_le (by omega), List.drop_of_length_le (by omega)] at k
    exact ⟨[], trivial, l, rfl, k⟩
structure RoS where
  i : Nat
  j : Nat
  Pre : List It
  P : List It
  Q : List It
  Post : List It
  l : List Value
theorem rot_ok (w : World) {b o c n : Nat} {l : List Value} (X A B Y : List It) (k : SI b o c n (X ++ (A ++ (B ++ Y))) l) (hn : n < 1152921504606846976) (a m e : Nat) (ha : a = X.length) (hm : m = X.length + A.length) (he : e = X.length + A.length + B.length) (h1 : 0 < A.length) (h2 : 0 < B.length) (cv : Value) :
    Does Try.prog 95 [.slice (some ⟨b, o, none⟩) n c, .int .i64 a, .int .i64 m, .int .i64 e, cv] [IB b l] w (fun _ hs => SIR b o c n (X ++ (B ++ (A ++ Y))) hs) := by
  refine Does.of (n := 58) Try.func95 rfl rfl rfl rfl ?_
  have hsz := k.sz
  simp only [List.length_append] at hsz
  refine .seq ((.region (.v (.move rfl) (.v (.move rfl) (.v (.subE (A.length : Int) rfl rfl (by omega) (by omega)) (.v (.assign rfl) (.nil ?_)))))))
  refine .seq ((.region (.v (.move rfl) (.v (.move rfl) (.v (.subE (B.length : Int) rfl rfl (by omega) (by omega)) (.v (.assign rfl) (.nil ?_)))))))
  refine .seq (.block (.loop (X := RoS) (fun x => [(0, .slice (some ⟨b, o, none⟩) n c), (2, .int .i64 m), (4, cv), (10, .int .i64 x.i), (11, .int .i64 x.j)]) (fun x => [IB b x.l]) (fun x => (0 < x.i ∧ 0 < x.j) ∧ (x.P.length = x.i ∧ x.Q.length = x.j ∧ x.Pre.length + x.i = m) ∧ SI b o c n (x.Pre ++ (x.P ++ (x.Q ++ x.Post))) x.l ∧ x.Pre ++ (x.Q ++ (x.P ++ x.Post)) = X ++ (B ++ (A ++ Y))) (fun x => x.i + x.j) ⟨A.length, B.length, X, A, B, Y, l⟩ ⟨⟨h1, h2⟩, ⟨rfl, rfl, hm.symm⟩, k, rfl⟩ (.cons rfl (.cons rfl (.cons rfl (.cons rfl (.cons rfl (.nil _)))))) (fun _ s => s) ?_))
  clear k
  rintro ⟨i, j, Pre, P, Q, Post, l⟩ ⟨⟨hi, hj⟩, ⟨hP, hQ, hPre⟩, k, ht⟩
  dsimp only at hi hj hP hQ hPre k ht ⊢
  have hsz2 := k.sz
  simp only [List.length_append] at hsz2
  refine .seq (.seq ((.region (.v (.move rfl) (.v (.move rfl) (.v (.nei rfl rfl) (.nil ?_)))))))
  refine .cond_dec rfl (fun g1 => .skip ?_) (fun g1 => .exit ?_)
  · refine .block (.seq ((.region (.v (.move rfl) (.v (.move rfl) (.v (.gtr rfl rfl) (.nil ?_)))))))
    refine .cond_dec rfl (fun g2 => ?_) (fun g2 => ?_)
    · have e1 : Pre ++ (P ++ (Q ++ Post)) = Pre ++ (P.take j ++ (P.drop j ++ (Q ++ Post))) := by
        rw [← List.append_assoc (P.take j), List.take_append_drop]
      rw [e1] at k
      refine .seq ((.region (.v (.move rfl) (.v (.move rfl) (.v (.move rfl) (.v (.subE ((Pre.length : Nat) : Int) rfl rfl (by omega) (by omega)) (.v (.move rfl) (.v (.move rfl) (.v (.move rfl) ?_)))))))))
      refine .ef (.callT [IB b l] rfl rfl fun w s => swr_ok w Pre (P.take j) (P.drop j) Q Post (by rw [List.length_take]; omega) k hn Pre.length m j rfl (by rw [List.length_take, List.length_drop]; omega) (by rw [List.length_take]; omega) cv) ?_
      rintro _ _ ⟨_, ⟨l', rfl, k'⟩, rfl⟩
      refine .nil ?_
      refine .region (.v (.move rfl) (.v (.move rfl) (.v (.subE ((i - j : Nat) : Int) rfl rfl (by omega) (by omega)) (.v (.assign rfl) (.nil ?_)))))
      refine ⟨⟨i - j, j, Pre ++ Q, P.drop j, P.take j, Post, l'⟩, ⟨⟨by show 0 < i - j; omega, hj⟩, ⟨by show (P.drop j).length = i - j; rw [List.length_drop]; omega, by show (P.take j).length = j; rw [List.length_take]; omega, by show (Pre ++ Q).length + (i - j) = m; rw [List.length_append]; omega⟩, ?_, ?_⟩, by show i - j + j < i + j; omega, .cons rfl (.cons rfl (.cons rfl (.cons rfl (.cons rfl (.nil _))))), fun _ s => s.take⟩
      · show SI b o c n ((Pre ++ Q) ++ (P.drop j ++ (P.take j ++ Post))) l'
        rw [List.append_assoc]; exact k'
      · show (Pre ++ Q) ++ (P.take j ++ (P.drop j ++ Post)) = _
        rw [← List.append_assoc (P.take j), List.take_append_drop, List.append_assoc]; exact ht
    · have hij : i < j := by omega
      have e1 : Pre ++ (P ++ (Q ++ Post)) = Pre ++ (P ++ (Q.take (j - i) ++ (Q.drop (j - i) ++ Post))) := by
        rw [← List.append_assoc (Q.take (j - i)), List.take_append_drop]
      rw [e1] at k
      refine .seq ((.region (.v (.move rfl) (.v (.move rfl) (.v (.move rfl) (.v (.subE ((Pre.length : Nat) : Int) rfl rfl (by omega) (by omega)) (.v (.move rfl) (.v (.move rfl) (.v (.addE ((m + j : Nat) : Int) rfl rfl (by omega) (by omega)) (.v (.move rfl) (.v (.subE ((m + j - i : Nat) : Int) rfl rfl (by omega) (by omega)) (.v (.move rfl) (.v (.move rfl) ?_)))))))))))))
      refine .ef (.callT [IB b l] rfl rfl fun w s => swr_ok w Pre P (Q.take (j - i)) (Q.drop (j - i)) Post (by rw [List.length_drop]; omega) k hn Pre.length (m + j - i) i rfl (by rw [List.length_take]; omega) (by omega) cv) ?_
      rintro _ _ ⟨_, ⟨l', rfl, k'⟩, rfl⟩
      refine .nil ?_
      refine .region (.v (.move rfl) (.v (.move rfl) (.v (.subE ((j - i : Nat) : Int) rfl rfl (by omega) (by omega)) (.v (.assign rfl) (.nil ?_)))))
      refine ⟨⟨i, j - i, Pre, Q.drop (j - i), Q.take (j - i), P ++ Post, l'⟩, ⟨⟨hi, by show 0 < j - i; omega⟩, ⟨by show (Q.drop (j - i)).length = i; rw [List.length_drop]; omega, by show (Q.take (j - i)).length = j - i; rw [List.length_take]; omega, hPre⟩, k', ?_⟩, by show i + (j - i) < i + j; omega, .cons rfl (.cons rfl (.cons rfl (.cons rfl (.cons rfl (.nil _))))), fun _ s => s.take⟩
      show Pre ++ (Q.take (j - i) ++ (Q.drop (j - i) ++ (P ++ Post))) = _
      rw [← List.append_assoc (Q.take (j - i)), List.take_append_drop]; exact ht
  · have hij : i = j := by omega
    refine .region (.v (.move rfl) (.v (.move rfl) (.v (.move rfl) (.v (.subE ((Pre.length : Nat) : Int) rfl rfl (by omega) (by omega)) (.v (.move rfl) (.v (.move rfl) (.v (.move rfl) ?_)))))))
    refine .ef (.callT [IB b l] rfl rfl fun w s => swr_ok w Pre P [] Q Post (by omega) k hn Pre.length m i rfl (by simp; omega) (by omega) cv) ?_
    rintro _ _ ⟨_, ⟨l', rfl, k'⟩, rfl⟩
    refine .nil ?_
    exact ⟨[], trivial, l', rfl, k'.to ht⟩
/-! ### insertion -/
structure InsO where
  t : Nat
  S : List It
  l : List Value
structure InsP where
  P1 : List It
  P2 : List It
  l : List Value
theorem insC_ok (w : World) {b o c n : Nat} {l : List Value} (X A Y : List It) (k : SI b o c n (X ++ (A ++ Y)) l) (hn : n < 1152921504606846976) (hp : ∀ x ∈ A, x.P) (a e : Nat) (ha : a = X.length) (he : e = X.length + A.length) :
    Does Try.prog 87 [.slice (some ⟨b, o, none⟩) n c, .int .i64 a, .int .i64 e, CF] [IB b l] w (fun _ hs => ∃ Z, St rank A Z ∧ SIR b o c n (X ++ (Z ++ Y)) hs) := by
  refine Does.of (n := 53) Try.func87 rfl rfl rfl rfl ?_
  have hsz := k.sz
  simp only [List.length_append] at hsz
  have hst : St rank (A.take 1) (A.take 1) := .refl (by
    cases A with
    | nil => exact srk_nil
    | cons x A => exact srk_one x)
  refine .seq ((.region (.v (.move rfl) (.v (.addE ((a + 1 : Nat) : Int) rfl rfl (by omega) (by omega)) (.v (.assign rfl) (.nil ?_))))))
  refine .block (.loop (X := InsO) (fun x => [(0, .slice (some ⟨b, o, none⟩) n c), (1, .int .i64 a), (2, .int .i64 e), (3, CF), (8, .int .i64 ((a + x.t : Nat) : Int))]) (fun x => [IB b x.l]) (fun x => 1 ≤ x.t ∧ x.t ≤ A.length + 1 ∧ St rank (A.take x.t) x.S ∧ SI b o c n (X ++ (x.S ++ (A.drop x.t ++ Y))) x.l) (fun x => A.length + 1 - x.t) ⟨1, A.take 1, l⟩ ⟨Nat.le_refl _, by show 1 ≤ _; omega, hst, by rw [← List.append_assoc (A.take 1), List.take_append_drop]; exact k⟩ (.cons rfl (.cons rfl (.cons rfl (.cons rfl (.cons rfl (.nil _)))))) (fun _ s => s) ?_)
  clear k hst
  rintro ⟨t, S, l⟩ ⟨ht, ht2, hS, k⟩
  dsimp only at ht ht2 hS k ⊢
  refine .seq (.seq ((.region (.v (.move rfl) (.v (.move rfl) (.v (.lss rfl rfl) (.nil ?_)))))))
  refine .cond_dec rfl (fun g => .skip ?_) (fun g => .exit ?_)
  · have htA : t < A.length := by omega
    have hxp := hp _ (List.getElem_mem htA)
    have hSp : ∀ y ∈ S, y.P := fun y hy => hp y (List.mem_of_mem_take ((hS.mem y).1 hy))
    have hSl : S.length = t := by
      have := k.sz
      simp only [List.length_append, List.length_drop] at this
      omega
    have e1 : A.take (t + 1) = A.take t ++ [A[t]] := List.take_succ_eq_append_getElem htA
    have e2 : A.drop t = A[t] :: A.drop (t + 1) := List.drop_eq_getElem_cons htA
    rw [e2] at k
    generalize A[t] = x at e1 e2 k hxp
    refine .mid (X := InsO) (fun y => [(0, .slice (some ⟨b, o, none⟩) n c), (1, .int .i64 a), (2, .int .i64 e), (3, CF), (8, .int .i64 ((a + t : Nat) : Int))]) (fun y => [IB b y.l]) (fun y => St rank (A.take (t + 1)) y.S ∧ SI b o c n (X ++ (y.S ++ (A.drop (t + 1) ++ Y))) y.l) (.block (.seq ((.region (.v (.move rfl) (.v (.assign rfl) (.nil ?_))))))) ?_
    · refine .block (.loop (X := InsP) (fun y => [(0, .slice (some ⟨b, o, none⟩) n c), (1, .int .i64 a), (2, .int .i64 e), (3, CF), (8, .int .i64 ((a + t : Nat) : Int)), (9, .int .i64 ((a + y.P1.length : Nat) : Int))]) (fun y => [IB b y.l]) (fun y => S = y.P1 ++ y.P2 ∧ (∀ z ∈ y.P2, rank x < rank z) ∧ SI b o c n (X ++ (y.P1 ++ (x :: (y.P2 ++ (A.drop (t + 1) ++ Y))))) y.l) (fun y => y.P1.length) ⟨S, [], l⟩ ⟨(List.append_nil _).symm, fun z hz => (by cases hz), k⟩ (.cons rfl (.cons rfl (.cons rfl (.cons rfl (.cons rfl (.cons (by rw [← hSl]; rfl) (.nil _))))))) (fun _ s => s) ?_)
      clear k
      rintro ⟨P1, P2, l⟩ ⟨hS2, hx2, k⟩
      dsimp only at hS2 hx2 k ⊢
      rcases List.eq_nil_or_concat P1 with rfl | ⟨P1, y, rfl⟩
      · refine .seq (.seq ((.drawK [IB b l] (fun _ h => h) (by kernel_rfl) (by kernel_rfl) ?_)))
        refine .v (fun _ f => .move rfl) (.v (fun _ f => .move rfl) (.v (fun _ f => .no (.gtr rfl rfl) (by simp)) (.v (fun _ f => .move rfl) (.and (b2 := true) 21 33 12 12 rfl rfl (fun g1 => absurd g1 (by simp)) (.nil ?_)))))
        refine .cond_false rfl (.exit ?_)
        have := St.ins (P1 := []) (P2 := P2) (x := x) (by have := hS.s; rw [hS2] at this; exact this) hx2 (fun z hz => by cases hz)
        exact ⟨⟨0, x :: P2, l⟩, ⟨by rw [e1]; exact hS.front [x] (by rw [hS2]; exact this), k⟩, .cons rfl (.cons rfl (.cons rfl (.cons rfl (.cons rfl (.nil _))))), fun _ s => s⟩
      · simp only [List.concat_eq_append] at hS2 k ⊢
        have e3 : X ++ ((P1 ++ [y]) ++ (x :: (P2 ++ (A.drop (t + 1) ++ Y)))) = (X ++ P1) ++ y :: ([] ++ x :: (P2 ++ (A.drop (t + 1) ++ Y))) := by simp
        have e4 : (X ++ P1) ++ x :: ([] ++ y :: (P2 ++ (A.drop (t + 1) ++ Y))) = X ++ (P1 ++ (x :: ((y :: P2) ++ (A.drop (t + 1) ++ Y)))) := by simp
        rw [e3] at k
        have hyp : y.P := hSp y (by rw [hS2]; simp)
        have hl2 : (P1 ++ [y]).length = P1.length + 1 := by simp
        have hsz2 := k.sz
        simp only [List.length_append, List.length_cons, List.length_drop, List.length_nil] at hsz2
        have hS2l := congrArg List.length hS2
        simp only [List.length_append, List.length_cons, List.length_nil] at hS2l
        have l1 : (X ++ P1).length = a + P1.length := by rw [List.length_append]; omega
        have g1 := get_mid (X ++ P1) ([] ++ x :: (P2 ++ (A.drop (t + 1) ++ Y))) y
        have g2 := get_mid2 (X ++ P1) [] (P2 ++ (A.drop (t + 1) ++ Y)) y x
        have g3 := swp_mid' (X ++ P1) [] (P2 ++ (A.drop (t + 1) ++ Y)) y x
        rw [l1] at g1 g2 g3
        simp only [List.length_nil, Nat.add_zero] at g2 g3
        rw [e4] at g3
        rw [hl2]
        generalize (X ++ P1) ++ y :: ([] ++ x :: (P2 ++ (A.drop (t + 1) ++ Y))) = d at k g1 g2 g3 e3
        have q1 := fun hs' hsub => k.at_ (w0 := w) (own := [b]) (hs := hs') (i := a + P1.length) (by omega) hsub
        have q2 := fun hs' hsub => k.at_ (w0 := w) (own := [b]) (hs := hs') (i := a + P1.length + 1) (by omega) hsub
        have k3 := k.swp (i := a + P1.length + 1) (j := a + P1.length) (by omega) (by omega)
        have hlen := k.len
        rw [g1] at q1 k3
        rw [g2] at q2 k3
        rw [g3] at k3
        refine .seq (.seq ((.drawK [IB b l] (fun _ h => h) (by kernel_rfl) (by kernel_rfl) ?_)))
        refine .v (fun _ f => .move rfl) (.v (fun _ f => .move rfl) (.v (fun _ f => .yes (.gtr rfl rfl) (by omega)) (.v (fun _ f => .move rfl) (.and (b2 := decide (rank x < rank y)) 21 33 12 12 rfl rfl (fun g1 => .v (fun _ f => .move rfl) (.v (fun _ f => .move rfl) (.v (fun _ f => .move rfl) (.v (fun _ f => .indexM (a + P1.length + 1) rfl rfl (by omega)) (.v (fun hs' f => .loadA (vs := x.cells) rfl (q2 hs' f) rfl) (.v (fun _ f => .move rfl) (.v (fun _ f => .move rfl) (.v (fun _ f => .subE ((a + P1.length : Nat) : Int) rfl rfl (by omega) (by omega)) (.v (fun _ f => .indexM (a + P1.length) rfl rfl (by omega)) (.v (fun hs' f => .loadA (vs := y.cells) rfl (q1 hs' f) rfl) (.pc rfl rfl (fun w s => cmpI_ok w x y hxp hyp) (.v (fun _ f => Val.as (.lss rfl rfl) (congrArg Value.bool (decide_eq_decide.2 (cmpZ_lt _ _)))) (.nil ⟨rfl, rfl, rfl, rfl⟩))))))))))))) (.nil ?_)))))
        refine .cond rfl (fun g5 => .skip ?_) (fun g5 => .exit ?_)
        · have g5' : rank x < rank y := by simpa using g5
          refine .seq (.block ((.drawY 15 [0, 1, 2, 3, 4, 5, 6, 7, 8, 9, 10, 11, 12, 13, 14, 15, 16, 17] [IB b l] (fun _ h => h) (by kernel_rfl) (by kernel_rfl) ?_)))
          refine .x (fun _ _ _ => .move rfl) (.x (fun _ _ _ => .move rfl) (.x (fun _ _ _ => .move rfl) (.x (fun _ _ _ => .move rfl) (.x (fun _ _ _ => .subE ((a + P1.length : Nat) : Int) rfl rfl (by omega) (by omega)) (.x (fun _ _ _ => .move rfl) (.x (fun _ _ _ => .move rfl) (.x (fun _ _ _ => .subE ((a + P1.length : Nat) : Int) rfl rfl (by omega) (by omega)) (.x (fun _ _ _ => .indexM (a + P1.length) rfl rfl (by omega)) (.v (fun hs' f => .loadA (vs := y.cells) rfl (q1 hs' f) rfl) (.x (fun _ _ _ => .move rfl) (.x (fun _ _ _ => .move rfl) (.x (fun _ _ _ => .indexM (a + P1.length + 1) rfl rfl (by omega)) (.v (fun hs' f => .loadA (vs := x.cells) rfl (q2 hs' f) rfl) ?_)))))))))))))
          refine .x (fun _ _ _ => .indexM (a + P1.length + 1) rfl rfl (by omega)) (.st (.storeA rfl rfl rfl rfl (by show o + (a + P1.length + 1) * 6 + 6 ≤ _; omega)) (.x (fun _ _ _ => .indexM (a + P1.length) rfl rfl (by omega)) (.st2 (.storeA rfl rfl rfl rfl (by rw [splice_length _ _ _ (by show o + (a + P1.length + 1) * 6 + 6 ≤ _; omega)]; show o + (a + P1.length) * 6 + 6 ≤ _; omega)) (.nil ?_))))
          refine .region (.v (.move rfl) (.v (.subE ((a + P1.length : Nat) : Int) rfl rfl (by omega) (by omega)) (.v (.assign rfl) (.nil ?_))))
          exact ⟨⟨P1, y :: P2, _⟩, ⟨by rw [hS2]; simp, fun z hz => by rcases List.mem_cons.1 hz with rfl | hz; exact g5'; exact hx2 z hz, k3⟩, by show P1.length < P1.length + 1; omega, .cons rfl (.cons rfl (.cons rfl (.cons rfl (.cons rfl (.cons rfl (.nil _)))))), fun _ s => s⟩
        · have g5' : ¬ rank x < rank y := by simpa using g5
          have hs := hS.s
          rw [hS2] at hs
          have := St.ins (P1 := P1 ++ [y]) (P2 := P2) (x := x) hs hx2 (fun z hz => by
            have h1 := (List.pairwise_append.1 hs).1
            rcases List.mem_append.1 hz with hz | hz
            · have := (List.pairwise_append.1 h1).2.2 z hz y (by simp); omega
            · rw [List.mem_singleton.1 hz]; omega)
          refine ⟨⟨0, (P1 ++ [y]) ++ ([x] ++ P2), l⟩, ⟨by rw [e1]; exact hS.front [x] (by rw [hS2]; exact this), ?_⟩, .cons rfl (.cons rfl (.cons rfl (.cons rfl (.cons rfl (.nil _))))), fun _ s => s⟩
          exact k.to (e3.symm.trans (by simp))
    rintro ⟨_, S', l'⟩ ⟨hS', k'⟩
    dsimp only at hS' k' ⊢
    refine .region (.v (.move rfl) (.v (.addE ((a + (t + 1) : Nat) : Int) rfl rfl (by omega) (by omega)) (.v (.assign rfl) (.nil ?_))))
    exact ⟨⟨t + 1, S', l'⟩, ⟨by show 1 ≤ t + 1; omega, by show t + 1 ≤ _; omega, hS', k'⟩, by show A.length + 1 - (t + 1) < A.length + 1 - t; omega, .cons rfl (.cons rfl (.cons rfl (.cons rfl (.cons rfl (.nil _))))), fun _ s => s⟩
  · rw [List.take_of_length_le (by omega)] at hS
    rw [List.drop_of_length_le (by omega)] at k
    exact ⟨[], trivial, S, hS, l, rfl, k⟩
end Go.Proofs.Ytamldmgdhaoigaa

/- slices.insertionSortOrdered, cmp.Less at int. -/
namespace Go.Proofs.Ytamldmgdhaoigaa
open Go.V
open Go.Sort (ltInt swp insInner insOuter insertionSort)
set_option linter.unusedVariables false
set_option linter.unusedSimpArgs false

abbrev SoI (b o c n : Nat) (d : Array Int) (l : List Value) : Prop := SO .i64 3 b o c n d l
theorem isNaNS_ok (w : World) (x : Int) : Is Try.prog 67 [.int .i64 x] w (.bool false) := by
  refine Does.pure (Does.of (n := 6) Try.func67 rfl rfl rfl rfl ?_)
  refine .seq ((.region (.v (.assign rfl) (.nil ?_))))
  refine .seq ((.region (.v (.move rfl) (.v (.move rfl) (.v (.no (.nei rfl rfl) (by simp)) (.v (.assign rfl) (.nil ?_)))))))
  exact .ret ⟨[_], ⟨rfl, trivial⟩, rfl⟩
theorem lessI_ok (w : World) (x y : Int) : Is Try.prog 82 [.int .i64 x, .int .i64 y] w (.bool (ltInt x y)) := by
  refine Does.pure (Does.of (n := 17) Try.func82 rfl rfl rfl rfl ?_)
  refine .seq ((.region (.v (.assign rfl) (.nil ?_))))
  refine .seq ((.region (.v (.move rfl) (.pc (v := .bool false) rfl rfl (fun w s => isNaNS_ok w x) ?_))))
  refine .v (.move rfl) (.and (b2 := true) 7 10 3 3 rfl rfl (fun g1 => absurd g1 (by simp)) (.v (.move rfl) (.or (b2 := ltInt x y) 12 15 3 3 rfl rfl (fun g2 => .v (.move rfl) (.v (.move rfl) (.v (.lss rfl rfl) (.nil ⟨rfl, rfl, rfl, rfl⟩)))) (.v (.assign rfl) (.nil ?_)))))
  exact .ret ⟨[_], ⟨rfl, trivial⟩, vb (by simp)⟩
structure SL where
  i : Nat
  d : Array Int
  l : List Value
set_option maxRecDepth 20000 in
theorem insI_ok (w : World) {b o c n : Nat} {d : Array Int} {l : List Value} (k : SoI b o c n d l) (a e : Nat) (he : e ≤ n) (ha : a < 4611686018427387904) (hn : n < 4611686018427387904) :
    Does Try.prog 76 [.slice (some ⟨b, o, none⟩) n c, .int .i64 a, .int .i64 e] [(b, .cells l 3)] w (fun _ hs => ∃ l', hs = [(b, .cells l' 3)] ∧ SoI b o c n (insertionSort ltInt d a e) l') := by
  refine Does.of (n := 49) Try.func76 rfl rfl rfl rfl ?_
  refine .seq ((.region (.v (.move rfl) (.v (.addE ((a + 1 : Nat) : Int) rfl rfl (by omega) (by omega)) (.v (.assign rfl) (.nil ?_))))))
  refine .block (.loop (X := SL) (fun x => [(0, .slice (some ⟨b, o, none⟩) n c), (1, .int .i64 a), (2, .int .i64 e), (6, .int .i64 x.i)]) (fun x => [(b, .cells x.l 3)]) (fun x => (a + 1 ≤ x.i ∧ x.i ≤ a + 1 + e) ∧ SoI b o c n x.d x.l ∧ insOuter ltInt a e x.i x.d = insertionSort ltInt d a e) (fun x => a + 1 + e - x.i) ⟨a + 1, d, l⟩ ⟨⟨Nat.le_refl _, by show a + 1 ≤ _; omega⟩, k, rfl⟩ (.cons rfl (.cons rfl (.cons rfl (.cons rfl (.nil _))))) (fun _ s => s) ?_)
  rintro ⟨i, d1, l1⟩ ⟨⟨hi, hi2⟩, k1, h1⟩
  dsimp only at hi hi2 k1 h1 ⊢
  refine .seq (.seq ((.region (.v (.move rfl) (.v (.move rfl) (.v (.lss rfl rfl) (.nil ?_)))))))
  refine .cond_dec rfl (fun g => .skip ?_) (fun g => .exit ?_)
  · have hie : i < e := by omega
    rw [insOuter, if_pos hie] at h1
    refine .seq (.block (.seq ((.region (.v (.move rfl) (.v (.assign rfl) (.nil ?_)))))))
    refine .block (.loop (X := SL) (fun x => [(0, .slice (some ⟨b, o, none⟩) n c), (1, .int .i64 a), (2, .int .i64 e), (6, .int .i64 i), (7, .int .i64 x.i)]) (fun x => [(b, .cells x.l 3)]) (fun x => x.i ≤ i ∧ SoI b o c n x.d x.l ∧ insInner ltInt a x.i x.d = insInner ltInt a i d1) (fun x => x.i) ⟨i, d1, l1⟩ ⟨Nat.le_refl _, k1, rfl⟩ (.cons rfl (.cons rfl (.cons rfl (.cons rfl (.cons rfl (.nil _)))))) (fun _ s => s) ?_)
    rintro ⟨j, d2, l2⟩ ⟨hj, k2, h2⟩
    dsimp only at hj k2 h2 ⊢
    by_cases hja : a < j
    case neg =>
      refine .seq (.seq ((.drawK [(b, .cells l2 3)] (fun _ h => h) (by kernel_rfl) (by kernel_rfl) ?_)))
      refine .v (fun _ f => .move rfl) (.v (fun _ f => .move rfl) (.v (fun _ f => .no (.gtr rfl rfl) (by omega)) (.v (fun _ f => .move rfl) (.and (b2 := true) 19 29 10 10 rfl rfl (fun g1 => absurd g1 (by simp)) (.nil ?_)))))
      refine .cond_false rfl (.exit ?_)
      have hst : insInner ltInt a j d2 = d2 := by
        cases j with
        | zero => rfl
        | succ j => rw [insInner, if_neg]; simp; omega
      rw [hst] at h2
      refine .region (.v (.move rfl) (.v (.addE ((i + 1 : Nat) : Int) rfl rfl (by omega) (by omega)) (.v (.assign rfl) (.nil ?_))))
      exact ⟨⟨i + 1, d2, l2⟩, ⟨⟨by show a + 1 ≤ i + 1; omega, by show i + 1 ≤ _; omega⟩, k2, by rw [h2]; exact h1⟩, by show a + 1 + e - (i + 1) < a + 1 + e - i; omega, .cons rfl (.cons rfl (.cons rfl (.cons rfl (.nil _)))), fun _ s => s⟩
    obtain ⟨j, rfl⟩ : ∃ j', j = j' + 1 := ⟨j - 1, by omega⟩
    have hjn : j + 1 < n := by omega
    have q1 := fun hs' hsub => k2.at_ (w0 := w) (own := [b]) (hs := hs') (i := j + 1) hjn hsub
    have q0 := fun hs' hsub => k2.at_ (w0 := w) (own := [b]) (hs := hs') (i := j) (by omega) hsub
    rw [insInner] at h2
    refine .seq (.seq ((.drawK [(b, .cells l2 3)] (fun _ h => h) (by kernel_rfl) (by kernel_rfl) ?_)))
    refine .v (fun _ f => .move rfl) (.v (fun _ f => .move rfl) (.v (fun _ f => .yes (.gtr rfl rfl) (by omega)) (.v (fun _ f => .move rfl) (.and (b2 := ltInt d2[j + 1]! d2[j]!) 19 29 10 10 rfl rfl (fun g1 => .v (fun _ f => .move rfl) (.v (fun _ f => .move rfl) (.v (fun _ f => .indexN (j + 1) rfl rfl hjn) (.v (fun hs' f => .load (v := .int .i64 d2[j + 1]!) rfl (q1 hs' f)) (.v (fun _ f => .move rfl) (.v (fun _ f => .move rfl) (.v (fun _ f => .subE (j : Int) rfl rfl (by omega) (by omega)) (.v (fun _ f => .indexN j rfl rfl (by omega)) (.v (fun hs' f => .load (v := .int .i64 d2[j]!) rfl (q0 hs' f)) (.pc rfl rfl (fun w s => lessI_ok w _ _) (.nil ⟨rfl, rfl, rfl, rfl⟩))))))))))) (.nil ?_)))))
    refine .cond rfl (fun g2 => .skip ?_) (fun g2 => .exit ?_)
    · have g2' : ltInt d2[j + 1]! d2[j]! = true := by simpa using g2
      rw [if_pos (by rw [g2']; simpa using hja)] at h2
      have k3 := k2.swp hjn (show j < n by omega)
      have hlen := k2.len
      generalize hx : d2[j]! = x0 at q0 k3
      generalize hy : d2[j + 1]! = x1 at q1 k3
      refine .seq (.block ((.drawY 15 [0, 1, 2, 3, 4, 5, 6, 7, 8, 9, 10, 11, 12, 13, 14, 15, 16, 17] [(b, .cells l2 3)] (fun _ h => h) (by kernel_rfl) (by kernel_rfl) ?_)))
      refine .x (fun _ _ _ => .move rfl) (.x (fun _ _ _ => .move rfl) (.x (fun _ _ _ => .move rfl) (.x (fun _ _ _ => .move rfl) (.x (fun _ _ _ => .subE (j : Int) rfl rfl (by omega) (by omega)) (.x (fun _ _ _ => .move rfl) (.x (fun _ _ _ => .move rfl) (.x (fun _ _ _ => .subE (j : Int) rfl rfl (by omega) (by omega)) (.x (fun _ _ _ => .indexN j rfl rfl (by omega)) (.v (fun hs' f => .load (v := .int .i64 x0) rfl (q0 hs' f)) (.x (fun _ _ _ => .move rfl) (.x (fun _ _ _ => .move rfl) (.x (fun _ _ _ => .indexN (j + 1) rfl rfl hjn) (.v (fun hs' f => .load (v := .int .i64 x1) rfl (q1 hs' f)) (.x (fun _ _ _ => .indexN (j + 1) rfl rfl hjn) (.st (.store rfl rfl rfl (by omega)) (.x (fun _ _ _ => .indexN j rfl rfl (by omega)) (.st2 (.store rfl rfl rfl (by rw [List.length_set]; omega)) (.nil ?_))))))))))))))))))
      refine .region (.v (.move rfl) (.v (.subE (j : Int) rfl rfl (by omega) (by omega)) (.v (.assign rfl) (.nil ?_))))
      exact ⟨⟨j, swp d2 (j + 1) j, (l2.set (o + (j + 1)) (.int .i64 x0)).set (o + j) (.int .i64 x1)⟩, ⟨by show j ≤ i; omega, k3, h2⟩, by show j < j + 1; omega, .cons rfl (.cons rfl (.cons rfl (.cons rfl (.cons rfl (.nil _))))), fun _ s => s⟩
    · have g2' : ltInt d2[j + 1]! d2[j]! = false := by simpa using g2
      rw [if_neg (by rw [g2']; simp)] at h2
      refine .region (.v (.move rfl) (.v (.addE ((i + 1 : Nat) : Int) rfl rfl (by omega) (by omega)) (.v (.assign rfl) (.nil ?_))))
      exact ⟨⟨i + 1, d2, l2⟩, ⟨⟨by show a + 1 ≤ i + 1; omega, by show i + 1 ≤ _; omega⟩, k2, by rw [h2]; exact h1⟩, by show a + 1 + e - (i + 1) < a + 1 + e - i; omega, .cons rfl (.cons rfl (.cons rfl (.cons rfl (.nil _)))), fun _ s => s⟩
  · rw [insOuter, if_neg (by omega)] at h1
    exact ⟨[], trivial, l1, rfl, by rw [← h1]; exact k1⟩
end Go.Proofs.Ytamldmgdhaoigaa

/- slices.siftDownOrdered, heapSortOrdered, reverseRangeOrdered at int. -/
namespace Go.Proofs.Ytamldmgdhaoigaa
open Go.V
open Go.Sort (ltInt swp siftDown heapBuild heapPop heapSort reverseLoop reverseRange)
set_option linter.unusedVariables false
set_option linter.unusedSimpArgs false

/-- the greater child -/
abbrev Kid (hi first root : Nat) (d : Array Int) (ch : Nat) : Prop := (ch = 2 * root + 2 ∧ 2 * root + 2 < hi ∧ ltInt d[first + (2 * root + 1)]! d[first + (2 * root + 1) + 1]! = true) ∨ (ch = 2 * root + 1 ∧ 2 * root + 1 < hi ∧ ¬ (2 * root + 1 + 1 < hi ∧ ltInt d[first + (2 * root + 1)]! d[first + (2 * root + 1) + 1]! = true))
theorem sift_step {hi first root ch : Nat} {d : Array Int} (h : Kid hi first root d ch) : siftDown ltInt hi first root d = if ltInt d[first + root]! d[first + ch]! = true then siftDown ltInt hi first ch (swp d (first + root) (first + ch)) else d := by
  rcases h with ⟨rfl, h1, h2⟩ | ⟨rfl, h1, h2⟩
  · rw [siftDown, dif_neg (by omega), if_pos (by rw [h2]; simpa using (by omega : 2 * root + 1 + 1 < hi))]
    by_cases hl : ltInt d[first + root]! d[first + (2 * root + 2)]! = true
    · rw [if_neg (by rw [hl]; simp), dif_pos h1, if_pos hl]
    · rw [if_pos (by simpa using hl), if_neg hl]
  · rw [siftDown, dif_neg (by omega), if_neg (by simpa using h2)]
    by_cases hl : ltInt d[first + root]! d[first + (2 * root + 1)]! = true
    · rw [if_neg (by rw [hl]; simp), if_pos hl]
    · rw [if_pos (by simpa using hl), if_neg hl]
set_option maxRecDepth 20000 in
theorem siftI_ok (w : World) {b o c n : Nat} {d : Array Int} {l : List Value} (k : SoI b o c n d l) (lo hi first : Nat) (hf : first + hi ≤ n) (hlo : lo < 2305843009213693952) (hn : n < 2305843009213693952) :
    Does Try.prog 90 [.slice (some ⟨b, o, none⟩) n c, .int .i64 lo, .int .i64 hi, .int .i64 first] [(b, .cells l 3)] w (fun _ hs => ∃ l', hs = [(b, .cells l' 3)] ∧ SoI b o c n (siftDown ltInt hi first lo d) l') := by
  refine Does.of (n := 76) Try.func90 rfl rfl rfl rfl ?_
  refine .seq ((.region (.v (.move rfl) (.v (.assign rfl) (.nil ?_)))))
  refine .block (.loop (X := SL) (fun x => [(0, .slice (some ⟨b, o, none⟩) n c), (2, .int .i64 hi), (3, .int .i64 first), (8, .int .i64 x.i)]) (fun x => [(b, .cells x.l 3)]) (fun x => x.i < 2305843009213693952 ∧ SoI b o c n x.d x.l ∧ siftDown ltInt hi first x.i x.d = siftDown ltInt hi first lo d) (fun x => hi - x.i) ⟨lo, d, l⟩ ⟨hlo, k, rfl⟩ (.cons rfl (.cons rfl (.cons rfl (.cons rfl (.nil _))))) (fun _ s => s) ?_)
  rintro ⟨root, d1, l1⟩ ⟨hr, k1, h1⟩
  dsimp only at hr k1 h1 ⊢
  refine .block (.seq ((.region (.v (.move rfl) (.v (.muli rfl rfl (by omega)) (.v (.addE ((2 * root + 1 : Nat) : Int) rfl rfl (by omega) (by omega)) (.v (.assign rfl) (.nil ?_))))))))
  refine .seq (.seq ((.region (.v (.move rfl) (.v (.move rfl) (.v (.geq rfl rfl) (.nil ?_)))))))
  refine .cond_dec rfl (fun g => .exit ?_) (fun g => .skip ?_)
  · rw [siftDown, dif_pos (by omega)] at h1
    exact ⟨[], trivial, l1, rfl, by rw [← h1]; exact k1⟩
  have hrh : 2 * root + 1 < hi := by omega
  refine .mid (X := Nat) (fun ch => [(0, .slice (some ⟨b, o, none⟩) n c), (2, .int .i64 hi), (3, .int .i64 first), (8, .int .i64 root), (9, .int .i64 ch)]) (fun _ => [(b, .cells l1 3)]) (fun ch => Kid hi first root d1 ch) (.seq ((.drawK [(b, .cells l1 3)] (fun _ h => h) (by kernel_rfl) (by kernel_rfl) ?_))) ?_
  · by_cases hg : 2 * root + 1 + 1 < hi
    case neg =>
      refine .v (fun _ f => .move rfl) (.v (fun _ f => .addE ((2 * root + 1 + 1 : Nat) : Int) rfl rfl (by omega) (by omega)) (.v (fun _ f => .move rfl) (.v (fun _ f => .no (.lss rfl rfl) (by omega)) (.v (fun _ f => .move rfl) (.and (b2 := true) 21 35 14 14 rfl rfl (fun g1 => absurd g1 (by simp)) (.nil ?_))))))
      refine .cond_false rfl (.skip ?_)
      exact ⟨2 * root + 1, .inr ⟨rfl, hrh, fun hh => hg hh.1⟩, .cons rfl (.cons rfl (.cons rfl (.cons rfl (.cons rfl (.nil _))))), fun _ s => s⟩
    have q0 := fun hs' hsub => k1.at_ (w0 := w) (own := [b]) (hs := hs') (i := first + (2 * root + 1)) (by omega) hsub
    have q1 := fun hs' hsub => k1.at_ (w0 := w) (own := [b]) (hs := hs') (i := first + (2 * root + 1) + 1) (by omega) hsub
    refine .v (fun _ f => .move rfl) (.v (fun _ f => .addE ((2 * root + 1 + 1 : Nat) : Int) rfl rfl (by omega) (by omega)) (.v (fun _ f => .move rfl) (.v (fun _ f => .yes (.lss rfl rfl) (by omega)) (.v (fun _ f => .move rfl) (.and (b2 := ltInt d1[first + (2 * root + 1)]! d1[first + (2 * root + 1) + 1]!) 21 35 14 14 rfl rfl (fun g1 => .v (fun _ f => .move rfl) (.v (fun _ f => .move rfl) (.v (fun _ f => .move rfl) (.v (fun _ f => .addE ((first + (2 * root + 1) : Nat) : Int) rfl rfl (by omega) (by omega)) (.v (fun _ f => .indexN (first + (2 * root + 1)) rfl rfl (by omega)) (.v (fun hs' f => .load (v := .int .i64 d1[first + (2 * root + 1)]!) rfl (q0 hs' f)) (.v (fun _ f => .move rfl) (.v (fun _ f => .move rfl) (.v (fun _ f => .move rfl) (.v (fun _ f => .addE ((first + (2 * root + 1) : Nat) : Int) rfl rfl (by omega) (by omega)) (.v (fun _ f => .addE ((first + (2 * root + 1) + 1 : Nat) : Int) rfl rfl (by omega) (by omega)) (.v (fun _ f => .indexN (first + (2 * root + 1) + 1) rfl rfl (by omega)) (.v (fun hs' f => .load (v := .int .i64 d1[first + (2 * root + 1) + 1]!) rfl (q1 hs' f)) (.pc rfl rfl (fun w s => lessI_ok w _ _) (.nil ⟨rfl, rfl, rfl, rfl⟩))))))))))))))) (.nil ?_))))))
    refine .cond rfl (fun g2 => ?_) (fun g2 => .skip ?_)
    · have g2' : ltInt d1[first + (2 * root + 1)]! d1[first + (2 * root + 1) + 1]! = true := by simpa using g2
      refine .region (.v (.move rfl) (.v (.addE ((2 * root + 2 : Nat) : Int) rfl rfl (by omega) (by omega)) (.v (.assign rfl) (.nil ?_))))
      exact ⟨2 * root + 2, .inl ⟨rfl, by omega, g2'⟩, .cons rfl (.cons rfl (.cons rfl (.cons rfl (.cons rfl (.nil _))))), fun _ s => s⟩
    · have g2' : ¬ ltInt d1[first + (2 * root + 1)]! d1[first + (2 * root + 1) + 1]! = true := by
        have : ltInt d1[first + (2 * root + 1)]! d1[first + (2 * root + 1) + 1]! = false := by simpa using g2
        rw [this]; simp
      exact ⟨2 * root + 1, .inr ⟨rfl, hrh, fun hh => g2' hh.2⟩, .cons rfl (.cons rfl (.cons rfl (.cons rfl (.cons rfl (.nil _))))), fun _ s => s⟩
  · intro ch hk
    have hch : root < ch ∧ ch < hi := by rcases hk with ⟨h, h2, _⟩ | ⟨h, h2, _⟩ <;> omega
    rw [sift_step hk] at h1
    have q0 := fun hs' hsub => k1.at_ (w0 := w) (own := [b]) (hs := hs') (i := first + root) (by omega) hsub
    have q1 := fun hs' hsub => k1.at_ (w0 := w) (own := [b]) (hs := hs') (i := first + ch) (by omega) hsub
    have k3 := k1.swp (i := first + root) (j := first + ch) (by omega) (by omega)
    have hlen := k1.len
    generalize hx : d1[first + root]! = x0 at q0 k3 h1
    generalize hy : d1[first + ch]! = x1 at q1 k3 h1
    refine .seq (.seq ((.drawK [(b, .cells l1 3)] (fun _ h => h) (by kernel_rfl) (by kernel_rfl) ?_)))
    refine .v (fun _ f => .move rfl) (.v (fun _ f => .move rfl) (.v (fun _ f => .move rfl) (.v (fun _ f => .addE ((first + root : Nat) : Int) rfl rfl (by omega) (by omega)) (.v (fun _ f => .indexN (first + root) rfl rfl (by omega)) (.v (fun hs' f => .load (v := .int .i64 x0) rfl (q0 hs' f)) (.v (fun _ f => .move rfl) (.v (fun _ f => .move rfl) (.v (fun _ f => .move rfl) (.v (fun _ f => .addE ((first + ch : Nat) : Int) rfl rfl (by omega) (by omega)) (.v (fun _ f => .indexN (first + ch) rfl rfl (by omega)) (.v (fun hs' f => .load (v := .int .i64 x1) rfl (q1 hs' f)) (.pc rfl rfl (fun w s => lessI_ok w _ _) (.v (fun _ f => .not rfl) (.nil ?_))))))))))))))
    refine .cond rfl (fun g => ?_) (fun g => .skip ?_)
    · rw [if_neg (by simpa using g)] at h1
      exact .ret ⟨[], trivial, l1, rfl, by rw [← h1]; exact k1⟩
    · rw [if_pos (by simpa using g)] at h1
      refine .seq ((.drawY 21 [0, 1, 2, 3, 4, 5, 6, 7, 8, 9, 10, 11, 12, 13, 14, 15, 16, 17, 18, 19, 20, 21, 22, 23] [(b, .cells l1 3)] (fun _ h => h) (by kernel_rfl) (by kernel_rfl) ?_))
      refine .x (fun _ _ _ => .move rfl) (.x (fun _ _ _ => .move rfl) (.x (fun _ _ _ => .move rfl) (.x (fun _ _ _ => .addE ((first + root : Nat) : Int) rfl rfl (by omega) (by omega)) (.x (fun _ _ _ => .move rfl) (.x (fun _ _ _ => .move rfl) (.x (fun _ _ _ => .move rfl) (.x (fun _ _ _ => .addE ((first + ch : Nat) : Int) rfl rfl (by omega) (by omega)) (.x (fun _ _ _ => .move rfl) (.x (fun _ _ _ => .move rfl) (.x (fun _ _ _ => .move rfl) (.x (fun _ _ _ => .addE ((first + ch : Nat) : Int) rfl rfl (by omega) (by omega)) (.x (fun _ _ _ => .indexN (first + ch) rfl rfl (by omega)) (.v (fun hs' f => .load (v := .int .i64 x1) rfl (q1 hs' f)) (.x (fun _ _ _ => .move rfl) (.x (fun _ _ _ => .move rfl) (.x (fun _ _ _ => .move rfl) (.x (fun _ _ _ => .addE ((first + root : Nat) : Int) rfl rfl (by omega) (by omega)) (.x (fun _ _ _ => .indexN (first + root) rfl rfl (by omega)) (.v (fun hs' f => .load (v := .int .i64 x0) rfl (q0 hs' f)) (.x (fun _ _ _ => .indexN (first + root) rfl rfl (by omega)) (.st (.store rfl rfl rfl (by omega)) (.x (fun _ _ _ => .indexN (first + ch) rfl rfl (by omega)) (.st2 (.store rfl rfl rfl (by rw [List.length_set]; omega)) (.nil ?_))))))))))))))))))))))))
      refine .region (.v (.move rfl) (.v (.assign rfl) (.nil ?_)))
      exact ⟨⟨ch, swp d1 (first + root) (first + ch), (l1.set (o + (first + root)) (.int .i64 x1)).set (o + (first + ch)) (.int .i64 x0)⟩, ⟨by show ch < _; omega, k3, h1⟩, by show hi - ch < hi - root; omega, .cons rfl (.cons rfl (.cons rfl (.cons rfl (.nil _)))), fun _ s => s⟩
theorem half_eq (h : Nat) : Int.tdiv ((h : Int) - 1) 2 = (((h - 1) / 2 + 1 : Nat) : Int) - 1 := by
  by_cases h0 : h = 0
  · subst h0; decide
  · rw [Int.tdiv_eq_ediv_of_nonneg (by omega)]; omega
set_option maxRecDepth 20000 in
theorem heapI_ok (w : World) {b o c n : Nat} {d : Array Int} {l : List Value} (k : SoI b o c n d l) (a e : Nat) (hae : a ≤ e) (he : e ≤ n) (hn : n < 2305843009213693952) :
    Does Try.prog 77 [.slice (some ⟨b, o, none⟩) n c, .int .i64 a, .int .i64 e] [(b, .cells l 3)] w (fun _ hs => ∃ l', hs = [(b, .cells l' 3)] ∧ SoI b o c n (heapSort ltInt d a e) l') := by
  obtain ⟨h, rfl⟩ := Nat.exists_eq_add_of_le hae
  have hS : heapSort ltInt d a (a + h) = heapPop ltInt a h (heapBuild ltInt h a ((h - 1) / 2 + 1) d) := by unfold heapSort; rw [Nat.add_sub_cancel_left]
  rw [hS]
  refine Does.of (n := 56) Try.func77 rfl rfl rfl rfl ?_
  refine .seq ((.region (.v (.move rfl) (.v (.assign rfl) (.nil ?_)))))
  refine .seq ((.region (.v (.assign rfl) (.nil ?_))))
  refine .seq ((.region (.v (.move rfl) (.v (.move rfl) (.v (.subE (h : Int) rfl rfl (by omega) (by omega)) (.v (.assign rfl) (.nil ?_)))))))
  refine .seq (.seq ((.region (.v (.move rfl) (.v (.subi rfl rfl (by omega)) (.v (.quo rfl rfl (by decide)) (.v (.assign rfl) (.nil ?_))))))))
  rw [half_eq, wrap_i64 (by omega)]
  generalize hM : heapBuild ltInt h a ((h - 1) / 2 + 1) d = D
  refine .block (.loop (X := SL) (fun x => [(0, .slice (some ⟨b, o, none⟩) n c), (6, .int .i64 a), (7, .int .i64 0), (8, .int .i64 h), (9, .int .i64 ((x.i : Int) - 1))]) (fun x => [(b, .cells x.l 3)]) (fun x => x.i ≤ (h - 1) / 2 + 1 ∧ SoI b o c n x.d x.l ∧ heapBuild ltInt h a x.i x.d = D) (fun x => x.i) ⟨(h - 1) / 2 + 1, d, l⟩ ⟨Nat.le_refl _, k, hM⟩ (.cons rfl (.cons rfl (.cons rfl (.cons rfl (.cons rfl (.nil _)))))) (fun _ s => s) ?_)
  rintro ⟨i, d1, l1⟩ ⟨hi, k1, h1⟩
  dsimp only at hi k1 h1 ⊢
  refine .seq (.seq ((.region (.v (.move rfl) (.v (.geq rfl rfl) (.nil ?_))))))
  refine .cond_dec rfl (fun g => .skip ?_) (fun g => .exit ?_)
  · obtain ⟨i, rfl⟩ : ∃ i', i = i' + 1 := ⟨i - 1, by omega⟩
    rw [show (((i + 1 : Nat) : Int) - 1) = (i : Int) by omega]
    rw [heapBuild] at h1
    refine .seq (.block ((.region (.v (.move rfl) (.v (.move rfl) (.v (.move rfl) (.v (.move rfl) ?_)))))))
    refine .ef (.callT [(b, .cells l1 3)] rfl rfl fun w s => siftI_ok w k1 i h a (by omega) (by omega) hn) ?_
    rintro _ _ ⟨_, ⟨l2, rfl, k2⟩, rfl⟩
    refine .nil ?_
    refine .region (.v (.move rfl) (.v (.subi rfl rfl (by omega)) (.v (.assign rfl) (.nil ?_))))
    exact ⟨⟨i, siftDown ltInt h a i d1, l2⟩, ⟨by show i ≤ _; omega, k2, h1⟩, by show i < i + 1; omega, .cons rfl (.cons rfl (.cons rfl (.cons rfl (.cons rfl (.nil _))))), fun _ s => s.take⟩
  have hi0 : i = 0 := by omega
  subst hi0
  rw [heapBuild] at h1
  subst h1
  refine .seq ((.region (.v (.move rfl) (.v (.subi rfl rfl (by omega)) (.v (.assign rfl) (.nil ?_))))))
  clear hi
  generalize hP : heapPop ltInt a h d1 = D
  refine .block (.loop (X := SL) (fun x => [(0, .slice (some ⟨b, o, none⟩) n c), (6, .int .i64 a), (7, .int .i64 0), (10, .int .i64 ((x.i : Int) - 1))]) (fun x => [(b, .cells x.l 3)]) (fun x => x.i ≤ h ∧ SoI b o c n x.d x.l ∧ heapPop ltInt a x.i x.d = D) (fun x => x.i) ⟨h, d1, l1⟩ ⟨Nat.le_refl _, k1, hP⟩ (.cons rfl (.cons rfl (.cons rfl (.cons rfl (.nil _))))) (fun _ s => s) ?_)
  clear k1 hP
  rintro ⟨i, d1, l1⟩ ⟨hi, k1, h1⟩
  dsimp only at hi k1 h1 ⊢
  refine .seq (.seq ((.region (.v (.move rfl) (.v (.geq rfl rfl) (.nil ?_))))))
  refine .cond_dec rfl (fun g => .skip ?_) (fun g => .exit ?_)
  · obtain ⟨i, rfl⟩ : ∃ i', i = i' + 1 := ⟨i - 1, by omega⟩
    rw [show (((i + 1 : Nat) : Int) - 1) = (i : Int) by omega]
    rw [heapPop] at h1
    have q0 := fun hs' hsub => k1.at_ (w0 := w) (own := [b]) (hs := hs') (i := a) (by omega) hsub
    have q1 := fun hs' hsub => k1.at_ (w0 := w) (own := [b]) (hs := hs') (i := a + i) (by omega) hsub
    have k3 := k1.swp (i := a) (j := a + i) (by omega) (by omega)
    have hlen := k1.len
    generalize hx : d1[a]! = x0 at q0 k3
    generalize hy : d1[a + i]! = x1 at q1 k3
    refine .seq (.block (.seq ((.drawY 17 [0, 1, 2, 3, 4, 5, 6, 7, 8, 9, 10, 11, 12, 13, 14, 15, 16, 17, 18, 19] [(b, .cells l1 3)] (fun _ h => h) (by kernel_rfl) (by kernel_rfl) ?_))))
    refine .x (fun _ _ _ => .move rfl) (.x (fun _ _ _ => .move rfl) (.x (fun _ _ _ => .move rfl) (.x (fun _ _ _ => .move rfl) (.x (fun _ _ _ => .move rfl) (.x (fun _ _ _ => .addE ((a + i : Nat) : Int) rfl rfl (by omega) (by omega)) (.x (fun _ _ _ => .move rfl) (.x (fun _ _ _ => .move rfl) (.x (fun _ _ _ => .move rfl) (.x (fun _ _ _ => .addE ((a + i : Nat) : Int) rfl rfl (by omega) (by omega)) (.x (fun _ _ _ => .indexN (a + i) rfl rfl (by omega)) (.v (fun hs' f => .load (v := .int .i64 x1) rfl (q1 hs' f)) (.x (fun _ _ _ => .move rfl) (.x (fun _ _ _ => .move rfl) (.x (fun _ _ _ => .indexN a rfl rfl (by omega)) (.v (fun hs' f => .load (v := .int .i64 x0) rfl (q0 hs' f)) (.x (fun _ _ _ => .indexN a rfl rfl (by omega)) (.st (.store rfl rfl rfl (by omega)) (.x (fun _ _ _ => .indexN (a + i) rfl rfl (by omega)) (.st2 (.store rfl rfl rfl (by rw [List.length_set]; omega)) (.nil ?_))))))))))))))))))))
    refine .region (.v (.move rfl) (.v (.move rfl) (.v (.move rfl) (.v (.move rfl) ?_))))
    refine .ef (.callT [(b, .cells ((l1.set (o + a) (.int .i64 x1)).set (o + (a + i)) (.int .i64 x0)) 3)] rfl rfl fun w s => siftI_ok w k3 0 i a (by omega) (by omega) hn) ?_
    rintro _ _ ⟨_, ⟨l2, rfl, k2⟩, rfl⟩
    refine .nil ?_
    refine .region (.v (.move rfl) (.v (.subi rfl rfl (by omega)) (.v (.assign rfl) (.nil ?_))))
    exact ⟨⟨i, siftDown ltInt i a 0 (swp d1 a (a + i)), l2⟩, ⟨by show i ≤ _; omega, k2, h1⟩, by show i < i + 1; omega, .cons rfl (.cons rfl (.cons rfl (.cons rfl (.nil _)))), fun _ s => s.take⟩
  · have hi0 : i = 0 := by omega
    subst hi0
    rw [heapPop] at h1
    subst h1
    exact ⟨[], trivial, l1, rfl, k1⟩
set_option maxRecDepth 20000 in
theorem revI_ok (w : World) {b o c n : Nat} {d : Array Int} {l : List Value} (k : SoI b o c n d l) (a e : Nat) (hae : a < e) (he : e ≤ n) (hn : n < 2305843009213693952) :
    Does Try.prog 80 [.slice (some ⟨b, o, none⟩) n c, .int .i64 a, .int .i64 e] [(b, .cells l 3)] w (fun _ hs => ∃ l', hs = [(b, .cells l' 3)] ∧ SoI b o c n (reverseRange d a e) l') := by
  refine Does.of (n := 32) Try.func80 rfl rfl rfl rfl ?_
  refine .seq ((.region (.v (.move rfl) (.v (.assign rfl) (.nil ?_)))))
  refine .seq ((.region (.v (.move rfl) (.v (.subE ((e - 1 : Nat) : Int) rfl rfl (by omega) (by omega)) (.v (.assign rfl) (.nil ?_))))))
  unfold reverseRange
  generalize hR : reverseLoop a (e - 1) d = D
  refine .block (.loop (X := SL × Nat) (fun x => [(0, .slice (some ⟨b, o, none⟩) n c), (6, .int .i64 x.1.i), (7, .int .i64 x.2)]) (fun x => [(b, .cells x.1.l 3)]) (fun x => (x.1.i ≤ n ∧ x.2 < n) ∧ SoI b o c n x.1.d x.1.l ∧ reverseLoop x.1.i x.2 x.1.d = D) (fun x => x.2 - x.1.i) (⟨a, d, l⟩, e - 1) ⟨⟨by show a ≤ n; omega, by show e - 1 < n; omega⟩, k, hR⟩ (.cons rfl (.cons rfl (.cons rfl (.nil _)))) (fun _ s => s) ?_)
  rintro ⟨⟨i, d1, l1⟩, j⟩ ⟨⟨hi, hj⟩, k1, h1⟩
  dsimp only at hi hj k1 h1 ⊢
  refine .seq (.seq ((.region (.v (.move rfl) (.v (.move rfl) (.v (.lss rfl rfl) (.nil ?_)))))))
  refine .cond_dec rfl (fun g => .skip ?_) (fun g => .exit ?_)
  · have hij : i < j := by omega
    rw [reverseLoop, if_pos hij] at h1
    have q0 := fun hs' hsub => k1.at_ (w0 := w) (own := [b]) (hs := hs') (i := i) (by omega) hsub
    have q1 := fun hs' hsub => k1.at_ (w0 := w) (own := [b]) (hs := hs') (i := j) (by omega) hsub
    have k3 := k1.swp (i := i) (j := j) (by omega) (by omega)
    have hlen := k1.len
    generalize hx : d1[i]! = x0 at q0 k3
    generalize hy : d1[j]! = x1 at q1 k3
    refine .block (.seq ((.drawY 13 [0, 1, 2, 3, 4, 5, 6, 7, 8, 9, 10, 11, 12, 13, 14, 15] [(b, .cells l1 3)] (fun _ h => h) (by kernel_rfl) (by kernel_rfl) ?_)))
    refine .x (fun _ _ _ => .move rfl) (.x (fun _ _ _ => .move rfl) (.x (fun _ _ _ => .move rfl) (.x (fun _ _ _ => .move rfl) (.x (fun _ _ _ => .move rfl) (.x (fun _ _ _ => .move rfl) (.x (fun _ _ _ => .indexN j rfl rfl (by omega)) (.v (fun hs' f => .load (v := .int .i64 x1) rfl (q1 hs' f)) (.x (fun _ _ _ => .move rfl) (.x (fun _ _ _ => .move rfl) (.x (fun _ _ _ => .indexN i rfl rfl (by omega)) (.v (fun hs' f => .load (v := .int .i64 x0) rfl (q0 hs' f)) (.x (fun _ _ _ => .indexN i rfl rfl (by omega)) (.st (.store rfl rfl rfl (by omega)) (.x (fun _ _ _ => .indexN j rfl rfl (by omega)) (.st2 (.store rfl rfl rfl (by rw [List.length_set]; omega)) (.nil ?_))))))))))))))))
    refine .seq ((.region (.v (.move rfl) (.v (.addE ((i + 1 : Nat) : Int) rfl rfl (by omega) (by omega)) (.v (.assign rfl) (.nil ?_))))))
    refine .region (.v (.move rfl) (.v (.subE ((j - 1 : Nat) : Int) rfl rfl (by omega) (by omega)) (.v (.assign rfl) (.nil ?_))))
    exact ⟨(⟨i + 1, swp d1 i j, (l1.set (o + i) (.int .i64 x1)).set (o + j) (.int .i64 x0)⟩, j - 1), ⟨⟨by show i + 1 ≤ n; omega, by show j - 1 < n; omega⟩, k3, h1⟩, by show j - 1 - (i + 1) < j - i; omega, .cons rfl (.cons rfl (.cons rfl (.nil _))), fun _ s => s⟩
  · rw [reverseLoop, if_neg (by omega)] at h1
    exact ⟨[], trivial, l1, rfl, by rw [← h1]; exact k1⟩
end Go.Proofs.Ytamldmgdhaoigaa

/- slices.order2Ordered, medianOrdered, medianAdjacentOrdered at int. -/
namespace Go.Proofs.Ytamldmgdhaoigaa
open Go.V
open Go.Sort (ltInt order2 median medianAdjacent)
set_option linter.unusedVariables false
set_option linter.unusedSimpArgs false

abbrev SwB (bs s : Nat) : Nat × Ch := (bs, .cells [.int .i64 s] 3)
theorem order2_lt (d : Array Int) {x y s n : Nat} (hx : x < n) (hy : y < n) : (order2 ltInt d x y s).1 < n ∧ (order2 ltInt d x y s).2.1 < n ∧ (order2 ltInt d x y s).2.2 ≤ s + 1 := by
  unfold order2; split <;> dsimp only <;> omega
set_option maxRecDepth 20000 in
theorem orderI_ok (w : World) {b o c n bs : Nat} {d : Array Int} (hsz : d.size = n) (hR : Rd w [bs] (some ⟨b, o, none⟩) (ints .i64 d.toList)) (x y s : Nat) (hx : x < n) (hy : y < n) (hs : s < 4611686018427387904) (hn : n < 2305843009213693952) :
    Does Try.prog 96 [.slice (some ⟨b, o, none⟩) n c, .int .i64 x, .int .i64 y, .pointer (some ⟨bs, 0, none⟩)] [SwB bs s] w (fun v hs => v = .tuple ⟨[.int .i64 (order2 ltInt d x y s).1, .int .i64 (order2 ltInt d x y s).2.1]⟩ ∧ hs = [SwB bs (order2 ltInt d x y s).2.2]) := by
  refine Does.of (n := 28) Try.func96 rfl rfl rfl rfl ?_
  refine .seq ((.region (.v (.assign rfl) (.v (.assign rfl) (.nil ?_)))))
  have qx := fun hs' => Rd.cell (hs := hs') hR (i := x) (ints_get (q := .i64) (d := d) (by omega))
  have qy := fun hs' => Rd.cell (hs := hs') hR (i := y) (ints_get (q := .i64) (d := d) (by omega))
  unfold order2
  generalize d[x]! = x0 at qx
  generalize d[y]! = x1 at qy
  refine .seq (.seq ((.drawK [] (List.nil_subset _) (by kernel_rfl) (by kernel_rfl) ?_)))
  refine .v (fun _ f => .move rfl) (.v (fun _ f => .move rfl) (.v (fun _ f => .indexN y rfl rfl hy) (.v (fun hs' f => .load (v := .int .i64 x1) rfl (qy hs')) (.v (fun _ f => .move rfl) (.v (fun _ f => .move rfl) (.v (fun _ f => .indexN x rfl rfl hx) (.v (fun hs' f => .load (v := .int .i64 x0) rfl (qx hs')) (.pc rfl rfl (fun w s => lessI_ok w _ _) (.nil ?_)))))))))
  refine .cond rfl (fun g => ?_) (fun g => .skip ?_)
  · rw [if_pos g]
    refine .seq ((.region (.v (.move rfl) (.v (.nilCheck rfl) (.v (.load (v := .int .i64 s) rfl (.one rfl)) (.v (.addE ((s + 1 : Nat) : Int) rfl rfl (by omega) (by omega)) (.v (.nilCheck rfl) (.st (.storeL rfl rfl rfl) (.nil ?_)))))))))
    refine .seq ((.region (.v (.move rfl) (.v (.move rfl) (.v (.assign rfl) (.v (.assign rfl) (.nil ?_)))))))
    exact .ret ⟨[_, _], ⟨rfl, rfl, trivial⟩, rfl, rfl⟩
  · rw [if_neg (by rw [g]; simp)]
    refine .seq ((.region (.v (.move rfl) (.v (.move rfl) (.v (.assign rfl) (.v (.assign rfl) (.nil ?_)))))))
    exact .ret ⟨[_, _], ⟨rfl, rfl, trivial⟩, rfl, rfl⟩
theorem median_lt (d : Array Int) {x y z s n : Nat} (hx : x < n) (hy : y < n) (hz : z < n) : (median ltInt d x y z s).1 < n ∧ (median ltInt d x y z s).2 ≤ s + 3 := by
  unfold median
  dsimp only
  obtain ⟨a1, a2, a3⟩ := order2_lt d (s := s) hx hy
  generalize order2 ltInt d x y s = r1 at a1 a2 a3
  obtain ⟨b1, b2, b3⟩ := order2_lt d (s := r1.2.2) a2 hz
  generalize order2 ltInt d r1.2.1 z r1.2.2 = r2 at b1 b2 b3
  obtain ⟨c1, c2, c3⟩ := order2_lt d (s := r2.2.2) a1 b1
  exact ⟨c2, by omega⟩
set_option maxRecDepth 20000 in
theorem medianI_ok (w : World) {b o c n bs : Nat} {d : Array Int} (hsz : d.size = n) (hR : Rd w [bs] (some ⟨b, o, none⟩) (ints .i64 d.toList)) (x y z s : Nat) (hx : x < n) (hy : y < n) (hz : z < n) (hs : s < 4611686018427387900) (hn : n < 2305843009213693952) :
    Does Try.prog 94 [.slice (some ⟨b, o, none⟩) n c, .int .i64 x, .int .i64 y, .int .i64 z, .pointer (some ⟨bs, 0, none⟩)] [SwB bs s] w (fun v hs => v = .int .i64 (median ltInt d x y z s).1 ∧ hs = [SwB bs (median ltInt d x y z s).2]) := by
  refine Does.of (n := 36) Try.func94 rfl rfl rfl rfl ?_
  refine .seq ((.region (.v (.assign rfl) (.nil ?_))))
  unfold median
  dsimp only
  obtain ⟨a1, a2, a3⟩ := order2_lt d (s := s) hx hy
  refine .seq ((.region (.v (.move rfl) (.v (.move rfl) (.v (.move rfl) (.v (.move rfl) ?_))))))
  refine .ef (.callT [SwB bs s] rfl rfl fun w' k => orderI_ok w' hsz (hR.keep k (by simp [bl])) x y s hx hy (by omega) hn) ?_
  generalize order2 ltInt d x y s = r1 at a1 a2 a3
  rintro _ _ ⟨_, ⟨rfl, rfl⟩, rfl⟩
  refine .v (.move rfl) (.v (.extract rfl rfl) (.v (.extract rfl rfl) (.v (.assign rfl) (.v (.assign rfl) (.nil ?_)))))
  obtain ⟨b1, b2, b3⟩ := order2_lt d (s := r1.2.2) a2 hz
  refine .seq ((.region (.v (.move rfl) (.v (.move rfl) (.v (.move rfl) (.v (.move rfl) ?_))))))
  refine .ef (.callT [SwB bs r1.2.2] rfl rfl fun w' k => orderI_ok w' hsz (hR.keep k (by simp [bl])) r1.2.1 z r1.2.2 a2 hz (by omega) hn) ?_
  generalize order2 ltInt d r1.2.1 z r1.2.2 = r2 at b1 b2 b3
  rintro _ _ ⟨_, ⟨rfl, rfl⟩, rfl⟩
  refine .v (.move rfl) (.v (.extract rfl rfl) (.v (.extract rfl rfl) (.v (.assign rfl) (.v (.assign rfl) (.nil ?_)))))
  obtain ⟨c1, c2, c3⟩ := order2_lt d (s := r2.2.2) a1 b1
  refine .seq ((.region (.v (.move rfl) (.v (.move rfl) (.v (.move rfl) (.v (.move rfl) ?_))))))
  refine .ef (.callT [SwB bs r2.2.2] rfl rfl fun w' k => orderI_ok w' hsz (hR.keep k (by simp [bl])) r1.1 r2.1 r2.2.2 a1 b1 (by omega) hn) ?_
  generalize order2 ltInt d r1.1 r2.1 r2.2.2 = r3 at c1 c2 c3
  rintro _ _ ⟨_, ⟨rfl, rfl⟩, rfl⟩
  refine .v (.move rfl) (.v (.extract rfl rfl) (.v (.extract rfl rfl) (.v (.assign rfl) (.v (.assign rfl) (.nil ?_)))))
  refine .seq ((.region (.v (.move rfl) (.v (.assign rfl) (.nil ?_)))))
  exact .ret ⟨[_], ⟨rfl, trivial⟩, rfl, rfl⟩
set_option maxRecDepth 20000 in
theorem adjacentI_ok (w : World) {b o c n bs : Nat} {d : Array Int} (hsz : d.size = n) (hR : Rd w [bs] (some ⟨b, o, none⟩) (ints .i64 d.toList)) (x s : Nat) (h0 : 0 < x) (hx : x + 1 < n) (hs : s < 4611686018427387900) (hn : n < 2305843009213693952) :
    Does Try.prog 93 [.slice (some ⟨b, o, none⟩) n c, .int .i64 x, .pointer (some ⟨bs, 0, none⟩)] [SwB bs s] w (fun v hs => v = .int .i64 (medianAdjacent ltInt d x s).1 ∧ hs = [SwB bs (medianAdjacent ltInt d x s).2]) := by
  refine Does.of (n := 15) Try.func93 rfl rfl rfl rfl ?_
  refine .seq ((.region (.v (.assign rfl) (.nil ?_))))
  unfold medianAdjacent
  refine .seq ((.region (.v (.move rfl) (.v (.move rfl) (.v (.subE ((x - 1 : Nat) : Int) rfl rfl (by omega) (by omega)) (.v (.move rfl) (.v (.move rfl) (.v (.addE ((x + 1 : Nat) : Int) rfl rfl (by omega) (by omega)) (.v (.move rfl) ?_)))))))))
  refine .ef (.callT [SwB bs s] rfl rfl fun w' k => medianI_ok w' hsz (hR.keep k (by simp [bl])) (x - 1) x (x + 1) s (by omega) (by omega) hx hs hn) ?_
  generalize median ltInt d (x - 1) x (x + 1) s = r
  rintro _ _ ⟨_, ⟨rfl, rfl⟩, rfl⟩
  refine .v (.assign rfl) (.nil ?_)
  exact .ret ⟨[_], ⟨rfl, trivial⟩, rfl, rfl⟩
end Go.Proofs.Ytamldmgdhaoigaa

/- slices.choosePivotOrdered at int. -/
namespace Go.Proofs.Ytamldmgdhaoigaa
open Go.V
open Go.Sort (ltInt order2 median medianAdjacent choosePivot Hint)
set_option linter.unusedVariables false
set_option linter.unusedSimpArgs false

def hintV : Hint → Int
  | .unknown => 0
  | .increasing => 1
  | .decreasing => 2
def cpR (d : Array Int) (a e : Nat) : Nat × Nat :=
  if e - a ≥ 8 then
    if e - a ≥ 50 then
      let ri := medianAdjacent ltInt d (a + (e - a) / 4 * 1) 0
      let rj := medianAdjacent ltInt d (a + (e - a) / 4 * 2) ri.2
      let rk := medianAdjacent ltInt d (a + (e - a) / 4 * 3) rj.2
      median ltInt d ri.1 rj.1 rk.1 rk.2
    else median ltInt d (a + (e - a) / 4 * 1) (a + (e - a) / 4 * 2) (a + (e - a) / 4 * 3) 0
  else (a + (e - a) / 4 * 2, 0)
theorem cp_eq (d : Array Int) (a e : Nat) : choosePivot ltInt d a e = ((cpR d a e).1, if (cpR d a e).2 = 0 then .increasing else if (cpR d a e).2 = 12 then .decreasing else .unknown) := rfl
theorem adj_lt (d : Array Int) {x s n : Nat} (h0 : 0 < x) (hx : x + 1 < n) : (medianAdjacent ltInt d x s).1 < n ∧ (medianAdjacent ltInt d x s).2 ≤ s + 3 := median_lt d (by omega) (by omega) hx
structure C4 where
  x : Nat
  y : Nat
  z : Nat
  s : Nat
set_option maxRecDepth 20000 in
theorem chooseI_ok (w : World) {b o c n : Nat} {d : Array Int} (hsz : d.size = n) (hR : Rd w [] (some ⟨b, o, none⟩) (ints .i64 d.toList)) (a e : Nat) (hae : a < e) (he : e ≤ n) (hn : n < 2305843009213693952) :
    Does Try.prog 79 [.slice (some ⟨b, o, none⟩) n c, .int .i64 a, .int .i64 e] [] w (fun v hs => v = .tuple ⟨[.int .i64 (choosePivot ltInt d a e).1, .int .i64 (hintV (choosePivot ltInt d a e).2)]⟩ ∧ hs = []) := by
  refine Does.less (Does.of (n := 57) Try.func79 rfl rfl rfl rfl ?_)
  obtain ⟨h, rfl⟩ := Nat.exists_eq_add_of_le (Nat.le_of_lt hae)
  rw [cp_eq]
  have hr : cpR d a (a + h) = if h ≥ 8 then if h ≥ 50 then median ltInt d (medianAdjacent ltInt d (a + h / 4 * 1) 0).1 (medianAdjacent ltInt d (a + h / 4 * 2) (medianAdjacent ltInt d (a + h / 4 * 1) 0).2).1 (medianAdjacent ltInt d (a + h / 4 * 3) (medianAdjacent ltInt d (a + h / 4 * 2) (medianAdjacent ltInt d (a + h / 4 * 1) 0).2).2).1 (medianAdjacent ltInt d (a + h / 4 * 3) (medianAdjacent ltInt d (a + h / 4 * 2) (medianAdjacent ltInt d (a + h / 4 * 1) 0).2).2).2 else median ltInt d (a + h / 4 * 1) (a + h / 4 * 2) (a + h / 4 * 3) 0 else (a + h / 4 * 2, 0) := by
    unfold cpR; rw [Nat.add_sub_cancel_left]
  generalize cpR d a (a + h) = R at hr ⊢
  generalize hq : h / 4 = q at hr
  have hq4 : (h : Int) / 4 = (q : Int) := by omega
  refine .seq ((.region (.v (.assign rfl) (.v (.assign rfl) (.nil ?_)))))
  refine .seq ((.region (.v (.move rfl) (.v (.move rfl) (.v (.subE (h : Int) rfl rfl (by omega) (by omega)) (.v (.assign rfl) (.nil ?_)))))))
  refine .seq ((.region (.nw .alloc fun b9 => (.nil ?_))))
  refine .seq ((.region (.v (.move rfl) (.v (.move rfl) (.v (.quoN q rfl rfl (by decide) hq4 (by omega) (by omega)) (.v (.muli rfl rfl (by omega)) (.v (.addE ((a + q * 1 : Nat) : Int) rfl rfl (by omega) (by omega)) (.v (.assign rfl) (.nil ?_)))))))))
  refine .seq ((.region (.v (.move rfl) (.v (.move rfl) (.v (.quoN q rfl rfl (by decide) hq4 (by omega) (by omega)) (.v (.muli rfl rfl (by omega)) (.v (.addE ((a + q * 2 : Nat) : Int) rfl rfl (by omega) (by omega)) (.v (.assign rfl) (.nil ?_)))))))))
  refine .seq ((.region (.v (.move rfl) (.v (.move rfl) (.v (.quoN q rfl rfl (by decide) hq4 (by omega) (by omega)) (.v (.muli rfl rfl (by omega)) (.v (.addE ((a + q * 3 : Nat) : Int) rfl rfl (by omega) (by omega)) (.v (.assign rfl) (.nil ?_)))))))))
  refine .keep [SwB b9 0] ?_
  refine .mid (X := Nat × Nat) (fun x => [(9, .pointer (some ⟨b9, 0, none⟩)), (11, .int .i64 x.1)]) (fun x => [SwB b9 x.2]) (fun x => x = R ∧ x.2 ≤ 12) (.seq ((.region (.v (.move rfl) (.v (.geq rfl rfl) (.nil ?_)))))) ?_
  · refine .cond_dec rfl (fun h1 => ?_) (fun h1 => .skip ?_)
    · have h8 : h ≥ 8 := by omega
      rw [if_pos h8] at hr
      refine .mid (X := C4) (fun x => [(0, .slice (some ⟨b, o, none⟩) n c), (9, .pointer (some ⟨b9, 0, none⟩)), (10, .int .i64 x.x), (11, .int .i64 x.y), (12, .int .i64 x.z)]) (fun x => [SwB b9 x.s]) (fun x => R = median ltInt d x.x x.y x.z x.s ∧ (x.x < n ∧ x.y < n ∧ x.z < n ∧ x.s ≤ 9)) (.seq ((.region (.v (.move rfl) (.v (.geq rfl rfl) (.nil ?_)))))) ?_
      · refine .cond_dec rfl (fun h2 => ?_) (fun h2 => .skip ?_)
        · have h50 : h ≥ 50 := by omega
          rw [if_pos h50] at hr
          obtain ⟨u1, u2⟩ := adj_lt d (x := a + q * 1) (s := 0) (n := n) (by omega) (by omega)
          refine .seq ((.region (.v (.move rfl) (.v (.move rfl) ?_))))
          refine .ef (.callT [SwB b9 0] rfl rfl fun w' k => adjacentI_ok w' hsz (hR.keep k (fun y hy => k.mine y (by simp at hy; subst hy; simp [bl]))) (a + q * 1) 0 (by omega) (by omega) (by omega) hn) ?_
          generalize medianAdjacent ltInt d (a + q * 1) 0 = r1 at u1 u2 hr
          rintro _ _ ⟨_, ⟨rfl, rfl⟩, rfl⟩
          refine .v (.assign rfl) (.nil ?_)
          obtain ⟨v1, v2⟩ := adj_lt d (x := a + q * 2) (s := r1.2) (n := n) (by omega) (by omega)
          refine .seq ((.region (.v (.move rfl) (.v (.move rfl) ?_))))
          refine .ef (.callT [SwB b9 r1.2] rfl rfl fun w' k => adjacentI_ok w' hsz (hR.keep k (fun y hy => k.mine y (by simp at hy; subst hy; simp [bl]))) (a + q * 2) r1.2 (by omega) (by omega) (by omega) hn) ?_
          generalize medianAdjacent ltInt d (a + q * 2) r1.2 = r2 at v1 v2 hr
          rintro _ _ ⟨_, ⟨rfl, rfl⟩, rfl⟩
          refine .v (.assign rfl) (.nil ?_)
          obtain ⟨x1, x2⟩ := adj_lt d (x := a + q * 3) (s := r2.2) (n := n) (by omega) (by omega)
          refine .region (.v (.move rfl) (.v (.move rfl) ?_))
          refine .ef (.callT [SwB b9 r2.2] rfl rfl fun w' k => adjacentI_ok w' hsz (hR.keep k (fun y hy => k.mine y (by simp at hy; subst hy; simp [bl]))) (a + q * 3) r2.2 (by omega) (by omega) (by omega) hn) ?_
          generalize medianAdjacent ltInt d (a + q * 3) r2.2 = r3 at x1 x2 hr
          rintro _ _ ⟨_, ⟨rfl, rfl⟩, rfl⟩
          refine .v (.assign rfl) (.nil ?_)
          exact ⟨⟨r1.1, r2.1, r3.1, r3.2⟩, ⟨hr, u1, v1, x1, by show r3.2 ≤ 9; omega⟩, .cons rfl (.cons rfl (.cons rfl (.cons rfl (.cons rfl (.nil _))))), fun _ s => s.take⟩
        · rw [if_neg (by omega)] at hr
          exact ⟨⟨a + q * 1, a + q * 2, a + q * 3, 0⟩, ⟨hr, by show a + q * 1 < n; omega, by show a + q * 2 < n; omega, by show a + q * 3 < n; omega, by show 0 ≤ 9; omega⟩, .cons rfl (.cons rfl (.cons rfl (.cons rfl (.cons rfl (.nil _))))), fun _ s => s.take⟩
      · rintro ⟨x, y, z, s⟩ ⟨hm, hx, hy, hz, hs⟩
        dsimp only at hm hx hy hz hs ⊢
        obtain ⟨m1, m2⟩ := median_lt d (s := s) hx hy hz
        refine .region (.v (.move rfl) (.v (.move rfl) (.v (.move rfl) (.v (.move rfl) ?_))))
        refine .ef (.callT [SwB b9 s] rfl rfl fun w' k => medianI_ok w' hsz (hR.keep k (fun y hy => k.mine y (by simp at hy; subst hy; simp [bl]))) x y z s hx hy hz (by omega) hn) ?_
        generalize median ltInt d x y z s = r at m1 m2 hm
        rintro _ _ ⟨_, ⟨rfl, rfl⟩, rfl⟩
        refine .v (.assign rfl) (.nil ?_)
        exact ⟨r, ⟨hm.symm, by omega⟩, .cons rfl (.cons rfl (.nil _)), fun _ s => s.take⟩
    · rw [if_neg (by omega)] at hr
      exact ⟨(a + q * 2, 0), ⟨hr.symm, Nat.zero_le _⟩, .cons rfl (.cons rfl (.nil _)), fun _ s => s.take⟩
  · rintro ⟨j, s⟩ ⟨hx, hs⟩
    subst hx
    dsimp only at hs ⊢
    refine .seq ((.region (.v (.load (v := .int .i64 s) rfl (.one rfl)) (.nil ?_))))
    refine .block (.seq ((.region (.v (.eqi rfl rfl) (.v (.assign rfl) (.nil ?_))))))
    refine .cond_dec rfl (fun h3 => ?_) (fun h3 => ?_)
    · rw [if_pos (by omega)]
      refine .seq ((.region (.v (.move rfl) (.v (.assign rfl) (.v (.assign rfl) (.nil ?_))))))
      exact .ret ⟨[_, _], ⟨rfl, rfl, trivial⟩, [], fun _ s => s.sub (List.nil_sublist _), rfl, rfl⟩
    · rw [if_neg (by omega)]
      refine .seq ((.region (.v (.eqi rfl rfl) (.v (.assign rfl) (.nil ?_)))))
      refine .cond_dec rfl (fun h4 => ?_) (fun h4 => ?_)
      · rw [if_pos (by omega)]
        refine .seq ((.region (.v (.move rfl) (.v (.assign rfl) (.v (.assign rfl) (.nil ?_))))))
        exact .ret ⟨[_, _], ⟨rfl, rfl, trivial⟩, [], fun _ s => s.sub (List.nil_sublist _), rfl, rfl⟩
      · rw [if_neg (by omega)]
        refine .seq ((.region (.v (.move rfl) (.v (.assign rfl) (.v (.assign rfl) (.nil ?_))))))
        exact .ret ⟨[_, _], ⟨rfl, rfl, trivial⟩, [], fun _ s => s.sub (List.nil_sublist _), rfl, rfl⟩
end Go.Proofs.Ytamldmgdhaoigaa
