/- Texts that the row RFeedFinds stands on: VW, VX, VY, VF, VG, Ty, FPack, FPlain, FLev, FCPlain, VA, FChg, FRef, FSame, QCheck. -/
import Derived.Test.YtinmhhonpflojaaYFeedFindsA
import Derived.ProofKit
import Derived.OpenShut
import Derived.ShutString
import Derived.ChangeOld
import Derived.SizedLaws
import Derived.JoinedCond
import Derived.Test.YtinmhhonpflojaaChecked
/- VW: regions that draw their order and store: in an order of our choice; what is held is held up to the first store. -/
namespace Go
namespace V
open Go.RowKit
set_option linter.unusedVariables false
set_option linter.unusedSimpArgs false

instance (priority := high) SetL.head0 {u v : Value} {l : List Value} : SetL (u :: l) (0 + 0) v (v :: l) := ⟨by simp, rfl⟩
instance (priority := high) SetL.head00 {u v : Value} {l : List Value} : SetL (u :: l) (0 + 0 + 0) v (v :: l) := ⟨by simp, rfl⟩

def ordZ (ops : Array Oper) (z : Nat) : List Oper → List Nat → Array Bool → Bool
  | [], [], _ => true
  | o :: l, i :: is, listed => (onlyB ops listed i || (!isEff o && firstZ ops z listed i)) && (o.dst.isSome || Nat.beq i z || listed.getD z true) && ordZ ops z l is (listed.setIfInBounds i true)
  | _, _, _ => false
theorem marks_size : ∀ (is : List Nat) (listed : Array Bool), (marks_ is listed).size = listed.size
  | [], _ => rfl
  | i :: is, listed => by simp [marks_, marks_size is]

/-- the operations in their order; 'late': the first store has been -/
def JQ (P : Program) (n : Nat) (w0 : World) (own : List Nat) (ops : Array Oper) (F : Hp) (z : Nat) (late : Bool) (l : List Oper) (e : Env) (hs : Hp) (K : Bool → Env → Hp → Prop) : Prop :=
  ∀ (m : Nat) (is : List Nat) (listed : Array Bool) (Z : Env → Hp → Prop), Nums ops l is → ordZ ops z l is listed = true → listed.size = ops.size → listed.getD z true = late → (late = false → F ⊆ hs) →
    (∀ late' e' hs', (marks_ is listed).getD z true = late' → (late' = false → F ⊆ hs') → K late' e' hs' → JZ P n w0 own ops F z m (marks_ is listed) e' hs' Z) → JZ P n w0 own ops F z (l.length + m) listed e hs Z

section
variable {P : Program} {n : Nat} {w0 : World} {own : List Nat} {e : Env} {hs F : Hp} {ops : Array Oper} {rest l : List Oper} {K : Bool → Env → Hp → Prop} {z : Nat} {late : Bool} {m : Nat} {listed : Array Bool} {Z : Env → Hp → Prop}
variable {d : Nat} {ty : TypeId} {pos : String} {aft : Array Edge} {g : Option (Nat × Bool)}

theorem JC.drawQ {id : Nat} {Q : Post} {l : List Oper} (z : Nat) (is : List Nat) (F : Hp) (hF : F ⊆ hs) (hm : P.follows .mixedOrders = true)
    (hB : (ordZ l.toArray z (pickL l is) is (Array.replicate l.length false) && doneB l.toArray (marks_ is (Array.replicate l.length false)) && Nat.beq (pickL l is).length l.length && Nat.beq is.length l.length && Nat.blt z l.length) = true)
    (h : JQ P n w0 own l.toArray F z false (pickL l is) e hs (fun _ e' hs' => Q .normal e' hs')) : JC P n w0 own (.region id l.toArray true) e hs Q := by
  rw [Bool.and_eq_true, Bool.and_eq_true, Bool.and_eq_true, Bool.and_eq_true] at hB
  obtain ⟨⟨⟨⟨h1, h2⟩, h3⟩, h4⟩, h5⟩ := hB
  have h3 := Nat.eq_of_beq_eq_true h3
  have h4 := Nat.eq_of_beq_eq_true h4
  have h5 : z < l.length := Nat.le_of_ble_eq_true h5
  have key : ∀ (is : List Nat), (pickL l is).length = is.length → Nums l.toArray (pickL l is) is := by
    intro is
    induction is with
    | nil => intro _; trivial
    | cons i is ih =>
      intro hl
      unfold pickL at hl ⊢
      cases ho : l[i]? with
      | none => rw [ho] at hl; simp at hl
      | some o =>
        rw [ho] at hl
        simp only at hl ⊢
        exact ⟨by simpa using ho, ih (by simpa using hl)⟩
  refine JC.drawZ z F hF hm ?_
  have := h 0 is (Array.replicate l.length false) (fun e hs => Q .normal e hs) (key _ (by omega)) h1 (by simp) (by simp [h5]) (fun _ => hF) (fun _ e' hs' _ _ ke => JZ.done h2 ke)
  rw [h3] at this
  simpa using this
theorem JQ.nil (h : K late e hs) : JQ P n w0 own ops F z late [] e hs K := fun m is listed Z hn _ hsz hl hF hz => by
  cases is with
  | nil => rw [List.length_nil, Nat.zero_add]; exact hz late e hs hl hF h
  | cons i is => exact hn.elim
theorem JQ.mono {K' : Bool → Env → Hp → Prop} (h : JQ P n w0 own ops F z late l e hs K) (kk : ∀ b e hs, K b e hs → K' b e hs) : JQ P n w0 own ops F z late l e hs K' :=
  fun m k listed Z h1 h2 h3 h4 h5 hz => h m k listed Z h1 h2 h3 h4 h5 fun b e' hs' f1 f ke => hz b e' hs' f1 f (kk b e' hs' ke)
theorem JQ.sub {e2 : Env} (hs' : Sub e2 e) (h : JQ P n w0 own ops F z late l e2 hs K) : JQ P n w0 own ops F z late l e hs K :=
  fun m k listed Z h1 h2 h3 h4 h5 hz a w hr s hF => h m k listed Z h1 h2 h3 h4 h5 hz a w (hr.sub hs') s hF
theorem JQ.splitB {t : Nat} {b : Bool} (ht : get e t = some (.bool b)) (h1 : b = true → JQ P n w0 own ops F z late l ((t, .bool true) :: e) hs K)
    (h0 : b = false → JQ P n w0 own ops F z late l ((t, .bool false) :: e) hs K) : JQ P n w0 own ops F z late l e hs K := by
  cases b
  · exact JQ.sub (sub_same' ht) (h0 rfl)
  · exact JQ.sub (sub_same' ht) (h1 rfl)
theorem set_lt {k : Nat} {late : Bool} (hl : listed.getD z true = late) (hz : late = true ∨ k ≠ z) : (listed.setIfInBounds k true).getD z true = late := by
  rcases hz with rfl | hz
  · rcases Decidable.em (k = z) with rfl | hne
    · rcases Nat.lt_or_ge k listed.size with h' | h'
      · simp [h']
      · simp [h']
    · rw [getD_set_ne true hne]; exact hl
  · rw [getD_set_ne true hz]; exact hl
/-- a value, ahead of the first store -/
theorem JQ.v {op : Op} {v : Value} (h : ∀ hs', F ⊆ hs' → Val P n w0 own e hs' op v) (kk : JQ P n w0 own ops F z false rest ((d, v) :: e) hs K) (hdn : Nat.blt d n = true := by rfl) (hg : wantB ops e g = some true := by rfl)
    (hzo : ((ops[z]?).map (·.dst.isNone)) = some true := by rfl) :
    JQ P n w0 own ops F z false (⟨some d, op, ty, pos, aft, g⟩ :: rest) e hs K := by
  intro m is listed Z h1 h2 h3 h4 h5 hz
  cases is with
  | nil => exact h1.elim
  | cons k is =>
  obtain ⟨h0, h1⟩ := h1
  unfold ordZ at h2
  rw [Bool.and_eq_true, Bool.and_eq_true] at h2
  obtain ⟨⟨h2a, _⟩, h2b⟩ := h2
  rw [Bool.or_eq_true, Bool.and_eq_true] at h2a
  have h2 := And.intro h2a h2b
  have hkz : k ≠ z := by rintro rfl; rw [h0] at hzo; simp at hzo
  have tail : JZ P n w0 own ops F z (rest.length + m) (listed.setIfInBounds k true) ((d, v) :: e) hs Z := kk m is _ Z h1 h2.2 (by simpa using h3) (set_lt h4 (.inr hkz)) h5 hz
  rw [show (⟨some d, op, ty, pos, aft, g⟩ :: rest : List Oper).length + m = (rest.length + m) + 1 from by simp; omega]
  rcases h2.1 with ho | ⟨_, hf⟩
  · exact JZ.v1 k h0 ho (h hs (h5 rfl)) tail rfl hdn hg
  · exact JZ.v k h0 hf h tail hdn hg
/-- a value behind it -/
theorem JQ.w {op : Op} {v : Value} (h : Val P n w0 own e hs op v) (kk : JQ P n w0 own ops F z true rest ((d, v) :: e) hs K) (hdn : Nat.blt d n = true := by rfl) (hg : wantB ops e g = some true := by rfl) :
    JQ P n w0 own ops F z true (⟨some d, op, ty, pos, aft, g⟩ :: rest) e hs K := by
  intro m is listed Z h1 h2 h3 h4 h5 hz
  cases is with
  | nil => exact h1.elim
  | cons k is =>
  obtain ⟨h0, h1⟩ := h1
  unfold ordZ at h2
  rw [Bool.and_eq_true, Bool.and_eq_true] at h2
  obtain ⟨⟨h2a, _⟩, h2b⟩ := h2
  rw [Bool.or_eq_true, Bool.and_eq_true] at h2a
  have h2 := And.intro h2a h2b
  have tail : JZ P n w0 own ops F z (rest.length + m) (listed.setIfInBounds k true) ((d, v) :: e) hs Z := kk m is _ Z h1 h2.2 (by simpa using h3) (set_lt h4 (.inl rfl)) (fun h => by cases h) hz
  rw [show (⟨some d, op, ty, pos, aft, g⟩ :: rest : List Oper).length + m = (rest.length + m) + 1 from by simp; omega]
  rcases h2.1 with ho | ⟨_, hf⟩
  · exact JZ.v1 k h0 ho h tail rfl hdn hg
  · unfold firstZ at hf
    rw [h4] at hf
    simp at hf
/-- what works on memory, and leaves a value -/
theorem JQ.ef {op : Op} {R : Value → Hp → Prop} (h : Eff P n w0 own e hs op R) (hF : ∀ v hs', R v hs' → F ⊆ hs → F ⊆ hs') (kk : ∀ v hs', R v hs' → JQ P n w0 own ops F z late rest ((d, v) :: e) hs' K)
    (hE : isEff ⟨some d, op, ty, pos, aft, g⟩ = true := by rfl) (hdn : Nat.blt d n = true := by rfl) (hg : wantB ops e g = some true := by rfl) (hzo : ((ops[z]?).map (·.dst.isNone)) = some true := by rfl) : JQ P n w0 own ops F z late (⟨some d, op, ty, pos, aft, g⟩ :: rest) e hs K := by
  intro m is listed Z h1 h2 h3 h4 h5 hz
  cases is with
  | nil => exact h1.elim
  | cons k is =>
  obtain ⟨h0, h1⟩ := h1
  unfold ordZ at h2
  rw [Bool.and_eq_true, Bool.and_eq_true] at h2
  obtain ⟨⟨h2a, _⟩, h2b⟩ := h2
  rw [Bool.or_eq_true, hE] at h2a
  have h2 := And.intro h2a h2b
  have hkz : k ≠ z := by rintro rfl; rw [h0] at hzo; simp at hzo
  have ho : onlyB ops listed k = true := by
    rcases h2.1 with h | h
    · exact h
    · simp at h
  rw [show (⟨some d, op, ty, pos, aft, g⟩ :: rest : List Oper).length + m = (rest.length + m) + 1 from by simp; omega]
  exact JZ.ef k h0 ho h (fun v hs' r => kk v hs' r m is _ Z h1 h2.2 (by simpa using h3) (set_lt h4 (.inr hkz)) (fun e => hF v hs' r (h5 e)) hz) hF rfl hdn hg
/-- the first store -/
theorem JQ.st {op : Op} {hs' : Hp} (h : Eff P n w0 own e hs op (fun v h => v = undef ∧ h = hs')) (kk : JQ P n w0 own ops F z true rest e hs' K)
    (hE : isEff ⟨none, op, ty, pos, aft, g⟩ = true := by rfl) (hg : wantB ops e g = some true := by rfl) : JQ P n w0 own ops F z false (⟨none, op, ty, pos, aft, g⟩ :: rest) e hs K := by
  intro m is listed Z h1 h2 h3 h4 h5 hz
  cases is with
  | nil => exact h1.elim
  | cons k is =>
  obtain ⟨h0, h1⟩ := h1
  unfold ordZ at h2
  rw [Bool.and_eq_true, Bool.and_eq_true] at h2
  obtain ⟨⟨h2a, h2c⟩, h2b⟩ := h2
  rw [Bool.or_eq_true, hE] at h2a
  have h2 := And.intro h2a h2b
  obtain rfl : k = z := by
    rw [h4] at h2c
    exact Nat.eq_of_beq_eq_true (by simpa using h2c)
  have ho : onlyB ops listed k = true := by
    rcases h2.1 with h | h
    · exact h
    · simp at h
  have hk : k < listed.size := by rw [h3]; exact (Array.getElem?_eq_some_iff.1 h0).1
  rw [show (⟨none, op, ty, pos, aft, g⟩ :: rest : List Oper).length + m = (rest.length + m) + 1 from by simp; omega]
  refine JZ.st h0 ho (Nat.ble_eq_true_of_le hk) h (kk m is _ Z h1 h2.2 (by simpa using h3) (by simp [hk]) (fun h => by cases h) hz) hg
/-- a store behind it -/
theorem JQ.st2 {op : Op} {hs' : Hp} (h : Eff P n w0 own e hs op (fun v h => v = undef ∧ h = hs')) (kk : JQ P n w0 own ops F z true rest e hs' K)
    (hE : isEff ⟨none, op, ty, pos, aft, g⟩ = true := by rfl) (hg : wantB ops e g = some true := by rfl) : JQ P n w0 own ops F z true (⟨none, op, ty, pos, aft, g⟩ :: rest) e hs K := by
  intro m is listed Z h1 h2 h3 h4 h5 hz
  cases is with
  | nil => exact h1.elim
  | cons k is =>
  obtain ⟨h0, h1⟩ := h1
  unfold ordZ at h2
  rw [Bool.and_eq_true, Bool.and_eq_true] at h2
  obtain ⟨⟨h2a, h2c⟩, h2b⟩ := h2
  rw [Bool.or_eq_true, hE] at h2a
  have h2 := And.intro h2a h2b
  have ho : onlyB ops listed k = true := by
    rcases h2.1 with h | h
    · exact h
    · simp at h
  rw [show (⟨none, op, ty, pos, aft, g⟩ :: rest : List Oper).length + m = (rest.length + m) + 1 from by simp; omega]
  have hl := set_lt (k := k) (listed := listed) (z := z) h4 (.inl rfl)
  rcases Decidable.em (z = k) with rfl | hne
  · -- z has been: it cannot come up again
    have hr : Region.ready .any ops listed = [z] := by simpa [onlyB] using ho
    have hm : z ∈ Region.ready .any ops listed := by rw [hr]; simp
    obtain ⟨hu, _⟩ := mem_ready.1 hm
    have hk : z < listed.size := by rw [h3]; exact (Array.getElem?_eq_some_iff.1 h0).1
    simp [hk] at hu h4
    rw [hu] at h4; cases h4
  · exact JZ.st2 k h0 ho h4 (by cases h : Nat.beq z k; rfl; exact absurd (Nat.eq_of_beq_eq_true h) hne) h (kk m is _ Z h1 h2.2 (by simpa using h3) hl (fun h => by cases h) hz) hg
end
/-- what an own slice holds, loaded -/
theorem OwnS.atN {w0 : World} {own : List Nat} {E m n n' c b o i : Nat} {vs us : List Value} {h hs : Hp} (k : OwnS E m (.slice (some ⟨b, o, none⟩) n' c) n vs h) (hh : h ⊆ hs) (hu : ∀ (j : Nat) (v : Value), us[j]? = some v → vs[i + j]? = some v) : At w0 own hs ⟨b, o + i, none⟩ us := by
  obtain rfl := k.one
  intro w s j v hv
  obtain ⟨b', o', h1, _, h3⟩ := OwnS.rd k s hh (no := []) (by simp) _ v (hu j v hv)
  cases h1
  rw [add_none, Nat.add_assoc]
  exact h3
theorem OwnS.at1 {w0 : World} {own : List Nat} {E m n n' c b o i : Nat} {vs : List Value} {v : Value} {h hs : Hp} (k : OwnS E m (.slice (some ⟨b, o, none⟩) n' c) n vs h) (hh : h ⊆ hs) (hv : vs[i]? = some v) : At w0 own hs ⟨b, o + i, none⟩ [v] :=
  k.atN hh fun j u hu => by
    match j, hu with
    | 0, hu => simp at hu; subst hu; simpa using hv
section
variable {P : Program} {n : Nat} {w0 : World} {own : List Nat} {e : Env} {hs : Hp}
/-- sums and differences of numbers that are told in another way -/
theorem Val.addE {T U : Nat} {x y : Operand} {i j : Int} (r : Int) (hx : ev e x = some (.int .i64 i)) (hy : ev e y = some (.int .i64 j)) (hr : i + j = r) (hb : -9223372036854775808 ≤ r ∧ r ≤ 9223372036854775807) :
    Val P n w0 own e hs (.binOp .add T x y U) (.int .i64 r) := by
  subst hr; exact Val.addi hx hy hb
theorem Val.subE {T U : Nat} {x y : Operand} {i j : Int} (r : Int) (hx : ev e x = some (.int .i64 i)) (hy : ev e y = some (.int .i64 j)) (hr : i - j = r) (hb : -9223372036854775808 ≤ r ∧ r ≤ 9223372036854775807) :
    Val P n w0 own e hs (.binOp .sub T x y U) (.int .i64 r) := by
  subst hr; exact Val.subi hx hy hb
theorem wrap_u64_in {x : Int} (h : 0 ≤ x ∧ x ≤ 18446744073709551615) : IntKind.u64.wrap x = x := by
  simp [IntKind.wrap, IntKind.bits, IntKind.signed]; omega
theorem Val.addU {T U : Nat} {x y : Operand} {i j : Int} (r : Int) (hx : ev e x = some (.int .u64 i)) (hy : ev e y = some (.int .u64 j)) (hr : i + j = r) (hb : 0 ≤ r ∧ r ≤ 18446744073709551615) :
    Val P n w0 own e hs (.binOp .add T x y U) (.int .u64 r) := by
  subst hr
  have h := Val.add (P := P) (n := n) (w0 := w0) (own := own) (hs := hs) (T := T) (U := U) hx hy
  rw [wrap_u64_in hb] at h; exact h
theorem Val.subU {T U : Nat} {x y : Operand} {i j : Int} (r : Int) (hx : ev e x = some (.int .u64 i)) (hy : ev e y = some (.int .u64 j)) (hr : i - j = r) (hb : 0 ≤ r ∧ r ≤ 18446744073709551615) :
    Val P n w0 own e hs (.binOp .sub T x y U) (.int .u64 r) := by
  subst hr
  have h := Val.sub_ (P := P) (n := n) (w0 := w0) (own := own) (hs := hs) (T := T) (U := U) hx hy
  rw [wrap_u64_in hb] at h; exact h
end
end V
end Go

/- VX: blocks that are lent, found by instances. -/
namespace Go
namespace V
open Go.RowKit
set_option linter.unusedVariables false
set_option linter.unusedSimpArgs false

/-- one block is taken out -/
class Rem (p : Nat × Ch) (hs : Hp) (hs1 : outParam Hp) : Prop where
  out : hs.Perm (p :: hs1)
instance (priority := high) Rem.head {p : Nat × Ch} {hs : Hp} : Rem p (p :: hs) hs := ⟨.refl _⟩
instance Rem.tail {p q : Nat × Ch} {hs hs1 : Hp} [h : Rem p hs hs1] : Rem p (q :: hs) (q :: hs1) := ⟨(List.Perm.cons q h.out).trans (List.Perm.swap _ _ _)⟩
instance Rem.cons_app {p q : Nat × Ch} {k hs r : Hp} [h : Rem p (q :: (k ++ hs)) r] : Rem p ((q :: k) ++ hs) r := ⟨h.out⟩
instance Rem.nil_app {p : Nat × Ch} {hs r : Hp} [h : Rem p hs r] : Rem p ([] ++ hs) r := ⟨h.out⟩
instance (priority := low) Rem.assoc {p : Nat × Ch} {a b c r : Hp} [h : Rem p (a ++ (b ++ c)) r] : Rem p ((a ++ b) ++ c) r := ⟨by rw [List.append_assoc]; exact h.out⟩
instance (priority := low - 10) Rem.app {p : Nat × Ch} {k hs hs1 : Hp} [h : Rem p hs hs1] : Rem p (k ++ hs) (k ++ hs1) := ⟨(List.Perm.append_left k h.out).trans List.perm_middle⟩
/-- a bunch is taken out -/
class RemC (k : Hp) (hs : Hp) (hs1 : outParam Hp) : Prop where
  out : hs.Perm (k ++ hs1)
instance (priority := high) RemC.head {k hs : Hp} : RemC k (k ++ hs) hs := ⟨.refl _⟩
instance (priority := high) RemC.last {k : Hp} : RemC k k [] := ⟨by rw [List.append_nil]⟩
instance RemC.cons_app {q : Nat × Ch} {k k' hs r : Hp} [h : RemC k (q :: (k' ++ hs)) r] : RemC k ((q :: k') ++ hs) r := ⟨h.out⟩
instance RemC.nil_app {k hs r : Hp} [h : RemC k hs r] : RemC k ([] ++ hs) r := ⟨h.out⟩
instance RemC.tail {k : Hp} {q : Nat × Ch} {hs hs1 : Hp} [h : RemC k hs hs1] : RemC k (q :: hs) (q :: hs1) := ⟨(List.Perm.cons q h.out).trans List.perm_middle.symm⟩
instance (priority := low) RemC.assoc {k a b c r : Hp} [h : RemC k (a ++ (b ++ c)) r] : RemC k ((a ++ b) ++ c) r := ⟨by rw [List.append_assoc]; exact h.out⟩
instance (priority := low - 10) RemC.app {k k' hs hs1 : Hp} [h : RemC k hs hs1] : RemC k (k' ++ hs) (k' ++ hs1) := ⟨(List.Perm.append_left k' h.out).trans (by rw [← List.append_assoc, ← List.append_assoc]; exact List.Perm.append_right _ List.perm_append_comm)⟩
/-- all of these are taken out -/
class TakeI (pre hs : Hp) (fr : outParam Hp) : Prop where
  out : hs.Perm (pre ++ fr)
instance (priority := high) TakeI.nil {hs : Hp} : TakeI [] hs hs := ⟨.refl _⟩
instance TakeI.cons {p : Nat × Ch} {pre hs hs1 fr : Hp} [h : Rem p hs hs1] [t : TakeI pre hs1 fr] : TakeI (p :: pre) hs fr := ⟨h.out.trans (.cons p t.out)⟩
instance TakeI.cons_app {p : Nat × Ch} {k pre hs fr : Hp} [t : TakeI (p :: (k ++ pre)) hs fr] : TakeI ((p :: k) ++ pre) hs fr := ⟨t.out⟩
instance TakeI.nil_app {pre hs fr : Hp} [t : TakeI pre hs fr] : TakeI ([] ++ pre) hs fr := ⟨t.out⟩
instance (priority := low) TakeI.assoc {a b c hs fr : Hp} [t : TakeI (a ++ (b ++ c)) hs fr] : TakeI ((a ++ b) ++ c) hs fr := ⟨by rw [List.append_assoc a b c]; exact t.out⟩
instance (priority := low - 10) TakeI.app {k pre hs hs1 fr : Hp} [h : RemC k hs hs1] [t : TakeI pre hs1 fr] : TakeI (k ++ pre) hs fr := ⟨by rw [List.append_assoc]; exact h.out.trans (List.Perm.append_left k t.out)⟩
instance (priority := low - 20) TakeI.last {k hs fr : Hp} [h : RemC k hs fr] : TakeI k hs fr := ⟨h.out⟩

theorem Sat.take {w0 w : World} {own : List Nat} {hs pre fr : Hp} (s : Sat w0 own hs w) [h : TakeI pre hs fr] : Sat w0 own pre w := (s.perm h.out).sub (List.sublist_append_left _ _)
section
variable {P : Program} {n : Nat} {w0 : World} {own : List Nat} {e : Env} {hs : Hp}
theorem JC.keep {c : Code} {Q : Post} (pre : Hp) {fr : Hp} [h : TakeI pre hs fr] (k : JC P n w0 own c e pre Q) : JC P n w0 own c e hs Q := JC.heap (fun _ s => s.take) k
/-- a call that is lent blocks -/
theorem Eff.callT {g : Nat} {f : Operand} {args : List Operand} {at_ : Array TypeId} {cap vals : List Value} {R : Value → Hp → Prop} (pre : Hp) {fr : Hp} (hf : ev e f = some (.func (.func g) #[] ⟨cap⟩)) (ha : evs e args = some vals) [hg : FnT P g] [tk : TakeI pre hs fr]
    (hc : ∀ w, Sat w0 own hs w → Does P g (vals ++ cap) pre w R) :
    Eff P n w0 own e hs (.call { callee := .value f, args := ⟨args⟩, argTypes := at_ }) (fun v hs' => ∃ h, R v h ∧ hs' = h ++ fr) := Eff.call hf ha tk.out hc
end
/-- two roads that join: what holds where they do -/
theorem JC.mid {P : Program} {n : Nat} {w0 : World} {own : List Nat} {e : Env} {hs : Hp} {Q : Post} {x y : Code} {X : Type} (env : X → Env) (heap : X → Hp) (I : X → Prop)
    (h1 : JC P n w0 own x e hs (thenQ (fun e' hs' => ∃ z, I z ∧ Sub (env z) e' ∧ ∀ w, Sat w0 own hs' w → Sat w0 own (heap z) w) Q)) (h2 : ∀ z, I z → JC P n w0 own y (env z) (heap z) Q) : JC P n w0 own (.seq x y) e hs Q := by
  refine .seq (h1.mono fun ex e' hs' h => ?_)
  cases ex with
  | normal => obtain ⟨z, hz, hs1, hh⟩ := h; exact JC.sub hs1 (JC.heap hh (h2 z hz))
  | _ => exact h
/-- a contract, where more is lent -/
theorem Does.lendT {P : Program} {g : Nat} {vals : List Value} {w : World} {R : Value → Hp → Prop} (pre : Hp) {big fr : Hp} [tk : TakeI pre big fr] (h : Does P g vals pre w R) : Does P g vals big w (fun v hs => ∃ h, R v h ∧ hs = h ++ fr) := by
  intro hp hd
  have s := (Sat.begin hp hd).perm tk.out
  have nd := s.nd
  simp only [bl, List.map_append, List.nodup_append] at nd
  refine (h (fun b c hb => s.has b c (List.mem_append.2 (.inl hb))) nd.1).mono ?_
  rintro x w' ⟨v, hs', rfl, h1, h2⟩
  exact ⟨v, hs' ++ fr, rfl, ⟨hs', h1, rfl⟩, s.call h2⟩
/-- .. and what is left is told in another order, less of it -/
theorem Does.keepT {P : Program} {g : Nat} {vals : List Value} {w : World} {R R' : Value → Hp → Prop} {pre : Hp} (h : Does P g vals pre w R) (k : ∀ v hs, R v hs → ∃ hs' fr, hs.Perm (hs' ++ fr) ∧ R' v hs') : Does P g vals pre w R' :=
  Does.less (h.mono fun v hs r => by
    obtain ⟨hs', fr, h1, h2⟩ := k v hs r
    exact ⟨hs', fun _ s => (s.perm h1).sub (List.sublist_append_left _ _), h2⟩)
end V
end Go

/- VY: as VW; and what touches no memory may come up at any time. -/
namespace Go
namespace V
open Go.RowKit
set_option linter.unusedVariables false
set_option linter.unusedSimpArgs false

section
variable {P : Program} {ops : Array Oper} {Q : Exit → Act → World → Prop} {S : World → Prop} {z : Nat}
/-- number i may be taken first, if its value hangs on no world -/
theorem Upto.firstX {i : Nat} {oi : Oper} {v : Value} (hi : ops[i]? = some oi) (hsel : ∀ (j : Nat) (o : Oper) cs b, ops[j]? = some o → o.op ≠ .select cs b)
    (hQ : ∀ c a w, Q (.panic c) (a.put oi.dst v) w → Q (.panic c) a w) (hzi : z ≠ i) :
    ∀ (k : Nat) (l : Array Bool) (a : Act) (w : World),
      (∀ j oj, ops[j]? = some oj → j ≠ i → l.getD j true = false → (∀ e ∈ oj.after, Region.binds .any e = true → e.on ≠ i) → oi.apart ops oj = true) →
      i ∈ Region.ready .any ops l → YieldsIf P ops (fun _ => True) oi v a → (l.getD z true = false → S w) →
      Upto P ops Q S z k (l.setIfInBounds i true) (a.put oi.dst v) w → Upto P ops Q S z (k + 1) l a w := by
  intro k
  induction k with
  | zero =>
    intro l a w _ hr hy hS H
    refine ⟨fun h => absurd (h ▸ hr) List.not_mem_nil, fun j hj => ?_⟩
    rcases Decidable.em (j = i) with rfl | hji
    · exact hy.wpOp hi trivial ⟨fun hz => hS (by rw [getD_set_ne true (Ne.symm hzi)] at hz; exact hz), H⟩
    · exact absurd (H.1 ▸ ready_mono hj hji) List.not_mem_nil
  | succ k ih =>
    intro l a w hfree hr hy hS H
    refine ⟨fun h => absurd (h ▸ hr) List.not_mem_nil, fun j hj => ?_⟩
    rcases Decidable.em (j = i) with rfl | hji
    · exact hy.wpOp hi trivial ⟨fun hz => hS (by rw [getD_set_ne true (Ne.symm hzi)] at hz; exact hz), H⟩
    obtain ⟨hun, oj, hoj, hall⟩ := mem_ready.1 hj
    have hno : ∀ e ∈ oj.after, Region.binds .any e = true → e.on ≠ i := by
      intro e he hb hon
      exact not_both (z := j) hoj ⟨e, he, hb, hon⟩ hr hj
    have step := wpOp_putIf hoj (hfree j oj hoj hji hun hno) (fun cs b => hsel i oi cs b hi) (fun cs b => hsel j oj cs b hoj) hQ hy (H.2 j (ready_mono hj hji))
    refine wpOp_mono (fun a' w' ⟨hy', hS', hrest⟩ => ?_) step
    have e1 : ((l.setIfInBounds i true).setIfInBounds j true).getD z true = (l.setIfInBounds j true).getD z true := by
      rw [Array.setIfInBounds_comm _ _ (Ne.symm hji), getD_set_ne true (Ne.symm hzi)]
    have hS2 : (l.setIfInBounds j true).getD z true = false → S w' := fun hz => hS' (by rw [e1]; exact hz)
    refine ⟨hS2, ih (l.setIfInBounds j true) a' w' (fun m om hm hmi hun' hno' => ?_) (ready_mono hr (Ne.symm hji)) hy' hS2 ?_⟩
    · refine hfree m om hm hmi ?_ hno'
      rcases Decidable.em (j = m) with rfl | hjm
      · exact hun
      · rw [getD_set_ne true hjm] at hun'; exact hun'
    · rw [Array.setIfInBounds_comm _ _ hji]; exact hrest
end
/-- does the operation touch no memory? -/
def noMem (o : Oper) : Bool := match o.op with
  | .move _ => true
  | .indexAddr .. => true
  | .fieldAddr .. => true
  | .binOp .. => true
  | .extract .. => true
  | _ => false
section
variable {P : Program} {n : Nat} {w0 : World} {own : List Nat} {e : Env} {hs F : Hp} {ops : Array Oper} {K : Env → Hp → Prop} {z m : Nat} {listed : Array Bool}
variable {d : Nat} {ty : TypeId} {pos : String} {aft : Array Edge} {g : Option (Nat × Bool)}
theorem JZ.x {op : Op} {v : Value} (i : Nat) (hi : ops[i]? = some ⟨some d, op, ty, pos, aft, g⟩) (hf : firstB ops listed i = true) (hzi : z ≠ i)
    (h : ∀ w, Val P n w [] e [] op v) (k : JZ P n w0 own ops F z m (listed.setIfInBounds i true) ((d, v) :: e) hs K)
    (hdn : Nat.blt d n = true := by rfl) (hg : wantB ops e g = some true := by rfl) : JZ P n w0 own ops F z (m + 1) listed e hs K := by
  intro a w hr s hF
  unfold firstB at hf
  rw [Bool.and_eq_true, Bool.and_eq_true] at hf
  obtain ⟨⟨f1, f2⟩, f3⟩ := hf
  exact Upto.firstX hi (Region.noSelect_spec f1) (fun _ _ _ h => h) hzi m listed a w (Region.free_spec hi f2) (by simpa using f3)
    (.inl ⟨wanted_of hr hg, fun w' _ => h w' a w' _ _ _ _ _ hr (Sat.begin0 w')⟩) (fun hz => ⟨hs, s, hF hz⟩)
    (k _ _ (hr.put (Nat.le_of_ble_eq_true hdn) v) s fun hz => hF (by rw [getD_set_ne true (Ne.symm hzi)] at hz; exact hz))
end

def ordY (ops : Array Oper) (z : Nat) : List Oper → List Nat → Array Bool → Bool
  | [], [], _ => true
  | o :: l, i :: is, listed => (onlyB ops listed i || (!isEff o && firstZ ops z listed i) || (noMem o && firstB ops listed i && !Nat.beq z i)) && (o.dst.isSome || Nat.beq i z || listed.getD z true) && ordY ops z l is (listed.setIfInBounds i true)
  | _, _, _ => false
/-- the operations in their order; 'late': the first store has been -/
def JY (P : Program) (n : Nat) (w0 : World) (own : List Nat) (ops : Array Oper) (F : Hp) (z : Nat) (late : Bool) (l : List Oper) (e : Env) (hs : Hp) (K : Bool → Env → Hp → Prop) : Prop :=
  ∀ (m : Nat) (is : List Nat) (listed : Array Bool) (Z : Env → Hp → Prop), Nums ops l is → ordY ops z l is listed = true → listed.size = ops.size → listed.getD z true = late → (late = false → F ⊆ hs) →
    (∀ late' e' hs', (marks_ is listed).getD z true = late' → (late' = false → F ⊆ hs') → K late' e' hs' → JZ P n w0 own ops F z m (marks_ is listed) e' hs' Z) → JZ P n w0 own ops F z (l.length + m) listed e hs Z

theorem eff_mem {o : Oper} (h : isEff o = true) : noMem o = false := by
  unfold isEff at h; unfold noMem
  split <;> simp_all
section
variable {P : Program} {n : Nat} {w0 : World} {own : List Nat} {e : Env} {hs F : Hp} {ops : Array Oper} {rest l : List Oper} {K : Bool → Env → Hp → Prop} {z : Nat} {late : Bool} {m : Nat} {listed : Array Bool} {Z : Env → Hp → Prop}
variable {d : Nat} {ty : TypeId} {pos : String} {aft : Array Edge} {g : Option (Nat × Bool)}

theorem JC.drawY {id : Nat} {Q : Post} {l : List Oper} (z : Nat) (is : List Nat) (F : Hp) (hF : F ⊆ hs) (hm : P.follows .mixedOrders = true)
    (hB : (ordY l.toArray z (pickL l is) is (Array.replicate l.length false) && doneB l.toArray (marks_ is (Array.replicate l.length false)) && Nat.beq (pickL l is).length l.length && Nat.beq is.length l.length && Nat.blt z l.length) = true)
    (h : JY P n w0 own l.toArray F z false (pickL l is) e hs (fun _ e' hs' => Q .normal e' hs')) : JC P n w0 own (.region id l.toArray true) e hs Q := by
  rw [Bool.and_eq_true, Bool.and_eq_true, Bool.and_eq_true, Bool.and_eq_true] at hB
  obtain ⟨⟨⟨⟨h1, h2⟩, h3⟩, h4⟩, h5⟩ := hB
  have h3 := Nat.eq_of_beq_eq_true h3
  have h4 := Nat.eq_of_beq_eq_true h4
  have h5 : z < l.length := Nat.le_of_ble_eq_true h5
  have key : ∀ (is : List Nat), (pickL l is).length = is.length → Nums l.toArray (pickL l is) is := by
    intro is
    induction is with
    | nil => intro _; trivial
    | cons i is ih =>
      intro hl
      unfold pickL at hl ⊢
      cases ho : l[i]? with
      | none => rw [ho] at hl; simp at hl
      | some o =>
        rw [ho] at hl
        simp only at hl ⊢
        exact ⟨by simpa using ho, ih (by simpa using hl)⟩
  refine JC.drawZ z F hF hm ?_
  have := h 0 is (Array.replicate l.length false) (fun e hs => Q .normal e hs) (key _ (by omega)) h1 (by simp) (by simp [h5]) (fun _ => hF) (fun _ e' hs' _ _ ke => JZ.done h2 ke)
  rw [h3] at this
  simpa using this
theorem JY.nil (h : K late e hs) : JY P n w0 own ops F z late [] e hs K := fun m is listed Z hn _ hsz hl hF hz => by
  cases is with
  | nil => rw [List.length_nil, Nat.zero_add]; exact hz late e hs hl hF h
  | cons i is => exact hn.elim
theorem JY.mono {K' : Bool → Env → Hp → Prop} (h : JY P n w0 own ops F z late l e hs K) (kk : ∀ b e hs, K b e hs → K' b e hs) : JY P n w0 own ops F z late l e hs K' :=
  fun m k listed Z h1 h2 h3 h4 h5 hz => h m k listed Z h1 h2 h3 h4 h5 fun b e' hs' f1 f ke => hz b e' hs' f1 f (kk b e' hs' ke)
theorem JY.sub {e2 : Env} (hs' : Sub e2 e) (h : JY P n w0 own ops F z late l e2 hs K) : JY P n w0 own ops F z late l e hs K :=
  fun m k listed Z h1 h2 h3 h4 h5 hz a w hr s hF => h m k listed Z h1 h2 h3 h4 h5 hz a w (hr.sub hs') s hF
theorem JY.splitB {t : Nat} {b : Bool} (ht : get e t = some (.bool b)) (h1 : b = true → JY P n w0 own ops F z late l ((t, .bool true) :: e) hs K)
    (h0 : b = false → JY P n w0 own ops F z late l ((t, .bool false) :: e) hs K) : JY P n w0 own ops F z late l e hs K := by
  cases b
  · exact JY.sub (sub_same' ht) (h0 rfl)
  · exact JY.sub (sub_same' ht) (h1 rfl)
/-- a value, ahead of the first store -/
theorem JY.v {op : Op} {v : Value} (h : ∀ hs', F ⊆ hs' → Val P n w0 own e hs' op v) (kk : JY P n w0 own ops F z false rest ((d, v) :: e) hs K) (hdn : Nat.blt d n = true := by rfl) (hg : wantB ops e g = some true := by rfl)
    (hzo : ((ops[z]?).map (·.dst.isNone)) = some true := by rfl) (hx : noMem ⟨some d, op, ty, pos, aft, g⟩ = false := by rfl) :
    JY P n w0 own ops F z false (⟨some d, op, ty, pos, aft, g⟩ :: rest) e hs K := by
  intro m is listed Z h1 h2 h3 h4 h5 hz
  cases is with
  | nil => exact h1.elim
  | cons k is =>
  obtain ⟨h0, h1⟩ := h1
  unfold ordY at h2
  rw [Bool.and_eq_true, Bool.and_eq_true] at h2
  obtain ⟨⟨h2a, _⟩, h2b⟩ := h2
  rw [hx, Bool.false_and, Bool.false_and, Bool.or_false, Bool.or_eq_true, Bool.and_eq_true] at h2a
  have h2 := And.intro h2a h2b
  have hkz : k ≠ z := by rintro rfl; rw [h0] at hzo; simp at hzo
  have tail : JZ P n w0 own ops F z (rest.length + m) (listed.setIfInBounds k true) ((d, v) :: e) hs Z := kk m is _ Z h1 h2.2 (by simpa using h3) (set_lt h4 (.inr hkz)) h5 hz
  rw [show (⟨some d, op, ty, pos, aft, g⟩ :: rest : List Oper).length + m = (rest.length + m) + 1 from by simp; omega]
  rcases h2.1 with ho | ⟨_, hf⟩
  · exact JZ.v1 k h0 ho (h hs (h5 rfl)) tail rfl hdn hg
  · exact JZ.v k h0 hf h tail hdn hg
/-- a value behind it -/
theorem JY.w {op : Op} {v : Value} (h : Val P n w0 own e hs op v) (kk : JY P n w0 own ops F z true rest ((d, v) :: e) hs K) (hdn : Nat.blt d n = true := by rfl) (hg : wantB ops e g = some true := by rfl) (hx : noMem ⟨some d, op, ty, pos, aft, g⟩ = false := by rfl) :
    JY P n w0 own ops F z true (⟨some d, op, ty, pos, aft, g⟩ :: rest) e hs K := by
  intro m is listed Z h1 h2 h3 h4 h5 hz
  cases is with
  | nil => exact h1.elim
  | cons k is =>
  obtain ⟨h0, h1⟩ := h1
  unfold ordY at h2
  rw [Bool.and_eq_true, Bool.and_eq_true] at h2
  obtain ⟨⟨h2a, _⟩, h2b⟩ := h2
  rw [hx, Bool.false_and, Bool.false_and, Bool.or_false, Bool.or_eq_true, Bool.and_eq_true] at h2a
  have h2 := And.intro h2a h2b
  have tail : JZ P n w0 own ops F z (rest.length + m) (listed.setIfInBounds k true) ((d, v) :: e) hs Z := kk m is _ Z h1 h2.2 (by simpa using h3) (set_lt h4 (.inl rfl)) (fun h => by cases h) hz
  rw [show (⟨some d, op, ty, pos, aft, g⟩ :: rest : List Oper).length + m = (rest.length + m) + 1 from by simp; omega]
  rcases h2.1 with ho | ⟨_, hf⟩
  · exact JZ.v1 k h0 ho h tail rfl hdn hg
  · unfold firstZ at hf
    rw [h4] at hf
    simp at hf
/-- what touches no memory, at any time -/
theorem JY.x {op : Op} {v : Value} (h : ∀ w0 own hs, Val P n w0 own e hs op v) (kk : JY P n w0 own ops F z late rest ((d, v) :: e) hs K) (hdn : Nat.blt d n = true := by rfl) (hg : wantB ops e g = some true := by rfl)
    (hzo : ((ops[z]?).map (·.dst.isNone)) = some true := by rfl) :
    JY P n w0 own ops F z late (⟨some d, op, ty, pos, aft, g⟩ :: rest) e hs K := by
  intro m is listed Z h1 h2 h3 h4 h5 hz
  cases is with
  | nil => exact h1.elim
  | cons k is =>
  obtain ⟨h0, h1⟩ := h1
  unfold ordY at h2
  rw [Bool.and_eq_true, Bool.and_eq_true] at h2
  obtain ⟨⟨h2a, _⟩, h2b⟩ := h2
  rw [Bool.or_eq_true, Bool.or_eq_true, Bool.and_eq_true, Bool.and_eq_true, Bool.and_eq_true] at h2a
  have hkz : k ≠ z := by rintro rfl; rw [h0] at hzo; simp at hzo
  have tail : JZ P n w0 own ops F z (rest.length + m) (listed.setIfInBounds k true) ((d, v) :: e) hs Z := kk m is _ Z h1 h2b (by simpa using h3) (set_lt h4 (.inr hkz)) h5 hz
  rw [show (⟨some d, op, ty, pos, aft, g⟩ :: rest : List Oper).length + m = (rest.length + m) + 1 from by simp; omega]
  rcases h2a with (ho | ⟨_, hf⟩) | ⟨⟨_, hf⟩, _⟩
  · exact JZ.v1 k h0 ho (h _ _ _) tail rfl hdn hg
  · exact JZ.v k h0 hf (fun hs' _ => h _ _ _) tail hdn hg
  · exact JZ.x k h0 hf (Ne.symm hkz) (fun w => h _ _ _) tail hdn hg
/-- what works on memory, and leaves a value -/
theorem JY.ef {op : Op} {R : Value → Hp → Prop} (h : Eff P n w0 own e hs op R) (hF : ∀ v hs', R v hs' → F ⊆ hs → F ⊆ hs') (kk : ∀ v hs', R v hs' → JY P n w0 own ops F z late rest ((d, v) :: e) hs' K)
    (hE : isEff ⟨some d, op, ty, pos, aft, g⟩ = true := by rfl) (hdn : Nat.blt d n = true := by rfl) (hg : wantB ops e g = some true := by rfl) (hzo : ((ops[z]?).map (·.dst.isNone)) = some true := by rfl) : JY P n w0 own ops F z late (⟨some d, op, ty, pos, aft, g⟩ :: rest) e hs K := by
  intro m is listed Z h1 h2 h3 h4 h5 hz
  cases is with
  | nil => exact h1.elim
  | cons k is =>
  obtain ⟨h0, h1⟩ := h1
  unfold ordY at h2
  rw [Bool.and_eq_true, Bool.and_eq_true] at h2
  obtain ⟨⟨h2a, _⟩, h2b⟩ := h2
  rw [Bool.or_eq_true, Bool.or_eq_true, hE, eff_mem hE] at h2a
  have h2 := And.intro h2a h2b
  have hkz : k ≠ z := by rintro rfl; rw [h0] at hzo; simp at hzo
  have ho : onlyB ops listed k = true := by
    rcases h2.1 with (h | h) | h
    · exact h
    · simp at h
    · simp at h
  rw [show (⟨some d, op, ty, pos, aft, g⟩ :: rest : List Oper).length + m = (rest.length + m) + 1 from by simp; omega]
  exact JZ.ef k h0 ho h (fun v hs' r => kk v hs' r m is _ Z h1 h2.2 (by simpa using h3) (set_lt h4 (.inr hkz)) (fun e => hF v hs' r (h5 e)) hz) hF rfl hdn hg
/-- the first store -/
theorem JY.st {op : Op} {hs' : Hp} (h : Eff P n w0 own e hs op (fun v h => v = undef ∧ h = hs')) (kk : JY P n w0 own ops F z true rest e hs' K)
    (hE : isEff ⟨none, op, ty, pos, aft, g⟩ = true := by rfl) (hg : wantB ops e g = some true := by rfl) : JY P n w0 own ops F z false (⟨none, op, ty, pos, aft, g⟩ :: rest) e hs K := by
  intro m is listed Z h1 h2 h3 h4 h5 hz
  cases is with
  | nil => exact h1.elim
  | cons k is =>
  obtain ⟨h0, h1⟩ := h1
  unfold ordY at h2
  rw [Bool.and_eq_true, Bool.and_eq_true] at h2
  obtain ⟨⟨h2a, h2c⟩, h2b⟩ := h2
  rw [Bool.or_eq_true, Bool.or_eq_true, hE, eff_mem hE] at h2a
  have h2 := And.intro h2a h2b
  obtain rfl : k = z := by
    rw [h4] at h2c
    exact Nat.eq_of_beq_eq_true (by simpa using h2c)
  have ho : onlyB ops listed k = true := by
    rcases h2.1 with (h | h) | h
    · exact h
    · simp at h
    · simp at h
  have hk : k < listed.size := by rw [h3]; exact (Array.getElem?_eq_some_iff.1 h0).1
  rw [show (⟨none, op, ty, pos, aft, g⟩ :: rest : List Oper).length + m = (rest.length + m) + 1 from by simp; omega]
  refine JZ.st h0 ho (Nat.ble_eq_true_of_le hk) h (kk m is _ Z h1 h2.2 (by simpa using h3) (by simp [hk]) (fun h => by cases h) hz) hg
/-- a store behind it -/
theorem JY.st2 {op : Op} {hs' : Hp} (h : Eff P n w0 own e hs op (fun v h => v = undef ∧ h = hs')) (kk : JY P n w0 own ops F z true rest e hs' K)
    (hE : isEff ⟨none, op, ty, pos, aft, g⟩ = true := by rfl) (hg : wantB ops e g = some true := by rfl) : JY P n w0 own ops F z true (⟨none, op, ty, pos, aft, g⟩ :: rest) e hs K := by
  intro m is listed Z h1 h2 h3 h4 h5 hz
  cases is with
  | nil => exact h1.elim
  | cons k is =>
  obtain ⟨h0, h1⟩ := h1
  unfold ordY at h2
  rw [Bool.and_eq_true, Bool.and_eq_true] at h2
  obtain ⟨⟨h2a, h2c⟩, h2b⟩ := h2
  rw [Bool.or_eq_true, Bool.or_eq_true, hE, eff_mem hE] at h2a
  have h2 := And.intro h2a h2b
  have ho : onlyB ops listed k = true := by
    rcases h2.1 with (h | h) | h
    · exact h
    · simp at h
    · simp at h
  rw [show (⟨none, op, ty, pos, aft, g⟩ :: rest : List Oper).length + m = (rest.length + m) + 1 from by simp; omega]
  have hl := set_lt (k := k) (listed := listed) (z := z) h4 (.inl rfl)
  rcases Decidable.em (z = k) with rfl | hne
  · -- z has been: it cannot come up again
    have hr : Region.ready .any ops listed = [z] := by simpa [onlyB] using ho
    have hm : z ∈ Region.ready .any ops listed := by rw [hr]; simp
    obtain ⟨hu, _⟩ := mem_ready.1 hm
    have hk : z < listed.size := by rw [h3]; exact (Array.getElem?_eq_some_iff.1 h0).1
    simp [hk] at hu h4
    rw [hu] at h4; cases h4
  · exact JZ.st2 k h0 ho h4 (by cases h : Nat.beq z k; rfl; exact absurd (Nat.eq_of_beq_eq_true h) hne) h (kk m is _ Z h1 h2.2 (by simpa using h3) hl (fun h => by cases h) hz) hg
end
/-- number i comes up now -/
def JS (P : Program) (n : Nat) (w0 : World) (own : List Nat) (ops : Array Oper) (F : Hp) (m : Nat) (listed : Array Bool) (e : Env) (hs : Hp) (K : Env → Hp → Prop) (i : Nat) : Prop :=
  ∀ a w, Rep n a e → Sat w0 own hs w → F ⊆ hs →
    wpOp P ops (QN fun a' w' => ∃ e' hs', Rep n a' e' ∧ Sat w0 own hs' w' ∧ K e' hs') i (fun a' w' => Keeps w0 own F w' ∧ wpAnyH P .any ops (QN fun a' w' => ∃ e' hs', Rep n a' e' ∧ Sat w0 own hs' w' ∧ K e' hs') (Keeps w0 own F) m (listed.setIfInBounds i true) a' w') a w
section
variable {P : Program} {n : Nat} {w0 : World} {own : List Nat} {e : Env} {hs F : Hp} {ops : Array Oper} {K : Env → Hp → Prop} {m : Nat} {listed : Array Bool}
variable {d : Nat} {ty : TypeId} {pos : String} {aft : Array Edge} {g : Option (Nat × Bool)}
/-- any of those that may come up -/
theorem JD.two (i j : Nat) (hr : (Region.ready .any ops listed == [i, j]) = true) (h1 : JS P n w0 own ops F m listed e hs K i) (h2 : JS P n w0 own ops F m listed e hs K j) : JD P n w0 own ops F (m + 1) listed e hs K := by
  intro a w hr' s hf
  refine wpAnyH_all (rs := [i, j]) (by simpa using hr) (by simp) fun k hk => ?_
  simp only [List.mem_cons, List.not_mem_nil, or_false] at hk
  rcases hk with rfl | rfl
  · exact h1 a w hr' s hf
  · exact h2 a w hr' s hf
theorem JD.one (i : Nat) (hr : onlyB ops listed i = true) (h1 : JS P n w0 own ops F m listed e hs K i) : JD P n w0 own ops F (m + 1) listed e hs K := by
  intro a w hr' s hf
  refine wpAnyH_all (rs := [i]) (by simpa [onlyB] using hr) (by simp) fun k hk => ?_
  simp only [List.mem_singleton] at hk
  subst hk
  exact h1 a w hr' s hf
theorem JS.v {i : Nat} {op : Op} {v : Value} (hi : ops[i]? = some ⟨some d, op, ty, pos, aft, g⟩) (h : Val P n w0 own e hs op v) (k : JD P n w0 own ops F m (listed.setIfInBounds i true) ((d, v) :: e) hs K)
    (hdn : Nat.blt d n = true := by rfl) (hg : wantB ops e g = some true := by rfl) : JS P n w0 own ops F m listed e hs K i := by
  intro a w hr s hf
  unfold wpOp
  simp only [hi]
  rw [if_pos (wanted_of hr hg)]
  exact .inl (h.eff a w _ _ _ _ _ _ _ hr s fun v' hs' w' ⟨e1, e2⟩ s' => by
    subst e1; subst e2
    exact ⟨⟨_, s', hf⟩, k _ _ (hr.put (Nat.le_of_ble_eq_true hdn) _) s' hf⟩)
theorem JS.st {i : Nat} {op : Op} {hs' : Hp} (hi : ops[i]? = some ⟨none, op, ty, pos, aft, g⟩) (h : Eff P n w0 own e hs op (fun v h => v = undef ∧ h = hs')) (hF : F ⊆ hs') (k : JD P n w0 own ops F m (listed.setIfInBounds i true) e hs' K)
    (hg : wantB ops e g = some true := by rfl) : JS P n w0 own ops F m listed e hs K i := by
  intro a w hr s hf
  unfold wpOp
  simp only [hi]
  rw [if_pos (wanted_of hr hg)]
  exact .inl (h a w _ _ _ _ _ _ _ hr s fun v' h' w' ⟨_, e2⟩ s' => by
    subst e2
    exact ⟨⟨_, s', hF⟩, k _ _ (hr.put_none _) s' hF⟩)
end
end V
end Go

/- VF: from the data that come in to the words of V. -/
namespace Go
namespace V
open Go.RowKit Go.ChangeShapes Go.WideShapes Go.ChangeAt
set_option linter.unusedVariables false

theorem Does.calls {P : Program} {g : Nat} {vals : List Value} {w : World} {R : Value → Hp → Prop} (h : Does P g vals [] w R) : Calls P g ⟨vals⟩ w fun e w' => (∃ v hs, e = .returned v ∧ R v hs) ∧ Below w.heap.size w w' :=
  (h (fun _ _ h => (List.not_mem_nil h).elim) (by simp [bl])).mono fun e w' ⟨v, hs, h1, h2, h3⟩ => ⟨⟨v, hs, h1, h2⟩, (Sat.sub (hs' := []) h3 (List.nil_sublist _)).below⟩

/-- numbers of a slice as they are read -/
def ints (k : IntKind) (zs : List Int) : List Value := zs.map (.int k)
theorem open_slice_ints {H : Type} {enc : TypeId × Value → H} {P : Program} {W : World} {base : Nat} {spare : Nat → Bool} {held : Bool} {t e : Nat} {k : IntKind} {a0 : Option Addr} {len cap : Nat} {d : DataW H} {p : List MemPlace}
    (ht : P.underlying t = some (.slice e)) (he : P.underlying e = some (.int k)) (hc : P.cellsOf e = 1)
    (h : DataW.Trod enc P W base spare held t (.slice a0 len cap) d p) :
    ∃ zs : List Int, Rd W [] a0 (ints k zs) ∧ len = zs.length ∧ (∀ n ∈ zs, (Lit.int k n).wf = true) ∧ (len = 0 ∨ ∃ elems sp, d = .slice elems sp ∧ elems.length = len) := by
  obtain ⟨fuel, hf⟩ := h
  rcases open_ints ht he hc hf with ⟨hcs, hx⟩ | ⟨x, l, c, zs, hcs, _, hl, hm, hz, hx, hcell, hwz⟩
  · simp [Value.cells] at hcs
    obtain ⟨rfl, rfl, rfl⟩ := hcs
    exact ⟨[], Rd.nil _ _ _, rfl, by simp, .inl rfl⟩
  · simp [Value.cells] at hcs
    obtain ⟨rfl, rfl, rfl⟩ := hcs
    have hzl : len ≤ zs.length := by split at hz <;> omega
    refine ⟨zs.take len, ?_, by simp; omega, fun n hn => hwz n (List.mem_of_mem_take hn), .inr ?_⟩
    · intro j v hv
      have hj : j < len := by
        have := (List.getElem?_eq_some_iff.1 hv).1
        simp [ints] at this; omega
      have hjz : j < zs.length := by omega
      have hcj := hcell j hjz
      obtain ⟨b, o, sp⟩ := x
      have hspot : sp = none := by simpa [Addr.add] using World.cell?_spot (hcell 0 (by omega))
      subst hspot
      refine ⟨b, o, rfl, by simp, ?_⟩
      rw [add_none] at hcj
      rw [hcj]
      simp [ints, hj, hjz] at hv
      simp [List.getElem?_eq_getElem hjz, hv]
    · simp only [Prod.mk.injEq] at hx
      exact ⟨_, _, hx.1, by simp [lits]; omega⟩
theorem wf_u8 {n : Int} (h : (Lit.int .u8 n).wf = true) : 0 ≤ n ∧ n ≤ 255 := by
  simpa [Lit.wf, IntKind.min, IntKind.max, IntKind.signed, IntKind.bits] using h
theorem ints_bytes {zs : List Int} (h : ∀ n ∈ zs, (Lit.int .u8 n).wf = true) : ∃ xs : List (BitVec 8), ints .u8 zs = byts xs ∧ xs.length = zs.length := by
  refine ⟨zs.map fun n => BitVec.ofNat 8 n.toNat, ?_, by simp⟩
  simp only [ints, byts, List.map_map]
  apply List.map_congr_left
  intro n hn
  have := wf_u8 (h n hn)
  simp
  omega
theorem open_bytes {H : Type} {enc : TypeId × Value → H} {P : Program} {W : World} {base : Nat} {spare : Nat → Bool} {held : Bool} {t e : Nat} {a0 : Option Addr} {len cap : Nat} {d : DataW H} {p : List MemPlace}
    (ht : P.underlying t = some (.slice e)) (he : P.underlying e = some (.int .u8)) (hc : P.cellsOf e = 1)
    (h : DataW.Trod enc P W base spare held t (.slice a0 len cap) d p) :
    ∃ xs : List (BitVec 8), Rd W [] a0 (byts xs) ∧ len = xs.length ∧ (len = 0 ∨ ∃ elems sp, d = .slice elems sp ∧ elems.length = len) := by
  obtain ⟨zs, h1, h2, h3, h4⟩ := open_slice_ints ht he hc h
  obtain ⟨xs, e1, e2⟩ := ints_bytes h3
  exact ⟨xs, e1 ▸ h1, by omega, h4⟩
end V
end Go

/- VG: plain values (numbers, bools, strings, structs and arrays of these) that come in. -/
namespace Go
namespace V
open Go.RowKit Go.ChangeShapes Go.WideShapes Go.ChangeAt
set_option linter.unusedVariables false

def Lf.okw : Lf → Value → Prop
  | .i k, .int k' n => k' = k ∧ (Lit.int k n).wf = true
  | .b, .bool _ => True
  | .s, .string x => x.size ≤ maxLen
  | _, _ => False
def okw : List Lf → List Value → Prop
  | [], [] => True
  | l :: ls, v :: vs => l.okw v ∧ okw ls vs
  | _, _ => False
theorem Lf.okw.ok {l : Lf} {v : Value} (h : l.okw v) : l.ok v := by
  cases l <;> cases v <;> simp only [Lf.okw] at h <;> simp only [Lf.ok]
  exact h.1
theorem okw.oks : ∀ {ls : List Lf} {vs : List Value}, okw ls vs → V.oks ls vs
  | [], [], _ => trivial
  | l :: ls, v :: vs, h => ⟨h.1.ok, okw.oks h.2⟩
  | [], _ :: _, h => h.elim
  | _ :: _, [], h => h.elim
theorem okw_append : ∀ {l1 l2 : List Lf} {v1 v2 : List Value}, okw l1 v1 → okw l2 v2 → okw (l1 ++ l2) (v1 ++ v2)
  | [], l2, [], v2, _, h => h
  | l :: l1, l2, v :: v1, v2, h, k => ⟨h.1, okw_append h.2 k⟩
  | [], _, _ :: _, _, h, _ => h.elim
  | _ :: _, _, [], _, h, _ => h.elim
theorem okw_replicate {le : List Lf} {k : Nat} : ∀ {vs : List Value}, vs.length = k * le.length → (∀ i, i < k → okw le ((vs.drop (i * le.length)).take le.length)) → okw (List.replicate k le).flatten vs := by
  induction k with
  | zero => intro vs h _; have : vs = [] := by simpa using h
            subst this; exact trivial
  | succ k ih =>
    intro vs h hi
    rw [Nat.succ_mul] at h
    have h0 := hi 0 (by omega)
    simp only [Nat.zero_mul, List.drop_zero] at h0
    have hr := ih (vs := vs.drop le.length) (by simp; omega) (fun i hik => by
      have := hi (i + 1) (by omega)
      rw [List.drop_drop, show le.length + i * le.length = (i + 1) * le.length from by rw [Nat.succ_mul]; omega]
      exact this)
    have := okw_append h0 hr
    rw [List.take_append_drop] at this
    rw [List.replicate_succ, List.flatten_cons]
    exact this

section
variable {H : Type} {enc : TypeId × Value → H} {P : Program} {w : World} {base : Nat} {spare : Nat → Bool} {held : Bool}

theorem cellsOf_info {T : Nat} {i : TypeInfo} (h : P.info? T = some i) : P.cellsOf T = i.size := by simp [Program.cellsOf, h]

theorem trod_plain : ∀ (n T : Nat) (ls : List Lf) (fuel : Nat) (cs : List Value) (x : DataW H × List MemPlace), leaves P n T = some ls → P.cellsOf T = ls.length → DataW.trod enc P w base spare held fuel T cs = some x → okw ls cs := by
  intro n
  induction n with
  | zero => intro T ls fuel cs x h; simp [leaves] at h
  | succ n ih =>
    intro T ls fuel cs x h hsz ht
    unfold leaves at h
    split at h
    · rename_i hu; simp at h; subst h
      obtain ⟨b, rfl, _⟩ := DataW.trod_bool hu ht
      exact ⟨trivial, trivial⟩
    · rename_i hu; simp at h; subst h
      obtain ⟨s, rfl, _, hs⟩ := DataW.trod_string hu ht
      exact ⟨hs, trivial⟩
    · rename_i k hu; simp at h; subst h
      obtain ⟨m, rfl, _, hw⟩ := DataW.trod_int hu ht
      exact ⟨⟨rfl, hw⟩, trivial⟩
    · rename_i fs hu
      split at h
      · cases h
      · obtain ⟨xs, m, _, _, hlen, hxl, hf⟩ := DataW.trod_struct hu ht
        have hall : ∀ f ∈ fs.toList, ∃ y, DataW.trod enc P w base spare held m f.type ((cs.drop f.offset).take (P.cellsOf f.type)) = some y := by
          intro f hfm
          obtain ⟨i, hi, rfl⟩ := List.mem_iff_getElem.1 hfm
          have hi' : i < fs.size := by simpa using hi
          have := hf i fs[i] (by simp [hi'])
          refine ⟨xs[i]'(by omega), ?_⟩
          rw [Array.getElem_toList, this]
          simp [List.getElem?_eq_getElem (show i < xs.length by omega)]
        have key : ∀ (l : List Field) (acc : List Lf), l.foldl (fun acc f => match acc, leaves P n f.type, P.info? f.type with
            | some ls, some lf, some i => if f.name == "_" || f.offset != ls.length || i.size != lf.length then none else some (ls ++ lf)
            | _, _, _ => none) (some acc) = some ls →
            (∀ f ∈ l, ∃ y, DataW.trod enc P w base spare held m f.type ((cs.drop f.offset).take (P.cellsOf f.type)) = some y) → ∃ tl, ls = acc ++ tl ∧ okw tl (cs.drop acc.length) := by
          intro l
          induction l with
          | nil =>
            intro acc hacc _
            simp at hacc
            subst hacc
            refine ⟨[], by simp, ?_⟩
            rw [List.drop_of_length_le (by omega)]; exact trivial
          | cons f l ihl =>
            intro acc hacc hl
            simp only [List.foldl_cons] at hacc
            cases hlf : leaves P n f.type with
            | none => rw [hlf] at hacc; simp only at hacc; rw [foldl_none _ _ (fun x => rfl)] at hacc; cases hacc
            | some lf =>
              cases hif : P.info? f.type with
              | none => rw [hlf, hif] at hacc; simp only at hacc; rw [foldl_none _ _ (fun x => rfl)] at hacc; cases hacc
              | some i =>
                rw [hlf, hif] at hacc
                simp only at hacc
                split at hacc
                · rw [foldl_none _ _ (fun x => rfl)] at hacc; cases hacc
                · rename_i hcond
                  simp at hcond
                  obtain ⟨⟨c1, c2⟩, c3⟩ := hcond
                  have hcell : P.cellsOf f.type = lf.length := by rw [cellsOf_info hif, c3]
                  obtain ⟨y, hy⟩ := hl f (by simp)
                  have h1 := ih f.type lf m _ y hlf hcell hy
                  obtain ⟨tl, htl, hok⟩ := ihl (acc ++ lf) hacc (fun g hg => hl g (by simp [hg]))
                  refine ⟨lf ++ tl, by rw [htl, List.append_assoc], ?_⟩
                  rw [c2, hcell] at h1
                  rw [List.length_append] at hok
                  have := okw_append h1 hok
                  rw [← List.drop_drop, List.take_append_drop] at this
                  exact this
        obtain ⟨tl, htl, hok⟩ := key fs.toList [] h hall
        simp only [List.nil_append] at htl
        subst htl
        simpa using hok
    · rename_i k E hu
      split at h
      · rename_i le i hle hie
        split at h
        · cases h
        · rename_i hsz2
          simp at hsz2
          simp at h
          obtain ⟨xs, m, _, _, hlen, hxl, hf⟩ := DataW.trod_array hu ht
          have hcell : P.cellsOf E = le.length := by rw [cellsOf_info hie, hsz2]
          rw [hsz, ← h] at hlen
          rw [← h]
          refine okw_replicate (by simpa using hlen) fun j hj => ?_
          have := hf j hj
          rw [hcell] at this
          exact ih E le m _ (xs[j]'(by omega)) hle hcell (by rw [this]; simp [List.getElem?_eq_getElem (show j < xs.length by omega)])
      · cases h
    · cases h
theorem okWide_agg {T m base : Nat} {v : Value} (hT : Ag P T m) (h : Value.okWide P w .any base T v) : ∃ cs, v = .agg ⟨cs⟩ := by
  obtain ⟨d, i, hd, h1, _⟩ := hT.out
  unfold Value.okWide at h
  rw [hd] at h
  rcases h1 with ⟨f, rfl⟩ | ⟨k, e, rfl⟩ <;> (obtain ⟨cs, rfl, _⟩ := h; exact ⟨cs.toList, rfl⟩)
/-- a struct or an array of plain cells that came in by value -/
theorem open_plain {T m base2 : Nat} {ls : List Lf} {v : Value} {d : DataW H} {p : List MemPlace} [hT : Ag P T m] [hE : EqT P T ls] (hv : Value.okWide P w .any base2 T v) (h : DataW.Trod enc P w base spare held T v d p) :
    ∃ cs, v = .agg ⟨cs⟩ ∧ okw ls cs := by
  obtain ⟨cs, rfl⟩ := okWide_agg hT hv
  obtain ⟨fuel, hf⟩ := h
  refine ⟨cs, rfl, ?_⟩
  obtain ⟨h1, h2, _⟩ := hE.out
  obtain ⟨_, i, _, _, hi, hs⟩ := (Ag.of h2).out
  exact trod_plain 8 T ls fuel cs _ h1 (by rw [cellsOf_info hi, hs]) (by simpa [Value.cells] using hf)
end
end V
end Go

/- YtinmhhonpflojaaTy: the facts on types and functions that V's rules ask for: written by ty.py. -/
namespace Go.Proofs.Ytinmhhonpflojaa
open Go.V
instance : Sc Try.prog 3 := Sc.of (by kernel_rfl)
instance : Sz Try.prog 3 1 := Sz.of (by kernel_rfl)
instance : Zr Try.prog 3 ([.int .i64 0]) := Zr.of (v := .int .i64 0) (by kernel_rfl) rfl
instance : ZrV Try.prog 3 (.int .i64 0) := ZrV.of (by kernel_rfl)
instance : El Try.prog 3 1 8 ([.int .i64 0]) := El.of (v := .int .i64 0) (by kernel_rfl) (by kernel_rfl) rfl rfl
instance : IntT Try.prog 3 .i64 := ⟨by kernel_rfl⟩
instance : Sc Try.prog 4 := Sc.of (by kernel_rfl)
instance : Sz Try.prog 4 1 := Sz.of (by kernel_rfl)
instance : Zr Try.prog 4 ([.bool false]) := Zr.of (v := .bool false) (by kernel_rfl) rfl
instance : ZrV Try.prog 4 (.bool false) := ZrV.of (by kernel_rfl)
instance : BoolT Try.prog 4 := ⟨by kernel_rfl⟩
instance : Sc Try.prog 5 := Sc.of (by kernel_rfl)
instance : Sz Try.prog 5 1 := Sz.of (by kernel_rfl)
instance : Zr Try.prog 5 ([.int .u8 0]) := Zr.of (v := .int .u8 0) (by kernel_rfl) rfl
instance : ZrV Try.prog 5 (.int .u8 0) := ZrV.of (by kernel_rfl)
instance : IntT Try.prog 5 .u8 := ⟨by kernel_rfl⟩
instance : Sc Try.prog 22 := Sc.of (by kernel_rfl)
instance : Sz Try.prog 22 1 := Sz.of (by kernel_rfl)
instance : Zr Try.prog 22 ([.int .u64 0]) := Zr.of (v := .int .u64 0) (by kernel_rfl) rfl
instance : ZrV Try.prog 22 (.int .u64 0) := ZrV.of (by kernel_rfl)
instance : IntT Try.prog 22 .u64 := ⟨by kernel_rfl⟩
instance : Ag Try.prog 24 6 := Ag.of (by kernel_rfl)
instance : Sz Try.prog 24 6 := Sz.of (by kernel_rfl)
instance : Zr Try.prog 24 ([.int .u64 0, .int .i64 0, .int .i64 0, .int .i64 0, .int .u64 0, .int .i64 0]) := Zr.of (v := .agg ⟨[.int .u64 0, .int .i64 0, .int .i64 0, .int .i64 0, .int .u64 0, .int .i64 0]⟩) (by kernel_rfl) rfl
instance : ZrV Try.prog 24 (.agg ⟨[.int .u64 0, .int .i64 0, .int .i64 0, .int .i64 0, .int .u64 0, .int .i64 0]⟩) := ZrV.of (by kernel_rfl)
instance : EqT Try.prog 24 ([.i .u64, .i .i64, .i .i64, .i .i64, .i .u64, .i .i64]) := ⟨by kernel_rfl, by kernel_rfl, by kernel_rfl⟩
instance : StT Try.prog 24 [(0, 1), (1, 1), (2, 1), (3, 1), (4, 1), (5, 1)] ([.int .u64 0, .int .i64 0, .int .i64 0, .int .i64 0, .int .u64 0, .int .i64 0]) := StT.of (by kernel_rfl) (by kernel_rfl)
instance : El Try.prog 24 6 48 ([.int .u64 0, .int .i64 0, .int .i64 0, .int .i64 0, .int .u64 0, .int .i64 0]) := El.of (v := .agg ⟨[.int .u64 0, .int .i64 0, .int .i64 0, .int .i64 0, .int .u64 0, .int .i64 0]⟩) (by kernel_rfl) (by kernel_rfl) rfl rfl
instance : Ag Try.prog 25 7 := Ag.of (by kernel_rfl)
instance : Sz Try.prog 25 7 := Sz.of (by kernel_rfl)
instance : Zr Try.prog 25 ([.int .u64 0, .int .u64 0, .int .u64 0, .int .u64 0, .int .u64 0, .int .u64 0, .int .u64 0]) := Zr.of (v := .agg ⟨[.int .u64 0, .int .u64 0, .int .u64 0, .int .u64 0, .int .u64 0, .int .u64 0, .int .u64 0]⟩) (by kernel_rfl) rfl
instance : ZrV Try.prog 25 (.agg ⟨[.int .u64 0, .int .u64 0, .int .u64 0, .int .u64 0, .int .u64 0, .int .u64 0, .int .u64 0]⟩) := ZrV.of (by kernel_rfl)
instance : EqT Try.prog 25 ([.i .u64, .i .u64, .i .u64, .i .u64, .i .u64, .i .u64, .i .u64]) := ⟨by kernel_rfl, by kernel_rfl, by kernel_rfl⟩
instance : ArrT Try.prog 25 7 22 := ⟨by kernel_rfl⟩
instance : Ag Try.prog 27 8 := Ag.of (by kernel_rfl)
instance : Sz Try.prog 27 8 := Sz.of (by kernel_rfl)
instance : Zr Try.prog 27 ([.int .u8 0, .int .u64 0, .int .u64 0, .int .u64 0, .int .u64 0, .int .u64 0, .int .u64 0, .int .u64 0]) := Zr.of (v := .agg ⟨[.int .u8 0, .int .u64 0, .int .u64 0, .int .u64 0, .int .u64 0, .int .u64 0, .int .u64 0, .int .u64 0]⟩) (by kernel_rfl) rfl
instance : ZrV Try.prog 27 (.agg ⟨[.int .u8 0, .int .u64 0, .int .u64 0, .int .u64 0, .int .u64 0, .int .u64 0, .int .u64 0, .int .u64 0]⟩) := ZrV.of (by kernel_rfl)
instance : EqT Try.prog 27 ([.i .u8, .i .u64, .i .u64, .i .u64, .i .u64, .i .u64, .i .u64, .i .u64]) := ⟨by kernel_rfl, by kernel_rfl, by kernel_rfl⟩
instance : StT Try.prog 27 [(0, 1), (1, 7)] ([.int .u8 0, .int .u64 0, .int .u64 0, .int .u64 0, .int .u64 0, .int .u64 0, .int .u64 0, .int .u64 0]) := StT.of (by kernel_rfl) (by kernel_rfl)
instance : Sc Try.prog 28 := Sc.of (by kernel_rfl)
instance : Sz Try.prog 28 1 := Sz.of (by kernel_rfl)
instance : Zr Try.prog 28 ([.int .i64 0]) := Zr.of (v := .int .i64 0) (by kernel_rfl) rfl
instance : ZrV Try.prog 28 (.int .i64 0) := ZrV.of (by kernel_rfl)
instance : IntT Try.prog 28 .i64 := ⟨by kernel_rfl⟩
instance : Sc Try.prog 34 := Sc.of (by kernel_rfl)
instance : Sz Try.prog 34 1 := Sz.of (by kernel_rfl)
instance : Zr Try.prog 34 ([.slice none 0 0]) := Zr.of (v := .slice none 0 0) (by kernel_rfl) rfl
instance : ZrV Try.prog 34 (.slice none 0 0) := ZrV.of (by kernel_rfl)
instance : SliceT Try.prog 34 48 := ⟨by kernel_rfl⟩
instance : Sc Try.prog 35 := Sc.of (by kernel_rfl)
instance : Sz Try.prog 35 1 := Sz.of (by kernel_rfl)
instance : Zr Try.prog 35 ([.pointer none]) := Zr.of (v := .pointer none) (by kernel_rfl) rfl
instance : ZrV Try.prog 35 (.pointer none) := ZrV.of (by kernel_rfl)
instance : PtrT Try.prog 35 105 := ⟨by kernel_rfl⟩
instance : Sc Try.prog 38 := Sc.of (by kernel_rfl)
instance : Sz Try.prog 38 1 := Sz.of (by kernel_rfl)
instance : Zr Try.prog 38 ([.slice none 0 0]) := Zr.of (v := .slice none 0 0) (by kernel_rfl) rfl
instance : ZrV Try.prog 38 (.slice none 0 0) := ZrV.of (by kernel_rfl)
instance : SliceT Try.prog 38 109 := ⟨by kernel_rfl⟩
instance : Ag Try.prog 40 3 := Ag.of (by kernel_rfl)
instance : Sz Try.prog 40 3 := Sz.of (by kernel_rfl)
instance : Zr Try.prog 40 ([.int .u64 0, .slice none 0 0, .slice none 0 0]) := Zr.of (v := .agg ⟨[.int .u64 0, .slice none 0 0, .slice none 0 0]⟩) (by kernel_rfl) rfl
instance : ZrV Try.prog 40 (.agg ⟨[.int .u64 0, .slice none 0 0, .slice none 0 0]⟩) := ZrV.of (by kernel_rfl)
instance : StT Try.prog 40 [(0, 1), (1, 1), (2, 1)] ([.int .u64 0, .slice none 0 0, .slice none 0 0]) := StT.of (by kernel_rfl) (by kernel_rfl)
instance : El Try.prog 40 3 56 ([.int .u64 0, .slice none 0 0, .slice none 0 0]) := El.of (v := .agg ⟨[.int .u64 0, .slice none 0 0, .slice none 0 0]⟩) (by kernel_rfl) (by kernel_rfl) rfl rfl
instance : Ag Try.prog 42 4 := Ag.of (by kernel_rfl)
instance : Sz Try.prog 42 4 := Sz.of (by kernel_rfl)
instance : Zr Try.prog 42 ([.int .i64 0, .int .u64 0, .slice none 0 0, .slice none 0 0]) := Zr.of (v := .agg ⟨[.int .i64 0, .int .u64 0, .slice none 0 0, .slice none 0 0]⟩) (by kernel_rfl) rfl
instance : ZrV Try.prog 42 (.agg ⟨[.int .i64 0, .int .u64 0, .slice none 0 0, .slice none 0 0]⟩) := ZrV.of (by kernel_rfl)
instance : StT Try.prog 42 [(0, 1), (1, 3)] ([.int .i64 0, .int .u64 0, .slice none 0 0, .slice none 0 0]) := StT.of (by kernel_rfl) (by kernel_rfl)
instance : Sc Try.prog 46 := Sc.of (by kernel_rfl)
instance : Sz Try.prog 46 1 := Sz.of (by kernel_rfl)
instance : Zr Try.prog 46 ([.slice none 0 0]) := Zr.of (v := .slice none 0 0) (by kernel_rfl) rfl
instance : ZrV Try.prog 46 (.slice none 0 0) := ZrV.of (by kernel_rfl)
instance : SliceT Try.prog 46 88 := ⟨by kernel_rfl⟩
instance : Ag Try.prog 48 3 := Ag.of (by kernel_rfl)
instance : Sz Try.prog 48 3 := Sz.of (by kernel_rfl)
instance : Zr Try.prog 48 ([.slice none 0 0, .slice none 0 0, .slice none 0 0]) := Zr.of (v := .agg ⟨[.slice none 0 0, .slice none 0 0, .slice none 0 0]⟩) (by kernel_rfl) rfl
instance : ZrV Try.prog 48 (.agg ⟨[.slice none 0 0, .slice none 0 0, .slice none 0 0]⟩) := ZrV.of (by kernel_rfl)
instance : StT Try.prog 48 [(0, 1), (1, 1), (2, 1)] ([.slice none 0 0, .slice none 0 0, .slice none 0 0]) := StT.of (by kernel_rfl) (by kernel_rfl)
instance : El Try.prog 48 3 72 ([.slice none 0 0, .slice none 0 0, .slice none 0 0]) := El.of (v := .agg ⟨[.slice none 0 0, .slice none 0 0, .slice none 0 0]⟩) (by kernel_rfl) (by kernel_rfl) rfl rfl
instance : Sc Try.prog 49 := Sc.of (by kernel_rfl)
instance : Sz Try.prog 49 1 := Sz.of (by kernel_rfl)
instance : Zr Try.prog 49 ([.slice none 0 0]) := Zr.of (v := .slice none 0 0) (by kernel_rfl) rfl
instance : ZrV Try.prog 49 (.slice none 0 0) := ZrV.of (by kernel_rfl)
instance : SliceT Try.prog 49 24 := ⟨by kernel_rfl⟩
instance : Sc Try.prog 60 := Sc.of (by kernel_rfl)
instance : Sz Try.prog 60 1 := Sz.of (by kernel_rfl)
instance : Zr Try.prog 60 ([.slice none 0 0]) := Zr.of (v := .slice none 0 0) (by kernel_rfl) rfl
instance : ZrV Try.prog 60 (.slice none 0 0) := ZrV.of (by kernel_rfl)
instance : SliceT Try.prog 60 72 := ⟨by kernel_rfl⟩
instance : Sc Try.prog 61 := Sc.of (by kernel_rfl)
instance : Sz Try.prog 61 1 := Sz.of (by kernel_rfl)
instance : Zr Try.prog 61 ([.pointer none]) := Zr.of (v := .pointer none) (by kernel_rfl) rfl
instance : ZrV Try.prog 61 (.pointer none) := ZrV.of (by kernel_rfl)
instance : PtrT Try.prog 61 114 := ⟨by kernel_rfl⟩
instance : Ag Try.prog 65 12 := Ag.of (by kernel_rfl)
instance : Sz Try.prog 65 12 := Sz.of (by kernel_rfl)
instance : Zr Try.prog 65 ([.int .i64 0, .int .u64 0, .slice none 0 0, .slice none 0 0, .slice none 0 0, .int .u64 0, .int .u64 0, .int .i64 0, .int .i64 0, .int .i64 0, .int .u64 0, .int .i64 0]) := Zr.of (v := .agg ⟨[.int .i64 0, .int .u64 0, .slice none 0 0, .slice none 0 0, .slice none 0 0, .int .u64 0, .int .u64 0, .int .i64 0, .int .i64 0, .int .i64 0, .int .u64 0, .int .i64 0]⟩) (by kernel_rfl) rfl
instance : ZrV Try.prog 65 (.agg ⟨[.int .i64 0, .int .u64 0, .slice none 0 0, .slice none 0 0, .slice none 0 0, .int .u64 0, .int .u64 0, .int .i64 0, .int .i64 0, .int .i64 0, .int .u64 0, .int .i64 0]⟩) := ZrV.of (by kernel_rfl)
instance : StT Try.prog 65 [(0, 1), (1, 3), (4, 1), (5, 1), (6, 6)] ([.int .i64 0, .int .u64 0, .slice none 0 0, .slice none 0 0, .slice none 0 0, .int .u64 0, .int .u64 0, .int .i64 0, .int .i64 0, .int .i64 0, .int .u64 0, .int .i64 0]) := StT.of (by kernel_rfl) (by kernel_rfl)
instance : Sc Try.prog 68 := Sc.of (by kernel_rfl)
instance : Sz Try.prog 68 1 := Sz.of (by kernel_rfl)
instance : Zr Try.prog 68 ([.pointer none]) := Zr.of (v := .pointer none) (by kernel_rfl) rfl
instance : ZrV Try.prog 68 (.pointer none) := ZrV.of (by kernel_rfl)
instance : PtrT Try.prog 68 70 := ⟨by kernel_rfl⟩
instance : Ag Try.prog 70 13 := Ag.of (by kernel_rfl)
instance : Sz Try.prog 70 13 := Sz.of (by kernel_rfl)
instance : Zr Try.prog 70 ([.pointer none, .int .i64 0, .int .u64 0, .slice none 0 0, .slice none 0 0, .slice none 0 0, .int .u64 0, .int .u64 0, .int .i64 0, .int .i64 0, .int .i64 0, .int .u64 0, .int .i64 0]) := Zr.of (v := .agg ⟨[.pointer none, .int .i64 0, .int .u64 0, .slice none 0 0, .slice none 0 0, .slice none 0 0, .int .u64 0, .int .u64 0, .int .i64 0, .int .i64 0, .int .i64 0, .int .u64 0, .int .i64 0]⟩) (by kernel_rfl) rfl
instance : ZrV Try.prog 70 (.agg ⟨[.pointer none, .int .i64 0, .int .u64 0, .slice none 0 0, .slice none 0 0, .slice none 0 0, .int .u64 0, .int .u64 0, .int .i64 0, .int .i64 0, .int .i64 0, .int .u64 0, .int .i64 0]⟩) := ZrV.of (by kernel_rfl)
instance : StT Try.prog 70 [(0, 1), (1, 12)] ([.pointer none, .int .i64 0, .int .u64 0, .slice none 0 0, .slice none 0 0, .slice none 0 0, .int .u64 0, .int .u64 0, .int .i64 0, .int .i64 0, .int .i64 0, .int .u64 0, .int .i64 0]) := StT.of (by kernel_rfl) (by kernel_rfl)
instance : Ag Try.prog 72 11 := Ag.of (by kernel_rfl)
instance : Sz Try.prog 72 11 := Sz.of (by kernel_rfl)
instance : Zr Try.prog 72 ([.int .i64 0, .bool false, .int .u64 0, .int .i64 0, .int .i64 0, .int .i64 0, .int .u64 0, .int .i64 0, .int .u64 0, .slice none 0 0, .slice none 0 0]) := Zr.of (v := .agg ⟨[.int .i64 0, .bool false, .int .u64 0, .int .i64 0, .int .i64 0, .int .i64 0, .int .u64 0, .int .i64 0, .int .u64 0, .slice none 0 0, .slice none 0 0]⟩) (by kernel_rfl) rfl
instance : ZrV Try.prog 72 (.agg ⟨[.int .i64 0, .bool false, .int .u64 0, .int .i64 0, .int .i64 0, .int .i64 0, .int .u64 0, .int .i64 0, .int .u64 0, .slice none 0 0, .slice none 0 0]⟩) := ZrV.of (by kernel_rfl)
instance : StT Try.prog 72 [(0, 1), (1, 1), (2, 6), (8, 3)] ([.int .i64 0, .bool false, .int .u64 0, .int .i64 0, .int .i64 0, .int .i64 0, .int .u64 0, .int .i64 0, .int .u64 0, .slice none 0 0, .slice none 0 0]) := StT.of (by kernel_rfl) (by kernel_rfl)
instance : El Try.prog 72 11 120 ([.int .i64 0, .bool false, .int .u64 0, .int .i64 0, .int .i64 0, .int .i64 0, .int .u64 0, .int .i64 0, .int .u64 0, .slice none 0 0, .slice none 0 0]) := El.of (v := .agg ⟨[.int .i64 0, .bool false, .int .u64 0, .int .i64 0, .int .i64 0, .int .i64 0, .int .u64 0, .int .i64 0, .int .u64 0, .slice none 0 0, .slice none 0 0]⟩) (by kernel_rfl) (by kernel_rfl) rfl rfl
instance : Ag Try.prog 77 2 := Ag.of (by kernel_rfl)
instance : Sz Try.prog 77 2 := Sz.of (by kernel_rfl)
instance : Zr Try.prog 77 ([.int .i64 0, .int .i64 0]) := Zr.of (v := .agg ⟨[.int .i64 0, .int .i64 0]⟩) (by kernel_rfl) rfl
instance : ZrV Try.prog 77 (.agg ⟨[.int .i64 0, .int .i64 0]⟩) := ZrV.of (by kernel_rfl)
instance : EqT Try.prog 77 ([.i .i64, .i .i64]) := ⟨by kernel_rfl, by kernel_rfl, by kernel_rfl⟩
instance : StT Try.prog 77 [(0, 1), (1, 1)] ([.int .i64 0, .int .i64 0]) := StT.of (by kernel_rfl) (by kernel_rfl)
instance : Sc Try.prog 78 := Sc.of (by kernel_rfl)
instance : Sz Try.prog 78 1 := Sz.of (by kernel_rfl)
instance : Zr Try.prog 78 ([.slice none 0 0]) := Zr.of (v := .slice none 0 0) (by kernel_rfl) rfl
instance : ZrV Try.prog 78 (.slice none 0 0) := ZrV.of (by kernel_rfl)
instance : SliceT Try.prog 78 85 := ⟨by kernel_rfl⟩
instance : Sc Try.prog 79 := Sc.of (by kernel_rfl)
instance : Sz Try.prog 79 1 := Sz.of (by kernel_rfl)
instance : Zr Try.prog 79 ([.pointer none]) := Zr.of (v := .pointer none) (by kernel_rfl) rfl
instance : ZrV Try.prog 79 (.pointer none) := ZrV.of (by kernel_rfl)
instance : PtrT Try.prog 79 126 := ⟨by kernel_rfl⟩
instance : Sc Try.prog 83 := Sc.of (by kernel_rfl)
instance : Sz Try.prog 83 1 := Sz.of (by kernel_rfl)
instance : Zr Try.prog 83 ([.int .u32 0]) := Zr.of (v := .int .u32 0) (by kernel_rfl) rfl
instance : ZrV Try.prog 83 (.int .u32 0) := ZrV.of (by kernel_rfl)
instance : IntT Try.prog 83 .u32 := ⟨by kernel_rfl⟩
instance : Ag Try.prog 85 9 := Ag.of (by kernel_rfl)
instance : Sz Try.prog 85 9 := Sz.of (by kernel_rfl)
instance : Zr Try.prog 85 ([.int .i64 0, .int .u64 0, .int .u64 0, .int .u32 0, .int .i64 0, .int .i64 0, .int .i64 0, .int .u64 0, .int .u64 0]) := Zr.of (v := .agg ⟨[.int .i64 0, .int .u64 0, .int .u64 0, .int .u32 0, .int .i64 0, .int .i64 0, .int .i64 0, .int .u64 0, .int .u64 0]⟩) (by kernel_rfl) rfl
instance : ZrV Try.prog 85 (.agg ⟨[.int .i64 0, .int .u64 0, .int .u64 0, .int .u32 0, .int .i64 0, .int .i64 0, .int .i64 0, .int .u64 0, .int .u64 0]⟩) := ZrV.of (by kernel_rfl)
instance : EqT Try.prog 85 ([.i .i64, .i .u64, .i .u64, .i .u32, .i .i64, .i .i64, .i .i64, .i .u64, .i .u64]) := ⟨by kernel_rfl, by kernel_rfl, by kernel_rfl⟩
instance : StT Try.prog 85 [(0, 1), (1, 1), (2, 1), (3, 1), (4, 1), (5, 1), (6, 1), (7, 1), (8, 1)] ([.int .i64 0, .int .u64 0, .int .u64 0, .int .u32 0, .int .i64 0, .int .i64 0, .int .i64 0, .int .u64 0, .int .u64 0]) := StT.of (by kernel_rfl) (by kernel_rfl)
instance : El Try.prog 85 9 72 ([.int .i64 0, .int .u64 0, .int .u64 0, .int .u32 0, .int .i64 0, .int .i64 0, .int .i64 0, .int .u64 0, .int .u64 0]) := El.of (v := .agg ⟨[.int .i64 0, .int .u64 0, .int .u64 0, .int .u32 0, .int .i64 0, .int .i64 0, .int .i64 0, .int .u64 0, .int .u64 0]⟩) (by kernel_rfl) (by kernel_rfl) rfl rfl
instance : Ag Try.prog 88 13 := Ag.of (by kernel_rfl)
instance : Sz Try.prog 88 13 := Sz.of (by kernel_rfl)
instance : Zr Try.prog 88 ([.int .u64 0, .int .i64 0, .int .u64 0, .int .u64 0, .int .u64 0, .int .u32 0, .int .i64 0, .int .i64 0, .int .i64 0, .int .u64 0, .int .u64 0, .int .i64 0, .int .i64 0]) := Zr.of (v := .agg ⟨[.int .u64 0, .int .i64 0, .int .u64 0, .int .u64 0, .int .u64 0, .int .u32 0, .int .i64 0, .int .i64 0, .int .i64 0, .int .u64 0, .int .u64 0, .int .i64 0, .int .i64 0]⟩) (by kernel_rfl) rfl
instance : ZrV Try.prog 88 (.agg ⟨[.int .u64 0, .int .i64 0, .int .u64 0, .int .u64 0, .int .u64 0, .int .u32 0, .int .i64 0, .int .i64 0, .int .i64 0, .int .u64 0, .int .u64 0, .int .i64 0, .int .i64 0]⟩) := ZrV.of (by kernel_rfl)
instance : EqT Try.prog 88 ([.i .u64, .i .i64, .i .u64, .i .u64, .i .u64, .i .u32, .i .i64, .i .i64, .i .i64, .i .u64, .i .u64, .i .i64, .i .i64]) := ⟨by kernel_rfl, by kernel_rfl, by kernel_rfl⟩
instance : StT Try.prog 88 [(0, 1), (1, 1), (2, 1), (3, 1), (4, 1), (5, 1), (6, 1), (7, 1), (8, 1), (9, 1), (10, 1), (11, 1), (12, 1)] ([.int .u64 0, .int .i64 0, .int .u64 0, .int .u64 0, .int .u64 0, .int .u32 0, .int .i64 0, .int .i64 0, .int .i64 0, .int .u64 0, .int .u64 0, .int .i64 0, .int .i64 0]) := StT.of (by kernel_rfl) (by kernel_rfl)
instance : El Try.prog 88 13 104 ([.int .u64 0, .int .i64 0, .int .u64 0, .int .u64 0, .int .u64 0, .int .u32 0, .int .i64 0, .int .i64 0, .int .i64 0, .int .u64 0, .int .u64 0, .int .i64 0, .int .i64 0]) := El.of (v := .agg ⟨[.int .u64 0, .int .i64 0, .int .u64 0, .int .u64 0, .int .u64 0, .int .u32 0, .int .i64 0, .int .i64 0, .int .i64 0, .int .u64 0, .int .u64 0, .int .i64 0, .int .i64 0]⟩) (by kernel_rfl) (by kernel_rfl) rfl rfl
instance : Sc Try.prog 90 := Sc.of (by kernel_rfl)
instance : Sz Try.prog 90 1 := Sz.of (by kernel_rfl)
instance : Zr Try.prog 90 ([.pointer none]) := Zr.of (v := .pointer none) (by kernel_rfl) rfl
instance : ZrV Try.prog 90 (.pointer none) := ZrV.of (by kernel_rfl)
instance : PtrT Try.prog 90 95 := ⟨by kernel_rfl⟩
instance : Sc Try.prog 93 := Sc.of (by kernel_rfl)
instance : Sz Try.prog 93 1 := Sz.of (by kernel_rfl)
instance : Zr Try.prog 93 ([.slice none 0 0]) := Zr.of (v := .slice none 0 0) (by kernel_rfl) rfl
instance : ZrV Try.prog 93 (.slice none 0 0) := ZrV.of (by kernel_rfl)
instance : SliceT Try.prog 93 40 := ⟨by kernel_rfl⟩
instance : Ag Try.prog 95 4 := Ag.of (by kernel_rfl)
instance : Sz Try.prog 95 4 := Sz.of (by kernel_rfl)
instance : Zr Try.prog 95 ([.pointer none, .pointer none, .slice none 0 0, .slice none 0 0]) := Zr.of (v := .agg ⟨[.pointer none, .pointer none, .slice none 0 0, .slice none 0 0]⟩) (by kernel_rfl) rfl
instance : ZrV Try.prog 95 (.agg ⟨[.pointer none, .pointer none, .slice none 0 0, .slice none 0 0]⟩) := ZrV.of (by kernel_rfl)
instance : StT Try.prog 95 [(0, 1), (1, 1), (2, 1), (3, 1)] ([.pointer none, .pointer none, .slice none 0 0, .slice none 0 0]) := StT.of (by kernel_rfl) (by kernel_rfl)
instance : Sc Try.prog 100 := Sc.of (by kernel_rfl)
instance : Sz Try.prog 100 1 := Sz.of (by kernel_rfl)
instance : Zr Try.prog 100 ([.slice none 0 0]) := Zr.of (v := .slice none 0 0) (by kernel_rfl) rfl
instance : ZrV Try.prog 100 (.slice none 0 0) := ZrV.of (by kernel_rfl)
instance : SliceT Try.prog 100 3 := ⟨by kernel_rfl⟩
instance : Ag Try.prog 105 4 := Ag.of (by kernel_rfl)
instance : Sz Try.prog 105 4 := Sz.of (by kernel_rfl)
instance : Zr Try.prog 105 ([.int .i64 0, .int .u64 0, .slice none 0 0, .slice none 0 0]) := Zr.of (v := .agg ⟨[.int .i64 0, .int .u64 0, .slice none 0 0, .slice none 0 0]⟩) (by kernel_rfl) rfl
instance : ZrV Try.prog 105 (.agg ⟨[.int .i64 0, .int .u64 0, .slice none 0 0, .slice none 0 0]⟩) := ZrV.of (by kernel_rfl)
instance : StT Try.prog 105 [(0, 1), (1, 3)] ([.int .i64 0, .int .u64 0, .slice none 0 0, .slice none 0 0]) := StT.of (by kernel_rfl) (by kernel_rfl)
instance : Ag Try.prog 109 3 := Ag.of (by kernel_rfl)
instance : Sz Try.prog 109 3 := Sz.of (by kernel_rfl)
instance : Zr Try.prog 109 ([.int .i64 0, .int .u64 0, .int .i64 0]) := Zr.of (v := .agg ⟨[.int .i64 0, .int .u64 0, .int .i64 0]⟩) (by kernel_rfl) rfl
instance : ZrV Try.prog 109 (.agg ⟨[.int .i64 0, .int .u64 0, .int .i64 0]⟩) := ZrV.of (by kernel_rfl)
instance : EqT Try.prog 109 ([.i .i64, .i .u64, .i .i64]) := ⟨by kernel_rfl, by kernel_rfl, by kernel_rfl⟩
instance : StT Try.prog 109 [(0, 1), (1, 1), (2, 1)] ([.int .i64 0, .int .u64 0, .int .i64 0]) := StT.of (by kernel_rfl) (by kernel_rfl)
instance : El Try.prog 109 3 24 ([.int .i64 0, .int .u64 0, .int .i64 0]) := El.of (v := .agg ⟨[.int .i64 0, .int .u64 0, .int .i64 0]⟩) (by kernel_rfl) (by kernel_rfl) rfl rfl
instance : Sc Try.prog 112 := Sc.of (by kernel_rfl)
instance : Sz Try.prog 112 1 := Sz.of (by kernel_rfl)
instance : Zr Try.prog 112 ([.map none]) := Zr.of (v := .map none) (by kernel_rfl) rfl
instance : ZrV Try.prog 112 (.map none) := ZrV.of (by kernel_rfl)
instance : MapT Try.prog 112 22 24 := ⟨by kernel_rfl⟩
instance : Ag Try.prog 114 13 := Ag.of (by kernel_rfl)
instance : Sz Try.prog 114 13 := Sz.of (by kernel_rfl)
instance : Zr Try.prog 114 ([.int .i64 0, .int .u64 0, .slice none 0 0, .slice none 0 0, .map none, .int .u64 0, .int .u64 0, .int .i64 0, .int .i64 0, .int .i64 0, .int .u64 0, .int .i64 0, .bool false]) := Zr.of (v := .agg ⟨[.int .i64 0, .int .u64 0, .slice none 0 0, .slice none 0 0, .map none, .int .u64 0, .int .u64 0, .int .i64 0, .int .i64 0, .int .i64 0, .int .u64 0, .int .i64 0, .bool false]⟩) (by kernel_rfl) rfl
instance : ZrV Try.prog 114 (.agg ⟨[.int .i64 0, .int .u64 0, .slice none 0 0, .slice none 0 0, .map none, .int .u64 0, .int .u64 0, .int .i64 0, .int .i64 0, .int .i64 0, .int .u64 0, .int .i64 0, .bool false]⟩) := ZrV.of (by kernel_rfl)
instance : StT Try.prog 114 [(0, 1), (1, 3), (4, 1), (5, 1), (6, 6), (12, 1)] ([.int .i64 0, .int .u64 0, .slice none 0 0, .slice none 0 0, .map none, .int .u64 0, .int .u64 0, .int .i64 0, .int .i64 0, .int .i64 0, .int .u64 0, .int .i64 0, .bool false]) := StT.of (by kernel_rfl) (by kernel_rfl)
instance : Sc Try.prog 122 := Sc.of (by kernel_rfl)
instance : Sz Try.prog 122 1 := Sz.of (by kernel_rfl)
instance : Zr Try.prog 122 ([.slice none 0 0]) := Zr.of (v := .slice none 0 0) (by kernel_rfl) rfl
instance : ZrV Try.prog 122 (.slice none 0 0) := ZrV.of (by kernel_rfl)
instance : SliceT Try.prog 122 134 := ⟨by kernel_rfl⟩
instance : Ag Try.prog 124 6 := Ag.of (by kernel_rfl)
instance : Sz Try.prog 124 6 := Sz.of (by kernel_rfl)
instance : Zr Try.prog 124 ([.int .i64 0, .int .i64 0, .slice none 0 0, .slice none 0 0, .int .u64 0, .int .u64 0]) := Zr.of (v := .agg ⟨[.int .i64 0, .int .i64 0, .slice none 0 0, .slice none 0 0, .int .u64 0, .int .u64 0]⟩) (by kernel_rfl) rfl
instance : ZrV Try.prog 124 (.agg ⟨[.int .i64 0, .int .i64 0, .slice none 0 0, .slice none 0 0, .int .u64 0, .int .u64 0]⟩) := ZrV.of (by kernel_rfl)
instance : StT Try.prog 124 [(0, 2), (2, 1), (3, 1), (4, 1), (5, 1)] ([.int .i64 0, .int .i64 0, .slice none 0 0, .slice none 0 0, .int .u64 0, .int .u64 0]) := StT.of (by kernel_rfl) (by kernel_rfl)
instance : Ag Try.prog 126 6 := Ag.of (by kernel_rfl)
instance : Sz Try.prog 126 6 := Sz.of (by kernel_rfl)
instance : Zr Try.prog 126 ([.int .i64 0, .int .i64 0, .slice none 0 0, .slice none 0 0, .int .u64 0, .int .u64 0]) := Zr.of (v := .agg ⟨[.int .i64 0, .int .i64 0, .slice none 0 0, .slice none 0 0, .int .u64 0, .int .u64 0]⟩) (by kernel_rfl) rfl
instance : ZrV Try.prog 126 (.agg ⟨[.int .i64 0, .int .i64 0, .slice none 0 0, .slice none 0 0, .int .u64 0, .int .u64 0]⟩) := ZrV.of (by kernel_rfl)
instance : StT Try.prog 126 [(0, 6)] ([.int .i64 0, .int .i64 0, .slice none 0 0, .slice none 0 0, .int .u64 0, .int .u64 0]) := StT.of (by kernel_rfl) (by kernel_rfl)
instance : Sc Try.prog 127 := Sc.of (by kernel_rfl)
instance : Sz Try.prog 127 1 := Sz.of (by kernel_rfl)
instance : Zr Try.prog 127 ([.pointer none]) := Zr.of (v := .pointer none) (by kernel_rfl) rfl
instance : ZrV Try.prog 127 (.pointer none) := ZrV.of (by kernel_rfl)
instance : PtrT Try.prog 127 129 := ⟨by kernel_rfl⟩
instance : Ag Try.prog 129 2 := Ag.of (by kernel_rfl)
instance : Sz Try.prog 129 2 := Sz.of (by kernel_rfl)
instance : Zr Try.prog 129 ([.pointer none, .slice none 0 0]) := Zr.of (v := .agg ⟨[.pointer none, .slice none 0 0]⟩) (by kernel_rfl) rfl
instance : ZrV Try.prog 129 (.agg ⟨[.pointer none, .slice none 0 0]⟩) := ZrV.of (by kernel_rfl)
instance : StT Try.prog 129 [(0, 1), (1, 1)] ([.pointer none, .slice none 0 0]) := StT.of (by kernel_rfl) (by kernel_rfl)
instance : Sc Try.prog 130 := Sc.of (by kernel_rfl)
instance : Sz Try.prog 130 1 := Sz.of (by kernel_rfl)
instance : Zr Try.prog 130 ([.pointer none]) := Zr.of (v := .pointer none) (by kernel_rfl) rfl
instance : ZrV Try.prog 130 (.pointer none) := ZrV.of (by kernel_rfl)
instance : PtrT Try.prog 130 134 := ⟨by kernel_rfl⟩
instance : Ag Try.prog 134 7 := Ag.of (by kernel_rfl)
instance : Sz Try.prog 134 7 := Sz.of (by kernel_rfl)
instance : Zr Try.prog 134 ([.int .u64 0, .int .u32 0, .int .i64 0, .int .i64 0, .int .u64 0, .int .u64 0, .int .u64 0]) := Zr.of (v := .agg ⟨[.int .u64 0, .int .u32 0, .int .i64 0, .int .i64 0, .int .u64 0, .int .u64 0, .int .u64 0]⟩) (by kernel_rfl) rfl
instance : ZrV Try.prog 134 (.agg ⟨[.int .u64 0, .int .u32 0, .int .i64 0, .int .i64 0, .int .u64 0, .int .u64 0, .int .u64 0]⟩) := ZrV.of (by kernel_rfl)
instance : EqT Try.prog 134 ([.i .u64, .i .u32, .i .i64, .i .i64, .i .u64, .i .u64, .i .u64]) := ⟨by kernel_rfl, by kernel_rfl, by kernel_rfl⟩
instance : StT Try.prog 134 [(0, 1), (1, 1), (2, 1), (3, 1), (4, 1), (5, 1), (6, 1)] ([.int .u64 0, .int .u32 0, .int .i64 0, .int .i64 0, .int .u64 0, .int .u64 0, .int .u64 0]) := StT.of (by kernel_rfl) (by kernel_rfl)
instance : El Try.prog 134 7 56 ([.int .u64 0, .int .u32 0, .int .i64 0, .int .i64 0, .int .u64 0, .int .u64 0, .int .u64 0]) := El.of (v := .agg ⟨[.int .u64 0, .int .u32 0, .int .i64 0, .int .i64 0, .int .u64 0, .int .u64 0, .int .u64 0]⟩) (by kernel_rfl) (by kernel_rfl) rfl rfl
instance : Sc Try.prog 135 := Sc.of (by kernel_rfl)
instance : Sz Try.prog 135 1 := Sz.of (by kernel_rfl)
instance : Zr Try.prog 135 ([.pointer none]) := Zr.of (v := .pointer none) (by kernel_rfl) rfl
instance : ZrV Try.prog 135 (.pointer none) := ZrV.of (by kernel_rfl)
instance : PtrT Try.prog 135 122 := ⟨by kernel_rfl⟩
instance : Ag Try.prog 141 10 := Ag.of (by kernel_rfl)
instance : Sz Try.prog 141 10 := Sz.of (by kernel_rfl)
instance : Zr Try.prog 141 ([.int .u64 0, .int .u32 0, .int .i64 0, .int .i64 0, .int .u64 0, .int .u64 0, .int .u64 0, .int .i64 0, .int .i64 0, .int .u64 0]) := Zr.of (v := .agg ⟨[.int .u64 0, .int .u32 0, .int .i64 0, .int .i64 0, .int .u64 0, .int .u64 0, .int .u64 0, .int .i64 0, .int .i64 0, .int .u64 0]⟩) (by kernel_rfl) rfl
instance : ZrV Try.prog 141 (.agg ⟨[.int .u64 0, .int .u32 0, .int .i64 0, .int .i64 0, .int .u64 0, .int .u64 0, .int .u64 0, .int .i64 0, .int .i64 0, .int .u64 0]⟩) := ZrV.of (by kernel_rfl)
instance : EqT Try.prog 141 ([.i .u64, .i .u32, .i .i64, .i .i64, .i .u64, .i .u64, .i .u64, .i .i64, .i .i64, .i .u64]) := ⟨by kernel_rfl, by kernel_rfl, by kernel_rfl⟩
instance : StT Try.prog 141 [(0, 7), (7, 1), (8, 1), (9, 1)] ([.int .u64 0, .int .u32 0, .int .i64 0, .int .i64 0, .int .u64 0, .int .u64 0, .int .u64 0, .int .i64 0, .int .i64 0, .int .u64 0]) := StT.of (by kernel_rfl) (by kernel_rfl)
instance : Sc Try.prog 155 := Sc.of (by kernel_rfl)
instance : Sz Try.prog 155 1 := Sz.of (by kernel_rfl)
instance : Zr Try.prog 155 ([.nilFunc]) := Zr.of (v := .nilFunc) (by kernel_rfl) rfl
instance : ZrV Try.prog 155 (.nilFunc) := ZrV.of (by kernel_rfl)
instance : Sc Try.prog 160 := Sc.of (by kernel_rfl)
instance : Sz Try.prog 160 1 := Sz.of (by kernel_rfl)
instance : Zr Try.prog 160 ([.pointer none]) := Zr.of (v := .pointer none) (by kernel_rfl) rfl
instance : ZrV Try.prog 160 (.pointer none) := ZrV.of (by kernel_rfl)
instance : PtrT Try.prog 160 141 := ⟨by kernel_rfl⟩
instance : Sc Try.prog 168 := Sc.of (by kernel_rfl)
instance : Sz Try.prog 168 1 := Sz.of (by kernel_rfl)
instance : Zr Try.prog 168 ([.nilFunc]) := Zr.of (v := .nilFunc) (by kernel_rfl) rfl
instance : ZrV Try.prog 168 (.nilFunc) := ZrV.of (by kernel_rfl)
instance : FldV Try.prog 24 0 0 22 := FldV.of (by kernel_rfl)
instance : FldT Try.prog 24 0 0 := FldT.of (by kernel_rfl)
instance : FldV Try.prog 24 1 1 3 := FldV.of (by kernel_rfl)
instance : FldT Try.prog 24 1 1 := FldT.of (by kernel_rfl)
instance : FldV Try.prog 24 2 2 3 := FldV.of (by kernel_rfl)
instance : FldT Try.prog 24 2 2 := FldT.of (by kernel_rfl)
instance : FldV Try.prog 24 3 3 3 := FldV.of (by kernel_rfl)
instance : FldT Try.prog 24 3 3 := FldT.of (by kernel_rfl)
instance : FldV Try.prog 24 4 4 22 := FldV.of (by kernel_rfl)
instance : FldT Try.prog 24 4 4 := FldT.of (by kernel_rfl)
instance : FldV Try.prog 24 5 5 3 := FldV.of (by kernel_rfl)
instance : FldT Try.prog 24 5 5 := FldT.of (by kernel_rfl)
instance : FldV Try.prog 27 0 0 5 := FldV.of (by kernel_rfl)
instance : FldT Try.prog 27 0 0 := FldT.of (by kernel_rfl)
instance : FldV Try.prog 27 1 1 25 := FldV.of (by kernel_rfl)
instance : FldT Try.prog 27 1 1 := FldT.of (by kernel_rfl)
instance : FldV Try.prog 40 0 0 22 := FldV.of (by kernel_rfl)
instance : FldT Try.prog 40 0 0 := FldT.of (by kernel_rfl)
instance : FldV Try.prog 40 1 1 38 := FldV.of (by kernel_rfl)
instance : FldT Try.prog 40 1 1 := FldT.of (by kernel_rfl)
instance : FldV Try.prog 40 2 2 38 := FldV.of (by kernel_rfl)
instance : FldT Try.prog 40 2 2 := FldT.of (by kernel_rfl)
instance : FldV Try.prog 42 0 0 3 := FldV.of (by kernel_rfl)
instance : FldT Try.prog 42 0 0 := FldT.of (by kernel_rfl)
instance : FldV Try.prog 42 1 1 40 := FldV.of (by kernel_rfl)
instance : FldT Try.prog 42 1 1 := FldT.of (by kernel_rfl)
instance : FldV Try.prog 48 0 0 38 := FldV.of (by kernel_rfl)
instance : FldT Try.prog 48 0 0 := FldT.of (by kernel_rfl)
instance : FldV Try.prog 48 1 1 38 := FldV.of (by kernel_rfl)
instance : FldT Try.prog 48 1 1 := FldT.of (by kernel_rfl)
instance : FldV Try.prog 48 2 2 46 := FldV.of (by kernel_rfl)
instance : FldT Try.prog 48 2 2 := FldT.of (by kernel_rfl)
instance : FldV Try.prog 65 0 0 3 := FldV.of (by kernel_rfl)
instance : FldT Try.prog 65 0 0 := FldT.of (by kernel_rfl)
instance : FldV Try.prog 65 1 1 40 := FldV.of (by kernel_rfl)
instance : FldT Try.prog 65 1 1 := FldT.of (by kernel_rfl)
instance : FldV Try.prog 65 2 4 49 := FldV.of (by kernel_rfl)
instance : FldT Try.prog 65 2 4 := FldT.of (by kernel_rfl)
instance : FldV Try.prog 65 3 5 22 := FldV.of (by kernel_rfl)
instance : FldT Try.prog 65 3 5 := FldT.of (by kernel_rfl)
instance : FldV Try.prog 65 4 6 24 := FldV.of (by kernel_rfl)
instance : FldT Try.prog 65 4 6 := FldT.of (by kernel_rfl)
instance : FldV Try.prog 70 0 0 61 := FldV.of (by kernel_rfl)
instance : FldT Try.prog 70 0 0 := FldT.of (by kernel_rfl)
instance : FldV Try.prog 70 1 1 65 := FldV.of (by kernel_rfl)
instance : FldT Try.prog 70 1 1 := FldT.of (by kernel_rfl)
instance : FldV Try.prog 72 0 0 3 := FldV.of (by kernel_rfl)
instance : FldT Try.prog 72 0 0 := FldT.of (by kernel_rfl)
instance : FldV Try.prog 72 1 1 4 := FldV.of (by kernel_rfl)
instance : FldT Try.prog 72 1 1 := FldT.of (by kernel_rfl)
instance : FldV Try.prog 72 2 2 24 := FldV.of (by kernel_rfl)
instance : FldT Try.prog 72 2 2 := FldT.of (by kernel_rfl)
instance : FldV Try.prog 72 3 8 40 := FldV.of (by kernel_rfl)
instance : FldT Try.prog 72 3 8 := FldT.of (by kernel_rfl)
instance : FldV Try.prog 77 0 0 3 := FldV.of (by kernel_rfl)
instance : FldT Try.prog 77 0 0 := FldT.of (by kernel_rfl)
instance : FldV Try.prog 77 1 1 3 := FldV.of (by kernel_rfl)
instance : FldT Try.prog 77 1 1 := FldT.of (by kernel_rfl)
instance : FldV Try.prog 85 0 0 3 := FldV.of (by kernel_rfl)
instance : FldT Try.prog 85 0 0 := FldT.of (by kernel_rfl)
instance : FldV Try.prog 85 1 1 22 := FldV.of (by kernel_rfl)
instance : FldT Try.prog 85 1 1 := FldT.of (by kernel_rfl)
instance : FldV Try.prog 85 2 2 22 := FldV.of (by kernel_rfl)
instance : FldT Try.prog 85 2 2 := FldT.of (by kernel_rfl)
instance : FldV Try.prog 85 3 3 83 := FldV.of (by kernel_rfl)
instance : FldT Try.prog 85 3 3 := FldT.of (by kernel_rfl)
instance : FldV Try.prog 85 4 4 3 := FldV.of (by kernel_rfl)
instance : FldT Try.prog 85 4 4 := FldT.of (by kernel_rfl)
instance : FldV Try.prog 85 5 5 3 := FldV.of (by kernel_rfl)
instance : FldT Try.prog 85 5 5 := FldT.of (by kernel_rfl)
instance : FldV Try.prog 85 6 6 3 := FldV.of (by kernel_rfl)
instance : FldT Try.prog 85 6 6 := FldT.of (by kernel_rfl)
instance : FldV Try.prog 85 7 7 22 := FldV.of (by kernel_rfl)
instance : FldT Try.prog 85 7 7 := FldT.of (by kernel_rfl)
instance : FldV Try.prog 85 8 8 22 := FldV.of (by kernel_rfl)
instance : FldT Try.prog 85 8 8 := FldT.of (by kernel_rfl)
instance : FldV Try.prog 88 0 0 22 := FldV.of (by kernel_rfl)
instance : FldT Try.prog 88 0 0 := FldT.of (by kernel_rfl)
instance : FldV Try.prog 88 1 1 3 := FldV.of (by kernel_rfl)
instance : FldT Try.prog 88 1 1 := FldT.of (by kernel_rfl)
instance : FldV Try.prog 88 2 2 22 := FldV.of (by kernel_rfl)
instance : FldT Try.prog 88 2 2 := FldT.of (by kernel_rfl)
instance : FldV Try.prog 88 4 4 22 := FldV.of (by kernel_rfl)
instance : FldT Try.prog 88 4 4 := FldT.of (by kernel_rfl)
instance : FldV Try.prog 88 6 6 3 := FldV.of (by kernel_rfl)
instance : FldT Try.prog 88 6 6 := FldT.of (by kernel_rfl)
instance : FldV Try.prog 88 8 8 3 := FldV.of (by kernel_rfl)
instance : FldT Try.prog 88 8 8 := FldT.of (by kernel_rfl)
instance : FldV Try.prog 88 9 9 22 := FldV.of (by kernel_rfl)
instance : FldT Try.prog 88 9 9 := FldT.of (by kernel_rfl)
instance : FldV Try.prog 95 2 2 49 := FldV.of (by kernel_rfl)
instance : FldT Try.prog 95 2 2 := FldT.of (by kernel_rfl)
instance : FldV Try.prog 95 3 3 93 := FldV.of (by kernel_rfl)
instance : FldT Try.prog 95 3 3 := FldT.of (by kernel_rfl)
instance : FldV Try.prog 105 0 0 3 := FldV.of (by kernel_rfl)
instance : FldT Try.prog 105 0 0 := FldT.of (by kernel_rfl)
instance : FldV Try.prog 105 1 1 40 := FldV.of (by kernel_rfl)
instance : FldT Try.prog 105 1 1 := FldT.of (by kernel_rfl)
instance : FldV Try.prog 109 0 0 3 := FldV.of (by kernel_rfl)
instance : FldT Try.prog 109 0 0 := FldT.of (by kernel_rfl)
instance : FldV Try.prog 109 1 1 22 := FldV.of (by kernel_rfl)
instance : FldT Try.prog 109 1 1 := FldT.of (by kernel_rfl)
instance : FldV Try.prog 109 2 2 3 := FldV.of (by kernel_rfl)
instance : FldT Try.prog 109 2 2 := FldT.of (by kernel_rfl)
instance : FldV Try.prog 114 0 0 3 := FldV.of (by kernel_rfl)
instance : FldT Try.prog 114 0 0 := FldT.of (by kernel_rfl)
instance : FldV Try.prog 114 1 1 40 := FldV.of (by kernel_rfl)
instance : FldT Try.prog 114 1 1 := FldT.of (by kernel_rfl)
instance : FldV Try.prog 114 2 4 112 := FldV.of (by kernel_rfl)
instance : FldT Try.prog 114 2 4 := FldT.of (by kernel_rfl)
instance : FldV Try.prog 114 3 5 22 := FldV.of (by kernel_rfl)
instance : FldT Try.prog 114 3 5 := FldT.of (by kernel_rfl)
instance : FldV Try.prog 114 4 6 24 := FldV.of (by kernel_rfl)
instance : FldT Try.prog 114 4 6 := FldT.of (by kernel_rfl)
instance : FldV Try.prog 114 5 12 4 := FldV.of (by kernel_rfl)
instance : FldT Try.prog 114 5 12 := FldT.of (by kernel_rfl)
instance : FldV Try.prog 124 0 0 77 := FldV.of (by kernel_rfl)
instance : FldT Try.prog 124 0 0 := FldT.of (by kernel_rfl)
instance : FldV Try.prog 124 1 2 122 := FldV.of (by kernel_rfl)
instance : FldT Try.prog 124 1 2 := FldT.of (by kernel_rfl)
instance : FldV Try.prog 124 2 3 122 := FldV.of (by kernel_rfl)
instance : FldT Try.prog 124 2 3 := FldT.of (by kernel_rfl)
instance : FldV Try.prog 124 3 4 22 := FldV.of (by kernel_rfl)
instance : FldT Try.prog 124 3 4 := FldT.of (by kernel_rfl)
instance : FldV Try.prog 124 4 5 22 := FldV.of (by kernel_rfl)
instance : FldT Try.prog 124 4 5 := FldT.of (by kernel_rfl)
instance : FldV Try.prog 126 0 0 124 := FldV.of (by kernel_rfl)
instance : FldT Try.prog 126 0 0 := FldT.of (by kernel_rfl)
instance : FldV Try.prog 129 0 0 79 := FldV.of (by kernel_rfl)
instance : FldT Try.prog 129 0 0 := FldT.of (by kernel_rfl)
instance : FldV Try.prog 129 1 1 46 := FldV.of (by kernel_rfl)
instance : FldT Try.prog 129 1 1 := FldT.of (by kernel_rfl)
instance : FldV Try.prog 134 0 0 22 := FldV.of (by kernel_rfl)
instance : FldT Try.prog 134 0 0 := FldT.of (by kernel_rfl)
instance : FldV Try.prog 134 1 1 83 := FldV.of (by kernel_rfl)
instance : FldT Try.prog 134 1 1 := FldT.of (by kernel_rfl)
instance : FldV Try.prog 134 2 2 3 := FldV.of (by kernel_rfl)
instance : FldT Try.prog 134 2 2 := FldT.of (by kernel_rfl)
instance : FldV Try.prog 134 3 3 3 := FldV.of (by kernel_rfl)
instance : FldT Try.prog 134 3 3 := FldT.of (by kernel_rfl)
instance : FldV Try.prog 134 4 4 22 := FldV.of (by kernel_rfl)
instance : FldT Try.prog 134 4 4 := FldT.of (by kernel_rfl)
instance : FldV Try.prog 134 5 5 22 := FldV.of (by kernel_rfl)
instance : FldT Try.prog 134 5 5 := FldT.of (by kernel_rfl)
instance : FldV Try.prog 134 6 6 22 := FldV.of (by kernel_rfl)
instance : FldT Try.prog 134 6 6 := FldT.of (by kernel_rfl)
instance : FldV Try.prog 141 0 0 134 := FldV.of (by kernel_rfl)
instance : FldT Try.prog 141 0 0 := FldT.of (by kernel_rfl)
instance : FldV Try.prog 141 1 7 3 := FldV.of (by kernel_rfl)
instance : FldT Try.prog 141 1 7 := FldT.of (by kernel_rfl)
instance : FldV Try.prog 141 2 8 3 := FldV.of (by kernel_rfl)
instance : FldT Try.prog 141 2 8 := FldT.of (by kernel_rfl)
instance : FldV Try.prog 141 3 9 22 := FldV.of (by kernel_rfl)
instance : FldT Try.prog 141 3 9 := FldT.of (by kernel_rfl)
instance : FnT Try.prog 11 := FnT.of (by kernel_rfl)
instance : FnT Try.prog 12 := FnT.of (by kernel_rfl)
instance : FnT Try.prog 13 := FnT.of (by kernel_rfl)
instance : FnT Try.prog 14 := FnT.of (by kernel_rfl)
instance : FnT Try.prog 15 := FnT.of (by kernel_rfl)
instance : FnT Try.prog 16 := FnT.of (by kernel_rfl)
instance : FnT Try.prog 17 := FnT.of (by kernel_rfl)
instance : FnT Try.prog 18 := FnT.of (by kernel_rfl)
instance : FnT Try.prog 19 := FnT.of (by kernel_rfl)
instance : FnT Try.prog 20 := FnT.of (by kernel_rfl)
instance : FnT Try.prog 21 := FnT.of (by kernel_rfl)
instance : FnT Try.prog 22 := FnT.of (by kernel_rfl)
instance : FnT Try.prog 23 := FnT.of (by kernel_rfl)
instance : FnT Try.prog 24 := FnT.of (by kernel_rfl)
instance : FnT Try.prog 25 := FnT.of (by kernel_rfl)
instance : FnT Try.prog 26 := FnT.of (by kernel_rfl)
instance : FnT Try.prog 27 := FnT.of (by kernel_rfl)
instance : FnT Try.prog 28 := FnT.of (by kernel_rfl)
instance : FnT Try.prog 29 := FnT.of (by kernel_rfl)
instance : FnT Try.prog 30 := FnT.of (by kernel_rfl)
instance : FnT Try.prog 31 := FnT.of (by kernel_rfl)
instance : FnT Try.prog 32 := FnT.of (by kernel_rfl)
instance : FnT Try.prog 33 := FnT.of (by kernel_rfl)
instance : FnT Try.prog 34 := FnT.of (by kernel_rfl)
instance : FnT Try.prog 35 := FnT.of (by kernel_rfl)
instance : FnT Try.prog 36 := FnT.of (by kernel_rfl)
instance : FnT Try.prog 37 := FnT.of (by kernel_rfl)
instance : FnT Try.prog 38 := FnT.of (by kernel_rfl)
instance : FnT Try.prog 39 := FnT.of (by kernel_rfl)
instance : FnT Try.prog 40 := FnT.of (by kernel_rfl)
instance : FnT Try.prog 41 := FnT.of (by kernel_rfl)
instance : FnT Try.prog 42 := FnT.of (by kernel_rfl)
instance : FnT Try.prog 43 := FnT.of (by kernel_rfl)
instance : FnT Try.prog 44 := FnT.of (by kernel_rfl)
instance : FnT Try.prog 45 := FnT.of (by kernel_rfl)
instance : FnT Try.prog 46 := FnT.of (by kernel_rfl)
instance : FnT Try.prog 47 := FnT.of (by kernel_rfl)
instance : FnT Try.prog 48 := FnT.of (by kernel_rfl)
instance : FnT Try.prog 49 := FnT.of (by kernel_rfl)
instance : FnT Try.prog 50 := FnT.of (by kernel_rfl)
instance : FnT Try.prog 51 := FnT.of (by kernel_rfl)
instance : FnT Try.prog 52 := FnT.of (by kernel_rfl)
instance : FnT Try.prog 53 := FnT.of (by kernel_rfl)
instance : FnT Try.prog 54 := FnT.of (by kernel_rfl)
instance : FnT Try.prog 55 := FnT.of (by kernel_rfl)
instance : FnT Try.prog 56 := FnT.of (by kernel_rfl)
instance : FnT Try.prog 57 := FnT.of (by kernel_rfl)
instance : FnT Try.prog 58 := FnT.of (by kernel_rfl)
instance : FnT Try.prog 59 := FnT.of (by kernel_rfl)
instance : FnT Try.prog 60 := FnT.of (by kernel_rfl)
instance : FnT Try.prog 61 := FnT.of (by kernel_rfl)
instance : FnT Try.prog 62 := FnT.of (by kernel_rfl)
instance : FnT Try.prog 63 := FnT.of (by kernel_rfl)
instance : FnT Try.prog 64 := FnT.of (by kernel_rfl)
instance : FnT Try.prog 65 := FnT.of (by kernel_rfl)
instance : FnT Try.prog 66 := FnT.of (by kernel_rfl)
instance : FnT Try.prog 67 := FnT.of (by kernel_rfl)
instance : FnT Try.prog 68 := FnT.of (by kernel_rfl)
instance : FnT Try.prog 69 := FnT.of (by kernel_rfl)
instance : FnT Try.prog 70 := FnT.of (by kernel_rfl)
instance : FnT Try.prog 71 := FnT.of (by kernel_rfl)
instance : FnT Try.prog 72 := FnT.of (by kernel_rfl)
instance : FnT Try.prog 73 := FnT.of (by kernel_rfl)
instance : FnT Try.prog 74 := FnT.of (by kernel_rfl)
instance : FnT Try.prog 75 := FnT.of (by kernel_rfl)
instance : FnT Try.prog 76 := FnT.of (by kernel_rfl)
instance : FnT Try.prog 77 := FnT.of (by kernel_rfl)
instance : FnT Try.prog 78 := FnT.of (by kernel_rfl)
instance : FnT Try.prog 79 := FnT.of (by kernel_rfl)
instance : FnT Try.prog 80 := FnT.of (by kernel_rfl)
instance : FnT Try.prog 81 := FnT.of (by kernel_rfl)
instance : FnT Try.prog 82 := FnT.of (by kernel_rfl)
instance : FnT Try.prog 83 := FnT.of (by kernel_rfl)
instance : FnT Try.prog 84 := FnT.of (by kernel_rfl)
instance : FnT Try.prog 85 := FnT.of (by kernel_rfl)
instance : FnT Try.prog 86 := FnT.of (by kernel_rfl)
instance : FnT Try.prog 87 := FnT.of (by kernel_rfl)
instance : FnT Try.prog 88 := FnT.of (by kernel_rfl)
instance : FnT Try.prog 89 := FnT.of (by kernel_rfl)
instance : FnT Try.prog 90 := FnT.of (by kernel_rfl)
instance : FnT Try.prog 91 := FnT.of (by kernel_rfl)
instance : FnT Try.prog 92 := FnT.of (by kernel_rfl)
instance : FnT Try.prog 93 := FnT.of (by kernel_rfl)
instance : FnT Try.prog 94 := FnT.of (by kernel_rfl)
instance : FnT Try.prog 95 := FnT.of (by kernel_rfl)
instance : FnT Try.prog 97 := FnT.of (by kernel_rfl)
instance : FnT Try.prog 99 := FnT.of (by kernel_rfl)
instance : FnT Try.prog 100 := FnT.of (by kernel_rfl)
instance : FnT Try.prog 101 := FnT.of (by kernel_rfl)
instance : FnT Try.prog 102 := FnT.of (by kernel_rfl)
instance : FnT Try.prog 103 := FnT.of (by kernel_rfl)
end Go.Proofs.Ytinmhhonpflojaa

/- feed.Pack, feed.Unpack, and the document's: what they compute; FeedPacks: the walk. -/
namespace Go.Proofs.Ytinmhhonpflojaa
open Go.V
set_option linter.unusedVariables false
set_option linter.unusedSimpArgs false

def dcells (s k d p q c : Int) : List Value := [.int .u64 s, .int .i64 k, .int .i64 d, .int .i64 p, .int .u64 q, .int .i64 c]
/-- can a message be? -/
def Can (s k d p q c : Int) : Prop := 1 ≤ s ∧ (d = 1 ∨ d = 2) ∧ (0 ≤ p ∧ p < 262144) ∧ (k = 1 ∧ (q = 0 ∧ c = 0 ∨ 1 ≤ q ∧ 1 ≤ c) ∨ k = 2 ∧ 1 ≤ q ∧ c = 0)
instance (s k d p q c : Int) : Decidable (Can s k d p q c) := by unfold Can; infer_instance
theorem isTick_ok (w : World) (p : Int) : Is Try.prog 66 [.int .i64 p] w (.bool (decide (0 ≤ p) && decide (p < 262144))) := by
  refine Does.pure (Does.of (n := 9) Try.func66 rfl rfl rfl rfl ?_)
  refine .seq ((.region (.v (.assign rfl) (.nil ?_))))
  refine .seq ((.region (.v (.move rfl) (.v (.geq rfl rfl) (.v (.move rfl) (.and 5 7 2 2 rfl rfl (fun g1 => .v (.move rfl) (.v (.lss rfl rfl) (.nil ⟨rfl, rfl, rfl, rfl⟩))) (.v (.assign rfl) (.nil ?_))))))))
  exact .ret ⟨[_], ⟨rfl, trivial⟩, rfl⟩
theorem tick_ok (w : World) (p : Int) : Is Try.prog 67 [.int .i64 p] w (.bool (decide (0 ≤ p) && decide (p < 262144))) := by
  refine Does.pure (Does.of (n := 9) Try.func67 rfl rfl rfl rfl ?_)
  refine .seq ((.region (.v (.assign rfl) (.nil ?_))))
  refine .seq ((.region (.v (.move rfl) (.v (.geq rfl rfl) (.v (.move rfl) (.and 5 7 2 2 rfl rfl (fun g1 => .v (.move rfl) (.v (.lss rfl rfl) (.nil ⟨rfl, rfl, rfl, rfl⟩))) (.v (.assign rfl) (.nil ?_))))))))
  exact .ret ⟨[_], ⟨rfl, trivial⟩, rfl⟩
theorem canBe_ok (w : World) (s k d p q c : Int) : Is Try.prog 39 [.agg ⟨dcells s k d p q c⟩] w (.bool (decide (Can s k d p q c))) := by
  refine Does.pure (Does.of (n := 54) Try.func39 rfl rfl rfl rfl ?_)
  refine .seq ((.region (.nw (.box rfl rfl) fun b1 => (.v (.assign rfl) (.nil ?_)))))
  refine .seq (.seq ((.region (.v (.fieldAddr rfl) (.v (.load rfl (.one rfl)) (.v (.lss rfl rfl) (.v (.move rfl) (.or 6 14 8 5 rfl rfl (fun g1 => .v (.fieldAddr rfl) (.v (.load rfl (.one rfl)) (.v (.nei rfl rfl) (.v (.move rfl) (.and 10 13 3 3 rfl rfl (fun g2 => .v (.fieldAddr rfl) (.v (.load rfl (.one rfl)) (.v (.nei rfl rfl) (.nil ⟨rfl, rfl, rfl, rfl⟩)))) (.nil ⟨rfl, rfl, rfl, rfl⟩)))))) (.v (.move rfl) (.or 16 20 4 4 rfl rfl (fun g3 => .v (.fieldAddr rfl) (.v (.load rfl (.one rfl)) (.pc rfl rfl (fun w s => isTick_ok w _) (.v (.not rfl) (.nil ⟨rfl, rfl, rfl, rfl⟩))))) (.nil ?_)))))))))))
  refine .cond rfl (fun h1 => ?_) (fun h1 => .skip ?_)
  · refine .seq ((.region (.v (.assign rfl) (.nil ?_))))
    refine .ret ⟨[_], ⟨rfl, trivial⟩, vb ?_⟩
    simp only [Bool.and_eq_true, Bool.or_eq_true, Bool.not_eq_true', Bool.and_eq_false_iff, Bool.or_eq_false_iff, Bool.not_eq_false', decide_eq_true_eq, decide_eq_false_iff_not, Bool.false_eq_true, false_iff] at h1 ⊢; unfold Can; omega
  · simp only [Bool.and_eq_true, Bool.or_eq_true, Bool.not_eq_true', Bool.and_eq_false_iff, Bool.or_eq_false_iff, Bool.not_eq_false', decide_eq_true_eq, decide_eq_false_iff_not, Bool.false_eq_true, false_iff] at h1
    refine .seq (.seq ((.region (.v (.fieldAddr rfl) (.v (.load rfl (.one rfl)) (.nil ?_))))))
    refine .block (.seq ((.region (.v (.eqi rfl rfl) (.v (.assign rfl) (.nil ?_))))))
    refine .cond_dec rfl (fun h2 => ?_) (fun h2 => ?_)
    · refine .seq ((.region (.v (.fieldAddr rfl) (.v (.load rfl (.one rfl)) (.v (.eqi rfl rfl) (.v (.move rfl) (.and 29 32 3 3 rfl rfl (fun g4 => .v (.fieldAddr rfl) (.v (.load rfl (.one rfl)) (.v (.eqi rfl rfl) (.nil ⟨rfl, rfl, rfl, rfl⟩)))) (.v (.move rfl) (.or 34 42 8 5 rfl rfl (fun g5 => .v (.fieldAddr rfl) (.v (.load rfl (.one rfl)) (.v (.geq rfl rfl) (.v (.move rfl) (.and 38 41 3 3 rfl rfl (fun g6 => .v (.fieldAddr rfl) (.v (.load rfl (.one rfl)) (.v (.geq rfl rfl) (.nil ⟨rfl, rfl, rfl, rfl⟩)))) (.nil ⟨rfl, rfl, rfl, rfl⟩)))))) (.v (.assign rfl) (.nil ?_)))))))))))
      refine .ret ⟨[_], ⟨rfl, trivial⟩, vb ?_⟩
      simp only [Bool.and_eq_true, Bool.or_eq_true, Bool.not_eq_true', Bool.and_eq_false_iff, Bool.or_eq_false_iff, Bool.not_eq_false', decide_eq_true_eq, decide_eq_false_iff_not, Bool.false_eq_true, false_iff]; unfold Can; omega
    · refine .seq ((.region (.v (.eqi rfl rfl) (.v (.assign rfl) (.nil ?_)))))
      refine .cond_dec rfl (fun h3 => ?_) (fun h3 => .skip ?_)
      · refine .seq ((.region (.v (.fieldAddr rfl) (.v (.load rfl (.one rfl)) (.v (.geq rfl rfl) (.v (.move rfl) (.and 49 52 3 3 rfl rfl (fun g7 => .v (.fieldAddr rfl) (.v (.load rfl (.one rfl)) (.v (.eqi rfl rfl) (.nil ⟨rfl, rfl, rfl, rfl⟩)))) (.v (.assign rfl) (.nil ?_)))))))))
        refine .ret ⟨[_], ⟨rfl, trivial⟩, vb ?_⟩
        simp only [Bool.and_eq_true, Bool.or_eq_true, Bool.not_eq_true', Bool.and_eq_false_iff, Bool.or_eq_false_iff, Bool.not_eq_false', decide_eq_true_eq, decide_eq_false_iff_not, Bool.false_eq_true, false_iff]; unfold Can; omega
      · refine .seq ((.region (.v (.assign rfl) (.nil ?_))))
        refine .ret ⟨[_], ⟨rfl, trivial⟩, vb ?_⟩
        simp only [Bool.and_eq_true, Bool.or_eq_true, Bool.not_eq_true', Bool.and_eq_false_iff, Bool.or_eq_false_iff, Bool.not_eq_false', decide_eq_true_eq, decide_eq_false_iff_not, Bool.false_eq_true, false_iff]; unfold Can; omega
theorem Message_ok (w : World) (s k d p q c : Int) : Is Try.prog 40 [.agg ⟨dcells s k d p q c⟩] w (.bool (decide (Can s k d p q c))) := by
  refine Does.pure (Does.of (n := 56) Try.func40 rfl rfl rfl rfl ?_)
  refine .seq ((.region (.nw (.box rfl rfl) fun b1 => (.v (.assign rfl) (.nil ?_)))))
  refine .seq (.seq ((.region (.v (.fieldAddr rfl) (.v (.load rfl (.one rfl)) (.v (.lss rfl rfl) (.v (.move rfl) (.or 6 14 8 5 rfl rfl (fun g1 => .v (.fieldAddr rfl) (.v (.load rfl (.one rfl)) (.v (.nei rfl rfl) (.v (.move rfl) (.and 10 13 3 3 rfl rfl (fun g2 => .v (.fieldAddr rfl) (.v (.load rfl (.one rfl)) (.v (.nei rfl rfl) (.nil ⟨rfl, rfl, rfl, rfl⟩)))) (.nil ⟨rfl, rfl, rfl, rfl⟩)))))) (.v (.move rfl) (.or 16 20 4 4 rfl rfl (fun g3 => .v (.fieldAddr rfl) (.v (.load rfl (.one rfl)) (.pc rfl rfl (fun w s => tick_ok w _) (.v (.not rfl) (.nil ⟨rfl, rfl, rfl, rfl⟩))))) (.nil ?_)))))))))))
  refine .cond rfl (fun h1 => ?_) (fun h1 => .skip ?_)
  · refine .seq ((.region (.v (.assign rfl) (.nil ?_))))
    refine .ret ⟨[_], ⟨rfl, trivial⟩, vb ?_⟩
    simp only [Bool.and_eq_true, Bool.or_eq_true, Bool.not_eq_true', Bool.and_eq_false_iff, Bool.or_eq_false_iff, Bool.not_eq_false', decide_eq_true_eq, decide_eq_false_iff_not, Bool.false_eq_true, false_iff] at h1 ⊢; unfold Can; omega
  · simp only [Bool.and_eq_true, Bool.or_eq_true, Bool.not_eq_true', Bool.and_eq_false_iff, Bool.or_eq_false_iff, Bool.not_eq_false', decide_eq_true_eq, decide_eq_false_iff_not, Bool.false_eq_true, false_iff] at h1
    refine .seq (.seq ((.region (.v (.fieldAddr rfl) (.v (.load rfl (.one rfl)) (.v (.eqi rfl rfl) (.nil ?_)))))))
    refine .cond_dec rfl (fun h2 => ?_) (fun h2 => .skip ?_)
    · refine .seq ((.region (.v (.fieldAddr rfl) (.v (.load rfl (.one rfl)) (.v (.geq rfl rfl) (.v (.move rfl) (.and 28 31 3 3 rfl rfl (fun g4 => .v (.fieldAddr rfl) (.v (.load rfl (.one rfl)) (.v (.eqi rfl rfl) (.nil ⟨rfl, rfl, rfl, rfl⟩)))) (.v (.assign rfl) (.nil ?_)))))))))
      refine .ret ⟨[_], ⟨rfl, trivial⟩, vb ?_⟩
      simp only [Bool.and_eq_true, Bool.or_eq_true, Bool.not_eq_true', Bool.and_eq_false_iff, Bool.or_eq_false_iff, Bool.not_eq_false', decide_eq_true_eq, decide_eq_false_iff_not, Bool.false_eq_true, false_iff]; unfold Can; omega
    · refine .seq ((.region (.v (.fieldAddr rfl) (.v (.load rfl (.one rfl)) (.v (.eqi rfl rfl) (.v (.move rfl) (.and 36 54 18 7 rfl rfl (fun g5 => .v (.fieldAddr rfl) (.v (.load rfl (.one rfl)) (.v (.geq rfl rfl) (.v (.move rfl) (.and 40 43 3 3 rfl rfl (fun g6 => .v (.fieldAddr rfl) (.v (.load rfl (.one rfl)) (.v (.geq rfl rfl) (.nil ⟨rfl, rfl, rfl, rfl⟩)))) (.v (.move rfl) (.or 45 53 8 5 rfl rfl (fun g7 => .v (.fieldAddr rfl) (.v (.load rfl (.one rfl)) (.v (.eqi rfl rfl) (.v (.move rfl) (.and 49 52 3 3 rfl rfl (fun g8 => .v (.fieldAddr rfl) (.v (.load rfl (.one rfl)) (.v (.eqi rfl rfl) (.nil ⟨rfl, rfl, rfl, rfl⟩)))) (.nil ⟨rfl, rfl, rfl, rfl⟩)))))) (.nil ⟨rfl, rfl, rfl, rfl⟩)))))))) (.v (.assign rfl) (.nil ?_)))))))))
      refine .ret ⟨[_], ⟨rfl, trivial⟩, vb ?_⟩
      simp only [Bool.and_eq_true, Bool.or_eq_true, Bool.not_eq_true', Bool.and_eq_false_iff, Bool.or_eq_false_iff, Bool.not_eq_false', decide_eq_true_eq, decide_eq_false_iff_not, Bool.false_eq_true, false_iff]; unfold Can; omega

/-- a frame of a message, and the error -/
def zf : List Value := [.int .u8 0, .int .u64 0, .int .u64 0, .int .u64 0, .int .u64 0, .int .u64 0, .int .u64 0, .int .u64 0]
def zd : List Value := dcells 0 0 0 0 0 0
def pk (s k d p q c : Int) : List Value × Int :=
  if Can s k d p q c then ([.int .u8 (IntKind.u8.wrap (IntKind.i64.wrap (79 + k))), .int .u64 s, .int .u64 (IntKind.u64.wrap d), .int .u64 (IntKind.u64.wrap p), .int .u64 q, .int .u64 (IntKind.u64.wrap c), .int .u64 0, .int .u64 0], 0) else (zf, 40)
def pkV (s k d p q c : Int) : Value := .tuple ⟨[.agg ⟨(pk s k d p q c).1⟩, .int .i64 (pk s k d p q c).2]⟩
abbrev FL : List Lf := [.i .u8, .i .u64, .i .u64, .i .u64, .i .u64, .i .u64, .i .u64, .i .u64]
abbrev DL : List Lf := [.i .u64, .i .i64, .i .i64, .i .i64, .i .u64, .i .i64]
theorem pk_oks (s k d p q c : Int) : oks FL (pk s k d p q c).1 := by
  unfold pk; split <;> exact ⟨rfl, rfl, rfl, rfl, rfl, rfl, rfl, rfl, trivial⟩
theorem pk_len (s k d p q c : Int) : (pk s k d p q c).1.length = 8 := by unfold pk; split <;> rfl
theorem pk_ones (s k d p q c : Int) : ones (pk s k d p q c).1 = true := by unfold pk; split <;> rfl
theorem Pack_ok (w : World) (s k d p q c : Int) : Is Try.prog 11 [.agg ⟨dcells s k d p q c⟩] w (pkV s k d p q c) := by
  refine Does.pure (Does.of (n := 27) Try.func11 rfl rfl rfl rfl ?_)
  refine .seq ((.region (.nw (.box rfl rfl) fun b1 => (.nw .alloc fun b2 => (.v (.assign rfl) (.nil ?_))))))
  refine .seq (.seq ((.region (.v (.loadA rfl .whole rfl) (.pc rfl rfl (fun w _ => canBe_ok w s k d p q c) (.v (.not rfl) (.nil ?_)))))))
  refine .cond rfl (fun h1 => ?_) (fun h1 => .skip ?_)
  · have hc : ¬ Can s k d p q c := by simpa using h1
    have e : pk s k d p q c = (zf, 40) := by unfold pk; rw [if_neg hc]
    refine .seq ((.region (.v (.build (out := zf) rfl rfl) (.st (.sw rfl rfl) (.v (.assign rfl) (.nil ?_))))))
    exact .ret ⟨[_, _], ⟨⟨_, rfl, .inr ⟨8, _, inferInstance, rfl, rfl, .whole⟩⟩, rfl, trivial⟩, by rw [pkV, e]; rfl⟩
  · have hc : Can s k d p q c := by simpa using h1
    have e : pk s k d p q c = ([.int .u8 (IntKind.u8.wrap (IntKind.i64.wrap (79 + k))), .int .u64 s, .int .u64 (IntKind.u64.wrap d), .int .u64 (IntKind.u64.wrap p), .int .u64 q, .int .u64 (IntKind.u64.wrap c), .int .u64 0, .int .u64 0], 0) := by unfold pk; rw [if_pos hc]
    refine .seq ((.region (.v (.fieldAddr rfl) (.v (.load rfl (.one rfl)) (.v (.add rfl rfl) (.v (.conv rfl) (.v (.fieldAddr rfl) (.v (.load rfl (.one rfl)) (.v (.fieldAddr rfl) (.v (.load rfl (.one rfl)) (.v (.conv rfl) (.v (.fieldAddr rfl) (.v (.load rfl (.one rfl)) (.v (.conv rfl) (.v (.fieldAddr rfl) (.v (.load rfl (.one rfl)) (.v (.fieldAddr rfl) (.v (.load rfl (.one rfl)) (.v (.conv rfl) (.v (.buildArr (out := [.int .u64 s, .int .u64 (IntKind.u64.wrap d), .int .u64 (IntKind.u64.wrap p), .int .u64 q, .int .u64 (IntKind.u64.wrap c), .int .u64 0, .int .u64 0]) rfl rfl) (.v (.build (out := .int .u8 (IntKind.u8.wrap (IntKind.i64.wrap (79 + k))) :: [.int .u64 s, .int .u64 (IntKind.u64.wrap d), .int .u64 (IntKind.u64.wrap p), .int .u64 q, .int .u64 (IntKind.u64.wrap c), .int .u64 0, .int .u64 0]) rfl rfl) (.st (.sw rfl rfl) (.v (.assign rfl) (.nil ?_))))))))))))))))))))))))
    exact .ret ⟨[_, _], ⟨⟨_, rfl, .inr ⟨8, _, inferInstance, rfl, rfl, .whole⟩⟩, rfl, trivial⟩, by rw [pkV, e]; rfl⟩
theorem refPack_ok (w : World) (s k d p q c : Int) : Is Try.prog 12 [.agg ⟨dcells s k d p q c⟩] w (pkV s k d p q c) := by
  refine Does.pure (Does.of (n := 27) Try.func12 rfl rfl rfl rfl ?_)
  refine .seq ((.region (.nw (.box rfl rfl) fun b1 => (.nw .alloc fun b2 => (.v (.assign rfl) (.nil ?_))))))
  refine .seq (.seq ((.region (.v (.loadA rfl .whole rfl) (.pc rfl rfl (fun w _ => Message_ok w s k d p q c) (.v (.not rfl) (.nil ?_)))))))
  refine .cond rfl (fun h1 => ?_) (fun h1 => .skip ?_)
  · have hc : ¬ Can s k d p q c := by simpa using h1
    have e : pk s k d p q c = (zf, 40) := by unfold pk; rw [if_neg hc]
    refine .seq ((.region (.v (.build (out := zf) rfl rfl) (.st (.sw rfl rfl) (.v (.assign rfl) (.nil ?_))))))
    exact .ret ⟨[_, _], ⟨⟨_, rfl, .inr ⟨8, _, inferInstance, rfl, rfl, .whole⟩⟩, rfl, trivial⟩, by rw [pkV, e]; rfl⟩
  · have hc : Can s k d p q c := by simpa using h1
    have e : pk s k d p q c = ([.int .u8 (IntKind.u8.wrap (IntKind.i64.wrap (79 + k))), .int .u64 s, .int .u64 (IntKind.u64.wrap d), .int .u64 (IntKind.u64.wrap p), .int .u64 q, .int .u64 (IntKind.u64.wrap c), .int .u64 0, .int .u64 0], 0) := by unfold pk; rw [if_pos hc]
    refine .seq ((.region (.v (.fieldAddr rfl) (.v (.load rfl (.one rfl)) (.v (.add rfl rfl) (.v (.conv rfl) (.v (.fieldAddr rfl) (.v (.load rfl (.one rfl)) (.v (.fieldAddr rfl) (.v (.load rfl (.one rfl)) (.v (.conv rfl) (.v (.fieldAddr rfl) (.v (.load rfl (.one rfl)) (.v (.conv rfl) (.v (.fieldAddr rfl) (.v (.load rfl (.one rfl)) (.v (.fieldAddr rfl) (.v (.load rfl (.one rfl)) (.v (.conv rfl) (.v (.buildArr (out := [.int .u64 s, .int .u64 (IntKind.u64.wrap d), .int .u64 (IntKind.u64.wrap p), .int .u64 q, .int .u64 (IntKind.u64.wrap c), .int .u64 0, .int .u64 0]) rfl rfl) (.v (.build (out := .int .u8 (IntKind.u8.wrap (IntKind.i64.wrap (79 + k))) :: [.int .u64 s, .int .u64 (IntKind.u64.wrap d), .int .u64 (IntKind.u64.wrap p), .int .u64 q, .int .u64 (IntKind.u64.wrap c), .int .u64 0, .int .u64 0]) rfl rfl) (.st (.sw rfl rfl) (.v (.assign rfl) (.nil ?_))))))))))))))))))))))))
    exact .ret ⟨[_, _], ⟨⟨_, rfl, .inr ⟨8, _, inferInstance, rfl, rfl, .whole⟩⟩, rfl, trivial⟩, by rw [pkV, e]; rfl⟩

/-- a message of a frame, and the error -/
def fr (k a0 a1 a2 a3 a4 a5 a6 : Int) : List Value := [.int .u8 k, .int .u64 a0, .int .u64 a1, .int .u64 a2, .int .u64 a3, .int .u64 a4, .int .u64 a5, .int .u64 a6]
def kof (k : Int) : Int := IntKind.i64.wrap (IntKind.i64.wrap k - 79)
def upk (k a0 a1 a2 a3 a4 a5 a6 : Int) : List Value × Int :=
  if k ≠ 80 ∧ k ≠ 81 then (zd, 41)
  else if (pk a0 (kof k) (IntKind.i64.wrap a1) (IntKind.i64.wrap a2) a3 (IntKind.i64.wrap a4)).2 ≠ 0 ∨ cellsEq (pk a0 (kof k) (IntKind.i64.wrap a1) (IntKind.i64.wrap a2) a3 (IntKind.i64.wrap a4)).1 (fr k a0 a1 a2 a3 a4 a5 a6) = false then (zd, 40)
  else (dcells a0 (kof k) (IntKind.i64.wrap a1) (IntKind.i64.wrap a2) a3 (IntKind.i64.wrap a4), 0)
def upkV (k a0 a1 a2 a3 a4 a5 a6 : Int) : Value := .tuple ⟨[.agg ⟨(upk k a0 a1 a2 a3 a4 a5 a6).1⟩, .int .i64 (upk k a0 a1 a2 a3 a4 a5 a6).2]⟩
theorem fr_oks (k a0 a1 a2 a3 a4 a5 a6 : Int) : oks FL (fr k a0 a1 a2 a3 a4 a5 a6) := ⟨rfl, rfl, rfl, rfl, rfl, rfl, rfl, rfl, trivial⟩
theorem upk_oks (k a0 a1 a2 a3 a4 a5 a6 : Int) : oks DL (upk k a0 a1 a2 a3 a4 a5 a6).1 := by
  unfold upk; repeat' split
  all_goals exact ⟨rfl, rfl, rfl, rfl, rfl, rfl, trivial⟩
theorem upk_len (k a0 a1 a2 a3 a4 a5 a6 : Int) : (upk k a0 a1 a2 a3 a4 a5 a6).1.length = 6 := by
  unfold upk; repeat' split
  all_goals rfl
theorem upk_ones (k a0 a1 a2 a3 a4 a5 a6 : Int) : ones (upk k a0 a1 a2 a3 a4 a5 a6).1 = true := by
  unfold upk; repeat' split
  all_goals rfl
theorem Unpack_ok (w : World) (k a0 a1 a2 a3 a4 a5 a6 : Int) : Is Try.prog 13 [.agg ⟨fr k a0 a1 a2 a3 a4 a5 a6⟩] w (upkV k a0 a1 a2 a3 a4 a5 a6) := by
  refine Does.pure (Does.of (n := 51) Try.func13 rfl rfl rfl rfl ?_)
  refine .seq ((.region (.nw (.box rfl rfl) fun b1 => (.nw .alloc fun b2 => (.v (.assign rfl) (.nil ?_))))))
  refine .seq (.seq ((.region (.v (.fieldAddr rfl) (.v (.load rfl (.one rfl)) (.v (.nei rfl rfl) (.v (.move rfl) (.and 11 14 3 3 rfl rfl (fun g1 => .v (.fieldAddr rfl) (.v (.load rfl (.one rfl)) (.v (.nei rfl rfl) (.nil ⟨rfl, rfl, rfl, rfl⟩)))) (.nil ?_)))))))))
  refine .cond rfl (fun h1 => ?_) (fun h1 => .skip ?_)
  · have hk : k ≠ 80 ∧ k ≠ 81 := by simpa using h1
    have e : upk k a0 a1 a2 a3 a4 a5 a6 = (zd, 41) := by unfold upk; rw [if_pos hk]
    refine .seq ((.region (.v (.build (out := zd) rfl rfl) (.st (.sw rfl rfl) (.v (.assign rfl) (.nil ?_))))))
    exact .ret ⟨[_, _], ⟨⟨_, rfl, .inr ⟨6, _, inferInstance, rfl, rfl, .whole⟩⟩, rfl, trivial⟩, by rw [upkV, e]; rfl⟩
  have hk : ¬ (k ≠ 80 ∧ k ≠ 81) := by
    intro h
    simp [h.1, h.2] at h1
  refine .seq ((.region (.v (.fieldAddr rfl) (.v (.loadA (vs := [.int .u64 a0, .int .u64 a1, .int .u64 a2, .int .u64 a3, .int .u64 a4, .int .u64 a5, .int .u64 a6]) rfl (.chunk fun j v hv => by rw [show 0 + 1 + j = j + 1 from by omega]; exact hv) rfl) (.nw .alloc fun b4 => (.st (.sw rfl rfl) (.nil ?_)))))))
  refine .seq ((.region (.v (.indexAddrA1 rfl rfl (by omega) (by omega)) (.v (.load rfl (.one rfl)) (.v (.fieldAddr rfl) (.v (.load rfl (.one rfl)) (.v (.conv rfl) (.v (.sub_ rfl rfl) (.v (.indexAddrA1 rfl rfl (by omega) (by omega)) (.v (.load rfl (.one rfl)) (.v (.conv rfl) (.v (.indexAddrA1 rfl rfl (by omega) (by omega)) (.v (.load rfl (.one rfl)) (.v (.conv rfl) (.v (.indexAddrA1 rfl rfl (by omega) (by omega)) (.v (.load rfl (.one rfl)) (.v (.indexAddrA1 rfl rfl (by omega) (by omega)) (.v (.load rfl (.one rfl)) (.v (.conv rfl) (.v (.build (out := dcells a0 (kof k) (IntKind.i64.wrap a1) (IntKind.i64.wrap a2) a3 (IntKind.i64.wrap a4)) rfl rfl) (.nw .alloc fun b5 => (.st (.sw rfl rfl) (.nil ?_)))))))))))))))))))))))
  refine .seq (.seq ((.region (.v (.loadA rfl .whole rfl) (.pc rfl rfl (fun w _ => Pack_ok w a0 (kof k) (IntKind.i64.wrap a1) (IntKind.i64.wrap a2) a3 (IntKind.i64.wrap a4)) (.v (.move rfl) (.v (.extract (vs := [.agg ⟨(pk a0 (kof k) (IntKind.i64.wrap a1) (IntKind.i64.wrap a2) a3 (IntKind.i64.wrap a4)).1⟩, .int .i64 (pk a0 (kof k) (IntKind.i64.wrap a1) (IntKind.i64.wrap a2) a3 (IntKind.i64.wrap a4)).2]) rfl rfl) (.v (.extract (vs := [.agg ⟨(pk a0 (kof k) (IntKind.i64.wrap a1) (IntKind.i64.wrap a2) a3 (IntKind.i64.wrap a4)).1⟩, .int .i64 (pk a0 (kof k) (IntKind.i64.wrap a1) (IntKind.i64.wrap a2) a3 (IntKind.i64.wrap a4)).2]) rfl rfl) (.nw .alloc fun b6 => (.st (.storeW rfl rfl (pk_len _ _ _ _ _ _) (pk_ones _ _ _ _ _ _) rfl) (.v (.assign rfl) (.nil ?_))))))))))))
  refine .seq ((.region (.v (.move rfl) (.v (.nei rfl rfl) (.v (.move rfl) (.or 44 47 3 3 rfl rfl (fun g2 => .v (.loadA rfl .whole (pk_len _ _ _ _ _ _)) (.v (.loadA rfl .whole rfl) (.v (.neA rfl rfl (pk_oks _ _ _ _ _ _) (fr_oks _ _ _ _ _ _ _ _)) (.nil ⟨rfl, rfl, rfl, rfl⟩)))) (.nil ?_)))))))
  refine .cond rfl (fun h2 => ?_) (fun h2 => .skip ?_)
  · have e : upk k a0 a1 a2 a3 a4 a5 a6 = (zd, 40) := by unfold upk; rw [if_neg hk, if_pos (by simpa using h2)]
    refine .seq ((.region (.v (.build (out := zd) rfl rfl) (.st (.sw rfl rfl) (.v (.assign rfl) (.nil ?_))))))
    exact .ret ⟨[_, _], ⟨⟨_, rfl, .inr ⟨6, _, inferInstance, rfl, rfl, .whole⟩⟩, rfl, trivial⟩, by rw [upkV, e]; rfl⟩
  · have e : upk k a0 a1 a2 a3 a4 a5 a6 = (dcells a0 (kof k) (IntKind.i64.wrap a1) (IntKind.i64.wrap a2) a3 (IntKind.i64.wrap a4), 0) := by unfold upk; rw [if_neg hk, if_neg (by simpa using h2)]
    refine .seq ((.region (.v (.loadA rfl .whole rfl) (.st (.sw rfl rfl) (.v (.assign rfl) (.nil ?_))))))
    exact .ret ⟨[_, _], ⟨⟨_, rfl, .inr ⟨6, _, inferInstance, rfl, rfl, .whole⟩⟩, rfl, trivial⟩, by rw [upkV, e]; rfl⟩
end Go.Proofs.Ytinmhhonpflojaa

/- Levels, messages, pictures: the plain words. -/
namespace Go.Proofs.Ytinmhhonpflojaa
open Go.V
set_option linter.unusedVariables false
set_option linter.unusedSimpArgs false

structure Lv where
  p : Int
  q : Int
  c : Int
  deriving DecidableEq
def Lv.cells (v : Lv) : List Value := [.int .i64 v.p, .int .u64 v.q, .int .i64 v.c]
def lrows (l : List Lv) : List Value := l.flatMap Lv.cells
structure Dt where
  s : Int
  k : Int
  d : Int
  p : Int
  q : Int
  c : Int
  deriving DecidableEq
def Dt.cells (x : Dt) : List Value := dcells x.s x.k x.d x.p x.q x.c
def drows (l : List Dt) : List Value := l.flatMap Dt.cells
abbrev Dt.can (x : Dt) : Prop := Can x.s x.k x.d x.p x.q x.c
theorem lrows_length (l : List Lv) : (lrows l).length = l.length * 3 := flatMap_length _ 3 (fun _ => rfl) l
theorem drows_length (l : List Dt) : (drows l).length = l.length * 6 := flatMap_length _ 6 (fun _ => rfl) l
theorem lrows_get (l : List Lv) (i j : Nat) (hi : i < l.length) (hj : j < 3) : (lrows l)[i * 3 + j]? = (l[i].cells)[j]? := flatMap_get _ 3 (fun _ => rfl) l i j hi hj
theorem drows_get (l : List Dt) (i j : Nat) (hi : i < l.length) (hj : j < 6) : (drows l)[i * 6 + j]? = (l[i].cells)[j]? := flatMap_get _ 6 (fun _ => rfl) l i j hi hj
theorem lrows_app (a b : List Lv) : lrows (a ++ b) = lrows a ++ lrows b := by simp [lrows]
theorem drows_app (a b : List Dt) : drows (a ++ b) = drows a ++ drows b := by simp [drows]
theorem lrows_ones (l : List Lv) : ones (lrows l) = true := by
  simp only [ones, lrows, List.all_flatMap, List.all_eq_true]
  intro v _ x hx
  simp [Lv.cells] at hx
  rcases hx with rfl | rfl | rfl <;> rfl
theorem drows_ones (l : List Dt) : ones (drows l) = true := by
  simp only [ones, drows, List.all_flatMap, List.all_eq_true]
  intro v _ x hx
  simp [Dt.cells, dcells] at hx
  rcases hx with rfl | rfl | rfl | rfl | rfl | rfl <;> rfl
theorem lrows_take (l : List Lv) (k : Nat) : lrows (l.take k) = (lrows l).take (k * 3) := by
  induction l generalizing k with
  | nil => simp [lrows]
  | cons v l ih =>
    cases k with
    | zero => simp [lrows]
    | succ k =>
      have e : (k + 1) * 3 = k * 3 + 3 := by omega
      rw [List.take_succ_cons, show lrows (v :: l) = v.cells ++ lrows l from rfl, show lrows (v :: l.take k) = v.cells ++ lrows (l.take k) from rfl, ih, List.take_append, e]
      rw [List.take_of_length_le (show v.cells.length ≤ k * 3 + 3 by simp [Lv.cells])]
      congr 2
theorem lrows_drop (l : List Lv) (k : Nat) : lrows (l.drop k) = (lrows l).drop (k * 3) := by
  induction l generalizing k with
  | nil => simp [lrows]
  | cons v l ih =>
    cases k with
    | zero => simp [lrows]
    | succ k =>
      have e : (k + 1) * 3 = k * 3 + 3 := by omega
      rw [List.drop_succ_cons, show lrows (v :: l) = v.cells ++ lrows l from rfl, ih, List.drop_append, e]
      rw [List.drop_of_length_le (show v.cells.length ≤ k * 3 + 3 by simp [Lv.cells])]
      simp [Lv.cells]

/-- is a price worse than another one? -/
def wse (side p q : Int) : Bool := if side = 1 then decide (p < q) else decide (q < p)
theorem wse_irr (side p : Int) : wse side p p = false := by unfold wse; split <;> simp
theorem wse_trans {side p q r : Int} (h : wse side p q = true) (k : wse side q r = true) : wse side p r = true := by
  by_cases hs : side = 1 <;> simp [wse, hs] at * <;> omega
theorem wse_tri {side p q : Int} (h : wse side p q = false) (k : wse side q p = false) : p = q := by
  by_cases hs : side = 1 <;> simp [wse, hs] at * <;> omega
theorem wse_asym {side p q : Int} (h : wse side p q = true) : wse side q p = false := by
  by_cases hs : side = 1 <;> simp [wse, hs] at * <;> omega
abbrev Lv.ok (v : Lv) : Prop := (0 ≤ v.p ∧ v.p < 262144) ∧ 1 ≤ v.q ∧ 1 ≤ v.c
/-- can a side's levels be? -/
def Fit (side : Int) (l : List Lv) : Prop := ∀ i, (h : i < l.length) → l[i].ok ∧ ((h0 : 0 < i) → wse side l[i].p l[i - 1].p = true)
noncomputable instance (side : Int) (l : List Lv) : Decidable (Fit side l) := Classical.propDecidable _
/-- the prices get worse and worse -/
def Wrs (side : Int) (l : List Lv) : Prop := l.Pairwise fun a b => wse side b.p a.p = true
theorem Fit.nil (side : Int) : Fit side [] := fun i h => absurd h (by simp)
theorem Fit.wrs {side : Int} {l : List Lv} (h : Fit side l) : Wrs side l := by
  have key : ∀ j i, i < j → (hj : j < l.length) → (hi : i < l.length) → wse side l[j].p l[i].p = true := by
    intro j
    induction j with
    | zero => intro i hij; omega
    | succ j ih =>
      intro i hij hj hi
      have h1 := (h (j + 1) hj).2 (by omega)
      simp only [Nat.add_sub_cancel] at h1
      by_cases e : i = j
      · subst e; exact h1
      · exact wse_trans h1 (ih i (by omega) (by omega) hi)
  rw [Wrs, List.pairwise_iff_getElem]
  exact fun i j hi hj hij => key j i hij hj hi
theorem fit_iff {side : Int} {l : List Lv} : Fit side l ↔ (∀ v ∈ l, v.ok) ∧ Wrs side l := by
  constructor
  · intro h
    refine ⟨fun v hv => ?_, h.wrs⟩
    obtain ⟨i, hi, rfl⟩ := List.mem_iff_getElem.1 hv
    exact (h i hi).1
  · rintro ⟨h1, h2⟩ i hi
    refine ⟨h1 _ (List.getElem_mem hi), fun h0 => ?_⟩
    rw [Wrs, List.pairwise_iff_getElem] at h2
    exact h2 (i - 1) i (by omega) hi (by omega)
theorem Fit.take {side : Int} {l : List Lv} (h : Fit side l) (k : Nat) : Fit side (l.take k) := by
  rw [fit_iff] at *
  exact ⟨fun v hv => h.1 v (List.mem_of_mem_take hv), h.2.sublist (List.take_sublist k l)⟩

/-! ### a message done on levels -/
def Dt.lv (x : Dt) : Lv := ⟨x.p, x.q, x.c⟩
/-- as the program has it -/
def dn (x : Dt) : List Lv → List Lv
  | [] => if x.c = 0 then [] else [x.lv]
  | v :: l => if wse x.d x.p v.p then v :: dn x l else if v.p = x.p then (if x.c = 0 then l else x.lv :: l) else if x.c = 0 then v :: l else x.lv :: v :: l
/-- as the document has it -/
def dnr (x : Dt) : Bool → List Lv → List Lv
  | put, [] => if put then [] else [x.lv]
  | put, v :: l => (if !put && !wse x.d x.p v.p then [x.lv] else []) ++ ((if v.p ≠ x.p then [v] else []) ++ dnr x (put || !wse x.d x.p v.p) l)
theorem dnr_true (x : Dt) : ∀ l : List Lv, (∀ v ∈ l, v.p ≠ x.p) → dnr x true l = l
  | [], _ => rfl
  | v :: l, h => by
    have := dnr_true x l (fun u hu => h u (List.mem_cons_of_mem _ hu))
    simp [dnr, h v List.mem_cons_self, this]
theorem dnr_eq (x : Dt) : ∀ l : List Lv, Wrs x.d l → dnr x (decide (x.c = 0)) l = dn x l
  | [], _ => by by_cases h : x.c = 0 <;> simp [dnr, dn, h]
  | v :: l, h => by
    have hl := (List.pairwise_cons.1 h)
    have ih := dnr_eq x l hl.2
    by_cases hw : wse x.d x.p v.p = true
    · have hne : v.p ≠ x.p := by intro e; rw [e, wse_irr] at hw; cases hw
      simp [dnr, dn, hw, hne, ih]
    · have hw : wse x.d x.p v.p = false := by simpa using hw
      have hrest : ∀ u ∈ l, u.p ≠ x.p := by
        intro u hu e
        have h1 := hl.1 u hu
        rw [e, hw] at h1; cases h1
      have ht := dnr_true x l hrest
      by_cases hp : v.p = x.p <;> by_cases hc : x.c = 0 <;> simp only [dnr, dn, hw, hc, ht] <;> simp [hp, ht]
/-- the place: the first that is no better than the message's price -/
def plv (x : Dt) (l : List Lv) : Nat := l.findIdx fun v => !wse x.d x.p v.p
theorem plv_le (x : Dt) (l : List Lv) : plv x l ≤ l.length := List.findIdx_le_length
def isThere (x : Dt) (l : List Lv) : Prop := ∃ h : plv x l < l.length, l[plv x l].p = x.p
theorem dn_form (x : Dt) : ∀ l : List Lv, (∀ h : plv x l < l.length, l[plv x l].p = x.p → dn x l = if x.c = 0 then l.take (plv x l) ++ l.drop (plv x l + 1) else l.take (plv x l) ++ x.lv :: l.drop (plv x l + 1)) ∧
    ((∀ h : plv x l < l.length, l[plv x l].p ≠ x.p) → dn x l = if x.c = 0 then l else l.take (plv x l) ++ x.lv :: l.drop (plv x l))
  | [] => ⟨fun h => absurd h (by simp), fun _ => by by_cases hc : x.c = 0 <;> simp [dn, plv, hc]⟩
  | v :: l => by
    obtain ⟨h1, h2⟩ := dn_form x l
    by_cases hw : wse x.d x.p v.p = true
    · have e : plv x (v :: l) = plv x l + 1 := by simp [plv, List.findIdx_cons, hw]
      rw [e]
      refine ⟨fun h hp => ?_, fun hp => ?_⟩
      · have := h1 (by simpa using h) (by simpa using hp)
        by_cases hc : x.c = 0 <;> simp [dn, hw, hc] at this ⊢ <;> exact this
      · have := h2 (fun h => by have := hp (by simpa using h); simpa only [List.getElem_cons_succ] using this)
        by_cases hc : x.c = 0 <;> simp [dn, hw, hc] at this ⊢ <;> exact this
    · have hw : wse x.d x.p v.p = false := by simpa using hw
      have e : plv x (v :: l) = 0 := by simp [plv, List.findIdx_cons, hw]
      rw [e]
      refine ⟨fun h hp => ?_, fun hp => ?_⟩
      · by_cases hc : x.c = 0 <;> simp_all [dn]
      · have := hp (by simp)
        by_cases hc : x.c = 0 <;> simp_all [dn]
theorem dn_wrs (x : Dt) : ∀ l : List Lv, Wrs x.d l → Wrs x.d (dn x l) ∧ ∀ u ∈ dn x l, u = x.lv ∨ u ∈ l
  | [], _ => by by_cases h : x.c = 0 <;> simp [dn, h, Wrs]
  | v :: l, h => by
    have hl := (List.pairwise_cons.1 h)
    obtain ⟨ih1, ih2⟩ := dn_wrs x l hl.2
    by_cases hw : wse x.d x.p v.p = true
    · simp only [dn, hw, if_true]
      refine ⟨List.pairwise_cons.2 ⟨fun u hu => ?_, ih1⟩, fun u hu => ?_⟩
      · rcases ih2 u hu with rfl | hu
        · exact hw
        · exact hl.1 u hu
      · rcases List.mem_cons.1 hu with rfl | hu
        · exact .inr List.mem_cons_self
        · rcases ih2 u hu with e | hu
          · exact .inl e
          · exact .inr (List.mem_cons_of_mem _ hu)
    · have hw : wse x.d x.p v.p = false := by simpa using hw
      by_cases hp : v.p = x.p
      · by_cases hc : x.c = 0
        · simp only [dn, hw, Bool.false_eq_true, if_false, if_pos hp, if_pos hc]
          exact ⟨hl.2, fun u hu => .inr (List.mem_cons_of_mem _ hu)⟩
        · simp only [dn, hw, Bool.false_eq_true, if_false, if_pos hp, if_neg hc]
          refine ⟨List.pairwise_cons.2 ⟨fun u hu => ?_, hl.2⟩, fun u hu => ?_⟩
          · have := hl.1 u hu; rw [hp] at this; exact this
          · rcases List.mem_cons.1 hu with rfl | hu
            · exact .inl rfl
            · exact .inr (List.mem_cons_of_mem _ hu)
      · by_cases hc : x.c = 0
        · simp only [dn, hw, Bool.false_eq_true, if_false, if_neg hp, if_pos hc]
          exact ⟨h, fun u hu => .inr hu⟩
        · simp only [dn, hw, Bool.false_eq_true, if_false, if_neg hp, if_neg hc]
          have hv : wse x.d v.p x.p = true := by
            cases hh : wse x.d v.p x.p with
            | true => rfl
            | false => exact absurd (wse_tri hh hw) hp
          refine ⟨List.pairwise_cons.2 ⟨fun u hu => ?_, h⟩, fun u hu => ?_⟩
          · rcases List.mem_cons.1 hu with rfl | hu
            · exact hv
            · exact wse_trans (hl.1 u hu) hv
          · rcases List.mem_cons.1 hu with rfl | hu
            · exact .inl rfl
            · exact .inr hu

/-! ### what makes one side's levels into others -/
def gone (side : Int) (a : Lv) : Dt := ⟨0, 1, side, a.p, 0, 0⟩
def told (side : Int) (b : Lv) : Dt := ⟨0, 1, side, b.p, b.q, b.c⟩
def chg (side : Int) : List Lv → List Lv → List Dt
  | [], [] => []
  | a :: was, [] => gone side a :: chg side was []
  | [], b :: now => told side b :: chg side [] now
  | a :: was, b :: now =>
    if wse side b.p a.p then gone side a :: chg side was (b :: now)
    else if wse side a.p b.p then told side b :: chg side (a :: was) now
    else (if a ≠ b then [told side b] else []) ++ chg side was now
termination_by was now => was.length + now.length
theorem chg_length (side : Int) : ∀ (was now : List Lv), (chg side was now).length ≤ was.length + now.length
  | [], [] => by simp [chg]
  | a :: was, [] => by have := chg_length side was []; simp [chg] at *; omega
  | [], b :: now => by have := chg_length side [] now; simp [chg] at *; omega
  | a :: was, b :: now => by
    rw [chg]
    split
    · have := chg_length side was (b :: now); simp at *; omega
    · split
      · have := chg_length side (a :: was) now; simp at *; omega
      · have := chg_length side was now
        split <;> simp at * <;> omega
termination_by was now => was.length + now.length
/-- the messages with their numbers -/
def num (s : Int) : List Dt → List Dt
  | [] => []
  | x :: l => { x with s := (s + 1) % 18446744073709551616 } :: num ((s + 1) % 18446744073709551616) l
theorem num_length (s : Int) : ∀ l : List Dt, (num s l).length = l.length
  | [] => rfl
  | x :: l => by simp [num, num_length _ l]
theorem num_get : ∀ (l : List Dt) (s : Int) (i : Nat) (h : i < l.length), (num s l)[i]'(by rw [num_length]; exact h) = { l[i] with s := (s + i + 1) % 18446744073709551616 }
  | x :: l, s, 0, h => by simp [num]
  | x :: l, s, i + 1, h => by
    simp only [num, List.getElem_cons_succ]
    rw [num_get l _ i (by simpa using h)]
    have e : ((s + 1) % 18446744073709551616 + (i : Int) + 1) % 18446744073709551616 = (s + ((i + 1 : Nat) : Int) + 1) % 18446744073709551616 := by omega
    rw [e]
end Go.Proofs.Ytinmhhonpflojaa

/- Levels in memory: worse, told, at, fit, Levels. -/
namespace Go.Proofs.Ytinmhhonpflojaa
open Go.V
set_option linter.unusedVariables false
set_option linter.unusedSimpArgs false

theorem at_sub {w0 : World} {own : List Nat} {hs : Hp} {b o i : Nat} {vs us : List Value} (h : At w0 own hs ⟨b, o, none⟩ vs) (hu : ∀ (j : Nat) (u : Value), us[j]? = some u → vs[i + j]? = some u) : At w0 own hs ⟨b, o + i, none⟩ us := by
  intro w s j u hj
  have := h w s (i + j) u (hu j u hj)
  rw [add_none] at this ⊢
  rw [Nat.add_assoc]; exact this
section
variable {w0 : World} {own : List Nat} {hs : Hp} {b o i : Nat} {l : List Lv} {z : Int}
theorem lvAt (h : At w0 own hs ⟨b, o, none⟩ (lrows l)) (hi : i < l.length) (hz : z.toNat = i := by omega) : At w0 own hs ⟨b, o + z.toNat * 3, none⟩ l[i].cells := by
  subst hz
  refine at_sub h fun j u hj => ?_
  rw [lrows_get l _ j hi (by simpa [Lv.cells] using (List.getElem?_eq_some_iff.1 hj).1)]; exact hj
theorem lfAt (h : At w0 own hs ⟨b, o, none⟩ (lrows l)) (hi : i < l.length) (k : Nat) {v : Value} (hk : k < 3) (hv : l[i].cells[k]? = some v) (hz : z.toNat = i := by omega) : At w0 own hs ⟨b, o + z.toNat * 3 + k, none⟩ [v] := by
  subst hz
  rw [Nat.add_assoc]
  refine at_sub h fun j u hj => ?_
  match j, hj with
  | 0, hj => simp at hj; subst hj; rw [Nat.add_zero, lrows_get l _ k hi hk]; exact hv
theorem lpAt (h : At w0 own hs ⟨b, o, none⟩ (lrows l)) (hi : i < l.length) (hz : z.toNat = i := by omega) : At w0 own hs ⟨b, o + z.toNat * 3 + 0, none⟩ [.int .i64 l[i].p] := lfAt h hi 0 (by omega) rfl hz
theorem lqAt (h : At w0 own hs ⟨b, o, none⟩ (lrows l)) (hi : i < l.length) (hz : z.toNat = i := by omega) : At w0 own hs ⟨b, o + z.toNat * 3 + 1, none⟩ [.int .u64 l[i].q] := lfAt h hi 1 (by omega) rfl hz
theorem lcAt (h : At w0 own hs ⟨b, o, none⟩ (lrows l)) (hi : i < l.length) (hz : z.toNat = i := by omega) : At w0 own hs ⟨b, o + z.toNat * 3 + 2, none⟩ [.int .i64 l[i].c] := lfAt h hi 2 (by omega) rfl hz
end
theorem Rd.lev {w : World} {no : List Nat} {A : Option Addr} {l : List Lv} (h : Rd w no A (lrows l)) (h0 : 0 < l.length) : ∃ b o, A = some ⟨b, o, none⟩ ∧ ∀ hs, At w no hs ⟨b, o, none⟩ (lrows l) := by
  obtain ⟨b, o, rfl, -⟩ := h.base (by rw [lrows_length]; omega)
  exact ⟨b, o, rfl, fun hs => h.whole⟩
abbrev LL : List Lf := [.i .i64, .i .u64, .i .i64]
theorem Lv.oks (v : Lv) : V.oks LL v.cells := ⟨rfl, rfl, rfl, trivial⟩
theorem lv_eq {a b : Lv} : cellsEq a.cells b.cells = true ↔ a = b := by
  rw [cellsEq_iff a.oks b.oks]
  constructor
  · intro h; cases a; cases b; simp [Lv.cells] at h; simp [h]
  · rintro rfl; rfl
theorem lv_dec (a b : Lv) : (!cellsEq a.cells b.cells) = decide (a ≠ b) := by
  by_cases h : a = b
  · rw [lv_eq.2 h]; simp [h]
  · have : cellsEq a.cells b.cells = false := by
      cases e : cellsEq a.cells b.cells with
      | false => rfl
      | true => exact absurd (lv_eq.1 e) h
    rw [this]; simp [h]

theorem worse_ok (w : World) (s p q : Int) : Is Try.prog 68 [.int .i64 s, .int .i64 p, .int .i64 q] w (.bool (wse s p q)) := by
  refine Does.pure (Does.of (n := 15) Try.func68 rfl rfl rfl rfl ?_)
  refine .seq ((.region (.v (.assign rfl) (.nil ?_))))
  refine .seq (.seq ((.region (.v (.move rfl) (.v (.eqi rfl rfl) (.nil ?_))))))
  refine .cond_dec rfl (fun h1 => ?_) (fun h1 => .skip ?_)
  · refine .seq ((.region (.v (.move rfl) (.v (.move rfl) (.v (.lss rfl rfl) (.v (.assign rfl) (.nil ?_)))))))
    exact .ret ⟨[_], ⟨rfl, trivial⟩, by rw [wse, if_pos h1]; rfl⟩
  · refine .seq ((.region (.v (.move rfl) (.v (.move rfl) (.v (.gtr rfl rfl) (.v (.assign rfl) (.nil ?_)))))))
    exact .ret ⟨[_], ⟨rfl, trivial⟩, by rw [wse, if_neg h1]; rfl⟩
theorem refworse_ok (w : World) (s p q : Int) : Is Try.prog 70 [.int .i64 s, .int .i64 p, .int .i64 q] w (.bool (wse s p q)) := by
  refine Does.pure (Does.of (n := 15) Try.func70 rfl rfl rfl rfl ?_)
  refine .seq ((.region (.v (.assign rfl) (.nil ?_))))
  refine .seq (.seq ((.region (.v (.move rfl) (.v (.eqi rfl rfl) (.nil ?_))))))
  refine .cond_dec rfl (fun h1 => ?_) (fun h1 => .skip ?_)
  · refine .seq ((.region (.v (.move rfl) (.v (.move rfl) (.v (.lss rfl rfl) (.v (.assign rfl) (.nil ?_)))))))
    exact .ret ⟨[_], ⟨rfl, trivial⟩, by rw [wse, if_pos h1]; rfl⟩
  · refine .seq ((.region (.v (.move rfl) (.v (.move rfl) (.v (.gtr rfl rfl) (.v (.assign rfl) (.nil ?_)))))))
    exact .ret ⟨[_], ⟨rfl, trivial⟩, by rw [wse, if_neg h1]; rfl⟩
theorem told_ok (w : World) (s : Int) (v : Lv) : Is Try.prog 69 [.int .i64 s, .agg ⟨v.cells⟩] w (.agg ⟨(told s v).cells⟩) := by
  refine Does.pure (Does.of (n := 13) Try.func69 rfl rfl rfl rfl ?_)
  refine .seq ((.region (.nw (.box (l := v.cells) rfl rfl) fun b3 => (.nw .alloc fun b4 => (.nil ?_)))))
  refine .seq ((.region (.v (.move rfl) (.v (.fieldAddr rfl) (.v (.load (v := .int .i64 v.p) rfl (.one rfl)) (.v (.fieldAddr rfl) (.v (.load (v := .int .u64 v.q) rfl (.one rfl)) (.v (.fieldAddr rfl) (.v (.load (v := .int .i64 v.c) rfl (.one rfl)) (.v (.build (out := (told s v).cells) rfl rfl) (.st (.sw rfl rfl) (.nil ?_))))))))))))
  exact .ret ⟨[_], ⟨⟨_, rfl, .inr ⟨6, _, inferInstance, rfl, rfl, .whole⟩⟩, trivial⟩, rfl⟩
set_option maxRecDepth 10000 in
theorem fit_ok (w : World) (s : Int) (A : Option Addr) (len cap : Nat) (l : List Lv) (hx : Rd w [] A (lrows l)) (hl : len = l.length) (hb : len ≤ 5864062014805) :
    Is Try.prog 41 [.int .i64 s, .slice A len cap] w (.bool (decide (Fit s l))) := by
  refine Does.pure (Does.of (n := 46) Try.func41 rfl rfl rfl rfl ?_)
  refine .seq ((.region (.v (.assign rfl) (.nil ?_))))
  refine .seq (.seq ((.region (.v (.move rfl) (.v (.len rfl) (.v (.move rfl) (.nil ?_)))))))
  refine .block (.loop (X := Nat) (fun i => [(0, .int .i64 s), (1, .slice A len cap), (7, .slice A len cap), (8, .int .i64 len), (9, .int .i64 i)]) (fun _ => []) (fun i => i ≤ len ∧ ∀ j, (hj : j < l.length) → j < i → l[j].ok ∧ ((h0 : 0 < j) → wse s l[j].p l[j - 1].p = true)) (fun i => len - i) 0 ⟨by omega, fun j _ h => by omega⟩
    (.cons rfl (.cons rfl (.cons rfl (.cons rfl (.cons rfl (.nil _)))))) (fun _ s => s) ?_)
  rintro i ⟨hi, hI⟩
  refine .seq ((.region (.v (.lss rfl rfl) (.nil ?_))))
  refine .seq (.cond_dec rfl (fun h1 => .skip ?_) (fun h1 => .exit ?_))
  · have hil : i < l.length := by omega
    obtain ⟨b, o, rfl, hA⟩ := Rd.lev hx (by omega)
    obtain ⟨u, hu⟩ : ∃ u : Lv, ∀ h : i - 1 < l.length, l[i - 1] = u := ⟨(l[i - 1]?).getD ⟨0, 0, 0⟩, fun h => by simp [h]⟩
    have hup : ∀ hs, (0 : Int) < i → At w [] hs ⟨b, o + ((i : Int) - 1).toNat * 3 + 0, none⟩ [.int .i64 u.p] := fun hs g => by
      have h1 : i - 1 < l.length := by omega
      rw [← hu h1]; exact lpAt (hA _) h1
    have hlv := fun hs => lvAt (z := (i : Int)) (hA hs) hil
    have hF0 := fun hF : Fit s l => hF i hil
    obtain ⟨v, hv⟩ : ∃ v, l[i] = v := ⟨_, rfl⟩
    rw [hv] at hlv hF0
    refine .seq (.block (.seq ((.region (.v (.move rfl) (.v (.indexAddr rfl rfl (by omega) (by omega)) (.v (.loadA (vs := v.cells) rfl (hlv _) rfl) (.nw .alloc fun b6 => (.v (.assign rfl) (.st (.sw rfl rfl) (.nil ?_)))))))))))
    refine .seq ((.drawK _ (fun _ h => h) (by kernel_rfl) (by kernel_rfl) ?_))
    refine .v (fun _ f => .fieldAddr rfl) (.v (fun _ f => .load (v := .int .i64 v.p) rfl (.one (hb := .sub f) rfl)) (.pc (v := .bool (decide (0 ≤ v.p) && decide (v.p < 262144))) rfl rfl (fun w s => isTick_ok w v.p) (.v (fun _ f => .not rfl) (.v (fun _ f => .move rfl) (.or 18 21 3 3 rfl rfl (fun g1 => .v (fun _ f => .fieldAddr rfl) (.v (fun _ f => .load (v := .int .u64 v.q) rfl (.one (hb := .sub f) rfl)) (.v (fun _ f => .lss rfl rfl) (.nil ⟨rfl, rfl, rfl, rfl⟩)))) (.v (fun _ f => .move rfl) (.or 23 26 3 3 rfl rfl (fun g2 => .v (fun _ f => .fieldAddr rfl) (.v (fun _ f => .load (v := .int .i64 v.c) rfl (.one (hb := .sub f) rfl)) (.v (fun _ f => .lss rfl rfl) (.nil ⟨rfl, rfl, rfl, rfl⟩)))) (.v (fun _ f => .move rfl) (.or (b2 := decide (0 < (i : Int)) && !wse s v.p u.p) 28 43 15 4 rfl rfl (fun g3 => .v (fun _ f => .move rfl) (.v (fun _ f => .gtr rfl rfl) (.v (fun _ f => .move rfl) (.and 31 42 11 11 rfl rfl (fun g4 => have g5 : (0 : Int) < i := of_decide_eq_true g4; .v (fun _ f => .move rfl) (.v (fun _ f => .fieldAddr rfl) (.v (fun _ f => .load (v := .int .i64 v.p) rfl (.one (hb := .sub f) rfl)) (.v (fun _ f => .move rfl) (.v (fun _ f => .move rfl) (.v (fun _ f => .subi rfl rfl (by omega)) (.v (fun _ f => .indexAddr rfl rfl (by omega) (by omega)) (.v (fun _ f => .fieldAddr rfl) (.v (fun _ f => .load (v := .int .i64 u.p) rfl (hup _ g5)) (.pc (v := .bool (wse s v.p u.p)) rfl rfl (fun w _ => worse_ok w s v.p u.p) (.v (fun _ f => .not rfl) (.nil ⟨rfl, rfl, rfl, rfl⟩)))))))))))) (.nil ⟨rfl, rfl, rfl, rfl⟩))))) (.nil ?_))))))))))
    refine .cond rfl (fun h2 => ?_) (fun h2 => .skip ?_)
    · refine .seq ((.region (.v (.assign rfl) (.nil ?_))))
      refine .ret ⟨[_], ⟨rfl, trivial⟩, vb ?_⟩
      simp only [Bool.and_eq_true, Bool.or_eq_true, Bool.not_eq_true', Bool.and_eq_false_iff, Bool.or_eq_false_iff, Bool.not_eq_false', decide_eq_true_eq, decide_eq_false_iff_not, Bool.false_eq_true, false_iff] at h2 ⊢
      intro hF
      obtain ⟨⟨⟨a1, a2⟩, a3, a4⟩, a5⟩ := hF0 hF
      rcases h2 with (((h2 | h2) | h2) | h2)
      · omega
      · omega
      · omega
      · have := a5 (by omega)
        rw [hu (by omega), h2.2] at this; cases this
    · simp only [Bool.and_eq_true, Bool.or_eq_true, Bool.not_eq_true', Bool.and_eq_false_iff, Bool.or_eq_false_iff, Bool.not_eq_false', decide_eq_true_eq, decide_eq_false_iff_not, Bool.false_eq_true, false_iff] at h2
      refine .region (.v (.addi rfl rfl (by omega)) (.v (.move rfl) (.nil ?_)))
      refine ⟨i + 1, ⟨by omega, fun j hj hji => ?_⟩, by omega, .cons rfl (.cons rfl (.cons rfl (.cons rfl (.cons rfl (.nil _))))), fun _ s => s.take⟩
      by_cases e : j = i
      · subst e
        obtain ⟨⟨⟨⟨a1, a2⟩, a3⟩, a4⟩, a5⟩ := h2
        rw [hv]
        exact ⟨⟨⟨a1, a2⟩, by omega, by omega⟩, fun h0 => by rw [hu (by omega)]; rcases a5 with a5 | a5; omega; exact a5⟩
      · exact hI j hj (by omega)
  · refine .seq ((.region (.v (.assign rfl) (.nil ?_))))
    have hF : Fit s l := fun j hj => hI j hj (by omega)
    exact .ret ⟨[_], ⟨rfl, trivial⟩, by rw [decide_eq_true hF]; rfl⟩
set_option maxRecDepth 10000 in
theorem levels_ok (w : World) (s : Int) (A : Option Addr) (len cap : Nat) (l : List Lv) (hx : Rd w [] A (lrows l)) (hl : len = l.length) (hb : len ≤ 5864062014805) :
    Is Try.prog 44 [.int .i64 s, .slice A len cap] w (.bool (decide (Fit s l))) := by
  refine Does.pure (Does.of (n := 55) Try.func44 rfl rfl rfl rfl ?_)
  refine .seq ((.region (.v (.assign rfl) (.nil ?_))))
  refine .seq (.seq ((.region (.v (.assign rfl) (.nil ?_)))))
  refine .block (.loop (X := Nat) (fun i => [(0, .int .i64 s), (1, .slice A len cap), (5, .int .i64 i)]) (fun _ => []) (fun i => i ≤ len ∧ ∀ j, (hj : j < l.length) → j < i → l[j].ok ∧ ((h0 : 0 < j) → wse s l[j].p l[j - 1].p = true)) (fun i => len - i) 0 ⟨by omega, fun j _ h => by omega⟩
    (.cons rfl (.cons rfl (.cons rfl (.nil _)))) (fun _ s => s) ?_)
  rintro i ⟨hi, hI⟩
  refine .seq (.seq ((.region (.v (.move rfl) (.v (.move rfl) (.v (.len rfl) (.v (.lss rfl rfl) (.nil ?_))))))))
  refine .cond_dec rfl (fun h1 => .skip ?_) (fun h1 => .exit ?_)
  · have hil : i < l.length := by omega
    obtain ⟨b, o, rfl, hA⟩ := Rd.lev hx (by omega)
    refine .seq (.block (.seq ((.drawK _ (fun _ h => h) (by kernel_rfl) (by kernel_rfl) ?_))))
    refine .v (fun _ f => .move rfl) (.v (fun _ f => .move rfl) (.v (fun _ f => .indexAddr rfl rfl (by omega) (by omega)) (.v (fun _ f => .fieldAddr rfl) (.v (fun _ f => .load rfl (lpAt (hA _) hil)) (.pc (v := .bool (decide (0 ≤ l[i].p) && decide (l[i].p < 262144))) rfl rfl (fun w s => tick_ok w l[i].p) (.v (fun _ f => .not rfl) (.v (fun _ f => .move rfl) (.or 19 25 6 6 rfl rfl (fun g1 => .v (fun _ f => .move rfl) (.v (fun _ f => .move rfl) (.v (fun _ f => .indexAddr rfl rfl (by omega) (by omega)) (.v (fun _ f => .fieldAddr rfl) (.v (fun _ f => .load rfl (lqAt (hA _) hil)) (.v (fun _ f => .lss rfl rfl) (.nil ⟨rfl, rfl, rfl, rfl⟩))))))) (.v (fun _ f => .move rfl) (.or 27 33 6 6 rfl rfl (fun g2 => .v (fun _ f => .move rfl) (.v (fun _ f => .move rfl) (.v (fun _ f => .indexAddr rfl rfl (by omega) (by omega)) (.v (fun _ f => .fieldAddr rfl) (.v (fun _ f => .load rfl (lcAt (hA _) hil)) (.v (fun _ f => .lss rfl rfl) (.nil ⟨rfl, rfl, rfl, rfl⟩))))))) (.v (fun _ f => .move rfl) (.or (b2 := decide (0 < (i : Int)) && !wse s l[i].p l[i - 1].p) 35 53 18 4 rfl rfl (fun g3 => .v (fun _ f => .move rfl) (.v (fun _ f => .gtr rfl rfl) (.v (fun _ f => .move rfl) (.and 38 52 14 14 rfl rfl (fun g4 => have g5 : (0 : Int) < i := of_decide_eq_true g4; have hi1 : i - 1 < l.length := (by omega); .v (fun _ f => .move rfl) (.v (fun _ f => .move rfl) (.v (fun _ f => .move rfl) (.v (fun _ f => .indexAddr rfl rfl (by omega) (by omega)) (.v (fun _ f => .fieldAddr rfl) (.v (fun _ f => .load rfl (lpAt (hA _) hil)) (.v (fun _ f => .move rfl) (.v (fun _ f => .move rfl) (.v (fun _ f => .subi rfl rfl (by omega)) (.v (fun _ f => .indexAddr rfl rfl (by omega) (by omega)) (.v (fun _ f => .fieldAddr rfl) (.v (fun _ f => .load rfl (lpAt (hA _) hi1)) (.pc (v := .bool (wse s l[i].p l[i - 1].p)) rfl rfl (fun w _ => refworse_ok w s l[i].p l[i - 1].p) (.v (fun _ f => .not rfl) (.nil ⟨rfl, rfl, rfl, rfl⟩))))))))))))))) (.nil ⟨rfl, rfl, rfl, rfl⟩))))) (.nil ?_)))))))))))))
    refine .cond rfl (fun h2 => ?_) (fun h2 => .skip ?_)
    · refine .seq ((.region (.v (.assign rfl) (.nil ?_))))
      refine .ret ⟨[_], ⟨rfl, trivial⟩, vb ?_⟩
      simp only [Bool.and_eq_true, Bool.or_eq_true, Bool.not_eq_true', Bool.and_eq_false_iff, Bool.or_eq_false_iff, Bool.not_eq_false', decide_eq_true_eq, decide_eq_false_iff_not, Bool.false_eq_true, false_iff] at h2 ⊢
      intro hF
      obtain ⟨⟨⟨a1, a2⟩, a3, a4⟩, a5⟩ := hF i hil
      rcases h2 with (((h2 | h2) | h2) | h2)
      · omega
      · omega
      · omega
      · rw [a5 (by omega)] at h2; exact absurd h2.2 (by simp)
    · simp only [Bool.and_eq_true, Bool.or_eq_true, Bool.not_eq_true', Bool.and_eq_false_iff, Bool.or_eq_false_iff, Bool.not_eq_false', decide_eq_true_eq, decide_eq_false_iff_not, Bool.false_eq_true, false_iff] at h2
      refine .region (.v (.move rfl) (.v (.addi rfl rfl (by omega)) (.v (.assign rfl) (.nil ?_))))
      refine ⟨i + 1, ⟨by omega, fun j hj hji => ?_⟩, by omega, .cons rfl (.cons rfl (.cons rfl (.nil _))), fun _ s => s⟩
      by_cases e : j = i
      · subst e
        obtain ⟨⟨⟨⟨a1, a2⟩, a3⟩, a4⟩, a5⟩ := h2
        exact ⟨⟨⟨a1, a2⟩, by omega, by omega⟩, fun h0 => by rcases a5 with a5 | a5; omega; exact a5⟩
      · exact hI j hj (by omega)
  · refine .seq ((.region (.v (.assign rfl) (.nil ?_))))
    have hF : Fit s l := fun j hj => hI j hj (by omega)
    exact .ret ⟨[_], ⟨rfl, trivial⟩, by rw [decide_eq_true hF]; rfl⟩
end Go.Proofs.Ytinmhhonpflojaa

/- The document's changes are the program's; applied to what was, they make what is. -/
namespace Go.Proofs.Ytinmhhonpflojaa
open Go.V
set_option linter.unusedVariables false
set_option linter.unusedSimpArgs false

def lv0 : Lv := ⟨0, 0, 0⟩
/-- the level of a price -/
def atp (l : List Lv) (p : Int) : Lv := (l.find? fun v => decide (v.p = p)).getD lv0
theorem atp_none {l : List Lv} {p : Int} (h : ∀ v ∈ l, v.p ≠ p) : atp l p = lv0 := by
  unfold atp
  rw [List.find?_eq_none.2 (fun v hv => by simpa using h v hv)]; rfl
theorem wrs_lt {side : Int} {l : List Lv} (h : Wrs side l) {i j : Nat} (hi : i < l.length) (hj : j < l.length) (hij : i < j) : wse side l[j].p l[i].p = true := by
  rw [Wrs, List.pairwise_iff_getElem] at h
  exact h i j hi hj hij
theorem wrs_inj {side : Int} {l : List Lv} (h : Wrs side l) {i j : Nat} (hi : i < l.length) (hj : j < l.length) (e : l[i].p = l[j].p) : i = j := by
  rcases Nat.lt_trichotomy i j with k | k | k
  · have := wrs_lt h hi hj k; rw [e, wse_irr] at this; cases this
  · exact k
  · have := wrs_lt h hj hi k; rw [e, wse_irr] at this; cases this
theorem atp_get {side : Int} {l : List Lv} (h : Wrs side l) {i : Nat} (hi : i < l.length) : atp l l[i].p = l[i] := by
  unfold atp
  have : l.find? (fun v => decide (v.p = l[i].p)) = some l[i] := by
    rw [List.find?_eq_some_iff_getElem]
    refine ⟨by simp, i, hi, rfl, fun j hj => ?_⟩
    simp only [Bool.not_eq_true', decide_eq_false_iff_not]
    intro e
    have := wrs_inj h (by omega) hi e
    omega
  rw [this]; rfl
/-- the state of the document's loop -/
structure CSt (side : Int) (was now : List Lv) (i k : Nat) (out : List Dt) : Prop where
  li : i ≤ was.length
  lk : k ≤ now.length
  out : out ++ chg side (was.drop i) (now.drop k) = chg side was now
  w : ∀ j m, (hj : j < was.length) → (hm : m < now.length) → j < i → k ≤ m → wse side now[m].p was[j].p = true
  n : ∀ j m, (hj : j < now.length) → (hm : m < was.length) → j < k → i ≤ m → wse side was[m].p now[j].p = true
theorem CSt.zero (side : Int) (was now : List Lv) : CSt side was now 0 0 [] := ⟨by omega, by omega, by simp, fun _ _ _ _ h => by omega, fun _ _ _ _ h => by omega⟩
theorem chg_nil_r (side : Int) (a : Lv) (l : List Lv) : chg side (a :: l) [] = gone side a :: chg side l [] := by rw [chg]
theorem chg_gone {side : Int} {was now : List Lv} {i k : Nat} (hi : i < was.length) (h : ∀ hk : k < now.length, wse side now[k].p was[i].p = true) :
    chg side (was.drop i) (now.drop k) = gone side was[i] :: chg side (was.drop (i + 1)) (now.drop k) := by
  rw [List.drop_eq_getElem_cons hi]
  by_cases hk : k < now.length
  · rw [List.drop_eq_getElem_cons hk, chg, if_pos (h hk)]
  · have e : now.drop k = [] := List.drop_eq_nil_of_le (by omega)
    rw [e, chg_nil_r]
theorem chg_told {side : Int} {was now : List Lv} {i k : Nat} (hk : k < now.length) (h : ∀ hi : i < was.length, wse side was[i].p now[k].p = true) :
    chg side (was.drop i) (now.drop k) = told side now[k] :: chg side (was.drop i) (now.drop (k + 1)) := by
  rw [List.drop_eq_getElem_cons hk]
  by_cases hi : i < was.length
  · rw [List.drop_eq_getElem_cons hi, chg, if_neg (by rw [wse_asym (h hi)]; simp), if_pos (h hi)]
  · have e : was.drop i = [] := List.drop_eq_nil_of_le (by omega)
    rw [e, chg]
theorem chg_both {side : Int} {was now : List Lv} {i k : Nat} (hi : i < was.length) (hk : k < now.length) (h1 : wse side now[k].p was[i].p = false) (h2 : wse side was[i].p now[k].p = false) :
    chg side (was.drop i) (now.drop k) = (if was[i] ≠ now[k] then [told side now[k]] else []) ++ chg side (was.drop (i + 1)) (now.drop (k + 1)) := by
  rw [List.drop_eq_getElem_cons hi, List.drop_eq_getElem_cons hk, chg, if_neg (by rw [h1]; simp), if_neg (by rw [h2]; simp)]
theorem CSt.goneS {side : Int} {was now : List Lv} {i k : Nat} {out : List Dt} (c : CSt side was now i k out) (f1 : Fit side was) (f2 : Fit side now) (hi : i < was.length) (h : ∀ hk : k < now.length, wse side now[k].p was[i].p = true) :
    atp was was[i].p = was[i] ∧ atp now was[i].p = lv0 ∧ was[i] ≠ lv0 ∧ CSt side was now (i + 1) k (out ++ [gone side was[i]]) := by
  refine ⟨atp_get f1.wrs hi, atp_none fun v hv => ?_, fun e => ?_, by omega, c.lk, ?_, fun j m hj hm h1 h2 => ?_, fun j m hj hm h1 h2 => c.n j m hj hm h1 (by omega)⟩
  · obtain ⟨m, hm, rfl⟩ := List.mem_iff_getElem.1 hv
    intro e
    by_cases hmk : m < k
    · have := c.n m i hm hi hmk (by omega); rw [e, wse_irr] at this; cases this
    · have h1 := h (by omega)
      by_cases e2 : m = k
      · subst e2; rw [e, wse_irr] at h1; cases h1
      · have := wse_trans (wrs_lt f2.wrs (show k < now.length by omega) hm (by omega)) h1
        rw [e, wse_irr] at this; cases this
  · have := (f1 i hi).1.2.1; rw [e] at this; simp [lv0] at this
  · rw [← c.out, chg_gone hi h, List.append_assoc]; rfl
  · by_cases e : j = i
    · subst e
      by_cases e2 : m = k
      · subst e2; exact h hm
      · exact wse_trans (wrs_lt f2.wrs (show k < now.length by omega) hm (by omega)) (h (by omega))
    · exact c.w j m hj hm (by omega) h2
theorem CSt.toldS {side : Int} {was now : List Lv} {i k : Nat} {out : List Dt} (c : CSt side was now i k out) (f1 : Fit side was) (f2 : Fit side now) (hk : k < now.length) (h : ∀ hi : i < was.length, wse side was[i].p now[k].p = true) :
    atp was now[k].p = lv0 ∧ atp now now[k].p = now[k] ∧ lv0 ≠ now[k] ∧ CSt side was now i (k + 1) (out ++ [told side now[k]]) := by
  refine ⟨atp_none fun v hv => ?_, atp_get f2.wrs hk, fun e => ?_, c.li, by omega, ?_, fun j m hj hm h1 h2 => c.w j m hj hm h1 (by omega), fun j m hj hm h1 h2 => ?_⟩
  · obtain ⟨m, hm, rfl⟩ := List.mem_iff_getElem.1 hv
    intro e
    by_cases hmk : m < i
    · have := c.w m k hm hk hmk (by omega); rw [e, wse_irr] at this; cases this
    · have h1 := h (by omega)
      by_cases e2 : m = i
      · subst e2; rw [e, wse_irr] at h1; cases h1
      · have := wse_trans (wrs_lt f1.wrs (show i < was.length by omega) hm (by omega)) h1
        rw [e, wse_irr] at this; cases this
  · have := (f2 k hk).1.2.1; rw [← e] at this; simp [lv0] at this
  · rw [← c.out, chg_told hk h, List.append_assoc]; rfl
  · by_cases e : j = k
    · subst e
      by_cases e2 : m = i
      · subst e2; exact h hm
      · exact wse_trans (wrs_lt f1.wrs (show i < was.length by omega) hm (by omega)) (h (by omega))
    · exact c.n j m hj hm (by omega) h2
theorem CSt.bothS {side : Int} {was now : List Lv} {i k : Nat} {out : List Dt} (c : CSt side was now i k out) (f1 : Fit side was) (f2 : Fit side now) (hi : i < was.length) (hk : k < now.length) (h1 : wse side now[k].p was[i].p = false) (h2 : wse side was[i].p now[k].p = false) :
    atp was was[i].p = was[i] ∧ atp now was[i].p = now[k] ∧ was[i].p = now[k].p ∧ CSt side was now (i + 1) (k + 1) (out ++ if was[i] ≠ now[k] then [told side now[k]] else []) := by
  have e := wse_tri h2 h1
  refine ⟨atp_get f1.wrs hi, by rw [e]; exact atp_get f2.wrs hk, e, by omega, by omega, ?_, fun j m hj hm a b => ?_, fun j m hj hm a b => ?_⟩
  · rw [← c.out, chg_both hi hk h1 h2, List.append_assoc]
  · by_cases e2 : j = i
    · subst e2; rw [e]; exact wrs_lt f2.wrs hk hm (by omega)
    · exact c.w j m hj hm (by omega) (by omega)
  · by_cases e2 : j = k
    · subst e2; rw [← e]; exact wrs_lt f1.wrs hi hm (by omega)
    · exact c.n j m hj hm (by omega) (by omega)
theorem CSt.done {side : Int} {was now : List Lv} {i k : Nat} {out : List Dt} (c : CSt side was now i k out) (hi : ¬ i < was.length) (hk : ¬ k < now.length) : out = chg side was now := by
  rw [← c.out, List.drop_eq_nil_of_le (by omega), List.drop_eq_nil_of_le (by omega), chg, List.append_nil]

/-! ### the messages make what is out of what was -/
theorem dn_pre (x : Dt) (l : List Lv) : ∀ pre : List Lv, (∀ v ∈ pre, wse x.d x.p v.p = true) → dn x (pre ++ l) = pre ++ dn x l
  | [], _ => rfl
  | v :: pre, h => by
    rw [List.cons_append, dn, if_pos (h v List.mem_cons_self), dn_pre x l pre (fun u hu => h u (List.mem_cons_of_mem _ hu))]
    rfl
theorem chg_makes (side : Int) : ∀ (was now pre : List Lv), Wrs side was → Wrs side now → (∀ v ∈ now, v.c ≠ 0) → (∀ v ∈ pre, (∀ u ∈ was, wse side u.p v.p = true) ∧ ∀ u ∈ now, wse side u.p v.p = true) →
    (chg side was now).foldl (fun l x => dn x l) (pre ++ was) = pre ++ now
  | [], [], pre, _, _, _, _ => by simp [chg]
  | a :: was, [], pre, h1, h2, h3, hp => by
    have ih := chg_makes side was [] pre (List.pairwise_cons.1 h1).2 h2 h3 fun v hv => ⟨fun u hu => (hp v hv).1 u (List.mem_cons_of_mem _ hu), (hp v hv).2⟩
    rw [chg, List.foldl_cons, dn_pre _ _ _ (fun v hv => (hp v hv).1 a List.mem_cons_self)]
    simp only [dn, gone, wse_irr, Bool.false_eq_true, if_false, if_true]
    exact ih
  | [], b :: now, pre, h1, h2, h3, hp => by
    have h2' := List.pairwise_cons.1 h2
    have ih := chg_makes side [] now (pre ++ [b]) h1 h2'.2 (fun v hv => h3 v (List.mem_cons_of_mem _ hv)) fun v hv => ⟨fun u hu => by simp at hu, fun u hu => by
      rcases List.mem_append.1 hv with hv | hv
      · exact (hp v hv).2 u (List.mem_cons_of_mem _ hu)
      · have : v = b := by simpa using hv
        subst this; exact h2'.1 u hu⟩
    rw [chg, List.foldl_cons, dn_pre _ _ _ (fun v hv => (hp v hv).2 b List.mem_cons_self)]
    have hc := h3 b List.mem_cons_self
    simp only [dn, told, hc, if_false]
    simpa [Dt.lv] using ih
  | a :: was, b :: now, pre, h1, h2, h3, hp => by
    have h1' := List.pairwise_cons.1 h1
    have h2' := List.pairwise_cons.1 h2
    have hc := h3 b List.mem_cons_self
    rw [chg]
    split
    · rename_i hw
      have ih := chg_makes side was (b :: now) pre h1'.2 h2 h3 fun v hv => ⟨fun u hu => (hp v hv).1 u (List.mem_cons_of_mem _ hu), (hp v hv).2⟩
      rw [List.foldl_cons, dn_pre _ _ _ (fun v hv => (hp v hv).1 a List.mem_cons_self)]
      simp only [dn, gone, wse_irr, Bool.false_eq_true, if_false, if_true]
      exact ih
    · split
      · rename_i hw0 hw
        have ih := chg_makes side (a :: was) now (pre ++ [b]) h1 h2'.2 (fun v hv => h3 v (List.mem_cons_of_mem _ hv)) fun v hv => by
          rcases List.mem_append.1 hv with hv | hv
          · exact ⟨(hp v hv).1, fun u hu => (hp v hv).2 u (List.mem_cons_of_mem _ hu)⟩
          · have : v = b := by simpa using hv
            subst this
            refine ⟨fun u hu => ?_, fun u hu => h2'.1 u hu⟩
            rcases List.mem_cons.1 hu with rfl | hu
            · exact hw
            · exact wse_trans (h1'.1 u hu) hw
        rw [List.foldl_cons, dn_pre _ _ _ (fun v hv => (hp v hv).2 b List.mem_cons_self)]
        have hb : wse side b.p a.p = false := by simpa using hw0
        have hne : a.p ≠ b.p := by intro e; rw [e, wse_irr] at hw; cases hw
        simp only [dn, told, hb, hne, hc, Bool.false_eq_true, if_false]
        simpa [Dt.lv] using ih
      · rename_i hw0 hw
        have hb : wse side b.p a.p = false := by simpa using hw0
        have ha : wse side a.p b.p = false := by simpa using hw
        have e := wse_tri ha hb
        have ih := chg_makes side was now (pre ++ [b]) h1'.2 h2'.2 (fun v hv => h3 v (List.mem_cons_of_mem _ hv)) fun v hv => by
          rcases List.mem_append.1 hv with hv | hv
          · exact ⟨fun u hu => (hp v hv).1 u (List.mem_cons_of_mem _ hu), fun u hu => (hp v hv).2 u (List.mem_cons_of_mem _ hu)⟩
          · have : v = b := by simpa using hv
            subst this
            exact ⟨fun u hu => by rw [← e]; exact h1'.1 u hu, fun u hu => h2'.1 u hu⟩
        by_cases hab : a = b
        · subst hab
          simpa using ih
        · rw [if_pos hab, List.singleton_append, List.foldl_cons, dn_pre _ _ _ (fun v hv => (hp v hv).2 b List.mem_cons_self)]
          simp only [dn, told, hb, Bool.false_eq_true, if_false]
          simp only [e, hc, if_true, if_false]
          simpa [Dt.lv] using ih
termination_by was now => was.length + now.length
end Go.Proofs.Ytinmhhonpflojaa

/- VA: one element put behind a slice; what is known is let go inside a region. -/
namespace Go
namespace V
open Go.RowKit
set_option linter.unusedVariables false
set_option linter.unusedSimpArgs false
section
variable {P : Program} {n : Nat} {w0 : World} {own : List Nat} {e : Env} {hs : Hp} {ops : Array Oper} {rest l : List Oper} {K : Env → Hp → Prop}
theorem JL.heap {hs' : Hp} (k : ∀ w, Sat w0 own hs w → Sat w0 own hs' w) (h : JL P n w0 own ops l e hs' K) : JL P n w0 own ops l e hs K := fun a w hr s => h a w hr (k w s)
theorem JL.sub {e' : Env} (k : Sub e' e) (h : JL P n w0 own ops l e' hs K) : JL P n w0 own ops l e hs K := fun a w hr s => h a w (hr.sub k) s
theorem JL.take (pre : Hp) {fr : Hp} [t : TakeI pre hs fr] (h : JL P n w0 own ops l e pre K) : JL P n w0 own ops l e hs K := JL.heap (fun _ s => s.take) h
theorem fill_one {m : Nat} {cs oc : List Value} (hc : cs.length = m) (ho : oc.length = m) : fillL ((List.range 1).map fun i => (i * m, m)) cs [(0, oc)] = some oc := by
  simp [fillL, hc, ho, splice_whole cs oc (by omega)]
/-- 's = append(s, x)' -/
theorem JL.push {s x : Operand} {T t u E m by_ c d1 d2 ty1 ty2 : Nat} {p1 p2 : String} {a1 a2 : Array Edge} {z vs oc : List Value} {v xv : Value} {h fr : Hp}
    (hs_ : ev e s = some v) (hx : ev e x = some xv) [hT : SliceT P T E] [ht : SliceT P t E] [hu : SliceT P u E] [hE : El P E m by_ z] (ho : OwnS E m v c vs h) [tk : TakeI h hs fr] (hoc : xv.cells = ⟨oc⟩) (hl : oc.length = m) (h1 : ones oc = true)
    (hb : (c + 1) * by_ ≤ 140737488355328) (h63 : c + 1 ≤ 4611686018427387904)
    (k : ∀ b v' h', OwnS E m v' (c + 1) (vs ++ oc) h' → JL P n w0 own ops rest ((d2, v') :: (d1, .slice (some ⟨b, 0, none⟩) 1 1) :: e) (h' ++ fr) K)
    (hs2 : ∀ b, ev ((d1, .slice (some ⟨b, 0, none⟩) 1 1) :: e) s = some v := by intro b; rfl) (hm : Nat.ble m 16777216 = true := by rfl) (hd1 : Nat.blt d1 n = true := by rfl) (hd2 : Nat.blt d2 n = true := by rfl) :
    JL P n w0 own ops (⟨some d1, .buildSlice T 1 #[(0, x)], ty1, p1, a1, none⟩ :: ⟨some d2, .call { callee := .builtin .append, args := #[s, .tmp d1], argTypes := #[t, u] }, ty2, p2, a2, none⟩ :: rest) e hs K := by
  have hzl : z.length = m := by obtain ⟨i, v, _, _, _, _, _, h⟩ := hE.out; exact h
  refine .ef (Eff.buildSlice (parts := [(0, x)]) (vs := [(0, xv)]) (out := oc) (by simp [evp, hx]) (by rw [Nat.one_mul]; exact Nat.le_of_ble_eq_true hm) rfl ?_) ?_ hd1 rfl
  · rw [show ([(0, xv)] : List (Nat × Value)).map (fun p => (p.1, p.2.cells.toList)) = [(0, oc)] from by simp [hoc]]
    exact fill_one (by simp) hl
  · rintro _ _ ⟨b, rfl, rfl⟩
    refine .ef (Eff.append (c := c) (k := 1) (vs := vs) (news := oc) (h := h) (fr := (b, .cells oc E) :: fr) (hs2 b) (show ev ((d1, .slice (some ⟨b, 0, none⟩) 1 1) :: e) (.tmp d1) = some (.slice (some ⟨b, 0, none⟩) 1 1) by simp [ev, get]) ho ((tk.out.cons _).trans List.perm_middle.symm) (fun w s' => Src.of_at s' .whole (by rw [hl, Nat.one_mul])) (by rw [hl, Nat.one_mul]) h1 hb h63) ?_ hd2 rfl
    rintro v' _ ⟨h', k', rfl⟩
    exact .heap (fun _ s' => s'.sub (List.Sublist.append_left (List.sublist_cons_self _ _) _)) (k b v' h' k')
end
/-! ### rows of records -/
theorem at_sub {w0 : World} {own : List Nat} {hs : Hp} {b o i : Nat} {vs us : List Value} (h : At w0 own hs ⟨b, o, none⟩ vs) (hu : ∀ (j : Nat) (u : Value), us[j]? = some u → vs[i + j]? = some u) : At w0 own hs ⟨b, o + i, none⟩ us := by
  intro w s j u hj
  have := h w s (i + j) u (hu j u hj)
  rw [add_none] at this ⊢
  rw [Nat.add_assoc]; exact this
section
variable {α : Type} (f : α → List Value) (m : Nat) (hm : ∀ a, (f a).length = m) {w0 : World} {own : List Nat} {hs : Hp} {b o i : Nat} {l : List α} {z : Int}
include hm
theorem recAt (h : At w0 own hs ⟨b, o, none⟩ (l.flatMap f)) (hi : i < l.length) (hz : z.toNat = i := by omega) : At w0 own hs ⟨b, o + z.toNat * m, none⟩ (f l[i]) := by
  subst hz
  refine at_sub h fun j u hj => ?_
  rw [flatMap_get f m hm l _ j hi (by have := (List.getElem?_eq_some_iff.1 hj).1; rw [hm] at this; exact this)]; exact hj
theorem fldAt (h : At w0 own hs ⟨b, o, none⟩ (l.flatMap f)) (hi : i < l.length) (k : Nat) {v : Value} (hv : (f l[i])[k]? = some v) (hz : z.toNat = i := by omega) : At w0 own hs ⟨b, o + z.toNat * m + k, none⟩ [v] := by
  subst hz
  rw [Nat.add_assoc]
  refine at_sub h fun j u hj => ?_
  match j, hj with
  | 0, hj =>
    simp at hj; subst hj
    rw [Nat.add_zero, flatMap_get f m hm l _ k hi (by have := (List.getElem?_eq_some_iff.1 hv).1; rw [hm] at this; exact this)]; exact hv
theorem Rd.recs {w : World} {no : List Nat} {A : Option Addr} (h : Rd w no A (l.flatMap f)) (h0 : 0 < l.length) (hm0 : 0 < m) : ∃ b o, A = some ⟨b, o, none⟩ ∧ ∀ hs, At w no hs ⟨b, o, none⟩ (l.flatMap f) := by
  obtain ⟨b, o, rfl, -⟩ := h.base (by rw [flatMap_length f m hm]; exact Nat.mul_pos h0 hm0)
  exact ⟨b, o, rfl, fun hs => h.whole⟩
theorem rows_take (k : Nat) : (l.take k).flatMap f = (l.flatMap f).take (k * m) := by
  induction l generalizing k with
  | nil => simp
  | cons v l ih =>
    cases k with
    | zero => simp
    | succ k =>
      have e1 : (f v).take ((k + 1) * m) = f v := List.take_of_length_le (by rw [hm, Nat.succ_mul]; omega)
      have e2 : (k + 1) * m - (f v).length = k * m := by rw [hm, Nat.succ_mul]; omega
      rw [List.take_succ_cons, List.flatMap_cons, List.flatMap_cons, ih, List.take_append, e1, e2]
theorem rows_drop (k : Nat) : (l.drop k).flatMap f = (l.flatMap f).drop (k * m) := by
  induction l generalizing k with
  | nil => simp
  | cons v l ih =>
    cases k with
    | zero => simp
    | succ k =>
      have e1 : (f v).drop ((k + 1) * m) = [] := List.drop_of_length_le (by rw [hm, Nat.succ_mul]; omega)
      have e2 : (k + 1) * m - (f v).length = k * m := by rw [hm, Nat.succ_mul]; omega
      rw [List.drop_succ_cons, List.flatMap_cons, ih, List.drop_append, e1, e2, List.nil_append]
end
theorem rows_ones {α : Type} (f : α → List Value) (h : ∀ a, ones (f a) = true) (l : List α) : ones (l.flatMap f) = true := by
  simp only [ones, List.all_flatMap, List.all_eq_true]
  intro a _ x hx
  exact ones_mem (h a) x hx
/-- a slice that was cut -/
theorem Rd.cut {w : World} {no : List Nat} {A : Option Addr} {vs : List Value} {cap k m : Nat} (h : Rd w no A vs) (hc : vs.length ≤ cap * m) : Rd w no (cutA A cap k m) (vs.drop (k * m)) := by
  intro j v hv
  rw [List.getElem?_drop] at hv
  obtain ⟨b, o, rfl, hb, hv'⟩ := h _ v hv
  have hlt := (List.getElem?_eq_some_iff.1 hv).1
  have hne : cap ≠ k := by intro e; subst e; omega
  unfold cutA
  rw [if_neg hne]
  refine ⟨b, o + k * m, by simp [add_none], hb, ?_⟩
  rw [Nat.add_assoc]; exact hv'
/-- what an own slice holds, loaded -/
theorem OwnS.at0 {w0 : World} {own : List Nat} {E m n n' c b o : Nat} {vs : List Value} {h hs : Hp} (k : OwnS E m (.slice (some ⟨b, o, none⟩) n' c) n vs h) (hh : h ⊆ hs) : At w0 own hs ⟨b, o, none⟩ vs := by
  have := k.atN (i := 0) (w0 := w0) (own := own) hh (us := vs) (fun j v hv => by rw [Nat.zero_add]; exact hv)
  exact this
/-- .. cells of it -/
theorem OwnS.spliceAt {E m n n' c b o i : Nat} {vs l us : List Value} (k : OwnS E m (.slice (some ⟨b, o, none⟩) n' c) n vs [(b, .cells l E)]) (hi : i + us.length ≤ n * m) : OwnS E m (.slice (some ⟨b, o, none⟩) n' c) n (splice vs i us) [(b, .cells (splice l (o + i) us) E)] := by
  obtain ⟨hl, k⟩ := k
  refine ⟨by rw [splice_length _ _ _ (by omega)]; exact hl, ?_⟩
  rcases k with ⟨h1, h2, h3⟩ | ⟨b', o', cap, l', h1, h2, h3, h4, h5⟩
  · cases h3
  · cases h1; cases h2
    have hn := Nat.mul_le_mul_right m h3
    refine .inr ⟨b, o, c, splice l (o + i) us, rfl, rfl, h3, by rw [splice_length _ _ _ (by omega)]; exact h4, ?_⟩
    apply List.ext_getElem?
    intro j
    rw [List.getElem?_take, List.getElem?_drop, splice_get _ _ _ _ (by omega), splice_get _ _ _ _ (by omega), ← h5, List.getElem?_take, List.getElem?_drop]
    by_cases hj : j < n * m
    · rw [if_pos hj, if_pos hj]
      by_cases e1 : j < i
      · rw [if_pos (by omega), if_pos e1]
      · rw [if_neg (by omega), if_neg e1]
        by_cases e2 : j < i + us.length
        · rw [if_pos (by omega), if_pos e2]; congr 1; omega
        · rw [if_neg (by omega), if_neg e2]
    · rw [if_neg hj, if_neg hj, if_neg (by omega), if_neg (by omega)]
/-- one cell of an own slice is turned -/
theorem OwnS.setAt {E m n n' c b o i : Nat} {vs l : List Value} {v : Value} (k : OwnS E m (.slice (some ⟨b, o, none⟩) n' c) n vs [(b, .cells l E)]) (hi : i < n * m) : OwnS E m (.slice (some ⟨b, o, none⟩) n' c) n (vs.set i v) [(b, .cells (l.set (o + i) v) E)] := by
  have h := k.spliceAt (i := i) (us := [v]) (by simp; omega)
  obtain ⟨hl, k⟩ := k
  rcases k with ⟨h1, h2, h3⟩ | ⟨b', o', cap, l', h1, h2, h3, h4, h5⟩
  · cases h3
  · cases h1; cases h2
    have hn := Nat.mul_le_mul_right m h3
    rw [splice_one vs i v (by omega), splice_one l (o + i) v (by omega)] at h
    exact h
theorem OwnS.src {P : Program} {w0 w : World} {own : List Nat} {hs : Hp} {E m n : Nat} {v : Value} {vs : List Value} {h : Hp} (k : OwnS E m v n vs h) (s : Sat w0 own hs w) (hh : h ⊆ hs) (hm : 0 < m) : Src P w m v n vs := by
  obtain ⟨A, c, rfl⟩ := k.slice
  exact (OwnS.rd k s (no := []) hh (by simp)).src k.1 hm
section
variable {P : Program} {n : Nat} {w0 : World} {own : List Nat} {e : Env} {hs : Hp} {ops : Array Oper} {rest l : List Oper} {K : Env → Hp → Prop}
/-- 's = append(s, t...)' -/
theorem JL.appT {s x : Operand} {t u E m by_ c d ty k : Nat} {p : String} {af : Array Edge} {z vs news : List Value} {v xv : Value} {h fr : Hp}
    (hs_ : ev e s = some v) (hx : ev e x = some xv) [ht : SliceT P t E] [hu : SliceT P u E] [hE : El P E m by_ z] (ho : OwnS E m v c vs h) [tk : TakeI h hs fr] (hsrc : ∀ w, Sat w0 own hs w → Src P w m xv k news) (hl : news.length = k * m) (h1 : ones news = true)
    (hb : (c + k) * by_ ≤ 140737488355328) (h63 : c + k ≤ 4611686018427387904) (kk : ∀ v' h', OwnS E m v' (c + k) (vs ++ news) h' → JL P n w0 own ops rest ((d, v') :: e) (h' ++ fr) K) (hd : Nat.blt d n = true := by rfl) :
    JL P n w0 own ops (⟨some d, .call { callee := .builtin .append, args := #[s, x], argTypes := #[t, u] }, ty, p, af, none⟩ :: rest) e hs K :=
  .ef (Eff.append (c := c) (k := k) (vs := vs) (news := news) (h := h) (fr := fr) hs_ hx ho tk.out hsrc hl h1 hb h63) (fun v' _ ⟨h', k', e⟩ => by subst e; exact kk v' h' k') hd rfl
end
/-! ### regions in which two effects may come up in either order -/
section
variable {P : Program} {n : Nat} {w0 : World} {own : List Nat} {e : Env} {hs F : Hp} {K : Env → Hp → Prop} {m : Nat} {listed : Array Bool}
variable {d : Nat} {ty : TypeId} {pos : String} {aft : Array Edge} {g : Option (Nat × Bool)}
/-- the first operations, in an order of ours; then by hand -/
theorem JC.drawX {id : Nat} {Q : Post} {l : List Oper} (is : List Nat) (F : Hp) (hF : F ⊆ hs) (hm : P.follows .mixedOrders = true)
    (hB : (ordB l.toArray (pickL l is) is (Array.replicate l.length false) && Nat.beq (pickL l is).length is.length && Nat.ble is.length l.length) = true)
    (h : JK P n w0 own l.toArray F (pickL l is) e hs (fun e' hs' => JD P n w0 own l.toArray F (l.length - is.length) (marks_ is (Array.replicate l.length false)) e' hs' (fun e hs => Q .normal e hs))) : JC P n w0 own (.region id l.toArray true) e hs Q := by
  rw [Bool.and_eq_true, Bool.and_eq_true] at hB
  obtain ⟨⟨h1, h2⟩, h3⟩ := hB
  have h2 := Nat.eq_of_beq_eq_true h2
  have h3 := Nat.le_of_ble_eq_true h3
  refine JC.draw F hF hm ?_
  have := h (l.length - is.length) is (Array.replicate l.length false) (fun e hs => Q .normal e hs) (pickL_nums is h1 h2) h1 hF (fun e' hs' _ ke => ke)
  rw [h2, show is.length + (l.length - is.length) = l.length by omega] at this
  simpa using this
theorem pickL_nums' {l : List Oper} : ∀ (is : List Nat), (pickL l is).length = is.length → Nums l.toArray (pickL l is) is
  | [], _ => trivial
  | i :: is, hl => by
    unfold pickL at hl ⊢
    cases ho : l[i]? with
    | none => rw [ho] at hl; simp at hl
    | some o =>
      rw [ho] at hl
      simp only at hl ⊢
      exact ⟨by simpa using ho, pickL_nums' is (by simpa using hl)⟩
/-- the others, in an order of ours -/
theorem JD.run {l : List Oper} (is : List Nat) (hF : F ⊆ hs) (hB : (ordB l.toArray (pickL l is) is listed && doneB l.toArray (marks_ is listed) && Nat.beq (pickL l is).length is.length && Nat.beq is.length m) = true)
    (h : JK P n w0 own l.toArray F (pickL l is) e hs K) : JD P n w0 own l.toArray F m listed e hs K := by
  rw [Bool.and_eq_true, Bool.and_eq_true, Bool.and_eq_true] at hB
  obtain ⟨⟨⟨h1, h2⟩, h3⟩, h4⟩ := hB
  have h3 := Nat.eq_of_beq_eq_true h3
  have h4 := Nat.eq_of_beq_eq_true h4
  have := h 0 is listed K (pickL_nums' is h3) h1 hF (fun e' hs' _ ke => JD.done h2 ke)
  rw [h3, h4] at this
  simpa using this
theorem JD.heap {ops : Array Oper} {hs' : Hp} (k : ∀ w, Sat w0 own hs w → Sat w0 own hs' w) (hF : F ⊆ hs') (h : JD P n w0 own ops F m listed e hs' K) : JD P n w0 own ops F m listed e hs K := fun a w hr s _ => h a w hr (k w s) hF
theorem JS.ef {ops : Array Oper} {i : Nat} {op : Op} {R : Value → Hp → Prop} (hi : ops[i]? = some ⟨some d, op, ty, pos, aft, g⟩) (h : Eff P n w0 own e hs op R) (hF : ∀ v hs', R v hs' → F ⊆ hs → F ⊆ hs')
    (k : ∀ v hs', R v hs' → JD P n w0 own ops F m (listed.setIfInBounds i true) ((d, v) :: e) hs' K) (hdn : Nat.blt d n = true := by rfl) (hg : wantB ops e g = some true := by rfl) : JS P n w0 own ops F m listed e hs K i := by
  intro a w hr s hf
  unfold wpOp
  simp only [hi]
  rw [if_pos (wanted_of hr hg)]
  exact .inl (h a w _ _ _ _ _ _ _ hr s fun v' h' w' r s' => ⟨⟨_, s', hF _ _ r hf⟩, k _ _ r _ _ (hr.put (Nat.le_of_ble_eq_true hdn) _) s' (hF _ _ r hf)⟩)
theorem JS.nw {ops : Array Oper} {i : Nat} {op : Op} {c : Ch} (hi : ops[i]? = some ⟨some d, op, ty, pos, aft, g⟩) (h : Eff P n w0 own e hs op (NewP hs c))
    (k : ∀ b, JD P n w0 own ops F m (listed.setIfInBounds i true) ((d, .pointer (some ⟨b, 0, none⟩)) :: e) ((b, c) :: hs) K) (hdn : Nat.blt d n = true := by rfl) (hg : wantB ops e g = some true := by rfl) : JS P n w0 own ops F m listed e hs K i :=
  .ef hi h (fun v h' ⟨b, _, e2⟩ f => by subst e2; exact fun p hp => List.mem_cons_of_mem _ (f hp)) (fun v h' ⟨b, e1, e2⟩ => by subst e1; subst e2; exact k b) hdn hg
theorem JS.cl {ops : Array Oper} {i f : Nat} {fo : Operand} {args : List Operand} {at_ : Array TypeId} {cap vals : List Value} {R : Value → Hp → Prop}
    (hi : ops[i]? = some ⟨some d, .call { callee := .value fo, args := ⟨args⟩, argTypes := at_ }, ty, pos, aft, g⟩) (hf : ev e fo = some (.func (.func f) #[] ⟨cap⟩)) (ha : evs e args = some vals) (hc : ∀ w, Sat w0 own hs w → Does P f (vals ++ cap) [] w R)
    (k : ∀ v h, R v h → JD P n w0 own ops F m (listed.setIfInBounds i true) ((d, v) :: e) (h ++ hs) K) [hg' : FnT P f] (hdn : Nat.blt d n = true := by rfl) (hg : wantB ops e g = some true := by rfl) : JS P n w0 own ops F m listed e hs K i :=
  .ef hi (.call0 hf ha hc) (fun _ _ ⟨_, _, h3⟩ f => by subst h3; exact fun p hp => List.mem_append_right _ (f hp)) (fun v _ ⟨h, h1, h3⟩ => by subst h3; exact k v h h1) hdn hg
theorem JK.nw {ops : Array Oper} {rest : List Oper} {op : Op} {c : Ch} (h : Eff P n w0 own e hs op (NewP hs c)) (kk : ∀ b, JK P n w0 own ops F rest ((d, .pointer (some ⟨b, 0, none⟩)) :: e) ((b, c) :: hs) K)
    (he : isEff ⟨some d, op, ty, pos, aft, g⟩ = true := by rfl) (hdn : Nat.blt d n = true := by rfl) (hg : wantB ops e g = some true := by rfl) : JK P n w0 own ops F (⟨some d, op, ty, pos, aft, g⟩ :: rest) e hs K :=
  .ef h (fun v h' ⟨b, _, e2⟩ f => by subst e2; exact fun p hp => List.mem_cons_of_mem _ (f hp)) (fun v h' ⟨b, e1, e2⟩ => by subst e1; subst e2; exact kk b) he hdn hg
end
/-- a slice of its own, whatever it holds -/
def AnyS (E m : Nat) (v : Value) (n : Nat) (h : Hp) : Prop := ∃ vs, OwnS E m v n vs h
theorem AnyS.sl {E m n : Nat} {v : Value} {h : Hp} (k : AnyS E m v n h) : ∃ A c, v = .slice A n c := by
  obtain ⟨vs, k⟩ := k
  exact k.slice
theorem AnyS.put {E m n c i : Nat} {A : Option Addr} {h : Hp} (k : AnyS E m (.slice A n c) n h) (hi : i < n) : ∃ b o l, A = some ⟨b, o, none⟩ ∧ h = [(b, .cells l E)] ∧ o + n * m ≤ l.length ∧ ∀ us : List Value, us.length = m → AnyS E m (.slice A n c) n [(b, .cells (splice l (o + i * m) us) E)] := by
  obtain ⟨vs, k⟩ := k
  obtain ⟨b, o, l, rfl, -, rfl, hc, hl, hv⟩ := k.some_ (by omega)
  have := Nat.mul_le_mul_right m hc
  have hm : i * m + m ≤ n * m := by rw [← Nat.succ_mul]; exact Nat.mul_le_mul_right m hi
  exact ⟨b, o, l, rfl, rfl, by omega, fun us hu => ⟨_, OwnS.spliceAt (i := i * m) k (by rw [hu]; exact hm)⟩⟩
theorem Sat.apart {w0 w : World} {own : List Nat} {hs a b fr : Hp} (s : Sat w0 own hs w) [h : TakeI (a ++ b) hs fr] : ∀ x ∈ bl a, x ∉ bl b := (s.take (pre := a ++ b)).disj
theorem Rd.blk {w0 w : World} {own : List Nat} {hs : Hp} {b T : Nat} {l : List Value} (s : Sat w0 own hs w) [hb : Mem b (.cells l T) hs] : Rd w [] (some ⟨b, 0, none⟩) l :=
  Rd.chunk s (T := T) (l := l) (by simp) (fun j v hv => by rw [Nat.zero_add]; exact hv)
section
variable {P : Program} {n : Nat} {w0 : World} {own : List Nat} {e : Env} {hs F : Hp} {K : Env → Hp → Prop} {m : Nat} {listed : Array Bool}
variable {d : Nat} {ty : TypeId} {pos : String} {aft : Array Edge} {g : Option (Nat × Bool)}
/-- a call that is lent blocks, where two effects may come up -/
theorem JS.clT {ops : Array Oper} {i f : Nat} {fo : Operand} {args : List Operand} {at_ : Array TypeId} {cap vals : List Value} {R : Value → Hp → Prop} (pre : Hp) {fr : Hp}
    (hi : ops[i]? = some ⟨some d, .call { callee := .value fo, args := ⟨args⟩, argTypes := at_ }, ty, pos, aft, g⟩) (hf : ev e fo = some (.func (.func f) #[] ⟨cap⟩)) (ha : evs e args = some vals) [tk : TakeI pre hs fr] (hc : ∀ w, Sat w0 own hs w → Does P f (vals ++ cap) pre w R)
    (hF : ∀ h, F ⊆ h ++ fr) (k : ∀ v h, R v h → JD P n w0 own ops F m (listed.setIfInBounds i true) ((d, v) :: e) (h ++ fr) K) [hg' : FnT P f] (hdn : Nat.blt d n = true := by rfl) (hg : wantB ops e g = some true := by rfl) : JS P n w0 own ops F m listed e hs K i :=
  .ef hi (.callT pre hf ha hc) (fun _ _ ⟨h, _, h3⟩ f => by subst h3; exact hF h) (fun v _ ⟨h, h1, h3⟩ => by subst h3; exact k v h h1) hdn hg
theorem JK.clT {ops : Array Oper} {rest : List Oper} {f : Nat} {fo : Operand} {args : List Operand} {at_ : Array TypeId} {cap vals : List Value} {R : Value → Hp → Prop} (pre : Hp) {fr : Hp}
    (hf : ev e fo = some (.func (.func f) #[] ⟨cap⟩)) (ha : evs e args = some vals) [tk : TakeI pre hs fr] (hc : ∀ w, Sat w0 own hs w → Does P f (vals ++ cap) pre w R) (hF : ∀ h, F ⊆ h ++ fr) (kk : ∀ v h, R v h → JK P n w0 own ops F rest ((d, v) :: e) (h ++ fr) K) [hg : FnT P f]
    (hdn : Nat.blt d n = true := by rfl) (hw : wantB ops e g = some true := by rfl) :
    JK P n w0 own ops F (⟨some d, .call { callee := .value fo, args := ⟨args⟩, argTypes := at_ }, ty, pos, aft, g⟩ :: rest) e hs K :=
  JK.ef (.callT pre hf ha hc) (fun _ _ ⟨h, _, h3⟩ f => by subst h3; exact hF h) (fun v _ ⟨h, h1, h3⟩ => by subst h3; exact kk v h h1) rfl hdn hw
end
end V
end Go

/- What makes one side's levels into others: the program's changes and the document's; slices.Clone of levels. -/
namespace Go.Proofs.Ytinmhhonpflojaa
open Go.V
set_option linter.unusedVariables false
set_option linter.unusedSimpArgs false

theorem rd_cut {w : World} {no : List Nat} {A : Option Addr} {vs : List Value} {cap k m : Nat} (h : Rd w no A vs) (hc : vs.length ≤ cap * m) : Rd w no (cutA A cap k m) (vs.drop (k * m)) := by
  intro j v hv
  rw [List.getElem?_drop] at hv
  obtain ⟨b, o, rfl, hb, hv'⟩ := h _ v hv
  have hlt := (List.getElem?_eq_some_iff.1 hv).1
  have hne : cap ≠ k := by intro e; subst e; omega
  unfold cutA
  rw [if_neg hne]
  refine ⟨b, o + k * m, by simp [add_none], hb, ?_⟩
  rw [Nat.add_assoc]; exact hv'
abbrev LOwn (v : Value) (l : List Lv) (h : Hp) : Prop := OwnS 109 3 v l.length (lrows l) h
abbrev DOwn (v : Value) (l : List Dt) (h : Hp) : Prop := OwnS 24 6 v l.length (drows l) h

set_option maxRecDepth 10000 in
theorem lclone_ok (w : World) (A : Option Addr) (len cap : Nat) (l : List Lv) (hx : Rd w [] A (lrows l)) (hl : len = l.length) (hb : len ≤ 5864062014805) :
    Does Try.prog 42 [.slice A len cap] [] w (fun v hs => LOwn v l hs) := by
  refine Does.less (Does.of (n := 8) Try.func42 rfl rfl rfl rfl ?_)
  refine .seq ((.region (.v (.assign rfl) (.nil ?_))))
  refine .seq (.seq ((.region (.v (.move rfl) (.v (.eql_slice_nil rfl rfl) (.nil ?_))))))
  refine .cond rfl (fun h1 => ?_) (fun h1 => .skip ?_)
  · have hA : A = none := by simpa using h1
    subst hA
    have h0 : l.length = 0 := by
      have := congrArg List.length hx.empty
      rw [lrows_length] at this
      simp only [List.length_nil] at this; omega
    have hl0 : l = [] := List.eq_nil_of_length_eq_zero h0
    subst hl0
    refine .seq ((.region (.v (.assign rfl) (.nil ?_))))
    exact .ret ⟨[_], ⟨rfl, trivial⟩, [], fun _ s => s, OwnS.nil _ _⟩
  · refine .seq ((.region (.ef (.buildSlice (out := []) rfl (by decide) rfl rfl) ?_)))
    rintro _ _ ⟨b6, rfl, rfl⟩
    refine .v (.move rfl) ?_
    refine .ef (.append (c := 0) (k := len) (vs := []) (news := lrows l) (h := [(b6, .cells [] 109)]) (fr := []) rfl rfl ⟨rfl, .inr ⟨b6, 0, 0, [], rfl, rfl, by omega, by simp, by simp⟩⟩ (by exact List.Perm.refl _)
      (fun w' s => (hx.keep0 s).src (by rw [lrows_length, hl]) (by omega)) (by rw [lrows_length, hl]) (lrows_ones _) (by omega) (by omega)) ?_
    rintro v _ ⟨h', k', rfl⟩
    refine .v (.assign rfl) (.nil ?_)
    refine .ret ⟨[_], ⟨rfl, trivial⟩, h', fun _ s => by simpa using s, ?_⟩
    rw [Nat.zero_add, hl] at k'
    exact k'

structure CS where
  x : List Lv
  y : List Lv
  A1 : Option Addr
  c1 : Nat
  A2 : Option Addr
  c2 : Nat
  out : List Dt
  v : Value
  h : Hp
structure CS.I (side : Int) (w : World) (was now : List Lv) (N : Nat) (x : CS) : Prop where
  r1 : Rd w [] x.A1 (lrows x.x)
  r2 : Rd w [] x.A2 (lrows x.y)
  k1 : x.x.length ≤ x.c1
  k2 : x.y.length ≤ x.c2
  o : DOwn x.v x.out x.h
  c : x.out ++ chg side x.x x.y = chg side was now
  b : x.out.length + x.x.length + x.y.length ≤ N
theorem tolds (side : Int) (v : Lv) : (told side v).cells = [.int .u64 0, .int .i64 1, .int .i64 side, .int .i64 v.p, .int .u64 v.q, .int .i64 v.c] := rfl
theorem gones (side : Int) (v : Lv) : (gone side v).cells = [.int .u64 0, .int .i64 1, .int .i64 side, .int .i64 v.p, .int .u64 0, .int .i64 0] := rfl
theorem CS.I.cut1 {side : Int} {w : World} {was now : List Lv} {N : Nat} {x : CS} {a : Lv} {x' : List Lv} (i : CS.I side w was now N x) (e : x.x = a :: x') : Rd w [] (cutA x.A1 x.c1 (1 : Int).toNat 3) (lrows x') ∧ x'.length ≤ x.c1 - (1 : Int).toNat ∧ x.x.length - (1 : Int).toNat = x'.length := by
  have h1 := rd_cut (k := 1) i.r1 (cap := x.c1) (m := 3) (by rw [lrows_length]; have := i.k1; omega)
  have h2 := i.k1
  rw [e] at h1 h2 ⊢
  refine ⟨?_, ?_, ?_⟩
  · have e2 : (lrows (a :: x')).drop (1 * 3) = lrows x' := by rw [← lrows_drop]; rfl
    rw [e2] at h1; exact h1
  · simp at h2 ⊢; omega
  · simp
theorem CS.I.cut2 {side : Int} {w : World} {was now : List Lv} {N : Nat} {x : CS} {a : Lv} {x' : List Lv} (i : CS.I side w was now N x) (e : x.y = a :: x') : Rd w [] (cutA x.A2 x.c2 (1 : Int).toNat 3) (lrows x') ∧ x'.length ≤ x.c2 - (1 : Int).toNat ∧ x.y.length - (1 : Int).toNat = x'.length := by
  have h1 := rd_cut (k := 1) i.r2 (cap := x.c2) (m := 3) (by rw [lrows_length]; have := i.k2; omega)
  have h2 := i.k2
  rw [e] at h1 h2 ⊢
  refine ⟨?_, ?_, ?_⟩
  · have e2 : (lrows (a :: x')).drop (1 * 3) = lrows x' := by rw [← lrows_drop]; rfl
    rw [e2] at h1; exact h1
  · simp at h2 ⊢; omega
  · simp
theorem head_of {l : List Lv} (h : 0 < l.length) : ∃ a l', l = a :: l' := by
  cases l with
  | nil => simp at h
  | cons a l' => exact ⟨a, l', rfl⟩
theorem rd_head {w : World} {no : List Nat} {A : Option Addr} {l : List Lv} (h : Rd w no A (lrows l)) : ∃ (a : Lv) (b o : Nat), 0 < l.length → A = some ⟨b, o, none⟩ ∧ (∃ l', l = a :: l') ∧ ∀ hs, At w no hs ⟨b, o + (0 : Int).toNat * 3 + 0, none⟩ [.int .i64 a.p] ∧ At w no hs ⟨b, o + (0 : Int).toNat * 3, none⟩ a.cells := by
  cases l with
  | nil => exact ⟨⟨0, 0, 0⟩, 0, 0, fun h => by simp at h⟩
  | cons a l' =>
    obtain ⟨b, o, rfl, hA⟩ := Rd.lev h (by simp)
    exact ⟨a, b, o, fun _ => ⟨rfl, ⟨l', rfl⟩, fun hs => ⟨lpAt (i := 0) (hA hs) (by simp), lvAt (i := 0) (hA hs) (by simp)⟩⟩⟩
set_option maxRecDepth 20000 in
set_option maxHeartbeats 1000000 in
theorem changes_ok (w : World) (side : Int) (A1 A2 : Option Addr) (c1 c2 : Nat) (was now : List Lv) (h1 : Rd w [] A1 (lrows was)) (h2 : Rd w [] A2 (lrows now)) (k1 : was.length ≤ c1) (k2 : now.length ≤ c2) (N : Nat) (hN : was.length + now.length ≤ N) (hb : N ≤ 10000000) :
    Does Try.prog 43 [.int .i64 side, .slice A1 was.length c1, .slice A2 now.length c2] [] w (fun v hs => DOwn v (chg side was now) hs) := by
  refine Does.less (Does.of (n := 94) Try.func43 rfl rfl rfl rfl ?_)
  refine .seq ((.region (.v (.assign rfl) (.nil ?_))))
  refine .seq ((.region (.v (.assign rfl) (.nil ?_))))
  refine .seq (.block (.loop (X := CS) (fun x => [(0, .int .i64 side), (1, .slice x.A1 x.x.length x.c1), (2, .slice x.A2 x.y.length x.c2), (7, x.v)]) (fun x => x.h) (CS.I side w was now N) (fun x => x.x.length + x.y.length) ⟨was, now, A1, c1, A2, c2, [], .slice none 0 0, []⟩
    ⟨h1, h2, k1, k2, OwnS.nil _ _, by simp, by simpa using hN⟩ (.cons rfl (.cons rfl (.cons rfl (.cons rfl (.nil _))))) (fun _ s => s) ?_))
  intro x hI
  obtain ⟨a, b1, o1, hx⟩ := rd_head hI.r1
  obtain ⟨b, b2, o2, hy⟩ := rd_head hI.r2
  have hNb := hI.b
  refine .seq (.seq ((.region (.v (.move rfl) (.v (.len rfl) (.v (.gtr rfl rfl) (.v (.move rfl) (.or 11 14 3 3 rfl rfl (fun g1 => .v (.move rfl) (.v (.len rfl) (.v (.gtr rfl rfl) (.nil ⟨rfl, rfl, rfl, rfl⟩)))) (.nil ?_)))))))))
  refine .cond rfl (fun h1 => .skip ?_) (fun h1 => .exit ?_)
  · simp only [Bool.and_eq_true, Bool.or_eq_true, Bool.not_eq_true', Bool.and_eq_false_iff, Bool.or_eq_false_iff, Bool.not_eq_false', decide_eq_true_eq, decide_eq_false_iff_not, Bool.false_eq_true, false_iff] at h1
    refine .block (.block (.seq ((.drawK _ (fun _ h => h) (by kernel_rfl) (by kernel_rfl) ?_))))
    refine .v (fun _ f => .move rfl) (.v (fun _ f => .len rfl) (.v (fun _ f => .eqi rfl rfl) (.v (fun _ f => .move rfl) (.or (b2 := decide (0 < (x.x.length : Int)) && wse side b.p a.p) 39 54 15 5 rfl rfl (fun g2 => have g2' : ¬ ((x.y.length : Int) = 0) := of_decide_eq_false g2; .v (fun _ f => .move rfl) (.v (fun _ f => .len rfl) (.v (fun _ f => .gtr rfl rfl) (.v (fun _ f => .move rfl) (.and 43 53 10 10 rfl rfl (fun g3 => have g3' : 0 < (x.x.length : Int) := of_decide_eq_true g3; .v (fun _ f => .move rfl) (.v (fun _ f => .move rfl) (.v (fun _ f => .indexAddr (b := b2) (o := o2) (len := x.y.length) (cap := x.c2) (by rw [← (hy (by omega)).1]; rfl) rfl (by omega) (by omega)) (.v (fun _ f => .fieldAddr rfl) (.v (fun _ f => .load (v := .int .i64 b.p) rfl ((hy (by omega)).2.2 _).1) (.v (fun _ f => .move rfl) (.v (fun _ f => .indexAddr (b := b1) (o := o1) (len := x.x.length) (cap := x.c1) (by rw [← (hx (by omega)).1]; rfl) rfl (by omega) (by omega)) (.v (fun _ f => .fieldAddr rfl) (.v (fun _ f => .load (v := .int .i64 a.p) rfl ((hx (by omega)).2.2 _).1) (.pc (v := .bool (wse side b.p a.p)) rfl rfl (fun w s => worse_ok w side b.p a.p) (.nil ⟨rfl, rfl, rfl, rfl⟩))))))))))) (.nil ⟨rfl, rfl, rfl, rfl⟩)))))) (.v (fun _ f => .assign rfl) (.nil ?_))))))
    refine .cond rfl (fun h2 => ?_) (fun h2 => ?_)
    · simp only [Bool.and_eq_true, Bool.or_eq_true, Bool.not_eq_true', Bool.and_eq_false_iff, Bool.or_eq_false_iff, Bool.not_eq_false', decide_eq_true_eq, decide_eq_false_iff_not, Bool.false_eq_true, false_iff] at h2
      have hpos : 0 < x.x.length := by omega
      obtain ⟨e1, ⟨x', e2⟩, hat⟩ := hx hpos
      obtain ⟨q1, q2, q3⟩ := hI.cut1 e2
      have hch : chg side x.x x.y = gone side a :: chg side x' x.y := by
        rw [e2]
        rcases h2 with h2 | h2
        · have : x.y = [] := List.eq_nil_of_length_eq_zero (by omega)
          rw [this, chg_nil_r]
        · by_cases hy0 : 0 < x.y.length
          · obtain ⟨-, ⟨y', ey⟩, -⟩ := hy hy0
            rw [ey, chg, if_pos h2.2]
          · have : x.y = [] := List.eq_nil_of_length_eq_zero (by omega)
            rw [this, chg_nil_r]
      refine .seq ((.region (.v (.move rfl) (.v (.move rfl) (.v (.move rfl) (.v (.indexAddr (b := b1) (o := o1) (len := x.x.length) (cap := x.c1) (by rw [← e1]; rfl) rfl (by omega) (by omega)) (.v (.fieldAddr rfl) (.v (.load (v := .int .i64 a.p) rfl (hat _).1) (.v (.build (out := (gone side a).cells) rfl rfl) (.push (vs := drows x.out) (c := x.out.length) (oc := (gone side a).cells) rfl rfl hI.o rfl rfl rfl (by omega) (by omega) ?_))))))))))
      intro b9 v' h' k'
      refine .v (.assign rfl) (.nil ?_)
      refine .region (.v (.move rfl) (.v (.slLo rfl rfl (by omega) (by omega)) (.v (.assign rfl) (.nil ?_))))
      refine ⟨⟨x', x.y, cutA x.A1 x.c1 (1 : Int).toNat 3, x.c1 - (1 : Int).toNat, x.A2, x.c2, x.out ++ [gone side a], v', h'⟩, ⟨q1, hI.r2, q2, hI.k2, ?_, ?_, ?_⟩, ?_, .cons rfl (.cons (by rw [← q3]; rfl) (.cons rfl (.cons rfl (.nil _)))), fun _ s => s.take⟩
      · unfold DOwn; rw [List.length_append, drows_app]; simpa [drows] using k'
      · rw [← hI.c, hch]; simp
      · rw [e2] at hNb; simp at hNb ⊢; omega
      · rw [e2]; simp
    · simp only [Bool.and_eq_true, Bool.or_eq_true, Bool.not_eq_true', Bool.and_eq_false_iff, Bool.or_eq_false_iff, Bool.not_eq_false', decide_eq_true_eq, decide_eq_false_iff_not, Bool.false_eq_true, false_iff] at h2
      have hpos : 0 < x.y.length := by omega
      obtain ⟨e1, ⟨y', e2⟩, hat⟩ := hy hpos
      obtain ⟨q1, q2, q3⟩ := hI.cut2 e2
      refine .seq ((.drawK _ (fun _ h => h) (by kernel_rfl) (by kernel_rfl) ?_))
      refine .v (fun _ f => .move rfl) (.v (fun _ f => .len rfl) (.v (fun _ f => .eqi rfl rfl) (.v (fun _ f => .move rfl) (.or (b2 := wse side a.p b.p) 71 81 10 10 rfl rfl (fun g4 => have g4' : ¬ ((x.x.length : Int) = 0) := of_decide_eq_false g4; .v (fun _ f => .move rfl) (.v (fun _ f => .move rfl) (.v (fun _ f => .indexAddr (b := b1) (o := o1) (len := x.x.length) (cap := x.c1) (by rw [← (hx (by omega)).1]; rfl) rfl (by omega) (by omega)) (.v (fun _ f => .fieldAddr rfl) (.v (fun _ f => .load (v := .int .i64 a.p) rfl ((hx (by omega)).2.2 _).1) (.v (fun _ f => .move rfl) (.v (fun _ f => .indexAddr (b := b2) (o := o2) (len := x.y.length) (cap := x.c2) (by rw [← e1]; rfl) rfl (by omega) (by omega)) (.v (fun _ f => .fieldAddr rfl) (.v (fun _ f => .load (v := .int .i64 b.p) rfl (hat _).1) (.pc (v := .bool (wse side a.p b.p)) rfl rfl (fun w s => worse_ok w side a.p b.p) (.nil ⟨rfl, rfl, rfl, rfl⟩))))))))))) (.v (fun _ f => .assign rfl) (.nil ?_))))))
      refine .cond rfl (fun h3 => ?_) (fun h3 => ?_)
      · simp only [Bool.and_eq_true, Bool.or_eq_true, Bool.not_eq_true', Bool.and_eq_false_iff, Bool.or_eq_false_iff, Bool.not_eq_false', decide_eq_true_eq, decide_eq_false_iff_not, Bool.false_eq_true, false_iff] at h3
        have hch : chg side x.x x.y = told side b :: chg side x.x y' := by
          rw [e2]
          by_cases hx0 : 0 < x.x.length
          · obtain ⟨-, ⟨x', ex⟩, -⟩ := hx hx0
            have hw : wse side a.p b.p = true := by
              rcases h3 with h3 | h3
              · omega
              · exact h3
            rw [ex, chg, if_neg (by rw [wse_asym hw]; simp), if_pos hw]
          · have : x.x = [] := List.eq_nil_of_length_eq_zero (by omega)
            rw [this, chg]
        refine .seq ((.region (.v (.move rfl) (.v (.move rfl) (.v (.move rfl) (.v (.indexAddr (b := b2) (o := o2) (len := x.y.length) (cap := x.c2) (by rw [← e1]; rfl) rfl (by omega) (by omega)) (.v (.loadA (vs := b.cells) rfl (hat _).2 rfl) (.pc (v := .agg ⟨(told side b).cells⟩) rfl rfl (fun w s => told_ok w side b) (.push (vs := drows x.out) (c := x.out.length) (oc := (told side b).cells) rfl rfl hI.o rfl rfl rfl (by omega) (by omega) ?_)))))))))
        intro b9 v' h' k'
        refine .v (.assign rfl) (.nil ?_)
        refine .region (.v (.move rfl) (.v (.slLo rfl rfl (by omega) (by omega)) (.v (.assign rfl) (.nil ?_))))
        refine ⟨⟨x.x, y', x.A1, x.c1, cutA x.A2 x.c2 (1 : Int).toNat 3, x.c2 - (1 : Int).toNat, x.out ++ [told side b], v', h'⟩, ⟨hI.r1, q1, hI.k1, q2, ?_, ?_, ?_⟩, ?_, .cons rfl (.cons rfl (.cons (by rw [← q3]; rfl) (.cons rfl (.nil _)))), fun _ s => s.take⟩
        · unfold DOwn; rw [List.length_append, drows_app]; simpa [drows] using k'
        · rw [← hI.c, hch]; simp
        · rw [e2] at hNb; simp at hNb ⊢; omega
        · rw [e2]; simp
      · simp only [Bool.and_eq_true, Bool.or_eq_true, Bool.not_eq_true', Bool.and_eq_false_iff, Bool.or_eq_false_iff, Bool.not_eq_false', decide_eq_true_eq, decide_eq_false_iff_not, Bool.false_eq_true, false_iff] at h3
        have hposx : 0 < x.x.length := by omega
        obtain ⟨e3, ⟨x', e4⟩, hatx⟩ := hx hposx
        obtain ⟨p1, p2, p3⟩ := hI.cut1 e4
        have hw1 : wse side b.p a.p = false := by
          rcases h2.2 with h2 | h2
          · omega
          · exact h2
        have hch : chg side x.x x.y = (if a ≠ b then [told side b] else []) ++ chg side x' y' := by
          rw [e2, e4, chg, if_neg (by rw [hw1]; simp), if_neg (by rw [h3.2]; simp)]
        refine .mid (X := Value × Hp) (fun z => [(0, .int .i64 side), (1, .slice x.A1 x.x.length x.c1), (2, .slice x.A2 x.y.length x.c2), (7, z.1)]) (fun z => z.2) (fun z => DOwn z.1 (x.out ++ if a ≠ b then [told side b] else []) z.2) (.seq ((.drawK _ (fun _ h => h) (by kernel_rfl) (by kernel_rfl) ?_))) ?_
        · refine .v (fun _ f => .move rfl) (.v (fun _ f => .indexAddr (b := b1) (o := o1) (len := x.x.length) (cap := x.c1) (by rw [← e3]; rfl) rfl (by omega) (by omega)) (.v (fun _ f => .loadA (vs := a.cells) rfl (hatx _).2 rfl) (.v (fun _ f => .move rfl) (.v (fun _ f => .indexAddr (b := b2) (o := o2) (len := x.y.length) (cap := x.c2) (by rw [← e1]; rfl) rfl (by omega) (by omega)) (.v (fun _ f => .loadA (vs := b.cells) rfl (hat _).2 rfl) (.v (fun _ f => .neA rfl rfl a.oks b.oks) (.nil ?_)))))))
          rw [lv_dec]
          refine .cond_dec rfl (fun h4 => ?_) (fun h4 => .skip ?_)
          · refine .region (.v (.move rfl) (.v (.move rfl) (.v (.move rfl) (.v (.indexAddr (b := b2) (o := o2) (len := x.y.length) (cap := x.c2) (by rw [← e1]; rfl) rfl (by omega) (by omega)) (.v (.loadA (vs := b.cells) rfl (hat _).2 rfl) (.pc (v := .agg ⟨(told side b).cells⟩) rfl rfl (fun w s => told_ok w side b) (.push (vs := drows x.out) (c := x.out.length) (oc := (told side b).cells) rfl rfl hI.o rfl rfl rfl (by omega) (by omega) ?_)))))))
            intro b9 v' h' k'
            refine .v (.assign rfl) (.nil ?_)
            refine ⟨(v', h'), ?_, .cons rfl (.cons rfl (.cons rfl (.cons rfl (.nil _)))), fun _ s => s.take⟩
            rw [if_pos h4]
            show OwnS _ _ _ _ _ _
            rw [List.length_append, drows_app]; simpa [drows] using k'
          · refine ⟨(x.v, x.h), ?_, .cons rfl (.cons rfl (.cons rfl (.cons rfl (.nil _)))), fun _ s => s⟩
            rw [if_neg h4]
            show OwnS _ _ _ _ _ _
            rw [List.append_nil]; exact hI.o
        · rintro ⟨v', h'⟩ k'
          refine (.drawK _ (fun _ h => h) (by kernel_rfl) (by kernel_rfl) ?_)
          refine .v (fun _ f => .move rfl) (.v (fun _ f => .slLo rfl rfl (by omega) (by omega)) (.v (fun _ f => .move rfl) (.v (fun _ f => .slLo rfl rfl (by omega) (by omega)) (.v (fun _ f => .assign rfl) (.v (fun _ f => .assign rfl) (.nil ?_))))))
          refine ⟨⟨x', y', cutA x.A1 x.c1 (1 : Int).toNat 3, x.c1 - (1 : Int).toNat, cutA x.A2 x.c2 (1 : Int).toNat 3, x.c2 - (1 : Int).toNat, _, v', h'⟩, ⟨p1, q1, p2, q2, k', ?_, ?_⟩, ?_, .cons rfl (.cons (by rw [← p3]; rfl) (.cons (by rw [← q3]; rfl) (.cons rfl (.nil _)))), fun _ s => s⟩
          · show (x.out ++ _) ++ chg side x' y' = _
            rw [List.append_assoc, ← hch]; exact hI.c
          · rw [e2, e4] at hNb
            show (x.out ++ _).length + x'.length + y'.length ≤ N
            rw [List.length_append]
            split <;> simp at hNb ⊢ <;> omega
          · rw [e2, e4]; show x'.length + y'.length < _; simp; omega
  · simp only [Bool.and_eq_true, Bool.or_eq_true, Bool.not_eq_true', Bool.and_eq_false_iff, Bool.or_eq_false_iff, Bool.not_eq_false', decide_eq_true_eq, decide_eq_false_iff_not, Bool.false_eq_true, false_iff] at h1
    have ex : x.x = [] := List.eq_nil_of_length_eq_zero (by omega)
    have ey : x.y = [] := List.eq_nil_of_length_eq_zero (by omega)
    refine .seq ((.region (.v (.move rfl) (.v (.assign rfl) (.nil ?_)))))
    refine .ret ⟨[_], ⟨rfl, trivial⟩, x.h, fun _ s => s, ?_⟩
    have := hI.c
    rw [ex, ey, chg, List.append_nil] at this
    rw [← this]; exact hI.o
end Go.Proofs.Ytinmhhonpflojaa

/- The document's changes, first, at. -/
namespace Go.Proofs.Ytinmhhonpflojaa
open Go.V
set_option linter.unusedVariables false
set_option linter.unusedSimpArgs false

set_option maxRecDepth 10000 in
theorem at_ok (w : World) (A : Option Addr) (len cap : Nat) (p : Int) (l : List Lv) (hx : Rd w [] A (lrows l)) (hl : len = l.length) (hb : len ≤ 5864062014805) :
    Is Try.prog 71 [.slice A len cap, .int .i64 p] w (.agg ⟨(atp l p).cells⟩) := by
  refine Does.pure (Does.of (n := 24) Try.func71 rfl rfl rfl rfl ?_)
  refine .seq ((.region (.nw .alloc fun b4 => (.nil ?_))))
  refine .seq (.seq ((.region (.v (.assign rfl) (.nil ?_)))))
  refine .block (.loop (X := Nat) (fun i => [(0, .slice A len cap), (1, .int .i64 p), (4, .pointer (some ⟨b4, 0, none⟩)), (5, .int .i64 i)]) (fun _ => [(b4, .cells [.int .i64 0, .int .u64 0, .int .i64 0] 109)]) (fun i => i ≤ len ∧ ∀ j, (hj : j < l.length) → j < i → l[j].p ≠ p) (fun i => len - i) 0 ⟨by omega, fun j _ h => by omega⟩
    (.cons rfl (.cons rfl (.cons rfl (.cons rfl (.nil _))))) (fun _ s => s) ?_)
  rintro i ⟨hi, hI⟩
  refine .seq (.seq ((.region (.v (.move rfl) (.v (.move rfl) (.v (.len rfl) (.v (.lss rfl rfl) (.nil ?_))))))))
  refine .cond_dec rfl (fun h1 => .skip ?_) (fun h1 => .exit ?_)
  · have hil : i < l.length := by omega
    obtain ⟨b, o, rfl, hA⟩ := Rd.lev hx (by omega)
    have hlv := fun hs => lvAt (z := (i : Int)) (hA hs) hil
    have hlp := fun hs => lpAt (z := (i : Int)) (hA hs) hil
    obtain ⟨v, hv⟩ : ∃ v, l[i] = v := ⟨_, rfl⟩
    rw [hv] at hlv hlp
    refine .seq (.block (.seq ((.region (.v (.move rfl) (.v (.move rfl) (.v (.indexAddr rfl rfl (by omega) (by omega)) (.v (.fieldAddr rfl) (.v (.load (v := .int .i64 v.p) rfl (hlp _)) (.v (.move rfl) (.v (.eqi rfl rfl) (.nil ?_))))))))))))
    refine .cond_dec rfl (fun h2 => ?_) (fun h2 => .skip ?_)
    · refine .seq ((.region (.v (.move rfl) (.v (.move rfl) (.v (.indexAddr rfl rfl (by omega) (by omega)) (.v (.loadA (vs := v.cells) rfl (hlv _) rfl) (.st (.sw rfl rfl) (.nil ?_))))))))
      have e : atp l p = v := by
        unfold atp
        have : l.find? (fun v => decide (v.p = p)) = some v := by
          rw [List.find?_eq_some_iff_getElem]
          exact ⟨by simpa using h2, i, hil, hv, fun j hj => by simpa using hI j (by omega) hj⟩
        rw [this]; rfl
      exact .ret ⟨[_], ⟨⟨_, rfl, .inr ⟨3, _, inferInstance, rfl, rfl, .whole⟩⟩, trivial⟩, by rw [e]; rfl⟩
    · refine .region (.v (.move rfl) (.v (.addi rfl rfl (by omega)) (.v (.assign rfl) (.nil ?_))))
      refine ⟨i + 1, ⟨by omega, fun j hj hji => ?_⟩, by omega, .cons rfl (.cons rfl (.cons rfl (.cons rfl (.nil _)))), fun _ s => s⟩
      by_cases e : j = i
      · subst e; rw [hv]; exact h2
      · exact hI j hj (by omega)
  · refine .seq ((.region (.v (.build (out := lv0.cells) rfl rfl) (.st (.sw rfl rfl) (.nil ?_)))))
    have e : atp l p = lv0 := atp_none fun v hv => by
      obtain ⟨j, hj, rfl⟩ := List.mem_iff_getElem.1 hv
      exact hI j hj (by omega)
    exact .ret ⟨[_], ⟨⟨_, rfl, .inr ⟨3, _, inferInstance, rfl, rfl, .whole⟩⟩, trivial⟩, by rw [e]; rfl⟩
set_option maxRecDepth 10000 in
theorem first_ok (w : World) (A : Option Addr) (len cap k : Nat) (l : List Lv) (hx : Rd w [] A (lrows l)) (hl : len = l.length) (hc : len ≤ cap) (hb : len ≤ 5864062014805) (hk : k ≤ 1000000) :
    Does Try.prog 45 [.slice A len cap, .int .i64 k] [] w (fun v hs => LOwn v (l.take k) hs) := by
  refine Does.less (Does.of (n := 16) Try.func45 rfl rfl rfl rfl ?_)
  refine .seq ((.region (.v (.assign rfl) (.nil ?_))))
  refine .mid (X := Nat) (fun x => [(0, .slice A len cap), (1, .int .i64 x)]) (fun x => []) (fun x => x = min k len) (.seq ((.region (.v (.move rfl) (.v (.len rfl) (.v (.move rfl) (.v (.lss rfl rfl) (.nil ?_)))))))) ?_
  · refine .cond_dec rfl (fun h1 => ?_) (fun h1 => .skip ?_)
    · refine .region (.v (.move rfl) (.v (.len rfl) (.v (.assign rfl) (.nil ?_))))
      exact ⟨len, by omega, .cons rfl (.cons rfl (.nil _)), fun _ s => s⟩
    · exact ⟨k, by omega, .cons rfl (.cons rfl (.nil _)), fun _ s => s⟩
  · rintro x rfl
    refine .seq ((.region (.ef (.buildSlice (out := []) rfl (by decide) rfl rfl) ?_)))
    rintro _ _ ⟨b6, rfl, rfl⟩
    refine .v (.move rfl) (.v (.move rfl) (.v (.slHi rfl rfl (by omega) (by omega)) ?_))
    have el : (l.take k).length = min k len := by rw [List.length_take, hl]
    refine .ef (.append (c := 0) (k := min k len) (vs := []) (news := lrows (l.take k)) (h := [(b6, .cells [] 109)]) (fr := []) rfl rfl ⟨rfl, .inr ⟨b6, 0, 0, [], rfl, rfl, by omega, by simp, by simp⟩⟩ (by exact List.Perm.refl _)
      (fun w' s => by rw [Int.toNat_natCast]; exact Rd.src (vs := lrows (l.take k)) (by rw [lrows_take]; exact (hx.keep0 s).take _) (by rw [lrows_length, el]) (by omega)) (by rw [lrows_length, el]) (lrows_ones _) (by omega) (by omega)) ?_
    rintro v _ ⟨h', k', rfl⟩
    refine .v (.assign rfl) (.nil ?_)
    refine .ret ⟨[_], ⟨rfl, trivial⟩, h', fun _ s => by simpa using s, ?_⟩
    rw [Nat.zero_add, ← el] at k'
    exact k'
structure RS where
  i : Nat
  k : Nat
  out : List Dt
  v : Value
  h : Hp
structure RS.I (side : Int) (was now : List Lv) (x : RS) : Prop where
  o : DOwn x.v x.out x.h
  c : CSt side was now x.i x.k x.out
theorem CSt.len {side : Int} {was now : List Lv} {i k : Nat} {out : List Dt} (c : CSt side was now i k out) : out.length ≤ was.length + now.length := by
  have h1 := congrArg List.length c.out
  have h2 := chg_length side was now
  rw [List.length_append] at h1
  omega
structure RM where
  i : Nat
  k : Nat
  p : Int
structure RM.I (side : Int) (was now : List Lv) (x : RS) (m : RM) : Prop where
  c : CSt side was now m.i m.k (x.out ++ if atp was m.p ≠ atp now m.p then [⟨0, 1, side, m.p, (atp now m.p).q, (atp now m.p).c⟩] else [])
  s : x.i + x.k < m.i + m.k
theorem lev_of {w : World} {no : List Nat} {A : Option Addr} {l : List Lv} (h : Rd w no A (lrows l)) : ∃ (b o : Nat), 0 < l.length → A = some ⟨b, o, none⟩ ∧ ∀ hs, At w no hs ⟨b, o, none⟩ (lrows l) := by
  by_cases h0 : 0 < l.length
  · obtain ⟨b, o, e, hA⟩ := Rd.lev h h0
    exact ⟨b, o, fun _ => ⟨e, hA⟩⟩
  · exact ⟨0, 0, fun h => absurd h h0⟩
theorem get_of (l : List Lv) (i : Nat) : ∃ a : Lv, ∀ h : i < l.length, l[i] = a := ⟨(l[i]?).getD ⟨0, 0, 0⟩, fun h => by simp [h]⟩
set_option maxRecDepth 20000 in
set_option maxHeartbeats 1000000 in
theorem refchanges_ok (w : World) (side : Int) (A1 A2 : Option Addr) (c1 c2 : Nat) (was now : List Lv) (h1 : Rd w [] A1 (lrows was)) (h2 : Rd w [] A2 (lrows now)) (f1 : Fit side was) (f2 : Fit side now) (hb : was.length + now.length ≤ 10000000) :
    Does Try.prog 46 [.int .i64 side, .slice A1 was.length c1, .slice A2 now.length c2] [] w (fun v hs => DOwn v (chg side was now) hs) := by
  obtain ⟨b1, o1, hA1⟩ := lev_of h1
  obtain ⟨b2, o2, hA2⟩ := lev_of h2
  refine Does.less (Does.of (n := 110) Try.func46 rfl rfl rfl rfl ?_)
  refine .seq ((.region (.v (.assign rfl) (.nil ?_))))
  refine .seq ((.region (.v (.assign rfl) (.nil ?_))))
  refine .seq ((.region (.v (.assign rfl) (.v (.assign rfl) (.nil ?_)))))
  refine .seq (.block (.loop (X := RS) (fun x => [(0, .int .i64 side), (1, .slice A1 was.length c1), (2, .slice A2 now.length c2), (7, x.v), (8, .int .i64 x.i), (9, .int .i64 x.k)]) (fun x => x.h) (RS.I side was now) (fun x => was.length + now.length - (x.i + x.k)) ⟨0, 0, [], .slice none 0 0, []⟩
    ⟨OwnS.nil _ _, CSt.zero side was now⟩ (.cons rfl (.cons rfl (.cons rfl (.cons rfl (.cons rfl (.cons rfl (.nil _))))))) (fun _ s => s) ?_))
  intro x hI
  have hc := hI.c
  have hi := hc.li
  have hk := hc.lk
  have hlen := hc.len
  obtain ⟨a, ha⟩ := get_of was x.i
  obtain ⟨b, hb'⟩ := get_of now x.k
  have la : ∀ hs, x.i < was.length → At w [] hs ⟨b1, o1 + ((x.i : Int)).toNat * 3 + 0, none⟩ [.int .i64 a.p] := fun hs h => by rw [← ha h]; exact lpAt ((hA1 (by omega)).2 hs) h
  have lb : ∀ hs, x.k < now.length → At w [] hs ⟨b2, o2 + ((x.k : Int)).toNat * 3 + 0, none⟩ [.int .i64 b.p] := fun hs h => by rw [← hb' h]; exact lpAt ((hA2 (by omega)).2 hs) h
  refine .seq (.seq ((.region (.v (.move rfl) (.v (.move rfl) (.v (.len rfl) (.v (.lss rfl rfl) (.v (.move rfl) (.or 17 21 4 4 rfl rfl (fun g1 => .v (.move rfl) (.v (.move rfl) (.v (.len rfl) (.v (.lss rfl rfl) (.nil ⟨rfl, rfl, rfl, rfl⟩))))) (.nil ?_))))))))))
  refine .cond rfl (fun h1 => .skip ?_) (fun h1 => .exit ?_)
  · simp only [Bool.and_eq_true, Bool.or_eq_true, Bool.not_eq_true', Bool.and_eq_false_iff, Bool.or_eq_false_iff, Bool.not_eq_false', decide_eq_true_eq, decide_eq_false_iff_not, Bool.false_eq_true, false_iff] at h1
    refine .block (.seq ((.region (.v (.assign rfl) (.nil ?_)))))
    refine .mid (X := RM) (fun m => [(0, .int .i64 side), (1, .slice A1 was.length c1), (2, .slice A2 now.length c2), (7, x.v), (8, .int .i64 m.i), (9, .int .i64 m.k), (10, .int .i64 m.p)]) (fun _ => x.h) (RM.I side was now x) (.block (.seq ((.drawK _ (fun _ h => h) (by kernel_rfl) (by kernel_rfl) ?_)))) ?_
    · refine .v (fun _ f => .move rfl) (.v (fun _ f => .move rfl) (.v (fun _ f => .len rfl) (.v (fun _ f => .eqi rfl rfl) (.v (fun _ f => .move rfl) (.or (b2 := decide ((x.i : Int) < was.length) && wse side b.p a.p) 37 55 18 6 rfl rfl (fun g2 => have g2' : ¬ ((x.k : Int) = now.length) := of_decide_eq_false g2; .v (fun _ f => .move rfl) (.v (fun _ f => .move rfl) (.v (fun _ f => .len rfl) (.v (fun _ f => .lss rfl rfl) (.v (fun _ f => .move rfl) (.and 42 54 12 12 rfl rfl (fun g3 => have g3' : (x.i : Int) < was.length := of_decide_eq_true g3; .v (fun _ f => .move rfl) (.v (fun _ f => .move rfl) (.v (fun _ f => .move rfl) (.v (fun _ f => .indexAddr (b := b2) (o := o2) (len := now.length) (cap := c2) (by rw [← (hA2 (by omega)).1]; rfl) rfl (by omega) (by omega)) (.v (fun _ f => .fieldAddr rfl) (.v (fun _ f => .load (v := .int .i64 b.p) rfl (lb _ (by omega))) (.v (fun _ f => .move rfl) (.v (fun _ f => .move rfl) (.v (fun _ f => .indexAddr (b := b1) (o := o1) (len := was.length) (cap := c1) (by rw [← (hA1 (by omega)).1]; rfl) rfl (by omega) (by omega)) (.v (fun _ f => .fieldAddr rfl) (.v (fun _ f => .load (v := .int .i64 a.p) rfl (la _ (by omega))) (.pc (v := .bool (wse side b.p a.p)) rfl rfl (fun w s => refworse_ok w side b.p a.p) (.nil ⟨rfl, rfl, rfl, rfl⟩))))))))))))) (.nil ⟨rfl, rfl, rfl, rfl⟩))))))) (.v (fun _ f => .assign rfl) (.nil ?_)))))))
      refine .cond rfl (fun h2 => ?_) (fun h2 => ?_)
      · simp only [Bool.and_eq_true, Bool.or_eq_true, Bool.not_eq_true', Bool.and_eq_false_iff, Bool.or_eq_false_iff, Bool.not_eq_false', decide_eq_true_eq, decide_eq_false_iff_not, Bool.false_eq_true, false_iff] at h2
        have hil : x.i < was.length := by omega
        refine .seq ((.region (.v (.move rfl) (.v (.move rfl) (.v (.indexAddr (b := b1) (o := o1) (len := was.length) (cap := c1) (by rw [← (hA1 (by omega)).1]; rfl) rfl (by omega) (by omega)) (.v (.fieldAddr rfl) (.v (.load (v := .int .i64 a.p) rfl (la _ hil)) (.v (.assign rfl) (.nil ?_)))))))))
        refine .region (.v (.move rfl) (.v (.addi rfl rfl (by omega)) (.v (.assign rfl) (.nil ?_))))
        obtain ⟨t1, t2, t3, t4⟩ := hc.goneS f1 f2 hil (fun hkl => by
          rw [ha hil, hb' hkl]
          rcases h2 with h2 | h2
          · omega
          · exact h2.2)
        rw [ha hil] at t1 t2 t3 t4
        refine ⟨⟨x.i + 1, x.k, a.p⟩, ⟨?_, by show x.i + x.k < x.i + 1 + x.k; omega⟩, .cons rfl (.cons rfl (.cons rfl (.cons rfl (.cons rfl (.cons rfl (.cons rfl (.nil _))))))), fun _ s => s⟩
        rw [t1, t2, if_pos t3]; exact t4
      · simp only [Bool.and_eq_true, Bool.or_eq_true, Bool.not_eq_true', Bool.and_eq_false_iff, Bool.or_eq_false_iff, Bool.not_eq_false', decide_eq_true_eq, decide_eq_false_iff_not, Bool.false_eq_true, false_iff] at h2
        have hkl : x.k < now.length := by omega
        refine .seq ((.drawK _ (fun _ h => h) (by kernel_rfl) (by kernel_rfl) ?_))
        refine .v (fun _ f => .move rfl) (.v (fun _ f => .move rfl) (.v (fun _ f => .len rfl) (.v (fun _ f => .eqi rfl rfl) (.v (fun _ f => .move rfl) (.or (b2 := wse side a.p b.p) 69 81 12 12 rfl rfl (fun g4 => have g4' : ¬ ((x.i : Int) = was.length) := of_decide_eq_false g4; .v (fun _ f => .move rfl) (.v (fun _ f => .move rfl) (.v (fun _ f => .move rfl) (.v (fun _ f => .indexAddr (b := b1) (o := o1) (len := was.length) (cap := c1) (by rw [← (hA1 (by omega)).1]; rfl) rfl (by omega) (by omega)) (.v (fun _ f => .fieldAddr rfl) (.v (fun _ f => .load (v := .int .i64 a.p) rfl (la _ (by omega))) (.v (fun _ f => .move rfl) (.v (fun _ f => .move rfl) (.v (fun _ f => .indexAddr (b := b2) (o := o2) (len := now.length) (cap := c2) (by rw [← (hA2 (by omega)).1]; rfl) rfl (by omega) (by omega)) (.v (fun _ f => .fieldAddr rfl) (.v (fun _ f => .load (v := .int .i64 b.p) rfl (lb _ hkl)) (.pc (v := .bool (wse side a.p b.p)) rfl rfl (fun w s => refworse_ok w side a.p b.p) (.nil ⟨rfl, rfl, rfl, rfl⟩))))))))))))) (.v (fun _ f => .assign rfl) (.nil ?_)))))))
        refine .cond rfl (fun h4 => ?_) (fun h4 => ?_)
        · simp only [Bool.and_eq_true, Bool.or_eq_true, Bool.not_eq_true', Bool.and_eq_false_iff, Bool.or_eq_false_iff, Bool.not_eq_false', decide_eq_true_eq, decide_eq_false_iff_not, Bool.false_eq_true, false_iff] at h4
          refine .seq ((.region (.v (.move rfl) (.v (.move rfl) (.v (.indexAddr (b := b2) (o := o2) (len := now.length) (cap := c2) (by rw [← (hA2 (by omega)).1]; rfl) rfl (by omega) (by omega)) (.v (.fieldAddr rfl) (.v (.load (v := .int .i64 b.p) rfl (lb _ hkl)) (.v (.assign rfl) (.nil ?_)))))))))
          refine .region (.v (.move rfl) (.v (.addi rfl rfl (by omega)) (.v (.assign rfl) (.nil ?_))))
          obtain ⟨t1, t2, t3, t4⟩ := hc.toldS f1 f2 hkl (fun hil => by
            rw [ha hil, hb' hkl]
            rcases h4 with h4 | h4
            · omega
            · exact h4)
          rw [hb' hkl] at t1 t2 t3 t4
          refine ⟨⟨x.i, x.k + 1, b.p⟩, ⟨?_, by show x.i + x.k < x.i + (x.k + 1); omega⟩, .cons rfl (.cons rfl (.cons rfl (.cons rfl (.cons rfl (.cons rfl (.cons rfl (.nil _))))))), fun _ s => s⟩
          rw [t1, t2, if_pos t3]; exact t4
        · simp only [Bool.and_eq_true, Bool.or_eq_true, Bool.not_eq_true', Bool.and_eq_false_iff, Bool.or_eq_false_iff, Bool.not_eq_false', decide_eq_true_eq, decide_eq_false_iff_not, Bool.false_eq_true, false_iff] at h4
          have hil : x.i < was.length := by omega
          refine .seq ((.region (.v (.move rfl) (.v (.move rfl) (.v (.indexAddr (b := b1) (o := o1) (len := was.length) (cap := c1) (by rw [← (hA1 (by omega)).1]; rfl) rfl (by omega) (by omega)) (.v (.fieldAddr rfl) (.v (.load (v := .int .i64 a.p) rfl (la _ hil)) (.v (.assign rfl) (.nil ?_)))))))))
          refine .seq ((.region (.v (.move rfl) (.v (.addi rfl rfl (by omega)) (.v (.assign rfl) (.nil ?_))))))
          refine .region (.v (.move rfl) (.v (.addi rfl rfl (by omega)) (.v (.assign rfl) (.nil ?_))))
          have w1 : wse side b.p a.p = false := by
            rcases h2.2 with h2 | h2
            · omega
            · exact h2
          obtain ⟨t1, t2, t3, t4⟩ := hc.bothS f1 f2 hil hkl (by rw [ha hil, hb' hkl]; exact w1) (by rw [ha hil, hb' hkl]; exact h4.2)
          rw [ha hil, hb' hkl] at t4
          rw [ha hil] at t1 t2 t3
          rw [hb' hkl] at t2 t3
          refine ⟨⟨x.i + 1, x.k + 1, a.p⟩, ⟨?_, by show x.i + x.k < x.i + 1 + (x.k + 1); omega⟩, .cons rfl (.cons rfl (.cons rfl (.cons rfl (.cons rfl (.cons rfl (.cons rfl (.nil _))))))), fun _ s => s⟩
          rw [t1, t2]
          have e : (⟨0, 1, side, a.p, b.q, b.c⟩ : Dt) = told side b := by rw [t3]; rfl
          rw [e]; exact t4
    · intro m hm
      have hmi := hm.c.li
      have hmk := hm.c.lk
      have hms := hm.s
      refine .seq ((.region (.v (.move rfl) (.v (.move rfl) (.pc (v := .agg ⟨(atp was m.p).cells⟩) rfl rfl (fun w' s => at_ok w' A1 was.length c1 m.p was (Rd.keep0 (by assumption) s) rfl (by omega)) (.v (.move rfl) (.v (.move rfl) (.pc (v := .agg ⟨(atp now m.p).cells⟩) rfl rfl (fun w' s => at_ok w' A2 now.length c2 m.p now (Rd.keep0 (by assumption) s) rfl (by omega)) (.nw .alloc fun b11 => (.nw .alloc fun b12 => (.st (.sw rfl rfl) (.st (.sw rfl rfl) (.nil ?_)))))))))))))
      refine .seq ((.region (.v (.loadA (vs := (atp was m.p).cells) rfl .whole rfl) (.v (.loadA (vs := (atp now m.p).cells) rfl .whole rfl) (.v (.neA rfl rfl (Lv.oks _) (Lv.oks _)) (.nil ?_))))))
      rw [lv_dec]
      refine .cond_dec rfl (fun h3 => ?_) (fun h3 => .skip ?_)
      · refine .region (.v (.move rfl) (.v (.move rfl) (.v (.move rfl) (.v (.fieldAddr rfl) (.v (.load (v := .int .u64 (atp now m.p).q) rfl (.one rfl)) (.v (.fieldAddr rfl) (.v (.load (v := .int .i64 (atp now m.p).c) rfl (.one rfl)) (.v (.build (out := (⟨0, 1, side, m.p, (atp now m.p).q, (atp now m.p).c⟩ : Dt).cells) rfl rfl) (.push (vs := drows x.out) (c := x.out.length) (oc := (⟨0, 1, side, m.p, (atp now m.p).q, (atp now m.p).c⟩ : Dt).cells) rfl rfl hI.o rfl rfl rfl (by omega) (by omega) ?_)))))))))
        intro b9 v' h' k'
        refine .v (.assign rfl) (.nil ?_)
        have hmc := hm.c
        rw [if_pos h3] at hmc
        refine ⟨⟨m.i, m.k, _, v', h'⟩, ⟨?_, hmc⟩, by show was.length + now.length - (m.i + m.k) < _; omega, .cons rfl (.cons rfl (.cons rfl (.cons rfl (.cons rfl (.cons rfl (.nil _)))))), fun _ s => s.take⟩
        show OwnS _ _ _ _ _ _
        rw [List.length_append, drows_app]; simpa [drows] using k'
      · have hmc := hm.c
        rw [if_neg h3, List.append_nil] at hmc
        exact ⟨⟨m.i, m.k, x.out, x.v, x.h⟩, ⟨hI.o, hmc⟩, by show was.length + now.length - (m.i + m.k) < _; omega, .cons rfl (.cons rfl (.cons rfl (.cons rfl (.cons rfl (.cons rfl (.nil _)))))), fun _ s => s.take⟩
  · simp only [Bool.and_eq_true, Bool.or_eq_true, Bool.not_eq_true', Bool.and_eq_false_iff, Bool.or_eq_false_iff, Bool.not_eq_false', decide_eq_true_eq, decide_eq_false_iff_not, Bool.false_eq_true, false_iff] at h1
    refine .seq ((.region (.v (.move rfl) (.v (.assign rfl) (.nil ?_)))))
    refine .ret ⟨[_], ⟨rfl, trivial⟩, x.h, fun _ s => s, ?_⟩
    rw [← hc.done (by omega) (by omega)]; exact hI.o
end Go.Proofs.Ytinmhhonpflojaa

/- Pictures in memory: held against each other, copied, written over. -/
namespace Go.Proofs.Ytinmhhonpflojaa
open Go.V
set_option linter.unusedVariables false
set_option linter.unusedSimpArgs false

theorem Dt.oks (x : Dt) : V.oks DL x.cells := ⟨rfl, rfl, rfl, rfl, rfl, rfl, trivial⟩
set_option maxRecDepth 10000 in
theorem sameLevels_ok (w : World) (A B : Option Addr) (len ca cb : Nat) (l : List Lv) (hA : Rd w [] A (l.flatMap Lv.cells)) (hB : Rd w [] B (l.flatMap Lv.cells)) (hl : len = l.length) (hb : len ≤ 5864062014805) :
    Is Try.prog 21 [.slice A len ca, .slice B len cb] w (.bool true) := by
  refine Does.pure (Does.of (n := 26) Try.func21 rfl rfl rfl rfl ?_)
  refine .seq ((.region (.v (.assign rfl) (.nil ?_))))
  refine .seq (.seq ((.region (.v (.move rfl) (.v (.len rfl) (.v (.move rfl) (.v (.len rfl) (.v (.nei rfl rfl) (.nil ?_)))))))))
  refine .cond_dec rfl (fun g => absurd rfl g) (fun g => .skip ?_)
  refine .seq (.seq ((.region (.v (.assign rfl) (.nil ?_)))))
  refine .block (.loop (X := Nat) (fun i => [(0, .slice A len ca), (1, .slice B len cb), (5, .int .i64 i)]) (fun _ => []) (fun i => i ≤ len) (fun i => len - i) 0 (by omega) (.cons rfl (.cons rfl (.cons rfl (.nil _)))) (fun _ s => s) ?_)
  intro i hi
  refine .seq (.seq ((.region (.v (.move rfl) (.v (.move rfl) (.v (.len rfl) (.v (.lss rfl rfl) (.nil ?_))))))))
  refine .cond_dec rfl (fun g2 => .skip ?_) (fun g2 => .exit ?_)
  · have hil : i < l.length := by omega
    obtain ⟨b, o, rfl, hc⟩ := Rd.recs Lv.cells 3 (fun _ => rfl) hA (by omega) (by omega)
    obtain ⟨b', o', rfl, hc'⟩ := Rd.recs Lv.cells 3 (fun _ => rfl) hB (by omega) (by omega)
    have q := fun hs => recAt Lv.cells 3 (fun _ => rfl) (z := (i : Int)) (hc hs) hil
    have q' := fun hs => recAt Lv.cells 3 (fun _ => rfl) (z := (i : Int)) (hc' hs) hil
    generalize l[i] = x at q q'
    refine .seq (.block (.seq ((.drawS (by kernel_rfl) (by kernel_rfl) (.v (.move rfl) (.v (.move rfl) (.v (.indexAddr rfl rfl (by omega) (by omega)) (.v (.loadA (vs := Lv.cells x) rfl (q _) rfl) (.v (.move rfl) (.v (.move rfl) (.v (.indexAddr rfl rfl (by omega) (by omega)) (.v (.loadA (vs := Lv.cells x) rfl (q' _) rfl) (.v (.neA rfl rfl (Lv.oks x) (Lv.oks x)) (.nil ?_))))))))))))))
    refine .cond rfl (fun g3 => absurd g3 (by rw [(cellsEq_iff (Lv.oks x) (Lv.oks x)).2 rfl]; simp)) (fun _ => .skip ?_)
    refine .region (.v (.move rfl) (.v (.addi rfl rfl (by omega)) (.v (.assign rfl) (.nil ?_))))
    exact ⟨i + 1, by omega, by omega, .cons rfl (.cons rfl (.cons rfl (.nil _))), fun _ s => s⟩
  · refine .seq ((.region (.v (.assign rfl) (.nil ?_))))
    exact .ret ⟨[_], ⟨rfl, trivial⟩, rfl⟩
set_option maxRecDepth 10000 in
theorem sameData_ok (w : World) (A B : Option Addr) (len ca cb : Nat) (l : List Dt) (hA : Rd w [] A (l.flatMap Dt.cells)) (hB : Rd w [] B (l.flatMap Dt.cells)) (hl : len = l.length) (hb : len ≤ 5864062014805) :
    Is Try.prog 20 [.slice A len ca, .slice B len cb] w (.bool true) := by
  refine Does.pure (Does.of (n := 26) Try.func20 rfl rfl rfl rfl ?_)
  refine .seq ((.region (.v (.assign rfl) (.nil ?_))))
  refine .seq (.seq ((.region (.v (.move rfl) (.v (.len rfl) (.v (.move rfl) (.v (.len rfl) (.v (.nei rfl rfl) (.nil ?_)))))))))
  refine .cond_dec rfl (fun g => absurd rfl g) (fun g => .skip ?_)
  refine .seq (.seq ((.region (.v (.assign rfl) (.nil ?_)))))
  refine .block (.loop (X := Nat) (fun i => [(0, .slice A len ca), (1, .slice B len cb), (5, .int .i64 i)]) (fun _ => []) (fun i => i ≤ len) (fun i => len - i) 0 (by omega) (.cons rfl (.cons rfl (.cons rfl (.nil _)))) (fun _ s => s) ?_)
  intro i hi
  refine .seq (.seq ((.region (.v (.move rfl) (.v (.move rfl) (.v (.len rfl) (.v (.lss rfl rfl) (.nil ?_))))))))
  refine .cond_dec rfl (fun g2 => .skip ?_) (fun g2 => .exit ?_)
  · have hil : i < l.length := by omega
    obtain ⟨b, o, rfl, hc⟩ := Rd.recs Dt.cells 6 (fun _ => rfl) hA (by omega) (by omega)
    obtain ⟨b', o', rfl, hc'⟩ := Rd.recs Dt.cells 6 (fun _ => rfl) hB (by omega) (by omega)
    have q := fun hs => recAt Dt.cells 6 (fun _ => rfl) (z := (i : Int)) (hc hs) hil
    have q' := fun hs => recAt Dt.cells 6 (fun _ => rfl) (z := (i : Int)) (hc' hs) hil
    generalize l[i] = x at q q'
    refine .seq (.block (.seq ((.drawS (by kernel_rfl) (by kernel_rfl) (.v (.move rfl) (.v (.move rfl) (.v (.indexAddr rfl rfl (by omega) (by omega)) (.v (.loadA (vs := Dt.cells x) rfl (q _) rfl) (.v (.move rfl) (.v (.move rfl) (.v (.indexAddr rfl rfl (by omega) (by omega)) (.v (.loadA (vs := Dt.cells x) rfl (q' _) rfl) (.v (.neA rfl rfl (Dt.oks x) (Dt.oks x)) (.nil ?_))))))))))))))
    refine .cond rfl (fun g3 => absurd g3 (by rw [(cellsEq_iff (Dt.oks x) (Dt.oks x)).2 rfl]; simp)) (fun _ => .skip ?_)
    refine .region (.v (.move rfl) (.v (.addi rfl rfl (by omega)) (.v (.assign rfl) (.nil ?_))))
    exact ⟨i + 1, by omega, by omega, .cons rfl (.cons rfl (.cons rfl (.nil _))), fun _ s => s⟩
  · refine .seq ((.region (.v (.assign rfl) (.nil ?_))))
    exact .ret ⟨[_], ⟨rfl, trivial⟩, rfl⟩

structure Pc where
  seq : Int
  bs : List Lv
  ss : List Lv
abbrev pcells (seq : Int) (v1 v2 : Value) : List Value := [.int .u64 seq, v1, v2]
theorem samePicture_ok (w : World) (A1 A2 B1 B2 : Option Addr) (c1 c2 d1 d2 : Nat) (p : Pc) (h1 : Rd w [] A1 (lrows p.bs)) (h2 : Rd w [] A2 (lrows p.ss)) (k1 : Rd w [] B1 (lrows p.bs)) (k2 : Rd w [] B2 (lrows p.ss)) (hb : p.bs.length + p.ss.length ≤ 10000000) :
    Is Try.prog 24 [.agg ⟨pcells p.seq (.slice A1 p.bs.length c1) (.slice A2 p.ss.length c2)⟩, .agg ⟨pcells p.seq (.slice B1 p.bs.length d1) (.slice B2 p.ss.length d2)⟩] w (.bool true) := by
  refine Does.pure (Does.of (n := 24) Try.func24 rfl rfl rfl rfl ?_)
  refine .seq ((.region (.nw (.box (l := pcells p.seq (.slice A1 p.bs.length c1) (.slice A2 p.ss.length c2)) rfl rfl) fun b2 => (.nw (.box (l := pcells p.seq (.slice B1 p.bs.length d1) (.slice B2 p.ss.length d2)) rfl rfl) fun b3 => (.v (.assign rfl) (.nil ?_))))))
  refine .seq ((.region (.v (.fieldAddr rfl) (.v (.load (v := .int .u64 p.seq) rfl (.one rfl)) (.v (.fieldAddr rfl) (.v (.load (v := .int .u64 p.seq) rfl (.one rfl)) (.v (.eqi rfl rfl) (.v (.move rfl) (.and (b2 := true) 10 15 5 5 rfl rfl (fun g1 => .v (.fieldAddr rfl) (.v (.load (v := .slice A1 p.bs.length c1) rfl (.one rfl)) (.v (.fieldAddr rfl) (.v (.load (v := .slice B1 p.bs.length d1) rfl (.one rfl)) (.pc (v := .bool true) rfl rfl (fun w s => sameLevels_ok w A1 B1 _ c1 d1 p.bs (h1.keep0 s) (k1.keep0 s) rfl (by omega)) (.nil ⟨rfl, rfl, rfl, rfl⟩)))))) (.v (.move rfl) (.and (b2 := true) 17 22 5 5 rfl rfl (fun g2 => .v (.fieldAddr rfl) (.v (.load (v := .slice A2 p.ss.length c2) rfl (.one rfl)) (.v (.fieldAddr rfl) (.v (.load (v := .slice B2 p.ss.length d2) rfl (.one rfl)) (.pc (v := .bool true) rfl rfl (fun w s => sameLevels_ok w A2 B2 _ c2 d2 p.ss (h2.keep0 s) (k2.keep0 s) rfl (by omega)) (.nil ⟨rfl, rfl, rfl, rfl⟩)))))) (.v (.assign rfl) (.nil ?_)))))))))))))
  exact .ret ⟨[_], ⟨rfl, trivial⟩, by simp [tup]⟩
/-- a picture whose sides are new -/
def NewPic (p : Pc) (v : Value) (hs : Hp) : Prop := ∃ A1 A2 c1 c2 k1 k2, v = .agg ⟨pcells p.seq (.slice A1 p.bs.length c1) (.slice A2 p.ss.length c2)⟩ ∧ hs = k2 ++ k1 ∧ LOwn (.slice A1 p.bs.length c1) p.bs k1 ∧ LOwn (.slice A2 p.ss.length c2) p.ss k2
theorem lown_sl {v : Value} {l : List Lv} {h : Hp} (k : LOwn v l h) : ∃ A c, v = .slice A l.length c := OwnS.slice k
set_option maxRecDepth 10000 in
theorem pcopied_ok (w : World) (A1 A2 : Option Addr) (c1 c2 : Nat) (p : Pc) (h1 : Rd w [] A1 (lrows p.bs)) (h2 : Rd w [] A2 (lrows p.ss)) (hb : p.bs.length + p.ss.length ≤ 10000000) :
    Does Try.prog 47 [.agg ⟨pcells p.seq (.slice A1 p.bs.length c1) (.slice A2 p.ss.length c2)⟩] [] w (NewPic p) := by
  refine Does.less (Does.of (n := 12) Try.func47 rfl rfl rfl rfl ?_)
  refine .seq ((.region (.nw (.box (l := pcells p.seq (.slice A1 p.bs.length c1) (.slice A2 p.ss.length c2)) rfl rfl) fun b1 => (.nw .alloc fun b2 => (.nil ?_)))))
  refine .seq ((.drawQ 9 [0, 1, 2, 3, 5, 6, 4, 7, 8, 9] [(b1, .cells (pcells p.seq (.slice A1 p.bs.length c1) (.slice A2 p.ss.length c2)) 40)] (by intro p hp; simp at hp; subst hp; simp) (by kernel_rfl) (by kernel_rfl) ?_))
  refine .v (fun _ f => .fieldAddr rfl) (.v (fun _ f => .load (v := .int .u64 p.seq) rfl (.one (hb := .sub f) rfl)) (.v (fun _ f => .fieldAddr rfl) (.v (fun _ f => .load (v := .slice A1 p.bs.length c1) rfl (.one (hb := .sub f) rfl)) (.v (fun _ f => .fieldAddr rfl) (.v (fun _ f => .load (v := .slice A2 p.ss.length c2) rfl (.one (hb := .sub f) rfl)) ?_)))))
  refine .ef (.call0 rfl rfl fun w s => lclone_ok w A1 p.bs.length c1 p.bs (h1.keep0 s) rfl (by omega)) (fun v hs' ⟨h, _, e⟩ f => by subst e; exact fun p hp => List.mem_append_right _ (f hp)) ?_
  rintro v1 _ ⟨k1, o1, rfl⟩
  refine .ef (.call0 rfl rfl fun w s => lclone_ok w A2 p.ss.length c2 p.ss (h2.keep0 s) rfl (by omega)) (fun v hs' ⟨h, _, e⟩ f => by subst e; exact fun p hp => List.mem_append_right _ (f hp)) ?_
  rintro v2 _ ⟨k2, o2, rfl⟩
  obtain ⟨B1, d1, rfl⟩ := lown_sl o1
  obtain ⟨B2, d2, rfl⟩ := lown_sl o2
  refine .v (fun _ f => .build (out := pcells p.seq (.slice B1 p.bs.length d1) (.slice B2 p.ss.length d2)) rfl rfl) (.st (.sw rfl rfl) (.nil ?_))
  refine .ret ⟨[_], ⟨⟨_, rfl, .inr ⟨3, _, inferInstance, rfl, rfl, .whole⟩⟩, trivial⟩, k2 ++ k1, fun _ s => Sat.take (pre := k2 ++ k1) s, B1, B2, d1, d2, k1, k2, rfl, rfl, o1, o2⟩
end Go.Proofs.Ytinmhhonpflojaa

/- rules.Check and the document's: what a command is refused for, by itself. -/
namespace Go.Proofs.Ytinmhhonpflojaa
open Go.V
set_option linter.unusedVariables false
set_option linter.unusedSimpArgs false

/-- a command's cells -/
def ccells (k id tg mb sd ty pr q pk : Int) : List Value := [.int .i64 k, .int .u64 id, .int .u64 tg, .int .u32 mb, .int .i64 sd, .int .i64 ty, .int .i64 pr, .int .u64 q, .int .u64 pk]
def szd (id pr q pk ty : Int) : Int :=
  if pr < 0 ∨ 262144 ≤ pr ∨ ty = 2 ∧ pr ≠ 0 then 94
  else if q < 1 ∨ 4294967295 < q then 95
  else if q < pk ∨ pk ≠ 0 ∧ (¬ (ty = 1 ∨ ty = 5) ∨ IntKind.u64.wrap (256 * pk) < q) then 96
  else if id = 0 then 97 else 0
def chk (k id sd ty pr q pk : Int) : Int :=
  if k = 1 then (if sd ≠ 1 ∧ sd ≠ 2 then 92 else if ty < 1 ∨ 5 < ty then 93 else szd id pr q pk ty)
  else if k = 3 then szd id pr q pk 1 else if k = 2 then 0 else 90
theorem configured_ok (w : World) (c m : Int) : Is Try.prog 55 [.agg ⟨[.int .i64 c, .int .i64 m]⟩] w (.bool (decide (1 ≤ c ∧ c ≤ 4096 ∧ 0 ≤ m ∧ m ≤ 3))) := by
  refine Does.pure (Does.of (n := 21) Try.func55 rfl rfl rfl rfl ?_)
  refine .seq ((.region (.nw (.box rfl rfl) fun b1 => (.v (.assign rfl) (.nil ?_)))))
  refine .seq ((.region (.v (.fieldAddr rfl) (.v (.load rfl (.one rfl)) (.v (.geq rfl rfl) (.v (.move rfl) (.and 6 9 3 3 rfl rfl (fun g1 => .v (.fieldAddr rfl) (.v (.load rfl (.one rfl)) (.v (.leq rfl rfl) (.nil ⟨rfl, rfl, rfl, rfl⟩)))) (.v (.move rfl) (.and 11 14 3 3 rfl rfl (fun g2 => .v (.fieldAddr rfl) (.v (.load rfl (.one rfl)) (.v (.geq rfl rfl) (.nil ⟨rfl, rfl, rfl, rfl⟩)))) (.v (.move rfl) (.and 16 19 3 3 rfl rfl (fun g3 => .v (.fieldAddr rfl) (.v (.load rfl (.one rfl)) (.v (.leq rfl rfl) (.nil ⟨rfl, rfl, rfl, rfl⟩)))) (.v (.assign rfl) (.nil ?_)))))))))))))
  refine .ret ⟨[_], ⟨rfl, trivial⟩, vb ?_⟩
  simp only [Bool.and_eq_true, Bool.or_eq_true, Bool.not_eq_true', Bool.and_eq_false_iff, Bool.or_eq_false_iff, Bool.not_eq_false', decide_eq_true_eq, decide_eq_false_iff_not, Bool.false_eq_true, false_iff]; omega
theorem sized_ok (w : World) (k id tg mb sd t0 pr q pk ty : Int) : Is Try.prog 86 [.agg ⟨ccells k id tg mb sd t0 pr q pk⟩, .int .i64 ty] w (.int .i64 (szd id pr q pk ty)) := by
  refine Does.pure (Does.of (n := 66) Try.func86 rfl rfl rfl rfl ?_)
  refine .seq ((.region (.nw (.box rfl rfl) fun b2 => (.v (.assign rfl) (.nil ?_)))))
  refine .seq ((.region (.v (.move rfl) (.v (.eqi rfl rfl) (.v (.move rfl) (.or 8 10 2 2 rfl rfl (fun g1 => .v (.move rfl) (.v (.eqi rfl rfl) (.nil ⟨rfl, rfl, rfl, rfl⟩))) (.v (.assign rfl) (.nil ?_))))))))
  refine .seq (.block (.seq ((.region (.v (.fieldAddr rfl) (.v (.load rfl (.one rfl)) (.v (.lss rfl rfl) (.v (.move rfl) (.or 16 19 3 3 rfl rfl (fun g2 => .v (.fieldAddr rfl) (.v (.load rfl (.one rfl)) (.v (.geq rfl rfl) (.nil ⟨rfl, rfl, rfl, rfl⟩)))) (.v (.move rfl) (.or 21 28 7 4 rfl rfl (fun g3 => .v (.move rfl) (.v (.eqi rfl rfl) (.v (.move rfl) (.and 24 27 3 3 rfl rfl (fun g4 => .v (.fieldAddr rfl) (.v (.load rfl (.one rfl)) (.v (.nei rfl rfl) (.nil ⟨rfl, rfl, rfl, rfl⟩)))) (.nil ⟨rfl, rfl, rfl, rfl⟩))))) (.v (.assign rfl) (.nil ?_)))))))))))))
  refine .cond rfl (fun h1 => ?_) (fun h1 => ?_) <;> simp only [Bool.and_eq_true, Bool.or_eq_true, Bool.not_eq_true', Bool.and_eq_false_iff, Bool.or_eq_false_iff, Bool.not_eq_false', decide_eq_true_eq, decide_eq_false_iff_not, Bool.false_eq_true, false_iff] at h1
  · refine .seq ((.region (.v (.assign rfl) (.nil ?_))))
    exact .ret ⟨[_], ⟨rfl, trivial⟩, by rw [show szd id pr q pk ty = 94 from by unfold szd; rw [if_pos (by omega)]]; rfl⟩
  · refine .seq ((.region (.v (.fieldAddr rfl) (.v (.load rfl (.one rfl)) (.v (.lss rfl rfl) (.v (.move rfl) (.or 34 37 3 3 rfl rfl (fun g5 => .v (.fieldAddr rfl) (.v (.load rfl (.one rfl)) (.v (.gtr rfl rfl) (.nil ⟨rfl, rfl, rfl, rfl⟩)))) (.v (.assign rfl) (.nil ?_)))))))))
    refine .cond rfl (fun h2 => ?_) (fun h2 => ?_) <;> simp only [Bool.and_eq_true, Bool.or_eq_true, Bool.not_eq_true', Bool.and_eq_false_iff, Bool.or_eq_false_iff, Bool.not_eq_false', decide_eq_true_eq, decide_eq_false_iff_not, Bool.false_eq_true, false_iff] at h2
    · refine .seq ((.region (.v (.assign rfl) (.nil ?_))))
      exact .ret ⟨[_], ⟨rfl, trivial⟩, by rw [show szd id pr q pk ty = 95 from by unfold szd; rw [if_neg (by omega), if_pos (by omega)]]; rfl⟩
    · refine .seq ((.region (.v (.fieldAddr rfl) (.v (.load rfl (.one rfl)) (.v (.fieldAddr rfl) (.v (.load rfl (.one rfl)) (.v (.gtr rfl rfl) (.v (.move rfl) (.or 45 60 15 5 rfl rfl (fun g6 => .v (.fieldAddr rfl) (.v (.load rfl (.one rfl)) (.v (.nei rfl rfl) (.v (.move rfl) (.and 49 59 10 4 rfl rfl (fun g7 => .v (.move rfl) (.v (.not rfl) (.v (.move rfl) (.or 52 58 6 6 rfl rfl (fun g8 => .v (.fieldAddr rfl) (.v (.load rfl (.one rfl)) (.v (.mul rfl rfl) (.v (.fieldAddr rfl) (.v (.load rfl (.one rfl)) (.v (.lss rfl rfl) (.nil ⟨rfl, rfl, rfl, rfl⟩))))))) (.nil ⟨rfl, rfl, rfl, rfl⟩))))) (.nil ⟨rfl, rfl, rfl, rfl⟩)))))) (.v (.assign rfl) (.nil ?_)))))))))))
      refine .cond rfl (fun h3 => ?_) (fun h3 => ?_) <;> simp only [Bool.and_eq_true, Bool.or_eq_true, Bool.not_eq_true', Bool.and_eq_false_iff, Bool.or_eq_false_iff, Bool.not_eq_false', decide_eq_true_eq, decide_eq_false_iff_not, Bool.false_eq_true, false_iff] at h3
      · refine .seq ((.region (.v (.assign rfl) (.nil ?_))))
        exact .ret ⟨[_], ⟨rfl, trivial⟩, by rw [show szd id pr q pk ty = 96 from by unfold szd; rw [if_neg (by omega), if_neg (by omega), if_pos (by omega)]]; rfl⟩
      · refine .seq ((.region (.v (.fieldAddr rfl) (.v (.load rfl (.one rfl)) (.v (.eqi rfl rfl) (.v (.assign rfl) (.nil ?_)))))))
        refine .cond_dec rfl (fun h4 => ?_) (fun h4 => .skip ?_)
        · refine .seq ((.region (.v (.assign rfl) (.nil ?_))))
          exact .ret ⟨[_], ⟨rfl, trivial⟩, by rw [show szd id pr q pk ty = 97 from by unfold szd; rw [if_neg (by omega), if_neg (by omega), if_neg (by omega), if_pos (by omega)]]; rfl⟩
        · refine .seq ((.region (.v (.assign rfl) (.nil ?_))))
          exact .ret ⟨[_], ⟨rfl, trivial⟩, by rw [show szd id pr q pk ty = 0 from by unfold szd; rw [if_neg (by omega), if_neg (by omega), if_neg (by omega), if_neg (by omega)]]; rfl⟩
theorem Check_ok (w : World) (k id tg mb sd ty pr q pk : Int) : Is Try.prog 78 [.agg ⟨ccells k id tg mb sd ty pr q pk⟩] w (.int .i64 (chk k id sd ty pr q pk)) := by
  refine Does.pure (Does.of (n := 33) Try.func78 rfl rfl rfl rfl ?_)
  refine .seq ((.region (.nw (.box rfl rfl) fun b1 => (.v (.assign rfl) (.nil ?_)))))
  refine .seq (.seq ((.region (.v (.fieldAddr rfl) (.v (.load rfl (.one rfl)) (.nil ?_))))))
  refine .block (.seq ((.region (.v (.eqi rfl rfl) (.v (.assign rfl) (.nil ?_))))))
  refine .cond_dec rfl (fun h1 => ?_) (fun h1 => ?_)
  · refine .seq (.seq ((.region (.v (.fieldAddr rfl) (.v (.load rfl (.one rfl)) (.v (.nei rfl rfl) (.v (.move rfl) (.and 10 13 3 3 rfl rfl (fun g1 => .v (.fieldAddr rfl) (.v (.load rfl (.one rfl)) (.v (.nei rfl rfl) (.nil ⟨rfl, rfl, rfl, rfl⟩)))) (.nil ?_)))))))))
    refine .cond rfl (fun h2 => ?_) (fun h2 => .skip ?_) <;> simp only [Bool.and_eq_true, Bool.or_eq_true, Bool.not_eq_true', Bool.and_eq_false_iff, Bool.or_eq_false_iff, Bool.not_eq_false', decide_eq_true_eq, decide_eq_false_iff_not, Bool.false_eq_true, false_iff] at h2
    · refine .seq ((.region (.v (.assign rfl) (.nil ?_))))
      exact .ret ⟨[_], ⟨rfl, trivial⟩, by rw [show chk k id sd ty pr q pk = 92 from by unfold chk; rw [if_pos (by omega), if_pos (by omega)]]; rfl⟩
    · refine .seq (.seq ((.region (.v (.fieldAddr rfl) (.v (.load rfl (.one rfl)) (.v (.lss rfl rfl) (.v (.move rfl) (.or 18 21 3 3 rfl rfl (fun g2 => .v (.fieldAddr rfl) (.v (.load rfl (.one rfl)) (.v (.gtr rfl rfl) (.nil ⟨rfl, rfl, rfl, rfl⟩)))) (.nil ?_)))))))))
      refine .cond rfl (fun h3 => ?_) (fun h3 => .skip ?_) <;> simp only [Bool.and_eq_true, Bool.or_eq_true, Bool.not_eq_true', Bool.and_eq_false_iff, Bool.or_eq_false_iff, Bool.not_eq_false', decide_eq_true_eq, decide_eq_false_iff_not, Bool.false_eq_true, false_iff] at h3
      · refine .seq ((.region (.v (.assign rfl) (.nil ?_))))
        exact .ret ⟨[_], ⟨rfl, trivial⟩, by rw [show chk k id sd ty pr q pk = 93 from by unfold chk; rw [if_pos (by omega), if_neg (by omega), if_pos (by omega)]]; rfl⟩
      · refine .seq ((.region (.v (.loadA rfl .whole rfl) (.v (.fieldAddr rfl) (.v (.load rfl (.one rfl)) (.pc rfl rfl (fun w s => sized_ok w k id tg mb sd ty pr q pk ty) (.v (.assign rfl) (.nil ?_))))))))
        exact .ret ⟨[_], ⟨rfl, trivial⟩, by rw [show chk k id sd ty pr q pk = szd id pr q pk ty from by unfold chk; rw [if_pos (by omega), if_neg (by omega), if_neg (by omega)]]; rfl⟩
  · refine .seq ((.region (.v (.eqi rfl rfl) (.v (.assign rfl) (.nil ?_)))))
    refine .cond_dec rfl (fun h4 => ?_) (fun h4 => ?_)
    · refine .seq ((.region (.v (.loadA rfl .whole rfl) (.pc rfl rfl (fun w s => sized_ok w k id tg mb sd ty pr q pk 1) (.v (.assign rfl) (.nil ?_))))))
      exact .ret ⟨[_], ⟨rfl, trivial⟩, by rw [show chk k id sd ty pr q pk = szd id pr q pk 1 from by unfold chk; rw [if_neg (by omega), if_pos (by omega)]]; rfl⟩
    · refine .seq ((.region (.v (.eqi rfl rfl) (.v (.assign rfl) (.nil ?_)))))
      refine .cond_dec rfl (fun h5 => ?_) (fun h5 => .skip ?_)
      · refine .seq ((.region (.v (.assign rfl) (.nil ?_))))
        exact .ret ⟨[_], ⟨rfl, trivial⟩, by rw [show chk k id sd ty pr q pk = 0 from by unfold chk; rw [if_neg (by omega), if_neg (by omega), if_pos (by omega)]]; rfl⟩
      · refine .seq ((.region (.v (.assign rfl) (.nil ?_))))
        exact .ret ⟨[_], ⟨rfl, trivial⟩, by rw [show chk k id sd ty pr q pk = 90 from by unfold chk; rw [if_neg (by omega), if_neg (by omega), if_neg (by omega)]]; rfl⟩
end Go.Proofs.Ytinmhhonpflojaa
