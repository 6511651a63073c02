/- Texts that the row RRiskLimits stands on: QCheck, VO, QRest, QOrd, VP, QRValid, VQ, VR, VS, QClone, QCopy, QCopied, QOrders, QBooks, QNew, QValid, QValid2, QChecks, QBk, QRef, VU, QSlices, VW, QTell, VX, VY, VA, VC, VMA. -/
import Derived.Test.YtfajjkolhajldaaYRiskLimitsA
import Derived.MapKept
import Derived.Lib.Overlaps
import Derived.Maps.RangeRun
/- rules.Check and the document's: what a command is refused for, by itself. -/
namespace Go.Proofs.Ytfajjkolhajldaa
open Go.V
set_option linter.unusedVariables false
set_option linter.unusedSimpArgs false

/-- a command's cells -/
def ccells (k id tg mb sd ty pr q pk : Int) : List Value := [.int .i64 k, .int .u64 id, .int .u64 tg, .int .u32 mb, .int .i64 sd, .int .i64 ty, .int .i64 pr, .int .u64 q, .int .u64 pk]
def szd (id pr q pk ty : Int) : Int :=
  if pr < 0 ∨ 262144 ≤ pr ∨ ty = 2 ∧ pr ≠ 0 then 94
  else if q < 1 ∨ 4294967295 < q then 95
  else if q < pk ∨ pk ≠ 0 ∧ (¬ (ty = 1 ∨ ty = 5) ∨ IntKind.u64.wrap (256 * pk) < q) then 96
  else if id = 0 then 97 else 0
def chk (k id sd ty pr q pk : Int) : Int :=
  if k = 1 then (if sd ≠ 1 ∧ sd ≠ 2 then 92 else if ty < 1 ∨ 5 < ty then 93 else szd id pr q pk ty)
  else if k = 3 then szd id pr q pk 1 else if k = 2 then 0 else 90
theorem configured_ok (w : World) (c m : Int) : Is Try.prog 50 [.agg ⟨[.int .i64 c, .int .i64 m]⟩] w (.bool (decide (1 ≤ c ∧ c ≤ 4096 ∧ 0 ≤ m ∧ m ≤ 3))) := by
  refine Does.pure (Does.of (n := 21) Try.func50 rfl rfl rfl rfl ?_)
  refine .seq ((.region (.nw (.box rfl rfl) fun b1 => (.v (.assign rfl) (.nil ?_)))))
  refine .seq ((.region (.v (.fieldAddr rfl) (.v (.load rfl (.one rfl)) (.v (.geq rfl rfl) (.v (.move rfl) (.and 6 9 3 3 rfl rfl (fun g1 => .v (.fieldAddr rfl) (.v (.load rfl (.one rfl)) (.v (.leq rfl rfl) (.nil ⟨rfl, rfl, rfl, rfl⟩)))) (.v (.move rfl) (.and 11 14 3 3 rfl rfl (fun g2 => .v (.fieldAddr rfl) (.v (.load rfl (.one rfl)) (.v (.geq rfl rfl) (.nil ⟨rfl, rfl, rfl, rfl⟩)))) (.v (.move rfl) (.and 16 19 3 3 rfl rfl (fun g3 => .v (.fieldAddr rfl) (.v (.load rfl (.one rfl)) (.v (.leq rfl rfl) (.nil ⟨rfl, rfl, rfl, rfl⟩)))) (.v (.assign rfl) (.nil ?_)))))))))))))
  refine .ret ⟨[_], ⟨rfl, trivial⟩, vb ?_⟩
  simp only [Bool.and_eq_true, Bool.or_eq_true, Bool.not_eq_true', Bool.and_eq_false_iff, Bool.or_eq_false_iff, Bool.not_eq_false', decide_eq_true_eq, decide_eq_false_iff_not, Bool.false_eq_true, false_iff]; omega
theorem sized_ok (w : World) (k id tg mb sd t0 pr q pk ty : Int) : Is Try.prog 91 [.agg ⟨ccells k id tg mb sd t0 pr q pk⟩, .int .i64 ty] w (.int .i64 (szd id pr q pk ty)) := by
  refine Does.pure (Does.of (n := 66) Try.func91 rfl rfl rfl rfl ?_)
  refine .seq ((.region (.nw (.box rfl rfl) fun b2 => (.v (.assign rfl) (.nil ?_)))))
  refine .seq ((.region (.v (.move rfl) (.v (.eqi rfl rfl) (.v (.move rfl) (.or 8 10 2 2 rfl rfl (fun g1 => .v (.move rfl) (.v (.eqi rfl rfl) (.nil ⟨rfl, rfl, rfl, rfl⟩))) (.v (.assign rfl) (.nil ?_))))))))
  refine .seq (.block (.seq ((.region (.v (.fieldAddr rfl) (.v (.load rfl (.one rfl)) (.v (.lss rfl rfl) (.v (.move rfl) (.or 16 19 3 3 rfl rfl (fun g2 => .v (.fieldAddr rfl) (.v (.load rfl (.one rfl)) (.v (.geq rfl rfl) (.nil ⟨rfl, rfl, rfl, rfl⟩)))) (.v (.move rfl) (.or 21 28 7 4 rfl rfl (fun g3 => .v (.move rfl) (.v (.eqi rfl rfl) (.v (.move rfl) (.and 24 27 3 3 rfl rfl (fun g4 => .v (.fieldAddr rfl) (.v (.load rfl (.one rfl)) (.v (.nei rfl rfl) (.nil ⟨rfl, rfl, rfl, rfl⟩)))) (.nil ⟨rfl, rfl, rfl, rfl⟩))))) (.v (.assign rfl) (.nil ?_)))))))))))))
  refine .cond rfl (fun h1 => ?_) (fun h1 => ?_) <;> simp only [Bool.and_eq_true, Bool.or_eq_true, Bool.not_eq_true', Bool.and_eq_false_iff, Bool.or_eq_false_iff, Bool.not_eq_false', decide_eq_true_eq, decide_eq_false_iff_not, Bool.false_eq_true, false_iff] at h1
  · refine .seq ((.region (.v (.assign rfl) (.nil ?_))))
    exact .ret ⟨[_], ⟨rfl, trivial⟩, by rw [show szd id pr q pk ty = 94 from by unfold szd; rw [if_pos (by omega)]]; rfl⟩
  · refine .seq ((.region (.v (.fieldAddr rfl) (.v (.load rfl (.one rfl)) (.v (.lss rfl rfl) (.v (.move rfl) (.or 34 37 3 3 rfl rfl (fun g5 => .v (.fieldAddr rfl) (.v (.load rfl (.one rfl)) (.v (.gtr rfl rfl) (.nil ⟨rfl, rfl, rfl, rfl⟩)))) (.v (.assign rfl) (.nil ?_)))))))))
    refine .cond rfl (fun h2 => ?_) (fun h2 => ?_) <;> simp only [Bool.and_eq_true, Bool.or_eq_true, Bool.not_eq_true', Bool.and_eq_false_iff, Bool.or_eq_false_iff, Bool.not_eq_false', decide_eq_true_eq, decide_eq_false_iff_not, Bool.false_eq_true, false_iff] at h2
    · refine .seq ((.region (.v (.assign rfl) (.nil ?_))))
      exact .ret ⟨[_], ⟨rfl, trivial⟩, by rw [show szd id pr q pk ty = 95 from by unfold szd; rw [if_neg (by omega), if_pos (by omega)]]; rfl⟩
    · refine .seq ((.region (.v (.fieldAddr rfl) (.v (.load rfl (.one rfl)) (.v (.fieldAddr rfl) (.v (.load rfl (.one rfl)) (.v (.gtr rfl rfl) (.v (.move rfl) (.or 45 60 15 5 rfl rfl (fun g6 => .v (.fieldAddr rfl) (.v (.load rfl (.one rfl)) (.v (.nei rfl rfl) (.v (.move rfl) (.and 49 59 10 4 rfl rfl (fun g7 => .v (.move rfl) (.v (.not rfl) (.v (.move rfl) (.or 52 58 6 6 rfl rfl (fun g8 => .v (.fieldAddr rfl) (.v (.load rfl (.one rfl)) (.v (.mul rfl rfl) (.v (.fieldAddr rfl) (.v (.load rfl (.one rfl)) (.v (.lss rfl rfl) (.nil ⟨rfl, rfl, rfl, rfl⟩))))))) (.nil ⟨rfl, rfl, rfl, rfl⟩))))) (.nil ⟨rfl, rfl, rfl, rfl⟩)))))) (.v (.assign rfl) (.nil ?_)))))))))))
      refine .cond rfl (fun h3 => ?_) (fun h3 => ?_) <;> simp only [Bool.and_eq_true, Bool.or_eq_true, Bool.not_eq_true', Bool.and_eq_false_iff, Bool.or_eq_false_iff, Bool.not_eq_false', decide_eq_true_eq, decide_eq_false_iff_not, Bool.false_eq_true, false_iff] at h3
      · refine .seq ((.region (.v (.assign rfl) (.nil ?_))))
        exact .ret ⟨[_], ⟨rfl, trivial⟩, by rw [show szd id pr q pk ty = 96 from by unfold szd; rw [if_neg (by omega), if_neg (by omega), if_pos (by omega)]]; rfl⟩
      · refine .seq ((.region (.v (.fieldAddr rfl) (.v (.load rfl (.one rfl)) (.v (.eqi rfl rfl) (.v (.assign rfl) (.nil ?_)))))))
        refine .cond_dec rfl (fun h4 => ?_) (fun h4 => .skip ?_)
        · refine .seq ((.region (.v (.assign rfl) (.nil ?_))))
          exact .ret ⟨[_], ⟨rfl, trivial⟩, by rw [show szd id pr q pk ty = 97 from by unfold szd; rw [if_neg (by omega), if_neg (by omega), if_neg (by omega), if_pos (by omega)]]; rfl⟩
        · refine .seq ((.region (.v (.assign rfl) (.nil ?_))))
          exact .ret ⟨[_], ⟨rfl, trivial⟩, by rw [show szd id pr q pk ty = 0 from by unfold szd; rw [if_neg (by omega), if_neg (by omega), if_neg (by omega), if_neg (by omega)]]; rfl⟩
theorem Check_ok (w : World) (k id tg mb sd ty pr q pk : Int) : Is Try.prog 78 [.agg ⟨ccells k id tg mb sd ty pr q pk⟩] w (.int .i64 (chk k id sd ty pr q pk)) := by
  refine Does.pure (Does.of (n := 33) Try.func78 rfl rfl rfl rfl ?_)
  refine .seq ((.region (.nw (.box rfl rfl) fun b1 => (.v (.assign rfl) (.nil ?_)))))
  refine .seq (.seq ((.region (.v (.fieldAddr rfl) (.v (.load rfl (.one rfl)) (.nil ?_))))))
  refine .block (.seq ((.region (.v (.eqi rfl rfl) (.v (.assign rfl) (.nil ?_))))))
  refine .cond_dec rfl (fun h1 => ?_) (fun h1 => ?_)
  · refine .seq (.seq ((.region (.v (.fieldAddr rfl) (.v (.load rfl (.one rfl)) (.v (.nei rfl rfl) (.v (.move rfl) (.and 10 13 3 3 rfl rfl (fun g1 => .v (.fieldAddr rfl) (.v (.load rfl (.one rfl)) (.v (.nei rfl rfl) (.nil ⟨rfl, rfl, rfl, rfl⟩)))) (.nil ?_)))))))))
    refine .cond rfl (fun h2 => ?_) (fun h2 => .skip ?_) <;> simp only [Bool.and_eq_true, Bool.or_eq_true, Bool.not_eq_true', Bool.and_eq_false_iff, Bool.or_eq_false_iff, Bool.not_eq_false', decide_eq_true_eq, decide_eq_false_iff_not, Bool.false_eq_true, false_iff] at h2
    · refine .seq ((.region (.v (.assign rfl) (.nil ?_))))
      exact .ret ⟨[_], ⟨rfl, trivial⟩, by rw [show chk k id sd ty pr q pk = 92 from by unfold chk; rw [if_pos (by omega), if_pos (by omega)]]; rfl⟩
    · refine .seq (.seq ((.region (.v (.fieldAddr rfl) (.v (.load rfl (.one rfl)) (.v (.lss rfl rfl) (.v (.move rfl) (.or 18 21 3 3 rfl rfl (fun g2 => .v (.fieldAddr rfl) (.v (.load rfl (.one rfl)) (.v (.gtr rfl rfl) (.nil ⟨rfl, rfl, rfl, rfl⟩)))) (.nil ?_)))))))))
      refine .cond rfl (fun h3 => ?_) (fun h3 => .skip ?_) <;> simp only [Bool.and_eq_true, Bool.or_eq_true, Bool.not_eq_true', Bool.and_eq_false_iff, Bool.or_eq_false_iff, Bool.not_eq_false', decide_eq_true_eq, decide_eq_false_iff_not, Bool.false_eq_true, false_iff] at h3
      · refine .seq ((.region (.v (.assign rfl) (.nil ?_))))
        exact .ret ⟨[_], ⟨rfl, trivial⟩, by rw [show chk k id sd ty pr q pk = 93 from by unfold chk; rw [if_pos (by omega), if_neg (by omega), if_pos (by omega)]]; rfl⟩
      · refine .seq ((.region (.v (.loadA rfl .whole rfl) (.v (.fieldAddr rfl) (.v (.load rfl (.one rfl)) (.pc rfl rfl (fun w s => sized_ok w k id tg mb sd ty pr q pk ty) (.v (.assign rfl) (.nil ?_))))))))
        exact .ret ⟨[_], ⟨rfl, trivial⟩, by rw [show chk k id sd ty pr q pk = szd id pr q pk ty from by unfold chk; rw [if_pos (by omega), if_neg (by omega), if_neg (by omega)]]; rfl⟩
  · refine .seq ((.region (.v (.eqi rfl rfl) (.v (.assign rfl) (.nil ?_)))))
    refine .cond_dec rfl (fun h4 => ?_) (fun h4 => ?_)
    · refine .seq ((.region (.v (.loadA rfl .whole rfl) (.pc rfl rfl (fun w s => sized_ok w k id tg mb sd ty pr q pk 1) (.v (.assign rfl) (.nil ?_))))))
      exact .ret ⟨[_], ⟨rfl, trivial⟩, by rw [show chk k id sd ty pr q pk = szd id pr q pk 1 from by unfold chk; rw [if_neg (by omega), if_pos (by omega)]]; rfl⟩
    · refine .seq ((.region (.v (.eqi rfl rfl) (.v (.assign rfl) (.nil ?_)))))
      refine .cond_dec rfl (fun h5 => ?_) (fun h5 => .skip ?_)
      · refine .seq ((.region (.v (.assign rfl) (.nil ?_))))
        exact .ret ⟨[_], ⟨rfl, trivial⟩, by rw [show chk k id sd ty pr q pk = 0 from by unfold chk; rw [if_neg (by omega), if_neg (by omega), if_pos (by omega)]]; rfl⟩
      · refine .seq ((.region (.v (.assign rfl) (.nil ?_))))
        exact .ret ⟨[_], ⟨rfl, trivial⟩, by rw [show chk k id sd ty pr q pk = 90 from by unfold chk; rw [if_neg (by omega), if_neg (by omega), if_neg (by omega)]]; rfl⟩
end Go.Proofs.Ytfajjkolhajldaa

/- VO: min and max of numbers; wrapped numbers as remainders. -/
namespace Go
namespace V
open Go.RowKit
set_option linter.unusedVariables false
set_option linter.unusedSimpArgs false
section
variable {P : Program} {n : Nat} {w0 : World} {own : List Nat} {e : Env} {hs : Hp}
theorem Val.min2 {x y : Operand} {q : IntKind} {i j : Int} {ts : Array TypeId} (hx : ev e x = some (.int q i)) (hy : ev e y = some (.int q j)) :
    Val P n w0 own e hs (.call { callee := .builtin .min, args := #[x, y], argTypes := ts }) (.int q (min i j)) := fun a w ty pos aft g d hr s => by
  simp [execOp, hr.eval hx, hr.eval hy, resolve, invoke, builtin, Builtin.min_, Builtin.min2]
  by_cases h : j < i
  · simp [h]; omega
  · simp [h]; omega
end
/-- rows of so many cells -/
theorem flatMap_get {α : Type} (f : α → List Value) (m : Nat) (hm : ∀ a, (f a).length = m) : ∀ (l : List α) (i j : Nat) (hi : i < l.length), j < m → (l.flatMap f)[i * m + j]? = (f l[i])[j]?
  | a :: l, 0, j, hi, hj => by
    rw [List.flatMap_cons, List.getElem?_append_left (by rw [hm]; omega)]; simp
  | a :: l, i + 1, j, hi, hj => by
    have e : (i + 1) * m + j = m + (i * m + j) := by rw [Nat.add_mul]; omega
    rw [List.flatMap_cons, List.getElem?_append_right (by rw [hm]; omega), hm, e, Nat.add_sub_cancel_left, flatMap_get f m hm l i j (by simpa using hi) hj]
    simp
  | [], i, j, hi, _ => by simp at hi
theorem flatMap_length {α : Type} (f : α → List Value) (m : Nat) (hm : ∀ a, (f a).length = m) (l : List α) : (l.flatMap f).length = l.length * m := by
  induction l with
  | nil => simp
  | cons a l ih => rw [List.flatMap_cons, List.length_append, hm, ih, List.length_cons, Nat.add_mul]; omega
theorem u64w (z : Int) : IntKind.u64.wrap z = z % 18446744073709551616 := by simp [IntKind.wrap, IntKind.bits, IntKind.signed]
theorem u32w (z : Int) : IntKind.u32.wrap z = z % 4294967296 := by simp [IntKind.wrap, IntKind.bits, IntKind.signed]
end V
end Go

/- rules.canRest and the document's order; better: what they compute. -/
namespace Go.Proofs.Ytfajjkolhajldaa
open Go.V
set_option linter.unusedVariables false
set_option linter.unusedSimpArgs false

/-- a resting order's cells -/
def rcells (id mb ty pr v hd pk : Int) : List Value := [.int .u64 id, .int .u32 mb, .int .i64 ty, .int .i64 pr, .int .u64 v, .int .u64 hd, .int .u64 pk]
/-- can it rest? -/
def Rests (id ty pr v hd pk high : Int) : Prop :=
  (1 ≤ id ∧ id ≤ high) ∧ (ty = 1 ∨ ty = 5) ∧ (0 ≤ pr ∧ pr < 262144) ∧ (1 ≤ v ∧ v ≤ 4294967295) ∧ pk ≤ 4294967295 ∧ v + hd ≤ 4294967295 ∧ (pk = 0 ∧ hd = 0 ∨ 0 < pk ∧ v ≤ pk ∧ v + hd ≤ 256 * pk)
instance (id ty pr v hd pk high : Int) : Decidable (Rests id ty pr v hd pk high) := by unfold Rests; infer_instance
/-- u64 -/
def U (x : Int) : Prop := 0 ≤ x ∧ x ≤ 18446744073709551615
theorem better_ok (w : World) (s p q : Int) : Is Try.prog 92 [.int .i64 s, .int .i64 p, .int .i64 q] w (.bool (if s = 1 then decide (q < p) else decide (p < q))) := by
  refine Does.pure (Does.of (n := 15) Try.func92 rfl rfl rfl rfl ?_)
  refine .seq ((.region (.v (.assign rfl) (.nil ?_))))
  refine .seq (.seq ((.region (.v (.move rfl) (.v (.eqi rfl rfl) (.nil ?_))))))
  refine .cond_dec rfl (fun h1 => ?_) (fun h1 => .skip ?_)
  · refine .seq ((.region (.v (.move rfl) (.v (.move rfl) (.v (.gtr rfl rfl) (.v (.assign rfl) (.nil ?_)))))))
    exact .ret ⟨[_], ⟨rfl, trivial⟩, by rw [if_pos h1]; rfl⟩
  · refine .seq ((.region (.v (.move rfl) (.v (.move rfl) (.v (.lss rfl rfl) (.v (.assign rfl) (.nil ?_)))))))
    exact .ret ⟨[_], ⟨rfl, trivial⟩, by rw [if_neg h1]; rfl⟩
end Go.Proofs.Ytfajjkolhajldaa

/- Sides of a book: lists of resting orders; the document's twice and sorted. -/
namespace Go.Proofs.Ytfajjkolhajldaa
open Go.V
set_option linter.unusedVariables false
set_option linter.unusedSimpArgs false

structure Ord where
  id : Int
  mb : Int
  ty : Int
  pr : Int
  v : Int
  hd : Int
  pk : Int
def Ord.cells (o : Ord) : List Value := rcells o.id o.mb o.ty o.pr o.v o.hd o.pk
def rows (l : List Ord) : List Value := l.flatMap Ord.cells
theorem rows_length (l : List Ord) : (rows l).length = l.length * 7 := flatMap_length _ 7 (fun _ => rfl) l
theorem rows_get (l : List Ord) (i j : Nat) (hi : i < l.length) (hj : j < 7) : (rows l)[i * 7 + j]? = (l[i].cells)[j]? := flatMap_get _ 7 (fun _ => rfl) l i j hi hj
/-- an order's field, where a side is read -/
theorem Rd.ord {w : World} {no : List Nat} {A : Option Addr} {l : List Ord} (h : Rd w no A (rows l)) (hn : 0 < l.length) :
    ∃ b o, A = some ⟨b, o, none⟩ ∧ b ∉ no ∧ ∀ (i : Nat) (hi : i < l.length) (j : Nat) (v : Value), j < 7 → (l[i].cells)[j]? = some v → w.cell? ⟨b, o + i * 7 + j, none⟩ = some v := by
  obtain ⟨b, o, e, hb, hc⟩ := h.base (by rw [rows_length]; omega)
  refine ⟨b, o, e, hb, fun i hi j v hj hv => ?_⟩
  have := hc (i * 7 + j) v (by rw [rows_get l i j hi hj]; exact hv)
  rw [Nat.add_assoc]; exact this
def bet (s p q : Int) : Bool := if s = 1 then decide (q < p) else decide (p < q)
/-- no number stands twice -/
def Dist (l : List Ord) : Prop := ∀ i, (hi : i < l.length) → ∀ j, (hj : j < i) → l[i].id ≠ l[j].id
instance (l : List Ord) : Decidable (Dist l) := by unfold Dist; infer_instance
/-- in their priority, as far as prices tell -/
def Srt (s : Int) (l : List Ord) : Prop := ∀ i, (hi : i < l.length) → 0 < i → bet s l[i].pr l[i - 1].pr = false
instance (s : Int) (l : List Ord) : Decidable (Srt s l) := by unfold Srt; infer_instance
end Go.Proofs.Ytfajjkolhajldaa

/- VP: '&&' and '||' in regions that draw and turn nothing. -/
namespace Go
namespace V
open Go.RowKit
set_option linter.unusedVariables false
set_option linter.unusedSimpArgs false

section
variable {P : Program} {n : Nat} {w0 : World} {own : List Nat} {e : Env} {hs : Hp} {ops : Array Oper} {rest l : List Oper} {K : Env → Prop}
variable {d : Nat} {ty : TypeId} {pos : String} {aft : Array Edge} {g : Option (Nat × Bool)}

theorem JH.mono {l : List Oper} {K' : Env → Prop} (h : JH P n w0 own ops l e hs K) (k : ∀ e, K e → K' e) : JH P n w0 own ops l e hs K' :=
  fun a w hr s L hL => h a w hr s L fun e' a' r kk => hL e' a' r (k _ kk)
theorem JH.skips : ∀ {l : List Oper} {e e1 : Env}, skB ops n l e = some e1 → (∀ e1', Sub e e1' → JH P n w0 own ops [] e1' hs K) → JH P n w0 own ops l e hs K
  | [], e, e1, h, k => k e (Sub.refl e)
  | o :: l, e, e1, h, k => by
    unfold skB at h
    cases ho : o.dst with
    | none => rw [ho] at h; cases h
    | some dd =>
      rw [ho] at h
      simp only at h
      split at h
      · rename_i hc
        rw [Bool.and_eq_true, Bool.and_eq_true] at hc
        obtain ⟨⟨c1, c2⟩, c3⟩ := hc
        intro a w hr s L hL
        unfold wpStill
        rw [if_neg (by rw [skip_step hr ho c3]; simp), ho]
        refine JH.skips h (fun e1' hs' => k e1' (Sub.trans ?_ hs')) _ _ (hr.put (Nat.le_of_ble_eq_true c1) undef) s L hL
        exact sub_app [(dd, undef)] e (by simp [c2])
      · cases h
theorem JH.app {l1 l2 : List Oper} (h : JH P n w0 own ops l1 e hs (fun e' => JH P n w0 own ops l2 e' hs K)) : JH P n w0 own ops (l1 ++ l2) e hs K := by
  intro a w hr s L hL
  have key : ∀ (l1 : List Oper) (a : Act), wpStill P ops w (fun a => wpStill P ops w L l2 a) l1 a → wpStill P ops w L (l1 ++ l2) a := by
    intro l1
    induction l1 with
    | nil => intro a h; exact h
    | cons o l1 ih =>
      intro a h
      unfold wpStill at h
      rw [List.cons_append]
      unfold wpStill
      split
      · rename_i hw
        rw [if_pos hw] at h
        exact Oper.still_mono ih h
      · rename_i hw
        rw [if_neg hw] at h
        exact ih _ h
  exact key l1 a (h a w hr s _ fun e' a' r' kk => kk a' w r' s L hL)
theorem sub_same {t : Nat} {v : Value} (ht : get e t = some v) : Sub e ((t, v) :: e) := fun s u hu => by
  unfold get
  cases hb : Nat.beq t s with
  | true => have := Nat.eq_of_beq_eq_true hb; subst this; rw [ht] at hu; simpa using hu
  | false => exact hu
/-- '&&' -/
theorem JH.and {b1 b2 : Bool} (t y m k : Nat) (hl : l.drop m = ⟨some d, .pick (.tmp t) (.tmp y) (.const (.bool false)), ty, pos, aft, g⟩ :: rest) (ht : get e t = some (.bool b1))
    (h : b1 = true → JH P n w0 own ops (l.take m) ((t, .bool true) :: e) hs (fun e' => get e' y = some (.bool b2) ∧ Pop k e' ((t, .bool true) :: e)))
    (kk : JH P n w0 own ops rest ((d, .bool (b1 && b2)) :: e) hs K)
    (hsk : (skB ops n (l.take m) ((t, .bool false) :: e)).isSome = true := by rfl)
    (hdn : Nat.blt d n = true := by rfl) (hg : wantB ops e g = some true := by rfl) : JH P n w0 own ops l e hs K := by
  rw [← List.take_append_drop m l, hl]
  refine JH.app ?_
  have fin : ∀ (e1 : Env), Sub e e1 → (b1 = true → get e1 y = some (.bool b2)) → JH P n w0 own ops (⟨some d, .pick (.tmp t) (.tmp y) (.const (.bool false)), ty, pos, aft, g⟩ :: rest) e1 hs K := by
    intro e1 hsub hy a w hr s L hL
    have hr' := hr.sub hsub
    unfold wpStill
    rw [if_pos (wanted_of hr' hg)]
    have e1t := hr.eval (x := .tmp t) (hsub t _ ht)
    have hrun : (execOp a.eval ⟨some d, .pick (.tmp t) (.tmp y) (.const (.bool false)), ty, pos, aft, g⟩).run P w = .ok (.value (.bool (b1 && b2))) w := by
      cases hb : b1 with
      | false =>
        rw [hb] at e1t
        have e3 : ∀ v, a.eval (.const v) = v := fun _ => rfl
        simp [execOp, e1t, asBool, e3]
      | true =>
        rw [hb] at e1t
        have e2 := hr.eval (x := .tmp y) (hy hb)
        simp [execOp, e1t, e2, asBool]
    rw [Oper.still, hrun, Oper.stillUpon_value]
    exact kk _ _ (hr'.put (Nat.le_of_ble_eq_true hdn) _) s L hL
  cases hb : b1 with
  | true =>
    rw [hb] at ht
    intro a w hr s
    exact (h hb).mono (fun e' ⟨h2, h3⟩ => fin e' ((sub_same ht).trans h3.sub) (fun _ => h2)) a w (hr.same ht) s
  | false =>
    rw [hb] at ht
    obtain ⟨e1, he1⟩ := Option.isSome_iff_exists.1 hsk
    intro a w hr s
    exact JH.skips he1 (fun e1' hs' => JH.nil (fin e1' ((sub_same ht).trans hs') (fun h => by rw [hb] at h; cases h))) a w (hr.same ht) s
/-- '||' -/
theorem JH.or {b1 b2 : Bool} (t y m k : Nat) (hl : l.drop m = ⟨some d, .pick (.tmp t) (.const (.bool true)) (.tmp y), ty, pos, aft, g⟩ :: rest) (ht : get e t = some (.bool b1))
    (h : b1 = false → JH P n w0 own ops (l.take m) ((t, .bool false) :: e) hs (fun e' => get e' y = some (.bool b2) ∧ Pop k e' ((t, .bool false) :: e)))
    (kk : JH P n w0 own ops rest ((d, .bool (b1 || b2)) :: e) hs K)
    (hsk : (skB ops n (l.take m) ((t, .bool true) :: e)).isSome = true := by rfl)
    (hdn : Nat.blt d n = true := by rfl) (hg : wantB ops e g = some true := by rfl) : JH P n w0 own ops l e hs K := by
  rw [← List.take_append_drop m l, hl]
  refine JH.app ?_
  have fin : ∀ (e1 : Env), Sub e e1 → (b1 = false → get e1 y = some (.bool b2)) → JH P n w0 own ops (⟨some d, .pick (.tmp t) (.const (.bool true)) (.tmp y), ty, pos, aft, g⟩ :: rest) e1 hs K := by
    intro e1 hsub hy a w hr s L hL
    have hr' := hr.sub hsub
    unfold wpStill
    rw [if_pos (wanted_of hr' hg)]
    have e1t := hr.eval (x := .tmp t) (hsub t _ ht)
    have hrun : (execOp a.eval ⟨some d, .pick (.tmp t) (.const (.bool true)) (.tmp y), ty, pos, aft, g⟩).run P w = .ok (.value (.bool (b1 || b2))) w := by
      cases hb : b1 with
      | true =>
        rw [hb] at e1t
        have e3 : ∀ v, a.eval (.const v) = v := fun _ => rfl
        simp [execOp, e1t, asBool, e3]
      | false =>
        rw [hb] at e1t
        have e2 := hr.eval (x := .tmp y) (hy hb)
        simp [execOp, e1t, e2, asBool]
    rw [Oper.still, hrun, Oper.stillUpon_value]
    exact kk _ _ (hr'.put (Nat.le_of_ble_eq_true hdn) _) s L hL
  cases hb : b1 with
  | false =>
    rw [hb] at ht
    intro a w hr s
    exact (h hb).mono (fun e' ⟨h2, h3⟩ => fin e' ((sub_same ht).trans h3.sub) (fun _ => h2)) a w (hr.same ht) s
  | true =>
    rw [hb] at ht
    obtain ⟨e1, he1⟩ := Option.isSome_iff_exists.1 hsk
    intro a w hr s
    exact JH.skips he1 (fun e1' hs' => JH.nil (fin e1' ((sub_same ht).trans hs') (fun h => by rw [hb] at h; cases h))) a w (hr.same ht) s
end
end V
end Go

/- The document's Valid: what it computes. -/
namespace Go.Proofs.Ytfajjkolhajldaa
open Go.V
set_option linter.unusedVariables false
set_option linter.unusedSimpArgs false

/-- a book's cells -/
def bcells (cap meet : Int) (B S : Value) (high seq : Int) : List Value := [.int .i64 cap, .int .i64 meet, B, S, .int .u64 high, .int .u64 seq]
def Ord.wf (o : Ord) : Prop := U o.id ∧ U o.v ∧ U o.hd ∧ U o.pk
def Ord.rests (o : Ord) (high : Int) : Prop := Rests o.id o.ty o.pr o.v o.hd o.pk high
instance (o : Ord) (high : Int) : Decidable (o.rests high) := by unfold Ord.rests; infer_instance
def crossB : List Ord → List Ord → Bool
  | b :: _, s :: _ => decide (s.pr ≤ b.pr)
  | _, _ => false
def Vld (cap meet high : Int) (bs ss : List Ord) : Prop :=
  (1 ≤ cap ∧ cap ≤ 4096 ∧ 0 ≤ meet ∧ meet ≤ 3) ∧ (bs.length : Int) ≤ 4096 ∧ (ss.length : Int) ≤ 4096 ∧ (bs.length : Int) + (ss.length : Int) ≤ cap ∧ (∀ o ∈ bs ++ ss, o.rests high) ∧ Dist (bs ++ ss) ∧ Srt 1 bs ∧ Srt 2 ss ∧ crossB bs ss = false
instance (cap meet high : Int) (bs ss : List Ord) : Decidable (Vld cap meet high bs ss) := by unfold Vld; infer_instance
def vld (cap meet high : Int) (bs ss : List Ord) : Int := if Vld cap meet high bs ss then 0 else 120
theorem rows_app (a b : List Ord) : rows (a ++ b) = rows a ++ rows b := by simp [rows]
theorem rows_ones (l : List Ord) : ones (rows l) = true := by
  induction l with
  | nil => rfl
  | cons a l ih =>
    have e : rows (a :: l) = a.cells ++ rows l := rfl
    have h1 : ones a.cells = true := rfl
    simp only [ones] at *
    rw [e, List.all_append, h1, ih]; rfl
end Go.Proofs.Ytfajjkolhajldaa

/- VQ: maps whose keys are numbers: make, look up, set. -/
namespace Go
namespace V
open Go.RowKit
set_option linter.unusedVariables false
set_option linter.unusedSimpArgs false

abbrev ME := Int × Value × Nat
def mentry (q : IntKind) (x : ME) : MapEntry := { key := .int q x.1, val := x.2.1, born := x.2.2 }
def mapOf (q : IntKind) (es : List ME) (clock : Nat) : Obj := .map ⟨es.map (mentry q)⟩ clock
def mfind (k : Int) : List ME → Nat → Option (Nat × Value)
  | [], _ => none
  | x :: es, i => if k == x.1 then some (i, x.2.1) else mfind k es (i + 1)
def mget (k : Int) (es : List ME) : Option Value := (mfind k es 0).map (·.2)
theorem findNow_int (q : IntKind) (k : Int) : ∀ (es : List ME) (i : Nat), Instr.findNow (.int q) (.int q k) (es.map (mentry q)) i = some (mfind k es i)
  | [], i => rfl
  | x :: es, i => by
    simp only [List.map_cons, Instr.findNow, mentry, Instr.sameNow, if_true]
    unfold mfind
    cases h : k == x.1 with
    | true => simp
    | false => simpa using findNow_int q k es (i + 1)
section
variable {P : Program} {n : Nat} {w0 : World} {own : List Nat} {e : Env} {hs : Hp}
theorem run_checkKey_int {kT : Nat} {q : IntKind} (h : P.underlying kT = some (.int q)) (b : Bool) (k : Int) (w : World) : (Instr.checkKey b 10000 kT (.int q k)).run P w = .ok () w := by
  unfold Instr.checkKey
  simp [run_underlying h]
theorem run_findKey_int {kT : Nat} {q : IntKind} (h : P.underlying kT = some (.int q)) (k : Int) (es : List ME) (w : World) : (Instr.findKey kT (.int q k) (es.map (mentry q))).run P w = .ok (mfind k es 0) w := by
  unfold Instr.findKey
  simp [run_underlying h, findNow_int]
theorem Sat.mrow {w0 w : World} {own : List Nat} {hs : Hp} (h : Sat w0 own hs w) {b : Nat} {o : Obj} (hb : (b, .obj o) ∈ hs) : w.heap[b]? = some o := h.has b _ hb
theorem Eff.makeMap {T : Nat} (q : IntKind) : Eff P n w0 own e hs (.makeMap T none) (fun v h => ∃ b, v = .map (some b) ∧ h = (b, .obj (mapOf q [] 0)) :: hs) :=
  Eff.of_run fun a w ty pos aft g d hr s => by
    refine ⟨.map (some w.heap.size), _, w.alloc (.map #[] 0), ?_, ⟨w.heap.size, rfl, rfl⟩, s.new (.obj (mapOf q [] 0))⟩
    have := run_makeMap (P := P) T w
    simp [execOp, this]
theorem Val.lookup {T kT eT b c : Nat} {q : IntKind} {k : Int} {x y : Operand} {es : List ME} {z : Value} (hx : ev e x = some (.map (some b))) (hy : ev e y = some (.int q k)) [hT : MapT P T kT eT] [hk : IntT P kT q] [hz : ZrV P eT z]
    [hb : Mem b (.obj (mapOf q es c)) hs] : Val P n w0 own e hs (.lookup T x y false) ((mget k es).getD z) := fun a w ty pos aft g d hr s => by
  obtain ⟨i, hi, hzz⟩ := hz.out
  have h1 := s.mrow hb.out
  have h1' : w.heap[b]? = some (.map ⟨es.map (mentry q)⟩ c) := h1
  have key : (Instr.lookup T (.map (some b)) (.int q k) false).run P w = .ok ((mget k es).getD z) w := by
    unfold Instr.lookup
    simp [run_underlying hT.out, MapKept.run_getObj_map h1', run_checkKey_int hk.out, run_findKey_int hk.out]
    unfold mget
    cases mfind k es 0 with
    | none => simp [zeroValue, typeInfo, hi, hzz]
    | some p => simp
  simp [execOp, hr.eval hx, hr.eval hy, key]
theorem Val.lookupE {T kT eT b c : Nat} {q : IntKind} {k : Int} {x y : Operand} {es : List ME} {z v : Value} (hx : ev e x = some (.map (some b))) (hy : ev e y = some (.int q k)) [hT : MapT P T kT eT] [hk : IntT P kT q] [hz : ZrV P eT z]
    [hb : Mem b (.obj (mapOf q es c)) hs] (hv : (mget k es).getD z = v) : Val P n w0 own e hs (.lookup T x y false) v := hv ▸ Val.lookup hx hy
/-- the map behind a setting, and its clock -/
def mset (k : Int) (v : Value) (es : List ME) (c : Nat) : List ME × Nat := match mfind k es 0 with
  | some (i, _) => (es.modify i fun x => (k, v, x.2.2), c)
  | none => (es ++ [(k, v, c)], c + 1)
theorem mfind_key (k : Int) : ∀ (es : List ME) (i j : Nat) (v : Value), mfind k es i = some (j, v) → i ≤ j ∧ ∃ x, es[j - i]? = some x ∧ x.1 = k ∧ x.2.1 = v
  | [], i, j, v, h => by simp [mfind] at h
  | x :: es, i, j, v, h => by
    unfold mfind at h
    cases hk : k == x.1 with
    | true =>
      rw [hk] at h
      simp at h
      obtain ⟨rfl, rfl⟩ := h
      exact ⟨Nat.le_refl _, x, by simp, by simpa using (beq_iff_eq.1 hk).symm, rfl⟩
    | false =>
      rw [hk] at h
      simp at h
      obtain ⟨h1, y, h2, h3⟩ := mfind_key k es (i + 1) j v h
      refine ⟨by omega, y, ?_, h3⟩
      obtain ⟨m, hm⟩ : ∃ m, j - i = m + 1 := ⟨j - i - 1, by omega⟩
      rw [hm, List.getElem?_cons_succ, show m = j - (i + 1) from by omega]
      exact h2
theorem Eff.mapUpdate {T kT eT b c : Nat} {q : IntKind} {k : Int} {x y z : Operand} {v : Value} {es : List ME} {hs' : Hp} (hx : ev e x = some (.map (some b))) (hy : ev e y = some (.int q k)) (hz : ev e z = some v) [hT : MapT P T kT eT] [hk : IntT P kT q]
    [hb : Mem b (.obj (mapOf q es c)) hs] [u : UpdI b (.obj (mapOf q (mset k v es c).1 (mset k v es c).2)) hs hs'] : Eff P n w0 own e hs (.mapUpdate T x y z) (fun u h => u = undef ∧ h = hs') :=
  Eff.of_skip fun a w ty pos aft g d hr s => by
    have h1 := s.mrow hb.out
    have h1' : w.heap[b]? = some (.map ⟨es.map (mentry q)⟩ c) := h1
    have hlt : b < w.heap.size := (Array.getElem?_eq_some_iff.1 h1').1
    have key : (Instr.mapUpdate T (.map (some b)) (.int q k) v).run P w = .ok () { w with heap := w.heap.setIfInBounds b (mapOf q (mset k v es c).1 (mset k v es c).2) } := by
      unfold Instr.mapUpdate
      cases hf : mfind k es 0 with
      | none =>
        simp [run_underlying hT.out, MapKept.run_getObj_map h1', run_checkKey_int hk.out, run_findKey_int hk.out, hf, MapKept.run_setObj_map _ h1', mset, mapOf, mentry]
      | some p =>
        obtain ⟨i, v0⟩ := p
        obtain ⟨_, y0, g1, g2, _⟩ := mfind_key k es 0 i v0 hf
        have hold : ((((⟨es.map (mentry q)⟩ : Array MapEntry)[i]?).map (·.key)).getD (.int q k)) = .int q k := by
          simp at g1
          simp [g1, mentry, g2]
        have hst : (Instr.keyThatStays (.int q k) (.int q k)).run P w = .ok (.int q k) w := by
          simp [Instr.keyThatStays, Instr.sameBits]
        simp [run_underlying hT.out, MapKept.run_getObj_map h1', run_checkKey_int hk.out, run_findKey_int hk.out, hf]
        have hold' : (Option.map ((fun x => x.key) ∘ mentry q) es[i]?).getD (Value.int q k) = Value.int q k := by
          simp at g1
          simp [g1, mentry, g2]
        rw [hold', hst]
        simp only [Result.andThen_ok, MapKept.run_setObj_map _ h1']
        congr 3
        simp only [mset, hf, mapOf]
        congr 2
        apply List.ext_getElem?
        intro m
        simp only [List.getElem?_modify, List.getElem?_map]
        cases es[m]? with
        | none => simp
        | some x => by_cases hm : i = m <;> simp [hm, mentry]
    refine ⟨{ w with heap := w.heap.setIfInBounds b (mapOf q (mset k v es c).1 (mset k v es c).2) }, ?_, ?_⟩
    · simp [execOp, hr.eval hx, hr.eval hy, hr.eval hz, key]
    · refine s.upd u.out ?_ ?_ ?_ rfl rfl rfl
      · simp
      · intro i hi
        simp [Array.getElem?_setIfInBounds, Ne.symm hi]
      · simp [Array.getElem?_setIfInBounds, hlt, Ch.toObj]
end
end V
end Go

/- VR: regions that draw their order: they run in an order of our choice, values first, what works on memory when it is alone. -/
namespace Go
namespace V
open Go.RowKit
set_option linter.unusedVariables false
set_option linter.unusedSimpArgs false

/-- does the operation work on memory? -/
def isEff (o : Oper) : Bool := match o.op with
  | .alloc _ | .box _ _ | .buildSlice _ _ _ | .insert _ _ _ _ | .store _ _ _ | .makeMap _ _ | .makeSlice _ _ _ | .mapUpdate _ _ _ _ | .mapEntry _ _ _ | .entryStore _ _ _ _ | .range _ _ | .next _ _ | .entry _ => true
  | .call { callee := .value _, .. } => true
  | .call { callee := .builtin .append, .. } => true
  | .call { callee := .builtin .copy, .. } => true
  | .call { callee := .builtin .delete, .. } => true
  | .call { callee := .builtin .clear, .. } => true
  | _ => false
/-- the numbers may come up in this order -/
def ordB (ops : Array Oper) : List Oper → List Nat → Array Bool → Bool
  | [], [], _ => true
  | o :: l, i :: is, listed => (onlyB ops listed i || (!isEff o && firstB ops listed i)) && ordB ops l is (listed.setIfInBounds i true)
  | _, _, _ => false
def marks_ : List Nat → Array Bool → Array Bool
  | [], listed => listed
  | i :: is, listed => marks_ is (listed.setIfInBounds i true)
theorem marks_app : ∀ (a b : List Nat) (listed : Array Bool), marks_ (a ++ b) listed = marks_ b (marks_ a listed)
  | [], b, listed => rfl
  | i :: a, b, listed => marks_app a b _
theorem ordB_app (ops : Array Oper) : ∀ (l1 l2 : List Oper) (i1 i2 : List Nat) (listed : Array Bool), l1.length = i1.length → ordB ops (l1 ++ l2) (i1 ++ i2) listed = (ordB ops l1 i1 listed && ordB ops l2 i2 (marks_ i1 listed))
  | [], l2, [], i2, listed, _ => by simp [ordB, marks_]
  | o :: l1, l2, i :: i1, i2, listed, h => by
    simp only [List.cons_append, ordB, ordB_app ops l1 l2 i1 i2 _ (by simpa using h), marks_, Bool.and_assoc]
  | [], _, _ :: _, _, _, h => by simp at h
  | _ :: _, _, [], _, _, h => by simp at h
def Nums (ops : Array Oper) : List Oper → List Nat → Prop
  | [], [] => True
  | o :: l, i :: is => ops[i]? = some o ∧ Nums ops l is
  | _, _ => False
theorem Nums.len {ops : Array Oper} : ∀ {l : List Oper} {is : List Nat}, Nums ops l is → l.length = is.length
  | [], [], _ => rfl
  | o :: l, i :: is, h => by have := Nums.len h.2; simp [this]
  | [], _ :: _, h => h.elim
  | _ :: _, [], h => h.elim
theorem Nums.app {ops : Array Oper} : ∀ {l1 l2 : List Oper} {is : List Nat}, Nums ops (l1 ++ l2) is → Nums ops l1 (is.take l1.length) ∧ Nums ops l2 (is.drop l1.length)
  | [], l2, is, h => ⟨by simp [Nums], by simpa using h⟩
  | o :: l1, l2, i :: is, h => by
    obtain ⟨h1, h2⟩ := h
    obtain ⟨k1, k2⟩ := Nums.app h2
    exact ⟨⟨h1, k1⟩, k2⟩
  | _ :: _, _, [], h => h.elim
theorem Nums.seq {ops : Array Oper} : ∀ (l : List Oper) (k : Nat), (∀ j, j < l.length → ops[k + j]? = l[j]?) → Nums ops l (List.range' k l.length)
  | [], k, _ => trivial
  | o :: l, k, h => by
    rw [List.length_cons, List.range'_succ]
    refine ⟨by simpa using h 0 (by simp), Nums.seq l (k + 1) fun j hj => ?_⟩
    have := h (j + 1) (by simpa using hj)
    rw [List.getElem?_cons_succ] at this
    rw [← this, Nat.add_right_comm, Nat.add_assoc]

/-- the operations, in a drawn region, in their order: 'F' is held -/
def JK (P : Program) (n : Nat) (w0 : World) (own : List Nat) (ops : Array Oper) (F : Hp) (l : List Oper) (e : Env) (hs : Hp) (K : Env → Hp → Prop) : Prop :=
  ∀ (m : Nat) (is : List Nat) (listed : Array Bool) (Z : Env → Hp → Prop), Nums ops l is → ordB ops l is listed = true → F ⊆ hs →
    (∀ e' hs', F ⊆ hs' → K e' hs' → JD P n w0 own ops F m (marks_ is listed) e' hs' Z) → JD P n w0 own ops F (l.length + m) listed e hs Z

section
variable {P : Program} {n : Nat} {w0 : World} {own : List Nat} {e : Env} {hs F : Hp} {ops : Array Oper} {rest l : List Oper} {K : Env → Hp → Prop}
variable {d : Nat} {ty : TypeId} {pos : String} {aft : Array Edge} {g : Option (Nat × Bool)}

theorem JC.drawK {id : Nat} {Q : Post} {l : List Oper} (F : Hp) (hF : F ⊆ hs) (hm : P.follows .mixedOrders = true) (hB : (ordB l.toArray l (List.range' 0 l.length) (Array.replicate l.length false) && doneB l.toArray (marks_ (List.range' 0 l.length) (Array.replicate l.length false))) = true)
    (h : JK P n w0 own l.toArray F l e hs (fun e' hs' => Q .normal e' hs')) : JC P n w0 own (.region id l.toArray true) e hs Q := by
  rw [Bool.and_eq_true] at hB
  refine JC.draw F hF hm ?_
  have := h 0 (List.range' 0 l.length) (Array.replicate l.length false) (fun e hs => Q .normal e hs) (Nums.seq l 0 fun j hj => by simp) hB.1 hF (fun e' hs' _ ke => JD.done hB.2 ke)
  simpa using this
def pickL (l : List Oper) : List Nat → List Oper
  | [] => []
  | i :: is => match l[i]? with
    | some o => o :: pickL l is
    | none => []
theorem pickL_nums {l : List Oper} : ∀ (is : List Nat), ordB l.toArray (pickL l is) is (Array.replicate l.length false) = true → (pickL l is).length = is.length → Nums l.toArray (pickL l is) is
  | [], _, _ => trivial
  | i :: is, h, hl => by
    have key : ∀ (is : List Nat), (pickL l is).length = is.length → Nums l.toArray (pickL l is) is := by
      intro is
      induction is with
      | nil => intro _; trivial
      | cons i is ih =>
        intro hl
        unfold pickL at hl ⊢
        cases ho : l[i]? with
        | none => rw [ho] at hl; simp at hl
        | some o =>
          rw [ho] at hl
          simp only at hl ⊢
          exact ⟨by simpa using ho, ih (by simpa using hl)⟩
    exact key _ hl
/-- in an order of ours -/
theorem JC.drawP {id : Nat} {Q : Post} {l : List Oper} (is : List Nat) (F : Hp) (hF : F ⊆ hs) (hm : P.follows .mixedOrders = true) (hB : (ordB l.toArray (pickL l is) is (Array.replicate l.length false) && doneB l.toArray (marks_ is (Array.replicate l.length false)) && Nat.beq (pickL l is).length l.length && Nat.beq is.length l.length) = true)
    (h : JK P n w0 own l.toArray F (pickL l is) e hs (fun e' hs' => Q .normal e' hs')) : JC P n w0 own (.region id l.toArray true) e hs Q := by
  rw [Bool.and_eq_true, Bool.and_eq_true, Bool.and_eq_true] at hB
  obtain ⟨⟨⟨h1, h2⟩, h3⟩, h4⟩ := hB
  have h3 := Nat.eq_of_beq_eq_true h3
  have h4 := Nat.eq_of_beq_eq_true h4
  refine JC.draw F hF hm ?_
  have := h 0 is (Array.replicate l.length false) (fun e hs => Q .normal e hs) (pickL_nums is h1 (by omega)) h1 hF (fun e' hs' _ ke => JD.done h2 ke)
  rw [h3] at this
  simpa using this
theorem JK.nil (h : K e hs) : JK P n w0 own ops F [] e hs K := fun m is listed Z hn _ hF hz => by
  cases is with
  | nil => rw [List.length_nil, Nat.zero_add]; exact hz e hs hF h
  | cons i is => exact hn.elim
theorem JK.mono {K' : Env → Hp → Prop} (h : JK P n w0 own ops F l e hs K) (kk : ∀ e hs, K e hs → K' e hs) : JK P n w0 own ops F l e hs K' :=
  fun m k listed Z h1 h2 h3 hz => h m k listed Z h1 h2 h3 fun e' hs' f ke => hz e' hs' f (kk e' hs' ke)
theorem JK.sub {e2 : Env} (hs' : Sub e2 e) (h : JK P n w0 own ops F l e2 hs K) : JK P n w0 own ops F l e hs K :=
  fun m k listed Z h1 h2 h3 hz a w hr s hF => h m k listed Z h1 h2 h3 hz a w (hr.sub hs') s hF
/-- a thing that is known already may be laid on top -/
theorem sub_same' {t : Nat} {v : Value} (ht : get e t = some v) : Sub ((t, v) :: e) e := fun s u hu => by
  simp only [get] at hu
  cases hb : Nat.beq t s with
  | true => rw [hb] at hu; have := Nat.eq_of_beq_eq_true hb; subst this; rw [ht]; simpa using hu
  | false => rw [hb] at hu; exact hu
theorem JK.sub' {e2 : Env} (hs' : Sub e2 e) (h : JK P n w0 own ops F l e2 hs K) : JK P n w0 own ops F l e hs K := JK.sub hs' h
theorem JK.splitB {t : Nat} {b : Bool} (ht : get e t = some (.bool b)) (h1 : b = true → JK P n w0 own ops F l ((t, .bool true) :: e) hs K)
    (h0 : b = false → JK P n w0 own ops F l ((t, .bool false) :: e) hs K) : JK P n w0 own ops F l e hs K := by
  cases b
  · exact JK.sub' (sub_same' ht) (h0 rfl)
  · exact JK.sub' (sub_same' ht) (h1 rfl)

theorem JK.v {op : Op} {v : Value} (h : ∀ hs', F ⊆ hs' → Val P n w0 own e hs' op v) (kk : JK P n w0 own ops F rest ((d, v) :: e) hs K) (hdn : Nat.blt d n = true := by rfl) (hg : wantB ops e g = some true := by rfl) :
    JK P n w0 own ops F (⟨some d, op, ty, pos, aft, g⟩ :: rest) e hs K := by
  intro m is listed Z h1 h2 h3 hz
  cases is with
  | nil => exact h1.elim
  | cons k is =>
  obtain ⟨h0, h1⟩ := h1
  unfold ordB at h2
  rw [Bool.and_eq_true, Bool.or_eq_true, Bool.and_eq_true] at h2
  have tail : JD P n w0 own ops F (rest.length + m) (listed.setIfInBounds k true) ((d, v) :: e) hs Z := kk m is _ Z h1 h2.2 h3 hz
  rw [show (⟨some d, op, ty, pos, aft, g⟩ :: rest : List Oper).length + m = (rest.length + m) + 1 from by simp; omega]
  rcases h2.1 with ho | ⟨_, hf⟩
  · exact JD.ef k h0 ho (h hs h3).eff (fun v' hs' ⟨e1, e2⟩ => by subst e1; subst e2; exact tail) (fun v' hs' ⟨e1, e2⟩ f => by subst e2; exact f) hdn hg
  · exact JD.v k h0 hf h tail hdn hg
/-- an operation that is passed over, whichever way it comes up -/
theorem JK.skw {o : Oper} (ho : o.dst = some d) (hw : ∀ a, Rep n a e → Region.wanted o (yielded ops a.tmps) = false) (kk : JK P n w0 own ops F rest ((d, undef) :: e) hs K) (hdn : Nat.blt d n = true) :
    JK P n w0 own ops F (o :: rest) e hs K := by
  intro m is listed Z h1 h2 h3 hz
  cases is with
  | nil => exact h1.elim
  | cons k is =>
  obtain ⟨h0, h1⟩ := h1
  unfold ordB at h2
  rw [Bool.and_eq_true, Bool.or_eq_true, Bool.and_eq_true] at h2
  have tail : JD P n w0 own ops F (rest.length + m) (listed.setIfInBounds k true) ((d, undef) :: e) hs Z := kk m is _ Z h1 h2.2 h3 hz
  rw [show (o :: rest : List Oper).length + m = (rest.length + m) + 1 from by simp; omega]
  intro a w hr s hf
  have hput := hr.put (Nat.le_of_ble_eq_true hdn) undef
  rcases h2.1 with ho2 | ⟨_, hf2⟩
  · refine wpAnyH_all (rs := [k]) (by simpa [onlyB] using ho2) (by simp) ?_
    intro j hj
    simp only [List.mem_singleton] at hj
    subst hj
    unfold wpOp
    simp only [h0]
    rw [if_neg (by rw [hw a hr]; simp), ho]
    exact ⟨⟨hs, s, hf⟩, tail _ _ hput s hf⟩
  · unfold firstB at hf2
    rw [Bool.and_eq_true, Bool.and_eq_true] at hf2
    refine wpAnyH_take h0 hf2.1.1 hf2.1.2 hf2.2 (fun _ _ _ h => h) (.inr ⟨hw a hr, rfl⟩) ⟨hs, s, hf⟩ ?_
    rw [ho]
    exact tail _ _ hput s hf
theorem JK.sk {op : Op} (kk : JK P n w0 own ops F rest ((d, undef) :: e) hs K) (hdn : Nat.blt d n = true := by rfl) (hg : wantB ops e g = some false := by rfl) :
    JK P n w0 own ops F (⟨some d, op, ty, pos, aft, g⟩ :: rest) e hs K := JK.skw rfl (fun a hr => wanted_of hr hg) kk hdn
theorem JK.skips : ∀ {l : List Oper} {e e1 : Env}, skB ops n l e = some e1 → (∀ e1', Sub e e1' → JK P n w0 own ops F [] e1' hs K) → JK P n w0 own ops F l e hs K
  | [], e, e1, h, k => k e (Sub.refl e)
  | o :: l, e, e1, h, k => by
    unfold skB at h
    cases ho : o.dst with
    | none => rw [ho] at h; cases h
    | some dd =>
      rw [ho] at h
      simp only at h
      split at h
      · rename_i hc
        rw [Bool.and_eq_true, Bool.and_eq_true] at hc
        obtain ⟨⟨c1, c2⟩, c3⟩ := hc
        exact JK.skw ho (fun a hr => skip_step hr ho c3) (JK.skips h fun e1' hs' => k e1' (Sub.trans (sub_app [(dd, undef)] e (by simp [c2])) hs')) c1
      · cases h
theorem JK.app {l1 l2 : List Oper} (h : JK P n w0 own ops F l1 e hs (fun e' hs' => JK P n w0 own ops F l2 e' hs' K)) : JK P n w0 own ops F (l1 ++ l2) e hs K := by
  intro m is listed Z h1 h2 h3 hz
  obtain ⟨k1, k2⟩ := h1.app
  have hl1 := k1.len
  rw [← List.take_append_drop l1.length is, ordB_app _ _ _ _ _ _ hl1, Bool.and_eq_true] at h2
  rw [List.length_append, Nat.add_assoc]
  refine h (l2.length + m) _ listed Z k1 h2.1 h3 fun e' hs' f ke => ke m _ _ Z k2 h2.2 f fun e2 hs2 f2 ke2 => ?_
  have := hz e2 hs2 f2 ke2
  rwa [← List.take_append_drop l1.length is, marks_app] at this
/-- what works on memory, when it is alone -/
theorem JK.ef {op : Op} {R : Value → Hp → Prop} (h : Eff P n w0 own e hs op R) (hF : ∀ v hs', R v hs' → F ⊆ hs → F ⊆ hs') (kk : ∀ v hs', R v hs' → JK P n w0 own ops F rest ((d, v) :: e) hs' K)
    (hE : isEff ⟨some d, op, ty, pos, aft, g⟩ = true := by rfl) (hdn : Nat.blt d n = true := by rfl) (hg : wantB ops e g = some true := by rfl) : JK P n w0 own ops F (⟨some d, op, ty, pos, aft, g⟩ :: rest) e hs K := by
  intro m is listed Z h1 h2 h3 hz
  cases is with
  | nil => exact h1.elim
  | cons k is =>
  obtain ⟨h0, h1⟩ := h1
  unfold ordB at h2
  rw [Bool.and_eq_true, Bool.or_eq_true, hE] at h2
  have ho : onlyB ops listed k = true := by
    rcases h2.1 with h | h
    · exact h
    · simp at h
  rw [show (⟨some d, op, ty, pos, aft, g⟩ :: rest : List Oper).length + m = (rest.length + m) + 1 from by simp; omega]
  exact JD.ef k h0 ho h (fun v hs' r => kk v hs' r m is _ Z h1 h2.2 (hF v hs' r h3) hz) hF hdn hg
theorem JK.st {op : Op} {hs' : Hp} (h : Eff P n w0 own e hs op (fun v h => v = undef ∧ h = hs')) (hF : F ⊆ hs → F ⊆ hs') (kk : JK P n w0 own ops F rest e hs' K)
    (hE : isEff ⟨none, op, ty, pos, aft, g⟩ = true := by rfl) (hg : wantB ops e g = some true := by rfl) : JK P n w0 own ops F (⟨none, op, ty, pos, aft, g⟩ :: rest) e hs K := by
  intro m is listed Z h1 h2 h3 hz
  cases is with
  | nil => exact h1.elim
  | cons k is =>
  obtain ⟨h0, h1⟩ := h1
  unfold ordB at h2
  rw [Bool.and_eq_true, Bool.or_eq_true, hE] at h2
  have ho : onlyB ops listed k = true := by
    rcases h2.1 with h | h
    · exact h
    · simp at h
  rw [show (⟨none, op, ty, pos, aft, g⟩ :: rest : List Oper).length + m = (rest.length + m) + 1 from by simp; omega]
  exact JD.st k h0 ho h (kk m is _ Z h1 h2.2 (hF h3) hz) hF hg
/-- a call that leaves a value alone -/
theorem JK.pc {f : Nat} {fo : Operand} {args : List Operand} {at_ : Array TypeId} {cap vals : List Value} {v : Value}
    (hf : ev e fo = some (.func (.func f) #[] ⟨cap⟩)) (ha : evs e args = some vals) (hc : ∀ w, Sat w0 own hs w → Is P f (vals ++ cap) w v) (kk : JK P n w0 own ops F rest ((d, v) :: e) hs K) [hg : FnT P f]
    (hdn : Nat.blt d n = true := by rfl) (hw : wantB ops e g = some true := by rfl) :
    JK P n w0 own ops F (⟨some d, .call { callee := .value fo, args := ⟨args⟩, argTypes := at_ }, ty, pos, aft, g⟩ :: rest) e hs K :=
  JK.ef (.call0 hf ha hc) (fun _ _ ⟨_, ⟨_, h2⟩, h3⟩ f => by subst h2; subst h3; exact f) (fun _ _ ⟨_, ⟨h1, h2⟩, h3⟩ => by subst h1; subst h2; subst h3; exact kk) rfl hdn hw
/-- a call that is lent nothing -/
theorem JK.cl {f : Nat} {fo : Operand} {args : List Operand} {at_ : Array TypeId} {cap vals : List Value} {R : Value → Hp → Prop}
    (hf : ev e fo = some (.func (.func f) #[] ⟨cap⟩)) (ha : evs e args = some vals) (hc : ∀ w, Sat w0 own hs w → Does P f (vals ++ cap) [] w R) (kk : ∀ v h, R v h → JK P n w0 own ops F rest ((d, v) :: e) (h ++ hs) K) [hg : FnT P f]
    (hdn : Nat.blt d n = true := by rfl) (hw : wantB ops e g = some true := by rfl) :
    JK P n w0 own ops F (⟨some d, .call { callee := .value fo, args := ⟨args⟩, argTypes := at_ }, ty, pos, aft, g⟩ :: rest) e hs K :=
  JK.ef (.call0 hf ha hc) (fun _ _ ⟨_, _, h3⟩ f => by subst h3; exact fun p hp => List.mem_append_right _ (f hp)) (fun v _ ⟨h, h1, h3⟩ => by subst h3; exact kk v h h1) rfl hdn hw
/-- '&&' -/
theorem JK.and {b1 b2 : Bool} (t y m k : Nat) (hl : l.drop m = ⟨some d, .pick (.tmp t) (.tmp y) (.const (.bool false)), ty, pos, aft, g⟩ :: rest) (ht : get e t = some (.bool b1))
    (h : b1 = true → JK P n w0 own ops F (l.take m) ((t, .bool true) :: e) hs (fun e' hs' => hs' = hs ∧ get e' y = some (.bool b2) ∧ Pop k e' ((t, .bool true) :: e)))
    (kk : JK P n w0 own ops F rest ((d, .bool (b1 && b2)) :: e) hs K)
    (hsk : (skB ops n (l.take m) ((t, .bool false) :: e)).isSome = true := by rfl)
    (hdn : Nat.blt d n = true := by rfl) (hg : wantB ops e g = some true := by rfl) : JK P n w0 own ops F l e hs K := by
  rw [← List.take_append_drop m l, hl]
  refine JK.app ?_
  have fin : ∀ (e1 : Env), Sub e e1 → (b1 = true → get e1 y = some (.bool b2)) → JK P n w0 own ops F (⟨some d, .pick (.tmp t) (.tmp y) (.const (.bool false)), ty, pos, aft, g⟩ :: rest) e1 hs K := by
    intro e1 hsub hy
    have hg1 : wantB ops e1 g = some true := by
      unfold wantB at hg ⊢
      cases g with
      | none => rfl
      | some jw =>
        obtain ⟨j, want⟩ := jw
        simp only at hg ⊢
        cases hd : (ops[j]?).bind (·.dst) with
        | none => rw [hd] at hg; cases hg
        | some t2 =>
          rw [hd] at hg
          simp only at hg ⊢
          cases hgt : get e t2 with
          | none => rw [hgt] at hg; cases hg
          | some v2 => rw [hgt] at hg; rw [hsub _ _ hgt]; exact hg
    refine JK.v (v := .bool (b1 && b2)) (fun hs' _ => ?_) (JK.sub (e2 := (d, .bool (b1 && b2)) :: e) ?_ kk) hdn hg1
    · intro a w ty pos aft g d hr s
      have e1t := hr.eval (x := .tmp t) (hsub t _ ht)
      cases hb : b1 with
      | false =>
        rw [hb] at e1t
        have e3 : ∀ v, a.eval (.const v) = v := fun _ => rfl
        simp [execOp, e1t, asBool, e3]
      | true =>
        rw [hb] at e1t
        have e2 := hr.eval (x := .tmp y) (hy hb)
        simp [execOp, e1t, e2, asBool]
    · intro s u hu
      simp only [get] at hu ⊢
      cases hb : Nat.beq d s with
      | true => rw [hb] at hu; exact hu
      | false => rw [hb] at hu; exact hsub s u hu
  cases hb : b1 with
  | true =>
    rw [hb] at ht
    refine JK.sub' (sub_same' ht) ((h hb).mono fun e' hs' ⟨h1, h2, h3⟩ => by subst h1; exact fin e' ((sub_same ht).trans h3.sub) (fun _ => h2))
  | false =>
    rw [hb] at ht
    obtain ⟨e1, he1⟩ := Option.isSome_iff_exists.1 hsk
    refine JK.sub' (sub_same' ht) (JK.skips he1 (fun e1' hs' => JK.nil (fin e1' ((sub_same ht).trans hs') (fun h => by rw [hb] at h; cases h))))
/-- '||' -/
theorem JK.or {b1 b2 : Bool} (t y m k : Nat) (hl : l.drop m = ⟨some d, .pick (.tmp t) (.const (.bool true)) (.tmp y), ty, pos, aft, g⟩ :: rest) (ht : get e t = some (.bool b1))
    (h : b1 = false → JK P n w0 own ops F (l.take m) ((t, .bool false) :: e) hs (fun e' hs' => hs' = hs ∧ get e' y = some (.bool b2) ∧ Pop k e' ((t, .bool false) :: e)))
    (kk : JK P n w0 own ops F rest ((d, .bool (b1 || b2)) :: e) hs K)
    (hsk : (skB ops n (l.take m) ((t, .bool true) :: e)).isSome = true := by rfl)
    (hdn : Nat.blt d n = true := by rfl) (hg : wantB ops e g = some true := by rfl) : JK P n w0 own ops F l e hs K := by
  rw [← List.take_append_drop m l, hl]
  refine JK.app ?_
  have fin : ∀ (e1 : Env), Sub e e1 → (b1 = false → get e1 y = some (.bool b2)) → JK P n w0 own ops F (⟨some d, .pick (.tmp t) (.const (.bool true)) (.tmp y), ty, pos, aft, g⟩ :: rest) e1 hs K := by
    intro e1 hsub hy
    have hg1 : wantB ops e1 g = some true := by
      unfold wantB at hg ⊢
      cases g with
      | none => rfl
      | some jw =>
        obtain ⟨j, want⟩ := jw
        simp only at hg ⊢
        cases hd : (ops[j]?).bind (·.dst) with
        | none => rw [hd] at hg; cases hg
        | some t2 =>
          rw [hd] at hg
          simp only at hg ⊢
          cases hgt : get e t2 with
          | none => rw [hgt] at hg; cases hg
          | some v2 => rw [hgt] at hg; rw [hsub _ _ hgt]; exact hg
    refine JK.v (v := .bool (b1 || b2)) (fun hs' _ => ?_) (JK.sub (e2 := (d, .bool (b1 || b2)) :: e) ?_ kk) hdn hg1
    · intro a w ty pos aft g d hr s
      have e1t := hr.eval (x := .tmp t) (hsub t _ ht)
      cases hb : b1 with
      | true =>
        rw [hb] at e1t
        have e3 : ∀ v, a.eval (.const v) = v := fun _ => rfl
        simp [execOp, e1t, asBool, e3]
      | false =>
        rw [hb] at e1t
        have e2 := hr.eval (x := .tmp y) (hy hb)
        simp [execOp, e1t, e2, asBool]
    · intro s u hu
      simp only [get] at hu ⊢
      cases hb : Nat.beq d s with
      | true => rw [hb] at hu; exact hu
      | false => rw [hb] at hu; exact hsub s u hu
  cases hb : b1 with
  | false =>
    rw [hb] at ht
    refine JK.sub' (sub_same' ht) ((h hb).mono fun e' hs' ⟨h1, h2, h3⟩ => by subst h1; exact fin e' ((sub_same ht).trans h3.sub) (fun _ => h2))
  | true =>
    rw [hb] at ht
    obtain ⟨e1, he1⟩ := Option.isSome_iff_exists.1 hsk
    refine JK.sub' (sub_same' ht) (JK.skips he1 (fun e1' hs' => JK.nil (fin e1' ((sub_same ht).trans hs') (fun h => by rw [hb] at h; cases h))))
end
end V
end Go

/- VS: slices held against nil. -/
namespace Go
namespace V
open Go.RowKit
set_option linter.unusedVariables false
set_option linter.unusedSimpArgs false
section
variable {P : Program} {n : Nat} {w0 : World} {own : List Nat} {e : Env} {hs : Hp}
theorem Val.eql_slice_nil {T U E l c : Nat} {x y : Operand} {a : Option Addr} (hx : ev e x = some (.slice a l c)) (hy : ev e y = some (.slice none 0 0)) [hT : SliceT P T E] :
    Val P n w0 own e hs (.binOp .eql T x y U) (.bool a.isNone) := fun _ w ty pos aft g d hr s => by
  have h : (Op.equalIn (9999 + 1) T (.slice a l c) (.slice none 0 0)).run P w = .ok a.isNone w := by
    cases a <;> (rw [Op.equalIn]; simp [run_underlying hT.out])
  simp only [execOp, hr.eval hx, hr.eval hy, eqGuard, binOp, Op.equal, Op.maxDepth]
  simp [h]
end
end V
end Go

/- slices.Clone of a side. -/
namespace Go.Proofs.Ytfajjkolhajldaa
open Go.V
set_option linter.unusedVariables false
set_option linter.unusedSimpArgs false

set_option maxRecDepth 10000 in
theorem clone_ok (w : World) (A : Option Addr) (len cap : Nat) (l : List Ord) (hx : Rd w [] A (rows l)) (hl : len = l.length) (hb : len ≤ 2513169434843) :
    Does Try.prog 95 [.slice A len cap] [] w (fun v hs => OwnS 125 7 v l.length (rows l) hs) := by
  refine Does.less (Does.of (n := 8) Try.func95 rfl rfl rfl rfl ?_)
  refine .seq ((.region (.v (.assign rfl) (.nil ?_))))
  refine .seq (.seq ((.region (.v (.move rfl) (.v (.eql_slice_nil rfl rfl) (.nil ?_))))))
  refine .cond rfl (fun h1 => ?_) (fun h1 => .skip ?_)
  · have hA : A = none := by simpa using h1
    subst hA
    have h0 : l.length = 0 := by
      have := congrArg List.length hx.empty
      rw [rows_length] at this
      simp only [List.length_nil] at this; omega
    have hl0 : l = [] := List.eq_nil_of_length_eq_zero h0
    subst hl0
    refine .seq ((.region (.v (.assign rfl) (.nil ?_))))
    exact .ret ⟨[_], ⟨rfl, trivial⟩, [], fun _ s => s, OwnS.nil _ _⟩
  · refine .seq ((.region (.ef (.buildSlice (out := []) rfl (by decide) rfl rfl) ?_)))
    rintro _ _ ⟨b6, rfl, rfl⟩
    refine .v (.move rfl) ?_
    refine .ef (.append (c := 0) (k := len) (vs := []) (news := rows l) (h := [(b6, .cells [] 125)]) (fr := []) rfl rfl ⟨rfl, .inr ⟨b6, 0, 0, [], rfl, rfl, by omega, by simp, by simp⟩⟩ (by exact List.Perm.refl _)
      (fun w' s => (hx.keep0 s).src (by rw [rows_length, hl]) (by omega)) (by rw [rows_length, hl]) (rows_ones _) (by omega) (by omega)) ?_
    rintro v _ ⟨h', k', rfl⟩
    refine .v (.assign rfl) (.nil ?_)
    refine .ret ⟨[_], ⟨rfl, trivial⟩, h', fun _ s => by simpa using s, ?_⟩
    rw [Nat.zero_add, hl] at k'
    exact k'
end Go.Proofs.Ytfajjkolhajldaa

/- bourseref09.Copy; (*rules.Book).Len. -/
namespace Go.Proofs.Ytfajjkolhajldaa
open Go.V
set_option linter.unusedVariables false
set_option linter.unusedSimpArgs false

set_option maxRecDepth 10000 in
theorem Len_ok (w : World) (b : Nat) (cap meet high seq : Int) (A1 A2 : Option Addr) (n1 n2 c1 c2 : Nat) (hn1 : n1 ≤ 2513169434843) (hn2 : n2 ≤ 2513169434843) :
    Does Try.prog 79 [.pointer (some ⟨b, 0, none⟩)] [(b, .cells (bcells cap meet (.slice A1 n1 c1) (.slice A2 n2 c2) high seq) 117)] w
      (fun u hs => u = .int .i64 (n1 + n2) ∧ hs = [(b, .cells (bcells cap meet (.slice A1 n1 c1) (.slice A2 n2 c2) high seq) 117)]) := by
  refine Does.of (n := 16) Try.func79 rfl rfl rfl rfl ?_
  refine .seq ((.region (.v (.assign rfl) (.nil ?_))))
  refine .seq ((.drawS (by kernel_rfl) (by kernel_rfl) (.v (.move rfl) (.v (.nilCheck rfl) (.v (.fieldAddr rfl) (.v (.fieldAddr rfl) (.v (.load rfl (.one rfl)) (.v (.len rfl) (.v (.move rfl) (.v (.nilCheck rfl) (.v (.fieldAddr rfl) (.v (.fieldAddr rfl) (.v (.load rfl (.one rfl)) (.v (.len rfl) (.v (.addi rfl rfl (by omega)) (.v (.assign rfl) (.nil ?_)))))))))))))))))
  exact .ret ⟨[_], ⟨rfl, trivial⟩, rfl, rfl⟩

end Go.Proofs.Ytfajjkolhajldaa

/- rules.copied and (*rules.Book).Book. -/
namespace Go.Proofs.Ytfajjkolhajldaa
open Go.V
set_option linter.unusedVariables false
set_option linter.unusedSimpArgs false

/-- a book whose sides are new -/
def NewBook (cap meet high seq : Int) (bs ss : List Ord) (v : Value) (hs : Hp) : Prop :=
  ∃ A1 A2 d1 d2 k1 k2, v = .agg ⟨bcells cap meet (.slice A1 bs.length d1) (.slice A2 ss.length d2) high seq⟩ ∧ hs = k2 ++ k1 ∧ OwnS 125 7 (.slice A1 bs.length d1) bs.length (rows bs) k1 ∧ OwnS 125 7 (.slice A2 ss.length d2) ss.length (rows ss) k2
theorem OwnS.sl {E m n : Nat} {v : Value} {vs : List Value} {h : Hp} (k : OwnS E m v n vs h) : ∃ A c, v = .slice A n c := by
  obtain ⟨A, c, rfl⟩ := k.slice
  exact ⟨A, c, rfl⟩
set_option maxRecDepth 10000 in
theorem copied_ok (w : World) (cap meet high seq : Int) (A1 A2 : Option Addr) (c1 c2 : Nat) (bs ss : List Ord) (h1 : Rd w [] A1 (rows bs)) (h2 : Rd w [] A2 (rows ss)) (hb1 : bs.length ≤ 2513169434843) (hb2 : ss.length ≤ 2513169434843) :
    Does Try.prog 84 [.agg ⟨bcells cap meet (.slice A1 bs.length c1) (.slice A2 ss.length c2) high seq⟩] [] w (NewBook cap meet high seq bs ss) := by
  refine Does.less (Does.of (n := 12) Try.func84 rfl rfl rfl rfl ?_)
  refine .seq ((.region (.nw (.box rfl rfl) fun b1 => (.nw .alloc fun b2 => (.nil ?_)))))
  refine .seq (.drawZ 7 [(b1, .cells (bcells cap meet (.slice A1 bs.length c1) (.slice A2 ss.length c2) high seq) 115)] (by intro p hp; simp at hp; subst hp; simp) (by kernel_rfl) ?_)
  refine .v 0 rfl (by kernel_rfl) (fun hs' f => .fieldAddr rfl) ?_
  refine .v 1 rfl (by kernel_rfl) (fun hs' f => .load (v := .slice A1 bs.length c1) rfl (.one (hb := .sub f) rfl)) ?_
  refine .v 3 rfl (by kernel_rfl) (fun hs' f => .fieldAddr rfl) ?_
  refine .v 4 rfl (by kernel_rfl) (fun hs' f => .load (v := .slice A2 ss.length c2) rfl (.one (hb := .sub f) rfl)) ?_
  refine .ef 2 rfl (by kernel_rfl) (.call0 rfl rfl fun w s => clone_ok w A1 bs.length c1 bs (h1.keep0 s) rfl hb1) ?_ (fun v hs' ⟨h, _, e⟩ f => by subst e; exact fun p hp => List.mem_append_right _ (f hp)) rfl
  rintro v1 _ ⟨k1, o1, rfl⟩
  refine .v 6 rfl (by kernel_rfl) (fun hs' f => .fieldAddr rfl) ?_
  refine .ef 5 rfl (by kernel_rfl) (.call0 rfl rfl fun w s => clone_ok w A2 ss.length c2 ss (h2.keep0 s) rfl hb2) ?_ (fun v hs' ⟨h, _, e⟩ f => by subst e; exact fun p hp => List.mem_append_right _ (f hp)) rfl
  rintro v2 _ ⟨k2, o2, rfl⟩
  obtain ⟨B1, d1, rfl⟩ := OwnS.sl o1
  obtain ⟨B2, d2, rfl⟩ := OwnS.sl o2
  refine .st rfl (by kernel_rfl) rfl (.store rfl rfl rfl (by simp [bcells])) ?_
  refine .v1 8 rfl (by kernel_rfl) (.fieldAddr rfl) ?_ rfl
  refine .st2 9 rfl (by kernel_rfl) rfl rfl (.store rfl rfl rfl (by simp [bcells])) ?_
  refine .done (by kernel_rfl) ?_
  refine .seq ((.region (.v (.loadA (vs := bcells cap meet (.slice B1 bs.length d1) (.slice B2 ss.length d2) high seq) rfl .whole rfl) (.st (.sw rfl rfl) (.nil ?_)))))
  refine .ret ⟨[_], ⟨⟨_, rfl, .inr ⟨6, _, inferInstance, rfl, rfl, .whole⟩⟩, trivial⟩, k2 ++ k1, fun _ s => s.sub ?_, B1, B2, d1, d2, k1, k2, rfl, rfl, o1, o2⟩
  exact List.Sublist.append_left (List.sublist_append_left _ _) _
set_option maxRecDepth 10000 in
theorem Book_ok (w : World) (b : Nat) (cap meet high seq : Int) (A1 A2 : Option Addr) (c1 c2 : Nat) (bs ss : List Ord) (hb : Rd w [] (some ⟨b, 0, none⟩) (bcells cap meet (.slice A1 bs.length c1) (.slice A2 ss.length c2) high seq))
    (h1 : Rd w [] A1 (rows bs)) (h2 : Rd w [] A2 (rows ss)) (hb1 : bs.length ≤ 2513169434843) (hb2 : ss.length ≤ 2513169434843) :
    Does Try.prog 58 [.pointer (some ⟨b, 0, none⟩)] [] w (NewBook cap meet high seq bs ss) := by
  refine Does.less (Does.of (n := 8) Try.func58 rfl rfl rfl rfl ?_)
  refine .seq ((.region (.nw .alloc fun b2 => (.nil ?_))))
  refine .seq ((.region (.v (.move rfl) (.v (.nilCheck rfl) (.v (.fieldAddr rfl) (.v (.loadA (vs := bcells cap meet (.slice A1 bs.length c1) (.slice A2 ss.length c2) high seq) rfl hb.whole rfl) ?_))))))
  refine .ef (.call0 rfl rfl fun w s => copied_ok w cap meet high seq A1 A2 c1 c2 bs ss (h1.keep0 s) (h2.keep0 s) hb1 hb2) ?_
  rintro _ _ ⟨_, ⟨B1, B2, d1, d2, k1, k2, rfl, rfl, o1, o2⟩, rfl⟩
  refine .st (.sw rfl rfl) (.nil ?_)
  refine .ret ⟨[_], ⟨⟨_, rfl, .inr ⟨6, _, inferInstance, rfl, rfl, .whole⟩⟩, trivial⟩, k2 ++ k1, fun _ s => s.sub ?_, B1, B2, d1, d2, k1, k2, rfl, rfl, o1, o2⟩
  exact List.sublist_append_left _ _
end Go.Proofs.Ytfajjkolhajldaa

/- Two sides that read alike are alike. -/
namespace Go.Proofs.Ytfajjkolhajldaa
open Go.V
set_option linter.unusedVariables false
set_option linter.unusedSimpArgs false

abbrev OL : List Lf := [.i .u64, .i .u32, .i .i64, .i .i64, .i .u64, .i .u64, .i .u64]
theorem Ord.oks (o : Ord) : V.oks OL o.cells := ⟨rfl, rfl, rfl, rfl, rfl, rfl, rfl, trivial⟩
end Go.Proofs.Ytfajjkolhajldaa

/- Two books that read alike are alike. -/
namespace Go.Proofs.Ytfajjkolhajldaa
open Go.V
set_option linter.unusedVariables false
set_option linter.unusedSimpArgs false

theorem cfg_oks (c m : Int) : oks [.i .i64, .i .i64] [.int .i64 c, .int .i64 m] := ⟨rfl, rfl, trivial⟩
end Go.Proofs.Ytfajjkolhajldaa

/- rules.New and the document's. -/
namespace Go.Proofs.Ytfajjkolhajldaa
open Go.V
set_option linter.unusedVariables false
set_option linter.unusedSimpArgs false

def Cfg (c m : Int) : Prop := 1 ≤ c ∧ c ≤ 4096 ∧ 0 ≤ m ∧ m ≤ 3
instance (c m : Int) : Decidable (Cfg c m) := by unfold Cfg; infer_instance
/-- a book of a config without orders -/
def bnew (c m : Int) : List Value := bcells c m (.slice none 0 0) (.slice none 0 0) 0 0
theorem New_ok (w : World) (c m : Int) : Does Try.prog 18 [.agg ⟨[.int .i64 c, .int .i64 m]⟩] [] w (fun v hs => if Cfg c m then ∃ b, v = .tuple ⟨[.pointer (some ⟨b, 0, none⟩), .int .i64 0]⟩ ∧ hs = [(b, .cells (bnew c m) 117)] else v = .tuple ⟨[.pointer none, .int .i64 1]⟩ ∧ hs = []) := by
  refine Does.less (Does.of (n := 11) Try.func18 rfl rfl rfl rfl ?_)
  refine .seq ((.region (.nw (.box rfl rfl) fun b1 => (.v (.assign rfl) (.v (.assign rfl) (.nil ?_))))))
  refine .seq (.seq ((.region (.v (.loadA rfl .whole rfl) (.pc (v := .bool (decide (Cfg c m))) rfl rfl (fun w _ => configured_ok w c m) (.v (.not rfl) (.nil ?_)))))))
  refine .cond rfl (fun h1 => ?_) (fun h1 => .skip ?_)
  · have hc : ¬ Cfg c m := by simpa using h1
    refine .seq ((.region (.v (.assign rfl) (.v (.assign rfl) (.nil ?_)))))
    exact .ret ⟨[_, _], ⟨rfl, rfl, trivial⟩, [], fun _ s => s.sub (List.nil_sublist _), by rw [if_neg hc]; exact ⟨rfl, rfl⟩⟩
  · have hc : Cfg c m := by simpa using h1
    refine .seq ((.region (.v (.loadA rfl .whole rfl) (.v (.build (out := bnew c m) rfl rfl) (.v (.build (out := bnew c m) rfl rfl) (.nw (.box rfl rfl) fun b10 => (.v (.assign rfl) (.v (.assign rfl) (.nil ?_)))))))))
    exact .ret ⟨[_, _], ⟨rfl, rfl, trivial⟩, [(b10, .cells (bnew c m) 117)], fun _ s => s.sub (.cons_cons _ (List.nil_sublist _)), by rw [if_pos hc]; exact ⟨b10, rfl, rfl⟩⟩
end Go.Proofs.Ytfajjkolhajldaa

/- rules.Valid: what it computes. -/
namespace Go.Proofs.Ytfajjkolhajldaa
open Go.V
set_option linter.unusedVariables false
set_option linter.unusedSimpArgs false

/-- the numbers that were seen -/
def seenFrom (n : Nat) : List Ord → List ME
  | [] => []
  | o :: l => (o.id, .bool true, n) :: seenFrom (n + 1) l
theorem seen_app : ∀ (l : List Ord) (o : Ord) (n : Nat), seenFrom n (l ++ [o]) = seenFrom n l ++ [(o.id, .bool true, n + l.length)]
  | [], o, n => rfl
  | a :: l, o, n => by
    simp only [List.cons_append, seenFrom, seen_app l o (n + 1), List.length_cons]
    rw [show n + 1 + l.length = n + (l.length + 1) from by omega]
theorem mfind_seen (k : Int) : ∀ (l : List Ord) (n i : Nat), (mfind k (seenFrom n l) i).map (·.2) = if ∃ o ∈ l, o.id = k then some (.bool true) else none
  | [], n, i => by simp [seenFrom, mfind]
  | a :: l, n, i => by
    unfold seenFrom mfind
    by_cases h : k = a.id
    · subst h; simp
    · have hb : (k == a.id) = false := by simpa using h
      simp only [hb, Bool.false_eq_true, if_false]
      rw [mfind_seen k l (n + 1) (i + 1)]
      have : (∃ o ∈ a :: l, o.id = k) ↔ (∃ o ∈ l, o.id = k) := by
        constructor
        · rintro ⟨o, ho, e⟩
          rcases List.mem_cons.1 ho with rfl | ho
          · exact absurd e.symm h
          · exact ⟨o, ho, e⟩
        · rintro ⟨o, ho, e⟩; exact ⟨o, List.mem_cons_of_mem _ ho, e⟩
      by_cases hh : ∃ o ∈ l, o.id = k
      · rw [if_pos hh, if_pos (this.2 hh)]
      · rw [if_neg hh, if_neg (fun q => hh (this.1 q))]
theorem mget_seen (k : Int) (l : List Ord) : (mget k (seenFrom 0 l)).getD (.bool false) = .bool (decide (∃ o ∈ l, o.id = k)) := by
  unfold mget
  rw [mfind_seen]
  by_cases h : ∃ o ∈ l, o.id = k <;> simp [h]
theorem mset_seen (l : List Ord) (o : Ord) (h : ¬ ∃ x ∈ l, x.id = o.id) : mset o.id (.bool true) (seenFrom 0 l) l.length = (seenFrom 0 (l ++ [o]), (l ++ [o]).length) := by
  have hm := mfind_seen o.id l 0 0
  rw [if_neg h] at hm
  have hn : mfind o.id (seenFrom 0 l) 0 = none := by
    cases hf : mfind o.id (seenFrom 0 l) 0 with
    | none => rfl
    | some p => rw [hf] at hm; cases hm
  unfold mset
  rw [hn, seen_app]
  simp
/-- all of a side is right, next to what stood ahead -/
def SideOk (high : Int) (s : Int) (ahead l : List Ord) (n : Nat) : Prop :=
  ∀ i, (hi : i < l.length) → i < n → l[i].rests high ∧ (¬ ∃ x ∈ ahead ++ l.take i, x.id = l[i].id) ∧ (0 < i → bet s l[i].pr l[i - 1].pr = false)
theorem dist_of {ahead l : List Ord} {high s : Int} (h1 : Dist ahead) (h2 : SideOk high s ahead l l.length) : Dist (ahead ++ l) := by
  intro i hi j hj
  by_cases ha : i < ahead.length
  · rw [List.getElem_append_left ha, List.getElem_append_left (by omega)]
    exact h1 i ha j hj
  · have hi' : i - ahead.length < l.length := by simp at hi; omega
    have := (h2 (i - ahead.length) hi' hi').2.1
    rw [List.getElem_append_right (by omega)]
    intro e
    apply this
    refine ⟨(ahead ++ l)[j], ?_, e.symm⟩
    have : (ahead ++ l)[j] ∈ (ahead ++ l).take i := by
      rw [List.mem_iff_getElem]
      exact ⟨j, by simp at hi ⊢; omega, by simp⟩
    rw [List.take_append] at this
    rwa [List.take_of_length_le (by omega)] at this
theorem not_dist {ahead l : List Ord} {i : Nat} (hi : i < l.length) (h : ∃ x ∈ ahead ++ l.take i, x.id = l[i].id) (rest : List Ord) : ¬ Dist (ahead ++ l ++ rest) := by
  intro hd
  obtain ⟨x, hx, e⟩ := h
  obtain ⟨j, hj, rfl⟩ := List.mem_iff_getElem.1 hx
  simp at hj
  have hj2 : j < ahead.length + i := by omega
  refine hd (ahead.length + i) (by simp; omega) j hj2 ?_
  have e1 : (ahead ++ l ++ rest)[ahead.length + i]'(by simp; omega) = l[i] := by
    rw [List.getElem_append_left (by simp; omega), List.getElem_append_right (by omega)]
    simp
  have e2 : (ahead ++ l ++ rest)[j]'(by simp; omega) = (ahead ++ l.take i)[j]'(by simp; omega) := by
    rw [List.getElem_append_left (by simp; omega)]
    by_cases ha : j < ahead.length
    · rw [List.getElem_append_left ha, List.getElem_append_left ha]
    · rw [List.getElem_append_right (by omega), List.getElem_append_right (by omega)]
      simp
  rw [e1, e2, e]
end Go.Proofs.Ytfajjkolhajldaa

/- rules.Valid: the walk. -/
namespace Go.Proofs.Ytfajjkolhajldaa
open Go.V
set_option linter.unusedVariables false
set_option linter.unusedSimpArgs false

def ah (bs ss : List Ord) : Nat → List Ord
  | 0 => []
  | 1 => bs
  | _ => bs ++ ss
theorem side_facts (bs ss : List Ord) (A1 A2 : Option Addr) (c1 c2 : Nat) (high : Int) (w : World) (h1 : Rd w [] A1 (rows bs)) (h2 : Rd w [] A2 (rows ss)) (hb1 : bs.length ≤ 2513169434843) (hb2 : ss.length ≤ 2513169434843) (s : Nat) (hs : s < 2) :
    ∃ (L : List Ord) (A : Option Addr) (c : Nat), ([.slice A1 bs.length c1, .slice A2 ss.length c2] : List Value)[s]? = some (.slice A L.length c) ∧ Rd w [] A (rows L) ∧ L.length ≤ 2513169434843 ∧ (∀ o ∈ L, o ∈ bs ++ ss) ∧
      (∀ (i : Nat) (hi : i < L.length), (∃ x ∈ ah bs ss s ++ L.take i, x.id = L[i].id) → ¬ Dist (bs ++ ss)) ∧ (∀ (i : Nat) (hi : i < L.length), 0 < i → bet ((s : Int) + 1) L[i].pr L[i - 1].pr = true → ¬ (Srt 1 bs ∧ Srt 2 ss)) ∧
      ah bs ss (s + 1) = ah bs ss s ++ L ∧ (SideOk high ((s : Int) + 1) (ah bs ss s) L L.length → (s = 0 → Srt 1 bs) ∧ (s = 1 → Srt 2 ss)) := by
  match s, hs with
  | 0, _ =>
    refine ⟨bs, A1, c1, rfl, h1, hb1, fun o ho => by simp [ho], fun i hi h => ?_, fun i hi h0 hb k => ?_, by simp [ah], fun k => ⟨fun _ i hi h0 => ?_, fun h => by cases h⟩⟩
    · have := not_dist hi h ss
      simpa [ah] using this
    · have := k.1 i hi h0
      simp at hb
      rw [hb] at this; cases this
    · have := (k i hi hi).2.2 h0
      simpa using this
  | 1, _ =>
    refine ⟨ss, A2, c2, rfl, h2, hb2, fun o ho => by simp [ho], fun i hi h => ?_, fun i hi h0 hb k => ?_, rfl, fun k => ⟨fun h => (nomatch h), fun _ i hi h0 => ?_⟩⟩
    · have := not_dist hi h []
      simpa [ah] using this
    · have := k.2 i hi h0
      simp at hb
      rw [hb] at this; cases this
    · have := (k i hi hi).2.2 h0
      simpa using this
end Go.Proofs.Ytfajjkolhajldaa

/- The law RulesChecks: its walk. -/
namespace Go.Proofs.Ytfajjkolhajldaa
open Go.V
set_option linter.unusedVariables false
set_option linter.unusedSimpArgs false

set_option maxRecDepth 10000 in
theorem Len_is (w : World) (b : Nat) (cap meet high seq : Int) (A1 A2 : Option Addr) (n1 n2 c1 c2 : Nat) (hb : Rd w [] (some ⟨b, 0, none⟩) (bcells cap meet (.slice A1 n1 c1) (.slice A2 n2 c2) high seq)) (hn1 : n1 ≤ 2513169434843) (hn2 : n2 ≤ 2513169434843) :
    Is Try.prog 79 [.pointer (some ⟨b, 0, none⟩)] w (.int .i64 (n1 + n2)) := by
  refine Does.pure (Does.of (n := 16) Try.func79 rfl rfl rfl rfl ?_)
  refine .seq ((.region (.v (.assign rfl) (.nil ?_))))
  refine .seq ((.drawS (by kernel_rfl) (by kernel_rfl) (.v (.move rfl) (.v (.nilCheck rfl) (.v (.fieldAddr rfl) (.v (.fieldAddr rfl) (.v (.load (v := .slice A1 n1 c1) rfl (hb.cell (i := 2) rfl)) (.v (.len rfl) (.v (.move rfl) (.v (.nilCheck rfl) (.v (.fieldAddr rfl) (.v (.fieldAddr rfl) (.v (.load (v := .slice A2 n2 c2) rfl (hb.cell (i := 3) rfl)) (.v (.len rfl) (.v (.addi rfl rfl (by omega)) (.v (.assign rfl) (.nil ?_)))))))))))))))))
  exact .ret ⟨[_], ⟨rfl, trivial⟩, rfl⟩

end Go.Proofs.Ytfajjkolhajldaa

/- A book's parts: side, place, reaches, coming. -/
namespace Go.Proofs.Ytfajjkolhajldaa
open Go.V
set_option linter.unusedVariables false
set_option linter.unusedSimpArgs false

theorem side_ok (w : World) (b : Nat) (s : Int) : Is Try.prog 52 [.pointer (some ⟨b, 0, none⟩), .int .i64 s] w (.pointer (if s = 1 then some ⟨b, 2, none⟩ else if s = 2 then some ⟨b, 3, none⟩ else none)) := by
  refine Does.pure (Does.of (n := 18) Try.func52 rfl rfl rfl rfl ?_)
  refine .seq ((.region (.v (.assign rfl) (.nil ?_))))
  refine .seq (.seq ((.region (.v (.move rfl) (.nil ?_)))))
  refine .block (.seq ((.region (.v (.eqi rfl rfl) (.v (.assign rfl) (.nil ?_))))))
  refine .cond_dec rfl (fun h1 => ?_) (fun h1 => ?_)
  · refine .seq ((.region (.v (.move rfl) (.v (.nilCheck rfl) (.v (.fieldAddr rfl) (.v (.fieldAddr rfl) (.v (.assign rfl) (.nil ?_))))))))
    exact .ret ⟨[_], ⟨rfl, trivial⟩, by rw [if_pos h1]; rfl⟩
  · refine .seq ((.region (.v (.eqi rfl rfl) (.v (.assign rfl) (.nil ?_)))))
    refine .cond_dec rfl (fun h2 => ?_) (fun h2 => .skip ?_)
    · refine .seq ((.region (.v (.move rfl) (.v (.nilCheck rfl) (.v (.fieldAddr rfl) (.v (.fieldAddr rfl) (.v (.assign rfl) (.nil ?_))))))))
      exact .ret ⟨[_], ⟨rfl, trivial⟩, by rw [if_neg h1, if_pos h2]; rfl⟩
    · refine .seq ((.region (.v (.assign rfl) (.nil ?_))))
      exact .ret ⟨[_], ⟨rfl, trivial⟩, by rw [if_neg h1, if_neg h2]; rfl⟩
theorem isId_ok (w : World) (b : Nat) (id : Int) (o : Ord) (hb : Rd w [] (some ⟨b, 0, none⟩) [.int .u64 id]) : Is Try.prog 77 [.agg ⟨o.cells⟩, .pointer (some ⟨b, 0, none⟩)] w (.bool (decide (o.id = id))) := by
  refine Does.pure (Does.of (n := 8) Try.func77 rfl rfl rfl rfl ?_)
  refine .seq ((.region (.nw (.box rfl rfl) fun b2 => (.v (.assign rfl) (.nil ?_)))))
  refine .seq ((.region (.v (.fieldAddr rfl) (.v (.load (v := .int .u64 o.id) rfl (.one rfl)) (.v (.load (v := .int .u64 id) rfl (hb.cell (i := 0) rfl)) (.v (.eqi rfl rfl) (.v (.assign rfl) (.nil ?_))))))))
  exact .ret ⟨[_], ⟨rfl, trivial⟩, rfl⟩
/-- where an order of a number stands; -1: nowhere -/
def idx (id : Int) (l : List Ord) : Int := match l.findIdx? (fun o => decide (o.id = id)) with
  | some i => i
  | none => -1
theorem idx_at {id : Int} {l : List Ord} {i : Nat} (hi : i < l.length) (h : l[i].id = id) (hb : ∀ m, (hm : m < l.length) → m < i → l[m].id ≠ id) : idx id l = i := by
  have : l.findIdx? (fun o => decide (o.id = id)) = some i := by
    rw [List.findIdx?_eq_some_iff_getElem]
    exact ⟨hi, by simpa using h, fun j hj => by simpa using hb j (by omega) hj⟩
  unfold idx; rw [this]
theorem idx_no {id : Int} {l : List Ord} (hb : ∀ m, (hm : m < l.length) → l[m].id ≠ id) : idx id l = -1 := by
  have : l.findIdx? (fun o => decide (o.id = id)) = none := by
    rw [List.findIdx?_eq_none_iff]
    intro x hx
    obtain ⟨i, hi, rfl⟩ := List.mem_iff_getElem.1 hx
    simpa using hb i hi
  unfold idx; rw [this]
theorem idx_spec (id : Int) (l : List Ord) : idx id l = -1 ∧ (∀ m, (hm : m < l.length) → l[m].id ≠ id) ∨ ∃ i, ∃ hi : i < l.length, idx id l = i ∧ l[i].id = id ∧ ∀ m, (hm : m < l.length) → m < i → l[m].id ≠ id := by
  cases h : l.findIdx? (fun o => decide (o.id = id)) with
  | none =>
    refine .inl ⟨by unfold idx; rw [h], fun m hm e => ?_⟩
    rw [List.findIdx?_eq_none_iff] at h
    simpa [e] using h l[m] (List.getElem_mem hm)
  | some i =>
    rw [List.findIdx?_eq_some_iff_getElem] at h
    obtain ⟨hi, h1, h2⟩ := h
    have h1 : l[i].id = id := by simpa using h1
    have h2 : ∀ m, (hm : m < l.length) → m < i → l[m].id ≠ id := fun m hm hmi => by simpa using h2 m hmi
    exact .inr ⟨i, hi, idx_at hi h1 h2, h1, h2⟩
set_option maxRecDepth 10000 in
theorem index_ok (w : World) (A : Option Addr) (len cap b : Nat) (id : Int) (l : List Ord) (hx : Rd w [] A (rows l)) (hl : len = l.length) (hlb : len ≤ 2513169434843) (hb : Rd w [] (some ⟨b, 0, none⟩) [.int .u64 id]) :
    Is Try.prog 76 [.slice A len cap, .func (.func 77) #[] ⟨[.pointer (some ⟨b, 0, none⟩)]⟩] w (.int .i64 (idx id l)) := by
  refine Does.pure (Does.of (n := 19) Try.func76 rfl rfl rfl rfl ?_)
  refine .seq ((.region (.v (.assign rfl) (.nil ?_))))
  refine .seq (.seq ((.region (.v (.move rfl) (.v (.len rfl) (.v (.move rfl) (.nil ?_)))))))
  refine .block (.loop (X := Nat) (fun i => [(0, .slice A len cap), (1, .func (.func 77) #[] ⟨[.pointer (some ⟨b, 0, none⟩)]⟩), (7, .int .i64 len), (8, .int .i64 i)]) (fun _ => []) (fun i => i ≤ len ∧ ∀ m, (hm : m < l.length) → m < i → l[m].id ≠ id) (fun i => len - i) 0 ⟨by omega, fun m _ hm => by omega⟩
    (.cons rfl (.cons rfl (.cons rfl (.cons rfl (.nil _))))) (fun _ s => s) ?_)
  rintro i ⟨hi, hI⟩
  refine .seq ((.region (.v (.lss rfl rfl) (.nil ?_))))
  refine .seq (.cond_dec rfl (fun h1 => .skip ?_) (fun h1 => .exit ?_))
  · have hil : i < l.length := by omega
    obtain ⟨b', o', rfl, -, hc⟩ := Rd.ord hx (by omega)
    refine .seq (.block (.seq ((.region (.v (.move rfl) (.v (.assign rfl) (.nil ?_)))))))
    refine .seq ((.region (.v (.move rfl) (.v (.move rfl) (.v (.move rfl) (.v (.indexAddr rfl rfl (by omega) (by omega)) (.v (.loadA (vs := l[i].cells) rfl (.old (fun j v hv => ?_) (by simp [bl])) rfl) (.pc (v := .bool (decide (l[i].id = id))) rfl rfl (fun w s => isId_ok w b id l[i] (hb.keep0 s)) (.nil ?_)))))))))
    · rw [add_none, Int.toNat_natCast]; exact hc i hil j v (List.getElem?_eq_some_iff.1 hv).1 hv
    refine .cond_dec rfl (fun h2 => ?_) (fun h2 => .skip ?_)
    · refine .seq ((.region (.v (.move rfl) (.v (.assign rfl) (.nil ?_)))))
      exact .ret ⟨[_], ⟨rfl, trivial⟩, by rw [idx_at hil h2 hI]; rfl⟩
    · refine .region (.v (.addi rfl rfl (by omega)) (.v (.move rfl) (.nil ?_)))
      refine ⟨i + 1, ⟨by omega, fun m hm hmi => ?_⟩, by omega, .cons rfl (.cons rfl (.cons rfl (.cons rfl (.nil _)))), fun _ s => s⟩
      by_cases e : m = i
      · subst e; exact h2
      · exact hI m hm (by omega)
  · refine .seq ((.region (.v (.assign rfl) (.nil ?_))))
    exact .ret ⟨[_], ⟨rfl, trivial⟩, by rw [idx_no fun m hm => hI m hm (by omega)]; rfl⟩
/-- where an order of a number stands in a book -/
def plc (id : Int) (bs ss : List Ord) : Int × Int × Bool := if 0 ≤ idx id bs then (1, idx id bs, true) else if 0 ≤ idx id ss then (2, idx id ss, true) else (0, 0, false)
def plcV (p : Int × Int × Bool) : Value := .tuple ⟨[.int .i64 p.1, .int .i64 p.2.1, .bool p.2.2]⟩

set_option maxRecDepth 10000 in
theorem place_ok (w : World) (b : Nat) (cap meet high seq id : Int) (A1 A2 : Option Addr) (c1 c2 : Nat) (bs ss : List Ord) (hb : Rd w [] (some ⟨b, 0, none⟩) (bcells cap meet (.slice A1 bs.length c1) (.slice A2 ss.length c2) high seq))
    (h1 : Rd w [] A1 (rows bs)) (h2 : Rd w [] A2 (rows ss)) (hb1 : bs.length ≤ 2513169434843) (hb2 : ss.length ≤ 2513169434843) :
    Is Try.prog 51 [.pointer (some ⟨b, 0, none⟩), .int .u64 id] w (plcV (plc id bs ss)) := by
  refine Does.pure (Does.of (n := 28) Try.func51 rfl rfl rfl rfl ?_)
  refine .seq ((.region (.nw (.box rfl rfl) fun b3 => (.v (.assign rfl) (.v (.assign rfl) (.v (.assign rfl) (.nil ?_)))))))
  refine .seq (.seq ((.region (.ef (.buildSlice (out := [.int .i64 1, .int .i64 2]) rfl (by decide) rfl rfl) ?_))))
  rintro _ _ ⟨b10, rfl, rfl⟩
  refine .v (.len rfl) (.v (.move rfl) (.nil ?_))
  refine .block (.loop (X := Nat) (fun k => [(0, .pointer (some ⟨b, 0, none⟩)), (3, .pointer (some ⟨b3, 0, none⟩)), (10, .slice (some ⟨b10, 0, none⟩) 2 2), (11, .int .i64 2), (12, .int .i64 k)]) (fun _ => [(b10, .cells [.int .i64 1, .int .i64 2] 3), (b3, .cells [.int .u64 id] 30)])
    (fun k => k ≤ 2 ∧ (1 ≤ k → idx id bs = -1) ∧ (2 ≤ k → idx id ss = -1)) (fun k => 2 - k) 0 ⟨by omega, by omega, by omega⟩ (.cons rfl (.cons rfl (.cons rfl (.cons rfl (.cons rfl (.nil _)))))) (fun _ s => s) ?_)
  rintro k ⟨hk, hk1, hk2⟩
  refine .seq ((.region (.v (.lss rfl rfl) (.nil ?_))))
  refine .seq (.cond_dec rfl (fun g1 => .skip ?_) (fun g1 => .exit ?_))
  · have hk' : k = 0 ∨ k = 1 := by omega
    rcases hk' with rfl | rfl
    · refine .seq (.block (.seq ((.region (.v (.indexAddr1 rfl rfl (by omega) (by omega)) (.v (.load (v := .int .i64 1) rfl (.one rfl)) (.v (.assign rfl) (.nil ?_))))))))
      refine .seq ((.region (.v (.move rfl) (.v (.move rfl) (.pc rfl rfl (fun w s => side_ok w b 1) (.v (.nilCheck rfl) (.v (.load (v := .slice A1 bs.length c1) rfl (hb.cell (i := 2) rfl)) (.v (.makeFunc rfl rfl) (.pc rfl rfl (fun w s => index_ok w A1 bs.length c1 b3 id bs (h1.keep0 s) rfl hb1 (Rd.chunk s (l := [.int .u64 id]) (T := 30) (by simp) (fun j v hv => by rw [Nat.zero_add]; exact hv))) (.v (.assign rfl) (.nil ?_)))))))))))
      refine .seq ((.region (.v (.move rfl) (.v (.geq rfl rfl) (.nil ?_)))))
      refine .cond_dec rfl (fun g2 => ?_) (fun g2 => .skip ?_)
      · refine .seq ((.region (.v (.move rfl) (.v (.move rfl) (.v (.assign rfl) (.v (.assign rfl) (.v (.assign rfl) (.nil ?_))))))))
        exact .ret ⟨[_, _, _], ⟨rfl, rfl, rfl, trivial⟩, by rw [plc, if_pos g2]; rfl⟩
      · refine .region (.v (.addi rfl rfl (by omega)) (.v (.move rfl) (.nil ?_)))
        have e : idx id bs = -1 := by
          rcases idx_spec id bs with h | ⟨i, hi, h, _⟩
          · exact h.1
          · omega
        exact ⟨1, ⟨by omega, fun _ => e, by omega⟩, by omega, .cons rfl (.cons rfl (.cons rfl (.cons rfl (.cons rfl (.nil _))))), fun _ s => s⟩
    · refine .seq (.block (.seq ((.region (.v (.indexAddr1 rfl rfl (by omega) (by omega)) (.v (.load (v := .int .i64 2) rfl (.one rfl)) (.v (.assign rfl) (.nil ?_))))))))
      refine .seq ((.region (.v (.move rfl) (.v (.move rfl) (.pc rfl rfl (fun w s => side_ok w b 2) (.v (.nilCheck rfl) (.v (.load (v := .slice A2 ss.length c2) rfl (hb.cell (i := 3) rfl)) (.v (.makeFunc rfl rfl) (.pc rfl rfl (fun w s => index_ok w A2 ss.length c2 b3 id ss (h2.keep0 s) rfl hb2 (Rd.chunk s (l := [.int .u64 id]) (T := 30) (by simp) (fun j v hv => by rw [Nat.zero_add]; exact hv))) (.v (.assign rfl) (.nil ?_)))))))))))
      refine .seq ((.region (.v (.move rfl) (.v (.geq rfl rfl) (.nil ?_)))))
      refine .cond_dec rfl (fun g2 => ?_) (fun g2 => .skip ?_)
      · refine .seq ((.region (.v (.move rfl) (.v (.move rfl) (.v (.assign rfl) (.v (.assign rfl) (.v (.assign rfl) (.nil ?_))))))))
        exact .ret ⟨[_, _, _], ⟨rfl, rfl, rfl, trivial⟩, by rw [plc, if_neg (by rw [hk1 (by omega)]; omega), if_pos g2]; rfl⟩
      · refine .region (.v (.addi rfl rfl (by omega)) (.v (.move rfl) (.nil ?_)))
        have e : idx id ss = -1 := by
          rcases idx_spec id ss with h | ⟨i, hi, h, _⟩
          · exact h.1
          · omega
        exact ⟨2, ⟨by omega, fun _ => hk1 (by omega), fun _ => e⟩, by omega, .cons rfl (.cons rfl (.cons rfl (.cons rfl (.cons rfl (.nil _))))), fun _ s => s⟩
  · refine .seq ((.region (.v (.assign rfl) (.v (.assign rfl) (.v (.assign rfl) (.nil ?_))))))
    exact .ret ⟨[_, _, _], ⟨rfl, rfl, rfl, trivial⟩, by rw [plc, if_neg (by rw [hk1 (by omega)]; omega), if_neg (by rw [hk2 (by omega)]; omega)]; rfl⟩
/-- an order that comes -/
structure Tk where
  o : Ord
  side : Int
  kind : Int
  left : Int
def Tk.cells (t : Tk) : List Value := t.o.cells ++ [.int .i64 t.side, .int .i64 t.kind, .int .u64 t.left]
def tcells (o : List Value) (side kind left : Int) : List Value := o ++ [.int .i64 side, .int .i64 kind, .int .u64 left]
def reach (side kind pr p : Int) : Bool := decide (kind = 2) || !bet side p pr
theorem reaches_ok (w : World) (id mb ty pr v hd pk side kind left p : Int) : Is Try.prog 80 [.agg ⟨[.int .u64 id, .int .u32 mb, .int .i64 ty, .int .i64 pr, .int .u64 v, .int .u64 hd, .int .u64 pk, .int .i64 side, .int .i64 kind, .int .u64 left]⟩, .int .i64 p] w (.bool (reach side kind pr p)) := by
  refine Does.pure (Does.of (n := 18) Try.func80 rfl rfl rfl rfl ?_)
  refine .seq ((.region (.nw (.box rfl rfl) fun b2 => (.v (.assign rfl) (.nil ?_)))))
  refine .seq ((.region (.v (.fieldAddr rfl) (.v (.load rfl (.one rfl)) (.v (.eqi rfl rfl) (.v (.move rfl) (.or 8 16 8 8 rfl rfl (fun g1 => .v (.fieldAddr rfl) (.v (.load rfl (.one rfl)) (.v (.move rfl) (.v (.fieldAddr rfl) (.v (.fieldAddr rfl) (.v (.load rfl (.one rfl)) (.pc rfl rfl (fun w s => better_ok w side p pr) (.v (.not rfl) (.nil ⟨rfl, rfl, rfl, rfl⟩))))))))) (.v (.assign rfl) (.nil ?_)))))))))
  exact .ret ⟨[_], ⟨rfl, trivial⟩, rfl⟩
end Go.Proofs.Ytfajjkolhajldaa

/- coming, refused. -/
namespace Go.Proofs.Ytfajjkolhajldaa
open Go.V
set_option linter.unusedVariables false
set_option linter.unusedSimpArgs false

/-- a command -/
structure Cm where
  k : Int
  id : Int
  tg : Int
  mb : Int
  sd : Int
  ty : Int
  pr : Int
  q : Int
  pk : Int
def Cm.cells (c : Cm) : List Value := ccells c.k c.id c.tg c.mb c.sd c.ty c.pr c.q c.pk
def Cm.chk (c : Cm) : Int := Proofs.Ytfajjkolhajldaa.chk c.k c.id c.sd c.ty c.pr c.q c.pk
/-- the order that comes by a command -/
def cmg (c : Cm) (tg : Option Ord) (side : Int) : Tk :=
  match tg with
  | some o => if c.k = 3 then ⟨⟨c.id, o.mb, o.ty, c.pr, 0, 0, c.pk⟩, side, o.ty, c.q⟩ else ⟨⟨c.id, c.mb, c.ty, c.pr, 0, 0, c.pk⟩, c.sd, c.ty, c.q⟩
  | none => ⟨⟨c.id, c.mb, c.ty, c.pr, 0, 0, c.pk⟩, c.sd, c.ty, c.q⟩
/-- the order that a command speaks of, in memory -/
def TgR (w : World) (no : List Nat) (tp : Option Addr) : Option Ord → Prop
  | none => tp = none
  | some o => ∃ bt, tp = some ⟨bt, 0, none⟩ ∧ Rd w no (some ⟨bt, 0, none⟩) o.cells
theorem TgR.keep0 {w0 w : World} {own : List Nat} {hs : Hp} {tp : Option Addr} {tg : Option Ord} (h : TgR w0 own tp tg) (s : Sat w0 own hs w) : TgR w [] tp tg := by
  cases tg with
  | none => exact h
  | some o => obtain ⟨bt, h1, h2⟩ := h; exact ⟨bt, h1, h2.keep0 s⟩
set_option maxRecDepth 10000 in
theorem coming_ok (w : World) (c : Cm) (tp : Option Addr) (tg : Option Ord) (side : Int) (ht : TgR w [] tp tg) (hk : c.k = 3 → tg ≠ none) :
    Is Try.prog 56 [.agg ⟨c.cells⟩, .pointer tp, .int .i64 side] w (.agg ⟨(cmg c tg side).cells⟩) := by
  obtain ⟨k, id, tgi, mb, sd, ty, pr, q, pk⟩ := c
  refine Does.pure (Does.of (n := 45) Try.func56 rfl rfl rfl rfl ?_)
  refine .seq ((.region (.nw (.box rfl rfl) fun b3 => (.nw .alloc fun b6 => (.nil ?_)))))
  refine .seq ((.region (.v (.fieldAddr rfl) (.v (.load (v := .int .u64 id) rfl (.one rfl)) (.v (.fieldAddr rfl) (.v (.load (v := .int .u32 mb) rfl (.one rfl)) (.v (.fieldAddr rfl) (.v (.load (v := .int .i64 pr) rfl (.one rfl)) (.v (.fieldAddr rfl) (.v (.load (v := .int .u64 pk) rfl (.one rfl)) (.v (.build (out := rcells id mb 0 pr 0 0 pk) rfl rfl) (.v (.fieldAddr rfl) (.v (.load (v := .int .i64 sd) rfl (.one rfl)) (.v (.fieldAddr rfl) (.v (.load (v := .int .i64 ty) rfl (.one rfl)) (.v (.fieldAddr rfl) (.v (.load (v := .int .u64 q) rfl (.one rfl)) (.v (.build (out := [.int .u64 id, .int .u32 mb, .int .i64 0, .int .i64 pr, .int .u64 0, .int .u64 0, .int .u64 pk, .int .i64 sd, .int .i64 ty, .int .u64 q]) rfl rfl) (.nw .alloc fun b7 => (.st (.sw rfl rfl) (.nil ?_)))))))))))))))))))))
  refine .seq (.seq ((.region (.v (.fieldAddr rfl) (.v (.load (v := .int .i64 k) rfl (.one rfl)) (.v (.eqi rfl rfl) (.nil ?_)))))))
  refine .cond_dec rfl (fun h1 => ?_) (fun h1 => .skip ?_)
  · cases tg with
    | none => exact absurd rfl (hk h1)
    | some o =>
      obtain ⟨bt, rfl, ho⟩ := ht
      refine (.drawK [] (List.nil_subset _) (by kernel_rfl) (by kernel_rfl) ?_)
      refine .v (fun _ f => .move rfl) (.v (fun _ f => .nilCheck rfl) (.v (fun _ f => .fieldAddr rfl) (.v (fun _ f => .load (v := .int .u32 o.mb) rfl (ho.cell (i := 1) rfl)) (.v (fun _ f => .move rfl) (.v (fun _ f => .move rfl) (.v (fun _ f => .nilCheck rfl) (.v (fun _ f => .fieldAddr rfl) (.v (fun _ f => .load (v := .int .i64 o.ty) rfl (ho.cell (i := 2) rfl)) (.v (fun _ f => .fieldAddr rfl) (.v (fun _ f => .fieldAddr rfl) ?_))))))))))
      refine .st (.storeL rfl rfl rfl) (fun _ => List.nil_subset _) (.v (fun _ f => .fieldAddr rfl) (.st (.storeL rfl rfl rfl) (fun _ => List.nil_subset _) (.v (fun _ f => .fieldAddr rfl) (.st (.storeL rfl rfl rfl) (fun _ => List.nil_subset _) (.nil ?_)))))
      refine .seq ((.region (.v (.fieldAddr rfl) (.v (.load (v := .int .i64 o.ty) rfl (.one rfl)) (.v (.fieldAddr rfl) (.v (.fieldAddr rfl) (.st (.storeL rfl rfl rfl) (.nil ?_))))))))
      refine .seq ((.region (.v (.loadA rfl .whole rfl) (.st (.sw rfl rfl) (.nil ?_)))))
      exact .ret ⟨[_], ⟨⟨_, rfl, .inr ⟨10, _, inferInstance, rfl, rfl, .whole⟩⟩, trivial⟩, by simp only [cmg]; rw [if_pos h1]; rfl⟩
  · refine .seq ((.region (.v (.fieldAddr rfl) (.v (.load (v := .int .i64 ty) rfl (.one rfl)) (.v (.fieldAddr rfl) (.v (.fieldAddr rfl) (.st (.storeL rfl rfl rfl) (.nil ?_))))))))
    refine .seq ((.region (.v (.loadA rfl .whole rfl) (.st (.sw rfl rfl) (.nil ?_)))))
    refine .ret ⟨[_], ⟨⟨_, rfl, .inr ⟨10, _, inferInstance, rfl, rfl, .whole⟩⟩, trivial⟩, ?_⟩
    cases tg with
    | none => rfl
    | some o => simp only [cmg]; rw [if_neg h1]; rfl
def headReach (side kind pr : Int) : List Ord → Bool
  | [] => false
  | x :: _ => reach side kind pr x.pr
/-- why a command is refused -/
def rfs (cap high : Int) (bs ss : List Ord) (c : Cm) (tg : Option Ord) (side : Int) : Int :=
  if c.chk = 90 then 90
  else if c.k ≠ 1 ∧ tg = none then 91
  else if c.chk ≠ 0 then c.chk
  else if c.k = 2 then 0
  else if c.id ≤ high then 97
  else if c.k = 1 ∧ ((cmg c tg side).kind = 1 ∨ (cmg c tg side).kind = 5) ∧ cap ≤ bs.length + ss.length then 98
  else if (cmg c tg side).kind = 5 ∧ headReach (cmg c tg side).side (cmg c tg side).kind (cmg c tg side).o.pr (if (cmg c tg side).side = 1 then ss else bs) then 99 else 0
theorem chk_kinds {c : Cm} (h : c.chk ≠ 90) : c.k = 1 ∨ c.k = 2 ∨ c.k = 3 := by
  unfold Cm.chk chk at h
  by_cases h1 : c.k = 1
  · exact .inl h1
  · by_cases h3 : c.k = 3
    · exact .inr (.inr h3)
    · by_cases h2 : c.k = 2
      · exact .inr (.inl h2)
      · rw [if_neg h1, if_neg h3, if_neg h2] at h; exact absurd rfl h
theorem chk_side {c : Cm} (h : c.chk = 0) (hk : c.k = 1) : c.sd = 1 ∨ c.sd = 2 := by
  unfold Cm.chk chk at h
  rw [if_pos hk] at h
  by_cases h1 : c.sd ≠ 1 ∧ c.sd ≠ 2
  · rw [if_pos h1] at h; omega
  · omega
set_option maxRecDepth 10000 in
theorem refused_ok (w : World) (b : Nat) (cap meet high seq : Int) (A1 A2 : Option Addr) (c1 c2 : Nat) (bs ss : List Ord) (hb : Rd w [] (some ⟨b, 0, none⟩) (bcells cap meet (.slice A1 bs.length c1) (.slice A2 ss.length c2) high seq))
    (hr1 : Rd w [] A1 (rows bs)) (hr2 : Rd w [] A2 (rows ss)) (hb1 : bs.length ≤ 2513169434843) (hb2 : ss.length ≤ 2513169434843) (c : Cm) (tp : Option Addr) (tg : Option Ord) (side : Int) (ht : TgR w [] tp tg) (hs : tg ≠ none → side = 1 ∨ side = 2) :
    Is Try.prog 53 [.pointer (some ⟨b, 0, none⟩), .agg ⟨c.cells⟩, .pointer tp, .int .i64 side] w (.int .i64 (rfs cap high bs ss c tg side)) := by
  have htn : tp.isNone = decide (tg = none) := by
    cases tg with
    | none => rw [show tp = none from ht]; rfl
    | some o => obtain ⟨bt, rfl, _⟩ := ht; simp
  obtain ⟨k, id, tgi, mb, sd, ty, pr, q, pk⟩ := c
  refine Does.pure (Does.of (n := 94) Try.func53 rfl rfl rfl rfl ?_)
  refine .seq ((.region (.nw (.box rfl rfl) fun b5 => (.v (.assign rfl) (.nil ?_)))))
  refine .seq ((.region (.v (.loadA (vs := ccells k id tgi mb sd ty pr q pk) rfl .whole rfl) (.pc rfl rfl (fun w s => Check_ok w k id tgi mb sd ty pr q pk) (.v (.assign rfl) (.nil ?_))))))
  have ech : chk k id sd ty pr q pk = Cm.chk ⟨k, id, tgi, mb, sd, ty, pr, q, pk⟩ := rfl
  rw [ech]
  generalize hc : (⟨k, id, tgi, mb, sd, ty, pr, q, pk⟩ : Cm) = c
  have ek : k = c.k := by rw [← hc]
  have ecells : ccells k id tgi mb sd ty pr q pk = c.cells := by rw [← hc]; rfl
  refine .seq (.block (.seq ((.region (.v (.move rfl) (.v (.eqi rfl rfl) (.v (.assign rfl) (.nil ?_))))))))
  refine .cond_dec rfl (fun h1 => ?_) (fun h1 => ?_)
  · refine .seq ((.region (.v (.move rfl) (.v (.assign rfl) (.nil ?_)))))
    exact .ret ⟨[_], ⟨rfl, trivial⟩, by rw [rfs, if_pos h1, h1]; rfl⟩
  refine .seq ((.region (.v (.fieldAddr rfl) (.v (.load (v := .int .i64 k) rfl (.one (by rw [← ecells]; rfl))) (.v (.nei rfl rfl) (.v (.move rfl) (.and 22 24 2 2 rfl rfl (fun g1 => .v (.move rfl) (.v (.eql_ptr_nil rfl rfl) (.nil ⟨rfl, rfl, rfl, rfl⟩))) (.v (.assign rfl) (.nil ?_)))))))))
  rw [htn]
  refine .cond rfl (fun h2 => ?_) (fun h2 => ?_)
  · refine .seq ((.region (.v (.assign rfl) (.nil ?_))))
    exact .ret ⟨[_], ⟨rfl, trivial⟩, by rw [rfs, if_neg h1, if_pos (by rw [← ek]; simpa using h2)]; rfl⟩
  have h2' : ¬ (c.k ≠ 1 ∧ tg = none) := by rw [← ek]; simpa using h2
  refine .seq ((.region (.v (.move rfl) (.v (.nei rfl rfl) (.v (.assign rfl) (.nil ?_))))))
  refine .cond_dec rfl (fun h3 => ?_) (fun h3 => ?_)
  · refine .seq ((.region (.v (.move rfl) (.v (.assign rfl) (.nil ?_)))))
    exact .ret ⟨[_], ⟨rfl, trivial⟩, by rw [rfs, if_neg h1, if_neg h2', if_pos h3]; rfl⟩
  refine .seq ((.region (.v (.fieldAddr rfl) (.v (.load (v := .int .i64 k) rfl (.one (by rw [← ecells]; rfl))) (.v (.eqi rfl rfl) (.v (.assign rfl) (.nil ?_)))))))
  refine .cond_dec rfl (fun h4 => ?_) (fun h4 => ?_)
  · refine .seq ((.region (.v (.assign rfl) (.nil ?_))))
    exact .ret ⟨[_], ⟨rfl, trivial⟩, by rw [rfs, if_neg h1, if_neg h2', if_neg h3, if_pos (by rw [← ek]; exact h4)]; rfl⟩
  refine .seq ((.drawK _ (fun _ h => h) (by kernel_rfl) (by kernel_rfl) ?_))
  refine .v (fun _ f => .fieldAddr rfl) (.v (fun _ f => .load (v := .int .u64 id) rfl (.one (hb := .sub f) (by rw [← ecells]; rfl))) (.v (fun _ f => .move rfl) (.v (fun _ f => .nilCheck rfl) (.v (fun _ f => .fieldAddr rfl) (.v (fun _ f => .fieldAddr rfl) (.v (fun _ f => .load (v := .int .u64 high) rfl (hb.cell (i := 4) rfl)) (.v (fun _ f => .leq rfl rfl) (.v (fun _ f => .assign rfl) (.nil ?_)))))))))
  have eid : id = c.id := by rw [← hc]
  refine .cond_dec rfl (fun h5 => ?_) (fun h5 => .skip ?_)
  · refine .seq ((.region (.v (.assign rfl) (.nil ?_))))
    exact .ret ⟨[_], ⟨rfl, trivial⟩, by rw [rfs, if_neg h1, if_neg h2', if_neg h3, if_neg (by rw [← ek]; exact h4), if_pos (by rw [← eid]; exact h5)]; rfl⟩
  have h3' : c.chk = 0 := Decidable.of_not_not h3
  have hk3 : c.k = 3 → tg ≠ none := fun e ht' => h2' ⟨by omega, ht'⟩
  refine .seq ((.region (.v (.loadA (vs := c.cells) rfl .whole (by rw [← ecells]; rfl)) (.v (.move rfl) (.v (.move rfl) ?_)))))
  refine .pc rfl rfl (fun w s => coming_ok w c tp tg side (ht.keep0 s) hk3) ?_
  have hside : (cmg c tg side).side = 1 ∨ (cmg c tg side).side = 2 := by
    have hk := chk_kinds h1
    unfold cmg
    cases tg with
    | none =>
      refine chk_side h3' ?_
      rcases hk with h | h | h
      · exact h
      · exact absurd h (by rw [← ek]; exact h4)
      · exact absurd rfl (hk3 h)
    | some o =>
      simp only
      split
      · exact hs (by simp)
      · rename_i hk'
        refine chk_side h3' ?_
        rcases hk with h | h | h
        · exact h
        · exact absurd h (by rw [← ek]; exact h4)
        · exact absurd h hk'
  generalize htk : cmg c tg side = t at hside ⊢
  obtain ⟨⟨x0, x1, x2, x3, x4, x5, x6⟩, s, kd, lf⟩ := t
  refine .nw .alloc fun b10 => (.st (.sw rfl rfl) (.nil ?_))
  refine .seq (.seq ((.drawP [0, 1, 2, 3, 4, 5, 6, 7, 8, 9, 10, 11, 12, 13, 14, 16, 17, 18, 19, 20, 21, 15, 22, 23] _ (fun _ h => h) (by kernel_rfl) (by kernel_rfl) ?_)))
  refine .v (fun _ f => .fieldAddr rfl) (.v (fun _ f => .load (v := .int .i64 k) rfl (.one (hb := .sub f) (by rw [← ecells]; rfl))) (.v (fun _ f => .eqi rfl rfl) (.v (fun _ f => .move rfl) (.and 50 58 8 5 rfl rfl (fun g2 => .v (fun _ f => .fieldAddr rfl) (.v (fun _ f => .load (v := .int .i64 kd) rfl (.one (hb := .sub f) rfl)) (.v (fun _ f => .eqi rfl rfl) (.v (fun _ f => .move rfl) (.or 54 57 3 3 rfl rfl (fun g3 => .v (fun _ f => .fieldAddr rfl) (.v (fun _ f => .load (v := .int .i64 kd) rfl (.one (hb := .sub f) rfl)) (.v (fun _ f => .eqi rfl rfl) (.nil ⟨rfl, rfl, rfl, rfl⟩)))) (.nil ⟨rfl, rfl, rfl, rfl⟩)))))) (.v (fun _ f => .move rfl) (.and 60 69 9 9 rfl rfl (fun g4 => .v (fun _ f => .move rfl) (.v (fun _ f => .move rfl) (.v (fun _ f => .nilCheck rfl) (.v (fun _ f => .fieldAddr rfl) (.v (fun _ f => .fieldAddr rfl) (.v (fun _ f => .fieldAddr rfl) (.v (fun _ f => .load (v := .int .i64 cap) rfl (hb.cell (i := 0) rfl)) (.pc rfl rfl (fun w s => Len_is w b cap meet high seq A1 A2 bs.length ss.length c1 c2 (hb.keep0 s) hb1 hb2) (.v (fun _ f => .geq rfl rfl) (.nil ⟨rfl, rfl, rfl, rfl⟩)))))))))) (.nil ?_)))))))
  refine .cond rfl (fun h6 => ?_) (fun h6 => .skip ?_) <;> simp only [Bool.and_eq_true, Bool.or_eq_true, Bool.not_eq_true', Bool.and_eq_false_iff, Bool.or_eq_false_iff, Bool.not_eq_false', decide_eq_true_eq, decide_eq_false_iff_not, Bool.false_eq_true, false_iff] at h6
  · refine .seq ((.region (.v (.assign rfl) (.nil ?_))))
    exact .ret ⟨[_], ⟨rfl, trivial⟩, by rw [rfs, if_neg h1, if_neg h2', if_neg h3, if_neg (by rw [← ek]; exact h4), if_neg (by rw [← eid]; exact h5), htk, if_pos (by rw [← ek]; exact ⟨h6.1.1, h6.1.2, h6.2⟩)]; rfl⟩
  have h6' : ¬ (c.k = 1 ∧ (kd = 1 ∨ kd = 5) ∧ cap ≤ bs.length + ss.length) := by rw [← ek]; omega
  have fin : ∀ {r : Int}, r = (if kd = 5 ∧ headReach s kd x3 (if s = 1 then ss else bs) then 99 else 0) → tup [.int .i64 r] = .int .i64 (rfs cap high bs ss c tg side) := fun e => by
    rw [rfs, if_neg h1, if_neg h2', if_neg h3, if_neg (by rw [← ek]; exact h4), if_neg (by rw [← eid]; exact h5), htk, if_neg h6', e]; rfl
  rcases hside with hside | hside
  · have hside : s = 1 := hside
    subst hside
    refine .seq ((.region (.v (.move rfl) (.v (.fieldAddr rfl) (.v (.load (v := .int .i64 1) rfl (.one rfl)) (.v (.subi rfl rfl (by omega)) (.pc rfl rfl (fun w s => side_ok w b 2) (.v (.nilCheck rfl) (.v (.load (v := .slice A2 ss.length c2) rfl (hb.cell (i := 3) rfl)) (.v (.assign rfl) (.nil ?_)))))))))))
    cases hl : ss with
    | nil =>
      subst hl
      refine .seq (.seq ((.drawK _ (fun _ h => h) (by kernel_rfl) (by kernel_rfl) ?_)))
      refine .v (fun _ f => .fieldAddr rfl) (.v (fun _ f => .load (v := .int .i64 kd) rfl (.one (hb := .sub f) rfl)) (.v (fun _ f => .eqi rfl rfl) (.v (fun _ f => .move rfl) (.and 81 84 3 3 rfl rfl (fun g5 => .v (fun _ f => .move rfl) (.v (fun _ f => .len rfl) (.v (fun _ f => .gtr rfl rfl) (.nil ⟨rfl, rfl, rfl, rfl⟩)))) (.v (fun _ f => .move rfl) (.and (b2 := false) 86 92 6 6 rfl rfl (fun g6 => absurd g6 (by simp)) (.nil ?_)))))))
      refine .cond rfl (fun h7 => absurd h7 (by simp)) (fun _ => .skip ?_)
      refine .seq ((.region (.v (.assign rfl) (.nil ?_))))
      exact .ret ⟨[_], ⟨rfl, trivial⟩, fin (by simp [headReach])⟩
    | cons x rest =>
      subst hl
      obtain ⟨b', o', rfl, -, hcx⟩ := Rd.ord hr2 (by simp)
      have hx := hcx 0 (by simp) 3 (.int .i64 x.pr) (by omega) rfl
      refine .seq (.seq ((.drawK _ (fun _ h => h) (by kernel_rfl) (by kernel_rfl) ?_)))
      refine .v (fun _ f => .fieldAddr rfl) (.v (fun _ f => .load (v := .int .i64 kd) rfl (.one (hb := .sub f) rfl)) (.v (fun _ f => .eqi rfl rfl) (.v (fun _ f => .move rfl) (.and 81 84 3 3 rfl rfl (fun g5 => .v (fun _ f => .move rfl) (.v (fun _ f => .len rfl) (.v (fun _ f => .gtr rfl rfl) (.nil ⟨rfl, rfl, rfl, rfl⟩)))) (.v (fun _ f => .move rfl) (.and 86 92 6 6 rfl rfl (fun g6 => .v (fun _ f => .loadA (vs := (⟨⟨x0, x1, x2, x3, x4, x5, x6⟩, 1, kd, lf⟩ : Tk).cells) rfl (.whole (hb := .sub f)) rfl) (.v (fun _ f => .move rfl) (.v (fun _ f => .indexAddr rfl rfl (by simp) (by simp)) (.v (fun _ f => .fieldAddr rfl) (.v (fun _ f => .load (v := .int .i64 x.pr) rfl (.old1 (by simpa using hx) (by simp [bl]))) (.pc (v := .bool (reach 1 kd x3 x.pr)) rfl rfl (fun w s => reaches_ok w x0 x1 x2 x3 x4 x5 x6 1 kd lf x.pr) (.nil ⟨rfl, rfl, rfl, rfl⟩))))))) (.nil ?_)))))))
      refine .cond rfl (fun h7 => ?_) (fun h7 => .skip ?_)
      · refine .seq ((.region (.v (.assign rfl) (.nil ?_))))
        exact .ret ⟨[_], ⟨rfl, trivial⟩, fin (by simp at h7; obtain ⟨k1, k2⟩ := h7; subst k1; simp [headReach, k2])⟩
      · refine .seq ((.region (.v (.assign rfl) (.nil ?_))))
        refine .ret ⟨[_], ⟨rfl, trivial⟩, fin ?_⟩
        rw [if_neg]
        rintro ⟨k1, k2⟩
        subst k1
        simp [headReach] at k2
        simp [k2] at h7
  · have hside : s = 2 := hside
    subst hside
    refine .seq ((.region (.v (.move rfl) (.v (.fieldAddr rfl) (.v (.load (v := .int .i64 2) rfl (.one rfl)) (.v (.subi rfl rfl (by omega)) (.pc rfl rfl (fun w s => side_ok w b 1) (.v (.nilCheck rfl) (.v (.load (v := .slice A1 bs.length c1) rfl (hb.cell (i := 2) rfl)) (.v (.assign rfl) (.nil ?_)))))))))))
    cases hl : bs with
    | nil =>
      subst hl
      refine .seq (.seq ((.drawK _ (fun _ h => h) (by kernel_rfl) (by kernel_rfl) ?_)))
      refine .v (fun _ f => .fieldAddr rfl) (.v (fun _ f => .load (v := .int .i64 kd) rfl (.one (hb := .sub f) rfl)) (.v (fun _ f => .eqi rfl rfl) (.v (fun _ f => .move rfl) (.and 81 84 3 3 rfl rfl (fun g5 => .v (fun _ f => .move rfl) (.v (fun _ f => .len rfl) (.v (fun _ f => .gtr rfl rfl) (.nil ⟨rfl, rfl, rfl, rfl⟩)))) (.v (fun _ f => .move rfl) (.and (b2 := false) 86 92 6 6 rfl rfl (fun g6 => absurd g6 (by simp)) (.nil ?_)))))))
      refine .cond rfl (fun h7 => absurd h7 (by simp)) (fun _ => .skip ?_)
      refine .seq ((.region (.v (.assign rfl) (.nil ?_))))
      exact .ret ⟨[_], ⟨rfl, trivial⟩, fin (by simp [headReach])⟩
    | cons x rest =>
      subst hl
      obtain ⟨b', o', rfl, -, hcx⟩ := Rd.ord hr1 (by simp)
      have hx := hcx 0 (by simp) 3 (.int .i64 x.pr) (by omega) rfl
      refine .seq (.seq ((.drawK _ (fun _ h => h) (by kernel_rfl) (by kernel_rfl) ?_)))
      refine .v (fun _ f => .fieldAddr rfl) (.v (fun _ f => .load (v := .int .i64 kd) rfl (.one (hb := .sub f) rfl)) (.v (fun _ f => .eqi rfl rfl) (.v (fun _ f => .move rfl) (.and 81 84 3 3 rfl rfl (fun g5 => .v (fun _ f => .move rfl) (.v (fun _ f => .len rfl) (.v (fun _ f => .gtr rfl rfl) (.nil ⟨rfl, rfl, rfl, rfl⟩)))) (.v (fun _ f => .move rfl) (.and 86 92 6 6 rfl rfl (fun g6 => .v (fun _ f => .loadA (vs := (⟨⟨x0, x1, x2, x3, x4, x5, x6⟩, 2, kd, lf⟩ : Tk).cells) rfl (.whole (hb := .sub f)) rfl) (.v (fun _ f => .move rfl) (.v (fun _ f => .indexAddr rfl rfl (by simp) (by simp)) (.v (fun _ f => .fieldAddr rfl) (.v (fun _ f => .load (v := .int .i64 x.pr) rfl (.old1 (by simpa using hx) (by simp [bl]))) (.pc (v := .bool (reach 2 kd x3 x.pr)) rfl rfl (fun w s => reaches_ok w x0 x1 x2 x3 x4 x5 x6 2 kd lf x.pr) (.nil ⟨rfl, rfl, rfl, rfl⟩))))))) (.nil ?_)))))))
      refine .cond rfl (fun h7 => ?_) (fun h7 => .skip ?_)
      · refine .seq ((.region (.v (.assign rfl) (.nil ?_))))
        exact .ret ⟨[_], ⟨rfl, trivial⟩, fin (by simp at h7; obtain ⟨k1, k2⟩ := h7; subst k1; simp [headReach, k2])⟩
      · refine .seq ((.region (.v (.assign rfl) (.nil ?_))))
        refine .ret ⟨[_], ⟨rfl, trivial⟩, fin ?_⟩
        rw [if_neg]
        rintro ⟨k1, k2⟩
        subst k1
        simp [headReach] at k2
        simp [k2] at h7
end Go.Proofs.Ytfajjkolhajldaa

/- VU: slices in place: append that has room, copy, clear, append of zeros that grows, cap, cutting with three numbers, slices.overlaps of two blocks. -/
namespace Go
namespace V
open Go.RowKit
set_option linter.unusedVariables false
set_option linter.unusedSimpArgs false

section
variable {P : Program} {n : Nat} {w0 : World} {own : List Nat} {e : Env} {hs : Hp}

theorem Val.cap_ {x : Operand} {T E len cap : Nat} {a : Option Addr} (hx : ev e x = some (.slice a len cap)) [hT : SliceT P T E] :
    Val P n w0 own e hs (.call { callee := .builtin .cap, args := #[x], argTypes := #[T] }) (.int .i64 cap) :=
  fun b w ty pos aft g d hr s => by
    have hu := hT.out
    simp [execOp, hr.eval hx, resolve, invoke, builtin, Builtin.cap_, run_underlying hu, goInt]
theorem Val.sl3 {T E m len cap : Nat} {x y z u : Operand} {A : Option Addr} {i k l : Int} {q r t : IntKind} (hx : ev e x = some (.slice A len cap)) (hy : ev e y = some (.int q i)) (hz_ : ev e z = some (.int r k)) (hu : ev e u = some (.int t l)) [hT : SliceT P T E] [hE : Sz P E m]
    (h0 : 0 ≤ i) (h1 : i ≤ k) (h2 : k ≤ l) (h3 : l ≤ cap) : Val P n w0 own e hs (.slice T x (some y) (some z) (some u)) (.slice (cutA A l.toNat i.toNat m) (k.toNat - i.toNat) (l.toNat - i.toNat)) := fun a w ty pos aft g d hr s => by
  obtain ⟨j, hj, hz⟩ := hE.out
  have h4 : 0 ≤ k := by omega
  have h5 : 0 ≤ l := by omega
  have h6 : max k 0 = k := by omega
  have h7 : max l 0 = l := by omega
  simp [execOp, hr.eval hx, hr.eval hy, hr.eval hz_, hr.eval hu, Instr.sliceAt, run_underlying hT.out, Instr.slice, Instr.sliceBounds, Instr.sliceBound, asIntOf, h0, h1, h2, h3, h4, h5, h6, h7, sizeOf, typeInfo, hj, hz, cutA]

/-- append that has room: in place -/
theorem Eff.appendIn {s x : Operand} {t u E m by_ c k b o cap : Nat} {z news l : List Value} {xv : Value} {hs' : Hp} (hs_ : ev e s = some (.slice (some ⟨b, o, none⟩) c cap)) (hx : ev e x = some xv) [ht : SliceT P t E] [hu : SliceT P u E] [hE : El P E m by_ z]
    [hb : Mem b (.cells l E) hs] [up : UpdI b (.cells (splice l (o + c * m) news) E) hs hs'] (hsrc : ∀ w, Sat w0 own hs w → Src P w m xv k news) (hn : news.length = k * m) (h1 : ones news = true) (hc : c + k ≤ cap) (hl : o + cap * m ≤ l.length) :
    Eff P n w0 own e hs (.call { callee := .builtin .append, args := #[s, x], argTypes := #[t, u] }) (fun v h => v = .slice (some ⟨b, o, none⟩) (c + k) cap ∧ h = hs') :=
  Eff.of_run fun a w ty pos aft g d hr s' => by
    obtain ⟨i, zv, hi, hm, hby, hz, hzv, hzl⟩ := hE.out
    have hck : (c + k) * m ≤ cap * m := Nat.mul_le_mul_right _ hc
    have hadd : (c + k) * m = c * m + k * m := Nat.add_mul _ _ _
    obtain ⟨w', r1, r2⟩ := s'.splice (P := P) (b := b) (T := E) (o := o + c * m) (l := l) (vs := news) up.out hb.out (by omega) h1
    refine ⟨_, hs', w', ?_, ⟨rfl, rfl⟩, r2⟩
    have h2 := (hsrc w s').2 w (fun _ => rfl)
    have hr1 : (Builtin.append_ #[t, u] ty #[.slice (some ⟨b, o, none⟩) c cap, xv]).run P w = .ok (.slice (some ⟨b, o, none⟩) (c + k) cap) w' := by
      simp only [Builtin.append_, Sem.run_bind]
      simp [run_underlying ht.out, run_underlying hu.out, sizeOf, typeInfo, hi, hm, (hsrc w s').1, h2, hc, add_none, r1]
    simp [execOp, hr.eval hs_, hr.eval hx, resolve, invoke, builtin, hr1]
/-- copy: the first k elements of a source -/
theorem Eff.copyIn {s x : Operand} {t u E m by_ k b o dl dc sl : Nat} {z news l : List Value} {xv : Value} {hs' : Hp} (hs_ : ev e s = some (.slice (some ⟨b, o, none⟩) dl dc)) (hx : ev e x = some xv) [ht : SliceT P t E] [hE : El P E m by_ z]
    [hb : Mem b (.cells l E) hs] [up : UpdI b (.cells (splice l o news) E) hs hs'] (hk : min sl dl = k) (hsl : ∀ w, Sat w0 own hs w → (Builtin.lenOf xv).run P w = .ok sl w) (hsrc : ∀ w, Sat w0 own hs w → (Builtin.firstCells m k xv).run P w = .ok ⟨news⟩ w)
    (h1 : ones news = true) (hl : o + news.length ≤ l.length) :
    Eff P n w0 own e hs (.call { callee := .builtin .copy, args := #[s, x], argTypes := #[t, u] }) (fun v h => v = .int .i64 k ∧ h = hs') :=
  Eff.of_run fun a w ty pos aft g d hr s' => by
    obtain ⟨i, zv, hi, hm, hby, hz, hzv, hzl⟩ := hE.out
    obtain ⟨w', r1, r2⟩ := s'.splice (P := P) (b := b) (T := E) (o := o) (l := l) (vs := news) up.out hb.out hl h1
    refine ⟨_, hs', w', ?_, ⟨rfl, rfl⟩, r2⟩
    have h2 := hsrc w s'
    have hk' : Nat.min sl dl = k := hk
    have hr1 : (Builtin.copy_ #[t, u] ty #[.slice (some ⟨b, o, none⟩) dl dc, xv]).run P w = .ok (.int .i64 k) w' := by
      simp only [Builtin.copy_, Sem.run_bind]
      simp [run_underlying ht.out, sizeOf, typeInfo, hi, hm, hsl w s', hk', h2, r1, goInt]
    simp [execOp, hr.eval hs_, hr.eval hx, resolve, invoke, builtin, hr1]
theorem run_lenOf_sl {w : World} {A : Option Addr} {len cap : Nat} : (Builtin.lenOf (.slice A len cap)).run P w = .ok len w := by simp [Builtin.lenOf]
/-- the first elements of a slice in a block that is held -/
theorem Sat.first {w : World} {b o m k sl c T : Nat} {l news : List Value} (s : Sat w0 own hs w) [hb : Mem b (.cells l T) hs] (hn : news.length = k * m) (h : ∀ j v, news[j]? = some v → l[o + j]? = some v) :
    (Builtin.firstCells m k (.slice (some ⟨b, o, none⟩) sl c)).run P w = .ok ⟨news⟩ w :=
  run_firstCells_some (P := P) w m k ⟨b, o, none⟩ sl c news hn (fun j v hv => by rw [add_none, s.cell hb.out]; exact h j v hv)

def zeros (z : List Value) (k : Nat) : List Value := (List.replicate k z).flatten
theorem zeros_length (z : List Value) (k : Nat) : (zeros z k).length = k * z.length := by simp [zeros]
theorem zeros_get (z : List Value) (k i : Nat) (hi : i < k * z.length) : (zeros z k)[i]? = z[i % z.length]? := by
  induction k generalizing i with
  | zero => simp at hi
  | succ k ih =>
    have hz : 0 < z.length := by
      rcases Nat.eq_zero_or_pos z.length with h | h
      · rw [h] at hi; simp at hi
      · exact h
    unfold zeros
    rw [List.replicate_succ, List.flatten_cons]
    by_cases h : i < z.length
    · rw [List.getElem?_append_left h, Nat.mod_eq_of_lt h]
    · rw [List.getElem?_append_right (by omega)]
      have h2 := ih (i - z.length) (by rw [Nat.add_mul, Nat.one_mul] at hi; omega)
      unfold zeros at h2
      rw [h2, ← Nat.mod_eq_sub_mod (by omega)]
theorem zeroCells_eq (z : List Value) (k : Nat) : (Builtin.zeroCells ⟨z⟩ k).toList = zeros z k := by
  apply List.ext_getElem?
  intro i
  have hlen : (Builtin.zeroCells ⟨z⟩ k).toList.length = k * z.length := by simp [Builtin.zeroCells]
  by_cases hi : i < k * z.length
  · have hz : 0 < z.length := by
      rcases Nat.eq_zero_or_pos z.length with h | h
      · rw [h] at hi; simp at hi
      · exact h
    rw [zeros_get z k i hi]
    have hm := Nat.mod_lt i hz
    simp [Builtin.zeroCells, hi, hm]
  · rw [List.getElem?_eq_none (by omega), List.getElem?_eq_none (by rw [zeros_length]; omega)]
theorem ones_zeros {z : List Value} (h : ones z = true) (k : Nat) : ones (zeros z k) = true := by
  simp only [ones, zeros, List.all_eq_true, List.mem_flatten, List.mem_replicate] at *
  rintro x ⟨l, ⟨_, rfl⟩, hx⟩
  exact h x hx
/-- clear of a slice -/
theorem Eff.clearIn {s : Operand} {t E m by_ b o dl dc : Nat} {z l : List Value} {hs' : Hp} (hs_ : ev e s = some (.slice (some ⟨b, o, none⟩) dl dc)) [ht : SliceT P t E] [hE : El P E m by_ z]
    [hb : Mem b (.cells l E) hs] [up : UpdI b (.cells (splice l o (zeros z dl)) E) hs hs'] (h1 : ones z = true) (hl : o + dl * m ≤ l.length) :
    Eff P n w0 own e hs (.call { callee := .builtin .clear, args := #[s], argTypes := #[t] }) (fun v h => v = .tuple #[] ∧ h = hs') :=
  Eff.of_run fun a w ty pos aft g d hr s' => by
    obtain ⟨i, zv, hi, hm, hby, hz, hzv, hzl⟩ := hE.out
    obtain ⟨w', r1, r2⟩ := s'.splice (P := P) (b := b) (T := E) (o := o) (l := l) (vs := zeros z dl) up.out hb.out (by rw [zeros_length, hzl]; exact hl) (ones_zeros h1 dl)
    have hzc : (Builtin.zeroCells zv.cells dl).toList = zeros z dl := by rw [hzv]; exact zeroCells_eq z dl
    cases dl with
    | zero =>
      have e1 : hs' = hs' := rfl
      have e2 : w' = w := by
        have : (storeCells (⟨b, o, none⟩ : Addr) (zeros z 0)).run P w = .ok () w := by simp [zeros, storeCells]
        rw [this] at r1
        simpa using r1.symm
      refine ⟨.tuple #[], hs', w, ?_, ⟨rfl, rfl⟩, e2 ▸ r2⟩
      have hr1 : (Builtin.clear_ #[t] ty #[.slice (some ⟨b, o, none⟩) 0 dc]).run P w = .ok (.tuple #[]) w := by
        simp only [Builtin.clear_, Sem.run_bind]
        simp [run_underlying ht.out]
      simp [execOp, hr.eval hs_, resolve, invoke, builtin, hr1]
    | succ dl =>
      refine ⟨.tuple #[], hs', w', ?_, ⟨rfl, rfl⟩, r2⟩
      have hr1 : (Builtin.clear_ #[t] ty #[.slice (some ⟨b, o, none⟩) (dl + 1) dc]).run P w = .ok (.tuple #[]) w' := by
        simp only [Builtin.clear_, Sem.run_bind]
        simp [run_underlying ht.out, zeroValue, typeInfo, hi, hz, hzc, r1]
      simp [execOp, hr.eval hs_, resolve, invoke, builtin, hr1]
/-- append(s, make([]E, k)...) that has no room: a new block -/
theorem Eff.appendZ {s x : Operand} {t u E m by_ c k b o cap : Nat} {q : IntKind} {z vs l : List Value} (hs_ : ev e s = some (.slice (some ⟨b, o, none⟩) c cap)) (hx : ev e x = some (.int .i64 (k : Int))) [ht : SliceT P t E] [hu : IntT P u q] [hE : El P E m by_ z]
    [hb : Mem b (.cells l E) hs] (hv : (l.drop o).take (c * m) = vs) (hcl : o + cap * m ≤ l.length) (hcc : c ≤ cap) (hg : cap < c + k) (hm0 : 0 < m)
    (hby : (c + k) * by_ ≤ 140737488355328) (h63 : c + k ≤ 4611686018427387904) :
    Eff P n w0 own e hs (.call { callee := .builtin .append, args := #[s, x], argTypes := #[t, u] }) (fun v h => ∃ b' cap' r, v = .slice (some ⟨b', 0, none⟩) (c + k) cap' ∧ h = (b', .cells (vs ++ zeros z k ++ r) E) :: hs ∧ c + k ≤ cap' ∧ (vs ++ zeros z k ++ r).length = cap' * m) :=
  Eff.of_run fun a w ty pos aft g d hr s' => by
    obtain ⟨i, zv, hi, hm, hby2, hz, hzv, hzl⟩ := hE.out
    have hck : c * m ≤ cap * m := Nat.mul_le_mul_right _ hcc
    have hvl : vs.length = c * m := by rw [← hv]; simp; omega
    have hfo := run_firstCells_some (P := P) w.drew m c ⟨b, o, none⟩ c cap vs hvl (fun j u hj => by
        have hh := s'.cell hb.out (o + j)
        rw [add_none]
        show w.cell? _ = _
        rw [hh, ← hj, ← hv, List.getElem?_take, List.getElem?_drop]
        have := (List.getElem?_eq_some_iff.1 hj).1
        rw [if_pos (by omega)])
    have hge := grownCap_ge w (c + k) cap E
    have h63' : ¬ (9223372036854775807 < ((c : Int) + (k : Int))) := by omega
    have h48' : ¬ (281474976710656 < Builtin.nextslicecap (c + k) cap * by_) := by
      have := growslice_fits (need := c + k) (old := cap) (bytes := by_) (by omega) hby
      omega
    have hkb : k * by_ ≤ (c + k) * by_ := Nat.mul_le_mul_right _ (by omega)
    have hw : IntKind.i64.wrap (k : Int) = k := by rw [IntKind.wrap_i64]; omega
    have hneg : ¬ ((k : Int) < 0) := by omega
    have h48i : ¬ (281474976710656 < (k : Int) * (by_ : Int)) := by rw [← Int.natCast_mul]; omega
    have hns : ¬ (k * m = 0) := Nat.mul_ne_zero (by omega) (by omega)
    have hk0 : k ≠ 0 := by omega
    have hm1 : m ≠ 0 := by omega
    have hr' : ¬ (c + k ≤ cap) := by omega
    refine ⟨.slice (some ⟨w.heap.size, 0, none⟩) (c + k) (grownCap w (c + k) cap E), (w.heap.size, .cells (vs ++ zeros z k ++ (Builtin.zeroCells zv.cells (grownCap w (c + k) cap E - (c + k))).toList) E) :: hs,
      w.drew.alloc (.cells (⟨vs⟩ ++ Builtin.zeroCells zv.cells k ++ Builtin.zeroCells zv.cells (grownCap w (c + k) cap E - (c + k))) E), ?_, ⟨_, _, _, rfl, rfl, hge, ?_⟩, ?_⟩
    · have hr1 : (Builtin.append_ #[t, u] ty #[.slice (some ⟨b, o, none⟩) c cap, .int .i64 k]).run P w = .ok (.slice (some ⟨w.heap.size, 0, none⟩) (c + k) (grownCap w (c + k) cap E)) (w.drew.alloc (.cells (⟨vs⟩ ++ Builtin.zeroCells zv.cells k ++ Builtin.zeroCells zv.cells (grownCap w (c + k) cap E - (c + k))) E)) := by
        simp only [Builtin.append_, Sem.run_bind]
        simp [run_underlying ht.out, run_underlying hu.out, sizeOf, typeInfo, zeroValue, hi, hm, hz, hby2, asInt, asIntOf, hw, hneg, h48i, hns, hk0, hm1, hr', h63', h48', Question.forced, hfo, newRow, grownCap]
      simp [execOp, hr.eval hs_, hr.eval hx, resolve, invoke, builtin, hr1]
    · have h2 : (grownCap w (c + k) cap E) * m = (c + k) * m + (grownCap w (c + k) cap E - (c + k)) * m := by rw [← Nat.add_mul]; congr 1; omega
      have h3 : (c + k) * m = c * m + k * m := Nat.add_mul _ _ _
      simp [hvl, zeros_length, size_zeroCells, hzv, hzl]; omega
    · have := s'.drew.new (.cells (vs ++ zeros z k ++ (Builtin.zeroCells zv.cells (grownCap w (c + k) cap E - (c + k))).toList) E)
      have e1 : (⟨vs⟩ ++ Builtin.zeroCells zv.cells k ++ Builtin.zeroCells zv.cells (grownCap w (c + k) cap E - (c + k)) : Array Value) = ⟨vs ++ zeros z k ++ (Builtin.zeroCells zv.cells (grownCap w (c + k) cap E - (c + k))).toList⟩ := by
        apply Array.ext'
        have : (Builtin.zeroCells zv.cells k).toList = zeros z k := by rw [hzv]; exact zeroCells_eq z k
        simp [this]
      rw [e1]
      exact this
/-- slices.overlaps, as the model has it -/
class OvT (P : Program) (g : Nat) (T R : outParam Nat) : Prop where
  out : ∃ fn, P.funcs[g]? = some fn ∧ (fn.name == "runtime.NumGoroutine") = false ∧ fn.body.isNone = true ∧ Extern.findNext fn = none ∧ Extern.find fn = some (Extern.SlicesOverlaps.overlaps #[T, T] #[R])
theorem Val.overlapsNo {g : Nat} {x y : Operand} {at_ : Array TypeId} {T R E m b1 o1 n1 c1 b2 o2 n2 c2 T1 T2 : Nat} {l1 l2 : List Value} (hx : ev e x = some (.slice (some ⟨b1, o1, none⟩) n1 c1)) (hy : ev e y = some (.slice (some ⟨b2, o2, none⟩) n2 c2)) [hg : OvT P g T R] [hT : SliceT P T E] [hE : Sz P E m]
    [h1 : Mem b1 (.cells l1 T1) hs] [h2 : Mem b2 (.cells l2 T2) hs] (hne : b1 ≠ b2) (hl : l2 ≠ []) :
    Val P n w0 own e hs (.call { callee := .value (.func g), args := #[x, y], argTypes := at_ }) (.bool false) := fun a w ty pos aft gd d hr s => by
  obtain ⟨fn, f1, f2, f3, f4, f5⟩ := hg.out
  obtain ⟨i, hi, hz⟩ := hE.out
  have r1 := s.row h1.out
  have r2 := s.row h2.out
  have ho := Lib.run_overlaps_apart (P := P) w T R E hT.out m (fun w => by simp [sizeOf, typeInfo, hi, hz]) ⟨b1, o1, none⟩ ⟨b2, o2, none⟩ n1 c1 n2 c2 hne T1 T2 l1.length l2.length
    (by simp [World.shape?, r1]) (by simp [World.shape?, r2]) (by simpa using hl) (by simp [World.frozen?, r1]) (by simp [World.frozen?, r1])
  have hc := run_callFunc_extern f1 f2 f3 f4 f5 #[.slice (some ⟨b1, o1, none⟩) n1 c1, .slice (some ⟨b2, o2, none⟩) n2 c2] w
  rw [ho] at hc
  have hf : a.eval (.func g) = .func (.func g) #[] #[] := rfl
  simp [execOp, resolve, hf, hr.eval hx, hr.eval hy, Deferred.ofValue, invoke, hc, Result.andThen]
end
theorem splice_keep (l zs : List Value) (o p q : Nat) (h : p ≤ q) (hl : o + q ≤ l.length) : ((splice l (o + q) zs).drop o).take p = (l.drop o).take p := by
  unfold splice
  rw [List.append_assoc, List.drop_append_of_le_length (by rw [List.length_take]; omega), List.take_append_of_le_length (by rw [List.length_drop, List.length_take]; omega), List.drop_take, List.take_take]
  congr 1; omega
theorem OwnS.some_ {E m n c : Nat} {A : Option Addr} {n' : Nat} {vs : List Value} {h : Hp} (k : OwnS E m (.slice A n' c) n vs h) (hn : 0 < n) :
    ∃ b o l, A = some ⟨b, o, none⟩ ∧ n' = n ∧ h = [(b, .cells l E)] ∧ n ≤ c ∧ o + c * m ≤ l.length ∧ (l.drop o).take (n * m) = vs := by
  rcases k.2 with ⟨_, h2, _⟩ | ⟨b, o, cap, l, h1, h2, h3, h4, h5⟩
  · omega
  · cases h1; exact ⟨b, o, l, rfl, rfl, h2, h3, h4, h5⟩
theorem splice_get (l vs : List Value) (o i : Nat) (h : o + vs.length ≤ l.length) : (splice l o vs)[i]? = if i < o then l[i]? else if i < o + vs.length then vs[i - o]? else l[i]? := by
  unfold splice
  by_cases h1 : i < o
  · rw [if_pos h1, List.append_assoc, List.getElem?_append_left (by rw [List.length_take]; omega), List.getElem?_take, if_pos h1]
  · rw [if_neg h1, List.append_assoc, List.getElem?_append_right (by rw [List.length_take]; omega), List.length_take, Nat.min_eq_left (by omega)]
    by_cases h2 : i < o + vs.length
    · rw [if_pos h2, List.getElem?_append_left (by omega)]
    · rw [if_neg h2, List.getElem?_append_right (by omega), List.getElem?_drop]
      congr 1; omega
/-- one element put in by two copies -/
theorem ins_two (l oc D : List Value) (o p q : Nat) (hq : oc.length = q) (hl : o + p + q + D.length ≤ l.length) :
    ((splice (splice l (o + (p + q)) D) (o + p) oc).drop o).take (p + q + D.length) = (l.drop o).take p ++ oc ++ D := by
  apply List.ext_getElem?
  intro i
  have h1 : (splice l (o + (p + q)) D).length = l.length := splice_length _ _ _ (by omega)
  rw [List.getElem?_take, List.getElem?_drop, splice_get _ _ _ _ (by rw [h1]; omega), splice_get _ _ _ _ (by omega)]
  have ht : ((l.drop o).take p).length = p := by rw [List.length_take, List.length_drop]; omega
  by_cases c1 : i < p
  · rw [if_pos (by omega), if_pos (by omega), if_pos (by omega), List.append_assoc, List.getElem?_append_left (by omega), List.getElem?_take, if_pos c1, List.getElem?_drop]
  · by_cases c2 : i < p + q
    · rw [if_pos (by omega), if_neg (by omega), if_pos (by omega), List.append_assoc, List.getElem?_append_right (by omega), List.getElem?_append_left (by omega), ht]
      congr 1; omega
    · by_cases c3 : i < p + q + D.length
      · rw [if_pos c3, if_neg (by omega), if_neg (by omega), if_neg (by omega), if_pos (by omega), List.getElem?_append_right (by rw [List.length_append]; omega), List.length_append, ht]
        congr 1; omega
      · rw [if_neg c3, List.getElem?_eq_none (by simp only [List.length_append]; omega)]
theorem ins_two' (l oc D : List Value) (o p q : Nat) (hq : oc.length = q) (hl : o + p + q + D.length ≤ l.length) :
    ((splice (splice l (o + p) oc) (o + (p + q)) D).drop o).take (p + q + D.length) = (l.drop o).take p ++ oc ++ D := by
  apply List.ext_getElem?
  intro i
  have h1 : (splice l (o + p) oc).length = l.length := splice_length _ _ _ (by omega)
  rw [List.getElem?_take, List.getElem?_drop, splice_get _ _ _ _ (by rw [h1]; omega), splice_get _ _ _ _ (by omega)]
  have ht : ((l.drop o).take p).length = p := by rw [List.length_take, List.length_drop]; omega
  by_cases c1 : i < p
  · rw [if_pos (by omega), if_pos (by omega), if_pos (by omega), List.append_assoc, List.getElem?_append_left (by omega), List.getElem?_take, if_pos c1, List.getElem?_drop]
  · by_cases c2 : i < p + q
    · rw [if_pos (by omega), if_pos (by omega), if_neg (by omega), if_pos (by omega), List.append_assoc, List.getElem?_append_right (by omega), List.getElem?_append_left (by omega), ht]
      congr 1; omega
    · by_cases c3 : i < p + q + D.length
      · rw [if_pos c3, if_neg (by omega), if_pos (by omega), List.getElem?_append_right (by rw [List.length_append]; omega), List.length_append, ht]
        congr 1; omega
      · rw [if_neg c3, List.getElem?_eq_none (by simp only [List.length_append]; omega)]
/-- the blocks are apart -/
theorem JC.nd {P : Program} {n : Nat} {w0 : World} {own : List Nat} {e : Env} {hs : Hp} {c : Code} {Q : Post} (h : (bl hs).Nodup → JC P n w0 own c e hs Q) : JC P n w0 own c e hs Q := fun a w r s => h s.nd a w r s
end V
end Go

/- slices.Delete of one, slices.Insert of one, over orders. -/
namespace Go.Proofs.Ytfajjkolhajldaa
open Go.V
set_option linter.unusedVariables false
set_option linter.unusedSimpArgs false

set_option maxRecDepth 10000 in
theorem delete_ok (w : World) (A : Option Addr) (n c i : Nat) (vs : List Value) (h : Hp) (k : OwnS 125 7 (.slice A n c) n vs h) (hi : i < n) (hb : n ≤ 2513169434843) (h1 : ones vs = true) :
    Does Try.prog 55 [.slice A n c, .int .i64 i, .int .i64 (i + 1)] h w (fun v hs => OwnS 125 7 v (n - 1) (vs.take (i * 7) ++ vs.drop ((i + 1) * 7)) hs) := by
  obtain ⟨b, o, l, rfl, -, rfl, hc, hl, hv⟩ := k.some_ (by omega)
  have hvl := k.1
  refine Does.of (n := 33) Try.func55 rfl rfl rfl rfl ?_
  refine .seq ((.region (.v (.assign rfl) (.nil ?_))))
  refine .seq ((.region (.v (.move rfl) (.v (.move rfl) (.v (.move rfl) (.v (.move rfl) (.v (.len rfl) (.v (.sl3 rfl rfl rfl rfl (by omega) (by omega) (by omega) (by omega)) (.nil ?_)))))))))
  refine .seq (.seq ((.region (.v (.move rfl) (.v (.move rfl) (.v (.eqi rfl rfl) (.nil ?_)))))))
  refine .cond_dec rfl (fun h1 => by omega) (fun _ => .skip ?_)
  refine .seq ((.region (.v (.move rfl) (.v (.len rfl) (.v (.assign rfl) (.nil ?_))))))
  refine .seq (.drawK [] (List.nil_subset _) (by kernel_rfl) (by kernel_rfl) ?_)
  refine .v (fun _ f => .move rfl) (.v (fun _ f => .move rfl) (.v (fun _ f => .slHi rfl rfl (by omega) (by omega)) (.v (fun _ f => .move rfl) (.v (fun _ f => .move rfl) (.v (fun _ f => .slLo rfl rfl (by omega) (by omega)) ?_)))))
  have e1 : ((i : Int)).toNat = i := by omega
  have e2 : ((i : Int) + 1).toNat = i + 1 := by omega
  have hnews : (vs.drop ((i + 1) * 7)).length = (n - (i + 1)) * 7 := by rw [List.length_drop, hvl, Nat.sub_mul]
  have hones : ones (vs.drop ((i + 1) * 7)) = true := by
    simp only [ones, List.all_eq_true] at h1 ⊢
    exact fun x hx => h1 x (List.mem_of_mem_drop hx)
  have kc := k.cut (i := i + 1) (by omega) (by omega)
  refine .ef (.appendIn (c := i) (k := n - (i + 1)) (news := vs.drop ((i + 1) * 7)) (b := b) (o := o) (cap := c) (l := l) rfl rfl
    (fun w s => by simp only [e1, e2]; exact (OwnS.rd kc s (fun p hp => hp) (by simp) (no := [])).src hnews (by omega)) hnews hones (by omega) (by omega)) (fun _ _ ⟨_, h2⟩ _ => List.nil_subset _) ?_
  rintro _ _ ⟨rfl, rfl⟩
  refine .v (fun _ f => .assign rfl) (.nil ?_)
  have e3 : i + (n - (i + 1)) = n - 1 := by omega
  rw [e3]
  refine .seq ((.region (.v (.move rfl) (.v (.move rfl) (.v (.len rfl) (.v (.move rfl) (.v (.slLoHi rfl rfl rfl (by omega) (by omega) (by omega)) ?_)))))))
  have e4 : (((n - 1 : Nat) : Int)).toNat = n - 1 := by omega
  have e5 : ((n : Int)).toNat = n := by omega
  simp only [e4, e5]
  rw [cutA_some (by omega)]
  have hlen2 : (V.splice l (o + i * 7) (vs.drop ((i + 1) * 7))).length = l.length := splice_length _ _ _ (by rw [hnews]; omega)
  refine .ef0 (.clearIn (z := [.int .u64 0, .int .u32 0, .int .i64 0, .int .i64 0, .int .u64 0, .int .u64 0, .int .u64 0]) rfl rfl (by rw [hlen2]; omega)) ?_
  rintro _ _ ⟨rfl, rfl⟩
  refine .nil ?_
  refine .seq ((.region (.v (.move rfl) (.v (.assign rfl) (.nil ?_)))))
  refine .ret ⟨[_], ⟨rfl, trivial⟩, ?_, .inr ⟨b, o, c, _, rfl, rfl, by omega, ?_, ?_⟩⟩
  · rw [List.length_append, List.length_take, hnews, hvl]
    rw [Nat.min_eq_left (Nat.mul_le_mul_right _ (by omega)), ← Nat.add_mul]
    congr 1
  · rw [splice_length _ _ _ (by rw [zeros_length, hlen2]; simp; omega), hlen2]; exact hl
  · rw [splice_keep _ _ o _ _ (Nat.le_refl _) (by rw [hlen2]; omega)]
    have := splice_app l (vs.take (i * 7)) (vs.drop ((i + 1) * 7)) o i 7 (n - (i + 1)) c (by rw [List.length_take, hvl]; omega) hnews (by omega) hl (by rw [← hv, List.take_take]; congr 1; omega)
    rw [e3] at this
    exact this

instance : OvT Try.prog 116 113 4 := ⟨_, Try.func116, by kernel_rfl, by kernel_rfl, by kernel_rfl, by kernel_rfl⟩
theorem ones_take {l : List Value} (h : ones l = true) (k : Nat) : ones (l.take k) = true := by
  simp only [ones, List.all_eq_true] at h ⊢
  exact fun x hx => h x (List.mem_of_mem_take hx)
theorem ones_drop {l : List Value} (h : ones l = true) (k : Nat) : ones (l.drop k) = true := by
  simp only [ones, List.all_eq_true] at h ⊢
  exact fun x hx => h x (List.mem_of_mem_drop hx)
set_option maxRecDepth 10000 in
theorem insert_ok (w : World) (A : Option Addr) (n c i vb : Nat) (vs oc : List Value) (h : Hp) (k : OwnS 125 7 (.slice A n c) n vs h) (hi : i ≤ n) (hb : n + 1 ≤ 2513169434843) (h1 : ones vs = true) (h2 : ones oc = true) (ho : oc.length = 7) :
    Does Try.prog 94 [.slice A n c, .int .i64 i, .slice (some ⟨vb, 0, none⟩) 1 1] (h ++ [(vb, .cells oc 125)]) w
      (fun v hs => OwnS 125 7 v (n + 1) (vs.take (i * 7) ++ oc ++ vs.drop (i * 7)) hs) := by
  have hvl := k.1
  refine Does.less (Does.of (n := 95) Try.func94 rfl rfl rfl rfl ?_)
  refine .seq ((.region (.v (.assign rfl) (.nil ?_))))
  refine .seq ((.region (.v (.move rfl) (.v (.move rfl) (.v (.slLo rfl rfl (by omega) (by omega)) (.nil ?_))))))
  refine .seq ((.region (.v (.move rfl) (.v (.len rfl) (.v (.assign rfl) (.nil ?_))))))
  refine .seq (.seq ((.region (.v (.move rfl) (.v (.eqi rfl rfl) (.nil ?_))))))
  refine .cond_dec rfl (fun h1 => by omega) (fun _ => .skip ?_)
  refine .seq ((.region (.v (.move rfl) (.v (.len rfl) (.v (.assign rfl) (.nil ?_))))))
  refine .seq (.seq ((.region (.v (.move rfl) (.v (.move rfl) (.v (.eqi rfl rfl) (.nil ?_)))))))
  refine .cond_dec rfl (fun g1 => ?_) (fun g1 => .skip ?_)
  · have hin : i = n := by omega
    subst hin
    refine .seq ((.region (.v (.move rfl) (.v (.move rfl) ?_))))
    refine .ef (.append (c := i) (k := 1) (vs := vs) (news := oc) (h := h) (fr := [(vb, .cells oc 125)]) rfl rfl k (by exact List.Perm.refl _) (fun w s => Src.cells (by omega) (fun j v hv => by rw [add_none, s.cell (b := vb) (T := 125) (l := oc) (by simp)]; simpa using hv)) (by omega) h2 (by omega) (by omega)) ?_
    rintro v _ ⟨h', k', rfl⟩
    refine .v (.assign rfl) (.nil ?_)
    refine .ret ⟨[_], ⟨rfl, trivial⟩, h', fun _ s => s.sub (List.sublist_append_left _ _), ?_⟩
    rw [List.take_of_length_le (by omega), List.drop_of_length_le (by omega), List.append_nil]
    exact k'
  · obtain ⟨b, o, l, rfl, -, rfl, hc, hl, hv⟩ := k.some_ (by omega)
    have e1 : ((i : Int)).toNat = i := by omega
    have e2 : ((i : Int) + 1).toNat = i + 1 := by omega
    have hD : (vs.drop (i * 7)).length = (n - i) * 7 := by rw [List.length_drop, hvl, Nat.sub_mul]
    have hT : (vs.take (i * 7)).length = i * 7 := by rw [List.length_take, hvl]; omega
    have hTl : (l.drop o).take (i * 7) = vs.take (i * 7) := by rw [← hv, List.take_take]; congr 1; omega
    have hDg : ∀ (j : Nat) (v : Value), (vs.drop (i * 7))[j]? = some v → l[o + i * 7 + j]? = some v := fun j v hj => by
      rw [← hv, List.getElem?_drop, List.getElem?_take] at hj
      split at hj
      · rw [List.getElem?_drop] at hj; rw [← hj]; congr 1; omega
      · cases hj
    refine .seq (.seq ((.region (.v (.move rfl) (.v (.move rfl) (.v (.addi rfl rfl (by omega)) (.v (.move rfl) (.v (.cap_ rfl) (.v (.gtr rfl rfl) (.nil ?_))))))))))
    refine .cond_dec rfl (fun g2 => ?_) (fun g2 => .skip ?_)
    · refine .seq ((.region (.v (.move rfl) (.v (.move rfl) (.v (.slHi rfl rfl (by omega) (by omega)) (.v (.move rfl) (.v (.move rfl) (.v (.addi rfl rfl (by omega)) (.v (.move rfl) (.v (.subi rfl rfl (by omega)) ?_))))))))))
      have e3 : ((n : Int) + (1 : Nat) - (i : Int)) = ((n + 1 - i : Nat) : Int) := by omega
      rw [e3, e1]
      refine .ef (.appendZ (b := b) (o := o) (c := i) (cap := c) (k := n + 1 - i) (l := l) (vs := vs.take (i * 7)) rfl rfl hTl hl (by omega) (by omega) (by omega) (by omega) (by omega)) ?_
      rintro _ _ ⟨nb, cap', r, rfl, rfl, hc', hr'⟩
      refine .v (.assign rfl) (.nil ?_)
      have e4 : i + (n + 1 - i) = n + 1 := by omega
      rw [e4] at hc' ⊢
      simp only [List.length_append, hT, zeros_length] at hr'
      refine .seq ((.region (.v (.move rfl) (.v (.move rfl) (.v (.slLo rfl rfl (by omega) (by omega)) (.v (.move rfl) ?_))))))
      rw [cutA_some (by omega)]
      have e6 : ((i : Int) + ((1 : Nat) : Int)).toNat = i + 1 := by omega
      have e7 : (i + 1) * 7 = i * 7 + 7 := by omega
      have hlen : (List.take (i * 7) vs ++ zeros [.int .u64 0, .int .u32 0, .int .i64 0, .int .i64 0, .int .u64 0, .int .u64 0, .int .u64 0] (n + 1 - i) ++ r).length = cap' * 7 := by
        simp only [List.length_append, hT, zeros_length]; exact hr'
      refine .ef (.copyIn (b := nb) (o := 0 + i * 7) (dl := n + 1 - i) (dc := cap' - i) (sl := 1) (k := 1) (news := oc) rfl rfl (by omega) (fun w s => run_lenOf_sl) (fun w s => s.first (T := 125) (l := oc) (by omega) (fun j v hv => by simpa using hv)) h2 (by rw [hlen]; omega)) ?_
      rintro _ _ ⟨rfl, rfl⟩
      refine .nil ?_
      refine .seq (.drawK [] (List.nil_subset _) (by kernel_rfl) (by kernel_rfl) ?_)
      refine .v (fun _ f => .move rfl) (.v (fun _ f => .move rfl) (.v (fun _ f => .move rfl) (.v (fun _ f => .addi rfl rfl (by omega)) (.v (fun _ f => .slLo rfl rfl (by omega) (by omega)) (.v (fun _ f => .move rfl) (.v (fun _ f => .move rfl) (.v (fun _ f => .slLo rfl rfl (by omega) (by omega)) ?_)))))))
      rw [e6, e1, cutA_some (by omega), cutA_some (by omega)]
      refine .ef (.copyIn (b := nb) (o := 0 + (i + 1) * 7) (dl := n + 1 - (i + 1)) (dc := cap' - (i + 1)) (sl := n - i) (k := n - i) (news := vs.drop (i * 7)) rfl rfl (by omega) (fun w s => run_lenOf_sl) (fun w s => s.first (T := 125) (l := l) hD hDg) (ones_drop h1 _)
        (by rw [splice_length _ _ _ (by rw [hlen]; omega), hlen, hD]; omega)) (fun _ _ _ _ => List.nil_subset _) ?_
      rintro _ _ ⟨rfl, rfl⟩
      refine .nil ?_
      refine .seq ((.region (.v (.move rfl) (.v (.assign rfl) (.nil ?_)))))
      refine .ret ⟨[_], ⟨rfl, trivial⟩, [(nb, _)], fun _ s => s.sub (.cons_cons _ (List.nil_sublist _)), ?_, .inr ⟨nb, 0, cap', _, rfl, rfl, hc', ?_, ?_⟩⟩
      · simp only [List.length_append, hT, ho, hD]; omega
      · rw [splice_length _ _ _ (by rw [splice_length _ _ _ (by rw [hlen]; omega), hlen, hD]; omega), splice_length _ _ _ (by rw [hlen]; omega), hlen]; omega
      · have := ins_two' (List.take (i * 7) vs ++ zeros [.int .u64 0, .int .u32 0, .int .i64 0, .int .i64 0, .int .u64 0, .int .u64 0, .int .u64 0] (n + 1 - i) ++ r) oc (vs.drop (i * 7)) 0 (i * 7) 7 ho (by rw [hlen, hD]; omega)
        rw [hD] at this
        rw [e7, show (n + 1) * 7 = i * 7 + 7 + (n - i) * 7 from by omega, this]
        congr 2
        rw [List.drop_zero, List.append_assoc, List.take_append_of_le_length (by omega), List.take_of_length_le (by omega)]
    · refine .nd fun hnd => ?_
      have hne : vb ≠ b := by
        simp [bl] at hnd
        exact fun e => hnd e.symm
      refine .seq ((.region (.v (.move rfl) (.v (.move rfl) (.v (.move rfl) (.v (.addi rfl rfl (by omega)) (.v (.slHi rfl rfl (by omega) (by omega)) (.v (.assign rfl) (.nil ?_)))))))))
      have e5 : ((n : Int) + ((1 : Nat) : Int)).toNat = n + 1 := by omega
      have e6 : ((i : Int) + ((1 : Nat) : Int)).toNat = i + 1 := by omega
      have e7 : (i + 1) * 7 = i * 7 + 7 := by omega
      rw [e5]
      refine .seq (.seq ((.region (.v (.move rfl) (.v (.move rfl) (.v (.move rfl) (.v (.move rfl) (.v (.addi rfl rfl (by omega)) (.v (.slLo rfl rfl (by omega) (by omega)) ?_)))))))))
      rw [e6, cutA_some (by omega)]
      refine .v (.overlapsNo rfl rfl (b1 := vb) (b2 := b) (l1 := oc) (l2 := l) (T1 := 125) (T2 := 125) hne (by intro e; subst e; simp at hl; omega)) (.v (.not rfl) (.nil ?_))
      refine .cond_true rfl ?_
      refine .seq (.drawK [] (List.nil_subset _) (by kernel_rfl) (by kernel_rfl) ?_)
      refine .v (fun _ f => .move rfl) (.v (fun _ f => .move rfl) (.v (fun _ f => .move rfl) (.v (fun _ f => .addi rfl rfl (by omega)) (.v (fun _ f => .slLo rfl rfl (by omega) (by omega)) (.v (fun _ f => .move rfl) (.v (fun _ f => .move rfl) (.v (fun _ f => .slLo rfl rfl (by omega) (by omega)) ?_)))))))
      rw [e6, e1, cutA_some (by omega), cutA_some (by omega)]
      refine .ef (.copyIn (b := b) (o := o + (i + 1) * 7) (dl := n + 1 - (i + 1)) (dc := c - (i + 1)) (sl := n + 1 - i) (k := n - i) (news := vs.drop (i * 7)) (l := l) rfl rfl (by omega) (fun w s => run_lenOf_sl) (fun w s => s.first (T := 125) (l := l) hD hDg) (ones_drop h1 _)
        (by rw [hD]; omega)) (fun _ _ _ _ => List.nil_subset _) ?_
      rintro _ _ ⟨rfl, rfl⟩
      refine .nil ?_
      have hlen : (V.splice l (o + (i + 1) * 7) (vs.drop (i * 7))).length = l.length := splice_length _ _ _ (by rw [hD]; omega)
      refine .seq ((.region (.v (.move rfl) (.v (.move rfl) (.v (.slLo rfl rfl (by omega) (by omega)) (.v (.move rfl) ?_))))))
      rw [e1, cutA_some (by omega)]
      refine .ef (.copyIn (b := b) (o := o + i * 7) (dl := n + 1 - i) (dc := c - i) (sl := 1) (k := 1) (news := oc) rfl rfl (by omega) (fun w s => run_lenOf_sl) (fun w s => s.first (T := 125) (l := oc) (by omega) (fun j v hv => by simpa using hv)) h2 (by rw [hlen]; omega)) ?_
      rintro _ _ ⟨rfl, rfl⟩
      refine .nil ?_
      refine .seq ((.region (.v (.move rfl) (.v (.assign rfl) (.nil ?_)))))
      refine .ret ⟨[_], ⟨rfl, trivial⟩, [(b, _)], fun _ s => s.sub (.cons_cons _ (List.nil_sublist _)), ?_, .inr ⟨b, o, c, _, rfl, rfl, by omega, ?_, ?_⟩⟩
      · simp only [List.length_append, hT, ho, hD]; omega
      · rw [splice_length _ _ _ (by rw [hlen]; omega), hlen]; exact hl
      · have := ins_two l oc (vs.drop (i * 7)) o (i * 7) 7 ho (by rw [hD]; omega)
        rw [hD] at this
        rw [e7, show (n + 1) * 7 = i * 7 + 7 + (n - i) * 7 from by omega, this, hTl]
end Go.Proofs.Ytfajjkolhajldaa

/- VW: regions that draw their order and store: in an order of our choice; what is held is held up to the first store. -/
namespace Go
namespace V
open Go.RowKit
set_option linter.unusedVariables false
set_option linter.unusedSimpArgs false

instance (priority := high) SetL.head0 {u v : Value} {l : List Value} : SetL (u :: l) (0 + 0) v (v :: l) := ⟨by simp, rfl⟩
instance (priority := high) SetL.head00 {u v : Value} {l : List Value} : SetL (u :: l) (0 + 0 + 0) v (v :: l) := ⟨by simp, rfl⟩

def ordZ (ops : Array Oper) (z : Nat) : List Oper → List Nat → Array Bool → Bool
  | [], [], _ => true
  | o :: l, i :: is, listed => (onlyB ops listed i || (!isEff o && firstZ ops z listed i)) && (o.dst.isSome || Nat.beq i z || listed.getD z true) && ordZ ops z l is (listed.setIfInBounds i true)
  | _, _, _ => false
theorem marks_size : ∀ (is : List Nat) (listed : Array Bool), (marks_ is listed).size = listed.size
  | [], _ => rfl
  | i :: is, listed => by simp [marks_, marks_size is]

/-- the operations in their order; 'late': the first store has been -/
def JQ (P : Program) (n : Nat) (w0 : World) (own : List Nat) (ops : Array Oper) (F : Hp) (z : Nat) (late : Bool) (l : List Oper) (e : Env) (hs : Hp) (K : Bool → Env → Hp → Prop) : Prop :=
  ∀ (m : Nat) (is : List Nat) (listed : Array Bool) (Z : Env → Hp → Prop), Nums ops l is → ordZ ops z l is listed = true → listed.size = ops.size → listed.getD z true = late → (late = false → F ⊆ hs) →
    (∀ late' e' hs', (marks_ is listed).getD z true = late' → (late' = false → F ⊆ hs') → K late' e' hs' → JZ P n w0 own ops F z m (marks_ is listed) e' hs' Z) → JZ P n w0 own ops F z (l.length + m) listed e hs Z

section
variable {P : Program} {n : Nat} {w0 : World} {own : List Nat} {e : Env} {hs F : Hp} {ops : Array Oper} {rest l : List Oper} {K : Bool → Env → Hp → Prop} {z : Nat} {late : Bool} {m : Nat} {listed : Array Bool} {Z : Env → Hp → Prop}
variable {d : Nat} {ty : TypeId} {pos : String} {aft : Array Edge} {g : Option (Nat × Bool)}

theorem JC.drawQ {id : Nat} {Q : Post} {l : List Oper} (z : Nat) (is : List Nat) (F : Hp) (hF : F ⊆ hs) (hm : P.follows .mixedOrders = true)
    (hB : (ordZ l.toArray z (pickL l is) is (Array.replicate l.length false) && doneB l.toArray (marks_ is (Array.replicate l.length false)) && Nat.beq (pickL l is).length l.length && Nat.beq is.length l.length && Nat.blt z l.length) = true)
    (h : JQ P n w0 own l.toArray F z false (pickL l is) e hs (fun _ e' hs' => Q .normal e' hs')) : JC P n w0 own (.region id l.toArray true) e hs Q := by
  rw [Bool.and_eq_true, Bool.and_eq_true, Bool.and_eq_true, Bool.and_eq_true] at hB
  obtain ⟨⟨⟨⟨h1, h2⟩, h3⟩, h4⟩, h5⟩ := hB
  have h3 := Nat.eq_of_beq_eq_true h3
  have h4 := Nat.eq_of_beq_eq_true h4
  have h5 : z < l.length := Nat.le_of_ble_eq_true h5
  have key : ∀ (is : List Nat), (pickL l is).length = is.length → Nums l.toArray (pickL l is) is := by
    intro is
    induction is with
    | nil => intro _; trivial
    | cons i is ih =>
      intro hl
      unfold pickL at hl ⊢
      cases ho : l[i]? with
      | none => rw [ho] at hl; simp at hl
      | some o =>
        rw [ho] at hl
        simp only at hl ⊢
        exact ⟨by simpa using ho, ih (by simpa using hl)⟩
  refine JC.drawZ z F hF hm ?_
  have := h 0 is (Array.replicate l.length false) (fun e hs => Q .normal e hs) (key _ (by omega)) h1 (by simp) (by simp [h5]) (fun _ => hF) (fun _ e' hs' _ _ ke => JZ.done h2 ke)
  rw [h3] at this
  simpa using this
theorem JQ.nil (h : K late e hs) : JQ P n w0 own ops F z late [] e hs K := fun m is listed Z hn _ hsz hl hF hz => by
  cases is with
  | nil => rw [List.length_nil, Nat.zero_add]; exact hz late e hs hl hF h
  | cons i is => exact hn.elim
theorem JQ.mono {K' : Bool → Env → Hp → Prop} (h : JQ P n w0 own ops F z late l e hs K) (kk : ∀ b e hs, K b e hs → K' b e hs) : JQ P n w0 own ops F z late l e hs K' :=
  fun m k listed Z h1 h2 h3 h4 h5 hz => h m k listed Z h1 h2 h3 h4 h5 fun b e' hs' f1 f ke => hz b e' hs' f1 f (kk b e' hs' ke)
theorem JQ.sub {e2 : Env} (hs' : Sub e2 e) (h : JQ P n w0 own ops F z late l e2 hs K) : JQ P n w0 own ops F z late l e hs K :=
  fun m k listed Z h1 h2 h3 h4 h5 hz a w hr s hF => h m k listed Z h1 h2 h3 h4 h5 hz a w (hr.sub hs') s hF
theorem JQ.splitB {t : Nat} {b : Bool} (ht : get e t = some (.bool b)) (h1 : b = true → JQ P n w0 own ops F z late l ((t, .bool true) :: e) hs K)
    (h0 : b = false → JQ P n w0 own ops F z late l ((t, .bool false) :: e) hs K) : JQ P n w0 own ops F z late l e hs K := by
  cases b
  · exact JQ.sub (sub_same' ht) (h0 rfl)
  · exact JQ.sub (sub_same' ht) (h1 rfl)
theorem set_lt {k : Nat} {late : Bool} (hl : listed.getD z true = late) (hz : late = true ∨ k ≠ z) : (listed.setIfInBounds k true).getD z true = late := by
  rcases hz with rfl | hz
  · rcases Decidable.em (k = z) with rfl | hne
    · rcases Nat.lt_or_ge k listed.size with h' | h'
      · simp [h']
      · simp [h']
    · rw [getD_set_ne true hne]; exact hl
  · rw [getD_set_ne true hz]; exact hl
/-- a value, ahead of the first store -/
theorem JQ.v {op : Op} {v : Value} (h : ∀ hs', F ⊆ hs' → Val P n w0 own e hs' op v) (kk : JQ P n w0 own ops F z false rest ((d, v) :: e) hs K) (hdn : Nat.blt d n = true := by rfl) (hg : wantB ops e g = some true := by rfl)
    (hzo : ((ops[z]?).map (·.dst.isNone)) = some true := by rfl) :
    JQ P n w0 own ops F z false (⟨some d, op, ty, pos, aft, g⟩ :: rest) e hs K := by
  intro m is listed Z h1 h2 h3 h4 h5 hz
  cases is with
  | nil => exact h1.elim
  | cons k is =>
  obtain ⟨h0, h1⟩ := h1
  unfold ordZ at h2
  rw [Bool.and_eq_true, Bool.and_eq_true] at h2
  obtain ⟨⟨h2a, _⟩, h2b⟩ := h2
  rw [Bool.or_eq_true, Bool.and_eq_true] at h2a
  have h2 := And.intro h2a h2b
  have hkz : k ≠ z := by rintro rfl; rw [h0] at hzo; simp at hzo
  have tail : JZ P n w0 own ops F z (rest.length + m) (listed.setIfInBounds k true) ((d, v) :: e) hs Z := kk m is _ Z h1 h2.2 (by simpa using h3) (set_lt h4 (.inr hkz)) h5 hz
  rw [show (⟨some d, op, ty, pos, aft, g⟩ :: rest : List Oper).length + m = (rest.length + m) + 1 from by simp; omega]
  rcases h2.1 with ho | ⟨_, hf⟩
  · exact JZ.v1 k h0 ho (h hs (h5 rfl)) tail rfl hdn hg
  · exact JZ.v k h0 hf h tail hdn hg
/-- a value behind it -/
theorem JQ.w {op : Op} {v : Value} (h : Val P n w0 own e hs op v) (kk : JQ P n w0 own ops F z true rest ((d, v) :: e) hs K) (hdn : Nat.blt d n = true := by rfl) (hg : wantB ops e g = some true := by rfl) :
    JQ P n w0 own ops F z true (⟨some d, op, ty, pos, aft, g⟩ :: rest) e hs K := by
  intro m is listed Z h1 h2 h3 h4 h5 hz
  cases is with
  | nil => exact h1.elim
  | cons k is =>
  obtain ⟨h0, h1⟩ := h1
  unfold ordZ at h2
  rw [Bool.and_eq_true, Bool.and_eq_true] at h2
  obtain ⟨⟨h2a, _⟩, h2b⟩ := h2
  rw [Bool.or_eq_true, Bool.and_eq_true] at h2a
  have h2 := And.intro h2a h2b
  have tail : JZ P n w0 own ops F z (rest.length + m) (listed.setIfInBounds k true) ((d, v) :: e) hs Z := kk m is _ Z h1 h2.2 (by simpa using h3) (set_lt h4 (.inl rfl)) (fun h => by cases h) hz
  rw [show (⟨some d, op, ty, pos, aft, g⟩ :: rest : List Oper).length + m = (rest.length + m) + 1 from by simp; omega]
  rcases h2.1 with ho | ⟨_, hf⟩
  · exact JZ.v1 k h0 ho h tail rfl hdn hg
  · unfold firstZ at hf
    rw [h4] at hf
    simp at hf
/-- what works on memory, and leaves a value -/
theorem JQ.ef {op : Op} {R : Value → Hp → Prop} (h : Eff P n w0 own e hs op R) (hF : ∀ v hs', R v hs' → F ⊆ hs → F ⊆ hs') (kk : ∀ v hs', R v hs' → JQ P n w0 own ops F z late rest ((d, v) :: e) hs' K)
    (hE : isEff ⟨some d, op, ty, pos, aft, g⟩ = true := by rfl) (hdn : Nat.blt d n = true := by rfl) (hg : wantB ops e g = some true := by rfl) (hzo : ((ops[z]?).map (·.dst.isNone)) = some true := by rfl) : JQ P n w0 own ops F z late (⟨some d, op, ty, pos, aft, g⟩ :: rest) e hs K := by
  intro m is listed Z h1 h2 h3 h4 h5 hz
  cases is with
  | nil => exact h1.elim
  | cons k is =>
  obtain ⟨h0, h1⟩ := h1
  unfold ordZ at h2
  rw [Bool.and_eq_true, Bool.and_eq_true] at h2
  obtain ⟨⟨h2a, _⟩, h2b⟩ := h2
  rw [Bool.or_eq_true, hE] at h2a
  have h2 := And.intro h2a h2b
  have hkz : k ≠ z := by rintro rfl; rw [h0] at hzo; simp at hzo
  have ho : onlyB ops listed k = true := by
    rcases h2.1 with h | h
    · exact h
    · simp at h
  rw [show (⟨some d, op, ty, pos, aft, g⟩ :: rest : List Oper).length + m = (rest.length + m) + 1 from by simp; omega]
  exact JZ.ef k h0 ho h (fun v hs' r => kk v hs' r m is _ Z h1 h2.2 (by simpa using h3) (set_lt h4 (.inr hkz)) (fun e => hF v hs' r (h5 e)) hz) hF rfl hdn hg
/-- the first store -/
theorem JQ.st {op : Op} {hs' : Hp} (h : Eff P n w0 own e hs op (fun v h => v = undef ∧ h = hs')) (kk : JQ P n w0 own ops F z true rest e hs' K)
    (hE : isEff ⟨none, op, ty, pos, aft, g⟩ = true := by rfl) (hg : wantB ops e g = some true := by rfl) : JQ P n w0 own ops F z false (⟨none, op, ty, pos, aft, g⟩ :: rest) e hs K := by
  intro m is listed Z h1 h2 h3 h4 h5 hz
  cases is with
  | nil => exact h1.elim
  | cons k is =>
  obtain ⟨h0, h1⟩ := h1
  unfold ordZ at h2
  rw [Bool.and_eq_true, Bool.and_eq_true] at h2
  obtain ⟨⟨h2a, h2c⟩, h2b⟩ := h2
  rw [Bool.or_eq_true, hE] at h2a
  have h2 := And.intro h2a h2b
  obtain rfl : k = z := by
    rw [h4] at h2c
    exact Nat.eq_of_beq_eq_true (by simpa using h2c)
  have ho : onlyB ops listed k = true := by
    rcases h2.1 with h | h
    · exact h
    · simp at h
  have hk : k < listed.size := by rw [h3]; exact (Array.getElem?_eq_some_iff.1 h0).1
  rw [show (⟨none, op, ty, pos, aft, g⟩ :: rest : List Oper).length + m = (rest.length + m) + 1 from by simp; omega]
  refine JZ.st h0 ho (Nat.ble_eq_true_of_le hk) h (kk m is _ Z h1 h2.2 (by simpa using h3) (by simp [hk]) (fun h => by cases h) hz) hg
/-- a store behind it -/
theorem JQ.st2 {op : Op} {hs' : Hp} (h : Eff P n w0 own e hs op (fun v h => v = undef ∧ h = hs')) (kk : JQ P n w0 own ops F z true rest e hs' K)
    (hE : isEff ⟨none, op, ty, pos, aft, g⟩ = true := by rfl) (hg : wantB ops e g = some true := by rfl) : JQ P n w0 own ops F z true (⟨none, op, ty, pos, aft, g⟩ :: rest) e hs K := by
  intro m is listed Z h1 h2 h3 h4 h5 hz
  cases is with
  | nil => exact h1.elim
  | cons k is =>
  obtain ⟨h0, h1⟩ := h1
  unfold ordZ at h2
  rw [Bool.and_eq_true, Bool.and_eq_true] at h2
  obtain ⟨⟨h2a, h2c⟩, h2b⟩ := h2
  rw [Bool.or_eq_true, hE] at h2a
  have h2 := And.intro h2a h2b
  have ho : onlyB ops listed k = true := by
    rcases h2.1 with h | h
    · exact h
    · simp at h
  rw [show (⟨none, op, ty, pos, aft, g⟩ :: rest : List Oper).length + m = (rest.length + m) + 1 from by simp; omega]
  have hl := set_lt (k := k) (listed := listed) (z := z) h4 (.inl rfl)
  rcases Decidable.em (z = k) with rfl | hne
  · -- z has been: it cannot come up again
    have hr : Region.ready .any ops listed = [z] := by simpa [onlyB] using ho
    have hm : z ∈ Region.ready .any ops listed := by rw [hr]; simp
    obtain ⟨hu, _⟩ := mem_ready.1 hm
    have hk : z < listed.size := by rw [h3]; exact (Array.getElem?_eq_some_iff.1 h0).1
    simp [hk] at hu h4
    rw [hu] at h4; cases h4
  · exact JZ.st2 k h0 ho h4 (by cases h : Nat.beq z k; rfl; exact absurd (Nat.eq_of_beq_eq_true h) hne) h (kk m is _ Z h1 h2.2 (by simpa using h3) hl (fun h => by cases h) hz) hg
end
/-- what an own slice holds, loaded -/
theorem OwnS.atN {w0 : World} {own : List Nat} {E m n n' c b o i : Nat} {vs us : List Value} {h hs : Hp} (k : OwnS E m (.slice (some ⟨b, o, none⟩) n' c) n vs h) (hh : h ⊆ hs) (hu : ∀ (j : Nat) (v : Value), us[j]? = some v → vs[i + j]? = some v) : At w0 own hs ⟨b, o + i, none⟩ us := by
  obtain rfl := k.one
  intro w s j v hv
  obtain ⟨b', o', h1, _, h3⟩ := OwnS.rd k s hh (no := []) (by simp) _ v (hu j v hv)
  cases h1
  rw [add_none, Nat.add_assoc]
  exact h3
theorem OwnS.at1 {w0 : World} {own : List Nat} {E m n n' c b o i : Nat} {vs : List Value} {v : Value} {h hs : Hp} (k : OwnS E m (.slice (some ⟨b, o, none⟩) n' c) n vs h) (hh : h ⊆ hs) (hv : vs[i]? = some v) : At w0 own hs ⟨b, o + i, none⟩ [v] :=
  k.atN hh fun j u hu => by
    match j, hu with
    | 0, hu => simp at hu; subst hu; simpa using hv
section
variable {P : Program} {n : Nat} {w0 : World} {own : List Nat} {e : Env} {hs : Hp}
/-- sums and differences of numbers that are told in another way -/
theorem Val.addE {T U : Nat} {x y : Operand} {i j : Int} (r : Int) (hx : ev e x = some (.int .i64 i)) (hy : ev e y = some (.int .i64 j)) (hr : i + j = r) (hb : -9223372036854775808 ≤ r ∧ r ≤ 9223372036854775807) :
    Val P n w0 own e hs (.binOp .add T x y U) (.int .i64 r) := by
  subst hr; exact Val.addi hx hy hb
theorem Val.subE {T U : Nat} {x y : Operand} {i j : Int} (r : Int) (hx : ev e x = some (.int .i64 i)) (hy : ev e y = some (.int .i64 j)) (hr : i - j = r) (hb : -9223372036854775808 ≤ r ∧ r ≤ 9223372036854775807) :
    Val P n w0 own e hs (.binOp .sub T x y U) (.int .i64 r) := by
  subst hr; exact Val.subi hx hy hb
theorem wrap_u64_in {x : Int} (h : 0 ≤ x ∧ x ≤ 18446744073709551615) : IntKind.u64.wrap x = x := by
  simp [IntKind.wrap, IntKind.bits, IntKind.signed]; omega
theorem Val.addU {T U : Nat} {x y : Operand} {i j : Int} (r : Int) (hx : ev e x = some (.int .u64 i)) (hy : ev e y = some (.int .u64 j)) (hr : i + j = r) (hb : 0 ≤ r ∧ r ≤ 18446744073709551615) :
    Val P n w0 own e hs (.binOp .add T x y U) (.int .u64 r) := by
  subst hr
  have h := Val.add (P := P) (n := n) (w0 := w0) (own := own) (hs := hs) (T := T) (U := U) hx hy
  rw [wrap_u64_in hb] at h; exact h
theorem Val.subU {T U : Nat} {x y : Operand} {i j : Int} (r : Int) (hx : ev e x = some (.int .u64 i)) (hy : ev e y = some (.int .u64 j)) (hr : i - j = r) (hb : 0 ≤ r ∧ r ≤ 18446744073709551615) :
    Val P n w0 own e hs (.binOp .sub T x y U) (.int .u64 r) := by
  subst hr
  have h := Val.sub_ (P := P) (n := n) (w0 := w0) (own := own) (hs := hs) (T := T) (U := U) hx hy
  rw [wrap_u64_in hb] at h; exact h
end
end V
end Go

/- Events; (*teller).tell. -/
namespace Go.Proofs.Ytfajjkolhajldaa
open Go.V
set_option linter.unusedVariables false
set_option linter.unusedSimpArgs false

structure Ev where
  seq : Int
  kind : Int
  id : Int
  other : Int
  target : Int
  mb : Int
  sd : Int
  ty : Int
  pr : Int
  q : Int
  pk : Int
  reason : Int
  code : Int
abbrev ecells (seq kind id other target mb sd ty pr q pk reason code : Int) : List Value := [.int .u64 seq, .int .i64 kind, .int .u64 id, .int .u64 other, .int .u64 target, .int .u32 mb, .int .i64 sd, .int .i64 ty, .int .i64 pr, .int .u64 q, .int .u64 pk, .int .i64 reason, .int .i64 code]
def Ev.cells (e : Ev) : List Value := ecells e.seq e.kind e.id e.other e.target e.mb e.sd e.ty e.pr e.q e.pk e.reason e.code
/-- an event with its number -/
def Ev.num (e : Ev) (s : Int) : Ev := ⟨s, e.kind, e.id, e.other, e.target, e.mb, e.sd, e.ty, e.pr, e.q, e.pk, e.reason, e.code⟩
def erows (l : List Ev) : List Value := l.flatMap Ev.cells
theorem erows_length (l : List Ev) : (erows l).length = l.length * 13 := flatMap_length _ 13 (fun _ => rfl) l
theorem erows_get (l : List Ev) (i j : Nat) (hi : i < l.length) (hj : j < 13) : (erows l)[i * 13 + j]? = (l[i].cells)[j]? := flatMap_get _ 13 (fun _ => rfl) l i j hi hj
theorem erows_app (a b : List Ev) : erows (a ++ b) = erows a ++ erows b := by simp [erows]
theorem erows_ones (l : List Ev) : ones (erows l) = true := by
  induction l with
  | nil => rfl
  | cons e l ih => rw [show e :: l = [e] ++ l from rfl, erows_app, ones, List.all_append, Bool.and_eq_true]; exact ⟨rfl, ih⟩
theorem Rd.ev {w : World} {no : List Nat} {A : Option Addr} {l : List Ev} (h : Rd w no A (erows l)) (hn : 0 < l.length) :
    ∃ b o, A = some ⟨b, o, none⟩ ∧ b ∉ no ∧ ∀ (i : Nat) (hi : i < l.length) (j : Nat) (v : Value), j < 13 → (l[i].cells)[j]? = some v → w.cell? ⟨b, o + i * 13 + j, none⟩ = some v := by
  obtain ⟨b, o, e, hb, hc⟩ := h.base (by rw [erows_length]; omega)
  refine ⟨b, o, e, hb, fun i hi j v hj hv => ?_⟩
  have := hc (i * 13 + j) v (by rw [erows_get l i j hi hj]; exact hv)
  rw [Nat.add_assoc]; exact this
/-- the next number -/
def nx (s : Int) : Int := IntKind.u64.wrap (s + 1)
/-- a list of events that is somebody's own -/
abbrev Evs (v : Value) (l : List Ev) (h : Hp) : Prop := OwnS 40 13 v l.length (erows l) h
abbrev Tt (t b : Nat) (v : Value) : Nat × Ch := (t, .cells [.pointer (some ⟨b, 0, none⟩), v] 120)
abbrev Tb (b : Nat) (l : List Value) : Nat × Ch := (b, .cells l 117)

set_option maxRecDepth 10000 in
theorem tell_ok (w : World) (t b : Nat) (x0 x1 x2 x3 x4 : Value) (seq : Int) (e : Ev) (evs : List Ev) (v : Value) (ke : Hp) (ho : Evs v evs ke) (hn : evs.length + 1 ≤ 1000000000000) :
    Does Try.prog 54 [.pointer (some ⟨t, 0, none⟩), .agg ⟨e.cells⟩] (Tt t b v :: Tb b [x0, x1, x2, x3, x4, .int .u64 seq] :: ke) w
      (fun _ hs => ∃ v' ke', hs = Tt t b v' :: Tb b [x0, x1, x2, x3, x4, .int .u64 (nx seq)] :: ke' ∧ Evs v' (evs ++ [e.num (nx seq)]) ke') := by
  obtain ⟨A, c, rfl⟩ := OwnS.sl ho
  obtain ⟨q0, q1, q2, q3, q4, q5, q6, q7, q8, q9, q10, q11, q12⟩ := e
  refine Does.less (Does.of (n := 35) Try.func54 rfl rfl rfl rfl ?_)
  refine .seq ((.region (.nw (.box (l := [.int .u64 q0, .int .i64 q1, .int .u64 q2, .int .u64 q3, .int .u64 q4, .int .u32 q5, .int .i64 q6, .int .i64 q7, .int .i64 q8, .int .u64 q9, .int .u64 q10, .int .i64 q11, .int .i64 q12]) rfl rfl) fun b3 => (.nil ?_))))
  refine .seq ((.region (.v (.move rfl) (.v (.nilCheck rfl) (.v (.fieldAddr rfl) (.v (.load (v := .pointer (some ⟨b, 0, none⟩)) rfl (.one rfl)) (.v (.nilCheck rfl) (.v (.fieldAddr rfl) (.v (.fieldAddr rfl) (.v (.load (v := .int .u64 seq) rfl (.one rfl)) (.v (.add rfl rfl) (.v (.nilCheck rfl) (.v (.fieldAddr rfl) (.v (.fieldAddr rfl) (.st (.storeL rfl rfl rfl) (.nil ?_))))))))))))))))
  refine .seq ((.region (.v (.move rfl) (.v (.nilCheck rfl) (.v (.fieldAddr rfl) (.v (.load (v := .pointer (some ⟨b, 0, none⟩)) rfl (.one rfl)) (.v (.nilCheck rfl) (.v (.fieldAddr rfl) (.v (.fieldAddr rfl) (.v (.load (v := .int .u64 (nx seq)) rfl (.one rfl)) (.v (.fieldAddr rfl) (.st (.storeL rfl rfl rfl) (.nil ?_)))))))))))))
  refine (.drawQ 10 [0, 1, 2, 3, 4, 5, 6, 7, 8, 9, 10] [(b3, .cells [.int .u64 (nx seq), .int .i64 q1, .int .u64 q2, .int .u64 q3, .int .u64 q4, .int .u32 q5, .int .i64 q6, .int .i64 q7, .int .i64 q8, .int .u64 q9, .int .u64 q10, .int .i64 q11, .int .i64 q12] 40), Tt t b (.slice A evs.length c)] (by intro p hp; simp at hp ⊢; rcases hp with rfl | rfl <;> simp) (by kernel_rfl) (by kernel_rfl) ?_)
  refine .v (fun _ f => .move rfl) (.v (fun _ f => .move rfl) (.v (fun _ f => .nilCheck rfl) (.v (fun _ f => .fieldAddr rfl) (.v (fun _ f => .load (v := .slice A evs.length c) rfl (.one (b := t) (T := 120) (hb := .sub f) rfl)) (.v (fun _ f => .loadA (vs := [.int .u64 (nx seq), .int .i64 q1, .int .u64 q2, .int .u64 q3, .int .u64 q4, .int .u32 q5, .int .i64 q6, .int .i64 q7, .int .i64 q8, .int .u64 q9, .int .u64 q10, .int .i64 q11, .int .i64 q12]) rfl (.whole (hb := .sub f)) rfl) ?_)))))
  refine .ef (.buildSlice (out := [.int .u64 (nx seq), .int .i64 q1, .int .u64 q2, .int .u64 q3, .int .u64 q4, .int .u32 q5, .int .i64 q6, .int .i64 q7, .int .i64 q8, .int .u64 q9, .int .u64 q10, .int .i64 q11, .int .i64 q12]) rfl (by decide) rfl rfl) (fun v hs' ⟨b, _, e⟩ f => by subst e; exact fun p hp => List.mem_cons_of_mem _ (f hp)) ?_
  rintro _ _ ⟨nb, rfl, rfl⟩
  refine .ef (.append (c := evs.length) (k := 1) (vs := erows evs) (news := [.int .u64 (nx seq), .int .i64 q1, .int .u64 q2, .int .u64 q3, .int .u64 q4, .int .u32 q5, .int .i64 q6, .int .i64 q7, .int .i64 q8, .int .u64 q9, .int .u64 q10, .int .i64 q11, .int .i64 q12]) (h := ke) (fr := (nb, .cells [.int .u64 (nx seq), .int .i64 q1, .int .u64 q2, .int .u64 q3, .int .u64 q4, .int .u32 q5, .int .i64 q6, .int .i64 q7, .int .i64 q8, .int .u64 q9, .int .u64 q10, .int .i64 q11, .int .i64 q12] 40) :: (b3, .cells [.int .u64 (nx seq), .int .i64 q1, .int .u64 q2, .int .u64 q3, .int .u64 q4, .int .u32 q5, .int .i64 q6, .int .i64 q7, .int .i64 q8, .int .u64 q9, .int .u64 q10, .int .i64 q11, .int .i64 q12] 40) :: Tt t b (.slice A evs.length c) :: [Tb b [x0, x1, x2, x3, x4, .int .u64 (nx seq)]]) rfl rfl ho (by exact List.perm_append_comm (l₁ := [_, _, _, _]))
    (fun w s => Src.cells rfl (fun j v hv => by rw [add_none, s.cell (b := nb) (T := 40) (l := [.int .u64 (nx seq), .int .i64 q1, .int .u64 q2, .int .u64 q3, .int .u64 q4, .int .u32 q5, .int .i64 q6, .int .i64 q7, .int .i64 q8, .int .u64 q9, .int .u64 q10, .int .i64 q11, .int .i64 q12]) (by simp)]; simpa using hv)) rfl rfl (by omega) (by omega)) (fun v hs' ⟨h', _, e⟩ _ => by subst e; intro p hp; simp at hp ⊢; rcases hp with rfl | rfl <;> simp) ?_
  rintro v' _ ⟨ke', o', rfl⟩
  obtain ⟨A', c', rfl⟩ := OwnS.sl o'
  refine .v (fun _ f => .nilCheck rfl) (.v (fun _ f => .fieldAddr rfl) (.st (.storeL rfl rfl rfl) (.nil ?_)))
  refine ⟨[], trivial, Tt t b (.slice A' (evs.length + 1) c') :: Tb b [x0, x1, x2, x3, x4, .int .u64 (nx seq)] :: ke', fun _ s => ?_, _, ke', rfl, ?_⟩
  · refine (s.perm (List.perm_append_comm (l₁ := ke'))).sub ?_
    exact .cons _ (.cons _ (.refl _))
  · unfold Evs
    rw [erows_app, List.length_append]
    exact o'
end Go.Proofs.Ytfajjkolhajldaa

/- VX: blocks that are lent, found by instances. -/
namespace Go
namespace V
open Go.RowKit
set_option linter.unusedVariables false
set_option linter.unusedSimpArgs false

/-- one block is taken out -/
class Rem (p : Nat × Ch) (hs : Hp) (hs1 : outParam Hp) : Prop where
  out : hs.Perm (p :: hs1)
instance (priority := high) Rem.head {p : Nat × Ch} {hs : Hp} : Rem p (p :: hs) hs := ⟨.refl _⟩
instance Rem.tail {p q : Nat × Ch} {hs hs1 : Hp} [h : Rem p hs hs1] : Rem p (q :: hs) (q :: hs1) := ⟨(List.Perm.cons q h.out).trans (List.Perm.swap _ _ _)⟩
instance Rem.cons_app {p q : Nat × Ch} {k hs r : Hp} [h : Rem p (q :: (k ++ hs)) r] : Rem p ((q :: k) ++ hs) r := ⟨h.out⟩
instance Rem.nil_app {p : Nat × Ch} {hs r : Hp} [h : Rem p hs r] : Rem p ([] ++ hs) r := ⟨h.out⟩
instance (priority := low) Rem.assoc {p : Nat × Ch} {a b c r : Hp} [h : Rem p (a ++ (b ++ c)) r] : Rem p ((a ++ b) ++ c) r := ⟨by rw [List.append_assoc]; exact h.out⟩
instance (priority := low - 10) Rem.app {p : Nat × Ch} {k hs hs1 : Hp} [h : Rem p hs hs1] : Rem p (k ++ hs) (k ++ hs1) := ⟨(List.Perm.append_left k h.out).trans List.perm_middle⟩
/-- a bunch is taken out -/
class RemC (k : Hp) (hs : Hp) (hs1 : outParam Hp) : Prop where
  out : hs.Perm (k ++ hs1)
instance (priority := high) RemC.head {k hs : Hp} : RemC k (k ++ hs) hs := ⟨.refl _⟩
instance (priority := high) RemC.last {k : Hp} : RemC k k [] := ⟨by rw [List.append_nil]⟩
instance RemC.cons_app {q : Nat × Ch} {k k' hs r : Hp} [h : RemC k (q :: (k' ++ hs)) r] : RemC k ((q :: k') ++ hs) r := ⟨h.out⟩
instance RemC.nil_app {k hs r : Hp} [h : RemC k hs r] : RemC k ([] ++ hs) r := ⟨h.out⟩
instance RemC.tail {k : Hp} {q : Nat × Ch} {hs hs1 : Hp} [h : RemC k hs hs1] : RemC k (q :: hs) (q :: hs1) := ⟨(List.Perm.cons q h.out).trans List.perm_middle.symm⟩
instance (priority := low) RemC.assoc {k a b c r : Hp} [h : RemC k (a ++ (b ++ c)) r] : RemC k ((a ++ b) ++ c) r := ⟨by rw [List.append_assoc]; exact h.out⟩
instance (priority := low - 10) RemC.app {k k' hs hs1 : Hp} [h : RemC k hs hs1] : RemC k (k' ++ hs) (k' ++ hs1) := ⟨(List.Perm.append_left k' h.out).trans (by rw [← List.append_assoc, ← List.append_assoc]; exact List.Perm.append_right _ List.perm_append_comm)⟩
/-- all of these are taken out -/
class TakeI (pre hs : Hp) (fr : outParam Hp) : Prop where
  out : hs.Perm (pre ++ fr)
instance (priority := high) TakeI.nil {hs : Hp} : TakeI [] hs hs := ⟨.refl _⟩
instance TakeI.cons {p : Nat × Ch} {pre hs hs1 fr : Hp} [h : Rem p hs hs1] [t : TakeI pre hs1 fr] : TakeI (p :: pre) hs fr := ⟨h.out.trans (.cons p t.out)⟩
instance TakeI.cons_app {p : Nat × Ch} {k pre hs fr : Hp} [t : TakeI (p :: (k ++ pre)) hs fr] : TakeI ((p :: k) ++ pre) hs fr := ⟨t.out⟩
instance TakeI.nil_app {pre hs fr : Hp} [t : TakeI pre hs fr] : TakeI ([] ++ pre) hs fr := ⟨t.out⟩
instance (priority := low) TakeI.assoc {a b c hs fr : Hp} [t : TakeI (a ++ (b ++ c)) hs fr] : TakeI ((a ++ b) ++ c) hs fr := ⟨by rw [List.append_assoc a b c]; exact t.out⟩
instance (priority := low - 10) TakeI.app {k pre hs hs1 fr : Hp} [h : RemC k hs hs1] [t : TakeI pre hs1 fr] : TakeI (k ++ pre) hs fr := ⟨by rw [List.append_assoc]; exact h.out.trans (List.Perm.append_left k t.out)⟩
instance (priority := low - 20) TakeI.last {k hs fr : Hp} [h : RemC k hs fr] : TakeI k hs fr := ⟨h.out⟩

theorem Sat.take {w0 w : World} {own : List Nat} {hs pre fr : Hp} (s : Sat w0 own hs w) [h : TakeI pre hs fr] : Sat w0 own pre w := (s.perm h.out).sub (List.sublist_append_left _ _)
section
variable {P : Program} {n : Nat} {w0 : World} {own : List Nat} {e : Env} {hs : Hp}
theorem JC.keep {c : Code} {Q : Post} (pre : Hp) {fr : Hp} [h : TakeI pre hs fr] (k : JC P n w0 own c e pre Q) : JC P n w0 own c e hs Q := JC.heap (fun _ s => s.take) k
/-- a call that is lent blocks -/
theorem Eff.callT {g : Nat} {f : Operand} {args : List Operand} {at_ : Array TypeId} {cap vals : List Value} {R : Value → Hp → Prop} (pre : Hp) {fr : Hp} (hf : ev e f = some (.func (.func g) #[] ⟨cap⟩)) (ha : evs e args = some vals) [hg : FnT P g] [tk : TakeI pre hs fr]
    (hc : ∀ w, Sat w0 own hs w → Does P g (vals ++ cap) pre w R) :
    Eff P n w0 own e hs (.call { callee := .value f, args := ⟨args⟩, argTypes := at_ }) (fun v hs' => ∃ h, R v h ∧ hs' = h ++ fr) := Eff.call hf ha tk.out hc
end
/-- two roads that join: what holds where they do -/
theorem JC.mid {P : Program} {n : Nat} {w0 : World} {own : List Nat} {e : Env} {hs : Hp} {Q : Post} {x y : Code} {X : Type} (env : X → Env) (heap : X → Hp) (I : X → Prop)
    (h1 : JC P n w0 own x e hs (thenQ (fun e' hs' => ∃ z, I z ∧ Sub (env z) e' ∧ ∀ w, Sat w0 own hs' w → Sat w0 own (heap z) w) Q)) (h2 : ∀ z, I z → JC P n w0 own y (env z) (heap z) Q) : JC P n w0 own (.seq x y) e hs Q := by
  refine .seq (h1.mono fun ex e' hs' h => ?_)
  cases ex with
  | normal => obtain ⟨z, hz, hs1, hh⟩ := h; exact JC.sub hs1 (JC.heap hh (h2 z hz))
  | _ => exact h
/-- a contract, where more is lent -/
theorem Does.lendT {P : Program} {g : Nat} {vals : List Value} {w : World} {R : Value → Hp → Prop} (pre : Hp) {big fr : Hp} [tk : TakeI pre big fr] (h : Does P g vals pre w R) : Does P g vals big w (fun v hs => ∃ h, R v h ∧ hs = h ++ fr) := by
  intro hp hd
  have s := (Sat.begin hp hd).perm tk.out
  have nd := s.nd
  simp only [bl, List.map_append, List.nodup_append] at nd
  refine (h (fun b c hb => s.has b c (List.mem_append.2 (.inl hb))) nd.1).mono ?_
  rintro x w' ⟨v, hs', rfl, h1, h2⟩
  exact ⟨v, hs' ++ fr, rfl, ⟨hs', h1, rfl⟩, s.call h2⟩
/-- .. and what is left is told in another order, less of it -/
theorem Does.keepT {P : Program} {g : Nat} {vals : List Value} {w : World} {R R' : Value → Hp → Prop} {pre : Hp} (h : Does P g vals pre w R) (k : ∀ v hs, R v hs → ∃ hs' fr, hs.Perm (hs' ++ fr) ∧ R' v hs') : Does P g vals pre w R' :=
  Does.less (h.mono fun v hs r => by
    obtain ⟨hs', fr, h1, h2⟩ := k v hs r
    exact ⟨hs', fun _ s => (s.perm h1).sub (List.sublist_append_left _ _), h2⟩)
end V
end Go

/- VY: as VW; and what touches no memory may come up at any time. -/
namespace Go
namespace V
open Go.RowKit
set_option linter.unusedVariables false
set_option linter.unusedSimpArgs false

section
variable {P : Program} {ops : Array Oper} {Q : Exit → Act → World → Prop} {S : World → Prop} {z : Nat}
/-- number i may be taken first, if its value hangs on no world -/
theorem Upto.firstX {i : Nat} {oi : Oper} {v : Value} (hi : ops[i]? = some oi) (hsel : ∀ (j : Nat) (o : Oper) cs b, ops[j]? = some o → o.op ≠ .select cs b)
    (hQ : ∀ c a w, Q (.panic c) (a.put oi.dst v) w → Q (.panic c) a w) (hzi : z ≠ i) :
    ∀ (k : Nat) (l : Array Bool) (a : Act) (w : World),
      (∀ j oj, ops[j]? = some oj → j ≠ i → l.getD j true = false → (∀ e ∈ oj.after, Region.binds .any e = true → e.on ≠ i) → oi.apart ops oj = true) →
      i ∈ Region.ready .any ops l → YieldsIf P ops (fun _ => True) oi v a → (l.getD z true = false → S w) →
      Upto P ops Q S z k (l.setIfInBounds i true) (a.put oi.dst v) w → Upto P ops Q S z (k + 1) l a w := by
  intro k
  induction k with
  | zero =>
    intro l a w _ hr hy hS H
    refine ⟨fun h => absurd (h ▸ hr) List.not_mem_nil, fun j hj => ?_⟩
    rcases Decidable.em (j = i) with rfl | hji
    · exact hy.wpOp hi trivial ⟨fun hz => hS (by rw [getD_set_ne true (Ne.symm hzi)] at hz; exact hz), H⟩
    · exact absurd (H.1 ▸ ready_mono hj hji) List.not_mem_nil
  | succ k ih =>
    intro l a w hfree hr hy hS H
    refine ⟨fun h => absurd (h ▸ hr) List.not_mem_nil, fun j hj => ?_⟩
    rcases Decidable.em (j = i) with rfl | hji
    · exact hy.wpOp hi trivial ⟨fun hz => hS (by rw [getD_set_ne true (Ne.symm hzi)] at hz; exact hz), H⟩
    obtain ⟨hun, oj, hoj, hall⟩ := mem_ready.1 hj
    have hno : ∀ e ∈ oj.after, Region.binds .any e = true → e.on ≠ i := by
      intro e he hb hon
      exact not_both (z := j) hoj ⟨e, he, hb, hon⟩ hr hj
    have step := wpOp_putIf hoj (hfree j oj hoj hji hun hno) (fun cs b => hsel i oi cs b hi) (fun cs b => hsel j oj cs b hoj) hQ hy (H.2 j (ready_mono hj hji))
    refine wpOp_mono (fun a' w' ⟨hy', hS', hrest⟩ => ?_) step
    have e1 : ((l.setIfInBounds i true).setIfInBounds j true).getD z true = (l.setIfInBounds j true).getD z true := by
      rw [Array.setIfInBounds_comm _ _ (Ne.symm hji), getD_set_ne true (Ne.symm hzi)]
    have hS2 : (l.setIfInBounds j true).getD z true = false → S w' := fun hz => hS' (by rw [e1]; exact hz)
    refine ⟨hS2, ih (l.setIfInBounds j true) a' w' (fun m om hm hmi hun' hno' => ?_) (ready_mono hr (Ne.symm hji)) hy' hS2 ?_⟩
    · refine hfree m om hm hmi ?_ hno'
      rcases Decidable.em (j = m) with rfl | hjm
      · exact hun
      · rw [getD_set_ne true hjm] at hun'; exact hun'
    · rw [Array.setIfInBounds_comm _ _ hji]; exact hrest
end
/-- does the operation touch no memory? -/
def noMem (o : Oper) : Bool := match o.op with
  | .move _ => true
  | .indexAddr .. => true
  | .fieldAddr .. => true
  | .binOp .. => true
  | .extract .. => true
  | _ => false
section
variable {P : Program} {n : Nat} {w0 : World} {own : List Nat} {e : Env} {hs F : Hp} {ops : Array Oper} {K : Env → Hp → Prop} {z m : Nat} {listed : Array Bool}
variable {d : Nat} {ty : TypeId} {pos : String} {aft : Array Edge} {g : Option (Nat × Bool)}
theorem JZ.x {op : Op} {v : Value} (i : Nat) (hi : ops[i]? = some ⟨some d, op, ty, pos, aft, g⟩) (hf : firstB ops listed i = true) (hzi : z ≠ i)
    (h : ∀ w, Val P n w [] e [] op v) (k : JZ P n w0 own ops F z m (listed.setIfInBounds i true) ((d, v) :: e) hs K)
    (hdn : Nat.blt d n = true := by rfl) (hg : wantB ops e g = some true := by rfl) : JZ P n w0 own ops F z (m + 1) listed e hs K := by
  intro a w hr s hF
  unfold firstB at hf
  rw [Bool.and_eq_true, Bool.and_eq_true] at hf
  obtain ⟨⟨f1, f2⟩, f3⟩ := hf
  exact Upto.firstX hi (Region.noSelect_spec f1) (fun _ _ _ h => h) hzi m listed a w (Region.free_spec hi f2) (by simpa using f3)
    (.inl ⟨wanted_of hr hg, fun w' _ => h w' a w' _ _ _ _ _ hr (Sat.begin0 w')⟩) (fun hz => ⟨hs, s, hF hz⟩)
    (k _ _ (hr.put (Nat.le_of_ble_eq_true hdn) v) s fun hz => hF (by rw [getD_set_ne true (Ne.symm hzi)] at hz; exact hz))
end

def ordY (ops : Array Oper) (z : Nat) : List Oper → List Nat → Array Bool → Bool
  | [], [], _ => true
  | o :: l, i :: is, listed => (onlyB ops listed i || (!isEff o && firstZ ops z listed i) || (noMem o && firstB ops listed i && !Nat.beq z i)) && (o.dst.isSome || Nat.beq i z || listed.getD z true) && ordY ops z l is (listed.setIfInBounds i true)
  | _, _, _ => false
/-- the operations in their order; 'late': the first store has been -/
def JY (P : Program) (n : Nat) (w0 : World) (own : List Nat) (ops : Array Oper) (F : Hp) (z : Nat) (late : Bool) (l : List Oper) (e : Env) (hs : Hp) (K : Bool → Env → Hp → Prop) : Prop :=
  ∀ (m : Nat) (is : List Nat) (listed : Array Bool) (Z : Env → Hp → Prop), Nums ops l is → ordY ops z l is listed = true → listed.size = ops.size → listed.getD z true = late → (late = false → F ⊆ hs) →
    (∀ late' e' hs', (marks_ is listed).getD z true = late' → (late' = false → F ⊆ hs') → K late' e' hs' → JZ P n w0 own ops F z m (marks_ is listed) e' hs' Z) → JZ P n w0 own ops F z (l.length + m) listed e hs Z

theorem eff_mem {o : Oper} (h : isEff o = true) : noMem o = false := by
  unfold isEff at h; unfold noMem
  split <;> simp_all
section
variable {P : Program} {n : Nat} {w0 : World} {own : List Nat} {e : Env} {hs F : Hp} {ops : Array Oper} {rest l : List Oper} {K : Bool → Env → Hp → Prop} {z : Nat} {late : Bool} {m : Nat} {listed : Array Bool} {Z : Env → Hp → Prop}
variable {d : Nat} {ty : TypeId} {pos : String} {aft : Array Edge} {g : Option (Nat × Bool)}

theorem JC.drawY {id : Nat} {Q : Post} {l : List Oper} (z : Nat) (is : List Nat) (F : Hp) (hF : F ⊆ hs) (hm : P.follows .mixedOrders = true)
    (hB : (ordY l.toArray z (pickL l is) is (Array.replicate l.length false) && doneB l.toArray (marks_ is (Array.replicate l.length false)) && Nat.beq (pickL l is).length l.length && Nat.beq is.length l.length && Nat.blt z l.length) = true)
    (h : JY P n w0 own l.toArray F z false (pickL l is) e hs (fun _ e' hs' => Q .normal e' hs')) : JC P n w0 own (.region id l.toArray true) e hs Q := by
  rw [Bool.and_eq_true, Bool.and_eq_true, Bool.and_eq_true, Bool.and_eq_true] at hB
  obtain ⟨⟨⟨⟨h1, h2⟩, h3⟩, h4⟩, h5⟩ := hB
  have h3 := Nat.eq_of_beq_eq_true h3
  have h4 := Nat.eq_of_beq_eq_true h4
  have h5 : z < l.length := Nat.le_of_ble_eq_true h5
  have key : ∀ (is : List Nat), (pickL l is).length = is.length → Nums l.toArray (pickL l is) is := by
    intro is
    induction is with
    | nil => intro _; trivial
    | cons i is ih =>
      intro hl
      unfold pickL at hl ⊢
      cases ho : l[i]? with
      | none => rw [ho] at hl; simp at hl
      | some o =>
        rw [ho] at hl
        simp only at hl ⊢
        exact ⟨by simpa using ho, ih (by simpa using hl)⟩
  refine JC.drawZ z F hF hm ?_
  have := h 0 is (Array.replicate l.length false) (fun e hs => Q .normal e hs) (key _ (by omega)) h1 (by simp) (by simp [h5]) (fun _ => hF) (fun _ e' hs' _ _ ke => JZ.done h2 ke)
  rw [h3] at this
  simpa using this
theorem JY.nil (h : K late e hs) : JY P n w0 own ops F z late [] e hs K := fun m is listed Z hn _ hsz hl hF hz => by
  cases is with
  | nil => rw [List.length_nil, Nat.zero_add]; exact hz late e hs hl hF h
  | cons i is => exact hn.elim
theorem JY.mono {K' : Bool → Env → Hp → Prop} (h : JY P n w0 own ops F z late l e hs K) (kk : ∀ b e hs, K b e hs → K' b e hs) : JY P n w0 own ops F z late l e hs K' :=
  fun m k listed Z h1 h2 h3 h4 h5 hz => h m k listed Z h1 h2 h3 h4 h5 fun b e' hs' f1 f ke => hz b e' hs' f1 f (kk b e' hs' ke)
theorem JY.sub {e2 : Env} (hs' : Sub e2 e) (h : JY P n w0 own ops F z late l e2 hs K) : JY P n w0 own ops F z late l e hs K :=
  fun m k listed Z h1 h2 h3 h4 h5 hz a w hr s hF => h m k listed Z h1 h2 h3 h4 h5 hz a w (hr.sub hs') s hF
theorem JY.splitB {t : Nat} {b : Bool} (ht : get e t = some (.bool b)) (h1 : b = true → JY P n w0 own ops F z late l ((t, .bool true) :: e) hs K)
    (h0 : b = false → JY P n w0 own ops F z late l ((t, .bool false) :: e) hs K) : JY P n w0 own ops F z late l e hs K := by
  cases b
  · exact JY.sub (sub_same' ht) (h0 rfl)
  · exact JY.sub (sub_same' ht) (h1 rfl)
/-- a value, ahead of the first store -/
theorem JY.v {op : Op} {v : Value} (h : ∀ hs', F ⊆ hs' → Val P n w0 own e hs' op v) (kk : JY P n w0 own ops F z false rest ((d, v) :: e) hs K) (hdn : Nat.blt d n = true := by rfl) (hg : wantB ops e g = some true := by rfl)
    (hzo : ((ops[z]?).map (·.dst.isNone)) = some true := by rfl) (hx : noMem ⟨some d, op, ty, pos, aft, g⟩ = false := by rfl) :
    JY P n w0 own ops F z false (⟨some d, op, ty, pos, aft, g⟩ :: rest) e hs K := by
  intro m is listed Z h1 h2 h3 h4 h5 hz
  cases is with
  | nil => exact h1.elim
  | cons k is =>
  obtain ⟨h0, h1⟩ := h1
  unfold ordY at h2
  rw [Bool.and_eq_true, Bool.and_eq_true] at h2
  obtain ⟨⟨h2a, _⟩, h2b⟩ := h2
  rw [hx, Bool.false_and, Bool.false_and, Bool.or_false, Bool.or_eq_true, Bool.and_eq_true] at h2a
  have h2 := And.intro h2a h2b
  have hkz : k ≠ z := by rintro rfl; rw [h0] at hzo; simp at hzo
  have tail : JZ P n w0 own ops F z (rest.length + m) (listed.setIfInBounds k true) ((d, v) :: e) hs Z := kk m is _ Z h1 h2.2 (by simpa using h3) (set_lt h4 (.inr hkz)) h5 hz
  rw [show (⟨some d, op, ty, pos, aft, g⟩ :: rest : List Oper).length + m = (rest.length + m) + 1 from by simp; omega]
  rcases h2.1 with ho | ⟨_, hf⟩
  · exact JZ.v1 k h0 ho (h hs (h5 rfl)) tail rfl hdn hg
  · exact JZ.v k h0 hf h tail hdn hg
/-- a value behind it -/
theorem JY.w {op : Op} {v : Value} (h : Val P n w0 own e hs op v) (kk : JY P n w0 own ops F z true rest ((d, v) :: e) hs K) (hdn : Nat.blt d n = true := by rfl) (hg : wantB ops e g = some true := by rfl) (hx : noMem ⟨some d, op, ty, pos, aft, g⟩ = false := by rfl) :
    JY P n w0 own ops F z true (⟨some d, op, ty, pos, aft, g⟩ :: rest) e hs K := by
  intro m is listed Z h1 h2 h3 h4 h5 hz
  cases is with
  | nil => exact h1.elim
  | cons k is =>
  obtain ⟨h0, h1⟩ := h1
  unfold ordY at h2
  rw [Bool.and_eq_true, Bool.and_eq_true] at h2
  obtain ⟨⟨h2a, _⟩, h2b⟩ := h2
  rw [hx, Bool.false_and, Bool.false_and, Bool.or_false, Bool.or_eq_true, Bool.and_eq_true] at h2a
  have h2 := And.intro h2a h2b
  have tail : JZ P n w0 own ops F z (rest.length + m) (listed.setIfInBounds k true) ((d, v) :: e) hs Z := kk m is _ Z h1 h2.2 (by simpa using h3) (set_lt h4 (.inl rfl)) (fun h => by cases h) hz
  rw [show (⟨some d, op, ty, pos, aft, g⟩ :: rest : List Oper).length + m = (rest.length + m) + 1 from by simp; omega]
  rcases h2.1 with ho | ⟨_, hf⟩
  · exact JZ.v1 k h0 ho h tail rfl hdn hg
  · unfold firstZ at hf
    rw [h4] at hf
    simp at hf
/-- what touches no memory, at any time -/
theorem JY.x {op : Op} {v : Value} (h : ∀ w0 own hs, Val P n w0 own e hs op v) (kk : JY P n w0 own ops F z late rest ((d, v) :: e) hs K) (hdn : Nat.blt d n = true := by rfl) (hg : wantB ops e g = some true := by rfl)
    (hzo : ((ops[z]?).map (·.dst.isNone)) = some true := by rfl) :
    JY P n w0 own ops F z late (⟨some d, op, ty, pos, aft, g⟩ :: rest) e hs K := by
  intro m is listed Z h1 h2 h3 h4 h5 hz
  cases is with
  | nil => exact h1.elim
  | cons k is =>
  obtain ⟨h0, h1⟩ := h1
  unfold ordY at h2
  rw [Bool.and_eq_true, Bool.and_eq_true] at h2
  obtain ⟨⟨h2a, _⟩, h2b⟩ := h2
  rw [Bool.or_eq_true, Bool.or_eq_true, Bool.and_eq_true, Bool.and_eq_true, Bool.and_eq_true] at h2a
  have hkz : k ≠ z := by rintro rfl; rw [h0] at hzo; simp at hzo
  have tail : JZ P n w0 own ops F z (rest.length + m) (listed.setIfInBounds k true) ((d, v) :: e) hs Z := kk m is _ Z h1 h2b (by simpa using h3) (set_lt h4 (.inr hkz)) h5 hz
  rw [show (⟨some d, op, ty, pos, aft, g⟩ :: rest : List Oper).length + m = (rest.length + m) + 1 from by simp; omega]
  rcases h2a with (ho | ⟨_, hf⟩) | ⟨⟨_, hf⟩, _⟩
  · exact JZ.v1 k h0 ho (h _ _ _) tail rfl hdn hg
  · exact JZ.v k h0 hf (fun hs' _ => h _ _ _) tail hdn hg
  · exact JZ.x k h0 hf (Ne.symm hkz) (fun w => h _ _ _) tail hdn hg
/-- what works on memory, and leaves a value -/
theorem JY.ef {op : Op} {R : Value → Hp → Prop} (h : Eff P n w0 own e hs op R) (hF : ∀ v hs', R v hs' → F ⊆ hs → F ⊆ hs') (kk : ∀ v hs', R v hs' → JY P n w0 own ops F z late rest ((d, v) :: e) hs' K)
    (hE : isEff ⟨some d, op, ty, pos, aft, g⟩ = true := by rfl) (hdn : Nat.blt d n = true := by rfl) (hg : wantB ops e g = some true := by rfl) (hzo : ((ops[z]?).map (·.dst.isNone)) = some true := by rfl) : JY P n w0 own ops F z late (⟨some d, op, ty, pos, aft, g⟩ :: rest) e hs K := by
  intro m is listed Z h1 h2 h3 h4 h5 hz
  cases is with
  | nil => exact h1.elim
  | cons k is =>
  obtain ⟨h0, h1⟩ := h1
  unfold ordY at h2
  rw [Bool.and_eq_true, Bool.and_eq_true] at h2
  obtain ⟨⟨h2a, _⟩, h2b⟩ := h2
  rw [Bool.or_eq_true, Bool.or_eq_true, hE, eff_mem hE] at h2a
  have h2 := And.intro h2a h2b
  have hkz : k ≠ z := by rintro rfl; rw [h0] at hzo; simp at hzo
  have ho : onlyB ops listed k = true := by
    rcases h2.1 with (h | h) | h
    · exact h
    · simp at h
    · simp at h
  rw [show (⟨some d, op, ty, pos, aft, g⟩ :: rest : List Oper).length + m = (rest.length + m) + 1 from by simp; omega]
  exact JZ.ef k h0 ho h (fun v hs' r => kk v hs' r m is _ Z h1 h2.2 (by simpa using h3) (set_lt h4 (.inr hkz)) (fun e => hF v hs' r (h5 e)) hz) hF rfl hdn hg
/-- the first store -/
theorem JY.st {op : Op} {hs' : Hp} (h : Eff P n w0 own e hs op (fun v h => v = undef ∧ h = hs')) (kk : JY P n w0 own ops F z true rest e hs' K)
    (hE : isEff ⟨none, op, ty, pos, aft, g⟩ = true := by rfl) (hg : wantB ops e g = some true := by rfl) : JY P n w0 own ops F z false (⟨none, op, ty, pos, aft, g⟩ :: rest) e hs K := by
  intro m is listed Z h1 h2 h3 h4 h5 hz
  cases is with
  | nil => exact h1.elim
  | cons k is =>
  obtain ⟨h0, h1⟩ := h1
  unfold ordY at h2
  rw [Bool.and_eq_true, Bool.and_eq_true] at h2
  obtain ⟨⟨h2a, h2c⟩, h2b⟩ := h2
  rw [Bool.or_eq_true, Bool.or_eq_true, hE, eff_mem hE] at h2a
  have h2 := And.intro h2a h2b
  obtain rfl : k = z := by
    rw [h4] at h2c
    exact Nat.eq_of_beq_eq_true (by simpa using h2c)
  have ho : onlyB ops listed k = true := by
    rcases h2.1 with (h | h) | h
    · exact h
    · simp at h
    · simp at h
  have hk : k < listed.size := by rw [h3]; exact (Array.getElem?_eq_some_iff.1 h0).1
  rw [show (⟨none, op, ty, pos, aft, g⟩ :: rest : List Oper).length + m = (rest.length + m) + 1 from by simp; omega]
  refine JZ.st h0 ho (Nat.ble_eq_true_of_le hk) h (kk m is _ Z h1 h2.2 (by simpa using h3) (by simp [hk]) (fun h => by cases h) hz) hg
/-- a store behind it -/
theorem JY.st2 {op : Op} {hs' : Hp} (h : Eff P n w0 own e hs op (fun v h => v = undef ∧ h = hs')) (kk : JY P n w0 own ops F z true rest e hs' K)
    (hE : isEff ⟨none, op, ty, pos, aft, g⟩ = true := by rfl) (hg : wantB ops e g = some true := by rfl) : JY P n w0 own ops F z true (⟨none, op, ty, pos, aft, g⟩ :: rest) e hs K := by
  intro m is listed Z h1 h2 h3 h4 h5 hz
  cases is with
  | nil => exact h1.elim
  | cons k is =>
  obtain ⟨h0, h1⟩ := h1
  unfold ordY at h2
  rw [Bool.and_eq_true, Bool.and_eq_true] at h2
  obtain ⟨⟨h2a, h2c⟩, h2b⟩ := h2
  rw [Bool.or_eq_true, Bool.or_eq_true, hE, eff_mem hE] at h2a
  have h2 := And.intro h2a h2b
  have ho : onlyB ops listed k = true := by
    rcases h2.1 with (h | h) | h
    · exact h
    · simp at h
    · simp at h
  rw [show (⟨none, op, ty, pos, aft, g⟩ :: rest : List Oper).length + m = (rest.length + m) + 1 from by simp; omega]
  have hl := set_lt (k := k) (listed := listed) (z := z) h4 (.inl rfl)
  rcases Decidable.em (z = k) with rfl | hne
  · -- z has been: it cannot come up again
    have hr : Region.ready .any ops listed = [z] := by simpa [onlyB] using ho
    have hm : z ∈ Region.ready .any ops listed := by rw [hr]; simp
    obtain ⟨hu, _⟩ := mem_ready.1 hm
    have hk : z < listed.size := by rw [h3]; exact (Array.getElem?_eq_some_iff.1 h0).1
    simp [hk] at hu h4
    rw [hu] at h4; cases h4
  · exact JZ.st2 k h0 ho h4 (by cases h : Nat.beq z k; rfl; exact absurd (Nat.eq_of_beq_eq_true h) hne) h (kk m is _ Z h1 h2.2 (by simpa using h3) hl (fun h => by cases h) hz) hg
end
/-- number i comes up now -/
def JS (P : Program) (n : Nat) (w0 : World) (own : List Nat) (ops : Array Oper) (F : Hp) (m : Nat) (listed : Array Bool) (e : Env) (hs : Hp) (K : Env → Hp → Prop) (i : Nat) : Prop :=
  ∀ a w, Rep n a e → Sat w0 own hs w → F ⊆ hs →
    wpOp P ops (QN fun a' w' => ∃ e' hs', Rep n a' e' ∧ Sat w0 own hs' w' ∧ K e' hs') i (fun a' w' => Keeps w0 own F w' ∧ wpAnyH P .any ops (QN fun a' w' => ∃ e' hs', Rep n a' e' ∧ Sat w0 own hs' w' ∧ K e' hs') (Keeps w0 own F) m (listed.setIfInBounds i true) a' w') a w
section
variable {P : Program} {n : Nat} {w0 : World} {own : List Nat} {e : Env} {hs F : Hp} {ops : Array Oper} {K : Env → Hp → Prop} {m : Nat} {listed : Array Bool}
variable {d : Nat} {ty : TypeId} {pos : String} {aft : Array Edge} {g : Option (Nat × Bool)}
/-- any of those that may come up -/
theorem JD.two (i j : Nat) (hr : (Region.ready .any ops listed == [i, j]) = true) (h1 : JS P n w0 own ops F m listed e hs K i) (h2 : JS P n w0 own ops F m listed e hs K j) : JD P n w0 own ops F (m + 1) listed e hs K := by
  intro a w hr' s hf
  refine wpAnyH_all (rs := [i, j]) (by simpa using hr) (by simp) fun k hk => ?_
  simp only [List.mem_cons, List.not_mem_nil, or_false] at hk
  rcases hk with rfl | rfl
  · exact h1 a w hr' s hf
  · exact h2 a w hr' s hf
theorem JD.one (i : Nat) (hr : onlyB ops listed i = true) (h1 : JS P n w0 own ops F m listed e hs K i) : JD P n w0 own ops F (m + 1) listed e hs K := by
  intro a w hr' s hf
  refine wpAnyH_all (rs := [i]) (by simpa [onlyB] using hr) (by simp) fun k hk => ?_
  simp only [List.mem_singleton] at hk
  subst hk
  exact h1 a w hr' s hf
theorem JS.v {i : Nat} {op : Op} {v : Value} (hi : ops[i]? = some ⟨some d, op, ty, pos, aft, g⟩) (h : Val P n w0 own e hs op v) (k : JD P n w0 own ops F m (listed.setIfInBounds i true) ((d, v) :: e) hs K)
    (hdn : Nat.blt d n = true := by rfl) (hg : wantB ops e g = some true := by rfl) : JS P n w0 own ops F m listed e hs K i := by
  intro a w hr s hf
  unfold wpOp
  simp only [hi]
  rw [if_pos (wanted_of hr hg)]
  exact .inl (h.eff a w _ _ _ _ _ _ _ hr s fun v' hs' w' ⟨e1, e2⟩ s' => by
    subst e1; subst e2
    exact ⟨⟨_, s', hf⟩, k _ _ (hr.put (Nat.le_of_ble_eq_true hdn) _) s' hf⟩)
theorem JS.st {i : Nat} {op : Op} {hs' : Hp} (hi : ops[i]? = some ⟨none, op, ty, pos, aft, g⟩) (h : Eff P n w0 own e hs op (fun v h => v = undef ∧ h = hs')) (hF : F ⊆ hs') (k : JD P n w0 own ops F m (listed.setIfInBounds i true) e hs' K)
    (hg : wantB ops e g = some true := by rfl) : JS P n w0 own ops F m listed e hs K i := by
  intro a w hr s hf
  unfold wpOp
  simp only [hi]
  rw [if_pos (wanted_of hr hg)]
  exact .inl (h a w _ _ _ _ _ _ _ hr s fun v' h' w' ⟨_, e2⟩ s' => by
    subst e2
    exact ⟨⟨_, s', hF⟩, k _ _ (hr.put_none _) s' hF⟩)
end
end V
end Go

/- VA: one element put behind a slice; what is known is let go inside a region. -/
namespace Go
namespace V
open Go.RowKit
set_option linter.unusedVariables false
set_option linter.unusedSimpArgs false
section
variable {P : Program} {n : Nat} {w0 : World} {own : List Nat} {e : Env} {hs : Hp} {ops : Array Oper} {rest l : List Oper} {K : Env → Hp → Prop}
theorem JL.heap {hs' : Hp} (k : ∀ w, Sat w0 own hs w → Sat w0 own hs' w) (h : JL P n w0 own ops l e hs' K) : JL P n w0 own ops l e hs K := fun a w hr s => h a w hr (k w s)
theorem JL.sub {e' : Env} (k : Sub e' e) (h : JL P n w0 own ops l e' hs K) : JL P n w0 own ops l e hs K := fun a w hr s => h a w (hr.sub k) s
theorem JL.take (pre : Hp) {fr : Hp} [t : TakeI pre hs fr] (h : JL P n w0 own ops l e pre K) : JL P n w0 own ops l e hs K := JL.heap (fun _ s => s.take) h
theorem fill_one {m : Nat} {cs oc : List Value} (hc : cs.length = m) (ho : oc.length = m) : fillL ((List.range 1).map fun i => (i * m, m)) cs [(0, oc)] = some oc := by
  simp [fillL, hc, ho, splice_whole cs oc (by omega)]
/-- 's = append(s, x)' -/
theorem JL.push {s x : Operand} {T t u E m by_ c d1 d2 ty1 ty2 : Nat} {p1 p2 : String} {a1 a2 : Array Edge} {z vs oc : List Value} {v xv : Value} {h fr : Hp}
    (hs_ : ev e s = some v) (hx : ev e x = some xv) [hT : SliceT P T E] [ht : SliceT P t E] [hu : SliceT P u E] [hE : El P E m by_ z] (ho : OwnS E m v c vs h) [tk : TakeI h hs fr] (hoc : xv.cells = ⟨oc⟩) (hl : oc.length = m) (h1 : ones oc = true)
    (hb : (c + 1) * by_ ≤ 140737488355328) (h63 : c + 1 ≤ 4611686018427387904)
    (k : ∀ b v' h', OwnS E m v' (c + 1) (vs ++ oc) h' → JL P n w0 own ops rest ((d2, v') :: (d1, .slice (some ⟨b, 0, none⟩) 1 1) :: e) (h' ++ fr) K)
    (hs2 : ∀ b, ev ((d1, .slice (some ⟨b, 0, none⟩) 1 1) :: e) s = some v := by intro b; rfl) (hm : Nat.ble m 16777216 = true := by rfl) (hd1 : Nat.blt d1 n = true := by rfl) (hd2 : Nat.blt d2 n = true := by rfl) :
    JL P n w0 own ops (⟨some d1, .buildSlice T 1 #[(0, x)], ty1, p1, a1, none⟩ :: ⟨some d2, .call { callee := .builtin .append, args := #[s, .tmp d1], argTypes := #[t, u] }, ty2, p2, a2, none⟩ :: rest) e hs K := by
  have hzl : z.length = m := by obtain ⟨i, v, _, _, _, _, _, h⟩ := hE.out; exact h
  refine .ef (Eff.buildSlice (parts := [(0, x)]) (vs := [(0, xv)]) (out := oc) (by simp [evp, hx]) (by rw [Nat.one_mul]; exact Nat.le_of_ble_eq_true hm) rfl ?_) ?_ hd1 rfl
  · rw [show ([(0, xv)] : List (Nat × Value)).map (fun p => (p.1, p.2.cells.toList)) = [(0, oc)] from by simp [hoc]]
    exact fill_one (by simp) hl
  · rintro _ _ ⟨b, rfl, rfl⟩
    refine .ef (Eff.append (c := c) (k := 1) (vs := vs) (news := oc) (h := h) (fr := (b, .cells oc E) :: fr) (hs2 b) (show ev ((d1, .slice (some ⟨b, 0, none⟩) 1 1) :: e) (.tmp d1) = some (.slice (some ⟨b, 0, none⟩) 1 1) by simp [ev, get]) ho ((tk.out.cons _).trans List.perm_middle.symm) (fun w s' => Src.of_at s' .whole (by rw [hl, Nat.one_mul])) (by rw [hl, Nat.one_mul]) h1 hb h63) ?_ hd2 rfl
    rintro v' _ ⟨h', k', rfl⟩
    exact .heap (fun _ s' => s'.sub (List.Sublist.append_left (List.sublist_cons_self _ _) _)) (k b v' h' k')
end
/-! ### rows of records -/
theorem at_sub {w0 : World} {own : List Nat} {hs : Hp} {b o i : Nat} {vs us : List Value} (h : At w0 own hs ⟨b, o, none⟩ vs) (hu : ∀ (j : Nat) (u : Value), us[j]? = some u → vs[i + j]? = some u) : At w0 own hs ⟨b, o + i, none⟩ us := by
  intro w s j u hj
  have := h w s (i + j) u (hu j u hj)
  rw [add_none] at this ⊢
  rw [Nat.add_assoc]; exact this
section
variable {α : Type} (f : α → List Value) (m : Nat) (hm : ∀ a, (f a).length = m) {w0 : World} {own : List Nat} {hs : Hp} {b o i : Nat} {l : List α} {z : Int}
include hm
theorem recAt (h : At w0 own hs ⟨b, o, none⟩ (l.flatMap f)) (hi : i < l.length) (hz : z.toNat = i := by omega) : At w0 own hs ⟨b, o + z.toNat * m, none⟩ (f l[i]) := by
  subst hz
  refine at_sub h fun j u hj => ?_
  rw [flatMap_get f m hm l _ j hi (by have := (List.getElem?_eq_some_iff.1 hj).1; rw [hm] at this; exact this)]; exact hj
theorem fldAt (h : At w0 own hs ⟨b, o, none⟩ (l.flatMap f)) (hi : i < l.length) (k : Nat) {v : Value} (hv : (f l[i])[k]? = some v) (hz : z.toNat = i := by omega) : At w0 own hs ⟨b, o + z.toNat * m + k, none⟩ [v] := by
  subst hz
  rw [Nat.add_assoc]
  refine at_sub h fun j u hj => ?_
  match j, hj with
  | 0, hj =>
    simp at hj; subst hj
    rw [Nat.add_zero, flatMap_get f m hm l _ k hi (by have := (List.getElem?_eq_some_iff.1 hv).1; rw [hm] at this; exact this)]; exact hv
theorem Rd.recs {w : World} {no : List Nat} {A : Option Addr} (h : Rd w no A (l.flatMap f)) (h0 : 0 < l.length) (hm0 : 0 < m) : ∃ b o, A = some ⟨b, o, none⟩ ∧ ∀ hs, At w no hs ⟨b, o, none⟩ (l.flatMap f) := by
  obtain ⟨b, o, rfl, -⟩ := h.base (by rw [flatMap_length f m hm]; exact Nat.mul_pos h0 hm0)
  exact ⟨b, o, rfl, fun hs => h.whole⟩
theorem rows_take (k : Nat) : (l.take k).flatMap f = (l.flatMap f).take (k * m) := by
  induction l generalizing k with
  | nil => simp
  | cons v l ih =>
    cases k with
    | zero => simp
    | succ k =>
      have e1 : (f v).take ((k + 1) * m) = f v := List.take_of_length_le (by rw [hm, Nat.succ_mul]; omega)
      have e2 : (k + 1) * m - (f v).length = k * m := by rw [hm, Nat.succ_mul]; omega
      rw [List.take_succ_cons, List.flatMap_cons, List.flatMap_cons, ih, List.take_append, e1, e2]
theorem rows_drop (k : Nat) : (l.drop k).flatMap f = (l.flatMap f).drop (k * m) := by
  induction l generalizing k with
  | nil => simp
  | cons v l ih =>
    cases k with
    | zero => simp
    | succ k =>
      have e1 : (f v).drop ((k + 1) * m) = [] := List.drop_of_length_le (by rw [hm, Nat.succ_mul]; omega)
      have e2 : (k + 1) * m - (f v).length = k * m := by rw [hm, Nat.succ_mul]; omega
      rw [List.drop_succ_cons, List.flatMap_cons, ih, List.drop_append, e1, e2, List.nil_append]
end
theorem rows_ones {α : Type} (f : α → List Value) (h : ∀ a, ones (f a) = true) (l : List α) : ones (l.flatMap f) = true := by
  simp only [ones, List.all_flatMap, List.all_eq_true]
  intro a _ x hx
  exact ones_mem (h a) x hx
/-- a slice that was cut -/
theorem Rd.cut {w : World} {no : List Nat} {A : Option Addr} {vs : List Value} {cap k m : Nat} (h : Rd w no A vs) (hc : vs.length ≤ cap * m) : Rd w no (cutA A cap k m) (vs.drop (k * m)) := by
  intro j v hv
  rw [List.getElem?_drop] at hv
  obtain ⟨b, o, rfl, hb, hv'⟩ := h _ v hv
  have hlt := (List.getElem?_eq_some_iff.1 hv).1
  have hne : cap ≠ k := by intro e; subst e; omega
  unfold cutA
  rw [if_neg hne]
  refine ⟨b, o + k * m, by simp [add_none], hb, ?_⟩
  rw [Nat.add_assoc]; exact hv'
/-- what an own slice holds, loaded -/
theorem OwnS.at0 {w0 : World} {own : List Nat} {E m n n' c b o : Nat} {vs : List Value} {h hs : Hp} (k : OwnS E m (.slice (some ⟨b, o, none⟩) n' c) n vs h) (hh : h ⊆ hs) : At w0 own hs ⟨b, o, none⟩ vs := by
  have := k.atN (i := 0) (w0 := w0) (own := own) hh (us := vs) (fun j v hv => by rw [Nat.zero_add]; exact hv)
  exact this
/-- .. cells of it -/
theorem OwnS.spliceAt {E m n n' c b o i : Nat} {vs l us : List Value} (k : OwnS E m (.slice (some ⟨b, o, none⟩) n' c) n vs [(b, .cells l E)]) (hi : i + us.length ≤ n * m) : OwnS E m (.slice (some ⟨b, o, none⟩) n' c) n (splice vs i us) [(b, .cells (splice l (o + i) us) E)] := by
  obtain ⟨hl, k⟩ := k
  refine ⟨by rw [splice_length _ _ _ (by omega)]; exact hl, ?_⟩
  rcases k with ⟨h1, h2, h3⟩ | ⟨b', o', cap, l', h1, h2, h3, h4, h5⟩
  · cases h3
  · cases h1; cases h2
    have hn := Nat.mul_le_mul_right m h3
    refine .inr ⟨b, o, c, splice l (o + i) us, rfl, rfl, h3, by rw [splice_length _ _ _ (by omega)]; exact h4, ?_⟩
    apply List.ext_getElem?
    intro j
    rw [List.getElem?_take, List.getElem?_drop, splice_get _ _ _ _ (by omega), splice_get _ _ _ _ (by omega), ← h5, List.getElem?_take, List.getElem?_drop]
    by_cases hj : j < n * m
    · rw [if_pos hj, if_pos hj]
      by_cases e1 : j < i
      · rw [if_pos (by omega), if_pos e1]
      · rw [if_neg (by omega), if_neg e1]
        by_cases e2 : j < i + us.length
        · rw [if_pos (by omega), if_pos e2]; congr 1; omega
        · rw [if_neg (by omega), if_neg e2]
    · rw [if_neg hj, if_neg hj, if_neg (by omega), if_neg (by omega)]
/-- one cell of an own slice is turned -/
theorem OwnS.setAt {E m n n' c b o i : Nat} {vs l : List Value} {v : Value} (k : OwnS E m (.slice (some ⟨b, o, none⟩) n' c) n vs [(b, .cells l E)]) (hi : i < n * m) : OwnS E m (.slice (some ⟨b, o, none⟩) n' c) n (vs.set i v) [(b, .cells (l.set (o + i) v) E)] := by
  have h := k.spliceAt (i := i) (us := [v]) (by simp; omega)
  obtain ⟨hl, k⟩ := k
  rcases k with ⟨h1, h2, h3⟩ | ⟨b', o', cap, l', h1, h2, h3, h4, h5⟩
  · cases h3
  · cases h1; cases h2
    have hn := Nat.mul_le_mul_right m h3
    rw [splice_one vs i v (by omega), splice_one l (o + i) v (by omega)] at h
    exact h
theorem OwnS.src {P : Program} {w0 w : World} {own : List Nat} {hs : Hp} {E m n : Nat} {v : Value} {vs : List Value} {h : Hp} (k : OwnS E m v n vs h) (s : Sat w0 own hs w) (hh : h ⊆ hs) (hm : 0 < m) : Src P w m v n vs := by
  obtain ⟨A, c, rfl⟩ := k.slice
  exact (OwnS.rd k s (no := []) hh (by simp)).src k.1 hm
section
variable {P : Program} {n : Nat} {w0 : World} {own : List Nat} {e : Env} {hs : Hp} {ops : Array Oper} {rest l : List Oper} {K : Env → Hp → Prop}
/-- 's = append(s, t...)' -/
theorem JL.appT {s x : Operand} {t u E m by_ c d ty k : Nat} {p : String} {af : Array Edge} {z vs news : List Value} {v xv : Value} {h fr : Hp}
    (hs_ : ev e s = some v) (hx : ev e x = some xv) [ht : SliceT P t E] [hu : SliceT P u E] [hE : El P E m by_ z] (ho : OwnS E m v c vs h) [tk : TakeI h hs fr] (hsrc : ∀ w, Sat w0 own hs w → Src P w m xv k news) (hl : news.length = k * m) (h1 : ones news = true)
    (hb : (c + k) * by_ ≤ 140737488355328) (h63 : c + k ≤ 4611686018427387904) (kk : ∀ v' h', OwnS E m v' (c + k) (vs ++ news) h' → JL P n w0 own ops rest ((d, v') :: e) (h' ++ fr) K) (hd : Nat.blt d n = true := by rfl) :
    JL P n w0 own ops (⟨some d, .call { callee := .builtin .append, args := #[s, x], argTypes := #[t, u] }, ty, p, af, none⟩ :: rest) e hs K :=
  .ef (Eff.append (c := c) (k := k) (vs := vs) (news := news) (h := h) (fr := fr) hs_ hx ho tk.out hsrc hl h1 hb h63) (fun v' _ ⟨h', k', e⟩ => by subst e; exact kk v' h' k') hd rfl
end
/-! ### regions in which two effects may come up in either order -/
section
variable {P : Program} {n : Nat} {w0 : World} {own : List Nat} {e : Env} {hs F : Hp} {K : Env → Hp → Prop} {m : Nat} {listed : Array Bool}
variable {d : Nat} {ty : TypeId} {pos : String} {aft : Array Edge} {g : Option (Nat × Bool)}
/-- the first operations, in an order of ours; then by hand -/
theorem JC.drawX {id : Nat} {Q : Post} {l : List Oper} (is : List Nat) (F : Hp) (hF : F ⊆ hs) (hm : P.follows .mixedOrders = true)
    (hB : (ordB l.toArray (pickL l is) is (Array.replicate l.length false) && Nat.beq (pickL l is).length is.length && Nat.ble is.length l.length) = true)
    (h : JK P n w0 own l.toArray F (pickL l is) e hs (fun e' hs' => JD P n w0 own l.toArray F (l.length - is.length) (marks_ is (Array.replicate l.length false)) e' hs' (fun e hs => Q .normal e hs))) : JC P n w0 own (.region id l.toArray true) e hs Q := by
  rw [Bool.and_eq_true, Bool.and_eq_true] at hB
  obtain ⟨⟨h1, h2⟩, h3⟩ := hB
  have h2 := Nat.eq_of_beq_eq_true h2
  have h3 := Nat.le_of_ble_eq_true h3
  refine JC.draw F hF hm ?_
  have := h (l.length - is.length) is (Array.replicate l.length false) (fun e hs => Q .normal e hs) (pickL_nums is h1 h2) h1 hF (fun e' hs' _ ke => ke)
  rw [h2, show is.length + (l.length - is.length) = l.length by omega] at this
  simpa using this
theorem pickL_nums' {l : List Oper} : ∀ (is : List Nat), (pickL l is).length = is.length → Nums l.toArray (pickL l is) is
  | [], _ => trivial
  | i :: is, hl => by
    unfold pickL at hl ⊢
    cases ho : l[i]? with
    | none => rw [ho] at hl; simp at hl
    | some o =>
      rw [ho] at hl
      simp only at hl ⊢
      exact ⟨by simpa using ho, pickL_nums' is (by simpa using hl)⟩
/-- the others, in an order of ours -/
theorem JD.run {l : List Oper} (is : List Nat) (hF : F ⊆ hs) (hB : (ordB l.toArray (pickL l is) is listed && doneB l.toArray (marks_ is listed) && Nat.beq (pickL l is).length is.length && Nat.beq is.length m) = true)
    (h : JK P n w0 own l.toArray F (pickL l is) e hs K) : JD P n w0 own l.toArray F m listed e hs K := by
  rw [Bool.and_eq_true, Bool.and_eq_true, Bool.and_eq_true] at hB
  obtain ⟨⟨⟨h1, h2⟩, h3⟩, h4⟩ := hB
  have h3 := Nat.eq_of_beq_eq_true h3
  have h4 := Nat.eq_of_beq_eq_true h4
  have := h 0 is listed K (pickL_nums' is h3) h1 hF (fun e' hs' _ ke => JD.done h2 ke)
  rw [h3, h4] at this
  simpa using this
theorem JD.heap {ops : Array Oper} {hs' : Hp} (k : ∀ w, Sat w0 own hs w → Sat w0 own hs' w) (hF : F ⊆ hs') (h : JD P n w0 own ops F m listed e hs' K) : JD P n w0 own ops F m listed e hs K := fun a w hr s _ => h a w hr (k w s) hF
theorem JS.ef {ops : Array Oper} {i : Nat} {op : Op} {R : Value → Hp → Prop} (hi : ops[i]? = some ⟨some d, op, ty, pos, aft, g⟩) (h : Eff P n w0 own e hs op R) (hF : ∀ v hs', R v hs' → F ⊆ hs → F ⊆ hs')
    (k : ∀ v hs', R v hs' → JD P n w0 own ops F m (listed.setIfInBounds i true) ((d, v) :: e) hs' K) (hdn : Nat.blt d n = true := by rfl) (hg : wantB ops e g = some true := by rfl) : JS P n w0 own ops F m listed e hs K i := by
  intro a w hr s hf
  unfold wpOp
  simp only [hi]
  rw [if_pos (wanted_of hr hg)]
  exact .inl (h a w _ _ _ _ _ _ _ hr s fun v' h' w' r s' => ⟨⟨_, s', hF _ _ r hf⟩, k _ _ r _ _ (hr.put (Nat.le_of_ble_eq_true hdn) _) s' (hF _ _ r hf)⟩)
theorem JS.nw {ops : Array Oper} {i : Nat} {op : Op} {c : Ch} (hi : ops[i]? = some ⟨some d, op, ty, pos, aft, g⟩) (h : Eff P n w0 own e hs op (NewP hs c))
    (k : ∀ b, JD P n w0 own ops F m (listed.setIfInBounds i true) ((d, .pointer (some ⟨b, 0, none⟩)) :: e) ((b, c) :: hs) K) (hdn : Nat.blt d n = true := by rfl) (hg : wantB ops e g = some true := by rfl) : JS P n w0 own ops F m listed e hs K i :=
  .ef hi h (fun v h' ⟨b, _, e2⟩ f => by subst e2; exact fun p hp => List.mem_cons_of_mem _ (f hp)) (fun v h' ⟨b, e1, e2⟩ => by subst e1; subst e2; exact k b) hdn hg
theorem JS.cl {ops : Array Oper} {i f : Nat} {fo : Operand} {args : List Operand} {at_ : Array TypeId} {cap vals : List Value} {R : Value → Hp → Prop}
    (hi : ops[i]? = some ⟨some d, .call { callee := .value fo, args := ⟨args⟩, argTypes := at_ }, ty, pos, aft, g⟩) (hf : ev e fo = some (.func (.func f) #[] ⟨cap⟩)) (ha : evs e args = some vals) (hc : ∀ w, Sat w0 own hs w → Does P f (vals ++ cap) [] w R)
    (k : ∀ v h, R v h → JD P n w0 own ops F m (listed.setIfInBounds i true) ((d, v) :: e) (h ++ hs) K) [hg' : FnT P f] (hdn : Nat.blt d n = true := by rfl) (hg : wantB ops e g = some true := by rfl) : JS P n w0 own ops F m listed e hs K i :=
  .ef hi (.call0 hf ha hc) (fun _ _ ⟨_, _, h3⟩ f => by subst h3; exact fun p hp => List.mem_append_right _ (f hp)) (fun v _ ⟨h, h1, h3⟩ => by subst h3; exact k v h h1) hdn hg
theorem JK.nw {ops : Array Oper} {rest : List Oper} {op : Op} {c : Ch} (h : Eff P n w0 own e hs op (NewP hs c)) (kk : ∀ b, JK P n w0 own ops F rest ((d, .pointer (some ⟨b, 0, none⟩)) :: e) ((b, c) :: hs) K)
    (he : isEff ⟨some d, op, ty, pos, aft, g⟩ = true := by rfl) (hdn : Nat.blt d n = true := by rfl) (hg : wantB ops e g = some true := by rfl) : JK P n w0 own ops F (⟨some d, op, ty, pos, aft, g⟩ :: rest) e hs K :=
  .ef h (fun v h' ⟨b, _, e2⟩ f => by subst e2; exact fun p hp => List.mem_cons_of_mem _ (f hp)) (fun v h' ⟨b, e1, e2⟩ => by subst e1; subst e2; exact kk b) he hdn hg
end
/-- a slice of its own, whatever it holds -/
def AnyS (E m : Nat) (v : Value) (n : Nat) (h : Hp) : Prop := ∃ vs, OwnS E m v n vs h
theorem AnyS.sl {E m n : Nat} {v : Value} {h : Hp} (k : AnyS E m v n h) : ∃ A c, v = .slice A n c := by
  obtain ⟨vs, k⟩ := k
  exact k.slice
theorem AnyS.put {E m n c i : Nat} {A : Option Addr} {h : Hp} (k : AnyS E m (.slice A n c) n h) (hi : i < n) : ∃ b o l, A = some ⟨b, o, none⟩ ∧ h = [(b, .cells l E)] ∧ o + n * m ≤ l.length ∧ ∀ us : List Value, us.length = m → AnyS E m (.slice A n c) n [(b, .cells (splice l (o + i * m) us) E)] := by
  obtain ⟨vs, k⟩ := k
  obtain ⟨b, o, l, rfl, -, rfl, hc, hl, hv⟩ := k.some_ (by omega)
  have := Nat.mul_le_mul_right m hc
  have hm : i * m + m ≤ n * m := by rw [← Nat.succ_mul]; exact Nat.mul_le_mul_right m hi
  exact ⟨b, o, l, rfl, rfl, by omega, fun us hu => ⟨_, OwnS.spliceAt (i := i * m) k (by rw [hu]; exact hm)⟩⟩
theorem Sat.apart {w0 w : World} {own : List Nat} {hs a b fr : Hp} (s : Sat w0 own hs w) [h : TakeI (a ++ b) hs fr] : ∀ x ∈ bl a, x ∉ bl b := (s.take (pre := a ++ b)).disj
theorem Rd.blk {w0 w : World} {own : List Nat} {hs : Hp} {b T : Nat} {l : List Value} (s : Sat w0 own hs w) [hb : Mem b (.cells l T) hs] : Rd w [] (some ⟨b, 0, none⟩) l :=
  Rd.chunk s (T := T) (l := l) (by simp) (fun j v hv => by rw [Nat.zero_add]; exact hv)
section
variable {P : Program} {n : Nat} {w0 : World} {own : List Nat} {e : Env} {hs F : Hp} {K : Env → Hp → Prop} {m : Nat} {listed : Array Bool}
variable {d : Nat} {ty : TypeId} {pos : String} {aft : Array Edge} {g : Option (Nat × Bool)}
/-- a call that is lent blocks, where two effects may come up -/
theorem JS.clT {ops : Array Oper} {i f : Nat} {fo : Operand} {args : List Operand} {at_ : Array TypeId} {cap vals : List Value} {R : Value → Hp → Prop} (pre : Hp) {fr : Hp}
    (hi : ops[i]? = some ⟨some d, .call { callee := .value fo, args := ⟨args⟩, argTypes := at_ }, ty, pos, aft, g⟩) (hf : ev e fo = some (.func (.func f) #[] ⟨cap⟩)) (ha : evs e args = some vals) [tk : TakeI pre hs fr] (hc : ∀ w, Sat w0 own hs w → Does P f (vals ++ cap) pre w R)
    (hF : ∀ h, F ⊆ h ++ fr) (k : ∀ v h, R v h → JD P n w0 own ops F m (listed.setIfInBounds i true) ((d, v) :: e) (h ++ fr) K) [hg' : FnT P f] (hdn : Nat.blt d n = true := by rfl) (hg : wantB ops e g = some true := by rfl) : JS P n w0 own ops F m listed e hs K i :=
  .ef hi (.callT pre hf ha hc) (fun _ _ ⟨h, _, h3⟩ f => by subst h3; exact hF h) (fun v _ ⟨h, h1, h3⟩ => by subst h3; exact k v h h1) hdn hg
theorem JK.clT {ops : Array Oper} {rest : List Oper} {f : Nat} {fo : Operand} {args : List Operand} {at_ : Array TypeId} {cap vals : List Value} {R : Value → Hp → Prop} (pre : Hp) {fr : Hp}
    (hf : ev e fo = some (.func (.func f) #[] ⟨cap⟩)) (ha : evs e args = some vals) [tk : TakeI pre hs fr] (hc : ∀ w, Sat w0 own hs w → Does P f (vals ++ cap) pre w R) (hF : ∀ h, F ⊆ h ++ fr) (kk : ∀ v h, R v h → JK P n w0 own ops F rest ((d, v) :: e) (h ++ fr) K) [hg : FnT P f]
    (hdn : Nat.blt d n = true := by rfl) (hw : wantB ops e g = some true := by rfl) :
    JK P n w0 own ops F (⟨some d, .call { callee := .value fo, args := ⟨args⟩, argTypes := at_ }, ty, pos, aft, g⟩ :: rest) e hs K :=
  JK.ef (.callT pre hf ha hc) (fun _ _ ⟨h, _, h3⟩ f => by subst h3; exact hF h) (fun v _ ⟨h, h1, h3⟩ => by subst h3; exact kk v h h1) rfl hdn hw
end
end V
end Go

/- VC: maps whose keys are numbers, further: look-up with 'ok', delete, len, a range over them; max. -/
namespace Go
namespace V
open Go.RowKit
set_option linter.unusedVariables false
set_option linter.unusedSimpArgs false

abbrev ME.born (x : ME) : Nat := x.2.2
/-- the map behind a deletion -/
def mdel (k : Int) (es : List ME) : List ME := match mfind k es 0 with
  | some (i, _) => es.eraseIdx i
  | none => es
abbrev iter_ (m since : Nat) (seen : List Nat) (last : Nat) : Ch := .obj (.mapIter (some m) since ⟨seen⟩ last)
section
variable {P : Program} {n : Nat} {w0 : World} {own : List Nat} {e : Env} {hs : Hp}
theorem Val.lookup2 {T kT eT b c : Nat} {q : IntKind} {k : Int} {x y : Operand} {es : List ME} {z : Value} (hx : ev e x = some (.map (some b))) (hy : ev e y = some (.int q k)) [hT : MapT P T kT eT] [hk : IntT P kT q] [hz : ZrV P eT z]
    [hb : Mem b (.obj (mapOf q es c)) hs] : Val P n w0 own e hs (.lookup T x y true) (.tuple ⟨[(mget k es).getD z, .bool (mget k es).isSome]⟩) := fun a w ty pos aft g d hr s => by
  obtain ⟨i, hi, hzz⟩ := hz.out
  have h1 := s.mrow hb.out
  have h1' : w.heap[b]? = some (.map ⟨es.map (mentry q)⟩ c) := h1
  have key : (Instr.lookup T (.map (some b)) (.int q k) true).run P w = .ok (.tuple ⟨[(mget k es).getD z, .bool (mget k es).isSome]⟩) w := by
    unfold Instr.lookup
    simp [run_underlying hT.out, MapKept.run_getObj_map h1', run_checkKey_int hk.out, run_findKey_int hk.out]
    unfold mget
    cases mfind k es 0 with
    | none => simp [zeroValue, typeInfo, hi, hzz]
    | some p => simp
  simp [execOp, hr.eval hx, hr.eval hy, key]
theorem Val.lookup2E {T kT eT b c : Nat} {q : IntKind} {k : Int} {x y : Operand} {es : List ME} {z v : Value} {ok : Bool} (hx : ev e x = some (.map (some b))) (hy : ev e y = some (.int q k)) [hT : MapT P T kT eT] [hk : IntT P kT q] [hz : ZrV P eT z]
    [hb : Mem b (.obj (mapOf q es c)) hs] (hv : (mget k es).getD z = v) (ho : (mget k es).isSome = ok) : Val P n w0 own e hs (.lookup T x y true) (.tuple ⟨[v, .bool ok]⟩) := hv ▸ ho ▸ Val.lookup2 hx hy
theorem Eff.del {T kT eT uT b c : Nat} {q : IntKind} {k : Int} {x y : Operand} {es : List ME} {hs' : Hp} (hx : ev e x = some (.map (some b))) (hy : ev e y = some (.int q k)) [hT : MapT P T kT eT] [hk : IntT P kT q]
    [hb : Mem b (.obj (mapOf q es c)) hs] [u : UpdI b (.obj (mapOf q (mdel k es) c)) hs hs'] : Eff P n w0 own e hs (.call { callee := .builtin .delete, args := #[x, y], argTypes := #[T, uT] }) (fun v h => v = .tuple ⟨[]⟩ ∧ h = hs') :=
  Eff.of_run fun a w ty pos aft g d hr s => by
    have h1 := s.mrow hb.out
    have h1' : w.heap[b]? = some (.map ⟨es.map (mentry q)⟩ c) := h1
    have hlt : b < w.heap.size := (Array.getElem?_eq_some_iff.1 h1').1
    have key : (Builtin.delete_ #[T, uT] ty #[.map (some b), .int q k]).run P w = .ok (.tuple #[]) { w with heap := w.heap.setIfInBounds b (mapOf q (mdel k es) c) } := by
      unfold Builtin.delete_
      cases hf : mfind k es 0 with
      | none =>
        simp [run_underlying hT.out, MapKept.run_getObj_map h1', run_checkKey_int hk.out, run_findKey_int hk.out, hf, MapKept.run_setObj_map _ h1', mdel, mapOf]
      | some p =>
        obtain ⟨i, v0⟩ := p
        obtain ⟨_, y0, g1, g2, _⟩ := mfind_key k es 0 i v0 hf
        have hi : i < es.length := by have := (List.getElem?_eq_some_iff.1 g1).1; omega
        simp [run_underlying hT.out, MapKept.run_getObj_map h1', run_checkKey_int hk.out, run_findKey_int hk.out, hf, MapKept.run_setObj_map _ h1', mdel, mapOf, Array.eraseIdxIfInBounds, hi]
        congr 2
        apply Array.ext'
        apply List.ext_getElem?
        intro m
        simp only [List.getElem?_eraseIdx, List.getElem?_map]
        split <;> rfl
    refine ⟨.tuple ⟨[]⟩, hs', { w with heap := w.heap.setIfInBounds b (mapOf q (mdel k es) c) }, ?_, ⟨rfl, rfl⟩, ?_⟩
    · simp [execOp, hr.eval hx, hr.eval hy, resolve, invoke, builtin, key]
    · refine s.upd u.out ?_ ?_ ?_ rfl rfl rfl
      · simp
      · intro i hi
        simp [Array.getElem?_setIfInBounds, Ne.symm hi]
      · simp [Array.getElem?_setIfInBounds, hlt, Ch.toObj]
theorem Val.lenM {T kT eT b c : Nat} {q : IntKind} {x : Operand} {es : List ME} (hx : ev e x = some (.map (some b))) [hT : MapT P T kT eT] [hb : Mem b (.obj (mapOf q es c)) hs] :
    Val P n w0 own e hs (.call { callee := .builtin .len, args := #[x], argTypes := #[T] }) (.int .i64 es.length) := fun a w ty pos aft g d hr s => by
  have h1 := s.mrow hb.out
  have h1' : w.heap[b]? = some (.map ⟨es.map (mentry q)⟩ c) := h1
  have hu := hT.out
  simp [execOp, hr.eval hx, resolve, invoke, builtin, Builtin.len_, run_underlying hu, goInt, MapKept.run_getObj_map h1']
theorem Val.max2 {x y : Operand} {q : IntKind} {i j : Int} {ts : Array TypeId} (hx : ev e x = some (.int q i)) (hy : ev e y = some (.int q j)) :
    Val P n w0 own e hs (.call { callee := .builtin .max, args := #[x, y], argTypes := ts }) (.int q (max i j)) := fun a w ty pos aft g d hr s => by
  simp [execOp, hr.eval hx, hr.eval hy, resolve, invoke, builtin, Builtin.max_, Builtin.max2]
  by_cases h : i < j
  · simp [h]; omega
  · simp [h]; omega
theorem Eff.range {T kT eT b c : Nat} {q : IntKind} {x : Operand} {es : List ME} (hx : ev e x = some (.map (some b))) [hT : MapT P T kT eT] [hb : Mem b (.obj (mapOf q es c)) hs] :
    Eff P n w0 own e hs (.range T x) (NewP hs (iter_ b c [] c)) :=
  Eff.of_run fun a w ty pos aft g d hr s => by
    have h1 := s.mrow hb.out
    have h1' : w.heap[b]? = some (.map ⟨es.map (mentry q)⟩ c) := h1
    refine ⟨.pointer (some ⟨w.heap.size, 0, none⟩), _, w.alloc (.mapIter (some b) c #[] c), ?_, ⟨w.heap.size, rfl, rfl⟩, s.new (iter_ b c [] c)⟩
    have key : (Instr.range T (.map (some b))).run P w = .ok (.pointer (some ⟨w.heap.size, 0, none⟩)) (w.alloc (.mapIter (some b) c #[] c)) := by
      unfold Instr.range
      simp [run_underlying hT.out, MapKept.run_getObj_map h1', run_newObj_alloc]
    simp [execOp, hr.eval hx, key]
theorem left_nil {q : IntKind} {es : List ME} {seen : List Nat} : (leftOf ⟨es.map (mentry q)⟩ ⟨seen⟩).size = 0 ↔ ∀ x ∈ es, x.born ∈ seen := by
  unfold leftOf
  rw [Array.size_eq_zero_iff, Array.filter_eq_empty_iff]
  constructor
  · intro h x hx
    have := h (mentry q x) (by simp; exact ⟨_, _, _, hx, rfl⟩)
    simpa [mentry] using this
  · intro h y hy
    simp at hy
    obtain ⟨a, b, c, hx, rfl⟩ := hy
    simpa [mentry] using h _ hx
theorem Eff.next {r b since last c : Nat} {q : IntKind} {x : Operand} {es : List ME} {seen : List Nat} {fr : Hp} (hx : ev e x = some (.pointer (some ⟨r, 0, none⟩))) [hr_ : Rem (r, iter_ b since seen last) hs fr] [hb : Mem b (.obj (mapOf q es c)) hs]
    (hold : ∀ y ∈ es, y.born < since) (hl : since ≤ last) :
    Eff P n w0 own e hs (.next x false) (fun v h => (v = .tuple ⟨[.bool false]⟩ ∧ (∀ y ∈ es, y.born ∈ seen) ∧ h = hs) ∨
      ∃ y ∈ es, y.born ∉ seen ∧ v = .tuple ⟨[.bool true, .int q y.1, y.2.1]⟩ ∧ h = (r, iter_ b since (seen ++ [y.born]) c) :: fr) :=
  Eff.of_run fun a w ty pos aft g d hr s => by
    have h1 := s.mrow hb.out
    have h1' : w.heap[b]? = some (.map ⟨es.map (mentry q)⟩ c) := h1
    have hrr : w.heap[r]? = some (.mapIter (some b) since ⟨seen⟩ last) := s.has r _ (hr_.out.mem_iff.2 List.mem_cons_self)
    have hlt : r < w.heap.size := (Array.getElem?_eq_some_iff.1 hrr).1
    rcases run_next_at (P := P) w ty r b since last ⟨seen⟩ ⟨es.map (mentry q)⟩ c hrr h1' (by
      intro y hy
      simp at hy
      obtain ⟨a, b, c, hm, rfl⟩ := hy
      exact hold _ hm) hl with ⟨h0, hrun⟩ | ⟨y, hy, w1, hw1, hrun⟩
    · exact ⟨_, hs, w, by simp [execOp, hr.eval hx, hrun], .inl ⟨rfl, left_nil.1 h0, rfl⟩, s⟩
    · unfold leftOf at hy
      simp at hy
      obtain ⟨⟨a1, a2, a3, hm, rfl⟩, hns⟩ := hy
      have hpu : (⟨seen⟩ : Array Nat).push (mentry q (a1, a2, a3)).born = ⟨seen ++ [a3]⟩ := by apply Array.ext'; simp [mentry]
      rw [hpu] at hrun
      have s1 : Sat w0 own hs w1 := by rcases hw1 with rfl | rfl; exact s; exact s.drew
      have s2 := (s1.perm hr_.out).upd (w' := ChangeMaps.setBlock w1 r (.mapIter (some b) since ⟨seen ++ [a3]⟩ c)) (c := iter_ b since (seen ++ [a3]) c) (.head) (by simp [ChangeMaps.setBlock]) (fun i hi => by simp [ChangeMaps.setBlock, Array.getElem?_setIfInBounds, Ne.symm hi]) (by
        have hlt1 : r < w1.heap.size := by rcases hw1 with rfl | rfl <;> exact hlt
        simp [ChangeMaps.setBlock, Array.getElem?_setIfInBounds, hlt1, Ch.toObj]) rfl rfl rfl
      exact ⟨_, _, _, by simp [execOp, hr.eval hx, hrun, mentry], .inr ⟨(a1, a2, a3), hm, by simpa [mentry] using hns, rfl, rfl⟩, s2⟩
theorem Val.entry {r b since c : Nat} {q : IntKind} {x : Operand} {es : List ME} {seen : List Nat} {y : ME} (hx : ev e x = some (.pointer (some ⟨r, 0, none⟩))) [hr_ : Mem r (iter_ b since (seen ++ [y.born]) c) hs] [hb : Mem b (.obj (mapOf q es c)) hs]
    (hy : y ∈ es) (hn : (es.map ME.born).Nodup) : Val P n w0 own e hs (.entry x) (.tuple ⟨[.int q y.1, y.2.1]⟩) := fun a w ty pos aft g d hr s => by
  have h1 := s.mrow hb.out
  have h1' : w.heap[b]? = some (.map ⟨es.map (mentry q)⟩ c) := h1
  have hrr : w.heap[r]? = some (.mapIter (some b) since ⟨seen ++ [y.born]⟩ c) := s.has r _ hr_.out
  have hpu : (⟨seen ++ [y.born]⟩ : Array Nat) = (⟨seen⟩ : Array Nat).push (mentry q y).born := by apply Array.ext'; simp [mentry]
  rw [hpu] at hrr
  have := run_entry_at (P := P) w r b since ⟨seen⟩ ⟨es.map (mentry q)⟩ c (mentry q y) hrr h1' (by simp; exact ⟨_, _, _, hy, rfl⟩) (by
    simpa [List.map_map, Function.comp_def, mentry] using hn)
  simp [execOp, hr.eval hx, this, mentry]
end
section
variable {P : Program} {n : Nat} {w0 : World} {own : List Nat} {e : Env} {hs F : Hp} {ops : Array Oper} {rest : List Oper} {K : Env → Hp → Prop}
variable {d : Nat} {ty : TypeId} {pos : String} {aft : Array Edge} {g : Option (Nat × Bool)}
/-- what works on memory and leaves nothing, when it is alone -/
theorem JK.ef0 {op : Op} {R : Value → Hp → Prop} (h : Eff P n w0 own e hs op R) (hF : ∀ v hs', R v hs' → F ⊆ hs → F ⊆ hs') (kk : ∀ v hs', R v hs' → JK P n w0 own ops F rest e hs' K)
    (hE : isEff ⟨none, op, ty, pos, aft, g⟩ = true := by rfl) (hg : wantB ops e g = some true := by rfl) : JK P n w0 own ops F (⟨none, op, ty, pos, aft, g⟩ :: rest) e hs K := by
  intro m is listed Z h1 h2 h3 hz
  cases is with
  | nil => exact h1.elim
  | cons k is =>
  obtain ⟨h0, h1⟩ := h1
  unfold ordB at h2
  rw [Bool.and_eq_true, Bool.or_eq_true, Bool.and_eq_true] at h2
  rw [show (⟨none, op, ty, pos, aft, g⟩ :: rest : List Oper).length + m = (rest.length + m) + 1 from by simp; omega]
  rcases h2.1 with ho | ⟨hn, _⟩
  · exact JD.ef0 k h0 ho h (fun v hs' r => kk v hs' r m is _ Z h1 h2.2 (hF v hs' r h3) hz) hF hg
  · rw [hE] at hn; cases hn
theorem JY.nw {z : Nat} {late : Bool} {K' : Bool → Env → Hp → Prop} {op : Op} {c : Ch} (h : Eff P n w0 own e hs op (NewP hs c)) (kk : ∀ b, JY P n w0 own ops F z late rest ((d, .pointer (some ⟨b, 0, none⟩)) :: e) ((b, c) :: hs) K')
    (hE : isEff ⟨some d, op, ty, pos, aft, g⟩ = true := by rfl) (hdn : Nat.blt d n = true := by rfl) (hg : wantB ops e g = some true := by rfl) (hzo : ((ops[z]?).map (·.dst.isNone)) = some true := by rfl) : JY P n w0 own ops F z late (⟨some d, op, ty, pos, aft, g⟩ :: rest) e hs K' :=
  .ef h (fun v h' ⟨b, _, e2⟩ f => by subst e2; exact fun p hp => List.mem_cons_of_mem _ (f hp)) (fun v h' ⟨b, e1, e2⟩ => by subst e1; subst e2; exact kk b) hE hdn hg hzo
/-- a record stored into a record -/
theorem Eff.storeR {T m b o U : Nat} {x y : Operand} {vs l : List Value} {hs' : Hp} (l' : List Value) (hx : ev e x = some (.pointer (some ⟨b, o, none⟩))) (hy : ev e y = some (.agg ⟨vs⟩)) [hT : Sz P T m] [hb : Mem b (.cells l U) hs]
    [u : UpdI b (.cells l' U) hs hs'] (hm : vs.length = m := by rfl) (h1 : ones vs = true := by rfl) (ho : Nat.ble (o + vs.length) l.length = true := by rfl) (hl : splice l o vs = l' := by rfl) : Eff P n w0 own e hs (.store T x y) (fun v h => v = undef ∧ h = hs') := by
  subst hl
  exact Eff.storeA hx hy hm h1 (Nat.le_of_ble_eq_true ho)
end
end V
end Go

/- VMA: maps whose keys are numbers, told as functions. -/
namespace Go
namespace V
open Go.RowKit
set_option linter.unusedVariables false
set_option linter.unusedSimpArgs false

theorem mfind_none (k : Int) : ∀ (es : List ME) (i : Nat), mfind k es i = none ↔ ∀ y ∈ es, y.1 ≠ k
  | [], i => by simp [mfind]
  | x :: es, i => by
    unfold mfind
    cases hk : k == x.1 with
    | true =>
      have := beq_iff_eq.1 hk
      simp only [if_true, reduceCtorEq, List.mem_cons, false_iff]
      exact fun h => h x (.inl rfl) this.symm
    | false =>
      have hne : x.1 ≠ k := fun e => by rw [e] at hk; simp at hk
      simp only [Bool.false_eq_true, if_false, List.mem_cons]
      rw [mfind_none k es (i + 1)]
      exact ⟨fun h y hy => by rcases hy with rfl | hy; exact hne; exact h y hy, fun h y hy => h y (.inr hy)⟩
theorem mfind_app (k : Int) : ∀ (a b : List ME) (i : Nat), mfind k (a ++ b) i = match mfind k a i with | some x => some x | none => mfind k b (i + a.length)
  | [], b, i => by simp [mfind]
  | x :: a, b, i => by
    simp only [List.cons_append, mfind]
    cases hk : k == x.1 with
    | true => simp
    | false => simp only [Bool.false_eq_true, if_false]; rw [mfind_app k a b (i + 1), List.length_cons, show i + 1 + a.length = i + (a.length + 1) from by omega]
/-- each key once, each birth once, all of them past -/
structure MOk (es : List ME) (c : Nat) : Prop where
  k : (es.map (·.1)).Nodup
  b : (es.map (·.2.2)).Nodup
  c : ∀ y ∈ es, y.2.2 < c
theorem MOk.nil : MOk [] 0 := ⟨by simp, by simp, by simp⟩
theorem mget_eq (k : Int) : ∀ (es : List ME), mget k es = (es.find? fun y => k == y.1).map (·.2.1) := by
  intro es
  unfold mget
  suffices h : ∀ (es : List ME) (i : Nat), (mfind k es i).map (·.2) = (es.find? fun y => k == y.1).map (·.2.1) from h es 0
  intro es
  induction es with
  | nil => intro i; simp [mfind]
  | cons x es ih =>
    intro i
    unfold mfind
    rw [List.find?_cons]
    cases hk : k == x.1 with
    | true => simp
    | false => simpa using ih (i + 1)
theorem mget_none {k : Int} {es : List ME} : mget k es = none ↔ ∀ y ∈ es, y.1 ≠ k := by
  unfold mget
  rw [Option.map_eq_none_iff]
  exact mfind_none k es 0
theorem mget_some {k : Int} {es : List ME} {v : Value} (h : mget k es = some v) : ∃ y ∈ es, y.1 = k ∧ y.2.1 = v := by
  rw [mget_eq] at h
  cases hf : es.find? (fun y => k == y.1) with
  | none => rw [hf] at h; cases h
  | some y =>
    rw [hf] at h
    have h1 := List.find?_some hf
    exact ⟨y, List.mem_of_find?_eq_some hf, (beq_iff_eq.1 h1).symm, by simpa using h⟩
theorem nodup_inj {α β : Type} {f : α → β} : ∀ {l : List α}, (l.map f).Nodup → ∀ {x y : α}, x ∈ l → y ∈ l → f x = f y → x = y
  | [], _, x, y, hx, _, _ => by cases hx
  | a :: l, h, x, y, hx, hy, e => by
    simp only [List.map_cons, List.nodup_cons] at h
    rcases List.mem_cons.1 hx with hx1 | hx1 <;> rcases List.mem_cons.1 hy with hy1 | hy1
    · rw [hx1, hy1]
    · exact absurd (List.mem_map.2 ⟨y, hy1, by rw [← e, hx1]⟩) h.1
    · exact absurd (List.mem_map.2 ⟨x, hx1, by rw [e, hy1]⟩) h.1
    · exact nodup_inj h.2 hx1 hy1 e
theorem MOk.get {es : List ME} {c : Nat} (h : MOk es c) {y : ME} (hy : y ∈ es) : mget y.1 es = some y.2.1 := by
  cases hg : mget y.1 es with
  | none => exact absurd rfl (mget_none.1 hg y hy)
  | some v =>
    obtain ⟨z, hz, e1, e2⟩ := mget_some hg
    have := nodup_inj h.k hz hy e1
    subst this
    rw [← e2]
theorem mset_old {k : Int} {v u : Value} {es : List ME} {c i : Nat} (h : mfind k es 0 = some (i, u)) : mset k v es c = (es.modify i fun x => (k, v, x.2.2), c) := by
  unfold mset; rw [h]
theorem mset_new {k : Int} {v : Value} {es : List ME} {c : Nat} (h : mfind k es 0 = none) : mset k v es c = (es ++ [(k, v, c)], c + 1) := by
  unfold mset; rw [h]
theorem mfind_split {k : Int} {es : List ME} {i : Nat} {u : Value} (h : mfind k es 0 = some (i, u)) : ∃ x, es = es.take i ++ x :: es.drop (i + 1) ∧ x.1 = k ∧ i < es.length ∧ ∀ f : ME → ME, es.modify i f = es.take i ++ f x :: es.drop (i + 1) := by
  obtain ⟨_, x, h1, h2, h3⟩ := mfind_key k es 0 i u h
  rw [Nat.sub_zero] at h1
  obtain ⟨hi, rfl⟩ := List.getElem?_eq_some_iff.1 h1
  exact ⟨es[i], by rw [← List.drop_eq_getElem_cons hi, List.take_append_drop], h2, hi, fun f => List.modify_eq_take_cons_drop hi⟩
theorem MOk.set {es : List ME} {c : Nat} (h : MOk es c) (k : Int) (v : Value) : MOk (mset k v es c).1 (mset k v es c).2 := by
  cases hf : mfind k es 0 with
  | none =>
    rw [mset_new hf]
    have hn := (mfind_none k es 0).1 hf
    refine ⟨?_, ?_, ?_⟩
    · simp only [List.map_append, List.map_cons, List.map_nil]
      rw [List.nodup_append]
      refine ⟨h.k, by simp, fun a ha b hb => ?_⟩
      simp at hb; subst hb
      obtain ⟨y, hy, rfl⟩ := List.mem_map.1 ha
      exact hn y hy
    · simp only [List.map_append, List.map_cons, List.map_nil]
      rw [List.nodup_append]
      refine ⟨h.b, by simp, fun a ha b hb => ?_⟩
      simp at hb; subst hb
      obtain ⟨y, hy, rfl⟩ := List.mem_map.1 ha
      have := h.c y hy; omega
    · intro y hy
      rcases List.mem_append.1 hy with hy | hy
      · exact Nat.lt_succ_of_lt (h.c y hy)
      · simp at hy; subst hy; exact Nat.lt_succ_self _
  | some x =>
    obtain ⟨i, u⟩ := x
    rw [mset_old hf]
    obtain ⟨x, e1, e2, _, e3⟩ := mfind_split hf
    dsimp only
    rw [e3]
    have hk := h.k
    have hb := h.b
    rw [e1] at hk hb
    refine ⟨?_, ?_, fun y hy => ?_⟩
    · simp only [List.map_append, List.map_cons] at hk ⊢
      rw [← e2]; exact hk
    · simp only [List.map_append, List.map_cons] at hb ⊢
      exact hb
    · rcases List.mem_append.1 hy with hy | hy
      · exact h.c y (List.mem_of_mem_take hy)
      · rcases List.mem_cons.1 hy with rfl | hy
        · exact h.c x (by rw [e1]; simp)
        · exact h.c y (List.mem_of_mem_drop hy)
theorem mget_set (j k : Int) (v : Value) (es : List ME) (c : Nat) : mget j (mset k v es c).1 = if j = k then some v else mget j es := by
  cases hf : mfind k es 0 with
  | none =>
    rw [mset_new hf]
    have hn := (mfind_none k es 0).1 hf
    rw [mget_eq, mget_eq, List.find?_append]
    by_cases e : j = k
    · subst e
      rw [if_pos rfl, List.find?_eq_none.2 (fun y hy => by have := hn y hy; simp [Ne.symm this])]
      simp
    · rw [if_neg e]
      have : (j == k) = false := by simpa using e
      simp [List.find?_cons, this]
  | some x =>
    obtain ⟨i, u⟩ := x
    rw [mset_old hf]
    obtain ⟨x, e1, e2, _, e3⟩ := mfind_split hf
    dsimp only
    rw [e3, mget_eq, mget_eq]
    have hnb : ∀ y ∈ es.take i, y.1 ≠ k := by
      intro y hy e
      have hfirst : mfind k (es.take i ++ x :: es.drop (i + 1)) 0 = some (i, u) := by rw [← e1]; exact hf
      rw [mfind_app] at hfirst
      cases h0 : mfind k (es.take i) 0 with
      | none => exact (mfind_none k _ 0).1 h0 y hy e
      | some z =>
        rw [h0] at hfirst
        have hz : z = (i, u) := Option.some.inj hfirst
        subst hz
        obtain ⟨_, y', h1, _⟩ := mfind_key k _ 0 i u h0
        have := (List.getElem?_eq_some_iff.1 h1).1
        simp at this
        omega
    by_cases e : j = k
    · subst e
      rw [if_pos rfl, List.find?_append, List.find?_eq_none.2 (fun y hy => by have := hnb y hy; simp [Ne.symm this])]
      simp
    · rw [if_neg e]
      have h1 : (j == k) = false := by simpa using e
      have h2 : (j == x.1) = false := by rw [e2]; exact h1
      conv => rhs; rw [e1]
      rw [List.find?_append, List.find?_append, List.find?_cons, List.find?_cons, h1, h2]
theorem mset_len (k : Int) (v : Value) (es : List ME) (c : Nat) : (mset k v es c).1.length = es.length + if (mget k es).isSome then 0 else 1 := by
  unfold mget
  cases hf : mfind k es 0 with
  | none => rw [mset_new hf]; simp
  | some x => obtain ⟨i, u⟩ := x; rw [mset_old hf]; simp
theorem MOk.del {es : List ME} {c : Nat} (h : MOk es c) (k : Int) : MOk (mdel k es) c := by
  unfold mdel
  cases mfind k es 0 with
  | none => exact h
  | some x => exact ⟨h.k.sublist ((List.eraseIdx_sublist _ _).map _), h.b.sublist ((List.eraseIdx_sublist _ _).map _), fun y hy => h.c y ((List.eraseIdx_sublist _ _).subset hy)⟩
theorem mget_del {es : List ME} {c : Nat} (h : MOk es c) (j k : Int) : mget j (mdel k es) = if j = k then none else mget j es := by
  unfold mdel
  cases hf : mfind k es 0 with
  | none =>
    by_cases e : j = k
    · subst e; rw [if_pos rfl, mget_none]; exact (mfind_none j es 0).1 hf
    · rw [if_neg e]
  | some x =>
    obtain ⟨i, u⟩ := x
    obtain ⟨x, e1, e2, hi, _⟩ := mfind_split hf
    dsimp only
    rw [List.eraseIdx_eq_take_drop_succ]
    by_cases e : j = k
    · subst e
      rw [if_pos rfl, mget_none]
      intro y hy hy'
      have hyes : y ∈ es := by
        rcases List.mem_append.1 hy with hy | hy
        · exact List.mem_of_mem_take hy
        · exact List.mem_of_mem_drop hy
      have hk := h.k
      rw [e1, List.map_append, List.map_cons, List.nodup_append] at hk
      obtain ⟨_, k2, k3⟩ := hk
      rcases List.mem_append.1 hy with hy | hy
      · exact k3 y.1 (List.mem_map.2 ⟨y, hy, rfl⟩) x.1 (by simp) (by rw [hy', e2])
      · have := (List.nodup_cons.1 k2).1
        exact this (List.mem_map.2 ⟨y, hy, by rw [hy', e2]⟩)
    · rw [if_neg e, mget_eq, mget_eq]
      have h2 : (j == x.1) = false := by rw [e2]; simpa using e
      conv => rhs; rw [e1]
      rw [List.find?_append, List.find?_append, List.find?_cons, h2]
theorem mdel_len {es : List ME} (k : Int) : (mdel k es).length = es.length - if (mget k es).isSome then 1 else 0 := by
  unfold mdel mget
  cases hf : mfind k es 0 with
  | none => simp
  | some x =>
    obtain ⟨i, u⟩ := x
    obtain ⟨x, e1, e2, hi, _⟩ := mfind_split hf
    simp [List.length_eraseIdx, hi]
end V
end Go
