/- Sides of a book: lists of resting orders; the document's twice and sorted. -/
import Derived.Test.YtmfobfamdaajmaaQRest
namespace Go.Proofs.Ytmfobfamdaajmaa
open Go.V
set_option linter.unusedVariables false
set_option linter.unusedSimpArgs false

structure Ord where
  id : Int
  mb : Int
  ty : Int
  pr : Int
  v : Int
  hd : Int
  pk : Int
def Ord.cells (o : Ord) : List Value := rcells o.id o.mb o.ty o.pr o.v o.hd o.pk
def rows (l : List Ord) : List Value := l.flatMap Ord.cells
theorem rows_length (l : List Ord) : (rows l).length = l.length * 7 := flatMap_length _ 7 (fun _ => rfl) l
theorem rows_get (l : List Ord) (i j : Nat) (hi : i < l.length) (hj : j < 7) : (rows l)[i * 7 + j]? = (l[i].cells)[j]? := flatMap_get _ 7 (fun _ => rfl) l i j hi hj
/-- an order's field, where a side is read -/
theorem Rd.ord {w : World} {no : List Nat} {A : Option Addr} {l : List Ord} (h : Rd w no A (rows l)) (hn : 0 < l.length) :
    ∃ b o, A = some ⟨b, o, none⟩ ∧ b ∉ no ∧ ∀ (i : Nat) (hi : i < l.length) (j : Nat) (v : Value), j < 7 → (l[i].cells)[j]? = some v → w.cell? ⟨b, o + i * 7 + j, none⟩ = some v := by
  obtain ⟨b, o, e, hb, hc⟩ := h.base (by rw [rows_length]; omega)
  refine ⟨b, o, e, hb, fun i hi j v hj hv => ?_⟩
  have := hc (i * 7 + j) v (by rw [rows_get l i j hi hj]; exact hv)
  rw [Nat.add_assoc]; exact this
def bet (s p q : Int) : Bool := if s = 1 then decide (q < p) else decide (p < q)
/-- no number stands twice -/
def Dist (l : List Ord) : Prop := ∀ i, (hi : i < l.length) → ∀ j, (hj : j < i) → l[i].id ≠ l[j].id
instance (l : List Ord) : Decidable (Dist l) := by unfold Dist; infer_instance
/-- in their priority, as far as prices tell -/
def Srt (s : Int) (l : List Ord) : Prop := ∀ i, (hi : i < l.length) → 0 < i → bet s l[i].pr l[i - 1].pr = false
instance (s : Int) (l : List Ord) : Decidable (Srt s l) := by unfold Srt; infer_instance
set_option maxRecDepth 10000 in
theorem twice_ok (w : World) (A : Option Addr) (len cap : Nat) (l : List Ord) (hx : Rd w [] A (rows l)) (hl : len = l.length) (hb : len ≤ 2513169434843) :
    Is Try.prog 35 [.slice A len cap] w (.bool (!decide (Dist l))) := by
  refine Does.pure (Does.of (n := 27) Try.func35 rfl rfl rfl rfl ?_)
  refine .seq ((.region (.v (.assign rfl) (.nil ?_))))
  refine .seq (.seq ((.region (.v (.assign rfl) (.nil ?_)))))
  refine .block (.loop (X := Nat) (fun i => [(0, .slice A len cap), (3, .int .i64 i)]) (fun i => []) (fun i => i ≤ len ∧ ∀ m, (hm : m < l.length) → m < i → ∀ j, (hj : j < m) → l[m].id ≠ l[j].id) (fun i => len - i) 0 ⟨by omega, fun m _ hm => by omega⟩
    (.cons rfl (.cons rfl (.nil _))) (fun _ s => s) ?_)
  rintro i ⟨hi, hI⟩
  refine .seq (.seq ((.region (.v (.move rfl) (.v (.move rfl) (.v (.len rfl) (.v (.lss rfl rfl) (.nil ?_))))))))
  refine .cond_dec rfl (fun h1 => .skip ?_) (fun h1 => .exit ?_)
  · have hil : i < l.length := by omega
    obtain ⟨b, o, rfl, -, hc⟩ := Rd.ord hx (by omega)
    refine .seq (.block (.seq ((.region (.v (.assign rfl) (.nil ?_))))))
    refine .block (.loop (X := Nat) (fun j => [(0, .slice (some ⟨b, o, none⟩) len cap), (3, .int .i64 i), (4, .int .i64 j)]) (fun j => []) (fun j => j ≤ i ∧ ∀ m, (hm : m < j) → (hm2 : m < l.length) → l[i].id ≠ l[m].id) (fun j => i - j) 0 ⟨by omega, fun m hm => by omega⟩
      (.cons rfl (.cons rfl (.cons rfl (.nil _)))) (fun _ s => s) ?_)
    rintro j ⟨hj, hJ⟩
    refine .seq (.seq ((.region (.v (.move rfl) (.v (.move rfl) (.v (.lss rfl rfl) (.nil ?_)))))))
    refine .cond_dec rfl (fun h2 => .skip ?_) (fun h2 => .exit ?_)
    · have hji : j < l.length := by omega
      refine .seq (.block (.seq ((.drawS (by kernel_rfl) (by kernel_rfl) (.v (.move rfl) (.v (.move rfl) (.v (.indexAddr rfl rfl (by omega) (by omega)) (.v (.fieldAddr rfl) (.v (.load (v := .int .u64 l[i].id) rfl (.old1 (by rw [Int.toNat_natCast]; exact hc i hil 0 (.int .u64 l[i].id) (by omega) rfl) (by simp [bl]))) (.v (.move rfl) (.v (.move rfl) (.v (.indexAddr rfl rfl (by omega) (by omega)) (.v (.fieldAddr rfl) (.v (.load (v := .int .u64 l[j].id) rfl (.old1 (by rw [Int.toNat_natCast]; exact hc j hji 0 (.int .u64 l[j].id) (by omega) rfl) (by simp [bl]))) (.v (.eqi rfl rfl) (.nil ?_))))))))))))))))
      refine .cond_dec rfl (fun h3 => ?_) (fun h3 => .skip ?_)
      · refine .seq ((.region (.v (.assign rfl) (.nil ?_))))
        refine .ret ⟨[_], ⟨rfl, trivial⟩, ?_⟩
        rw [decide_eq_false (fun hd => hd i hil j (by omega) h3)]; rfl
      · refine .region (.v (.move rfl) (.v (.addi rfl rfl (by omega)) (.v (.assign rfl) (.nil ?_))))
        refine ⟨j + 1, ⟨by omega, fun m hm hm2 => ?_⟩, by omega, .cons rfl (.cons rfl (.cons rfl (.nil _))), fun _ s => s⟩
        by_cases e : m = j
        · subst e; exact h3
        · exact hJ m (by omega) hm2
    · refine .region (.v (.move rfl) (.v (.addi rfl rfl (by omega)) (.v (.assign rfl) (.nil ?_))))
      refine ⟨i + 1, ⟨by omega, fun m hm hmi j' hj' => ?_⟩, by omega, .cons rfl (.cons rfl (.nil _)), fun _ s => s⟩
      by_cases e : m = i
      · subst e; exact hJ j' (by omega) (by omega)
      · exact hI m hm (by omega) j' hj'
  · refine .seq ((.region (.v (.assign rfl) (.nil ?_))))
    refine .ret ⟨[_], ⟨rfl, trivial⟩, ?_⟩
    rw [decide_eq_true (show Dist l from fun m hm j hj => hI m hm (by omega) j hj)]; rfl
set_option maxRecDepth 10000 in
theorem sorted_ok (w : World) (s : Int) (A : Option Addr) (len cap : Nat) (l : List Ord) (hx : Rd w [] A (rows l)) (hl : len = l.length) (hb : len ≤ 2513169434843) :
    Is Try.prog 36 [.int .i64 s, .slice A len cap] w (.bool (decide (Srt s l))) := by
  refine Does.pure (Does.of (n := 25) Try.func36 rfl rfl rfl rfl ?_)
  refine .seq ((.region (.v (.assign rfl) (.nil ?_))))
  refine .seq (.seq ((.region (.v (.assign rfl) (.nil ?_)))))
  refine .block (.loop (X := Nat) (fun i => [(0, .int .i64 s), (1, .slice A len cap), (5, .int .i64 i)]) (fun i => []) (fun i => 1 ≤ i ∧ (i ≤ len ∨ i = 1) ∧ ∀ m, (hm : m < l.length) → m < i → 0 < m → bet s l[m].pr l[m - 1].pr = false) (fun i => len - i) 1 ⟨by omega, by omega, fun m _ hm h0 => by omega⟩
    (.cons rfl (.cons rfl (.cons rfl (.nil _)))) (fun _ s => s) ?_)
  rintro i ⟨hi1, hi, hI⟩
  refine .seq (.seq ((.region (.v (.move rfl) (.v (.move rfl) (.v (.len rfl) (.v (.lss rfl rfl) (.nil ?_))))))))
  refine .cond_dec rfl (fun h1 => .skip ?_) (fun h1 => .exit ?_)
  · have hil : i < l.length := by omega
    obtain ⟨b, o, rfl, -, hc⟩ := Rd.ord hx (by omega)
    refine .seq (.block (.seq ((.drawT 12 (by kernel_rfl) (by kernel_rfl) (.v (.move rfl) (.v (.move rfl) (.v (.move rfl) (.v (.indexAddr rfl rfl (by omega) (by omega)) (.v (.fieldAddr rfl) (.v (.load (v := .int .i64 l[i].pr) rfl (.old1 (by rw [Int.toNat_natCast]; exact hc i hil 3 (.int .i64 l[i].pr) (by omega) rfl) (by simp [bl]))) (.v (.move rfl) (.v (.move rfl) (.v (.subi rfl rfl (by omega)) (.v (.indexAddr rfl rfl (by omega) (by omega)) (.v (.fieldAddr rfl) (.v (.load (v := .int .i64 l[i - 1].pr) rfl (.old1 (by rw [show ((i : Int) - 1).toNat = i - 1 from by omega]; exact hc (i - 1) (by omega) 3 (.int .i64 l[i - 1].pr) (by omega) rfl) (by simp [bl]))) (.nil ?_)))))))))))))))))
    refine .pc (v := .bool (bet s l[i].pr l[i - 1].pr)) rfl rfl (fun w _ => refBetter_ok w s _ _) (.nil ?_)
    refine .cond rfl (fun h2 => ?_) (fun h2 => .skip ?_)
    · refine .seq ((.region (.v (.assign rfl) (.nil ?_))))
      refine .ret ⟨[_], ⟨rfl, trivial⟩, ?_⟩
      rw [decide_eq_false (fun hd : Srt s l => absurd (hd i hil (by omega)) (by rw [h2]; simp))]; rfl
    · refine .region (.v (.move rfl) (.v (.addi rfl rfl (by omega)) (.v (.assign rfl) (.nil ?_))))
      refine ⟨i + 1, ⟨by omega, by omega, fun m hm hmi h0 => ?_⟩, by omega, .cons rfl (.cons rfl (.cons rfl (.nil _))), fun _ s => s⟩
      by_cases e : m = i
      · subst e; exact h2
      · exact hI m hm (by omega) h0
  · refine .seq ((.region (.v (.assign rfl) (.nil ?_))))
    refine .ret ⟨[_], ⟨rfl, trivial⟩, ?_⟩
    rw [decide_eq_true (show Srt s l from fun m hm h0 => hI m hm (by omega) h0)]; rfl
end Go.Proofs.Ytmfobfamdaajmaa
