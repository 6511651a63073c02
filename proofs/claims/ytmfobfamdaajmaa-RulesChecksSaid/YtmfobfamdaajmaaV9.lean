/- V9: slices that are read, wherever they lie; byts and strings. -/
import Derived.Test.YtmfobfamdaajmaaV8
namespace Go
namespace V
open Go.RowKit
set_option linter.unusedVariables false
set_option linter.unusedSimpArgs false

/-- cells that are read at a slice's base, outside the blocks of 'no' -/
def Rd (w : World) (no : List Nat) (A : Option Addr) (vs : List Value) : Prop :=
  ∀ j v, vs[j]? = some v → ∃ b o, A = some ⟨b, o, none⟩ ∧ b ∉ no ∧ w.cell? ⟨b, o + j, none⟩ = some v
theorem Rd.nil (w : World) (no : List Nat) (A : Option Addr) : Rd w no A [] := fun j v h => by simp at h
theorem Rd.empty {w : World} {no : List Nat} {vs : List Value} (h : Rd w no none vs) : vs = [] := by
  cases vs with
  | nil => rfl
  | cons v vs => obtain ⟨b, o, h1, _⟩ := h 0 v (by simp); cases h1
theorem Rd.at_ {w0 : World} {own : List Nat} {hs : Hp} {A : Option Addr} {vs : List Value} (h : Rd w0 own A vs) {j : Nat} {v : Value} (hv : vs[j]? = some v) :
    ∃ b o, A = some ⟨b, o, none⟩ ∧ At w0 own hs ⟨b, o + j, none⟩ [v] := by
  obtain ⟨b, o, h1, h2, h3⟩ := h j v hv
  exact ⟨b, o, h1, At.old1 h3 h2⟩
theorem Rd.lt {w : World} {no : List Nat} {A : Option Addr} {vs : List Value} (h : Rd w no A vs) {j : Nat} {v : Value} (hv : vs[j]? = some v) : ∃ b o, A = some ⟨b, o, none⟩ ∧ b < w.heap.size := by
  obtain ⟨b, o, h1, h2, h3⟩ := h j v hv
  refine ⟨b, o, h1, ?_⟩
  unfold World.cell? at h3
  split at h3
  · rename_i c T f hc; exact (Array.getElem?_eq_some_iff.1 hc).1
  · cases h3
/-- what was read at the start is read in each world that follows, and does not lie in a new block -/
theorem Rd.keep {w0 w : World} {own no : List Nat} {hs : Hp} {A : Option Addr} {vs : List Value} (h : Rd w0 own A vs) (s : Sat w0 own hs w) (hn : ∀ b ∈ no, b ∈ own ∨ w0.heap.size ≤ b) : Rd w no A vs := by
  intro j v hv
  obtain ⟨b, o, h1, h2, h3⟩ := h j v hv
  obtain ⟨b', o', h1', hlt⟩ := h.lt hv
  rw [h1] at h1'
  cases h1'
  refine ⟨b, o, h1, fun hb => ?_, s.cell_old h3 h2⟩
  rcases hn b hb with h4 | h4
  · exact h2 h4
  · omega
theorem Rd.keep0 {w0 w : World} {own : List Nat} {hs : Hp} {A : Option Addr} {vs : List Value} (h : Rd w0 own A vs) (s : Sat w0 own hs w) : Rd w [] A vs := h.keep s (by simp)
/-- what a block holds is read -/
theorem Rd.chunk {w0 w : World} {own no : List Nat} {hs : Hp} (s : Sat w0 own hs w) {b o T : Nat} {l vs : List Value} [hb : Mem b (.cells l T) hs] (hn : b ∉ no) (h : ∀ j v, vs[j]? = some v → l[o + j]? = some v) : Rd w no (some ⟨b, o, none⟩) vs :=
  fun j v hv => ⟨b, o, rfl, hn, by rw [s.cell hb.out]; exact h j v hv⟩
theorem Rd.mono {w : World} {no : List Nat} {A : Option Addr} {vs vs' : List Value} (h : Rd w no A vs) (k : ∀ (j : Nat) (v : Value), vs'[j]? = some v → vs[j]? = some v) : Rd w no A vs' := fun j v hv => h j v (k j v hv)
theorem Rd.src {P : Program} {w : World} {no : List Nat} {A : Option Addr} {vs : List Value} {m k c : Nat} (h : Rd w no A vs) (hl : vs.length = k * m) (hm : 0 < m) : Src P w m (.slice A k c) k vs := by
  cases A with
  | none =>
    have := h.empty
    subst this
    have : k = 0 := by
      rcases Nat.mul_eq_zero.1 hl.symm with h1 | h1 <;> omega
    subst this
    exact .nil
  | some a =>
    refine .cells hl fun j v hv => ?_
    obtain ⟨b, o, h1, _, h3⟩ := h j v hv
    cases h1
    rw [add_none]; exact h3

theorem OwnS.pos {E m n : Nat} {v : Value} {vs : List Value} {h : Hp} (k : OwnS E m v n vs h) (hn : 0 < n) :
    ∃ b o cap l, v = .slice (some ⟨b, o, none⟩) n cap ∧ h = [(b, .cells l E)] ∧ n ≤ cap ∧ o + cap * m ≤ l.length ∧ (l.drop o).take (n * m) = vs ∧ vs.length = n * m := by
  rcases k.2 with ⟨_, h0, _⟩ | ⟨b, o, cap, l, h1, h2, h3, h4, h5⟩
  · omega
  · exact ⟨b, o, cap, l, h1, h2, h3, h4, h5, k.1⟩

theorem Mem.sub {b : Nat} {c : Ch} {F hs : Hp} (f : F ⊆ hs) [h : Mem b c F] : Mem b c hs := ⟨f h.out⟩
/-- what is left in memory is let go -/
theorem Does.pure {P : Program} {g : Nat} {vals : List Value} {pre : Hp} {w : World} {Φ : Value → Prop} (h : Does P g vals pre w (fun v _ => Φ v)) : Does P g vals pre w (fun v hs => Φ v ∧ hs = []) :=
  fun a b => (h a b).mono fun x w' ⟨v, hs', h1, h2, h3⟩ => ⟨v, [], h1, ⟨h2, rfl⟩, h3.sub (List.nil_sublist _)⟩
def byts (xs : List (BitVec 8)) : List Value := xs.map fun x => .int .u8 x.toNat
theorem byts_length (xs : List (BitVec 8)) : (byts xs).length = xs.length := by simp [byts]
theorem byts_append (xs ys : List (BitVec 8)) : byts (xs ++ ys) = byts xs ++ byts ys := by simp [byts]
theorem byts_ones (xs : List (BitVec 8)) : ones (byts xs) = true := by simp [ones, byts, Value.oneCell']
theorem byts_get {xs : List (BitVec 8)} {j : Nat} (h : j < xs.length) : (byts xs)[j]? = some (.int .u8 (xs[j]).toNat) := by simp [byts, h]
theorem strOf_toList (xs : List (BitVec 8)) : (strOf xs).toList = xs.map UInt8.ofBitVec := by
  rw [ByteArray.toList_eq]; simp [strOf]
theorem strOf_size (xs : List (BitVec 8)) : (strOf xs).size = xs.length := by simp [strOf, ByteArray.size]
theorem strOf_append (xs ys : List (BitVec 8)) : strOf xs ++ strOf ys = strOf (xs ++ ys) := by
  simp only [strOf, ByteArray.mk_append_mk, List.map_append]
theorem strOf_inj {xs ys : List (BitVec 8)} : (strOf xs).toList = (strOf ys).toList ↔ xs = ys := by
  rw [strOf_toList, strOf_toList]
  constructor
  · intro h
    have := congrArg (List.map UInt8.toBitVec) h
    have e1 : ∀ l : List (BitVec 8), (l.map UInt8.ofBitVec).map UInt8.toBitVec = l := fun l => by
      induction l with
      | nil => rfl
      | cons x l ih => simp only [List.map_cons, ih]
    rw [e1, e1] at this; exact this
  · rintro rfl; rfl

section
variable {P : Program} {n : Nat} {w0 : World} {own : List Nat} {e : Env} {hs : Hp}
theorem Val.bytesStrR {T U E len cap : Nat} {x : Operand} {A : Option Addr} {xs : List (BitVec 8)} (hx : ev e x = some (.slice A len cap)) [hT : SliceT P T E] [hE : IntT P E .u8] [hU : StrT P U]
    (hl : xs.length = len) (hc : ∀ w, Sat w0 own hs w → Rd w [] A (byts xs)) : Val P n w0 own e hs (.convert T U x) (.string (strOf xs)) := fun a w ty pos aft g d hr s => by
  have hr2 := hc w s
  have key : (convert T U (.slice A len cap)).run P w = .ok (.string (strOf xs)) w := by
    cases A with
    | none =>
      have h0 := hr2.empty
      have : xs = [] := by simpa [byts] using h0
      subst this
      exact run_convert_bytes_nil (P := P) w T E hT.out hE.out len cap U hU.out
    | some ad =>
      have hload : (loadCells ad len).run P w = .ok ((xs.map fun x => (x.toNat : Int)).map (Value.int .u8)).toArray w := by
        have := run_loadCells_list (P := P) w ad (byts xs) (fun j v hv => by
          obtain ⟨b, o, h1, _, h3⟩ := hr2 j v hv
          cases h1
          rw [add_none]; exact h3)
        simpa [byts, hl, Function.comp_def] using this
      rw [run_convert_bytes_string w T U E _ len cap hT.out hE.out hU.out, run_bytesToString w _ len cap _ hload, foldl_push_bytes]
      congr 3
      simp [ByteArray.empty, ByteArray.emptyWithCapacity]
      show List.map _ xs = _
      apply List.map_congr_left
      intro x _
      simp only [Function.comp, Int.toNat_natCast]
      apply UInt8.toNat_inj.1
      have := x.isLt
      simp
  simp only [execOp, hr.eval hx, Sem.run_bind, key, Result.andThen_ok, Sem.run_pure]
theorem Val.add_string {T U : Nat} {x y : Operand} {a b : ByteArray} (hx : ev e x = some (.string a)) (hy : ev e y = some (.string b)) (h : a.size + b.size ≤ 9223372036854775807) :
    Val P n w0 own e hs (.binOp .add T x y U) (.string (a ++ b)) := fun _ w ty pos aft g d hr s => by
  have h1 := run_string_add_sum (P := P) w a b h
  simp [execOp, hr.eval hx, hr.eval hy, eqGuard, binOp, h1]
end
end V
end Go
