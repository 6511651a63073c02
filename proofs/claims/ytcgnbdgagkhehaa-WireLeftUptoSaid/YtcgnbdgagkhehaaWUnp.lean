/- Plain words of chapter 2: what bytes say. -/
import Derived.Test.YtcgnbdgagkhehaaWFrame
import Derived.Test.YtcgnbdgagkhehaaVH
namespace Go.Proofs.Ytcgnbdgagkhehaa
open Go.V
set_option linter.unusedVariables false

/-- j bytes from place o, the low first -/
def wpart (xs : List (BitVec 8)) (o : Nat) : Nat → BitVec 64
  | 0 => 0#64
  | j + 1 => wpart xs o j ||| ((xs.getD (o + j) 0#8).setWidth 64 <<< (8 * j))
/-- the words, after m bytes of them -/
def wl (xs : List (BitVec 8)) (m : Nat) : List (BitVec 64) := (List.range 7).map fun n => wpart xs (4 + 8 * n) (min 8 (m - 8 * n))
theorem wl_length (xs : List (BitVec 8)) (m : Nat) : (wl xs m).length = 7 := by simp [wl]
theorem wl_zero (xs : List (BitVec 8)) : wl xs 0 = List.replicate 7 0#64 := by
  simp [wl]; rfl
theorem wl_get (xs : List (BitVec 8)) (m n : Nat) (h : n < 7) : (wl xs m)[n]? = some (wpart xs (4 + 8 * n) (min 8 (m - 8 * n))) := by simp [wl, h]
theorem wl_set (xs : List (BitVec 8)) (i j : Nat) (hi : i < 7) (hj : j < 8) : (wl xs (8 * i + j)).set i (wpart xs (4 + 8 * i) (j + 1)) = wl xs (8 * i + j + 1) := by
  apply List.ext_getElem?
  intro n
  by_cases hn : n < 7
  · rw [wl_get _ _ _ hn, List.getElem?_set]
    by_cases e : i = n
    · subst e
      rw [if_pos rfl, if_pos (by rw [wl_length]; exact hi), show min 8 (8 * i + j + 1 - 8 * i) = j + 1 from by omega]
    · rw [if_neg e, wl_get _ _ _ hn, show min 8 (8 * i + j - 8 * n) = min 8 (8 * i + j + 1 - 8 * n) from by omega]
  · rw [List.getElem?_eq_none (by simp [wl_length]; omega), List.getElem?_eq_none (by simp [wl_length]; omega)]
theorem wcells_set (ws : List (BitVec 64)) (i : Nat) (x : BitVec 64) : (wcells ws).set i (.int .u64 x.toNat) = wcells (ws.set i x) := by simp [wcells, List.map_set]
theorem wpart_hi (xs : List (BitVec 8)) (o : Nat) : ∀ (j i : Nat), 8 * j ≤ i → (wpart xs o j).getLsbD i = false
  | 0, i, _ => by simp [wpart]
  | j + 1, i, h => by
    rw [wpart, BitVec.getLsbD_or, wpart_hi xs o j i (by omega), BitVec.getLsbD_shiftLeft, BitVec.getLsbD_setWidth, BitVec.getLsbD_of_ge _ _ (by omega)]
    simp
theorem wpart_add (xs : List (BitVec 8)) (o j : Nat) : wpart xs o j + ((xs.getD (o + j) 0#8).setWidth 64 <<< (8 * j)) = wpart xs o (j + 1) := by
  rw [wpart, BitVec.add_eq_or_of_and_eq_zero]
  apply BitVec.eq_of_getLsbD_eq
  intro i hi
  rw [BitVec.getLsbD_and, BitVec.getLsbD_shiftLeft]
  by_cases h : 8 * j ≤ i
  · rw [wpart_hi xs o j i h]; simp
  · simp; omega

def zw : List (BitVec 64) := List.replicate 7 0#64
/-- what bytes are told to be: kind, words, error -/
def unpk (xs : List (BitVec 8)) : BitVec 8 × List (BitVec 64) × Nat :=
  if xs.length < 64 then (0#8, zw, 20)
  else if 64 < xs.length then (0#8, zw, 2)
  else if ¬ (xs.getD 0 0#8 = 0x42#8 ∧ xs.getD 1 0#8 = 0x46#8 ∧ xs.getD 3 0#8 = 0#8) then (0#8, zw, 22)
  else if packed (xs.getD 2 0#8) (wl xs 56) ≠ xs then (0#8, zw, 21)
  else (xs.getD 2 0#8, wl xs 56, 0)
theorem unpk_ws (xs : List (BitVec 8)) : (unpk xs).2.1.length = 7 := by
  unfold unpk
  repeat' split
  all_goals first | rfl | exact wl_length _ _
def unpkV (xs : List (BitVec 8)) : Value := .tuple ⟨[.agg ⟨fcells (unpk xs).1 (unpk xs).2.1⟩, .int .i64 (unpk xs).2.2]⟩
theorem u8_ne {x y : BitVec 8} : ((x.toNat : Int) ≠ (y.toNat : Int)) ↔ x ≠ y := by
  constructor
  · intro h e; exact h (by rw [e])
  · intro h e; exact h (BitVec.eq_of_toNat_eq (by exact_mod_cast e))
/-- of no frame's length, or without its head -/
theorem unpk_short {xs : List (BitVec 8)} (h : xs.length < 64) : unpkV xs = .tuple ⟨[.agg ⟨fcells 0#8 zw⟩, .int .i64 20]⟩ := by simp [unpkV, unpk, h]
theorem unpk_long {xs : List (BitVec 8)} (h : ¬ xs.length < 64) (h2 : 64 < xs.length) : unpkV xs = .tuple ⟨[.agg ⟨fcells 0#8 zw⟩, .int .i64 2]⟩ := by simp [unpkV, unpk, h, h2]
theorem unpk_magic {xs : List (BitVec 8)} (h : ¬ xs.length < 64) (h2 : ¬ 64 < xs.length) (h3 : ¬ (xs.getD 0 0#8 = 0x42#8 ∧ xs.getD 1 0#8 = 0x46#8 ∧ xs.getD 3 0#8 = 0#8)) :
    unpkV xs = .tuple ⟨[.agg ⟨fcells 0#8 zw⟩, .int .i64 22]⟩ := by
  have : unpk xs = (0#8, zw, 22) := by unfold unpk; rw [if_neg h, if_neg h2, if_pos h3]
  simp [unpkV, this]
theorem unpk_sum {xs : List (BitVec 8)} (h : ¬ xs.length < 64) (h2 : ¬ 64 < xs.length) (h3 : xs.getD 0 0#8 = 0x42#8 ∧ xs.getD 1 0#8 = 0x46#8 ∧ xs.getD 3 0#8 = 0#8)
    (h4 : packed (xs.getD 2 0#8) (wl xs 56) ≠ xs) : unpkV xs = .tuple ⟨[.agg ⟨fcells 0#8 zw⟩, .int .i64 21]⟩ := by
  have : unpk xs = (0#8, zw, 21) := by unfold unpk; rw [if_neg h, if_neg h2, if_neg (fun k => k h3), if_pos h4]
  simp [unpkV, this]
theorem unpk_ok {xs : List (BitVec 8)} (h : ¬ xs.length < 64) (h2 : ¬ 64 < xs.length) (h3 : xs.getD 0 0#8 = 0x42#8 ∧ xs.getD 1 0#8 = 0x46#8 ∧ xs.getD 3 0#8 = 0#8)
    (h4 : packed (xs.getD 2 0#8) (wl xs 56) = xs) : unpkV xs = .tuple ⟨[.agg ⟨fcells (xs.getD 2 0#8) (wl xs 56)⟩, .int .i64 0]⟩ := by
  have : unpk xs = (xs.getD 2 0#8, wl xs 56, 0) := by unfold unpk; rw [if_neg h, if_neg h2, if_neg (fun k => k h3), if_neg (fun k => k h4)]
  simp [unpkV, this]
end Go.Proofs.Ytcgnbdgagkhehaa
