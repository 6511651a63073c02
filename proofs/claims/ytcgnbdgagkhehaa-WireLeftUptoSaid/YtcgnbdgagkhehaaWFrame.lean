/- Plain words of chapter 2: a frame's bytes. -/
import Derived.Test.YtcgnbdgagkhehaaWPure
namespace Go.Proofs.Ytcgnbdgagkhehaa
open Go.V
set_option linter.unusedVariables false

def le8 (w : BitVec 64) : List (BitVec 8) := (List.range 8).map fun j => (w >>> (8 * j)).setWidth 8
def le4 (c : BitVec 32) : List (BitVec 8) := (List.range 4).map fun j => (c >>> (8 * j)).setWidth 8
def body (k : BitVec 8) (ws : List (BitVec 64)) : List (BitVec 8) := [0x42#8, 0x46#8, k, 0#8] ++ ws.flatMap le8
def packed (k : BitVec 8) (ws : List (BitVec 64)) : List (BitVec 8) := body k ws ++ le4 (crc (body k ws))
def wcells (ws : List (BitVec 64)) : List Value := ws.map fun w => .int .u64 w.toNat
def fcells (k : BitVec 8) (ws : List (BitVec 64)) : List Value := .int .u8 k.toNat :: wcells ws
def pad (xs : List (BitVec 8)) (n N : Nat) : List (BitVec 8) := xs.take n ++ List.replicate (N - n) 0#8

theorem le8_length (w : BitVec 64) : (le8 w).length = 8 := by simp [le8]
theorem flat_length (ws : List (BitVec 64)) : (ws.flatMap le8).length = 8 * ws.length := by
  induction ws with
  | nil => rfl
  | cons w ws ih => simp only [List.flatMap_cons, List.length_append, le8_length, ih, List.length_cons]; omega
theorem body_length {k : BitVec 8} {ws : List (BitVec 64)} (h : ws.length = 7) : (body k ws).length = 60 := by
  rw [body, List.length_append, flat_length, h]; rfl
theorem packed_length {k : BitVec 8} {ws : List (BitVec 64)} (h : ws.length = 7) : (packed k ws).length = 64 := by
  rw [packed, List.length_append, body_length h]; rfl
theorem flat_get : ∀ (ws : List (BitVec 64)) (i j : Nat) (hi : i < ws.length), j < 8 → (ws.flatMap le8)[8 * i + j]? = some ((ws[i] >>> (8 * j)).setWidth 8)
  | w :: ws, 0, j, hi, hj => by
    rw [List.flatMap_cons, List.getElem?_append_left (by simp [le8_length]; omega)]
    simp [le8, hj]
  | w :: ws, i + 1, j, hi, hj => by
    rw [List.flatMap_cons, List.getElem?_append_right (by simp [le8_length]; omega), le8_length]
    rw [show 8 * (i + 1) + j - 8 = 8 * i + j from by omega]
    have := flat_get ws i j (by simpa using hi) hj
    simpa using this
  | [], i, j, hi, _ => by simp at hi
theorem body_get {k : BitVec 8} {ws : List (BitVec 64)} {i j : Nat} (hi : i < ws.length) (hj : j < 8) : (body k ws)[4 + 8 * i + j]? = some ((ws[i] >>> (8 * j)).setWidth 8) := by
  rw [body, List.getElem?_append_right (by simp; omega)]
  rw [show 4 + 8 * i + j - [0x42#8, 0x46#8, k, 0#8].length = 8 * i + j from by simp; omega]
  exact flat_get ws i j hi hj
theorem pad_length (xs : List (BitVec 8)) (n N : Nat) (h : n ≤ xs.length) (h2 : n ≤ N) : (pad xs n N).length = N := by
  simp [pad]; omega
theorem pad_set {xs : List (BitVec 8)} {n N : Nat} {x : BitVec 8} (hx : xs[n]? = some x) (hN : n < N) : (byts (pad xs n N)).set n (.int .u8 x.toNat) = byts (pad xs (n + 1) N) := by
  have hn := (List.getElem?_eq_some_iff.1 hx).1
  have e : (pad xs n N).set n x = pad xs (n + 1) N := by
    unfold pad
    rw [List.set_append_right _ _ (by simp; omega)]
    rw [show n - (xs.take n).length = 0 from by simp; omega]
    obtain ⟨m, hm⟩ : ∃ m, N - n = m + 1 := ⟨N - n - 1, by omega⟩
    rw [hm, List.replicate_succ, List.set_cons_zero, List.take_add_one, hx, show N - (n + 1) = m from by omega]
    simp
  rw [← e]
  simp [byts, List.map_set]
theorem pad_full (xs : List (BitVec 8)) (N : Nat) (h : xs.length = N) : pad xs N N = xs := by
  simp [pad, ← h]
theorem pad_body (k : BitVec 8) (ws : List (BitVec 64)) : pad (body k ws) 4 64 = [0x42#8, 0x46#8, k, 0#8] ++ List.replicate 60 0#8 := by
  simp [pad, body]
theorem pad_app (xs ys : List (BitVec 8)) (N : Nat) : pad xs xs.length N = pad (xs ++ ys) xs.length N := by
  simp [pad]

theorem wrap_u8 (z : Int) (b : BitVec 8) (h : z % 256 = b.toNat) : IntKind.u8.wrap z = b.toNat := by
  simp [IntKind.wrap, IntKind.bits, IntKind.signed]; omega
theorem fdiv_shr (m : Nat) (w : BitVec m) (s : Nat) : (w.toNat : Int).fdiv (2 ^ s) = (w >>> s).toNat := by
  rw [Int.fdiv_eq_ediv_of_nonneg _ (by exact_mod_cast Nat.zero_le _), BitVec.toNat_ushiftRight, Nat.shiftRight_eq_div_pow]
  push_cast
  rfl
theorem byte64 (w : BitVec 64) (j : Nat) (hj : j < 8) : IntKind.u8.wrap ((w.toNat : Int).fdiv (2 ^ min (8 * (j : Int)).toNat IntKind.u64.bits)) = ((w >>> (8 * j)).setWidth 8).toNat := by
  rw [show min (8 * (j : Int)).toNat IntKind.u64.bits = 8 * j from by simp [IntKind.bits]; omega, fdiv_shr]
  refine wrap_u8 _ _ ?_
  rw [BitVec.toNat_setWidth]; rfl
theorem byte32 (w : BitVec 32) (j : Nat) (hj : j < 4) : IntKind.u8.wrap ((w.toNat : Int).fdiv (2 ^ min (8 * (j : Int)).toNat IntKind.u32.bits)) = ((w >>> (8 * j)).setWidth 8).toNat := by
  rw [show min (8 * (j : Int)).toNat IntKind.u32.bits = 8 * j from by simp [IntKind.bits]; omega, fdiv_shr]
  refine wrap_u8 _ _ ?_
  rw [BitVec.toNat_setWidth]; rfl
theorem le4_get (c : BitVec 32) (j : Nat) (hj : j < 4) : (le4 c)[j]? = some ((c >>> (8 * j)).setWidth 8) := by simp [le4, hj]
theorem packed_get {k : BitVec 8} {ws : List (BitVec 64)} {j : Nat} (h : ws.length = 7) (hj : j < 4) : (packed k ws)[60 + j]? = some ((crc (body k ws) >>> (8 * j)).setWidth 8) := by
  rw [packed, List.getElem?_append_right (by rw [body_length h]; omega), body_length h, show 60 + j - 60 = j from by omega]
  exact le4_get _ j hj
theorem wcells_get {ws : List (BitVec 64)} {i : Nat} (h : i < ws.length) : (wcells ws)[i]? = some (.int .u64 (ws[i]).toNat) := by simp [wcells, h]
theorem wcells_length (ws : List (BitVec 64)) : (wcells ws).length = ws.length := by simp [wcells]
theorem fcells_length {k : BitVec 8} {ws : List (BitVec 64)} (h : ws.length = 7) : (fcells k ws).length = 8 := by simp [fcells, wcells, h]
theorem fcells_ones (k : BitVec 8) (ws : List (BitVec 64)) : ones (fcells k ws) = true := by simp [ones, fcells, wcells, Value.oneCell']
theorem fcells_inj {k k' : BitVec 8} {ws ws' : List (BitVec 64)} : fcells k ws = fcells k' ws' ↔ k = k' ∧ ws = ws' := by
  constructor
  · intro h
    simp only [fcells, List.cons.injEq, Value.int.injEq, true_and] at h
    refine ⟨BitVec.eq_of_toNat_eq (by exact_mod_cast h.1), ?_⟩
    have h2 := h.2
    clear h
    induction ws generalizing ws' with
    | nil => cases ws' with
      | nil => rfl
      | cons w ws' => simp [wcells] at h2
    | cons w ws ih =>
      cases ws' with
      | nil => simp [wcells] at h2
      | cons w' ws' =>
        simp only [wcells, List.map_cons, List.cons.injEq, Value.int.injEq, true_and] at h2
        rw [BitVec.eq_of_toNat_eq (by exact_mod_cast h2.1 : w.toNat = w'.toNat), ih h2.2]
  · rintro ⟨rfl, rfl⟩; rfl
theorem byts_inj {xs ys : List (BitVec 8)} : byts xs = byts ys ↔ xs = ys := by
  constructor
  · intro h
    induction xs generalizing ys with
    | nil => cases ys with
      | nil => rfl
      | cons y ys => simp [byts] at h
    | cons x xs ih =>
      cases ys with
      | nil => simp [byts] at h
      | cons y ys =>
        simp only [byts, List.map_cons, List.cons.injEq, Value.int.injEq, true_and] at h
        rw [BitVec.eq_of_toNat_eq (by exact_mod_cast h.1 : x.toNat = y.toNat), ih h.2]
  · rintro rfl; rfl
end Go.Proofs.Ytcgnbdgagkhehaa
