/- Plain words of chapter 2: 32 neighbouring bits that are turned change the check sum. No program in sight. -/
import Derived.Test.YtcgnbdgagkhehaaWPackUnp
namespace Go.Proofs.Ytcgnbdgagkhehaa
open Go.V
set_option linter.unusedVariables false

/-! ### the register as a number that may be wide -/
def poly : Nat := 0xedb88320
def wst (x : Nat) : Nat := (x / 2) ^^^ (if x % 2 = 1 then poly else 0)
def wsts : Nat → Nat → Nat
  | 0, x => x
  | n + 1, x => wsts n (wst x)
theorem wsts_add (m n x : Nat) : wsts (m + n) x = wsts n (wsts m x) := by
  induction m generalizing x with
  | zero => simp [wsts]
  | succ m ih => rw [Nat.succ_add]; simp [wsts, ih]
theorem xor_half (a b : Nat) : (a ^^^ b) / 2 = a / 2 ^^^ b / 2 := by
  apply Nat.eq_of_testBit_eq
  intro i
  simp [Nat.testBit_div_two, Nat.testBit_xor]
theorem wst_xor (a b : Nat) : wst (a ^^^ b) = wst a ^^^ wst b := by
  have h : (a ^^^ b) % 2 = (a + b) % 2 := by
    rcases Nat.mod_two_eq_zero_or_one a with ha | ha <;> rcases Nat.mod_two_eq_zero_or_one b with hb | hb <;>
    · have h1 := Nat.testBit_xor a b 0
      simp only [Nat.testBit_zero, ha, hb] at h1
      rcases Nat.mod_two_eq_zero_or_one (a ^^^ b) with hc | hc <;> simp [hc] at h1 <;> omega
  unfold wst
  rw [xor_half, h]
  apply Nat.eq_of_testBit_eq
  intro i
  rcases Nat.mod_two_eq_zero_or_one a with ha | ha <;> rcases Nat.mod_two_eq_zero_or_one b with hb | hb
  · rw [if_neg (by omega), if_neg (by omega), if_neg (by omega)]; simp [Nat.testBit_xor]
  · rw [if_pos (by omega), if_neg (by omega), if_pos (by omega)]; simp [Nat.testBit_xor]
  · rw [if_pos (by omega), if_pos (by omega), if_neg (by omega)]; simp only [Nat.testBit_xor, Nat.zero_testBit]; cases (a / 2).testBit i <;> cases (b / 2).testBit i <;> cases poly.testBit i <;> rfl
  · rw [if_neg (by omega), if_pos (by omega), if_pos (by omega)]; simp only [Nat.testBit_xor, Nat.zero_testBit]; cases (a / 2).testBit i <;> cases (b / 2).testBit i <;> cases poly.testBit i <;> rfl
theorem wsts_xor (n a b : Nat) : wsts n (a ^^^ b) = wsts n a ^^^ wsts n b := by
  induction n generalizing a b with
  | zero => rfl
  | succ n ih => simp only [wsts, wst_xor, ih]
theorem wst_double (x : Nat) : wst (2 * x) = x := by
  unfold wst; rw [if_neg (by omega)]; simp
theorem wsts_shift (n x : Nat) : wsts n (2 ^ n * x) = x := by
  induction n generalizing x with
  | zero => simp [wsts]
  | succ n ih => rw [wsts, show 2 ^ (n + 1) * x = 2 * (2 ^ n * x) from by rw [Nat.pow_succ, Nat.mul_comm (2 ^ n) 2, Nat.mul_assoc], wst_double, ih]
theorem wst_zero {x : Nat} (hx : x < 2 ^ 32) (h : wst x = 0) : x = 0 := by
  unfold wst at h
  by_cases h1 : x % 2 = 1
  · rw [if_pos h1] at h
    have h2 : x / 2 = poly := by
      have := congrArg (· ^^^ poly) h
      simpa [Nat.xor_assoc] using this
    simp [poly] at h2
    omega
  · rw [if_neg h1] at h
    simp at h
    omega
theorem wst_lt {x : Nat} (hx : x < 2 ^ 32) : wst x < 2 ^ 32 := by
  unfold wst
  apply Nat.xor_lt_two_pow
  · omega
  · split
    · decide
    · decide
theorem wsts_zero : ∀ (n : Nat) {x : Nat}, x < 2 ^ 32 → wsts n x = 0 → x = 0
  | 0, x, _, h => h
  | n + 1, x, hx, h => wst_zero hx (wsts_zero n (wst_lt hx) h)

/-! ### the program's register -/
theorem sumBit_nat (c : BitVec 32) : (sumBit c).toNat = wst c.toNat := by
  have hlsb : (c &&& 1#32 = 1#32) ↔ c.toNat % 2 = 1 := by
    constructor
    · intro h
      have := congrArg BitVec.toNat h
      simp at this
      exact this
    · intro h
      apply BitVec.eq_of_toNat_eq
      simp [h]
  unfold sumBit wst
  by_cases h : c &&& 1#32 = 1#32
  · rw [if_pos h, if_pos (hlsb.1 h), BitVec.toNat_xor, BitVec.toNat_ushiftRight, Nat.shiftRight_eq_div_pow]; rfl
  · rw [if_neg h, if_neg (fun k => h (hlsb.2 k)), BitVec.toNat_ushiftRight, Nat.shiftRight_eq_div_pow]; simp
theorem sumBits_nat (n : Nat) (c : BitVec 32) : (sumBits n c).toNat = wsts n c.toNat := by
  induction n generalizing c with
  | zero => rfl
  | succ n ih => rw [sumBits, ih, sumBit_nat]; rfl
/-- bytes as a number -/
def val : List (BitVec 8) → Nat
  | [] => 0
  | x :: xs => x.toNat ^^^ (256 * val xs)
theorem sumAll_nat (xs : List (BitVec 8)) (c : BitVec 32) : (sumAll c xs).toNat = wsts (8 * xs.length) (c.toNat ^^^ val xs) := by
  induction xs generalizing c with
  | nil => simp [sumAll, wsts, val]
  | cons x xs ih =>
    have e : sumAll c (x :: xs) = sumAll (sumByte c x) xs := rfl
    rw [e, ih, sumByte, sumBits_nat, BitVec.toNat_xor, show 8 * (x :: xs).length = 8 + 8 * xs.length from by simp; omega, wsts_add]
    congr 1
    rw [val, ← Nat.xor_assoc, show 256 * val xs = 2 ^ 8 * val xs from rfl]
    simp only [wsts_xor 8, wsts_shift]
    congr 2
theorem val_app (xs ys : List (BitVec 8)) : val (xs ++ ys) = val xs ^^^ (256 ^ xs.length * val ys) := by
  induction xs with
  | nil => simp [val]
  | cons x xs ih =>
    rw [List.cons_append, val, ih, val, List.length_cons, Nat.pow_succ]
    apply Nat.eq_of_testBit_eq
    intro i
    rw [show 256 = 2 ^ 8 from rfl, show (2 ^ 8) ^ xs.length * 2 ^ 8 * val ys = 2 ^ 8 * ((2 ^ 8) ^ xs.length * val ys) from by rw [Nat.mul_comm ((2 ^ 8) ^ xs.length), Nat.mul_assoc]]
    simp only [Nat.testBit_xor, Nat.testBit_two_pow_mul]
    cases decide (i ≥ 8) <;> simp
theorem val_bit (xs : List (BitVec 8)) : ∀ i, (val xs).testBit i = (xs.getD (i / 8) 0#8).getLsbD (i % 8) := by
  induction xs with
  | nil => simp [val]
  | cons x xs ih =>
    intro i
    rw [val, Nat.testBit_xor, show 256 = 2 ^ 8 from rfl, Nat.testBit_two_pow_mul]
    by_cases h : i < 8
    · have e1 : i / 8 = 0 := by omega
      have e2 : i % 8 = i := by omega
      have e3 : ¬ i ≥ 8 := by omega
      simp [e1, e2, e3]; rfl
    · obtain ⟨m, hm⟩ : ∃ m, i / 8 = m + 1 := ⟨i / 8 - 1, by omega⟩
      have hx : x.toNat.testBit i = false := Nat.testBit_lt_two_pow (Nat.lt_of_lt_of_le x.isLt (Nat.pow_le_pow_right (by omega) (by omega)))
      rw [ih, hm, hx, show (i - 8) / 8 = m from by omega, show (i - 8) % 8 = i % 8 from by omega]
      simp [show 8 ≤ i from by omega]
theorem val_le4 (c : BitVec 32) : val (le4 c) = c.toNat := by
  apply Nat.eq_of_testBit_eq
  intro i
  rw [val_bit]
  by_cases h : i < 32
  · rw [List.getD_eq_getElem?_getD, le4_get _ _ (show i / 8 < 4 by omega)]
    simp only [Option.getD_some, BitVec.getLsbD_setWidth, BitVec.getLsbD_ushiftRight]
    rw [show 8 * (i / 8) + i % 8 = i from by omega]
    simp [show i % 8 < 8 from by omega]; rfl
  · rw [List.getD_eq_getElem?_getD, List.getElem?_eq_none (by simp [le4]; omega), Nat.testBit_lt_two_pow (Nat.lt_of_lt_of_le c.isLt (Nat.pow_le_pow_right (by omega) (by omega)))]
    simp
/-- a frame's bytes leave always the same in the register -/
theorem sumAll_packed (k : BitVec 8) (ws : List (BitVec 64)) : (sumAll 0xffffffff#32 (packed k ws)).toNat = wsts 32 (2 ^ 32 - 1) := by
  have e : sumAll 0xffffffff#32 (packed k ws) = sumAll (sumAll 0xffffffff#32 (body k ws)) (le4 (crc (body k ws))) := by
    simp [packed, sumAll, List.foldl_append]
  rw [e, sumAll_nat, val_le4, crc]
  generalize sumAll 0xffffffff#32 (body k ws) = r
  rw [← BitVec.toNat_xor, show (r ^^^ ~~~r) = BitVec.allOnes 32 from BitVec.eq_of_getLsbD_eq fun i hi => by rw [BitVec.getLsbD_xor, BitVec.getLsbD_not, BitVec.getLsbD_allOnes]; cases r.getLsbD i <;> simp [hi]]
  rfl
theorem burst_pure {p q : List (BitVec 8)} (hl : p.length = q.length) {k k' : BitVec 8} {ws ws' : List (BitVec 64)} (hp : p = packed k ws) (hq : q = packed k' ws') (f t : Nat) (ht : t < 2 ^ 32) (hf : f ≤ 8 * p.length)
    (hv : val p ^^^ val q = 2 ^ f * t) : t = 0 := by
  have h1 := sumAll_packed k ws
  have h2 := sumAll_packed k' ws'
  rw [← hp, sumAll_nat] at h1
  rw [← hq, sumAll_nat, ← hl, ← h1] at h2
  have h3 : wsts (8 * p.length) (val p ^^^ val q) = 0 := by
    rw [wsts_xor, wsts_xor] at h2
    have := congrArg (wsts (8 * p.length) (0xffffffff#32).toNat ^^^ ·) h2
    simp only [← Nat.xor_assoc, Nat.xor_self, Nat.zero_xor] at this
    rw [wsts_xor, this, Nat.xor_self]
  rw [hv, show 8 * p.length = f + (8 * p.length - f) from by omega, wsts_add, wsts_shift] at h3
  exact wsts_zero _ ht h3
end Go.Proofs.Ytcgnbdgagkhehaa
