/- Plain words of chapter 2: bits, check sums. No program in sight but for V's 'bop'. -/
import Derived.Test.YtcgnbdgagkhehaaV9
namespace Go.Proofs.Ytcgnbdgagkhehaa
open Go.V
set_option linter.unusedVariables false

/-! ### bits -/
theorem wrap_u32 (b : BitVec 32) : IntKind.u32.wrap (b.toNat : Int) = b.toNat := by
  have := b.isLt
  simp [IntKind.wrap, IntKind.bits, IntKind.signed]; omega
theorem ofInt_nat (m : Nat) (b : BitVec m) : BitVec.ofInt m (b.toNat : Int) = b := by
  apply BitVec.eq_of_toNat_eq; simp
theorem xor32 (a b : BitVec 32) : bop .xor .u32 (a.toNat : Int) (b.toNat : Int) = (a ^^^ b).toNat := by
  have h := wrap_u32 (a ^^^ b)
  simp only [bop, IntKind.bits, ofInt_nat] at *; exact h
theorem and32 (a b : BitVec 32) : bop .and .u32 (a.toNat : Int) (b.toNat : Int) = (a &&& b).toNat := by
  have h := wrap_u32 (a &&& b)
  simp only [bop, IntKind.bits, ofInt_nat] at *; exact h
theorem shr32_1 (a : BitVec 32) : (a.toNat : Int).fdiv (2 ^ min (1 : Int).toNat IntKind.u32.bits) = (a >>> 1).toNat := by
  simp [IntKind.bits, Nat.shiftRight_eq_div_pow, Int.fdiv_eq_ediv_of_nonneg]
theorem conv8_32 (a : BitVec 8) : IntKind.u32.wrap (a.toNat : Int) = (a.setWidth 32).toNat := by
  have := a.isLt
  simp [IntKind.wrap, IntKind.bits, IntKind.signed]
theorem nat32 (a b : BitVec 32) : (a.toNat : Int) = (b.toNat : Int) ↔ a = b :=
  ⟨fun h => BitVec.eq_of_toNat_eq (by exact_mod_cast h), fun h => by rw [h]⟩

/-! ### the check sum -/
def sumBit (c : BitVec 32) : BitVec 32 := if c &&& 1#32 = 1#32 then (c >>> 1) ^^^ 0xedb88320#32 else c >>> 1
def sumBits : Nat → BitVec 32 → BitVec 32
  | 0, c => c
  | n + 1, c => sumBits n (sumBit c)
theorem sumBits_succ (n : Nat) (c : BitVec 32) : sumBits (n + 1) c = sumBit (sumBits n c) := by
  induction n generalizing c with
  | zero => rfl
  | succ n ih => rw [sumBits, ih]; rfl
def sumByte (c : BitVec 32) (x : BitVec 8) : BitVec 32 := sumBits 8 (c ^^^ x.setWidth 32)
def sumAll (c : BitVec 32) (xs : List (BitVec 8)) : BitVec 32 := xs.foldl sumByte c
theorem sumAll_take (c : BitVec 32) (xs : List (BitVec 8)) (k : Nat) (h : k < xs.length) : sumAll c (xs.take (k + 1)) = sumByte (sumAll c (xs.take k)) xs[k] := by
  simp only [sumAll, List.take_succ_eq_append_getElem h, List.foldl_append, List.foldl_cons, List.foldl_nil]
def crc (xs : List (BitVec 8)) : BitVec 32 := ~~~ sumAll 0xffffffff#32 xs

theorem and_one (c : BitVec 32) : bop .and .u32 (c.toNat : Int) 1 = 1 ↔ c &&& 1#32 = 1#32 := by
  have := and32 c 1#32
  simp only [show ((1#32).toNat : Int) = 1 from rfl] at this
  rw [this, ← nat32]; rfl
theorem sumBit_yes (c : BitVec 32) (h : bop .and .u32 (c.toNat : Int) 1 = 1) :
    bop .xor .u32 ((c.toNat : Int).fdiv (2 ^ min (1 : Int).toNat IntKind.u32.bits)) 3988292384 = (sumBit c).toNat := by
  rw [shr32_1, sumBit, if_pos ((and_one c).1 h), ← xor32]; rfl
theorem sumBit_no (c : BitVec 32) (h : ¬ bop .and .u32 (c.toNat : Int) 1 = 1) :
    (c.toNat : Int).fdiv (2 ^ min (1 : Int).toNat IntKind.u32.bits) = (sumBit c).toNat := by
  rw [shr32_1, sumBit, if_neg (fun k => h ((and_one c).2 k))]
theorem crc_not (xs : List (BitVec 8)) : bop .xor .u32 (if IntKind.u32.signed = true then -1 else IntKind.u32.max) ((sumAll 0xffffffff#32 xs).toNat : Int) = (crc xs).toNat := by
  have h := xor32 0xffffffff#32 (sumAll 0xffffffff#32 xs)
  have e : (if IntKind.u32.signed = true then -1 else IntKind.u32.max) = ((0xffffffff#32).toNat : Int) := by decide
  rw [e, h, crc]
  congr 2

end Go.Proofs.Ytcgnbdgagkhehaa
