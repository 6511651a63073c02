/- Texts that the row RAucFair stands on: SIBrk, SILen, AUSym, AUStable, AULib, AUCall, AUInt, SIPart, SIPis, SIPdq, AUQuote1. -/
import Derived.Test.YtamldmgdhaoigaaYAucFairB
import Derived.Test.YtamldmgdhaoigaaYAucFairA
/- slices.xorshift.Next, loosely: some number comes. -/
namespace Go.Proofs.Ytamldmgdhaoigaa
open Go.V
set_option linter.unusedVariables false
set_option linter.unusedSimpArgs false

theorem wrap_u64_rng (x : Int) : 0 ≤ IntKind.u64.wrap x ∧ IntKind.u64.wrap x ≤ 18446744073709551615 := by
  simp only [IntKind.wrap, IntKind.bits, IntKind.signed]
  constructor <;> simp <;> omega
theorem bop_rng (x y : Int) : 0 ≤ bop BinOp.xor IntKind.u64 x y ∧ bop BinOp.xor IntKind.u64 x y ≤ 18446744073709551615 := by
  unfold bop
  first | exact wrap_u64_rng _ | (simp; exact wrap_u64_rng _)
theorem next_ok (w : World) (bs : Nat) (x : Int) :
    Does Try.prog 92 [.pointer (some ⟨bs, 0, none⟩)] [(bs, .cells [.int .u64 x] 130)] w (fun v hs => ∃ y, (0 ≤ y ∧ y ≤ 18446744073709551615) ∧ v = .int .u64 y ∧ hs = [(bs, .cells [.int .u64 y] 130)]) := by
  refine Does.of (n := 33) Try.func92 rfl rfl rfl rfl ?_
  refine .seq ((.region (.v (.assign rfl) (.nil ?_))))
  refine .seq ((.drawQ 9 [0, 1, 2, 3, 4, 5, 6, 7, 8, 9] _ (fun _ h => h) (by kernel_rfl) (by kernel_rfl) ?_))
  refine .v (fun _ f => .move rfl) (.v (fun _ f => .nilCheck rfl) (.v (fun _ f => .load (v := .int .u64 x) rfl (.one (hb := .sub f) rfl)) (.v (fun _ f => .move rfl) (.v (fun _ f => .nilCheck rfl) (.v (fun _ f => .load (v := .int .u64 x) rfl (.one (hb := .sub f) rfl)) (.v (fun _ f => .shl rfl rfl (by omega)) (.v (fun _ f => .xor rfl rfl) (.v (fun _ f => .nilCheck rfl) (.st (.storeL rfl rfl rfl) (.nil ?_))))))))))
  generalize bop BinOp.xor IntKind.u64 _ _ = x1
  refine .seq ((.drawQ 9 [0, 1, 2, 3, 4, 5, 6, 7, 8, 9] _ (fun _ h => h) (by kernel_rfl) (by kernel_rfl) ?_))
  refine .v (fun _ f => .move rfl) (.v (fun _ f => .nilCheck rfl) (.v (fun _ f => .load (v := .int .u64 x1) rfl (.one (hb := .sub f) rfl)) (.v (fun _ f => .move rfl) (.v (fun _ f => .nilCheck rfl) (.v (fun _ f => .load (v := .int .u64 x1) rfl (.one (hb := .sub f) rfl)) (.v (fun _ f => .shr rfl rfl (by omega)) (.v (fun _ f => .xor rfl rfl) (.v (fun _ f => .nilCheck rfl) (.st (.storeL rfl rfl rfl) (.nil ?_))))))))))
  generalize bop BinOp.xor IntKind.u64 _ _ = x2
  refine .seq ((.drawQ 9 [0, 1, 2, 3, 4, 5, 6, 7, 8, 9] _ (fun _ h => h) (by kernel_rfl) (by kernel_rfl) ?_))
  refine .v (fun _ f => .move rfl) (.v (fun _ f => .nilCheck rfl) (.v (fun _ f => .load (v := .int .u64 x2) rfl (.one (hb := .sub f) rfl)) (.v (fun _ f => .move rfl) (.v (fun _ f => .nilCheck rfl) (.v (fun _ f => .load (v := .int .u64 x2) rfl (.one (hb := .sub f) rfl)) (.v (fun _ f => .shl rfl rfl (by omega)) (.v (fun _ f => .xor rfl rfl) (.v (fun _ f => .nilCheck rfl) (.st (.storeL rfl rfl rfl) (.nil ?_))))))))))
  have hr := bop_rng x2 (IntKind.u64.wrap (x2 * 2 ^ min (17 : Int).toNat IntKind.u64.bits))
  generalize bop BinOp.xor IntKind.u64 _ _ = x3 at hr ⊢
  refine .seq ((.region (.v (.move rfl) (.v (.nilCheck rfl) (.v (.load (v := .int .u64 x3) rfl (.one rfl)) (.v (.assign rfl) (.nil ?_)))))))
  exact .ret ⟨[_], ⟨rfl, trivial⟩, x3, hr, rfl, rfl⟩
end Go.Proofs.Ytamldmgdhaoigaa

/- math/bits.Len64, Len, slices.nextPowerOfTwo, loosely: 2 ^ Len(x) <= 2 x. -/
namespace Go
namespace V
open Go.RowKit
set_option linter.unusedVariables false
set_option linter.unusedSimpArgs false
section
variable {P : Program} {n : Nat} {w0 : World} {own : List Nat} {e : Env} {hs : Hp}
theorem Val.indexS {T : Nat} {x y : Operand} {i : Int} {q : IntKind} {s : ByteArray} {b : UInt8} (hx : ev e x = some (.string s)) (hy : ev e y = some (.int q i)) [hT : StrT P T]
    (h0 : 0 ≤ i) (hv : s[i.toNat]? = some b) : Val P n w0 own e hs (.index T x y) (.int .u8 b.toNat) := fun a w ty pos aft g d hr s => by
  simp [execOp, hr.eval hx, hr.eval hy, Instr.index, asIntOf, run_underlying hT.out, h0, hv]
theorem Val.shrE {T U : Nat} {x y : Operand} {q r : IntKind} {i j : Int} (z : Int) (hx : ev e x = some (.int q i)) (hy : ev e y = some (.int r j)) (h0 : 0 ≤ j) (hz : i.fdiv (2 ^ min j.toNat q.bits) = z) :
    Val P n w0 own e hs (.binOp .shr T x y U) (.int q z) := hz ▸ Val.shr hx hy h0
theorem Val.shlE {T U : Nat} {x y : Operand} {q r : IntKind} {i j : Int} (z : Int) (hx : ev e x = some (.int q i)) (hy : ev e y = some (.int r j)) (h0 : 0 ≤ j) (hz : q.wrap (i * 2 ^ min j.toNat q.bits) = z) :
    Val P n w0 own e hs (.binOp .shl T x y U) (.int q z) := hz ▸ Val.shl hx hy h0
end
theorem fdiv_nat (x k : Nat) : (x : Int).fdiv (k : Int) = ((x / k : Nat) : Int) := by
  rw [Int.fdiv_eq_ediv_of_nonneg _ (by omega)]; rfl
theorem and_rng {y z : Int} (h0 : 0 ≤ z) (h1 : z ≤ 18446744073709551615) : 0 ≤ bop .and .u64 y z ∧ bop .and .u64 y z ≤ z := by
  have e1 : bop .and .u64 y z = IntKind.u64.wrap ((BitVec.ofInt 64 y &&& BitVec.ofInt 64 z).toNat : Int) := rfl
  have h2 : (BitVec.ofInt 64 y &&& BitVec.ofInt 64 z).toNat ≤ (BitVec.ofInt 64 z).toNat := by rw [BitVec.toNat_and]; exact Nat.and_le_right
  have h3 : ((BitVec.ofInt 64 z).toNat : Int) = z := by rw [BitVec.toNat_ofInt]; omega
  rw [e1, wrap_u64_in (by omega)]
  omega
end V
end Go
namespace Go.Proofs.Ytamldmgdhaoigaa
open Go.V
set_option linter.unusedVariables false
set_option linter.unusedSimpArgs false
instance : StrT Try.prog 9 := ⟨by kernel_rfl⟩
def t8 : ByteArray := { data := ((([0, 1, 2, 2, 3, 3, 3, 3, 4, 4, 4, 4, 4, 4, 4, 4, 5, 5, 5, 5, 5, 5, 5, 5, 5, 5, 5, 5, 5, 5, 5, 5, 6, 6, 6, 6, 6, 6, 6, 6, 6, 6, 6, 6, 6, 6, 6, 6, 6, 6, 6, 6, 6, 6, 6, 6, 6, 6, 6, 6, 6, 6, 6, 6] : List UInt8).append [7, 7, 7, 7, 7, 7, 7, 7, 7, 7, 7, 7, 7, 7, 7, 7, 7, 7, 7, 7, 7, 7, 7, 7, 7, 7, 7, 7, 7, 7, 7, 7, 7, 7, 7, 7, 7, 7, 7, 7, 7, 7, 7, 7, 7, 7, 7, 7, 7, 7, 7, 7, 7, 7, 7, 7, 7, 7, 7, 7, 7, 7, 7, 7]).append ([8, 8, 8, 8, 8, 8, 8, 8, 8, 8, 8, 8, 8, 8, 8, 8, 8, 8, 8, 8, 8, 8, 8, 8, 8, 8, 8, 8, 8, 8, 8, 8, 8, 8, 8, 8, 8, 8, 8, 8, 8, 8, 8, 8, 8, 8, 8, 8, 8, 8, 8, 8, 8, 8, 8, 8, 8, 8, 8, 8, 8, 8, 8, 8].append [8, 8, 8, 8, 8, 8, 8, 8, 8, 8, 8, 8, 8, 8, 8, 8, 8, 8, 8, 8, 8, 8, 8, 8, 8, 8, 8, 8, 8, 8, 8, 8, 8, 8, 8, 8, 8, 8, 8, 8, 8, 8, 8, 8, 8, 8, 8, 8, 8, 8, 8, 8, 8, 8, 8, 8, 8, 8, 8, 8, 8, 8, 8, 8])).toArray }
theorem t8_all : (List.range 256).all (fun i => match t8[i]? with | some b => decide ((b.toNat ≤ 8) ∧ ((i = 0 ∧ b.toNat = 0) ∨ 2 ^ b.toNat ≤ 2 * i)) | none => false) = true := by decide +kernel
theorem t8_get {i : Nat} (h : i < 256) : ∃ b : UInt8, t8[i]? = some b ∧ b.toNat ≤ 8 ∧ ((i = 0 ∧ b.toNat = 0) ∨ 2 ^ b.toNat ≤ 2 * i) := by
  have h1 := List.all_eq_true.1 t8_all i (List.mem_range.2 h)
  cases hb : t8[i]? with
  | none => rw [hb] at h1; cases h1
  | some b => rw [hb] at h1; exact ⟨b, rfl, (of_decide_eq_true h1).1, (of_decide_eq_true h1).2⟩
/-- (what is left, what was counted) -/
abbrev LenI (x B K : Nat) (y : Nat × Nat) : Prop := y.1 < B ∧ y.2 ≤ K ∧ 2 ^ y.2 * y.1 ≤ x ∧ (0 < x → 0 < y.1) ∧ (x = 0 → y.2 = 0)
theorem LenI.next {x K B' k : Nat} {y : Nat × Nat} (h : LenI x (2 ^ k * B') K y) (hg : 2 ^ k ≤ y.1) : LenI x B' (K + k) (y.1 / 2 ^ k, y.2 + k) := by
  obtain ⟨h1, h2, h3, h4, h5⟩ := h
  have hp : 0 < 2 ^ k := Nat.pos_of_ne_zero (by simp)
  have hy : 0 < y.1 := by omega
  have hx : 0 < x := by
    have : 0 < 2 ^ y.2 * y.1 := Nat.mul_pos (Nat.pos_of_ne_zero (by simp)) hy
    omega
  refine ⟨(Nat.div_lt_iff_lt_mul hp).2 (by rw [Nat.mul_comm]; exact h1), Nat.add_le_add_right h2 k, ?_, fun _ => Nat.div_pos hg hp, fun h => by omega⟩
  show 2 ^ (y.2 + k) * (y.1 / 2 ^ k) ≤ x
  rw [Nat.pow_add, Nat.mul_assoc]
  exact Nat.le_trans (Nat.mul_le_mul_left _ (Nat.mul_div_le _ _)) h3
theorem LenI.stay {x B K B' K' : Nat} {y : Nat × Nat} (h : LenI x B K y) (hg : y.1 < B') (hk : K ≤ K') : LenI x B' K' y := ⟨hg, Nat.le_trans h.2.1 hk, h.2.2⟩
set_option maxRecDepth 20000 in
theorem len64_ok (w : World) (x : Nat) (hx : x < 18446744073709551616) : Does Try.prog 86 [.int .u64 x] [] w (fun v hs => ∃ k : Nat, k ≤ 64 ∧ (0 < x → 2 ^ k ≤ 2 * x) ∧ v = .int .i64 k ∧ hs = []) := by
  refine Does.of (n := 25) Try.func86 rfl rfl rfl rfl ?_
  refine .seq ((.region (.v (.assign rfl) (.nil ?_))))
  have i0 : LenI x 18446744073709551616 0 (x, 0) := ⟨hx, Nat.le_refl _, by show 2 ^ 0 * x ≤ x; omega, fun h => h, fun _ => rfl⟩
  refine .mid (X := Nat × Nat) (fun y => [(0, .int .u64 y.1), (2, .int .i64 y.2)]) (fun _ => []) (LenI x 4294967296 32) (.seq ((.region (.v (.move rfl) (.v (.geq rfl rfl) (.nil ?_)))))) ?_
  · refine .cond_dec rfl (fun h1 => ?_) (fun h1 => .skip ?_)
    · refine .seq ((.region (.v (.move rfl) (.v (.shrE ((x / 4294967296 : Nat) : Int) rfl rfl (by omega) (fdiv_nat x 4294967296)) (.v (.assign rfl) (.nil ?_))))))
      refine .region (.v (.assign rfl) (.nil ?_))
      exact ⟨(x / 4294967296, 32), LenI.next (x := x) (K := 0) (k := 32) (B' := 4294967296) (y := (x, 0)) i0 (show 2 ^ 32 ≤ x by omega), .cons rfl (.cons rfl (.nil _)), fun _ s => s⟩
    · exact ⟨(x, 0), i0.stay (show x < _ by omega) (by omega), .cons rfl (.cons rfl (.nil _)), fun _ s => s⟩
  rintro ⟨x1, k1⟩ i1
  dsimp only at ⊢
  have b1 := i1.2.1
  dsimp only at b1
  refine .mid (X := Nat × Nat) (fun y => [(0, .int .u64 y.1), (2, .int .i64 y.2)]) (fun _ => []) (LenI x 65536 48) (.seq ((.region (.v (.move rfl) (.v (.geq rfl rfl) (.nil ?_)))))) ?_
  · refine .cond_dec rfl (fun h1 => ?_) (fun h1 => .skip ?_)
    · refine .seq ((.region (.v (.move rfl) (.v (.shrE ((x1 / 65536 : Nat) : Int) rfl rfl (by omega) (fdiv_nat x1 65536)) (.v (.assign rfl) (.nil ?_))))))
      refine .region (.v (.move rfl) (.v (.addE ((k1 + 16 : Nat) : Int) rfl rfl (by omega) (by omega)) (.v (.assign rfl) (.nil ?_))))
      exact ⟨(x1 / 65536, k1 + 16), LenI.next (x := x) (K := 32) (k := 16) (B' := 65536) (y := (x1, k1)) i1 (show 2 ^ 16 ≤ x1 by omega), .cons rfl (.cons rfl (.nil _)), fun _ s => s⟩
    · exact ⟨(x1, k1), i1.stay (show x1 < _ by omega) (by omega), .cons rfl (.cons rfl (.nil _)), fun _ s => s⟩
  clear b1 i1 i0 hx
  rintro ⟨x2, k2⟩ i2
  dsimp only at ⊢
  have b2 := i2.2.1
  dsimp only at b2
  refine .mid (X := Nat × Nat) (fun y => [(0, .int .u64 y.1), (2, .int .i64 y.2)]) (fun _ => []) (LenI x 256 56) (.seq ((.region (.v (.move rfl) (.v (.geq rfl rfl) (.nil ?_)))))) ?_
  · refine .cond_dec rfl (fun h1 => ?_) (fun h1 => .skip ?_)
    · refine .seq ((.region (.v (.move rfl) (.v (.shrE ((x2 / 256 : Nat) : Int) rfl rfl (by omega) (fdiv_nat x2 256)) (.v (.assign rfl) (.nil ?_))))))
      refine .region (.v (.move rfl) (.v (.addE ((k2 + 8 : Nat) : Int) rfl rfl (by omega) (by omega)) (.v (.assign rfl) (.nil ?_))))
      exact ⟨(x2 / 256, k2 + 8), LenI.next (x := x) (K := 48) (k := 8) (B' := 256) (y := (x2, k2)) i2 (show 2 ^ 8 ≤ x2 by omega), .cons rfl (.cons rfl (.nil _)), fun _ s => s⟩
    · exact ⟨(x2, k2), i2.stay (show x2 < _ by omega) (by omega), .cons rfl (.cons rfl (.nil _)), fun _ s => s⟩
  clear b2 i2
  rintro ⟨x3, k3⟩ ⟨i1, i2, i3, i4, i5⟩
  dsimp only at i1 i2 i3 i4 i5 ⊢
  obtain ⟨c, hc, hc8, hc2⟩ := t8_get i1
  refine .seq ((.region (.v (.move rfl) (.v (.move rfl) (.v (.convE (x3 : Int) rfl (by simp [IntKind.wrap, IntKind.bits, IntKind.signed]; omega)) (.v (.indexS rfl rfl (by omega) hc) (.v (.convE (c.toNat : Int) rfl (wrap_i64 (by omega))) (.v (.addE ((k3 + c.toNat : Nat) : Int) rfl rfl (by omega) (by omega)) (.v (.assign rfl) (.nil ?_))))))))))
  refine .ret ?_
  refine ⟨[_], ⟨rfl, trivial⟩, k3 + c.toNat, by omega, fun h => ?_, rfl, rfl⟩
  have h3 := i4 h
  rcases hc2 with ⟨h, _⟩ | hc2
  · omega
  · rw [Nat.pow_add]
    have := Nat.mul_le_mul_left (2 ^ k3) hc2
    rw [show 2 ^ k3 * (2 * x3) = 2 * (2 ^ k3 * x3) by rw [Nat.mul_left_comm]] at this
    omega
set_option maxRecDepth 20000 in
theorem len_ok (w : World) (x : Nat) (hx : x < 18446744073709551616) : Does Try.prog 63 [.int .u64 x] [] w (fun v hs => ∃ k : Nat, k ≤ 64 ∧ (0 < x → 2 ^ k ≤ 2 * x) ∧ v = .int .i64 k ∧ hs = []) := by
  refine Does.of (n := 8) Try.func63 rfl rfl rfl rfl ?_
  refine .seq ((.region (.v (.assign rfl) (.nil ?_))))
  refine .seq (.cond_false rfl (.skip ?_))
  refine .seq ((.region (.v (.move rfl) ?_)))
  refine .ef (.call0 rfl rfl fun w s => len64_ok w x hx) ?_
  rintro _ _ ⟨_, ⟨k, h1, h2, rfl, rfl⟩, rfl⟩
  refine .v (.assign rfl) (.nil ?_)
  exact .ret ⟨[_], ⟨rfl, trivial⟩, k, h1, h2, rfl, rfl⟩
set_option maxRecDepth 20000 in
theorem nextPow_ok (w : World) (x : Nat) (h0 : 0 < x) (hx : x < 2305843009213693952) : Does Try.prog 91 [.int .i64 x] [] w (fun v hs => ∃ m : Nat, 0 < m ∧ m ≤ 2 * x ∧ v = .int .u64 m ∧ hs = []) := by
  refine Does.of (n := 7) Try.func91 rfl rfl rfl rfl ?_
  refine .seq ((.region (.v (.assign rfl) (.nil ?_))))
  refine .seq ((.region (.v (.move rfl) (.v (.convE (x : Int) rfl (wrap_u64_in (by omega))) ?_))))
  refine .ef (.call0 rfl rfl fun w s => len_ok w x (by omega)) ?_
  rintro _ _ ⟨_, ⟨k, h1, h2, rfl, rfl⟩, rfl⟩
  have h3 := h2 h0
  have hp : 0 < 2 ^ k := Nat.pos_of_ne_zero (by simp)
  refine .v (.shlE ((2 ^ k : Nat) : Int) rfl rfl (by omega) ?_) (.v (.assign rfl) (.nil ?_))
  · rw [show min ((k : Int).toNat) IntKind.u64.bits = k by rw [Int.toNat_natCast]; exact Nat.min_eq_left h1, Int.one_mul]
    rw [show ((2 : Int) ^ k) = ((2 ^ k : Nat) : Int) by simp]
    exact wrap_u64_in (by omega)
  exact .ret ⟨[_], ⟨rfl, trivial⟩, 2 ^ k, hp, h3, rfl, rfl⟩
end Go.Proofs.Ytamldmgdhaoigaa

/- slices.symMergeCmpFunc over interests. -/
namespace Go.Proofs.Ytamldmgdhaoigaa
open Go.V
set_option linter.unusedVariables false
set_option linter.unusedSimpArgs false
set_option maxRecDepth 20000

theorem half_shr (x : Nat) : ((x : Nat) : Int).fdiv (2 ^ min (1 : Int).toNat IntKind.u64.bits) = ((x / 2 : Nat) : Int) := fdiv_nat x 2
theorem get_blk (U B Y : List It) {t : Nat} (h : t < B.length) : (U ++ (B ++ Y))[U.length + t]! = B[t]! := by
  rw [getElem!_pos _ _ (by simp; omega), getElem!_pos B t h, List.getElem_append_right (by omega)]
  simp only [Nat.add_sub_cancel_left]
  rw [List.getElem_append_left h]
theorem SI.blk {b o c n : Nat} {l : List Value} {U B Y : List It} (k : SI b o c n (U ++ (B ++ Y)) l) {t : Nat} (h : t < B.length) {u : Nat} (hu : u = U.length + t) {w0 : World} {own : List Nat} {hs : Hp} (hh : [IB b l] ⊆ hs) : At w0 own hs ⟨b, o + u * 6, none⟩ (B[t]!).cells := by
  subst hu
  have hs := k.sz
  simp only [List.length_append] at hs
  have := k.at_ (i := U.length + t) (by omega) (w0 := w0) (own := own) hh
  rw [get_blk U B Y h] at this
  exact this
theorem mem_get! {l : List It} {t : Nat} (h : t < l.length) : l[t]! ∈ l := by rw [getElem!_pos l t h]; exact List.getElem_mem h
structure SyS where
  s : Nat
  r : Nat
structure SyL where
  Z : List It
  l : List Value
structure SyT where
  t : Nat
  l : List Value
set_option maxHeartbeats 4000000 in
theorem sym_ok : ∀ (N : Nat) (w : World) {b o c n : Nat} {l : List Value} (X A B Y : List It) (hN : A.length + B.length ≤ N) (k : SI b o c n (X ++ (A ++ (B ++ Y))) l) (hn : n < 1152921504606846976) (hp : ∀ x ∈ A ++ B, x.P) (hA : Srk rank A) (hB : Srk rank B) (h1 : 0 < A.length) (h2 : 0 < B.length) (a m e : Nat) (ha : a = X.length) (hm : m = X.length + A.length) (he : e = X.length + A.length + B.length),
    Does Try.prog 88 [.slice (some ⟨b, o, none⟩) n c, .int .i64 a, .int .i64 m, .int .i64 e, CF] [IB b l] w (fun _ hs => ∃ Z, St rank (A ++ B) Z ∧ SIR b o c n (X ++ (Z ++ Y)) hs) := by
  intro N
  induction N using Nat.strongRecOn with
  | ind N IH =>
  intro w b o c n l X A B Y hN k hn hp hA hB h1 h2 a m e ha hm he
  have hsz := k.sz
  simp only [List.length_append] at hsz
  refine Does.of (n := 220) Try.func88 rfl rfl rfl rfl ?_
  refine .seq (.seq ((.region (.v (.move rfl) (.v (.move rfl) (.v (.subE (A.length : Int) rfl rfl (by omega) (by omega)) (.v (.eqi rfl rfl) (.nil ?_))))))))
  refine .cond_dec rfl (fun g1 => ?_) (fun g1 => .skip ?_)
  · obtain ⟨x, rfl⟩ : ∃ x, A = [x] := List.length_eq_one_iff.1 (by omega)
    have hx := hp x (by simp)
    have k0 : SI b o c n ((X ++ [x]) ++ (B ++ Y)) l := k.to (by simp)
    refine .seq ((.region (.v (.move rfl) (.v (.assign rfl) (.nil ?_)))))
    refine .seq ((.region (.v (.move rfl) (.v (.assign rfl) (.nil ?_)))))
    refine .mid (X := Nat) (fun s => [(0, .slice (some ⟨b, o, none⟩) n c), (1, .int .i64 a), (10, .int .i64 ((m + s : Nat) : Int))]) (fun _ => [IB b l]) (fun s => s ≤ B.length ∧ (∀ t, t < s → rank B[t]! < rank x) ∧ (∀ t, s ≤ t → t < B.length → ¬ rank B[t]! < rank x)) (.block (.loop (X := SyS) (fun y => [(0, .slice (some ⟨b, o, none⟩) n c), (1, .int .i64 a), (4, CF), (10, .int .i64 ((m + y.s : Nat) : Int)), (11, .int .i64 ((m + y.r : Nat) : Int))]) (fun _ => [IB b l]) (fun y => y.s ≤ y.r ∧ y.r ≤ B.length ∧ (∀ t, t < y.s → rank B[t]! < rank x) ∧ (∀ t, y.r ≤ t → t < B.length → ¬ rank B[t]! < rank x)) (fun y => y.r - y.s) ⟨0, B.length⟩ ⟨Nat.zero_le _, Nat.le_refl _, fun t h => absurd h (Nat.not_lt_zero _), fun t h h' => absurd h (by show ¬ B.length ≤ t; omega)⟩ (.cons rfl (.cons rfl (.cons rfl (.cons rfl (.cons (by rw [he, ← hm]; rfl) (.nil _)))))) (fun _ s => s) ?_)) ?_
    · rintro ⟨s, r⟩ ⟨hsr, hr, ilo, ihi⟩
      dsimp only at hsr hr ilo ihi ⊢
      refine .seq (.seq ((.region (.v (.move rfl) (.v (.move rfl) (.v (.lss rfl rfl) (.nil ?_)))))))
      refine .cond_dec rfl (fun g2 => .skip ?_) (fun g2 => .exit ?_)
      case refine_2 =>
        have : s = r := by omega
        subst this
        exact ⟨s, ⟨hr, ilo, ihi⟩, .cons rfl (.cons rfl (.cons rfl (.nil _))), fun _ s => s⟩
      have hh : (m + s + (m + r)) / 2 = m + (s + r) / 2 := by omega
      have hc : (s + r) / 2 < B.length := by omega
      have hc1 : s ≤ (s + r) / 2 ∧ (s + r) / 2 < r := by omega
      generalize (s + r) / 2 = h at hh hc hc1
      have q1 := fun hs' hsub => k0.blk (w0 := w) (own := [b]) (hs := hs') hc (u := m + h) (by simp; omega) hsub
      have q2 := fun hs' hsub => SI.blk (w0 := w) (own := [b]) (hs := hs') (U := X) (B := [x]) (Y := B ++ Y) (t := 0) k (by simp) (u := a) (by omega) hsub
      have hBp := hp _ (List.mem_append_right [x] (mem_get! hc))
      have hmn : ∀ t, t ≤ h → rank B[t]! ≤ rank B[h]! := fun t ht => srk_get hB ht hc
      have hmx : ∀ t, h ≤ t → t < B.length → rank B[h]! ≤ rank B[t]! := fun t ht hl => srk_get hB ht hl
      generalize hy : B[h]! = y at q1 hBp hmn hmx
      refine .block (.seq ((.region (.v (.move rfl) (.v (.move rfl) (.v (.addE ((m + s + (m + r) : Nat) : Int) rfl rfl (by omega) (by omega)) (.v (.convE ((m + s + (m + r) : Nat) : Int) rfl (wrap_u64_in (by omega))) (.v (.shrE ((m + h : Nat) : Int) rfl rfl (by omega) (by rw [half_shr, hh])) (.v (.convE ((m + h : Nat) : Int) rfl (wrap_i64 (by omega))) (.v (.assign rfl) (.nil ?_)))))))))))
      refine .seq ((.drawK [IB b l] (fun _ h => h) (by kernel_rfl) (by kernel_rfl) ?_))
      refine .v (fun _ f => .move rfl) (.v (fun _ f => .move rfl) (.v (fun _ f => .move rfl) (.v (fun _ f => .indexM (m + h) rfl rfl (by omega)) (.v (fun hs' f => .loadA (vs := y.cells) rfl (q1 hs' f) rfl) (.v (fun _ f => .move rfl) (.v (fun _ f => .move rfl) (.v (fun _ f => .indexM a rfl rfl (by omega)) (.v (fun hs' f => .loadA (vs := x.cells) rfl (q2 hs' f) rfl) (.pc rfl rfl (fun w s => cmpI_ok w y x hBp hx) (.v (v := .bool (decide (rank y < rank x))) (fun _ f => Val.as (.lss rfl rfl) (congrArg Value.bool (decide_eq_decide.2 (cmpZ_lt _ _)))) (.nil ?_)))))))))))
      refine .cond_dec rfl (fun g3 => ?_) (fun g3 => ?_)
      · refine .region (.v (.move rfl) (.v (.addE ((m + (h + 1) : Nat) : Int) rfl rfl (by omega) (by omega)) (.v (.assign rfl) (.nil ?_))))
        exact ⟨⟨h + 1, r⟩, ⟨hc1.2, hr, fun t ht => by have := hmn t (by have : t < h + 1 := ht; omega); omega, ihi⟩, by show r - (h + 1) < r - s; omega, .cons rfl (.cons rfl (.cons rfl (.cons rfl (.cons rfl (.nil _))))), fun _ s => s⟩
      · refine .region (.v (.move rfl) (.v (.assign rfl) (.nil ?_)))
        exact ⟨⟨s, h⟩, ⟨hc1.1, by show h ≤ B.length; omega, ilo, fun t ht hl => by have := hmx t ht hl; omega⟩, by show h - s < r - s; omega, .cons rfl (.cons rfl (.cons rfl (.cons rfl (.cons rfl (.nil _))))), fun _ s => s⟩
    rintro s ⟨hs, ilo, ihi⟩
    try dsimp only at hs ilo ihi ⊢
    have hfin : St rank ([x] ++ B) (B.take s ++ ([x] ++ B.drop s)) := by
      have := St.ahead (P1 := B.take s) (P2 := B.drop s) (x := x) (by rw [List.take_append_drop]; exact hB) (fun y hy => by
        obtain ⟨i, i1, i2, rfl⟩ := mem_take_get hy; exact ilo i i1) (fun y hy => by
        obtain ⟨i, i1, i2, rfl⟩ := mem_drop_get hy; have := ihi i i1 i2; omega)
      rw [List.take_append_drop] at this
      exact this
    refine .seq (.seq ((.region (.v (.move rfl) (.v (.assign rfl) (.nil ?_))))))
    refine .block (.loop (X := SyT) (fun y => [(0, .slice (some ⟨b, o, none⟩) n c), (10, .int .i64 ((m + s : Nat) : Int)), (13, .int .i64 ((a + y.t : Nat) : Int))]) (fun y => [IB b y.l]) (fun y => y.t ≤ s ∧ SI b o c n (X ++ (B.take y.t ++ (x :: (B.drop y.t ++ Y)))) y.l) (fun y => s - y.t) ⟨0, l⟩ ⟨Nat.zero_le _, k⟩ (.cons rfl (.cons rfl (.cons rfl (.nil _)))) (fun _ s => s) ?_)
    clear k k0
    rintro ⟨t, l⟩ ⟨ht, k⟩
    dsimp only at ht k ⊢
    refine .seq (.seq ((.region (.v (.move rfl) (.v (.move rfl) (.v (.subE ((a + s : Nat) : Int) rfl rfl (by simp at hm; omega) (by omega)) (.v (.lss rfl rfl) (.nil ?_))))))))
    refine .cond_dec rfl (fun g4 => .skip ?_) (fun g4 => .exit ?_)
    case refine_2 =>
      have : t = s := by omega
      subst this
      exact .ret ⟨[], trivial, _, hfin, l, rfl, k.to (by simp)⟩
    have htB : t < B.length := by omega
    have e1 : X ++ (B.take t ++ (x :: (B.drop t ++ Y))) = (X ++ B.take t) ++ x :: ([] ++ B[t] :: (B.drop (t + 1) ++ Y)) := by
      rw [List.drop_eq_getElem_cons htB]; simp only [List.append_assoc, List.cons_append, List.nil_append]
    have e2 : (X ++ B.take t) ++ B[t] :: ([] ++ x :: (B.drop (t + 1) ++ Y)) = X ++ (B.take (t + 1) ++ (x :: (B.drop (t + 1) ++ Y))) := by
      rw [List.take_succ_eq_append_getElem htB]; simp only [List.append_assoc, List.cons_append, List.nil_append]
    have l1 : (X ++ B.take t).length = a + t := by rw [List.length_append, List.length_take]; omega
    rw [e1] at k
    generalize B[t] = y at k e2
    have g1' := get_mid (X ++ B.take t) ([] ++ y :: (B.drop (t + 1) ++ Y)) x
    have g2' := get_mid2 (X ++ B.take t) [] (B.drop (t + 1) ++ Y) x y
    have g3' := swp_mid (X ++ B.take t) [] (B.drop (t + 1) ++ Y) x y
    rw [l1] at g1' g2' g3'
    simp only [List.length_nil, Nat.add_zero] at g2' g3'
    rw [e2] at g3'
    have hsz2 := k.sz
    simp only [List.length_append, List.length_cons, List.length_drop, List.length_nil, List.length_take] at hsz2
    have q1 := fun hs' hsub => k.at_ (w0 := w) (own := [b]) (hs := hs') (i := a + t) (by omega) hsub
    have q2 := fun hs' hsub => k.at_ (w0 := w) (own := [b]) (hs := hs') (i := a + t + 1) (by omega) hsub
    have k3 := k.swp (i := a + t) (j := a + t + 1) (by omega) (by omega)
    have hlen := k.len
    rw [g1'] at q1 k3
    rw [g2'] at q2 k3
    rw [g3'] at k3
    refine .seq (.block ((.drawY 15 [0, 1, 2, 3, 4, 5, 6, 7, 8, 9, 10, 11, 12, 13, 14, 15, 16, 17] [IB b l] (fun _ h => h) (by kernel_rfl) (by kernel_rfl) ?_)))
    refine .x (fun _ _ _ => .move rfl) (.x (fun _ _ _ => .move rfl) (.x (fun _ _ _ => .move rfl) (.x (fun _ _ _ => .move rfl) (.x (fun _ _ _ => .addE ((a + t + 1 : Nat) : Int) rfl rfl (by omega) (by omega)) (.x (fun _ _ _ => .move rfl) (.x (fun _ _ _ => .move rfl) (.x (fun _ _ _ => .addE ((a + t + 1 : Nat) : Int) rfl rfl (by omega) (by omega)) (.x (fun _ _ _ => .indexM (a + t + 1) rfl rfl (by omega)) (.v (fun hs' f => .loadA (vs := y.cells) rfl (q2 hs' f) rfl) (.x (fun _ _ _ => .move rfl) (.x (fun _ _ _ => .move rfl) (.x (fun _ _ _ => .indexM (a + t) rfl rfl (by omega)) (.v (fun hs' f => .loadA (vs := x.cells) rfl (q1 hs' f) rfl) ?_)))))))))))))
    refine .x (fun _ _ _ => .indexM (a + t) rfl rfl (by omega)) (.st (.storeA rfl rfl rfl rfl (by show o + (a + t) * 6 + 6 ≤ _; omega)) (.x (fun _ _ _ => .indexM (a + t + 1) rfl rfl (by omega)) (.st2 (.storeA rfl rfl rfl rfl (by rw [splice_length _ _ _ (by show o + (a + t) * 6 + 6 ≤ _; omega)]; show o + (a + t + 1) * 6 + 6 ≤ _; omega)) (.nil ?_))))
    refine .region (.v (.move rfl) (.v (.addE ((a + (t + 1) : Nat) : Int) rfl rfl (by omega) (by omega)) (.v (.assign rfl) (.nil ?_))))
    exact ⟨⟨t + 1, _⟩, ⟨by show t + 1 ≤ s; omega, k3⟩, by show s - (t + 1) < s - t; omega, .cons rfl (.cons rfl (.cons rfl (.nil _))), fun _ s => s⟩
  refine .seq (.seq ((.region (.v (.move rfl) (.v (.move rfl) (.v (.subE (B.length : Int) rfl rfl (by omega) (by omega)) (.v (.eqi rfl rfl) (.nil ?_))))))))
  refine .cond_dec rfl (fun g5 => ?_) (fun g5 => .skip ?_)
  · obtain ⟨x, rfl⟩ : ∃ x, B = [x] := List.length_eq_one_iff.1 (by omega)
    have hx := hp x (by simp)
    have k0 : SI b o c n ((X ++ A) ++ ([x] ++ Y)) l := k.to (by simp)
    refine .seq ((.region (.v (.move rfl) (.v (.assign rfl) (.nil ?_)))))
    refine .seq ((.region (.v (.move rfl) (.v (.assign rfl) (.nil ?_)))))
    refine .mid (X := Nat) (fun s => [(0, .slice (some ⟨b, o, none⟩) n c), (2, .int .i64 m), (14, .int .i64 ((a + s : Nat) : Int))]) (fun _ => [IB b l]) (fun s => s ≤ A.length ∧ (∀ t, t < s → ¬ rank x < rank A[t]!) ∧ (∀ t, s ≤ t → t < A.length → rank x < rank A[t]!)) (.block (.loop (X := SyS) (fun y => [(0, .slice (some ⟨b, o, none⟩) n c), (2, .int .i64 m), (4, CF), (14, .int .i64 ((a + y.s : Nat) : Int)), (15, .int .i64 ((a + y.r : Nat) : Int))]) (fun _ => [IB b l]) (fun y => y.s ≤ y.r ∧ y.r ≤ A.length ∧ (∀ t, t < y.s → ¬ rank x < rank A[t]!) ∧ (∀ t, y.r ≤ t → t < A.length → rank x < rank A[t]!)) (fun y => y.r - y.s) ⟨0, A.length⟩ ⟨Nat.zero_le _, Nat.le_refl _, fun t h => absurd h (Nat.not_lt_zero _), fun t h h' => absurd h (by show ¬ A.length ≤ t; omega)⟩ (.cons rfl (.cons rfl (.cons rfl (.cons rfl (.cons (by rw [hm, ← ha]; rfl) (.nil _)))))) (fun _ s => s) ?_)) ?_
    · rintro ⟨s, r⟩ ⟨hsr, hr, ilo, ihi⟩
      dsimp only at hsr hr ilo ihi ⊢
      refine .seq (.seq ((.region (.v (.move rfl) (.v (.move rfl) (.v (.lss rfl rfl) (.nil ?_)))))))
      refine .cond_dec rfl (fun g2 => .skip ?_) (fun g2 => .exit ?_)
      case refine_2 =>
        have : s = r := by omega
        subst this
        exact ⟨s, ⟨hr, ilo, ihi⟩, .cons rfl (.cons rfl (.cons rfl (.nil _))), fun _ s => s⟩
      have hh : (a + s + (a + r)) / 2 = a + (s + r) / 2 := by omega
      have hc : (s + r) / 2 < A.length := by omega
      have hc1 : s ≤ (s + r) / 2 ∧ (s + r) / 2 < r := by omega
      generalize (s + r) / 2 = h at hh hc hc1
      have q1 := fun hs' hsub => k.blk (w0 := w) (own := [b]) (hs := hs') hc (u := a + h) (by omega) hsub
      have q2 := fun hs' hsub => SI.blk (w0 := w) (own := [b]) (hs := hs') (U := X ++ A) (B := [x]) (Y := Y) (t := 0) k0 (by simp) (u := m) (by simp; omega) hsub
      have hBp := hp _ (List.mem_append_left [x] (mem_get! hc))
      have hmn : ∀ t, t ≤ h → rank A[t]! ≤ rank A[h]! := fun t ht => srk_get hA ht hc
      have hmx : ∀ t, h ≤ t → t < A.length → rank A[h]! ≤ rank A[t]! := fun t ht hl => srk_get hA ht hl
      generalize hy : A[h]! = y at q1 hBp hmn hmx
      refine .block (.seq ((.region (.v (.move rfl) (.v (.move rfl) (.v (.addE ((a + s + (a + r) : Nat) : Int) rfl rfl (by omega) (by omega)) (.v (.convE ((a + s + (a + r) : Nat) : Int) rfl (wrap_u64_in (by omega))) (.v (.shrE ((a + h : Nat) : Int) rfl rfl (by omega) (by rw [half_shr, hh])) (.v (.convE ((a + h : Nat) : Int) rfl (wrap_i64 (by omega))) (.v (.assign rfl) (.nil ?_)))))))))))
      refine .seq ((.drawK [IB b l] (fun _ h => h) (by kernel_rfl) (by kernel_rfl) ?_))
      refine .v (fun _ f => .move rfl) (.v (fun _ f => .move rfl) (.v (fun _ f => .move rfl) (.v (fun _ f => .indexM m rfl rfl (by simp at hsz; omega)) (.v (fun hs' f => .loadA (vs := x.cells) rfl (q2 hs' f) rfl) (.v (fun _ f => .move rfl) (.v (fun _ f => .move rfl) (.v (fun _ f => .indexM (a + h) rfl rfl (by omega)) (.v (fun hs' f => .loadA (vs := y.cells) rfl (q1 hs' f) rfl) (.pc rfl rfl (fun w s => cmpI_ok w x y hx hBp) (.v (v := .bool (decide (rank x < rank y))) (fun _ f => Val.as (.lss rfl rfl) (congrArg Value.bool (decide_eq_decide.2 (cmpZ_lt _ _)))) (.v (fun _ f => .not rfl) (.nil ?_))))))))))))
      refine .cond rfl (fun g3 => ?_) (fun g3 => ?_)
      · have g3 : ¬ rank x < rank y := by simpa using g3
        refine .region (.v (.move rfl) (.v (.addE ((a + (h + 1) : Nat) : Int) rfl rfl (by omega) (by omega)) (.v (.assign rfl) (.nil ?_))))
        exact ⟨⟨h + 1, r⟩, ⟨hc1.2, hr, fun t ht => by have := hmn t (by have : t < h + 1 := ht; omega); omega, ihi⟩, by show r - (h + 1) < r - s; omega, .cons rfl (.cons rfl (.cons rfl (.cons rfl (.cons rfl (.nil _))))), fun _ s => s⟩
      · have g3 : rank x < rank y := by simpa using g3
        refine .region (.v (.move rfl) (.v (.assign rfl) (.nil ?_)))
        exact ⟨⟨s, h⟩, ⟨hc1.1, by show h ≤ A.length; omega, ilo, fun t ht hl => by have := hmx t ht hl; omega⟩, by show h - s < r - s; omega, .cons rfl (.cons rfl (.cons rfl (.cons rfl (.cons rfl (.nil _))))), fun _ s => s⟩
    rintro s ⟨hs, ilo, ihi⟩
    try dsimp only at hs ilo ihi ⊢
    have hfin : St rank (A ++ [x]) (A.take s ++ ([x] ++ A.drop s)) := by
      have := St.ins (P1 := A.take s) (P2 := A.drop s) (x := x) (by rw [List.take_append_drop]; exact hA) (fun y hy => by
        obtain ⟨i, i1, i2, rfl⟩ := mem_drop_get hy; exact ihi i i1 i2) (fun y hy => by
        obtain ⟨i, i1, i2, rfl⟩ := mem_take_get hy; have := ilo i i1; omega)
      rw [List.take_append_drop] at this
      exact this
    refine .seq (.seq ((.region (.v (.move rfl) (.v (.assign rfl) (.nil ?_))))))
    refine .block (.loop (X := SyT) (fun y => [(0, .slice (some ⟨b, o, none⟩) n c), (14, .int .i64 ((a + s : Nat) : Int)), (17, .int .i64 ((a + y.t : Nat) : Int))]) (fun y => [IB b y.l]) (fun y => s ≤ y.t ∧ y.t ≤ A.length ∧ SI b o c n (X ++ (A.take y.t ++ (x :: (A.drop y.t ++ Y)))) y.l) (fun y => y.t) ⟨A.length, l⟩ ⟨hs, Nat.le_refl _, k.to (by simp)⟩ (.cons rfl (.cons rfl (.cons (by rw [hm, ← ha]; rfl) (.nil _)))) (fun _ s => s) ?_)
    clear k k0
    rintro ⟨t, l⟩ ⟨ht, htA, k⟩
    dsimp only at ht htA k ⊢
    refine .seq (.seq ((.region (.v (.move rfl) (.v (.move rfl) (.v (.gtr rfl rfl) (.nil ?_)))))))
    refine .cond_dec rfl (fun g4 => .skip ?_) (fun g4 => .exit ?_)
    case refine_2 =>
      have : t = s := by omega
      subst this
      exact .ret ⟨[], trivial, _, hfin, l, rfl, k.to (by simp)⟩
    obtain ⟨t, rfl⟩ : ∃ t', t = t' + 1 := ⟨t - 1, by omega⟩
    have e1 : X ++ (A.take (t + 1) ++ (x :: (A.drop (t + 1) ++ Y))) = (X ++ A.take t) ++ A[t] :: ([] ++ x :: (A.drop (t + 1) ++ Y)) := by
      rw [List.take_succ_eq_append_getElem (by omega)]; simp only [List.append_assoc, List.cons_append, List.nil_append]
    have e2 : (X ++ A.take t) ++ x :: ([] ++ A[t] :: (A.drop (t + 1) ++ Y)) = X ++ (A.take t ++ (x :: (A.drop t ++ Y))) := by
      rw [List.drop_eq_getElem_cons (show t < A.length by omega)]; simp only [List.append_assoc, List.cons_append, List.nil_append]
    have l1 : (X ++ A.take t).length = a + t := by rw [List.length_append, List.length_take]; omega
    rw [e1] at k
    generalize A[t] = y at k e2
    have g1' := get_mid (X ++ A.take t) ([] ++ x :: (A.drop (t + 1) ++ Y)) y
    have g2' := get_mid2 (X ++ A.take t) [] (A.drop (t + 1) ++ Y) y x
    have g3' := swp_mid' (X ++ A.take t) [] (A.drop (t + 1) ++ Y) y x
    rw [l1] at g1' g2' g3'
    simp only [List.length_nil, Nat.add_zero] at g2' g3'
    rw [e2] at g3'
    have hsz2 := k.sz
    simp only [List.length_append, List.length_cons, List.length_drop, List.length_nil, List.length_take] at hsz2
    have q1 := fun hs' hsub => k.at_ (w0 := w) (own := [b]) (hs := hs') (i := a + t) (by omega) hsub
    have q2 := fun hs' hsub => k.at_ (w0 := w) (own := [b]) (hs := hs') (i := a + t + 1) (by omega) hsub
    have k3 := k.swp (i := a + t + 1) (j := a + t) (by omega) (by omega)
    have hlen := k.len
    rw [g1'] at q1 k3
    rw [g2'] at q2 k3
    rw [g3'] at k3
    refine .seq (.block ((.drawY 15 [0, 1, 2, 3, 4, 5, 6, 7, 8, 9, 10, 11, 12, 13, 14, 15, 16, 17] [IB b l] (fun _ h => h) (by kernel_rfl) (by kernel_rfl) ?_)))
    refine .x (fun _ _ _ => .move rfl) (.x (fun _ _ _ => .move rfl) (.x (fun _ _ _ => .move rfl) (.x (fun _ _ _ => .move rfl) (.x (fun _ _ _ => .subE ((a + t : Nat) : Int) rfl rfl (by omega) (by omega)) (.x (fun _ _ _ => .move rfl) (.x (fun _ _ _ => .move rfl) (.x (fun _ _ _ => .subE ((a + t : Nat) : Int) rfl rfl (by omega) (by omega)) (.x (fun _ _ _ => .indexM (a + t) rfl rfl (by omega)) (.v (fun hs' f => .loadA (vs := y.cells) rfl (q1 hs' f) rfl) (.x (fun _ _ _ => .move rfl) (.x (fun _ _ _ => .move rfl) (.x (fun _ _ _ => .indexM (a + t + 1) rfl rfl (by omega)) (.v (fun hs' f => .loadA (vs := x.cells) rfl (q2 hs' f) rfl) ?_)))))))))))))
    refine .x (fun _ _ _ => .indexM (a + t + 1) rfl rfl (by omega)) (.st (.storeA rfl rfl rfl rfl (by show o + (a + t + 1) * 6 + 6 ≤ _; omega)) (.x (fun _ _ _ => .indexM (a + t) rfl rfl (by omega)) (.st2 (.storeA rfl rfl rfl rfl (by rw [splice_length _ _ _ (by show o + (a + t + 1) * 6 + 6 ≤ _; omega)]; show o + (a + t) * 6 + 6 ≤ _; omega)) (.nil ?_))))
    refine .region (.v (.move rfl) (.v (.subE ((a + t : Nat) : Int) rfl rfl (by omega) (by omega)) (.v (.assign rfl) (.nil ?_))))
    exact ⟨⟨t, _⟩, ⟨by show s ≤ t; omega, by show t ≤ A.length; omega, k3⟩, by show t < t + 1; omega, .cons rfl (.cons rfl (.cons rfl (.nil _))), fun _ s => s⟩
  have hH : (a + e) / 2 = a + (A.length + B.length) / 2 := by omega
  have k0 : SI b o c n ((X ++ A) ++ (B ++ Y)) l := k.to (by simp)
  generalize hHd : (A.length + B.length) / 2 = H at hH
  refine .seq ((.region (.v (.move rfl) (.v (.move rfl) (.v (.addE ((a + e : Nat) : Int) rfl rfl (by omega) (by omega)) (.v (.convE ((a + e : Nat) : Int) rfl (wrap_u64_in (by omega))) (.v (.shrE ((a + H : Nat) : Int) rfl rfl (by omega) (by rw [half_shr, hH])) (.v (.convE ((a + H : Nat) : Int) rfl (wrap_i64 (by omega))) (.v (.assign rfl) (.nil ?_))))))))))
  refine .seq ((.region (.v (.move rfl) (.v (.move rfl) (.v (.addE ((a + H + m : Nat) : Int) rfl rfl (by omega) (by omega)) (.v (.assign rfl) (.nil ?_)))))))
  refine .seq ((.region (.v (.assign rfl) (.v (.assign rfl) (.nil ?_)))))
  refine .mid (X := SyS) (fun y => [(0, .slice (some ⟨b, o, none⟩) n c), (1, .int .i64 a), (2, .int .i64 m), (3, .int .i64 e), (4, CF), (18, .int .i64 ((a + H : Nat) : Int)), (19, .int .i64 ((a + H + m : Nat) : Int)), (20, .int .i64 ((a + y.s : Nat) : Int)), (21, .int .i64 ((a + y.r : Nat) : Int))]) (fun y => [IB b l]) (fun y => (A.length > H ∧ y.s = H - B.length ∧ y.r = H) ∨ (A.length ≤ H ∧ y.s = 0 ∧ y.r = A.length)) (.seq ((.region (.v (.move rfl) (.v (.move rfl) (.v (.gtr rfl rfl) (.nil ?_))))))) ?_
  · refine .cond_dec rfl (fun h9 => ?_) (fun h9 => ?_)
    · refine .seq ((.region (.v (.move rfl) (.v (.move rfl) (.v (.subE ((a + (H - B.length) : Nat) : Int) rfl rfl (by omega) (by omega)) (.v (.assign rfl) (.nil ?_)))))))
      refine .region (.v (.move rfl) (.v (.assign rfl) (.nil ?_)))
      exact ⟨⟨H - B.length, H⟩, .inl ⟨by omega, rfl, rfl⟩, .cons rfl (.cons rfl (.cons rfl (.cons rfl (.cons rfl (.cons rfl (.cons rfl (.cons rfl (.cons rfl (.nil _))))))))), fun _ s => s⟩
    · refine .seq ((.region (.v (.move rfl) (.v (.assign rfl) (.nil ?_)))))
      refine .region (.v (.move rfl) (.v (.assign rfl) (.nil ?_)))
      exact ⟨⟨0, A.length⟩, .inr ⟨by omega, rfl, rfl⟩, .cons rfl (.cons rfl (.cons rfl (.cons rfl (.cons rfl (.cons rfl (.cons rfl (.cons rfl (.cons (by rw [hm, ← ha]; rfl) (.nil _))))))))), fun _ s => s⟩
  rintro ⟨lo, hi⟩ hr
  dsimp only at hr ⊢
  refine .seq ((.region (.v (.move rfl) (.v (.subE ((a + H + m - 1 : Nat) : Int) rfl rfl (by omega) (by omega)) (.v (.assign rfl) (.nil ?_))))))
  refine .mid (X := Nat) (fun s => [(0, .slice (some ⟨b, o, none⟩) n c), (1, .int .i64 a), (2, .int .i64 m), (3, .int .i64 e), (4, CF), (18, .int .i64 ((a + H : Nat) : Int)), (19, .int .i64 ((a + H + m : Nat) : Int)), (20, .int .i64 ((a + s : Nat) : Int))]) (fun y => [IB b l]) (fun s => lo ≤ s ∧ s ≤ hi ∧ (∀ i, lo ≤ i → i < s → ¬ rank B[H - 1 - i]! < rank A[i]!) ∧ (∀ i, s ≤ i → i < hi → rank B[H - 1 - i]! < rank A[i]!)) (.block (.loop (X := SyS) (fun y => [(0, .slice (some ⟨b, o, none⟩) n c), (1, .int .i64 a), (2, .int .i64 m), (3, .int .i64 e), (4, CF), (18, .int .i64 ((a + H : Nat) : Int)), (19, .int .i64 ((a + H + m : Nat) : Int)), (20, .int .i64 ((a + y.s : Nat) : Int)), (21, .int .i64 ((a + y.r : Nat) : Int)), (22, .int .i64 ((a + H + m - 1 : Nat) : Int))]) (fun _ => [IB b l]) (fun y => lo ≤ y.s ∧ y.s ≤ y.r ∧ y.r ≤ hi ∧ (∀ i, lo ≤ i → i < y.s → ¬ rank B[H - 1 - i]! < rank A[i]!) ∧ (∀ i, y.r ≤ i → i < hi → rank B[H - 1 - i]! < rank A[i]!)) (fun y => y.r - y.s) ⟨lo, hi⟩ ⟨Nat.le_refl _, by show lo ≤ hi; omega, Nat.le_refl _, fun i h h' => absurd h' (by show ¬ i < lo; omega), fun i h h' => absurd h (by show ¬ hi ≤ i; omega)⟩ (.cons rfl (.cons rfl (.cons rfl (.cons rfl (.cons rfl (.cons rfl (.cons rfl (.cons rfl (.cons rfl (.cons rfl (.nil _))))))))))) (fun _ s => s) ?_)) ?_
  · rintro ⟨s, r⟩ ⟨hls, hsr, hrh, ilo, ihi⟩
    dsimp only at hls hsr hrh ilo ihi ⊢
    refine .seq (.seq ((.region (.v (.move rfl) (.v (.move rfl) (.v (.lss rfl rfl) (.nil ?_)))))))
    refine .cond_dec rfl (fun h10 => .skip ?_) (fun h10 => .exit ?_)
    case refine_2 =>
      have : s = r := by omega
      subst this
      exact ⟨s, ⟨hls, hrh, ilo, ihi⟩, .cons rfl (.cons rfl (.cons rfl (.cons rfl (.cons rfl (.cons rfl (.cons rfl (.cons rfl (.nil _)))))))), fun _ s => s⟩
    have hh : (a + s + (a + r)) / 2 = a + (s + r) / 2 := by omega
    have hc1 : s ≤ (s + r) / 2 ∧ (s + r) / 2 < r := by omega
    generalize (s + r) / 2 = h at hh hc1
    have hcA : h < A.length := by omega
    have hcB : H - 1 - h < B.length := by omega
    have hcH : h < H := by omega
    have q1 := fun hs' hsub => k.blk (w0 := w) (own := [b]) (hs := hs') hcA (u := a + h) (by omega) hsub
    have q2 := fun hs' hsub => k0.blk (w0 := w) (own := [b]) (hs := hs') hcB (u := m + (H - 1 - h)) (by simp; omega) hsub
    have hAp := hp _ (List.mem_append_left B (mem_get! hcA))
    have hBp := hp _ (List.mem_append_right A (mem_get! hcB))
    have aL : ∀ i, i ≤ h → rank A[i]! ≤ rank A[h]! := fun i hi => srk_get hA hi hcA
    have aH : ∀ i, h ≤ i → i < hi → rank A[h]! ≤ rank A[i]! := fun i hi hl => srk_get hA hi (by omega)
    have bL : ∀ i, lo ≤ i → i ≤ h → rank B[H - 1 - h]! ≤ rank B[H - 1 - i]! := fun i hi hl => srk_get hB (by omega) (by omega)
    have bH : ∀ i, h ≤ i → i < hi → rank B[H - 1 - i]! ≤ rank B[H - 1 - h]! := fun i hi hl => srk_get hB (by omega) (by omega)
    generalize A[h]! = x at q1 hAp aL aH
    generalize B[H - 1 - h]! = y at q2 hBp bL bH
    refine .block (.seq ((.region (.v (.move rfl) (.v (.move rfl) (.v (.addE ((a + s + (a + r) : Nat) : Int) rfl rfl (by omega) (by omega)) (.v (.convE ((a + s + (a + r) : Nat) : Int) rfl (wrap_u64_in (by omega))) (.v (.shrE ((a + h : Nat) : Int) rfl rfl (by omega) (by rw [half_shr, hh])) (.v (.convE ((a + h : Nat) : Int) rfl (wrap_i64 (by omega))) (.v (.assign rfl) (.nil ?_)))))))))))
    refine .seq ((.drawK [IB b l] (fun _ h => h) (by kernel_rfl) (by kernel_rfl) ?_))
    refine .v (fun _ f => .move rfl) (.v (fun _ f => .move rfl) (.v (fun _ f => .move rfl) (.v (fun _ f => .move rfl) (.v (fun _ f => .subE ((m + (H - 1 - h) : Nat) : Int) rfl rfl (by omega) (by omega)) (.v (fun _ f => .indexM (m + (H - 1 - h)) rfl rfl (by omega)) (.v (fun hs' f => .loadA (vs := y.cells) rfl (q2 hs' f) rfl) (.v (fun _ f => .move rfl) (.v (fun _ f => .move rfl) (.v (fun _ f => .indexM (a + h) rfl rfl (by omega)) (.v (fun hs' f => .loadA (vs := x.cells) rfl (q1 hs' f) rfl) (.pc rfl rfl (fun w s => cmpI_ok w y x hBp hAp) (.v (v := .bool (decide (rank y < rank x))) (fun _ f => Val.as (.lss rfl rfl) (congrArg Value.bool (decide_eq_decide.2 (cmpZ_lt _ _)))) (.v (fun _ f => .not rfl) (.nil ?_))))))))))))))
    refine .cond rfl (fun g3 => ?_) (fun g3 => ?_)
    · have g3 : ¬ rank y < rank x := by simpa using g3
      refine .region (.v (.move rfl) (.v (.addE ((a + (h + 1) : Nat) : Int) rfl rfl (by omega) (by omega)) (.v (.assign rfl) (.nil ?_))))
      exact ⟨⟨h + 1, r⟩, ⟨by show lo ≤ h + 1; omega, hc1.2, hrh, fun i h1 h2 => by
        have h2 : i < h + 1 := h2
        have := aL i (by omega); have := bL i h1 (by omega); omega, ihi⟩, by show r - (h + 1) < r - s; omega, .cons rfl (.cons rfl (.cons rfl (.cons rfl (.cons rfl (.cons rfl (.cons rfl (.cons rfl (.cons rfl (.cons rfl (.nil _)))))))))), fun _ s => s⟩
    · have g3 : rank y < rank x := by simpa using g3
      refine .region (.v (.move rfl) (.v (.assign rfl) (.nil ?_)))
      exact ⟨⟨s, h⟩, ⟨hls, hc1.1, by show h ≤ hi; omega, ilo, fun i h1 h2 => by have := aH i h1 h2; have := bH i h1 h2; omega⟩, by show h - s < r - s; omega, .cons rfl (.cons rfl (.cons rfl (.cons rfl (.cons rfl (.cons rfl (.cons rfl (.cons rfl (.cons rfl (.cons rfl (.nil _)))))))))), fun _ s => s⟩
  rintro s ⟨hls, hsh, ilo, ihi⟩
  try dsimp only at hls hsh ilo ihi ⊢
  obtain ⟨c1, c2, c3, c4, c5⟩ := sym_cut hA hB hHd.symm hr hls hsh ilo ihi
  clear ilo ihi hr hls hsh
  have eA : A.take s ++ A.drop s = A := List.take_append_drop ..
  have eB : B.take (H - s) ++ B.drop (H - s) = B := List.take_append_drop ..
  have lA1 : (A.take s).length = s := by rw [List.length_take]; omega
  have lA2 : (A.drop s).length = A.length - s := List.length_drop
  have lB1 : (B.take (H - s)).length = H - s := by rw [List.length_take]; omega
  have lB2 : (B.drop (H - s)).length = B.length - (H - s) := List.length_drop
  have hfin : ∀ Z1 Z2, St rank (A.take s ++ B.take (H - s)) Z1 → St rank (A.drop s ++ B.drop (H - s)) Z2 → St rank (A ++ B) (Z1 ++ Z2) := fun Z1 Z2 z1 z2 => by
    have := St.merge (by rw [eA]; exact hA) (by rw [eB]; exact hB) c4 c5 z1 z2
    rw [eA, eB] at this
    exact this
  have sA := hA
  rw [← eA] at sA
  have sB := hB
  rw [← eB] at sB
  have pA1 : ∀ x ∈ A.take s, x.P := fun x hx => hp x (List.mem_append_left _ (List.mem_of_mem_take hx))
  have pA2 : ∀ x ∈ A.drop s, x.P := fun x hx => hp x (List.mem_append_left _ (List.mem_of_mem_drop hx))
  have pB1 : ∀ x ∈ B.take (H - s), x.P := fun x hx => hp x (List.mem_append_right _ (List.mem_of_mem_take hx))
  have pB2 : ∀ x ∈ B.drop (H - s), x.P := fun x hx => hp x (List.mem_append_right _ (List.mem_of_mem_drop hx))
  have k1 : SI b o c n ((X ++ A.take s) ++ (A.drop s ++ (B.take (H - s) ++ (B.drop (H - s) ++ Y)))) l := k.to (by
    rw [← List.append_assoc (B.take (H - s)), eB, List.append_assoc X, ← List.append_assoc (A.take s), eA])
  clear c4 c5 k k0 eA eB hp hA hB
  generalize A.take s = A1 at *
  generalize A.drop s = A2 at *
  generalize B.take (H - s) = B1 at *
  generalize B.drop (H - s) = B2 at *
  refine .seq ((.region (.v (.move rfl) (.v (.move rfl) (.v (.subE ((m + (H - s) : Nat) : Int) rfl rfl (by omega) (by omega)) (.v (.assign rfl) (.nil ?_)))))))
  refine .mid (X := List Value) (fun _ => [(0, .slice (some ⟨b, o, none⟩) n c), (1, .int .i64 a), (3, .int .i64 e), (4, CF), (18, .int .i64 ((a + H : Nat) : Int)), (20, .int .i64 ((a + s : Nat) : Int)), (24, .int .i64 ((m + (H - s) : Nat) : Int))]) (fun l => [IB b l]) (fun l => SI b o c n (X ++ (A1 ++ (B1 ++ (A2 ++ (B2 ++ Y))))) l) (.seq ((.region (.v (.move rfl) (.v (.move rfl) (.v (.lss rfl rfl) (.v (.move rfl) (.and (b2 := decide ((m : Int) < ((m + (H - s) : Nat) : Int))) 181 184 3 3 rfl rfl (fun g1 => .v (.move rfl) (.v (.move rfl) (.v (.lss rfl rfl) (.nil ⟨rfl, rfl, rfl, rfl⟩)))) (.nil ?_))))))))) ?_
  · refine .cond rfl (fun h12 => ?_) (fun h12 => .skip ?_)
    · have h12 : ((a + s : Nat) : Int) < m ∧ (m : Int) < ((m + (H - s) : Nat) : Int) := by simpa using h12
      refine .region (.v (.move rfl) (.v (.move rfl) (.v (.move rfl) (.v (.move rfl) (.v (.move rfl) ?_)))))
      refine .ef (.callT [IB b l] rfl rfl fun w' s' => rot_ok w' (X ++ A1) A2 B1 (B2 ++ Y) k1 hn (a + s) m (m + (H - s)) (by rw [List.length_append]; omega) (by rw [List.length_append]; omega) (by rw [List.length_append]; omega) (by omega) (by omega) CF) ?_
      rintro _ _ ⟨_, ⟨l', rfl, k'⟩, rfl⟩
      refine .nil ?_
      exact ⟨l', k'.to (by simp), .cons rfl (.cons rfl (.cons rfl (.cons rfl (.cons rfl (.cons rfl (.cons rfl (.nil _))))))), fun _ s => s.take⟩
    · have hor : A2 = [] ∨ B1 = [] := by
        have : ¬ (((a + s : Nat) : Int) < m ∧ (m : Int) < ((m + (H - s) : Nat) : Int)) := fun hh => by
          rw [decide_eq_true hh.1, decide_eq_true hh.2] at h12; cases h12
        by_cases h : A.length - s = 0
        · exact .inl (List.length_eq_zero_iff.1 (by omega))
        · exact .inr (List.length_eq_zero_iff.1 (by omega))
      refine ⟨l, k1.to ?_, .cons rfl (.cons rfl (.cons rfl (.cons rfl (.cons rfl (.cons rfl (.cons rfl (.nil _))))))), fun _ s => s⟩
      rcases hor with rfl | rfl <;> simp
  clear k1
  intro l1 k1
  try dsimp only at k1 ⊢
  refine .mid (X := SyL) (fun _ => [(0, .slice (some ⟨b, o, none⟩) n c), (3, .int .i64 e), (4, CF), (18, .int .i64 ((a + H : Nat) : Int)), (24, .int .i64 ((m + (H - s) : Nat) : Int))]) (fun y => [IB b y.l]) (fun y => St rank (A1 ++ B1) y.Z ∧ y.Z.length = H ∧ SI b o c n (X ++ (y.Z ++ (A2 ++ (B2 ++ Y)))) y.l) (.seq ((.region (.v (.move rfl) (.v (.move rfl) (.v (.lss rfl rfl) (.v (.move rfl) (.and (b2 := decide (((a + s : Nat) : Int) < ((a + H : Nat) : Int))) 195 198 3 3 rfl rfl (fun g2 => .v (.move rfl) (.v (.move rfl) (.v (.lss rfl rfl) (.nil ⟨rfl, rfl, rfl, rfl⟩)))) (.nil ?_))))))))) ?_
  · have hlen : ∀ Z l', SI b o c n (X ++ (Z ++ (A2 ++ (B2 ++ Y)))) l' → Z.length = H := fun Z l' kk => by
      have u1 := kk.sz
      have u2 := k1.sz
      simp only [List.length_append] at u1 u2
      omega
    refine .cond rfl (fun h13 => ?_) (fun h13 => .skip ?_)
    · have h13 : (a : Int) < ((a + s : Nat) : Int) ∧ ((a + s : Nat) : Int) < ((a + H : Nat) : Int) := by simpa using h13
      refine .region (.v (.move rfl) (.v (.move rfl) (.v (.move rfl) (.v (.move rfl) (.v (.move rfl) ?_)))))
      refine .ef (.callT [IB b l1] rfl rfl fun w' s' => IH (A1.length + B1.length) (by omega) w' X A1 B1 (A2 ++ (B2 ++ Y)) (Nat.le_refl _) k1 hn (fun x hx => by rcases List.mem_append.1 hx with h | h; exact pA1 x h; exact pB1 x h) (List.pairwise_append.1 sA).1 (List.pairwise_append.1 sB).1 (by omega) (by omega) a (a + s) (a + H) ha (by omega) (by omega)) ?_
      rintro _ _ ⟨_, ⟨Z, hZ, l', rfl, k'⟩, rfl⟩
      refine .nil ?_
      exact ⟨⟨Z, l'⟩, ⟨hZ, hlen Z l' k', k'⟩, .cons rfl (.cons rfl (.cons rfl (.cons rfl (.cons rfl (.nil _))))), fun _ s => s.take⟩
    · have hor : A1 = [] ∨ B1 = [] := by
        have : ¬ ((a : Int) < ((a + s : Nat) : Int) ∧ ((a + s : Nat) : Int) < ((a + H : Nat) : Int)) := fun hh => by
          rw [decide_eq_true hh.1, decide_eq_true hh.2] at h13; cases h13
        by_cases h : s = 0
        · exact .inl (List.length_eq_zero_iff.1 (by omega))
        · exact .inr (List.length_eq_zero_iff.1 (by omega))
      have k2 : SI b o c n (X ++ ((A1 ++ B1) ++ (A2 ++ (B2 ++ Y)))) l1 := k1.to (by simp)
      refine ⟨⟨A1 ++ B1, l1⟩, ⟨?_, hlen _ _ k2, k2⟩, .cons rfl (.cons rfl (.cons rfl (.cons rfl (.cons rfl (.nil _))))), fun _ s => s⟩
      rcases hor with rfl | rfl
      · exact .refl (List.pairwise_append.1 sB).1
      · rw [List.append_nil]; exact .refl (List.pairwise_append.1 sA).1
  clear k1
  rintro ⟨Z1, l2⟩ ⟨z1, z2, k2⟩
  dsimp only at z1 z2 k2 ⊢
  refine .seq ((.region (.v (.move rfl) (.v (.move rfl) (.v (.lss rfl rfl) (.v (.move rfl) (.and (b2 := decide (((m + (H - s) : Nat) : Int) < e)) 209 212 3 3 rfl rfl (fun g3 => .v (.move rfl) (.v (.move rfl) (.v (.lss rfl rfl) (.nil ⟨rfl, rfl, rfl, rfl⟩)))) (.nil ?_))))))))
  have k3 : SI b o c n ((X ++ Z1) ++ (A2 ++ (B2 ++ Y))) l2 := k2.to (by simp)
  refine .cond rfl (fun h14 => ?_) (fun h14 => .skip ?_)
  · have h14 : ((a + H : Nat) : Int) < ((m + (H - s) : Nat) : Int) ∧ ((m + (H - s) : Nat) : Int) < e := by simpa using h14
    refine .region (.v (.move rfl) (.v (.move rfl) (.v (.move rfl) (.v (.move rfl) (.v (.move rfl) ?_)))))
    refine .ef (.callT [IB b l2] rfl rfl fun w' s' => IH (A2.length + B2.length) (by omega) w' (X ++ Z1) A2 B2 Y (Nat.le_refl _) k3 hn (fun x hx => by rcases List.mem_append.1 hx with h | h; exact pA2 x h; exact pB2 x h) (List.pairwise_append.1 sA).2.1 (List.pairwise_append.1 sB).2.1 (by omega) (by omega) (a + H) (m + (H - s)) e (by rw [List.length_append]; omega) (by rw [List.length_append]; omega) (by rw [List.length_append]; omega)) ?_
    rintro _ _ ⟨_, ⟨Z2, hZ, l', rfl, k'⟩, rfl⟩
    refine .nil ?_
    exact ⟨[], trivial, Z1 ++ Z2, hfin Z1 Z2 z1 hZ, l', rfl, k'.to (by simp)⟩
  · have hor : A2 = [] ∨ B2 = [] := by
      have : ¬ (((a + H : Nat) : Int) < ((m + (H - s) : Nat) : Int) ∧ ((m + (H - s) : Nat) : Int) < e) := fun hh => by
        rw [decide_eq_true hh.1, decide_eq_true hh.2] at h14; cases h14
      by_cases h : A.length - s = 0
      · exact .inl (List.length_eq_zero_iff.1 (by omega))
      · exact .inr (List.length_eq_zero_iff.1 (by omega))
    refine ⟨[], trivial, Z1 ++ (A2 ++ B2), hfin Z1 (A2 ++ B2) z1 ?_, l2, rfl, k3.to (by simp)⟩
    rcases hor with rfl | rfl
    · exact .refl (List.pairwise_append.1 sB).2.1
    · rw [List.append_nil]; exact .refl (List.pairwise_append.1 sA).2.1
end Go.Proofs.Ytamldmgdhaoigaa

/- slices.stableCmpFunc, SortStableFunc over interests. -/
namespace Go.Proofs.Ytamldmgdhaoigaa
open Go.V
set_option linter.unusedVariables false
set_option linter.unusedSimpArgs false
set_option maxRecDepth 20000

section
variable {P : Program} {m : Nat} {w0 : World} {own : List Nat} {e : Env} {hs : Hp}
theorem _root_.Go.V.Val.muliE {T U : Nat} {x y : Operand} {i j : Int} (r : Int) (hx : ev e x = some (.int .i64 i)) (hy : ev e y = some (.int .i64 j)) (hr : i * j = r) (hb : -9223372036854775808 ≤ r ∧ r ≤ 9223372036854775807) : Val P m w0 own e hs (.binOp .mul T x y U) (.int .i64 r) := by
  subst hr; exact Val.muli hx hy hb
end
/-- the same of each key, in the same order -/
def Ek (l z : List It) : Prop := ∀ k, kf rank k z = kf rank k l
theorem Ek.mem {l z : List It} (h : Ek l z) (x : It) : x ∈ z ↔ x ∈ l := by rw [mem_kf rank, h, ← mem_kf rank]
theorem Ek.step {l X A Z Y : List It} (h : Ek l (X ++ (A ++ Y))) (k : St rank A Z) : Ek l (X ++ (Z ++ Y)) := fun i => by
  rw [← h, kf_app, kf_app, kf_app, kf_app, k.f]
structure StX where
  X : List It
  D : List It
  l : List Value
structure StY where
  bs : Nat
  d : List It
  l : List Value
theorem stable_ok (w : World) {b o c n : Nat} {d : List It} {l : List Value} (k : SI b o c n d l) (hn : n < 576460752303423488) (hp : ∀ x ∈ d, x.P) :
    Does Try.prog 66 [.slice (some ⟨b, o, none⟩) n c, .int .i64 n, CF] [IB b l] w (fun _ hs => ∃ d', St rank d d' ∧ SIR b o c n d' hs) := by
  have hsz := k.sz
  refine Does.of (n := 63) Try.func66 rfl rfl rfl rfl ?_
  refine .seq ((.region (.v (.assign rfl) (.nil ?_))))
  refine .seq ((.region (.v (.move rfl) (.v (.assign rfl) (.v (.assign rfl) (.nil ?_))))))
  refine .mid (X := StX) (fun y => [(0, .slice (some ⟨b, o, none⟩) n c), (1, .int .i64 n), (2, CF), (6, .int .i64 20), (7, .int .i64 y.X.length)]) (fun y => [IB b y.l]) (fun y => Blk rank 20 y.X ∧ y.D.length < 20 ∧ Ek d (y.X ++ y.D) ∧ SI b o c n (y.X ++ y.D) y.l) (.block (.loop (X := StX) (fun y => [(0, .slice (some ⟨b, o, none⟩) n c), (1, .int .i64 n), (2, CF), (6, .int .i64 20), (7, .int .i64 y.X.length), (8, .int .i64 ((y.X.length + 20 : Nat) : Int))]) (fun y => [IB b y.l]) (fun y => Blk rank 20 y.X ∧ Ek d (y.X ++ y.D) ∧ SI b o c n (y.X ++ y.D) y.l) (fun y => y.D.length) ⟨[], d, l⟩ ⟨.nil, fun _ => rfl, k⟩ (.cons rfl (.cons rfl (.cons rfl (.cons rfl (.cons rfl (.cons rfl (.nil _))))))) (fun _ s => s) ?_)) ?_
  · clear k
    rintro ⟨X, D, l⟩ ⟨hX, hE, k⟩
    dsimp only at hX hE k ⊢
    have hs := k.sz
    rw [List.length_append] at hs
    refine .seq (.seq ((.region (.v (.move rfl) (.v (.move rfl) (.v (.leq rfl rfl) (.nil ?_)))))))
    refine .cond_dec rfl (fun h1 => .skip ?_) (fun h1 => .exit ?_)
    case refine_2 => exact ⟨⟨X, D, l⟩, ⟨hX, by show D.length < 20; omega, hE, k⟩, .cons rfl (.cons rfl (.cons rfl (.cons rfl (.cons rfl (.nil _))))), fun _ s => s⟩
    have lA : (D.take 20).length = 20 := by rw [List.length_take]; omega
    have eD : D.take 20 ++ D.drop 20 = D := List.take_append_drop ..
    have hE2 : Ek d (X ++ (D.take 20 ++ D.drop 20)) := by rw [eD]; exact hE
    refine .block (.seq ((.region (.v (.move rfl) (.v (.move rfl) (.v (.move rfl) (.v (.move rfl) ?_)))))))
    refine .ef (.callT [IB b l] rfl rfl fun w' s' => insC_ok w' X (D.take 20) (D.drop 20) (k.to (by rw [eD])) (by omega) (fun x hx => hp x ((hE.mem x).1 (List.mem_append_right _ (List.mem_of_mem_take hx)))) X.length (X.length + 20) rfl (by rw [lA])) ?_
    rintro _ _ ⟨_, ⟨Z, hZ, l', rfl, k'⟩, rfl⟩
    refine .nil ?_
    have lZ : Z.length = 20 := by
      have := k'.sz
      simp only [List.length_append, List.length_drop] at this
      omega
    refine .seq ((.region (.v (.move rfl) (.v (.assign rfl) (.nil ?_)))))
    refine .region (.v (.move rfl) (.v (.move rfl) (.v (.addE ((X.length + 20 + 20 : Nat) : Int) rfl rfl (by omega) (by omega)) (.v (.assign rfl) (.nil ?_)))))
    have eX : (X ++ Z).length = X.length + 20 := by rw [List.length_append, lZ]
    refine ⟨⟨X ++ Z, D.drop 20, l'⟩, ⟨.snoc hX lZ hZ.s, ?_, k'.to (List.append_assoc ..).symm⟩, by show (D.drop 20).length < D.length; rw [List.length_drop]; omega, .cons rfl (.cons rfl (.cons rfl (.cons rfl (.cons ?_ (.cons ?_ (.nil _)))))), fun _ s => s.take⟩
    · show Ek d ((X ++ Z) ++ D.drop 20)
      rw [List.append_assoc]; exact hE2.step hZ
    · show _ = some (Value.int .i64 ((X ++ Z).length : Nat)); rw [eX]; rfl
    · show _ = some (Value.int .i64 ((X ++ Z).length + 20 : Nat)); rw [eX]; rfl
  clear k
  rintro ⟨X, D, l⟩ ⟨hX, hD, hE, k⟩
  dsimp only at hX hD hE k ⊢
  have hs := k.sz
  rw [List.length_append] at hs
  have hE2 : Ek d (X ++ (D ++ [])) := by rw [List.append_nil]; exact hE
  refine .seq ((.region (.v (.move rfl) (.v (.move rfl) (.v (.move rfl) (.v (.move rfl) ?_))))))
  refine .ef (.callT [IB b l] rfl rfl fun w' s' => insC_ok w' X D [] (k.to (by rw [List.append_nil])) (by omega) (fun x hx => hp x ((hE.mem x).1 (List.mem_append_right _ hx))) X.length n rfl hs.symm) ?_
  rintro _ _ ⟨_, ⟨Z, hZ, l', rfl, k'⟩, rfl⟩
  refine .nil ?_
  have lZ : Z.length = D.length := by
    have := k'.sz
    simp only [List.length_append, List.length_nil] at this
    omega
  have hE3 := hE2.step hZ
  have hC : Chk rank 20 (X ++ (Z ++ [])) := by rw [List.append_nil]; exact hX.chk (.last (by omega) hZ.s)
  generalize X ++ (Z ++ []) = d1 at hE3 hC k'
  clear hX hD hE k hs hE2 hZ lZ
  refine .keep [IB b l'] ?_
  refine .block (.loop (X := StY) (fun y => [(0, .slice (some ⟨b, o, none⟩) n c), (1, .int .i64 n), (2, CF), (6, .int .i64 y.bs)]) (fun y => [IB b y.l]) (fun y => 0 < y.bs ∧ Chk rank y.bs y.d ∧ Ek d y.d ∧ SI b o c n y.d y.l ∧ (y.bs = 20 ∨ y.bs < 2 * n)) (fun y => 2 * n + 20 - y.bs) ⟨20, d1, l'⟩ ⟨by show 0 < 20; omega, hC, hE3, k', .inl rfl⟩ (.cons rfl (.cons rfl (.cons rfl (.cons rfl (.nil _))))) (fun _ s => s) ?_)
  clear hC hE3 k'
  rintro ⟨bs, d1, l⟩ ⟨hb0, hC, hE, k, hb⟩
  dsimp only at hb0 hC hE k hb ⊢
  refine .seq (.seq ((.region (.v (.move rfl) (.v (.move rfl) (.v (.lss rfl rfl) (.nil ?_)))))))
  refine .cond_dec rfl (fun h2 => .skip ?_) (fun h2 => .exit ?_)
  case refine_2 =>
    have hs := k.sz
    exact ⟨[], trivial, d1, ⟨hC.small (by omega), hE⟩, l, rfl, k⟩
  have hbn : bs < n := by omega
  refine .block (.seq ((.region (.v (.move rfl) (.v (.muliE ((2 * bs : Nat) : Int) rfl rfl (by omega) (by omega)) (.v (.assign rfl) (.v (.assign rfl) (.nil ?_))))))))
  refine .mid (X := StX) (fun y => [(0, .slice (some ⟨b, o, none⟩) n c), (1, .int .i64 n), (2, CF), (6, .int .i64 bs), (7, .int .i64 y.X.length)]) (fun y => [IB b y.l]) (fun y => Blk rank (2 * bs) y.X ∧ Chk rank bs y.D ∧ y.D.length < 2 * bs ∧ Ek d (y.X ++ y.D) ∧ SI b o c n (y.X ++ y.D) y.l) (.block (.loop (X := StX) (fun y => [(0, .slice (some ⟨b, o, none⟩) n c), (1, .int .i64 n), (2, CF), (6, .int .i64 bs), (7, .int .i64 y.X.length), (8, .int .i64 ((y.X.length + 2 * bs : Nat) : Int))]) (fun y => [IB b y.l]) (fun y => Blk rank (2 * bs) y.X ∧ Chk rank bs y.D ∧ Ek d (y.X ++ y.D) ∧ SI b o c n (y.X ++ y.D) y.l) (fun y => y.D.length) ⟨[], d1, l⟩ ⟨.nil, hC, hE, k⟩ (.cons rfl (.cons rfl (.cons rfl (.cons rfl (.cons rfl (.cons (by show _ = some (Value.int .i64 ((0 + 2 * bs : Nat) : Int)); rw [Nat.zero_add]; rfl) (.nil _))))))) (fun _ s => s) ?_)) ?_
  · clear k hE hC
    rintro ⟨X, D, l⟩ ⟨hX, hC, hE, k⟩
    dsimp only at hX hC hE k ⊢
    have hs := k.sz
    rw [List.length_append] at hs
    refine .seq (.seq ((.region (.v (.move rfl) (.v (.move rfl) (.v (.leq rfl rfl) (.nil ?_)))))))
    refine .cond_dec rfl (fun h1 => .skip ?_) (fun h1 => .exit ?_)
    case refine_2 => exact ⟨⟨X, D, l⟩, ⟨hX, hC, by show D.length < 2 * bs; omega, hE, k⟩, .cons rfl (.cons rfl (.cons rfl (.cons rfl (.cons rfl (.nil _))))), fun _ s => s⟩
    obtain ⟨A, B, R, rfl, lA, lB, sA, sB, hC'⟩ := hC.two hb0 (by omega)
    have hE2 : Ek d (X ++ ((A ++ B) ++ R)) := by rw [List.append_assoc A]; exact hE
    refine .block (.seq ((.region (.v (.move rfl) (.v (.move rfl) (.v (.move rfl) (.v (.move rfl) (.v (.addE ((X.length + bs : Nat) : Int) rfl rfl (by omega) (by omega)) (.v (.move rfl) (.v (.move rfl) ?_))))))))))
    refine .ef (.callT [IB b l] rfl rfl fun w' s' => sym_ok (A.length + B.length) w' X A B R (Nat.le_refl _) k (by omega) (fun x hx => hp x ((hE2.mem x).1 (List.mem_append_right _ (List.mem_append_left _ hx)))) sA sB (by omega) (by omega) X.length (X.length + bs) (X.length + 2 * bs) rfl (by omega) (by omega)) ?_
    rintro _ _ ⟨_, ⟨Z, hZ, l', rfl, k'⟩, rfl⟩
    refine .nil ?_
    have lZ : Z.length = 2 * bs := by
      have h1 := k'.sz
      have h2 := k.sz
      simp only [List.length_append] at h1 h2
      omega
    refine .seq ((.region (.v (.move rfl) (.v (.assign rfl) (.nil ?_)))))
    refine .region (.v (.move rfl) (.v (.move rfl) (.v (.muliE ((2 * bs : Nat) : Int) rfl rfl (by omega) (by omega)) (.v (.addE ((X.length + 2 * bs + 2 * bs : Nat) : Int) rfl rfl (by omega) (by omega)) (.v (.assign rfl) (.nil ?_))))))
    have eX : (X ++ Z).length = X.length + 2 * bs := by rw [List.length_append, lZ]
    refine ⟨⟨X ++ Z, R, l'⟩, ⟨.snoc hX lZ hZ.s, hC', ?_, k'.to (List.append_assoc ..).symm⟩, by show R.length < (A ++ (B ++ R)).length; simp only [List.length_append]; omega, .cons rfl (.cons rfl (.cons rfl (.cons rfl (.cons ?_ (.cons ?_ (.nil _)))))), fun _ s => s.take⟩
    · show Ek d ((X ++ Z) ++ R)
      rw [List.append_assoc]; exact hE2.step hZ
    · show _ = some (Value.int .i64 ((X ++ Z).length : Nat)); rw [eX]; rfl
    · show _ = some (Value.int .i64 ((X ++ Z).length + 2 * bs : Nat)); rw [eX]; rfl
  clear k hE hC
  rintro ⟨X, D, l⟩ ⟨hX, hC, hD, hE, k⟩
  dsimp only at hX hC hD hE k ⊢
  have hs := k.sz
  rw [List.length_append] at hs
  refine .mid (X := StX) (fun y => [(0, .slice (some ⟨b, o, none⟩) n c), (1, .int .i64 n), (2, CF), (6, .int .i64 bs)]) (fun y => [IB b y.l]) (fun y => Chk rank (2 * bs) y.X ∧ Ek d y.X ∧ SI b o c n y.X y.l) (.seq ((.region (.v (.move rfl) (.v (.move rfl) (.v (.addE ((X.length + bs : Nat) : Int) rfl rfl (by omega) (by omega)) (.v (.assign rfl) (.nil ?_)))))))) ?_
  · refine .seq ((.region (.v (.move rfl) (.v (.move rfl) (.v (.lss rfl rfl) (.nil ?_))))))
    refine .cond_dec rfl (fun h4 => ?_) (fun h4 => .skip ?_)
    · obtain ⟨A, R, rfl, lA, sA, hC'⟩ := hC.one (by omega)
      rw [List.length_append] at hs hD
      have sR := hC'.small (by omega)
      have hE2 : Ek d (X ++ ((A ++ R) ++ [])) := by rw [List.append_nil]; exact hE
      refine .region (.v (.move rfl) (.v (.move rfl) (.v (.move rfl) (.v (.move rfl) (.v (.move rfl) ?_)))))
      refine .ef (.callT [IB b l] rfl rfl fun w' s' => sym_ok (A.length + R.length) w' X A R [] (Nat.le_refl _) (k.to (by rw [List.append_nil])) (by omega) (fun x hx => hp x ((hE.mem x).1 (List.mem_append_right _ hx))) sA sR (by omega) (by omega) X.length (X.length + bs) n rfl (by omega) (by omega)) ?_
      rintro _ _ ⟨_, ⟨Z, hZ, l', rfl, k'⟩, rfl⟩
      refine .nil ?_
      have lZ : Z.length = A.length + R.length := by
        have h1 := k'.sz
        simp only [List.length_append, List.length_nil] at h1
        omega
      exact ⟨⟨X ++ (Z ++ []), [], l'⟩, ⟨by rw [List.append_nil]; exact hX.chk (.last (by omega) hZ.s), hE2.step hZ, k'⟩, .cons rfl (.cons rfl (.cons rfl (.cons rfl (.nil _)))), fun _ s => s.take⟩
    · exact ⟨⟨X ++ D, [], l⟩, ⟨hX.chk (.last (by omega) (hC.small (by omega))), hE, k⟩, .cons rfl (.cons rfl (.cons rfl (.cons rfl (.nil _)))), fun _ s => s⟩
  clear hX hC hD hE k hs
  rintro ⟨d2, _, l⟩ ⟨hC, hE, k⟩
  dsimp only at hC hE k ⊢
  refine .region (.v (.move rfl) (.v (.muliE ((2 * bs : Nat) : Int) rfl rfl (by omega) (by omega)) (.v (.assign rfl) (.nil ?_))))
  exact ⟨⟨2 * bs, d2, l⟩, ⟨by show 0 < 2 * bs; omega, hC, hE, k, .inr (by show 2 * bs < 2 * n; omega)⟩, by show 2 * n + 20 - 2 * bs < 2 * n + 20 - bs; omega, .cons rfl (.cons rfl (.cons rfl (.cons rfl (.nil _)))), fun _ s => s⟩
theorem sortS_ok (w : World) {b o c n : Nat} {d : List It} {l : List Value} (k : SI b o c n d l) (hn : n < 576460752303423488) (hp : ∀ x ∈ d, x.P) :
    Does Try.prog 43 [.slice (some ⟨b, o, none⟩) n c, CF] [IB b l] w (fun _ hs => ∃ d', St rank d d' ∧ SIR b o c n d' hs) := by
  refine Does.of (n := 9) Try.func43 rfl rfl rfl rfl ?_
  refine .region (.v (.move rfl) (.v (.move rfl) (.v (.len rfl) (.v (.move rfl) ?_))))
  refine .ef (.callT [IB b l] rfl rfl fun w' s' => stable_ok w' k hn hp) ?_
  rintro _ _ ⟨_, ⟨d', hd, l', rfl, k'⟩, rfl⟩
  exact .nil ⟨[], trivial, d', hd, l', rfl, k'⟩
end Go.Proofs.Ytamldmgdhaoigaa

/- slices.Clone, IndexFunc, DeleteFunc, Delete over interests. -/
namespace Go.Proofs.Ytamldmgdhaoigaa
open Go.V
set_option linter.unusedVariables false
set_option linter.unusedSimpArgs false
set_option maxRecDepth 20000

abbrev Own (v : Value) (l : List It) (h : Hp) : Prop := OwnS 36 6 v l.length (irows l) h
theorem Own.si {b o n c : Nat} {d : List It} {h : Hp} (k : Own (.slice (some ⟨b, o, none⟩) n c) d h) (h0 : 0 < d.length) : ∃ l, h = [IB b l] ∧ n = d.length ∧ SI b o c d.length d l := by
  obtain ⟨b', o', l, e1, e2, e3, e4, e5, e6⟩ := k.some_ h0
  cases e1
  subst e2
  exact ⟨l, e3, rfl, rfl, by rw [← e3]; exact k⟩
theorem SI.own' {b o c n : Nat} {d : List It} {l : List Value} (k : SI b o c n d l) : Own (.slice (some ⟨b, o, none⟩) n c) d [IB b l] := by
  have := k.sz; subst this; exact k.own
theorem cloneI_ok (w : World) (A : Option Addr) (len cap : Nat) (l : List It) (hx : Rd w [] A (irows l)) (hl : len = l.length) (hb : len ≤ 2513169434843) :
    Does Try.prog 41 [.slice A len cap] [] w (fun v hs => Own v l hs) := by
  refine Does.less (Does.of (n := 8) Try.func41 rfl rfl rfl rfl ?_)
  refine .seq ((.region (.v (.assign rfl) (.nil ?_))))
  refine .seq (.seq ((.region (.v (.move rfl) (.v (.eql_slice_nil rfl rfl) (.nil ?_))))))
  refine .cond rfl (fun h1 => ?_) (fun h1 => .skip ?_)
  · have hA : A = none := by simpa using h1
    subst hA
    have h0 : l.length = 0 := by
      have := congrArg List.length hx.empty
      rw [irows_len] at this
      simp only [List.length_nil] at this; omega
    have hl0 : l = [] := List.eq_nil_of_length_eq_zero h0
    subst hl0
    refine .seq ((.region (.v (.assign rfl) (.nil ?_))))
    exact .ret ⟨[_], ⟨rfl, trivial⟩, [], fun _ s => s, OwnS.nil _ _⟩
  · refine .seq ((.region (.ef (.buildSlice (out := []) rfl (by decide) rfl rfl) ?_)))
    rintro _ _ ⟨b6, rfl, rfl⟩
    refine .v (.move rfl) ?_
    refine .ef (.append (c := 0) (k := len) (vs := []) (news := irows l) (h := [(b6, .cells [] 36)]) (fr := []) rfl rfl ⟨rfl, .inr ⟨b6, 0, 0, [], rfl, rfl, by omega, by simp, by simp⟩⟩ (by exact List.Perm.refl _)
      (fun w' s => (hx.keep0 s).src (by rw [irows_len, hl]) (by omega)) (by rw [irows_len, hl]) (irows_ones _) (by omega) (by omega)) ?_
    rintro v _ ⟨h', k', rfl⟩
    refine .v (.assign rfl) (.nil ?_)
    refine .ret ⟨[_], ⟨rfl, trivial⟩, h', fun _ s => by simpa using s, ?_⟩
    rw [Nat.zero_add, hl] at k'
    exact k'
abbrev DelF (g : Nat) (cap : List Value) (fr : Hp) (p : It → Bool) : Prop := ∀ (w : World) (x : It), Does Try.prog g (.agg ⟨x.cells⟩ :: cap) fr w (fun v h => v = .bool (p x) ∧ h = fr)
theorem ixI_some {p : It → Bool} {d : List It} {i : Nat} (hi : i < d.length) (h : p d[i]! = true) (hb : ∀ j, j < i → p d[j]! = false) : d.findIdx? p = some i := by
  rw [List.findIdx?_eq_some_iff_getElem]
  refine ⟨hi, by rw [getElem!_pos d i hi] at h; exact h, fun j hj => ?_⟩
  have := hb j hj
  rw [getElem!_pos d j (by omega)] at this
  simpa using this
theorem ixI_none {p : It → Bool} {d : List It} (hb : ∀ j, j < d.length → p d[j]! = false) : d.findIdx? p = none := by
  rw [List.findIdx?_eq_none_iff]
  intro x hx
  obtain ⟨j, hj, rfl⟩ := List.getElem_of_mem hx
  have h3 := hb j hj
  rw [getElem!_pos d j hj] at h3
  simpa using h3
theorem indexI_ok (w : World) {b o c n : Nat} {d : List It} {l : List Value} (k : SI b o c n d l) (hn : n < 2305843009213693952) (g : Nat) [hg : FnT Try.prog g] (cap : List Value) (fr : Hp) (p : It → Bool) (hd : DelF g cap fr p) :
    Does Try.prog 65 [.slice (some ⟨b, o, none⟩) n c, .func (.func g) #[] ⟨cap⟩] (IB b l :: fr) w (fun v hs => v = .int .i64 (ixI p d) ∧ hs = IB b l :: fr) := by
  have hsz := k.sz
  refine Does.of (n := 19) Try.func65 rfl rfl rfl rfl ?_
  refine .seq ((.region (.v (.assign rfl) (.nil ?_))))
  refine .seq (.seq ((.region (.v (.move rfl) (.v (.len rfl) (.v (.move rfl) (.nil ?_)))))))
  refine .block (.loop (X := Nat) (fun x => [(0, .slice (some ⟨b, o, none⟩) n c), (1, .func (.func g) #[] ⟨cap⟩), (7, .int .i64 n), (8, .int .i64 (x : Nat))]) (fun _ => IB b l :: fr) (fun x => x ≤ n ∧ ∀ i, i < x → p d[i]! = false) (fun x => n - x) 0 ⟨Nat.zero_le _, fun i h => absurd h (by omega)⟩ (.cons rfl (.cons rfl (.cons rfl (.cons rfl (.nil _))))) (fun _ s => s) ?_)
  rintro i ⟨hi, hf⟩
  try dsimp only at hi hf ⊢
  refine .seq ((.region (.v (.lss rfl rfl) (.nil ?_))))
  refine .seq (.cond_dec rfl (fun h1 => .skip ?_) (fun h1 => .exit ?_))
  · have hin : i < n := by omega
    refine .seq (.block (.seq ((.region (.v (.move rfl) (.v (.assign rfl) (.nil ?_)))))))
    refine .seq ((.region (.v (.move rfl) (.v (.move rfl) (.v (.move rfl) (.v (.indexM i rfl rfl hin) (.v (.loadA (vs := (d[i]!).cells) rfl (k.at_ hin (by simp)) rfl) ?_)))))))
    refine .pl (v := .bool (p d[i]!)) (pre := fr) [IB b l] rfl rfl (List.perm_append_comm (l₁ := [_])) (fun w s => hd w _) ?_
    refine .nil ?_
    refine .cond rfl (fun h2 => ?_) (fun h2 => .skip ?_)
    · refine .seq ((.region (.v (.move rfl) (.v (.assign rfl) (.nil ?_)))))
      refine .ret ⟨[_], ⟨rfl, trivial⟩, ?_, rfl⟩
      rw [ixI, ixI_some (by omega) h2 hf]; rfl
    · refine .region (.v (.addE ((i + 1 : Nat) : Int) rfl rfl (by omega) (by omega)) (.v (.move rfl) (.nil ?_)))
      exact ⟨i + 1, ⟨by omega, fun j hj => by rcases Nat.lt_succ_iff_lt_or_eq.1 hj with h | rfl; exact hf j h; exact h2⟩, by omega, .cons rfl (.cons rfl (.cons rfl (.cons rfl (.nil _)))), fun _ s => s⟩
  · refine .seq ((.region (.v (.assign rfl) (.nil ?_))))
    refine .ret ⟨[_], ⟨rfl, trivial⟩, ?_, rfl⟩
    rw [ixI, ixI_none fun j hj => hf j (by omega)]; rfl
theorem indexI_nil (w : World) (g : Nat) (cap : List Value) : Does Try.prog 65 [.slice none 0 0, .func (.func g) #[] ⟨cap⟩] [] w (fun v hs => v = .int .i64 (-1) ∧ hs = []) := by
  refine Does.of (n := 19) Try.func65 rfl rfl rfl rfl ?_
  refine .seq ((.region (.v (.assign rfl) (.nil ?_))))
  refine .seq (.seq ((.region (.v (.move rfl) (.v (.len rfl) (.v (.move rfl) (.nil ?_)))))))
  refine .block (.loop (X := Unit) (fun x => [(7, .int .i64 0), (8, .int .i64 0)]) (fun _ => []) (fun x => True) (fun x => 0) () trivial (.cons rfl (.cons rfl (.nil _))) (fun _ s => s) ?_)
  rintro _ _
  refine .seq ((.region (.v (.lss rfl rfl) (.nil ?_))))
  refine .seq (.cond_false rfl (.exit ?_))
  refine .seq ((.region (.v (.assign rfl) (.nil ?_))))
  exact .ret ⟨[_], ⟨rfl, trivial⟩, rfl, rfl⟩
theorem deleteI_nil (w : World) (g : Nat) (cap : List Value) : Does Try.prog 40 [.slice none 0 0, .func (.func g) #[] ⟨cap⟩] [] w (fun v hs => v = .slice none 0 0 ∧ hs = []) := by
  refine Does.of (n := 42) Try.func40 rfl rfl rfl rfl ?_
  refine .seq ((.region (.v (.assign rfl) (.nil ?_))))
  refine .seq ((.region (.v (.move rfl) (.v (.move rfl) ?_))))
  refine .ef (.call0 rfl rfl fun w s => indexI_nil w g cap) ?_
  rintro _ _ ⟨_, ⟨rfl, rfl⟩, rfl⟩
  refine .v (.assign rfl) (.nil ?_)
  refine .seq (.seq ((.region (.v (.move rfl) (.v (.eqi rfl rfl) (.nil ?_))))))
  refine .cond_dec rfl (fun h1 => ?_) (fun h1 => absurd rfl h1)
  refine .seq ((.region (.v (.move rfl) (.v (.assign rfl) (.nil ?_)))))
  exact .ret ⟨[_], ⟨rfl, trivial⟩, rfl, rfl⟩
/-- behind j of z the first i of d are what is kept -/
structure DeI (p : It → Bool) (z d : List It) (i j : Nat) : Prop where
  ij : i < j
  jn : j ≤ z.length
  tk : d.take i = (z.take j).filter (fun x => !p x)
  dr : d.drop j = z.drop j
  sz : d.length = z.length
theorem DeI.start {p : It → Bool} {z : List It} {i : Nat} (h : z.findIdx? p = some i) : DeI p z z i (i + 1) := by
  rw [List.findIdx?_eq_some_iff_getElem] at h
  obtain ⟨h1, h2, h3⟩ := h
  refine ⟨by omega, by omega, ?_, rfl, rfl⟩
  rw [List.take_succ_eq_append_getElem h1, List.filter_append]
  simp only [List.filter_cons, h2, Bool.not_true, Bool.false_eq_true, if_false, List.filter_nil, List.append_nil]
  exact (List.filter_eq_self.2 (by
    intro x hx
    obtain ⟨j, hj, rfl⟩ := List.getElem_of_mem hx
    rw [List.length_take] at hj
    have := h3 j (by omega)
    simpa using this)).symm
theorem DeI.get {p : It → Bool} {z d : List It} {i j : Nat} (h : DeI p z d i j) (hj : j < z.length) : d[j]! = z[j] := by
  have hs := h.sz
  rw [getElem!_pos d j (by omega)]
  have := h.dr
  rw [List.drop_eq_getElem_cons (by omega), List.drop_eq_getElem_cons hj] at this
  exact (List.cons.inj this).1
theorem DeI.skip {p : It → Bool} {z d : List It} {i j : Nat} (h : DeI p z d i j) (hj : j < z.length) (hp : p d[j]! = true) : DeI p z d i (j + 1) := by
  rw [h.get hj] at hp
  refine ⟨by have := h.ij; omega, hj, ?_, ?_, h.sz⟩
  · rw [List.take_succ_eq_append_getElem hj, List.filter_append, h.tk]; simp [hp]
  · have := congrArg List.tail h.dr
    simpa using this
theorem DeI.put {p : It → Bool} {z d : List It} {i j : Nat} (h : DeI p z d i j) (hj : j < z.length) (hp : p d[j]! = false) : DeI p z (d.set i d[j]!) (i + 1) (j + 1) := by
  have hg := h.get hj
  have hij := h.ij
  rw [hg] at hp ⊢
  have hsz := h.sz
  refine ⟨by omega, hj, ?_, ?_, by simp [hsz]⟩
  · rw [List.take_succ_eq_append_getElem hj, List.filter_append, ← h.tk]
    rw [List.take_succ_eq_append_getElem (by simp [hsz]; omega)]
    simp [hp]
    exact List.take_set_of_le (Nat.le_refl _)
  · rw [List.drop_set_of_lt (by omega)]
    have := congrArg List.tail h.dr
    simpa using this
structure DLI where
  i : Nat
  j : Nat
  d : List It
  l : List Value
theorem uptoI {b o c n : Nat} {d : List It} {l : List Value} (k : SI b o c n d l) {i : Nat} (hi : i ≤ n) : SI b o c i (d.take i) l := by
  have hs := k.sz
  refine ⟨by rw [List.length_take]; omega, ?_⟩
  obtain ⟨k1, k2⟩ := k.own
  refine ⟨by rw [irows_len, List.length_take, Nat.min_eq_left (by omega)], ?_⟩
  rcases k2 with ⟨_, _, h3⟩ | ⟨b', o', cap, l', e1, e2, e3, e4, e5⟩
  · cases h3
  · cases e1; cases e2
    refine .inr ⟨b, o, c, l, rfl, rfl, by omega, e4, ?_⟩
    have : irows (d.take i) = (irows d).take (i * 6) := Go.V.rows_take It.cells 6 (fun _ => rfl) i
    rw [this, ← e5, List.take_take, Nat.min_eq_left (Nat.mul_le_mul_right _ hi)]
theorem deleteI_ok (w : World) {b o c n : Nat} {z : List It} {l : List Value} (k0 : SI b o c n z l) (hn : n < 281474976710656) (g : Nat) [hg : FnT Try.prog g] (cap : List Value) (fr : Hp) (p : It → Bool) (hd : DelF g cap fr p) :
    Does Try.prog 40 [.slice (some ⟨b, o, none⟩) n c, .func (.func g) #[] ⟨cap⟩] (IB b l :: fr) w (fun v hs => ∃ l', v = .slice (some ⟨b, o, none⟩) (z.filter fun x => !p x).length c ∧ SI b o c (z.filter fun x => !p x).length (z.filter fun x => !p x) l' ∧ hs = IB b l' :: fr) := by
  have hzn := k0.sz
  refine Does.less (Does.of (n := 42) Try.func40 rfl rfl rfl rfl ?_)
  refine .seq ((.region (.v (.assign rfl) (.nil ?_))))
  refine .seq ((.region (.v (.move rfl) (.v (.move rfl) ?_))))
  refine .pl (v := .int .i64 (ixI p z)) (pre := IB b l :: fr) [] rfl rfl (by simp) (fun w s => indexI_ok w k0 (by omega) g cap fr p hd) ?_
  refine .v (.assign rfl) (.nil ?_)
  refine .seq (.seq ((.region (.v (.move rfl) (.v (.eqi rfl rfl) (.nil ?_))))))
  cases hx : z.findIdx? p with
  | none =>
    have h1 : ixI p z = -1 := by rw [ixI, hx]
    rw [h1]
    refine .cond_dec rfl (fun h1 => ?_) (fun h1 => absurd rfl h1)
    refine .seq ((.region (.v (.move rfl) (.v (.assign rfl) (.nil ?_)))))
    have hfl : z.filter (fun x => !p x) = z := List.filter_eq_self.2 fun x hx' => by
      rw [List.findIdx?_eq_none_iff] at hx
      simpa using hx x hx'
    refine .ret ⟨[_], ⟨rfl, trivial⟩, IB b l :: fr, fun _ s => s, l, ?_, ?_, rfl⟩
    · rw [hfl, hzn]; rfl
    · rw [hfl, hzn]; exact k0
  | some i =>
    have h1 : ixI p z = (i : Int) := by rw [ixI, hx]
    have d0 := DeI.start hx
    have hiz := d0.jn
    rw [h1]
    refine .cond_dec rfl (fun h1 => absurd h1 (by omega)) (fun h1 => .skip ?_)
    refine .seq (.seq ((.region (.v (.move rfl) (.v (.addE ((i + 1 : Nat) : Int) rfl rfl (by omega) (by omega)) (.v (.assign rfl) (.nil ?_)))))))
    refine .block (.loop (X := DLI) (fun x => [(0, .slice (some ⟨b, o, none⟩) n c), (1, .func (.func g) #[] ⟨cap⟩), (5, .int .i64 x.i), (6, .int .i64 x.j)]) (fun x => IB b x.l :: fr) (fun x => DeI p z x.d x.i x.j ∧ SI b o c n x.d x.l) (fun x => z.length - x.j) ⟨i, i + 1, z, l⟩ ⟨d0, k0⟩ (.cons rfl (.cons rfl (.cons rfl (.cons rfl (.nil _))))) (fun _ s => s) ?_)
    clear h1 hx d0 hiz k0
    rintro ⟨i, j, d, l1⟩ ⟨hI, k1⟩
    dsimp only at hI k1 ⊢
    have hij := hI.ij
    have hjn := hI.jn
    refine .seq (.seq ((.region (.v (.move rfl) (.v (.move rfl) (.v (.len rfl) (.v (.lss rfl rfl) (.nil ?_))))))))
    refine .cond_dec rfl (fun h2 => .skip ?_) (fun h2 => .exit ?_)
    · have hj : j < n := by omega
      have hlen := k1.len
      refine .mid (X := DLI) (fun x => [(0, .slice (some ⟨b, o, none⟩) n c), (1, .func (.func g) #[] ⟨cap⟩), (5, .int .i64 x.i), (6, .int .i64 j)]) (fun x => IB b x.l :: fr) (fun x => DeI p z x.d x.i (j + 1) ∧ SI b o c n x.d x.l) (.block (.seq ((.region (.v (.move rfl) (.v (.move rfl) (.v (.indexM j rfl rfl hj) (.v (.loadA (vs := (d[j]!).cells) rfl (k1.at_ hj (by simp)) rfl) (.nw .alloc fun b7 => (.st (.sw rfl rfl) (.nil ?_))))))))))) ?_
      · refine .seq ((.region (.v (.move rfl) (.v (.loadA (vs := (d[j]!).cells) rfl .whole rfl) ?_))))
        refine .pl (v := .bool (p d[j]!)) (pre := fr) [(b7, .cells (d[j]!).cells 36), IB b l1] rfl rfl (List.perm_append_comm (l₁ := [_, _])) (fun w s => hd w _) ?_
        refine .v (.not rfl) (.nil ?_)
        refine .cond rfl (fun h3 => ?_) (fun h3 => .skip ?_)
        · refine .seq ((.region (.v (.move rfl) (.v (.move rfl) (.v (.loadA (vs := (d[j]!).cells) rfl .whole rfl) (.v (.indexM i rfl rfl (by omega)) (.st (.storeA rfl rfl rfl rfl (by show o + i * 6 + 6 ≤ _; omega)) (.nil ?_))))))))
          refine .region (.v (.move rfl) (.v (.addE ((i + 1 : Nat) : Int) rfl rfl (by omega) (by omega)) (.v (.assign rfl) (.nil ?_))))
          exact ⟨⟨i + 1, 0, _, _⟩, ⟨hI.put (by omega) (by simpa using h3), k1.set (i := i) (by omega) d[j]!⟩, .cons rfl (.cons rfl (.cons rfl (.cons rfl (.nil _)))), fun _ s => s.sub (List.sublist_cons_self _ _)⟩
        · exact ⟨⟨i, 0, d, l1⟩, ⟨hI.skip (by omega) (by simpa using h3), k1⟩, .cons rfl (.cons rfl (.cons rfl (.cons rfl (.nil _)))), fun _ s => s.sub (List.sublist_cons_self _ _)⟩
      · rintro ⟨i2, _, d2, l2⟩ ⟨hI2, k2⟩
        dsimp only at hI2 k2 ⊢
        refine .region (.v (.move rfl) (.v (.addE ((j + 1 : Nat) : Int) rfl rfl (by omega) (by omega)) (.v (.assign rfl) (.nil ?_))))
        exact ⟨⟨i2, j + 1, d2, l2⟩, ⟨hI2, k2⟩, by show z.length - (j + 1) < z.length - j; omega, .cons rfl (.cons rfl (.cons rfl (.cons rfl (.nil _)))), fun _ s => s⟩
    · have hjz : j = z.length := by omega
      subst hjz
      have hlen := k1.len
      have hcap := k1.own.cap_.2
      have htk := hI.tk
      rw [List.take_length] at htk
      have hfl : (z.filter fun x => !p x).length = i := by rw [← htk, List.length_take]; simp [hI.sz]; omega
      have k3 := uptoI k1 (i := i) (by omega)
      rw [htk] at k3
      refine .seq ((.region (.v (.move rfl) (.v (.move rfl) (.v (.slLo rfl rfl (by omega) (by omega)) ?_)))))
      simp only [Int.toNat_natCast]
      rw [cutA_some (by omega)]
      refine .ef0 (.clearIn (z := it0.cells) rfl rfl (by omega)) ?_
      rintro _ _ ⟨rfl, rfl⟩
      refine .nil ?_
      refine .seq ((.region (.v (.move rfl) (.v (.move rfl) (.v (.slHi rfl rfl (by omega) (by omega)) (.v (.assign rfl) (.nil ?_)))))))
      refine .ret ⟨[_], ⟨rfl, trivial⟩, _, fun _ s => s, _, ?_, ?_, rfl⟩
      · rw [hfl]; rfl
      · rw [hfl]
        refine ⟨by rw [hfl], ?_⟩
        obtain ⟨m1, m2⟩ := k3.own
        refine ⟨m1, ?_⟩
        rcases m2 with ⟨_, _, h3⟩ | ⟨b', o', cap', l', e1, e2, e3, e4, e5⟩
        · cases h3
        · cases e1; cases e2
          refine .inr ⟨b, o, c, _, rfl, rfl, e3, by rw [splice_length _ _ _ (by rw [zeros_length]; simp; omega)]; exact e4, ?_⟩
          rw [splice_keep _ _ o _ _ (Nat.le_refl _) (by omega)]
          exact e5
theorem delI_ok (w : World) {b o c n : Nat} {d : List It} {l : List Value} (k : SI b o c n d l) {i : Nat} (hi : i < n) (hb : n ≤ 2513169434843) :
    Does Try.prog 52 [.slice (some ⟨b, o, none⟩) n c, .int .i64 i, .int .i64 ((i + 1 : Nat) : Int)] [IB b l] w (fun v hs => ∃ l', v = .slice (some ⟨b, o, none⟩) (n - 1) c ∧ SI b o c (n - 1) (d.eraseIdx i) l' ∧ hs = [IB b l']) := by
  have hsz := k.sz
  have k' := k.own
  obtain ⟨hvl, _⟩ := k'
  have hc : n ≤ c ∧ o + c * 6 ≤ l.length ∧ (l.drop o).take (n * 6) = irows d := by
    rcases k.own.2 with ⟨_, _, h3⟩ | ⟨b', o', cap, l', e1, e2, e3, e4, e5⟩
    · cases h3
    · cases e1; cases e2; exact ⟨e3, e4, e5⟩
  obtain ⟨hc, hl, hv⟩ := hc
  have h1 := irows_ones d
  have kk := k.own
  have eE : irows (d.eraseIdx i) = (irows d).take (i * 6) ++ (irows d).drop ((i + 1) * 6) := by
    rw [List.eraseIdx_eq_take_drop_succ, irows_app]
    congr 1
    · exact Go.V.rows_take It.cells 6 (fun _ => rfl) i
    · exact Go.V.rows_drop It.cells 6 (fun _ => rfl) (i + 1)
  have lE : (d.eraseIdx i).length = n - 1 := by rw [List.length_eraseIdx_of_lt (by omega)]; omega
  generalize irows d = vs at hvl hv h1 kk eE
  refine Does.of (n := 33) Try.func52 rfl rfl rfl rfl ?_
  refine .seq ((.region (.v (.assign rfl) (.nil ?_))))
  refine .seq ((.region (.v (.move rfl) (.v (.move rfl) (.v (.move rfl) (.v (.move rfl) (.v (.len rfl) (.v (.sl3 rfl rfl rfl rfl (by omega) (by omega) (by omega) (by omega)) (.nil ?_)))))))))
  refine .seq (.seq ((.region (.v (.move rfl) (.v (.move rfl) (.v (.eqi rfl rfl) (.nil ?_)))))))
  refine .cond_dec rfl (fun h1 => by omega) (fun _ => .skip ?_)
  refine .seq ((.region (.v (.move rfl) (.v (.len rfl) (.v (.assign rfl) (.nil ?_))))))
  refine .seq (.drawK [] (List.nil_subset _) (by kernel_rfl) (by kernel_rfl) ?_)
  refine .v (fun _ f => .move rfl) (.v (fun _ f => .move rfl) (.v (fun _ f => .slHi rfl rfl (by omega) (by omega)) (.v (fun _ f => .move rfl) (.v (fun _ f => .move rfl) (.v (fun _ f => .slLo rfl rfl (by omega) (by omega)) ?_)))))
  have e1 : ((i : Int)).toNat = i := by omega
  have e2 : (((i + 1 : Nat) : Int)).toNat = i + 1 := by omega
  have hnews : (vs.drop ((i + 1) * 6)).length = (n - (i + 1)) * 6 := by rw [List.length_drop, hvl, Nat.sub_mul]
  have hones : ones (vs.drop ((i + 1) * 6)) = true := by
    simp only [ones, List.all_eq_true] at h1 ⊢
    exact fun x hx => h1 x (List.mem_of_mem_drop hx)
  have kc := kk.cut (i := i + 1) (by omega) (by omega)
  refine .ef (.appendIn (c := i) (k := n - (i + 1)) (news := vs.drop ((i + 1) * 6)) (b := b) (o := o) (cap := c) (l := l) rfl rfl
    (fun w s => by simp only [e1, e2]; exact (OwnS.rd kc s (fun p hp => hp) (by simp) (no := [])).src hnews (by omega)) hnews hones (by omega) (by omega)) (fun _ _ ⟨_, h2⟩ _ => List.nil_subset _) ?_
  rintro _ _ ⟨rfl, rfl⟩
  refine .v (fun _ f => .assign rfl) (.nil ?_)
  have e3 : i + (n - (i + 1)) = n - 1 := by omega
  rw [e3]
  refine .seq ((.region (.v (.move rfl) (.v (.move rfl) (.v (.len rfl) (.v (.move rfl) (.v (.slLoHi rfl rfl rfl (by omega) (by omega) (by omega)) ?_)))))))
  have e4 : (((n - 1 : Nat) : Int)).toNat = n - 1 := by omega
  have e5 : ((n : Int)).toNat = n := by omega
  simp only [e4, e5]
  rw [cutA_some (by omega)]
  have hlen2 : (V.splice l (o + i * 6) (vs.drop ((i + 1) * 6))).length = l.length := splice_length _ _ _ (by rw [hnews]; omega)
  refine .ef0 (.clearIn (z := it0.cells) rfl rfl (by rw [hlen2]; omega)) ?_
  rintro _ _ ⟨rfl, rfl⟩
  refine .nil ?_
  refine .seq ((.region (.v (.move rfl) (.v (.assign rfl) (.nil ?_)))))
  refine .ret ⟨[_], ⟨rfl, trivial⟩, _, rfl, ⟨lE, ?_⟩, rfl⟩
  rw [eE]
  refine ⟨?_, .inr ⟨b, o, c, _, rfl, rfl, by omega, ?_, ?_⟩⟩
  · rw [List.length_append, List.length_take, hnews, hvl]
    rw [Nat.min_eq_left (Nat.mul_le_mul_right _ (by omega)), ← Nat.add_mul]
    congr 1
  · rw [splice_length _ _ _ (by rw [zeros_length, hlen2]; simp; omega), hlen2]; exact hl
  · rw [splice_keep _ _ o _ _ (Nat.le_refl _) (by rw [hlen2]; omega)]
    have := splice_app l (vs.take (i * 6)) (vs.drop ((i + 1) * 6)) o i 6 (n - (i + 1)) c (by rw [List.length_take, hvl]; omega) hnews (by omega) hl (by rw [← hv, List.take_take]; congr 1; omega)
    rw [e3] at this
    exact this
end Go.Proofs.Ytamldmgdhaoigaa

/- auction: New, place, Enter, Drop, Interests, Len, Curve, Anchor. -/
namespace Go.Proofs.Ytamldmgdhaoigaa
open Go.V
set_option linter.unusedVariables false
set_option linter.unusedSimpArgs false
set_option maxRecDepth 20000

abbrev ccells (rf rm : Int) (v : Value) : List Value := [.int .i64 rf, .int .i64 rm, v]
abbrev Cb (p : Nat) (C : Cl) (v : Value) : Nat × Ch := (p, .cells (ccells C.rf C.rm v) 75)
/-- an interest that can stand in a call -/
structure It.Ok (x : It) : Prop where
  sd : x.sd = 1 ∨ x.sd = 2
  ty : x.ty = 1 ∨ x.ty = 2
  pr : tickP x.pr
  mkt : x.ty = 2 → x.pr = 0
  q : 1 ≤ x.q ∧ x.q ≤ 4294967295
  id : x.id ≠ 0
/-- a call that can be -/
structure Cl.Ok (C : Cl) : Prop where
  rf : tickP C.rf
  rm : 1 ≤ C.rm ∧ C.rm ≤ 4096
  len : (C.L.length : Int) ≤ C.rm
  it : ∀ x ∈ C.L, x.Ok
  nd : (C.L.map It.id).Nodup
theorem Cl.Ok.len' {C : Cl} (h : C.Ok) : C.L.length ≤ 4096 := by have := h.len; have := h.rm; omega
theorem It.Ok.P {x : It} (h : x.Ok) : x.P := by have := h.pr; exact ⟨by omega, by omega⟩
theorem ixI_has {id : Int} {l : List It} : ixI (It.has id) l = -1 ∧ l.findIdx? (It.has id) = none ∧ (∀ x ∈ l, x.id ≠ id) ∨ ∃ k, ∃ hk : k < l.length, ixI (It.has id) l = k ∧ l.findIdx? (It.has id) = some k ∧ l[k].id = id := by
  unfold ixI
  cases h : l.findIdx? (It.has id) with
  | none =>
    refine .inl ⟨rfl, rfl, fun x hx => ?_⟩
    rw [List.findIdx?_eq_none_iff] at h
    simpa [It.has] using h x hx
  | some k =>
    rw [List.findIdx?_eq_some_iff_getElem] at h
    obtain ⟨hk, h1, _⟩ := h
    exact .inr ⟨k, hk, rfl, rfl, by simpa [It.has] using h1⟩
theorem Cl.Ok.enter {C : Cl} (h : C.Ok) (i : It) : (C.enter i).Ok := by
  unfold Cl.enter
  split
  case isFalse => exact h
  rename_i hw
  unfold Cl.why at hw
  by_cases a1 : i.sd ≠ 1 ∧ i.sd ≠ 2
  · rw [if_pos a1] at hw; cases hw
  rw [if_neg a1] at hw
  by_cases a2 : i.ty ≠ 1 ∧ i.ty ≠ 2
  · rw [if_pos a2] at hw; cases hw
  rw [if_neg a2] at hw
  by_cases a3 : ¬ tickP i.pr ∨ i.ty = 2 ∧ i.pr ≠ 0
  · rw [if_pos a3] at hw; cases hw
  rw [if_neg a3] at hw
  by_cases a4 : i.q < 1 ∨ 4294967295 < i.q
  · rw [if_pos a4] at hw; cases hw
  rw [if_neg a4] at hw
  by_cases a5 : i.id = 0 ∨ 0 ≤ ixI (It.has i.id) C.L
  · rw [if_pos a5] at hw; cases hw
  rw [if_neg a5] at hw
  by_cases a6 : C.rm ≤ C.L.length
  · rw [if_pos a6] at hw; cases hw
  have hok : i.Ok := ⟨by omega, by omega, Decidable.of_not_not fun x => a3 (.inl x), fun e => Decidable.of_not_not fun x => a3 (.inr ⟨e, x⟩), by omega, fun x => a5 (.inl x)⟩
  refine ⟨h.rf, h.rm, ?_, fun x hx => ?_, ?_⟩
  · show ((C.L ++ [i]).length : Int) ≤ C.rm
    rw [List.length_append, List.length_singleton]; omega
  · rcases List.mem_append.1 hx with hx | hx
    · exact h.it x hx
    · rw [List.mem_singleton.1 hx]; exact hok
  · show ((C.L ++ [i]).map It.id).Nodup
    rw [List.map_append, List.nodup_append]
    refine ⟨h.nd, by simp, fun a ha b hb => ?_⟩
    obtain ⟨x, hx, rfl⟩ := List.mem_map.1 ha
    have hb : b = i.id := by simpa using hb
    rw [hb]
    rcases ixI_has (id := i.id) (l := C.L) with ⟨_, _, hn⟩ | ⟨k, hk, e, _⟩
    · exact hn x hx
    · exact absurd (Or.inr (by rw [e]; omega)) a5
theorem Cl.Ok.dropI {C : Cl} (h : C.Ok) (id : Int) : (C.dropI id).Ok := by
  unfold Cl.dropI
  split
  · rename_i k hk
    refine ⟨h.rf, h.rm, ?_, fun x hx => h.it x (List.mem_of_mem_eraseIdx hx), ?_⟩
    · have := List.length_eraseIdx_le C.L k
      have := h.len
      show ((C.L.eraseIdx k).length : Int) ≤ C.rm
      omega
    · exact h.nd.sublist ((List.eraseIdx_sublist C.L k).map _)
  · exact h
theorem isTick_ok (w : World) (p : Int) : Is Try.prog 50 [.int .i64 p] w (.bool (decide (tickP p))) := by
  refine Does.pure (Does.of (n := 9) Try.func50 rfl rfl rfl rfl ?_)
  refine .seq ((.region (.v (.assign rfl) (.nil ?_))))
  refine .seq ((.region (.v (.move rfl) (.v (.geq rfl rfl) (.v (.move rfl) (.and 5 7 2 2 rfl rfl (fun g1 => .v (.move rfl) (.v (.lss rfl rfl) (.nil ⟨rfl, rfl, rfl, rfl⟩))) (.v (.assign rfl) (.nil ?_))))))))
  refine .ret ⟨[_], ⟨rfl, trivial⟩, vb ?_⟩
  simp only [Bool.and_eq_true, Bool.or_eq_true, Bool.not_eq_true', Bool.and_eq_false_iff, Bool.or_eq_false_iff, Bool.not_eq_false', decide_eq_true_eq, decide_eq_false_iff_not, Bool.false_eq_true, false_iff] <;> (unfold tickP; omega)
theorem isId_ok (w : World) (b : Nat) (id : Int) (x : It) (hb : Rd w [] (some ⟨b, 0, none⟩) [.int .u64 id]) : Is Try.prog 68 [.agg ⟨x.cells⟩, .pointer (some ⟨b, 0, none⟩)] w (.bool (It.has id x)) := by
  refine Does.pure (Does.of (n := 8) Try.func68 rfl rfl rfl rfl ?_)
  refine .seq ((.region (.nw (.box (l := x.cells) rfl rfl) fun b2 => (.v (.assign rfl) (.nil ?_)))))
  refine .seq ((.region (.v (.fieldAddr rfl) (.v (.load (v := .int .u64 x.id) rfl (.one rfl)) (.v (.load (v := .int .u64 id) rfl (hb.cell (i := 0) rfl)) (.v (.eqi rfl rfl) (.v (.assign rfl) (.nil ?_))))))))
  exact .ret ⟨[_], ⟨rfl, trivial⟩, rfl⟩
theorem indexP_ok (w : World) (A : Option Addr) (n c b : Nat) (id : Int) (d : List It) (hA : Rd w [] A (irows d)) (hn : d.length = n) (hb2 : n < 2305843009213693952) (hb : Rd w [] (some ⟨b, 0, none⟩) [.int .u64 id]) :
    Is Try.prog 65 [.slice A n c, .func (.func 68) #[] ⟨[.pointer (some ⟨b, 0, none⟩)]⟩] w (.int .i64 (ixI (It.has id) d)) := by
  refine Does.pure (Does.of (n := 19) Try.func65 rfl rfl rfl rfl ?_)
  refine .seq ((.region (.v (.assign rfl) (.nil ?_))))
  refine .seq (.seq ((.region (.v (.move rfl) (.v (.len rfl) (.v (.move rfl) (.nil ?_)))))))
  refine .block (.loop (X := Nat) (fun i => [(0, .slice A n c), (1, .func (.func 68) #[] ⟨[.pointer (some ⟨b, 0, none⟩)]⟩), (7, .int .i64 n), (8, .int .i64 (i : Nat))]) (fun _ => []) (fun i => i ≤ n ∧ ∀ j, j < i → It.has id d[j]! = false) (fun i => n - i) 0 ⟨Nat.zero_le _, fun i h => absurd h (by omega)⟩
    (.cons rfl (.cons rfl (.cons rfl (.cons rfl (.nil _))))) (fun _ s => s) ?_)
  rintro i ⟨hi, hf⟩
  try dsimp only at hi hf ⊢
  refine .seq ((.region (.v (.lss rfl rfl) (.nil ?_))))
  refine .seq (.cond_dec rfl (fun h1 => .skip ?_) (fun h1 => .exit ?_))
  · have hin : i < n := by omega
    have hid : i < d.length := by omega
    obtain ⟨ba, oa, rfl, hc⟩ := Rd.recs It.cells 6 (fun _ => rfl) hA (by omega) (by omega)
    have q1 := fun hs' => recAt It.cells 6 (fun _ => rfl) (z := (i : Int)) (hc hs') hid
    have eg : d[i]! = d[i] := getElem!_pos d i hid
    rw [← eg] at q1
    refine .seq (.block (.seq ((.region (.v (.move rfl) (.v (.assign rfl) (.nil ?_)))))))
    refine .seq ((.region (.v (.move rfl) (.v (.move rfl) (.v (.move rfl) (.v (.indexAddr rfl rfl (by omega) (by omega)) (.v (.loadA (vs := (d[i]!).cells) rfl (q1 _) rfl) (.pc (v := .bool (It.has id d[i]!)) rfl rfl (fun w s => isId_ok w b id _ (hb.keep0 s)) (.nil ?_)))))))))
    refine .cond rfl (fun h2 => ?_) (fun h2 => .skip ?_)
    · refine .seq ((.region (.v (.move rfl) (.v (.assign rfl) (.nil ?_)))))
      refine .ret ⟨[_], ⟨rfl, trivial⟩, ?_⟩
      rw [ixI, ixI_some hid h2 hf]; rfl
    · refine .region (.v (.addE ((i + 1 : Nat) : Int) rfl rfl (by omega) (by omega)) (.v (.move rfl) (.nil ?_)))
      exact ⟨i + 1, ⟨by omega, fun j hj => by rcases Nat.lt_succ_iff_lt_or_eq.1 hj with h | rfl; exact hf j h; exact h2⟩, by omega, .cons rfl (.cons rfl (.cons rfl (.cons rfl (.nil _)))), fun _ s => s⟩
  · refine .seq ((.region (.v (.assign rfl) (.nil ?_))))
    refine .ret ⟨[_], ⟨rfl, trivial⟩, ?_⟩
    rw [ixI, ixI_none fun j hj => hf j (by omega)]; rfl
/-- a call that is read -/
structure ClR (w : World) (p : Nat) (C : Cl) (A : Option Addr) (c : Nat) : Prop where
  hd : Rd w [] (some ⟨p, 0, none⟩) (ccells C.rf C.rm (.slice A C.L.length c))
  ls : Rd w [] A (irows C.L)
theorem ClR.keep0 {w0 w : World} {own : List Nat} {hs : Hp} {p : Nat} {C : Cl} {A : Option Addr} {c : Nat} (h : ClR w0 p C A c) (s : Sat w0 own hs w) (ho : own = []) : ClR w p C A c := by
  subst ho; exact ⟨h.hd.keep0 s, h.ls.keep0 s⟩
/-- a call in memory -/
theorem ClR.of {w0 w : World} {own : List Nat} {hs : Hp} {p : Nat} {C : Cl} {A : Option Addr} {c : Nat} {h : Hp} (s : Sat w0 own hs w) (o : Own (.slice A C.L.length c) C.L h) (hm : Cb p C (.slice A C.L.length c) ∈ hs) (hh : h ⊆ hs) : ClR w p C A c :=
  ⟨Rd.chunk (hb := ⟨hm⟩) s (by simp) (fun j v hv => by rw [Nat.zero_add]; exact hv), OwnS.rd o s (no := []) hh (by simp)⟩
theorem place_ok (w : World) (p : Nat) (C : Cl) (A : Option Addr) (c : Nat) (id : Int) (h : ClR w p C A c) (hn : C.L.length < 2305843009213693952) : Is Try.prog 51 [.pointer (some ⟨p, 0, none⟩), .int .u64 id] w (.int .i64 (ixI (It.has id) C.L)) := by
  refine Does.pure (Does.of (n := 11) Try.func51 rfl rfl rfl rfl ?_)
  refine .seq ((.region (.nw (.box (l := [.int .u64 id]) rfl rfl) fun b3 => (.v (.assign rfl) (.nil ?_)))))
  refine .seq ((.region (.v (.move rfl) (.v (.nilCheck rfl) (.v (.fieldAddr rfl) (.v (.load (v := .slice A C.L.length c) rfl (h.hd.cell (i := 2) rfl)) (.v (.makeFunc rfl rfl) (.pc rfl rfl (fun w' s => indexP_ok w' A C.L.length c b3 id C.L (h.ls.keep0 s) rfl hn (Rd.chunk s (l := [.int .u64 id]) (T := 28) (by simp) (fun j v hv => by rw [Nat.zero_add]; exact hv))) (.v (.assign rfl) (.nil ?_))))))))))
  exact .ret ⟨[_], ⟨rfl, trivial⟩, rfl⟩
theorem Len_ok (w : World) (p : Nat) (C : Cl) (A : Option Addr) (c : Nat) (h : ClR w p C A c) : Is Try.prog 20 [.pointer (some ⟨p, 0, none⟩)] w (.int .i64 C.L.length) := by
  refine Does.pure (Does.of (n := 8) Try.func20 rfl rfl rfl rfl ?_)
  refine .seq ((.region (.v (.assign rfl) (.nil ?_))))
  refine .seq ((.region (.v (.move rfl) (.v (.nilCheck rfl) (.v (.fieldAddr rfl) (.v (.load (v := .slice A C.L.length c) rfl (h.hd.cell (i := 2) rfl)) (.v (.len rfl) (.v (.assign rfl) (.nil ?_)))))))))
  exact .ret ⟨[_], ⟨rfl, trivial⟩, rfl⟩
/-! ### the curve -/
theorem qsum_app (a b : List It) : qsum (a ++ b) = qsum a + qsum b := by unfold qsum; rw [List.map_append, List.sum_append]
theorem qsum_le : ∀ {l : List It}, (∀ x ∈ l, 0 ≤ x.q ∧ x.q ≤ 4294967295) → 0 ≤ qsum l ∧ qsum l ≤ 4294967295 * l.length
  | [], _ => ⟨by simp [qsum], by simp [qsum]⟩
  | x :: l, h => by
    obtain ⟨h1, h2⟩ := qsum_le (l := l) fun y hy => h y (List.mem_cons_of_mem _ hy)
    have := h x List.mem_cons_self
    unfold qsum at *
    rw [List.map_cons, List.sum_cons, List.length_cons]
    omega
theorem buyQ_snoc (p : Int) (l : List It) (x : It) : buyQ p (l ++ [x]) = buyQ p l + if buysAt p x then x.q else 0 := by
  unfold buyQ
  rw [List.filter_append, qsum_app, List.filter_cons]
  split <;> simp [qsum]
theorem sellQ_snoc (p : Int) (l : List It) (x : It) : sellQ p (l ++ [x]) = sellQ p l + if sellsAt p x then x.q else 0 := by
  unfold sellQ
  rw [List.filter_append, qsum_app, List.filter_cons]
  split <;> simp [qsum]
theorem buyQ_le (p : Int) {l : List It} (h : ∀ x ∈ l, 0 ≤ x.q ∧ x.q ≤ 4294967295) : 0 ≤ buyQ p l ∧ buyQ p l ≤ 4294967295 * l.length ∧ 0 ≤ sellQ p l ∧ sellQ p l ≤ 4294967295 * l.length := by
  obtain ⟨a1, a2⟩ := qsum_le (l := l.filter (buysAt p)) fun x hx => h x (List.mem_filter.1 hx).1
  obtain ⟨b1, b2⟩ := qsum_le (l := l.filter (sellsAt p)) fun x hx => h x (List.mem_filter.1 hx).1
  have c1 := List.length_filter_le (buysAt p) l
  have c2 := List.length_filter_le (sellsAt p) l
  unfold buyQ sellQ
  exact ⟨a1, by omega, b1, by omega⟩
theorem take_snocI {l : List It} {i : Nat} (h : i < l.length) : l.take (i + 1) = l.take i ++ [l[i]] := by rw [List.take_add_one, List.getElem?_eq_getElem h]; rfl
abbrev curveV (p : Int) (l : List It) : Value := .tuple ⟨[.int .u64 (buyQ p l), .int .u64 (sellQ p l)]⟩
abbrev Qok (l : List It) : Prop := l.length ≤ 4096 ∧ ∀ x ∈ l, 0 ≤ x.q ∧ x.q ≤ 4294967295
theorem Cl.Ok.qok {C : Cl} (h : C.Ok) : Qok C.L := ⟨h.len', fun x hx => by have := (h.it x hx).q; omega⟩
theorem Curve_ok (w : World) (p : Nat) (C : Cl) (A : Option Addr) (c : Nat) (pr : Int) (h : ClR w p C A c) (hq : Qok C.L) : Is Try.prog 21 [.pointer (some ⟨p, 0, none⟩), .int .i64 pr] w (curveV pr C.L) := by
  obtain ⟨hl, hq⟩ := hq
  have hA := h.ls
  refine Does.pure (Does.of (n := 60) Try.func21 rfl rfl rfl rfl ?_)
  refine .seq ((.region (.v (.assign rfl) (.v (.assign rfl) (.nil ?_)))))
  refine .seq ((.region (.v (.assign rfl) (.v (.assign rfl) (.nil ?_)))))
  refine .seq (.seq ((.region (.v (.move rfl) (.v (.nilCheck rfl) (.v (.fieldAddr rfl) (.v (.load (v := .slice A C.L.length c) rfl (h.hd.cell (i := 2) rfl)) (.v (.len rfl) (.v (.move rfl) (.nil ?_))))))))))
  clear h
  generalize C.L = l at hl hq hA
  refine .block (.loop (X := Nat) (fun i => [(1, .int .i64 pr), (6, .int .u64 (buyQ pr (l.take i))), (7, .int .u64 (sellQ pr (l.take i))), (13, .slice A l.length c), (14, .int .i64 l.length), (15, .int .i64 (i : Nat))]) (fun _ => []) (fun i => i ≤ l.length) (fun i => l.length - i) 0 (Nat.zero_le _) (.cons rfl (.cons rfl (.cons rfl (.cons rfl (.cons rfl (.cons rfl (.nil _))))))) (fun _ s => s) ?_)
  intro i hi
  refine .seq ((.region (.v (.lss rfl rfl) (.nil ?_))))
  refine .seq (.cond_dec rfl (fun h1 => .skip ?_) (fun h1 => .exit ?_))
  · have hil : i < l.length := by omega
    obtain ⟨ba, oa, rfl, hc⟩ := Rd.recs It.cells 6 (fun _ => rfl) hA (by omega) (by omega)
    have q1 := fun hs' => recAt It.cells 6 (fun _ => rfl) (z := (i : Int)) (hc hs') hil
    have eB := buyQ_snoc pr (l.take i) l[i]
    rw [← take_snocI hil] at eB
    have eS := sellQ_snoc pr (l.take i) l[i]
    rw [← take_snocI hil] at eS
    obtain ⟨u1, u2, u3, u4⟩ := buyQ_le pr (l := l.take i) fun x hx => hq x (List.mem_of_mem_take hx)
    have hx := hq _ (List.getElem_mem hil)
    rw [List.length_take] at u2 u4
    generalize l[i] = x at q1 eB eS hx
    refine .mid (X := Unit) (fun _ => [(1, .int .i64 pr), (6, .int .u64 (buyQ pr (l.take (i + 1)))), (7, .int .u64 (sellQ pr (l.take (i + 1)))), (13, .slice (some ⟨ba, oa, none⟩) l.length c), (14, .int .i64 l.length), (15, .int .i64 (i : Nat))]) (fun _ => []) (fun _ => True) (.block (.seq ((.region (.v (.indexAddr rfl rfl (by omega) (by omega)) (.v (.loadA (vs := x.cells) rfl (q1 _) rfl) (.nw .alloc fun b9 => (.st (.sw rfl rfl) (.nil ?_))))))))) ?_
    · refine .block (.seq ((.region (.v (.fieldAddr rfl) (.v (.load (v := .int .i64 x.sd) rfl (.one rfl)) (.v (.eqi rfl rfl) (.v (.move rfl) (.and (b2 := decide (x.ty = 2) || decide (x.pr ≥ pr)) 23 32 9 5 rfl rfl (fun g1 => .v (.fieldAddr rfl) (.v (.load (v := .int .i64 x.ty) rfl (.one rfl)) (.v (.eqi rfl rfl) (.v (.move rfl) (.or (b2 := decide (x.pr ≥ pr)) 27 31 4 4 rfl rfl (fun g2 => .v (.fieldAddr rfl) (.v (.load (v := .int .i64 x.pr) rfl (.one rfl)) (.v (.move rfl) (.v (.geq rfl rfl) (.nil ⟨rfl, rfl, rfl, rfl⟩))))) (.nil ⟨rfl, rfl, rfl, rfl⟩)))))) (.v (.assign rfl) (.nil ?_))))))))))
      have hbA : (decide (x.sd = 1) && (decide (x.ty = 2) || decide (x.pr ≥ pr))) = buysAt pr x := rfl
      rw [hbA]
      have hsA : (decide (x.sd = 2) && (decide (x.ty = 2) || decide (x.pr ≤ pr))) = sellsAt pr x := rfl
      refine .cond rfl (fun h2 => ?_) (fun h2 => ?_)
      · have h3 : sellsAt pr x = false := by
          unfold buysAt at h2; unfold sellsAt
          rw [Bool.and_eq_true] at h2
          have : x.sd = 1 := of_decide_eq_true h2.1
          simp [this]
        rw [h2] at eB
        rw [h3] at eS
        refine .region (.v (.move rfl) (.v (.fieldAddr rfl) (.v (.load (v := .int .u64 x.q) rfl (.one rfl)) (.v (.addU (buyQ pr (l.take i) + x.q) rfl rfl rfl (by omega)) (.v (.assign rfl) (.nil ?_))))))
        exact ⟨(), trivial, .cons rfl (.cons (by rw [eB]; rfl) (.cons (by rw [eS]; simp only [Bool.false_eq_true, if_false, Int.add_zero]; rfl) (.cons rfl (.cons rfl (.cons rfl (.nil _)))))), fun _ s => s.sub (List.nil_sublist _)⟩
      · rw [h2] at eB
        refine .seq ((.region (.v (.fieldAddr rfl) (.v (.load (v := .int .i64 x.sd) rfl (.one rfl)) (.v (.eqi rfl rfl) (.v (.move rfl) (.and (b2 := decide (x.ty = 2) || decide (x.pr ≤ pr)) 42 51 9 5 rfl rfl (fun g3 => .v (.fieldAddr rfl) (.v (.load (v := .int .i64 x.ty) rfl (.one rfl)) (.v (.eqi rfl rfl) (.v (.move rfl) (.or (b2 := decide (x.pr ≤ pr)) 46 50 4 4 rfl rfl (fun g4 => .v (.fieldAddr rfl) (.v (.load (v := .int .i64 x.pr) rfl (.one rfl)) (.v (.move rfl) (.v (.leq rfl rfl) (.nil ⟨rfl, rfl, rfl, rfl⟩))))) (.nil ⟨rfl, rfl, rfl, rfl⟩)))))) (.v (.assign rfl) (.nil ?_)))))))))
        rw [hsA]
        refine .cond rfl (fun h3 => ?_) (fun h3 => .skip ?_)
        · rw [h3] at eS
          refine .region (.v (.move rfl) (.v (.fieldAddr rfl) (.v (.load (v := .int .u64 x.q) rfl (.one rfl)) (.v (.addU (sellQ pr (l.take i) + x.q) rfl rfl rfl (by omega)) (.v (.assign rfl) (.nil ?_))))))
          exact ⟨(), trivial, .cons rfl (.cons (by rw [eB]; simp only [Bool.false_eq_true, if_false, Int.add_zero]; rfl) (.cons (by rw [eS]; rfl) (.cons rfl (.cons rfl (.cons rfl (.nil _)))))), fun _ s => s.sub (List.nil_sublist _)⟩
        · rw [h3] at eS
          exact ⟨(), trivial, .cons rfl (.cons (by rw [eB]; simp only [Bool.false_eq_true, if_false, Int.add_zero]; rfl) (.cons (by rw [eS]; simp only [Bool.false_eq_true, if_false, Int.add_zero]; rfl) (.cons rfl (.cons rfl (.cons rfl (.nil _)))))), fun _ s => s.sub (List.nil_sublist _)⟩
    rintro ⟨⟩ -
    try dsimp only
    refine .region (.v (.addi rfl rfl (by omega)) (.v (.move rfl) (.nil ?_)))
    exact ⟨i + 1, by omega, by omega, .cons rfl (.cons rfl (.cons rfl (.cons rfl (.cons rfl (.cons rfl (.nil _)))))), fun _ s => s⟩
  · have : i = l.length := by omega
    subst this
    rw [List.take_length]
    refine .seq ((.region (.v (.move rfl) (.v (.move rfl) (.v (.assign rfl) (.v (.assign rfl) (.nil ?_)))))))
    exact .ret ⟨[_, _], ⟨rfl, rfl, trivial⟩, rfl⟩
/-! ### New, Enter, Drop, Anchor -/
abbrev newOk (rf rm : Int) : Prop := tickP rf ∧ 1 ≤ rm ∧ rm ≤ 4096
theorem NewC_ok (w : World) (rf rm : Int) : Does Try.prog 22 [.int .i64 rf, .int .i64 rm] [] w (fun v hs => if newOk rf rm then ∃ p, v = .tuple ⟨[.pointer (some ⟨p, 0, none⟩), .int .i64 0]⟩ ∧ hs = [Cb p ⟨rf, rm, []⟩ (.slice none 0 0)] else v = .tuple ⟨[.pointer none, .int .i64 1]⟩ ∧ hs = []) := by
  refine Does.less (Does.of (n := 21) Try.func22 rfl rfl rfl rfl ?_)
  refine .seq ((.region (.v (.assign rfl) (.v (.assign rfl) (.nil ?_)))))
  refine .seq (.seq ((.region (.v (.move rfl) (.pc rfl rfl (fun w s => isTick_ok w rf) (.v (.not rfl) (.v (.move rfl) (.or (b2 := decide (rm < 1)) 9 11 2 2 rfl rfl (fun g1 => .v (.move rfl) (.v (.lss rfl rfl) (.nil ⟨rfl, rfl, rfl, rfl⟩))) (.v (.move rfl) (.or (b2 := decide (rm > 4096)) 13 15 2 2 rfl rfl (fun g2 => .v (.move rfl) (.v (.gtr rfl rfl) (.nil ⟨rfl, rfl, rfl, rfl⟩))) (.nil ?_)))))))))))
  refine .cond rfl (fun h1 => ?_) (fun h1 => .skip ?_)
  · have hn : ¬ newOk rf rm := by
      simp only [Bool.or_eq_true, Bool.not_eq_true', decide_eq_false_iff_not, decide_eq_true_eq] at h1
      unfold newOk; omega
    refine .seq ((.region (.v (.assign rfl) (.v (.assign rfl) (.nil ?_)))))
    exact .ret ⟨[_, _], ⟨rfl, rfl, trivial⟩, [], fun _ s => s, by rw [if_neg hn]; exact ⟨rfl, rfl⟩⟩
  · have hn : newOk rf rm := by
      simp only [Bool.or_eq_false_iff, Bool.not_eq_false', decide_eq_false_iff_not, decide_eq_true_eq] at h1
      unfold newOk; omega
    refine .seq ((.region (.v (.move rfl) (.v (.move rfl) (.v (.build (out := ccells rf rm (.slice none 0 0)) rfl rfl) (.nw (.box (l := ccells rf rm (.slice none 0 0)) rfl rfl) fun b20 => (.v (.assign rfl) (.v (.assign rfl) (.nil ?_)))))))))
    exact .ret ⟨[_, _], ⟨rfl, rfl, trivial⟩, [Cb b20 ⟨rf, rm, []⟩ (.slice none 0 0)], fun _ s => s, by rw [if_pos hn]; exact ⟨b20, rfl, rfl⟩⟩
theorem NewC_yes (w : World) {rf rm : Int} (h : newOk rf rm) : Does Try.prog 22 [.int .i64 rf, .int .i64 rm] [] w (fun v hs => ∃ p, v = .tuple ⟨[.pointer (some ⟨p, 0, none⟩), .int .i64 0]⟩ ∧ hs = [Cb p ⟨rf, rm, []⟩ (.slice none 0 0)]) := by
  have := NewC_ok w rf rm
  simp only [if_pos h] at this
  exact this
theorem NewC_no (w : World) {rf rm : Int} (h : ¬ newOk rf rm) : Is Try.prog 22 [.int .i64 rf, .int .i64 rm] w (.tuple ⟨[.pointer none, .int .i64 1]⟩) := by
  have := NewC_ok w rf rm
  simp only [if_neg h] at this
  exact this
theorem Cl.Ok.new {rf rm : Int} (h : newOk rf rm) : (⟨rf, rm, []⟩ : Cl).Ok := ⟨h.1, h.2, by show (0 : Int) ≤ rm; have := h.2; omega, fun x hx => (by cases hx), List.nodup_nil⟩
abbrev ancV (n : Int) : Int := if tickP n then 0 else 1
abbrev Cl.anchor (C : Cl) (n : Int) : Cl := if tickP n then ⟨n, C.rm, C.L⟩ else C
theorem Anchor_ok (w : World) (p : Nat) (C : Cl) (v : Value) (n : Int) : Does Try.prog 60 [.pointer (some ⟨p, 0, none⟩), .int .i64 n] [Cb p C v] w (fun r hs => r = .int .i64 (ancV n) ∧ hs = [Cb p (C.anchor n) v]) := by
  refine Does.less (Does.of (n := 12) Try.func60 rfl rfl rfl rfl ?_)
  refine .seq ((.region (.v (.assign rfl) (.nil ?_))))
  refine .seq (.seq ((.region (.v (.move rfl) (.pc rfl rfl (fun w s => isTick_ok w n) (.v (.not rfl) (.nil ?_)))))))
  unfold Cl.anchor ancV
  refine .cond rfl (fun h1 => ?_) (fun h1 => .skip ?_)
  · have hn : ¬ tickP n := fun hh => by rw [decide_eq_true hh] at h1; cases h1
    rw [if_neg hn, if_neg hn]
    refine .seq ((.region (.v (.assign rfl) (.nil ?_))))
    exact .ret ⟨[_], ⟨rfl, trivial⟩, [Cb p C v], fun _ s => s, rfl, rfl⟩
  · have hn : tickP n := Decidable.of_not_not fun hh => by rw [decide_eq_false hh] at h1; cases h1
    rw [if_pos hn, if_pos hn]
    refine .seq ((.region (.v (.move rfl) (.v (.move rfl) (.v (.nilCheck rfl) (.v (.fieldAddr rfl) (.st (.storeL rfl rfl rfl) (.nil ?_))))))))
    refine .seq ((.region (.v (.assign rfl) (.nil ?_))))
    exact .ret ⟨[_], ⟨rfl, trivial⟩, [Cb p ⟨n, C.rm, C.L⟩ v], fun _ s => s, rfl, rfl⟩
abbrev CallR (p : Nat) (C : Cl) (hs : Hp) : Prop := ∃ v h, hs = Cb p C v :: h ∧ Own v C.L h
theorem Enter_ok (w : World) (p : Nat) (C : Cl) (v : Value) (h : Hp) (o : Own v C.L h) (hl : C.L.length ≤ 1000000) (i : It) :
    Does Try.prog 23 [.pointer (some ⟨p, 0, none⟩), .agg ⟨i.cells⟩] (Cb p C v :: h) w (fun r hs => r = .int .i64 (C.why i) ∧ CallR p (C.enter i) hs) := by
  obtain ⟨A, c, rfl⟩ := o.slice
  have same : C.why i ≠ 0 → C.enter i = C := fun hh => if_neg hh
  refine Does.less (Does.of (n := 79) Try.func23 rfl rfl rfl rfl ?_)
  refine .seq ((.region (.nw (.box (l := i.cells) rfl rfl) fun b3 => (.v (.assign rfl) (.nil ?_)))))
  refine .seq (.block (.seq ((.region (.v (.fieldAddr rfl) (.v (.load (v := .int .i64 i.sd) rfl (.one rfl)) (.v (.nei rfl rfl) (.v (.move rfl) (.and (b2 := decide (i.sd ≠ 2)) 9 12 3 3 rfl rfl (fun g1 => .v (.fieldAddr rfl) (.v (.load (v := .int .i64 i.sd) rfl (.one rfl)) (.v (.nei rfl rfl) (.nil ⟨rfl, rfl, rfl, rfl⟩)))) (.v (.assign rfl) (.nil ?_)))))))))))
  refine .cond rfl (fun h1 => ?_) (fun h1 => ?_)
  · have e : C.why i = 92 := by unfold Cl.why; rw [if_pos (by simpa using h1)]
    refine .seq ((.region (.v (.assign rfl) (.nil ?_))))
    exact .ret ⟨[_], ⟨rfl, trivial⟩, Cb p C (.slice A C.L.length c) :: h, fun _ s => s.take, by rw [e]; rfl, by rw [same (by rw [e]; decide)]; exact ⟨_, h, rfl, o⟩⟩
  have n1 : ¬ (i.sd ≠ 1 ∧ i.sd ≠ 2) := fun hh => by
    rw [decide_eq_true hh.1, decide_eq_true hh.2] at h1; cases h1
  refine .seq ((.region (.v (.fieldAddr rfl) (.v (.load (v := .int .i64 i.ty) rfl (.one rfl)) (.v (.nei rfl rfl) (.v (.move rfl) (.and (b2 := decide (i.ty ≠ 2)) 18 21 3 3 rfl rfl (fun g2 => .v (.fieldAddr rfl) (.v (.load (v := .int .i64 i.ty) rfl (.one rfl)) (.v (.nei rfl rfl) (.nil ⟨rfl, rfl, rfl, rfl⟩)))) (.v (.assign rfl) (.nil ?_)))))))))
  refine .cond rfl (fun h2 => ?_) (fun h2 => ?_)
  · have e : C.why i = 93 := by unfold Cl.why; rw [if_neg n1, if_pos (by simpa using h2)]
    refine .seq ((.region (.v (.assign rfl) (.nil ?_))))
    exact .ret ⟨[_], ⟨rfl, trivial⟩, Cb p C (.slice A C.L.length c) :: h, fun _ s => s.take, by rw [e]; rfl, by rw [same (by rw [e]; decide)]; exact ⟨_, h, rfl, o⟩⟩
  have n2 : ¬ (i.ty ≠ 1 ∧ i.ty ≠ 2) := fun hh => by
    rw [decide_eq_true hh.1, decide_eq_true hh.2] at h2; cases h2
  refine .seq ((.region (.v (.fieldAddr rfl) (.v (.load (v := .int .i64 i.pr) rfl (.one rfl)) (.pc rfl rfl (fun w s => isTick_ok w i.pr) (.v (.not rfl) (.v (.move rfl) (.or (b2 := decide (i.ty = 2) && decide (i.pr ≠ 0)) 28 36 8 5 rfl rfl (fun g3 => .v (.fieldAddr rfl) (.v (.load (v := .int .i64 i.ty) rfl (.one rfl)) (.v (.eqi rfl rfl) (.v (.move rfl) (.and (b2 := decide (i.pr ≠ 0)) 32 35 3 3 rfl rfl (fun g4 => .v (.fieldAddr rfl) (.v (.load (v := .int .i64 i.pr) rfl (.one rfl)) (.v (.nei rfl rfl) (.nil ⟨rfl, rfl, rfl, rfl⟩)))) (.nil ⟨rfl, rfl, rfl, rfl⟩)))))) (.v (.assign rfl) (.nil ?_))))))))))
  refine .cond rfl (fun h3 => ?_) (fun h3 => ?_)
  · have e : C.why i = 94 := by
      unfold Cl.why; rw [if_neg n1, if_neg n2, if_pos]
      simp only [Bool.or_eq_true, Bool.and_eq_true, Bool.not_eq_true', decide_eq_false_iff_not, decide_eq_true_eq] at h3
      exact h3
    refine .seq ((.region (.v (.assign rfl) (.nil ?_))))
    exact .ret ⟨[_], ⟨rfl, trivial⟩, Cb p C (.slice A C.L.length c) :: h, fun _ s => s.take, by rw [e]; rfl, by rw [same (by rw [e]; decide)]; exact ⟨_, h, rfl, o⟩⟩
  have n3 : ¬ (¬ tickP i.pr ∨ i.ty = 2 ∧ i.pr ≠ 0) := fun hh => by
    rw [Bool.or_eq_false_iff] at h3
    obtain ⟨x1, x2⟩ := h3
    rcases hh with hh | ⟨hh1, hh2⟩
    · rw [decide_eq_false hh] at x1; cases x1
    · rw [decide_eq_true hh1, decide_eq_true hh2] at x2; cases x2
  refine .seq ((.region (.v (.fieldAddr rfl) (.v (.load (v := .int .u64 i.q) rfl (.one rfl)) (.v (.lss rfl rfl) (.v (.move rfl) (.or (b2 := decide (i.q > 4294967295)) 42 45 3 3 rfl rfl (fun g5 => .v (.fieldAddr rfl) (.v (.load (v := .int .u64 i.q) rfl (.one rfl)) (.v (.gtr rfl rfl) (.nil ⟨rfl, rfl, rfl, rfl⟩)))) (.v (.assign rfl) (.nil ?_)))))))))
  refine .cond rfl (fun h4 => ?_) (fun h4 => ?_)
  · have e : C.why i = 95 := by
      unfold Cl.why; rw [if_neg n1, if_neg n2, if_neg n3, if_pos]
      simp only [Bool.or_eq_true, decide_eq_true_eq] at h4
      omega
    refine .seq ((.region (.v (.assign rfl) (.nil ?_))))
    exact .ret ⟨[_], ⟨rfl, trivial⟩, Cb p C (.slice A C.L.length c) :: h, fun _ s => s.take, by rw [e]; rfl, by rw [same (by rw [e]; decide)]; exact ⟨_, h, rfl, o⟩⟩
  have n4 : ¬ (i.q < 1 ∨ 4294967295 < i.q) := by
    simp only [Bool.or_eq_false_iff, decide_eq_false_iff_not] at h4
    omega
  refine .seq ((.region (.v (.fieldAddr rfl) (.v (.load (v := .int .u64 i.id) rfl (.one rfl)) (.v (.eqi rfl rfl) (.v (.move rfl) (.or (b2 := decide (ixI (It.has i.id) C.L ≥ 0)) 51 56 5 5 rfl rfl (fun g6 => .v (.move rfl) (.v (.fieldAddr rfl) (.v (.load (v := .int .u64 i.id) rfl (.one rfl)) (.pc rfl rfl (fun w s => place_ok w p C A c i.id (ClR.of s o (by simp) (fun y hy => by simp [hy])) (by omega)) (.v (.geq rfl rfl) (.nil ⟨rfl, rfl, rfl, rfl⟩)))))) (.v (.assign rfl) (.nil ?_)))))))))
  refine .cond rfl (fun h5 => ?_) (fun h5 => ?_)
  · have e : C.why i = 97 := by
      unfold Cl.why; rw [if_neg n1, if_neg n2, if_neg n3, if_neg n4, if_pos]
      simp only [Bool.or_eq_true, decide_eq_true_eq] at h5
      exact h5
    refine .seq ((.region (.v (.assign rfl) (.nil ?_))))
    exact .ret ⟨[_], ⟨rfl, trivial⟩, Cb p C (.slice A C.L.length c) :: h, fun _ s => s.take, by rw [e]; rfl, by rw [same (by rw [e]; decide)]; exact ⟨_, h, rfl, o⟩⟩
  have n5 : ¬ (i.id = 0 ∨ 0 ≤ ixI (It.has i.id) C.L) := by
    simp only [Bool.or_eq_false_iff, decide_eq_false_iff_not] at h5
    rintro (hh | hh)
    · exact h5.1 hh
    · exact h5.2 hh
  refine .keep ((b3, .cells i.cells 36) :: Cb p C (.slice A C.L.length c) :: h) ?_
  refine .seq ((.drawK [Cb p C (.slice A C.L.length c)] (by intro y hy; simp at hy ⊢; exact .inr (.inl hy)) (by kernel_rfl) (by kernel_rfl) ?_))
  refine .v (fun _ f => .move rfl) (.v (fun _ f => .nilCheck rfl) (.v (fun _ f => .fieldAddr rfl) (.v (fun _ f => .load (v := .slice A C.L.length c) rfl (.one (hb := .sub f) rfl)) (.v (fun _ f => .len rfl) (.v (fun _ f => .move rfl) (.v (fun _ f => .nilCheck rfl) (.v (fun _ f => .fieldAddr rfl) (.v (fun _ f => .load (v := .int .i64 C.rm) rfl (.one (hb := .sub f) rfl)) (.v (fun _ f => .geq rfl rfl) (.v (fun _ f => .assign rfl) (.nil ?_)))))))))))
  refine .cond_dec rfl (fun h6 => ?_) (fun h6 => .skip ?_)
  · have e : C.why i = 98 := by unfold Cl.why; rw [if_neg n1, if_neg n2, if_neg n3, if_neg n4, if_neg n5, if_pos (by omega)]
    refine .seq ((.region (.v (.assign rfl) (.nil ?_))))
    exact .ret ⟨[_], ⟨rfl, trivial⟩, Cb p C (.slice A C.L.length c) :: h, fun _ s => s.take, by rw [e]; rfl, by rw [same (by rw [e]; decide)]; exact ⟨_, h, rfl, o⟩⟩
  have e : C.why i = 0 := by unfold Cl.why; rw [if_neg n1, if_neg n2, if_neg n3, if_neg n4, if_neg n5, if_neg (by omega)]
  have e' : C.enter i = ⟨C.rf, C.rm, C.L ++ [i]⟩ := if_pos e
  refine .seq ((.drawQ 10 [0, 1, 2, 3, 4, 5, 6, 7, 8, 9, 10] [(b3, .cells i.cells 36), Cb p C (.slice A C.L.length c)] (by intro y hy; simp at hy ⊢; rcases hy with rfl | rfl <;> simp) (by kernel_rfl) (by kernel_rfl) ?_))
  refine .v (fun _ f => .move rfl) (.v (fun _ f => .move rfl) (.v (fun _ f => .nilCheck rfl) (.v (fun _ f => .fieldAddr rfl) (.v (fun _ f => .load (v := .slice A C.L.length c) rfl (.one (b := p) (T := 75) (hb := .sub f) rfl)) (.v (fun _ f => .loadA (vs := i.cells) rfl (.whole (hb := .sub f)) rfl) ?_)))))
  refine .ef (.buildSlice (out := i.cells) rfl (by decide) rfl rfl) (fun v hs' ⟨b, _, e⟩ f => by subst e; exact fun p hp => List.mem_cons_of_mem _ (f hp)) ?_
  rintro _ _ ⟨nb, rfl, rfl⟩
  refine .ef (.append (c := C.L.length) (k := 1) (vs := irows C.L) (news := i.cells) (h := h) (fr := (nb, .cells i.cells 36) :: (b3, .cells i.cells 36) :: [Cb p C (.slice A C.L.length c)]) rfl rfl o (by exact List.perm_append_comm (l₁ := [_, _, _]))
    (fun w s => Src.cells rfl (fun j v hv => by rw [add_none, s.cell (b := nb) (T := 36) (l := i.cells) (by simp)]; simpa using hv)) rfl rfl (by omega) (by omega)) (fun v hs' ⟨h', _, e⟩ _ => by subst e; intro y hy; simp at hy ⊢; rcases hy with rfl | rfl <;> simp) ?_
  rintro v' _ ⟨h', o', rfl⟩
  refine .v (fun _ f => .nilCheck rfl) (.v (fun _ f => .fieldAddr rfl) ?_)
  have o2 : Own v' (C.L ++ [i]) h' := by
    unfold Own
    rw [irows_app, List.length_append]; exact o'
  obtain ⟨A', c', rfl⟩ := o'.slice
  refine .st (.storeL rfl rfl rfl) (.nil ?_)
  refine .seq ((.region (.v (.assign rfl) (.nil ?_))))
  refine .ret ⟨[_], ⟨rfl, trivial⟩, Cb p ⟨C.rf, C.rm, C.L ++ [i]⟩ (.slice A' (C.L.length + 1) c') :: h', fun _ s => s.take, by rw [e]; rfl, ?_⟩
  rw [e']
  exact ⟨_, h', rfl, o2⟩
end Go.Proofs.Ytamldmgdhaoigaa

/- auction: Interests, Drop. -/
namespace Go.Proofs.Ytamldmgdhaoigaa
open Go.V
set_option linter.unusedVariables false
set_option linter.unusedSimpArgs false
set_option maxRecDepth 20000

theorem insI_split (x : It) : ∀ {z : List It}, Srk rank z → ∃ P1 P2, z = P1 ++ P2 ∧ insI x z = P1 ++ ([x] ++ P2) ∧ (∀ y ∈ P2, rank x < rank y) ∧ ∀ y ∈ P1, rank y ≤ rank x
  | [], _ => ⟨[], [], rfl, rfl, fun y hy => (by cases hy), fun y hy => (by cases hy)⟩
  | y :: z, h => by
    obtain ⟨h1, h2⟩ := List.pairwise_cons.1 h
    unfold insI
    by_cases c : rank x < rank y
    · rw [if_pos c]
      exact ⟨[], y :: z, rfl, rfl, fun u hu => by rcases List.mem_cons.1 hu with rfl | hu; exact c; have := h1 u hu; omega, fun u hu => by cases hu⟩
    · rw [if_neg c]
      obtain ⟨P1, P2, e1, e2, e3, e4⟩ := insI_split x h2
      exact ⟨y :: P1, P2, by rw [e1]; rfl, by rw [e2]; rfl, e3, fun u hu => by rcases List.mem_cons.1 hu with rfl | hu; omega; exact e4 u hu⟩
theorem insI_st {l z : List It} {x : It} (h : St rank l z) : St rank (l ++ [x]) (insI x z) := by
  obtain ⟨P1, P2, e1, e2, e3, e4⟩ := insI_split x h.s
  rw [e2]
  refine h.front [x] ?_
  rw [e1]
  exact St.ins (by rw [← e1]; exact h.s) e3 e4
theorem sortI_st (l : List It) : St rank l (sortI l) := by
  have key : ∀ (l a z : List It), St rank a z → St rank (a ++ l) (l.foldl (fun z x => insI x z) z) := by
    intro l
    induction l with
    | nil => intro a z h; rw [List.append_nil]; exact h
    | cons x l ih => intro a z h; have := ih (a ++ [x]) (insI x z) (insI_st h); rw [List.append_assoc] at this; exact this
  exact key l [] [] ⟨srk_nil, fun _ => rfl⟩
theorem St.sort {l z : List It} (h : St rank l z) : z = sortI l := h.uniq (sortI_st l)
/-! ### rows that are nil -/
theorem insC_nil (w : World) : Does Try.prog 87 [.slice none 0 0, .int .i64 0, .int .i64 0, CF] [] w (fun _ hs => hs = []) := by
  refine Does.of (n := 53) Try.func87 rfl rfl rfl rfl ?_
  refine .seq ((.region (.v (.move rfl) (.v (.addE 1 rfl rfl (by omega) (by omega)) (.v (.assign rfl) (.nil ?_))))))
  refine .block (.loop (X := Unit) (fun x => [(2, .int .i64 0), (8, .int .i64 1)]) (fun x => []) (fun x => True) (fun x => 0) () trivial (.cons rfl (.cons rfl (.nil _))) (fun _ s => s) ?_)
  rintro _ _
  refine .seq (.seq ((.region (.v (.move rfl) (.v (.move rfl) (.v (.lss rfl rfl) (.nil ?_)))))))
  refine .cond_false rfl (.exit ?_)
  exact ⟨[], trivial, rfl⟩
theorem stable_nil (w : World) : Does Try.prog 66 [.slice none 0 0, .int .i64 0, CF] [] w (fun _ hs => hs = []) := by
  refine Does.of (n := 63) Try.func66 rfl rfl rfl rfl ?_
  refine .seq ((.region (.v (.assign rfl) (.nil ?_))))
  refine .seq ((.region (.v (.move rfl) (.v (.assign rfl) (.v (.assign rfl) (.nil ?_))))))
  refine .mid (X := Unit) (fun y => [(0, .slice none 0 0), (1, .int .i64 0), (2, CF), (6, .int .i64 20), (7, .int .i64 0)]) (fun y => []) (fun y => True) (.block (.loop (X := Unit) (fun y => [(0, .slice none 0 0), (1, .int .i64 0), (2, CF), (6, .int .i64 20), (7, .int .i64 0), (8, .int .i64 20)]) (fun y => []) (fun y => True) (fun y => 0) () trivial (.cons rfl (.cons rfl (.cons rfl (.cons rfl (.cons rfl (.cons rfl (.nil _))))))) (fun _ s => s) ?_)) ?_
  · rintro _ _
    refine .seq (.seq ((.region (.v (.move rfl) (.v (.move rfl) (.v (.leq rfl rfl) (.nil ?_)))))))
    refine .cond_false rfl (.exit ?_)
    exact ⟨(), trivial, .cons rfl (.cons rfl (.cons rfl (.cons rfl (.cons rfl (.nil _))))), fun _ s => s⟩
  rintro _ _
  try dsimp only
  refine .seq ((.region (.v (.move rfl) (.v (.move rfl) (.v (.move rfl) (.v (.move rfl) ?_))))))
  refine .ef (.call0 rfl rfl fun w' s' => insC_nil w') ?_
  rintro _ _ ⟨_, rfl, rfl⟩
  refine .nil ?_
  refine .block (.loop (X := Unit) (fun y => [(1, .int .i64 0), (6, .int .i64 20)]) (fun y => []) (fun y => True) (fun y => 0) () trivial (.cons rfl (.cons rfl (.nil _))) (fun _ s => s) ?_)
  rintro _ _
  refine .seq (.seq ((.region (.v (.move rfl) (.v (.move rfl) (.v (.lss rfl rfl) (.nil ?_)))))))
  refine .cond_false rfl (.exit ?_)
  exact ⟨[], trivial, rfl⟩
theorem sortS_nil (w : World) : Does Try.prog 43 [.slice none 0 0, CF] [] w (fun _ hs => hs = []) := by
  refine Does.of (n := 9) Try.func43 rfl rfl rfl rfl ?_
  refine .region (.v (.move rfl) (.v (.move rfl) (.v (.len rfl) (.v (.move rfl) ?_))))
  refine .ef (.call0 rfl rfl fun w' s' => stable_nil w') ?_
  rintro _ _ ⟨_, rfl, rfl⟩
  exact .nil ⟨[], trivial, rfl⟩
/-! ### Interests -/
theorem isSide_ok (w : World) (b : Nat) (s : Int) (x : It) : Does Try.prog 42 [.agg ⟨x.cells⟩, .pointer (some ⟨b, 0, none⟩)] [(b, .cells [.int .i64 s] 3)] w (fun v h => v = .bool (decide (x.sd ≠ s)) ∧ h = [(b, .cells [.int .i64 s] 3)]) := by
  refine Does.less (Does.of (n := 8) Try.func42 rfl rfl rfl rfl ?_)
  refine .seq ((.region (.nw (.box (l := x.cells) rfl rfl) fun b2 => (.v (.assign rfl) (.nil ?_)))))
  refine .seq ((.region (.v (.fieldAddr rfl) (.v (.load (v := .int .i64 x.sd) rfl (.one rfl)) (.v (.load (v := .int .i64 s) rfl (.one rfl)) (.v (.nei rfl rfl) (.v (.assign rfl) (.nil ?_))))))))
  exact .ret ⟨[_], ⟨rfl, trivial⟩, [(b, .cells [.int .i64 s] 3)], fun _ s => s.take, rfl, rfl⟩
theorem side_filter (l : List It) (s : Int) : (l.filter fun x => !decide (x.sd ≠ s)) = l.filter fun x => decide (x.sd = s) := by
  congr 1; funext x; by_cases h : x.sd = s <;> simp [h]
theorem Interests_ok (w : World) (p : Nat) (C : Cl) (A : Option Addr) (c : Nat) (s : Int) (h : ClR w p C A c) (hl : C.L.length ≤ 1000000) (hp : ∀ x ∈ C.L, x.P) :
    Does Try.prog 16 [.pointer (some ⟨p, 0, none⟩), .int .i64 s] [] w (fun v hs => Own v (C.side s) hs) := by
  refine Does.less (Does.of (n := 16) Try.func16 rfl rfl rfl rfl ?_)
  refine .seq ((.region (.nw (.box (l := [.int .i64 s]) rfl rfl) fun b3 => (.v (.assign rfl) (.nil ?_)))))
  refine .seq ((.region (.v (.move rfl) (.v (.nilCheck rfl) (.v (.fieldAddr rfl) (.v (.load (v := .slice A C.L.length c) rfl (h.hd.cell (i := 2) rfl)) ?_))))))
  refine .ef (.call0 rfl rfl fun w' s' => cloneI_ok w' A C.L.length c C.L (h.ls.keep0 s') rfl (by omega)) ?_
  rintro v _ ⟨h1, o1, rfl⟩
  refine .v (.makeFunc rfl rfl) ?_
  rcases o1.2 with ⟨rfl, h0, rfl⟩ | ⟨b', o', cap, l, rfl, rfl, h3, h4, h5⟩
  · have hz : C.L = [] := List.length_eq_zero_iff.1 h0
    refine .ef (.call0 rfl rfl fun w' s' => deleteI_nil w' 42 [.pointer (some ⟨b3, 0, none⟩)]) ?_
    rintro _ _ ⟨_, ⟨rfl, rfl⟩, rfl⟩
    refine .v (.assign rfl) (.nil ?_)
    refine .seq ((.region (.v (.move rfl) ?_)))
    refine .ef (.call0 rfl rfl fun w' s' => sortS_nil w') ?_
    rintro _ _ ⟨_, rfl, rfl⟩
    refine .nil ?_
    refine .seq ((.region (.v (.move rfl) (.v (.assign rfl) (.nil ?_)))))
    refine .ret ⟨[_], ⟨rfl, trivial⟩, [], fun _ s => s.sub (List.nil_sublist _), ?_⟩
    unfold Cl.side
    rw [hz]
    exact OwnS.nil _ _
  · have k1 : SI b' o' cap C.L.length C.L l := ⟨rfl, o1⟩
    refine .ef (.callT [IB b' l, (b3, .cells [.int .i64 s] 3)] rfl rfl fun w' s' => deleteI_ok w' k1 (by omega) 42 [.pointer (some ⟨b3, 0, none⟩)] [(b3, .cells [.int .i64 s] 3)] (fun x => decide (x.sd ≠ s)) (fun w x => isSide_ok w b3 s x)) ?_
    rintro _ _ ⟨_, ⟨l', rfl, k2, rfl⟩, rfl⟩
    rw [side_filter] at k2 ⊢
    refine .v (.assign rfl) (.nil ?_)
    refine .seq ((.region (.v (.move rfl) ?_)))
    have hle := List.length_filter_le (fun x : It => decide (x.sd = s)) C.L
    refine .ef (.callT [IB b' l'] rfl rfl fun w' s' => sortS_ok w' k2 (by omega) (fun x hx => hp x (List.mem_filter.1 hx).1)) ?_
    rintro _ _ ⟨_, ⟨d', hd, l2, rfl, k3⟩, rfl⟩
    refine .nil ?_
    refine .seq ((.region (.v (.move rfl) (.v (.assign rfl) (.nil ?_)))))
    have e : d' = C.side s := hd.sort
    subst e
    exact .ret ⟨[_], ⟨rfl, trivial⟩, [IB b' l2], fun _ s => s.take, k3.own'⟩
/-! ### Drop -/
abbrev dropR (C : Cl) (id : Int) : Value := .tuple ⟨[.agg ⟨((C.dropV id).1).cells⟩, .bool (C.dropV id).2]⟩
theorem Drop_ok (w : World) (p : Nat) (C : Cl) (v : Value) (h : Hp) (o : Own v C.L h) (hl : C.L.length ≤ 1000000) (id : Int) :
    Does Try.prog 24 [.pointer (some ⟨p, 0, none⟩), .int .u64 id] (Cb p C v :: h) w (fun r hs => r = dropR C id ∧ CallR p (C.dropI id) hs) := by
  obtain ⟨A, c, rfl⟩ := o.slice
  refine Does.less (Does.of (n := 33) Try.func24 rfl rfl rfl rfl ?_)
  refine .seq ((.region (.nw .alloc fun b4 => (.v (.assign rfl) (.nil ?_)))))
  refine .seq ((.region (.v (.move rfl) (.v (.move rfl) (.pc rfl rfl (fun w s => place_ok w p C A c id (ClR.of s o (by simp) (fun y hy => by simp [hy])) (by omega)) (.v (.assign rfl) (.nil ?_)))))))
  refine .seq (.seq ((.region (.v (.move rfl) (.v (.lss rfl rfl) (.nil ?_))))))
  rcases ixI_has (id := id) (l := C.L) with ⟨e1, e2, _⟩ | ⟨k, hk, e1, e2, e3⟩
  · have ev : C.dropV id = (it0, false) := by unfold Cl.dropV; rw [e2]
    have ec : C.dropI id = C := by unfold Cl.dropI; rw [e2]
    rw [e1]
    refine .cond_true rfl ?_
    refine .seq ((.region (.v (.build (out := it0.cells) rfl rfl) (.st (.sw rfl rfl) (.v (.assign rfl) (.nil ?_))))))
    refine .ret ⟨[_, _], ⟨⟨_, rfl, .inr ⟨6, _, inferInstance, rfl, rfl, .whole⟩⟩, rfl, trivial⟩, Cb p C (.slice A C.L.length c) :: h, fun _ s => s.take, ?_, ?_⟩
    · unfold dropR; rw [ev]; rfl
    · rw [ec]; exact ⟨_, h, rfl, o⟩
  · have ev : C.dropV id = (C.L[k]!, true) := by unfold Cl.dropV; rw [e2]
    have ec : C.dropI id = ⟨C.rf, C.rm, C.L.eraseIdx k⟩ := by unfold Cl.dropI; rw [e2]
    obtain ⟨b, oo, l, rfl, -, rfl, -, -, -⟩ := OwnS.some_ o (by omega)
    have k1 : SI b oo c C.L.length C.L l := ⟨rfl, o⟩
    have lE : (C.L.eraseIdx k).length = C.L.length - 1 := by rw [List.length_eraseIdx_of_lt hk]
    rw [e1]
    refine .cond_false (by show some (Value.bool _) = _; rw [decide_eq_false (by omega)]) (.skip ?_)
    refine .seq ((.region (.v (.move rfl) (.v (.nilCheck rfl) (.v (.fieldAddr rfl) (.v (.load (v := .slice (some ⟨b, oo, none⟩) C.L.length c) rfl (.one rfl)) (.v (.move rfl) (.v (.indexM k rfl rfl hk) (.v (.loadA (vs := (C.L[k]!).cells) rfl (k1.at_ hk (by simp)) rfl) (.nw .alloc fun b7 => (.st (.sw rfl rfl) (.nil ?_))))))))))))
    refine .seq ((.region (.v (.move rfl) (.v (.move rfl) (.v (.nilCheck rfl) (.v (.fieldAddr rfl) (.v (.load (v := .slice (some ⟨b, oo, none⟩) C.L.length c) rfl (.one rfl)) (.v (.move rfl) (.v (.move rfl) (.v (.addE ((k + 1 : Nat) : Int) rfl rfl (by omega) (by omega)) ?_))))))))))
    refine .ef (.callT [IB b l] rfl rfl fun w' s' => delI_ok w' k1 hk (by omega)) ?_
    rintro _ _ ⟨_, ⟨l', rfl, k2, rfl⟩, rfl⟩
    refine .v (.nilCheck rfl) (.v (.fieldAddr rfl) (.st (.storeL rfl rfl rfl) (.nil ?_)))
    refine .seq ((.region (.v (.loadA (vs := (C.L[k]!).cells) rfl .whole rfl) (.st (.sw rfl rfl) (.v (.assign rfl) (.nil ?_))))))
    refine .ret ⟨[_, _], ⟨⟨_, rfl, .inr ⟨6, _, inferInstance, rfl, rfl, .whole⟩⟩, rfl, trivial⟩, Cb p ⟨C.rf, C.rm, C.L.eraseIdx k⟩ (.slice (some ⟨b, oo, none⟩) (C.L.length - 1) c) :: [IB b l'], fun _ s => s.take, ?_, ?_⟩
    · unfold dropR; rw [ev]; rfl
    · rw [ec]; exact ⟨_, _, rfl, by rw [← lE] at k2 ⊢; exact k2.own'⟩
end Go.Proofs.Ytamldmgdhaoigaa

/- slices.partitionOrdered, partitionEqualOrdered at int (printed by wip/gen/gen_part.py). -/
namespace Go.Proofs.Ytamldmgdhaoigaa
open Go.V
open Go.Sort (ltInt swp scanUp scanDown partLoop partEqLoop partition partitionEqual)
set_option linter.unusedVariables false
set_option linter.unusedSimpArgs false
section
variable {p : Int → Bool} {d : Array Int} {i j : Nat}
theorem su_go (h : i ≤ j) (hp : p d[i]! = true) : scanUp p d j i = scanUp p d j (i + 1) := by rw [scanUp, if_pos]; simp [h, hp]
theorem su_end (h : j < i) : scanUp p d j i = i := by rw [scanUp, if_neg]; simp; omega
theorem su_stop (hp : p d[i]! = false) : scanUp p d j i = i := by rw [scanUp, if_neg]; simp [hp]
theorem sd_go (h : i ≤ j + 1) (hp : p d[j + 1]! = true) : scanDown p d i (j + 1) = scanDown p d i j := by rw [scanDown, if_pos]; simp [h, hp]
theorem sd_end (h : j < i) : scanDown p d i j = j := by
  cases j with
  | zero => rw [scanDown]
  | succ j => rw [scanDown, if_neg]; simp; omega
theorem sd_stop (hp : p d[j]! = false) : scanDown p d i j = j := by
  cases j with
  | zero => rw [scanDown]
  | succ j => rw [scanDown, if_neg]; simp [hp]
end
structure ParS where
  i : Nat
  j : Nat
  d : Array Int
  l : List Value
set_option maxRecDepth 20000 in
theorem partitionI_ok (w : World) {b o c n : Nat} {d : Array Int} {l : List Value} (k : SoI b o c n d l) (a e p : Nat) (hap : a ≤ p) (hpe : p < e) (he : e ≤ n) (hn : n < 2305843009213693952) :
    Does Try.prog 84 [.slice (some ⟨b, o, none⟩) n c, .int .i64 a, .int .i64 e, .int .i64 p] [(b, .cells l 3)] w (fun v hs => ∃ l' f, v = .tuple ⟨[.int .i64 (partition ltInt d a e p).1, .bool f]⟩ ∧ hs = [(b, .cells l' 3)] ∧ SoI b o c n (partition ltInt d a e p).2.2 l') := by
  rw [Go.Sort.partition_fst, Go.Sort.partition_arr]
  generalize hPL : partLoop ltInt a (a + 1) (e - 1) (swp d a p) = PL
  refine Does.of (n := 168) Try.func84 rfl rfl rfl rfl ?_
  refine .seq ((.region (.v (.assign rfl) (.v (.assign rfl) (.nil ?_)))))
  refine .mid (X := Array Int × List Value) (fun _ => [(0, .slice (some ⟨b, o, none⟩) n c), (1, .int .i64 a), (2, .int .i64 e)]) (fun x => [(b, .cells x.2 3)]) (fun x => x.1 = swp d a p ∧ SoI b o c n x.1 x.2) ?_ ?_
  · have ks := k.swp (i := a) (j := p) (by omega) (by omega)
    have q0 := fun hs' hsub => k.at_ (w0 := w) (own := [b]) (hs := hs') (i := a) (by omega) hsub
    have q1 := fun hs' hsub => k.at_ (w0 := w) (own := [b]) (hs := hs') (i := p) (by omega) hsub
    have hlen := k.len
    have ex : ∃ d' : Array Int, d' = swp d a p := ⟨_, rfl⟩
    generalize d[a]! = x0 at q0 ks
    generalize d[p]! = x1 at q1 ks
    refine .drawY 13 [0, 1, 2, 3, 4, 5, 6, 7, 8, 9, 10, 11, 12, 13, 14, 15] [(b, .cells l 3)] (fun _ h => h) (by kernel_rfl) (by kernel_rfl) ?_
    refine .x (fun _ _ _ => .move rfl) (.x (fun _ _ _ => .move rfl) (.x (fun _ _ _ => .move rfl) (.x (fun _ _ _ => .move rfl) (.x (fun _ _ _ => .move rfl) (.x (fun _ _ _ => .move rfl) (.x (fun _ _ _ => .indexN (p) rfl rfl (by omega)) (.v (fun hs' f => .load (v := .int .i64 x1) rfl (q1 hs' f)) (.x (fun _ _ _ => .move rfl) (.x (fun _ _ _ => .move rfl) (.x (fun _ _ _ => .indexN (a) rfl rfl (by omega)) (.v (fun hs' f => .load (v := .int .i64 x0) rfl (q0 hs' f)) (.x (fun _ _ _ => .indexN (a) rfl rfl (by omega)) (.st (.store rfl rfl rfl (by omega)) (.x (fun _ _ _ => .indexN (p) rfl rfl (by omega)) (.st2 (.store rfl rfl rfl (by rw [List.length_set]; omega)) (.nil ?_))))))))))))))))
    exact ⟨(swp d (a) (p), (l.set (o + (a)) (.int .i64 x1)).set (o + (p)) (.int .i64 x0)), ⟨rfl, ks⟩, .cons rfl (.cons rfl (.cons rfl (.nil _))), fun _ s => s⟩
  rintro ⟨d1, l1⟩ ⟨hd1, kd1⟩
  try dsimp only at hd1 kd1 ⊢
  have zd1 := kd1.sz
  rw [← hd1] at hPL
  clear hd1 k
  refine .seq ((.region (.v (.move rfl) (.v (.addE ((a + 1 : Nat) : Int) rfl rfl (by omega) (by omega)) (.v (.move rfl) (.v (.subE ((e - 1 : Nat) : Int) rfl rfl (by omega) (by omega)) (.v (.assign rfl) (.v (.assign rfl) (.nil ?_)))))))))
  refine .mid (X := Nat) (fun x => [(0, .slice (some ⟨b, o, none⟩) n c), (1, .int .i64 a), (10, .int .i64 ((x : Nat) : Int)), (11, .int .i64 (((e - 1) : Nat) : Int))]) (fun _ => [(b, .cells l1 3)]) (fun x => x = scanUp (fun x => ltInt x d1[a]!) d1 ((e - 1)) (a + 1)) (.block (.loop (X := Nat) (fun x => [(0, .slice (some ⟨b, o, none⟩) n c), (1, .int .i64 a), (10, .int .i64 ((x : Nat) : Int)), (11, .int .i64 (((e - 1) : Nat) : Int))]) (fun _ => [(b, .cells l1 3)]) (fun x => (a + 1 ≤ x ∧ x ≤ (e - 1) + 1) ∧ scanUp (fun x => ltInt x d1[a]!) d1 ((e - 1)) x = scanUp (fun x => ltInt x d1[a]!) d1 ((e - 1)) (a + 1)) (fun x => (e - 1) + 1 - x) (a + 1) ⟨⟨by omega, by omega⟩, rfl⟩ (.cons rfl (.cons rfl (.cons rfl (.cons rfl (.nil _))))) (fun _ s => s) ?_)) ?_
  · rintro y ⟨⟨hy1, hy2⟩, h1⟩
    try dsimp only at hy1 hy2 h1 ⊢
    by_cases hg : y ≤ (e - 1)
    case neg =>
      refine .seq (.seq (.drawK [(b, .cells l1 3)] (fun _ h => h) (by kernel_rfl) (by kernel_rfl) ?_))
      refine .v (fun _ f => .move rfl) (.v (fun _ f => .move rfl) (.v (fun _ f => .no (.leq rfl rfl) (by omega)) (.v (fun _ f => .move rfl) (.and (b2 := true) 33 42 9 9 rfl rfl (fun g1 => absurd g1 (by simp)) (.nil ?_)))))
      refine .cond_false rfl (.exit ?_)
      rw [su_end (by omega)] at h1
      exact ⟨y, h1, .cons rfl (.cons rfl (.cons rfl (.cons rfl (.nil _)))), fun _ s => s⟩
    have q0 := fun hs' hsub => kd1.at_ (w0 := w) (own := [b]) (hs := hs') (i := y) (by omega) hsub
    have q1 := fun hs' hsub => kd1.at_ (w0 := w) (own := [b]) (hs := hs') (i := a) (by omega) hsub
    refine .seq (.seq (.drawK [(b, .cells l1 3)] (fun _ h => h) (by kernel_rfl) (by kernel_rfl) ?_))
    refine .v (fun _ f => .move rfl) (.v (fun _ f => .move rfl) (.v (fun _ f => .yes (.leq rfl rfl) (by omega)) (.v (fun _ f => .move rfl) (.and (b2 := ltInt d1[y]! d1[a]!) 33 42 9 9 rfl rfl (fun g1 => .v (fun _ f => .move rfl) (.v (fun _ f => .move rfl) (.v (fun _ f => .indexN (y) rfl rfl (by omega)) (.v (fun hs' f => .load (v := .int .i64 d1[y]!) rfl (q0 hs' f)) (.v (fun _ f => .move rfl) (.v (fun _ f => .move rfl) (.v (fun _ f => .indexN (a) rfl rfl (by omega)) (.v (fun hs' f => .load (v := .int .i64 d1[a]!) rfl (q1 hs' f)) (.pc rfl rfl (fun w s => lessI_ok w _ _) (.nil ⟨rfl, rfl, rfl, rfl⟩)))))))))) (.nil ?_)))))
    refine .cond rfl (fun g2 => .skip ?_) (fun g2 => .exit ?_)
    · have g2' : (ltInt d1[y]! d1[a]!) = true := by simpa using g2
      refine .block (.region (.v (.move rfl) (.v (.addE ((y + 1 : Nat) : Int) rfl rfl (by omega) (by omega)) (.v (.assign rfl) (.nil ?_)))))
      exact ⟨y + 1, ⟨⟨by omega, by omega⟩, by rw [← h1]; exact (su_go hg g2').symm⟩, by omega, .cons rfl (.cons rfl (.cons rfl (.cons rfl (.nil _)))), fun _ s => s⟩
    · have g2' : (ltInt d1[y]! d1[a]!) = false := by simpa using g2
      exact ⟨y, by rw [← h1]; exact (su_stop (p := (fun x => ltInt x d1[a]!)) g2').symm, .cons rfl (.cons rfl (.cons rfl (.cons rfl (.nil _)))), fun _ s => s⟩
  rintro i2 hi2
  try dsimp only at hi2 ⊢
  have hf := Go.Sort.round_facts (fun x => ltInt x d1[a]!) (fun x => !ltInt x d1[a]!) (fun x => by simp) d1 (a + 1 - 1) ((e - 1) + 1) (a + 1) ((e - 1)) (by omega) (by omega) (fun t h1 h2 => by omega) (fun t h1 h2 => by omega)
  rw [← hi2] at hf
  obtain ⟨f1, f2, f3, f4, _, _, f7⟩ := hf
  refine .mid (X := Nat) (fun x => [(0, .slice (some ⟨b, o, none⟩) n c), (1, .int .i64 a), (10, .int .i64 ((i2 : Nat) : Int)), (11, .int .i64 ((x : Nat) : Int))]) (fun _ => [(b, .cells l1 3)]) (fun x => x = scanDown (fun x => !ltInt x d1[a]!) d1 (i2) ((e - 1))) (.block (.loop (X := Nat) (fun x => [(0, .slice (some ⟨b, o, none⟩) n c), (1, .int .i64 a), (10, .int .i64 ((i2 : Nat) : Int)), (11, .int .i64 ((x : Nat) : Int))]) (fun _ => [(b, .cells l1 3)]) (fun x => (i2 ≤ x + 1 ∧ x ≤ (e - 1)) ∧ scanDown (fun x => !ltInt x d1[a]!) d1 (i2) x = scanDown (fun x => !ltInt x d1[a]!) d1 (i2) ((e - 1))) (fun x => x) ((e - 1)) ⟨⟨by omega, by omega⟩, rfl⟩ (.cons rfl (.cons rfl (.cons rfl (.cons rfl (.nil _))))) (fun _ s => s) ?_)) ?_
  · rintro y ⟨⟨hy1, hy2⟩, h1⟩
    try dsimp only at hy1 hy2 h1 ⊢
    by_cases hg : i2 ≤ y
    case neg =>
      refine .seq (.seq (.drawK [(b, .cells l1 3)] (fun _ h => h) (by kernel_rfl) (by kernel_rfl) ?_))
      refine .v (fun _ f => .move rfl) (.v (fun _ f => .move rfl) (.v (fun _ f => .no (.leq rfl rfl) (by omega)) (.v (fun _ f => .move rfl) (.and (b2 := true) 49 59 10 10 rfl rfl (fun g1 => absurd g1 (by simp)) (.nil ?_)))))
      refine .cond_false rfl (.exit ?_)
      rw [sd_end (by omega)] at h1
      exact ⟨y, h1, .cons rfl (.cons rfl (.cons rfl (.cons rfl (.nil _)))), fun _ s => s⟩
    obtain ⟨y, rfl⟩ : ∃ y', y = y' + 1 := ⟨y - 1, by omega⟩
    have q0 := fun hs' hsub => kd1.at_ (w0 := w) (own := [b]) (hs := hs') (i := y + 1) (by omega) hsub
    have q1 := fun hs' hsub => kd1.at_ (w0 := w) (own := [b]) (hs := hs') (i := a) (by omega) hsub
    refine .seq (.seq (.drawK [(b, .cells l1 3)] (fun _ h => h) (by kernel_rfl) (by kernel_rfl) ?_))
    refine .v (fun _ f => .move rfl) (.v (fun _ f => .move rfl) (.v (fun _ f => .yes (.leq rfl rfl) (by omega)) (.v (fun _ f => .move rfl) (.and (b2 := !ltInt d1[y + 1]! d1[a]!) 49 59 10 10 rfl rfl (fun g1 => .v (fun _ f => .move rfl) (.v (fun _ f => .move rfl) (.v (fun _ f => .indexN (y + 1) rfl rfl (by omega)) (.v (fun hs' f => .load (v := .int .i64 d1[y + 1]!) rfl (q0 hs' f)) (.v (fun _ f => .move rfl) (.v (fun _ f => .move rfl) (.v (fun _ f => .indexN (a) rfl rfl (by omega)) (.v (fun hs' f => .load (v := .int .i64 d1[a]!) rfl (q1 hs' f)) (.pc rfl rfl (fun w s => lessI_ok w _ _) (.v (fun _ f => .not rfl) (.nil ⟨rfl, rfl, rfl, rfl⟩))))))))))) (.nil ?_)))))
    refine .cond rfl (fun g2 => .skip ?_) (fun g2 => .exit ?_)
    · have g2' : (!ltInt d1[y + 1]! d1[a]!) = true := by simpa using g2
      refine .block (.region (.v (.move rfl) (.v (.subE (y : Int) rfl rfl (by omega) (by omega)) (.v (.assign rfl) (.nil ?_)))))
      exact ⟨y, ⟨⟨by omega, by omega⟩, by rw [← h1]; exact (sd_go hg g2').symm⟩, by omega, .cons rfl (.cons rfl (.cons rfl (.cons rfl (.nil _)))), fun _ s => s⟩
    · have g2' : (!ltInt d1[y + 1]! d1[a]!) = false := by simpa using g2
      exact ⟨y + 1, by rw [← h1]; exact (sd_stop (p := (fun x => !ltInt x d1[a]!)) g2').symm, .cons rfl (.cons rfl (.cons rfl (.cons rfl (.nil _)))), fun _ s => s⟩
  rintro j2 hj2
  try dsimp only at hj2 ⊢
  rw [← hj2] at f3 f4 f7
  refine .seq (.seq ((.region (.v (.move rfl) (.v (.move rfl) (.v (.gtr rfl rfl) (.nil ?_)))))))
  rw [Go.Sort.partLoop_eq, ← hi2, ← hj2] at hPL
  refine .cond_dec rfl (fun h3 => ?_) (fun h3 => .skip ?_)
  · rw [if_pos (by omega)] at hPL
    subst hPL
    refine .mid (X := Array Int × List Value) (fun _ => [(11, .int .i64 j2)]) (fun x => [(b, .cells x.2 3)]) (fun x => x.1 = swp d1 j2 a ∧ SoI b o c n x.1 x.2) ?_ ?_
    · have ks := kd1.swp (i := j2) (j := a) (by omega) (by omega)
      have q0 := fun hs' hsub => kd1.at_ (w0 := w) (own := [b]) (hs := hs') (i := j2) (by omega) hsub
      have q1 := fun hs' hsub => kd1.at_ (w0 := w) (own := [b]) (hs := hs') (i := a) (by omega) hsub
      have hlen := kd1.len
      have ex : ∃ d' : Array Int, d' = swp d1 j2 a := ⟨_, rfl⟩
      generalize d1[j2]! = x0 at q0 ks
      generalize d1[a]! = x1 at q1 ks
      refine .drawY 13 [0, 1, 2, 3, 4, 5, 6, 7, 8, 9, 10, 11, 12, 13, 14, 15] [(b, .cells l1 3)] (fun _ h => h) (by kernel_rfl) (by kernel_rfl) ?_
      refine .x (fun _ _ _ => .move rfl) (.x (fun _ _ _ => .move rfl) (.x (fun _ _ _ => .move rfl) (.x (fun _ _ _ => .move rfl) (.x (fun _ _ _ => .move rfl) (.x (fun _ _ _ => .move rfl) (.x (fun _ _ _ => .indexN (a) rfl rfl (by omega)) (.v (fun hs' f => .load (v := .int .i64 x1) rfl (q1 hs' f)) (.x (fun _ _ _ => .move rfl) (.x (fun _ _ _ => .move rfl) (.x (fun _ _ _ => .indexN (j2) rfl rfl (by omega)) (.v (fun hs' f => .load (v := .int .i64 x0) rfl (q0 hs' f)) (.x (fun _ _ _ => .indexN (j2) rfl rfl (by omega)) (.st (.store rfl rfl rfl (by omega)) (.x (fun _ _ _ => .indexN (a) rfl rfl (by omega)) (.st2 (.store rfl rfl rfl (by rw [List.length_set]; omega)) (.nil ?_))))))))))))))))
      exact ⟨(swp d1 (j2) (a), (l1.set (o + (j2)) (.int .i64 x1)).set (o + (a)) (.int .i64 x0)), ⟨rfl, ks⟩, .cons rfl (.nil _), fun _ s => s⟩
    rintro ⟨d2, l2⟩ ⟨hd2, kd2⟩
    try dsimp only at hd2 kd2 ⊢
    have zd2 := kd2.sz
    refine .seq ((.region (.v (.move rfl) (.v (.assign rfl) (.v (.assign rfl) (.nil ?_))))))
    exact .ret ⟨[_, _], ⟨rfl, rfl, trivial⟩, l2, _, rfl, rfl, hd2 ▸ kd2⟩
  · rw [if_neg (by omega)] at hPL
    have f8 := (f7 (by omega)).2.2
    refine .mid (X := Array Int × List Value) (fun _ => [(0, .slice (some ⟨b, o, none⟩) n c), (1, .int .i64 a), (10, .int .i64 ((i2 : Nat) : Int)), (11, .int .i64 ((j2 : Nat) : Int))]) (fun x => [(b, .cells x.2 3)]) (fun x => x.1 = swp d1 i2 j2 ∧ SoI b o c n x.1 x.2) ?_ ?_
    · have ks := kd1.swp (i := i2) (j := j2) (by omega) (by omega)
      have q0 := fun hs' hsub => kd1.at_ (w0 := w) (own := [b]) (hs := hs') (i := i2) (by omega) hsub
      have q1 := fun hs' hsub => kd1.at_ (w0 := w) (own := [b]) (hs := hs') (i := j2) (by omega) hsub
      have hlen := kd1.len
      have ex : ∃ d' : Array Int, d' = swp d1 i2 j2 := ⟨_, rfl⟩
      generalize d1[i2]! = x0 at q0 ks
      generalize d1[j2]! = x1 at q1 ks
      refine .drawY 13 [0, 1, 2, 3, 4, 5, 6, 7, 8, 9, 10, 11, 12, 13, 14, 15] [(b, .cells l1 3)] (fun _ h => h) (by kernel_rfl) (by kernel_rfl) ?_
      refine .x (fun _ _ _ => .move rfl) (.x (fun _ _ _ => .move rfl) (.x (fun _ _ _ => .move rfl) (.x (fun _ _ _ => .move rfl) (.x (fun _ _ _ => .move rfl) (.x (fun _ _ _ => .move rfl) (.x (fun _ _ _ => .indexN (j2) rfl rfl (by omega)) (.v (fun hs' f => .load (v := .int .i64 x1) rfl (q1 hs' f)) (.x (fun _ _ _ => .move rfl) (.x (fun _ _ _ => .move rfl) (.x (fun _ _ _ => .indexN (i2) rfl rfl (by omega)) (.v (fun hs' f => .load (v := .int .i64 x0) rfl (q0 hs' f)) (.x (fun _ _ _ => .indexN (i2) rfl rfl (by omega)) (.st (.store rfl rfl rfl (by omega)) (.x (fun _ _ _ => .indexN (j2) rfl rfl (by omega)) (.st2 (.store rfl rfl rfl (by rw [List.length_set]; omega)) (.nil ?_))))))))))))))))
      exact ⟨(swp d1 (i2) (j2), (l1.set (o + (i2)) (.int .i64 x1)).set (o + (j2)) (.int .i64 x0)), ⟨rfl, ks⟩, .cons rfl (.cons rfl (.cons rfl (.cons rfl (.nil _)))), fun _ s => s⟩
    rintro ⟨d2, l2⟩ ⟨hd2, kd2⟩
    try dsimp only at hd2 kd2 ⊢
    have zd2 := kd2.sz
    rw [← hd2] at hPL
    clear f7 hi2 hj2 hd2 kd1 zd1
    refine .seq ((.region (.v (.move rfl) (.v (.addE ((i2 + 1 : Nat) : Int) rfl rfl (by omega) (by omega)) (.v (.assign rfl) (.nil ?_))))))
    refine .seq ((.region (.v (.move rfl) (.v (.subE ((j2 - 1 : Nat) : Int) rfl rfl (by omega) (by omega)) (.v (.assign rfl) (.nil ?_))))))
    refine .seq (.block (.loop (X := ParS) (fun x => [(0, .slice (some ⟨b, o, none⟩) n c), (1, .int .i64 a), (10, .int .i64 ((x.i : Nat) : Int)), (11, .int .i64 ((x.j : Nat) : Int))]) (fun x => [(b, .cells x.l 3)]) (fun x => (a + 1 ≤ x.i ∧ x.i ≤ x.j + 1 ∧ x.j < e) ∧ SoI b o c n x.d x.l ∧ partLoop ltInt a x.i x.j x.d = PL) (fun x => x.j + 1 - x.i) ⟨i2 + 1, j2 - 1, d2, l2⟩ ⟨⟨by show a + 1 ≤ i2 + 1; omega, by show i2 + 1 ≤ j2 - 1 + 1; omega, by show j2 - 1 < e; omega⟩, kd2, hPL⟩ (.cons rfl (.cons rfl (.cons rfl (.cons rfl (.nil _))))) (fun _ s => s) ?_))
    clear hPL
    rintro ⟨i, j, d3, l3⟩ ⟨⟨g1, g2, g3⟩, k3, hPL⟩
    try dsimp only at g1 g2 g3 k3 hPL ⊢
    refine .block ?_
    clear f1 f2 f3 f4 f8 h3 kd2 zd2
    refine .mid (X := Nat) (fun x => [(0, .slice (some ⟨b, o, none⟩) n c), (1, .int .i64 a), (10, .int .i64 ((x : Nat) : Int)), (11, .int .i64 ((j : Nat) : Int))]) (fun _ => [(b, .cells l3 3)]) (fun x => x = scanUp (fun x => ltInt x d3[a]!) d3 (j) (i)) (.block (.loop (X := Nat) (fun x => [(0, .slice (some ⟨b, o, none⟩) n c), (1, .int .i64 a), (10, .int .i64 ((x : Nat) : Int)), (11, .int .i64 ((j : Nat) : Int))]) (fun _ => [(b, .cells l3 3)]) (fun x => (i ≤ x ∧ x ≤ j + 1) ∧ scanUp (fun x => ltInt x d3[a]!) d3 (j) x = scanUp (fun x => ltInt x d3[a]!) d3 (j) (i)) (fun x => j + 1 - x) (i) ⟨⟨by omega, by omega⟩, rfl⟩ (.cons rfl (.cons rfl (.cons rfl (.cons rfl (.nil _))))) (fun _ s => s) ?_)) ?_
    · rintro y ⟨⟨hy1, hy2⟩, h1⟩
      try dsimp only at hy1 hy2 h1 ⊢
      by_cases hg : y ≤ j
      case neg =>
        refine .seq (.seq (.drawK [(b, .cells l3 3)] (fun _ h => h) (by kernel_rfl) (by kernel_rfl) ?_))
        refine .v (fun _ f => .move rfl) (.v (fun _ f => .move rfl) (.v (fun _ f => .no (.leq rfl rfl) (by omega)) (.v (fun _ f => .move rfl) (.and (b2 := true) 102 111 9 9 rfl rfl (fun g1 => absurd g1 (by simp)) (.nil ?_)))))
        refine .cond_false rfl (.exit ?_)
        rw [su_end (by omega)] at h1
        exact ⟨y, h1, .cons rfl (.cons rfl (.cons rfl (.cons rfl (.nil _)))), fun _ s => s⟩
      have q0 := fun hs' hsub => k3.at_ (w0 := w) (own := [b]) (hs := hs') (i := y) (by omega) hsub
      have q1 := fun hs' hsub => k3.at_ (w0 := w) (own := [b]) (hs := hs') (i := a) (by omega) hsub
      refine .seq (.seq (.drawK [(b, .cells l3 3)] (fun _ h => h) (by kernel_rfl) (by kernel_rfl) ?_))
      refine .v (fun _ f => .move rfl) (.v (fun _ f => .move rfl) (.v (fun _ f => .yes (.leq rfl rfl) (by omega)) (.v (fun _ f => .move rfl) (.and (b2 := ltInt d3[y]! d3[a]!) 102 111 9 9 rfl rfl (fun g1 => .v (fun _ f => .move rfl) (.v (fun _ f => .move rfl) (.v (fun _ f => .indexN (y) rfl rfl (by omega)) (.v (fun hs' f => .load (v := .int .i64 d3[y]!) rfl (q0 hs' f)) (.v (fun _ f => .move rfl) (.v (fun _ f => .move rfl) (.v (fun _ f => .indexN (a) rfl rfl (by omega)) (.v (fun hs' f => .load (v := .int .i64 d3[a]!) rfl (q1 hs' f)) (.pc rfl rfl (fun w s => lessI_ok w _ _) (.nil ⟨rfl, rfl, rfl, rfl⟩)))))))))) (.nil ?_)))))
      refine .cond rfl (fun g2 => .skip ?_) (fun g2 => .exit ?_)
      · have g2' : (ltInt d3[y]! d3[a]!) = true := by simpa using g2
        refine .block (.region (.v (.move rfl) (.v (.addE ((y + 1 : Nat) : Int) rfl rfl (by omega) (by omega)) (.v (.assign rfl) (.nil ?_)))))
        exact ⟨y + 1, ⟨⟨by omega, by omega⟩, by rw [← h1]; exact (su_go hg g2').symm⟩, by omega, .cons rfl (.cons rfl (.cons rfl (.cons rfl (.nil _)))), fun _ s => s⟩
      · have g2' : (ltInt d3[y]! d3[a]!) = false := by simpa using g2
        exact ⟨y, by rw [← h1]; exact (su_stop (p := (fun x => ltInt x d3[a]!)) g2').symm, .cons rfl (.cons rfl (.cons rfl (.cons rfl (.nil _)))), fun _ s => s⟩
    rintro i2 hi2
    try dsimp only at hi2 ⊢
    have hf := Go.Sort.round_facts (fun x => ltInt x d3[a]!) (fun x => !ltInt x d3[a]!) (fun x => by simp) d3 (i - 1) (j + 1) (i) (j) (by omega) (by omega) (fun t h1 h2 => by omega) (fun t h1 h2 => by omega)
    rw [← hi2] at hf
    obtain ⟨f1, f2, f3, f4, _, _, f7⟩ := hf
    refine .mid (X := Nat) (fun x => [(0, .slice (some ⟨b, o, none⟩) n c), (1, .int .i64 a), (10, .int .i64 ((i2 : Nat) : Int)), (11, .int .i64 ((x : Nat) : Int))]) (fun _ => [(b, .cells l3 3)]) (fun x => x = scanDown (fun x => !ltInt x d3[a]!) d3 (i2) (j)) (.block (.loop (X := Nat) (fun x => [(0, .slice (some ⟨b, o, none⟩) n c), (1, .int .i64 a), (10, .int .i64 ((i2 : Nat) : Int)), (11, .int .i64 ((x : Nat) : Int))]) (fun _ => [(b, .cells l3 3)]) (fun x => (i2 ≤ x + 1 ∧ x ≤ j) ∧ scanDown (fun x => !ltInt x d3[a]!) d3 (i2) x = scanDown (fun x => !ltInt x d3[a]!) d3 (i2) (j)) (fun x => x) (j) ⟨⟨by omega, by omega⟩, rfl⟩ (.cons rfl (.cons rfl (.cons rfl (.cons rfl (.nil _))))) (fun _ s => s) ?_)) ?_
    · rintro y ⟨⟨hy1, hy2⟩, h1⟩
      try dsimp only at hy1 hy2 h1 ⊢
      by_cases hg : i2 ≤ y
      case neg =>
        refine .seq (.seq (.drawK [(b, .cells l3 3)] (fun _ h => h) (by kernel_rfl) (by kernel_rfl) ?_))
        refine .v (fun _ f => .move rfl) (.v (fun _ f => .move rfl) (.v (fun _ f => .no (.leq rfl rfl) (by omega)) (.v (fun _ f => .move rfl) (.and (b2 := true) 118 128 10 10 rfl rfl (fun g1 => absurd g1 (by simp)) (.nil ?_)))))
        refine .cond_false rfl (.exit ?_)
        rw [sd_end (by omega)] at h1
        exact ⟨y, h1, .cons rfl (.cons rfl (.cons rfl (.cons rfl (.nil _)))), fun _ s => s⟩
      obtain ⟨y, rfl⟩ : ∃ y', y = y' + 1 := ⟨y - 1, by omega⟩
      have q0 := fun hs' hsub => k3.at_ (w0 := w) (own := [b]) (hs := hs') (i := y + 1) (by omega) hsub
      have q1 := fun hs' hsub => k3.at_ (w0 := w) (own := [b]) (hs := hs') (i := a) (by omega) hsub
      refine .seq (.seq (.drawK [(b, .cells l3 3)] (fun _ h => h) (by kernel_rfl) (by kernel_rfl) ?_))
      refine .v (fun _ f => .move rfl) (.v (fun _ f => .move rfl) (.v (fun _ f => .yes (.leq rfl rfl) (by omega)) (.v (fun _ f => .move rfl) (.and (b2 := !ltInt d3[y + 1]! d3[a]!) 118 128 10 10 rfl rfl (fun g1 => .v (fun _ f => .move rfl) (.v (fun _ f => .move rfl) (.v (fun _ f => .indexN (y + 1) rfl rfl (by omega)) (.v (fun hs' f => .load (v := .int .i64 d3[y + 1]!) rfl (q0 hs' f)) (.v (fun _ f => .move rfl) (.v (fun _ f => .move rfl) (.v (fun _ f => .indexN (a) rfl rfl (by omega)) (.v (fun hs' f => .load (v := .int .i64 d3[a]!) rfl (q1 hs' f)) (.pc rfl rfl (fun w s => lessI_ok w _ _) (.v (fun _ f => .not rfl) (.nil ⟨rfl, rfl, rfl, rfl⟩))))))))))) (.nil ?_)))))
      refine .cond rfl (fun g2 => .skip ?_) (fun g2 => .exit ?_)
      · have g2' : (!ltInt d3[y + 1]! d3[a]!) = true := by simpa using g2
        refine .block (.region (.v (.move rfl) (.v (.subE (y : Int) rfl rfl (by omega) (by omega)) (.v (.assign rfl) (.nil ?_)))))
        exact ⟨y, ⟨⟨by omega, by omega⟩, by rw [← h1]; exact (sd_go hg g2').symm⟩, by omega, .cons rfl (.cons rfl (.cons rfl (.cons rfl (.nil _)))), fun _ s => s⟩
      · have g2' : (!ltInt d3[y + 1]! d3[a]!) = false := by simpa using g2
        exact ⟨y + 1, by rw [← h1]; exact (sd_stop (p := (fun x => !ltInt x d3[a]!)) g2').symm, .cons rfl (.cons rfl (.cons rfl (.cons rfl (.nil _)))), fun _ s => s⟩
    rintro j2 hj2
    try dsimp only at hj2 ⊢
    rw [← hj2] at f3 f4 f7
    refine .seq (.seq ((.region (.v (.move rfl) (.v (.move rfl) (.v (.gtr rfl rfl) (.nil ?_)))))))
    rw [Go.Sort.partLoop_eq, ← hi2, ← hj2] at hPL
    refine .cond_dec rfl (fun h3 => .exit ?_) (fun h3 => .skip ?_)
    · rw [if_pos (by omega)] at hPL
      subst hPL
      refine .mid (X := Array Int × List Value) (fun _ => [(11, .int .i64 j2)]) (fun x => [(b, .cells x.2 3)]) (fun x => x.1 = swp d3 j2 a ∧ SoI b o c n x.1 x.2) ?_ ?_
      · have ks := k3.swp (i := j2) (j := a) (by omega) (by omega)
        have q0 := fun hs' hsub => k3.at_ (w0 := w) (own := [b]) (hs := hs') (i := j2) (by omega) hsub
        have q1 := fun hs' hsub => k3.at_ (w0 := w) (own := [b]) (hs := hs') (i := a) (by omega) hsub
        have hlen := k3.len
        have ex : ∃ d' : Array Int, d' = swp d3 j2 a := ⟨_, rfl⟩
        generalize d3[j2]! = x0 at q0 ks
        generalize d3[a]! = x1 at q1 ks
        refine .drawY 13 [0, 1, 2, 3, 4, 5, 6, 7, 8, 9, 10, 11, 12, 13, 14, 15] [(b, .cells l3 3)] (fun _ h => h) (by kernel_rfl) (by kernel_rfl) ?_
        refine .x (fun _ _ _ => .move rfl) (.x (fun _ _ _ => .move rfl) (.x (fun _ _ _ => .move rfl) (.x (fun _ _ _ => .move rfl) (.x (fun _ _ _ => .move rfl) (.x (fun _ _ _ => .move rfl) (.x (fun _ _ _ => .indexN (a) rfl rfl (by omega)) (.v (fun hs' f => .load (v := .int .i64 x1) rfl (q1 hs' f)) (.x (fun _ _ _ => .move rfl) (.x (fun _ _ _ => .move rfl) (.x (fun _ _ _ => .indexN (j2) rfl rfl (by omega)) (.v (fun hs' f => .load (v := .int .i64 x0) rfl (q0 hs' f)) (.x (fun _ _ _ => .indexN (j2) rfl rfl (by omega)) (.st (.store rfl rfl rfl (by omega)) (.x (fun _ _ _ => .indexN (a) rfl rfl (by omega)) (.st2 (.store rfl rfl rfl (by rw [List.length_set]; omega)) (.nil ?_))))))))))))))))
        exact ⟨(swp d3 (j2) (a), (l3.set (o + (j2)) (.int .i64 x1)).set (o + (a)) (.int .i64 x0)), ⟨rfl, ks⟩, .cons rfl (.nil _), fun _ s => s⟩
      rintro ⟨d4, l4⟩ ⟨hd4, kd4⟩
      try dsimp only at hd4 kd4 ⊢
      have zd4 := kd4.sz
      refine .seq ((.region (.v (.move rfl) (.v (.assign rfl) (.v (.assign rfl) (.nil ?_))))))
      exact .ret ⟨[_, _], ⟨rfl, rfl, trivial⟩, l4, _, rfl, rfl, hd4 ▸ kd4⟩
    · rw [if_neg (by omega)] at hPL
      have f8 := (f7 (by omega)).2.2
      refine .mid (X := Array Int × List Value) (fun _ => [(0, .slice (some ⟨b, o, none⟩) n c), (1, .int .i64 a), (10, .int .i64 ((i2 : Nat) : Int)), (11, .int .i64 ((j2 : Nat) : Int))]) (fun x => [(b, .cells x.2 3)]) (fun x => x.1 = swp d3 i2 j2 ∧ SoI b o c n x.1 x.2) ?_ ?_
      · have ks := k3.swp (i := i2) (j := j2) (by omega) (by omega)
        have q0 := fun hs' hsub => k3.at_ (w0 := w) (own := [b]) (hs := hs') (i := i2) (by omega) hsub
        have q1 := fun hs' hsub => k3.at_ (w0 := w) (own := [b]) (hs := hs') (i := j2) (by omega) hsub
        have hlen := k3.len
        have ex : ∃ d' : Array Int, d' = swp d3 i2 j2 := ⟨_, rfl⟩
        generalize d3[i2]! = x0 at q0 ks
        generalize d3[j2]! = x1 at q1 ks
        refine .drawY 13 [0, 1, 2, 3, 4, 5, 6, 7, 8, 9, 10, 11, 12, 13, 14, 15] [(b, .cells l3 3)] (fun _ h => h) (by kernel_rfl) (by kernel_rfl) ?_
        refine .x (fun _ _ _ => .move rfl) (.x (fun _ _ _ => .move rfl) (.x (fun _ _ _ => .move rfl) (.x (fun _ _ _ => .move rfl) (.x (fun _ _ _ => .move rfl) (.x (fun _ _ _ => .move rfl) (.x (fun _ _ _ => .indexN (j2) rfl rfl (by omega)) (.v (fun hs' f => .load (v := .int .i64 x1) rfl (q1 hs' f)) (.x (fun _ _ _ => .move rfl) (.x (fun _ _ _ => .move rfl) (.x (fun _ _ _ => .indexN (i2) rfl rfl (by omega)) (.v (fun hs' f => .load (v := .int .i64 x0) rfl (q0 hs' f)) (.x (fun _ _ _ => .indexN (i2) rfl rfl (by omega)) (.st (.store rfl rfl rfl (by omega)) (.x (fun _ _ _ => .indexN (j2) rfl rfl (by omega)) (.st2 (.store rfl rfl rfl (by rw [List.length_set]; omega)) (.nil ?_))))))))))))))))
        exact ⟨(swp d3 (i2) (j2), (l3.set (o + (i2)) (.int .i64 x1)).set (o + (j2)) (.int .i64 x0)), ⟨rfl, ks⟩, .cons rfl (.cons rfl (.cons rfl (.cons rfl (.nil _)))), fun _ s => s⟩
      rintro ⟨d4, l4⟩ ⟨hd4, kd4⟩
      try dsimp only at hd4 kd4 ⊢
      have zd4 := kd4.sz
      rw [← hd4] at hPL
      refine .seq ((.region (.v (.move rfl) (.v (.addE ((i2 + 1 : Nat) : Int) rfl rfl (by omega) (by omega)) (.v (.assign rfl) (.nil ?_))))))
      refine .region (.v (.move rfl) (.v (.subE ((j2 - 1 : Nat) : Int) rfl rfl (by omega) (by omega)) (.v (.assign rfl) (.nil ?_))))
      exact ⟨⟨i2 + 1, j2 - 1, d4, l4⟩, ⟨⟨by show a + 1 ≤ i2 + 1; omega, by show i2 + 1 ≤ j2 - 1 + 1; omega, by show j2 - 1 < e; omega⟩, kd4, hPL⟩, by show j2 - 1 + 1 - (i2 + 1) < j + 1 - i; omega, .cons rfl (.cons rfl (.cons rfl (.cons rfl (.nil _)))), fun _ s => s⟩
set_option maxRecDepth 20000 in
theorem partEqI_ok (w : World) {b o c n : Nat} {d : Array Int} {l : List Value} (k : SoI b o c n d l) (a e p : Nat) (hap : a ≤ p) (hpe : p < e) (he : e ≤ n) (hn : n < 2305843009213693952) :
    Does Try.prog 83 [.slice (some ⟨b, o, none⟩) n c, .int .i64 a, .int .i64 e, .int .i64 p] [(b, .cells l 3)] w (fun v hs => ∃ l', v = .int .i64 (partitionEqual ltInt d a e p).1 ∧ hs = [(b, .cells l' 3)] ∧ SoI b o c n (partitionEqual ltInt d a e p).2 l') := by
  generalize hPL : partitionEqual ltInt d a e p = PL
  replace hPL : partEqLoop ltInt a (a + 1) (e - 1) (swp d a p) = PL := hPL
  refine Does.of (n := 84) Try.func83 rfl rfl rfl rfl ?_
  refine .seq ((.region (.v (.assign rfl) (.nil ?_))))
  refine .mid (X := Array Int × List Value) (fun _ => [(0, .slice (some ⟨b, o, none⟩) n c), (1, .int .i64 a), (2, .int .i64 e)]) (fun x => [(b, .cells x.2 3)]) (fun x => x.1 = swp d a p ∧ SoI b o c n x.1 x.2) ?_ ?_
  · have ks := k.swp (i := a) (j := p) (by omega) (by omega)
    have q0 := fun hs' hsub => k.at_ (w0 := w) (own := [b]) (hs := hs') (i := a) (by omega) hsub
    have q1 := fun hs' hsub => k.at_ (w0 := w) (own := [b]) (hs := hs') (i := p) (by omega) hsub
    have hlen := k.len
    have ex : ∃ d' : Array Int, d' = swp d a p := ⟨_, rfl⟩
    generalize d[a]! = x0 at q0 ks
    generalize d[p]! = x1 at q1 ks
    refine .drawY 13 [0, 1, 2, 3, 4, 5, 6, 7, 8, 9, 10, 11, 12, 13, 14, 15] [(b, .cells l 3)] (fun _ h => h) (by kernel_rfl) (by kernel_rfl) ?_
    refine .x (fun _ _ _ => .move rfl) (.x (fun _ _ _ => .move rfl) (.x (fun _ _ _ => .move rfl) (.x (fun _ _ _ => .move rfl) (.x (fun _ _ _ => .move rfl) (.x (fun _ _ _ => .move rfl) (.x (fun _ _ _ => .indexN (p) rfl rfl (by omega)) (.v (fun hs' f => .load (v := .int .i64 x1) rfl (q1 hs' f)) (.x (fun _ _ _ => .move rfl) (.x (fun _ _ _ => .move rfl) (.x (fun _ _ _ => .indexN (a) rfl rfl (by omega)) (.v (fun hs' f => .load (v := .int .i64 x0) rfl (q0 hs' f)) (.x (fun _ _ _ => .indexN (a) rfl rfl (by omega)) (.st (.store rfl rfl rfl (by omega)) (.x (fun _ _ _ => .indexN (p) rfl rfl (by omega)) (.st2 (.store rfl rfl rfl (by rw [List.length_set]; omega)) (.nil ?_))))))))))))))))
    exact ⟨(swp d (a) (p), (l.set (o + (a)) (.int .i64 x1)).set (o + (p)) (.int .i64 x0)), ⟨rfl, ks⟩, .cons rfl (.cons rfl (.cons rfl (.nil _))), fun _ s => s⟩
  rintro ⟨d1, l1⟩ ⟨hd1, kd1⟩
  try dsimp only at hd1 kd1 ⊢
  have zd1 := kd1.sz
  rw [← hd1] at hPL
  clear hd1 k
  refine .seq ((.region (.v (.move rfl) (.v (.addE ((a + 1 : Nat) : Int) rfl rfl (by omega) (by omega)) (.v (.move rfl) (.v (.subE ((e - 1 : Nat) : Int) rfl rfl (by omega) (by omega)) (.v (.assign rfl) (.v (.assign rfl) (.nil ?_)))))))))
  refine .seq (.block (.loop (X := ParS) (fun x => [(0, .slice (some ⟨b, o, none⟩) n c), (1, .int .i64 a), (9, .int .i64 ((x.i : Nat) : Int)), (10, .int .i64 ((x.j : Nat) : Int))]) (fun x => [(b, .cells x.l 3)]) (fun x => (a + 1 ≤ x.i ∧ x.i ≤ x.j + 1 ∧ x.j < e) ∧ SoI b o c n x.d x.l ∧ partEqLoop ltInt a x.i x.j x.d = PL) (fun x => x.j + 1 - x.i) ⟨a + 1, e - 1, d1, l1⟩ ⟨⟨by show a + 1 ≤ a + 1; omega, by show a + 1 ≤ e - 1 + 1; omega, by show e - 1 < e; omega⟩, kd1, hPL⟩ (.cons rfl (.cons rfl (.cons rfl (.cons rfl (.nil _))))) (fun _ s => s) ?_))
  clear hPL
  rintro ⟨i, j, d3, l3⟩ ⟨⟨g1, g2, g3⟩, k3, hPL⟩
  try dsimp only at g1 g2 g3 k3 hPL ⊢
  refine .block ?_
  clear kd1 zd1
  refine .mid (X := Nat) (fun x => [(0, .slice (some ⟨b, o, none⟩) n c), (1, .int .i64 a), (9, .int .i64 ((x : Nat) : Int)), (10, .int .i64 ((j : Nat) : Int))]) (fun _ => [(b, .cells l3 3)]) (fun x => x = scanUp (fun x => !ltInt d3[a]! x) d3 (j) (i)) (.block (.loop (X := Nat) (fun x => [(0, .slice (some ⟨b, o, none⟩) n c), (1, .int .i64 a), (9, .int .i64 ((x : Nat) : Int)), (10, .int .i64 ((j : Nat) : Int))]) (fun _ => [(b, .cells l3 3)]) (fun x => (i ≤ x ∧ x ≤ j + 1) ∧ scanUp (fun x => !ltInt d3[a]! x) d3 (j) x = scanUp (fun x => !ltInt d3[a]! x) d3 (j) (i)) (fun x => j + 1 - x) (i) ⟨⟨by omega, by omega⟩, rfl⟩ (.cons rfl (.cons rfl (.cons rfl (.cons rfl (.nil _))))) (fun _ s => s) ?_)) ?_
  · rintro y ⟨⟨hy1, hy2⟩, h1⟩
    try dsimp only at hy1 hy2 h1 ⊢
    by_cases hg : y ≤ j
    case neg =>
      refine .seq (.seq (.drawK [(b, .cells l3 3)] (fun _ h => h) (by kernel_rfl) (by kernel_rfl) ?_))
      refine .v (fun _ f => .move rfl) (.v (fun _ f => .move rfl) (.v (fun _ f => .no (.leq rfl rfl) (by omega)) (.v (fun _ f => .move rfl) (.and (b2 := true) 32 42 10 10 rfl rfl (fun g1 => absurd g1 (by simp)) (.nil ?_)))))
      refine .cond_false rfl (.exit ?_)
      rw [su_end (by omega)] at h1
      exact ⟨y, h1, .cons rfl (.cons rfl (.cons rfl (.cons rfl (.nil _)))), fun _ s => s⟩
    have q0 := fun hs' hsub => k3.at_ (w0 := w) (own := [b]) (hs := hs') (i := y) (by omega) hsub
    have q1 := fun hs' hsub => k3.at_ (w0 := w) (own := [b]) (hs := hs') (i := a) (by omega) hsub
    refine .seq (.seq (.drawK [(b, .cells l3 3)] (fun _ h => h) (by kernel_rfl) (by kernel_rfl) ?_))
    refine .v (fun _ f => .move rfl) (.v (fun _ f => .move rfl) (.v (fun _ f => .yes (.leq rfl rfl) (by omega)) (.v (fun _ f => .move rfl) (.and (b2 := !ltInt d3[a]! d3[y]!) 32 42 10 10 rfl rfl (fun g1 => .v (fun _ f => .move rfl) (.v (fun _ f => .move rfl) (.v (fun _ f => .indexN (a) rfl rfl (by omega)) (.v (fun hs' f => .load (v := .int .i64 d3[a]!) rfl (q1 hs' f)) (.v (fun _ f => .move rfl) (.v (fun _ f => .move rfl) (.v (fun _ f => .indexN (y) rfl rfl (by omega)) (.v (fun hs' f => .load (v := .int .i64 d3[y]!) rfl (q0 hs' f)) (.pc rfl rfl (fun w s => lessI_ok w _ _) (.v (fun _ f => .not rfl) (.nil ⟨rfl, rfl, rfl, rfl⟩))))))))))) (.nil ?_)))))
    refine .cond rfl (fun g2 => .skip ?_) (fun g2 => .exit ?_)
    · have g2' : (!ltInt d3[a]! d3[y]!) = true := by simpa using g2
      refine .block (.region (.v (.move rfl) (.v (.addE ((y + 1 : Nat) : Int) rfl rfl (by omega) (by omega)) (.v (.assign rfl) (.nil ?_)))))
      exact ⟨y + 1, ⟨⟨by omega, by omega⟩, by rw [← h1]; exact (su_go hg g2').symm⟩, by omega, .cons rfl (.cons rfl (.cons rfl (.cons rfl (.nil _)))), fun _ s => s⟩
    · have g2' : (!ltInt d3[a]! d3[y]!) = false := by simpa using g2
      exact ⟨y, by rw [← h1]; exact (su_stop (p := (fun x => !ltInt d3[a]! x)) g2').symm, .cons rfl (.cons rfl (.cons rfl (.cons rfl (.nil _)))), fun _ s => s⟩
  rintro i2 hi2
  try dsimp only at hi2 ⊢
  have hf := Go.Sort.round_facts (fun x => !ltInt d3[a]! x) (fun x => ltInt d3[a]! x) (fun x => by simp) d3 (i - 1) (j + 1) (i) (j) (by omega) (by omega) (fun t h1 h2 => by omega) (fun t h1 h2 => by omega)
  rw [← hi2] at hf
  obtain ⟨f1, f2, f3, f4, _, _, f7⟩ := hf
  refine .mid (X := Nat) (fun x => [(0, .slice (some ⟨b, o, none⟩) n c), (1, .int .i64 a), (9, .int .i64 ((i2 : Nat) : Int)), (10, .int .i64 ((x : Nat) : Int))]) (fun _ => [(b, .cells l3 3)]) (fun x => x = scanDown (fun x => ltInt d3[a]! x) d3 (i2) (j)) (.block (.loop (X := Nat) (fun x => [(0, .slice (some ⟨b, o, none⟩) n c), (1, .int .i64 a), (9, .int .i64 ((i2 : Nat) : Int)), (10, .int .i64 ((x : Nat) : Int))]) (fun _ => [(b, .cells l3 3)]) (fun x => (i2 ≤ x + 1 ∧ x ≤ j) ∧ scanDown (fun x => ltInt d3[a]! x) d3 (i2) x = scanDown (fun x => ltInt d3[a]! x) d3 (i2) (j)) (fun x => x) (j) ⟨⟨by omega, by omega⟩, rfl⟩ (.cons rfl (.cons rfl (.cons rfl (.cons rfl (.nil _))))) (fun _ s => s) ?_)) ?_
  · rintro y ⟨⟨hy1, hy2⟩, h1⟩
    try dsimp only at hy1 hy2 h1 ⊢
    by_cases hg : i2 ≤ y
    case neg =>
      refine .seq (.seq (.drawK [(b, .cells l3 3)] (fun _ h => h) (by kernel_rfl) (by kernel_rfl) ?_))
      refine .v (fun _ f => .move rfl) (.v (fun _ f => .move rfl) (.v (fun _ f => .no (.leq rfl rfl) (by omega)) (.v (fun _ f => .move rfl) (.and (b2 := true) 49 58 9 9 rfl rfl (fun g1 => absurd g1 (by simp)) (.nil ?_)))))
      refine .cond_false rfl (.exit ?_)
      rw [sd_end (by omega)] at h1
      exact ⟨y, h1, .cons rfl (.cons rfl (.cons rfl (.cons rfl (.nil _)))), fun _ s => s⟩
    obtain ⟨y, rfl⟩ : ∃ y', y = y' + 1 := ⟨y - 1, by omega⟩
    have q0 := fun hs' hsub => k3.at_ (w0 := w) (own := [b]) (hs := hs') (i := y + 1) (by omega) hsub
    have q1 := fun hs' hsub => k3.at_ (w0 := w) (own := [b]) (hs := hs') (i := a) (by omega) hsub
    refine .seq (.seq (.drawK [(b, .cells l3 3)] (fun _ h => h) (by kernel_rfl) (by kernel_rfl) ?_))
    refine .v (fun _ f => .move rfl) (.v (fun _ f => .move rfl) (.v (fun _ f => .yes (.leq rfl rfl) (by omega)) (.v (fun _ f => .move rfl) (.and (b2 := ltInt d3[a]! d3[y + 1]!) 49 58 9 9 rfl rfl (fun g1 => .v (fun _ f => .move rfl) (.v (fun _ f => .move rfl) (.v (fun _ f => .indexN (a) rfl rfl (by omega)) (.v (fun hs' f => .load (v := .int .i64 d3[a]!) rfl (q1 hs' f)) (.v (fun _ f => .move rfl) (.v (fun _ f => .move rfl) (.v (fun _ f => .indexN (y + 1) rfl rfl (by omega)) (.v (fun hs' f => .load (v := .int .i64 d3[y + 1]!) rfl (q0 hs' f)) (.pc rfl rfl (fun w s => lessI_ok w _ _) (.nil ⟨rfl, rfl, rfl, rfl⟩)))))))))) (.nil ?_)))))
    refine .cond rfl (fun g2 => .skip ?_) (fun g2 => .exit ?_)
    · have g2' : (ltInt d3[a]! d3[y + 1]!) = true := by simpa using g2
      refine .block (.region (.v (.move rfl) (.v (.subE (y : Int) rfl rfl (by omega) (by omega)) (.v (.assign rfl) (.nil ?_)))))
      exact ⟨y, ⟨⟨by omega, by omega⟩, by rw [← h1]; exact (sd_go hg g2').symm⟩, by omega, .cons rfl (.cons rfl (.cons rfl (.cons rfl (.nil _)))), fun _ s => s⟩
    · have g2' : (ltInt d3[a]! d3[y + 1]!) = false := by simpa using g2
      exact ⟨y + 1, by rw [← h1]; exact (sd_stop (p := (fun x => ltInt d3[a]! x)) g2').symm, .cons rfl (.cons rfl (.cons rfl (.cons rfl (.nil _)))), fun _ s => s⟩
  rintro j2 hj2
  try dsimp only at hj2 ⊢
  rw [← hj2] at f3 f4 f7
  refine .seq (.seq ((.region (.v (.move rfl) (.v (.move rfl) (.v (.gtr rfl rfl) (.nil ?_)))))))
  rw [Go.Sort.partEqLoop_eq, ← hi2, ← hj2] at hPL
  refine .cond_dec rfl (fun h3 => .exit ?_) (fun h3 => .skip ?_)
  · rw [if_pos (by omega)] at hPL
    subst hPL
    refine .seq ((.region (.v (.move rfl) (.v (.assign rfl) (.nil ?_)))))
    exact .ret ⟨[_], ⟨rfl, trivial⟩, l3, rfl, rfl, k3⟩
  · rw [if_neg (by omega)] at hPL
    have f8 := (f7 (by omega)).2.2
    refine .mid (X := Array Int × List Value) (fun _ => [(0, .slice (some ⟨b, o, none⟩) n c), (1, .int .i64 a), (9, .int .i64 ((i2 : Nat) : Int)), (10, .int .i64 ((j2 : Nat) : Int))]) (fun x => [(b, .cells x.2 3)]) (fun x => x.1 = swp d3 i2 j2 ∧ SoI b o c n x.1 x.2) ?_ ?_
    · have ks := k3.swp (i := i2) (j := j2) (by omega) (by omega)
      have q0 := fun hs' hsub => k3.at_ (w0 := w) (own := [b]) (hs := hs') (i := i2) (by omega) hsub
      have q1 := fun hs' hsub => k3.at_ (w0 := w) (own := [b]) (hs := hs') (i := j2) (by omega) hsub
      have hlen := k3.len
      have ex : ∃ d' : Array Int, d' = swp d3 i2 j2 := ⟨_, rfl⟩
      generalize d3[i2]! = x0 at q0 ks
      generalize d3[j2]! = x1 at q1 ks
      refine .drawY 13 [0, 1, 2, 3, 4, 5, 6, 7, 8, 9, 10, 11, 12, 13, 14, 15] [(b, .cells l3 3)] (fun _ h => h) (by kernel_rfl) (by kernel_rfl) ?_
      refine .x (fun _ _ _ => .move rfl) (.x (fun _ _ _ => .move rfl) (.x (fun _ _ _ => .move rfl) (.x (fun _ _ _ => .move rfl) (.x (fun _ _ _ => .move rfl) (.x (fun _ _ _ => .move rfl) (.x (fun _ _ _ => .indexN (j2) rfl rfl (by omega)) (.v (fun hs' f => .load (v := .int .i64 x1) rfl (q1 hs' f)) (.x (fun _ _ _ => .move rfl) (.x (fun _ _ _ => .move rfl) (.x (fun _ _ _ => .indexN (i2) rfl rfl (by omega)) (.v (fun hs' f => .load (v := .int .i64 x0) rfl (q0 hs' f)) (.x (fun _ _ _ => .indexN (i2) rfl rfl (by omega)) (.st (.store rfl rfl rfl (by omega)) (.x (fun _ _ _ => .indexN (j2) rfl rfl (by omega)) (.st2 (.store rfl rfl rfl (by rw [List.length_set]; omega)) (.nil ?_))))))))))))))))
      exact ⟨(swp d3 (i2) (j2), (l3.set (o + (i2)) (.int .i64 x1)).set (o + (j2)) (.int .i64 x0)), ⟨rfl, ks⟩, .cons rfl (.cons rfl (.cons rfl (.cons rfl (.nil _)))), fun _ s => s⟩
    rintro ⟨d4, l4⟩ ⟨hd4, kd4⟩
    try dsimp only at hd4 kd4 ⊢
    have zd4 := kd4.sz
    rw [← hd4] at hPL
    refine .seq ((.region (.v (.move rfl) (.v (.addE ((i2 + 1 : Nat) : Int) rfl rfl (by omega) (by omega)) (.v (.assign rfl) (.nil ?_))))))
    refine .region (.v (.move rfl) (.v (.subE ((j2 - 1 : Nat) : Int) rfl rfl (by omega) (by omega)) (.v (.assign rfl) (.nil ?_))))
    exact ⟨⟨i2 + 1, j2 - 1, d4, l4⟩, ⟨⟨by show a + 1 ≤ i2 + 1; omega, by show i2 + 1 ≤ j2 - 1 + 1; omega, by show j2 - 1 < e; omega⟩, kd4, hPL⟩, by show j2 - 1 + 1 - (i2 + 1) < j + 1 - i; omega, .cons rfl (.cons rfl (.cons rfl (.cons rfl (.nil _)))), fun _ s => s⟩
end Go.Proofs.Ytamldmgdhaoigaa

/- slices.breakPatternsOrdered (loosely), partialInsertionSortOrdered at int (printed by wip/gen/gen_pis.py). -/
namespace Go.Proofs.Ytamldmgdhaoigaa
open Go.V
open Go.Sort (ltInt swp scanSorted shiftDown shiftUp fixDown fixUp partialIns partialInsertionSort PermIn)
set_option linter.unusedVariables false
set_option linter.unusedSimpArgs false
section
variable {d : Array Int} {i b : Nat}
theorem ss_go (h : i < b) (hp : (!ltInt d[i]! d[i - 1]!) = true) : scanSorted ltInt d b i = scanSorted ltInt d b (i + 1) := by rw [scanSorted, if_pos]; simp [h] at hp ⊢; exact hp
theorem ss_end (h : b ≤ i) : scanSorted ltInt d b i = i := by rw [scanSorted, if_neg]; simp; omega
theorem ss_stop (hp : (!ltInt d[i]! d[i - 1]!) = false) : scanSorted ltInt d b i = i := by rw [scanSorted, if_neg]; simp at hp; simp [hp]
end
structure BrkS where
  x : Int
  j : Nat
  d : Array Int
  l : List Value
set_option maxRecDepth 20000 in
theorem breakI_ok (w : World) {b o c n : Nat} {d : Array Int} {l : List Value} (k : SoI b o c n d l) (a e : Nat) (hae : a ≤ e) (he : e ≤ n) (hn : n < 2305843009213693952) :
    Does Try.prog 78 [.slice (some ⟨b, o, none⟩) n c, .int .i64 a, .int .i64 e] [(b, .cells l 3)] w (fun _ hs => ∃ d' l', hs = [(b, .cells l' 3)] ∧ SoI b o c n d' l' ∧ PermIn a e d d') := by
  obtain ⟨h, rfl⟩ := Nat.exists_eq_add_of_le hae
  refine Does.less (Does.of (n := 65) Try.func78 rfl rfl rfl rfl ?_)
  refine .seq ((.region (.v (.move rfl) (.v (.move rfl) (.v (.subE (h : Int) rfl rfl (by omega) (by omega)) (.v (.assign rfl) (.nil ?_)))))))
  refine .seq ((.region (.v (.move rfl) (.v (.geq rfl rfl) (.nil ?_)))))
  refine .cond_dec rfl (fun h1 => ?_) (fun h1 => .skip ?_)
  case refine_2 => exact ⟨[], trivial, [(b, .cells l 3)], fun _ s => s.take, d, l, rfl, k, Go.Sort.permIn_refl d a (a + h)⟩
  refine .seq ((.region (.v (.move rfl) (.v (.convE (h : Int) rfl (wrap_u64_in (by omega))) (.nw .alloc fun b7 => (.st (.storeL rfl rfl rfl) (.nil ?_)))))))
  refine .keep [(b7, .cells [.int .u64 (h : Int)] 130), (b, .cells l 3)] ?_
  refine .seq ((.region (.v (.move rfl) ?_)))
  refine .ef (.call0 rfl rfl fun w s => nextPow_ok w h (by omega) (by omega)) ?_
  rintro _ _ ⟨_, ⟨mo, m1, m2, rfl, rfl⟩, rfl⟩
  refine .v (.assign rfl) (.nil ?_)
  obtain ⟨q, hq⟩ : ∃ q, h / 4 = q := ⟨_, rfl⟩
  have hq4 : (h : Int) / 4 = (q : Int) := by omega
  refine .seq ((.region (.v (.move rfl) (.v (.move rfl) (.v (.quoN q rfl rfl (by decide) hq4 (by omega) (by omega)) (.v (.muli rfl rfl (by omega)) (.v (.addE ((a + q * 2 : Nat) : Int) rfl rfl (by omega) (by omega)) (.v (.subE ((a + q * 2 - 1 : Nat) : Int) rfl rfl (by omega) (by omega)) (.v (.assign rfl) (.nil ?_))))))))))
  refine .block (.loop (X := BrkS) (fun x => [(0, .slice (some ⟨b, o, none⟩) n c), (1, .int .i64 a), (6, .int .i64 h), (7, .pointer (some ⟨b7, 0, none⟩)), (8, .int .u64 mo), (9, .int .i64 x.j)]) (fun x => [(b7, .cells [.int .u64 x.x] 130), (b, .cells x.l 3)]) (fun x => (a + q * 2 - 1 ≤ x.j ∧ x.j ≤ a + q * 2 + 2) ∧ SoI b o c n x.d x.l ∧ PermIn a (a + h) d x.d) (fun x => a + q * 2 + 2 - x.j) ⟨h, a + q * 2 - 1, d, l⟩ ⟨⟨Nat.le_refl _, by show a + q * 2 - 1 ≤ _; omega⟩, k, Go.Sort.permIn_refl d a (a + h)⟩ (.cons rfl (.cons rfl (.cons rfl (.cons rfl (.cons rfl (.cons rfl (.nil _))))))) (fun _ s => s) ?_)
  rintro ⟨x, j, d1, l1⟩ ⟨⟨hj1, hj2⟩, k1, hp⟩
  dsimp only at hj1 hj2 k1 hp ⊢
  refine .seq (.seq ((.region (.v (.move rfl) (.v (.move rfl) (.v (.move rfl) (.v (.quoN q rfl rfl (by decide) hq4 (by omega) (by omega)) (.v (.muli rfl rfl (by omega)) (.v (.addE ((a + q * 2 : Nat) : Int) rfl rfl (by omega) (by omega)) (.v (.addE ((a + q * 2 + 1 : Nat) : Int) rfl rfl (by omega) (by omega)) (.v (.leq rfl rfl) (.nil ?_))))))))))))
  refine .cond_dec rfl (fun h2 => .skip ?_) (fun h2 => .exit ?_)
  case refine_2 => exact ⟨[], trivial, [(b, .cells l1 3)], fun _ s => s.take, d1, l1, rfl, k1, hp⟩
  refine .seq (.block (.seq ((.region ?_))))
  refine .ef (.callT [(b7, .cells [.int .u64 x] 130)] rfl rfl fun w s => next_ok w b7 x) ?_
  rintro _ _ ⟨_, ⟨y, hy, rfl, rfl⟩, rfl⟩
  have hr := and_rng (y := y) (z := (mo : Int) - 1) (by omega) (by omega)
  obtain ⟨r, hr2⟩ : ∃ r : Nat, bop .and .u64 y ((mo : Int) - 1) = (r : Int) := ⟨(bop .and .u64 y ((mo : Int) - 1)).toNat, by omega⟩
  refine .v (.move rfl) (.v (.subU ((mo : Int) - 1) rfl rfl rfl (by omega)) (.v (.and rfl rfl) (.v (.convE (r : Int) rfl (by rw [hr2]; exact wrap_i64 (by omega))) (.v (.assign rfl) (.nil ?_)))))
  refine .mid (X := Nat) (fun t => [(0, .slice (some ⟨b, o, none⟩) n c), (1, .int .i64 a), (6, .int .i64 h), (7, .pointer (some ⟨b7, 0, none⟩)), (8, .int .u64 mo), (9, .int .i64 j), (10, .int .i64 t)]) (fun _ => [(b7, .cells [.int .u64 y] 130), (b, .cells l1 3)]) (fun t => t < h) (.seq ((.region (.v (.move rfl) (.v (.move rfl) (.v (.geq rfl rfl) (.nil ?_))))))) ?_
  · refine .cond_dec rfl (fun h3 => ?_) (fun h3 => .skip ?_)
    · refine .region (.v (.move rfl) (.v (.move rfl) (.v (.subE ((r - h : Nat) : Int) rfl rfl (by omega) (by omega)) (.v (.assign rfl) (.nil ?_)))))
      exact ⟨r - h, by omega, .cons rfl (.cons rfl (.cons rfl (.cons rfl (.cons rfl (.cons rfl (.cons rfl (.nil _))))))), fun _ s => s.take⟩
    · exact ⟨r, by omega, .cons rfl (.cons rfl (.cons rfl (.cons rfl (.cons rfl (.cons rfl (.cons rfl (.nil _))))))), fun _ s => s.take⟩
  rintro t ht
  try dsimp only at ht ⊢
  have k3 := k1.swp (i := j) (j := a + t) (by omega) (by omega)
  have p3 := Go.Sort.permIn_trans _ _ _ a (a + h) hp (Go.Sort.swp_permIn d1 a (a + h) j (a + t) (by omega) (by omega) (by omega) (by omega) (by rw [k1.sz]; exact he))
  have q0 := fun hs' hsub => k1.at_ (w0 := w) (own := [b]) (hs := hs') (i := j) (by omega) hsub
  have q1 := fun hs' hsub => k1.at_ (w0 := w) (own := [b]) (hs := hs') (i := a + t) (by omega) hsub
  have hlen := k1.len
  generalize hD : swp d1 j (a + t) = D at k3 p3
  generalize d1[j]! = x0 at q0 k3
  generalize d1[a + t]! = x1 at q1 k3
  refine .drawY 17 [0, 1, 2, 3, 4, 5, 6, 7, 8, 9, 10, 11, 12, 13, 14, 15, 16, 17, 18, 19] [(b, .cells l1 3)] (fun _ h => .tail _ h) (by kernel_rfl) (by kernel_rfl) ?_
  refine .x (fun _ _ _ => .move rfl) (.x (fun _ _ _ => .move rfl) (.x (fun _ _ _ => .move rfl) (.x (fun _ _ _ => .move rfl) (.x (fun _ _ _ => .move rfl) (.x (fun _ _ _ => .addE ((a + t : Nat) : Int) rfl rfl (by omega) (by omega)) (.x (fun _ _ _ => .move rfl) (.x (fun _ _ _ => .move rfl) (.x (fun _ _ _ => .move rfl) (.x (fun _ _ _ => .addE ((a + t : Nat) : Int) rfl rfl (by omega) (by omega)) (.x (fun _ _ _ => .indexN (a + t) rfl rfl (by omega)) (.v (fun hs' f => .load (v := .int .i64 x1) rfl (q1 hs' f)) (.x (fun _ _ _ => .move rfl) (.x (fun _ _ _ => .move rfl) (.x (fun _ _ _ => .indexN (j) rfl rfl (by omega)) (.v (fun hs' f => .load (v := .int .i64 x0) rfl (q0 hs' f)) (.x (fun _ _ _ => .indexN (j) rfl rfl (by omega)) (.st (.store rfl rfl rfl (by omega)) (.x (fun _ _ _ => .indexN (a + t) rfl rfl (by omega)) (.st2 (.store rfl rfl rfl (by rw [List.length_set]; omega)) (.nil ?_))))))))))))))))))))
  refine .region (.v (.move rfl) (.v (.addE ((j + 1 : Nat) : Int) rfl rfl (by omega) (by omega)) (.v (.assign rfl) (.nil ?_))))
  exact ⟨⟨y, j + 1, D, (l1.set (o + j) (.int .i64 x1)).set (o + (a + t)) (.int .i64 x0)⟩, ⟨⟨by show _ ≤ j + 1; omega, by show j + 1 ≤ _; omega⟩, k3, p3⟩, by show a + q * 2 + 2 - (j + 1) < a + q * 2 + 2 - j; omega, .cons rfl (.cons rfl (.cons rfl (.cons rfl (.cons rfl (.cons rfl (.nil _)))))), fun _ s => s.take⟩
structure IS where
  t : Nat
  i : Nat
  d : Array Int
  l : List Value
set_option maxRecDepth 20000 in
theorem partialI_ok (w : World) {b o c n : Nat} {d : Array Int} {l : List Value} (k : SoI b o c n d l) (a e : Nat) (hae : a < e) (he : e ≤ n) (hn : n < 2305843009213693952) :
    Does Try.prog 81 [.slice (some ⟨b, o, none⟩) n c, .int .i64 a, .int .i64 e] [(b, .cells l 3)] w (fun v hs => ∃ l', v = .bool (partialInsertionSort ltInt d a e).2 ∧ hs = [(b, .cells l' 3)] ∧ SoI b o c n (partialInsertionSort ltInt d a e).1 l') := by
  generalize hR : partialInsertionSort ltInt d a e = R
  replace hR : partialIns ltInt a e 5 (a + 1) d = R := hR
  refine Does.of (n := 133) Try.func81 rfl rfl rfl rfl ?_
  refine .seq ((.region (.v (.assign rfl) (.nil ?_))))
  refine .seq ((.region (.v (.move rfl) (.v (.addE ((a + 1 : Nat) : Int) rfl rfl (by omega) (by omega)) (.v (.assign rfl) (.nil ?_))))))
  refine .seq (.seq ((.region (.v (.assign rfl) (.nil ?_)))))
  refine (.block (.loop (X := IS) (fun x => [(0, .slice (some ⟨b, o, none⟩) n c), (1, .int .i64 a), (2, .int .i64 e), (7, .int .i64 x.i), (8, .int .i64 x.t)]) (fun x => [(b, .cells x.l 3)]) (fun x => (x.t ≤ 5 ∧ a + 1 ≤ x.i ∧ x.i ≤ e) ∧ SoI b o c n x.d x.l ∧ partialIns ltInt a e (5 - x.t) x.i x.d = R) (fun x => 5 - x.t) ⟨0, a + 1, d, l⟩ ⟨⟨by show 0 ≤ 5; omega, by show a + 1 ≤ a + 1; omega, by show a + 1 ≤ e; omega⟩, k, hR⟩ (.cons rfl (.cons rfl (.cons rfl (.cons rfl (.cons rfl (.nil _)))))) (fun _ s => s) ?_))
  clear hR k
  rintro ⟨t, i, d1, l1⟩ ⟨⟨ht, hi1, hi2⟩, k1, hR⟩
  dsimp only at ht hi1 hi2 k1 hR ⊢
  refine .seq (.seq ((.region (.v (.move rfl) (.v (.lss rfl rfl) (.nil ?_))))))
  refine .cond_dec rfl (fun g => .skip ?_) (fun g => .exit ?_)
  case refine_2 =>
    rw [show 5 - t = 0 by omega] at hR
    subst hR
    refine .seq ((.region (.v (.assign rfl) (.nil ?_))))
    exact .ret ⟨[_], ⟨rfl, trivial⟩, l1, rfl, rfl, k1⟩
  rw [show 5 - t = (5 - (t + 1)) + 1 by omega, Go.Sort.partialIns_succ] at hR
  refine .mid (X := IS) (fun x => [(0, .slice (some ⟨b, o, none⟩) n c), (1, .int .i64 a), (2, .int .i64 e), (7, .int .i64 x.i), (8, .int .i64 t)]) (fun x => [(b, .cells x.l 3)]) (fun x => (a + 1 ≤ x.i ∧ x.i ≤ e) ∧ SoI b o c n x.d x.l ∧ partialIns ltInt a e (5 - (t + 1)) x.i x.d = R) (.block ?_) ?_
  case refine_2 =>
    rintro ⟨_, i, d2, l2⟩ ⟨⟨hi1, hi2⟩, k2, hR⟩
    try dsimp only at hi1 hi2 k2 hR ⊢
    refine .region (.v (.move rfl) (.v (.addE ((t + 1 : Nat) : Int) rfl rfl (by omega) (by omega)) (.v (.assign rfl) (.nil ?_))))
    exact ⟨⟨t + 1, i, d2, l2⟩, ⟨⟨by show t + 1 ≤ 5; omega, hi1, hi2⟩, k2, hR⟩, by show 5 - (t + 1) < 5 - t; omega, .cons rfl (.cons rfl (.cons rfl (.cons rfl (.cons rfl (.nil _))))), fun _ s => s⟩
  refine .mid (X := Nat) (fun x => [(0, .slice (some ⟨b, o, none⟩) n c), (1, .int .i64 a), (2, .int .i64 e), (7, .int .i64 x), (8, .int .i64 t)]) (fun _ => [(b, .cells l1 3)]) (fun x => (i ≤ x ∧ x ≤ e) ∧ x = scanSorted ltInt d1 e i) (.block (.loop (X := Nat) (fun x => [(0, .slice (some ⟨b, o, none⟩) n c), (1, .int .i64 a), (2, .int .i64 e), (7, .int .i64 x), (8, .int .i64 t)]) (fun _ => [(b, .cells l1 3)]) (fun x => (i ≤ x ∧ x ≤ e) ∧ scanSorted ltInt d1 e x = scanSorted ltInt d1 e i) (fun x => e - x) i ⟨⟨Nat.le_refl _, hi2⟩, rfl⟩ (.cons rfl (.cons rfl (.cons rfl (.cons rfl (.cons rfl (.nil _)))))) (fun _ s => s) ?_)) ?_
  · rintro y ⟨⟨hy1, hy2⟩, h1⟩
    try dsimp only at hy1 hy2 h1 ⊢
    by_cases hg : y < e
    case neg =>
      refine .seq (.seq (.drawK [(b, .cells l1 3)] (fun _ h => h) (by kernel_rfl) (by kernel_rfl) ?_))
      refine .v (fun _ f => .move rfl) (.v (fun _ f => .move rfl) (.v (fun _ f => .no (.lss rfl rfl) (by omega)) (.v (fun _ f => .move rfl) (.and (b2 := true) 20 31 11 11 rfl rfl (fun g1 => absurd g1 (by simp)) (.nil ?_)))))
      refine .cond_false rfl (.exit ?_)
      rw [ss_end (by omega)] at h1
      exact ⟨y, ⟨⟨hy1, hy2⟩, h1⟩, .cons rfl (.cons rfl (.cons rfl (.cons rfl (.cons rfl (.nil _))))), fun _ s => s⟩
    have q0 := fun hs' hsub => k1.at_ (w0 := w) (own := [b]) (hs := hs') (i := y) (by omega) hsub
    have q1 := fun hs' hsub => k1.at_ (w0 := w) (own := [b]) (hs := hs') (i := y - 1) (by omega) hsub
    refine .seq (.seq (.drawK [(b, .cells l1 3)] (fun _ h => h) (by kernel_rfl) (by kernel_rfl) ?_))
    refine .v (fun _ f => .move rfl) (.v (fun _ f => .move rfl) (.v (fun _ f => .yes (.lss rfl rfl) (by omega)) (.v (fun _ f => .move rfl) (.and (b2 := !ltInt d1[y]! d1[y - 1]!) 20 31 11 11 rfl rfl (fun g1 => .v (fun _ f => .move rfl) (.v (fun _ f => .move rfl) (.v (fun _ f => .indexN (y) rfl rfl (by omega)) (.v (fun hs' f => .load (v := .int .i64 d1[y]!) rfl (q0 hs' f)) (.v (fun _ f => .move rfl) (.v (fun _ f => .move rfl) (.v (fun _ f => .subE ((y - 1 : Nat) : Int) rfl rfl (by omega) (by omega)) (.v (fun _ f => .indexN (y - 1) rfl rfl (by omega)) (.v (fun hs' f => .load (v := .int .i64 d1[y - 1]!) rfl (q1 hs' f)) (.pc rfl rfl (fun w s => lessI_ok w _ _) (.v (fun _ f => .not rfl) (.nil ⟨rfl, rfl, rfl, rfl⟩)))))))))))) (.nil ?_)))))
    refine .cond rfl (fun g2 => .skip ?_) (fun g2 => .exit ?_)
    · have g2' : (!ltInt d1[y]! d1[y - 1]!) = true := by simpa using g2
      refine .block (.region (.v (.move rfl) (.v (.addE ((y + 1 : Nat) : Int) rfl rfl (by omega) (by omega)) (.v (.assign rfl) (.nil ?_)))))
      exact ⟨y + 1, ⟨⟨by omega, by omega⟩, by rw [← h1]; exact (ss_go hg g2').symm⟩, by omega, .cons rfl (.cons rfl (.cons rfl (.cons rfl (.cons rfl (.nil _))))), fun _ s => s⟩
    · have g2' : (!ltInt d1[y]! d1[y - 1]!) = false := by simpa using g2
      exact ⟨y, ⟨⟨hy1, hy2⟩, by rw [← h1]; exact (ss_stop g2').symm⟩, .cons rfl (.cons rfl (.cons rfl (.cons rfl (.cons rfl (.nil _))))), fun _ s => s⟩
  rintro i2 ⟨⟨f1, f2⟩, hi3⟩
  try dsimp only at f1 f2 hi3 ⊢
  rw [← hi3] at hR
  clear hi3
  refine .seq (.seq ((.region (.v (.move rfl) (.v (.move rfl) (.v (.eqi rfl rfl) (.nil ?_)))))))
  refine .cond_dec rfl (fun g3 => ?_) (fun g3 => .skip ?_)
  · rw [if_pos (by omega)] at hR
    subst hR
    refine .seq ((.region (.v (.assign rfl) (.nil ?_))))
    exact .ret ⟨[_], ⟨rfl, trivial⟩, l1, rfl, rfl, k1⟩
  rw [if_neg (by omega)] at hR
  refine .seq (.seq ((.region (.v (.move rfl) (.v (.move rfl) (.v (.subE ((e - a : Nat) : Int) rfl rfl (by omega) (by omega)) (.v (.lss rfl rfl) (.nil ?_))))))))
  refine .cond_dec rfl (fun g4 => ?_) (fun g4 => .skip ?_)
  · rw [if_pos (by omega)] at hR
    subst hR
    refine .seq ((.region (.v (.assign rfl) (.nil ?_))))
    exact .ret ⟨[_], ⟨rfl, trivial⟩, l1, rfl, rfl, k1⟩
  rw [if_neg (by omega)] at hR
  refine .mid (X := Array Int × List Value) (fun _ => [(0, .slice (some ⟨b, o, none⟩) n c), (1, .int .i64 a), (2, .int .i64 e), (7, .int .i64 i2), (8, .int .i64 t)]) (fun x => [(b, .cells x.2 3)]) (fun x => x.1 = swp d1 i2 (i2 - 1) ∧ SoI b o c n x.1 x.2) ?_ ?_
  ·
    have k3 := k1.swp (i := i2) (j := i2 - 1) (by omega) (by omega)
    have q0 := fun hs' hsub => k1.at_ (w0 := w) (own := [b]) (hs := hs') (i := i2 - 1) (by omega) hsub
    have q1 := fun hs' hsub => k1.at_ (w0 := w) (own := [b]) (hs := hs') (i := i2) (by omega) hsub
    have hlen := k1.len
    generalize d1[i2 - 1]! = x0 at q0 k3
    generalize d1[i2]! = x1 at q1 k3
    refine .drawY 15 [0, 1, 2, 3, 4, 5, 6, 7, 8, 9, 10, 11, 12, 13, 14, 15, 16, 17] [(b, .cells l1 3)] (fun _ h => h) (by kernel_rfl) (by kernel_rfl) ?_
    refine .x (fun _ _ _ => .move rfl) (.x (fun _ _ _ => .move rfl) (.x (fun _ _ _ => .move rfl) (.x (fun _ _ _ => .move rfl) (.x (fun _ _ _ => .subE ((i2 - 1 : Nat) : Int) rfl rfl (by omega) (by omega)) (.x (fun _ _ _ => .move rfl) (.x (fun _ _ _ => .move rfl) (.x (fun _ _ _ => .subE ((i2 - 1 : Nat) : Int) rfl rfl (by omega) (by omega)) (.x (fun _ _ _ => .indexN (i2 - 1) rfl rfl (by omega)) (.v (fun hs' f => .load (v := .int .i64 x0) rfl (q0 hs' f)) (.x (fun _ _ _ => .move rfl) (.x (fun _ _ _ => .move rfl) (.x (fun _ _ _ => .indexN (i2) rfl rfl (by omega)) (.v (fun hs' f => .load (v := .int .i64 x1) rfl (q1 hs' f)) (.x (fun _ _ _ => .indexN (i2) rfl rfl (by omega)) (.st (.store rfl rfl rfl (by omega)) (.x (fun _ _ _ => .indexN (i2 - 1) rfl rfl (by omega)) (.st2 (.store rfl rfl rfl (by rw [List.length_set]; omega)) (.nil ?_))))))))))))))))))
    exact ⟨(swp d1 i2 (i2 - 1), (l1.set (o + (i2)) (.int .i64 x0)).set (o + (i2 - 1)) (.int .i64 x1)), ⟨rfl, k3⟩, .cons rfl (.cons rfl (.cons rfl (.cons rfl (.cons rfl (.nil _))))), fun _ s => s⟩
  rintro ⟨d2, l2⟩ ⟨hd2, k2⟩
  try dsimp only at hd2 k2 ⊢
  rw [← hd2] at hR
  clear hd2 k1
  refine .mid (X := Array Int × List Value) (fun _ => [(0, .slice (some ⟨b, o, none⟩) n c), (1, .int .i64 a), (2, .int .i64 e), (7, .int .i64 i2), (8, .int .i64 t)]) (fun x => [(b, .cells x.2 3)]) (fun x => x.1 = fixDown ltInt a i2 d2 ∧ SoI b o c n x.1 x.2) (.seq ((.region (.v (.move rfl) (.v (.move rfl) (.v (.subE ((i2 - a : Nat) : Int) rfl rfl (by omega) (by omega)) (.v (.geq rfl rfl) (.nil ?_)))))))) ?_
  · refine .cond_dec rfl (fun g5 => ?_) (fun g5 => .skip ?_)
    case refine_2 =>
      have hf : d2 = fixDown ltInt a i2 d2 := by unfold fixDown; rw [if_neg (by omega)]
      exact ⟨(d2, l2), ⟨hf, k2⟩, .cons rfl (.cons rfl (.cons rfl (.cons rfl (.cons rfl (.nil _))))), fun _ s => s⟩
    have hf : fixDown ltInt a i2 d2 = shiftDown ltInt (i2 - 1) d2 := by unfold fixDown; rw [if_pos (by omega)]
    refine .seq ((.region (.v (.move rfl) (.v (.subE ((i2 - 1 : Nat) : Int) rfl rfl (by omega) (by omega)) (.v (.assign rfl) (.nil ?_))))))
    refine .block (.loop (X := SL) (fun x => [(0, .slice (some ⟨b, o, none⟩) n c), (1, .int .i64 a), (2, .int .i64 e), (7, .int .i64 i2), (8, .int .i64 t), (9, .int .i64 x.i)]) (fun x => [(b, .cells x.l 3)]) (fun x => x.i ≤ i2 - 1 ∧ SoI b o c n x.d x.l ∧ shiftDown ltInt x.i x.d = fixDown ltInt a i2 d2) (fun x => x.i) ⟨i2 - 1, d2, l2⟩ ⟨by show i2 - 1 ≤ i2 - 1; omega, k2, hf.symm⟩ (.cons rfl (.cons rfl (.cons rfl (.cons rfl (.cons rfl (.cons rfl (.nil _))))))) (fun _ s => s) ?_)
    clear hf
    rintro ⟨y, d5, l5⟩ ⟨hy, k5, h1⟩
    try dsimp only at hy k5 h1 ⊢
    refine .seq (.seq ((.region (.v (.move rfl) (.v (.geq rfl rfl) (.nil ?_))))))
    refine .cond_dec rfl (fun g6 => .skip ?_) (fun g6 => .exit ?_)
    case refine_2 =>
      have y0 : y = 0 := by omega
      subst y0
      rw [shiftDown] at h1
      exact ⟨(d5, l5), ⟨h1, k5⟩, .cons rfl (.cons rfl (.cons rfl (.cons rfl (.cons rfl (.nil _))))), fun _ s => s⟩
    obtain ⟨y, rfl⟩ : ∃ y', y = y' + 1 := ⟨y - 1, by omega⟩
    rw [shiftDown] at h1
    have q0 := fun hs' hsub => k5.at_ (w0 := w) (own := [b]) (hs := hs') (i := y + 1) (by omega) hsub
    have q1 := fun hs' hsub => k5.at_ (w0 := w) (own := [b]) (hs := hs') (i := y) (by omega) hsub
    refine .seq (.block (.seq (.seq (.drawK [(b, .cells l5 3)] (fun _ h => h) (by kernel_rfl) (by kernel_rfl) ?_))))
    refine .v (fun _ f => .move rfl) (.v (fun _ f => .move rfl) (.v (fun _ f => .indexN (y + 1) rfl rfl (by omega)) (.v (fun hs' f => .load (v := .int .i64 d5[y + 1]!) rfl (q0 hs' f)) (.v (fun _ f => .move rfl) (.v (fun _ f => .move rfl) (.v (fun _ f => .subE ((y : Nat) : Int) rfl rfl (by omega) (by omega)) (.v (fun _ f => .indexN (y) rfl rfl (by omega)) (.v (fun hs' f => .load (v := .int .i64 d5[y]!) rfl (q1 hs' f)) (.pc rfl rfl (fun w s => lessI_ok w _ _) (.v (fun _ f => .not rfl) (.nil ?_)))))))))))
    refine .cond rfl (fun g2 => .exit ?_) (fun g2 => .skip ?_)
    · rw [if_pos (by simpa using g2)] at h1
      exact ⟨(d5, l5), ⟨h1, k5⟩, .cons rfl (.cons rfl (.cons rfl (.cons rfl (.cons rfl (.nil _))))), fun _ s => s⟩
    rw [if_neg (by simpa using g2)] at h1
    clear q0 q1
    have k6 := k5.swp (i := y + 1) (j := y) (by omega) (by omega)
    have q0 := fun hs' hsub => k5.at_ (w0 := w) (own := [b]) (hs := hs') (i := y) (by omega) hsub
    have q1 := fun hs' hsub => k5.at_ (w0 := w) (own := [b]) (hs := hs') (i := y + 1) (by omega) hsub
    have hlen := k5.len
    generalize hD : swp d5 (y + 1) y = D at k6 h1
    generalize d5[y]! = x0 at q0 k6
    generalize d5[y + 1]! = x1 at q1 k6
    refine .drawY 15 [0, 1, 2, 3, 4, 5, 6, 7, 8, 9, 10, 11, 12, 13, 14, 15, 16, 17] [(b, .cells l5 3)] (fun _ h => h) (by kernel_rfl) (by kernel_rfl) ?_
    refine .x (fun _ _ _ => .move rfl) (.x (fun _ _ _ => .move rfl) (.x (fun _ _ _ => .move rfl) (.x (fun _ _ _ => .move rfl) (.x (fun _ _ _ => .subE ((y : Nat) : Int) rfl rfl (by omega) (by omega)) (.x (fun _ _ _ => .move rfl) (.x (fun _ _ _ => .move rfl) (.x (fun _ _ _ => .subE ((y : Nat) : Int) rfl rfl (by omega) (by omega)) (.x (fun _ _ _ => .indexN (y) rfl rfl (by omega)) (.v (fun hs' f => .load (v := .int .i64 x0) rfl (q0 hs' f)) (.x (fun _ _ _ => .move rfl) (.x (fun _ _ _ => .move rfl) (.x (fun _ _ _ => .indexN (y + 1) rfl rfl (by omega)) (.v (fun hs' f => .load (v := .int .i64 x1) rfl (q1 hs' f)) (.x (fun _ _ _ => .indexN (y + 1) rfl rfl (by omega)) (.st (.store rfl rfl rfl (by omega)) (.x (fun _ _ _ => .indexN (y) rfl rfl (by omega)) (.st2 (.store rfl rfl rfl (by rw [List.length_set]; omega)) (.nil ?_))))))))))))))))))
    refine .region (.v (.move rfl) (.v (.subE ((y : Nat) : Int) rfl rfl (by omega) (by omega)) (.v (.assign rfl) (.nil ?_))))
    exact ⟨⟨y, D, (l5.set (o + (y + 1)) (.int .i64 x0)).set (o + (y)) (.int .i64 x1)⟩, ⟨by show y ≤ i2 - 1; omega, k6, h1⟩, by show y < y + 1; omega, .cons rfl (.cons rfl (.cons rfl (.cons rfl (.cons rfl (.cons rfl (.nil _)))))), fun _ s => s⟩
  rintro ⟨d3, l3⟩ ⟨hd3, k3⟩
  try dsimp only at hd3 k3 ⊢
  rw [← hd3] at hR
  clear hd3 k2
  refine .seq ((.region (.v (.move rfl) (.v (.move rfl) (.v (.subE ((e - i2 : Nat) : Int) rfl rfl (by omega) (by omega)) (.v (.geq rfl rfl) (.nil ?_)))))))
  refine .cond_dec rfl (fun g5 => ?_) (fun g5 => .skip ?_)
  case refine_2 =>
    have hf : d3 = fixUp ltInt e i2 d3 := by unfold fixUp; rw [if_neg (by omega)]
    exact ⟨⟨0, i2, d3, l3⟩, ⟨⟨by show a + 1 ≤ i2; omega, f2⟩, k3, by show partialIns ltInt a e (5 - (t + 1)) i2 d3 = R; rw [← hR]; exact congrArg _ (hf)⟩, .cons rfl (.cons rfl (.cons rfl (.cons rfl (.cons rfl (.nil _))))), fun _ s => s⟩
  have hf : fixUp ltInt e i2 d3 = shiftUp ltInt e (i2 + 1) d3 := by unfold fixUp; rw [if_pos (by omega)]
  refine .seq ((.region (.v (.move rfl) (.v (.addE ((i2 + 1 : Nat) : Int) rfl rfl (by omega) (by omega)) (.v (.assign rfl) (.nil ?_))))))
  refine .block (.loop (X := SL) (fun x => [(0, .slice (some ⟨b, o, none⟩) n c), (1, .int .i64 a), (2, .int .i64 e), (7, .int .i64 i2), (8, .int .i64 t), (10, .int .i64 x.i)]) (fun x => [(b, .cells x.l 3)]) (fun x => (i2 + 1 ≤ x.i ∧ x.i ≤ e) ∧ SoI b o c n x.d x.l ∧ shiftUp ltInt e x.i x.d = fixUp ltInt e i2 d3) (fun x => e - x.i) ⟨i2 + 1, d3, l3⟩ ⟨⟨by show i2 + 1 ≤ i2 + 1; omega, by show i2 + 1 ≤ e; omega⟩, k3, hf.symm⟩ (.cons rfl (.cons rfl (.cons rfl (.cons rfl (.cons rfl (.cons rfl (.nil _))))))) (fun _ s => s) ?_)
  clear hf
  rintro ⟨y, d5, l5⟩ ⟨⟨hy1, hy2⟩, k5, h1⟩
  try dsimp only at hy1 hy2 k5 h1 ⊢
  refine .seq (.seq ((.region (.v (.move rfl) (.v (.move rfl) (.v (.lss rfl rfl) (.nil ?_)))))))
  refine .cond_dec rfl (fun g6 => .skip ?_) (fun g6 => .exit ?_)
  case refine_2 =>
    rw [shiftUp, if_neg (by omega)] at h1
    exact ⟨⟨0, i2, d5, l5⟩, ⟨⟨by show a + 1 ≤ i2; omega, f2⟩, k5, by show partialIns ltInt a e (5 - (t + 1)) i2 d5 = R; rw [← hR]; exact congrArg _ (h1)⟩, .cons rfl (.cons rfl (.cons rfl (.cons rfl (.cons rfl (.nil _))))), fun _ s => s⟩
  rw [shiftUp, if_pos (by omega)] at h1
  have q0 := fun hs' hsub => k5.at_ (w0 := w) (own := [b]) (hs := hs') (i := y) (by omega) hsub
  have q1 := fun hs' hsub => k5.at_ (w0 := w) (own := [b]) (hs := hs') (i := y - 1) (by omega) hsub
  refine .seq (.block (.seq (.seq (.drawK [(b, .cells l5 3)] (fun _ h => h) (by kernel_rfl) (by kernel_rfl) ?_))))
  refine .v (fun _ f => .move rfl) (.v (fun _ f => .move rfl) (.v (fun _ f => .indexN (y) rfl rfl (by omega)) (.v (fun hs' f => .load (v := .int .i64 d5[y]!) rfl (q0 hs' f)) (.v (fun _ f => .move rfl) (.v (fun _ f => .move rfl) (.v (fun _ f => .subE ((y - 1 : Nat) : Int) rfl rfl (by omega) (by omega)) (.v (fun _ f => .indexN (y - 1) rfl rfl (by omega)) (.v (fun hs' f => .load (v := .int .i64 d5[y - 1]!) rfl (q1 hs' f)) (.pc rfl rfl (fun w s => lessI_ok w _ _) (.v (fun _ f => .not rfl) (.nil ?_)))))))))))
  refine .cond rfl (fun g2 => .exit ?_) (fun g2 => .skip ?_)
  · rw [if_pos (by simpa using g2)] at h1
    exact ⟨⟨0, i2, d5, l5⟩, ⟨⟨by show a + 1 ≤ i2; omega, f2⟩, k5, by show partialIns ltInt a e (5 - (t + 1)) i2 d5 = R; rw [← hR]; exact congrArg _ (h1)⟩, .cons rfl (.cons rfl (.cons rfl (.cons rfl (.cons rfl (.nil _))))), fun _ s => s⟩
  rw [if_neg (by simpa using g2)] at h1
  clear q0 q1
  have k6 := k5.swp (i := y) (j := y - 1) (by omega) (by omega)
  have q0 := fun hs' hsub => k5.at_ (w0 := w) (own := [b]) (hs := hs') (i := y - 1) (by omega) hsub
  have q1 := fun hs' hsub => k5.at_ (w0 := w) (own := [b]) (hs := hs') (i := y) (by omega) hsub
  have hlen := k5.len
  generalize hD : swp d5 (y) (y - 1) = D at k6 h1
  generalize d5[y - 1]! = x0 at q0 k6
  generalize d5[y]! = x1 at q1 k6
  refine .drawY 15 [0, 1, 2, 3, 4, 5, 6, 7, 8, 9, 10, 11, 12, 13, 14, 15, 16, 17] [(b, .cells l5 3)] (fun _ h => h) (by kernel_rfl) (by kernel_rfl) ?_
  refine .x (fun _ _ _ => .move rfl) (.x (fun _ _ _ => .move rfl) (.x (fun _ _ _ => .move rfl) (.x (fun _ _ _ => .move rfl) (.x (fun _ _ _ => .subE ((y - 1 : Nat) : Int) rfl rfl (by omega) (by omega)) (.x (fun _ _ _ => .move rfl) (.x (fun _ _ _ => .move rfl) (.x (fun _ _ _ => .subE ((y - 1 : Nat) : Int) rfl rfl (by omega) (by omega)) (.x (fun _ _ _ => .indexN (y - 1) rfl rfl (by omega)) (.v (fun hs' f => .load (v := .int .i64 x0) rfl (q0 hs' f)) (.x (fun _ _ _ => .move rfl) (.x (fun _ _ _ => .move rfl) (.x (fun _ _ _ => .indexN (y) rfl rfl (by omega)) (.v (fun hs' f => .load (v := .int .i64 x1) rfl (q1 hs' f)) (.x (fun _ _ _ => .indexN (y) rfl rfl (by omega)) (.st (.store rfl rfl rfl (by omega)) (.x (fun _ _ _ => .indexN (y - 1) rfl rfl (by omega)) (.st2 (.store rfl rfl rfl (by rw [List.length_set]; omega)) (.nil ?_))))))))))))))))))
  refine .region (.v (.move rfl) (.v (.addE ((y + 1 : Nat) : Int) rfl rfl (by omega) (by omega)) (.v (.assign rfl) (.nil ?_))))
  exact ⟨⟨y + 1, D, (l5.set (o + (y)) (.int .i64 x0)).set (o + (y - 1)) (.int .i64 x1)⟩, ⟨⟨by show i2 + 1 ≤ y + 1; omega, by show y + 1 ≤ e; omega⟩, k6, h1⟩, by show e - (y + 1) < e - y; omega, .cons rfl (.cons rfl (.cons rfl (.cons rfl (.cons rfl (.cons rfl (.nil _)))))), fun _ s => s⟩
end Go.Proofs.Ytamldmgdhaoigaa

/- slices.pdqsortOrdered, Sort at int (printed by wip/gen/gen_pdq.py). -/
namespace Go.Proofs.Ytamldmgdhaoigaa
open Go.V
open Go.Sort (ltInt swp insertionSort heapSort reverseRange choosePivot partition partitionEqual partialInsertionSort PermIn SortedIn Below permIn_trans permIn_refl swo_ltInt)
set_option linter.unusedVariables false
set_option linter.unusedSimpArgs false
structure DS where
  a : Nat
  e : Nat
  t : Nat
  wb : Bool
  wp : Bool
  d : Array Int
  l : List Value
structure RS where
  p : Nat
  h : Int
  d : Array Int
  l : List Value
abbrev PdqR (b o c n a e : Nat) (d : Array Int) (hs : Hp) : Prop := ∃ d' l', hs = [(b, .cells l' 3)] ∧ SoI b o c n d' l' ∧ PermIn a e d d' ∧ SortedIn ltInt a e d'
set_option maxRecDepth 20000 in
theorem pdqI_ok : ∀ (N : Nat) (w : World) {b o c n : Nat} {d : Array Int} {l : List Value} (k : SoI b o c n d l) (a e t : Nat) (hN : e - a ≤ N) (hae : a ≤ e) (he : e ≤ n) (hn : n < 2305843009213693952) (ht : t < 2305843009213693952) (hB : Below ltInt a e d),
    Does Try.prog 62 [.slice (some ⟨b, o, none⟩) n c, .int .i64 a, .int .i64 e, .int .i64 t] [(b, .cells l 3)] w (fun _ hs => PdqR b o c n a e d hs) := by
  intro N
  induction N using Nat.strongRecOn with
  | ind N IH =>
  intro w b o c n d l k a e t hN hae he hn ht hB
  refine Does.of (n := 134) Try.func62 rfl rfl rfl rfl ?_
  refine .seq ((.region (.v (.assign rfl) (.nil ?_))))
  refine .seq ((.region (.v (.assign rfl) (.nil ?_))))
  refine .block (.loop (X := DS) (fun x => [(0, .slice (some ⟨b, o, none⟩) n c), (1, .int .i64 x.a), (2, .int .i64 x.e), (3, .int .i64 x.t), (8, .bool x.wb), (9, .bool x.wp)]) (fun x => [(b, .cells x.l 3)]) (fun x => (x.a ≤ x.e ∧ x.e ≤ n ∧ x.e - x.a ≤ N ∧ x.t < 2305843009213693952) ∧ SoI b o c n x.d x.l ∧ Below ltInt x.a x.e x.d ∧ ∀ R, PermIn x.a x.e x.d R → SortedIn ltInt x.a x.e R → PermIn a e d R ∧ SortedIn ltInt a e R) (fun x => x.e - x.a) ⟨a, e, t, true, true, d, l⟩ ⟨⟨hae, he, hN, ht⟩, k, hB, fun R h1 h2 => ⟨h1, h2⟩⟩ (.cons rfl (.cons rfl (.cons rfl (.cons rfl (.cons rfl (.cons rfl (.nil _))))))) (fun _ s => s) ?_)
  clear hN hae he ht hB k
  rintro ⟨a1, e1, t1, wb, wp, d1, l1⟩ ⟨⟨hae, he, hN, ht⟩, k1, hB, hC⟩
  dsimp only at hae he hN ht k1 hB hC ⊢
  have z1 : e1 ≤ d1.size := by rw [k1.sz]; exact he
  refine .block (.seq ((.region (.v (.move rfl) (.v (.move rfl) (.v (.subE ((e1 - a1 : Nat) : Int) rfl rfl (by omega) (by omega)) (.v (.assign rfl) (.nil ?_))))))))
  refine .seq (.seq ((.region (.v (.move rfl) (.v (.leq rfl rfl) (.nil ?_))))))
  refine .cond_dec rfl (fun h1 => ?_) (fun h1 => .skip ?_)
  · refine .seq ((.region (.v (.move rfl) (.v (.move rfl) (.v (.move rfl) ?_)))))
    refine .ef (.callT [(b, .cells l1 3)] rfl rfl fun w s => insI_ok w k1 a1 e1 he (by omega) (by omega)) ?_
    rintro _ _ ⟨_, ⟨l2, rfl, k2⟩, rfl⟩
    obtain ⟨p2, s2⟩ := Go.Sort.insertionSort_holds (lt := ltInt) swo_ltInt d1 a1 e1 hae z1
    refine .nil ?_
    exact .ret ⟨[], trivial, _, l2, rfl, k2, hC _ p2 s2⟩
  refine .seq (.seq ((.region (.v (.move rfl) (.v (.eqi rfl rfl) (.nil ?_))))))
  refine .cond_dec rfl (fun h2 => ?_) (fun h2 => .skip ?_)
  · refine .seq ((.region (.v (.move rfl) (.v (.move rfl) (.v (.move rfl) ?_)))))
    refine .ef (.callT [(b, .cells l1 3)] rfl rfl fun w s => heapI_ok w k1 a1 e1 hae he hn) ?_
    rintro _ _ ⟨_, ⟨l2, rfl, k2⟩, rfl⟩
    obtain ⟨p2, s2⟩ := Go.Sort.heapSort_holds (lt := ltInt) swo_ltInt d1 a1 e1 hae z1
    refine .nil ?_
    exact .ret ⟨[], trivial, _, l2, rfl, k2, hC _ p2 s2⟩
  refine .mid (X := RS) (fun x => [(0, .slice (some ⟨b, o, none⟩) n c), (1, .int .i64 a1), (2, .int .i64 e1), (3, .int .i64 x.p), (8, .bool wb), (9, .bool wp), (10, .int .i64 ((e1 - a1 : Nat) : Int))]) (fun x => [(b, .cells x.l 3)]) (fun x => x.p < 2305843009213693952 ∧ SoI b o c n x.d x.l ∧ PermIn a1 e1 d1 x.d) (.seq ((.region (.v (.move rfl) (.v (.not rfl) (.nil ?_)))))) ?_
  · refine .cond rfl (fun h3 => ?_) (fun h3 => .skip ?_)
    · refine .seq ((.region (.v (.move rfl) (.v (.move rfl) (.v (.move rfl) ?_)))))
      refine .ef (.callT [(b, .cells l1 3)] rfl rfl fun w s => breakI_ok w k1 a1 e1 hae he hn) ?_
      rintro _ _ ⟨_, ⟨d2, l2, rfl, k2, p2⟩, rfl⟩
      refine .nil ?_
      refine .region (.v (.move rfl) (.v (.subE ((t1 - 1 : Nat) : Int) rfl rfl (by omega) (by omega)) (.v (.assign rfl) (.nil ?_))))
      exact ⟨⟨t1 - 1, 0, d2, l2⟩, ⟨by show t1 - 1 < _; omega, k2, p2⟩, .cons rfl (.cons rfl (.cons rfl (.cons rfl (.cons rfl (.cons rfl (.cons rfl (.nil _))))))), fun _ s => s.take⟩
    · exact ⟨⟨t1, 0, d1, l1⟩, ⟨ht, k1, permIn_refl d1 a1 e1⟩, .cons rfl (.cons rfl (.cons rfl (.cons rfl (.cons rfl (.cons rfl (.cons rfl (.nil _))))))), fun _ s => s⟩
  rintro ⟨t2, _, d2, l2⟩ ⟨ht2, k2, p2⟩
  dsimp only at ht2 k2 p2 ⊢
  have z2 : e1 ≤ d2.size := by rw [k2.sz]; exact he
  refine .seq ((.region (.v (.move rfl) (.v (.move rfl) (.v (.move rfl) ?_)))))
  refine .ef (.call0 rfl rfl fun w s => chooseI_ok w k2.sz (OwnS.rd k2.own s (no := []) (fun y hy => by simp at hy; subst hy; simp) (by simp)) a1 e1 (by omega) he hn) ?_
  rintro _ _ ⟨_, ⟨rfl, rfl⟩, rfl⟩
  have hc := Go.Sort.choosePivot_holds ltInt d2 a1 e1 (by omega)
  refine .v (.move rfl) (.v (.extract rfl rfl) (.v (.extract rfl rfl) (.v (.assign rfl) (.v (.assign rfl) (.nil ?_)))))
  generalize choosePivot ltInt d2 a1 e1 = cp at hc ⊢
  obtain ⟨pv, hint⟩ := cp
  dsimp only at hc ⊢
  generalize hintV hint = hv
  refine .mid (X := RS) (fun x => [(0, .slice (some ⟨b, o, none⟩) n c), (1, .int .i64 a1), (2, .int .i64 e1), (3, .int .i64 t2), (8, .bool wb), (9, .bool wp), (10, .int .i64 ((e1 - a1 : Nat) : Int)), (11, .int .i64 x.p), (12, .int .i64 x.h)]) (fun x => [(b, .cells x.l 3)]) (fun x => (a1 ≤ x.p ∧ x.p < e1) ∧ SoI b o c n x.d x.l ∧ PermIn a1 e1 d1 x.d) (.seq ((.region (.v (.move rfl) (.v (.eqi rfl rfl) (.nil ?_)))))) ?_
  · refine .cond_dec rfl (fun h4 => ?_) (fun h4 => .skip ?_)
    · refine .seq ((.region (.v (.move rfl) (.v (.move rfl) (.v (.move rfl) ?_)))))
      refine .ef (.callT [(b, .cells l2 3)] rfl rfl fun w s => revI_ok w k2 a1 e1 (by omega) he hn) ?_
      rintro _ _ ⟨_, ⟨l3, rfl, k3⟩, rfl⟩
      have p3 := Go.Sort.reverseRange_holds d2 a1 e1 hae z2
      refine .nil ?_
      refine .seq ((.region (.v (.move rfl) (.v (.subE ((e1 - 1 : Nat) : Int) rfl rfl (by omega) (by omega)) (.v (.move rfl) (.v (.move rfl) (.v (.subE ((pv - a1 : Nat) : Int) rfl rfl (by omega) (by omega)) (.v (.subE ((e1 - 1 - (pv - a1) : Nat) : Int) rfl rfl (by omega) (by omega)) (.v (.assign rfl) (.nil ?_))))))))))
      refine .region (.v (.assign rfl) (.nil ?_))
      exact ⟨⟨e1 - 1 - (pv - a1), 1, _, l3⟩, ⟨⟨by show a1 ≤ e1 - 1 - (pv - a1); omega, by show e1 - 1 - (pv - a1) < e1; omega⟩, k3, permIn_trans _ _ _ _ _ p2 p3⟩, .cons rfl (.cons rfl (.cons rfl (.cons rfl (.cons rfl (.cons rfl (.cons rfl (.cons rfl (.cons rfl (.nil _))))))))), fun _ s => s.take⟩
    · exact ⟨⟨pv, hv, d2, l2⟩, ⟨hc, k2, p2⟩, .cons rfl (.cons rfl (.cons rfl (.cons rfl (.cons rfl (.cons rfl (.cons rfl (.cons rfl (.cons rfl (.nil _))))))))), fun _ s => s.take⟩
  clear hc k2 p2 z2
  rintro ⟨p, hv, d3, l3⟩ ⟨⟨hp1, hp2⟩, k3, p3⟩
  dsimp only at hp1 hp2 k3 p3 ⊢
  have z3 : e1 ≤ d3.size := by rw [k3.sz]; exact he
  have B3 := hB.perm z1 p3
  refine .mid (X := RS) (fun x => [(0, .slice (some ⟨b, o, none⟩) n c), (1, .int .i64 a1), (2, .int .i64 e1), (3, .int .i64 t2), (8, .bool wb), (9, .bool wp), (10, .int .i64 ((e1 - a1 : Nat) : Int)), (11, .int .i64 p)]) (fun x => [(b, .cells x.l 3)]) (fun x => SoI b o c n x.d x.l ∧ PermIn a1 e1 d1 x.d) (.seq ((.region (.v (.move rfl) (.v (.move rfl) (.and (b2 := wp) 62 63 1 1 rfl rfl (fun g1 => .v (.move rfl) (.nil ⟨rfl, rfl, rfl, rfl⟩)) (.v (.move rfl) (.and (b2 := decide (hv = 1)) 65 67 2 2 rfl rfl (fun g2 => .v (.move rfl) (.v (.eqi rfl rfl) (.nil ⟨rfl, rfl, rfl, rfl⟩))) (.nil ?_))))))))) ?_
  · refine .cond rfl (fun h5 => ?_) (fun h5 => .skip ?_)
    · refine .seq ((.region (.v (.move rfl) (.v (.move rfl) (.v (.move rfl) ?_)))))
      refine .ef (.callT [(b, .cells l3 3)] rfl rfl fun w s => partialI_ok w k3 a1 e1 (by omega) he hn) ?_
      rintro _ _ ⟨_, ⟨l4, rfl, rfl, k4⟩, rfl⟩
      obtain ⟨p4, s4⟩ := Go.Sort.partialInsertionSort_holds (lt := ltInt) swo_ltInt d3 a1 e1 (by omega) z3 B3
      refine .nil ?_
      refine .cond rfl (fun h6 => ?_) (fun h6 => .skip ?_)
      · exact .ret ⟨[], trivial, _, l4, rfl, k4, hC _ (permIn_trans _ _ _ _ _ p3 p4) (s4 h6)⟩
      · exact ⟨⟨0, 0, _, l4⟩, ⟨k4, permIn_trans _ _ _ _ _ p3 p4⟩, .cons rfl (.cons rfl (.cons rfl (.cons rfl (.cons rfl (.cons rfl (.cons rfl (.cons rfl (.nil _)))))))), fun _ s => s.take⟩
    · exact ⟨⟨0, 0, d3, l3⟩, ⟨k3, p3⟩, .cons rfl (.cons rfl (.cons rfl (.cons rfl (.cons rfl (.cons rfl (.cons rfl (.cons rfl (.nil _)))))))), fun _ s => s⟩
  clear k3 p3 z3 B3 h1 h2
  rintro ⟨_, _, d3, l3⟩ ⟨k3, p3⟩
  dsimp only at k3 p3 ⊢
  have z3 : e1 ≤ d3.size := by rw [k3.sz]; exact he
  have B3 := hB.perm z1 p3
  refine .mid (X := Unit) (fun _ => [(0, .slice (some ⟨b, o, none⟩) n c), (1, .int .i64 a1), (2, .int .i64 e1), (3, .int .i64 t2), (8, .bool wb), (9, .bool wp), (10, .int .i64 ((e1 - a1 : Nat) : Int)), (11, .int .i64 p)]) (fun _ => [(b, .cells l3 3)]) (fun _ => True) (.seq (.drawK [(b, .cells l3 3)] (fun _ h => h) (by kernel_rfl) (by kernel_rfl) ?_)) ?_
  · by_cases hg : 0 < a1
    case neg =>
      refine .v (fun _ f => .move rfl) (.v (fun _ f => .no (.gtr rfl rfl) (by omega)) (.v (fun _ f => .move rfl) (.and (b2 := true) 75 86 11 11 rfl rfl (fun g1 => absurd g1 (by simp)) (.nil ?_))))
      refine .cond_false rfl (.skip ?_)
      exact ⟨(), trivial, .cons rfl (.cons rfl (.cons rfl (.cons rfl (.cons rfl (.cons rfl (.cons rfl (.cons rfl (.nil _)))))))), fun _ s => s⟩
    have q0 := fun hs' hsub => k3.at_ (w0 := w) (own := [b]) (hs := hs') (i := a1 - 1) (by omega) hsub
    have q1 := fun hs' hsub => k3.at_ (w0 := w) (own := [b]) (hs := hs') (i := p) (by omega) hsub
    refine .v (fun _ f => .move rfl) (.v (fun _ f => .yes (.gtr rfl rfl) (by omega)) (.v (fun _ f => .move rfl) (.and (b2 := !ltInt d3[a1 - 1]! d3[p]!) 75 86 11 11 rfl rfl (fun g1 => .v (fun _ f => .move rfl) (.v (fun _ f => .move rfl) (.v (fun _ f => .subE ((a1 - 1 : Nat) : Int) rfl rfl (by omega) (by omega)) (.v (fun _ f => .indexN (a1 - 1) rfl rfl (by omega)) (.v (fun hs' f => .load (v := .int .i64 d3[a1 - 1]!) rfl (q0 hs' f)) (.v (fun _ f => .move rfl) (.v (fun _ f => .move rfl) (.v (fun _ f => .indexN p rfl rfl (by omega)) (.v (fun hs' f => .load (v := .int .i64 d3[p]!) rfl (q1 hs' f)) (.pc rfl rfl (fun w s => lessI_ok w _ _) (.v (fun _ f => .not rfl) (.nil ⟨rfl, rfl, rfl, rfl⟩)))))))))))) (.nil ?_))))
    refine .cond rfl (fun h7 => ?_) (fun h7 => .skip ?_)
    · have h7' : ltInt d3[a1 - 1]! d3[p]! = false := by simpa using h7
      obtain ⟨r1, r2, r3, r4, r5⟩ := Go.Sort.round_eq (lt := ltInt) swo_ltInt (Go.Sort.partitionEqual_holds _) hg hp1 hp2 z3 B3 h7' (mid := (partitionEqual ltInt d3 a1 e1 p).1) (d4 := (partitionEqual ltInt d3 a1 e1 p).2) rfl
      refine .seq ((.region (.v (.move rfl) (.v (.move rfl) (.v (.move rfl) (.v (.move rfl) ?_))))))
      refine .ef (.callT [(b, .cells l3 3)] rfl rfl fun w s => partEqI_ok w k3 a1 e1 p hp1 hp2 he hn) ?_
      generalize partitionEqual ltInt d3 a1 e1 p = pe at r1 r2 r3 r4 r5
      rintro _ _ ⟨_, ⟨l4, rfl, rfl, k4⟩, rfl⟩
      refine .v (.assign rfl) (.nil ?_)
      refine .seq ((.region (.v (.move rfl) (.v (.assign rfl) (.nil ?_)))))
      refine .exit ?_
      exact ⟨⟨pe.1, e1, t2, wb, wp, pe.2, l4⟩, ⟨⟨r2, he, by show e1 - pe.1 ≤ N; omega, ht2⟩, k4, r4, fun R u1 u2 => by obtain ⟨v1, v2⟩ := r5 R u1 u2; exact hC R (permIn_trans _ _ _ _ _ p3 v1) v2⟩, by show e1 - pe.1 < e1 - a1; omega, .cons rfl (.cons rfl (.cons rfl (.cons rfl (.cons rfl (.cons rfl (.nil _)))))), fun _ s => s.take⟩
    · exact ⟨(), trivial, .cons rfl (.cons rfl (.cons rfl (.cons rfl (.cons rfl (.cons rfl (.cons rfl (.cons rfl (.nil _)))))))), fun _ s => s⟩
  rintro _ _
  try dsimp only
  obtain ⟨r1, r2, r3, r4, r5, r6, r7⟩ := Go.Sort.round_part (lt := ltInt) swo_ltInt (Go.Sort.partition_holds _) hp1 hp2 z3 B3 (mid := (partition ltInt d3 a1 e1 p).1) (ap := (partition ltInt d3 a1 e1 p).2.1) (d4 := (partition ltInt d3 a1 e1 p).2.2) rfl
  refine .seq ((.region (.v (.move rfl) (.v (.move rfl) (.v (.move rfl) (.v (.move rfl) ?_))))))
  refine .ef (.callT [(b, .cells l3 3)] rfl rfl fun w s => partitionI_ok w k3 a1 e1 p hp1 hp2 he hn) ?_
  generalize partition ltInt d3 a1 e1 p = pe at r1 r2 r3 r4 r5 r6 r7
  obtain ⟨m, _, d4⟩ := pe
  dsimp only at r1 r2 r3 r4 r5 r6 r7
  rintro _ _ ⟨_, ⟨l4, f, rfl, rfl, k4⟩, rfl⟩
  dsimp only at k4
  have z4 : e1 ≤ d4.size := by rw [k4.sz]; exact he
  refine .v (.move rfl) (.v (.extract rfl rfl) (.v (.extract rfl rfl) (.v (.assign rfl) (.v (.assign rfl) (.nil ?_)))))
  refine .seq ((.region (.v (.move rfl) (.v (.assign rfl) (.nil ?_)))))
  refine .seq ((.region (.v (.move rfl) (.v (.move rfl) (.v (.subE ((m - a1 : Nat) : Int) rfl rfl (by omega) (by omega)) (.v (.move rfl) (.v (.move rfl) (.v (.subE ((e1 - m : Nat) : Int) rfl rfl (by omega) (by omega)) (.v (.assign rfl) (.v (.assign rfl) (.nil ?_)))))))))))
  refine .seq ((.region (.v (.move rfl) (.v (.quoN ((e1 - a1) / 8) rfl rfl (by decide) rfl (by omega) (by omega)) (.v (.assign rfl) (.nil ?_))))))
  refine .seq ((.region (.v (.move rfl) (.v (.move rfl) (.v (.lss rfl rfl) (.nil ?_))))))
  refine .cond_dec rfl (fun h8 => ?_) (fun h8 => ?_)
  · refine .seq ((.region (.v (.move rfl) (.v (.move rfl) (.v (.geq rfl rfl) (.v (.assign rfl) (.nil ?_)))))))
    refine .seq ((.region (.v (.move rfl) (.v (.move rfl) (.v (.move rfl) (.v (.move rfl) ?_))))))
    refine .ef (.callT [(b, .cells l4 3)] rfl rfl fun w s => IH (m - a1) (by omega) w k4 a1 m t2 (Nat.le_refl _) r1 (by omega) hn ht2 r4) ?_
    rintro _ _ ⟨_, ⟨d5, l5, rfl, k5, p5, s5⟩, rfl⟩
    obtain ⟨u1, u2⟩ := r6 d5 p5 s5
    refine .nil ?_
    refine .region (.v (.move rfl) (.v (.addE ((m + 1 : Nat) : Int) rfl rfl (by omega) (by omega)) (.v (.assign rfl) (.nil ?_))))
    exact ⟨⟨m + 1, e1, t2, _, f, d5, l5⟩, ⟨⟨by show m + 1 ≤ e1; omega, he, by show e1 - (m + 1) ≤ N; omega, ht2⟩, k5, u1, fun R v1 v2 => by obtain ⟨x1, x2⟩ := u2 R v1 v2; exact hC R (permIn_trans _ _ _ _ _ p3 x1) x2⟩, by show e1 - (m + 1) < e1 - a1; omega, .cons rfl (.cons rfl (.cons rfl (.cons rfl (.cons rfl (.cons rfl (.nil _)))))), fun _ s => s.take⟩
  · refine .seq ((.region (.v (.move rfl) (.v (.move rfl) (.v (.geq rfl rfl) (.v (.assign rfl) (.nil ?_)))))))
    refine .seq ((.region (.v (.move rfl) (.v (.move rfl) (.v (.addE ((m + 1 : Nat) : Int) rfl rfl (by omega) (by omega)) (.v (.move rfl) (.v (.move rfl) ?_)))))))
    refine .ef (.callT [(b, .cells l4 3)] rfl rfl fun w s => IH (e1 - (m + 1)) (by omega) w k4 (m + 1) e1 t2 (Nat.le_refl _) (by omega) he hn ht2 r5) ?_
    rintro _ _ ⟨_, ⟨d5, l5, rfl, k5, p5, s5⟩, rfl⟩
    obtain ⟨u1, u2⟩ := r7 d5 p5 s5
    refine .nil ?_
    refine .region (.v (.move rfl) (.v (.assign rfl) (.nil ?_)))
    exact ⟨⟨a1, m, t2, _, f, d5, l5⟩, ⟨⟨r1, by show m ≤ n; omega, by show m - a1 ≤ N; omega, ht2⟩, k5, u1, fun R v1 v2 => by obtain ⟨x1, x2⟩ := u2 R v1 v2; exact hC R (permIn_trans _ _ _ _ _ p3 x1) x2⟩, by show m - a1 < e1 - a1; omega, .cons rfl (.cons rfl (.cons rfl (.cons rfl (.cons rfl (.cons rfl (.nil _)))))), fun _ s => s.take⟩
/-- what sorting makes of a row of numbers -/
def srt (z : List Int) : List Int := z.mergeSort (fun x y => !ltInt y x)
theorem srt_len (z : List Int) : (srt z).length = z.length := List.length_mergeSort ..
set_option maxRecDepth 20000 in
theorem sortI_ok (w : World) {b o c : Nat} {z : List Int} {l : List Value} (k : OwnS 3 1 (.slice (some ⟨b, o, none⟩) z.length c) z.length (ints .i64 z) [(b, .cells l 3)]) (hn : z.length < 2305843009213693952) :
    Does Try.prog 28 [.slice (some ⟨b, o, none⟩) z.length c] [(b, .cells l 3)] w (fun _ hs => ∃ l', hs = [(b, .cells l' 3)] ∧ OwnS 3 1 (.slice (some ⟨b, o, none⟩) z.length c) z.length (ints .i64 (srt z)) [(b, .cells l' 3)]) := by
  have k0 : SoI b o c z.length z.toArray l := ⟨by simp, by simpa using k⟩
  refine Does.of (n := 11) Try.func28 rfl rfl rfl rfl ?_
  refine .seq ((.region (.v (.move rfl) (.v (.len rfl) (.v (.assign rfl) (.nil ?_))))))
  refine .region (.v (.move rfl) (.v (.move rfl) (.v (.move rfl) (.v (.convE (z.length : Int) rfl (wrap_u64_in (by omega))) ?_))))
  refine .ef (.call0 rfl rfl fun w s => len_ok w z.length (by omega)) ?_
  rintro _ _ ⟨_, ⟨t, h1, h2, rfl, rfl⟩, rfl⟩
  refine .ef (.callT [(b, .cells l 3)] rfl rfl fun w s => pdqI_ok z.length w k0 0 z.length t (Nat.le_refl _) (Nat.zero_le _) (Nat.le_refl _) hn (by omega) (.inl rfl)) ?_
  rintro _ _ ⟨_, ⟨d', l', rfl, k2, p2, s2⟩, rfl⟩
  refine .nil ?_
  have e1 := Go.Sort.sorted_unique_holds (lt := ltInt) swo_ltInt (fun x y h1 h2 => by simp [ltInt] at h1 h2; omega) z.toArray d' (by simpa using p2) (by simpa using s2)
  refine ⟨[], trivial, l', rfl, ?_⟩
  have := k2.own
  rw [e1] at this
  exact this
end Go.Proofs.Ytamldmgdhaoigaa

/- auction: at, best, Compact, ContainsFunc: the parts of Quote. -/
namespace Go.Proofs.Ytamldmgdhaoigaa
open Go.V
set_option linter.unusedVariables false
set_option linter.unusedSimpArgs false
set_option maxRecDepth 20000

theorem not64 {i : Int} (h : 0 ≤ i ∧ i < 18446744073709551616) : bop .xor .u64 (if IntKind.u64.signed then -1 else IntKind.u64.max) i = 18446744073709551615 - i := by
  obtain ⟨n, rfl⟩ := Int.eq_ofNat_of_zero_le h.1
  have hn : n < 2 ^ 64 := by omega
  have e1 : BitVec.ofInt 64 18446744073709551615 = BitVec.allOnes 64 := rfl
  have e2 : BitVec.ofInt 64 (n : Int) = BitVec.ofNat 64 n := BitVec.ofInt_natCast ..
  show IntKind.u64.wrap ((BitVec.ofInt 64 18446744073709551615 ^^^ BitVec.ofInt 64 (n : Int)).toNat : Int) = _
  rw [e1, e2, BitVec.allOnes_xor, BitVec.toNat_not, BitVec.toNat_ofNat, Nat.mod_eq_of_lt hn, wrap_u64_in (by omega)]
  show ((2 ^ 64 - 1 - n : Nat) : Int) = 18446744073709551615 - (n : Int)
  omega
theorem at_ok (w : World) (p : Nat) (C : Cl) (A : Option Addr) (c : Nat) (pr : Int) (h : ClR w p C A c) (hq : Qok C.L) : Is Try.prog 30 [.pointer (some ⟨p, 0, none⟩), .int .i64 pr] w (.agg ⟨(atQ C.L pr).cells⟩) := by
  obtain ⟨u1, u2, u3, u4⟩ := buyQ_le pr hq.2
  have hl := hq.1
  refine Does.pure (Does.of (n := 35) Try.func30 rfl rfl rfl rfl ?_)
  refine .seq ((.region (.nw .alloc fun b4 => (.nil ?_))))
  refine .seq ((.region (.v (.move rfl) (.v (.move rfl) (.pc rfl rfl (fun w s => Curve_ok w p C A c pr (h.keep0 s rfl) hq) (.v (.move rfl) (.v (.extract rfl rfl) (.v (.extract rfl rfl) (.v (.assign rfl) (.v (.assign rfl) (.nil ?_)))))))))))
  unfold atQ
  generalize buyQ pr C.L = b at u1 u2
  generalize sellQ pr C.L = s at u3 u4
  refine .seq ((.region (.v (.move rfl) (.v (.move rfl) (.v (.move rfl) (.v (.min2 rfl rfl) (.v (.move rfl) (.v (.move rfl) ?_))))))))
  refine .v (.max2 rfl rfl) ?_
  refine .v (.move rfl) (.v (.move rfl) (.v (.min2 rfl rfl) (.v (.subU (max b s - min b s) rfl rfl rfl (by omega)) (.v (.build (out := (⟨pr, min b s, max b s - min b s, 0, 0⟩ : Qt).cells) rfl rfl) (.nw .alloc fun b7 => (.st (.sw rfl rfl) (.nil ?_)))))))
  refine .mid (X := Unit) (fun _ => [(4, .pointer (some ⟨b4, 0, none⟩)), (7, .pointer (some ⟨b7, 0, none⟩))]) (fun _ => [(b7, .cells (⟨pr, min b s, max b s - min b s, if s < b then 1 else if b < s then 2 else 0, 0⟩ : Qt).cells 30), (b4, .cells qt0.cells 30)]) (fun _ => True) (.seq ((.region (.v (.move rfl) (.v (.move rfl) (.v (.gtr rfl rfl) (.nil ?_))))))) ?_
  · refine .cond_dec rfl (fun h1 => ?_) (fun h1 => ?_)
    · refine .region (.v (.fieldAddr rfl) (.st (.storeL rfl rfl rfl) (.nil ?_)))
      refine ⟨(), trivial, .cons rfl (.cons rfl (.nil _)), fun w s => ?_⟩
      rw [if_pos (by omega)]; exact s
    · refine .seq ((.region (.v (.move rfl) (.v (.move rfl) (.v (.gtr rfl rfl) (.nil ?_))))))
      refine .cond_dec rfl (fun h2 => ?_) (fun h2 => .skip ?_)
      · refine .region (.v (.fieldAddr rfl) (.st (.storeL rfl rfl rfl) (.nil ?_)))
        refine ⟨(), trivial, .cons rfl (.cons rfl (.nil _)), fun w s => ?_⟩
        rw [if_neg (by omega), if_pos (by omega)]; exact s
      · refine ⟨(), trivial, .cons rfl (.cons rfl (.nil _)), fun w s => ?_⟩
        rw [if_neg (by omega), if_neg (by omega)]; exact s
  rintro ⟨⟩ -
  try dsimp only
  refine .seq ((.region (.v (.loadA (vs := (⟨pr, min b s, max b s - min b s, if s < b then 1 else if b < s then 2 else 0, 0⟩ : Qt).cells) rfl .whole rfl) (.st (.sw rfl rfl) (.nil ?_)))))
  exact .ret ⟨[_], ⟨⟨_, rfl, .inr ⟨5, _, inferInstance, rfl, rfl, .whole⟩⟩, trivial⟩, rfl⟩
/-! ### numbers of quotes -/
theorem nVol_ok (w : World) (q : Qt) (h : 0 ≤ q.vol ∧ q.vol < 18446744073709551616) : Is Try.prog 32 [.agg ⟨q.cells⟩] w (.int .u64 (nVol q)) := by
  refine Does.pure (Does.of (n := 6) Try.func32 rfl rfl rfl rfl ?_)
  refine .seq ((.region (.nw (.box (l := q.cells) rfl rfl) fun b1 => (.v (.assign rfl) (.nil ?_)))))
  refine .seq ((.region (.v (.fieldAddr rfl) (.v (.load (v := .int .u64 q.vol) rfl (.one rfl)) (.v (.as (.not_bits rfl) (congrArg (Value.int .u64) (not64 h))) (.v (.assign rfl) (.nil ?_)))))))
  exact .ret ⟨[_], ⟨rfl, trivial⟩, rfl⟩
theorem nSur_ok (w : World) (q : Qt) : Is Try.prog 34 [.agg ⟨q.cells⟩] w (.int .u64 q.sur) := by
  refine Does.pure (Does.of (n := 5) Try.func34 rfl rfl rfl rfl ?_)
  refine .seq ((.region (.nw (.box (l := q.cells) rfl rfl) fun b1 => (.v (.assign rfl) (.nil ?_)))))
  refine .seq ((.region (.v (.fieldAddr rfl) (.v (.load (v := .int .u64 q.sur) rfl (.one rfl)) (.v (.assign rfl) (.nil ?_))))))
  exact .ret ⟨[_], ⟨rfl, trivial⟩, rfl⟩
theorem ruled_ok (w : World) (q : Qt) (r : Int) : Is Try.prog 33 [.agg ⟨q.cells⟩, .int .i64 r] w (.agg ⟨(ruledQ q r).cells⟩) := by
  refine Does.pure (Does.of (n := 8) Try.func33 rfl rfl rfl rfl ?_)
  refine .seq ((.region (.nw (.box (l := q.cells) rfl rfl) fun b2 => (.nw .alloc fun b3 => (.nil ?_)))))
  refine .seq ((.region (.v (.move rfl) (.v (.fieldAddr rfl) (.st (.storeL rfl rfl rfl) (.nil ?_))))))
  refine .seq ((.region (.v (.loadA (vs := (ruledQ q r).cells) rfl .whole rfl) (.st (.sw rfl rfl) (.nil ?_)))))
  exact .ret ⟨[_], ⟨⟨_, rfl, .inr ⟨5, _, inferInstance, rfl, rfl, .whole⟩⟩, trivial⟩, rfl⟩
abbrev OwnQ (v : Value) (l : List Qt) (h : Hp) : Prop := OwnS 30 5 v l.length (qrows l) h
abbrev QB (b : Nat) (q : Qt) : Nat × Ch := (b, .cells q.cells 30)
theorem best_snoc (f : Qt → Int) {l : List Qt} {i : Nat} (h : i < l.length) : best f (l.take (i + 1)) = bestS f (best f (l.take i)) l[i] := by
  unfold best
  rw [List.take_add_one, List.getElem?_eq_getElem h]
  show (l.take i ++ [l[i]]).foldl (bestS f) [] = _
  rw [List.foldl_append]; rfl
theorem bestS_cons (f : Qt → Int) (y : Qt) (r : List Qt) (x : Qt) : bestS f (y :: r) x = if f x < f y then [x] else if f x = f y then (y :: r) ++ [x] else y :: r := rfl
structure BeS where
  i : Nat
  v : Value
  h : Hp
theorem bestU_ok (w : World) (A : Option Addr) (n c g : Nat) [hg : FnT Try.prog g] (cap : List Value) (f : Qt → Int) (l : List Qt) (hA : Rd w [] A (qrows l)) (hn : n = l.length) (hb : n ≤ 1000000) (hc : ∀ (hs : Hp) (w' : World), Sat w [] hs w' → ∀ x ∈ l, Is Try.prog g (.agg ⟨x.cells⟩ :: cap) w' (.int .u64 (f x))) :
    Does Try.prog 31 [.slice A n c, .func (.func g) #[] ⟨cap⟩] [] w (fun v hs => OwnQ v (best f l) hs) := by
  subst hn
  refine Does.less (Does.of (n := 48) Try.func31 rfl rfl rfl rfl ?_)
  refine .seq ((.region (.v (.assign rfl) (.nil ?_))))
  refine .seq ((.region (.v (.assign rfl) (.nil ?_))))
  refine .seq (.seq ((.region (.v (.move rfl) (.v (.len rfl) (.v (.move rfl) (.nil ?_)))))))
  refine .block (.loop (X := BeS) (fun x => [(1, .func (.func g) #[] ⟨cap⟩), (5, x.v), (8, .slice A l.length c), (9, .int .i64 l.length), (10, .int .i64 x.i)]) (fun x => x.h) (fun x => x.i ≤ l.length ∧ OwnQ x.v (best f (l.take x.i)) x.h ∧ (best f (l.take x.i)).length ≤ x.i ∧ ∀ y ∈ best f (l.take x.i), y ∈ l) (fun x => l.length - x.i) ⟨0, .slice none 0 0, []⟩ ⟨Nat.zero_le _, OwnS.nil _ _, Nat.le_refl _, fun y hy => by cases hy⟩ (.cons rfl (.cons rfl (.cons rfl (.cons rfl (.cons rfl (.nil _)))))) (fun _ s => s) ?_)
  rintro ⟨i, v, h⟩ ⟨hi, o, hlen, hin⟩
  dsimp only at hi o hlen hin ⊢
  obtain ⟨Ar, cr, rfl⟩ := o.slice
  refine .seq ((.region (.v (.lss rfl rfl) (.nil ?_))))
  refine .seq (.cond_dec rfl (fun h1 => .skip ?_) (fun h1 => .exit ?_))
  case refine_2 =>
    have : i = l.length := by omega
    subst this
    rw [List.take_length] at o hlen ⊢
    refine .seq ((.region (.v (.move rfl) (.v (.assign rfl) (.nil ?_)))))
    exact .ret ⟨[_], ⟨rfl, trivial⟩, h, fun _ s => s, o⟩
  have hil : i < l.length := by omega
  obtain ⟨ba, oa, rfl, hca⟩ := Rd.recs Qt.cells 5 (fun _ => rfl) hA (by omega) (by omega)
  have q1 := fun hs' => recAt Qt.cells 5 (fun _ => rfl) (z := (i : Int)) (hca hs') hil
  have hS := best_snoc f hil
  have hq := hc
  have hmem := List.getElem_mem hil
  generalize l[i] = x at q1 hS hmem
  generalize best f (l.take i) = r at o hlen hin hS
  refine .mid (X := BeS) (fun y => [(1, .func (.func g) #[] ⟨cap⟩), (5, y.v), (8, .slice (some ⟨ba, oa, none⟩) l.length c), (9, .int .i64 l.length), (10, .int .i64 (i : Nat))]) (fun y => y.h) (fun y => OwnQ y.v (bestS f r x) y.h) (.block (.seq ((.region (.v (.indexAddr rfl rfl (by omega) (by omega)) (.v (.loadA (vs := x.cells) rfl (q1 _) rfl) (.nw .alloc fun b7 => (.st (.sw rfl rfl) (.nil ?_))))))))) ?_
  · cases r with
    | nil =>
      refine .seq (.seq ((.drawP [0, 1, 2, 3, 4, 5, 7, 8, 9, 10, 6, 11, 12, 13] [QB b7 x] (by intro y hy; simp at hy ⊢; exact .inl hy) (by kernel_rfl) (by kernel_rfl) ?_)))
      refine .v (fun _ f => .move rfl) (.v (fun _ f => .len rfl) (.v (fun _ f => .no (.gtr rfl rfl) (by simp)) (.v (fun _ f => .move rfl) (.and (b2 := true) 17 26 9 9 rfl rfl (fun g1 => absurd g1 (by simp)) (.nil ?_)))))
      refine .cond_false rfl (.skip ?_)
      refine .seq ((.drawP [0, 1, 2, 3, 4, 5, 7, 8, 9, 10, 6, 11, 12, 13] [QB b7 x] (by intro y hy; simp at hy ⊢; exact .inl hy) (by kernel_rfl) (by kernel_rfl) ?_))
      refine .v (fun _ f => .move rfl) (.v (fun _ f => .len rfl) (.v (fun _ f => .yes (.eqi rfl rfl) (by simp)) (.v (fun _ f => .move rfl) (.or (b2 := true) 31 40 9 9 rfl rfl (fun g1 => absurd g1 (by simp)) (.nil ?_)))))
      refine .cond_true rfl ?_
      refine .region (.v (.move rfl) (.v (.loadA (vs := x.cells) rfl .whole rfl) ?_))
      refine .push (h := h) (oc := x.cells) (c := 0) (vs := []) rfl rfl o rfl rfl rfl (by omega) (by omega) fun bn vn hn on => .v (.assign rfl) (.nil ?_)
      exact ⟨⟨0, vn, hn⟩, on, .cons rfl (.cons rfl (.cons rfl (.cons rfl (.cons rfl (.nil _))))), fun _ s => s.take⟩
    | cons y r =>
      obtain ⟨br, or_, lr, rfl, -, rfl, -, -, -⟩ := OwnS.some_ o (by simp)
      have qy : ∀ own hs', [(br, Ch.cells lr 30)] ⊆ hs' → At w own hs' ⟨br, or_, none⟩ y.cells := fun own hs' hsub => by
        have := recAt (w0 := w) (own := own) (hs := hs') Qt.cells 5 (fun _ => rfl) (z := 0) (OwnS.at0 o hsub) (i := 0) (by simp)
        simpa using this
      have hy := hin y List.mem_cons_self
      have hlr : 0 < (y :: r).length := by simp
      refine .seq (.seq ((.drawP [0, 1, 2, 3, 4, 5, 7, 8, 9, 10, 6, 11, 12, 13] [QB b7 x, (br, .cells lr 30)] (by intro y hy; simp at hy ⊢; exact hy) (by kernel_rfl) (by kernel_rfl) ?_)))
      refine .v (fun _ f => .move rfl) (.v (fun _ f => .len rfl) (.v (fun _ f => .yes (.gtr rfl rfl) (by simp)) (.v (fun _ f => .move rfl) (.and (b2 := decide (f x < f y)) 17 26 9 9 rfl rfl (fun g1 => .v (fun _ f => .move rfl) (.v (fun _ f => .loadA (vs := x.cells) rfl (.whole (hb := .sub f)) rfl) (.v (fun _ f => .move rfl) (.v (fun _ f => .move rfl) (.v (fun _ f => .indexM 0 rfl rfl hlr) (.v (fun _ f => .loadA (vs := y.cells) rfl (by rw [Nat.zero_mul]; exact qy _ _ (fun u hu => f (by simp at hu; subst hu; simp))) rfl) (.pc rfl rfl (fun w s => hc _ w s x hmem) (.pc rfl rfl (fun w s => hc _ w s y hy) (.v (fun _ f => .lss rfl rfl) (.nil ⟨rfl, rfl, rfl, rfl⟩)))))))))) (.nil ?_)))))
      by_cases c1 : f x < f y
      · have e : bestS f (y :: r) x = [x] := if_pos c1
        rw [e]
        refine .cond_true (by show some (Value.bool _) = _; rw [decide_eq_true c1]; rfl) (.region (.v (.assign rfl) (.nil ?_)))
        refine .seq ((.drawP [0, 1, 2, 3, 4, 5, 7, 8, 9, 10, 6, 11, 12, 13] [QB b7 x] (by intro y hy; simp at hy ⊢; exact .inl hy) (by kernel_rfl) (by kernel_rfl) ?_))
        refine .v (fun _ f => .move rfl) (.v (fun _ f => .len rfl) (.v (fun _ f => .yes (.eqi rfl rfl) (by simp)) (.v (fun _ f => .move rfl) (.or (b2 := true) 31 40 9 9 rfl rfl (fun g1 => absurd g1 (by simp)) (.nil ?_)))))
        refine .cond_true rfl ?_
        refine .region (.v (.move rfl) (.v (.loadA (vs := x.cells) rfl .whole rfl) ?_))
        refine .push (h := []) (oc := x.cells) (c := 0) (vs := []) rfl rfl (OwnS.nil _ _) rfl rfl rfl (by omega) (by omega) fun bn vn hn on => .v (.assign rfl) (.nil ?_)
        exact ⟨⟨0, vn, hn⟩, on, .cons rfl (.cons rfl (.cons rfl (.cons rfl (.cons rfl (.nil _))))), fun _ s => s.take⟩
      · refine .cond_false (by show some (Value.bool _) = _; rw [decide_eq_false c1]; rfl) (.skip ?_)
        refine .seq ((.drawP [0, 1, 2, 3, 4, 5, 7, 8, 9, 10, 6, 11, 12, 13] [QB b7 x, (br, .cells lr 30)] (by intro y hy; simp at hy ⊢; exact hy) (by kernel_rfl) (by kernel_rfl) ?_))
        refine .v (fun _ f => .move rfl) (.v (fun _ f => .len rfl) (.v (fun _ f => .no (.eqi rfl rfl) (by simp; omega)) (.v (fun _ f => .move rfl) (.or (b2 := decide (f x = f y)) 31 40 9 9 rfl rfl (fun g1 => .v (fun _ f => .move rfl) (.v (fun _ f => .loadA (vs := x.cells) rfl (.whole (hb := .sub f)) rfl) (.v (fun _ f => .move rfl) (.v (fun _ f => .move rfl) (.v (fun _ f => .indexM 0 rfl rfl hlr) (.v (fun _ f => .loadA (vs := y.cells) rfl (by rw [Nat.zero_mul]; exact qy _ _ (fun u hu => f (by simp at hu; subst hu; simp))) rfl) (.pc rfl rfl (fun w s => hc _ w s x hmem) (.pc rfl rfl (fun w s => hc _ w s y hy) (.v (fun _ f => .eqi rfl rfl) (.nil ⟨rfl, rfl, rfl, rfl⟩)))))))))) (.nil ?_)))))
        by_cases c2 : f x = f y
        · have e : bestS f (y :: r) x = (y :: r) ++ [x] := by rw [bestS_cons, if_neg c1, if_pos c2]
          rw [e]
          refine .cond_true (by show some (Value.bool _) = _; rw [decide_eq_true c2]; rfl) ?_
          refine .region (.v (.move rfl) (.v (.loadA (vs := x.cells) rfl .whole rfl) ?_))
          refine .push (h := [(br, .cells lr 30)]) (oc := x.cells) (c := (y :: r).length) (vs := qrows (y :: r)) rfl rfl o rfl rfl rfl (by omega) (by omega) fun bn vn hn on => .v (.assign rfl) (.nil ?_)
          refine ⟨⟨0, vn, hn⟩, ?_, .cons rfl (.cons rfl (.cons rfl (.cons rfl (.cons rfl (.nil _))))), fun _ s => s.take⟩
          show OwnS 30 5 vn ((y :: r) ++ [x]).length (qrows ((y :: r) ++ [x])) hn
          rw [List.length_append, show qrows ((y :: r) ++ [x]) = qrows (y :: r) ++ x.cells by simp [qrows]]
          exact on
        · have e : bestS f (y :: r) x = y :: r := by rw [bestS_cons, if_neg c1, if_neg c2]
          rw [e]
          refine .cond_false (by show some (Value.bool _) = _; rw [decide_eq_false c2]; rfl) (.skip ?_)
          exact ⟨⟨0, _, [(br, .cells lr 30)]⟩, o, .cons rfl (.cons rfl (.cons rfl (.cons rfl (.cons rfl (.nil _))))), fun _ s => s.take⟩
  rintro ⟨_, v', h'⟩ o'
  dsimp only at o' ⊢
  refine .region (.v (.addi rfl rfl (by omega)) (.v (.move rfl) (.nil ?_)))
  refine ⟨⟨i + 1, v', h'⟩, ⟨by show i + 1 ≤ _; omega, by rw [hS]; exact o', ?_, ?_⟩, by show l.length - (i + 1) < l.length - i; omega, .cons rfl (.cons rfl (.cons rfl (.cons rfl (.cons rfl (.nil _))))), fun _ s => s⟩
  · show (best f (l.take (i + 1))).length ≤ i + 1
    rw [hS]; unfold bestS
    split
    · simp
    · split
      · simp
      · split
        · simp only [List.length_append, List.length_cons, List.length_nil] at hlen ⊢; omega
        · omega
  · show ∀ y ∈ best f (l.take (i + 1)), y ∈ l
    rw [hS]; unfold bestS
    intro y hy
    split at hy
    · rw [List.mem_singleton.1 hy]; exact hmem
    · split at hy
      · rw [List.mem_singleton.1 hy]; exact hmem
      · split at hy
        · rcases List.mem_append.1 hy with hy | hy
          · exact hin y hy
          · rw [List.mem_singleton.1 hy]; exact hmem
        · exact hin y hy
end Go.Proofs.Ytamldmgdhaoigaa
