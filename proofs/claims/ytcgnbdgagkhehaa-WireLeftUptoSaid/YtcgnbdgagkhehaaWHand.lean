/- bourseref02.Sum, bourselaw02.hand, bourselaw02.left: what they compute. -/
import Derived.Test.YtcgnbdgagkhehaaWSum
namespace Go.Proofs.Ytcgnbdgagkhehaa
open Go.V
set_option linter.unusedVariables false

theorem conv_i (b : BitVec 8) : ((b.setWidth 32).toNat : Int) = (b.toNat : Int) := by
  have := b.isLt
  simp; omega
theorem rem2 (c : BitVec 32) : (c.toNat : Int).tmod 2 = 1 ↔ c &&& 1#32 = 1#32 := by
  rw [← BitVec.toNat_inj, BitVec.toNat_and]
  simp only [show (1#32).toNat = 1 from rfl, Nat.and_one_is_mod]
  rw [Int.tmod_eq_emod_of_nonneg (by omega)]
  omega
theorem quo2 (c : BitVec 32) : IntKind.u32.wrap ((c.toNat : Int).tdiv 2) = (c >>> 1).toNat := by
  have h := wrap_u32 (c >>> 1)
  rw [Int.tdiv_eq_ediv_of_nonneg (by omega)]
  have e : ((c >>> 1).toNat : Int) = (c.toNat : Int) / 2 := by simp [Nat.shiftRight_eq_div_pow]
  rw [← e]; exact h
theorem crc_not' (xs : List (BitVec 8)) : bop .xor .u32 ((sumAll 0xffffffff#32 xs).toNat : Int) 4294967295 = (crc xs).toNat := by
  have h := xor32 (sumAll 0xffffffff#32 xs) 0xffffffff#32
  rw [show ((0xffffffff#32).toNat : Int) = 4294967295 from rfl] at h
  rw [h, crc]
  congr 2
  rw [BitVec.xor_comm, show (0xffffffff#32) = BitVec.allOnes 32 from by decide, BitVec.allOnes_xor]

theorem refSum_ok (w : World) (A : Option Addr) (len cap : Nat) (xs : List (BitVec 8)) (hx : Rd w [] A (byts xs)) (hl : len = xs.length) (hb : len ≤ 140737488355328) :
    Does Try.prog 15 [.slice A len cap] [] w (fun v hs => v = .int .u32 (crc xs).toNat ∧ hs = []) := by
  refine Does.of (n := 34) Try.func15 rfl rfl rfl rfl ?_
  refine .seq ((.region (.v (.assign rfl) (.nil ?_))))
  refine .seq ((.region (.v (.assign rfl) (.nil ?_))))
  refine .seq (.seq ((.region (.v (.assign rfl) (.nil ?_)))))
  refine .block (.loop (X := Nat) (fun k => [(0, .slice A len cap), (3, .int .u32 (sumAll 0xffffffff#32 (xs.take k)).toNat), (4, .int .i64 k)]) (fun x => []) (fun k => k ≤ len) (fun k => len - k) 0 (by omega)
    (.cons rfl (.cons rfl (.cons rfl (.nil _)))) (fun _ s => s) ?_)
  intro k hk
  refine .seq (.seq ((.region (.v (.move rfl) (.v (.move rfl) (.v (.len rfl) (.v (.lss rfl rfl) (.nil ?_))))))))
  refine .cond_dec rfl (fun h1 => .skip ?_) (fun h1 => .exit ?_)
  · have hk' : k < xs.length := by omega
    obtain ⟨b, o, rfl, hc⟩ := Rd.at_ (own := bl []) (hs := []) hx (byts_get hk')
    refine .seq (.block (.seq ((.region (.v (.move rfl) (.v (.move rfl) (.v (.move rfl) (.v (.indexAddr1 rfl rfl (by omega) (by omega)) (.v (.load rfl hc) (.v (.conv rfl) (.v (.xor rfl rfl) (.v (.assign rfl) (.nil ?_)))))))))))))
    refine .seq ((.region (.v (.assign rfl) (.nil ?_))))
    refine .block (.loop (X := Nat) (fun i => [(0, .slice (some ⟨b, o, none⟩) len cap), (3, .int .u32 (sumBits i (sumAll 0xffffffff#32 (xs.take k) ^^^ (xs[k]).setWidth 32)).toNat), (4, .int .i64 k), (5, .int .i64 i)]) (fun x => []) (fun i => i ≤ 8) (fun i => 8 - i) 0 (by omega)
      (.cons rfl (.cons (congrArg some (by rw [conv8_32, xor32]; rfl)) (.cons rfl (.cons rfl (.nil _))))) (fun _ s => s) ?_)
    intro i hi
    refine .seq (.seq ((.region (.v (.move rfl) (.v (.lss rfl rfl) (.nil ?_))))))
    refine .cond_dec rfl (fun h2 => .skip ?_) (fun h2 => .exit ?_)
    · refine .seq (.block (.seq ((.region (.v (.move rfl) (.v (.rem rfl rfl (by decide)) (.v (.eqi rfl rfl) (.v (.assign rfl) (.nil ?_)))))))))
      refine .seq ((.region (.v (.move rfl) (.v (.quo rfl rfl (by decide)) (.v (.assign rfl) (.nil ?_))))))
      refine .seq ((.region (.v (.move rfl) (.nil ?_))))
      refine .cond_dec rfl (fun h3 => ?_) (fun h3 => .skip ?_)
      · refine .region (.v (.move rfl) (.v (.xor rfl rfl) (.v (.assign rfl) (.nil ?_))))
        refine .region (.v (.move rfl) (.v (.addi rfl rfl (by omega)) (.v (.assign rfl) (.nil ?_))))
        exact ⟨i + 1, by omega, by omega, .cons rfl (.cons (congrArg some (by rw [sumBits_succ, quo2, sumBit, if_pos ((rem2 _).1 h3), ← xor32]; rfl)) (.cons rfl (.cons rfl (.nil _)))), fun _ s => s⟩
      · refine .region (.v (.move rfl) (.v (.addi rfl rfl (by omega)) (.v (.assign rfl) (.nil ?_))))
        exact ⟨i + 1, by omega, by omega, .cons rfl (.cons (congrArg some (by rw [sumBits_succ, quo2, sumBit, if_neg (fun k => h3 ((rem2 _).2 k))])) (.cons rfl (.cons rfl (.nil _)))), fun _ s => s⟩
    · refine .region (.v (.move rfl) (.v (.addi rfl rfl (by omega)) (.v (.assign rfl) (.nil ?_))))
      refine ⟨k + 1, by omega, by omega, .cons rfl (.cons (congrArg some ?_) (.cons rfl (.nil _))), fun _ s => s⟩
      have : i = 8 := by omega
      subst this
      rw [sumAll_take _ _ _ hk']; rfl
  · refine .seq ((.region (.v (.move rfl) (.v (.xor rfl rfl) (.v (.assign rfl) (.nil ?_))))))
    refine .ret ?_
    refine ⟨[_], ⟨rfl, trivial⟩, ?_, rfl⟩
    have : k = xs.length := by omega
    subst this
    rw [List.take_length, crc_not']; rfl

/-- the marks behind -/
def marks : List (BitVec 8) := [1#8, 2#8, 3#8, 4#8, 5#8]
theorem hand_ok (w : World) (A : Option Addr) (len cap : Nat) (xs : List (BitVec 8)) (hx : Rd w [] A (byts xs)) (hl : len = xs.length) (hb : len ≤ 140737488355000) :
    Does Try.prog 13 [.slice A len cap] [] w (fun v hs => OwnS 5 1 v (len + 5) (byts (xs ++ marks)) hs) := by
  refine Does.of (n := 10) Try.func13 rfl rfl rfl rfl ?_
  refine .seq ((.region (.v (.assign rfl) (.nil ?_))))
  refine .seq ((.region (.ef (.buildSlice rfl (by decide) rfl rfl) ?_)))
  rintro _ _ ⟨b1, rfl, rfl⟩
  refine .v (.move rfl) ?_
  refine .ef (.append (c := 0) (k := len) (vs := []) (news := byts xs) (h := [(b1, .cells [] 5)]) (fr := []) rfl rfl ⟨rfl, .inr ⟨b1, 0, 0, [], rfl, rfl, by omega, by simp, by simp⟩⟩ (List.Perm.refl _) (fun w' s => (hx.keep0 s).src (by simp [byts, hl]) (by omega)) (by simp [byts, hl]) (byts_ones _) (by omega) (by omega)) ?_
  rintro v _ ⟨h, ho, rfl⟩
  refine .v (.assign rfl) (.nil ?_)
  refine .seq ((.region (.v (.move rfl) (.ef (.buildSlice (out := byts marks) rfl (by decide) rfl rfl) ?_))))
  rintro _ _ ⟨b2, rfl, rfl⟩
  refine .ef (.append (c := 0 + len) (k := 5) (vs := [] ++ byts xs) (news := byts marks) (h := h) (fr := [(b2, .cells (byts marks) 5)]) rfl rfl ho ?_ (fun w' s => .of_at s ?_ rfl) rfl rfl (by omega) (by omega)) ?_
  · simpa using (List.perm_append_comm (l₁ := [(b2, Ch.cells (byts marks) 5)]) (l₂ := h))
  · exact At.whole (b := b2) (l := byts marks) (T := 5)
  rintro v' _ ⟨h', ho', rfl⟩
  refine .v (.assign rfl) (.nil ?_)
  refine .drop (hs' := h') (List.sublist_append_left _ _) (.ret ?_)
  refine ⟨[_], ⟨rfl, trivial⟩, ?_⟩
  simpa [byts_append, tup] using ho'

/-- are the bytes as they were, and the marks behind them? -/
theorem left_ok (w : World) (b o cap n c : Nat) (A : Option Addr) (l : List Value) (ys xs : List (BitVec 8)) (T m : Nat) (hm : m = ys.length) (hl : (l.drop o).take m = byts ys) (hlen : o + m ≤ l.length) (hcap : m ≤ cap)
    (hx : Rd w [b] A (byts xs)) (hn : n = xs.length) (hb : m ≤ 140737488355328) (hb2 : xs.length ≤ 140737488355328) :
    Does Try.prog 16 [.slice (some ⟨b, o, none⟩) m cap, .slice A n c] [(b, .cells l T)] w (fun v hs => v = .bool (decide (ys = xs ++ marks)) ∧ hs = []) := by
  refine Does.of (n := 23) Try.func16 rfl rfl rfl rfl ?_
  refine .seq ((.region (.v (.assign rfl) (.nil ?_))))
  refine .seq ((.region (.v (.move rfl) (.v (.bytesStrR (xs := ys) rfl hm.symm fun w' s => ?_) (.v (.move rfl) (.v (.bytesStrR (xs := xs) rfl hn.symm fun w' s => ?_) (.v (.add_string rfl rfl ?_) (.v (.eql_string rfl rfl) (.v (.assign rfl) (.nil ?_))))))))))
  · refine Rd.chunk s (by simp) fun j v hv => ?_
    rw [← hl, List.getElem?_take] at hv
    split at hv
    · rw [List.getElem?_drop] at hv; exact hv
    · cases hv
  · exact Rd.keep0 (own := bl [(b, Ch.cells l T)]) hx s
  · rw [strOf_size]; show xs.length + 5 ≤ _; omega
  refine .seq (.seq ((.region (.v (.assign rfl) (.nil ?_)))))
  refine .block (.loop (X := Nat × List Value) (fun x => [(0, .slice (some ⟨b, o, none⟩) m cap), (5, .bool (decide (ys = xs ++ marks))), (6, .int .i64 x.1)]) (fun x => [(b, .cells x.2 T)]) (fun x => x.1 ≤ m ∧ x.2.length = l.length) (fun x => m - x.1) (0, l) ⟨by omega, rfl⟩
    (.cons rfl (.cons (congrArg some ?_) (.cons rfl (.nil _)))) (fun _ s => s) ?_)
  · congr 1
    rw [show (ByteArray.mk #[1, 2, 3, 4, 5]) = strOf marks from rfl, strOf_append, Bool.eq_iff_iff]
    simp [strOf_inj]
  rintro ⟨k, l'⟩ ⟨hk, hl'⟩
  simp only at hk hl'
  refine .seq (.seq ((.region (.v (.move rfl) (.v (.move rfl) (.v (.len rfl) (.v (.lss rfl rfl) (.nil ?_))))))))
  refine .cond_dec rfl (fun h1 => .skip ?_) (fun h1 => .exit ?_)
  · refine .seq (.block ((.region (.v (.move rfl) (.v (.move rfl) (.v (.indexAddr1 rfl rfl (by omega) (by omega)) (.st (.store rfl rfl rfl (by simp; omega)) (.nil ?_))))))))
    refine .region (.v (.move rfl) (.v (.addi rfl rfl (by omega)) (.v (.assign rfl) (.nil ?_))))
    exact ⟨(k + 1, _), ⟨by simp only; omega, by simp [hl']⟩, by simp only; omega, .cons rfl (.cons rfl (.cons rfl (.nil _))), fun _ s => s⟩
  · refine .seq ((.region (.v (.move rfl) (.v (.assign rfl) (.nil ?_)))))
    refine .drop (hs' := []) (List.nil_sublist _) (.ret ?_)
    exact ⟨[_], ⟨rfl, trivial⟩, rfl, rfl⟩
end Go.Proofs.Ytcgnbdgagkhehaa
