/- wire.Sum: what it computes. -/
import Derived.Test.YtcgnbdgagkhehaaTy
import Derived.Test.YtcgnbdgagkhehaaWPure
namespace Go.Proofs.Ytcgnbdgagkhehaa
open Go.V
set_option linter.unusedVariables false

theorem Sum_ok (w : World) (A : Option Addr) (len cap : Nat) (xs : List (BitVec 8)) (hx : Rd w [] A (byts xs)) (hl : len = xs.length) (hb : len ≤ 140737488355328) :
    Does Try.prog 14 [.slice A len cap] [] w (fun v hs => v = .int .u32 (crc xs).toNat ∧ hs = []) := by
  refine Does.of (n := 30) Try.func14 rfl rfl rfl rfl ?_
  refine .seq ((.region (.v (.assign rfl) (.nil ?_))))
  refine .seq ((.region (.v (.assign rfl) (.nil ?_))))
  refine .seq (.seq ((.region (.v (.move rfl) (.v (.len rfl) (.v (.move rfl) (.nil ?_)))))))
  refine .block (.loop (X := Nat) (fun k => [(3, .int .u32 (sumAll 0xffffffff#32 (xs.take k)).toNat), (6, .slice A len cap), (7, .int .i64 len), (8, .int .i64 k)]) (fun x => []) (fun k => k ≤ len) (fun k => len - k) 0 (by omega)
    (.cons rfl (.cons rfl (.cons rfl (.cons rfl (.nil _))))) (fun _ s => s) ?_)
  intro k hk
  refine .seq ((.region (.v (.lss rfl rfl) (.nil ?_))))
  refine .seq (.cond_dec rfl (fun h1 => .skip ?_) (fun h1 => .exit ?_))
  · have hk' : k < xs.length := by omega
    obtain ⟨b, o, rfl, hc⟩ := Rd.at_ (own := bl []) (hs := []) hx (byts_get hk')
    refine .seq (.block (.seq ((.region (.v (.indexAddr1 rfl rfl (by omega) (by omega)) (.v (.load rfl hc) (.v (.assign rfl) (.nil ?_))))))))
    refine .seq ((.region (.v (.move rfl) (.v (.move rfl) (.v (.conv rfl) (.v (.xor rfl rfl) (.v (.assign rfl) (.nil ?_))))))))
    refine .seq ((.region (.v (.move rfl) (.nil ?_))))
    refine .block (.loop (X := Nat) (fun i => [(3, .int .u32 (sumBits i (sumAll 0xffffffff#32 (xs.take k) ^^^ (xs[k]).setWidth 32)).toNat), (6, .slice (some ⟨b, o, none⟩) len cap), (7, .int .i64 len), (8, .int .i64 k), (16, .int .i64 i)]) (fun x => []) (fun i => i ≤ 8) (fun i => 8 - i) 0 (by omega)
      (.cons (congrArg some (by rw [conv8_32, xor32]; rfl)) (.cons rfl (.cons rfl (.cons rfl (.cons rfl (.nil _)))))) (fun _ s => s) ?_)
    intro i hi
    refine .seq ((.region (.v (.lss rfl rfl) (.nil ?_))))
    refine .seq (.cond_dec rfl (fun h2 => .skip ?_) (fun h2 => .exit ?_))
    · refine .seq (.block (.seq ((.region (.v (.move rfl) (.v (.and rfl rfl) (.v (.eqi rfl rfl) (.nil ?_))))))))
      refine .cond_dec rfl (fun h3 => ?_) (fun h3 => ?_)
      · refine .region (.v (.move rfl) (.v (.shr rfl rfl (by omega)) (.v (.xor rfl rfl) (.v (.assign rfl) (.nil ?_)))))
        refine .region (.v (.addi rfl rfl (by omega)) (.v (.move rfl) (.nil ?_)))
        exact ⟨i + 1, by omega, by omega, .cons (congrArg some (by rw [sumBits_succ, sumBit_yes _ h3])) (.cons rfl (.cons rfl (.cons rfl (.cons rfl (.nil _))))), fun _ s => s⟩
      · refine .region (.v (.move rfl) (.v (.shr rfl rfl (by omega)) (.v (.assign rfl) (.nil ?_))))
        refine .region (.v (.addi rfl rfl (by omega)) (.v (.move rfl) (.nil ?_)))
        exact ⟨i + 1, by omega, by omega, .cons (congrArg some (by rw [sumBits_succ, sumBit_no _ h3])) (.cons rfl (.cons rfl (.cons rfl (.cons rfl (.nil _))))), fun _ s => s⟩
    · refine .region (.v (.addi rfl rfl (by omega)) (.v (.move rfl) (.nil ?_)))
      refine ⟨k + 1, by omega, by omega, .cons (congrArg some ?_) (.cons rfl (.cons rfl (.cons rfl (.nil _)))), fun _ s => s⟩
      have : i = 8 := by omega
      subst this
      rw [sumAll_take _ _ _ hk']; rfl
  · refine .seq ((.region (.v (.move rfl) (.v (.not_bits rfl) (.v (.assign rfl) (.nil ?_))))))
    refine .ret ?_
    refine ⟨[_], ⟨rfl, trivial⟩, ?_, rfl⟩
    have : k = xs.length := by omega
    subst this
    rw [List.take_length, crc_not]; rfl
end Go.Proofs.Ytcgnbdgagkhehaa
