/- wire.Pack, bourseref02.Bytes, bourseref02.Pack: what they compute. -/
import Derived.Test.YtcgnbdgagkhehaaWSum
import Derived.Test.YtcgnbdgagkhehaaWFrame
import Derived.Test.YtcgnbdgagkhehaaWHand
namespace Go.Proofs.Ytcgnbdgagkhehaa
open Go.V
set_option linter.unusedVariables false

theorem Pack_ok (w : World) (k : BitVec 8) (ws : List (BitVec 64)) (hw : ws.length = 7) :
    Does Try.prog 17 [.agg ⟨fcells k ws⟩] [] w (fun v hs => v = .agg ⟨byts (packed k ws)⟩ ∧ hs = []) := by
  refine Does.pure (Does.of (n := 49) Try.func17 rfl rfl rfl rfl ?_)
  refine .seq ((.region (.nw (.box rfl rfl) fun b1 => (.nw .alloc fun b2 => (.nil ?_)))))
  refine .seq ((.region (.v (.fieldAddr rfl) (.v (.load rfl (.one rfl)) (.v (.buildArr (out := byts (pad (body k ws) 4 64)) rfl (by rw [pad_body]; rfl)) (.nw .alloc fun b3 => (.st (.storeW rfl rfl (by simp [byts_length, pad_length, body_length hw]) (byts_ones _) rfl) (.nil ?_))))))))
  refine .seq (.seq ((.region (.v (.fieldAddr rfl) (.v (.loadA (vs := wcells ws) rfl (.chunk fun j v hv => by rw [show 0 + 1 + j = j + 1 from by omega]; exact hv) (by rw [wcells_length, hw])) (.v (.move rfl) (.nil ?_)))))))
  refine .block (.loop (X := Nat) (fun i => [(2, .pointer (some ⟨b2, 0, none⟩)), (3, .pointer (some ⟨b3, 0, none⟩)), (13, .agg ⟨wcells ws⟩), (14, .int .i64 i)])
    (fun i => [(b3, .cells (byts (pad (body k ws) (4 + 8 * i) 64)) 32), (b2, .cells (List.replicate 64 (.int .u8 0)) 32)]) (fun i => i ≤ 7) (fun i => 7 - i) 0 (by omega)
    (.cons rfl (.cons rfl (.cons rfl (.cons rfl (.nil _))))) (fun _ s => s.sub (by simp)) ?_)
  intro i hi
  refine .seq ((.region (.v (.lss rfl rfl) (.nil ?_))))
  refine .seq (.cond_dec rfl (fun h1 => .skip ?_) (fun h1 => .exit ?_))
  · have hi' : i < ws.length := by omega
    refine .seq (.block (.seq ((.region (.v (.move rfl) (.v (.index (v := .int .u64 (ws[i]).toNat) rfl rfl (by omega) (by omega) (by simpa using wcells_get hi')) (.v (.assign rfl) (.v (.assign rfl) (.nil ?_)))))))))
    refine .seq ((.region (.v (.move rfl) (.nil ?_))))
    refine .block (.loop (X := Nat) (fun j => [(2, .pointer (some ⟨b2, 0, none⟩)), (3, .pointer (some ⟨b3, 0, none⟩)), (4, .int .i64 i), (5, .int .u64 (ws[i]).toNat), (13, .agg ⟨wcells ws⟩), (14, .int .i64 i), (18, .int .i64 j)])
      (fun j => [(b3, .cells (byts (pad (body k ws) (4 + 8 * i + j) 64)) 32), (b2, .cells (List.replicate 64 (.int .u8 0)) 32)]) (fun j => j ≤ 8) (fun j => 8 - j) 0 (by omega)
      (.cons rfl (.cons rfl (.cons rfl (.cons rfl (.cons rfl (.cons rfl (.cons rfl (.nil _)))))))) (fun _ s => s) ?_)
    intro j hj
    refine .seq ((.region (.v (.lss rfl rfl) (.nil ?_))))
    refine .seq (.cond_dec rfl (fun h2 => .skip ?_) (fun h2 => .exit ?_))
    · refine .seq (.block (.seq ((.region (.v (.move rfl) (.v (.assign rfl) (.nil ?_)))))))
      refine .region (.v (.move rfl) (.v (.muli rfl rfl (by omega)) (.v (.addi rfl rfl (by omega)) (.v (.move rfl) (.v (.addi rfl rfl (by omega)) (.v (.move rfl) (.v (.move rfl) (.v (.muli rfl rfl (by omega)) (.v (.shr rfl rfl (by omega)) (.v (.conv rfl) (.v (.indexAddrA1 rfl rfl (by omega) (by omega)) (.st (.store rfl rfl rfl (by rw [byts_length, pad_length _ _ _ (by rw [body_length hw]; omega) (by omega)]; omega)) (.nil ?_)))))))))))))
      refine .region (.v (.addi rfl rfl (by omega)) (.v (.move rfl) (.nil ?_)))
      refine ⟨j + 1, by omega, by omega, .cons rfl (.cons rfl (.cons rfl (.cons rfl (.cons rfl (.cons rfl (.cons rfl (.nil _))))))), fun w s => ?_⟩
      rw [byte64 _ _ (by omega), show 0 + (4 + 8 * (i : Int) + (j : Int)).toNat = 4 + 8 * i + j from by omega, pad_set (body_get hi' (by omega)) (by omega)] at s
      exact s
    · refine .region (.v (.addi rfl rfl (by omega)) (.v (.move rfl) (.nil ?_)))
      refine ⟨i + 1, by omega, by omega, .cons rfl (.cons rfl (.cons rfl (.cons rfl (.nil _)))), fun w s => ?_⟩
      obtain rfl : j = 8 := by omega
      exact s
  · obtain rfl : i = 7 := by omega
    have hb60 : 4 + 8 * 7 = (body k ws).length := by rw [body_length hw]
    refine .seq ((.region (.v (.slArrHi rfl rfl (by omega) (by omega)) (.ef (.call0 rfl rfl fun w s => Sum_ok w _ _ 64 (body k ws) (Rd.chunk s (by simp) fun j v hv => ?_) (by rw [body_length hw]; rfl) (by decide)) ?_))))
    · rw [hb60, pad, List.take_length, byts_append, Nat.zero_add, List.getElem?_append_left (List.getElem?_eq_some_iff.1 hv).1]; exact hv
    rintro _ _ ⟨_, ⟨rfl, rfl⟩, rfl⟩
    refine .v (.assign rfl) (.nil ?_)
    refine .seq (.seq ((.region (.v (.move rfl) (.nil ?_)))))
    refine .block (.loop (X := Nat) (fun j => [(2, .pointer (some ⟨b2, 0, none⟩)), (3, .pointer (some ⟨b3, 0, none⟩)), (7, .int .u32 (crc (body k ws)).toNat), (36, .int .i64 j)])
      (fun j => [(b3, .cells (byts (pad (packed k ws) (60 + j) 64)) 32), (b2, .cells (List.replicate 64 (.int .u8 0)) 32)]) (fun j => j ≤ 4) (fun j => 4 - j) 0 (by omega)
      (.cons rfl (.cons rfl (.cons rfl (.cons rfl (.nil _))))) (fun _ s => ?_) ?_)
    · rw [hb60, pad_app _ (le4 (crc (body k ws))), body_length hw] at s
      exact s
    intro j hj
    refine .seq ((.region (.v (.lss rfl rfl) (.nil ?_))))
    refine .seq (.cond_dec rfl (fun h3 => .skip ?_) (fun h3 => .exit ?_))
    · refine .seq (.block (.seq ((.region (.v (.move rfl) (.v (.assign rfl) (.nil ?_)))))))
      refine .region (.v (.move rfl) (.v (.addi rfl rfl (by omega)) (.v (.move rfl) (.v (.move rfl) (.v (.muli rfl rfl (by omega)) (.v (.shr rfl rfl (by omega)) (.v (.conv rfl) (.v (.indexAddrA1 rfl rfl (by omega) (by omega)) (.st (.store rfl rfl rfl (by rw [byts_length, pad_length _ _ _ (by rw [packed_length hw]; omega) (by omega)]; omega)) (.nil ?_))))))))))
      refine .region (.v (.addi rfl rfl (by omega)) (.v (.move rfl) (.nil ?_)))
      refine ⟨j + 1, by omega, by omega, .cons rfl (.cons rfl (.cons rfl (.cons rfl (.nil _)))), fun w s => ?_⟩
      rw [byte32 _ _ (by omega), show 0 + (60 + (j : Int)).toNat = 60 + j from by omega, pad_set (packed_get hw (by omega)) (by omega)] at s
      exact s
    · obtain rfl : j = 4 := by omega
      refine .seq ((.region (.v (.loadA rfl .whole (by rw [byts_length, pad_length _ _ _ (by rw [packed_length hw]; omega) (by omega)])) (.st (.storeW rfl rfl (by rw [byts_length, pad_length _ _ _ (by rw [packed_length hw]; omega) (by omega)]) (byts_ones _) (by simp)) (.nil ?_)))))
      rw [pad_full (packed k ws) 64 (packed_length hw)]
      refine .drop (hs' := [(b2, .cells (byts (packed k ws)) 32)]) (by simp) (.ret ?_)
      refine ⟨[_], ⟨⟨_, rfl, .inr ⟨64, _, inferInstance, by rw [byts_length, packed_length hw], rfl, .whole⟩⟩, trivial⟩, rfl⟩
end Go.Proofs.Ytcgnbdgagkhehaa
