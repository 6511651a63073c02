/- bourseref02.Bytes, bourseref02.Pack: what they compute. -/
import Derived.Test.YtcgnbdgagkhehaaWPack
namespace Go.Proofs.Ytcgnbdgagkhehaa
open Go.V
set_option linter.unusedVariables false

theorem byts_take (xs : List (BitVec 8)) (n : Nat) (x : BitVec 8) (h : xs[n]? = some x) : byts (xs.take n) ++ [.int .u8 x.toNat] = byts (xs.take (n + 1)) := by
  rw [List.take_add_one, h, byts_append]; rfl

theorem refBytes_ok (w : World) (k : BitVec 8) (ws : List (BitVec 64)) (hw : ws.length = 7) :
    Does Try.prog 31 [.agg ⟨fcells k ws⟩] [] w (fun v hs => OwnS 5 1 v 60 (byts (body k ws)) hs) := by
  refine Does.of (n := 29) Try.func31 rfl rfl rfl rfl ?_
  refine .seq ((.region (.nw (.box rfl rfl) fun b1 => (.v (.assign rfl) (.nil ?_)))))
  refine .seq ((.region (.v (.fieldAddr rfl) (.v (.load rfl (.one rfl)) (.ef (.buildSlice (out := byts ((body k ws).take 4)) rfl (by decide) rfl rfl) ?_)))))
  rintro _ _ ⟨b2, rfl, rfl⟩
  refine .v (.assign rfl) (.nil ?_)
  refine .seq (.seq ((.region (.v (.assign rfl) (.nil ?_)))))
  refine .block (.loop (X := Nat × Value × Hp) (fun x => [(1, .pointer (some ⟨b1, 0, none⟩)), (3, x.2.1), (4, .int .i64 x.1)]) (fun x => x.2.2 ++ [(b1, .cells (fcells k ws) 31)])
    (fun x => x.1 ≤ 7 ∧ OwnS 5 1 x.2.1 (4 + 8 * x.1) (byts ((body k ws).take (4 + 8 * x.1))) x.2.2) (fun x => 7 - x.1) (0, .slice (some ⟨b2, 0, none⟩) 4 4, [(b2, .cells (byts ((body k ws).take 4)) 5)])
    ⟨by omega, rfl, .inr ⟨b2, 0, 4, _, rfl, rfl, by omega, by simp [byts_length, body], rfl⟩⟩
    (.cons rfl (.cons rfl (.cons rfl (.nil _)))) (fun _ s => s) ?_)
  rintro ⟨i, v, h⟩ ⟨hi, ho⟩
  simp only at hi ho
  refine .seq (.seq ((.region (.v (.move rfl) (.v (.lss rfl rfl) (.nil ?_))))))
  refine .cond_dec rfl (fun h1 => .skip ?_) (fun h1 => .exit ?_)
  · have hi' : i < ws.length := by omega
    refine .seq (.block (.seq ((.region (.v (.assign rfl) (.nil ?_))))))
    refine .block (.loop (X := Nat × Value × Hp) (fun x => [(1, .pointer (some ⟨b1, 0, none⟩)), (3, x.2.1), (4, .int .i64 i), (5, .int .i64 x.1)]) (fun x => x.2.2 ++ [(b1, .cells (fcells k ws) 31)])
      (fun x => x.1 ≤ 8 ∧ OwnS 5 1 x.2.1 (4 + 8 * i + x.1) (byts ((body k ws).take (4 + 8 * i + x.1))) x.2.2) (fun x => 8 - x.1) (0, v, h) ⟨by omega, ho⟩
      (.cons rfl (.cons rfl (.cons rfl (.cons rfl (.nil _))))) (fun _ s => s) ?_)
    rintro ⟨j, v, h⟩ ⟨hj, ho⟩
    simp only at hj ho
    refine .seq (.seq ((.region (.v (.move rfl) (.v (.lss rfl rfl) (.nil ?_))))))
    refine .cond_dec rfl (fun h2 => .skip ?_) (fun h2 => .exit ?_)
    · have hb := body_get (k := k) hi' (show j < 8 by omega)
      refine .seq (.block ((.region (.v (.move rfl) (.v (.move rfl) (.v (.fieldAddr rfl) (.v (.indexAddrA1 rfl rfl (by omega) (by omega)) (.v (.load (v := .int .u64 (ws[i]).toNat) rfl (.one (hb := ⟨by simp⟩) (l := fcells k ws) (T := 31) ?_)) (.v (.move rfl) (.v (.muli rfl rfl (by omega)) (.v (.shr rfl rfl (by omega)) (.v (.conv rfl) (.ef (.buildSlice (out := [.int .u8 ((ws[i] >>> (8 * j)).setWidth 8).toNat]) rfl (by decide) rfl ?_) ?_)))))))))))))
      · rw [show 0 + 1 + (i : Int).toNat = i + 1 from by omega]; exact wcells_get hi'
      · rw [byte64 _ _ (by omega)]; rfl
      rintro _ _ ⟨b3, rfl, rfl⟩
      refine .ef (.append (k := 1) (news := [.int .u8 ((ws[i] >>> (8 * j)).setWidth 8).toNat]) (h := h) (fr := [(b3, .cells [.int .u8 ((ws[i] >>> (8 * j)).setWidth 8).toNat] 5), (b1, .cells (fcells k ws) 31)]) rfl rfl ho ?_ (fun w' s => .of_at s .whole rfl) rfl rfl (by omega) (by omega)) ?_
      · exact List.perm_middle.symm
      rintro v' _ ⟨h', ho', rfl⟩
      refine .v (.assign rfl) (.nil ?_)
      refine .region (.v (.move rfl) (.v (.addi rfl rfl (by omega)) (.v (.assign rfl) (.nil ?_))))
      refine ⟨(j + 1, v', h'), ⟨by simp only; omega, ?_⟩, by simp only; omega, .cons rfl (.cons rfl (.cons rfl (.cons rfl (.nil _)))), fun _ s => s.sub (by simp)⟩
      rw [byts_take _ _ _ hb] at ho'
      exact ho'
    · refine .region (.v (.move rfl) (.v (.addi rfl rfl (by omega)) (.v (.assign rfl) (.nil ?_))))
      obtain rfl : j = 8 := by omega
      exact ⟨(i + 1, v, h), ⟨by simp only; omega, ho⟩, by simp only; omega, .cons rfl (.cons rfl (.cons rfl (.nil _))), fun _ s => s⟩
  · obtain rfl : i = 7 := by omega
    refine .seq ((.region (.v (.move rfl) (.v (.assign rfl) (.nil ?_)))))
    refine .drop (hs' := h) (List.sublist_append_left _ _) (.ret ?_)
    refine ⟨[_], ⟨rfl, trivial⟩, ?_⟩
    rw [show 4 + 8 * 7 = 60 from rfl, List.take_of_length_le (by rw [body_length hw]; omega)] at ho
    exact ho

theorem refPack_ok (w : World) (k : BitVec 8) (ws : List (BitVec 64)) (hw : ws.length = 7) :
    Does Try.prog 18 [.agg ⟨fcells k ws⟩] [] w (fun v hs => v = .agg ⟨byts (packed k ws)⟩ ∧ hs = []) := by
  refine Does.pure (Does.of (n := 39) Try.func18 rfl rfl rfl rfl ?_)
  refine .seq ((.region (.nw (.box rfl rfl) fun b1 => (.nw .alloc fun b2 => (.nil ?_)))))
  refine .seq ((.region (.v (.loadA rfl .whole (fcells_length hw)) (.ef (.call0 rfl rfl fun w s => refBytes_ok w k ws hw) ?_))))
  rintro _ _ ⟨h, ho, rfl⟩
  obtain ⟨b3, o, c1, l, rfl, rfl, hc, hlen, htk, hvl⟩ := ho.pos (by omega)
  have hcells : ∀ (j : Nat) (v : Value), (byts (body k ws))[j]? = some v → l[o + j]? = some v := by
    intro j v hv
    rw [← htk, List.getElem?_take] at hv
    split at hv
    · rw [List.getElem?_drop] at hv; exact hv
    · cases hv
  refine .v (.assign rfl) (.nil ?_)
  refine .seq ((.region (.v (.move rfl) (.ef (.call0 rfl rfl fun w s => refSum_ok w _ _ c1 (body k ws) (Rd.chunk s (by simp) hcells) (by rw [body_length hw]) (by decide)) ?_))))
  rintro _ _ ⟨_, ⟨rfl, rfl⟩, rfl⟩
  refine .v (.assign rfl) (.nil ?_)
  refine .seq ((.region (.nw .alloc fun b5 => (.nil ?_))))
  refine .seq (.seq ((.region (.v (.assign rfl) (.nil ?_)))))
  refine .block (.loop (X := Nat) (fun i => [(2, .pointer (some ⟨b2, 0, none⟩)), (3, .slice (some ⟨b3, o, none⟩) 60 c1), (4, .int .u32 (crc (body k ws)).toNat), (5, .pointer (some ⟨b5, 0, none⟩)), (6, .int .i64 i)])
    (fun i => [(b5, .cells (byts (pad (body k ws) i 64)) 32), (b3, .cells l 5), (b2, .cells (List.replicate 64 (.int .u8 0)) 32)]) (fun i => i ≤ 60) (fun i => 60 - i) 0 (by omega)
    (.cons rfl (.cons rfl (.cons rfl (.cons rfl (.cons rfl (.nil _)))))) (fun _ s => s.sub (by simp [pad, byts])) ?_)
  intro i hi
  refine .seq (.seq ((.region (.v (.move rfl) (.v (.move rfl) (.v (.len rfl) (.v (.lss rfl rfl) (.nil ?_))))))))
  refine .cond_dec rfl (fun h1 => .skip ?_) (fun h1 => .exit ?_)
  · have hib : i < (body k ws).length := by rw [body_length hw]; omega
    refine .seq (.block ((.region (.v (.move rfl) (.v (.move rfl) (.v (.move rfl) (.v (.indexAddr1 rfl rfl (by omega) (by omega)) (.v (.load rfl (.one (hcells _ _ (byts_get hib)))) (.v (.indexAddrA1 rfl rfl (by omega) (by omega)) (.st (.store rfl rfl rfl (by rw [byts_length, pad_length _ _ _ (by omega) (by omega)]; omega)) (.nil ?_)))))))))))
    refine .region (.v (.move rfl) (.v (.addi rfl rfl (by omega)) (.v (.assign rfl) (.nil ?_))))
    refine ⟨i + 1, by omega, by omega, .cons rfl (.cons rfl (.cons rfl (.cons rfl (.cons rfl (.nil _))))), fun w s => ?_⟩
    rw [show 0 + (i : Int).toNat = i from by omega, pad_set (List.getElem?_eq_getElem hib) (by omega)] at s
    exact s
  · obtain rfl : i = 60 := by omega
    refine .seq (.seq ((.region (.v (.assign rfl) (.nil ?_)))))
    refine .block (.loop (X := Nat) (fun j => [(2, .pointer (some ⟨b2, 0, none⟩)), (3, .slice (some ⟨b3, o, none⟩) 60 c1), (4, .int .u32 (crc (body k ws)).toNat), (5, .pointer (some ⟨b5, 0, none⟩)), (7, .int .i64 j)])
      (fun j => [(b5, .cells (byts (pad (packed k ws) (60 + j) 64)) 32), (b2, .cells (List.replicate 64 (.int .u8 0)) 32)]) (fun j => j ≤ 4) (fun j => 4 - j) 0 (by omega)
      (.cons rfl (.cons rfl (.cons rfl (.cons rfl (.cons rfl (.nil _)))))) (fun _ s => ?_) ?_)
    · rw [← body_length (k := k) hw, pad_app _ (le4 (crc (body k ws))), body_length hw] at s
      exact s.sub (by simp [packed])
    intro j hj
    refine .seq (.seq ((.region (.v (.move rfl) (.v (.lss rfl rfl) (.nil ?_))))))
    refine .cond_dec rfl (fun h2 => .skip ?_) (fun h2 => .exit ?_)
    · refine .seq (.block ((.region (.v (.move rfl) (.v (.len rfl) (.v (.move rfl) (.v (.addi rfl rfl (by omega)) (.v (.move rfl) (.v (.move rfl) (.v (.muli rfl rfl (by omega)) (.v (.shr rfl rfl (by omega)) (.v (.conv rfl) (.v (.indexAddrA1 rfl rfl (by omega) (by omega)) (.st (.store rfl rfl rfl (by rw [byts_length, pad_length _ _ _ (by rw [packed_length hw]; omega) (by omega)]; omega)) (.nil ?_)))))))))))))))
      refine .region (.v (.move rfl) (.v (.addi rfl rfl (by omega)) (.v (.assign rfl) (.nil ?_))))
      refine ⟨j + 1, by omega, by omega, .cons rfl (.cons rfl (.cons rfl (.cons rfl (.cons rfl (.nil _))))), fun w s => ?_⟩
      rw [byte32 _ _ (by omega), show 0 + (((60 : Nat) : Int) + (j : Int)).toNat = 60 + j from by omega, pad_set (packed_get hw (by omega)) (by omega)] at s
      exact s
    · obtain rfl : j = 4 := by omega
      refine .seq ((.region (.v (.loadA rfl .whole (by rw [byts_length, pad_length _ _ _ (by rw [packed_length hw]; omega) (by omega)])) (.st (.storeW rfl rfl (by rw [byts_length, pad_length _ _ _ (by rw [packed_length hw]; omega) (by omega)]) (byts_ones _) (by simp)) (.nil ?_)))))
      rw [pad_full (packed k ws) 64 (packed_length hw)]
      refine .drop (hs' := [(b2, .cells (byts (packed k ws)) 32)]) (by simp) (.ret ?_)
      exact ⟨[_], ⟨⟨_, rfl, .inr ⟨64, _, inferInstance, by rw [byts_length, packed_length hw], rfl, .whole⟩⟩, trivial⟩, rfl⟩
end Go.Proofs.Ytcgnbdgagkhehaa
