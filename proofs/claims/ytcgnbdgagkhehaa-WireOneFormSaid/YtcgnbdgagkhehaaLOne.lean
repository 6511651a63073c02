/- WireOneForm: the walk. -/
import Derived.Test.YtcgnbdgagkhehaaLUnp
namespace Go.Proofs.Ytcgnbdgagkhehaa
open Go.V
set_option linter.unusedVariables false

theorem WireOneForm_ok (w : World) (k : BitVec 8) (ws : List (BitVec 64)) (hw : ws.length = 7) (A : Option Addr) (len cap : Nat) (xs : List (BitVec 8)) (hx : Rd w [] A (byts xs)) (hl : len = xs.length) :
    Does Try.prog 6 [.agg ⟨fcells k ws⟩, .slice A len cap] [] w (fun v hs => v = .bool true ∧ hs = []) := by
  refine Does.pure (Does.of (n := 43) Try.func6 rfl rfl rfl rfl ?_)
  have hU := unpk_ws xs
  have hp : unpkV (packed k ws) = .tuple ⟨[.agg ⟨fcells k ws⟩, .int .i64 0]⟩ := by rw [unpkV, unpk_packed _ _ hw]; rfl
  have hE : cellsEq (fcells k ws) (fcells k ws) = true := by rw [fcells_eq hw hw]; simp
  refine .seq ((.region (.nw (.box rfl rfl) fun b2 => (.v (.assign rfl) (.nil ?_)))))
  refine .seq (.seq ((.region (.ef (.call0 rfl rfl fun w s => lives_ok w) ?_))))
  rintro _ _ ⟨_, ⟨rfl, rfl⟩, rfl⟩
  refine .v (.not rfl) (.nil ?_)
  refine .cond_false rfl (.skip ?_)
  refine .seq ((.region (.v (.loadA rfl .whole (fcells_length hw)) (.ef (.call0 rfl rfl fun w s => Pack_ok w k ws hw) ?_))))
  rintro _ _ ⟨_, ⟨rfl, rfl⟩, rfl⟩
  refine .nw .alloc fun b5 => (.st (.storeW rfl rfl (by rw [byts_length, packed_length hw]) (byts_ones _) (by simp)) (.nil ?_))
  refine .seq ((.region (.v (.slArr rfl) (.ef (.call0 rfl rfl fun w s => Unpack_ok w _ _ 64 (packed k ws) (Rd.chunk s (by simp) fun j v hv => by rw [Nat.zero_add]; exact hv) (packed_length hw).symm) ?_))))
  rintro _ _ ⟨_, ⟨rfl, rfl⟩, rfl⟩
  rw [hp]
  refine .v (.move rfl) (.v (.extract rfl rfl) (.v (.extract rfl rfl) (.nw .alloc fun b6 => (.st (.storeW rfl rfl (fcells_length hw) (fcells_ones _ _) rfl) (.v (.assign rfl) (.nil ?_))))))
  refine .seq (.seq ((.region (.v (.move rfl) (.v (.nei rfl rfl) (.v (.move rfl) (.split (t := 21) rfl (fun h => absurd rfl h) (fun _ => ?_))))))))
  refine .v (.loadA rfl .whole (fcells_length hw)) (.v (.loadA rfl .whole (fcells_length hw)) (.v (.neA rfl rfl (fcells_oks hw) (fcells_oks hw)) (.v (.pick rfl rfl rfl) (.nil ?_))))
  refine .cond (b := !cellsEq (fcells k ws) (fcells k ws)) rfl (fun h => absurd h (by rw [hE]; simp)) (fun _ => .skip ?_)
  refine .seq ((.region (.v (.move rfl) (.ef (.call0 rfl rfl fun w s => Unpack_ok w _ _ cap xs (Rd.keep0 (own := bl []) hx s) hl) ?_))))
  rintro _ _ ⟨_, ⟨rfl, rfl⟩, rfl⟩
  refine .v (.move rfl) (.v (.extract (vs := [.agg ⟨fcells (unpk xs).1 (unpk xs).2.1⟩, .int .i64 (unpk xs).2.2]) rfl rfl) (.v (.extract (vs := [.agg ⟨fcells (unpk xs).1 (unpk xs).2.1⟩, .int .i64 (unpk xs).2.2]) rfl rfl) (.nw .alloc fun b8 => (.st (.storeW rfl rfl (fcells_length hU) (fcells_ones _ _) rfl) (.v (.assign rfl) (.nil ?_))))))
  refine .seq (.seq ((.region (.v (.move rfl) (.v (.nei rfl rfl) (.nil ?_))))))
  refine .cond_dec rfl (fun h3 => ?_) (fun h3 => .skip ?_)
  · refine .seq ((.region (.v (.loadA rfl .whole (fcells_length hU)) (.v (.build (out := fcells 0#8 zw) rfl rfl) (.v (.eqA rfl rfl (fcells_oks hU) (fcells_oks rfl)) (.v (.assign rfl) (.nil ?_)))))))
    refine .ret ?_
    have h4 := unpk_wrong (xs := xs) (by omega)
    exact ⟨[_], ⟨rfl, trivial⟩, by rw [fcells_eq hU (show zw.length = 7 from rfl)]; simp [tup, h4]⟩
  · have h4 := unpk_right (xs := xs) (by omega)
    refine .seq ((.region (.v (.loadA rfl .whole (fcells_length hU)) (.ef (.call0 rfl rfl fun w s => Pack_ok w _ _ hU) ?_))))
    rintro _ _ ⟨_, ⟨rfl, rfl⟩, rfl⟩
    rw [h4]
    have hlx : xs.length = 64 := by rw [← h4]; exact packed_length hU
    refine .st (.storeW rfl rfl (by rw [byts_length, hlx]) (byts_ones _) (by rw [byts_length, packed_length hw])) (.nil ?_)
    refine .seq ((.drawT 5 (by kernel_rfl) (by kernel_rfl) (.v (.slArr rfl) (.v (.bytesStr (xs := xs) rfl hlx .whole) (.v (.move rfl) (.v (.bytesStrR (xs := xs) rfl hl.symm fun w s => Rd.keep0 (own := bl []) hx s) (.v (.eql_string rfl rfl) (.nil ?_))))))))
    refine .v (.assign rfl) (.nil ?_)
    refine .ret ?_
    exact ⟨[_], ⟨rfl, trivial⟩, by simp [tup]⟩
theorem WireOneForm_walk (w : World) (cs : List Value) (h : okw [.i .u8, .i .u64, .i .u64, .i .u64, .i .u64, .i .u64, .i .u64, .i .u64] cs) (A : Option Addr) (len cap : Nat) (xs : List (BitVec 8)) (hx : Rd w [] A (byts xs)) (hl : len = xs.length) :
    Does Try.prog 6 [.agg ⟨cs⟩, .slice A len cap] [] w (fun v hs => v = .bool true ∧ hs = []) := by
  obtain ⟨k, ws, hw, rfl⟩ := okw_frame h
  exact WireOneForm_ok w k ws hw A len cap xs hx hl
end Go.Proofs.Ytcgnbdgagkhehaa
