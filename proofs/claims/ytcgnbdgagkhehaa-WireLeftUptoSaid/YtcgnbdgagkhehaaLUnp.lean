/- WireUnpacks, lives, WireOneForm: the walks. -/
import Derived.Test.YtcgnbdgagkhehaaWUnpack
import Derived.Test.YtcgnbdgagkhehaaRUnpack
import Derived.Test.YtcgnbdgagkhehaaWPackUnp
import Derived.Test.YtcgnbdgagkhehaaVI
namespace Go.Proofs.Ytcgnbdgagkhehaa
open Go.V
set_option linter.unusedVariables false

theorem WireUnpacks_ok (w : World) (A : Option Addr) (len cap : Nat) (xs : List (BitVec 8)) (hx : Rd w [] A (byts xs)) (hl : len = xs.length) (hb : len ≤ 140737488351232) :
    Does Try.prog 5 [.slice A len cap] [] w (fun v hs => v = .bool true ∧ hs = []) := by
  refine Does.pure (Does.of (n := 36) Try.func5 rfl rfl rfl rfl ?_)
  have hU := unpk_ws xs
  have hE : cellsEq (fcells (unpk xs).1 (unpk xs).2.1) (fcells (unpk xs).1 (unpk xs).2.1) = true := by rw [fcells_eq hU hU]; simp
  refine .seq ((.region (.v (.assign rfl) (.nil ?_))))
  refine .seq ((.region (.v (.move rfl) (.ef (.call0 rfl rfl fun w s => hand_ok w A len cap xs (Rd.keep0 (own := bl []) hx s) hl (by omega)) ?_))))
  rintro _ _ ⟨h, ho, rfl⟩
  obtain ⟨b, o, c1, l, rfl, rfl, hc, hlen, htk, hvl⟩ := ho.pos (by omega)
  have hcells : ∀ (j : Nat) (v : Value), (byts (xs ++ marks))[j]? = some v → l[o + j]? = some v := by
    intro j v hv
    rw [← htk, List.getElem?_take] at hv
    split at hv
    · rw [List.getElem?_drop] at hv; exact hv
    · cases hv
  have hcx : ∀ (j : Nat) (v : Value), (byts xs)[j]? = some v → l[o + j]? = some v := by
    intro j v hv
    refine hcells j v ?_
    rw [byts_append, List.getElem?_append_left (List.getElem?_eq_some_iff.1 hv).1]; exact hv
  refine .v (.assign rfl) (.nil ?_)
  refine .seq ((.region (.v (.move rfl) (.v (.move rfl) (.v (.len rfl) (.v (.slHi rfl rfl (by omega) (by omega)) (.ef (.call0 rfl rfl fun w s => Unpack_ok w _ _ c1 xs (Rd.chunk s (by simp) hcx) (by simpa using hl)) ?_)))))))
  rintro _ _ ⟨_, ⟨rfl, rfl⟩, rfl⟩
  refine .v (.move rfl) (.v (.extract (vs := [.agg ⟨fcells (unpk xs).1 (unpk xs).2.1⟩, .int .i64 (unpk xs).2.2]) rfl rfl) (.v (.extract (vs := [.agg ⟨fcells (unpk xs).1 (unpk xs).2.1⟩, .int .i64 (unpk xs).2.2]) rfl rfl) (.nw .alloc fun b4 => (.st (.storeW rfl rfl (fcells_length hU) (fcells_ones _ _) rfl) (.v (.assign rfl) (.nil ?_))))))
  refine .seq ((.region (.v (.move rfl) (.ef (.call0 rfl rfl fun w s => refUnpack_ok w _ _ cap xs (Rd.keep0 (own := bl []) hx s) hl) ?_))))
  rintro _ _ ⟨_, ⟨rfl, rfl⟩, rfl⟩
  refine .v (.move rfl) (.v (.extract (vs := [.agg ⟨fcells (unpk xs).1 (unpk xs).2.1⟩, .int .i64 (unpk xs).2.2]) rfl rfl) (.v (.extract (vs := [.agg ⟨fcells (unpk xs).1 (unpk xs).2.1⟩, .int .i64 (unpk xs).2.2]) rfl rfl) (.nw .alloc fun b6 => (.st (.storeW rfl rfl (fcells_length hU) (fcells_ones _ _) rfl) (.v (.assign rfl) (.nil ?_))))))
  refine .seq ((.region (.v (.loadA rfl .whole (fcells_length hU)) (.v (.loadA rfl .whole (fcells_length hU)) (.v (.eqA rfl rfl (fcells_oks hU) (fcells_oks hU)) (.v (.move rfl) (.splitB (t := 26) rfl (fun _ => ?_) (fun h => absurd (h.symm.trans hE) (by simp)))))))))
  refine .v (.move rfl) (.v (.move rfl) (.v (.eqi rfl rfl) (.v (.pick rfl rfl rfl) (.v (.move rfl) (.split (t := 31) rfl (fun _ => ?_) (fun h => absurd rfl h))))))
  refine .v (.move rfl) (.v (.move rfl) (.ef (.call (pre := [(b, .cells l 5)]) (fr := [(b6, .cells (fcells (unpk xs).1 (unpk xs).2.1) 31), (b4, .cells (fcells (unpk xs).1 (unpk xs).2.1) 31)]) rfl rfl ?_ fun w' s => left_ok w' b o c1 len cap A l (xs ++ marks) xs 5 (len + 5) (by simp [marks, hl]) (by simpa using htk) (by omega) (by omega) (Rd.keep (own := bl []) hx s ?_) hl (by omega) (by omega)) ?_))
  · exact List.perm_append_comm (l₁ := [_, _]) (l₂ := [_])
  · intro b' hb'
    simp at hb'
    subst hb'
    exact s.mine _ (by simp [bl])
  rintro _ _ ⟨_, ⟨rfl, rfl⟩, rfl⟩
  refine .v (.pick rfl rfl rfl) (.v (.assign rfl) (.nil ?_))
  refine .ret ?_
  exact ⟨[_], ⟨rfl, trivial⟩, by simp [tup]⟩

/-- the frame that 'lives' asks for -/
def lw : List (BitVec 64) := [258#64, 0#64, 0#64, 0#64, 0#64, 0#64, 0#64]
theorem lives_ok (w : World) : Does Try.prog 21 [] [] w (fun v hs => v = .bool true ∧ hs = []) := by
  refine Does.pure (Does.of (n := 41) Try.func21 rfl rfl rfl rfl ?_)
  have hp : unpkV (packed 1#8 lw) = .tuple ⟨[.agg ⟨fcells 1#8 lw⟩, .int .i64 0]⟩ := by rw [unpkV, unpk_packed _ _ rfl]; rfl
  have hn : unpkV [] = .tuple ⟨[.agg ⟨fcells 0#8 zw⟩, .int .i64 20]⟩ := unpk_short (by simp)
  refine .seq ((.region (.v (.assign rfl) (.nil ?_))))
  refine .seq ((.region (.v (.buildArr (out := wcells lw) rfl rfl) (.v (.build (out := fcells 1#8 lw) rfl rfl) (.ef (.call0 rfl rfl fun w s => Pack_ok w 1#8 lw rfl) ?_)))))
  rintro _ _ ⟨_, ⟨rfl, rfl⟩, rfl⟩
  refine .nw .alloc fun b1 => (.st (.storeW rfl rfl (by rw [byts_length, packed_length rfl]) (byts_ones _) (by simp)) (.nil ?_))
  refine .seq ((.region (.v (.slArr rfl) (.ef (.call0 rfl rfl fun w s => Unpack_ok w _ _ 64 (packed 1#8 lw) (Rd.chunk s (by simp) fun j v hv => by rw [Nat.zero_add]; exact hv) (packed_length rfl).symm) ?_))))
  rintro _ _ ⟨_, ⟨rfl, rfl⟩, rfl⟩
  rw [hp]
  refine .v (.move rfl) (.v (.extract rfl rfl) (.v (.extract rfl rfl) (.nw .alloc fun b2 => (.st (.storeW rfl rfl (fcells_length rfl) (fcells_ones _ _) rfl) (.v (.assign rfl) (.nil ?_))))))
  refine .seq ((.region (.ef (.call0 rfl rfl fun w s => Unpack_ok w _ _ 0 [] (Rd.nil _ _ _) rfl) ?_)))
  rintro _ _ ⟨_, ⟨rfl, rfl⟩, rfl⟩
  rw [hn]
  refine .v (.move rfl) (.v (.extract rfl rfl) (.v (.extract rfl rfl) (.nw .alloc fun b4 => (.st (.storeW rfl rfl (fcells_length rfl) (fcells_ones _ _) rfl) (.v (.assign rfl) (.nil ?_))))))
  refine .seq ((.region (.ef (.buildSlice (out := byts [49#8, 50#8, 51#8, 52#8, 53#8, 54#8, 55#8, 56#8, 57#8]) rfl (by decide) rfl rfl) ?_)))
  rintro _ _ ⟨b5, rfl, rfl⟩
  refine .ef (.convMark rfl) ?_
  rintro _ _ ⟨rfl, rfl⟩
  refine .ef (.call0 rfl rfl fun w s => Sum_ok w _ _ 9 [49#8, 50#8, 51#8, 52#8, 53#8, 54#8, 55#8, 56#8, 57#8] (Rd.marked s (by simp) fun j v hv => by rw [Nat.zero_add]; exact hv) rfl (by decide)) ?_
  rintro _ _ ⟨_, ⟨rfl, rfl⟩, rfl⟩
  rw [show ((crc [49#8, 50#8, 51#8, 52#8, 53#8, 54#8, 55#8, 56#8, 57#8]).toNat : Int) = 3421780262 from by decide +kernel]
  refine .v (.eqi rfl rfl) (.v (.move rfl) (.split (t := 22) rfl (fun _ => ?_) (fun h => absurd rfl h)))
  refine .v (.slArrHi rfl rfl (by omega) (by omega)) (.v (.bytesStr (xs := [66#8, 70#8, 1#8, 0#8, 2#8, 1#8]) rfl rfl (.chunk fun j v hv => ?_)) (.v (.eql_string rfl rfl) (.v (.pick rfl rfl rfl) (.v (.move rfl) (.splitB (t := 27) rfl (fun _ => ?_) (fun h => absurd (h.symm.trans (show _ = true from by decide +kernel)) (by simp)))))))
  · rw [Nat.zero_add]
    match j, hv with
    | 0, hv => exact hv
    | 1, hv => exact hv
    | 2, hv => exact hv
    | 3, hv => exact hv
    | 4, hv => exact hv
    | 5, hv => exact hv
    | _ + 6, hv => cases hv
  refine .v (.move rfl) (.v (.eqi rfl rfl) (.v (.pick rfl rfl rfl) (.v (.move rfl) (.split (t := 31) rfl (fun _ => ?_) (fun h => absurd rfl h)))))
  refine .v (.fieldAddr rfl) (.v (.indexAddrA1 rfl rfl (by omega) (by omega)) (.v (.load (v := .int .u64 258) rfl (.one rfl)) (.v (.eqi rfl rfl) (.v (.pick rfl rfl rfl) (.v (.move rfl) (.split (t := 37) rfl (fun _ => ?_) (fun h => absurd rfl h)))))))
  refine .v (.move rfl) (.v (.eqi rfl rfl) (.v (.pick rfl rfl rfl) (.v (.assign rfl) (.nil ?_))))
  refine .ret ?_
  exact ⟨[_], ⟨rfl, trivial⟩, by simp [tup]⟩
end Go.Proofs.Ytcgnbdgagkhehaa
