/- Texts that the row RPieces stands on: RUnpack, WPackUnp, VI, LUnp, VJ, VK, VL, VM, VO, VP, VQ, VR, VS, VU, VW, VX, VY, VZ, VA, VC, VD, VE. -/
import Derived.Test.YtcgnbdgagkhehaaYPiecesA
import Derived.MapKept
import Derived.Lib.Overlaps
import Derived.RangeFuncRecord
import Derived.RangeFuncCalls
import Derived.Maps.RangeRun
/- bourseref02.Unpack: what it computes. -/
namespace Go.Proofs.Ytcgnbdgagkhehaa
open Go.V
set_option linter.unusedVariables false

theorem refUnpack_ok (w : World) (A : Option Addr) (len cap : Nat) (xs : List (BitVec 8)) (hx : Rd w [] A (byts xs)) (hl : len = xs.length) :
    Does Try.prog 20 [.slice A len cap] [] w (fun v hs => v = unpkV xs ∧ hs = []) := by
  refine Does.pure (Does.of (n := 72) Try.func20 rfl rfl rfl rfl ?_)
  refine .seq ((.region (.nw .alloc fun b2 => (.v (.assign rfl) (.nil ?_)))))
  refine .seq (.block (.seq ((.region (.v (.move rfl) (.v (.len rfl) (.v (.lss rfl rfl) (.v (.assign rfl) (.nil ?_)))))))))
  refine .cond_dec rfl (fun h1 => ?_) (fun h1 => ?_)
  · refine .seq ((.region (.v (.build rfl rfl) (.st (.storeW rfl rfl rfl rfl rfl) (.v (.assign rfl) (.nil ?_))))))
    refine .ret ?_
    exact ⟨[_, _], ⟨⟨_, rfl, .inr ⟨8, _, inferInstance, rfl, rfl, .whole⟩⟩, rfl, trivial⟩, by rw [unpk_short (by omega)]; rfl⟩
  · refine .seq ((.region (.v (.move rfl) (.v (.len rfl) (.v (.gtr rfl rfl) (.v (.assign rfl) (.nil ?_)))))))
    refine .cond_dec rfl (fun h2 => ?_) (fun h2 => ?_)
    · refine .seq ((.region (.v (.build rfl rfl) (.st (.storeW rfl rfl rfl rfl rfl) (.v (.assign rfl) (.nil ?_))))))
      refine .ret ?_
      exact ⟨[_, _], ⟨⟨_, rfl, .inr ⟨8, _, inferInstance, rfl, rfl, .whole⟩⟩, rfl, trivial⟩, by rw [unpk_long (by omega) (by omega)]; rfl⟩
    · have h64 : xs.length = 64 := by omega
      obtain ⟨b, o, rfl, -, hcell⟩ := hx.base (by rw [byts_length, h64]; omega)
      have hrd : ∀ n, n < 64 → w.cell? ⟨b, o + n, none⟩ = some (.int .u8 (xs.getD n 0#8).toNat) := by
        intro n hn
        refine hcell n _ ?_
        rw [byts_get (show n < xs.length by omega)]
        simp [List.getD_eq_getElem?_getD, List.getElem?_eq_getElem (show n < xs.length by omega)]
      refine .seq ((.region (.v (.move rfl) (.v (.indexAddr1 rfl rfl (by omega) (by omega)) (.v (.load rfl (.old1 (hrd 0 (by omega)) (by simp [bl]))) (.v (.nei rfl rfl) (.v (.move rfl) (.split (t := 22) rfl (fun g1 => ?_) (fun g1 => ?_)))))))))
      · refine .sk (.sk (.sk (.sk (.v (.pick rfl rfl rfl) (.v (.move rfl) (.sk (.sk (.sk (.sk (.v (.pick rfl rfl rfl) (.v (.assign rfl) (.nil ?_))))))))))))
        refine .cond_true rfl ?_
        refine .seq ((.region (.v (.build rfl rfl) (.st (.storeW rfl rfl rfl rfl rfl) (.v (.assign rfl) (.nil ?_))))))
        refine .ret ?_
        exact ⟨[_, _], ⟨⟨_, rfl, .inr ⟨8, _, inferInstance, rfl, rfl, .whole⟩⟩, rfl, trivial⟩, by rw [unpk_magic (by omega) (by omega) (fun k => g1 (by rw [k.1]; rfl))]; rfl⟩
      refine .v (.move rfl) (.v (.indexAddr1 rfl rfl (by omega) (by omega)) (.v (.load rfl (.old1 (hrd 1 (by omega)) (by simp [bl]))) (.v (.nei rfl rfl) (.v (.pick rfl rfl rfl) (.v (.move rfl) (.split (t := 28) rfl (fun g2 => ?_) (fun g2 => ?_)))))))
      · refine .sk (.sk (.sk (.sk (.v (.pick rfl rfl rfl) (.v (.assign rfl) (.nil ?_))))))
        refine .cond_true rfl ?_
        refine .seq ((.region (.v (.build rfl rfl) (.st (.storeW rfl rfl rfl rfl rfl) (.v (.assign rfl) (.nil ?_))))))
        refine .ret ?_
        exact ⟨[_, _], ⟨⟨_, rfl, .inr ⟨8, _, inferInstance, rfl, rfl, .whole⟩⟩, rfl, trivial⟩, by rw [unpk_magic (by omega) (by omega) (fun k => g2 (by rw [k.2.1]; rfl))]; rfl⟩
      refine .v (.move rfl) (.v (.indexAddr1 rfl rfl (by omega) (by omega)) (.v (.load rfl (.old1 (hrd 3 (by omega)) (by simp [bl]))) (.v (.nei rfl rfl) (.v (.pick rfl rfl rfl) (.v (.assign rfl) (.nil ?_))))))
      refine .cond_dec rfl (fun g3 => ?_) (fun g3 => .skip ?_)
      · refine .seq ((.region (.v (.build rfl rfl) (.st (.storeW rfl rfl rfl rfl rfl) (.v (.assign rfl) (.nil ?_))))))
        refine .ret ?_
        exact ⟨[_, _], ⟨⟨_, rfl, .inr ⟨8, _, inferInstance, rfl, rfl, .whole⟩⟩, rfl, trivial⟩, by rw [unpk_magic (by omega) (by omega) (fun k => g3 (by rw [k.2.2]; rfl))]; rfl⟩
      have hmag : xs.getD 0 0#8 = 0x42#8 ∧ xs.getD 1 0#8 = 0x46#8 ∧ xs.getD 3 0#8 = 0#8 := by
        refine ⟨BitVec.eq_of_toNat_eq ?_, BitVec.eq_of_toNat_eq ?_, BitVec.eq_of_toNat_eq ?_⟩ <;> simp at g1 g2 g3 ⊢ <;> omega
      refine .seq ((.region (.v (.move rfl) (.v (.indexAddr1 rfl rfl (by omega) (by omega)) (.v (.load rfl (.old1 (hrd 2 (by omega)) (by simp [bl]))) (.v (.build (out := fcells (xs.getD 2 0#8) (wl xs 0)) rfl (by rw [wl_zero]; rfl)) (.nw .alloc fun b4 => (.st (.storeW rfl rfl (fcells_length (wl_length xs 0)) (fcells_ones _ _) rfl) (.nil ?_)))))))))
      refine .seq (.seq ((.region (.v (.assign rfl) (.nil ?_)))))
      refine .block (.loop (X := Nat) (fun m => [(0, .slice (some ⟨b, o, none⟩) len cap), (2, .pointer (some ⟨b2, 0, none⟩)), (4, .pointer (some ⟨b4, 0, none⟩)), (5, .int .i64 m)])
        (fun m => [(b4, .cells (fcells (xs.getD 2 0#8) (wl xs m)) 31), (b2, .cells (fcells 0#8 zw) 31)]) (fun m => m ≤ 56) (fun m => 56 - m) 0 (by omega)
        (.cons rfl (.cons rfl (.cons rfl (.cons rfl (.nil _))))) (fun _ s => s) ?_)
      intro m hm
      refine .seq (.seq ((.region (.v (.move rfl) (.v (.lss rfl rfl) (.nil ?_))))))
      refine .cond_dec rfl (fun h4 => .skip ?_) (fun h4 => .exit ?_)
      · obtain ⟨i, j, hj8, rfl⟩ : ∃ i j, j < 8 ∧ m = 8 * i + j := ⟨m / 8, m % 8, by omega, by omega⟩
        have hi7 : i < 7 := by omega
        have hq : IntKind.i64.wrap (Int.tdiv ((8 * i + j : Nat) : Int) 8) = (i : Int) := by
          rw [Int.tdiv_eq_ediv_of_nonneg (by omega), wrap_i64 (by omega)]; omega
        have hr : Int.tmod ((8 * i + j : Nat) : Int) 8 = (j : Int) := by
          rw [Int.tmod_eq_emod_of_nonneg (by omega)]; omega
        refine .seq (.block (.drawT 20 (by kernel_rfl) (by kernel_rfl) (.v (.move rfl) (.v (.quo rfl rfl (by decide)) (.v (.move rfl) (.v (.quo rfl rfl (by decide)) (.v (.fieldAddr rfl) (.v (.indexAddrA1 rfl rfl (by omega) (by omega)) (.v (.load (v := .int .u64 (wpart xs (4 + 8 * i) j).toNat) rfl (.one (hb := ⟨by simp⟩) (l := fcells (xs.getD 2 0#8) (wl xs (8 * i + j))) (T := 31) ?_)) (.v (.move rfl) (.v (.move rfl) (.v (.addi rfl rfl (by omega)) (.v (.indexAddr1 rfl rfl (by omega) (by omega)) (.v (.load (v := .int .u8 (xs.getD (4 + 8 * i + j) 0#8).toNat) rfl (.old1 ?_ (by simp [bl]))) (.v (.conv rfl) (.v (.move rfl) (.v (.rem rfl rfl (by decide)) (.v (.muli rfl rfl (by omega)) (.v (.shl rfl rfl (by omega)) (.v (.add rfl rfl) (.v (.fieldAddr rfl) (.v (.indexAddrA1 rfl rfl (by omega) (by omega)) (.nil ?_))))))))))))))))))))))) 
        · rw [hq, show 0 + 1 + (i : Int).toNat = i + 1 from by omega]
          show (wcells _)[i]? = _
          have := wl_get xs (8 * i + j) i hi7
          rw [show min 8 (8 * i + j - 8 * i) = j from by omega] at this
          simp [wcells, this]
        · rw [show o + (4 + ((8 * i + j : Nat) : Int)).toNat = o + (4 + 8 * i + j) from by omega]; exact hrd _ (by omega)
        refine .st (.store rfl rfl rfl (by rw [fcells_length (wl_length _ _)]; omega)) (.nil ?_)
        refine .region (.v (.move rfl) (.v (.addi rfl rfl (by omega)) (.v (.assign rfl) (.nil ?_))))
        refine ⟨8 * i + j + 1, by omega, by omega, .cons rfl (.cons rfl (.cons rfl (.cons rfl (.nil _)))), fun w s => ?_⟩
        rw [conv8_64, hr, hq, show (8 * (j : Int)).toNat = 8 * j from by omega, shl64 _ _ (by omega), add64, wpart_add, show 0 + 1 + (i : Int).toNat = i + 1 from by omega] at s
        have e : (fcells (xs.getD 2 0#8) (wl xs (8 * i + j))).set (i + 1) (.int .u64 (wpart xs (4 + 8 * i) (j + 1)).toNat) = fcells (xs.getD 2 0#8) (wl xs (8 * i + j + 1)) := by
          rw [fcells, List.set_cons_succ, wcells_set, wl_set xs i j hi7 hj8]; rfl
        rw [← e]
        exact s
      · obtain rfl : m = 56 := by omega
        refine .seq ((.region (.v (.loadA rfl .whole (fcells_length (wl_length _ _))) (.ef (.call0 rfl rfl fun w s => refPack_ok w _ _ (wl_length xs 56)) ?_))))
        rintro _ _ ⟨_, ⟨rfl, rfl⟩, rfl⟩
        refine .nw .alloc fun b6 => (.st (.storeW rfl rfl (by rw [byts_length, packed_length (wl_length _ _)]) (byts_ones _) (by simp)) (.nil ?_))
        refine .seq (.seq (.drawS (by kernel_rfl) (by kernel_rfl) (.v (.slArr rfl) (.v (.bytesStr (xs := packed (xs.getD 2 0#8) (wl xs 56)) rfl (packed_length (wl_length _ _)) .whole) (.v (.move rfl) (.v (.bytesStr (xs := xs) rfl (by omega) (.old (fun j v hv => by rw [add_none]; exact hcell j v hv) (by simp [bl]))) (.v (.neq_string rfl rfl) (.nil ?_)))))))) 
        refine .cond rfl (fun h5 => ?_) (fun h5 => .skip ?_)
        · refine .seq ((.region (.v (.build rfl rfl) (.st (.storeW rfl rfl rfl rfl rfl) (.v (.assign rfl) (.nil ?_))))))
          refine .ret ?_
          exact ⟨[_, _], ⟨⟨_, rfl, .inr ⟨8, _, inferInstance, rfl, rfl, .whole⟩⟩, rfl, trivial⟩, by rw [unpk_sum (by omega) (by omega) hmag (by simpa [strOf_inj] using h5)]; rfl⟩
        · refine .seq ((.region (.v (.loadA rfl .whole (fcells_length (wl_length _ _))) (.st (.storeW rfl rfl (fcells_length (wl_length _ _)) (fcells_ones _ _) (fcells_length rfl)) (.v (.assign rfl) (.nil ?_))))))
          refine .ret ?_
          exact ⟨[_, _], ⟨⟨_, rfl, .inr ⟨8, _, inferInstance, fcells_length (wl_length _ _), rfl, .whole⟩⟩, rfl, trivial⟩, by rw [unpk_ok (by omega) (by omega) hmag (by simpa [strOf_inj] using h5)]; rfl⟩
end Go.Proofs.Ytcgnbdgagkhehaa

/- Plain words of chapter 2: what is packed is unpacked. -/
namespace Go.Proofs.Ytcgnbdgagkhehaa
open Go.V
set_option linter.unusedVariables false

theorem wpart_bit (xs : List (BitVec 8)) (o : Nat) : ∀ (j i : Nat), i < 64 → (wpart xs o j).getLsbD i = (decide (i < 8 * j) && (xs.getD (o + i / 8) 0#8).getLsbD (i % 8))
  | 0, i, _ => by simp [wpart]
  | j + 1, i, h => by
    rw [wpart, BitVec.getLsbD_or, wpart_bit xs o j i h, BitVec.getLsbD_shiftLeft, BitVec.getLsbD_setWidth]
    by_cases h1 : i < 8 * j
    · simp [h1]; omega
    · by_cases h2 : i < 8 * (j + 1)
      · have e1 : i / 8 = j := by omega
        have e2 : i % 8 = i - 8 * j := by omega
        simp [h, h1, h2, e1, e2]; omega
      · rw [BitVec.getLsbD_of_ge _ (i - 8 * j) (by omega)]
        simp [h1, h2]
theorem packed_body {k : BitVec 8} {ws : List (BitVec 64)} (hw : ws.length = 7) {n : Nat} (h : n < 60) : (packed k ws).getD n 0#8 = (body k ws).getD n 0#8 := by
  simp only [List.getD_eq_getElem?_getD, packed]
  rw [List.getElem?_append_left (by rw [body_length hw]; omega)]
theorem body_word {k : BitVec 8} {ws : List (BitVec 64)} (hw : ws.length = 7) (n : Nat) (h : n < 7) (xs : List (BitVec 8)) (hx : ∀ j, j < 60 → xs.getD j 0#8 = (body k ws).getD j 0#8) :
    wpart xs (4 + 8 * n) 8 = ws[n] := by
  apply BitVec.eq_of_getLsbD_eq
  intro i hi
  rw [wpart_bit _ _ _ _ hi, hx _ (by omega), List.getD_eq_getElem?_getD, body_get (show n < ws.length by omega) (show i / 8 < 8 by omega)]
  simp only [Option.getD_some, BitVec.getLsbD_setWidth, BitVec.getLsbD_ushiftRight]
  rw [show 8 * (i / 8) + i % 8 = i from by omega]
  simp [show i % 8 < 8 from by omega, show i < 64 from hi]
theorem wl_body {k : BitVec 8} {ws : List (BitVec 64)} (hw : ws.length = 7) (xs : List (BitVec 8)) (hx : ∀ j, j < 60 → xs.getD j 0#8 = (body k ws).getD j 0#8) : wl xs 56 = ws := by
  apply List.ext_getElem?
  intro n
  by_cases hn : n < 7
  · rw [wl_get _ _ _ hn, show min 8 (56 - 8 * n) = 8 from by omega, body_word hw n hn xs hx, List.getElem?_eq_getElem]
  · rw [List.getElem?_eq_none (by simp [wl_length]; omega), List.getElem?_eq_none (by omega)]
theorem unpk_packed (k : BitVec 8) (ws : List (BitVec 64)) (hw : ws.length = 7) : unpk (packed k ws) = (k, ws, 0) := by
  have hl := packed_length (k := k) hw
  have h2 : (packed k ws).getD 2 0#8 = k := by rw [packed_body hw (by omega)]; rfl
  have h3 := wl_body hw (packed k ws) fun j hj => packed_body hw hj
  unfold unpk
  rw [if_neg (by omega), if_neg (by omega), if_neg, if_neg, h2, h3]
  · rw [h2, h3]; simp
  · intro h; apply h
    refine ⟨?_, ?_, ?_⟩ <;> (rw [packed_body hw (by omega)]; rfl)
/-- what is told to be right was packed so -/
theorem unpk_right {xs : List (BitVec 8)} (h : (unpk xs).2.2 = 0) : packed (unpk xs).1 (unpk xs).2.1 = xs := by
  unfold unpk at *
  split at h
  · cases h
  split at h
  · cases h
  split at h
  · cases h
  split at h
  · cases h
  · rename_i h1 h2 h3 h4
    rw [if_neg h1, if_neg h2, if_neg h3, if_neg h4]
    simpa using h4
/-- what is told to be wrong is told with nothing -/
theorem unpk_wrong {xs : List (BitVec 8)} (h : (unpk xs).2.2 ≠ 0) : (unpk xs).1 = 0#8 ∧ (unpk xs).2.1 = zw := by
  have key : (unpk xs).2.2 = 0 ∨ ((unpk xs).1 = 0#8 ∧ (unpk xs).2.1 = zw) := by
    unfold unpk
    repeat' split
    all_goals simp
  exact key.resolve_left h
theorem fcells_oks {k : BitVec 8} {ws : List (BitVec 64)} (hw : ws.length = 7) : oks [.i .u8, .i .u64, .i .u64, .i .u64, .i .u64, .i .u64, .i .u64, .i .u64] (fcells k ws) := by
  match ws, hw with
  | [a, b, c, d, e, f, g], _ => exact ⟨rfl, rfl, rfl, rfl, rfl, rfl, rfl, rfl, trivial⟩
theorem fcells_eq {k k' : BitVec 8} {ws ws' : List (BitVec 64)} (hw : ws.length = 7) (hw' : ws'.length = 7) : cellsEq (fcells k ws) (fcells k' ws') = decide (k = k' ∧ ws = ws') := by
  rw [Bool.eq_iff_iff, cellsEq_iff (fcells_oks hw) (fcells_oks hw'), fcells_inj]; simp
end Go.Proofs.Ytcgnbdgagkhehaa

/- VI: bytes of a constant text: their row gets a mark. -/
namespace Go
namespace V
open Go.RowKit
set_option linter.unusedVariables false
set_option linter.unusedSimpArgs false

/-- a row with its mark behind the last cell -/
def marked (l : List Value) (T : Nat) : Obj := .cells ⟨l⟩ T (l.length, l.length + 1)
theorem Rd.marked {w0 w : World} {own no : List Nat} {hs : Hp} (s : Sat w0 own hs w) {b o T : Nat} {l vs : List Value} [hb : Mem b (.obj (marked l T)) hs] (hn : b ∉ no) (h : ∀ j v, vs[j]? = some v → l[o + j]? = some v) : Rd w no (some ⟨b, o, none⟩) vs :=
  fun j v hv => ⟨b, o, rfl, hn, by
    have h1 : w.heap[b]? = some (.cells ⟨l⟩ T (l.length, l.length + 1)) := s.has b _ hb.out
    simp [World.cell?, h1, h j v hv]⟩
section
variable {P : Program} {n : Nat} {w0 : World} {own : List Nat} {e : Env} {hs : Hp}
theorem Eff.convMark {T E b o k c U : Nat} {x : Operand} {l : List Value} {hs' : Hp} (hx : ev e x = some (.slice (some ⟨b, o, none⟩) k c)) [hT : SliceT P T E] [hE : IntT P E .u8] [hb : Mem b (.cells l U) hs]
    [u : UpdI b (.obj (marked l U)) hs hs'] : Eff P n w0 own e hs (.convert T T x) (fun v h => v = .slice (some ⟨b, o, none⟩) k c ∧ h = hs') :=
  Eff.of_run fun a w ty pos aft g d hr s => by
    have hrow := s.row hb.out
    have hlt : b < w.heap.size := (Array.getElem?_eq_some_iff.1 hrow).1
    have hsh : w.shape? b = some (U, l.length) := by unfold World.shape?; rw [hrow]; rfl
    refine ⟨_, hs', w.freeze ⟨b, l.length, none⟩ 1, ?_, ⟨rfl, rfl⟩, ?_⟩
    · have key : (convert T T (.slice (some ⟨b, o, none⟩) k c)).run P w = .ok (.slice (some ⟨b, o, none⟩) k c) (w.freeze ⟨b, l.length, none⟩ 1) := by
        simp [convert, run_underlying hT.out, run_underlying hE.out, markStringish, hsh]
      simp [execOp, hr.eval hx, key]
    · refine s.upd u.out ?_ ?_ ?_ rfl rfl rfl
      · unfold World.freeze; rw [if_neg (by decide)]; simp
      · intro i hi
        unfold World.freeze; rw [if_neg (by decide)]
        simp [Array.getElem?_modify, Ne.symm hi]
      · unfold World.freeze; rw [if_neg (by decide)]
        simp [Array.getElem?_modify, hrow, Ch.toObj, V.marked]
end
end V
end Go

/- WireUnpacks, lives, WireOneForm: the walks. -/
namespace Go.Proofs.Ytcgnbdgagkhehaa
open Go.V
set_option linter.unusedVariables false

theorem WireUnpacks_ok (w : World) (A : Option Addr) (len cap : Nat) (xs : List (BitVec 8)) (hx : Rd w [] A (byts xs)) (hl : len = xs.length) (hb : len ≤ 140737488351232) :
    Does Try.prog 5 [.slice A len cap] [] w (fun v hs => v = .bool true ∧ hs = []) := by
  refine Does.pure (Does.of (n := 36) Try.func5 rfl rfl rfl rfl ?_)
  have hU := unpk_ws xs
  have hE : cellsEq (fcells (unpk xs).1 (unpk xs).2.1) (fcells (unpk xs).1 (unpk xs).2.1) = true := by rw [fcells_eq hU hU]; simp
  refine .seq ((.region (.v (.assign rfl) (.nil ?_))))
  refine .seq ((.region (.v (.move rfl) (.ef (.call0 rfl rfl fun w s => hand_ok w A len cap xs (Rd.keep0 (own := bl []) hx s) hl (by omega)) ?_))))
  rintro _ _ ⟨h, ho, rfl⟩
  obtain ⟨b, o, c1, l, rfl, rfl, hc, hlen, htk, hvl⟩ := ho.pos (by omega)
  have hcells : ∀ (j : Nat) (v : Value), (byts (xs ++ marks))[j]? = some v → l[o + j]? = some v := by
    intro j v hv
    rw [← htk, List.getElem?_take] at hv
    split at hv
    · rw [List.getElem?_drop] at hv; exact hv
    · cases hv
  have hcx : ∀ (j : Nat) (v : Value), (byts xs)[j]? = some v → l[o + j]? = some v := by
    intro j v hv
    refine hcells j v ?_
    rw [byts_append, List.getElem?_append_left (List.getElem?_eq_some_iff.1 hv).1]; exact hv
  refine .v (.assign rfl) (.nil ?_)
  refine .seq ((.region (.v (.move rfl) (.v (.move rfl) (.v (.len rfl) (.v (.slHi rfl rfl (by omega) (by omega)) (.ef (.call0 rfl rfl fun w s => Unpack_ok w _ _ c1 xs (Rd.chunk s (by simp) hcx) (by simpa using hl)) ?_)))))))
  rintro _ _ ⟨_, ⟨rfl, rfl⟩, rfl⟩
  refine .v (.move rfl) (.v (.extract (vs := [.agg ⟨fcells (unpk xs).1 (unpk xs).2.1⟩, .int .i64 (unpk xs).2.2]) rfl rfl) (.v (.extract (vs := [.agg ⟨fcells (unpk xs).1 (unpk xs).2.1⟩, .int .i64 (unpk xs).2.2]) rfl rfl) (.nw .alloc fun b4 => (.st (.storeW rfl rfl (fcells_length hU) (fcells_ones _ _) rfl) (.v (.assign rfl) (.nil ?_))))))
  refine .seq ((.region (.v (.move rfl) (.ef (.call0 rfl rfl fun w s => refUnpack_ok w _ _ cap xs (Rd.keep0 (own := bl []) hx s) hl) ?_))))
  rintro _ _ ⟨_, ⟨rfl, rfl⟩, rfl⟩
  refine .v (.move rfl) (.v (.extract (vs := [.agg ⟨fcells (unpk xs).1 (unpk xs).2.1⟩, .int .i64 (unpk xs).2.2]) rfl rfl) (.v (.extract (vs := [.agg ⟨fcells (unpk xs).1 (unpk xs).2.1⟩, .int .i64 (unpk xs).2.2]) rfl rfl) (.nw .alloc fun b6 => (.st (.storeW rfl rfl (fcells_length hU) (fcells_ones _ _) rfl) (.v (.assign rfl) (.nil ?_))))))
  refine .seq ((.region (.v (.loadA rfl .whole (fcells_length hU)) (.v (.loadA rfl .whole (fcells_length hU)) (.v (.eqA rfl rfl (fcells_oks hU) (fcells_oks hU)) (.v (.move rfl) (.splitB (t := 26) rfl (fun _ => ?_) (fun h => absurd (h.symm.trans hE) (by simp)))))))))
  refine .v (.move rfl) (.v (.move rfl) (.v (.eqi rfl rfl) (.v (.pick rfl rfl rfl) (.v (.move rfl) (.split (t := 31) rfl (fun _ => ?_) (fun h => absurd rfl h))))))
  refine .v (.move rfl) (.v (.move rfl) (.ef (.call (pre := [(b, .cells l 5)]) (fr := [(b6, .cells (fcells (unpk xs).1 (unpk xs).2.1) 31), (b4, .cells (fcells (unpk xs).1 (unpk xs).2.1) 31)]) rfl rfl ?_ fun w' s => left_ok w' b o c1 len cap A l (xs ++ marks) xs 5 (len + 5) (by simp [marks, hl]) (by simpa using htk) (by omega) (by omega) (Rd.keep (own := bl []) hx s ?_) hl (by omega) (by omega)) ?_))
  · exact List.perm_append_comm (l₁ := [_, _]) (l₂ := [_])
  · intro b' hb'
    simp at hb'
    subst hb'
    exact s.mine _ (by simp [bl])
  rintro _ _ ⟨_, ⟨rfl, rfl⟩, rfl⟩
  refine .v (.pick rfl rfl rfl) (.v (.assign rfl) (.nil ?_))
  refine .ret ?_
  exact ⟨[_], ⟨rfl, trivial⟩, by simp [tup]⟩

/-- the frame that 'lives' asks for -/
def lw : List (BitVec 64) := [258#64, 0#64, 0#64, 0#64, 0#64, 0#64, 0#64]
theorem lives_ok (w : World) : Does Try.prog 21 [] [] w (fun v hs => v = .bool true ∧ hs = []) := by
  refine Does.pure (Does.of (n := 41) Try.func21 rfl rfl rfl rfl ?_)
  have hp : unpkV (packed 1#8 lw) = .tuple ⟨[.agg ⟨fcells 1#8 lw⟩, .int .i64 0]⟩ := by rw [unpkV, unpk_packed _ _ rfl]; rfl
  have hn : unpkV [] = .tuple ⟨[.agg ⟨fcells 0#8 zw⟩, .int .i64 20]⟩ := unpk_short (by simp)
  refine .seq ((.region (.v (.assign rfl) (.nil ?_))))
  refine .seq ((.region (.v (.buildArr (out := wcells lw) rfl rfl) (.v (.build (out := fcells 1#8 lw) rfl rfl) (.ef (.call0 rfl rfl fun w s => Pack_ok w 1#8 lw rfl) ?_)))))
  rintro _ _ ⟨_, ⟨rfl, rfl⟩, rfl⟩
  refine .nw .alloc fun b1 => (.st (.storeW rfl rfl (by rw [byts_length, packed_length rfl]) (byts_ones _) (by simp)) (.nil ?_))
  refine .seq ((.region (.v (.slArr rfl) (.ef (.call0 rfl rfl fun w s => Unpack_ok w _ _ 64 (packed 1#8 lw) (Rd.chunk s (by simp) fun j v hv => by rw [Nat.zero_add]; exact hv) (packed_length rfl).symm) ?_))))
  rintro _ _ ⟨_, ⟨rfl, rfl⟩, rfl⟩
  rw [hp]
  refine .v (.move rfl) (.v (.extract rfl rfl) (.v (.extract rfl rfl) (.nw .alloc fun b2 => (.st (.storeW rfl rfl (fcells_length rfl) (fcells_ones _ _) rfl) (.v (.assign rfl) (.nil ?_))))))
  refine .seq ((.region (.ef (.call0 rfl rfl fun w s => Unpack_ok w _ _ 0 [] (Rd.nil _ _ _) rfl) ?_)))
  rintro _ _ ⟨_, ⟨rfl, rfl⟩, rfl⟩
  rw [hn]
  refine .v (.move rfl) (.v (.extract rfl rfl) (.v (.extract rfl rfl) (.nw .alloc fun b4 => (.st (.storeW rfl rfl (fcells_length rfl) (fcells_ones _ _) rfl) (.v (.assign rfl) (.nil ?_))))))
  refine .seq ((.region (.ef (.buildSlice (out := byts [49#8, 50#8, 51#8, 52#8, 53#8, 54#8, 55#8, 56#8, 57#8]) rfl (by decide) rfl rfl) ?_)))
  rintro _ _ ⟨b5, rfl, rfl⟩
  refine .ef (.convMark rfl) ?_
  rintro _ _ ⟨rfl, rfl⟩
  refine .ef (.call0 rfl rfl fun w s => Sum_ok w _ _ 9 [49#8, 50#8, 51#8, 52#8, 53#8, 54#8, 55#8, 56#8, 57#8] (Rd.marked s (by simp) fun j v hv => by rw [Nat.zero_add]; exact hv) rfl (by decide)) ?_
  rintro _ _ ⟨_, ⟨rfl, rfl⟩, rfl⟩
  rw [show ((crc [49#8, 50#8, 51#8, 52#8, 53#8, 54#8, 55#8, 56#8, 57#8]).toNat : Int) = 3421780262 from by decide +kernel]
  refine .v (.eqi rfl rfl) (.v (.move rfl) (.split (t := 22) rfl (fun _ => ?_) (fun h => absurd rfl h)))
  refine .v (.slArrHi rfl rfl (by omega) (by omega)) (.v (.bytesStr (xs := [66#8, 70#8, 1#8, 0#8, 2#8, 1#8]) rfl rfl (.chunk fun j v hv => ?_)) (.v (.eql_string rfl rfl) (.v (.pick rfl rfl rfl) (.v (.move rfl) (.splitB (t := 27) rfl (fun _ => ?_) (fun h => absurd (h.symm.trans (show _ = true from by decide +kernel)) (by simp)))))))
  · rw [Nat.zero_add]
    match j, hv with
    | 0, hv => exact hv
    | 1, hv => exact hv
    | 2, hv => exact hv
    | 3, hv => exact hv
    | 4, hv => exact hv
    | 5, hv => exact hv
    | _ + 6, hv => cases hv
  refine .v (.move rfl) (.v (.eqi rfl rfl) (.v (.pick rfl rfl rfl) (.v (.move rfl) (.split (t := 31) rfl (fun _ => ?_) (fun h => absurd rfl h)))))
  refine .v (.fieldAddr rfl) (.v (.indexAddrA1 rfl rfl (by omega) (by omega)) (.v (.load (v := .int .u64 258) rfl (.one rfl)) (.v (.eqi rfl rfl) (.v (.pick rfl rfl rfl) (.v (.move rfl) (.split (t := 37) rfl (fun _ => ?_) (fun h => absurd rfl h)))))))
  refine .v (.move rfl) (.v (.eqi rfl rfl) (.v (.pick rfl rfl rfl) (.v (.assign rfl) (.nil ?_))))
  refine .ret ?_
  exact ⟨[_], ⟨rfl, trivial⟩, by simp [tup]⟩
end Go.Proofs.Ytcgnbdgagkhehaa

/- VJ: '&&' and '||' inside a region: the guarded operations are walked once, their results forgotten behind the pick. -/
namespace Go
namespace V
open Go.RowKit
set_option linter.unusedVariables false
set_option linter.unusedSimpArgs false

/-- 'e'' is 'e', with k things laid on it, in slots that 'e' does not speak of -/
def Pop (k : Nat) (e' e : Env) : Prop := e'.drop k = e ∧ ((e'.take k).all fun p => (get e p.1).isNone) = true
theorem sub_app : ∀ (x e : Env), (x.all fun p => (get e p.1).isNone) = true → Sub e (x ++ e)
  | [], e, _ => Sub.refl e
  | p :: x, e, h => by
    simp only [List.all_cons, Bool.and_eq_true] at h
    intro t v hv
    show get (p :: (x ++ e)) t = some v
    unfold get
    cases hb : Nat.beq p.1 t with
    | true =>
      have := Nat.eq_of_beq_eq_true hb
      rw [this, hv] at h
      simp at h
    | false => exact sub_app x e h.2 t v hv
theorem Pop.sub {k : Nat} {e' e : Env} (h : Pop k e' e) : Sub e e' := by
  obtain ⟨h1, h2⟩ := h
  have := sub_app (e'.take k) e h2
  rw [← h1] at this ⊢
  rwa [List.take_append_drop] at this

def skOne (ops : Array Oper) (e : Env) (o : Oper) : Bool := match o.guard with
  | none => false
  | some (j, want) => match (ops[j]?).bind (·.dst) with
    | some t => match get e t with
      | some (.bool b) => !(b == want)
      | some (.tuple ⟨[]⟩) => true
      | _ => false
    | none => false
/-- all of these are passed over -/
def skB (ops : Array Oper) (n : Nat) : List Oper → Env → Option Env
  | [], e => some e
  | o :: l, e => match o.dst with
    | some d => if Nat.blt d n && (get e d).isNone && skOne ops e o then skB ops n l ((d, undef) :: e) else none
    | none => none

section
variable {P : Program} {n : Nat} {w0 : World} {own : List Nat} {e : Env} {hs : Hp} {ops : Array Oper} {rest l : List Oper} {K : Env → Hp → Prop}
variable {d : Nat} {ty : TypeId} {pos : String} {aft : Array Edge} {g : Option (Nat × Bool)}

theorem skip_step {o : Oper} {dd : Nat} {a : Act} (hr : Rep n a e) (ho : o.dst = some dd) (h : skOne ops e o = true) : Region.wanted o (yielded ops a.tmps) = false := by
  unfold Region.wanted
  unfold skOne at h
  cases hg : o.guard with
  | none => rw [hg] at h; cases h
  | some jw =>
    obtain ⟨j, want⟩ := jw
    rw [hg] at h
    simp only at h ⊢
    cases hd : (ops[j]?).bind (·.dst) with
    | none => rw [hd] at h; cases h
    | some t =>
      rw [hd] at h
      simp only at h
      cases ht : get e t with
      | none => rw [ht] at h; cases h
      | some v =>
        rw [ht] at h
        have hat := hr.at_ t v ht
        unfold yielded
        rw [hd]
        simp only [Option.bind_some, hat]
        split at h
        · rename_i b hb
          cases hb
          cases b <;> cases want <;> simp_all
        · rename_i hb
          cases hb
          cases want <;> rfl
        · cases h
theorem JL.skips : ∀ {l : List Oper} {e e1 : Env}, skB ops n l e = some e1 → (∀ e1', Sub e e1' → JL P n w0 own ops [] e1' hs K) → JL P n w0 own ops l e hs K
  | [], e, e1, h, k => k e (Sub.refl e)
  | o :: l, e, e1, h, k => by
    unfold skB at h
    cases ho : o.dst with
    | none => rw [ho] at h; cases h
    | some dd =>
      rw [ho] at h
      simp only at h
      split at h
      · rename_i hc
        rw [Bool.and_eq_true, Bool.and_eq_true] at hc
        obtain ⟨⟨c1, c2⟩, c3⟩ := hc
        intro a w hr s Q hq
        unfold wpList
        rw [if_neg (by rw [skip_step hr ho c3]; simp), ho]
        refine JL.skips h (fun e1' hs' => k e1' (Sub.trans ?_ hs')) _ _ (hr.put (Nat.le_of_ble_eq_true c1) undef) s Q hq
        exact sub_app [(dd, undef)] e (by simp [c2])
      · cases h
theorem JL.app {l1 l2 : List Oper} (h : JL P n w0 own ops l1 e hs (fun e' hs' => JL P n w0 own ops l2 e' hs' K)) : JL P n w0 own ops (l1 ++ l2) e hs K := by
  intro a w hr s Q hq
  have key : ∀ (l1 : List Oper) (a : Act) (w : World), wpList P ops (fun x a w => match x with | .normal => wpList P ops Q l2 a w | x => Q x a w) l1 a w → wpList P ops Q (l1 ++ l2) a w := by
    intro l1
    induction l1 with
    | nil => intro a w h; exact h
    | cons o l1 ih =>
      intro a w h
      unfold wpList at h
      rw [List.cons_append]
      unfold wpList
      split
      · rename_i hw
        rw [if_pos hw] at h
        rcases h with h | ⟨h1, h2⟩
        · refine .inl ?_
          unfold Oper.wp at *
          generalize (execOp a.eval o).run P w = r at *
          cases r with
          | ok nx w' =>
            cases nx with
            | value v => exact ih _ _ h
            | skip => exact ih _ _ h
            | defer d => exact ih _ _ h
            | enter f args =>
              refine Calls.mono h ?_
              rintro x w'' hx
              cases x with
              | returned v => exact ih _ _ hx
              | panicked c => exact hx
              | outgrown => exact hx
            | row r args => exact Rows.mono h fun v w'' hx => ih _ _ hx
            | _ => exact h
          | halt x w' => cases x <;> exact h
        · exact .inr ⟨h1, h2⟩
      · rename_i hw
        rw [if_neg hw] at h
        exact ih _ _ h
  exact key l1 a w (h a w hr s _ fun e' hs' a' w' r s' kk => kk a' w' r s' Q hq)

/-- '&&' -/
theorem JL.and {b1 b2 : Bool} (t y m k : Nat) (hl : l.drop m = ⟨some d, .pick (.tmp t) (.tmp y) (.const (.bool false)), ty, pos, aft, g⟩ :: rest) (ht : get e t = some (.bool b1))
    (h : b1 = true → JL P n w0 own ops (l.take m) ((t, .bool true) :: e) hs (fun e' hs' => hs' = hs ∧ get e' y = some (.bool b2) ∧ Pop k e' ((t, .bool true) :: e)))
    (kk : JL P n w0 own ops rest ((d, .bool (b1 && b2)) :: e) hs K)
    (hsk : (skB ops n (l.take m) ((t, .bool false) :: e)).isSome = true := by rfl)
    (hdn : Nat.blt d n = true := by rfl) (hg : wantB ops e g = some true := by rfl) : JL P n w0 own ops l e hs K := by
  rw [← List.take_append_drop m l, hl]
  refine JL.app ?_
  have fin : ∀ (e1 : Env) (c : Value), Sub e e1 → get e1 y = some c ∨ b1 = false → (b1 = true → c = .bool b2) → JL P n w0 own ops (⟨some d, .pick (.tmp t) (.tmp y) (.const (.bool false)), ty, pos, aft, g⟩ :: rest) e1 hs K := by
    intro e1 c hsub hy hc a w hr s Q hq
    have hr' := hr.sub hsub
    unfold wpList
    rw [if_pos (wanted_of hr' hg)]
    refine .inl ?_
    have e1t := hr.eval (x := .tmp t) (hsub t _ ht)
    have hrun : (execOp a.eval ⟨some d, .pick (.tmp t) (.tmp y) (.const (.bool false)), ty, pos, aft, g⟩).run P w = .ok (.value (.bool (b1 && b2))) w := by
      cases hb : b1 with
      | false =>
        rw [hb] at e1t
        have e3 : ∀ v, a.eval (.const v) = v := fun _ => rfl
        simp [execOp, e1t, asBool, e3]
      | true =>
        rw [hb] at e1t
        rcases hy with hy | hy
        · rw [hc hb] at hy
          have e2 := hr.eval (x := .tmp y) hy
          simp [execOp, e1t, e2, asBool]
        · rw [hb] at hy; cases hy
    simp only [Oper.wp, hrun, Oper.upon_value]
    exact kk _ _ (hr'.put (Nat.le_of_ble_eq_true hdn) _) s Q hq
  cases hb : b1 with
  | true =>
    rw [hb] at ht
    have hsub : Sub e ((t, .bool true) :: e) := fun s v hv => by
      unfold get
      cases hb : Nat.beq t s with
      | true => have := Nat.eq_of_beq_eq_true hb; subst this; rw [ht] at hv; simpa using hv
      | false => exact hv
    intro a w hr s
    refine (h hb).mono (fun e' hs' ⟨h1, h2, h3⟩ => ?_) a w (hr.same ht) s
    subst h1
    exact fin e' (.bool b2) (hsub.trans h3.sub) (.inl h2) (fun _ => rfl)
  | false =>
    rw [hb] at ht
    have hsub : Sub e ((t, .bool false) :: e) := fun s v hv => by
      unfold get
      cases hb : Nat.beq t s with
      | true => have := Nat.eq_of_beq_eq_true hb; subst this; rw [ht] at hv; simpa using hv
      | false => exact hv
    obtain ⟨e1, he1⟩ := Option.isSome_iff_exists.1 hsk
    intro a w hr s
    exact JL.skips he1 (fun e1' hs' => JL.nil (fin e1' (.bool b2) (hsub.trans hs') (.inr hb) (fun _ => rfl))) a w (hr.same ht) s
/-- '||' -/
theorem JL.or {b1 b2 : Bool} (t y m k : Nat) (hl : l.drop m = ⟨some d, .pick (.tmp t) (.const (.bool true)) (.tmp y), ty, pos, aft, g⟩ :: rest) (ht : get e t = some (.bool b1))
    (h : b1 = false → JL P n w0 own ops (l.take m) ((t, .bool false) :: e) hs (fun e' hs' => hs' = hs ∧ get e' y = some (.bool b2) ∧ Pop k e' ((t, .bool false) :: e)))
    (kk : JL P n w0 own ops rest ((d, .bool (b1 || b2)) :: e) hs K)
    (hsk : (skB ops n (l.take m) ((t, .bool true) :: e)).isSome = true := by rfl)
    (hdn : Nat.blt d n = true := by rfl) (hg : wantB ops e g = some true := by rfl) : JL P n w0 own ops l e hs K := by
  rw [← List.take_append_drop m l, hl]
  refine JL.app ?_
  have fin : ∀ (e1 : Env) (c : Value), Sub e e1 → get e1 y = some c ∨ b1 = true → (b1 = false → c = .bool b2) → JL P n w0 own ops (⟨some d, .pick (.tmp t) (.const (.bool true)) (.tmp y), ty, pos, aft, g⟩ :: rest) e1 hs K := by
    intro e1 c hsub hy hc a w hr s Q hq
    have hr' := hr.sub hsub
    unfold wpList
    rw [if_pos (wanted_of hr' hg)]
    refine .inl ?_
    have e1t := hr.eval (x := .tmp t) (hsub t _ ht)
    have hrun : (execOp a.eval ⟨some d, .pick (.tmp t) (.const (.bool true)) (.tmp y), ty, pos, aft, g⟩).run P w = .ok (.value (.bool (b1 || b2))) w := by
      cases hb : b1 with
      | true =>
        rw [hb] at e1t
        have e3 : ∀ v, a.eval (.const v) = v := fun _ => rfl
        simp [execOp, e1t, asBool, e3]
      | false =>
        rw [hb] at e1t
        rcases hy with hy | hy
        · rw [hc hb] at hy
          have e2 := hr.eval (x := .tmp y) hy
          simp [execOp, e1t, e2, asBool]
        · rw [hb] at hy; cases hy
    simp only [Oper.wp, hrun, Oper.upon_value]
    exact kk _ _ (hr'.put (Nat.le_of_ble_eq_true hdn) _) s Q hq
  cases hb : b1 with
  | false =>
    rw [hb] at ht
    have hsub : Sub e ((t, .bool false) :: e) := fun s v hv => by
      unfold get
      cases hb : Nat.beq t s with
      | true => have := Nat.eq_of_beq_eq_true hb; subst this; rw [ht] at hv; simpa using hv
      | false => exact hv
    intro a w hr s
    refine (h hb).mono (fun e' hs' ⟨h1, h2, h3⟩ => ?_) a w (hr.same ht) s
    subst h1
    exact fin e' (.bool b2) (hsub.trans h3.sub) (.inl h2) (fun _ => rfl)
  | true =>
    rw [hb] at ht
    have hsub : Sub e ((t, .bool true) :: e) := fun s v hv => by
      unfold get
      cases hb : Nat.beq t s with
      | true => have := Nat.eq_of_beq_eq_true hb; subst this; rw [ht] at hv; simpa using hv
      | false => exact hv
    obtain ⟨e1, he1⟩ := Option.isSome_iff_exists.1 hsk
    intro a w hr s
    exact JL.skips he1 (fun e1' hs' => JL.nil (fin e1' (.bool b2) (hsub.trans hs') (.inr hb) (fun _ => rfl))) a w (hr.same ht) s
end
end V
end Go

/- VK: calls that leave a value and nothing else. -/
namespace Go
namespace V
open Go.RowKit
set_option linter.unusedVariables false
set_option linter.unusedSimpArgs false

/-- the call returns 'v', whatever it is lent -/
abbrev Is (P : Program) (g : Nat) (vals : List Value) (w : World) (v : Value) : Prop := Does P g vals [] w (fun u hs => u = v ∧ hs = [])
theorem vb {a b : Bool} (h : a = true ↔ b = true) : Value.bool a = Value.bool b := congrArg Value.bool (Bool.eq_iff_iff.2 h)
section
variable {P : Program} {n : Nat} {w0 : World} {own : List Nat} {e : Env} {hs F : Hp} {ops : Array Oper} {rest l : List Oper} {K : Env → Hp → Prop}
variable {d : Nat} {ty : TypeId} {pos : String} {aft : Array Edge} {gd : Option (Nat × Bool)} {m : Nat} {listed : Array Bool}

/-- a store of a whole block -/
theorem Eff.sw {T m b U : Nat} {x y : Operand} {vs l : List Value} {hs' : Hp} (hx : ev e x = some (.pointer (some ⟨b, 0, none⟩))) (hy : ev e y = some (.agg ⟨vs⟩)) [hT : Sz P T m] [hb : Mem b (.cells l U) hs]
    [u : UpdI b (.cells vs U) hs hs'] (hm : vs.length = m := by rfl) (h1 : ones vs = true := by rfl) (ho : l.length = m := by rfl) : Eff P n w0 own e hs (.store T x y) (fun v h => v = undef ∧ h = hs') :=
  Eff.storeW hx hy hm h1 ho
theorem JL.pc {g : Nat} {f : Operand} {args : List Operand} {at_ : Array TypeId} {cap vals : List Value} {v : Value}
    (hf : ev e f = some (.func (.func g) #[] ⟨cap⟩)) (ha : evs e args = some vals) (hc : ∀ w, Sat w0 own hs w → Is P g (vals ++ cap) w v) (k : JL P n w0 own ops rest ((d, v) :: e) hs K) [hg : FnT P g]
    (hdn : Nat.blt d n = true := by rfl) (hw : wantB ops e gd = some true := by rfl) :
    JL P n w0 own ops (⟨some d, .call { callee := .value f, args := ⟨args⟩, argTypes := at_ }, ty, pos, aft, gd⟩ :: rest) e hs K :=
  JL.ef (.call0 hf ha hc) (fun _ _ ⟨_, ⟨h1, h2⟩, h3⟩ => by subst h1; subst h2; subst h3; exact k) hdn hw
theorem JD.pc {g : Nat} {f : Operand} {args : List Operand} {at_ : Array TypeId} {cap vals : List Value} {v : Value} (i : Nat)
    (hi : ops[i]? = some ⟨some d, .call { callee := .value f, args := ⟨args⟩, argTypes := at_ }, ty, pos, aft, gd⟩) (ho : onlyB ops listed i = true)
    (hf : ev e f = some (.func (.func g) #[] ⟨cap⟩)) (ha : evs e args = some vals) (hc : ∀ w, Sat w0 own hs w → Is P g (vals ++ cap) w v) (k : JD P n w0 own ops F m (listed.setIfInBounds i true) ((d, v) :: e) hs K) [hg : FnT P g]
    (hdn : Nat.blt d n = true := by rfl) (hw : wantB ops e gd = some true := by rfl) :
    JD P n w0 own ops F (m + 1) listed e hs K :=
  JD.ef i hi ho (.call0 hf ha hc) (fun _ _ ⟨_, ⟨h1, h2⟩, h3⟩ => by subst h1; subst h2; subst h3; exact k) (fun _ _ ⟨_, ⟨_, h2⟩, h3⟩ f => by subst h2; subst h3; exact f) hdn hw
end
end V
end Go

/- VL: regions that draw their order and end with one store: what is held is held up to that store. -/
namespace Go
namespace V
open Go.RowKit
set_option linter.unusedVariables false
set_option linter.unusedSimpArgs false

section
variable {P : Program} {ops : Array Oper} {Q : Exit → Act → World → Prop} {S : World → Prop} {z : Nat}

/-- whatever comes up next, to the end; up to number z S is shown behind each -/
def Upto (P : Program) (ops : Array Oper) (Q : Exit → Act → World → Prop) (S : World → Prop) (z : Nat) : Nat → Array Bool → Act → World → Prop
  | 0, l, a, w => Region.ready .any ops l = [] ∧ Q .normal a w
  | k + 1, l, a, w => (Region.ready .any ops l = [] → Q .normal a w) ∧
      ∀ i ∈ Region.ready .any ops l, wpOp P ops Q i (fun a' w' => ((l.setIfInBounds i true).getD z true = false → S w') ∧ Upto P ops Q S z k (l.setIfInBounds i true) a' w') a w
theorem Upto.any : ∀ (k : Nat) (l : Array Bool) (a : Act) (w : World), Upto P ops Q S z k l a w → wpAny P .any ops Q k l a w
  | 0, _, _, _, h => h
  | k + 1, l, a, w, h => ⟨h.1, fun i hi => wpOp_mono (fun a' w' h' => Upto.any k _ a' w' h'.2) (h.2 i hi)⟩
theorem not_both {i z : Nat} {l : Array Bool} {oz : Oper} (hoz : ops[z]? = some oz) (hw : ∃ e ∈ oz.after, Region.binds .any e = true ∧ e.on = i) (hr : i ∈ Region.ready .any ops l) : z ∉ Region.ready .any ops l := by
  intro hz
  obtain ⟨h0, _, _, _⟩ := mem_ready.1 hr
  obtain ⟨_, o, ho, hall⟩ := mem_ready.1 hz
  have : o = oz := Option.some.inj (ho.symm.trans hoz)
  subst this
  obtain ⟨e, he, hb, hon⟩ := hw
  have h1 := hall e he hb
  rw [hon] at h1
  rcases Nat.lt_or_ge i l.size with h' | h'
  · simp [h'] at h0 h1
    rw [h0] at h1; cases h1
  · simp [Array.getElem?_eq_none h'] at h1
/-- number i may be taken first, if z waits for it -/
theorem Upto.first {i : Nat} {oi oz : Oper} {v : Value} (hi : ops[i]? = some oi) (hsel : ∀ (j : Nat) (o : Oper) cs b, ops[j]? = some o → o.op ≠ .select cs b)
    (hQ : ∀ c a w, Q (.panic c) (a.put oi.dst v) w → Q (.panic c) a w) (hoz : ops[z]? = some oz) (hw : ∃ e ∈ oz.after, Region.binds .any e = true ∧ e.on = i) (hzi : z ≠ i) :
    ∀ (k : Nat) (l : Array Bool) (a : Act) (w : World),
      (∀ j oj, ops[j]? = some oj → j ≠ i → l.getD j true = false → (∀ e ∈ oj.after, Region.binds .any e = true → e.on ≠ i) → oi.apart ops oj = true) →
      i ∈ Region.ready .any ops l → YieldsIf P ops S oi v a → S w → l.getD z true = false →
      Upto P ops Q S z k (l.setIfInBounds i true) (a.put oi.dst v) w → Upto P ops Q S z (k + 1) l a w := by
  intro k
  induction k with
  | zero =>
    intro l a w _ hr hy hS hz H
    refine ⟨fun h => absurd (h ▸ hr) List.not_mem_nil, fun j hj => ?_⟩
    rcases Decidable.em (j = i) with rfl | hji
    · exact hy.wpOp hi hS ⟨fun _ => hS, H⟩
    · exact absurd (H.1 ▸ ready_mono hj hji) List.not_mem_nil
  | succ k ih =>
    intro l a w hfree hr hy hS hz H
    refine ⟨fun h => absurd (h ▸ hr) List.not_mem_nil, fun j hj => ?_⟩
    rcases Decidable.em (j = i) with rfl | hji
    · exact hy.wpOp hi hS ⟨fun _ => hS, H⟩
    have hjz : j ≠ z := fun e => not_both hoz hw hr (e ▸ hj)
    obtain ⟨hun, oj, hoj, hall⟩ := mem_ready.1 hj
    have hno : ∀ e ∈ oj.after, Region.binds .any e = true → e.on ≠ i := by
      intro e he hb hon
      exact not_both (z := j) hoj ⟨e, he, hb, hon⟩ hr hj
    have step := wpOp_putIf hoj (hfree j oj hoj hji hun hno) (fun cs b => hsel i oi cs b hi) (fun cs b => hsel j oj cs b hoj) hQ hy (H.2 j (ready_mono hj hji))
    refine wpOp_mono (fun a' w' ⟨hy', hS', hrest⟩ => ?_) step
    have hz' : (l.setIfInBounds j true).getD z true = false := by rw [getD_set_ne true hjz]; exact hz
    have hz2 : ((l.setIfInBounds i true).setIfInBounds j true).getD z true = false := by
      rw [getD_set_ne true hjz, getD_set_ne true (Ne.symm hzi)]; exact hz
    refine ⟨fun _ => hS' hz2, ih (l.setIfInBounds j true) a' w' (fun m om hm hmi hun' hno' => ?_) (ready_mono hr (Ne.symm hji)) hy' (hS' hz2) hz' ?_⟩
    · refine hfree m om hm hmi ?_ hno'
      rcases Decidable.em (j = m) with rfl | hjm
      · exact hun
      · rw [getD_set_ne true hjm] at hun'; exact hun'
    · rw [Array.setIfInBounds_comm _ _ hji]; exact hrest
end

/-- the operations that have not come up; 'F' is held up to number z -/
def JZ (P : Program) (n : Nat) (w0 : World) (own : List Nat) (ops : Array Oper) (F : Hp) (z : Nat) (m : Nat) (listed : Array Bool) (e : Env) (hs : Hp) (K : Env → Hp → Prop) : Prop :=
  ∀ a w, Rep n a e → Sat w0 own hs w → (listed.getD z true = false → F ⊆ hs) →
    Upto P ops (QN fun a' w' => ∃ e' hs', Rep n a' e' ∧ Sat w0 own hs' w' ∧ K e' hs') (Keeps w0 own F) z m listed a w
/-- z has not come up, and waits for i; i may be taken first -/
def firstZ (ops : Array Oper) (z : Nat) (listed : Array Bool) (i : Nat) : Bool :=
  Region.noSelect ops && Region.free .any ops listed i && (Region.ready .any ops listed).contains i && Region.waitsFor .any ops z i && !Nat.beq z i && !listed.getD z true

section
variable {P : Program} {n : Nat} {w0 : World} {own : List Nat} {e : Env} {hs F : Hp} {ops : Array Oper} {K : Env → Hp → Prop} {z m : Nat} {listed : Array Bool}
variable {d : Nat} {ty : TypeId} {pos : String} {aft : Array Edge} {g : Option (Nat × Bool)}

theorem JC.drawZ {id : Nat} {Q : Post} (z : Nat) (F : Hp) (hF : F ⊆ hs) (hm : P.follows .mixedOrders = true) (h : JZ P n w0 own ops F z ops.size (Array.replicate ops.size false) e hs (fun e hs => Q .normal e hs)) :
    JC P n w0 own (.region id ops true) e hs Q := by
  intro a w hr s
  refine wp_mono (wp_region_any hm (Upto.any _ _ _ _ (h a { w with drawn := w.drawn + 1 } hr s.drew fun _ => hF))) ?_
  intro x a' w' hq
  cases x with
  | normal => exact hq
  | _ => exact hq.elim
theorem JZ.done (hd : doneB ops listed = true) (h : K e hs) : JZ P n w0 own ops F z m listed e hs K := by
  intro a w hr s hF
  have h0 : Region.ready .any ops listed = [] := by simpa [doneB] using hd
  cases m with
  | zero => exact ⟨h0, e, hs, hr, s, h⟩
  | succ m => exact ⟨fun _ => ⟨e, hs, hr, s, h⟩, fun i hi => by rw [h0] at hi; cases hi⟩
theorem JZ.v {op : Op} {v : Value} (i : Nat) (hi : ops[i]? = some ⟨some d, op, ty, pos, aft, g⟩) (hf : firstZ ops z listed i = true)
    (h : ∀ hs', F ⊆ hs' → Val P n w0 own e hs' op v) (k : JZ P n w0 own ops F z m (listed.setIfInBounds i true) ((d, v) :: e) hs K)
    (hdn : Nat.blt d n = true := by rfl) (hg : wantB ops e g = some true := by rfl) : JZ P n w0 own ops F z (m + 1) listed e hs K := by
  intro a w hr s hF
  unfold firstZ at hf
  simp only [Bool.and_eq_true, Bool.not_eq_true'] at hf
  obtain ⟨⟨⟨⟨⟨f1, f2⟩, f3⟩, f4⟩, f5⟩, f6⟩ := hf
  obtain ⟨oz, hoz, ez, hez, hb, hon⟩ := Region.waitsFor_spec f4
  have hzi : z ≠ i := Nat.ne_of_beq_eq_false f5
  have hz2 : (listed.setIfInBounds i true).getD z true = false := by rw [getD_set_ne true (Ne.symm hzi)]; exact f6
  exact Upto.first hi (Region.noSelect_spec f1) (fun _ _ _ h => h) hoz ⟨ez, hez, hb, hon⟩ hzi m listed a w (Region.free_spec hi f2) (by simpa using f3)
    (.inl ⟨wanted_of hr hg, fun w' ⟨hs', s', f'⟩ => h hs' f' a w' _ _ _ _ _ hr s'⟩) ⟨hs, s, hF f6⟩ f6
    (k _ _ (hr.put (Nat.le_of_ble_eq_true hdn) v) s fun _ => hF f6)
theorem JZ.ef {op : Op} {R : Value → Hp → Prop} (i : Nat) (hi : ops[i]? = some ⟨some d, op, ty, pos, aft, g⟩) (ho : onlyB ops listed i = true)
    (h : Eff P n w0 own e hs op R) (k : ∀ v hs', R v hs' → JZ P n w0 own ops F z m (listed.setIfInBounds i true) ((d, v) :: e) hs' K) (hF : ∀ v hs', R v hs' → F ⊆ hs → F ⊆ hs')
    (hz : true = true) (hdn : Nat.blt d n = true := by rfl) (hg : wantB ops e g = some true := by rfl) : JZ P n w0 own ops F z (m + 1) listed e hs K := by
  intro a w hr s hf
  have h1 : Region.ready .any ops listed = [i] := by simpa [onlyB] using ho
  refine ⟨fun h0 => (by rw [h1] at h0; cases h0), fun j hj => ?_⟩
  rw [h1] at hj
  simp only [List.mem_singleton] at hj
  subst hj
  unfold wpOp
  simp only [hi]
  rw [if_pos (wanted_of hr hg)]
  have hsub : ∀ v hs', R v hs' → (listed.setIfInBounds j true).getD z true = false → F ⊆ hs' := by
    intro v hs' r hz'
    have hzj : z ≠ j := by
      intro e
      subst e
      rcases Nat.lt_or_ge z listed.size with h' | h'
      · simp [h'] at hz'
      · simp [h'] at hz'
    rw [getD_set_ne true (Ne.symm hzj)] at hz'
    exact hF v hs' r (hf hz')
  exact .inl (h a w _ _ _ _ _ _ _ hr s fun v hs' w' r s' => ⟨fun hz' => ⟨hs', s', hsub v hs' r hz'⟩, k v hs' r _ _ (hr.put (Nat.le_of_ble_eq_true hdn) v) s' (hsub v hs' r)⟩)
/-- a value that is the one thing that may come up -/
theorem JZ.v1 {op : Op} {v : Value} (i : Nat) (hi : ops[i]? = some ⟨some d, op, ty, pos, aft, g⟩) (ho : onlyB ops listed i = true)
    (h : Val P n w0 own e hs op v) (k : JZ P n w0 own ops F z m (listed.setIfInBounds i true) ((d, v) :: e) hs K) (hz : true = true)
    (hdn : Nat.blt d n = true := by rfl) (hg : wantB ops e g = some true := by rfl) : JZ P n w0 own ops F z (m + 1) listed e hs K :=
  JZ.ef i hi ho h.eff (fun v' hs' ⟨h1, h2⟩ => by subst h1; subst h2; exact k) (fun v' hs' ⟨h1, h2⟩ f => by subst h2; exact f) hz hdn hg
/-- THE STORE -/
theorem JZ.st {op : Op} {hs' : Hp} (hi : ops[z]? = some ⟨none, op, ty, pos, aft, g⟩) (ho : onlyB ops listed z = true) (hsz : Nat.blt z listed.size = true)
    (h : Eff P n w0 own e hs op (fun v h => v = undef ∧ h = hs')) (k : JZ P n w0 own ops F z m (listed.setIfInBounds z true) e hs' K)
    (hg : wantB ops e g = some true := by rfl) : JZ P n w0 own ops F z (m + 1) listed e hs K := by
  intro a w hr s hf
  have h1 : Region.ready .any ops listed = [z] := by simpa [onlyB] using ho
  refine ⟨fun h0 => (by rw [h1] at h0; cases h0), fun j hj => ?_⟩
  rw [h1] at hj
  simp only [List.mem_singleton] at hj
  subst hj
  unfold wpOp
  simp only [hi]
  rw [if_pos (wanted_of hr hg)]
  have hlt : j < listed.size := Nat.le_of_ble_eq_true hsz
  have habs : (listed.setIfInBounds j true).getD j true = false → F ⊆ hs' := by intro h; simp [hlt] at h
  exact .inl (h a w _ _ _ _ _ _ _ hr s fun v h' w' ⟨_, e2⟩ s' => by
    subst e2
    exact ⟨fun hz' => absurd (habs hz') (by simp [hlt] at hz'), k _ _ (hr.put_none v) s' habs⟩)
/-- a store behind z -/
theorem JZ.st2 {op : Op} {hs' : Hp} (i : Nat) (hi : ops[i]? = some ⟨none, op, ty, pos, aft, g⟩) (ho : onlyB ops listed i = true) (hz : listed.getD z true = true) (hsz : Nat.beq z i = false)
    (h : Eff P n w0 own e hs op (fun v h => v = undef ∧ h = hs')) (k : JZ P n w0 own ops F z m (listed.setIfInBounds i true) e hs' K)
    (hg : wantB ops e g = some true := by rfl) : JZ P n w0 own ops F z (m + 1) listed e hs K := by
  intro a w hr s hf
  have h1 : Region.ready .any ops listed = [i] := by simpa [onlyB] using ho
  refine ⟨fun h0 => (by rw [h1] at h0; cases h0), fun j hj => ?_⟩
  rw [h1] at hj
  simp only [List.mem_singleton] at hj
  subst hj
  unfold wpOp
  simp only [hi]
  rw [if_pos (wanted_of hr hg)]
  have hno : (listed.setIfInBounds j true).getD z true = true := by rw [getD_set_ne true (Ne.symm (Nat.ne_of_beq_eq_false hsz))]; exact hz
  have habs : (listed.setIfInBounds j true).getD z true = false → F ⊆ hs' := by intro h; rw [hno] at h; cases h
  exact .inl (h a w _ _ _ _ _ _ _ hr s fun v h' w' ⟨_, e2⟩ s' => by
    subst e2
    exact ⟨fun hz' => (nomatch (hno.symm.trans hz')), k _ _ (hr.put_none v) s' habs⟩)
end
end V
end Go

/- VM: blocks behind an unknown head; own slices that are cut and read. -/
namespace Go
namespace V
open Go.RowKit
set_option linter.unusedVariables false
set_option linter.unusedSimpArgs false

instance (priority := low) Mem.app_right {b : Nat} {c : Ch} {h fr : Hp} [k : Mem b c fr] : Mem b c (h ++ fr) := ⟨List.mem_append_right _ k.out⟩
instance (priority := low - 10) Mem.app_left {b : Nat} {c : Ch} {h fr : Hp} [k : Mem b c h] : Mem b c (h ++ fr) := ⟨List.mem_append_left _ k.out⟩
theorem Upd.app_right {b : Nat} {c : Ch} {h fr fr' : Hp} (k : Upd b c fr fr') : Upd b c (h ++ fr) (h ++ fr') := by
  induction h with
  | nil => exact k
  | cons p h ih => exact .tail ih
instance (priority := low) UpdI.app_right {b : Nat} {c : Ch} {h fr fr' : Hp} [k : UpdI b c fr fr'] : UpdI b c (h ++ fr) (h ++ fr') := ⟨k.out.app_right⟩

/-- some of what is left in memory is let go, or told in another order -/
theorem Does.less {P : Program} {g : Nat} {vals : List Value} {pre : Hp} {w : World} {R : Value → Hp → Prop} (h : Does P g vals pre w (fun v hs => ∃ hs', (∀ w', Sat w (bl pre) hs w' → Sat w (bl pre) hs' w') ∧ R v hs')) : Does P g vals pre w R :=
  fun a b => (h a b).mono fun x w' ⟨v, hs, h1, ⟨hs', h2, h4⟩, h3⟩ => ⟨v, hs', h1, h4, h2 _ h3⟩
theorem Sat.not_in {w0 w : World} {own : List Nat} {b : Nat} {c : Ch} {rest h : Hp} (s : Sat w0 own ((b, c) :: rest) w) (hs : h ⊆ rest) : b ∉ bl h := by
  have nd := s.nd
  simp only [bl, List.map_cons, List.nodup_cons] at nd
  intro hb
  obtain ⟨p, hp, rfl⟩ := List.mem_map.1 hb
  exact nd.1 (List.mem_map.2 ⟨p, hs hp, rfl⟩)
theorem OwnS.len {E m n : Nat} {v : Value} {vs : List Value} {h : Hp} (k : OwnS E m v n vs h) : vs.length = n * m := k.1
theorem OwnS.cap_ {E m n c : Nat} {A : Option Addr} {n' : Nat} {vs : List Value} {h : Hp} (k : OwnS E m (.slice A n' c) n vs h) : n' = n ∧ n ≤ c := by
  rcases k.2 with ⟨h1, h2, _⟩ | ⟨b, o, cap, l, h1, _, h3, _⟩
  · cases h1; subst h2; exact ⟨rfl, by omega⟩
  · cases h1; exact ⟨rfl, h3⟩
/-- the head is cut off -/
theorem OwnS.cut {E m n c : Nat} {A : Option Addr} {vs : List Value} {h : Hp} (k : OwnS E m (.slice A n c) n vs h) {i : Nat} (hi : i ≤ n) (hm : 0 < m) :
    OwnS E m (.slice (cutA A c i m) (n - i) (c - i)) (n - i) (vs.drop (i * m)) h := by
  obtain ⟨hl, k⟩ := k
  refine ⟨by rw [List.length_drop, hl, Nat.sub_mul], ?_⟩
  rcases k with ⟨h1, h2, h3⟩ | ⟨b, o, cap, l, h1, h2, h3, h4, h5⟩
  · cases h1
    obtain rfl : i = 0 := by omega
    exact .inl ⟨by simp [cutA_zero], by simp, h3⟩
  · cases h1
    have hcm : i * m ≤ c * m := Nat.mul_le_mul_right _ (by omega)
    have hsub : (c - i) * m = c * m - i * m := Nat.sub_mul _ _ _
    refine .inr ?_
    by_cases e : c = i
    · have hn : n = i := by omega
      refine ⟨b, o, c - i, l, ?_, h2, by omega, by rw [e]; simp; omega, ?_⟩
      · unfold cutA; rw [if_pos e]
      · rw [hn, Nat.sub_self, Nat.zero_mul, List.take_zero, ← h5, List.drop_take, hn, Nat.sub_self, List.take_zero]
    · refine ⟨b, o + i * m, c - i, l, by rw [cutA_some (by omega)], h2, by omega, by omega, ?_⟩
      rw [← h5, List.drop_take, List.drop_drop, Nat.sub_mul]
/-- what an own slice holds is read -/
theorem OwnS.rd {E m n c : Nat} {A : Option Addr} {vs : List Value} {h hs : Hp} {w0 w : World} {own no : List Nat} (k : OwnS E m (.slice A n c) n vs h) (s : Sat w0 own hs w) (hh : h ⊆ hs) (hn : ∀ b ∈ bl h, b ∉ no) : Rd w no A vs := by
  obtain ⟨hl, k⟩ := k
  rcases k with ⟨h1, h2, h3⟩ | ⟨b, o, cap, l, h1, h2, h3, h4, h5⟩
  · cases h1
    have : vs = [] := by simpa using hl
    subst this
    exact Rd.nil _ _ _
  · cases h1
    subst h2
    intro j v hv
    refine ⟨b, o, rfl, hn b (by simp [bl]), ?_⟩
    have hb : (b, Ch.cells l E) ∈ hs := hh (by simp)
    rw [s.cell hb, ← hv, ← h5, List.getElem?_take, List.getElem?_drop]
    have := (List.getElem?_eq_some_iff.1 hv).1
    rw [if_pos (by omega)]
theorem OwnS.one {E m n n' c : Nat} {A : Option Addr} {vs : List Value} {h : Hp} (k : OwnS E m (.slice A n' c) n vs h) : n' = n := k.cap_.1
theorem Rd.take {w : World} {no : List Nat} {A : Option Addr} {vs : List Value} (h : Rd w no A vs) (k : Nat) : Rd w no A (vs.take k) :=
  h.mono fun j v hv => by
    rw [List.getElem?_take] at hv
    split at hv
    · exact hv
    · cases hv
theorem Sat.disj {w0 w : World} {own : List Nat} {h fr : Hp} (s : Sat w0 own (h ++ fr) w) : ∀ b ∈ bl h, b ∉ bl fr := by
  have nd := s.nd
  simp only [bl, List.map_append, List.nodup_append] at nd
  exact fun b hb hf => nd.2.2 b hb b hf rfl
/-- what is read at an address is loaded there -/
theorem Rd.part {w0 : World} {own : List Nat} {hs : Hp} {b o i : Nat} {vs us : List Value} (h : Rd w0 own (some ⟨b, o, none⟩) vs) (hu : ∀ (j : Nat) (v : Value), us[j]? = some v → vs[i + j]? = some v) : At w0 own hs ⟨b, o + i, none⟩ us := by
  intro w s j v hv
  obtain ⟨b', o', h1, h2, h3⟩ := h _ v (hu j v hv)
  cases h1
  rw [add_none, Nat.add_assoc]
  exact s.cell_old h3 h2
theorem Rd.whole {w0 : World} {own : List Nat} {hs : Hp} {b o : Nat} {vs : List Value} (h : Rd w0 own (some ⟨b, o, none⟩) vs) : At w0 own hs ⟨b, o, none⟩ vs :=
  h.part (i := 0) (fun j v hv => by rwa [Nat.zero_add])
theorem Rd.cell {w0 : World} {own : List Nat} {hs : Hp} {b o : Nat} {vs : List Value} (h : Rd w0 own (some ⟨b, o, none⟩) vs) {i : Nat} {v : Value} (hv : vs[i]? = some v) : At w0 own hs ⟨b, o + i, none⟩ [v] :=
  h.part (fun j u hu => by
    match j, hu with
    | 0, hu => simp at hu; subst hu; simpa using hv)
section
variable {P : Program} {n : Nat} {w0 : World} {own : List Nat} {e : Env} {hs : Hp} {ops : Array Oper} {rest l : List Oper} {K : Env → Hp → Prop}
variable {d : Nat} {ty : TypeId} {pos : String} {aft : Array Edge} {gd : Option (Nat × Bool)}
/-- a call that is lent blocks and gives them back as they were -/
theorem Eff.lend {g : Nat} {f : Operand} {args : List Operand} {at_ : Array TypeId} {cap vals : List Value} {v : Value} {pre fr : Hp}
    (hf : ev e f = some (.func (.func g) #[] ⟨cap⟩)) (ha : evs e args = some vals) [hg : FnT P g] (hp : hs.Perm (pre ++ fr)) (hc : ∀ w, Sat w0 own hs w → Does P g (vals ++ cap) pre w (fun u h => u = v ∧ h = pre)) :
    Eff P n w0 own e hs (.call { callee := .value f, args := ⟨args⟩, argTypes := at_ }) (fun u h => u = v ∧ h = hs) := by
  intro a w ty pos aft gd d K Q hr s hk
  refine Eff.call hf ha hp hc a w ty pos aft gd d K Q hr s ?_
  rintro _ hs' w' ⟨h, ⟨rfl, rfl⟩, rfl⟩ s'
  exact hk _ _ _ ⟨rfl, rfl⟩ (s'.perm hp.symm)
theorem JL.pl {g : Nat} {f : Operand} {args : List Operand} {at_ : Array TypeId} {cap vals : List Value} {v : Value} {pre : Hp} (fr : Hp)
    (hf : ev e f = some (.func (.func g) #[] ⟨cap⟩)) (ha : evs e args = some vals) (hp : hs.Perm (pre ++ fr)) (hc : ∀ w, Sat w0 own hs w → Does P g (vals ++ cap) pre w (fun u h => u = v ∧ h = pre))
    (k : JL P n w0 own ops rest ((d, v) :: e) hs K) [hg : FnT P g] (hdn : Nat.blt d n = true := by rfl) (hw : wantB ops e gd = some true := by rfl) :
    JL P n w0 own ops (⟨some d, .call { callee := .value f, args := ⟨args⟩, argTypes := at_ }, ty, pos, aft, gd⟩ :: rest) e hs K :=
  JL.ef (.lend hf ha hp hc) (fun _ _ ⟨h1, h2⟩ => by subst h1; subst h2; exact k) hdn hw
end
end V
end Go

/- VO: min and max of numbers; wrapped numbers as remainders. -/
namespace Go
namespace V
open Go.RowKit
set_option linter.unusedVariables false
set_option linter.unusedSimpArgs false
section
variable {P : Program} {n : Nat} {w0 : World} {own : List Nat} {e : Env} {hs : Hp}
theorem Val.min2 {x y : Operand} {q : IntKind} {i j : Int} {ts : Array TypeId} (hx : ev e x = some (.int q i)) (hy : ev e y = some (.int q j)) :
    Val P n w0 own e hs (.call { callee := .builtin .min, args := #[x, y], argTypes := ts }) (.int q (min i j)) := fun a w ty pos aft g d hr s => by
  simp [execOp, hr.eval hx, hr.eval hy, resolve, invoke, builtin, Builtin.min_, Builtin.min2]
  by_cases h : j < i
  · simp [h]; omega
  · simp [h]; omega
end
/-- rows of so many cells -/
theorem flatMap_get {α : Type} (f : α → List Value) (m : Nat) (hm : ∀ a, (f a).length = m) : ∀ (l : List α) (i j : Nat) (hi : i < l.length), j < m → (l.flatMap f)[i * m + j]? = (f l[i])[j]?
  | a :: l, 0, j, hi, hj => by
    rw [List.flatMap_cons, List.getElem?_append_left (by rw [hm]; omega)]; simp
  | a :: l, i + 1, j, hi, hj => by
    have e : (i + 1) * m + j = m + (i * m + j) := by rw [Nat.add_mul]; omega
    rw [List.flatMap_cons, List.getElem?_append_right (by rw [hm]; omega), hm, e, Nat.add_sub_cancel_left, flatMap_get f m hm l i j (by simpa using hi) hj]
    simp
  | [], i, j, hi, _ => by simp at hi
theorem flatMap_length {α : Type} (f : α → List Value) (m : Nat) (hm : ∀ a, (f a).length = m) (l : List α) : (l.flatMap f).length = l.length * m := by
  induction l with
  | nil => simp
  | cons a l ih => rw [List.flatMap_cons, List.length_append, hm, ih, List.length_cons, Nat.add_mul]; omega
theorem u64w (z : Int) : IntKind.u64.wrap z = z % 18446744073709551616 := by simp [IntKind.wrap, IntKind.bits, IntKind.signed]
theorem u32w (z : Int) : IntKind.u32.wrap z = z % 4294967296 := by simp [IntKind.wrap, IntKind.bits, IntKind.signed]
end V
end Go

/- VP: '&&' and '||' in regions that draw and turn nothing. -/
namespace Go
namespace V
open Go.RowKit
set_option linter.unusedVariables false
set_option linter.unusedSimpArgs false

section
variable {P : Program} {n : Nat} {w0 : World} {own : List Nat} {e : Env} {hs : Hp} {ops : Array Oper} {rest l : List Oper} {K : Env → Prop}
variable {d : Nat} {ty : TypeId} {pos : String} {aft : Array Edge} {g : Option (Nat × Bool)}

theorem JH.mono {l : List Oper} {K' : Env → Prop} (h : JH P n w0 own ops l e hs K) (k : ∀ e, K e → K' e) : JH P n w0 own ops l e hs K' :=
  fun a w hr s L hL => h a w hr s L fun e' a' r kk => hL e' a' r (k _ kk)
theorem JH.skips : ∀ {l : List Oper} {e e1 : Env}, skB ops n l e = some e1 → (∀ e1', Sub e e1' → JH P n w0 own ops [] e1' hs K) → JH P n w0 own ops l e hs K
  | [], e, e1, h, k => k e (Sub.refl e)
  | o :: l, e, e1, h, k => by
    unfold skB at h
    cases ho : o.dst with
    | none => rw [ho] at h; cases h
    | some dd =>
      rw [ho] at h
      simp only at h
      split at h
      · rename_i hc
        rw [Bool.and_eq_true, Bool.and_eq_true] at hc
        obtain ⟨⟨c1, c2⟩, c3⟩ := hc
        intro a w hr s L hL
        unfold wpStill
        rw [if_neg (by rw [skip_step hr ho c3]; simp), ho]
        refine JH.skips h (fun e1' hs' => k e1' (Sub.trans ?_ hs')) _ _ (hr.put (Nat.le_of_ble_eq_true c1) undef) s L hL
        exact sub_app [(dd, undef)] e (by simp [c2])
      · cases h
theorem JH.app {l1 l2 : List Oper} (h : JH P n w0 own ops l1 e hs (fun e' => JH P n w0 own ops l2 e' hs K)) : JH P n w0 own ops (l1 ++ l2) e hs K := by
  intro a w hr s L hL
  have key : ∀ (l1 : List Oper) (a : Act), wpStill P ops w (fun a => wpStill P ops w L l2 a) l1 a → wpStill P ops w L (l1 ++ l2) a := by
    intro l1
    induction l1 with
    | nil => intro a h; exact h
    | cons o l1 ih =>
      intro a h
      unfold wpStill at h
      rw [List.cons_append]
      unfold wpStill
      split
      · rename_i hw
        rw [if_pos hw] at h
        exact Oper.still_mono ih h
      · rename_i hw
        rw [if_neg hw] at h
        exact ih _ h
  exact key l1 a (h a w hr s _ fun e' a' r' kk => kk a' w r' s L hL)
theorem sub_same {t : Nat} {v : Value} (ht : get e t = some v) : Sub e ((t, v) :: e) := fun s u hu => by
  unfold get
  cases hb : Nat.beq t s with
  | true => have := Nat.eq_of_beq_eq_true hb; subst this; rw [ht] at hu; simpa using hu
  | false => exact hu
/-- '&&' -/
theorem JH.and {b1 b2 : Bool} (t y m k : Nat) (hl : l.drop m = ⟨some d, .pick (.tmp t) (.tmp y) (.const (.bool false)), ty, pos, aft, g⟩ :: rest) (ht : get e t = some (.bool b1))
    (h : b1 = true → JH P n w0 own ops (l.take m) ((t, .bool true) :: e) hs (fun e' => get e' y = some (.bool b2) ∧ Pop k e' ((t, .bool true) :: e)))
    (kk : JH P n w0 own ops rest ((d, .bool (b1 && b2)) :: e) hs K)
    (hsk : (skB ops n (l.take m) ((t, .bool false) :: e)).isSome = true := by rfl)
    (hdn : Nat.blt d n = true := by rfl) (hg : wantB ops e g = some true := by rfl) : JH P n w0 own ops l e hs K := by
  rw [← List.take_append_drop m l, hl]
  refine JH.app ?_
  have fin : ∀ (e1 : Env), Sub e e1 → (b1 = true → get e1 y = some (.bool b2)) → JH P n w0 own ops (⟨some d, .pick (.tmp t) (.tmp y) (.const (.bool false)), ty, pos, aft, g⟩ :: rest) e1 hs K := by
    intro e1 hsub hy a w hr s L hL
    have hr' := hr.sub hsub
    unfold wpStill
    rw [if_pos (wanted_of hr' hg)]
    have e1t := hr.eval (x := .tmp t) (hsub t _ ht)
    have hrun : (execOp a.eval ⟨some d, .pick (.tmp t) (.tmp y) (.const (.bool false)), ty, pos, aft, g⟩).run P w = .ok (.value (.bool (b1 && b2))) w := by
      cases hb : b1 with
      | false =>
        rw [hb] at e1t
        have e3 : ∀ v, a.eval (.const v) = v := fun _ => rfl
        simp [execOp, e1t, asBool, e3]
      | true =>
        rw [hb] at e1t
        have e2 := hr.eval (x := .tmp y) (hy hb)
        simp [execOp, e1t, e2, asBool]
    rw [Oper.still, hrun, Oper.stillUpon_value]
    exact kk _ _ (hr'.put (Nat.le_of_ble_eq_true hdn) _) s L hL
  cases hb : b1 with
  | true =>
    rw [hb] at ht
    intro a w hr s
    exact (h hb).mono (fun e' ⟨h2, h3⟩ => fin e' ((sub_same ht).trans h3.sub) (fun _ => h2)) a w (hr.same ht) s
  | false =>
    rw [hb] at ht
    obtain ⟨e1, he1⟩ := Option.isSome_iff_exists.1 hsk
    intro a w hr s
    exact JH.skips he1 (fun e1' hs' => JH.nil (fin e1' ((sub_same ht).trans hs') (fun h => by rw [hb] at h; cases h))) a w (hr.same ht) s
/-- '||' -/
theorem JH.or {b1 b2 : Bool} (t y m k : Nat) (hl : l.drop m = ⟨some d, .pick (.tmp t) (.const (.bool true)) (.tmp y), ty, pos, aft, g⟩ :: rest) (ht : get e t = some (.bool b1))
    (h : b1 = false → JH P n w0 own ops (l.take m) ((t, .bool false) :: e) hs (fun e' => get e' y = some (.bool b2) ∧ Pop k e' ((t, .bool false) :: e)))
    (kk : JH P n w0 own ops rest ((d, .bool (b1 || b2)) :: e) hs K)
    (hsk : (skB ops n (l.take m) ((t, .bool true) :: e)).isSome = true := by rfl)
    (hdn : Nat.blt d n = true := by rfl) (hg : wantB ops e g = some true := by rfl) : JH P n w0 own ops l e hs K := by
  rw [← List.take_append_drop m l, hl]
  refine JH.app ?_
  have fin : ∀ (e1 : Env), Sub e e1 → (b1 = false → get e1 y = some (.bool b2)) → JH P n w0 own ops (⟨some d, .pick (.tmp t) (.const (.bool true)) (.tmp y), ty, pos, aft, g⟩ :: rest) e1 hs K := by
    intro e1 hsub hy a w hr s L hL
    have hr' := hr.sub hsub
    unfold wpStill
    rw [if_pos (wanted_of hr' hg)]
    have e1t := hr.eval (x := .tmp t) (hsub t _ ht)
    have hrun : (execOp a.eval ⟨some d, .pick (.tmp t) (.const (.bool true)) (.tmp y), ty, pos, aft, g⟩).run P w = .ok (.value (.bool (b1 || b2))) w := by
      cases hb : b1 with
      | true =>
        rw [hb] at e1t
        have e3 : ∀ v, a.eval (.const v) = v := fun _ => rfl
        simp [execOp, e1t, asBool, e3]
      | false =>
        rw [hb] at e1t
        have e2 := hr.eval (x := .tmp y) (hy hb)
        simp [execOp, e1t, e2, asBool]
    rw [Oper.still, hrun, Oper.stillUpon_value]
    exact kk _ _ (hr'.put (Nat.le_of_ble_eq_true hdn) _) s L hL
  cases hb : b1 with
  | false =>
    rw [hb] at ht
    intro a w hr s
    exact (h hb).mono (fun e' ⟨h2, h3⟩ => fin e' ((sub_same ht).trans h3.sub) (fun _ => h2)) a w (hr.same ht) s
  | true =>
    rw [hb] at ht
    obtain ⟨e1, he1⟩ := Option.isSome_iff_exists.1 hsk
    intro a w hr s
    exact JH.skips he1 (fun e1' hs' => JH.nil (fin e1' ((sub_same ht).trans hs') (fun h => by rw [hb] at h; cases h))) a w (hr.same ht) s
end
end V
end Go

/- VQ: maps whose keys are numbers: make, look up, set. -/
namespace Go
namespace V
open Go.RowKit
set_option linter.unusedVariables false
set_option linter.unusedSimpArgs false

abbrev ME := Int × Value × Nat
def mentry (q : IntKind) (x : ME) : MapEntry := { key := .int q x.1, val := x.2.1, born := x.2.2 }
def mapOf (q : IntKind) (es : List ME) (clock : Nat) : Obj := .map ⟨es.map (mentry q)⟩ clock
def mfind (k : Int) : List ME → Nat → Option (Nat × Value)
  | [], _ => none
  | x :: es, i => if k == x.1 then some (i, x.2.1) else mfind k es (i + 1)
def mget (k : Int) (es : List ME) : Option Value := (mfind k es 0).map (·.2)
theorem findNow_int (q : IntKind) (k : Int) : ∀ (es : List ME) (i : Nat), Instr.findNow (.int q) (.int q k) (es.map (mentry q)) i = some (mfind k es i)
  | [], i => rfl
  | x :: es, i => by
    simp only [List.map_cons, Instr.findNow, mentry, Instr.sameNow, if_true]
    unfold mfind
    cases h : k == x.1 with
    | true => simp
    | false => simpa using findNow_int q k es (i + 1)
section
variable {P : Program} {n : Nat} {w0 : World} {own : List Nat} {e : Env} {hs : Hp}
theorem run_checkKey_int {kT : Nat} {q : IntKind} (h : P.underlying kT = some (.int q)) (b : Bool) (k : Int) (w : World) : (Instr.checkKey b 10000 kT (.int q k)).run P w = .ok () w := by
  unfold Instr.checkKey
  simp [run_underlying h]
theorem run_findKey_int {kT : Nat} {q : IntKind} (h : P.underlying kT = some (.int q)) (k : Int) (es : List ME) (w : World) : (Instr.findKey kT (.int q k) (es.map (mentry q))).run P w = .ok (mfind k es 0) w := by
  unfold Instr.findKey
  simp [run_underlying h, findNow_int]
theorem Sat.mrow {w0 w : World} {own : List Nat} {hs : Hp} (h : Sat w0 own hs w) {b : Nat} {o : Obj} (hb : (b, .obj o) ∈ hs) : w.heap[b]? = some o := h.has b _ hb
theorem Eff.makeMap {T : Nat} (q : IntKind) : Eff P n w0 own e hs (.makeMap T none) (fun v h => ∃ b, v = .map (some b) ∧ h = (b, .obj (mapOf q [] 0)) :: hs) :=
  Eff.of_run fun a w ty pos aft g d hr s => by
    refine ⟨.map (some w.heap.size), _, w.alloc (.map #[] 0), ?_, ⟨w.heap.size, rfl, rfl⟩, s.new (.obj (mapOf q [] 0))⟩
    have := run_makeMap (P := P) T w
    simp [execOp, this]
theorem Val.lookup {T kT eT b c : Nat} {q : IntKind} {k : Int} {x y : Operand} {es : List ME} {z : Value} (hx : ev e x = some (.map (some b))) (hy : ev e y = some (.int q k)) [hT : MapT P T kT eT] [hk : IntT P kT q] [hz : ZrV P eT z]
    [hb : Mem b (.obj (mapOf q es c)) hs] : Val P n w0 own e hs (.lookup T x y false) ((mget k es).getD z) := fun a w ty pos aft g d hr s => by
  obtain ⟨i, hi, hzz⟩ := hz.out
  have h1 := s.mrow hb.out
  have h1' : w.heap[b]? = some (.map ⟨es.map (mentry q)⟩ c) := h1
  have key : (Instr.lookup T (.map (some b)) (.int q k) false).run P w = .ok ((mget k es).getD z) w := by
    unfold Instr.lookup
    simp [run_underlying hT.out, MapKept.run_getObj_map h1', run_checkKey_int hk.out, run_findKey_int hk.out]
    unfold mget
    cases mfind k es 0 with
    | none => simp [zeroValue, typeInfo, hi, hzz]
    | some p => simp
  simp [execOp, hr.eval hx, hr.eval hy, key]
theorem Val.lookupE {T kT eT b c : Nat} {q : IntKind} {k : Int} {x y : Operand} {es : List ME} {z v : Value} (hx : ev e x = some (.map (some b))) (hy : ev e y = some (.int q k)) [hT : MapT P T kT eT] [hk : IntT P kT q] [hz : ZrV P eT z]
    [hb : Mem b (.obj (mapOf q es c)) hs] (hv : (mget k es).getD z = v) : Val P n w0 own e hs (.lookup T x y false) v := hv ▸ Val.lookup hx hy
/-- the map behind a setting, and its clock -/
def mset (k : Int) (v : Value) (es : List ME) (c : Nat) : List ME × Nat := match mfind k es 0 with
  | some (i, _) => (es.modify i fun x => (k, v, x.2.2), c)
  | none => (es ++ [(k, v, c)], c + 1)
theorem mfind_key (k : Int) : ∀ (es : List ME) (i j : Nat) (v : Value), mfind k es i = some (j, v) → i ≤ j ∧ ∃ x, es[j - i]? = some x ∧ x.1 = k ∧ x.2.1 = v
  | [], i, j, v, h => by simp [mfind] at h
  | x :: es, i, j, v, h => by
    unfold mfind at h
    cases hk : k == x.1 with
    | true =>
      rw [hk] at h
      simp at h
      obtain ⟨rfl, rfl⟩ := h
      exact ⟨Nat.le_refl _, x, by simp, by simpa using (beq_iff_eq.1 hk).symm, rfl⟩
    | false =>
      rw [hk] at h
      simp at h
      obtain ⟨h1, y, h2, h3⟩ := mfind_key k es (i + 1) j v h
      refine ⟨by omega, y, ?_, h3⟩
      obtain ⟨m, hm⟩ : ∃ m, j - i = m + 1 := ⟨j - i - 1, by omega⟩
      rw [hm, List.getElem?_cons_succ, show m = j - (i + 1) from by omega]
      exact h2
theorem Eff.mapUpdate {T kT eT b c : Nat} {q : IntKind} {k : Int} {x y z : Operand} {v : Value} {es : List ME} {hs' : Hp} (hx : ev e x = some (.map (some b))) (hy : ev e y = some (.int q k)) (hz : ev e z = some v) [hT : MapT P T kT eT] [hk : IntT P kT q]
    [hb : Mem b (.obj (mapOf q es c)) hs] [u : UpdI b (.obj (mapOf q (mset k v es c).1 (mset k v es c).2)) hs hs'] : Eff P n w0 own e hs (.mapUpdate T x y z) (fun u h => u = undef ∧ h = hs') :=
  Eff.of_skip fun a w ty pos aft g d hr s => by
    have h1 := s.mrow hb.out
    have h1' : w.heap[b]? = some (.map ⟨es.map (mentry q)⟩ c) := h1
    have hlt : b < w.heap.size := (Array.getElem?_eq_some_iff.1 h1').1
    have key : (Instr.mapUpdate T (.map (some b)) (.int q k) v).run P w = .ok () { w with heap := w.heap.setIfInBounds b (mapOf q (mset k v es c).1 (mset k v es c).2) } := by
      unfold Instr.mapUpdate
      cases hf : mfind k es 0 with
      | none =>
        simp [run_underlying hT.out, MapKept.run_getObj_map h1', run_checkKey_int hk.out, run_findKey_int hk.out, hf, MapKept.run_setObj_map _ h1', mset, mapOf, mentry]
      | some p =>
        obtain ⟨i, v0⟩ := p
        obtain ⟨_, y0, g1, g2, _⟩ := mfind_key k es 0 i v0 hf
        have hold : ((((⟨es.map (mentry q)⟩ : Array MapEntry)[i]?).map (·.key)).getD (.int q k)) = .int q k := by
          simp at g1
          simp [g1, mentry, g2]
        have hst : (Instr.keyThatStays (.int q k) (.int q k)).run P w = .ok (.int q k) w := by
          simp [Instr.keyThatStays, Instr.sameBits]
        simp [run_underlying hT.out, MapKept.run_getObj_map h1', run_checkKey_int hk.out, run_findKey_int hk.out, hf]
        have hold' : (Option.map ((fun x => x.key) ∘ mentry q) es[i]?).getD (Value.int q k) = Value.int q k := by
          simp at g1
          simp [g1, mentry, g2]
        rw [hold', hst]
        simp only [Result.andThen_ok, MapKept.run_setObj_map _ h1']
        congr 3
        simp only [mset, hf, mapOf]
        congr 2
        apply List.ext_getElem?
        intro m
        simp only [List.getElem?_modify, List.getElem?_map]
        cases es[m]? with
        | none => simp
        | some x => by_cases hm : i = m <;> simp [hm, mentry]
    refine ⟨{ w with heap := w.heap.setIfInBounds b (mapOf q (mset k v es c).1 (mset k v es c).2) }, ?_, ?_⟩
    · simp [execOp, hr.eval hx, hr.eval hy, hr.eval hz, key]
    · refine s.upd u.out ?_ ?_ ?_ rfl rfl rfl
      · simp
      · intro i hi
        simp [Array.getElem?_setIfInBounds, Ne.symm hi]
      · simp [Array.getElem?_setIfInBounds, hlt, Ch.toObj]
end
end V
end Go

/- VR: regions that draw their order: they run in an order of our choice, values first, what works on memory when it is alone. -/
namespace Go
namespace V
open Go.RowKit
set_option linter.unusedVariables false
set_option linter.unusedSimpArgs false

/-- does the operation work on memory? -/
def isEff (o : Oper) : Bool := match o.op with
  | .alloc _ | .box _ _ | .buildSlice _ _ _ | .insert _ _ _ _ | .store _ _ _ | .makeMap _ _ | .makeSlice _ _ _ | .mapUpdate _ _ _ _ | .mapEntry _ _ _ | .entryStore _ _ _ _ | .range _ _ | .next _ _ | .entry _ => true
  | .call { callee := .value _, .. } => true
  | .call { callee := .builtin .append, .. } => true
  | .call { callee := .builtin .copy, .. } => true
  | .call { callee := .builtin .delete, .. } => true
  | .call { callee := .builtin .clear, .. } => true
  | _ => false
/-- the numbers may come up in this order -/
def ordB (ops : Array Oper) : List Oper → List Nat → Array Bool → Bool
  | [], [], _ => true
  | o :: l, i :: is, listed => (onlyB ops listed i || (!isEff o && firstB ops listed i)) && ordB ops l is (listed.setIfInBounds i true)
  | _, _, _ => false
def marks_ : List Nat → Array Bool → Array Bool
  | [], listed => listed
  | i :: is, listed => marks_ is (listed.setIfInBounds i true)
theorem marks_app : ∀ (a b : List Nat) (listed : Array Bool), marks_ (a ++ b) listed = marks_ b (marks_ a listed)
  | [], b, listed => rfl
  | i :: a, b, listed => marks_app a b _
theorem ordB_app (ops : Array Oper) : ∀ (l1 l2 : List Oper) (i1 i2 : List Nat) (listed : Array Bool), l1.length = i1.length → ordB ops (l1 ++ l2) (i1 ++ i2) listed = (ordB ops l1 i1 listed && ordB ops l2 i2 (marks_ i1 listed))
  | [], l2, [], i2, listed, _ => by simp [ordB, marks_]
  | o :: l1, l2, i :: i1, i2, listed, h => by
    simp only [List.cons_append, ordB, ordB_app ops l1 l2 i1 i2 _ (by simpa using h), marks_, Bool.and_assoc]
  | [], _, _ :: _, _, _, h => by simp at h
  | _ :: _, _, [], _, _, h => by simp at h
def Nums (ops : Array Oper) : List Oper → List Nat → Prop
  | [], [] => True
  | o :: l, i :: is => ops[i]? = some o ∧ Nums ops l is
  | _, _ => False
theorem Nums.len {ops : Array Oper} : ∀ {l : List Oper} {is : List Nat}, Nums ops l is → l.length = is.length
  | [], [], _ => rfl
  | o :: l, i :: is, h => by have := Nums.len h.2; simp [this]
  | [], _ :: _, h => h.elim
  | _ :: _, [], h => h.elim
theorem Nums.app {ops : Array Oper} : ∀ {l1 l2 : List Oper} {is : List Nat}, Nums ops (l1 ++ l2) is → Nums ops l1 (is.take l1.length) ∧ Nums ops l2 (is.drop l1.length)
  | [], l2, is, h => ⟨by simp [Nums], by simpa using h⟩
  | o :: l1, l2, i :: is, h => by
    obtain ⟨h1, h2⟩ := h
    obtain ⟨k1, k2⟩ := Nums.app h2
    exact ⟨⟨h1, k1⟩, k2⟩
  | _ :: _, _, [], h => h.elim
theorem Nums.seq {ops : Array Oper} : ∀ (l : List Oper) (k : Nat), (∀ j, j < l.length → ops[k + j]? = l[j]?) → Nums ops l (List.range' k l.length)
  | [], k, _ => trivial
  | o :: l, k, h => by
    rw [List.length_cons, List.range'_succ]
    refine ⟨by simpa using h 0 (by simp), Nums.seq l (k + 1) fun j hj => ?_⟩
    have := h (j + 1) (by simpa using hj)
    rw [List.getElem?_cons_succ] at this
    rw [← this, Nat.add_right_comm, Nat.add_assoc]

/-- the operations, in a drawn region, in their order: 'F' is held -/
def JK (P : Program) (n : Nat) (w0 : World) (own : List Nat) (ops : Array Oper) (F : Hp) (l : List Oper) (e : Env) (hs : Hp) (K : Env → Hp → Prop) : Prop :=
  ∀ (m : Nat) (is : List Nat) (listed : Array Bool) (Z : Env → Hp → Prop), Nums ops l is → ordB ops l is listed = true → F ⊆ hs →
    (∀ e' hs', F ⊆ hs' → K e' hs' → JD P n w0 own ops F m (marks_ is listed) e' hs' Z) → JD P n w0 own ops F (l.length + m) listed e hs Z

section
variable {P : Program} {n : Nat} {w0 : World} {own : List Nat} {e : Env} {hs F : Hp} {ops : Array Oper} {rest l : List Oper} {K : Env → Hp → Prop}
variable {d : Nat} {ty : TypeId} {pos : String} {aft : Array Edge} {g : Option (Nat × Bool)}

theorem JC.drawK {id : Nat} {Q : Post} {l : List Oper} (F : Hp) (hF : F ⊆ hs) (hm : P.follows .mixedOrders = true) (hB : (ordB l.toArray l (List.range' 0 l.length) (Array.replicate l.length false) && doneB l.toArray (marks_ (List.range' 0 l.length) (Array.replicate l.length false))) = true)
    (h : JK P n w0 own l.toArray F l e hs (fun e' hs' => Q .normal e' hs')) : JC P n w0 own (.region id l.toArray true) e hs Q := by
  rw [Bool.and_eq_true] at hB
  refine JC.draw F hF hm ?_
  have := h 0 (List.range' 0 l.length) (Array.replicate l.length false) (fun e hs => Q .normal e hs) (Nums.seq l 0 fun j hj => by simp) hB.1 hF (fun e' hs' _ ke => JD.done hB.2 ke)
  simpa using this
def pickL (l : List Oper) : List Nat → List Oper
  | [] => []
  | i :: is => match l[i]? with
    | some o => o :: pickL l is
    | none => []
theorem pickL_nums {l : List Oper} : ∀ (is : List Nat), ordB l.toArray (pickL l is) is (Array.replicate l.length false) = true → (pickL l is).length = is.length → Nums l.toArray (pickL l is) is
  | [], _, _ => trivial
  | i :: is, h, hl => by
    have key : ∀ (is : List Nat), (pickL l is).length = is.length → Nums l.toArray (pickL l is) is := by
      intro is
      induction is with
      | nil => intro _; trivial
      | cons i is ih =>
        intro hl
        unfold pickL at hl ⊢
        cases ho : l[i]? with
        | none => rw [ho] at hl; simp at hl
        | some o =>
          rw [ho] at hl
          simp only at hl ⊢
          exact ⟨by simpa using ho, ih (by simpa using hl)⟩
    exact key _ hl
/-- in an order of ours -/
theorem JC.drawP {id : Nat} {Q : Post} {l : List Oper} (is : List Nat) (F : Hp) (hF : F ⊆ hs) (hm : P.follows .mixedOrders = true) (hB : (ordB l.toArray (pickL l is) is (Array.replicate l.length false) && doneB l.toArray (marks_ is (Array.replicate l.length false)) && Nat.beq (pickL l is).length l.length && Nat.beq is.length l.length) = true)
    (h : JK P n w0 own l.toArray F (pickL l is) e hs (fun e' hs' => Q .normal e' hs')) : JC P n w0 own (.region id l.toArray true) e hs Q := by
  rw [Bool.and_eq_true, Bool.and_eq_true, Bool.and_eq_true] at hB
  obtain ⟨⟨⟨h1, h2⟩, h3⟩, h4⟩ := hB
  have h3 := Nat.eq_of_beq_eq_true h3
  have h4 := Nat.eq_of_beq_eq_true h4
  refine JC.draw F hF hm ?_
  have := h 0 is (Array.replicate l.length false) (fun e hs => Q .normal e hs) (pickL_nums is h1 (by omega)) h1 hF (fun e' hs' _ ke => JD.done h2 ke)
  rw [h3] at this
  simpa using this
theorem JK.nil (h : K e hs) : JK P n w0 own ops F [] e hs K := fun m is listed Z hn _ hF hz => by
  cases is with
  | nil => rw [List.length_nil, Nat.zero_add]; exact hz e hs hF h
  | cons i is => exact hn.elim
theorem JK.mono {K' : Env → Hp → Prop} (h : JK P n w0 own ops F l e hs K) (kk : ∀ e hs, K e hs → K' e hs) : JK P n w0 own ops F l e hs K' :=
  fun m k listed Z h1 h2 h3 hz => h m k listed Z h1 h2 h3 fun e' hs' f ke => hz e' hs' f (kk e' hs' ke)
theorem JK.sub {e2 : Env} (hs' : Sub e2 e) (h : JK P n w0 own ops F l e2 hs K) : JK P n w0 own ops F l e hs K :=
  fun m k listed Z h1 h2 h3 hz a w hr s hF => h m k listed Z h1 h2 h3 hz a w (hr.sub hs') s hF
/-- a thing that is known already may be laid on top -/
theorem sub_same' {t : Nat} {v : Value} (ht : get e t = some v) : Sub ((t, v) :: e) e := fun s u hu => by
  simp only [get] at hu
  cases hb : Nat.beq t s with
  | true => rw [hb] at hu; have := Nat.eq_of_beq_eq_true hb; subst this; rw [ht]; simpa using hu
  | false => rw [hb] at hu; exact hu
theorem JK.sub' {e2 : Env} (hs' : Sub e2 e) (h : JK P n w0 own ops F l e2 hs K) : JK P n w0 own ops F l e hs K := JK.sub hs' h
theorem JK.splitB {t : Nat} {b : Bool} (ht : get e t = some (.bool b)) (h1 : b = true → JK P n w0 own ops F l ((t, .bool true) :: e) hs K)
    (h0 : b = false → JK P n w0 own ops F l ((t, .bool false) :: e) hs K) : JK P n w0 own ops F l e hs K := by
  cases b
  · exact JK.sub' (sub_same' ht) (h0 rfl)
  · exact JK.sub' (sub_same' ht) (h1 rfl)

theorem JK.v {op : Op} {v : Value} (h : ∀ hs', F ⊆ hs' → Val P n w0 own e hs' op v) (kk : JK P n w0 own ops F rest ((d, v) :: e) hs K) (hdn : Nat.blt d n = true := by rfl) (hg : wantB ops e g = some true := by rfl) :
    JK P n w0 own ops F (⟨some d, op, ty, pos, aft, g⟩ :: rest) e hs K := by
  intro m is listed Z h1 h2 h3 hz
  cases is with
  | nil => exact h1.elim
  | cons k is =>
  obtain ⟨h0, h1⟩ := h1
  unfold ordB at h2
  rw [Bool.and_eq_true, Bool.or_eq_true, Bool.and_eq_true] at h2
  have tail : JD P n w0 own ops F (rest.length + m) (listed.setIfInBounds k true) ((d, v) :: e) hs Z := kk m is _ Z h1 h2.2 h3 hz
  rw [show (⟨some d, op, ty, pos, aft, g⟩ :: rest : List Oper).length + m = (rest.length + m) + 1 from by simp; omega]
  rcases h2.1 with ho | ⟨_, hf⟩
  · exact JD.ef k h0 ho (h hs h3).eff (fun v' hs' ⟨e1, e2⟩ => by subst e1; subst e2; exact tail) (fun v' hs' ⟨e1, e2⟩ f => by subst e2; exact f) hdn hg
  · exact JD.v k h0 hf h tail hdn hg
/-- an operation that is passed over, whichever way it comes up -/
theorem JK.skw {o : Oper} (ho : o.dst = some d) (hw : ∀ a, Rep n a e → Region.wanted o (yielded ops a.tmps) = false) (kk : JK P n w0 own ops F rest ((d, undef) :: e) hs K) (hdn : Nat.blt d n = true) :
    JK P n w0 own ops F (o :: rest) e hs K := by
  intro m is listed Z h1 h2 h3 hz
  cases is with
  | nil => exact h1.elim
  | cons k is =>
  obtain ⟨h0, h1⟩ := h1
  unfold ordB at h2
  rw [Bool.and_eq_true, Bool.or_eq_true, Bool.and_eq_true] at h2
  have tail : JD P n w0 own ops F (rest.length + m) (listed.setIfInBounds k true) ((d, undef) :: e) hs Z := kk m is _ Z h1 h2.2 h3 hz
  rw [show (o :: rest : List Oper).length + m = (rest.length + m) + 1 from by simp; omega]
  intro a w hr s hf
  have hput := hr.put (Nat.le_of_ble_eq_true hdn) undef
  rcases h2.1 with ho2 | ⟨_, hf2⟩
  · refine wpAnyH_all (rs := [k]) (by simpa [onlyB] using ho2) (by simp) ?_
    intro j hj
    simp only [List.mem_singleton] at hj
    subst hj
    unfold wpOp
    simp only [h0]
    rw [if_neg (by rw [hw a hr]; simp), ho]
    exact ⟨⟨hs, s, hf⟩, tail _ _ hput s hf⟩
  · unfold firstB at hf2
    rw [Bool.and_eq_true, Bool.and_eq_true] at hf2
    refine wpAnyH_take h0 hf2.1.1 hf2.1.2 hf2.2 (fun _ _ _ h => h) (.inr ⟨hw a hr, rfl⟩) ⟨hs, s, hf⟩ ?_
    rw [ho]
    exact tail _ _ hput s hf
theorem JK.sk {op : Op} (kk : JK P n w0 own ops F rest ((d, undef) :: e) hs K) (hdn : Nat.blt d n = true := by rfl) (hg : wantB ops e g = some false := by rfl) :
    JK P n w0 own ops F (⟨some d, op, ty, pos, aft, g⟩ :: rest) e hs K := JK.skw rfl (fun a hr => wanted_of hr hg) kk hdn
theorem JK.skips : ∀ {l : List Oper} {e e1 : Env}, skB ops n l e = some e1 → (∀ e1', Sub e e1' → JK P n w0 own ops F [] e1' hs K) → JK P n w0 own ops F l e hs K
  | [], e, e1, h, k => k e (Sub.refl e)
  | o :: l, e, e1, h, k => by
    unfold skB at h
    cases ho : o.dst with
    | none => rw [ho] at h; cases h
    | some dd =>
      rw [ho] at h
      simp only at h
      split at h
      · rename_i hc
        rw [Bool.and_eq_true, Bool.and_eq_true] at hc
        obtain ⟨⟨c1, c2⟩, c3⟩ := hc
        exact JK.skw ho (fun a hr => skip_step hr ho c3) (JK.skips h fun e1' hs' => k e1' (Sub.trans (sub_app [(dd, undef)] e (by simp [c2])) hs')) c1
      · cases h
theorem JK.app {l1 l2 : List Oper} (h : JK P n w0 own ops F l1 e hs (fun e' hs' => JK P n w0 own ops F l2 e' hs' K)) : JK P n w0 own ops F (l1 ++ l2) e hs K := by
  intro m is listed Z h1 h2 h3 hz
  obtain ⟨k1, k2⟩ := h1.app
  have hl1 := k1.len
  rw [← List.take_append_drop l1.length is, ordB_app _ _ _ _ _ _ hl1, Bool.and_eq_true] at h2
  rw [List.length_append, Nat.add_assoc]
  refine h (l2.length + m) _ listed Z k1 h2.1 h3 fun e' hs' f ke => ke m _ _ Z k2 h2.2 f fun e2 hs2 f2 ke2 => ?_
  have := hz e2 hs2 f2 ke2
  rwa [← List.take_append_drop l1.length is, marks_app] at this
/-- what works on memory, when it is alone -/
theorem JK.ef {op : Op} {R : Value → Hp → Prop} (h : Eff P n w0 own e hs op R) (hF : ∀ v hs', R v hs' → F ⊆ hs → F ⊆ hs') (kk : ∀ v hs', R v hs' → JK P n w0 own ops F rest ((d, v) :: e) hs' K)
    (hE : isEff ⟨some d, op, ty, pos, aft, g⟩ = true := by rfl) (hdn : Nat.blt d n = true := by rfl) (hg : wantB ops e g = some true := by rfl) : JK P n w0 own ops F (⟨some d, op, ty, pos, aft, g⟩ :: rest) e hs K := by
  intro m is listed Z h1 h2 h3 hz
  cases is with
  | nil => exact h1.elim
  | cons k is =>
  obtain ⟨h0, h1⟩ := h1
  unfold ordB at h2
  rw [Bool.and_eq_true, Bool.or_eq_true, hE] at h2
  have ho : onlyB ops listed k = true := by
    rcases h2.1 with h | h
    · exact h
    · simp at h
  rw [show (⟨some d, op, ty, pos, aft, g⟩ :: rest : List Oper).length + m = (rest.length + m) + 1 from by simp; omega]
  exact JD.ef k h0 ho h (fun v hs' r => kk v hs' r m is _ Z h1 h2.2 (hF v hs' r h3) hz) hF hdn hg
theorem JK.st {op : Op} {hs' : Hp} (h : Eff P n w0 own e hs op (fun v h => v = undef ∧ h = hs')) (hF : F ⊆ hs → F ⊆ hs') (kk : JK P n w0 own ops F rest e hs' K)
    (hE : isEff ⟨none, op, ty, pos, aft, g⟩ = true := by rfl) (hg : wantB ops e g = some true := by rfl) : JK P n w0 own ops F (⟨none, op, ty, pos, aft, g⟩ :: rest) e hs K := by
  intro m is listed Z h1 h2 h3 hz
  cases is with
  | nil => exact h1.elim
  | cons k is =>
  obtain ⟨h0, h1⟩ := h1
  unfold ordB at h2
  rw [Bool.and_eq_true, Bool.or_eq_true, hE] at h2
  have ho : onlyB ops listed k = true := by
    rcases h2.1 with h | h
    · exact h
    · simp at h
  rw [show (⟨none, op, ty, pos, aft, g⟩ :: rest : List Oper).length + m = (rest.length + m) + 1 from by simp; omega]
  exact JD.st k h0 ho h (kk m is _ Z h1 h2.2 (hF h3) hz) hF hg
/-- a call that leaves a value alone -/
theorem JK.pc {f : Nat} {fo : Operand} {args : List Operand} {at_ : Array TypeId} {cap vals : List Value} {v : Value}
    (hf : ev e fo = some (.func (.func f) #[] ⟨cap⟩)) (ha : evs e args = some vals) (hc : ∀ w, Sat w0 own hs w → Is P f (vals ++ cap) w v) (kk : JK P n w0 own ops F rest ((d, v) :: e) hs K) [hg : FnT P f]
    (hdn : Nat.blt d n = true := by rfl) (hw : wantB ops e g = some true := by rfl) :
    JK P n w0 own ops F (⟨some d, .call { callee := .value fo, args := ⟨args⟩, argTypes := at_ }, ty, pos, aft, g⟩ :: rest) e hs K :=
  JK.ef (.call0 hf ha hc) (fun _ _ ⟨_, ⟨_, h2⟩, h3⟩ f => by subst h2; subst h3; exact f) (fun _ _ ⟨_, ⟨h1, h2⟩, h3⟩ => by subst h1; subst h2; subst h3; exact kk) rfl hdn hw
/-- a call that is lent nothing -/
theorem JK.cl {f : Nat} {fo : Operand} {args : List Operand} {at_ : Array TypeId} {cap vals : List Value} {R : Value → Hp → Prop}
    (hf : ev e fo = some (.func (.func f) #[] ⟨cap⟩)) (ha : evs e args = some vals) (hc : ∀ w, Sat w0 own hs w → Does P f (vals ++ cap) [] w R) (kk : ∀ v h, R v h → JK P n w0 own ops F rest ((d, v) :: e) (h ++ hs) K) [hg : FnT P f]
    (hdn : Nat.blt d n = true := by rfl) (hw : wantB ops e g = some true := by rfl) :
    JK P n w0 own ops F (⟨some d, .call { callee := .value fo, args := ⟨args⟩, argTypes := at_ }, ty, pos, aft, g⟩ :: rest) e hs K :=
  JK.ef (.call0 hf ha hc) (fun _ _ ⟨_, _, h3⟩ f => by subst h3; exact fun p hp => List.mem_append_right _ (f hp)) (fun v _ ⟨h, h1, h3⟩ => by subst h3; exact kk v h h1) rfl hdn hw
/-- '&&' -/
theorem JK.and {b1 b2 : Bool} (t y m k : Nat) (hl : l.drop m = ⟨some d, .pick (.tmp t) (.tmp y) (.const (.bool false)), ty, pos, aft, g⟩ :: rest) (ht : get e t = some (.bool b1))
    (h : b1 = true → JK P n w0 own ops F (l.take m) ((t, .bool true) :: e) hs (fun e' hs' => hs' = hs ∧ get e' y = some (.bool b2) ∧ Pop k e' ((t, .bool true) :: e)))
    (kk : JK P n w0 own ops F rest ((d, .bool (b1 && b2)) :: e) hs K)
    (hsk : (skB ops n (l.take m) ((t, .bool false) :: e)).isSome = true := by rfl)
    (hdn : Nat.blt d n = true := by rfl) (hg : wantB ops e g = some true := by rfl) : JK P n w0 own ops F l e hs K := by
  rw [← List.take_append_drop m l, hl]
  refine JK.app ?_
  have fin : ∀ (e1 : Env), Sub e e1 → (b1 = true → get e1 y = some (.bool b2)) → JK P n w0 own ops F (⟨some d, .pick (.tmp t) (.tmp y) (.const (.bool false)), ty, pos, aft, g⟩ :: rest) e1 hs K := by
    intro e1 hsub hy
    have hg1 : wantB ops e1 g = some true := by
      unfold wantB at hg ⊢
      cases g with
      | none => rfl
      | some jw =>
        obtain ⟨j, want⟩ := jw
        simp only at hg ⊢
        cases hd : (ops[j]?).bind (·.dst) with
        | none => rw [hd] at hg; cases hg
        | some t2 =>
          rw [hd] at hg
          simp only at hg ⊢
          cases hgt : get e t2 with
          | none => rw [hgt] at hg; cases hg
          | some v2 => rw [hgt] at hg; rw [hsub _ _ hgt]; exact hg
    refine JK.v (v := .bool (b1 && b2)) (fun hs' _ => ?_) (JK.sub (e2 := (d, .bool (b1 && b2)) :: e) ?_ kk) hdn hg1
    · intro a w ty pos aft g d hr s
      have e1t := hr.eval (x := .tmp t) (hsub t _ ht)
      cases hb : b1 with
      | false =>
        rw [hb] at e1t
        have e3 : ∀ v, a.eval (.const v) = v := fun _ => rfl
        simp [execOp, e1t, asBool, e3]
      | true =>
        rw [hb] at e1t
        have e2 := hr.eval (x := .tmp y) (hy hb)
        simp [execOp, e1t, e2, asBool]
    · intro s u hu
      simp only [get] at hu ⊢
      cases hb : Nat.beq d s with
      | true => rw [hb] at hu; exact hu
      | false => rw [hb] at hu; exact hsub s u hu
  cases hb : b1 with
  | true =>
    rw [hb] at ht
    refine JK.sub' (sub_same' ht) ((h hb).mono fun e' hs' ⟨h1, h2, h3⟩ => by subst h1; exact fin e' ((sub_same ht).trans h3.sub) (fun _ => h2))
  | false =>
    rw [hb] at ht
    obtain ⟨e1, he1⟩ := Option.isSome_iff_exists.1 hsk
    refine JK.sub' (sub_same' ht) (JK.skips he1 (fun e1' hs' => JK.nil (fin e1' ((sub_same ht).trans hs') (fun h => by rw [hb] at h; cases h))))
/-- '||' -/
theorem JK.or {b1 b2 : Bool} (t y m k : Nat) (hl : l.drop m = ⟨some d, .pick (.tmp t) (.const (.bool true)) (.tmp y), ty, pos, aft, g⟩ :: rest) (ht : get e t = some (.bool b1))
    (h : b1 = false → JK P n w0 own ops F (l.take m) ((t, .bool false) :: e) hs (fun e' hs' => hs' = hs ∧ get e' y = some (.bool b2) ∧ Pop k e' ((t, .bool false) :: e)))
    (kk : JK P n w0 own ops F rest ((d, .bool (b1 || b2)) :: e) hs K)
    (hsk : (skB ops n (l.take m) ((t, .bool true) :: e)).isSome = true := by rfl)
    (hdn : Nat.blt d n = true := by rfl) (hg : wantB ops e g = some true := by rfl) : JK P n w0 own ops F l e hs K := by
  rw [← List.take_append_drop m l, hl]
  refine JK.app ?_
  have fin : ∀ (e1 : Env), Sub e e1 → (b1 = false → get e1 y = some (.bool b2)) → JK P n w0 own ops F (⟨some d, .pick (.tmp t) (.const (.bool true)) (.tmp y), ty, pos, aft, g⟩ :: rest) e1 hs K := by
    intro e1 hsub hy
    have hg1 : wantB ops e1 g = some true := by
      unfold wantB at hg ⊢
      cases g with
      | none => rfl
      | some jw =>
        obtain ⟨j, want⟩ := jw
        simp only at hg ⊢
        cases hd : (ops[j]?).bind (·.dst) with
        | none => rw [hd] at hg; cases hg
        | some t2 =>
          rw [hd] at hg
          simp only at hg ⊢
          cases hgt : get e t2 with
          | none => rw [hgt] at hg; cases hg
          | some v2 => rw [hgt] at hg; rw [hsub _ _ hgt]; exact hg
    refine JK.v (v := .bool (b1 || b2)) (fun hs' _ => ?_) (JK.sub (e2 := (d, .bool (b1 || b2)) :: e) ?_ kk) hdn hg1
    · intro a w ty pos aft g d hr s
      have e1t := hr.eval (x := .tmp t) (hsub t _ ht)
      cases hb : b1 with
      | true =>
        rw [hb] at e1t
        have e3 : ∀ v, a.eval (.const v) = v := fun _ => rfl
        simp [execOp, e1t, asBool, e3]
      | false =>
        rw [hb] at e1t
        have e2 := hr.eval (x := .tmp y) (hy hb)
        simp [execOp, e1t, e2, asBool]
    · intro s u hu
      simp only [get] at hu ⊢
      cases hb : Nat.beq d s with
      | true => rw [hb] at hu; exact hu
      | false => rw [hb] at hu; exact hsub s u hu
  cases hb : b1 with
  | false =>
    rw [hb] at ht
    refine JK.sub' (sub_same' ht) ((h hb).mono fun e' hs' ⟨h1, h2, h3⟩ => by subst h1; exact fin e' ((sub_same ht).trans h3.sub) (fun _ => h2))
  | true =>
    rw [hb] at ht
    obtain ⟨e1, he1⟩ := Option.isSome_iff_exists.1 hsk
    refine JK.sub' (sub_same' ht) (JK.skips he1 (fun e1' hs' => JK.nil (fin e1' ((sub_same ht).trans hs') (fun h => by rw [hb] at h; cases h))))
end
end V
end Go

/- VS: slices held against nil. -/
namespace Go
namespace V
open Go.RowKit
set_option linter.unusedVariables false
set_option linter.unusedSimpArgs false
section
variable {P : Program} {n : Nat} {w0 : World} {own : List Nat} {e : Env} {hs : Hp}
theorem Val.eql_slice_nil {T U E l c : Nat} {x y : Operand} {a : Option Addr} (hx : ev e x = some (.slice a l c)) (hy : ev e y = some (.slice none 0 0)) [hT : SliceT P T E] :
    Val P n w0 own e hs (.binOp .eql T x y U) (.bool a.isNone) := fun _ w ty pos aft g d hr s => by
  have h : (Op.equalIn (9999 + 1) T (.slice a l c) (.slice none 0 0)).run P w = .ok a.isNone w := by
    cases a <;> (rw [Op.equalIn]; simp [run_underlying hT.out])
  simp only [execOp, hr.eval hx, hr.eval hy, eqGuard, binOp, Op.equal, Op.maxDepth]
  simp [h]
end
end V
end Go

/- VU: slices in place: append that has room, copy, clear, append of zeros that grows, cap, cutting with three numbers, slices.overlaps of two blocks. -/
namespace Go
namespace V
open Go.RowKit
set_option linter.unusedVariables false
set_option linter.unusedSimpArgs false

section
variable {P : Program} {n : Nat} {w0 : World} {own : List Nat} {e : Env} {hs : Hp}

theorem Val.cap_ {x : Operand} {T E len cap : Nat} {a : Option Addr} (hx : ev e x = some (.slice a len cap)) [hT : SliceT P T E] :
    Val P n w0 own e hs (.call { callee := .builtin .cap, args := #[x], argTypes := #[T] }) (.int .i64 cap) :=
  fun b w ty pos aft g d hr s => by
    have hu := hT.out
    simp [execOp, hr.eval hx, resolve, invoke, builtin, Builtin.cap_, run_underlying hu, goInt]
theorem Val.sl3 {T E m len cap : Nat} {x y z u : Operand} {A : Option Addr} {i k l : Int} {q r t : IntKind} (hx : ev e x = some (.slice A len cap)) (hy : ev e y = some (.int q i)) (hz_ : ev e z = some (.int r k)) (hu : ev e u = some (.int t l)) [hT : SliceT P T E] [hE : Sz P E m]
    (h0 : 0 ≤ i) (h1 : i ≤ k) (h2 : k ≤ l) (h3 : l ≤ cap) : Val P n w0 own e hs (.slice T x (some y) (some z) (some u)) (.slice (cutA A l.toNat i.toNat m) (k.toNat - i.toNat) (l.toNat - i.toNat)) := fun a w ty pos aft g d hr s => by
  obtain ⟨j, hj, hz⟩ := hE.out
  have h4 : 0 ≤ k := by omega
  have h5 : 0 ≤ l := by omega
  have h6 : max k 0 = k := by omega
  have h7 : max l 0 = l := by omega
  simp [execOp, hr.eval hx, hr.eval hy, hr.eval hz_, hr.eval hu, Instr.sliceAt, run_underlying hT.out, Instr.slice, Instr.sliceBounds, Instr.sliceBound, asIntOf, h0, h1, h2, h3, h4, h5, h6, h7, sizeOf, typeInfo, hj, hz, cutA]

/-- append that has room: in place -/
theorem Eff.appendIn {s x : Operand} {t u E m by_ c k b o cap : Nat} {z news l : List Value} {xv : Value} {hs' : Hp} (hs_ : ev e s = some (.slice (some ⟨b, o, none⟩) c cap)) (hx : ev e x = some xv) [ht : SliceT P t E] [hu : SliceT P u E] [hE : El P E m by_ z]
    [hb : Mem b (.cells l E) hs] [up : UpdI b (.cells (splice l (o + c * m) news) E) hs hs'] (hsrc : ∀ w, Sat w0 own hs w → Src P w m xv k news) (hn : news.length = k * m) (h1 : ones news = true) (hc : c + k ≤ cap) (hl : o + cap * m ≤ l.length) :
    Eff P n w0 own e hs (.call { callee := .builtin .append, args := #[s, x], argTypes := #[t, u] }) (fun v h => v = .slice (some ⟨b, o, none⟩) (c + k) cap ∧ h = hs') :=
  Eff.of_run fun a w ty pos aft g d hr s' => by
    obtain ⟨i, zv, hi, hm, hby, hz, hzv, hzl⟩ := hE.out
    have hck : (c + k) * m ≤ cap * m := Nat.mul_le_mul_right _ hc
    have hadd : (c + k) * m = c * m + k * m := Nat.add_mul _ _ _
    obtain ⟨w', r1, r2⟩ := s'.splice (P := P) (b := b) (T := E) (o := o + c * m) (l := l) (vs := news) up.out hb.out (by omega) h1
    refine ⟨_, hs', w', ?_, ⟨rfl, rfl⟩, r2⟩
    have h2 := (hsrc w s').2 w (fun _ => rfl)
    have hr1 : (Builtin.append_ #[t, u] ty #[.slice (some ⟨b, o, none⟩) c cap, xv]).run P w = .ok (.slice (some ⟨b, o, none⟩) (c + k) cap) w' := by
      simp only [Builtin.append_, Sem.run_bind]
      simp [run_underlying ht.out, run_underlying hu.out, sizeOf, typeInfo, hi, hm, (hsrc w s').1, h2, hc, add_none, r1]
    simp [execOp, hr.eval hs_, hr.eval hx, resolve, invoke, builtin, hr1]
/-- copy: the first k elements of a source -/
theorem Eff.copyIn {s x : Operand} {t u E m by_ k b o dl dc sl : Nat} {z news l : List Value} {xv : Value} {hs' : Hp} (hs_ : ev e s = some (.slice (some ⟨b, o, none⟩) dl dc)) (hx : ev e x = some xv) [ht : SliceT P t E] [hE : El P E m by_ z]
    [hb : Mem b (.cells l E) hs] [up : UpdI b (.cells (splice l o news) E) hs hs'] (hk : min sl dl = k) (hsl : ∀ w, Sat w0 own hs w → (Builtin.lenOf xv).run P w = .ok sl w) (hsrc : ∀ w, Sat w0 own hs w → (Builtin.firstCells m k xv).run P w = .ok ⟨news⟩ w)
    (h1 : ones news = true) (hl : o + news.length ≤ l.length) :
    Eff P n w0 own e hs (.call { callee := .builtin .copy, args := #[s, x], argTypes := #[t, u] }) (fun v h => v = .int .i64 k ∧ h = hs') :=
  Eff.of_run fun a w ty pos aft g d hr s' => by
    obtain ⟨i, zv, hi, hm, hby, hz, hzv, hzl⟩ := hE.out
    obtain ⟨w', r1, r2⟩ := s'.splice (P := P) (b := b) (T := E) (o := o) (l := l) (vs := news) up.out hb.out hl h1
    refine ⟨_, hs', w', ?_, ⟨rfl, rfl⟩, r2⟩
    have h2 := hsrc w s'
    have hk' : Nat.min sl dl = k := hk
    have hr1 : (Builtin.copy_ #[t, u] ty #[.slice (some ⟨b, o, none⟩) dl dc, xv]).run P w = .ok (.int .i64 k) w' := by
      simp only [Builtin.copy_, Sem.run_bind]
      simp [run_underlying ht.out, sizeOf, typeInfo, hi, hm, hsl w s', hk', h2, r1, goInt]
    simp [execOp, hr.eval hs_, hr.eval hx, resolve, invoke, builtin, hr1]
theorem run_lenOf_sl {w : World} {A : Option Addr} {len cap : Nat} : (Builtin.lenOf (.slice A len cap)).run P w = .ok len w := by simp [Builtin.lenOf]
/-- the first elements of a slice in a block that is held -/
theorem Sat.first {w : World} {b o m k sl c T : Nat} {l news : List Value} (s : Sat w0 own hs w) [hb : Mem b (.cells l T) hs] (hn : news.length = k * m) (h : ∀ j v, news[j]? = some v → l[o + j]? = some v) :
    (Builtin.firstCells m k (.slice (some ⟨b, o, none⟩) sl c)).run P w = .ok ⟨news⟩ w :=
  run_firstCells_some (P := P) w m k ⟨b, o, none⟩ sl c news hn (fun j v hv => by rw [add_none, s.cell hb.out]; exact h j v hv)

def zeros (z : List Value) (k : Nat) : List Value := (List.replicate k z).flatten
theorem zeros_length (z : List Value) (k : Nat) : (zeros z k).length = k * z.length := by simp [zeros]
theorem zeros_get (z : List Value) (k i : Nat) (hi : i < k * z.length) : (zeros z k)[i]? = z[i % z.length]? := by
  induction k generalizing i with
  | zero => simp at hi
  | succ k ih =>
    have hz : 0 < z.length := by
      rcases Nat.eq_zero_or_pos z.length with h | h
      · rw [h] at hi; simp at hi
      · exact h
    unfold zeros
    rw [List.replicate_succ, List.flatten_cons]
    by_cases h : i < z.length
    · rw [List.getElem?_append_left h, Nat.mod_eq_of_lt h]
    · rw [List.getElem?_append_right (by omega)]
      have h2 := ih (i - z.length) (by rw [Nat.add_mul, Nat.one_mul] at hi; omega)
      unfold zeros at h2
      rw [h2, ← Nat.mod_eq_sub_mod (by omega)]
theorem zeroCells_eq (z : List Value) (k : Nat) : (Builtin.zeroCells ⟨z⟩ k).toList = zeros z k := by
  apply List.ext_getElem?
  intro i
  have hlen : (Builtin.zeroCells ⟨z⟩ k).toList.length = k * z.length := by simp [Builtin.zeroCells]
  by_cases hi : i < k * z.length
  · have hz : 0 < z.length := by
      rcases Nat.eq_zero_or_pos z.length with h | h
      · rw [h] at hi; simp at hi
      · exact h
    rw [zeros_get z k i hi]
    have hm := Nat.mod_lt i hz
    simp [Builtin.zeroCells, hi, hm]
  · rw [List.getElem?_eq_none (by omega), List.getElem?_eq_none (by rw [zeros_length]; omega)]
theorem ones_zeros {z : List Value} (h : ones z = true) (k : Nat) : ones (zeros z k) = true := by
  simp only [ones, zeros, List.all_eq_true, List.mem_flatten, List.mem_replicate] at *
  rintro x ⟨l, ⟨_, rfl⟩, hx⟩
  exact h x hx
/-- clear of a slice -/
theorem Eff.clearIn {s : Operand} {t E m by_ b o dl dc : Nat} {z l : List Value} {hs' : Hp} (hs_ : ev e s = some (.slice (some ⟨b, o, none⟩) dl dc)) [ht : SliceT P t E] [hE : El P E m by_ z]
    [hb : Mem b (.cells l E) hs] [up : UpdI b (.cells (splice l o (zeros z dl)) E) hs hs'] (h1 : ones z = true) (hl : o + dl * m ≤ l.length) :
    Eff P n w0 own e hs (.call { callee := .builtin .clear, args := #[s], argTypes := #[t] }) (fun v h => v = .tuple #[] ∧ h = hs') :=
  Eff.of_run fun a w ty pos aft g d hr s' => by
    obtain ⟨i, zv, hi, hm, hby, hz, hzv, hzl⟩ := hE.out
    obtain ⟨w', r1, r2⟩ := s'.splice (P := P) (b := b) (T := E) (o := o) (l := l) (vs := zeros z dl) up.out hb.out (by rw [zeros_length, hzl]; exact hl) (ones_zeros h1 dl)
    have hzc : (Builtin.zeroCells zv.cells dl).toList = zeros z dl := by rw [hzv]; exact zeroCells_eq z dl
    cases dl with
    | zero =>
      have e1 : hs' = hs' := rfl
      have e2 : w' = w := by
        have : (storeCells (⟨b, o, none⟩ : Addr) (zeros z 0)).run P w = .ok () w := by simp [zeros, storeCells]
        rw [this] at r1
        simpa using r1.symm
      refine ⟨.tuple #[], hs', w, ?_, ⟨rfl, rfl⟩, e2 ▸ r2⟩
      have hr1 : (Builtin.clear_ #[t] ty #[.slice (some ⟨b, o, none⟩) 0 dc]).run P w = .ok (.tuple #[]) w := by
        simp only [Builtin.clear_, Sem.run_bind]
        simp [run_underlying ht.out]
      simp [execOp, hr.eval hs_, resolve, invoke, builtin, hr1]
    | succ dl =>
      refine ⟨.tuple #[], hs', w', ?_, ⟨rfl, rfl⟩, r2⟩
      have hr1 : (Builtin.clear_ #[t] ty #[.slice (some ⟨b, o, none⟩) (dl + 1) dc]).run P w = .ok (.tuple #[]) w' := by
        simp only [Builtin.clear_, Sem.run_bind]
        simp [run_underlying ht.out, zeroValue, typeInfo, hi, hz, hzc, r1]
      simp [execOp, hr.eval hs_, resolve, invoke, builtin, hr1]
/-- append(s, make([]E, k)...) that has no room: a new block -/
theorem Eff.appendZ {s x : Operand} {t u E m by_ c k b o cap : Nat} {q : IntKind} {z vs l : List Value} (hs_ : ev e s = some (.slice (some ⟨b, o, none⟩) c cap)) (hx : ev e x = some (.int .i64 (k : Int))) [ht : SliceT P t E] [hu : IntT P u q] [hE : El P E m by_ z]
    [hb : Mem b (.cells l E) hs] (hv : (l.drop o).take (c * m) = vs) (hcl : o + cap * m ≤ l.length) (hcc : c ≤ cap) (hg : cap < c + k) (hm0 : 0 < m)
    (hby : (c + k) * by_ ≤ 140737488355328) (h63 : c + k ≤ 4611686018427387904) :
    Eff P n w0 own e hs (.call { callee := .builtin .append, args := #[s, x], argTypes := #[t, u] }) (fun v h => ∃ b' cap' r, v = .slice (some ⟨b', 0, none⟩) (c + k) cap' ∧ h = (b', .cells (vs ++ zeros z k ++ r) E) :: hs ∧ c + k ≤ cap' ∧ (vs ++ zeros z k ++ r).length = cap' * m) :=
  Eff.of_run fun a w ty pos aft g d hr s' => by
    obtain ⟨i, zv, hi, hm, hby2, hz, hzv, hzl⟩ := hE.out
    have hck : c * m ≤ cap * m := Nat.mul_le_mul_right _ hcc
    have hvl : vs.length = c * m := by rw [← hv]; simp; omega
    have hfo := run_firstCells_some (P := P) w.drew m c ⟨b, o, none⟩ c cap vs hvl (fun j u hj => by
        have hh := s'.cell hb.out (o + j)
        rw [add_none]
        show w.cell? _ = _
        rw [hh, ← hj, ← hv, List.getElem?_take, List.getElem?_drop]
        have := (List.getElem?_eq_some_iff.1 hj).1
        rw [if_pos (by omega)])
    have hge := grownCap_ge w (c + k) cap E
    have h63' : ¬ (9223372036854775807 < ((c : Int) + (k : Int))) := by omega
    have h48' : ¬ (281474976710656 < Builtin.nextslicecap (c + k) cap * by_) := by
      have := growslice_fits (need := c + k) (old := cap) (bytes := by_) (by omega) hby
      omega
    have hkb : k * by_ ≤ (c + k) * by_ := Nat.mul_le_mul_right _ (by omega)
    have hw : IntKind.i64.wrap (k : Int) = k := by rw [IntKind.wrap_i64]; omega
    have hneg : ¬ ((k : Int) < 0) := by omega
    have h48i : ¬ (281474976710656 < (k : Int) * (by_ : Int)) := by rw [← Int.natCast_mul]; omega
    have hns : ¬ (k * m = 0) := Nat.mul_ne_zero (by omega) (by omega)
    have hk0 : k ≠ 0 := by omega
    have hm1 : m ≠ 0 := by omega
    have hr' : ¬ (c + k ≤ cap) := by omega
    refine ⟨.slice (some ⟨w.heap.size, 0, none⟩) (c + k) (grownCap w (c + k) cap E), (w.heap.size, .cells (vs ++ zeros z k ++ (Builtin.zeroCells zv.cells (grownCap w (c + k) cap E - (c + k))).toList) E) :: hs,
      w.drew.alloc (.cells (⟨vs⟩ ++ Builtin.zeroCells zv.cells k ++ Builtin.zeroCells zv.cells (grownCap w (c + k) cap E - (c + k))) E), ?_, ⟨_, _, _, rfl, rfl, hge, ?_⟩, ?_⟩
    · have hr1 : (Builtin.append_ #[t, u] ty #[.slice (some ⟨b, o, none⟩) c cap, .int .i64 k]).run P w = .ok (.slice (some ⟨w.heap.size, 0, none⟩) (c + k) (grownCap w (c + k) cap E)) (w.drew.alloc (.cells (⟨vs⟩ ++ Builtin.zeroCells zv.cells k ++ Builtin.zeroCells zv.cells (grownCap w (c + k) cap E - (c + k))) E)) := by
        simp only [Builtin.append_, Sem.run_bind]
        simp [run_underlying ht.out, run_underlying hu.out, sizeOf, typeInfo, zeroValue, hi, hm, hz, hby2, asInt, asIntOf, hw, hneg, h48i, hns, hk0, hm1, hr', h63', h48', Question.forced, hfo, newRow, grownCap]
      simp [execOp, hr.eval hs_, hr.eval hx, resolve, invoke, builtin, hr1]
    · have h2 : (grownCap w (c + k) cap E) * m = (c + k) * m + (grownCap w (c + k) cap E - (c + k)) * m := by rw [← Nat.add_mul]; congr 1; omega
      have h3 : (c + k) * m = c * m + k * m := Nat.add_mul _ _ _
      simp [hvl, zeros_length, size_zeroCells, hzv, hzl]; omega
    · have := s'.drew.new (.cells (vs ++ zeros z k ++ (Builtin.zeroCells zv.cells (grownCap w (c + k) cap E - (c + k))).toList) E)
      have e1 : (⟨vs⟩ ++ Builtin.zeroCells zv.cells k ++ Builtin.zeroCells zv.cells (grownCap w (c + k) cap E - (c + k)) : Array Value) = ⟨vs ++ zeros z k ++ (Builtin.zeroCells zv.cells (grownCap w (c + k) cap E - (c + k))).toList⟩ := by
        apply Array.ext'
        have : (Builtin.zeroCells zv.cells k).toList = zeros z k := by rw [hzv]; exact zeroCells_eq z k
        simp [this]
      rw [e1]
      exact this
/-- slices.overlaps, as the model has it -/
class OvT (P : Program) (g : Nat) (T R : outParam Nat) : Prop where
  out : ∃ fn, P.funcs[g]? = some fn ∧ (fn.name == "runtime.NumGoroutine") = false ∧ fn.body.isNone = true ∧ Extern.findNext fn = none ∧ Extern.find fn = some (Extern.SlicesOverlaps.overlaps #[T, T] #[R])
theorem Val.overlapsNo {g : Nat} {x y : Operand} {at_ : Array TypeId} {T R E m b1 o1 n1 c1 b2 o2 n2 c2 T1 T2 : Nat} {l1 l2 : List Value} (hx : ev e x = some (.slice (some ⟨b1, o1, none⟩) n1 c1)) (hy : ev e y = some (.slice (some ⟨b2, o2, none⟩) n2 c2)) [hg : OvT P g T R] [hT : SliceT P T E] [hE : Sz P E m]
    [h1 : Mem b1 (.cells l1 T1) hs] [h2 : Mem b2 (.cells l2 T2) hs] (hne : b1 ≠ b2) (hl : l2 ≠ []) :
    Val P n w0 own e hs (.call { callee := .value (.func g), args := #[x, y], argTypes := at_ }) (.bool false) := fun a w ty pos aft gd d hr s => by
  obtain ⟨fn, f1, f2, f3, f4, f5⟩ := hg.out
  obtain ⟨i, hi, hz⟩ := hE.out
  have r1 := s.row h1.out
  have r2 := s.row h2.out
  have ho := Lib.run_overlaps_apart (P := P) w T R E hT.out m (fun w => by simp [sizeOf, typeInfo, hi, hz]) ⟨b1, o1, none⟩ ⟨b2, o2, none⟩ n1 c1 n2 c2 hne T1 T2 l1.length l2.length
    (by simp [World.shape?, r1]) (by simp [World.shape?, r2]) (by simpa using hl) (by simp [World.frozen?, r1]) (by simp [World.frozen?, r1])
  have hc := run_callFunc_extern f1 f2 f3 f4 f5 #[.slice (some ⟨b1, o1, none⟩) n1 c1, .slice (some ⟨b2, o2, none⟩) n2 c2] w
  rw [ho] at hc
  have hf : a.eval (.func g) = .func (.func g) #[] #[] := rfl
  simp [execOp, resolve, hf, hr.eval hx, hr.eval hy, Deferred.ofValue, invoke, hc, Result.andThen]
end
theorem splice_keep (l zs : List Value) (o p q : Nat) (h : p ≤ q) (hl : o + q ≤ l.length) : ((splice l (o + q) zs).drop o).take p = (l.drop o).take p := by
  unfold splice
  rw [List.append_assoc, List.drop_append_of_le_length (by rw [List.length_take]; omega), List.take_append_of_le_length (by rw [List.length_drop, List.length_take]; omega), List.drop_take, List.take_take]
  congr 1; omega
theorem OwnS.some_ {E m n c : Nat} {A : Option Addr} {n' : Nat} {vs : List Value} {h : Hp} (k : OwnS E m (.slice A n' c) n vs h) (hn : 0 < n) :
    ∃ b o l, A = some ⟨b, o, none⟩ ∧ n' = n ∧ h = [(b, .cells l E)] ∧ n ≤ c ∧ o + c * m ≤ l.length ∧ (l.drop o).take (n * m) = vs := by
  rcases k.2 with ⟨_, h2, _⟩ | ⟨b, o, cap, l, h1, h2, h3, h4, h5⟩
  · omega
  · cases h1; exact ⟨b, o, l, rfl, rfl, h2, h3, h4, h5⟩
theorem splice_get (l vs : List Value) (o i : Nat) (h : o + vs.length ≤ l.length) : (splice l o vs)[i]? = if i < o then l[i]? else if i < o + vs.length then vs[i - o]? else l[i]? := by
  unfold splice
  by_cases h1 : i < o
  · rw [if_pos h1, List.append_assoc, List.getElem?_append_left (by rw [List.length_take]; omega), List.getElem?_take, if_pos h1]
  · rw [if_neg h1, List.append_assoc, List.getElem?_append_right (by rw [List.length_take]; omega), List.length_take, Nat.min_eq_left (by omega)]
    by_cases h2 : i < o + vs.length
    · rw [if_pos h2, List.getElem?_append_left (by omega)]
    · rw [if_neg h2, List.getElem?_append_right (by omega), List.getElem?_drop]
      congr 1; omega
/-- one element put in by two copies -/
theorem ins_two (l oc D : List Value) (o p q : Nat) (hq : oc.length = q) (hl : o + p + q + D.length ≤ l.length) :
    ((splice (splice l (o + (p + q)) D) (o + p) oc).drop o).take (p + q + D.length) = (l.drop o).take p ++ oc ++ D := by
  apply List.ext_getElem?
  intro i
  have h1 : (splice l (o + (p + q)) D).length = l.length := splice_length _ _ _ (by omega)
  rw [List.getElem?_take, List.getElem?_drop, splice_get _ _ _ _ (by rw [h1]; omega), splice_get _ _ _ _ (by omega)]
  have ht : ((l.drop o).take p).length = p := by rw [List.length_take, List.length_drop]; omega
  by_cases c1 : i < p
  · rw [if_pos (by omega), if_pos (by omega), if_pos (by omega), List.append_assoc, List.getElem?_append_left (by omega), List.getElem?_take, if_pos c1, List.getElem?_drop]
  · by_cases c2 : i < p + q
    · rw [if_pos (by omega), if_neg (by omega), if_pos (by omega), List.append_assoc, List.getElem?_append_right (by omega), List.getElem?_append_left (by omega), ht]
      congr 1; omega
    · by_cases c3 : i < p + q + D.length
      · rw [if_pos c3, if_neg (by omega), if_neg (by omega), if_neg (by omega), if_pos (by omega), List.getElem?_append_right (by rw [List.length_append]; omega), List.length_append, ht]
        congr 1; omega
      · rw [if_neg c3, List.getElem?_eq_none (by simp only [List.length_append]; omega)]
theorem ins_two' (l oc D : List Value) (o p q : Nat) (hq : oc.length = q) (hl : o + p + q + D.length ≤ l.length) :
    ((splice (splice l (o + p) oc) (o + (p + q)) D).drop o).take (p + q + D.length) = (l.drop o).take p ++ oc ++ D := by
  apply List.ext_getElem?
  intro i
  have h1 : (splice l (o + p) oc).length = l.length := splice_length _ _ _ (by omega)
  rw [List.getElem?_take, List.getElem?_drop, splice_get _ _ _ _ (by rw [h1]; omega), splice_get _ _ _ _ (by omega)]
  have ht : ((l.drop o).take p).length = p := by rw [List.length_take, List.length_drop]; omega
  by_cases c1 : i < p
  · rw [if_pos (by omega), if_pos (by omega), if_pos (by omega), List.append_assoc, List.getElem?_append_left (by omega), List.getElem?_take, if_pos c1, List.getElem?_drop]
  · by_cases c2 : i < p + q
    · rw [if_pos (by omega), if_pos (by omega), if_neg (by omega), if_pos (by omega), List.append_assoc, List.getElem?_append_right (by omega), List.getElem?_append_left (by omega), ht]
      congr 1; omega
    · by_cases c3 : i < p + q + D.length
      · rw [if_pos c3, if_neg (by omega), if_pos (by omega), List.getElem?_append_right (by rw [List.length_append]; omega), List.length_append, ht]
        congr 1; omega
      · rw [if_neg c3, List.getElem?_eq_none (by simp only [List.length_append]; omega)]
/-- the blocks are apart -/
theorem JC.nd {P : Program} {n : Nat} {w0 : World} {own : List Nat} {e : Env} {hs : Hp} {c : Code} {Q : Post} (h : (bl hs).Nodup → JC P n w0 own c e hs Q) : JC P n w0 own c e hs Q := fun a w r s => h s.nd a w r s
end V
end Go

/- VW: regions that draw their order and store: in an order of our choice; what is held is held up to the first store. -/
namespace Go
namespace V
open Go.RowKit
set_option linter.unusedVariables false
set_option linter.unusedSimpArgs false

instance (priority := high) SetL.head0 {u v : Value} {l : List Value} : SetL (u :: l) (0 + 0) v (v :: l) := ⟨by simp, rfl⟩
instance (priority := high) SetL.head00 {u v : Value} {l : List Value} : SetL (u :: l) (0 + 0 + 0) v (v :: l) := ⟨by simp, rfl⟩

def ordZ (ops : Array Oper) (z : Nat) : List Oper → List Nat → Array Bool → Bool
  | [], [], _ => true
  | o :: l, i :: is, listed => (onlyB ops listed i || (!isEff o && firstZ ops z listed i)) && (o.dst.isSome || Nat.beq i z || listed.getD z true) && ordZ ops z l is (listed.setIfInBounds i true)
  | _, _, _ => false
theorem marks_size : ∀ (is : List Nat) (listed : Array Bool), (marks_ is listed).size = listed.size
  | [], _ => rfl
  | i :: is, listed => by simp [marks_, marks_size is]

/-- the operations in their order; 'late': the first store has been -/
def JQ (P : Program) (n : Nat) (w0 : World) (own : List Nat) (ops : Array Oper) (F : Hp) (z : Nat) (late : Bool) (l : List Oper) (e : Env) (hs : Hp) (K : Bool → Env → Hp → Prop) : Prop :=
  ∀ (m : Nat) (is : List Nat) (listed : Array Bool) (Z : Env → Hp → Prop), Nums ops l is → ordZ ops z l is listed = true → listed.size = ops.size → listed.getD z true = late → (late = false → F ⊆ hs) →
    (∀ late' e' hs', (marks_ is listed).getD z true = late' → (late' = false → F ⊆ hs') → K late' e' hs' → JZ P n w0 own ops F z m (marks_ is listed) e' hs' Z) → JZ P n w0 own ops F z (l.length + m) listed e hs Z

section
variable {P : Program} {n : Nat} {w0 : World} {own : List Nat} {e : Env} {hs F : Hp} {ops : Array Oper} {rest l : List Oper} {K : Bool → Env → Hp → Prop} {z : Nat} {late : Bool} {m : Nat} {listed : Array Bool} {Z : Env → Hp → Prop}
variable {d : Nat} {ty : TypeId} {pos : String} {aft : Array Edge} {g : Option (Nat × Bool)}

theorem JC.drawQ {id : Nat} {Q : Post} {l : List Oper} (z : Nat) (is : List Nat) (F : Hp) (hF : F ⊆ hs) (hm : P.follows .mixedOrders = true)
    (hB : (ordZ l.toArray z (pickL l is) is (Array.replicate l.length false) && doneB l.toArray (marks_ is (Array.replicate l.length false)) && Nat.beq (pickL l is).length l.length && Nat.beq is.length l.length && Nat.blt z l.length) = true)
    (h : JQ P n w0 own l.toArray F z false (pickL l is) e hs (fun _ e' hs' => Q .normal e' hs')) : JC P n w0 own (.region id l.toArray true) e hs Q := by
  rw [Bool.and_eq_true, Bool.and_eq_true, Bool.and_eq_true, Bool.and_eq_true] at hB
  obtain ⟨⟨⟨⟨h1, h2⟩, h3⟩, h4⟩, h5⟩ := hB
  have h3 := Nat.eq_of_beq_eq_true h3
  have h4 := Nat.eq_of_beq_eq_true h4
  have h5 : z < l.length := Nat.le_of_ble_eq_true h5
  have key : ∀ (is : List Nat), (pickL l is).length = is.length → Nums l.toArray (pickL l is) is := by
    intro is
    induction is with
    | nil => intro _; trivial
    | cons i is ih =>
      intro hl
      unfold pickL at hl ⊢
      cases ho : l[i]? with
      | none => rw [ho] at hl; simp at hl
      | some o =>
        rw [ho] at hl
        simp only at hl ⊢
        exact ⟨by simpa using ho, ih (by simpa using hl)⟩
  refine JC.drawZ z F hF hm ?_
  have := h 0 is (Array.replicate l.length false) (fun e hs => Q .normal e hs) (key _ (by omega)) h1 (by simp) (by simp [h5]) (fun _ => hF) (fun _ e' hs' _ _ ke => JZ.done h2 ke)
  rw [h3] at this
  simpa using this
theorem JQ.nil (h : K late e hs) : JQ P n w0 own ops F z late [] e hs K := fun m is listed Z hn _ hsz hl hF hz => by
  cases is with
  | nil => rw [List.length_nil, Nat.zero_add]; exact hz late e hs hl hF h
  | cons i is => exact hn.elim
theorem JQ.mono {K' : Bool → Env → Hp → Prop} (h : JQ P n w0 own ops F z late l e hs K) (kk : ∀ b e hs, K b e hs → K' b e hs) : JQ P n w0 own ops F z late l e hs K' :=
  fun m k listed Z h1 h2 h3 h4 h5 hz => h m k listed Z h1 h2 h3 h4 h5 fun b e' hs' f1 f ke => hz b e' hs' f1 f (kk b e' hs' ke)
theorem JQ.sub {e2 : Env} (hs' : Sub e2 e) (h : JQ P n w0 own ops F z late l e2 hs K) : JQ P n w0 own ops F z late l e hs K :=
  fun m k listed Z h1 h2 h3 h4 h5 hz a w hr s hF => h m k listed Z h1 h2 h3 h4 h5 hz a w (hr.sub hs') s hF
theorem JQ.splitB {t : Nat} {b : Bool} (ht : get e t = some (.bool b)) (h1 : b = true → JQ P n w0 own ops F z late l ((t, .bool true) :: e) hs K)
    (h0 : b = false → JQ P n w0 own ops F z late l ((t, .bool false) :: e) hs K) : JQ P n w0 own ops F z late l e hs K := by
  cases b
  · exact JQ.sub (sub_same' ht) (h0 rfl)
  · exact JQ.sub (sub_same' ht) (h1 rfl)
theorem set_lt {k : Nat} {late : Bool} (hl : listed.getD z true = late) (hz : late = true ∨ k ≠ z) : (listed.setIfInBounds k true).getD z true = late := by
  rcases hz with rfl | hz
  · rcases Decidable.em (k = z) with rfl | hne
    · rcases Nat.lt_or_ge k listed.size with h' | h'
      · simp [h']
      · simp [h']
    · rw [getD_set_ne true hne]; exact hl
  · rw [getD_set_ne true hz]; exact hl
/-- a value, ahead of the first store -/
theorem JQ.v {op : Op} {v : Value} (h : ∀ hs', F ⊆ hs' → Val P n w0 own e hs' op v) (kk : JQ P n w0 own ops F z false rest ((d, v) :: e) hs K) (hdn : Nat.blt d n = true := by rfl) (hg : wantB ops e g = some true := by rfl)
    (hzo : ((ops[z]?).map (·.dst.isNone)) = some true := by rfl) :
    JQ P n w0 own ops F z false (⟨some d, op, ty, pos, aft, g⟩ :: rest) e hs K := by
  intro m is listed Z h1 h2 h3 h4 h5 hz
  cases is with
  | nil => exact h1.elim
  | cons k is =>
  obtain ⟨h0, h1⟩ := h1
  unfold ordZ at h2
  rw [Bool.and_eq_true, Bool.and_eq_true] at h2
  obtain ⟨⟨h2a, _⟩, h2b⟩ := h2
  rw [Bool.or_eq_true, Bool.and_eq_true] at h2a
  have h2 := And.intro h2a h2b
  have hkz : k ≠ z := by rintro rfl; rw [h0] at hzo; simp at hzo
  have tail : JZ P n w0 own ops F z (rest.length + m) (listed.setIfInBounds k true) ((d, v) :: e) hs Z := kk m is _ Z h1 h2.2 (by simpa using h3) (set_lt h4 (.inr hkz)) h5 hz
  rw [show (⟨some d, op, ty, pos, aft, g⟩ :: rest : List Oper).length + m = (rest.length + m) + 1 from by simp; omega]
  rcases h2.1 with ho | ⟨_, hf⟩
  · exact JZ.v1 k h0 ho (h hs (h5 rfl)) tail rfl hdn hg
  · exact JZ.v k h0 hf h tail hdn hg
/-- a value behind it -/
theorem JQ.w {op : Op} {v : Value} (h : Val P n w0 own e hs op v) (kk : JQ P n w0 own ops F z true rest ((d, v) :: e) hs K) (hdn : Nat.blt d n = true := by rfl) (hg : wantB ops e g = some true := by rfl) :
    JQ P n w0 own ops F z true (⟨some d, op, ty, pos, aft, g⟩ :: rest) e hs K := by
  intro m is listed Z h1 h2 h3 h4 h5 hz
  cases is with
  | nil => exact h1.elim
  | cons k is =>
  obtain ⟨h0, h1⟩ := h1
  unfold ordZ at h2
  rw [Bool.and_eq_true, Bool.and_eq_true] at h2
  obtain ⟨⟨h2a, _⟩, h2b⟩ := h2
  rw [Bool.or_eq_true, Bool.and_eq_true] at h2a
  have h2 := And.intro h2a h2b
  have tail : JZ P n w0 own ops F z (rest.length + m) (listed.setIfInBounds k true) ((d, v) :: e) hs Z := kk m is _ Z h1 h2.2 (by simpa using h3) (set_lt h4 (.inl rfl)) (fun h => by cases h) hz
  rw [show (⟨some d, op, ty, pos, aft, g⟩ :: rest : List Oper).length + m = (rest.length + m) + 1 from by simp; omega]
  rcases h2.1 with ho | ⟨_, hf⟩
  · exact JZ.v1 k h0 ho h tail rfl hdn hg
  · unfold firstZ at hf
    rw [h4] at hf
    simp at hf
/-- what works on memory, and leaves a value -/
theorem JQ.ef {op : Op} {R : Value → Hp → Prop} (h : Eff P n w0 own e hs op R) (hF : ∀ v hs', R v hs' → F ⊆ hs → F ⊆ hs') (kk : ∀ v hs', R v hs' → JQ P n w0 own ops F z late rest ((d, v) :: e) hs' K)
    (hE : isEff ⟨some d, op, ty, pos, aft, g⟩ = true := by rfl) (hdn : Nat.blt d n = true := by rfl) (hg : wantB ops e g = some true := by rfl) (hzo : ((ops[z]?).map (·.dst.isNone)) = some true := by rfl) : JQ P n w0 own ops F z late (⟨some d, op, ty, pos, aft, g⟩ :: rest) e hs K := by
  intro m is listed Z h1 h2 h3 h4 h5 hz
  cases is with
  | nil => exact h1.elim
  | cons k is =>
  obtain ⟨h0, h1⟩ := h1
  unfold ordZ at h2
  rw [Bool.and_eq_true, Bool.and_eq_true] at h2
  obtain ⟨⟨h2a, _⟩, h2b⟩ := h2
  rw [Bool.or_eq_true, hE] at h2a
  have h2 := And.intro h2a h2b
  have hkz : k ≠ z := by rintro rfl; rw [h0] at hzo; simp at hzo
  have ho : onlyB ops listed k = true := by
    rcases h2.1 with h | h
    · exact h
    · simp at h
  rw [show (⟨some d, op, ty, pos, aft, g⟩ :: rest : List Oper).length + m = (rest.length + m) + 1 from by simp; omega]
  exact JZ.ef k h0 ho h (fun v hs' r => kk v hs' r m is _ Z h1 h2.2 (by simpa using h3) (set_lt h4 (.inr hkz)) (fun e => hF v hs' r (h5 e)) hz) hF rfl hdn hg
/-- the first store -/
theorem JQ.st {op : Op} {hs' : Hp} (h : Eff P n w0 own e hs op (fun v h => v = undef ∧ h = hs')) (kk : JQ P n w0 own ops F z true rest e hs' K)
    (hE : isEff ⟨none, op, ty, pos, aft, g⟩ = true := by rfl) (hg : wantB ops e g = some true := by rfl) : JQ P n w0 own ops F z false (⟨none, op, ty, pos, aft, g⟩ :: rest) e hs K := by
  intro m is listed Z h1 h2 h3 h4 h5 hz
  cases is with
  | nil => exact h1.elim
  | cons k is =>
  obtain ⟨h0, h1⟩ := h1
  unfold ordZ at h2
  rw [Bool.and_eq_true, Bool.and_eq_true] at h2
  obtain ⟨⟨h2a, h2c⟩, h2b⟩ := h2
  rw [Bool.or_eq_true, hE] at h2a
  have h2 := And.intro h2a h2b
  obtain rfl : k = z := by
    rw [h4] at h2c
    exact Nat.eq_of_beq_eq_true (by simpa using h2c)
  have ho : onlyB ops listed k = true := by
    rcases h2.1 with h | h
    · exact h
    · simp at h
  have hk : k < listed.size := by rw [h3]; exact (Array.getElem?_eq_some_iff.1 h0).1
  rw [show (⟨none, op, ty, pos, aft, g⟩ :: rest : List Oper).length + m = (rest.length + m) + 1 from by simp; omega]
  refine JZ.st h0 ho (Nat.ble_eq_true_of_le hk) h (kk m is _ Z h1 h2.2 (by simpa using h3) (by simp [hk]) (fun h => by cases h) hz) hg
/-- a store behind it -/
theorem JQ.st2 {op : Op} {hs' : Hp} (h : Eff P n w0 own e hs op (fun v h => v = undef ∧ h = hs')) (kk : JQ P n w0 own ops F z true rest e hs' K)
    (hE : isEff ⟨none, op, ty, pos, aft, g⟩ = true := by rfl) (hg : wantB ops e g = some true := by rfl) : JQ P n w0 own ops F z true (⟨none, op, ty, pos, aft, g⟩ :: rest) e hs K := by
  intro m is listed Z h1 h2 h3 h4 h5 hz
  cases is with
  | nil => exact h1.elim
  | cons k is =>
  obtain ⟨h0, h1⟩ := h1
  unfold ordZ at h2
  rw [Bool.and_eq_true, Bool.and_eq_true] at h2
  obtain ⟨⟨h2a, h2c⟩, h2b⟩ := h2
  rw [Bool.or_eq_true, hE] at h2a
  have h2 := And.intro h2a h2b
  have ho : onlyB ops listed k = true := by
    rcases h2.1 with h | h
    · exact h
    · simp at h
  rw [show (⟨none, op, ty, pos, aft, g⟩ :: rest : List Oper).length + m = (rest.length + m) + 1 from by simp; omega]
  have hl := set_lt (k := k) (listed := listed) (z := z) h4 (.inl rfl)
  rcases Decidable.em (z = k) with rfl | hne
  · -- z has been: it cannot come up again
    have hr : Region.ready .any ops listed = [z] := by simpa [onlyB] using ho
    have hm : z ∈ Region.ready .any ops listed := by rw [hr]; simp
    obtain ⟨hu, _⟩ := mem_ready.1 hm
    have hk : z < listed.size := by rw [h3]; exact (Array.getElem?_eq_some_iff.1 h0).1
    simp [hk] at hu h4
    rw [hu] at h4; cases h4
  · exact JZ.st2 k h0 ho h4 (by cases h : Nat.beq z k; rfl; exact absurd (Nat.eq_of_beq_eq_true h) hne) h (kk m is _ Z h1 h2.2 (by simpa using h3) hl (fun h => by cases h) hz) hg
end
/-- what an own slice holds, loaded -/
theorem OwnS.atN {w0 : World} {own : List Nat} {E m n n' c b o i : Nat} {vs us : List Value} {h hs : Hp} (k : OwnS E m (.slice (some ⟨b, o, none⟩) n' c) n vs h) (hh : h ⊆ hs) (hu : ∀ (j : Nat) (v : Value), us[j]? = some v → vs[i + j]? = some v) : At w0 own hs ⟨b, o + i, none⟩ us := by
  obtain rfl := k.one
  intro w s j v hv
  obtain ⟨b', o', h1, _, h3⟩ := OwnS.rd k s hh (no := []) (by simp) _ v (hu j v hv)
  cases h1
  rw [add_none, Nat.add_assoc]
  exact h3
theorem OwnS.at1 {w0 : World} {own : List Nat} {E m n n' c b o i : Nat} {vs : List Value} {v : Value} {h hs : Hp} (k : OwnS E m (.slice (some ⟨b, o, none⟩) n' c) n vs h) (hh : h ⊆ hs) (hv : vs[i]? = some v) : At w0 own hs ⟨b, o + i, none⟩ [v] :=
  k.atN hh fun j u hu => by
    match j, hu with
    | 0, hu => simp at hu; subst hu; simpa using hv
section
variable {P : Program} {n : Nat} {w0 : World} {own : List Nat} {e : Env} {hs : Hp}
/-- sums and differences of numbers that are told in another way -/
theorem Val.addE {T U : Nat} {x y : Operand} {i j : Int} (r : Int) (hx : ev e x = some (.int .i64 i)) (hy : ev e y = some (.int .i64 j)) (hr : i + j = r) (hb : -9223372036854775808 ≤ r ∧ r ≤ 9223372036854775807) :
    Val P n w0 own e hs (.binOp .add T x y U) (.int .i64 r) := by
  subst hr; exact Val.addi hx hy hb
theorem Val.subE {T U : Nat} {x y : Operand} {i j : Int} (r : Int) (hx : ev e x = some (.int .i64 i)) (hy : ev e y = some (.int .i64 j)) (hr : i - j = r) (hb : -9223372036854775808 ≤ r ∧ r ≤ 9223372036854775807) :
    Val P n w0 own e hs (.binOp .sub T x y U) (.int .i64 r) := by
  subst hr; exact Val.subi hx hy hb
theorem wrap_u64_in {x : Int} (h : 0 ≤ x ∧ x ≤ 18446744073709551615) : IntKind.u64.wrap x = x := by
  simp [IntKind.wrap, IntKind.bits, IntKind.signed]; omega
theorem Val.addU {T U : Nat} {x y : Operand} {i j : Int} (r : Int) (hx : ev e x = some (.int .u64 i)) (hy : ev e y = some (.int .u64 j)) (hr : i + j = r) (hb : 0 ≤ r ∧ r ≤ 18446744073709551615) :
    Val P n w0 own e hs (.binOp .add T x y U) (.int .u64 r) := by
  subst hr
  have h := Val.add (P := P) (n := n) (w0 := w0) (own := own) (hs := hs) (T := T) (U := U) hx hy
  rw [wrap_u64_in hb] at h; exact h
theorem Val.subU {T U : Nat} {x y : Operand} {i j : Int} (r : Int) (hx : ev e x = some (.int .u64 i)) (hy : ev e y = some (.int .u64 j)) (hr : i - j = r) (hb : 0 ≤ r ∧ r ≤ 18446744073709551615) :
    Val P n w0 own e hs (.binOp .sub T x y U) (.int .u64 r) := by
  subst hr
  have h := Val.sub_ (P := P) (n := n) (w0 := w0) (own := own) (hs := hs) (T := T) (U := U) hx hy
  rw [wrap_u64_in hb] at h; exact h
end
end V
end Go

/- VX: blocks that are lent, found by instances. -/
namespace Go
namespace V
open Go.RowKit
set_option linter.unusedVariables false
set_option linter.unusedSimpArgs false

/-- one block is taken out -/
class Rem (p : Nat × Ch) (hs : Hp) (hs1 : outParam Hp) : Prop where
  out : hs.Perm (p :: hs1)
instance (priority := high) Rem.head {p : Nat × Ch} {hs : Hp} : Rem p (p :: hs) hs := ⟨.refl _⟩
instance Rem.tail {p q : Nat × Ch} {hs hs1 : Hp} [h : Rem p hs hs1] : Rem p (q :: hs) (q :: hs1) := ⟨(List.Perm.cons q h.out).trans (List.Perm.swap _ _ _)⟩
instance Rem.cons_app {p q : Nat × Ch} {k hs r : Hp} [h : Rem p (q :: (k ++ hs)) r] : Rem p ((q :: k) ++ hs) r := ⟨h.out⟩
instance Rem.nil_app {p : Nat × Ch} {hs r : Hp} [h : Rem p hs r] : Rem p ([] ++ hs) r := ⟨h.out⟩
instance (priority := low) Rem.assoc {p : Nat × Ch} {a b c r : Hp} [h : Rem p (a ++ (b ++ c)) r] : Rem p ((a ++ b) ++ c) r := ⟨by rw [List.append_assoc]; exact h.out⟩
instance (priority := low - 10) Rem.app {p : Nat × Ch} {k hs hs1 : Hp} [h : Rem p hs hs1] : Rem p (k ++ hs) (k ++ hs1) := ⟨(List.Perm.append_left k h.out).trans List.perm_middle⟩
/-- a bunch is taken out -/
class RemC (k : Hp) (hs : Hp) (hs1 : outParam Hp) : Prop where
  out : hs.Perm (k ++ hs1)
instance (priority := high) RemC.head {k hs : Hp} : RemC k (k ++ hs) hs := ⟨.refl _⟩
instance (priority := high) RemC.last {k : Hp} : RemC k k [] := ⟨by rw [List.append_nil]⟩
instance RemC.cons_app {q : Nat × Ch} {k k' hs r : Hp} [h : RemC k (q :: (k' ++ hs)) r] : RemC k ((q :: k') ++ hs) r := ⟨h.out⟩
instance RemC.nil_app {k hs r : Hp} [h : RemC k hs r] : RemC k ([] ++ hs) r := ⟨h.out⟩
instance RemC.tail {k : Hp} {q : Nat × Ch} {hs hs1 : Hp} [h : RemC k hs hs1] : RemC k (q :: hs) (q :: hs1) := ⟨(List.Perm.cons q h.out).trans List.perm_middle.symm⟩
instance (priority := low) RemC.assoc {k a b c r : Hp} [h : RemC k (a ++ (b ++ c)) r] : RemC k ((a ++ b) ++ c) r := ⟨by rw [List.append_assoc]; exact h.out⟩
instance (priority := low - 10) RemC.app {k k' hs hs1 : Hp} [h : RemC k hs hs1] : RemC k (k' ++ hs) (k' ++ hs1) := ⟨(List.Perm.append_left k' h.out).trans (by rw [← List.append_assoc, ← List.append_assoc]; exact List.Perm.append_right _ List.perm_append_comm)⟩
/-- all of these are taken out -/
class TakeI (pre hs : Hp) (fr : outParam Hp) : Prop where
  out : hs.Perm (pre ++ fr)
instance (priority := high) TakeI.nil {hs : Hp} : TakeI [] hs hs := ⟨.refl _⟩
instance TakeI.cons {p : Nat × Ch} {pre hs hs1 fr : Hp} [h : Rem p hs hs1] [t : TakeI pre hs1 fr] : TakeI (p :: pre) hs fr := ⟨h.out.trans (.cons p t.out)⟩
instance TakeI.cons_app {p : Nat × Ch} {k pre hs fr : Hp} [t : TakeI (p :: (k ++ pre)) hs fr] : TakeI ((p :: k) ++ pre) hs fr := ⟨t.out⟩
instance TakeI.nil_app {pre hs fr : Hp} [t : TakeI pre hs fr] : TakeI ([] ++ pre) hs fr := ⟨t.out⟩
instance (priority := low) TakeI.assoc {a b c hs fr : Hp} [t : TakeI (a ++ (b ++ c)) hs fr] : TakeI ((a ++ b) ++ c) hs fr := ⟨by rw [List.append_assoc a b c]; exact t.out⟩
instance (priority := low - 10) TakeI.app {k pre hs hs1 fr : Hp} [h : RemC k hs hs1] [t : TakeI pre hs1 fr] : TakeI (k ++ pre) hs fr := ⟨by rw [List.append_assoc]; exact h.out.trans (List.Perm.append_left k t.out)⟩
instance (priority := low - 20) TakeI.last {k hs fr : Hp} [h : RemC k hs fr] : TakeI k hs fr := ⟨h.out⟩

theorem Sat.take {w0 w : World} {own : List Nat} {hs pre fr : Hp} (s : Sat w0 own hs w) [h : TakeI pre hs fr] : Sat w0 own pre w := (s.perm h.out).sub (List.sublist_append_left _ _)
section
variable {P : Program} {n : Nat} {w0 : World} {own : List Nat} {e : Env} {hs : Hp}
theorem JC.keep {c : Code} {Q : Post} (pre : Hp) {fr : Hp} [h : TakeI pre hs fr] (k : JC P n w0 own c e pre Q) : JC P n w0 own c e hs Q := JC.heap (fun _ s => s.take) k
/-- a call that is lent blocks -/
theorem Eff.callT {g : Nat} {f : Operand} {args : List Operand} {at_ : Array TypeId} {cap vals : List Value} {R : Value → Hp → Prop} (pre : Hp) {fr : Hp} (hf : ev e f = some (.func (.func g) #[] ⟨cap⟩)) (ha : evs e args = some vals) [hg : FnT P g] [tk : TakeI pre hs fr]
    (hc : ∀ w, Sat w0 own hs w → Does P g (vals ++ cap) pre w R) :
    Eff P n w0 own e hs (.call { callee := .value f, args := ⟨args⟩, argTypes := at_ }) (fun v hs' => ∃ h, R v h ∧ hs' = h ++ fr) := Eff.call hf ha tk.out hc
end
/-- two roads that join: what holds where they do -/
theorem JC.mid {P : Program} {n : Nat} {w0 : World} {own : List Nat} {e : Env} {hs : Hp} {Q : Post} {x y : Code} {X : Type} (env : X → Env) (heap : X → Hp) (I : X → Prop)
    (h1 : JC P n w0 own x e hs (thenQ (fun e' hs' => ∃ z, I z ∧ Sub (env z) e' ∧ ∀ w, Sat w0 own hs' w → Sat w0 own (heap z) w) Q)) (h2 : ∀ z, I z → JC P n w0 own y (env z) (heap z) Q) : JC P n w0 own (.seq x y) e hs Q := by
  refine .seq (h1.mono fun ex e' hs' h => ?_)
  cases ex with
  | normal => obtain ⟨z, hz, hs1, hh⟩ := h; exact JC.sub hs1 (JC.heap hh (h2 z hz))
  | _ => exact h
/-- a contract, where more is lent -/
theorem Does.lendT {P : Program} {g : Nat} {vals : List Value} {w : World} {R : Value → Hp → Prop} (pre : Hp) {big fr : Hp} [tk : TakeI pre big fr] (h : Does P g vals pre w R) : Does P g vals big w (fun v hs => ∃ h, R v h ∧ hs = h ++ fr) := by
  intro hp hd
  have s := (Sat.begin hp hd).perm tk.out
  have nd := s.nd
  simp only [bl, List.map_append, List.nodup_append] at nd
  refine (h (fun b c hb => s.has b c (List.mem_append.2 (.inl hb))) nd.1).mono ?_
  rintro x w' ⟨v, hs', rfl, h1, h2⟩
  exact ⟨v, hs' ++ fr, rfl, ⟨hs', h1, rfl⟩, s.call h2⟩
/-- .. and what is left is told in another order, less of it -/
theorem Does.keepT {P : Program} {g : Nat} {vals : List Value} {w : World} {R R' : Value → Hp → Prop} {pre : Hp} (h : Does P g vals pre w R) (k : ∀ v hs, R v hs → ∃ hs' fr, hs.Perm (hs' ++ fr) ∧ R' v hs') : Does P g vals pre w R' :=
  Does.less (h.mono fun v hs r => by
    obtain ⟨hs', fr, h1, h2⟩ := k v hs r
    exact ⟨hs', fun _ s => (s.perm h1).sub (List.sublist_append_left _ _), h2⟩)
end V
end Go

/- VY: as VW; and what touches no memory may come up at any time. -/
namespace Go
namespace V
open Go.RowKit
set_option linter.unusedVariables false
set_option linter.unusedSimpArgs false

section
variable {P : Program} {ops : Array Oper} {Q : Exit → Act → World → Prop} {S : World → Prop} {z : Nat}
/-- number i may be taken first, if its value hangs on no world -/
theorem Upto.firstX {i : Nat} {oi : Oper} {v : Value} (hi : ops[i]? = some oi) (hsel : ∀ (j : Nat) (o : Oper) cs b, ops[j]? = some o → o.op ≠ .select cs b)
    (hQ : ∀ c a w, Q (.panic c) (a.put oi.dst v) w → Q (.panic c) a w) (hzi : z ≠ i) :
    ∀ (k : Nat) (l : Array Bool) (a : Act) (w : World),
      (∀ j oj, ops[j]? = some oj → j ≠ i → l.getD j true = false → (∀ e ∈ oj.after, Region.binds .any e = true → e.on ≠ i) → oi.apart ops oj = true) →
      i ∈ Region.ready .any ops l → YieldsIf P ops (fun _ => True) oi v a → (l.getD z true = false → S w) →
      Upto P ops Q S z k (l.setIfInBounds i true) (a.put oi.dst v) w → Upto P ops Q S z (k + 1) l a w := by
  intro k
  induction k with
  | zero =>
    intro l a w _ hr hy hS H
    refine ⟨fun h => absurd (h ▸ hr) List.not_mem_nil, fun j hj => ?_⟩
    rcases Decidable.em (j = i) with rfl | hji
    · exact hy.wpOp hi trivial ⟨fun hz => hS (by rw [getD_set_ne true (Ne.symm hzi)] at hz; exact hz), H⟩
    · exact absurd (H.1 ▸ ready_mono hj hji) List.not_mem_nil
  | succ k ih =>
    intro l a w hfree hr hy hS H
    refine ⟨fun h => absurd (h ▸ hr) List.not_mem_nil, fun j hj => ?_⟩
    rcases Decidable.em (j = i) with rfl | hji
    · exact hy.wpOp hi trivial ⟨fun hz => hS (by rw [getD_set_ne true (Ne.symm hzi)] at hz; exact hz), H⟩
    obtain ⟨hun, oj, hoj, hall⟩ := mem_ready.1 hj
    have hno : ∀ e ∈ oj.after, Region.binds .any e = true → e.on ≠ i := by
      intro e he hb hon
      exact not_both (z := j) hoj ⟨e, he, hb, hon⟩ hr hj
    have step := wpOp_putIf hoj (hfree j oj hoj hji hun hno) (fun cs b => hsel i oi cs b hi) (fun cs b => hsel j oj cs b hoj) hQ hy (H.2 j (ready_mono hj hji))
    refine wpOp_mono (fun a' w' ⟨hy', hS', hrest⟩ => ?_) step
    have e1 : ((l.setIfInBounds i true).setIfInBounds j true).getD z true = (l.setIfInBounds j true).getD z true := by
      rw [Array.setIfInBounds_comm _ _ (Ne.symm hji), getD_set_ne true (Ne.symm hzi)]
    have hS2 : (l.setIfInBounds j true).getD z true = false → S w' := fun hz => hS' (by rw [e1]; exact hz)
    refine ⟨hS2, ih (l.setIfInBounds j true) a' w' (fun m om hm hmi hun' hno' => ?_) (ready_mono hr (Ne.symm hji)) hy' hS2 ?_⟩
    · refine hfree m om hm hmi ?_ hno'
      rcases Decidable.em (j = m) with rfl | hjm
      · exact hun
      · rw [getD_set_ne true hjm] at hun'; exact hun'
    · rw [Array.setIfInBounds_comm _ _ hji]; exact hrest
end
/-- does the operation touch no memory? -/
def noMem (o : Oper) : Bool := match o.op with
  | .move _ => true
  | .indexAddr .. => true
  | .fieldAddr .. => true
  | .binOp .. => true
  | .extract .. => true
  | _ => false
section
variable {P : Program} {n : Nat} {w0 : World} {own : List Nat} {e : Env} {hs F : Hp} {ops : Array Oper} {K : Env → Hp → Prop} {z m : Nat} {listed : Array Bool}
variable {d : Nat} {ty : TypeId} {pos : String} {aft : Array Edge} {g : Option (Nat × Bool)}
theorem JZ.x {op : Op} {v : Value} (i : Nat) (hi : ops[i]? = some ⟨some d, op, ty, pos, aft, g⟩) (hf : firstB ops listed i = true) (hzi : z ≠ i)
    (h : ∀ w, Val P n w [] e [] op v) (k : JZ P n w0 own ops F z m (listed.setIfInBounds i true) ((d, v) :: e) hs K)
    (hdn : Nat.blt d n = true := by rfl) (hg : wantB ops e g = some true := by rfl) : JZ P n w0 own ops F z (m + 1) listed e hs K := by
  intro a w hr s hF
  unfold firstB at hf
  rw [Bool.and_eq_true, Bool.and_eq_true] at hf
  obtain ⟨⟨f1, f2⟩, f3⟩ := hf
  exact Upto.firstX hi (Region.noSelect_spec f1) (fun _ _ _ h => h) hzi m listed a w (Region.free_spec hi f2) (by simpa using f3)
    (.inl ⟨wanted_of hr hg, fun w' _ => h w' a w' _ _ _ _ _ hr (Sat.begin0 w')⟩) (fun hz => ⟨hs, s, hF hz⟩)
    (k _ _ (hr.put (Nat.le_of_ble_eq_true hdn) v) s fun hz => hF (by rw [getD_set_ne true (Ne.symm hzi)] at hz; exact hz))
end

def ordY (ops : Array Oper) (z : Nat) : List Oper → List Nat → Array Bool → Bool
  | [], [], _ => true
  | o :: l, i :: is, listed => (onlyB ops listed i || (!isEff o && firstZ ops z listed i) || (noMem o && firstB ops listed i && !Nat.beq z i)) && (o.dst.isSome || Nat.beq i z || listed.getD z true) && ordY ops z l is (listed.setIfInBounds i true)
  | _, _, _ => false
/-- the operations in their order; 'late': the first store has been -/
def JY (P : Program) (n : Nat) (w0 : World) (own : List Nat) (ops : Array Oper) (F : Hp) (z : Nat) (late : Bool) (l : List Oper) (e : Env) (hs : Hp) (K : Bool → Env → Hp → Prop) : Prop :=
  ∀ (m : Nat) (is : List Nat) (listed : Array Bool) (Z : Env → Hp → Prop), Nums ops l is → ordY ops z l is listed = true → listed.size = ops.size → listed.getD z true = late → (late = false → F ⊆ hs) →
    (∀ late' e' hs', (marks_ is listed).getD z true = late' → (late' = false → F ⊆ hs') → K late' e' hs' → JZ P n w0 own ops F z m (marks_ is listed) e' hs' Z) → JZ P n w0 own ops F z (l.length + m) listed e hs Z

theorem eff_mem {o : Oper} (h : isEff o = true) : noMem o = false := by
  unfold isEff at h; unfold noMem
  split <;> simp_all
section
variable {P : Program} {n : Nat} {w0 : World} {own : List Nat} {e : Env} {hs F : Hp} {ops : Array Oper} {rest l : List Oper} {K : Bool → Env → Hp → Prop} {z : Nat} {late : Bool} {m : Nat} {listed : Array Bool} {Z : Env → Hp → Prop}
variable {d : Nat} {ty : TypeId} {pos : String} {aft : Array Edge} {g : Option (Nat × Bool)}

theorem JC.drawY {id : Nat} {Q : Post} {l : List Oper} (z : Nat) (is : List Nat) (F : Hp) (hF : F ⊆ hs) (hm : P.follows .mixedOrders = true)
    (hB : (ordY l.toArray z (pickL l is) is (Array.replicate l.length false) && doneB l.toArray (marks_ is (Array.replicate l.length false)) && Nat.beq (pickL l is).length l.length && Nat.beq is.length l.length && Nat.blt z l.length) = true)
    (h : JY P n w0 own l.toArray F z false (pickL l is) e hs (fun _ e' hs' => Q .normal e' hs')) : JC P n w0 own (.region id l.toArray true) e hs Q := by
  rw [Bool.and_eq_true, Bool.and_eq_true, Bool.and_eq_true, Bool.and_eq_true] at hB
  obtain ⟨⟨⟨⟨h1, h2⟩, h3⟩, h4⟩, h5⟩ := hB
  have h3 := Nat.eq_of_beq_eq_true h3
  have h4 := Nat.eq_of_beq_eq_true h4
  have h5 : z < l.length := Nat.le_of_ble_eq_true h5
  have key : ∀ (is : List Nat), (pickL l is).length = is.length → Nums l.toArray (pickL l is) is := by
    intro is
    induction is with
    | nil => intro _; trivial
    | cons i is ih =>
      intro hl
      unfold pickL at hl ⊢
      cases ho : l[i]? with
      | none => rw [ho] at hl; simp at hl
      | some o =>
        rw [ho] at hl
        simp only at hl ⊢
        exact ⟨by simpa using ho, ih (by simpa using hl)⟩
  refine JC.drawZ z F hF hm ?_
  have := h 0 is (Array.replicate l.length false) (fun e hs => Q .normal e hs) (key _ (by omega)) h1 (by simp) (by simp [h5]) (fun _ => hF) (fun _ e' hs' _ _ ke => JZ.done h2 ke)
  rw [h3] at this
  simpa using this
theorem JY.nil (h : K late e hs) : JY P n w0 own ops F z late [] e hs K := fun m is listed Z hn _ hsz hl hF hz => by
  cases is with
  | nil => rw [List.length_nil, Nat.zero_add]; exact hz late e hs hl hF h
  | cons i is => exact hn.elim
theorem JY.mono {K' : Bool → Env → Hp → Prop} (h : JY P n w0 own ops F z late l e hs K) (kk : ∀ b e hs, K b e hs → K' b e hs) : JY P n w0 own ops F z late l e hs K' :=
  fun m k listed Z h1 h2 h3 h4 h5 hz => h m k listed Z h1 h2 h3 h4 h5 fun b e' hs' f1 f ke => hz b e' hs' f1 f (kk b e' hs' ke)
theorem JY.sub {e2 : Env} (hs' : Sub e2 e) (h : JY P n w0 own ops F z late l e2 hs K) : JY P n w0 own ops F z late l e hs K :=
  fun m k listed Z h1 h2 h3 h4 h5 hz a w hr s hF => h m k listed Z h1 h2 h3 h4 h5 hz a w (hr.sub hs') s hF
theorem JY.splitB {t : Nat} {b : Bool} (ht : get e t = some (.bool b)) (h1 : b = true → JY P n w0 own ops F z late l ((t, .bool true) :: e) hs K)
    (h0 : b = false → JY P n w0 own ops F z late l ((t, .bool false) :: e) hs K) : JY P n w0 own ops F z late l e hs K := by
  cases b
  · exact JY.sub (sub_same' ht) (h0 rfl)
  · exact JY.sub (sub_same' ht) (h1 rfl)
/-- a value, ahead of the first store -/
theorem JY.v {op : Op} {v : Value} (h : ∀ hs', F ⊆ hs' → Val P n w0 own e hs' op v) (kk : JY P n w0 own ops F z false rest ((d, v) :: e) hs K) (hdn : Nat.blt d n = true := by rfl) (hg : wantB ops e g = some true := by rfl)
    (hzo : ((ops[z]?).map (·.dst.isNone)) = some true := by rfl) (hx : noMem ⟨some d, op, ty, pos, aft, g⟩ = false := by rfl) :
    JY P n w0 own ops F z false (⟨some d, op, ty, pos, aft, g⟩ :: rest) e hs K := by
  intro m is listed Z h1 h2 h3 h4 h5 hz
  cases is with
  | nil => exact h1.elim
  | cons k is =>
  obtain ⟨h0, h1⟩ := h1
  unfold ordY at h2
  rw [Bool.and_eq_true, Bool.and_eq_true] at h2
  obtain ⟨⟨h2a, _⟩, h2b⟩ := h2
  rw [hx, Bool.false_and, Bool.false_and, Bool.or_false, Bool.or_eq_true, Bool.and_eq_true] at h2a
  have h2 := And.intro h2a h2b
  have hkz : k ≠ z := by rintro rfl; rw [h0] at hzo; simp at hzo
  have tail : JZ P n w0 own ops F z (rest.length + m) (listed.setIfInBounds k true) ((d, v) :: e) hs Z := kk m is _ Z h1 h2.2 (by simpa using h3) (set_lt h4 (.inr hkz)) h5 hz
  rw [show (⟨some d, op, ty, pos, aft, g⟩ :: rest : List Oper).length + m = (rest.length + m) + 1 from by simp; omega]
  rcases h2.1 with ho | ⟨_, hf⟩
  · exact JZ.v1 k h0 ho (h hs (h5 rfl)) tail rfl hdn hg
  · exact JZ.v k h0 hf h tail hdn hg
/-- a value behind it -/
theorem JY.w {op : Op} {v : Value} (h : Val P n w0 own e hs op v) (kk : JY P n w0 own ops F z true rest ((d, v) :: e) hs K) (hdn : Nat.blt d n = true := by rfl) (hg : wantB ops e g = some true := by rfl) (hx : noMem ⟨some d, op, ty, pos, aft, g⟩ = false := by rfl) :
    JY P n w0 own ops F z true (⟨some d, op, ty, pos, aft, g⟩ :: rest) e hs K := by
  intro m is listed Z h1 h2 h3 h4 h5 hz
  cases is with
  | nil => exact h1.elim
  | cons k is =>
  obtain ⟨h0, h1⟩ := h1
  unfold ordY at h2
  rw [Bool.and_eq_true, Bool.and_eq_true] at h2
  obtain ⟨⟨h2a, _⟩, h2b⟩ := h2
  rw [hx, Bool.false_and, Bool.false_and, Bool.or_false, Bool.or_eq_true, Bool.and_eq_true] at h2a
  have h2 := And.intro h2a h2b
  have tail : JZ P n w0 own ops F z (rest.length + m) (listed.setIfInBounds k true) ((d, v) :: e) hs Z := kk m is _ Z h1 h2.2 (by simpa using h3) (set_lt h4 (.inl rfl)) (fun h => by cases h) hz
  rw [show (⟨some d, op, ty, pos, aft, g⟩ :: rest : List Oper).length + m = (rest.length + m) + 1 from by simp; omega]
  rcases h2.1 with ho | ⟨_, hf⟩
  · exact JZ.v1 k h0 ho h tail rfl hdn hg
  · unfold firstZ at hf
    rw [h4] at hf
    simp at hf
/-- what touches no memory, at any time -/
theorem JY.x {op : Op} {v : Value} (h : ∀ w0 own hs, Val P n w0 own e hs op v) (kk : JY P n w0 own ops F z late rest ((d, v) :: e) hs K) (hdn : Nat.blt d n = true := by rfl) (hg : wantB ops e g = some true := by rfl)
    (hzo : ((ops[z]?).map (·.dst.isNone)) = some true := by rfl) :
    JY P n w0 own ops F z late (⟨some d, op, ty, pos, aft, g⟩ :: rest) e hs K := by
  intro m is listed Z h1 h2 h3 h4 h5 hz
  cases is with
  | nil => exact h1.elim
  | cons k is =>
  obtain ⟨h0, h1⟩ := h1
  unfold ordY at h2
  rw [Bool.and_eq_true, Bool.and_eq_true] at h2
  obtain ⟨⟨h2a, _⟩, h2b⟩ := h2
  rw [Bool.or_eq_true, Bool.or_eq_true, Bool.and_eq_true, Bool.and_eq_true, Bool.and_eq_true] at h2a
  have hkz : k ≠ z := by rintro rfl; rw [h0] at hzo; simp at hzo
  have tail : JZ P n w0 own ops F z (rest.length + m) (listed.setIfInBounds k true) ((d, v) :: e) hs Z := kk m is _ Z h1 h2b (by simpa using h3) (set_lt h4 (.inr hkz)) h5 hz
  rw [show (⟨some d, op, ty, pos, aft, g⟩ :: rest : List Oper).length + m = (rest.length + m) + 1 from by simp; omega]
  rcases h2a with (ho | ⟨_, hf⟩) | ⟨⟨_, hf⟩, _⟩
  · exact JZ.v1 k h0 ho (h _ _ _) tail rfl hdn hg
  · exact JZ.v k h0 hf (fun hs' _ => h _ _ _) tail hdn hg
  · exact JZ.x k h0 hf (Ne.symm hkz) (fun w => h _ _ _) tail hdn hg
/-- what works on memory, and leaves a value -/
theorem JY.ef {op : Op} {R : Value → Hp → Prop} (h : Eff P n w0 own e hs op R) (hF : ∀ v hs', R v hs' → F ⊆ hs → F ⊆ hs') (kk : ∀ v hs', R v hs' → JY P n w0 own ops F z late rest ((d, v) :: e) hs' K)
    (hE : isEff ⟨some d, op, ty, pos, aft, g⟩ = true := by rfl) (hdn : Nat.blt d n = true := by rfl) (hg : wantB ops e g = some true := by rfl) (hzo : ((ops[z]?).map (·.dst.isNone)) = some true := by rfl) : JY P n w0 own ops F z late (⟨some d, op, ty, pos, aft, g⟩ :: rest) e hs K := by
  intro m is listed Z h1 h2 h3 h4 h5 hz
  cases is with
  | nil => exact h1.elim
  | cons k is =>
  obtain ⟨h0, h1⟩ := h1
  unfold ordY at h2
  rw [Bool.and_eq_true, Bool.and_eq_true] at h2
  obtain ⟨⟨h2a, _⟩, h2b⟩ := h2
  rw [Bool.or_eq_true, Bool.or_eq_true, hE, eff_mem hE] at h2a
  have h2 := And.intro h2a h2b
  have hkz : k ≠ z := by rintro rfl; rw [h0] at hzo; simp at hzo
  have ho : onlyB ops listed k = true := by
    rcases h2.1 with (h | h) | h
    · exact h
    · simp at h
    · simp at h
  rw [show (⟨some d, op, ty, pos, aft, g⟩ :: rest : List Oper).length + m = (rest.length + m) + 1 from by simp; omega]
  exact JZ.ef k h0 ho h (fun v hs' r => kk v hs' r m is _ Z h1 h2.2 (by simpa using h3) (set_lt h4 (.inr hkz)) (fun e => hF v hs' r (h5 e)) hz) hF rfl hdn hg
/-- the first store -/
theorem JY.st {op : Op} {hs' : Hp} (h : Eff P n w0 own e hs op (fun v h => v = undef ∧ h = hs')) (kk : JY P n w0 own ops F z true rest e hs' K)
    (hE : isEff ⟨none, op, ty, pos, aft, g⟩ = true := by rfl) (hg : wantB ops e g = some true := by rfl) : JY P n w0 own ops F z false (⟨none, op, ty, pos, aft, g⟩ :: rest) e hs K := by
  intro m is listed Z h1 h2 h3 h4 h5 hz
  cases is with
  | nil => exact h1.elim
  | cons k is =>
  obtain ⟨h0, h1⟩ := h1
  unfold ordY at h2
  rw [Bool.and_eq_true, Bool.and_eq_true] at h2
  obtain ⟨⟨h2a, h2c⟩, h2b⟩ := h2
  rw [Bool.or_eq_true, Bool.or_eq_true, hE, eff_mem hE] at h2a
  have h2 := And.intro h2a h2b
  obtain rfl : k = z := by
    rw [h4] at h2c
    exact Nat.eq_of_beq_eq_true (by simpa using h2c)
  have ho : onlyB ops listed k = true := by
    rcases h2.1 with (h | h) | h
    · exact h
    · simp at h
    · simp at h
  have hk : k < listed.size := by rw [h3]; exact (Array.getElem?_eq_some_iff.1 h0).1
  rw [show (⟨none, op, ty, pos, aft, g⟩ :: rest : List Oper).length + m = (rest.length + m) + 1 from by simp; omega]
  refine JZ.st h0 ho (Nat.ble_eq_true_of_le hk) h (kk m is _ Z h1 h2.2 (by simpa using h3) (by simp [hk]) (fun h => by cases h) hz) hg
/-- a store behind it -/
theorem JY.st2 {op : Op} {hs' : Hp} (h : Eff P n w0 own e hs op (fun v h => v = undef ∧ h = hs')) (kk : JY P n w0 own ops F z true rest e hs' K)
    (hE : isEff ⟨none, op, ty, pos, aft, g⟩ = true := by rfl) (hg : wantB ops e g = some true := by rfl) : JY P n w0 own ops F z true (⟨none, op, ty, pos, aft, g⟩ :: rest) e hs K := by
  intro m is listed Z h1 h2 h3 h4 h5 hz
  cases is with
  | nil => exact h1.elim
  | cons k is =>
  obtain ⟨h0, h1⟩ := h1
  unfold ordY at h2
  rw [Bool.and_eq_true, Bool.and_eq_true] at h2
  obtain ⟨⟨h2a, h2c⟩, h2b⟩ := h2
  rw [Bool.or_eq_true, Bool.or_eq_true, hE, eff_mem hE] at h2a
  have h2 := And.intro h2a h2b
  have ho : onlyB ops listed k = true := by
    rcases h2.1 with (h | h) | h
    · exact h
    · simp at h
    · simp at h
  rw [show (⟨none, op, ty, pos, aft, g⟩ :: rest : List Oper).length + m = (rest.length + m) + 1 from by simp; omega]
  have hl := set_lt (k := k) (listed := listed) (z := z) h4 (.inl rfl)
  rcases Decidable.em (z = k) with rfl | hne
  · -- z has been: it cannot come up again
    have hr : Region.ready .any ops listed = [z] := by simpa [onlyB] using ho
    have hm : z ∈ Region.ready .any ops listed := by rw [hr]; simp
    obtain ⟨hu, _⟩ := mem_ready.1 hm
    have hk : z < listed.size := by rw [h3]; exact (Array.getElem?_eq_some_iff.1 h0).1
    simp [hk] at hu h4
    rw [hu] at h4; cases h4
  · exact JZ.st2 k h0 ho h4 (by cases h : Nat.beq z k; rfl; exact absurd (Nat.eq_of_beq_eq_true h) hne) h (kk m is _ Z h1 h2.2 (by simpa using h3) hl (fun h => by cases h) hz) hg
end
/-- number i comes up now -/
def JS (P : Program) (n : Nat) (w0 : World) (own : List Nat) (ops : Array Oper) (F : Hp) (m : Nat) (listed : Array Bool) (e : Env) (hs : Hp) (K : Env → Hp → Prop) (i : Nat) : Prop :=
  ∀ a w, Rep n a e → Sat w0 own hs w → F ⊆ hs →
    wpOp P ops (QN fun a' w' => ∃ e' hs', Rep n a' e' ∧ Sat w0 own hs' w' ∧ K e' hs') i (fun a' w' => Keeps w0 own F w' ∧ wpAnyH P .any ops (QN fun a' w' => ∃ e' hs', Rep n a' e' ∧ Sat w0 own hs' w' ∧ K e' hs') (Keeps w0 own F) m (listed.setIfInBounds i true) a' w') a w
section
variable {P : Program} {n : Nat} {w0 : World} {own : List Nat} {e : Env} {hs F : Hp} {ops : Array Oper} {K : Env → Hp → Prop} {m : Nat} {listed : Array Bool}
variable {d : Nat} {ty : TypeId} {pos : String} {aft : Array Edge} {g : Option (Nat × Bool)}
/-- any of those that may come up -/
theorem JD.two (i j : Nat) (hr : (Region.ready .any ops listed == [i, j]) = true) (h1 : JS P n w0 own ops F m listed e hs K i) (h2 : JS P n w0 own ops F m listed e hs K j) : JD P n w0 own ops F (m + 1) listed e hs K := by
  intro a w hr' s hf
  refine wpAnyH_all (rs := [i, j]) (by simpa using hr) (by simp) fun k hk => ?_
  simp only [List.mem_cons, List.not_mem_nil, or_false] at hk
  rcases hk with rfl | rfl
  · exact h1 a w hr' s hf
  · exact h2 a w hr' s hf
theorem JD.one (i : Nat) (hr : onlyB ops listed i = true) (h1 : JS P n w0 own ops F m listed e hs K i) : JD P n w0 own ops F (m + 1) listed e hs K := by
  intro a w hr' s hf
  refine wpAnyH_all (rs := [i]) (by simpa [onlyB] using hr) (by simp) fun k hk => ?_
  simp only [List.mem_singleton] at hk
  subst hk
  exact h1 a w hr' s hf
theorem JS.v {i : Nat} {op : Op} {v : Value} (hi : ops[i]? = some ⟨some d, op, ty, pos, aft, g⟩) (h : Val P n w0 own e hs op v) (k : JD P n w0 own ops F m (listed.setIfInBounds i true) ((d, v) :: e) hs K)
    (hdn : Nat.blt d n = true := by rfl) (hg : wantB ops e g = some true := by rfl) : JS P n w0 own ops F m listed e hs K i := by
  intro a w hr s hf
  unfold wpOp
  simp only [hi]
  rw [if_pos (wanted_of hr hg)]
  exact .inl (h.eff a w _ _ _ _ _ _ _ hr s fun v' hs' w' ⟨e1, e2⟩ s' => by
    subst e1; subst e2
    exact ⟨⟨_, s', hf⟩, k _ _ (hr.put (Nat.le_of_ble_eq_true hdn) _) s' hf⟩)
theorem JS.st {i : Nat} {op : Op} {hs' : Hp} (hi : ops[i]? = some ⟨none, op, ty, pos, aft, g⟩) (h : Eff P n w0 own e hs op (fun v h => v = undef ∧ h = hs')) (hF : F ⊆ hs') (k : JD P n w0 own ops F m (listed.setIfInBounds i true) e hs' K)
    (hg : wantB ops e g = some true := by rfl) : JS P n w0 own ops F m listed e hs K i := by
  intro a w hr s hf
  unfold wpOp
  simp only [hi]
  rw [if_pos (wanted_of hr hg)]
  exact .inl (h a w _ _ _ _ _ _ _ hr s fun v' h' w' ⟨_, e2⟩ s' => by
    subst e2
    exact ⟨⟨_, s', hF⟩, k _ _ (hr.put_none _) s' hF⟩)
end
end V
end Go

/- VZ: functions that range over a function, and iterators that call 'yield': the rules of control inside a fence that lets all pass, in a round and outside. -/
namespace Go
namespace V
open Go.RowKit
set_option linter.unusedVariables false
set_option linter.unusedSimpArgs false

abbrev Rnd : Option Nat → Fence
  | none => Fence.wide
  | some l => Fence.wide.inRound l
theorem Rnd.fn (ro : Option Nat) (f : FuncId) : (Rnd ro).fn f := by cases ro <;> exact trivial
theorem Rnd.depth_ (ro : Option Nat) : (Rnd ro).depth = none := by cases ro <;> rfl
theorem Rnd.round_ (ro : Option Nat) : (Rnd ro).round = ro := by cases ro <;> rfl
theorem calls_rnd {P : Program} {f : FuncId} {args : Array Value} {w : World} {R : Ending → World → Prop} (ro : Option Nat) (n : Nat) (h : Calls P f args w R) : CallsIn (Rnd ro) n P f args w R := by
  cases ro with
  | none => exact callsIn_wide.2 h
  | some l => exact CallsIn.inRound l (callsIn_wide.2 h)
theorem rows_rnd {P : Program} {row : String} {args : Array Value} {w : World} {R : Value → World → Prop} (ro : Option Nat) (n : Nat) (h : Rows P row args w R) : RowsIn (Rnd ro) n P row args w R := by
  intro c cs _
  obtain ⟨v, w', r, s⟩ := h c cs
  refine ⟨v, w', r, ?_⟩
  cases ro with
  | none => exact stepsIn_wide.2 s
  | some l => exact stepsIn_wide.2 s

def ndOp : Op → Bool
  | .defer _ => false
  | _ => true
theorem ndOp_ne {o : Op} (h : ndOp o = true) : ∀ c, o ≠ .defer c := by
  intro c e; subst e; cases h
theorem semAt_nd {ro : Option Nat} {ρ : Operand → Value} {o : Oper} (h : ndOp o.op = true) : o.semAt ro ρ = execOp ρ o := by
  cases ro with
  | none => rfl
  | some l => exact Oper.semAt_some l ρ o (ndOp_ne h)
def ndB (l : List Oper) : Bool := l.all fun o => ndOp o.op

theorem lift_op {P : Program} {ro : Option Nat} {o : Oper} {a0 : Act} {ds : List Deferred} {w : World} {K K' : Act → World → Prop} {Q Q' : Exit → Act → World → Prop}
    (hd : ndOp o.op = true) (hK : ∀ a' w', K' a' w' → K { a' with defers := a'.defers ++ ds } w') (hQ : ∀ x a w, x ≠ .normal → ¬ Q' x a w)
    (h : o.wp P a0 w K' Q') : o.wpIn (Rnd ro) 0 P { a0 with defers := a0.defers ++ ds } w K Q := by
  unfold Oper.wpIn
  refine ⟨fun f _ => Rnd.fn ro f, ?_⟩
  rw [Rnd.round_, semAt_nd hd]
  have e : Act.eval { a0 with defers := a0.defers ++ ds } = a0.eval := by funext x; cases x <;> rfl
  have pe : ∀ (a1 : Act) (d : Option Tmp) (v : Value), { a1.put d v with defers := (a1.put d v).defers ++ ds } = ({ a1 with defers := a1.defers ++ ds } : Act).put d v := by
    intro a1 d v; cases d <;> rfl
  rw [e]
  unfold Oper.wp at h
  generalize (execOp a0.eval o).run P w = r at h ⊢
  cases r with
  | ok x w' =>
    cases x with
    | value v => have := hK _ _ h; rw [pe] at this; exact this
    | skip => have := hK _ _ h; rw [pe] at this; exact this
    | «defer» d =>
      have := hK _ _ h; rw [pe] at this; exact this
    | enter f args =>
      refine ⟨fun h => (by rw [Rnd.depth_] at h; cases h), (calls_rnd ro _ h).mono ?_⟩
      intro e w'' he
      cases e with
      | returned v => have := hK _ _ he; rw [pe] at this; exact this
      | panicked chain => exact (hQ _ _ _ (by simp) he).elim
      | outgrown => obtain ⟨a1, w1, h1⟩ := he; exact (hQ _ _ _ (by simp) h1).elim
    | row row args =>
      refine ⟨fun h => (by rw [Rnd.depth_] at h; cases h), (rows_rnd ro _ h).mono ?_⟩
      intro v w'' he
      have := hK _ _ he; rw [pe] at this; exact this
    | _ => exact h.elim
  | halt x w' =>
    cases x with
    | panic v => exact (hQ _ _ _ (by simp) h).elim
    | _ => exact h.elim

theorem lift_list {P : Program} {ro : Option Nat} {ops : Array Oper} {ds : List Deferred} {Q Q' : Exit → Act → World → Prop}
    (hQ : ∀ x a w, x ≠ .normal → ¬ Q' x a w) (hN : ∀ a' w', Q' .normal a' w' → Q .normal { a' with defers := a'.defers ++ ds } w') : ∀ (l : List Oper), ndB l = true → ∀ (a0 : Act) (w : World), wpList P ops Q' l a0 w →
    wpListIn (Rnd ro) 0 P ops Q l { a0 with defers := a0.defers ++ ds } w
  | [], _, a0, w, h => hN _ _ h
  | o :: rest, hd, a0, w, h => by
    simp only [ndB, List.all_cons, Bool.and_eq_true] at hd
    unfold wpList at h
    unfold wpListIn
    split at h
    · rename_i hw
      rw [if_pos hw]
      rcases h with h | ⟨_, a1, w1, h⟩
      · exact lift_op hd.1 (fun a' w' h' => lift_list hQ hN rest hd.2 a' w' h') hQ h
      · exact (hQ _ _ _ (by simp) h).elim
    · rename_i hw
      rw [if_neg hw]
      refine ⟨fun f _ => Rnd.fn ro f, ?_⟩
      have := lift_list (ro := ro) hQ hN rest hd.2 _ w h
      have pe : ∀ (a1 : Act) (d : Option Tmp) (v : Value), { a1.put d v with defers := (a1.put d v).defers ++ ds } = ({ a1 with defers := a1.defers ++ ds } : Act).put d v := by
        intro a1 d v; cases d <;> rfl
      rw [pe] at this
      exact this

structure RepD (ds : List Deferred) (n : Nat) (a : Act) (e : Env) : Prop where
  rep : Rep n { a with defers := [] } e
  nd : a.defers = ds
theorem RepD.of {ds : List Deferred} {n : Nat} {a : Act} {e : Env} (h : Rep n a e) : RepD ds n { a with defers := a.defers ++ ds } e :=
  ⟨⟨rfl, h.sz, h.at_⟩, by show a.defers ++ ds = ds; rw [h.nd]; rfl⟩
theorem RepD.act {ds : List Deferred} {n : Nat} {a : Act} {e : Env} (h : RepD ds n a e) : ({ ({ a with defers := [] } : Act) with defers := ([] : List Deferred) ++ ds } : Act) = a := by
  cases a; have := h.nd; simp at this; simp [this]
theorem RepD.eval {ds : List Deferred} {n : Nat} {a : Act} {e : Env} (h : RepD ds n a e) {x : Operand} {v : Value} (hx : ev e x = some v) : a.eval x = v := by
  have := h.rep.eval hx
  rw [← this]; cases x <;> rfl
theorem RepD.sub {ds : List Deferred} {n : Nat} {a : Act} {e e' : Env} (h : RepD ds n a e) (k : Sub e' e) : RepD ds n a e' := ⟨h.rep.sub k, h.nd⟩
theorem RepD.put {ds : List Deferred} {n : Nat} {a : Act} {e : Env} (h : RepD ds n a e) {d : Nat} (hd : d < n) (v : Value) : RepD ds n (a.put (some d) v) ((d, v) :: e) :=
  ⟨h.rep.put hd v, h.nd⟩

abbrev PostD := Exit → List Deferred → Env → Hp → Prop
def liftD (n : Nat) (w0 : World) (own : List Nat) (Q : PostD) : Exit → Act → World → Prop := fun x a w => ∃ ds e hs, RepD ds n a e ∧ Sat w0 own hs w ∧ Q x ds e hs
/-- the code, in a round or outside, with the marks 'ds' among the deferred calls -/
def JF (ro : Option Nat) (P : Program) (n : Nat) (w0 : World) (own : List Nat) (c : Code) (ds : List Deferred) (e : Env) (hs : Hp) (Q : PostD) : Prop :=
  ∀ a w, RepD ds n a e → Sat w0 own hs w → c.wpIn (Rnd ro) 0 P (liftD n w0 own Q) a w
def thenD (K : List Deferred → Env → Hp → Prop) (Q : PostD) : PostD
  | .normal, ds, e, hs => K ds e hs
  | x, ds, e, hs => Q x ds e hs
def blockD (id : Nat) (Q : PostD) : PostD
  | .exit id', ds, e, hs => bif Nat.beq id' id then Q .normal ds e hs else Q (.exit id') ds e hs
  | x, ds, e, hs => Q x ds e hs

section
variable {ro : Option Nat} {P : Program} {n : Nat} {w0 : World} {own : List Nat} {ds : List Deferred} {e : Env} {hs : Hp} {Q : PostD}

theorem JF.mono {c : Code} {Q' : PostD} (h : JF ro P n w0 own c ds e hs Q) (k : ∀ x ds e hs, Q x ds e hs → Q' x ds e hs) : JF ro P n w0 own c ds e hs Q' :=
  fun a w hr hs => wpIn_mono (h a w hr hs) fun x a' w' ⟨ds', e', hs', h1, h2, h3⟩ => ⟨ds', e', hs', h1, h2, k _ _ _ _ h3⟩
theorem JF.sub {c : Code} {e' : Env} (k : Sub e' e) (h : JF ro P n w0 own c ds e' hs Q) : JF ro P n w0 own c ds e hs Q :=
  fun a w hr hs => h a w (hr.sub k) hs
theorem JF.heap {c : Code} {hs' : Hp} (k : ∀ w, Sat w0 own hs w → Sat w0 own hs' w) (h : JF ro P n w0 own c ds e hs' Q) : JF ro P n w0 own c ds e hs Q :=
  fun a w hr hs => h a w hr (k w hs)
theorem JF.keep {c : Code} (pre : Hp) {fr : Hp} [h : TakeI pre hs fr] (k : JF ro P n w0 own c ds e pre Q) : JF ro P n w0 own c ds e hs Q := JF.heap (fun _ s => s.take) k
theorem JF.nd {c : Code} (h : (bl hs).Nodup → JF ro P n w0 own c ds e hs Q) : JF ro P n w0 own c ds e hs Q := fun a w r s => h s.nd a w r s
theorem JF.skip (h : Q .normal ds e hs) : JF ro P n w0 own .skip ds e hs Q := fun a w hr hs => wpIn_skip ⟨ds, e, _, hr, hs, h⟩
theorem JF.exit {id : Nat} (h : Q (.exit id) ds e hs) : JF ro P n w0 own (.exit id) ds e hs Q := fun a w hr hs => wpIn_exit ⟨ds, e, _, hr, hs, h⟩
theorem JF.ret (h : Q .ret ds e hs) : JF ro P n w0 own .ret ds e hs Q := fun a w hr hs => wpIn_ret ⟨ds, e, _, hr, hs, h⟩
theorem JF.seq {x y : Code} (h : JF ro P n w0 own x ds e hs (thenD (fun ds e hs => JF ro P n w0 own y ds e hs Q) Q)) : JF ro P n w0 own (.seq x y) ds e hs Q := by
  intro a w hr hs
  refine wpIn_seq (wpIn_mono (h a w hr hs) ?_)
  rintro x a' w' ⟨ds', e', hs', h1, h2, h3⟩
  cases x with
  | normal => exact h3 a' w' h1 h2
  | _ => exact ⟨ds', e', hs', h1, h2, h3⟩
theorem JF.cond {c : Operand} {x y : Code} {b : Bool} (hc : ev e c = some (.bool b)) (ht : b = true → JF ro P n w0 own x ds e hs Q) (hf : b = false → JF ro P n w0 own y ds e hs Q) :
    JF ro P n w0 own (.cond c x y) ds e hs Q := fun a w hr hs => wpIn_cond_split (hr.eval hc) (fun h => ht h a w hr hs) (fun h => hf h a w hr hs)
theorem JF.cond_dec {c : Operand} {x y : Code} {p : Prop} [Decidable p] (hc : ev e c = some (.bool (decide p))) (ht : p → JF ro P n w0 own x ds e hs Q) (hf : ¬ p → JF ro P n w0 own y ds e hs Q) :
    JF ro P n w0 own (.cond c x y) ds e hs Q := JF.cond hc (fun h => ht (of_decide_eq_true h)) (fun h => hf (of_decide_eq_false h))
theorem JF.block {id : Nat} {c : Code} (h : JF ro P n w0 own c ds e hs (blockD id Q)) : JF ro P n w0 own (.block id c) ds e hs Q := by
  intro a w hr hs
  refine wpIn_block (wpIn_mono (h a w hr hs) ?_)
  rintro x a' w' ⟨ds', e', hs', h1, h2, h3⟩
  cases x with
  | exit id' =>
    simp only [blockD] at h3
    simp only [Exit.inBlock]
    cases hb : Nat.beq id' id with
    | true => rw [hb] at h3; rw [if_pos (Nat.eq_of_beq_eq_true hb)]; exact ⟨ds', e', hs', h1, h2, h3⟩
    | false => rw [hb] at h3; rw [if_neg (Nat.ne_of_beq_eq_false hb)]; exact ⟨ds', e', hs', h1, h2, h3⟩
  | _ => exact ⟨ds', e', hs', h1, h2, h3⟩
theorem JF.loop {X : Type} {c : Code} (I : X → Env) (H : X → Hp) (inv : X → Prop) (μ : X → Nat) (x0 : X) (h0 : inv x0) (hE : Sub (I x0) e) (hH : ∀ w, Sat w0 own hs w → Sat w0 own (H x0) w)
    (round : ∀ x, inv x → JF ro P n w0 own c ds (I x) (H x) (thenD (fun ds' e' hs' => ds' = ds ∧ ∃ x', inv x' ∧ μ x' < μ x ∧ Sub (I x') e' ∧ ∀ w, Sat w0 own hs' w → Sat w0 own (H x') w) Q)) :
    JF ro P n w0 own (.loop c) ds e hs Q := by
  intro a w hr hs
  refine wpIn_loop (fun a w => ∃ m y, inv y ∧ μ y = m ∧ RepD ds n a (I y) ∧ Sat w0 own (H y) w) (fun a w => leastOf (fun m => ∃ y, inv y ∧ μ y = m ∧ RepD ds n a (I y) ∧ Sat w0 own (H y) w)) ⟨_, x0, h0, rfl, hr.sub hE, hH w hs⟩ ?_
  intro a w hI
  obtain ⟨y, hy, hm, hr, hs⟩ := (leastOf_spec hI).1
  rw [← hm]
  refine wpIn_mono (round y hy a w hr hs) ?_
  rintro x a' w' ⟨ds', e', hs', h1, h2, h3⟩
  cases x with
  | normal =>
    obtain ⟨rfl, y', i1, i2, i3, i4⟩ := h3
    have hI' : ∃ m y, inv y ∧ μ y = m ∧ RepD ds' n a' (I y) ∧ Sat w0 own (H y) w' := ⟨_, y', i1, rfl, h1.sub i3, i4 w' h2⟩
    exact ⟨hI', Nat.lt_of_le_of_lt ((leastOf_spec hI').2 _ ⟨y', i1, rfl, h1.sub i3, i4 w' h2⟩) i2⟩
  | _ => exact ⟨ds', e', hs', h1, h2, h3⟩
theorem JF.mid {x y : Code} {X : Type} (env : X → Env) (heap : X → Hp) (I : X → Prop)
    (hx : JF ro P n w0 own x ds e hs (thenD (fun ds' e' hs' => ds' = ds ∧ ∃ z, I z ∧ Sub (env z) e' ∧ ∀ w, Sat w0 own hs' w → Sat w0 own (heap z) w) Q)) (hy : ∀ z, I z → JF ro P n w0 own y ds (env z) (heap z) Q) : JF ro P n w0 own (.seq x y) ds e hs Q := by
  refine .seq (hx.mono ?_)
  intro x ds' e' hs' h
  cases x with
  | normal =>
    obtain ⟨rfl, z, h1, h2, h3⟩ := h
    exact .sub h2 (.heap h3 (hy z h1))
  | _ => exact h

theorem JF.region {id : Nat} {l : List Oper} (h : JL P n w0 own l.toArray l e hs (fun e hs => Q .normal ds e hs)) (hn : ndB l = true := by rfl) : JF ro P n w0 own (.region id l.toArray false) ds e hs Q := by
  intro a w hr s
  refine wpIn_region_lit ?_
  rw [← hr.act]
  refine lift_list (Q' := fun x a' w' => x = .normal ∧ ∃ e' hs', Rep n a' e' ∧ Sat w0 own hs' w' ∧ Q .normal ds e' hs') (fun x a w hx h => hx h.1) ?_ l hn _ w ?_
  · rintro a' w' ⟨_, e', hs', h1, h2, h3⟩
    exact ⟨ds, e', hs', .of h1, h2, h3⟩
  · exact h _ w hr.rep s _ fun e' hs' a' w' h1 h2 h3 => ⟨rfl, e', hs', h1, h2, h3⟩

/-- operations, one of which may be a call of 'yield' -/
def JFL (ro : Option Nat) (P : Program) (n : Nat) (w0 : World) (own : List Nat) (ops : Array Oper) (l : List Oper) (ds : List Deferred) (e : Env) (hs : Hp) (K : Env → Hp → Prop) : Prop :=
  ∀ a w, RepD ds n a e → Sat w0 own hs w → ∀ Qx : Exit → Act → World → Prop, (∀ e' hs' a' w', RepD ds n a' e' → Sat w0 own hs' w' → K e' hs' → Qx .normal a' w') → wpListIn (Rnd ro) 0 P ops Qx l a w
variable {ops : Array Oper} {rest : List Oper} {K : Env → Hp → Prop} {d : Nat} {ty : TypeId} {pos : String} {aft : Array Edge}
theorem JFL.nil (h : K e hs) : JFL ro P n w0 own ops [] ds e hs K := fun a w hr hs Q hq => hq _ _ _ _ hr hs h
theorem JF.regionY {id : Nat} {l : List Oper} (h : JFL ro P n w0 own l.toArray l ds e hs (fun e hs => Q .normal ds e hs)) : JF ro P n w0 own (.region id l.toArray false) ds e hs Q :=
  fun a w hr s => wpIn_region_lit (h a w hr s _ fun e' hs' a' w' r s k => ⟨ds, e', hs', r, s, k⟩)
theorem JFL.v {op : Op} {v : Value} (h : Val P n w0 own e hs op v) (k : JFL ro P n w0 own ops rest ds ((d, v) :: e) hs K) (hdn : Nat.blt d n = true := by rfl) (hnd : ndOp op = true := by rfl) :
    JFL ro P n w0 own ops (⟨some d, op, ty, pos, aft, none⟩ :: rest) ds e hs K := by
  intro a w hr s Q hq
  unfold wpListIn
  rw [if_pos (by rfl)]
  refine ⟨fun f _ => Rnd.fn ro f, ?_⟩
  rw [Rnd.round_, semAt_nd hnd]
  have e1 : a.eval = Act.eval { a with defers := [] } := by funext x; cases x <;> rfl
  rw [e1, h _ w ty pos aft none (some d) hr.rep s, Oper.uponIn_value]
  exact k _ _ (hr.put (Nat.le_of_ble_eq_true hdn) v) s Q hq
/-- WHAT A CALL OF 'yield' DOES. -/
def DoesY (P : Program) (l : Nat) (vals : List Value) (pre : Hp) (w : World) (R : Value → Hp → Prop) : Prop :=
  Holds pre w → (bl pre).Nodup → ∃ fn tmps assign body, (Instr.yield l ⟨vals⟩).run P w = .ok (.round l fn tmps assign body) w ∧
    RoundIn Fence.wide 0 P l fn tmps assign body w (fun x w' => ∃ v hs', x = .returned v ∧ R v hs' ∧ Sat w (bl pre) hs' w')
theorem JFL.yield {l : Nat} {f : Operand} {args : List Operand} {at_ : Array TypeId} {vals : List Value} {pre fr : Hp} {R : Value → Hp → Prop} (hf : ev e f = some (.func (.yield l) #[] #[])) (ha : evs e args = some vals)
    (tk : hs.Perm (pre ++ fr)) (hy : ∀ w, Sat w0 own hs w → DoesY P l vals pre w R) (k : ∀ v hs', R v hs' → JFL ro P n w0 own ops rest ds ((d, v) :: e) (hs' ++ fr) K) (hdn : Nat.blt d n = true := by rfl) :
    JFL ro P n w0 own ops (⟨some d, .call { callee := .value f, args := ⟨args⟩, argTypes := at_ }, ty, pos, aft, none⟩ :: rest) ds e hs K := by
  intro a w hr s Q hq
  unfold wpListIn
  rw [if_pos (by rfl)]
  refine ⟨fun f _ => Rnd.fn ro f, ?_⟩
  rw [Rnd.round_, semAt_nd (by rfl)]
  have e1 : a.eval = Act.eval { a with defers := [] } := by funext x; cases x <;> rfl
  have s' := s.perm tk
  obtain ⟨fn, tmps, assign, body, h1, h2⟩ := hy w s (fun b c hb => s'.has b c (List.mem_append.2 (.inl hb))) (by have := s'.nd; simp only [bl, List.map_append, List.nodup_append] at this; exact this.1)
  have hrun : (execOp a.eval ⟨some d, .call { callee := .value f, args := ⟨args⟩, argTypes := at_ }, ty, pos, aft, none⟩).run P w = .ok (.round l fn tmps assign body) w := by
    have hargs : (⟨args⟩ : Array Operand).map a.eval = ⟨vals⟩ := by
      have := hr.rep.evals ha
      rw [e1]
      simp [this]
    have hfv : a.eval f = .func (.yield l) #[] #[] := hr.eval hf
    simp [execOp, resolve, hfv, Deferred.ofValue, hargs, invoke, h1]
  rw [hrun, Oper.uponIn_round]
  refine ⟨fun h => (by rw [Rnd.depth_] at h; cases h), ?_⟩
  have h2' : RoundIn (Rnd ro) (0 - 1) P l fn tmps assign body w (fun x w' => ∃ v hs', x = .returned v ∧ R v hs' ∧ Sat w (bl pre) hs' w') := by
    cases ro with
    | none => exact h2
    | some l' => exact h2
  refine h2'.mono ?_
  rintro x w' ⟨v, hs', rfl, h3, h4⟩
  exact k v hs' h3 _ _ (hr.put (Nat.le_of_ble_eq_true hdn) v) (s'.call h4) Q hq
end

/-! ### the loop -/
abbrev dfr : Ch := .obj (.deferred (some []))
abbrev mark (D : Nat) : Deferred := { target := .collected D, args := #[] }
def bindE (ps : List Nat) (vs : List Value) (e : Env) : Env := (ps.zip vs).foldl (fun e (p, v) => (p, v) :: e) e
theorem rep_bind {n : Nat} : ∀ (pv : List (Nat × Value)) (t : Array Value) (e : Env), (∀ p ∈ pv, p.1 < n) → Rep n ⟨t, []⟩ e → Rep n ⟨pv.foldl (fun t (p, v) => t.setIfInBounds p v) t, []⟩ (pv.foldl (fun e (p, v) => (p, v) :: e) e)
  | [], t, e, _, h => h
  | (p, v) :: pv, t, e, hp, h => rep_bind pv _ _ (fun q hq => hp q (List.mem_cons_of_mem _ hq)) (h.put (hp (p, v) List.mem_cons_self) v)

/-- AN ITERATOR: a call with 'yield' hands over 'xs' one by one: 'J i' when i have been taken; 'Jx' when a round has said 'no more'. -/
def Its (P : Program) (g : Nat) (cap : List Value) (xs : List (List Value)) (w : World) (pre : Hp) : Prop :=
  ∀ (l : Nat) (J : Nat → Hp → Prop) (Jx : Hp → Prop), J 0 pre →
    (∀ i, (hi : i < xs.length) → ∀ W p, J i p → Sat w (bl pre) p W → DoesY P l xs[i] p W (fun v h => (v = .bool true ∧ J (i + 1) h) ∨ (v = .bool false ∧ Jx h))) →
    Does P g (.func (.yield l) #[] #[] :: cap) pre w (fun _ h => J xs.length h ∨ Jx h)

def bodyD (P : Program) (n : Nat) (W : World) (own : List Nat) (l D : Nat) (rc : Ch) (I : Hp → Prop) (Ix : Code → Hp → Prop) : PostD
  | .normal, _, _, h => ∃ h', (∀ w, Sat W own h w → Sat W own ((l, rc) :: (D, dfr) :: h') w) ∧ I h'
  | .ret, _, _, h => ∃ h', (∀ w, Sat W own h w → Sat W own ((l, rc) :: (D, dfr) :: h') w) ∧ Ix .ret h'
  | .exit id, _, _, h => ∃ h', (∀ w, Sat W own h w → Sat W own ((l, rc) :: (D, dfr) :: h') w) ∧ Ix (.exit id) h'
  | _, _, _, _ => False
def asgD (P : Program) (n : Nat) (W : World) (own : List Nat) (l D : Nat) (rc rc' : Ch) (body : Code) (I : Hp → Prop) (Ix : Code → Hp → Prop) : PostD := fun x ds e h =>
  x = .normal ∧ ds = [] ∧ ∃ h', (∀ w, Sat W own h w → Sat W own ((l, rc) :: (D, dfr) :: h') w) ∧ JF (some l) P n W own body [] e ((l, rc') :: (D, dfr) :: h') (bodyD P n W own l D rc' I Ix)

theorem Sat.putObj {w0 w : World} {own : List Nat} {hs hs' : Hp} {b : Nat} {o : Obj} (s : Sat w0 own hs w) (u : Upd b (.obj o) hs hs') : Sat w0 own hs' (w.putObj b o) := by
  have hlt : b < w.heap.size := s.has.lt u.mem
  exact s.upd u (by simp) (fun i hi => World.putObj_heap_other hi) (World.putObj_heap_same hlt) rfl rfl rfl

theorem JF.rangeFunc {P : Program} {n : Nat} {w0 : World} {own : List Nat} {ds : List Deferred} {e : Env} {hs : Hp} {Q : PostD} {g : Nat} {f : Operand} {cap : List Value} {ps : List Nat} {assign body : Code}
    (xs : List (List Value)) (I : Nat → Hp → Prop) (Ix : Code → Hp → Prop) (hf : ev e f = some (.func (.func g) #[] ⟨cap⟩)) [hg : FnT P g] (h0 : I 0 hs) (hps : (ps.all fun p => Nat.blt p n) = true) (hxl : ∀ x ∈ xs, x.length = ps.length)
    (it : ∀ p q w, Sat w0 own (p :: q :: hs) w → Its P g cap xs w (p :: q :: hs))
    (round : ∀ l D i, (hi : i < xs.length) → ∀ h W rc rc', I i h → Sat w0 own ((l, rc) :: (D, dfr) :: h) W →
      JF (some l) P n W (bl ((l, rc) :: (D, dfr) :: h)) assign [] (bindE ps xs[i] e) ((l, rc) :: (D, dfr) :: h) (asgD P n W (bl ((l, rc) :: (D, dfr) :: h)) l D rc rc' body (I (i + 1)) Ix))
    (done : ∀ D h, I xs.length h → Q .normal (mark D :: ds) e ((D, dfr) :: h))
    (stop : ∀ D c h, Ix c h → JF none P n w0 own c (mark D :: ds) e ((D, dfr) :: h) Q) :
    JF none P n w0 own (.rangeFunc f ⟨ps⟩ assign body) ds e hs Q := by
  intro a w hr s
  refine wpIn_rangeFunc ?_
  intro fn hfn
  obtain ⟨gf, hg1, hg2, hg3⟩ := hg.out
  obtain ⟨rec, hrec⟩ : ∃ rec : LoopState → Option Code → Loop, rec = fun st pe => { state := st, pending := pe, fn, tmps := a.tmps, params := ⟨ps⟩, assign, body, defers := w.heap.size } := ⟨_, rfl⟩
  have s1 : Sat w0 own ((w.heap.size + 1, .obj (.loop (rec .ready none))) :: (w.heap.size, dfr) :: hs) ((w.alloc (.deferred (some []))).alloc (.loop (rec .ready none))) := by
    have h1 := s.new dfr
    have h2 := h1.new (.obj (.loop (rec .ready none)))
    have e1 : (w.alloc dfr.toObj).heap.size = w.heap.size + 1 := World.size_alloc w _
    rw [e1] at h2
    exact h2
  refine ⟨w.heap.size + 1, [mark w.heap.size], (w.alloc (.deferred (some []))).alloc (.loop (rec .ready none)), { target := .fn (.func g) ⟨cap⟩, args := #[.func (.yield (w.heap.size + 1)) #[] #[]] }, (w.alloc (.deferred (some []))).alloc (.loop (rec .ready none)), g, #[.func (.yield (w.heap.size + 1)) #[] #[]] ++ ⟨cap⟩, (w.alloc (.deferred (some []))).alloc (.loop (rec .ready none)), ?_, ?_, fun _ _ => trivial, ?_, (fun h => by cases h), ?_⟩
  · rw [show (Rnd none).round = none from rfl, run_enterLoop_outer]
    rw [hrec]
  · simp only [resolve, hr.eval hf]
    simp [Deferred.ofValue, Act.eval]
  · have h2' : ¬ gf.name = "runtime.NumGoroutine" := by simpa using hg2
    have h3' : ¬ gf.body = none := by intro hh; rw [hh] at hg3; cases hg3
    simp [invoke, callFunc, hg1, h2', h3']
  · refine (calls_rnd none _ ?_)
    have hits := it _ _ _ s1 (w.heap.size + 1)
      (fun i p => ∃ h, p = (w.heap.size + 1, Ch.obj (.loop (rec .ready none))) :: (w.heap.size, dfr) :: h ∧ I i h)
      (fun p => ∃ c h, p = (w.heap.size + 1, Ch.obj (.loop (rec .done (some c)))) :: (w.heap.size, dfr) :: h ∧ Ix c h)
      ⟨hs, rfl, h0⟩ ?_
    · have hc := hits s1.has s1.nd
      have ea : (#[Value.func (.yield (w.heap.size + 1)) #[] #[]] ++ ⟨cap⟩ : Array Value) = ⟨.func (.yield (w.heap.size + 1)) #[] #[] :: cap⟩ := by apply Array.ext'; simp
      rw [ea]
      refine Calls.mono hc ?_
      rintro x w' ⟨v, hs', rfl, h1, h2⟩
      have s2 : Sat w0 own hs' w' := by
        have := Sat.call (pre := _) (fr := []) (by simpa using s1) h2
        simpa using this
      rcases h1 with ⟨h, rfl, hI⟩ | ⟨c, h, rfl, hI⟩
      · have hl := s2.has _ _ (List.mem_cons_self)
        have h9 := run_endLoop (P := P) hl (by rw [hrec]; simp)
        have e9 : (rec .ready none).pending = none := by rw [hrec]
        rw [e9] at h9
        refine ⟨none, _, h9, mark w.heap.size :: ds, e, (w.heap.size, dfr) :: h, ⟨⟨rfl, hr.rep.sz, hr.rep.at_⟩, ?_⟩, ?_, done _ _ hI⟩
        · show [mark w.heap.size] ++ a.defers = _
          rw [hr.nd]; rfl
        · exact (s2.putObj (.head)).sub (List.sublist_cons_self _ _)
      · have hl := s2.has _ _ (List.mem_cons_self)
        have h9 := run_endLoop (P := P) hl (by rw [hrec]; simp)
        have e9 : (rec .done (some c)).pending = some c := by rw [hrec]
        rw [e9] at h9
        refine ⟨some c, _, h9, ?_⟩
        refine stop w.heap.size c h hI _ _ ⟨⟨rfl, hr.rep.sz, hr.rep.at_⟩, ?_⟩ ((s2.putObj (.head)).sub (List.sublist_cons_self _ _))
        show [mark w.heap.size] ++ a.defers = _
        rw [hr.nd]; rfl
    · rintro i hi W p ⟨h, rfl, hI⟩ sW hp hnd
      have sW0 : Sat w0 own ((w.heap.size + 1, Ch.obj (.loop (rec .ready none))) :: (w.heap.size, dfr) :: h) W := by
        have := Sat.call (pre := _) (fr := []) (by simpa using s1) sW
        simpa using this
      have hl := hp _ _ (List.mem_cons_self)
      have hyl := run_yield (P := P) (args := ⟨xs[i]⟩) hl (by rw [hrec]; simpa using hxl _ (List.getElem_mem hi))
      rw [hrec] at hyl
      refine ⟨_, _, _, _, hyl, roundIn_of_wpIn trivial ?_⟩
      have sB : Sat W (bl ((w.heap.size + 1, Ch.obj (.loop (rec .ready none))) :: (w.heap.size, dfr) :: h)) _ W := Sat.begin hp hnd
      have hrnd := round (w.heap.size + 1) w.heap.size i hi h W _ (.obj (.loop (rec .busy none))) hI sW0 ⟨((ps.zip xs[i]).foldl (fun t (p, v) => t.setIfInBounds p v) a.tmps), []⟩ W
        ⟨rep_bind _ _ _ (fun q hq => by
          have := List.all_eq_true.1 hps q.1 (List.of_mem_zip hq).1
          exact Nat.le_of_ble_eq_true this) hr.rep, rfl⟩ sB
      have et : ((⟨ps⟩ : Array Nat).zip ⟨xs[i]⟩).foldl (fun tmps (x : Nat × Value) => tmps.setIfInBounds x.1 x.2) a.tmps = (ps.zip xs[i]).foldl (fun t (x : Nat × Value) => t.setIfInBounds x.1 x.2) a.tmps := by
        simp
      refine wpIn_mono (by simpa [et] using hrnd) ?_
      rintro x a1 w1 ⟨ds1, e1, h1, r1, q1, rfl, rfl, h2, k1, k2⟩
      have q2 := k1 w1 q1
      have hl2 := q2.has _ _ (List.mem_cons_self)
      refine ⟨_, run_beginRound hl2 (by rw [hrec]), ?_⟩
      have q3 := q2.putObj (o := .loop (rec .busy none)) (.head)
      refine wpIn_mono (k2 a1 _ r1 (by rw [hrec] at q3 ⊢; exact q3)) ?_
      have fin : ∀ (jump : Option Code) (W3 : World) (h' : Hp), Sat W (bl ((w.heap.size + 1, Ch.obj (.loop (rec .ready none))) :: (w.heap.size, dfr) :: h)) ((w.heap.size + 1, .obj (.loop (rec .busy none))) :: (w.heap.size, dfr) :: h') W3 →
          (Instr.endRound (w.heap.size + 1) jump).run P W3 = .ok (.bool jump.isNone) (W3.putObj (w.heap.size + 1) (.loop (rec (if jump.isNone then .ready else .done) jump))) ∧
          Sat W (bl ((w.heap.size + 1, Ch.obj (.loop (rec .ready none))) :: (w.heap.size, dfr) :: h)) ((w.heap.size + 1, .obj (.loop (rec (if jump.isNone then .ready else .done) jump))) :: (w.heap.size, dfr) :: h') (W3.putObj (w.heap.size + 1) (.loop (rec (if jump.isNone then .ready else .done) jump))) := by
        intro jump W3 h' q
        have hl3 := q.has _ _ (List.mem_cons_self)
        have := run_endRound (P := P) jump hl3
        refine ⟨by rw [hrec] at this ⊢; exact this, q.putObj (.head)⟩
      rintro x a3 w3 ⟨ds3, e3, h3, r3, q4, hb⟩
      cases x with
      | normal =>
        obtain ⟨h', t1, t2⟩ := hb
        obtain ⟨u1, u2⟩ := fin none w3 h' (t1 w3 q4)
        exact ⟨_, _, u1, _, _, rfl, .inl ⟨rfl, h', rfl, t2⟩, u2⟩
      | ret =>
        obtain ⟨h', t1, t2⟩ := hb
        obtain ⟨u1, u2⟩ := fin (some .ret) w3 h' (t1 w3 q4)
        exact ⟨_, _, u1, _, _, rfl, .inr ⟨rfl, .ret, h', rfl, t2⟩, u2⟩
      | exit id =>
        obtain ⟨h', t1, t2⟩ := hb
        obtain ⟨u1, u2⟩ := fin (some (.exit id)) w3 h' (t1 w3 q4)
        exact ⟨_, _, u1, _, _, rfl, .inr ⟨rfl, .exit id, h', rfl, t2⟩, u2⟩
      | _ => exact hb.elim

/-! ### the function -/
def retD (P : Program) (w0 : World) (own : List Nat) (rs : List ResultVar) (R : Value → Hp → Prop) : PostD := fun x ds e hs =>
  (x = .normal ∨ x = .ret) ∧ ∃ (Ds : List Nat) (hs' : Hp) (vs : List Value), ds = Ds.map mark ∧ (∀ w, Sat w0 own hs w → Sat w0 own ((Ds.map fun D => (D, dfr)) ++ hs') w) ∧ ResV P w0 own e hs' rs vs ∧ R (tup vs) hs'
theorem leaves_marks {P : Program} {w0 : World} {own : List Nat} {fn : Func} {tmps : Array Value} {R : Ending → World → Prop} {hs' : Hp} (h : ∀ w, Sat w0 own hs' w → ∃ v, (results fn tmps).run P w = .ok v w ∧ R (.returned v) w) :
    ∀ (Ds : List Nat) (w : World), Sat w0 own ((Ds.map fun D => (D, dfr)) ++ hs') w → LeavesInM Fence.wide 0 P fn tmps R (Ds.map mark) .returning w
  | [], w, s => by simpa [LeavesInM, LeavesIn] using h w s
  | D :: Ds, w, s => by
    refine ⟨by simp, .inl ⟨D, _, rfl, run_takeDeferred (s.has D dfr (by simp)), ?_⟩⟩
    exact leaves_marks h Ds _ ((s.putObj (b := D) (o := .deferred none) (.head)).sub (List.sublist_cons_self _ _))
theorem Does.ofF {P : Program} {n : Nat} {g : Nat} {fn : Func} {c : Code} {rs : List ResultVar} {vals : List Value} {pre : Hp} {w : World} {R : Value → Hp → Prop} (hf : P.funcs[g]? = some fn) (hb : fn.body = some c) (hrs : fn.results = ⟨rs⟩)
    (hn : fn.ntmps = n) (hv : Nat.ble vals.length n = true) (h : JF none P n w (bl pre) c [] (envFrom 0 vals) pre (retD P w (bl pre) rs R)) : Does P g vals pre w R := by
  intro hp hd
  have hv := Nat.le_of_ble_eq_true hv
  refine callsIn_wide.1 (callsIn_of_wp_marks (F := Fence.wide) (n := 0) hf hb trivial (wpIn_mono (h _ w ?_ (Sat.begin hp hd)) ?_))
  · refine ⟨⟨rfl, by simp [hn]; omega, fun t v ht => ?_⟩, rfl⟩
    obtain ⟨j, h1, h2⟩ := get_envFrom vals 0 t v ht
    have hj := (List.getElem?_eq_some_iff.1 h2).1
    have : t = j := by omega
    subst this
    show (_ ++ _ : Array Value)[t]? = _
    rw [Array.getElem?_append_left (by simpa using hj)]
    simpa using h2
  · rintro x a w' ⟨ds, e', hs', h1, h2, h3, Ds, hs2, vs, rfl, h4, h5, h6⟩
    have hx : LeavesInM Fence.wide 0 P fn a.tmps (fun x w' => ∃ v hs', x = .returned v ∧ R v hs' ∧ Sat w (bl pre) hs' w') a.defers .returning w' := by
      rw [h1.nd]
      refine leaves_marks (hs' := hs2) (fun w2 s2 => ?_) Ds w' (h4 w' h2)
      have := retQ.results (fn := fn) hrs h1.rep s2 h5
      exact ⟨_, this, _, hs2, rfl, h6, s2⟩
    rcases h3 with rfl | rfl <;> exact hx
end V
end Go

/- VA: one element put behind a slice; what is known is let go inside a region. -/
namespace Go
namespace V
open Go.RowKit
set_option linter.unusedVariables false
set_option linter.unusedSimpArgs false
section
variable {P : Program} {n : Nat} {w0 : World} {own : List Nat} {e : Env} {hs : Hp} {ops : Array Oper} {rest l : List Oper} {K : Env → Hp → Prop}
theorem JL.heap {hs' : Hp} (k : ∀ w, Sat w0 own hs w → Sat w0 own hs' w) (h : JL P n w0 own ops l e hs' K) : JL P n w0 own ops l e hs K := fun a w hr s => h a w hr (k w s)
theorem JL.sub {e' : Env} (k : Sub e' e) (h : JL P n w0 own ops l e' hs K) : JL P n w0 own ops l e hs K := fun a w hr s => h a w (hr.sub k) s
theorem JL.take (pre : Hp) {fr : Hp} [t : TakeI pre hs fr] (h : JL P n w0 own ops l e pre K) : JL P n w0 own ops l e hs K := JL.heap (fun _ s => s.take) h
theorem fill_one {m : Nat} {cs oc : List Value} (hc : cs.length = m) (ho : oc.length = m) : fillL ((List.range 1).map fun i => (i * m, m)) cs [(0, oc)] = some oc := by
  simp [fillL, hc, ho, splice_whole cs oc (by omega)]
/-- 's = append(s, x)' -/
theorem JL.push {s x : Operand} {T t u E m by_ c d1 d2 ty1 ty2 : Nat} {p1 p2 : String} {a1 a2 : Array Edge} {z vs oc : List Value} {v xv : Value} {h fr : Hp}
    (hs_ : ev e s = some v) (hx : ev e x = some xv) [hT : SliceT P T E] [ht : SliceT P t E] [hu : SliceT P u E] [hE : El P E m by_ z] (ho : OwnS E m v c vs h) [tk : TakeI h hs fr] (hoc : xv.cells = ⟨oc⟩) (hl : oc.length = m) (h1 : ones oc = true)
    (hb : (c + 1) * by_ ≤ 140737488355328) (h63 : c + 1 ≤ 4611686018427387904)
    (k : ∀ b v' h', OwnS E m v' (c + 1) (vs ++ oc) h' → JL P n w0 own ops rest ((d2, v') :: (d1, .slice (some ⟨b, 0, none⟩) 1 1) :: e) (h' ++ fr) K)
    (hs2 : ∀ b, ev ((d1, .slice (some ⟨b, 0, none⟩) 1 1) :: e) s = some v := by intro b; rfl) (hm : Nat.ble m 16777216 = true := by rfl) (hd1 : Nat.blt d1 n = true := by rfl) (hd2 : Nat.blt d2 n = true := by rfl) :
    JL P n w0 own ops (⟨some d1, .buildSlice T 1 #[(0, x)], ty1, p1, a1, none⟩ :: ⟨some d2, .call { callee := .builtin .append, args := #[s, .tmp d1], argTypes := #[t, u] }, ty2, p2, a2, none⟩ :: rest) e hs K := by
  have hzl : z.length = m := by obtain ⟨i, v, _, _, _, _, _, h⟩ := hE.out; exact h
  refine .ef (Eff.buildSlice (parts := [(0, x)]) (vs := [(0, xv)]) (out := oc) (by simp [evp, hx]) (by rw [Nat.one_mul]; exact Nat.le_of_ble_eq_true hm) rfl ?_) ?_ hd1 rfl
  · rw [show ([(0, xv)] : List (Nat × Value)).map (fun p => (p.1, p.2.cells.toList)) = [(0, oc)] from by simp [hoc]]
    exact fill_one (by simp) hl
  · rintro _ _ ⟨b, rfl, rfl⟩
    refine .ef (Eff.append (c := c) (k := 1) (vs := vs) (news := oc) (h := h) (fr := (b, .cells oc E) :: fr) (hs2 b) (show ev ((d1, .slice (some ⟨b, 0, none⟩) 1 1) :: e) (.tmp d1) = some (.slice (some ⟨b, 0, none⟩) 1 1) by simp [ev, get]) ho ((tk.out.cons _).trans List.perm_middle.symm) (fun w s' => Src.of_at s' .whole (by rw [hl, Nat.one_mul])) (by rw [hl, Nat.one_mul]) h1 hb h63) ?_ hd2 rfl
    rintro v' _ ⟨h', k', rfl⟩
    exact .heap (fun _ s' => s'.sub (List.Sublist.append_left (List.sublist_cons_self _ _) _)) (k b v' h' k')
end
/-! ### rows of records -/
theorem at_sub {w0 : World} {own : List Nat} {hs : Hp} {b o i : Nat} {vs us : List Value} (h : At w0 own hs ⟨b, o, none⟩ vs) (hu : ∀ (j : Nat) (u : Value), us[j]? = some u → vs[i + j]? = some u) : At w0 own hs ⟨b, o + i, none⟩ us := by
  intro w s j u hj
  have := h w s (i + j) u (hu j u hj)
  rw [add_none] at this ⊢
  rw [Nat.add_assoc]; exact this
section
variable {α : Type} (f : α → List Value) (m : Nat) (hm : ∀ a, (f a).length = m) {w0 : World} {own : List Nat} {hs : Hp} {b o i : Nat} {l : List α} {z : Int}
include hm
theorem recAt (h : At w0 own hs ⟨b, o, none⟩ (l.flatMap f)) (hi : i < l.length) (hz : z.toNat = i := by omega) : At w0 own hs ⟨b, o + z.toNat * m, none⟩ (f l[i]) := by
  subst hz
  refine at_sub h fun j u hj => ?_
  rw [flatMap_get f m hm l _ j hi (by have := (List.getElem?_eq_some_iff.1 hj).1; rw [hm] at this; exact this)]; exact hj
theorem fldAt (h : At w0 own hs ⟨b, o, none⟩ (l.flatMap f)) (hi : i < l.length) (k : Nat) {v : Value} (hv : (f l[i])[k]? = some v) (hz : z.toNat = i := by omega) : At w0 own hs ⟨b, o + z.toNat * m + k, none⟩ [v] := by
  subst hz
  rw [Nat.add_assoc]
  refine at_sub h fun j u hj => ?_
  match j, hj with
  | 0, hj =>
    simp at hj; subst hj
    rw [Nat.add_zero, flatMap_get f m hm l _ k hi (by have := (List.getElem?_eq_some_iff.1 hv).1; rw [hm] at this; exact this)]; exact hv
theorem Rd.recs {w : World} {no : List Nat} {A : Option Addr} (h : Rd w no A (l.flatMap f)) (h0 : 0 < l.length) (hm0 : 0 < m) : ∃ b o, A = some ⟨b, o, none⟩ ∧ ∀ hs, At w no hs ⟨b, o, none⟩ (l.flatMap f) := by
  obtain ⟨b, o, rfl, -⟩ := h.base (by rw [flatMap_length f m hm]; exact Nat.mul_pos h0 hm0)
  exact ⟨b, o, rfl, fun hs => h.whole⟩
theorem rows_take (k : Nat) : (l.take k).flatMap f = (l.flatMap f).take (k * m) := by
  induction l generalizing k with
  | nil => simp
  | cons v l ih =>
    cases k with
    | zero => simp
    | succ k =>
      have e1 : (f v).take ((k + 1) * m) = f v := List.take_of_length_le (by rw [hm, Nat.succ_mul]; omega)
      have e2 : (k + 1) * m - (f v).length = k * m := by rw [hm, Nat.succ_mul]; omega
      rw [List.take_succ_cons, List.flatMap_cons, List.flatMap_cons, ih, List.take_append, e1, e2]
theorem rows_drop (k : Nat) : (l.drop k).flatMap f = (l.flatMap f).drop (k * m) := by
  induction l generalizing k with
  | nil => simp
  | cons v l ih =>
    cases k with
    | zero => simp
    | succ k =>
      have e1 : (f v).drop ((k + 1) * m) = [] := List.drop_of_length_le (by rw [hm, Nat.succ_mul]; omega)
      have e2 : (k + 1) * m - (f v).length = k * m := by rw [hm, Nat.succ_mul]; omega
      rw [List.drop_succ_cons, List.flatMap_cons, ih, List.drop_append, e1, e2, List.nil_append]
end
theorem rows_ones {α : Type} (f : α → List Value) (h : ∀ a, ones (f a) = true) (l : List α) : ones (l.flatMap f) = true := by
  simp only [ones, List.all_flatMap, List.all_eq_true]
  intro a _ x hx
  exact ones_mem (h a) x hx
/-- a slice that was cut -/
theorem Rd.cut {w : World} {no : List Nat} {A : Option Addr} {vs : List Value} {cap k m : Nat} (h : Rd w no A vs) (hc : vs.length ≤ cap * m) : Rd w no (cutA A cap k m) (vs.drop (k * m)) := by
  intro j v hv
  rw [List.getElem?_drop] at hv
  obtain ⟨b, o, rfl, hb, hv'⟩ := h _ v hv
  have hlt := (List.getElem?_eq_some_iff.1 hv).1
  have hne : cap ≠ k := by intro e; subst e; omega
  unfold cutA
  rw [if_neg hne]
  refine ⟨b, o + k * m, by simp [add_none], hb, ?_⟩
  rw [Nat.add_assoc]; exact hv'
/-- what an own slice holds, loaded -/
theorem OwnS.at0 {w0 : World} {own : List Nat} {E m n n' c b o : Nat} {vs : List Value} {h hs : Hp} (k : OwnS E m (.slice (some ⟨b, o, none⟩) n' c) n vs h) (hh : h ⊆ hs) : At w0 own hs ⟨b, o, none⟩ vs := by
  have := k.atN (i := 0) (w0 := w0) (own := own) hh (us := vs) (fun j v hv => by rw [Nat.zero_add]; exact hv)
  exact this
/-- .. cells of it -/
theorem OwnS.spliceAt {E m n n' c b o i : Nat} {vs l us : List Value} (k : OwnS E m (.slice (some ⟨b, o, none⟩) n' c) n vs [(b, .cells l E)]) (hi : i + us.length ≤ n * m) : OwnS E m (.slice (some ⟨b, o, none⟩) n' c) n (splice vs i us) [(b, .cells (splice l (o + i) us) E)] := by
  obtain ⟨hl, k⟩ := k
  refine ⟨by rw [splice_length _ _ _ (by omega)]; exact hl, ?_⟩
  rcases k with ⟨h1, h2, h3⟩ | ⟨b', o', cap, l', h1, h2, h3, h4, h5⟩
  · cases h3
  · cases h1; cases h2
    have hn := Nat.mul_le_mul_right m h3
    refine .inr ⟨b, o, c, splice l (o + i) us, rfl, rfl, h3, by rw [splice_length _ _ _ (by omega)]; exact h4, ?_⟩
    apply List.ext_getElem?
    intro j
    rw [List.getElem?_take, List.getElem?_drop, splice_get _ _ _ _ (by omega), splice_get _ _ _ _ (by omega), ← h5, List.getElem?_take, List.getElem?_drop]
    by_cases hj : j < n * m
    · rw [if_pos hj, if_pos hj]
      by_cases e1 : j < i
      · rw [if_pos (by omega), if_pos e1]
      · rw [if_neg (by omega), if_neg e1]
        by_cases e2 : j < i + us.length
        · rw [if_pos (by omega), if_pos e2]; congr 1; omega
        · rw [if_neg (by omega), if_neg e2]
    · rw [if_neg hj, if_neg hj, if_neg (by omega), if_neg (by omega)]
/-- one cell of an own slice is turned -/
theorem OwnS.setAt {E m n n' c b o i : Nat} {vs l : List Value} {v : Value} (k : OwnS E m (.slice (some ⟨b, o, none⟩) n' c) n vs [(b, .cells l E)]) (hi : i < n * m) : OwnS E m (.slice (some ⟨b, o, none⟩) n' c) n (vs.set i v) [(b, .cells (l.set (o + i) v) E)] := by
  have h := k.spliceAt (i := i) (us := [v]) (by simp; omega)
  obtain ⟨hl, k⟩ := k
  rcases k with ⟨h1, h2, h3⟩ | ⟨b', o', cap, l', h1, h2, h3, h4, h5⟩
  · cases h3
  · cases h1; cases h2
    have hn := Nat.mul_le_mul_right m h3
    rw [splice_one vs i v (by omega), splice_one l (o + i) v (by omega)] at h
    exact h
theorem OwnS.src {P : Program} {w0 w : World} {own : List Nat} {hs : Hp} {E m n : Nat} {v : Value} {vs : List Value} {h : Hp} (k : OwnS E m v n vs h) (s : Sat w0 own hs w) (hh : h ⊆ hs) (hm : 0 < m) : Src P w m v n vs := by
  obtain ⟨A, c, rfl⟩ := k.slice
  exact (OwnS.rd k s (no := []) hh (by simp)).src k.1 hm
section
variable {P : Program} {n : Nat} {w0 : World} {own : List Nat} {e : Env} {hs : Hp} {ops : Array Oper} {rest l : List Oper} {K : Env → Hp → Prop}
/-- 's = append(s, t...)' -/
theorem JL.appT {s x : Operand} {t u E m by_ c d ty k : Nat} {p : String} {af : Array Edge} {z vs news : List Value} {v xv : Value} {h fr : Hp}
    (hs_ : ev e s = some v) (hx : ev e x = some xv) [ht : SliceT P t E] [hu : SliceT P u E] [hE : El P E m by_ z] (ho : OwnS E m v c vs h) [tk : TakeI h hs fr] (hsrc : ∀ w, Sat w0 own hs w → Src P w m xv k news) (hl : news.length = k * m) (h1 : ones news = true)
    (hb : (c + k) * by_ ≤ 140737488355328) (h63 : c + k ≤ 4611686018427387904) (kk : ∀ v' h', OwnS E m v' (c + k) (vs ++ news) h' → JL P n w0 own ops rest ((d, v') :: e) (h' ++ fr) K) (hd : Nat.blt d n = true := by rfl) :
    JL P n w0 own ops (⟨some d, .call { callee := .builtin .append, args := #[s, x], argTypes := #[t, u] }, ty, p, af, none⟩ :: rest) e hs K :=
  .ef (Eff.append (c := c) (k := k) (vs := vs) (news := news) (h := h) (fr := fr) hs_ hx ho tk.out hsrc hl h1 hb h63) (fun v' _ ⟨h', k', e⟩ => by subst e; exact kk v' h' k') hd rfl
end
/-! ### regions in which two effects may come up in either order -/
section
variable {P : Program} {n : Nat} {w0 : World} {own : List Nat} {e : Env} {hs F : Hp} {K : Env → Hp → Prop} {m : Nat} {listed : Array Bool}
variable {d : Nat} {ty : TypeId} {pos : String} {aft : Array Edge} {g : Option (Nat × Bool)}
/-- the first operations, in an order of ours; then by hand -/
theorem JC.drawX {id : Nat} {Q : Post} {l : List Oper} (is : List Nat) (F : Hp) (hF : F ⊆ hs) (hm : P.follows .mixedOrders = true)
    (hB : (ordB l.toArray (pickL l is) is (Array.replicate l.length false) && Nat.beq (pickL l is).length is.length && Nat.ble is.length l.length) = true)
    (h : JK P n w0 own l.toArray F (pickL l is) e hs (fun e' hs' => JD P n w0 own l.toArray F (l.length - is.length) (marks_ is (Array.replicate l.length false)) e' hs' (fun e hs => Q .normal e hs))) : JC P n w0 own (.region id l.toArray true) e hs Q := by
  rw [Bool.and_eq_true, Bool.and_eq_true] at hB
  obtain ⟨⟨h1, h2⟩, h3⟩ := hB
  have h2 := Nat.eq_of_beq_eq_true h2
  have h3 := Nat.le_of_ble_eq_true h3
  refine JC.draw F hF hm ?_
  have := h (l.length - is.length) is (Array.replicate l.length false) (fun e hs => Q .normal e hs) (pickL_nums is h1 h2) h1 hF (fun e' hs' _ ke => ke)
  rw [h2, show is.length + (l.length - is.length) = l.length by omega] at this
  simpa using this
theorem pickL_nums' {l : List Oper} : ∀ (is : List Nat), (pickL l is).length = is.length → Nums l.toArray (pickL l is) is
  | [], _ => trivial
  | i :: is, hl => by
    unfold pickL at hl ⊢
    cases ho : l[i]? with
    | none => rw [ho] at hl; simp at hl
    | some o =>
      rw [ho] at hl
      simp only at hl ⊢
      exact ⟨by simpa using ho, pickL_nums' is (by simpa using hl)⟩
/-- the others, in an order of ours -/
theorem JD.run {l : List Oper} (is : List Nat) (hF : F ⊆ hs) (hB : (ordB l.toArray (pickL l is) is listed && doneB l.toArray (marks_ is listed) && Nat.beq (pickL l is).length is.length && Nat.beq is.length m) = true)
    (h : JK P n w0 own l.toArray F (pickL l is) e hs K) : JD P n w0 own l.toArray F m listed e hs K := by
  rw [Bool.and_eq_true, Bool.and_eq_true, Bool.and_eq_true] at hB
  obtain ⟨⟨⟨h1, h2⟩, h3⟩, h4⟩ := hB
  have h3 := Nat.eq_of_beq_eq_true h3
  have h4 := Nat.eq_of_beq_eq_true h4
  have := h 0 is listed K (pickL_nums' is h3) h1 hF (fun e' hs' _ ke => JD.done h2 ke)
  rw [h3, h4] at this
  simpa using this
theorem JD.heap {ops : Array Oper} {hs' : Hp} (k : ∀ w, Sat w0 own hs w → Sat w0 own hs' w) (hF : F ⊆ hs') (h : JD P n w0 own ops F m listed e hs' K) : JD P n w0 own ops F m listed e hs K := fun a w hr s _ => h a w hr (k w s) hF
theorem JS.ef {ops : Array Oper} {i : Nat} {op : Op} {R : Value → Hp → Prop} (hi : ops[i]? = some ⟨some d, op, ty, pos, aft, g⟩) (h : Eff P n w0 own e hs op R) (hF : ∀ v hs', R v hs' → F ⊆ hs → F ⊆ hs')
    (k : ∀ v hs', R v hs' → JD P n w0 own ops F m (listed.setIfInBounds i true) ((d, v) :: e) hs' K) (hdn : Nat.blt d n = true := by rfl) (hg : wantB ops e g = some true := by rfl) : JS P n w0 own ops F m listed e hs K i := by
  intro a w hr s hf
  unfold wpOp
  simp only [hi]
  rw [if_pos (wanted_of hr hg)]
  exact .inl (h a w _ _ _ _ _ _ _ hr s fun v' h' w' r s' => ⟨⟨_, s', hF _ _ r hf⟩, k _ _ r _ _ (hr.put (Nat.le_of_ble_eq_true hdn) _) s' (hF _ _ r hf)⟩)
theorem JS.nw {ops : Array Oper} {i : Nat} {op : Op} {c : Ch} (hi : ops[i]? = some ⟨some d, op, ty, pos, aft, g⟩) (h : Eff P n w0 own e hs op (NewP hs c))
    (k : ∀ b, JD P n w0 own ops F m (listed.setIfInBounds i true) ((d, .pointer (some ⟨b, 0, none⟩)) :: e) ((b, c) :: hs) K) (hdn : Nat.blt d n = true := by rfl) (hg : wantB ops e g = some true := by rfl) : JS P n w0 own ops F m listed e hs K i :=
  .ef hi h (fun v h' ⟨b, _, e2⟩ f => by subst e2; exact fun p hp => List.mem_cons_of_mem _ (f hp)) (fun v h' ⟨b, e1, e2⟩ => by subst e1; subst e2; exact k b) hdn hg
theorem JS.cl {ops : Array Oper} {i f : Nat} {fo : Operand} {args : List Operand} {at_ : Array TypeId} {cap vals : List Value} {R : Value → Hp → Prop}
    (hi : ops[i]? = some ⟨some d, .call { callee := .value fo, args := ⟨args⟩, argTypes := at_ }, ty, pos, aft, g⟩) (hf : ev e fo = some (.func (.func f) #[] ⟨cap⟩)) (ha : evs e args = some vals) (hc : ∀ w, Sat w0 own hs w → Does P f (vals ++ cap) [] w R)
    (k : ∀ v h, R v h → JD P n w0 own ops F m (listed.setIfInBounds i true) ((d, v) :: e) (h ++ hs) K) [hg' : FnT P f] (hdn : Nat.blt d n = true := by rfl) (hg : wantB ops e g = some true := by rfl) : JS P n w0 own ops F m listed e hs K i :=
  .ef hi (.call0 hf ha hc) (fun _ _ ⟨_, _, h3⟩ f => by subst h3; exact fun p hp => List.mem_append_right _ (f hp)) (fun v _ ⟨h, h1, h3⟩ => by subst h3; exact k v h h1) hdn hg
theorem JK.nw {ops : Array Oper} {rest : List Oper} {op : Op} {c : Ch} (h : Eff P n w0 own e hs op (NewP hs c)) (kk : ∀ b, JK P n w0 own ops F rest ((d, .pointer (some ⟨b, 0, none⟩)) :: e) ((b, c) :: hs) K)
    (he : isEff ⟨some d, op, ty, pos, aft, g⟩ = true := by rfl) (hdn : Nat.blt d n = true := by rfl) (hg : wantB ops e g = some true := by rfl) : JK P n w0 own ops F (⟨some d, op, ty, pos, aft, g⟩ :: rest) e hs K :=
  .ef h (fun v h' ⟨b, _, e2⟩ f => by subst e2; exact fun p hp => List.mem_cons_of_mem _ (f hp)) (fun v h' ⟨b, e1, e2⟩ => by subst e1; subst e2; exact kk b) he hdn hg
end
/-- a slice of its own, whatever it holds -/
def AnyS (E m : Nat) (v : Value) (n : Nat) (h : Hp) : Prop := ∃ vs, OwnS E m v n vs h
theorem AnyS.sl {E m n : Nat} {v : Value} {h : Hp} (k : AnyS E m v n h) : ∃ A c, v = .slice A n c := by
  obtain ⟨vs, k⟩ := k
  exact k.slice
theorem AnyS.put {E m n c i : Nat} {A : Option Addr} {h : Hp} (k : AnyS E m (.slice A n c) n h) (hi : i < n) : ∃ b o l, A = some ⟨b, o, none⟩ ∧ h = [(b, .cells l E)] ∧ o + n * m ≤ l.length ∧ ∀ us : List Value, us.length = m → AnyS E m (.slice A n c) n [(b, .cells (splice l (o + i * m) us) E)] := by
  obtain ⟨vs, k⟩ := k
  obtain ⟨b, o, l, rfl, -, rfl, hc, hl, hv⟩ := k.some_ (by omega)
  have := Nat.mul_le_mul_right m hc
  have hm : i * m + m ≤ n * m := by rw [← Nat.succ_mul]; exact Nat.mul_le_mul_right m hi
  exact ⟨b, o, l, rfl, rfl, by omega, fun us hu => ⟨_, OwnS.spliceAt (i := i * m) k (by rw [hu]; exact hm)⟩⟩
theorem Sat.apart {w0 w : World} {own : List Nat} {hs a b fr : Hp} (s : Sat w0 own hs w) [h : TakeI (a ++ b) hs fr] : ∀ x ∈ bl a, x ∉ bl b := (s.take (pre := a ++ b)).disj
theorem Rd.blk {w0 w : World} {own : List Nat} {hs : Hp} {b T : Nat} {l : List Value} (s : Sat w0 own hs w) [hb : Mem b (.cells l T) hs] : Rd w [] (some ⟨b, 0, none⟩) l :=
  Rd.chunk s (T := T) (l := l) (by simp) (fun j v hv => by rw [Nat.zero_add]; exact hv)
section
variable {P : Program} {n : Nat} {w0 : World} {own : List Nat} {e : Env} {hs F : Hp} {K : Env → Hp → Prop} {m : Nat} {listed : Array Bool}
variable {d : Nat} {ty : TypeId} {pos : String} {aft : Array Edge} {g : Option (Nat × Bool)}
/-- a call that is lent blocks, where two effects may come up -/
theorem JS.clT {ops : Array Oper} {i f : Nat} {fo : Operand} {args : List Operand} {at_ : Array TypeId} {cap vals : List Value} {R : Value → Hp → Prop} (pre : Hp) {fr : Hp}
    (hi : ops[i]? = some ⟨some d, .call { callee := .value fo, args := ⟨args⟩, argTypes := at_ }, ty, pos, aft, g⟩) (hf : ev e fo = some (.func (.func f) #[] ⟨cap⟩)) (ha : evs e args = some vals) [tk : TakeI pre hs fr] (hc : ∀ w, Sat w0 own hs w → Does P f (vals ++ cap) pre w R)
    (hF : ∀ h, F ⊆ h ++ fr) (k : ∀ v h, R v h → JD P n w0 own ops F m (listed.setIfInBounds i true) ((d, v) :: e) (h ++ fr) K) [hg' : FnT P f] (hdn : Nat.blt d n = true := by rfl) (hg : wantB ops e g = some true := by rfl) : JS P n w0 own ops F m listed e hs K i :=
  .ef hi (.callT pre hf ha hc) (fun _ _ ⟨h, _, h3⟩ f => by subst h3; exact hF h) (fun v _ ⟨h, h1, h3⟩ => by subst h3; exact k v h h1) hdn hg
theorem JK.clT {ops : Array Oper} {rest : List Oper} {f : Nat} {fo : Operand} {args : List Operand} {at_ : Array TypeId} {cap vals : List Value} {R : Value → Hp → Prop} (pre : Hp) {fr : Hp}
    (hf : ev e fo = some (.func (.func f) #[] ⟨cap⟩)) (ha : evs e args = some vals) [tk : TakeI pre hs fr] (hc : ∀ w, Sat w0 own hs w → Does P f (vals ++ cap) pre w R) (hF : ∀ h, F ⊆ h ++ fr) (kk : ∀ v h, R v h → JK P n w0 own ops F rest ((d, v) :: e) (h ++ fr) K) [hg : FnT P f]
    (hdn : Nat.blt d n = true := by rfl) (hw : wantB ops e g = some true := by rfl) :
    JK P n w0 own ops F (⟨some d, .call { callee := .value fo, args := ⟨args⟩, argTypes := at_ }, ty, pos, aft, g⟩ :: rest) e hs K :=
  JK.ef (.callT pre hf ha hc) (fun _ _ ⟨h, _, h3⟩ f => by subst h3; exact hF h) (fun v _ ⟨h, h1, h3⟩ => by subst h3; exact kk v h h1) rfl hdn hw
end
end V
end Go

/- VC: maps whose keys are numbers, further: look-up with 'ok', delete, len, a range over them; max. -/
namespace Go
namespace V
open Go.RowKit
set_option linter.unusedVariables false
set_option linter.unusedSimpArgs false

abbrev ME.born (x : ME) : Nat := x.2.2
/-- the map behind a deletion -/
def mdel (k : Int) (es : List ME) : List ME := match mfind k es 0 with
  | some (i, _) => es.eraseIdx i
  | none => es
abbrev iter_ (m since : Nat) (seen : List Nat) (last : Nat) : Ch := .obj (.mapIter (some m) since ⟨seen⟩ last)
section
variable {P : Program} {n : Nat} {w0 : World} {own : List Nat} {e : Env} {hs : Hp}
theorem Val.lookup2 {T kT eT b c : Nat} {q : IntKind} {k : Int} {x y : Operand} {es : List ME} {z : Value} (hx : ev e x = some (.map (some b))) (hy : ev e y = some (.int q k)) [hT : MapT P T kT eT] [hk : IntT P kT q] [hz : ZrV P eT z]
    [hb : Mem b (.obj (mapOf q es c)) hs] : Val P n w0 own e hs (.lookup T x y true) (.tuple ⟨[(mget k es).getD z, .bool (mget k es).isSome]⟩) := fun a w ty pos aft g d hr s => by
  obtain ⟨i, hi, hzz⟩ := hz.out
  have h1 := s.mrow hb.out
  have h1' : w.heap[b]? = some (.map ⟨es.map (mentry q)⟩ c) := h1
  have key : (Instr.lookup T (.map (some b)) (.int q k) true).run P w = .ok (.tuple ⟨[(mget k es).getD z, .bool (mget k es).isSome]⟩) w := by
    unfold Instr.lookup
    simp [run_underlying hT.out, MapKept.run_getObj_map h1', run_checkKey_int hk.out, run_findKey_int hk.out]
    unfold mget
    cases mfind k es 0 with
    | none => simp [zeroValue, typeInfo, hi, hzz]
    | some p => simp
  simp [execOp, hr.eval hx, hr.eval hy, key]
theorem Val.lookup2E {T kT eT b c : Nat} {q : IntKind} {k : Int} {x y : Operand} {es : List ME} {z v : Value} {ok : Bool} (hx : ev e x = some (.map (some b))) (hy : ev e y = some (.int q k)) [hT : MapT P T kT eT] [hk : IntT P kT q] [hz : ZrV P eT z]
    [hb : Mem b (.obj (mapOf q es c)) hs] (hv : (mget k es).getD z = v) (ho : (mget k es).isSome = ok) : Val P n w0 own e hs (.lookup T x y true) (.tuple ⟨[v, .bool ok]⟩) := hv ▸ ho ▸ Val.lookup2 hx hy
theorem Eff.del {T kT eT uT b c : Nat} {q : IntKind} {k : Int} {x y : Operand} {es : List ME} {hs' : Hp} (hx : ev e x = some (.map (some b))) (hy : ev e y = some (.int q k)) [hT : MapT P T kT eT] [hk : IntT P kT q]
    [hb : Mem b (.obj (mapOf q es c)) hs] [u : UpdI b (.obj (mapOf q (mdel k es) c)) hs hs'] : Eff P n w0 own e hs (.call { callee := .builtin .delete, args := #[x, y], argTypes := #[T, uT] }) (fun v h => v = .tuple ⟨[]⟩ ∧ h = hs') :=
  Eff.of_run fun a w ty pos aft g d hr s => by
    have h1 := s.mrow hb.out
    have h1' : w.heap[b]? = some (.map ⟨es.map (mentry q)⟩ c) := h1
    have hlt : b < w.heap.size := (Array.getElem?_eq_some_iff.1 h1').1
    have key : (Builtin.delete_ #[T, uT] ty #[.map (some b), .int q k]).run P w = .ok (.tuple #[]) { w with heap := w.heap.setIfInBounds b (mapOf q (mdel k es) c) } := by
      unfold Builtin.delete_
      cases hf : mfind k es 0 with
      | none =>
        simp [run_underlying hT.out, MapKept.run_getObj_map h1', run_checkKey_int hk.out, run_findKey_int hk.out, hf, MapKept.run_setObj_map _ h1', mdel, mapOf]
      | some p =>
        obtain ⟨i, v0⟩ := p
        obtain ⟨_, y0, g1, g2, _⟩ := mfind_key k es 0 i v0 hf
        have hi : i < es.length := by have := (List.getElem?_eq_some_iff.1 g1).1; omega
        simp [run_underlying hT.out, MapKept.run_getObj_map h1', run_checkKey_int hk.out, run_findKey_int hk.out, hf, MapKept.run_setObj_map _ h1', mdel, mapOf, Array.eraseIdxIfInBounds, hi]
        congr 2
        apply Array.ext'
        apply List.ext_getElem?
        intro m
        simp only [List.getElem?_eraseIdx, List.getElem?_map]
        split <;> rfl
    refine ⟨.tuple ⟨[]⟩, hs', { w with heap := w.heap.setIfInBounds b (mapOf q (mdel k es) c) }, ?_, ⟨rfl, rfl⟩, ?_⟩
    · simp [execOp, hr.eval hx, hr.eval hy, resolve, invoke, builtin, key]
    · refine s.upd u.out ?_ ?_ ?_ rfl rfl rfl
      · simp
      · intro i hi
        simp [Array.getElem?_setIfInBounds, Ne.symm hi]
      · simp [Array.getElem?_setIfInBounds, hlt, Ch.toObj]
theorem Val.lenM {T kT eT b c : Nat} {q : IntKind} {x : Operand} {es : List ME} (hx : ev e x = some (.map (some b))) [hT : MapT P T kT eT] [hb : Mem b (.obj (mapOf q es c)) hs] :
    Val P n w0 own e hs (.call { callee := .builtin .len, args := #[x], argTypes := #[T] }) (.int .i64 es.length) := fun a w ty pos aft g d hr s => by
  have h1 := s.mrow hb.out
  have h1' : w.heap[b]? = some (.map ⟨es.map (mentry q)⟩ c) := h1
  have hu := hT.out
  simp [execOp, hr.eval hx, resolve, invoke, builtin, Builtin.len_, run_underlying hu, goInt, MapKept.run_getObj_map h1']
theorem Val.max2 {x y : Operand} {q : IntKind} {i j : Int} {ts : Array TypeId} (hx : ev e x = some (.int q i)) (hy : ev e y = some (.int q j)) :
    Val P n w0 own e hs (.call { callee := .builtin .max, args := #[x, y], argTypes := ts }) (.int q (max i j)) := fun a w ty pos aft g d hr s => by
  simp [execOp, hr.eval hx, hr.eval hy, resolve, invoke, builtin, Builtin.max_, Builtin.max2]
  by_cases h : i < j
  · simp [h]; omega
  · simp [h]; omega
theorem Eff.range {T kT eT b c : Nat} {q : IntKind} {x : Operand} {es : List ME} (hx : ev e x = some (.map (some b))) [hT : MapT P T kT eT] [hb : Mem b (.obj (mapOf q es c)) hs] :
    Eff P n w0 own e hs (.range T x) (NewP hs (iter_ b c [] c)) :=
  Eff.of_run fun a w ty pos aft g d hr s => by
    have h1 := s.mrow hb.out
    have h1' : w.heap[b]? = some (.map ⟨es.map (mentry q)⟩ c) := h1
    refine ⟨.pointer (some ⟨w.heap.size, 0, none⟩), _, w.alloc (.mapIter (some b) c #[] c), ?_, ⟨w.heap.size, rfl, rfl⟩, s.new (iter_ b c [] c)⟩
    have key : (Instr.range T (.map (some b))).run P w = .ok (.pointer (some ⟨w.heap.size, 0, none⟩)) (w.alloc (.mapIter (some b) c #[] c)) := by
      unfold Instr.range
      simp [run_underlying hT.out, MapKept.run_getObj_map h1', run_newObj_alloc]
    simp [execOp, hr.eval hx, key]
theorem left_nil {q : IntKind} {es : List ME} {seen : List Nat} : (leftOf ⟨es.map (mentry q)⟩ ⟨seen⟩).size = 0 ↔ ∀ x ∈ es, x.born ∈ seen := by
  unfold leftOf
  rw [Array.size_eq_zero_iff, Array.filter_eq_empty_iff]
  constructor
  · intro h x hx
    have := h (mentry q x) (by simp; exact ⟨_, _, _, hx, rfl⟩)
    simpa [mentry] using this
  · intro h y hy
    simp at hy
    obtain ⟨a, b, c, hx, rfl⟩ := hy
    simpa [mentry] using h _ hx
theorem Eff.next {r b since last c : Nat} {q : IntKind} {x : Operand} {es : List ME} {seen : List Nat} {fr : Hp} (hx : ev e x = some (.pointer (some ⟨r, 0, none⟩))) [hr_ : Rem (r, iter_ b since seen last) hs fr] [hb : Mem b (.obj (mapOf q es c)) hs]
    (hold : ∀ y ∈ es, y.born < since) (hl : since ≤ last) :
    Eff P n w0 own e hs (.next x false) (fun v h => (v = .tuple ⟨[.bool false]⟩ ∧ (∀ y ∈ es, y.born ∈ seen) ∧ h = hs) ∨
      ∃ y ∈ es, y.born ∉ seen ∧ v = .tuple ⟨[.bool true, .int q y.1, y.2.1]⟩ ∧ h = (r, iter_ b since (seen ++ [y.born]) c) :: fr) :=
  Eff.of_run fun a w ty pos aft g d hr s => by
    have h1 := s.mrow hb.out
    have h1' : w.heap[b]? = some (.map ⟨es.map (mentry q)⟩ c) := h1
    have hrr : w.heap[r]? = some (.mapIter (some b) since ⟨seen⟩ last) := s.has r _ (hr_.out.mem_iff.2 List.mem_cons_self)
    have hlt : r < w.heap.size := (Array.getElem?_eq_some_iff.1 hrr).1
    rcases run_next_at (P := P) w ty r b since last ⟨seen⟩ ⟨es.map (mentry q)⟩ c hrr h1' (by
      intro y hy
      simp at hy
      obtain ⟨a, b, c, hm, rfl⟩ := hy
      exact hold _ hm) hl with ⟨h0, hrun⟩ | ⟨y, hy, w1, hw1, hrun⟩
    · exact ⟨_, hs, w, by simp [execOp, hr.eval hx, hrun], .inl ⟨rfl, left_nil.1 h0, rfl⟩, s⟩
    · unfold leftOf at hy
      simp at hy
      obtain ⟨⟨a1, a2, a3, hm, rfl⟩, hns⟩ := hy
      have hpu : (⟨seen⟩ : Array Nat).push (mentry q (a1, a2, a3)).born = ⟨seen ++ [a3]⟩ := by apply Array.ext'; simp [mentry]
      rw [hpu] at hrun
      have s1 : Sat w0 own hs w1 := by rcases hw1 with rfl | rfl; exact s; exact s.drew
      have s2 := (s1.perm hr_.out).upd (w' := ChangeMaps.setBlock w1 r (.mapIter (some b) since ⟨seen ++ [a3]⟩ c)) (c := iter_ b since (seen ++ [a3]) c) (.head) (by simp [ChangeMaps.setBlock]) (fun i hi => by simp [ChangeMaps.setBlock, Array.getElem?_setIfInBounds, Ne.symm hi]) (by
        have hlt1 : r < w1.heap.size := by rcases hw1 with rfl | rfl <;> exact hlt
        simp [ChangeMaps.setBlock, Array.getElem?_setIfInBounds, hlt1, Ch.toObj]) rfl rfl rfl
      exact ⟨_, _, _, by simp [execOp, hr.eval hx, hrun, mentry], .inr ⟨(a1, a2, a3), hm, by simpa [mentry] using hns, rfl, rfl⟩, s2⟩
theorem Val.entry {r b since c : Nat} {q : IntKind} {x : Operand} {es : List ME} {seen : List Nat} {y : ME} (hx : ev e x = some (.pointer (some ⟨r, 0, none⟩))) [hr_ : Mem r (iter_ b since (seen ++ [y.born]) c) hs] [hb : Mem b (.obj (mapOf q es c)) hs]
    (hy : y ∈ es) (hn : (es.map ME.born).Nodup) : Val P n w0 own e hs (.entry x) (.tuple ⟨[.int q y.1, y.2.1]⟩) := fun a w ty pos aft g d hr s => by
  have h1 := s.mrow hb.out
  have h1' : w.heap[b]? = some (.map ⟨es.map (mentry q)⟩ c) := h1
  have hrr : w.heap[r]? = some (.mapIter (some b) since ⟨seen ++ [y.born]⟩ c) := s.has r _ hr_.out
  have hpu : (⟨seen ++ [y.born]⟩ : Array Nat) = (⟨seen⟩ : Array Nat).push (mentry q y).born := by apply Array.ext'; simp [mentry]
  rw [hpu] at hrr
  have := run_entry_at (P := P) w r b since ⟨seen⟩ ⟨es.map (mentry q)⟩ c (mentry q y) hrr h1' (by simp; exact ⟨_, _, _, hy, rfl⟩) (by
    simpa [List.map_map, Function.comp_def, mentry] using hn)
  simp [execOp, hr.eval hx, this, mentry]
end
section
variable {P : Program} {n : Nat} {w0 : World} {own : List Nat} {e : Env} {hs F : Hp} {ops : Array Oper} {rest : List Oper} {K : Env → Hp → Prop}
variable {d : Nat} {ty : TypeId} {pos : String} {aft : Array Edge} {g : Option (Nat × Bool)}
/-- what works on memory and leaves nothing, when it is alone -/
theorem JK.ef0 {op : Op} {R : Value → Hp → Prop} (h : Eff P n w0 own e hs op R) (hF : ∀ v hs', R v hs' → F ⊆ hs → F ⊆ hs') (kk : ∀ v hs', R v hs' → JK P n w0 own ops F rest e hs' K)
    (hE : isEff ⟨none, op, ty, pos, aft, g⟩ = true := by rfl) (hg : wantB ops e g = some true := by rfl) : JK P n w0 own ops F (⟨none, op, ty, pos, aft, g⟩ :: rest) e hs K := by
  intro m is listed Z h1 h2 h3 hz
  cases is with
  | nil => exact h1.elim
  | cons k is =>
  obtain ⟨h0, h1⟩ := h1
  unfold ordB at h2
  rw [Bool.and_eq_true, Bool.or_eq_true, Bool.and_eq_true] at h2
  rw [show (⟨none, op, ty, pos, aft, g⟩ :: rest : List Oper).length + m = (rest.length + m) + 1 from by simp; omega]
  rcases h2.1 with ho | ⟨hn, _⟩
  · exact JD.ef0 k h0 ho h (fun v hs' r => kk v hs' r m is _ Z h1 h2.2 (hF v hs' r h3) hz) hF hg
  · rw [hE] at hn; cases hn
theorem JY.nw {z : Nat} {late : Bool} {K' : Bool → Env → Hp → Prop} {op : Op} {c : Ch} (h : Eff P n w0 own e hs op (NewP hs c)) (kk : ∀ b, JY P n w0 own ops F z late rest ((d, .pointer (some ⟨b, 0, none⟩)) :: e) ((b, c) :: hs) K')
    (hE : isEff ⟨some d, op, ty, pos, aft, g⟩ = true := by rfl) (hdn : Nat.blt d n = true := by rfl) (hg : wantB ops e g = some true := by rfl) (hzo : ((ops[z]?).map (·.dst.isNone)) = some true := by rfl) : JY P n w0 own ops F z late (⟨some d, op, ty, pos, aft, g⟩ :: rest) e hs K' :=
  .ef h (fun v h' ⟨b, _, e2⟩ f => by subst e2; exact fun p hp => List.mem_cons_of_mem _ (f hp)) (fun v h' ⟨b, e1, e2⟩ => by subst e1; subst e2; exact kk b) hE hdn hg hzo
/-- a record stored into a record -/
theorem Eff.storeR {T m b o U : Nat} {x y : Operand} {vs l : List Value} {hs' : Hp} (l' : List Value) (hx : ev e x = some (.pointer (some ⟨b, o, none⟩))) (hy : ev e y = some (.agg ⟨vs⟩)) [hT : Sz P T m] [hb : Mem b (.cells l U) hs]
    [u : UpdI b (.cells l' U) hs hs'] (hm : vs.length = m := by rfl) (h1 : ones vs = true := by rfl) (ho : Nat.ble (o + vs.length) l.length = true := by rfl) (hl : splice l o vs = l' := by rfl) : Eff P n w0 own e hs (.store T x y) (fun v h => v = undef ∧ h = hs') := by
  subst hl
  exact Eff.storeA hx hy hm h1 (Nat.le_of_ble_eq_true ho)
end
end V
end Go

/- VD: regions with one store at their end, in which two effects may come up in either order. -/
namespace Go
namespace V
open Go.RowKit
set_option linter.unusedVariables false
set_option linter.unusedSimpArgs false

/-- number i comes up now -/
def JT (P : Program) (n : Nat) (w0 : World) (own : List Nat) (ops : Array Oper) (F : Hp) (z : Nat) (m : Nat) (listed : Array Bool) (e : Env) (hs : Hp) (K : Env → Hp → Prop) (i : Nat) : Prop :=
  ∀ a w, Rep n a e → Sat w0 own hs w → (listed.getD z true = false → F ⊆ hs) →
    wpOp P ops (QN fun a' w' => ∃ e' hs', Rep n a' e' ∧ Sat w0 own hs' w' ∧ K e' hs') i (fun a' w' => ((listed.setIfInBounds i true).getD z true = false → Keeps w0 own F w') ∧ Upto P ops (QN fun a' w' => ∃ e' hs', Rep n a' e' ∧ Sat w0 own hs' w' ∧ K e' hs') (Keeps w0 own F) z m (listed.setIfInBounds i true) a' w') a w
section
variable {P : Program} {n : Nat} {w0 : World} {own : List Nat} {e : Env} {hs F : Hp} {K : Env → Hp → Prop} {z m : Nat} {listed : Array Bool}
variable {d : Nat} {ty : TypeId} {pos : String} {aft : Array Edge} {g : Option (Nat × Bool)}
theorem JZ.two {ops : Array Oper} (i j : Nat) (hr : (Region.ready .any ops listed == [i, j]) = true) (h1 : JT P n w0 own ops F z m listed e hs K i) (h2 : JT P n w0 own ops F z m listed e hs K j) : JZ P n w0 own ops F z (m + 1) listed e hs K := by
  intro a w hr' s hf
  have hr : Region.ready .any ops listed = [i, j] := by simpa using hr
  refine ⟨fun h0 => (by rw [hr] at h0; cases h0), fun k hk => ?_⟩
  rw [hr] at hk
  simp only [List.mem_cons, List.not_mem_nil, or_false] at hk
  rcases hk with rfl | rfl
  · exact h1 a w hr' s hf
  · exact h2 a w hr' s hf
theorem JT.ef {ops : Array Oper} {i : Nat} {op : Op} {R : Value → Hp → Prop} (hi : ops[i]? = some ⟨some d, op, ty, pos, aft, g⟩) (h : Eff P n w0 own e hs op R) (hF : ∀ v hs', R v hs' → F ⊆ hs → F ⊆ hs')
    (k : ∀ v hs', R v hs' → JZ P n w0 own ops F z m (listed.setIfInBounds i true) ((d, v) :: e) hs' K) (hdn : Nat.blt d n = true := by rfl) (hg : wantB ops e g = some true := by rfl) : JT P n w0 own ops F z m listed e hs K i := by
  intro a w hr s hf
  unfold wpOp
  simp only [hi]
  rw [if_pos (wanted_of hr hg)]
  have hsub : ∀ v hs', R v hs' → (listed.setIfInBounds i true).getD z true = false → F ⊆ hs' := by
    intro v hs' r hz'
    have hzj : z ≠ i := by
      intro e
      subst e
      rcases Nat.lt_or_ge z listed.size with h' | h'
      · simp [h'] at hz'
      · simp [h'] at hz'
    rw [getD_set_ne true (Ne.symm hzj)] at hz'
    exact hF v hs' r (hf hz')
  exact .inl (h a w _ _ _ _ _ _ _ hr s fun v hs' w' r s' => ⟨fun hz' => ⟨hs', s', hsub v hs' r hz'⟩, k v hs' r _ _ (hr.put (Nat.le_of_ble_eq_true hdn) v) s' (hsub v hs' r)⟩)
/-- the first operations, in an order of ours; then by hand -/
theorem JC.drawW {id : Nat} {Q : Post} {l : List Oper} (z : Nat) (is : List Nat) (F : Hp) (hF : F ⊆ hs) (hm : P.follows .mixedOrders = true)
    (hB : (ordZ l.toArray z (pickL l is) is (Array.replicate l.length false) && Nat.beq (pickL l is).length is.length && Nat.ble is.length l.length && Nat.blt z l.length) = true)
    (h : JQ P n w0 own l.toArray F z false (pickL l is) e hs (fun _ e' hs' => JZ P n w0 own l.toArray F z (l.length - is.length) (marks_ is (Array.replicate l.length false)) e' hs' (fun e hs => Q .normal e hs))) : JC P n w0 own (.region id l.toArray true) e hs Q := by
  rw [Bool.and_eq_true, Bool.and_eq_true, Bool.and_eq_true] at hB
  obtain ⟨⟨⟨h1, h2⟩, h3⟩, h4⟩ := hB
  have h2 := Nat.eq_of_beq_eq_true h2
  have h3 := Nat.le_of_ble_eq_true h3
  have h4 : z < l.length := Nat.le_of_ble_eq_true h4
  refine JC.drawZ z F hF hm ?_
  have := h (l.length - is.length) is (Array.replicate l.length false) (fun e hs => Q .normal e hs) (pickL_nums' is h2) h1 (by simp) (by simp [h4]) (fun _ => hF) (fun _ e' hs' _ _ ke => ke)
  rw [h2, show is.length + (l.length - is.length) = l.length by omega] at this
  simpa using this
/-- the others, in an order of ours -/
theorem JZ.run {l : List Oper} (is : List Nat) (hF : F ⊆ hs) (hB : (ordZ l.toArray z (pickL l is) is listed && doneB l.toArray (marks_ is listed) && Nat.beq (pickL l is).length is.length && Nat.beq is.length m && Nat.beq listed.size l.length && !listed.getD z true) = true)
    (h : JQ P n w0 own l.toArray F z false (pickL l is) e hs (fun _ e hs => K e hs)) : JZ P n w0 own l.toArray F z m listed e hs K := by
  simp only [Bool.and_eq_true] at hB
  obtain ⟨⟨⟨⟨⟨h1, h2⟩, h3⟩, h4⟩, h5⟩, h6⟩ := hB
  have h3 := Nat.eq_of_beq_eq_true h3
  have h4 := Nat.eq_of_beq_eq_true h4
  have h5 := Nat.eq_of_beq_eq_true h5
  have := h 0 is listed K (pickL_nums' is h3) h1 (by simpa using h5) (by simpa using h6) (fun _ => hF) (fun _ e' hs' _ _ ke => JZ.done h2 ke)
  rw [h3, h4] at this
  simpa using this
end
end V
end Go

/- VE: drawn regions in which blocks are let go. -/
namespace Go
namespace V
open Go.RowKit
set_option linter.unusedVariables false
section
variable {P : Program} {n : Nat} {w0 : World} {own : List Nat} {e : Env} {hs hs2 F : Hp} {ops : Array Oper} {l : List Oper} {K : Env → Hp → Prop}
/-- some of what lies there is let go -/
theorem JK.heap (k : ∀ w, Sat w0 own hs w → Sat w0 own hs2 w) (hF : F ⊆ hs → F ⊆ hs2) (h : JK P n w0 own ops F l e hs2 K) : JK P n w0 own ops F l e hs K :=
  fun m is listed Z h1 h2 h3 hz a w hr s hf => h m is listed Z h1 h2 (hF h3) hz a w hr (k w s) (hF hf)
theorem JK.dropA {h : Hp} (hF : F ⊆ hs) (k : JK P n w0 own ops F l e hs K) : JK P n w0 own ops F l e (h ++ hs) K :=
  JK.heap (fun w s => s.sub (List.sublist_append_right _ _)) (fun _ => hF) k
end
end V
end Go
