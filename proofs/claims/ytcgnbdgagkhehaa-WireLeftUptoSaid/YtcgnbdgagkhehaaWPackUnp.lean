/- Plain words of chapter 2: what is packed is unpacked. -/
import Derived.Test.YtcgnbdgagkhehaaWUnp
namespace Go.Proofs.Ytcgnbdgagkhehaa
open Go.V
set_option linter.unusedVariables false

theorem wpart_bit (xs : List (BitVec 8)) (o : Nat) : ∀ (j i : Nat), i < 64 → (wpart xs o j).getLsbD i = (decide (i < 8 * j) && (xs.getD (o + i / 8) 0#8).getLsbD (i % 8))
  | 0, i, _ => by simp [wpart]
  | j + 1, i, h => by
    rw [wpart, BitVec.getLsbD_or, wpart_bit xs o j i h, BitVec.getLsbD_shiftLeft, BitVec.getLsbD_setWidth]
    by_cases h1 : i < 8 * j
    · simp [h1]; omega
    · by_cases h2 : i < 8 * (j + 1)
      · have e1 : i / 8 = j := by omega
        have e2 : i % 8 = i - 8 * j := by omega
        simp [h, h1, h2, e1, e2]; omega
      · rw [BitVec.getLsbD_of_ge _ (i - 8 * j) (by omega)]
        simp [h1, h2]
theorem packed_body {k : BitVec 8} {ws : List (BitVec 64)} (hw : ws.length = 7) {n : Nat} (h : n < 60) : (packed k ws).getD n 0#8 = (body k ws).getD n 0#8 := by
  simp only [List.getD_eq_getElem?_getD, packed]
  rw [List.getElem?_append_left (by rw [body_length hw]; omega)]
theorem body_word {k : BitVec 8} {ws : List (BitVec 64)} (hw : ws.length = 7) (n : Nat) (h : n < 7) (xs : List (BitVec 8)) (hx : ∀ j, j < 60 → xs.getD j 0#8 = (body k ws).getD j 0#8) :
    wpart xs (4 + 8 * n) 8 = ws[n] := by
  apply BitVec.eq_of_getLsbD_eq
  intro i hi
  rw [wpart_bit _ _ _ _ hi, hx _ (by omega), List.getD_eq_getElem?_getD, body_get (show n < ws.length by omega) (show i / 8 < 8 by omega)]
  simp only [Option.getD_some, BitVec.getLsbD_setWidth, BitVec.getLsbD_ushiftRight]
  rw [show 8 * (i / 8) + i % 8 = i from by omega]
  simp [show i % 8 < 8 from by omega, show i < 64 from hi]
theorem wl_body {k : BitVec 8} {ws : List (BitVec 64)} (hw : ws.length = 7) (xs : List (BitVec 8)) (hx : ∀ j, j < 60 → xs.getD j 0#8 = (body k ws).getD j 0#8) : wl xs 56 = ws := by
  apply List.ext_getElem?
  intro n
  by_cases hn : n < 7
  · rw [wl_get _ _ _ hn, show min 8 (56 - 8 * n) = 8 from by omega, body_word hw n hn xs hx, List.getElem?_eq_getElem]
  · rw [List.getElem?_eq_none (by simp [wl_length]; omega), List.getElem?_eq_none (by omega)]
theorem unpk_packed (k : BitVec 8) (ws : List (BitVec 64)) (hw : ws.length = 7) : unpk (packed k ws) = (k, ws, 0) := by
  have hl := packed_length (k := k) hw
  have h2 : (packed k ws).getD 2 0#8 = k := by rw [packed_body hw (by omega)]; rfl
  have h3 := wl_body hw (packed k ws) fun j hj => packed_body hw hj
  unfold unpk
  rw [if_neg (by omega), if_neg (by omega), if_neg, if_neg, h2, h3]
  · rw [h2, h3]; simp
  · intro h; apply h
    refine ⟨?_, ?_, ?_⟩ <;> (rw [packed_body hw (by omega)]; rfl)
/-- what is told to be right was packed so -/
theorem unpk_right {xs : List (BitVec 8)} (h : (unpk xs).2.2 = 0) : packed (unpk xs).1 (unpk xs).2.1 = xs := by
  unfold unpk at *
  split at h
  · cases h
  split at h
  · cases h
  split at h
  · cases h
  split at h
  · cases h
  · rename_i h1 h2 h3 h4
    rw [if_neg h1, if_neg h2, if_neg h3, if_neg h4]
    simpa using h4
/-- what is told to be wrong is told with nothing -/
theorem unpk_wrong {xs : List (BitVec 8)} (h : (unpk xs).2.2 ≠ 0) : (unpk xs).1 = 0#8 ∧ (unpk xs).2.1 = zw := by
  have key : (unpk xs).2.2 = 0 ∨ ((unpk xs).1 = 0#8 ∧ (unpk xs).2.1 = zw) := by
    unfold unpk
    repeat' split
    all_goals simp
  exact key.resolve_left h
theorem fcells_oks {k : BitVec 8} {ws : List (BitVec 64)} (hw : ws.length = 7) : oks [.i .u8, .i .u64, .i .u64, .i .u64, .i .u64, .i .u64, .i .u64, .i .u64] (fcells k ws) := by
  match ws, hw with
  | [a, b, c, d, e, f, g], _ => exact ⟨rfl, rfl, rfl, rfl, rfl, rfl, rfl, rfl, trivial⟩
theorem fcells_eq {k k' : BitVec 8} {ws ws' : List (BitVec 64)} (hw : ws.length = 7) (hw' : ws'.length = 7) : cellsEq (fcells k ws) (fcells k' ws') = decide (k = k' ∧ ws = ws') := by
  rw [Bool.eq_iff_iff, cellsEq_iff (fcells_oks hw) (fcells_oks hw'), fcells_inj]; simp
end Go.Proofs.Ytcgnbdgagkhehaa
