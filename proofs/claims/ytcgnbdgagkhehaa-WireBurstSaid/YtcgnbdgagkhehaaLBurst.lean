/- WireBurst: the walk. -/
import Derived.Test.YtcgnbdgagkhehaaLUnp
import Derived.Test.YtcgnbdgagkhehaaWBurst
namespace Go.Proofs.Ytcgnbdgagkhehaa
open Go.V
set_option linter.unusedVariables false

/-- the bits that are turned, as a number, behind i steps -/
def tb (f t i : Nat) : Nat := 2 ^ f * (t % 2 ^ i % 2 ^ (512 - f))
theorem tb_bit (f t i m : Nat) : (tb f t i).testBit m = (decide (f ≤ m) && (decide (m - f < 512 - f) && (decide (m - f < i) && t.testBit (m - f)))) := by
  rw [tb, Nat.testBit_two_pow_mul, Nat.testBit_mod_two_pow, Nat.testBit_mod_two_pow]
/-- the bytes behind i steps -/
def fl (p : List (BitVec 8)) (f t i : Nat) : List (BitVec 8) := (List.range 64).map fun n => p.getD n 0#8 ^^^ BitVec.ofNat 8 (tb f t i / 2 ^ (8 * n))
theorem fl_length (p : List (BitVec 8)) (f t i : Nat) : (fl p f t i).length = 64 := by simp [fl]
theorem fl_get (p : List (BitVec 8)) (f t i n : Nat) (h : n < 64) : (fl p f t i)[n]? = some (p.getD n 0#8 ^^^ BitVec.ofNat 8 (tb f t i / 2 ^ (8 * n))) := by simp [fl, h]
theorem tb_zero (f t : Nat) : tb f t 0 = 0 := by simp [tb, Nat.mod_one]
theorem tb_no {f t i : Nat} (h : ¬ (t.testBit i = true ∧ f + i < 512)) : tb f t (i + 1) = tb f t i := by
  apply Nat.eq_of_testBit_eq
  intro m
  rw [tb_bit, tb_bit]
  by_cases h1 : f ≤ m <;> by_cases h2 : m - f < 512 - f <;> by_cases h3 : m - f < i
  all_goals (try (simp [h1, h2]; done))
  all_goals simp [h1, h2, h3]
  · intros; omega
  · intro h4
    have : m - f = i := by omega
    subst this
    cases hb : t.testBit (m - f) with
    | false => rfl
    | true => exact absurd ⟨hb, by omega⟩ h
theorem fl_same {p : List (BitVec 8)} {f t i j : Nat} (h : tb f t j = tb f t i) : fl p f t j = fl p f t i := by unfold fl; rw [h]
theorem one_bit {s j : Nat} (hs : s < 8) (hj : j < 8) : (1#8 <<< s).getLsbD j = decide (j = s) := by
  have : ∀ s : Fin 8, ∀ j : Fin 8, (1#8 <<< s.val).getLsbD j.val = decide (j.val = s.val) := by decide
  exact this ⟨s, hs⟩ ⟨j, hj⟩
theorem fl_set {p : List (BitVec 8)} {f t i : Nat} (h : t.testBit i = true) (hk : f + i < 512) {x : BitVec 8} (hx : (fl p f t i)[(f + i) / 8]? = some x) :
    (fl p f t i).set ((f + i) / 8) (x ^^^ (1#8 <<< ((f + i) % 8))) = fl p f t (i + 1) := by
  apply List.ext_getElem?
  intro n
  by_cases hn : n < 64
  · rw [List.getElem?_set, fl_get _ _ _ _ _ hn]
    by_cases e : (f + i) / 8 = n
    · rw [if_pos e, if_pos (by rw [fl_length]; omega)]
      rw [e, fl_get _ _ _ _ _ hn] at hx
      cases hx
      rw [fl_get _ _ _ _ _ hn]
      congr 1
      apply BitVec.eq_of_getLsbD_eq
      intro j hj
      simp only [BitVec.getLsbD_xor, BitVec.getLsbD_ofNat, Nat.testBit_div_two_pow, Bool.xor_assoc]
      rw [one_bit (Nat.mod_lt _ (by decide)) hj]
      congr 1
      by_cases h2 : j = (f + i) % 8
      · have hm : j + 8 * n = f + i := by omega
        rw [hm, tb_bit, tb_bit, Nat.add_sub_cancel_left, decide_eq_true h2, decide_eq_true hj, h]
        simp [show i < 512 - f from by omega]
      · rw [tb_bit, tb_bit, decide_eq_false h2, Bool.xor_false]
        by_cases h1 : f ≤ j + 8 * n
        · have h5 : decide (j + 8 * n - f < i + 1) = decide (j + 8 * n - f < i) := by congr 1; exact propext (by omega)
          rw [h5]
        · simp [h1]
    · rw [if_neg e, fl_get _ _ _ _ _ hn]
      congr 2
      apply BitVec.eq_of_getLsbD_eq
      intro j hj
      simp only [BitVec.getLsbD_ofNat, Nat.testBit_div_two_pow, tb_bit]
      by_cases h1 : f ≤ j + 8 * n
      · have h5 : decide (j + 8 * n - f < i + 1) = decide (j + 8 * n - f < i) := by congr 1; exact propext (by omega)
        rw [h5]
      · simp [h1]
  · rw [List.getElem?_eq_none (by simp [fl_length]; omega), List.getElem?_eq_none (by rw [fl_length]; omega)]
theorem fl_zero {p : List (BitVec 8)} (hp : p.length = 64) {f t i : Nat} (h : tb f t i = 0) : fl p f t i = p := by
  apply List.ext_getElem?
  intro n
  by_cases hn : n < 64
  · rw [fl_get _ _ _ _ _ hn, h]
    simp [List.getD_eq_getElem?_getD, List.getElem?_eq_getElem (show n < p.length by omega)]
  · rw [List.getElem?_eq_none (by rw [fl_length]; omega), List.getElem?_eq_none (by omega)]
theorem val_fl {p : List (BitVec 8)} (hp : p.length = 64) (f t i : Nat) : val p ^^^ val (fl p f t i) = tb f t i := by
  apply Nat.eq_of_testBit_eq
  intro m
  rw [Nat.testBit_xor, val_bit, val_bit]
  by_cases h : m < 512
  · rw [List.getD_eq_getElem?_getD (l := fl p f t i), fl_get _ _ _ _ _ (show m / 8 < 64 by omega)]
    simp only [Option.getD_some, BitVec.getLsbD_xor, BitVec.getLsbD_ofNat, Nat.testBit_div_two_pow]
    rw [show m % 8 + 8 * (m / 8) = m from by omega, decide_eq_true (show m % 8 < 8 by omega), Bool.true_and, ← Bool.xor_assoc, Bool.xor_self, Bool.false_xor]
  · rw [List.getD_eq_getElem?_getD, List.getElem?_eq_none (by omega), List.getD_eq_getElem?_getD, List.getElem?_eq_none (by rw [fl_length]; omega), tb_bit]
    by_cases h1 : f ≤ m
    · simp [show ¬ m - f < 512 - f from by omega]
    · simp [h1]
/-- found out: right just when no bit was turned -/
theorem burst_found {k : BitVec 8} {ws : List (BitVec 64)} (hw : ws.length = 7) (f t : Nat) (hf : f < 512) : (unpk (fl (packed k ws) f t 32)).2.2 = 0 ↔ tb f t 32 = 0 := by
  have hp := packed_length (k := k) hw
  constructor
  · intro h
    have hq := unpk_right h
    have := burst_pure (p := packed k ws) (q := fl (packed k ws) f t 32) (by rw [hp, fl_length]) rfl hq.symm f (t % 2 ^ 32 % 2 ^ (512 - f)) (Nat.lt_of_le_of_lt (Nat.mod_le _ _) (Nat.mod_lt _ (by decide))) (by omega) (val_fl hp f t 32)
    rw [tb, this]; simp
  · intro h
    rw [fl_zero hp h, unpk_packed _ _ hw]
theorem wrap_u8' (b : BitVec 8) : IntKind.u8.wrap (b.toNat : Int) = b.toNat := by
  have := b.isLt
  simp [IntKind.wrap, IntKind.bits, IntKind.signed]; omega
theorem xor8 (a b : BitVec 8) : bop .xor .u8 (a.toNat : Int) (b.toNat : Int) = (a ^^^ b).toNat := by
  have h := wrap_u8' (a ^^^ b)
  simp only [bop, IntKind.bits, ofInt_nat'] at *; exact h
theorem shl8 (j : Nat) (h : j < 8) : IntKind.u8.wrap (1 * 2 ^ min ((j : Int)).toNat IntKind.u8.bits) = (1#8 <<< j).toNat := by
  have : j = 0 ∨ j = 1 ∨ j = 2 ∨ j = 3 ∨ j = 4 ∨ j = 5 ∨ j = 6 ∨ j = 7 := by omega
  rcases this with rfl | rfl | rfl | rfl | rfl | rfl | rfl | rfl <;> decide +kernel
theorem odd32 (t i : Nat) (h : i ≤ 32) : Int.tmod ((t : Int).fdiv (2 ^ min (i : Int).toNat IntKind.u32.bits)) 2 = 1 ↔ t.testBit i = true := by
  rw [show min (i : Int).toNat IntKind.u32.bits = i from by simp [IntKind.bits]; omega, Int.fdiv_eq_ediv_of_nonneg _ (by exact_mod_cast Nat.zero_le _), Nat.testBit_eq_decide_div_mod_eq, decide_eq_true_iff]
  rw [show (t : Int) / 2 ^ i = ((t / 2 ^ i : Nat) : Int) from by push_cast; rfl]
  generalize t / 2 ^ i = y
  rw [Int.tmod_eq_emod_of_nonneg (by omega)]
  omega

theorem WireBurst_ok (w : World) (k : BitVec 8) (ws : List (BitVec 64)) (hw : ws.length = 7) (f : Int) (t : Nat) (ht : t < 2 ^ 32) :
    Does Try.prog 7 [.agg ⟨fcells k ws⟩, .int .i64 f, .int .u32 t] [] w (fun v hs => v = .bool true ∧ hs = []) := by
  refine Does.pure (Does.of (n := 66) Try.func7 rfl rfl rfl rfl ?_)
  refine .seq ((.region (.nw (.box rfl rfl) fun b3 => (.v (.assign rfl) (.nil ?_)))))
  refine .seq (.seq ((.region (.ef (.call0 rfl rfl fun w s => lives_ok w) ?_))))
  rintro _ _ ⟨_, ⟨rfl, rfl⟩, rfl⟩
  refine .v (.not rfl) (.v (.move rfl) ?_)
  refine .v (.move rfl) (.v (.eqi rfl rfl) (.v (.pick rfl rfl rfl) (.v (.move rfl) (.split (t := 19) rfl (fun g1 => ?_) (fun g1 => ?_)))))
  · refine .sk (.sk (.v (.pick rfl rfl rfl) (.v (.move rfl) (.sk (.sk (.v (.pick rfl rfl rfl) (.nil ?_)))))))
    refine .cond_true rfl ?_
    refine .seq ((.region (.ef (.call0 rfl rfl fun w s => lives_ok w) ?_)))
    rintro _ _ ⟨_, ⟨rfl, rfl⟩, rfl⟩
    refine .v (.assign rfl) (.nil ?_)
    exact .ret ⟨[_], ⟨rfl, trivial⟩, rfl⟩
  refine .v (.move rfl) (.v (.lss rfl rfl) (.v (.pick rfl rfl rfl) (.v (.move rfl) (.split (t := 23) rfl (fun g2 => ?_) (fun g2 => ?_)))))
  · refine .sk (.sk (.v (.pick rfl rfl rfl) (.nil ?_)))
    refine .cond_true rfl ?_
    refine .seq ((.region (.ef (.call0 rfl rfl fun w s => lives_ok w) ?_)))
    rintro _ _ ⟨_, ⟨rfl, rfl⟩, rfl⟩
    refine .v (.assign rfl) (.nil ?_)
    exact .ret ⟨[_], ⟨rfl, trivial⟩, rfl⟩
  refine .v (.move rfl) (.v (.geq rfl rfl) (.v (.pick rfl rfl rfl) (.nil ?_)))
  refine .cond_dec rfl (fun g3 => ?_) (fun g3 => .skip ?_)
  · refine .seq ((.region (.ef (.call0 rfl rfl fun w s => lives_ok w) ?_)))
    rintro _ _ ⟨_, ⟨rfl, rfl⟩, rfl⟩
    refine .v (.assign rfl) (.nil ?_)
    exact .ret ⟨[_], ⟨rfl, trivial⟩, rfl⟩
  obtain ⟨f, rfl⟩ : ∃ g : Nat, f = g := ⟨f.toNat, by omega⟩
  have hf : f < 512 := by omega
  have hp := packed_length (k := k) hw
  refine .seq ((.region (.v (.loadA rfl .whole (fcells_length hw)) (.ef (.call0 rfl rfl fun w s => Pack_ok w k ws hw) ?_))))
  rintro _ _ ⟨_, ⟨rfl, rfl⟩, rfl⟩
  refine .nw .alloc fun b7 => (.st (.storeW rfl rfl (by rw [byts_length, hp]) (byts_ones _) (by simp)) (.nil ?_))
  refine .seq ((.region (.v (.assign rfl) (.nil ?_))))
  refine .seq (.seq ((.region (.v (.assign rfl) (.nil ?_)))))
  refine .block (.loop (X := Nat) (fun i => [(1, .int .i64 f), (2, .int .u32 t), (7, .pointer (some ⟨b7, 0, none⟩)), (8, .bool (decide (tb f t i ≠ 0))), (9, .int .i64 i)])
    (fun i => [(b7, .cells (byts (fl (packed k ws) f t i)) 32)]) (fun i => i ≤ 32) (fun i => 32 - i) 0 (by omega)
    (.cons rfl (.cons rfl (.cons rfl (.cons (by rw [tb_zero]; rfl) (.cons rfl (.nil _)))))) (fun _ s => ?_) ?_)
  · rw [fl_zero hp (tb_zero f t)]; exact s.sub (by simp)
  intro i hi
  refine .seq (.seq ((.region (.v (.move rfl) (.v (.lss rfl rfl) (.nil ?_))))))
  refine .cond_dec rfl (fun h2 => .skip ?_) (fun h2 => .exit ?_)
  · refine .seq (.block (.seq ((.region (.v (.move rfl) (.v (.move rfl) (.v (.addi rfl rfl (by omega)) (.v (.assign rfl) (.nil ?_)))))))))
    refine .seq ((.region (.v (.move rfl) (.v (.move rfl) (.v (.shr rfl rfl (by omega)) (.v (.rem rfl rfl (by decide)) (.v (.eqi rfl rfl) (.v (.move rfl) (.split (t := 42) rfl (fun h3 => ?_) (fun h3 => ?_))))))))))
    · have hbit := (odd32 t i (by omega)).1 h3
      refine .v (.move rfl) (.v (.lss rfl rfl) (.v (.pick rfl rfl rfl) (.nil ?_)))
      refine .cond_dec rfl (fun h4 => ?_) (fun h4 => .skip ?_)
      · have hk : f + i < 512 := by omega
        have hq : IntKind.i64.wrap (Int.tdiv ((f : Int) + (i : Int)) 8) = (((f + i) / 8 : Nat) : Int) := by
          rw [Int.tdiv_eq_ediv_of_nonneg (by omega), wrap_i64 (by omega)]; omega
        have hr : Int.tmod ((f : Int) + (i : Int)) 8 = (((f + i) % 8 : Nat) : Int) := by
          rw [Int.tmod_eq_emod_of_nonneg (by omega)]; omega
        have hlen : (f + i) / 8 < (fl (packed k ws) f t i).length := by rw [fl_length]; omega
        have hget := List.getElem?_eq_getElem hlen
        refine .seq ((.drawT 11 (by kernel_rfl) (by kernel_rfl) (.v (.move rfl) (.v (.quo rfl rfl (by decide)) (.v (.move rfl) (.v (.quo rfl rfl (by decide)) (.v (.indexAddrA1 rfl rfl (by omega) (by omega)) (.v (.load rfl (.one (hb := ⟨by simp⟩) (l := byts (fl (packed k ws) f t i)) (T := 32) (v := .int .u8 ((fl (packed k ws) f t i)[(f + i) / 8]).toNat) ?_)) (.v (.move rfl) (.v (.rem rfl rfl (by decide)) (.v (.shl rfl rfl (by omega)) (.v (.xor rfl rfl) (.v (.indexAddrA1 rfl rfl (by omega) (by omega)) (.nil ?_)))))))))))))) 
        · rw [hq, Nat.zero_add, Int.toNat_natCast]; exact byts_get hlen
        refine .st (.store rfl rfl rfl (by rw [byts_length, fl_length]; omega)) (.nil ?_)
        refine .region (.v (.assign rfl) (.nil ?_))
        refine .region (.v (.move rfl) (.v (.addi rfl rfl (by omega)) (.v (.assign rfl) (.nil ?_))))
        have hset := fl_set hbit hk hget
        have hne : tb f t (i + 1) ≠ 0 := by
          intro h0
          have := tb_bit f t (i + 1) (f + i)
          rw [h0] at this
          simp [hbit, show i < 512 - f from by omega] at this
        refine ⟨i + 1, by omega, by omega, .cons rfl (.cons rfl (.cons rfl (.cons (by rw [decide_eq_true hne]; rfl) (.cons rfl (.nil _))))), fun w s => ?_⟩
        rw [hq, hr, shl8 _ (Nat.mod_lt _ (by decide)), xor8, Nat.zero_add, Int.toNat_natCast] at s
        rw [← hset]
        have e : byts ((fl (packed k ws) f t i).set ((f + i) / 8) ((fl (packed k ws) f t i)[(f + i) / 8] ^^^ (1#8 <<< ((f + i) % 8)))) = (byts (fl (packed k ws) f t i)).set ((f + i) / 8) (.int .u8 ((fl (packed k ws) f t i)[(f + i) / 8] ^^^ (1#8 <<< ((f + i) % 8))).toNat) := by
          simp [byts, List.map_set]
        rw [e]
        exact s
      · have hno := tb_no (f := f) (t := t) (i := i) (fun h => h4 (by omega))
        refine .region (.v (.move rfl) (.v (.addi rfl rfl (by omega)) (.v (.assign rfl) (.nil ?_))))
        exact ⟨i + 1, by omega, by omega, .cons rfl (.cons rfl (.cons rfl (.cons (by rw [hno]; rfl) (.cons rfl (.nil _))))), fun w s => by rw [fl_same hno]; exact s⟩
    · have hno := tb_no (f := f) (t := t) (i := i) (fun h => h3 ((odd32 t i (by omega)).2 h.1))
      refine .sk (.sk (.v (.pick rfl rfl rfl) (.nil ?_)))
      refine .cond_false rfl (.skip ?_)
      refine .region (.v (.move rfl) (.v (.addi rfl rfl (by omega)) (.v (.assign rfl) (.nil ?_))))
      exact ⟨i + 1, by omega, by omega, .cons rfl (.cons rfl (.cons rfl (.cons (by rw [hno]; rfl) (.cons rfl (.nil _))))), fun w s => by rw [fl_same hno]; exact s⟩
  · obtain rfl : i = 32 := by omega
    have hU := unpk_ws (fl (packed k ws) f t 32)
    refine .seq ((.region (.v (.slArr rfl) (.ef (.call0 rfl rfl fun w s => Unpack_ok w _ _ 64 (fl (packed k ws) f t 32) (Rd.chunk s (by simp) fun j v hv => by rw [Nat.zero_add]; exact hv) (fl_length _ _ _ _).symm) ?_))))
    rintro _ _ ⟨_, ⟨rfl, rfl⟩, rfl⟩
    refine .v (.move rfl) (.v (.extract (vs := [.agg ⟨fcells (unpk (fl (packed k ws) f t 32)).1 (unpk (fl (packed k ws) f t 32)).2.1⟩, .int .i64 (unpk (fl (packed k ws) f t 32)).2.2]) rfl rfl) (.v (.extract (vs := [.agg ⟨fcells (unpk (fl (packed k ws) f t 32)).1 (unpk (fl (packed k ws) f t 32)).2.1⟩, .int .i64 (unpk (fl (packed k ws) f t 32)).2.2]) rfl rfl) (.nw .alloc fun b11 => (.st (.storeW rfl rfl (fcells_length hU) (fcells_ones _ _) rfl) (.v (.assign rfl) (.nil ?_))))))
    refine .seq ((.region (.v (.move rfl) (.v (.eqi rfl rfl) (.v (.move rfl) (.v (.neb rfl rfl) (.v (.assign rfl) (.nil ?_))))))))
    refine .ret ?_
    have hb := burst_found (k := k) hw f t hf
    refine ⟨[_], ⟨rfl, trivial⟩, ?_⟩
    simp only [tup]
    congr 1
    by_cases h0 : tb f t 32 = 0
    · simp [h0, hb.2 h0]
    · have : (unpk (fl (packed k ws) f t 32)).2.2 ≠ 0 := fun h => h0 (hb.1 h)
      simp [h0, this]
theorem WireBurst_walk (w : World) (cs : List Value) (h : okw [.i .u8, .i .u64, .i .u64, .i .u64, .i .u64, .i .u64, .i .u64, .i .u64] cs) (f t : Int) (ht : (Lit.int .u32 t).wf = true) :
    Does Try.prog 7 [.agg ⟨cs⟩, .int .i64 f, .int .u32 t] [] w (fun v hs => v = .bool true ∧ hs = []) := by
  obtain ⟨k, ws, hw, rfl⟩ := okw_frame h
  have : 0 ≤ t ∧ t ≤ 4294967295 := by simpa [Lit.wf, IntKind.min, IntKind.max, IntKind.signed, IntKind.bits] using ht
  obtain ⟨t, rfl⟩ : ∃ g : Nat, t = g := ⟨t.toNat, by omega⟩
  exact WireBurst_ok w k ws hw f t (by omega)
end Go.Proofs.Ytcgnbdgagkhehaa
