/- bourseref02.Unpack: what it computes. -/
import Derived.Test.YtcgnbdgagkhehaaWUnp
import Derived.Test.YtcgnbdgagkhehaaLPacks
namespace Go.Proofs.Ytcgnbdgagkhehaa
open Go.V
set_option linter.unusedVariables false

theorem refUnpack_ok (w : World) (A : Option Addr) (len cap : Nat) (xs : List (BitVec 8)) (hx : Rd w [] A (byts xs)) (hl : len = xs.length) :
    Does Try.prog 20 [.slice A len cap] [] w (fun v hs => v = unpkV xs ∧ hs = []) := by
  refine Does.pure (Does.of (n := 72) Try.func20 rfl rfl rfl rfl ?_)
  refine .seq ((.region (.nw .alloc fun b2 => (.v (.assign rfl) (.nil ?_)))))
  refine .seq (.block (.seq ((.region (.v (.move rfl) (.v (.len rfl) (.v (.lss rfl rfl) (.v (.assign rfl) (.nil ?_)))))))))
  refine .cond_dec rfl (fun h1 => ?_) (fun h1 => ?_)
  · refine .seq ((.region (.v (.build rfl rfl) (.st (.storeW rfl rfl rfl rfl rfl) (.v (.assign rfl) (.nil ?_))))))
    refine .ret ?_
    exact ⟨[_, _], ⟨⟨_, rfl, .inr ⟨8, _, inferInstance, rfl, rfl, .whole⟩⟩, rfl, trivial⟩, by rw [unpk_short (by omega)]; rfl⟩
  · refine .seq ((.region (.v (.move rfl) (.v (.len rfl) (.v (.gtr rfl rfl) (.v (.assign rfl) (.nil ?_)))))))
    refine .cond_dec rfl (fun h2 => ?_) (fun h2 => ?_)
    · refine .seq ((.region (.v (.build rfl rfl) (.st (.storeW rfl rfl rfl rfl rfl) (.v (.assign rfl) (.nil ?_))))))
      refine .ret ?_
      exact ⟨[_, _], ⟨⟨_, rfl, .inr ⟨8, _, inferInstance, rfl, rfl, .whole⟩⟩, rfl, trivial⟩, by rw [unpk_long (by omega) (by omega)]; rfl⟩
    · have h64 : xs.length = 64 := by omega
      obtain ⟨b, o, rfl, -, hcell⟩ := hx.base (by rw [byts_length, h64]; omega)
      have hrd : ∀ n, n < 64 → w.cell? ⟨b, o + n, none⟩ = some (.int .u8 (xs.getD n 0#8).toNat) := by
        intro n hn
        refine hcell n _ ?_
        rw [byts_get (show n < xs.length by omega)]
        simp [List.getD_eq_getElem?_getD, List.getElem?_eq_getElem (show n < xs.length by omega)]
      refine .seq ((.region (.v (.move rfl) (.v (.indexAddr1 rfl rfl (by omega) (by omega)) (.v (.load rfl (.old1 (hrd 0 (by omega)) (by simp [bl]))) (.v (.nei rfl rfl) (.v (.move rfl) (.split (t := 22) rfl (fun g1 => ?_) (fun g1 => ?_)))))))))
      · refine .sk (.sk (.sk (.sk (.v (.pick rfl rfl rfl) (.v (.move rfl) (.sk (.sk (.sk (.sk (.v (.pick rfl rfl rfl) (.v (.assign rfl) (.nil ?_))))))))))))
        refine .cond_true rfl ?_
        refine .seq ((.region (.v (.build rfl rfl) (.st (.storeW rfl rfl rfl rfl rfl) (.v (.assign rfl) (.nil ?_))))))
        refine .ret ?_
        exact ⟨[_, _], ⟨⟨_, rfl, .inr ⟨8, _, inferInstance, rfl, rfl, .whole⟩⟩, rfl, trivial⟩, by rw [unpk_magic (by omega) (by omega) (fun k => g1 (by rw [k.1]; rfl))]; rfl⟩
      refine .v (.move rfl) (.v (.indexAddr1 rfl rfl (by omega) (by omega)) (.v (.load rfl (.old1 (hrd 1 (by omega)) (by simp [bl]))) (.v (.nei rfl rfl) (.v (.pick rfl rfl rfl) (.v (.move rfl) (.split (t := 28) rfl (fun g2 => ?_) (fun g2 => ?_)))))))
      · refine .sk (.sk (.sk (.sk (.v (.pick rfl rfl rfl) (.v (.assign rfl) (.nil ?_))))))
        refine .cond_true rfl ?_
        refine .seq ((.region (.v (.build rfl rfl) (.st (.storeW rfl rfl rfl rfl rfl) (.v (.assign rfl) (.nil ?_))))))
        refine .ret ?_
        exact ⟨[_, _], ⟨⟨_, rfl, .inr ⟨8, _, inferInstance, rfl, rfl, .whole⟩⟩, rfl, trivial⟩, by rw [unpk_magic (by omega) (by omega) (fun k => g2 (by rw [k.2.1]; rfl))]; rfl⟩
      refine .v (.move rfl) (.v (.indexAddr1 rfl rfl (by omega) (by omega)) (.v (.load rfl (.old1 (hrd 3 (by omega)) (by simp [bl]))) (.v (.nei rfl rfl) (.v (.pick rfl rfl rfl) (.v (.assign rfl) (.nil ?_))))))
      refine .cond_dec rfl (fun g3 => ?_) (fun g3 => .skip ?_)
      · refine .seq ((.region (.v (.build rfl rfl) (.st (.storeW rfl rfl rfl rfl rfl) (.v (.assign rfl) (.nil ?_))))))
        refine .ret ?_
        exact ⟨[_, _], ⟨⟨_, rfl, .inr ⟨8, _, inferInstance, rfl, rfl, .whole⟩⟩, rfl, trivial⟩, by rw [unpk_magic (by omega) (by omega) (fun k => g3 (by rw [k.2.2]; rfl))]; rfl⟩
      have hmag : xs.getD 0 0#8 = 0x42#8 ∧ xs.getD 1 0#8 = 0x46#8 ∧ xs.getD 3 0#8 = 0#8 := by
        refine ⟨BitVec.eq_of_toNat_eq ?_, BitVec.eq_of_toNat_eq ?_, BitVec.eq_of_toNat_eq ?_⟩ <;> simp at g1 g2 g3 ⊢ <;> omega
      refine .seq ((.region (.v (.move rfl) (.v (.indexAddr1 rfl rfl (by omega) (by omega)) (.v (.load rfl (.old1 (hrd 2 (by omega)) (by simp [bl]))) (.v (.build (out := fcells (xs.getD 2 0#8) (wl xs 0)) rfl (by rw [wl_zero]; rfl)) (.nw .alloc fun b4 => (.st (.storeW rfl rfl (fcells_length (wl_length xs 0)) (fcells_ones _ _) rfl) (.nil ?_)))))))))
      refine .seq (.seq ((.region (.v (.assign rfl) (.nil ?_)))))
      refine .block (.loop (X := Nat) (fun m => [(0, .slice (some ⟨b, o, none⟩) len cap), (2, .pointer (some ⟨b2, 0, none⟩)), (4, .pointer (some ⟨b4, 0, none⟩)), (5, .int .i64 m)])
        (fun m => [(b4, .cells (fcells (xs.getD 2 0#8) (wl xs m)) 31), (b2, .cells (fcells 0#8 zw) 31)]) (fun m => m ≤ 56) (fun m => 56 - m) 0 (by omega)
        (.cons rfl (.cons rfl (.cons rfl (.cons rfl (.nil _))))) (fun _ s => s) ?_)
      intro m hm
      refine .seq (.seq ((.region (.v (.move rfl) (.v (.lss rfl rfl) (.nil ?_))))))
      refine .cond_dec rfl (fun h4 => .skip ?_) (fun h4 => .exit ?_)
      · obtain ⟨i, j, hj8, rfl⟩ : ∃ i j, j < 8 ∧ m = 8 * i + j := ⟨m / 8, m % 8, by omega, by omega⟩
        have hi7 : i < 7 := by omega
        have hq : IntKind.i64.wrap (Int.tdiv ((8 * i + j : Nat) : Int) 8) = (i : Int) := by
          rw [Int.tdiv_eq_ediv_of_nonneg (by omega), wrap_i64 (by omega)]; omega
        have hr : Int.tmod ((8 * i + j : Nat) : Int) 8 = (j : Int) := by
          rw [Int.tmod_eq_emod_of_nonneg (by omega)]; omega
        refine .seq (.block (.drawT 20 (by kernel_rfl) (by kernel_rfl) (.v (.move rfl) (.v (.quo rfl rfl (by decide)) (.v (.move rfl) (.v (.quo rfl rfl (by decide)) (.v (.fieldAddr rfl) (.v (.indexAddrA1 rfl rfl (by omega) (by omega)) (.v (.load (v := .int .u64 (wpart xs (4 + 8 * i) j).toNat) rfl (.one (hb := ⟨by simp⟩) (l := fcells (xs.getD 2 0#8) (wl xs (8 * i + j))) (T := 31) ?_)) (.v (.move rfl) (.v (.move rfl) (.v (.addi rfl rfl (by omega)) (.v (.indexAddr1 rfl rfl (by omega) (by omega)) (.v (.load (v := .int .u8 (xs.getD (4 + 8 * i + j) 0#8).toNat) rfl (.old1 ?_ (by simp [bl]))) (.v (.conv rfl) (.v (.move rfl) (.v (.rem rfl rfl (by decide)) (.v (.muli rfl rfl (by omega)) (.v (.shl rfl rfl (by omega)) (.v (.add rfl rfl) (.v (.fieldAddr rfl) (.v (.indexAddrA1 rfl rfl (by omega) (by omega)) (.nil ?_))))))))))))))))))))))) 
        · rw [hq, show 0 + 1 + (i : Int).toNat = i + 1 from by omega]
          show (wcells _)[i]? = _
          have := wl_get xs (8 * i + j) i hi7
          rw [show min 8 (8 * i + j - 8 * i) = j from by omega] at this
          simp [wcells, this]
        · rw [show o + (4 + ((8 * i + j : Nat) : Int)).toNat = o + (4 + 8 * i + j) from by omega]; exact hrd _ (by omega)
        refine .st (.store rfl rfl rfl (by rw [fcells_length (wl_length _ _)]; omega)) (.nil ?_)
        refine .region (.v (.move rfl) (.v (.addi rfl rfl (by omega)) (.v (.assign rfl) (.nil ?_))))
        refine ⟨8 * i + j + 1, by omega, by omega, .cons rfl (.cons rfl (.cons rfl (.cons rfl (.nil _)))), fun w s => ?_⟩
        rw [conv8_64, hr, hq, show (8 * (j : Int)).toNat = 8 * j from by omega, shl64 _ _ (by omega), add64, wpart_add, show 0 + 1 + (i : Int).toNat = i + 1 from by omega] at s
        have e : (fcells (xs.getD 2 0#8) (wl xs (8 * i + j))).set (i + 1) (.int .u64 (wpart xs (4 + 8 * i) (j + 1)).toNat) = fcells (xs.getD 2 0#8) (wl xs (8 * i + j + 1)) := by
          rw [fcells, List.set_cons_succ, wcells_set, wl_set xs i j hi7 hj8]; rfl
        rw [← e]
        exact s
      · obtain rfl : m = 56 := by omega
        refine .seq ((.region (.v (.loadA rfl .whole (fcells_length (wl_length _ _))) (.ef (.call0 rfl rfl fun w s => refPack_ok w _ _ (wl_length xs 56)) ?_))))
        rintro _ _ ⟨_, ⟨rfl, rfl⟩, rfl⟩
        refine .nw .alloc fun b6 => (.st (.storeW rfl rfl (by rw [byts_length, packed_length (wl_length _ _)]) (byts_ones _) (by simp)) (.nil ?_))
        refine .seq (.seq (.drawS (by kernel_rfl) (by kernel_rfl) (.v (.slArr rfl) (.v (.bytesStr (xs := packed (xs.getD 2 0#8) (wl xs 56)) rfl (packed_length (wl_length _ _)) .whole) (.v (.move rfl) (.v (.bytesStr (xs := xs) rfl (by omega) (.old (fun j v hv => by rw [add_none]; exact hcell j v hv) (by simp [bl]))) (.v (.neq_string rfl rfl) (.nil ?_)))))))) 
        refine .cond rfl (fun h5 => ?_) (fun h5 => .skip ?_)
        · refine .seq ((.region (.v (.build rfl rfl) (.st (.storeW rfl rfl rfl rfl rfl) (.v (.assign rfl) (.nil ?_))))))
          refine .ret ?_
          exact ⟨[_, _], ⟨⟨_, rfl, .inr ⟨8, _, inferInstance, rfl, rfl, .whole⟩⟩, rfl, trivial⟩, by rw [unpk_sum (by omega) (by omega) hmag (by simpa [strOf_inj] using h5)]; rfl⟩
        · refine .seq ((.region (.v (.loadA rfl .whole (fcells_length (wl_length _ _))) (.st (.storeW rfl rfl (fcells_length (wl_length _ _)) (fcells_ones _ _) (fcells_length rfl)) (.v (.assign rfl) (.nil ?_))))))
          refine .ret ?_
          exact ⟨[_, _], ⟨⟨_, rfl, .inr ⟨8, _, inferInstance, fcells_length (wl_length _ _), rfl, .whole⟩⟩, rfl, trivial⟩, by rw [unpk_ok (by omega) (by omega) hmag (by simpa [strOf_inj] using h5)]; rfl⟩
end Go.Proofs.Ytcgnbdgagkhehaa
