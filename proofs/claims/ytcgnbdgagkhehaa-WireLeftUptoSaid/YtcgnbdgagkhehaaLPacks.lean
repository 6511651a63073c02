/- WirePacks: the walk. -/
import Derived.Test.YtcgnbdgagkhehaaRPack
import Derived.Test.YtcgnbdgagkhehaaVG
namespace Go.Proofs.Ytcgnbdgagkhehaa
open Go.V
set_option linter.unusedVariables false

theorem wf_u64 {n : Int} (h : (Lit.int .u64 n).wf = true) : 0 ≤ n ∧ n ≤ 18446744073709551615 := by
  simpa [Lit.wf, IntKind.min, IntKind.max, IntKind.signed, IntKind.bits] using h
theorem okw_words : ∀ {m : Nat} {cs : List Value}, okw (List.replicate m (.i .u64)) cs → ∃ ws : List (BitVec 64), ws.length = m ∧ cs = wcells ws
  | 0, [], _ => ⟨[], rfl, rfl⟩
  | 0, _ :: _, h => h.elim
  | m + 1, [], h => h.elim
  | m + 1, v :: cs, h => by
    obtain ⟨ws, h1, h2⟩ := okw_words h.2
    have hv := h.1
    cases v <;> simp only [Lf.okw] at hv
    obtain ⟨rfl, hw⟩ := hv
    rename_i n
    have := wf_u64 hw
    refine ⟨BitVec.ofNat 64 n.toNat :: ws, by simp [h1], ?_⟩
    rw [h2]
    simp [wcells]
    omega
/-- a frame that came in -/
theorem okw_frame {cs : List Value} (h : okw [.i .u8, .i .u64, .i .u64, .i .u64, .i .u64, .i .u64, .i .u64, .i .u64] cs) : ∃ k ws, ws.length = 7 ∧ cs = fcells k ws := by
  cases cs with
  | nil => exact h.elim
  | cons v cs =>
    obtain ⟨hv, h⟩ := h
    obtain ⟨ws, h1, h2⟩ := okw_words (m := 7) h
    cases v <;> simp only [Lf.okw] at hv
    obtain ⟨rfl, hw⟩ := hv
    rename_i n
    have := wf_u8 hw
    refine ⟨BitVec.ofNat 8 n.toNat, ws, h1, ?_⟩
    rw [h2, fcells]
    simp
    omega
theorem byts_oks : ∀ (xs : List (BitVec 8)), oks (List.replicate xs.length (.i .u8)) (byts xs)
  | [] => trivial
  | x :: xs => ⟨rfl, byts_oks xs⟩
theorem byts_oks' {xs : List (BitVec 8)} {n : Nat} (h : xs.length = n) : oks (List.replicate n (.i .u8)) (byts xs) := h ▸ byts_oks xs
theorem byts_eq {xs ys : List (BitVec 8)} {n : Nat} (h : xs.length = n) (h2 : ys.length = n) : cellsEq (byts xs) (byts ys) = decide (xs = ys) := by
  rw [Bool.eq_iff_iff, cellsEq_iff (byts_oks' h) (byts_oks' h2), byts_inj]; simp

theorem WirePacks_ok (w : World) (k : BitVec 8) (ws : List (BitVec 64)) (hw : ws.length = 7) :
    Does Try.prog 4 [.agg ⟨fcells k ws⟩] [] w (fun v hs => v = .bool true ∧ hs = []) := by
  refine Does.pure (Does.of (n := 8) Try.func4 rfl rfl rfl rfl ?_)
  refine .seq ((.region (.nw (.box rfl rfl) fun b1 => (.v (.assign rfl) (.nil ?_)))))
  refine .seq (.draw [(b1, .cells (fcells k ws) 31)] (fun _ h => h) (by kernel_rfl) ?_)
  refine .v 0 rfl (by kernel_rfl) (fun hs' f => .loadA rfl (.whole (hb := .sub f)) (fcells_length hw)) ?_
  refine .v 2 rfl (by kernel_rfl) (fun hs' f => .loadA rfl (.whole (hb := .sub f)) (fcells_length hw)) ?_
  refine .ef 1 rfl (by kernel_rfl) (.call0 rfl rfl fun w s => Pack_ok w k ws hw) ?_ (fun v hs' ⟨h, _, e⟩ f => by subst e; exact fun x hx => List.mem_append_right _ hx)
  rintro _ _ ⟨_, ⟨rfl, rfl⟩, rfl⟩
  refine .ef 3 rfl (by kernel_rfl) (.call0 rfl rfl fun w s => refPack_ok w k ws hw) ?_ (fun v hs' ⟨h, _, e⟩ f => by subst e; exact fun x hx => List.mem_append_right _ hx)
  rintro _ _ ⟨_, ⟨rfl, rfl⟩, rfl⟩
  refine .v 4 rfl (by kernel_rfl) (fun hs' f => .eqA rfl rfl (byts_oks' (packed_length hw)) (byts_oks' (packed_length hw))) ?_
  refine .v 5 rfl (by kernel_rfl) (fun hs' f => .assign rfl) ?_
  refine .done (by kernel_rfl) ?_
  refine .ret ?_
  exact ⟨[_], ⟨rfl, trivial⟩, by simp [tup, byts_eq (packed_length hw) (packed_length hw)]⟩
theorem WirePacks_walk (w : World) (cs : List Value) (h : okw [.i .u8, .i .u64, .i .u64, .i .u64, .i .u64, .i .u64, .i .u64, .i .u64] cs) :
    Does Try.prog 4 [.agg ⟨cs⟩] [] w (fun v hs => v = .bool true ∧ hs = []) := by
  obtain ⟨k, ws, hw, rfl⟩ := okw_frame h
  exact WirePacks_ok w k ws hw
end Go.Proofs.Ytcgnbdgagkhehaa
